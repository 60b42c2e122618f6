/- The data of the planner, and how they lie in memory. -/
import Derived.Test.YtohlmcebphcokaaEng13
set_option linter.unusedSimpArgs false
set_option linter.unusedVariables false
namespace Go.Eng

abbrev I (n : Int) : S := .d (.v (.int .i64 n))
abbrev Bo (b : Bool) : S := .d (.v (.bool b))
abbrev ints (l : List Int) : D := .s 1 (l.map fun n => [D.v (.int .i64 n)])
abbrev bools (l : List Bool) : D := .s 1 (l.map fun n => [D.v (.bool n)])
abbrev rows (l : List (List Int)) : D := .s 1 (l.map fun r => [ints r])
abbrev rowss (l : List (List (List Int))) : D := .s 1 (l.map fun r => [rows r])
abbrev Asg := Int × Int
abbrev asg (a : Asg) : List D := [.v (.int .i64 a.1), .v (.int .i64 a.2)]
abbrev asgs (l : List Asg) : D := .s 2 (l.map asg)
structure MOp where
  pre : List Asg
  post : List Asg
  cost : Int
instance : Inhabited MOp := ⟨⟨[], [], 0⟩⟩
structure Multi where
  sizes : List Int
  init : List Int
  goal : List Asg
  ops : List MOp
abbrev opC (o : MOp) : List D := [asgs o.pre, asgs o.post, .v (.int .i64 o.cost)]
abbrev opsD (l : List MOp) : D := .s 3 (l.map opC)
abbrev multi (m : Multi) : S := .g [.d (ints m.sizes), .d (ints m.init), .d (asgs m.goal), .d (opsD m.ops)]
abbrev asgS (a : Asg) : S := .g [I a.1, I a.2]
abbrev opS' (o : MOp) : S := .g [.d (asgs o.pre), .d (asgs o.post), I o.cost]
abbrev flt (f : Int × Int) : S := .g [I f.1, I f.2]

section
variable {P : Program} {B : Nat} {o : Oper} {e : Env} {M : Mem} {s : S}
theorem OpSem.eqS2 {t u : Nat} {x y : Operand} {a b c d : Int} (ho : o.op = .binOp .eql t x y u) (hx : opS e x = some (.g [I a, I b])) (hy : opS e y = some (.g [I c, I d])) (ht : intsOf P t 2 = true) :
    OpSem P B o e M (Bo (decide (a = c ∧ b = d))) none := by
  have h := OpSem.eqS (P := P) (B := B) (o := o) (e := e) (M := M) (xs := [a, b]) (ys := [c, d]) ho hx hy ht rfl rfl
  have : ([a, b] == [c, d]) = decide (a = c ∧ b = d) := by rw [Bool.eq_iff_iff]; simp
  rwa [this] at h
theorem OpSem.neS2 {t u : Nat} {x y : Operand} {a b c d : Int} (ho : o.op = .binOp .neq t x y u) (hx : opS e x = some (.g [I a, I b])) (hy : opS e y = some (.g [I c, I d])) (ht : intsOf P t 2 = true) :
    OpSem P B o e M (Bo (!decide (a = c ∧ b = d))) none := by
  have h := OpSem.neS (P := P) (B := B) (o := o) (e := e) (M := M) (xs := [a, b]) (ys := [c, d]) ho hx hy ht rfl rfl
  have : ([a, b] == [c, d]) = decide (a = c ∧ b = d) := by rw [Bool.eq_iff_iff]; simp
  rwa [this] at h
theorem OpSem.eqS3 {t u : Nat} {x y : Operand} {a b c a' b' c' : Int} (ho : o.op = .binOp .eql t x y u) (hx : opS e x = some (.g [I a, I b, I c])) (hy : opS e y = some (.g [I a', I b', I c'])) (ht : intsOf P t 3 = true) :
    OpSem P B o e M (Bo (decide (a = a' ∧ b = b' ∧ c = c'))) none := by
  have h := OpSem.eqS (P := P) (B := B) (o := o) (e := e) (M := M) (xs := [a, b, c]) (ys := [a', b', c']) ho hx hy ht rfl rfl
  have : ([a, b, c] == [a', b', c']) = decide (a = a' ∧ b = b' ∧ c = c') := by rw [Bool.eq_iff_iff]; simp
  rwa [this] at h
theorem OpSem.neS3 {t u : Nat} {x y : Operand} {a b c a' b' c' : Int} (ho : o.op = .binOp .neq t x y u) (hx : opS e x = some (.g [I a, I b, I c])) (hy : opS e y = some (.g [I a', I b', I c'])) (ht : intsOf P t 3 = true) :
    OpSem P B o e M (Bo (!decide (a = a' ∧ b = b' ∧ c = c'))) none := by
  have h := OpSem.neS (P := P) (B := B) (o := o) (e := e) (M := M) (xs := [a, b, c]) (ys := [a', b', c']) ho hx hy ht rfl rfl
  have : ([a, b, c] == [a', b', c']) = decide (a = a' ∧ b = b' ∧ c = c') := by rw [Bool.eq_iff_iff]; simp
  rwa [this] at h
end

theorem nth_nat {α : Type} [Inhabited α] (l : List α) (k : Nat) : nth l (k : Int) = l.getD k default := by simp [nth]
theorem nth_mem {α : Type} [Inhabited α] {l : List α} {n : Int} (h0 : 0 ≤ n) (h1 : n < l.length) : nth l n ∈ l := by
  have : n.toNat < l.length := by omega
  simp [nth, this]

theorem all_succ {p : Nat → Prop} {k : Nat} (h : ∀ v, v < k → p v) (hk : p k) : ∀ v, v < k + 1 → p v := by
  intro v hv
  by_cases he : v = k
  · rw [he]; exact hk
  · exact h v (by omega)

theorem Le.bo {b c : Bool} (h : b = c) : Le (Bo b) (Bo c) := h ▸ .refl _
theorem Le.i {b c : Int} (h : b = c) : Le (I b) (I c) := h ▸ .refl _
theorem Le.flt {a b : Int} {f : Int × Int} (h : (a, b) = f) : Le (.g [I a, I b]) (flt f) := h ▸ .refl _

/-- The first number that fails. -/
def firstBad (n : Nat) (p : Nat → Bool) : Option Nat := (List.range n).find? fun i => !p i
theorem firstBad_some {n k : Nat} {p : Nat → Bool} (hk : k < n) (h : ∀ j, j < k → p j = true) (hp : p k = false) : firstBad n p = some k := by
  unfold firstBad
  rw [List.find?_range_eq_some]
  refine ⟨by simp [hp], by simpa using hk, fun j hj => by simp [h j hj]⟩
theorem firstBad_none {n : Nat} {p : Nat → Bool} (h : ∀ j, j < n → p j = true) : firstBad n p = none := by
  unfold firstBad
  rw [List.find?_eq_none]
  intro j hj
  rw [List.mem_range] at hj
  simp [h j hj]

/-- Where a list first has something, or -1. -/
def findI {α : Type} [Inhabited α] (p : α → Bool) (l : List α) : Int :=
  match firstBad l.length (fun i => !p (nth l i)) with
  | some i => i
  | none => -1
theorem findI_some {α : Type} [Inhabited α] {p : α → Bool} {l : List α} {k : Nat} (hk : k < l.length) (h : ∀ j, j < k → p (nth l j) = false) (hp : p (nth l k) = true) : findI p l = k := by
  unfold findI
  rw [firstBad_some hk (fun j hj => by simp [h j hj]) (by simp [hp])]
theorem findI_none {α : Type} [Inhabited α] {p : α → Bool} {l : List α} (h : ∀ j : Nat, j < l.length → p (nth l j) = false) : findI p l = -1 := by
  unfold findI
  rw [firstBad_none (fun j hj => by simp [h j hj])]
theorem nth_eq {α : Type} [Inhabited α] {l : List α} {k : Nat} (hk : k < l.length) : nth l (k : Int) = l[k] := by simp [nth, hk]
theorem any_iff {α : Type} [Inhabited α] {p : α → Bool} {l : List α} : l.any p = true ↔ ∃ k : Nat, k < l.length ∧ p (nth l k) = true := by
  rw [List.any_eq_true]
  constructor
  · rintro ⟨x, hx, hp⟩
    obtain ⟨k, hk, rfl⟩ := List.getElem_of_mem hx
    exact ⟨k, hk, by rw [nth_eq hk]; exact hp⟩
  · rintro ⟨k, hk, hp⟩
    rw [nth_eq hk] at hp
    exact ⟨_, List.getElem_mem hk, hp⟩
theorem findI_any {α : Type} [Inhabited α] {p : α → Bool} {l : List α} : decide (0 ≤ findI p l) = l.any p := by
  rw [Bool.eq_iff_iff, any_iff, decide_eq_true_eq]
  by_cases h : ∃ k : Nat, k < l.length ∧ p (nth l k) = true
  · refine ⟨fun _ => h, fun _ => ?_⟩
    unfold findI
    split
    · omega
    · rename_i hb
      exfalso
      obtain ⟨k, hk, hp⟩ := h
      unfold firstBad at hb
      rw [List.find?_eq_none] at hb
      have := hb k (List.mem_range.2 hk)
      simp [hp] at this
  · refine ⟨fun hh => ?_, fun hh => absurd hh h⟩
    rw [findI_none (fun j hj => by
      cases hp : p (nth l j) with
      | false => rfl
      | true => exact absurd ⟨j, hj, hp⟩ h)] at hh
    omega
theorem findI_range {α : Type} [Inhabited α] (p : α → Bool) (l : List α) : -1 ≤ findI p l := by
  unfold findI
  split <;> omega

/-- What a function value has caught is no memory of the caller's own. -/
def Caught (cs : List S) : Prop := ∀ n, 3 ≤ n → cs.mapM (S.view [] n) = some cs
theorem Caught.app {cs : List S} (h : Caught cs) {l l' : List S} (hl : l.mapM (S.view [] 9) = some l') : ([] ++ l ++ cs).mapM (S.view [] 9) = some (l' ++ cs) := by
  simp only [List.nil_append, List.mapM_append, hl, h 9 (by omega)]
  rfl
theorem Caught.arg {cs : List S} (h : Caught cs) {x : S} {fn : Nat} (hx : S.view [] 9 x = some x) : ([] ++ [x, .f fn [] cs] ++ []).mapM (S.view [] 9) = some [x, .f fn [] cs] := by
  have : S.view [] 9 (.f fn [] cs) = some (.f fn [] cs) := by
    have h8 := h 8 (by omega)
    show (match (List.mapM (S.view [] 8) [] : Option (List S)), cs.mapM (S.view [] 8) with
      | some a, some b => some (S.f fn a b)
      | _, _ => none) = _
    rw [h8]
    rfl
  simp only [List.nil_append, List.append_nil, List.mapM_cons, List.mapM_nil, hx, this]
  rfl

/-- l is a state of the task with these sizes. -/
abbrev StateP (sizes s : List Int) : Prop := s.length = sizes.length ∧ ∀ v : Nat, v < s.length → 0 ≤ nth s v ∧ nth s v < nth sizes v
abbrev AsgOk (sizes : List Int) (l : List Asg) (i : Nat) : Prop :=
  0 ≤ (nth l i).1 ∧ (nth l i).1 < sizes.length ∧ 0 ≤ (nth l i).2 ∧ (nth l i).2 < nth sizes (nth l i).1 ∧ (0 < i → (nth l (i - 1 : Int)).1 < (nth l i).1)
abbrev AsgsP (sizes : List Int) (l : List Asg) : Prop := ∀ i : Nat, i < l.length → AsgOk sizes l i
def isState (sizes s : List Int) : Bool := decide (StateP sizes s)
def assigns (sizes : List Int) (l : List Asg) : Bool := decide (AsgsP sizes l)
def opFault (m : Multi) (i : Nat) : Int × Int :=
  if ¬ (assigns m.sizes (nth m.ops i).pre = true ∧ assigns m.sizes (nth m.ops i).post = true) then (5, i)
  else if ¬ (0 ≤ (nth m.ops i).cost ∧ (nth m.ops i).cost ≤ 100) then (3, i) else (0, 0)
def opsFault (m : Multi) : Int × Int :=
  match firstBad m.ops.length (fun i => decide (opFault m i = (0, 0))) with
  | some i => opFault m i
  | none => (0, 0)
def validate (m : Multi) : Int × Int :=
  if m.sizes.length = 0 ∨ 8 < m.sizes.length then (2, -1)
  else if ¬ (∀ v : Nat, v < m.sizes.length → 1 ≤ nth m.sizes v ∧ nth m.sizes v ≤ 6) then (3, -1)
  else if isState m.sizes m.init = false then (5, -2)
  else if assigns m.sizes m.goal = false then (5, -3)
  else if 40 < m.ops.length then (2, -1)
  else opsFault m

theorem isState_false {sizes s : List Int} (h : ¬ StateP sizes s) : false = isState sizes s := (decide_eq_false h).symm
theorem isState_true {sizes s : List Int} (h : StateP sizes s) : true = isState sizes s := (decide_eq_true h).symm
theorem assigns_false {sizes : List Int} {l : List Asg} (k : Nat) (hk : k < l.length) (h : ¬ AsgOk sizes l k) : false = assigns sizes l :=
  (decide_eq_false (fun h' => h (h' k hk))).symm
theorem assigns_true {sizes : List Int} {l : List Asg} (h : AsgsP sizes l) : true = assigns sizes l := (decide_eq_true h).symm
/-- The sizes are in range. -/
abbrev SizesP (sizes : List Int) : Prop := ∀ v : Nat, v < sizes.length → 1 ≤ nth sizes v ∧ nth sizes v ≤ 6
theorem nth_size {sizes : List Int} (h : SizesP sizes) {n : Int} (h0 : 0 ≤ n) (h1 : n < sizes.length) : 1 ≤ nth sizes n ∧ nth sizes n ≤ 6 := by
  have := h n.toNat (by omega)
  rwa [Int.toNat_of_nonneg h0] at this
theorem sizes_any {sizes : List Int} (h : sizes.any (fun n => decide (n < 1 ∨ 6 < n)) = false) : SizesP sizes := by
  intro v hv
  have : ¬ (∃ k : Nat, k < sizes.length ∧ decide (nth sizes k < 1 ∨ 6 < nth sizes k) = true) := fun hh => by have := (any_iff (l := sizes) (p := fun n => decide (n < 1 ∨ 6 < n))).2 hh; rw [h] at this; cases this
  have := fun hh => this ⟨v, hv, hh⟩
  simp at this
  omega
theorem sizes_any' {sizes : List Int} (h : sizes.any (fun n => decide (n < 1 ∨ 6 < n)) = true) : ¬ SizesP sizes := by
  intro hs
  obtain ⟨k, hk, hp⟩ := any_iff.1 h
  have := hs k hk
  simp at hp
  omega
section
variable {m : Multi} (h1 : ¬ (m.sizes.length = 0 ∨ 8 < m.sizes.length)) (h2 : SizesP m.sizes) (h3 : isState m.sizes m.init = true) (h4 : assigns m.sizes m.goal = true) (h5 : ¬ 40 < m.ops.length)
theorem validate_1 {m : Multi} (h : m.sizes.length = 0 ∨ 8 < m.sizes.length) : (2, -1) = validate m := by unfold validate; rw [if_pos h]
include h1
theorem validate_2 (h : ¬ SizesP m.sizes) : (3, -1) = validate m := by unfold validate; rw [if_neg h1, if_pos (by exact h)]
include h2
theorem validate_3 (h : isState m.sizes m.init = false) : (5, -2) = validate m := by unfold validate; rw [if_neg h1, if_neg (by simpa using h2), if_pos h]
include h3
theorem validate_4 (h : assigns m.sizes m.goal = false) : (5, -3) = validate m := by unfold validate; rw [if_neg h1, if_neg (by simpa using h2), if_neg (by simp [h3]), if_pos h]
include h4
theorem validate_5 (h : 40 < m.ops.length) : (2, -1) = validate m := by unfold validate; rw [if_neg h1, if_neg (by simpa using h2), if_neg (by simp [h3]), if_neg (by simp [h4]), if_pos h]
include h5
theorem validate_6 : validate m = opsFault m := by unfold validate; rw [if_neg h1, if_neg (by simpa using h2), if_neg (by simp [h3]), if_neg (by simp [h4]), if_neg h5]
theorem validate_7 {k : Nat} (hk : k < m.ops.length) (hl : ∀ j : Nat, j < k → opFault m j = (0, 0)) {c : Int} (hc : opFault m k = (c, (k : Int))) (hc0 : c ≠ 0) : (c, (k : Int)) = validate m := by
  rw [validate_6 h1 h2 h3 h4 h5]
  unfold opsFault
  rw [firstBad_some hk (fun j hj => by simp [hl j hj]) (by rw [hc]; simp; intro h; exact absurd h hc0)]
  exact hc.symm
theorem validate_8 (hl : ∀ j : Nat, j < m.ops.length → opFault m j = (0, 0)) : (0, 0) = validate m := by
  rw [validate_6 h1 h2 h3 h4 h5]
  unfold opsFault
  rw [firstBad_none (fun j hj => by simp [hl j hj])]
end
theorem opFault_5 {m : Multi} {k : Nat} (h : ¬ (assigns m.sizes (nth m.ops k).pre = true ∧ assigns m.sizes (nth m.ops k).post = true)) : opFault m k = (5, (k : Int)) := by unfold opFault; rw [if_pos h]
theorem opFault_3 {m : Multi} {k : Nat} (h : assigns m.sizes (nth m.ops k).pre = true ∧ assigns m.sizes (nth m.ops k).post = true) (h' : ¬ (0 ≤ (nth m.ops k).cost ∧ (nth m.ops k).cost ≤ 100)) : opFault m k = (3, (k : Int)) := by unfold opFault; rw [if_neg (by simpa using h), if_pos h']
theorem opFault_0 {m : Multi} {k : Nat} (h : assigns m.sizes (nth m.ops k).pre = true ∧ assigns m.sizes (nth m.ops k).post = true) (h' : 0 ≤ (nth m.ops k).cost ∧ (nth m.ops k).cost ≤ 100) : opFault m k = (0, 0) := by unfold opFault; rw [if_neg (by simpa using h), if_neg (by simpa using h')]
/-- The fault of a task and a state. -/
def stateFault (m : Multi) (s : List Int) : Int × Int := if validate m = (0, 0) then (if isState m.sizes s = true then (0, 0) else (5, -4)) else validate m
theorem pair0 {f : Int × Int} (h : f.1 = 0 ∧ f.2 = 0) : f = (0, 0) := Prod.ext h.1 h.2
theorem stateFault_1 {m : Multi} {s : List Int} (h : ¬ ((validate m).1 = 0 ∧ (validate m).2 = 0)) : ((validate m).1, (validate m).2) = stateFault m s := by
  unfold stateFault
  rw [if_neg (fun e => h (by rw [e]; exact ⟨rfl, rfl⟩))]
theorem stateFault_2 {m : Multi} {s : List Int} (h : (validate m).1 = 0 ∧ (validate m).2 = 0) (hs : isState m.sizes s = false) : (5, -4) = stateFault m s := by
  unfold stateFault
  rw [if_pos (pair0 h), if_neg (by simp [hs])]
theorem stateFault_3 {m : Multi} {s : List Int} (h : (validate m).1 = 0 ∧ (validate m).2 = 0) (hs : isState m.sizes s = true) : (0, 0) = stateFault m s := by
  unfold stateFault
  rw [if_pos (pair0 h), if_pos hs]
end Go.Eng
