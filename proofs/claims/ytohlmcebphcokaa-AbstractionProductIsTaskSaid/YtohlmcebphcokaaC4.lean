/- The engine and the walks that this claim uses, part 4. Written by prune.py out of our own texts. -/
import Derived.Test.YtohlmcebphcokaaC3
section
/- Weights of values: what is computed. -/

set_option linter.unusedVariables false
set_option linter.unusedSimpArgs false
namespace Go.Eng

abbrev RowOk (r : List Int) : Prop := ∀ x : Nat, x < r.length → -1000000 ≤ nth r x ∧ nth r x ≤ 1000000
abbrev LensP (sizes : List Int) (w : List (List Int)) : Prop := ∀ v : Nat, v < w.length → ((nth w v).length : Int) = nth sizes v
abbrev RowsP (w : List (List Int)) : Prop := ∀ v : Nat, v < w.length → RowOk (nth w v)
/-- The error code of weights. -/
def wcode (sizes : List Int) (w : List (List Int)) : Int :=
  if w.length ≠ sizes.length then 9 else if ¬ LensP sizes w then 9 else if ¬ RowsP w then 3 else 0
def wfault (sizes : List Int) (w : List (List Int)) (i : Int) : Int × Int := if wcode sizes w = 0 then (0, 0) else (wcode sizes w, i)
def goodTo (w : List (List Int)) (k : Nat) : Bool := decide (∀ v : Nat, v < k → RowOk (nth w v))
def goodIn (w : List (List Int)) (k j : Nat) : Bool := goodTo w k && decide (∀ x : Nat, x < j → -1000000 ≤ nth (nth w k) x ∧ nth (nth w k) x ≤ 1000000)
/-- The greatest of the first k + 1 numbers. -/
def lmaxTo (l : List Int) : Nat → Int
  | 0 => nth l 0
  | k + 1 => max (lmaxTo l k) (nth l (k + 1 : Nat))
def lmax (l : List Int) : Int := lmaxTo l (l.length - 1)
/-- The greatest weight of variable v where some assignments hold. -/
def greatest (w : List (List Int)) (v : Int) (l : List Asg) : Int :=
  match firstBad l.length (fun i => decide ((nth l i).1 ≠ v)) with
  | some i => nth (nth w v) (nth l i).2
  | none => lmax (nth w v)
/-- What a valid task gives. -/
structure Valid (m : Multi) : Prop where
  len : 1 ≤ m.sizes.length ∧ m.sizes.length ≤ 8
  sizes : SizesP m.sizes
  init : StateP m.sizes m.init
  goal : AsgsP m.sizes m.goal
  opsLen : m.ops.length ≤ 40
  op : ∀ i : Nat, i < m.ops.length → AsgsP m.sizes (nth m.ops i).pre ∧ AsgsP m.sizes (nth m.ops i).post ∧ 0 ≤ (nth m.ops i).cost ∧ (nth m.ops i).cost ≤ 100
theorem assigns_iff {sizes : List Int} {l : List Asg} : assigns sizes l = true ↔ AsgsP sizes l := by simp only [assigns, decide_eq_true_eq]
theorem isState_iff {sizes s : List Int} : isState sizes s = true ↔ StateP sizes s := by simp only [isState, decide_eq_true_eq]
theorem valid_of {m : Multi} (h : validate m = (0, 0)) : Valid m := by
  by_cases h1 : m.sizes.length = 0 ∨ 8 < m.sizes.length
  · rw [← validate_1 h1] at h; cases h
  by_cases h2 : SizesP m.sizes
  · cases h3 : isState m.sizes m.init with
    | false => rw [← validate_3 h1 h2 h3] at h; cases h
    | true =>
      cases h4 : assigns m.sizes m.goal with
      | false => rw [← validate_4 h1 h2 h3 h4] at h; cases h
      | true =>
        by_cases h5 : 40 < m.ops.length
        · rw [← validate_5 h1 h2 h3 h4 h5] at h; cases h
        · rw [validate_6 h1 h2 h3 h4 h5] at h
          have hall : ∀ i, i < m.ops.length → opFault m i = (0, 0) := by
            intro i hi
            unfold opsFault at h
            cases hf : firstBad m.ops.length (fun i => decide (opFault m i = (0, 0))) with
            | some j =>
              rw [hf] at h
              unfold firstBad at hf
              have := List.find?_some hf
              simp [h] at this
            | none =>
              unfold firstBad at hf
              rw [List.find?_eq_none] at hf
              have := hf i (List.mem_range.2 hi)
              simpa using this
          refine ⟨by omega, h2, isState_iff.1 h3, assigns_iff.1 h4, by omega, fun i hi => ?_⟩
          have := hall i hi
          unfold opFault at this
          split at this
          · cases this
          · rename_i ha
            split at this
            · cases this
            · rename_i hc
              simp only [Decidable.not_not] at ha hc
              exact ⟨assigns_iff.1 ha.1, assigns_iff.1 ha.2, hc⟩
  · rw [← validate_2 h1 h2] at h; cases h

/-- Increasing variables are at least their places. -/
theorem asgs_ge {sizes : List Int} {l : List Asg} (h : AsgsP sizes l) : ∀ i : Nat, i < l.length → (i : Int) ≤ (nth l i).1
  | 0, hi => by simpa using (h 0 hi).1
  | i + 1, hi => by
    have ih := asgs_ge h i (by omega)
    have := (h (i + 1) hi).2.2.2.2 (by omega)
    have e : ((i + 1 : Nat) : Int) - 1 = (i : Int) := by omega
    rw [e] at this
    omega
theorem asgs_len {sizes : List Int} {l : List Asg} (h : AsgsP sizes l) : l.length ≤ sizes.length := by
  by_cases hl : l.length = 0
  · omega
  · have := asgs_ge h (l.length - 1) (by omega)
    have := (h (l.length - 1) (by omega)).2.1
    omega
/-- Fitting weights. -/
structure WOk (sizes : List Int) (w : List (List Int)) : Prop where
  len : w.length = sizes.length
  lens : LensP sizes w
  rows : RowsP w
theorem WOk.row {sizes : List Int} {w : List (List Int)} (h : WOk sizes w) {v x : Int} (h0 : 0 ≤ v) (h1 : v < sizes.length) (h2 : 0 ≤ x) (h3 : x < nth sizes v) : x < (nth w v).length ∧ -1000000 ≤ nth (nth w v) x ∧ nth (nth w v) x ≤ 1000000 := by
  have e := h.lens v.toNat (by have := h.len; omega)
  have r := h.rows v.toNat (by have := h.len; omega) x.toNat
  rw [Int.toNat_of_nonneg h0] at e r
  rw [Int.toNat_of_nonneg h2] at r
  exact ⟨by omega, r (by omega)⟩
/-- What is left of an operator's cost behind its first k assignments. -/
def slackTo (w : List (List Int)) (o : MOp) : Nat → Int
  | 0 => o.cost
  | k + 1 => slackTo w o k - (greatest w (nth o.post k).1 o.pre - nth (nth w (nth o.post k).1) (nth o.post k).2)
def slack (w : List (List Int)) (o : MOp) : Int := slackTo w o o.post.length
def goalTo (w : List (List Int)) (l : List Asg) : Nat → Int
  | 0 => 0
  | k + 1 => goalTo w l k + greatest w k l
def goalMax (w : List (List Int)) (l : List Asg) : Int := goalTo w l w.length
/-- The value of a state, up to a variable. -/
def valTo (w : List (List Int)) (s : List Int) : Nat → Int
  | 0 => 0
  | k + 1 => valTo w s k + nth (nth w k) (nth s k)
def val (w : List (List Int)) (s : List Int) : Int := valTo w s s.length
/-- The second fault where there is no first one. -/
def thenF (f g : Int × Int) : Int × Int := if f = (0, 0) then g else f
def valFault (m : Multi) (w : List (List Int)) (s : List Int) : Int × Int := thenF (stateFault m s) (wfault m.sizes w (-8))
def valRes (m : Multi) (w : List (List Int)) (s : List Int) : Int := if valFault m w s = (0, 0) then val w s else 0
/-- Weights are checked behind a fault. -/
def addW (f : Int × Int) (sizes : List Int) (w : List (List Int)) (i : Int) : Int × Int := if f.1 = 0 ∧ wcode sizes w ≠ 0 then (wcode sizes w, i) else f
def potFault (m : Multi) (w : List (List Int)) (i : Int) : Int × Int := if validate m = (0, 0) then wfault m.sizes w i else validate m
def slackRes (m : Multi) (w : List (List Int)) : List Int × Int × (Int × Int) :=
  if potFault m w (-8) = (0, 0) then (m.ops.map (slack w), goalMax w m.goal, (0, 0)) else ([], 0, potFault m w (-8))
def adm (m : Multi) (w : List (List Int)) : Bool := decide ((slackRes m w).2.2 = (0, 0)) && (decide ((slackRes m w).2.1 ≤ 0) && !((slackRes m w).1.any fun n => decide (n < 0)))
end Go.Eng
end

section
/- Walks, written by gen.py out of hints. -/



set_option linter.unusedVariables false
set_option linter.unusedSimpArgs false
namespace Go.Proofs.Ytohlmcebphcokaa
open Go.Eng
set_option maxRecDepth 10000
set_option maxHeartbeats 1000000



end Go.Proofs.Ytohlmcebphcokaa
end

section
/- Plain functions behind potential's laws: the faults of a list of weights, the best of them, the worked example. Plain functions: a state behind an operator. Plain laws of potential's functions: an operator lowers the value by no more than its cost less its slack. -/

set_option linter.unusedVariables false
set_option linter.unusedSimpArgs false
namespace Go.Eng
open Go

theorem validate_code {m : Multi} (h : (validate m).1 = 0) : validate m = (0, 0) := by
  unfold validate at h ⊢
  split
  · rename_i h1; rw [if_pos h1] at h; cases h
  rename_i h1; rw [if_neg h1] at h
  split
  · rename_i h2; rw [if_pos h2] at h; cases h
  rename_i h2; rw [if_neg h2] at h
  split
  · rename_i h3; rw [if_pos h3] at h; cases h
  rename_i h3; rw [if_neg h3] at h
  split
  · rename_i h4; rw [if_pos h4] at h; cases h
  rename_i h4; rw [if_neg h4] at h
  split
  · rename_i h5; rw [if_pos h5] at h; cases h
  rename_i h5; rw [if_neg h5] at h
  unfold opsFault at h ⊢
  split
  · rename_i i hi
    rw [hi] at h
    simp only at h
    unfold opFault at h ⊢
    split
    · rename_i h6; rw [if_pos h6] at h; cases h
    rename_i h6; rw [if_neg h6] at h
    split
    · rename_i h7; rw [if_pos h7] at h; cases h
    rfl
  · rfl
/-- The first fault of a list of weights, behind a fault. -/
def addTo (g : Int × Int) (sizes : List Int) (l : List (List (List Int))) : Nat → Int × Int
  | 0 => g
  | k + 1 => addW (addTo g sizes l k) sizes (nth l k) k
def baseF (m : Multi) (l : List (List (List Int))) (s : List Int) : Int × Int :=
  if (stateFault m s).1 = 0 ∧ ¬ (1 ≤ l.length ∧ l.length ≤ 6) then (9, -9) else stateFault m s
def bestF (m : Multi) (l : List (List (List Int))) (s : List Int) : Int × Int := addTo (baseF m l s) m.sizes l l.length
/-- The first of the greatest. -/
def bestTo (f : Nat → Int) : Nat → Nat
  | 0 => 0
  | k + 1 => if f (bestTo f k) < f k then k else bestTo f k
abbrev valL (l : List (List (List Int))) (s : List Int) (i : Nat) : Int := val (nth l i) s
def bestI (l : List (List (List Int))) (s : List Int) : Nat := bestTo (valL l s) l.length
def bestRes (m : Multi) (l : List (List (List Int))) (s : List Int) : Int × Int × (Int × Int) :=
  if bestF m l s = (0, 0) then ((bestI l s : Int), val (nth l (bestI l s)) s, (0, 0)) else (0, 0, bestF m l s)
theorem ext_nth {α : Type} [Inhabited α] {a b : List α} (hl : a.length = b.length) (h : ∀ i : Nat, i < a.length → nth a i = nth b i) : a = b := by
  apply List.ext_getElem hl
  intro i h1 h2
  have := h i h1
  rwa [nth_eq h1, nth_eq h2] at this
def lampsM : Multi := ⟨[2, 2], [0, 0], [(0, 1), (1, 1)], [⟨[], [(0, 1)], 2⟩, ⟨[], [(1, 1)], 3⟩]⟩
def exW : List (List Int) := [[2, 0], [3, 0]]
/-- The slot holds what is less said. -/
theorem TrOps.weak {P : Program} {N : Nat} {w0 : World} {O0 : Nat → Nat} {ops : Array Oper} {Q : Post} {e : Env} {M : Mem} {rest : List Oper} {s s' : S} (n : Nat) (hn : look e n = some s) (hl : Le s s') (h : TrOps P N w0 O0 ops Q ((n, s') :: e) M rest) : TrOps P N w0 O0 ops Q e M rest := by
  intro O H a w hst
  refine h O H a w ⟨hst.df, hst.sz, hst.bl, hst.lab, fun k t hk => ?_, hst.mem⟩
  rcases look_cons hk with ⟨rfl, rfl⟩ | ⟨_, hk⟩
  · obtain ⟨x, hx, hr⟩ := hst.slots _ _ hn
    exact ⟨x, hx, hl _ _ _ _ hr⟩
  · exact hst.slots k t hk
theorem Tr.weak {P : Program} {N : Nat} {w0 : World} {O0 : Nat → Nat} {Q : Post} {e : Env} {M : Mem} {c : Code} {s s' : S} (n : Nat) (hn : look e n = some s) (hl : Le s s') (h : Tr P N w0 O0 ((n, s') :: e) M c Q) : Tr P N w0 O0 e M c Q := by
  intro O H a w hst
  refine h O H a w ⟨hst.df, hst.sz, hst.bl, hst.lab, fun k t hk => ?_, hst.mem⟩
  rcases look_cons hk with ⟨rfl, rfl⟩ | ⟨_, hk⟩
  · obtain ⟨x, hx, hr⟩ := hst.slots _ _ hn
    exact ⟨x, hx, hl _ _ _ _ hr⟩
  · exact hst.slots k t hk
end Go.Eng

set_option linter.unusedVariables false
set_option linter.unusedSimpArgs false
namespace Go.Eng
open Go

theorem rows_get {α : Type} [Inhabited α] {l : List α} {f : α → List D} {n : Int} (h0 : 0 ≤ n) (h1 : n < l.length) : (l.map f)[n.toNat]? = some (f (nth l n)) := by
  have hk : n.toNat < l.length := by omega
  simp only [List.getElem?_map, List.getElem?_eq_getElem hk, Option.map_some]
  rw [← nth_eq hk, Int.toNat_of_nonneg h0]
/-- A list with one place set. -/
def setI {α : Type} (l : List α) (i : Int) (v : α) : List α := l.set i.toNat v
theorem rows_set {α : Type} {l : List α} {f : α → List D} {i : Nat} {v : α} : (l.map f).set i (f v) = (l.set i v).map f := by rw [List.map_set]
theorem setI_len {α : Type} {l : List α} {i : Int} {v : α} : (setI l i v).length = l.length := by simp [setI]
theorem nth_setI {α : Type} [Inhabited α] {l : List α} {i : Int} {v : α} {n : Int} (h0 : 0 ≤ n) (h1 : n < l.length) (hi : 0 ≤ i) : nth (setI l i v) n = if n = i then v else nth l n := by
  have e1 : nth (setI l i v) n = nth (setI l i v) (n.toNat : Int) := by rw [Int.toNat_of_nonneg h0]
  have e2 : nth l n = nth l (n.toNat : Int) := by rw [Int.toNat_of_nonneg h0]
  rw [e1, e2, nth_eq (by rw [setI_len]; omega), nth_eq (by omega)]
  simp only [setI, List.getElem_set]
  by_cases h : n = i
  · rw [if_pos (by rw [h]), if_pos h]
  · rw [if_neg (by omega), if_neg h]
/-- The state behind the first k assignments. -/
def nextTo (s : List Int) (l : List Asg) : Nat → List Int
  | 0 => s
  | k + 1 => setI (nextTo s l k) (nth l k).1 (nth l k).2
theorem nextTo_len {s : List Int} {l : List Asg} : ∀ {k : Nat}, (nextTo s l k).length = s.length
  | 0 => rfl
  | k + 1 => by simp only [nextTo, setI_len]; exact nextTo_len
def nextS (s : List Int) (l : List Asg) : List Int := nextTo s l l.length
theorem nextTo_in {sizes s : List Int} {l : List Asg} (hs : StateP sizes s) (hl : AsgsP sizes l) : ∀ k : Nat, k ≤ l.length → StateP sizes (nextTo s l k)
  | 0, _ => hs
  | k + 1, hk => by
    have ih := nextTo_in hs hl k (by omega)
    have ha := hl k (by omega)
    refine ⟨by rw [nextTo_len]; exact hs.1, fun v hv => ?_⟩
    rw [nextTo_len] at hv
    have hv' := ih.2 v (by rw [nextTo_len]; exact hv)
    simp only [nextTo]
    rw [nth_setI (by omega) (by rw [nextTo_len]; omega) ha.1]
    split
    · rename_i e; rw [e]; exact ⟨ha.2.2.1, ha.2.2.2.1⟩
    · exact hv'
theorem nextS_in {sizes s : List Int} {l : List Asg} (hs : StateP sizes s) (hl : AsgsP sizes l) : StateP sizes (nextS s l) := nextTo_in hs hl _ (Nat.le_refl _)
/-- All assignments hold in the state. -/
def holds (s : List Int) (l : List Asg) : Bool := !(l.any fun a => !decide (nth s a.1 = a.2))
theorem holds_iff {s : List Int} {l : List Asg} : holds s l = true ↔ ∀ k : Nat, k < l.length → nth s (nth l k).1 = (nth l k).2 := by
  unfold holds
  rw [Bool.not_eq_true', ← Bool.not_eq_true, any_iff]
  constructor
  · intro h k hk
    exact Decidable.byContradiction fun hc => h ⟨k, hk, by simp [hc]⟩
  · rintro h ⟨k, hk, hp⟩
    simp [h k hk] at hp
theorem holds_1 {s : List Int} {l : List Asg} {k : Nat} (hk : k < l.length) (h : nth s (nth l k).1 ≠ (nth l k).2) : false = holds s l := by
  cases hh : holds s l with
  | false => rfl
  | true => exact absurd (holds_iff.1 hh k hk) h
theorem holds_0 {s : List Int} {l : List Asg} (h : ∀ k : Nat, k < l.length → nth s (nth l k).1 = (nth l k).2) : true = holds s l := (holds_iff.2 h).symm
theorem caught_p (l : List D) : Caught [.p l] := by
  intro n hn
  obtain ⟨m, rfl⟩ : ∃ m, n = m + 1 := ⟨n - 1, by omega⟩
  rfl
/-- An operator applied: the fault, and the state behind it. -/
def applyF (m : Multi) (s : List Int) (op : Int) : Int × Int :=
  if stateFault m s = (0, 0) then
    if op < 0 ∨ m.ops.length ≤ op then (3, -6) else if holds s (nth m.ops op).pre = true then (0, 0) else (11, op)
  else stateFault m s
def applyS (m : Multi) (s : List Int) (op : Int) : List Int := if applyF m s op = (0, 0) then nextS s (nth m.ops op).post else []
theorem nth_op {m : Multi} (hv : Valid m) {op : Int} (h0 : 0 ≤ op) (h1 : op < m.ops.length) : AsgsP m.sizes (nth m.ops op).pre ∧ AsgsP m.sizes (nth m.ops op).post ∧ 0 ≤ (nth m.ops op).cost ∧ (nth m.ops op).cost ≤ 100 := by
  have := hv.op op.toNat (by omega)
  rwa [Int.toNat_of_nonneg h0] at this
end Go.Eng

set_option linter.unusedVariables false
set_option linter.unusedSimpArgs false
namespace Go.Eng
open Go

/-- What the first k assignments of a list change. -/
def gain (w : List (List Int)) (s : List Int) (l : List Asg) : Nat → Int
  | 0 => 0
  | k + 1 => gain w s l k + (nth (nth w (nth l k).1) (nth s (nth l k).1) - nth (nth w (nth l k).1) (nth l k).2)
end Go.Eng
end

section
/- Walks, written by gen.py out of hints. -/



set_option linter.unusedVariables false
set_option linter.unusedSimpArgs false
namespace Go.Proofs.Ytohlmcebphcokaa
open Go.Eng
set_option maxRecDepth 10000
set_option maxHeartbeats 1000000

theorem law_lamps_does  : Does Try.prog false 60 [] (multi lampsM) := by
  refine Does.of_body Try.func60 rfl rfl (by simp) Try.call60 (fun w0 O0 => ?_)
  refine Tr.seq ?_
  refine Tr.region ?_
  refine TrOps.semM (OpSem.alloc 0 rfl zc26 rfl) rfl rfl (by decide) ?_
  refine TrOps.nil ?_
  refine At.seq ?_
  refine Tr.seq ?_
  refine Tr.region ?_
  refine TrOps.sem (OpSem.build rfl rfl pl90 zc90 rfl rfl) rfl rfl (by decide) ?_
  refine TrOps.sem (OpSem.build rfl rfl pl90 zc90 rfl rfl) rfl rfl (by decide) ?_
  refine TrOps.semM (OpSem.alloc 1 rfl zc90 rfl) rfl rfl (by decide) ?_
  refine TrOps.semM (OpSem.alloc 2 rfl zc90 rfl) rfl rfl (by decide) ?_
  refine TrOps.storeb rfl rfl rfl rfl rfl rfl rfl vs90 (by first | decide | simp) ?_
  refine TrOps.storeb rfl rfl rfl rfl rfl rfl rfl vs90 (by first | decide | simp) ?_
  refine TrOps.nil ?_
  refine At.seq ?_
  refine Tr.seq ?_
  refine Tr.region ?_
  refine TrOps.sem (OpSem.buildSlice rfl rfl es22 ze22 rfl rfl (by decide) (by decide) rfl rfl) rfl rfl (by decide) ?_
  refine TrOps.sem (OpSem.buildSlice rfl rfl es22 ze22 rfl rfl (by decide) (by decide) rfl rfl) rfl rfl (by decide) ?_
  refine TrOps.sem (OpSem.loadbN rfl rfl rfl vs90 (by first | decide | simp)) rfl rfl (by decide) ?_
  refine TrOps.sem (OpSem.loadbN rfl rfl rfl vs90 (by first | decide | simp)) rfl rfl (by decide) ?_
  refine TrOps.sem (OpSem.buildSlice rfl rfl es23 ze23 rfl rfl (by decide) (by decide) rfl rfl) rfl rfl (by decide) ?_
  refine TrOps.sem (OpSem.loadbN rfl rfl rfl vs90 (by first | decide | simp)) rfl rfl (by decide) ?_
  refine TrOps.sem (OpSem.buildSlice rfl rfl es23 ze23 rfl rfl (by decide) (by decide) rfl rfl) rfl rfl (by decide) ?_
  refine TrOps.sem (OpSem.le (s' := opS' ⟨[], [(0, 1)], 2⟩) (OpSem.build rfl rfl pl81 zc81 rfl rfl) (Le.g (.cons (Le.nil 2) <| .cons (.refl _) <| .cons (.refl _) .nil))) rfl rfl (by decide) ?_
  refine TrOps.sem (OpSem.loadbN rfl rfl rfl vs90 (by first | decide | simp)) rfl rfl (by decide) ?_
  refine TrOps.sem (OpSem.buildSlice rfl rfl es23 ze23 rfl rfl (by decide) (by decide) rfl rfl) rfl rfl (by decide) ?_
  refine TrOps.sem (OpSem.le (s' := opS' ⟨[], [(1, 1)], 3⟩) (OpSem.build rfl rfl pl81 zc81 rfl rfl) (Le.g (.cons (Le.nil 2) <| .cons (.refl _) <| .cons (.refl _) .nil))) rfl rfl (by decide) ?_
  refine TrOps.sem (OpSem.buildSlice rfl rfl es24 ze24 rfl rfl (by decide) (by decide) rfl rfl) rfl rfl (by decide) ?_
  refine TrOps.sem (OpSem.build rfl rfl pl26 zc26 rfl rfl) rfl rfl (by decide) ?_
  refine TrOps.storeb rfl rfl rfl rfl rfl rfl rfl vs26 (by first | decide | simp) ?_
  refine TrOps.nil ?_
  refine At.seq ?_
  refine Tr.ret ?_
  exact At.ret rfl (.cellN rfl rfl vs26 <| .nil) rfl (.refl _)

theorem R_Ints_does (a b : List Int) : Does Try.prog false 32 [.d (ints a), .d (ints b)] (Bo (decide (a = b))) := by
  refine Does.of_body Try.func32 rfl rfl (by simp) Try.call32 (fun w0 O0 => ?_)
  refine Tr.lenLe (n := 0) rfl (fun len0 => ?_)
  refine Tr.lenLe (n := 1) rfl (fun len1 => ?_)
  refine Tr.seq ?_
  refine Tr.region ?_
  refine TrOps.sem (OpSem.move (.inr rfl) rfl) rfl rfl (by decide) ?_
  refine TrOps.nil ?_
  refine At.seq ?_
  refine Tr.seq ?_
  refine Tr.seq ?_
  refine Tr.region ?_
  refine TrOps.sem (OpSem.move (.inl rfl) rfl) rfl rfl (by decide) ?_
  refine TrOps.sem (OpSem.lenL rfl rfl es22) rfl rfl (by decide) ?_
  refine TrOps.sem (OpSem.move (.inl rfl) rfl) rfl rfl (by decide) ?_
  refine TrOps.sem (OpSem.lenL rfl rfl es22) rfl rfl (by decide) ?_
  refine TrOps.sem (OpSem.bin rfl rfl rfl bneq) rfl rfl (by decide) ?_
  refine TrOps.nil ?_
  refine At.seq ?_
  refine Tr.cond rfl (fun c10 => ?_) (fun c10 => ?_)
  · have hl : a.length ≠ b.length := by simp at c10; omega
    refine Tr.seq ?_
    refine Tr.region ?_
    refine TrOps.sem (OpSem.move (.inr rfl) rfl) rfl rfl (by decide) ?_
    refine TrOps.nil ?_
    refine At.seq ?_
    refine Tr.ret ?_
    refine At.pass_ret ?_
    exact At.ret rfl (.tmp rfl <| .nil) rfl (Le.bo (by simp; intro e; exact hl (by rw [e])))
  · have hl : a.length = b.length := by simp at c10; omega
    refine Tr.skip ?_
    refine At.seq ?_
    refine Tr.seq ?_
    refine Tr.seq ?_
    refine Tr.region ?_
    refine TrOps.sem (OpSem.move (.inr rfl) rfl) rfl rfl (by decide) ?_
    refine TrOps.nil ?_
    refine At.seq ?_
    refine Tr.block ?_
    refine Tr.loop (X := Nat) (fun k => k ≤ a.length ∧ ∀ i : Nat, i < k → nth a i = nth b i) (fun k => [(0, .d (ints a)), (1, .d (ints b)), (5, I (k))]) (fun k => []) (fun k => a.length - k) 0 ⟨by omega, by simp⟩ ?_ ?_
    · exact .slot rfl (.refl _) <| .slot rfl (.refl _) <| .slot rfl (Le.of_eq (by simp)) <| .nil
    · rintro k ⟨hkl, hinv⟩
      refine Tr.seq ?_
      refine Tr.seq ?_
      refine Tr.region ?_
      refine TrOps.sem (OpSem.move (.inl rfl) rfl) rfl rfl (by decide) ?_
      refine TrOps.sem (OpSem.move (.inl rfl) rfl) rfl rfl (by decide) ?_
      refine TrOps.sem (OpSem.lenL rfl rfl es22) rfl rfl (by decide) ?_
      refine TrOps.sem (OpSem.bin rfl rfl rfl blss) rfl rfl (by decide) ?_
      refine TrOps.nil ?_
      refine At.seq ?_
      refine Tr.cond rfl (fun c14 => ?_) (fun c14 => ?_)
      · have hk : k < a.length := by simpa using c14
        refine Tr.skip ?_
        refine At.seq ?_
        refine Tr.seq ?_
        refine Tr.block ?_
        refine Tr.seq ?_
        refine PC.start [] ?_
        refine PC.sem (OpSem.move (.inl rfl) rfl) rfl rfl ?_
        refine PC.sem (OpSem.move (.inl rfl) rfl) rfl rfl ?_
        refine PC.sem (OpSem.idxL rfl rfl rfl es22 (by omega) (by omega)) rfl rfl ?_
        refine PC.sem (OpSem.load1 rfl rfl vs3 rfl) rfl rfl ?_
        refine PC.sem (OpSem.move (.inl rfl) rfl) rfl rfl ?_
        refine PC.sem (OpSem.move (.inl rfl) rfl) rfl rfl ?_
        refine PC.sem (OpSem.idxL rfl rfl rfl es22 (by omega) (by omega)) rfl rfl ?_
        refine PC.sem (OpSem.load1 rfl rfl vs3 rfl) rfl rfl ?_
        refine PC.done0 mixed (by kernel_rfl) (by kernel_rfl) (by kernel_rfl) (by kernel_rfl) (by kernel_rfl) ?_
        refine TrOps.sem (OpSem.bin rfl rfl rfl bneq) rfl rfl (by decide) ?_
        refine TrOps.nil ?_
        refine At.seq ?_
        refine Tr.cond rfl (fun c25 => ?_) (fun c25 => ?_)
        · refine Tr.seq ?_
          refine Tr.region ?_
          refine TrOps.sem (OpSem.move (.inr rfl) rfl) rfl rfl (by decide) ?_
          refine TrOps.nil ?_
          refine At.seq ?_
          refine Tr.ret ?_
          refine At.block_ret ?_
          refine At.pass_ret ?_
          refine At.pass_ret ?_
          refine At.block_ret ?_
          refine At.pass_ret ?_
          exact At.ret rfl (.tmp rfl <| .nil) rfl (Le.bo (by simp; intro e; simp [e] at c25))
        · have hb : nth a k = nth b k := by simpa using c25
          refine Tr.skip ?_
          refine At.block_normal ?_
          refine At.seq ?_
          refine Tr.region ?_
          refine TrOps.sem (OpSem.move (.inl rfl) rfl) rfl rfl (by decide) ?_
          refine TrOps.sem (OpSem.bin rfl rfl rfl (badd (by omega) (by omega))) rfl rfl (by decide) ?_
          refine TrOps.sem (OpSem.move (.inr rfl) rfl) rfl rfl (by decide) ?_
          refine TrOps.nil ?_
          refine At.again (k + 1) ⟨by omega, all_succ hinv hb⟩ ?_ (by omega)
          exact .slot rfl (.refl _) <| .slot rfl (.refl _) <| .slot rfl (Le.of_eq (by simp)) <| .nil
      · have hk : k = a.length := by simp at c14; omega
        refine Tr.exit ?_
        refine At.pass_exit ?_
        refine At.pass_exit ?_
        refine At.block_same ?_
        refine At.seq ?_
        refine Tr.seq ?_
        refine Tr.region ?_
        refine TrOps.sem (OpSem.move (.inr rfl) rfl) rfl rfl (by decide) ?_
        refine TrOps.nil ?_
        refine At.seq ?_
        refine Tr.ret ?_
        exact At.ret rfl (.tmp rfl <| .nil) rfl (Le.bo (by simp; subst hk; exact ext_nth hl hinv))

end Go.Proofs.Ytohlmcebphcokaa
end

section
/- Walks, written by gen.py out of hints. -/




set_option linter.unusedVariables false
set_option linter.unusedSimpArgs false
namespace Go.Proofs.Ytohlmcebphcokaa
open Go.Eng
set_option maxRecDepth 10000
set_option maxHeartbeats 1000000

theorem slices_Clone_int_int_does (l : List Int) (hl : l.length ≤ 1000000) : DoesO Try.prog 55 [.d (ints l)] 1 3 ((l.map fun n => [D.v (.int .i64 n)])) := by
  refine DoesO.of_body Try.func55 rfl rfl (by simp) Try.call55 (fun w0 O0 => ?_)
  refine Tr.lenLe (n := 0) rfl (fun len0 => ?_)
  refine Tr.seq ?_
  refine Tr.region ?_
  refine TrOps.sem (OpSem.move (.inr rfl) rfl) rfl rfl (by decide) ?_
  refine TrOps.nil ?_
  refine At.seq ?_
  refine Tr.seq ?_
  refine Tr.seq ?_
  refine Tr.region ?_
  refine TrOps.sem (OpSem.move (.inl rfl) rfl) rfl rfl (by decide) ?_
  refine TrOps.eqNil rfl rfl es22 rfl rfl (by decide) (fun b4 hb4 => ?_)
  refine TrOps.nil ?_
  refine At.seq ?_
  refine Tr.cond rfl (fun c4 => ?_) (fun c4 => ?_)
  · refine Tr.seq ?_
    refine Tr.region ?_
    refine TrOps.sem (OpSem.move (.inr rfl) rfl) rfl rfl (by decide) ?_
    refine TrOps.nil ?_
    refine At.seq ?_
    refine Tr.ret ?_
    refine At.pass_ret ?_
    exact At.retONil rfl rfl (hb4 c4)
  · refine Tr.skip ?_
    refine At.seq ?_
    refine Tr.seq ?_
    refine Tr.region ?_
    refine TrOps.semM (OpSem.buildO 5 rfl es22 (by decide)) rfl rfl (by decide) ?_
    refine TrOps.sem (OpSem.move (.inl rfl) rfl) rfl rfl (by decide) ?_
    refine TrOps.append rfl rfl rfl (by decide) rfl rfl rfl es22 el22 zc3 rfl by3 (by simp [D.one, Value.oneCell']) (by simp [maxLen]; omega) (by simp; omega) ?_
    refine TrOps.sem (OpSem.move (.inr rfl) rfl) rfl rfl (by decide) ?_
    refine TrOps.nil ?_
    refine At.seq ?_
    refine Tr.ret ?_
    exact At.retO2 rfl rfl rfl (by simp) (by simp)

theorem R_Copy_does (l : List Int) (hl : l.length ≤ 1000000) : DoesO Try.prog 77 [.d (ints l)] 1 3 ((l.map fun n => [D.v (.int .i64 n)])) := by
  refine DoesO.of_body Try.func77 rfl rfl (by simp) Try.call77 (fun w0 O0 => ?_)
  refine Tr.lenLe (n := 0) rfl (fun len0 => ?_)
  refine Tr.seq ?_
  refine Tr.region ?_
  refine TrOps.sem (OpSem.move (.inr rfl) rfl) rfl rfl (by decide) ?_
  refine TrOps.nil ?_
  refine At.seq ?_
  refine Tr.seq ?_
  refine Tr.region ?_
  refine TrOps.sem (OpSem.move (.inr rfl) rfl) rfl rfl (by decide) ?_
  refine TrOps.nil ?_
  refine At.seq ?_
  refine Tr.seq ?_
  refine Tr.ownNil (n := 3) 3 1 3 rfl ?_
  refine Tr.region ?_
  refine TrOps.sem (OpSem.move (.inl rfl) rfl) rfl rfl (by decide) ?_
  refine TrOps.sem (OpSem.move (.inl rfl) rfl) rfl rfl (by decide) ?_
  refine TrOps.append rfl rfl rfl (by decide) rfl rfl rfl es22 el22 zc3 rfl by3 (by simp [D.one, Value.oneCell']) (by simp [maxLen]; omega) (by simp; omega) ?_
  refine TrOps.sem (OpSem.move (.inr rfl) rfl) rfl rfl (by decide) ?_
  refine TrOps.nil ?_
  refine At.seq ?_
  refine Tr.ret ?_
  exact At.retO2 rfl rfl rfl (by simp) (by simp)

theorem R_MultiHolds_does (s : List Int) (l : List Asg) (h : ∀ k : Nat, k < l.length → 0 ≤ (nth l k).1 ∧ (nth l k).1 < s.length) : Does Try.prog false 51 [.d (ints s), .d (asgs l)] (Bo (holds s l)) := by
  refine Does.of_body Try.func51 rfl rfl (by simp) Try.call51 (fun w0 O0 => ?_)
  refine Tr.lenLe (n := 0) rfl (fun len0 => ?_)
  refine Tr.lenLe (n := 1) rfl (fun len1 => ?_)
  refine Tr.seq ?_
  refine Tr.region ?_
  refine TrOps.sem (OpSem.move (.inr rfl) rfl) rfl rfl (by decide) ?_
  refine TrOps.nil ?_
  refine At.seq ?_
  refine Tr.seq ?_
  refine Tr.seq ?_
  refine Tr.region ?_
  refine TrOps.sem (OpSem.move (.inr rfl) rfl) rfl rfl (by decide) ?_
  refine TrOps.nil ?_
  refine At.seq ?_
  refine Tr.block ?_
  refine Tr.loop (X := Nat) (fun k => k ≤ l.length ∧ ∀ i : Nat, i < k → nth s (nth l i).1 = (nth l i).2) (fun k => [(0, .d (ints s)), (1, .d (asgs l)), (5, I (k))]) (fun k => []) (fun k => l.length - k) 0 ⟨by omega, by simp⟩ ?_ ?_
  · exact .slot rfl (.refl _) <| .slot rfl (.refl _) <| .slot rfl (Le.of_eq (by simp)) <| .nil
  · rintro k ⟨hkl, hinv⟩
    refine Tr.seq ?_
    refine Tr.seq ?_
    refine Tr.region ?_
    refine TrOps.sem (OpSem.move (.inl rfl) rfl) rfl rfl (by decide) ?_
    refine TrOps.sem (OpSem.move (.inl rfl) rfl) rfl rfl (by decide) ?_
    refine TrOps.sem (OpSem.lenL rfl rfl es23) rfl rfl (by decide) ?_
    refine TrOps.sem (OpSem.bin rfl rfl rfl blss) rfl rfl (by decide) ?_
    refine TrOps.nil ?_
    refine At.seq ?_
    refine Tr.cond rfl (fun c9 => ?_) (fun c9 => ?_)
    · have hk : k < l.length := by simpa using c9
      have ha := h k hk
      refine Tr.skip ?_
      refine At.seq ?_
      refine Tr.seq ?_
      refine Tr.block ?_
      refine Tr.seq ?_
      refine PC.start [] ?_
      refine PC.sem (OpSem.move (.inl rfl) rfl) rfl rfl ?_
      refine PC.sem (OpSem.move (.inl rfl) rfl) rfl rfl ?_
      refine PC.sem (OpSem.move (.inl rfl) rfl) rfl rfl ?_
      refine PC.sem (OpSem.idxL rfl rfl rfl es23 (by omega) (by omega)) rfl rfl ?_
      refine PC.sem (OpSem.fieldp rfl rfl fo90_0) rfl rfl ?_
      refine PC.sem (OpSem.load1 rfl rfl vs3 rfl) rfl rfl ?_
      refine PC.sem (OpSem.idxL rfl rfl rfl es22 (by omega) (by omega)) rfl rfl ?_
      refine PC.sem (OpSem.load1 rfl rfl vs3 rfl) rfl rfl ?_
      refine PC.sem (OpSem.move (.inl rfl) rfl) rfl rfl ?_
      refine PC.sem (OpSem.move (.inl rfl) rfl) rfl rfl ?_
      refine PC.sem (OpSem.idxL rfl rfl rfl es23 (by omega) (by omega)) rfl rfl ?_
      refine PC.sem (OpSem.fieldp rfl rfl fo90_1) rfl rfl ?_
      refine PC.sem (OpSem.load1 rfl rfl vs3 rfl) rfl rfl ?_
      refine PC.done0 mixed (by kernel_rfl) (by kernel_rfl) (by kernel_rfl) (by kernel_rfl) (by kernel_rfl) ?_
      refine TrOps.sem (OpSem.bin rfl rfl rfl bneq) rfl rfl (by decide) ?_
      refine TrOps.nil ?_
      refine At.seq ?_
      refine Tr.cond rfl (fun c25 => ?_) (fun c25 => ?_)
      · refine Tr.seq ?_
        refine Tr.region ?_
        refine TrOps.sem (OpSem.move (.inr rfl) rfl) rfl rfl (by decide) ?_
        refine TrOps.nil ?_
        refine At.seq ?_
        refine Tr.ret ?_
        refine At.block_ret ?_
        refine At.pass_ret ?_
        refine At.pass_ret ?_
        refine At.block_ret ?_
        refine At.pass_ret ?_
        exact At.ret rfl (.tmp rfl <| .nil) rfl (Le.bo (holds_1 hk (by simpa using c25)))
      · have hb : nth s (nth l k).1 = (nth l k).2 := by simpa using c25
        refine Tr.skip ?_
        refine At.block_normal ?_
        refine At.seq ?_
        refine Tr.region ?_
        refine TrOps.sem (OpSem.move (.inl rfl) rfl) rfl rfl (by decide) ?_
        refine TrOps.sem (OpSem.bin rfl rfl rfl (badd (by omega) (by omega))) rfl rfl (by decide) ?_
        refine TrOps.sem (OpSem.move (.inr rfl) rfl) rfl rfl (by decide) ?_
        refine TrOps.nil ?_
        refine At.again (k + 1) ⟨by omega, all_succ hinv hb⟩ ?_ (by omega)
        exact .slot rfl (.refl _) <| .slot rfl (.refl _) <| .slot rfl (Le.of_eq (by simp)) <| .nil
    · have hk : k = l.length := by simp at c9; omega
      refine Tr.exit ?_
      refine At.pass_exit ?_
      refine At.pass_exit ?_
      refine At.block_same ?_
      refine At.seq ?_
      refine Tr.seq ?_
      refine Tr.region ?_
      refine TrOps.sem (OpSem.move (.inr rfl) rfl) rfl rfl (by decide) ?_
      refine TrOps.nil ?_
      refine At.seq ?_
      refine Tr.ret ?_
      exact At.ret rfl (.tmp rfl <| .nil) rfl (Le.bo (by subst hk; exact holds_0 hinv))

theorem R_MultiAfter_does (m : Multi) (s : List Int) (op : Int) (hv : Valid m) (hs : StateP m.sizes s) (h0 : 0 ≤ op) (h1 : op < m.ops.length) : DoesO Try.prog 53 [multi m, .d (ints s), I (op)] 1 3 (((nextS s (nth m.ops op).post).map fun n => [D.v (.int .i64 n)])) := by
  have ho := nth_op hv h0 h1
  have hl := hv.len
  have hsl := hs.1
  have hpl := asgs_len ho.2.1
  refine DoesO.of_body Try.func53 rfl rfl (by simp) Try.call53 (fun w0 O0 => ?_)
  refine Tr.lenG (n := 0) (i := 0) rfl rfl (fun len0_0 => ?_)
  refine Tr.lenG (n := 0) (i := 1) rfl rfl (fun len0_1 => ?_)
  refine Tr.lenG (n := 0) (i := 2) rfl rfl (fun len0_2 => ?_)
  refine Tr.lenG (n := 0) (i := 3) rfl rfl (fun len0_3 => ?_)
  refine Tr.lenLe (n := 1) rfl (fun len1 => ?_)
  refine Tr.seq ?_
  refine Tr.region ?_
  refine TrOps.semM (OpSem.box 3 rfl rfl rfl rfl) rfl rfl (by decide) ?_
  refine TrOps.sem (OpSem.move (.inr rfl) rfl) rfl rfl (by decide) ?_
  refine TrOps.nil ?_
  refine At.seq ?_
  refine Tr.seq ?_
  refine Tr.region ?_
  refine TrOps.sem (OpSem.move (.inl rfl) rfl) rfl rfl (by decide) ?_
  refine TrOps.semM (OpSem.callO 10 (R_Copy_does s (by omega)) rfl rfl rfl rfl (Les.refl _)) rfl rfl (by decide) ?_
  refine TrOps.sem (OpSem.move (.inr rfl) rfl) rfl rfl (by decide) ?_
  refine TrOps.nil ?_
  refine At.seq ?_
  refine Tr.seq ?_
  refine Tr.seq ?_
  refine Tr.region ?_
  refine TrOps.sem (OpSem.move (.inr rfl) rfl) rfl rfl (by decide) ?_
  refine TrOps.nil ?_
  refine At.seq ?_
  refine Tr.block ?_
  refine Tr.loop (X := Nat) (fun k => k ≤ (nth m.ops op).post.length) (fun k => [(2, I (op)), (3, .r 3 0), (7, .o 10), (8, I (k))]) (fun k => [(10, .own 1 3 ((nextTo s (nth m.ops op).post k).map fun n => [D.v (.int .i64 n)])), (3, .box [.d (ints m.sizes), .d (ints m.init), .d (asgs m.goal), .d (opsD m.ops)])]) (fun k => (nth m.ops op).post.length - k) 0 (by omega) ?_ ?_
  · exact .slot rfl (.refl _) <| .slot rfl (.refl _) <| .slot rfl (.refl _) <| .slot rfl (Le.of_eq (by simp)) <| .mem rfl <| .mem rfl <| .nil
  · rintro k hkl
    refine Tr.seq ?_
    refine Tr.seq ?_
    refine Tr.region ?_
    refine TrOps.sem (OpSem.move (.inl rfl) rfl) rfl rfl (by decide) ?_
    refine TrOps.sem (OpSem.fieldr rfl rfl fo26_3) rfl rfl (by decide) ?_
    refine TrOps.sem (OpSem.loadb1 rfl rfl rfl vs24 rfl) rfl rfl (by decide) ?_
    refine TrOps.sem (OpSem.move (.inl rfl) rfl) rfl rfl (by decide) ?_
    refine TrOps.sem (OpSem.idxL rfl rfl rfl es24 (by omega) (by omega)) rfl rfl (by decide) ?_
    refine TrOps.sem (OpSem.fieldp rfl rfl fo81_1) rfl rfl (by decide) ?_
    refine TrOps.sem (OpSem.load1 rfl rfl vs23 rfl) rfl rfl (by decide) ?_
    refine TrOps.sem (OpSem.lenL rfl rfl es23) rfl rfl (by decide) ?_
    refine TrOps.sem (OpSem.bin rfl rfl rfl blss) rfl rfl (by decide) ?_
    refine TrOps.nil ?_
    refine At.seq ?_
    refine Tr.cond rfl (fun c19 => ?_) (fun c19 => ?_)
    · have hk : k < (nth m.ops op).post.length := by simpa using c19
      have ha := ho.2.1 k hk
      have hn := nextTo_len (s := s) (l := (nth m.ops op).post) (k := k)
      refine Tr.skip ?_
      refine At.seq ?_
      refine Tr.seq ?_
      refine Tr.block ?_
      refine PC.start [] ?_
      refine PC.sem (OpSem.move (.inl rfl) rfl) rfl rfl ?_
      refine PC.sem (OpSem.fieldr rfl rfl fo26_3) rfl rfl ?_
      refine PC.sem (OpSem.loadb1 rfl rfl rfl vs24 rfl) rfl rfl ?_
      refine PC.sem (OpSem.move (.inl rfl) rfl) rfl rfl ?_
      refine PC.sem (OpSem.idxL rfl rfl rfl es24 (by omega) (by omega)) rfl rfl ?_
      refine PC.sem (OpSem.fieldp rfl rfl fo81_1) rfl rfl ?_
      refine PC.sem (OpSem.load1 rfl rfl vs23 rfl) rfl rfl ?_
      refine PC.sem (OpSem.move (.inl rfl) rfl) rfl rfl ?_
      refine PC.sem (OpSem.idxL rfl rfl rfl es23 (by omega) (by omega)) rfl rfl ?_
      refine PC.sem (OpSem.fieldp rfl rfl fo90_0) rfl rfl ?_
      refine PC.sem (OpSem.load1 rfl rfl vs3 rfl) rfl rfl ?_
      refine PC.sem (OpSem.fieldr rfl rfl fo26_3) rfl rfl ?_
      refine PC.sem (OpSem.loadb1 rfl rfl rfl vs24 rfl) rfl rfl ?_
      refine PC.sem (OpSem.move (.inl rfl) rfl) rfl rfl ?_
      refine PC.sem (OpSem.idxL rfl rfl rfl es24 (by omega) (by omega)) rfl rfl ?_
      refine PC.sem (OpSem.fieldp rfl rfl fo81_1) rfl rfl ?_
      refine PC.sem (OpSem.load1 rfl rfl vs23 rfl) rfl rfl ?_
      refine PC.sem (OpSem.move (.inl rfl) rfl) rfl rfl ?_
      refine PC.sem (OpSem.idxL rfl rfl rfl es23 (by omega) (by omega)) rfl rfl ?_
      refine PC.sem (OpSem.fieldp rfl rfl fo90_1) rfl rfl ?_
      refine PC.sem (OpSem.load1 rfl rfl vs3 rfl) rfl rfl ?_
      refine PC.done0 mixed (by kernel_rfl) (by kernel_rfl) (by kernel_rfl) (by kernel_rfl) (by kernel_rfl) ?_
      refine TrOps.sem (OpSem.idxo rfl rfl rfl rfl es22 (by omega) (by simp; omega)) rfl rfl (by decide) ?_
      refine TrOps.storeq rfl rfl rfl rfl rfl rfl rfl vs3 (rows_get (by omega) (by omega)) (by simp) ?_
      refine TrOps.nil ?_
      refine At.block_normal ?_
      refine At.seq ?_
      refine Tr.region ?_
      refine TrOps.sem (OpSem.move (.inl rfl) rfl) rfl rfl (by decide) ?_
      refine TrOps.sem (OpSem.bin rfl rfl rfl (badd (by omega) (by omega))) rfl rfl (by decide) ?_
      refine TrOps.sem (OpSem.move (.inr rfl) rfl) rfl rfl (by decide) ?_
      refine TrOps.nil ?_
      refine At.again (k + 1) (by omega) ?_ (by omega)
      exact .slot rfl (.refl _) <| .slot rfl (.refl _) <| .slot rfl (.refl _) <| .slot rfl (Le.of_eq (by simp)) <| .memEq rfl (congrArg (Mo.own 1 3) (rows_set (f := fun n => [D.v (.int .i64 n)]))) <| .mem rfl <| .nil
    · have hk : k = (nth m.ops op).post.length := by simp at c19; omega
      refine Tr.exit ?_
      refine At.pass_exit ?_
      refine At.pass_exit ?_
      refine At.block_same ?_
      refine At.seq ?_
      refine Tr.seq ?_
      refine Tr.region ?_
      refine TrOps.sem (OpSem.move (.inl rfl) rfl) rfl rfl (by decide) ?_
      refine TrOps.sem (OpSem.move (.inr rfl) rfl) rfl rfl (by decide) ?_
      refine TrOps.nil ?_
      refine At.seq ?_
      refine Tr.ret ?_
      exact At.retO2 rfl rfl rfl (by simp) (by rw [hk]; rfl)

end Go.Proofs.Ytohlmcebphcokaa
end

section
/- Ranks of states; the least slack and the greatest goal value over all states. -/

set_option linter.unusedVariables false
set_option linter.unusedSimpArgs false
namespace Go.Eng
open Go Go.RowKit

theorem DoesO.fresh {P : Program} {f : Nat} {args : List S} {k T : Nat} {rows : List (List D)} (h : DoesO P f args k T rows) : Does P true f args (.d (.s k rows)) :=
  ⟨h.can, fun O w xs hl hx => (h.run O w xs hl hx).mono fun en w' ⟨x, he, hb, hr⟩ => ⟨x, he, hb, by
    rcases hr with ⟨rfl, rfl⟩ | ⟨b, cap, xs', rfl, hB, hbl, hlc, hcm, hsz, hw, hc⟩
    · exact .d _ _ (.e none 0 k (by simp [maxLen]))
    · refine .d _ _ (.s b 0 cap k rows (fun n => (xs'[n]?).getD undef) hlc hcm hw (fun _ _ _ _ _ _ => by simp [freshO, Fr, hB]) (fun i r j d hi hj => ?_) (fun i r j d hi hj => ?_))
      · obtain ⟨y, hy, _⟩ := hc i r j d hi hj
        rw [cellOf hbl (by rw [Nat.zero_add]; exact hy), hy]; rfl
      · obtain ⟨y, hy, rfl, _⟩ := hc i r j d hi hj
        simp only [hy, Option.getD_some]
        exact .v _⟩⟩

def ranksTo (sizes : List Int) : Nat → Int
  | 0 => 1
  | k + 1 => ranksTo sizes k * nth sizes k
def ranks (sizes : List Int) : Int := ranksTo sizes sizes.length
theorem ranksTo_in {sizes : List Int} (h : SizesP sizes) : ∀ {k : Nat}, k ≤ sizes.length → 1 ≤ ranksTo sizes k ∧ ranksTo sizes k ≤ 6 ^ k
  | 0, _ => by simp [ranksTo]
  | k + 1, hk => by
    have ih := ranksTo_in h (k := k) (by omega)
    have hs := h k (by omega)
    simp only [ranksTo]
    constructor
    · have := Int.mul_le_mul ih.1 hs.1 (by omega) (by omega)
      omega
    · have := Int.mul_le_mul ih.2 hs.2 (by omega) (by omega)
      rw [Int.pow_succ]; exact this
theorem pow6_le {k : Nat} (h : k ≤ 8) : (6 : Int) ^ k ≤ 1679616 := by
  have : k = 0 ∨ k = 1 ∨ k = 2 ∨ k = 3 ∨ k = 4 ∨ k = 5 ∨ k = 6 ∨ k = 7 ∨ k = 8 := by omega
  rcases this with rfl | rfl | rfl | rfl | rfl | rfl | rfl | rfl | rfl <;> decide
theorem ranks_in {m : Multi} (hv : Valid m) : 1 ≤ ranks m.sizes ∧ ranks m.sizes ≤ 1679616 := by
  have h := ranksTo_in hv.sizes (Nat.le_refl _)
  have := pow6_le hv.len.2
  unfold ranks
  omega
/-- What is left of a number behind j digits. -/
def quoTo (sizes : List Int) (n : Int) : Nat → Int
  | 0 => n
  | j + 1 => quoTo sizes n j / nth sizes (sizes.length - 1 - j : Nat)
def digit (sizes : List Int) (n : Int) (v : Nat) : Int := quoTo sizes n (sizes.length - 1 - v) % nth sizes v
def unrank (sizes : List Int) (n : Int) : List Int := (List.range sizes.length).map fun (v : Nat) => digit sizes n v
/-- The digits, but for the first few. -/
def unrTo (sizes : List Int) (n : Int) (j : Nat) : List Int := (List.range sizes.length).map fun (v : Nat) => if sizes.length - j ≤ v then digit sizes n v else 0
theorem unrTo_len {sizes : List Int} {n : Int} {j : Nat} : (unrTo sizes n j).length = sizes.length := by simp [unrTo]
theorem unrTo_0 {sizes : List Int} {n : Int} : unrTo sizes n 0 = List.replicate sizes.length 0 := by
  apply List.ext_getElem (by simp [unrTo])
  intro i h1 h2
  simp [unrTo] at h1 ⊢
  intro h; omega
theorem unrTo_end {sizes : List Int} {n : Int} : unrTo sizes n sizes.length = unrank sizes n := by simp [unrTo, unrank]
theorem unrTo_s {sizes : List Int} {n : Int} {j : Nat} (hj : j < sizes.length) : setI (unrTo sizes n j) (sizes.length - 1 - j : Nat) (quoTo sizes n j % nth sizes (sizes.length - 1 - j : Nat)) = unrTo sizes n (j + 1) := by
  apply List.ext_getElem (by simp [unrTo, setI])
  intro i h1 h2
  simp only [setI, unrTo, Int.toNat_natCast, List.getElem_set, List.getElem_map, List.getElem_range]
  simp [unrTo, setI] at h1
  by_cases h : sizes.length - 1 - j = i
  · rw [if_pos h, if_pos (by omega)]
    unfold digit
    rw [← h, show sizes.length - 1 - (sizes.length - 1 - j) = j by omega]
  · rw [if_neg h]
    by_cases h' : sizes.length - j ≤ i
    · rw [if_pos h', if_pos (by omega)]
    · rw [if_neg h', if_neg (by omega)]
theorem quoTo_nn {sizes : List Int} (h : SizesP sizes) {n : Int} (hn : 0 ≤ n) : ∀ {j : Nat}, j ≤ sizes.length → 0 ≤ quoTo sizes n j ∧ quoTo sizes n j ≤ n
  | 0, _ => ⟨hn, Int.le_refl _⟩
  | j + 1, hj => by
    have ih := quoTo_nn h hn (j := j) (by omega)
    have hs := h (sizes.length - 1 - j) (by omega)
    simp only [quoTo]
    exact ⟨Int.ediv_nonneg ih.1 (by omega), Int.le_trans (Int.ediv_le_self _ ih.1) ih.2⟩
theorem unrank_state {sizes : List Int} (h : SizesP sizes) {n : Int} : StateP sizes (unrank sizes n) := by
  refine ⟨by simp [unrank], fun v hv => ?_⟩
  have hv' : v < sizes.length := by simpa [unrank] using hv
  have hs := h v hv'
  rw [nth_eq hv]
  simp only [unrank, List.getElem_map, List.getElem_range, digit]
  exact ⟨Int.emod_nonneg _ (by omega), Int.emod_lt_of_pos _ (by omega)⟩
def rankTo (sizes s : List Int) : Nat → Int
  | 0 => 0
  | k + 1 => rankTo sizes s k * nth sizes k + nth s k
def rank (sizes s : List Int) : Int := rankTo sizes s s.length
theorem rankTo_in {sizes s : List Int} (h : SizesP sizes) (hs : StateP sizes s) : ∀ {k : Nat}, k ≤ s.length → 0 ≤ rankTo sizes s k ∧ rankTo sizes s k < ranksTo sizes k
  | 0, _ => by simp [rankTo, ranksTo]
  | k + 1, hk => by
    have ih := rankTo_in h hs (k := k) (by omega)
    have hz := h k (by have := hs.1; omega)
    have hx := hs.2 k (by omega)
    simp only [rankTo, ranksTo]
    constructor
    · have := Int.mul_nonneg ih.1 (show 0 ≤ nth sizes k by omega); omega
    · have h1 := Int.mul_le_mul_of_nonneg_right (show rankTo sizes s k + 1 ≤ ranksTo sizes k by omega) (show 0 ≤ nth sizes k by omega)
      rw [Int.add_mul, Int.one_mul] at h1
      omega
theorem rank_in {sizes s : List Int} (h : SizesP sizes) (hs : StateP sizes s) : 0 ≤ rank sizes s ∧ rank sizes s < ranks sizes := by
  have := rankTo_in h hs (Nat.le_refl _)
  unfold rank ranks
  rw [← hs.1]
  exact this
theorem quoTo_rank {sizes s : List Int} (h : SizesP sizes) (hs : StateP sizes s) : ∀ {j : Nat}, j ≤ sizes.length → quoTo sizes (rank sizes s) j = rankTo sizes s (sizes.length - j)
  | 0, _ => by simp only [quoTo, rank]; rw [hs.1]; rfl
  | j + 1, hj => by
    have ih := quoTo_rank h hs (j := j) (by omega)
    have hz := h (sizes.length - 1 - j) (by omega)
    have hx := hs.2 (sizes.length - 1 - j) (by have := hs.1; omega)
    simp only [quoTo]
    rw [ih, show sizes.length - j = (sizes.length - 1 - j) + 1 by omega]
    simp only [rankTo]
    rw [show sizes.length - (j + 1) = sizes.length - 1 - j by omega]
    rw [Int.add_comm, Int.add_mul_ediv_right _ _ (by omega), Int.ediv_eq_zero_of_lt hx.1 hx.2]
    omega
theorem unrank_rank {sizes s : List Int} (h : SizesP sizes) (hs : StateP sizes s) : unrank sizes (rank sizes s) = s := by
  have hu := unrank_state (n := rank sizes s) h
  apply ext_nth (hu.1.trans hs.1.symm)
  intro v hv
  have hv' : v < sizes.length := by rw [← hu.1]; exact hv
  have hx := hs.2 v (by have := hs.1; omega)
  rw [nth_eq hv]
  simp only [unrank, List.getElem_map, List.getElem_range, digit]
  rw [quoTo_rank h hs (by omega), show sizes.length - (sizes.length - 1 - v) = v + 1 by omega]
  simp only [rankTo]
  rw [Int.add_comm, Int.add_mul_emod_self_right, Int.emod_eq_of_lt hx.1 hx.2]

/-! ### Over all states -/
def leastTo (p : List Int → Bool) (f : List Int → Int) (sizes : List Int) : Nat → Int
  | 0 => 1000000000
  | n + 1 => if p (unrank sizes n) = true then min (leastTo p f sizes n) (f (unrank sizes n)) else leastTo p f sizes n
def greatTo (p : List Int → Bool) (f : List Int → Int) (sizes : List Int) : Nat → Int
  | 0 => -1000000000
  | n + 1 => if p (unrank sizes n) = true then max (greatTo p f sizes n) (f (unrank sizes n)) else greatTo p f sizes n
section
variable {p : List Int → Bool} {f : List Int → Int} {sizes : List Int}
end
def slackAt (w : List (List Int)) (o : MOp) (s : List Int) : Int := o.cost - val w s + val w (nextS s o.post)
def leastSlack (m : Multi) (w : List (List Int)) (o : MOp) (n : Nat) : Int := leastTo (fun s => holds s o.pre) (slackAt w o) m.sizes n
def greatGoal (m : Multi) (w : List (List Int)) (n : Nat) : Int := greatTo (fun s => holds s m.goal) (val w) m.sizes n
theorem unrank_toNat {sizes s : List Int} (h : SizesP sizes) (hs : StateP sizes s) : unrank sizes ((rank sizes s).toNat : Int) = s ∧ (rank sizes s).toNat < (ranks sizes).toNat := by
  have hr := rank_in h hs
  rw [Int.toNat_of_nonneg hr.1]
  exact ⟨unrank_rank h hs, by omega⟩
end Go.Eng
end

section
/- Walks, written by gen.py out of hints. -/



set_option linter.unusedVariables false
set_option linter.unusedSimpArgs false
namespace Go.Proofs.Ytohlmcebphcokaa
open Go.Eng
set_option maxRecDepth 10000
set_option maxHeartbeats 1000000

theorem R_Ranks_does (m : Multi) (hv : Valid m) : Does Try.prog false 44 [multi m] (I (ranks m.sizes)) := by
  have hl := hv.len
  refine Does.of_body Try.func44 rfl rfl (by simp) Try.call44 (fun w0 O0 => ?_)
  refine Tr.lenG (n := 0) (i := 0) rfl rfl (fun len0_0 => ?_)
  refine Tr.lenG (n := 0) (i := 1) rfl rfl (fun len0_1 => ?_)
  refine Tr.lenG (n := 0) (i := 2) rfl rfl (fun len0_2 => ?_)
  refine Tr.lenG (n := 0) (i := 3) rfl rfl (fun len0_3 => ?_)
  refine Tr.seq ?_
  refine Tr.region ?_
  refine TrOps.semM (OpSem.box 1 rfl rfl rfl rfl) rfl rfl (by decide) ?_
  refine TrOps.sem (OpSem.move (.inr rfl) rfl) rfl rfl (by decide) ?_
  refine TrOps.nil ?_
  refine At.seq ?_
  refine Tr.seq ?_
  refine Tr.region ?_
  refine TrOps.sem (OpSem.move (.inr rfl) rfl) rfl rfl (by decide) ?_
  refine TrOps.nil ?_
  refine At.seq ?_
  refine Tr.seq ?_
  refine Tr.seq ?_
  refine Tr.region ?_
  refine TrOps.sem (OpSem.move (.inr rfl) rfl) rfl rfl (by decide) ?_
  refine TrOps.nil ?_
  refine At.seq ?_
  refine Tr.block ?_
  refine Tr.loop (X := Nat) (fun k => k ≤ m.sizes.length) (fun k => [(1, .r 1 0), (3, I (ranksTo m.sizes k)), (4, I (k))]) (fun k => [(1, .box [.d (ints m.sizes), .d (ints m.init), .d (asgs m.goal), .d (opsD m.ops)])]) (fun k => m.sizes.length - k) 0 (by omega) ?_ ?_
  · exact .slot rfl (.refl _) <| .slot rfl (.refl _) <| .slot rfl (Le.of_eq (by simp)) <| .mem rfl <| .nil
  · rintro k hkl
    refine Tr.seq ?_
    refine Tr.seq ?_
    refine Tr.region ?_
    refine TrOps.sem (OpSem.move (.inl rfl) rfl) rfl rfl (by decide) ?_
    refine TrOps.sem (OpSem.fieldr rfl rfl fo26_0) rfl rfl (by decide) ?_
    refine TrOps.sem (OpSem.loadb1 rfl rfl rfl vs22 rfl) rfl rfl (by decide) ?_
    refine TrOps.sem (OpSem.lenL rfl rfl es22) rfl rfl (by decide) ?_
    refine TrOps.sem (OpSem.bin rfl rfl rfl blss) rfl rfl (by decide) ?_
    refine TrOps.nil ?_
    refine At.seq ?_
    refine Tr.cond rfl (fun c9 => ?_) (fun c9 => ?_)
    · have hk : k < m.sizes.length := by simpa using c9
      have h1 := ranksTo_in hv.sizes (k := k + 1) (by omega)
      have h2 := pow6_le (k := k + 1) (by omega)
      simp only [ranksTo] at h1
      refine Tr.skip ?_
      refine At.seq ?_
      refine Tr.seq ?_
      refine Tr.block ?_
      refine Tr.region ?_
      refine TrOps.sem (OpSem.move (.inl rfl) rfl) rfl rfl (by decide) ?_
      refine TrOps.sem (OpSem.fieldr rfl rfl fo26_0) rfl rfl (by decide) ?_
      refine TrOps.sem (OpSem.loadb1 rfl rfl rfl vs22 rfl) rfl rfl (by decide) ?_
      refine TrOps.sem (OpSem.move (.inl rfl) rfl) rfl rfl (by decide) ?_
      refine TrOps.sem (OpSem.idxL rfl rfl rfl es22 (by omega) (by omega)) rfl rfl (by decide) ?_
      refine TrOps.sem (OpSem.load1 rfl rfl vs3 rfl) rfl rfl (by decide) ?_
      refine TrOps.sem (OpSem.bin rfl rfl rfl (bmul (by omega) (by omega))) rfl rfl (by decide) ?_
      refine TrOps.sem (OpSem.move (.inr rfl) rfl) rfl rfl (by decide) ?_
      refine TrOps.nil ?_
      refine At.block_normal ?_
      refine At.seq ?_
      refine Tr.region ?_
      refine TrOps.sem (OpSem.move (.inl rfl) rfl) rfl rfl (by decide) ?_
      refine TrOps.sem (OpSem.bin rfl rfl rfl (badd (by omega) (by omega))) rfl rfl (by decide) ?_
      refine TrOps.sem (OpSem.move (.inr rfl) rfl) rfl rfl (by decide) ?_
      refine TrOps.nil ?_
      refine At.again (k + 1) (by omega) ?_ (by omega)
      exact .slot rfl (.refl _) <| .slot rfl (.refl _) <| .slot rfl (Le.of_eq (by simp)) <| .mem rfl <| .nil
    · have hk : k = m.sizes.length := by simp at c9; omega
      refine Tr.exit ?_
      refine At.pass_exit ?_
      refine At.pass_exit ?_
      refine At.block_same ?_
      refine At.seq ?_
      refine Tr.seq ?_
      refine Tr.region ?_
      refine TrOps.sem (OpSem.move (.inl rfl) rfl) rfl rfl (by decide) ?_
      refine TrOps.sem (OpSem.move (.inr rfl) rfl) rfl rfl (by decide) ?_
      refine TrOps.nil ?_
      refine At.seq ?_
      refine Tr.ret ?_
      exact At.ret rfl (.tmp rfl <| .nil) rfl (Le.i (by rw [hk]; rfl))

theorem R_Rank_does (m : Multi) (s : List Int) (hv : Valid m) (hs : StateP m.sizes s) : Does Try.prog false 19 [multi m, .d (ints s)] (I (rank m.sizes s)) := by
  have hl := hv.len
  have hsl := hs.1
  refine Does.of_body Try.func19 rfl rfl (by simp) Try.call19 (fun w0 O0 => ?_)
  refine Tr.lenG (n := 0) (i := 0) rfl rfl (fun len0_0 => ?_)
  refine Tr.lenG (n := 0) (i := 1) rfl rfl (fun len0_1 => ?_)
  refine Tr.lenG (n := 0) (i := 2) rfl rfl (fun len0_2 => ?_)
  refine Tr.lenG (n := 0) (i := 3) rfl rfl (fun len0_3 => ?_)
  refine Tr.lenLe (n := 1) rfl (fun len1 => ?_)
  refine Tr.seq ?_
  refine Tr.region ?_
  refine TrOps.semM (OpSem.box 2 rfl rfl rfl rfl) rfl rfl (by decide) ?_
  refine TrOps.sem (OpSem.move (.inr rfl) rfl) rfl rfl (by decide) ?_
  refine TrOps.nil ?_
  refine At.seq ?_
  refine Tr.seq ?_
  refine Tr.region ?_
  refine TrOps.sem (OpSem.move (.inr rfl) rfl) rfl rfl (by decide) ?_
  refine TrOps.nil ?_
  refine At.seq ?_
  refine Tr.seq ?_
  refine Tr.seq ?_
  refine Tr.region ?_
  refine TrOps.sem (OpSem.move (.inr rfl) rfl) rfl rfl (by decide) ?_
  refine TrOps.nil ?_
  refine At.seq ?_
  refine Tr.block ?_
  refine Tr.loop (X := Nat) (fun k => k ≤ s.length) (fun k => [(1, .d (ints s)), (2, .r 2 0), (5, I (rankTo m.sizes s k)), (6, I (k))]) (fun k => [(2, .box [.d (ints m.sizes), .d (ints m.init), .d (asgs m.goal), .d (opsD m.ops)])]) (fun k => s.length - k) 0 (by omega) ?_ ?_
  · exact .slot rfl (.refl _) <| .slot rfl (.refl _) <| .slot rfl (.refl _) <| .slot rfl (Le.of_eq (by simp)) <| .mem rfl <| .nil
  · rintro k hkl
    refine Tr.seq ?_
    refine Tr.seq ?_
    refine Tr.region ?_
    refine TrOps.sem (OpSem.move (.inl rfl) rfl) rfl rfl (by decide) ?_
    refine TrOps.sem (OpSem.move (.inl rfl) rfl) rfl rfl (by decide) ?_
    refine TrOps.sem (OpSem.lenL rfl rfl es22) rfl rfl (by decide) ?_
    refine TrOps.sem (OpSem.bin rfl rfl rfl blss) rfl rfl (by decide) ?_
    refine TrOps.nil ?_
    refine At.seq ?_
    refine Tr.cond rfl (fun c10 => ?_) (fun c10 => ?_)
    · have hk : k < s.length := by simpa using c10
      have h0 := rankTo_in hv.sizes hs (k := k) (by omega)
      have h1 := rankTo_in hv.sizes hs (k := k + 1) (by omega)
      have h2 := pow6_le (k := k + 1) (by omega)
      have h3 := ranksTo_in hv.sizes (k := k + 1) (by omega)
      simp only [rankTo] at h1
      have hz := hv.sizes k (by omega)
      have h4 := Int.mul_nonneg h0.1 (show 0 ≤ nth m.sizes k by omega)
      have hx := hs.2 k (by omega)
      refine Tr.skip ?_
      refine At.seq ?_
      refine Tr.seq ?_
      refine Tr.block ?_
      refine PC.start [] ?_
      refine PC.sem (OpSem.move (.inl rfl) rfl) rfl rfl ?_
      refine PC.sem (OpSem.fieldr rfl rfl fo26_0) rfl rfl ?_
      refine PC.sem (OpSem.loadb1 rfl rfl rfl vs22 rfl) rfl rfl ?_
      refine PC.sem (OpSem.move (.inl rfl) rfl) rfl rfl ?_
      refine PC.sem (OpSem.idxL rfl rfl rfl es22 (by omega) (by omega)) rfl rfl ?_
      refine PC.sem (OpSem.load1 rfl rfl vs3 rfl) rfl rfl ?_
      refine PC.sem (OpSem.bin rfl rfl rfl (bmul (by omega) (by omega))) rfl rfl ?_
      refine PC.sem (OpSem.move (.inl rfl) rfl) rfl rfl ?_
      refine PC.sem (OpSem.move (.inl rfl) rfl) rfl rfl ?_
      refine PC.sem (OpSem.idxL rfl rfl rfl es22 (by omega) (by omega)) rfl rfl ?_
      refine PC.sem (OpSem.load1 rfl rfl vs3 rfl) rfl rfl ?_
      refine PC.done0 mixed (by kernel_rfl) (by kernel_rfl) (by kernel_rfl) (by kernel_rfl) (by kernel_rfl) ?_
      refine TrOps.sem (OpSem.bin rfl rfl rfl (badd (by omega) (by omega))) rfl rfl (by decide) ?_
      refine TrOps.sem (OpSem.move (.inr rfl) rfl) rfl rfl (by decide) ?_
      refine TrOps.nil ?_
      refine At.block_normal ?_
      refine At.seq ?_
      refine Tr.region ?_
      refine TrOps.sem (OpSem.move (.inl rfl) rfl) rfl rfl (by decide) ?_
      refine TrOps.sem (OpSem.bin rfl rfl rfl (badd (by omega) (by omega))) rfl rfl (by decide) ?_
      refine TrOps.sem (OpSem.move (.inr rfl) rfl) rfl rfl (by decide) ?_
      refine TrOps.nil ?_
      refine At.again (k + 1) (by omega) ?_ (by omega)
      exact .slot rfl (.refl _) <| .slot rfl (.refl _) <| .slot rfl (.refl _) <| .slot rfl (Le.of_eq (by simp)) <| .mem rfl <| .nil
    · have hk : k = s.length := by simp at c10; omega
      refine Tr.exit ?_
      refine At.pass_exit ?_
      refine At.pass_exit ?_
      refine At.block_same ?_
      refine At.seq ?_
      refine Tr.seq ?_
      refine Tr.region ?_
      refine TrOps.sem (OpSem.move (.inl rfl) rfl) rfl rfl (by decide) ?_
      refine TrOps.sem (OpSem.move (.inr rfl) rfl) rfl rfl (by decide) ?_
      refine TrOps.nil ?_
      refine At.seq ?_
      refine Tr.ret ?_
      exact At.ret rfl (.tmp rfl <| .nil) rfl (Le.i (by rw [hk]; rfl))

theorem R_Unrank_does (m : Multi) (n : Int) (hv : Valid m) (hn : 0 ≤ n) (hn2 : n ≤ 1679616) : DoesO Try.prog 52 [multi m, I (n)] 1 3 (((unrank m.sizes n).map fun n => [D.v (.int .i64 n)])) := by
  have hl := hv.len
  refine DoesO.of_body Try.func52 rfl rfl (by simp) Try.call52 (fun w0 O0 => ?_)
  refine Tr.lenG (n := 0) (i := 0) rfl rfl (fun len0_0 => ?_)
  refine Tr.lenG (n := 0) (i := 1) rfl rfl (fun len0_1 => ?_)
  refine Tr.lenG (n := 0) (i := 2) rfl rfl (fun len0_2 => ?_)
  refine Tr.lenG (n := 0) (i := 3) rfl rfl (fun len0_3 => ?_)
  refine Tr.seq ?_
  refine Tr.region ?_
  refine TrOps.semM (OpSem.box 2 rfl rfl rfl rfl) rfl rfl (by decide) ?_
  refine TrOps.sem (OpSem.move (.inr rfl) rfl) rfl rfl (by decide) ?_
  refine TrOps.nil ?_
  refine At.seq ?_
  refine Tr.seq ?_
  refine Tr.region ?_
  refine TrOps.sem (OpSem.fieldr rfl rfl fo26_0) rfl rfl (by decide) ?_
  refine TrOps.sem (OpSem.loadb1 rfl rfl rfl vs22 rfl) rfl rfl (by decide) ?_
  refine TrOps.sem (OpSem.lenL rfl rfl es22) rfl rfl (by decide) ?_
  refine TrOps.semM (OpSem.makeSlice 10 rfl rfl rfl es22 ze22 rfl rfl (by decide) bye22 (by omega) (by omega) (by omega)) rfl rfl (by decide) ?_
  refine TrOps.sem (OpSem.move (.inr rfl) rfl) rfl rfl (by decide) ?_
  refine TrOps.nil ?_
  refine At.seq ?_
  refine Tr.seq ?_
  refine Tr.seq ?_
  refine Tr.region ?_
  refine TrOps.sem (OpSem.move (.inl rfl) rfl) rfl rfl (by decide) ?_
  refine TrOps.sem (OpSem.leno rfl rfl rfl es22) rfl rfl (by decide) ?_
  refine TrOps.sem (OpSem.bin rfl rfl rfl (bsub (by simp; omega) (by simp; omega))) rfl rfl (by decide) ?_
  refine TrOps.sem (OpSem.move (.inr rfl) rfl) rfl rfl (by decide) ?_
  refine TrOps.nil ?_
  refine At.seq ?_
  refine Tr.block ?_
  refine Tr.loop (X := Nat) (fun j => j ≤ m.sizes.length) (fun j => [(1, I (quoTo m.sizes n j)), (2, .r 2 0), (5, .o 10), (6, I (((m.sizes.length : Int) - 1 - j)))]) (fun j => [(10, .own 1 3 ((unrTo m.sizes n j).map fun n => [D.v (.int .i64 n)])), (2, .box [.d (ints m.sizes), .d (ints m.init), .d (asgs m.goal), .d (opsD m.ops)])]) (fun j => m.sizes.length - j) 0 (by omega) ?_ ?_
  · exact .slot rfl (.refl _) <| .slot rfl (.refl _) <| .slot rfl (.refl _) <| .slot rfl (Le.of_eq (by simp)) <| .memEq rfl (by simp [unrTo_0, el22]) <| .mem rfl <| .nil
  · rintro j hjl
    refine Tr.seq ?_
    refine Tr.seq ?_
    refine Tr.region ?_
    refine TrOps.sem (OpSem.move (.inl rfl) rfl) rfl rfl (by decide) ?_
    refine TrOps.sem (OpSem.bin rfl rfl rfl bgeq) rfl rfl (by decide) ?_
    refine TrOps.nil ?_
    refine At.seq ?_
    refine Tr.cond rfl (fun c15 => ?_) (fun c15 => ?_)
    · have hj : j < m.sizes.length := by simp at c15; omega
      have hcast : (m.sizes.length : Int) - 1 - j = ((m.sizes.length - 1 - j : Nat) : Int) := by omega
      rw [hcast]
      have hz := hv.sizes (m.sizes.length - 1 - j) (by omega)
      have hq := quoTo_nn hv.sizes hn (j := j) (by omega)
      refine Tr.skip ?_
      refine At.seq ?_
      refine Tr.seq ?_
      refine Tr.block ?_
      refine Tr.seq ?_
      refine Tr.region ?_
      refine TrOps.sem (OpSem.move (.inl rfl) rfl) rfl rfl (by decide) ?_
      refine TrOps.sem (OpSem.move (.inl rfl) rfl) rfl rfl (by decide) ?_
      refine TrOps.sem (OpSem.move (.inl rfl) rfl) rfl rfl (by decide) ?_
      refine TrOps.sem (OpSem.fieldr rfl rfl fo26_0) rfl rfl (by decide) ?_
      refine TrOps.sem (OpSem.loadb1 rfl rfl rfl vs22 rfl) rfl rfl (by decide) ?_
      refine TrOps.sem (OpSem.move (.inl rfl) rfl) rfl rfl (by decide) ?_
      refine TrOps.sem (OpSem.idxL rfl rfl rfl es22 (by omega) (by omega)) rfl rfl (by decide) ?_
      refine TrOps.sem (OpSem.load1 rfl rfl vs3 rfl) rfl rfl (by decide) ?_
      refine TrOps.sem (OpSem.bin rfl rfl rfl (brem (by omega) (by omega))) rfl rfl (by decide) ?_
      refine TrOps.sem (OpSem.idxo rfl rfl rfl rfl es22 (by omega) (by simp [unrTo_len]; omega)) rfl rfl (by decide) ?_
      refine TrOps.storeq rfl rfl rfl rfl rfl rfl rfl vs3 (rows_get (by omega) (by rw [unrTo_len]; omega)) (by simp) ?_
      refine TrOps.nil ?_
      refine At.seq ?_
      refine Tr.region ?_
      refine TrOps.sem (OpSem.move (.inl rfl) rfl) rfl rfl (by decide) ?_
      refine TrOps.sem (OpSem.fieldr rfl rfl fo26_0) rfl rfl (by decide) ?_
      refine TrOps.sem (OpSem.loadb1 rfl rfl rfl vs22 rfl) rfl rfl (by decide) ?_
      refine TrOps.sem (OpSem.move (.inl rfl) rfl) rfl rfl (by decide) ?_
      refine TrOps.sem (OpSem.idxL rfl rfl rfl es22 (by omega) (by omega)) rfl rfl (by decide) ?_
      refine TrOps.sem (OpSem.load1 rfl rfl vs3 rfl) rfl rfl (by decide) ?_
      refine TrOps.sem (OpSem.bin rfl rfl rfl (bquo (by omega) (by omega) (by omega))) rfl rfl (by decide) ?_
      refine TrOps.sem (OpSem.move (.inr rfl) rfl) rfl rfl (by decide) ?_
      refine TrOps.nil ?_
      refine At.block_normal ?_
      refine At.seq ?_
      refine Tr.region ?_
      refine TrOps.sem (OpSem.move (.inl rfl) rfl) rfl rfl (by decide) ?_
      refine TrOps.sem (OpSem.bin rfl rfl rfl (bsub (by omega) (by omega))) rfl rfl (by decide) ?_
      refine TrOps.sem (OpSem.move (.inr rfl) rfl) rfl rfl (by decide) ?_
      refine TrOps.nil ?_
      refine At.again (j + 1) (by omega) ?_ (by omega)
      exact .slot rfl (.refl _) <| .slot rfl (.refl _) <| .slot rfl (.refl _) <| .slot rfl (Le.i (by omega)) <| .memEq rfl (by rw [← unrTo_s hj]; exact congrArg (Mo.own 1 3) (rows_set (f := fun n => [D.v (.int .i64 n)]))) <| .mem rfl <| .nil
    · have hj : j = m.sizes.length := by simp at c15; omega
      refine Tr.exit ?_
      refine At.pass_exit ?_
      refine At.pass_exit ?_
      refine At.block_same ?_
      refine At.seq ?_
      refine Tr.seq ?_
      refine Tr.region ?_
      refine TrOps.sem (OpSem.move (.inl rfl) rfl) rfl rfl (by decide) ?_
      refine TrOps.sem (OpSem.move (.inr rfl) rfl) rfl rfl (by decide) ?_
      refine TrOps.nil ?_
      refine At.seq ?_
      refine Tr.ret ?_
      exact At.retO2 rfl rfl rfl (by simp) (by rw [hj, unrTo_end])

end Go.Proofs.Ytohlmcebphcokaa
end

section
/- The costs of all states: the sweeps, and what bounds them from below. Plain functions behind project's laws: patterns and what they leave. -/

set_option linter.unusedVariables false
set_option linter.unusedSimpArgs false
set_option linter.unusedSectionVars false
namespace Go.Eng
open Go

abbrev stAt (m : Multi) (n : Nat) : List Int := unrank m.sizes n
/-- The rank behind an operator. -/
def rkAt (m : Multi) (n j : Nat) : Int := rank m.sizes (nextS (stAt m n) (nth m.ops j).post)
def initC (m : Multi) (k : Nat) : List Int := (List.range k).map fun n => if holds (stAt m n) m.goal = true then 0 else 1000000000
def stepC (m : Multi) (c : List Int × Bool) (n j : Nat) : List Int × Bool :=
  if holds (stAt m n) (nth m.ops j).pre = true then
    if nth c.1 (rkAt m n j) < 1000000000 ∧ nth c.1 (rkAt m n j) + (nth m.ops j).cost < nth c.1 n then (setI c.1 n (nth c.1 (rkAt m n j) + (nth m.ops j).cost), true) else c
  else c
def opsTo (m : Multi) (c : List Int × Bool) (n : Nat) : Nat → List Int × Bool
  | 0 => c
  | j + 1 => stepC m (opsTo m c n j) n j
def sweepTo (m : Multi) (c : List Int) : Nat → List Int × Bool
  | 0 => (c, false)
  | n + 1 => opsTo m (sweepTo m c n) n m.ops.length
def nR (m : Multi) : Nat := (ranks m.sizes).toNat
def sweep (m : Multi) (c : List Int) : List Int × Bool := sweepTo m c (nR m)
def itC (m : Multi) : Nat → List Int
  | 0 => initC m (nR m)
  | j + 1 => (sweep m (itC m j)).1
open Classical in
noncomputable def costs (m : Multi) : List Int := if h : ∃ j, (sweep m (itC m j)).2 = false then itC m (Classical.choose h) else List.replicate (nR m) 1000000000

theorem initC_len {m : Multi} {k : Nat} : (initC m k).length = k := by simp [initC]
theorem initC_s {m : Multi} {k : Nat} : initC m (k + 1) = initC m k ++ [if holds (stAt m k) m.goal = true then 0 else 1000000000] := by simp [initC, List.range_succ]

section
variable {m : Multi} (hv : Valid m)
theorem nR_in (hv : Valid m) : 1 ≤ nR m ∧ nR m ≤ 1679616 ∧ (nR m : Int) = ranks m.sizes := by
  have := ranks_in hv
  unfold nR
  omega
include hv
theorem st_state {n : Nat} : StateP m.sizes (stAt m n) := unrank_state hv.sizes
theorem rkAt_in {n j : Nat} (hj : j < m.ops.length) : 0 ≤ rkAt m n j ∧ rkAt m n j < nR m := by
  have := rank_in hv.sizes (nextS_in (st_state hv (n := n)) (hv.op j hj).2.1)
  have h2 := nR_in hv
  unfold rkAt
  omega
def GoodC (m : Multi) (c : List Int) : Prop := c.length = nR m ∧ ∀ n : Int, 0 ≤ n → n < nR m → 0 ≤ nth c n ∧ nth c n ≤ 1000000000
theorem initC_good : GoodC m (initC m (nR m)) := by
  refine ⟨initC_len, fun n h0 h1 => ?_⟩
  have e : nth (initC m (nR m)) n = nth (initC m (nR m)) (n.toNat : Int) := by rw [Int.toNat_of_nonneg h0]
  rw [e, nth_eq (by rw [initC_len]; omega)]
  simp only [initC, List.getElem_map, List.getElem_range]
  split <;> omega
/-- What one step keeps. -/
theorem stepC_keep {q : List Int → Prop} {c : List Int × Bool} {n j : Nat} (hj : j < m.ops.length) (hg : GoodC m c.1) (hq : q c.1) (hn : n < nR m)
    (hs : holds (stAt m n) (nth m.ops j).pre = true → nth c.1 (rkAt m n j) < 1000000000 → nth c.1 (rkAt m n j) + (nth m.ops j).cost < nth c.1 n → q (setI c.1 n (nth c.1 (rkAt m n j) + (nth m.ops j).cost))) :
    GoodC m (stepC m c n j).1 ∧ q (stepC m c n j).1 := by
  unfold stepC
  split
  · rename_i hp
    split
    · rename_i hk
      refine ⟨⟨by rw [setI_len]; exact hg.1, fun i h0 h1 => ?_⟩, hs hp hk.1 hk.2⟩
      have hr := rkAt_in hv (n := n) hj
      have h2 := hg.2 _ hr.1 hr.2
      have h3 := hg.2 n (by omega) (by omega)
      have h4 := hg.2 i h0 h1
      have ho := (hv.op j hj).2.2
      show 0 ≤ nth (setI c.1 n _) i ∧ _
      rw [nth_setI h0 (by rw [hg.1]; exact h1) (by omega)]
      split <;> omega
    · exact ⟨hg, hq⟩
  · exact ⟨hg, hq⟩
theorem opsTo_keep {q : List Int → Prop} {c : List Int × Bool} {n : Nat} (hg : GoodC m c.1) (hq : q c.1) (hn : n < nR m)
    (hs : ∀ (c : List Int) (j : Nat), j < m.ops.length → GoodC m c → q c → holds (stAt m n) (nth m.ops j).pre = true → nth c (rkAt m n j) < 1000000000 → nth c (rkAt m n j) + (nth m.ops j).cost < nth c n → q (setI c n (nth c (rkAt m n j) + (nth m.ops j).cost))) :
    ∀ {k : Nat}, k ≤ m.ops.length → GoodC m (opsTo m c n k).1 ∧ q (opsTo m c n k).1
  | 0, _ => ⟨hg, hq⟩
  | k + 1, hk => by
    obtain ⟨h1, h2⟩ := opsTo_keep hg hq hn hs (k := k) (by omega)
    exact stepC_keep hv (by omega) h1 h2 hn (fun hp a b => hs _ k (by omega) h1 h2 hp a b)
theorem sweepTo_keep {q : List Int → Prop} {c : List Int} (hg : GoodC m c) (hq : q c)
    (hs : ∀ (c : List Int) (n j : Nat), n < nR m → j < m.ops.length → GoodC m c → q c → holds (stAt m n) (nth m.ops j).pre = true → nth c (rkAt m n j) < 1000000000 → nth c (rkAt m n j) + (nth m.ops j).cost < nth c n → q (setI c n (nth c (rkAt m n j) + (nth m.ops j).cost))) :
    ∀ {k : Nat}, k ≤ nR m → GoodC m (sweepTo m c k).1 ∧ q (sweepTo m c k).1
  | 0, _ => ⟨hg, hq⟩
  | k + 1, hk => by
    obtain ⟨h1, h2⟩ := sweepTo_keep hg hq hs (k := k) (by omega)
    exact opsTo_keep hv h1 h2 (by omega) (fun c j hj a b d e f => hs c k j (by omega) hj a b d e f) (Nat.le_refl _)
theorem itC_keep {q : List Int → Prop} (hq : q (initC m (nR m)))
    (hs : ∀ (c : List Int) (n j : Nat), n < nR m → j < m.ops.length → GoodC m c → q c → holds (stAt m n) (nth m.ops j).pre = true → nth c (rkAt m n j) < 1000000000 → nth c (rkAt m n j) + (nth m.ops j).cost < nth c n → q (setI c n (nth c (rkAt m n j) + (nth m.ops j).cost))) :
    ∀ j : Nat, GoodC m (itC m j) ∧ q (itC m j)
  | 0 => ⟨initC_good hv, hq⟩
  | j + 1 => by
    obtain ⟨h1, h2⟩ := itC_keep hq hs j
    exact sweepTo_keep hv h1 h2 hs (Nat.le_refl _)
theorem itC_good (j : Nat) : GoodC m (itC m j) := (itC_keep hv (q := fun _ => True) trivial (fun _ _ _ _ _ _ _ _ _ _ => trivial) j).1
theorem sweepTo_good {c : List Int} (hg : GoodC m c) {k : Nat} (hk : k ≤ nR m) : GoodC m (sweepTo m c k).1 := (sweepTo_keep hv (q := fun _ => True) hg trivial (fun _ _ _ _ _ _ _ _ _ _ => trivial) hk).1
theorem opsTo_good {c : List Int × Bool} {n : Nat} (hg : GoodC m c.1) (hn : n < nR m) {k : Nat} (hk : k ≤ m.ops.length) : GoodC m (opsTo m c n k).1 := (opsTo_keep hv (q := fun _ => True) hg trivial hn (fun _ _ _ _ _ _ _ _ => trivial) hk).1
end

/-! ### The sum goes down -/
theorem sum_set : ∀ {l : List Int} {i : Nat} {x : Int} (h : i < l.length), (l.set i x).sum = l.sum - l[i] + x
  | a :: l, 0, x, h => by simp; omega
  | a :: l, i + 1, x, h => by
    have := sum_set (l := l) (i := i) (x := x) (by simpa using h)
    simp only [List.set_cons_succ, List.sum_cons, List.getElem_cons_succ]
    omega
theorem sum_nn : ∀ {l : List Int}, (∀ x, x ∈ l → 0 ≤ x) → 0 ≤ l.sum
  | [], _ => by simp
  | a :: l, h => by
    have h1 := h a (by simp)
    have h2 := sum_nn (l := l) (fun x hx => h x (by simp [hx]))
    simp only [List.sum_cons]
    omega
/-- Behind c0, with the flag: nothing has changed, or the sum is less. -/
def Down (c0 : List Int) (c : List Int × Bool) : Prop := (c.2 = false ∧ c.1 = c0) ∨ (c.2 = true ∧ c.1.sum < c0.sum)
section
variable {m : Multi} (hv : Valid m)
include hv
theorem stepC_down {c0 : List Int} {c : List Int × Bool} {n j : Nat} (hj : j < m.ops.length) (hn : n < nR m) (hg : GoodC m c.1) (hd : Down c0 c) : Down c0 (stepC m c n j) := by
  unfold stepC
  split
  · split
    · rename_i hk
      right
      refine ⟨rfl, ?_⟩
      have hlt : n < c.1.length := by rw [hg.1]; exact hn
      have h1 : (setI c.1 n (nth c.1 (rkAt m n j) + (nth m.ops j).cost)).sum < c.1.sum := by
        have h2 := hk.2
        rw [nth_eq hlt] at h2
        simp only [setI, Int.toNat_natCast]
        rw [sum_set hlt]
        omega
      rcases hd with ⟨_, e⟩ | ⟨_, e⟩
      · rw [← e]; exact h1
      · exact Int.lt_trans h1 e
    · exact hd
  · exact hd
theorem opsTo_down {c0 : List Int} {c : List Int × Bool} {n : Nat} (hn : n < nR m) (hg : GoodC m c.1) (hd : Down c0 c) : ∀ {k : Nat}, k ≤ m.ops.length → Down c0 (opsTo m c n k)
  | 0, _ => hd
  | k + 1, hk => stepC_down hv (by omega) hn (opsTo_good hv hg hn (by omega)) (opsTo_down hn hg hd (k := k) (by omega))
theorem sweepTo_down {c : List Int} (hg : GoodC m c) : ∀ {k : Nat}, k ≤ nR m → Down c (sweepTo m c k)
  | 0, _ => .inl ⟨rfl, rfl⟩
  | k + 1, hk => opsTo_down hv (by omega) (sweepTo_good hv hg (by omega)) (sweepTo_down hg (k := k) (by omega)) (Nat.le_refl _)
theorem sum_good {c : List Int} (hg : GoodC m c) : 0 ≤ c.sum := sum_nn fun x hx => by
  obtain ⟨i, hi, rfl⟩ := List.getElem_of_mem hx
  have := (hg.2 i (by omega) (by rw [← hg.1]; omega)).1
  rwa [nth_eq hi] at this
theorem itC_next (j : Nat) : ((sweep m (itC m j)).2 = false ∧ itC m (j + 1) = itC m j) ∨ ((sweep m (itC m j)).2 = true ∧ (itC m (j + 1)).sum < (itC m j).sum) := sweepTo_down hv (itC_good hv j) (Nat.le_refl _)
omit hv in
theorem itC_stay {j : Nat} (h : (sweep m (itC m j)).2 = false) (he : itC m (j + 1) = itC m j) : ∀ d, itC m (j + d) = itC m j
  | 0 => rfl
  | d + 1 => by
    have ih := itC_stay h he d
    show (sweep m (itC m (j + d))).1 = _
    rw [ih]; exact he
theorem itC_uniq {i j : Nat} (hi : (sweep m (itC m i)).2 = false) (hj : (sweep m (itC m j)).2 = false) : itC m i = itC m j := by
  have ei : itC m (i + 1) = itC m i := by rcases itC_next hv i with h | h; exact h.2; rw [h.1] at hi; cases hi
  have ej : itC m (j + 1) = itC m j := by rcases itC_next hv j with h | h; exact h.2; rw [h.1] at hj; cases hj
  rcases Nat.le_total i j with h | h
  · obtain ⟨d, rfl⟩ := Nat.exists_eq_add_of_le h; exact (itC_stay hi ei d).symm
  · obtain ⟨d, rfl⟩ := Nat.exists_eq_add_of_le h; exact itC_stay hj ej d
theorem costs_of {j : Nat} (hj : (sweep m (itC m j)).2 = false) : itC m j = costs m := by
  unfold costs
  rw [dif_pos ⟨j, hj⟩]
  exact itC_uniq hv hj (Classical.choose_spec (⟨j, hj⟩ : ∃ j, (sweep m (itC m j)).2 = false))
theorem costs_stay {j : Nat} (hj : (sweep m (itC m j)).2 = false) : itC m (j + 1) = costs m := by
  rw [← costs_of hv hj]
  rcases itC_next hv j with h | h
  · exact h.2
  · rw [h.1] at hj; cases hj
theorem costs_good : GoodC m (costs m) := by
  unfold costs
  split
  · exact itC_good hv _
  · refine ⟨by simp, fun n h0 h1 => ?_⟩
    have e : nth (List.replicate (nR m) (1000000000 : Int)) n = nth (List.replicate (nR m) (1000000000 : Int)) (n.toNat : Int) := by rw [Int.toNat_of_nonneg h0]
    rw [e, nth_eq (by simp; omega)]
    simp
/-- What is consistent is no more than the costs. -/
theorem costs_ge {f : List Int → Int} (h1 : ∀ s, StateP m.sizes s → f s ≤ 1000000000) (h2 : ∀ s, StateP m.sizes s → holds s m.goal = true → f s ≤ 0)
    (h3 : ∀ s, StateP m.sizes s → ∀ j : Nat, j < m.ops.length → holds s (nth m.ops j).pre = true → f s ≤ f (nextS s (nth m.ops j).post) + (nth m.ops j).cost) {s : List Int} (hs : StateP m.sizes s) : f s ≤ nth (costs m) (rank m.sizes s) := by
  have key : ∀ j : Nat, ∀ n : Nat, n < nR m → f (stAt m n) ≤ nth (itC m j) n := fun j => (itC_keep hv (q := fun c => ∀ n : Nat, n < nR m → f (stAt m n) ≤ nth c n) (fun n hn => by
    rw [nth_eq (by rw [initC_len]; exact hn)]
    simp only [initC, List.getElem_map, List.getElem_range]
    split
    · rename_i hh; exact h2 _ (st_state hv) hh
    · exact h1 _ (st_state hv)) (fun c n j hn hj hg hq hp _ hk i hi => by
      have hst := st_state hv (n := n)
      rw [nth_setI (by omega) (by rw [hg.1]; omega) (by omega)]
      split
      · rename_i e
        have e' : i = n := by omega
        rw [e']
        have hns := nextS_in hst (hv.op j hj).2.1
        have hr := rkAt_in hv (n := n) hj
        have h4 := h3 _ hst j hj hp
        have h5 := hq (rkAt m n j).toNat (by omega)
        rw [Int.toNat_of_nonneg hr.1] at h5
        have h6 : stAt m (rkAt m n j).toNat = nextS (stAt m n) (nth m.ops j).post := (unrank_toNat hv.sizes hns).1
        rw [h6] at h5
        omega
      · exact hq i hi) j).2
  obtain ⟨e1, e2⟩ := unrank_toNat hv.sizes hs
  have hr := rank_in hv.sizes hs
  have hk : ∀ n : Nat, n < nR m → f (stAt m n) ≤ nth (costs m) n := by
    unfold costs
    split
    · exact key _
    · intro n hn
      rw [nth_eq (by simpa using hn)]
      simp only [List.getElem_replicate]
      exact h1 _ (st_state hv)
  have := hk (rank m.sizes s).toNat e2
  rw [Int.toNat_of_nonneg hr.1] at this
  have h7 : stAt m (rank m.sizes s).toNat = s := e1
  rwa [h7] at this
end

/-! ### The walk's words -/
/-- Is another sweep due? -/
def flagC (m : Multi) : Nat → Bool
  | 0 => true
  | j + 1 => (sweep m (itC m j)).2
section
variable {m : Multi} (hv : Valid m)
include hv
theorem flag_lt {j : Nat} (h : flagC m j = true) : (itC m (j + 1)).sum.toNat + (if flagC m (j + 1) = true then 1 else 0) < (itC m j).sum.toNat + (if flagC m j = true then 1 else 0) := by
  have h1 := sum_good hv (itC_good hv (j + 1))
  have h2 := sum_good hv (itC_good hv j)
  rw [if_pos h]
  show _ + (if (sweep m (itC m j)).2 = true then 1 else 0) < _
  rcases itC_next hv j with ⟨a, b⟩ | ⟨a, b⟩
  · rw [a, b]; simp
  · rw [a]; simp; omega
theorem flag_end {j : Nat} (h : flagC m j = false) : itC m j = costs m := by
  cases j with
  | zero => cases h
  | succ j => exact costs_stay hv h
end
theorem stepC_0 {m : Multi} {c : List Int × Bool} {n j : Nat} (h : holds (stAt m n) (nth m.ops j).pre = false) : stepC m c n j = c := by unfold stepC; rw [if_neg (by simp [h])]
theorem stepC_1 {m : Multi} {c : List Int × Bool} {n j : Nat} (h : holds (stAt m n) (nth m.ops j).pre = true) (h1 : nth c.1 (rkAt m n j) < 1000000000) (h2 : nth c.1 (rkAt m n j) + (nth m.ops j).cost < nth c.1 n) : stepC m c n j = (setI c.1 n (nth c.1 (rkAt m n j) + (nth m.ops j).cost), true) := by
  unfold stepC; rw [if_pos h, if_pos ⟨h1, h2⟩]
theorem stepC_2 {m : Multi} {c : List Int × Bool} {n j : Nat} (h1 : ¬ (nth c.1 (rkAt m n j) < 1000000000 ∧ nth c.1 (rkAt m n j) + (nth m.ops j).cost < nth c.1 n)) : stepC m c n j = c := by
  unfold stepC; rw [if_neg h1]; split <;> rfl
end Go.Eng

set_option linter.unusedVariables false
set_option linter.unusedSimpArgs false
set_option linter.unusedSectionVars false
namespace Go.Eng
open Go

abbrev PatOk (sizes vars : List Int) (i : Nat) : Prop := 0 ≤ nth vars i ∧ nth vars i < sizes.length ∧ (0 < i → nth vars (i - 1 : Int) < nth vars i)
abbrev PatP (sizes vars : List Int) : Prop := ∀ i : Nat, i < vars.length → PatOk sizes vars i
def patCode (sizes vars : List Int) : Int := if vars.length = 0 then 9 else if ¬ PatP sizes vars then 5 else 0
def patFault (sizes vars : List Int) (i : Int) : Int × Int := if patCode sizes vars = 0 then (0, 0) else (patCode sizes vars, i)
/-- The places of a pattern, out of a list. -/
def sel (s vars : List Int) : List Int := vars.map fun v => nth s v
def selTo (s vars : List Int) (k : Nat) : List Int := (List.range k).map fun (i : Nat) => nth s (nth vars i)
/-- The fault of a task and a pattern. -/
def projFault (m : Multi) (vars : List Int) : Int × Int := if validate m = (0, 0) then patFault m.sizes vars (-8) else validate m
def prodTo (sizes vars : List Int) : Nat → Int
  | 0 => 1
  | k + 1 => prodTo sizes vars k * nth sizes (nth vars k)
/-- An assignment under a pattern: at the places of its variable. -/
def matchR (a : Asg) (vars : List Int) : Nat → List Asg
  | 0 => []
  | j + 1 => if a.1 = nth vars j then matchR a vars j ++ [((j : Int), a.2)] else matchR a vars j
def restrictTo (l : List Asg) (vars : List Int) : Nat → List Asg
  | 0 => []
  | k + 1 => restrictTo l vars k ++ matchR (nth l k) vars vars.length
def matchK (v i : Int) (l : List Asg) : Nat → List Asg
  | 0 => []
  | j + 1 => if (nth l j).1 = v then matchK v i l j ++ [(i, (nth l j).2)] else matchK v i l j
def keptTo (l : List Asg) (vars : List Int) : Nat → List Asg
  | 0 => []
  | k + 1 => keptTo l vars k ++ matchK (nth vars k) k l l.length
end Go.Eng
end

section
/- Walks, written by gen.py out of hints. -/



set_option linter.unusedVariables false
set_option linter.unusedSimpArgs false
namespace Go.Proofs.Ytohlmcebphcokaa
open Go.Eng
set_option maxRecDepth 10000
set_option maxHeartbeats 1000000

theorem R_MultiCosts_does (m : Multi) (hv : Valid m) : DoesO Try.prog 18 [multi m] 1 3 (((costs m).map fun n => [D.v (.int .i64 n)])) := by
  have hN := nR_in hv
  have hol := hv.opsLen
  refine DoesO.of_body Try.func18 rfl rfl (by simp) Try.call18 (fun w0 O0 => ?_)
  refine Tr.lenG (n := 0) (i := 0) rfl rfl (fun len0_0 => ?_)
  refine Tr.lenG (n := 0) (i := 1) rfl rfl (fun len0_1 => ?_)
  refine Tr.lenG (n := 0) (i := 2) rfl rfl (fun len0_2 => ?_)
  refine Tr.lenG (n := 0) (i := 3) rfl rfl (fun len0_3 => ?_)
  refine Tr.seq ?_
  refine Tr.region ?_
  refine TrOps.semM (OpSem.box 1 rfl rfl rfl rfl) rfl rfl (by decide) ?_
  refine TrOps.sem (OpSem.move (.inr rfl) rfl) rfl rfl (by decide) ?_
  refine TrOps.nil ?_
  refine At.seq ?_
  refine Tr.seq ?_
  refine Tr.region ?_
  refine TrOps.sem (OpSem.move (.inr rfl) rfl) rfl rfl (by decide) ?_
  refine TrOps.nil ?_
  refine At.seq ?_
  refine Tr.seq ?_
  refine Tr.seq ?_
  refine Tr.ownNil (n := 3) 3 1 3 rfl ?_
  refine Tr.region ?_
  refine TrOps.sem (OpSem.move (.inr rfl) rfl) rfl rfl (by decide) ?_
  refine TrOps.nil ?_
  refine At.seq ?_
  refine Tr.block ?_
  refine Tr.loop (X := Nat) (fun k => k ≤ nR m) (fun k => [(1, .r 1 0), (3, .o 3), (4, I (k))]) (fun k => [(3, .own 1 3 ((initC m k).map fun n => [D.v (.int .i64 n)])), (1, .box [.d (ints m.sizes), .d (ints m.init), .d (asgs m.goal), .d (opsD m.ops)])]) (fun k => nR m - k) 0 (by omega) ?_ ?_
  · exact .slot rfl (.refl _) <| .slot rfl (.refl _) <| .slot rfl (Le.of_eq (by simp)) <| .memEq rfl (by simp [initC]) <| .mem rfl <| .nil
  · rintro k hkl
    refine Tr.seq ?_
    refine Tr.seq ?_
    refine Tr.region ?_
    refine TrOps.sem (OpSem.move (.inl rfl) rfl) rfl rfl (by decide) ?_
    refine TrOps.sem (OpSem.loadbN rfl rfl rfl vs26 (by first | decide | simp)) rfl rfl (by decide) ?_
    refine TrOps.sem (OpSem.call0 (R_Ranks_does m hv) rfl rfl rfl rfl (Les.refl _)) rfl rfl (by decide) ?_
    refine TrOps.sem (OpSem.bin rfl rfl rfl blss) rfl rfl (by decide) ?_
    refine TrOps.nil ?_
    refine At.seq ?_
    refine Tr.cond rfl (fun c13 => ?_) (fun c13 => ?_)
    · have hk : k < nR m := by simp at c13; omega
      have hst := unrank_state (n := k) hv.sizes
      have hin : ∀ l : List Asg, AsgsP m.sizes l → ∀ i : Nat, i < l.length → 0 ≤ (nth l i).1 ∧ (nth l i).1 < (unrank m.sizes k).length := fun l hl i hi => ⟨(hl i hi).1, by have := (hl i hi).2.1; rw [hst.1]; exact this⟩
      refine Tr.skip ?_
      refine At.seq ?_
      refine Tr.seq ?_
      refine Tr.block ?_
      refine Tr.seq ?_
      refine PC.start [] ?_
      refine PC.sem (OpSem.loadbN rfl rfl rfl vs26 (by first | decide | simp)) rfl rfl ?_
      refine PC.sem (OpSem.move (.inl rfl) rfl) rfl rfl ?_
      refine PC.sem (OpSem.call0 (R_Unrank_does m k hv (by omega) (by omega)).fresh rfl rfl rfl rfl (Les.refl _)) rfl rfl ?_
      refine PC.sem (OpSem.fieldr rfl rfl fo26_2) rfl rfl ?_
      refine PC.sem (OpSem.loadb1 rfl rfl rfl vs23 rfl) rfl rfl ?_
      refine PC.done0 mixed (by kernel_rfl) (by kernel_rfl) (by kernel_rfl) (by kernel_rfl) (by kernel_rfl) ?_
      refine TrOps.sem (OpSem.call0 (R_MultiHolds_does (unrank m.sizes k) _ (hin _ hv.goal)) rfl rfl rfl rfl (Les.refl _)) rfl rfl (by decide) ?_
      refine TrOps.nil ?_
      refine At.seq ?_
      refine Tr.cond rfl (fun c21 => ?_) (fun c21 => ?_)
      · refine Tr.region ?_
        refine TrOps.sem (OpSem.move (.inl rfl) rfl) rfl rfl (by decide) ?_
        refine TrOps.sem (OpSem.buildSlice rfl rfl es22 ze22 rfl rfl (by decide) (by decide) rfl rfl) rfl rfl (by decide) ?_
        refine TrOps.append rfl rfl rfl (by decide) rfl rfl rfl es22 el22 zc3 rfl by3 (by simp [D.one, Value.oneCell']) (by simp [maxLen, initC_len]; omega) (by simp [initC_len]; omega) ?_
        refine TrOps.sem (OpSem.move (.inr rfl) rfl) rfl rfl (by decide) ?_
        refine TrOps.nil ?_
        refine At.block_normal ?_
        refine At.seq ?_
        refine Tr.region ?_
        refine TrOps.sem (OpSem.move (.inl rfl) rfl) rfl rfl (by decide) ?_
        refine TrOps.sem (OpSem.bin rfl rfl rfl (badd (by omega) (by omega))) rfl rfl (by decide) ?_
        refine TrOps.sem (OpSem.move (.inr rfl) rfl) rfl rfl (by decide) ?_
        refine TrOps.nil ?_
        refine At.again (k + 1) (by omega) ?_ (by omega)
        exact .slot rfl (.refl _) <| .slot rfl (.refl _) <| .slot rfl (Le.of_eq (by simp)) <| .memEq rfl (by rw [initC_s]; simp only [stAt]; simp [c21]) <| .mem rfl <| .nil
      · refine Tr.region ?_
        refine TrOps.sem (OpSem.move (.inl rfl) rfl) rfl rfl (by decide) ?_
        refine TrOps.sem (OpSem.buildSlice rfl rfl es22 ze22 rfl rfl (by decide) (by decide) rfl rfl) rfl rfl (by decide) ?_
        refine TrOps.append rfl rfl rfl (by decide) rfl rfl rfl es22 el22 zc3 rfl by3 (by simp [D.one, Value.oneCell']) (by simp [maxLen, initC_len]; omega) (by simp [initC_len]; omega) ?_
        refine TrOps.sem (OpSem.move (.inr rfl) rfl) rfl rfl (by decide) ?_
        refine TrOps.nil ?_
        refine At.block_normal ?_
        refine At.seq ?_
        refine Tr.region ?_
        refine TrOps.sem (OpSem.move (.inl rfl) rfl) rfl rfl (by decide) ?_
        refine TrOps.sem (OpSem.bin rfl rfl rfl (badd (by omega) (by omega))) rfl rfl (by decide) ?_
        refine TrOps.sem (OpSem.move (.inr rfl) rfl) rfl rfl (by decide) ?_
        refine TrOps.nil ?_
        refine At.again (k + 1) (by omega) ?_ (by omega)
        exact .slot rfl (.refl _) <| .slot rfl (.refl _) <| .slot rfl (Le.of_eq (by simp)) <| .memEq rfl (by rw [initC_s]; simp only [stAt]; simp [c21]) <| .mem rfl <| .nil
    · have hk : k = nR m := by simp at c13; omega
      subst hk
      refine Tr.exit ?_
      refine At.pass_exit ?_
      refine At.pass_exit ?_
      refine At.block_same ?_
      refine At.seq ?_
      refine Tr.seq ?_
      refine Tr.seq ?_
      refine Tr.region ?_
      refine TrOps.sem (OpSem.move (.inr rfl) rfl) rfl rfl (by decide) ?_
      refine TrOps.nil ?_
      refine At.seq ?_
      refine Tr.block ?_
      refine Tr.loop (X := Nat) (fun j => True) (fun j => [(1, .r 1 0), (3, .o 3), (5, Bo (flagC m j))]) (fun j => [(3, .own 1 3 ((itC m j).map fun n => [D.v (.int .i64 n)])), (1, .box [.d (ints m.sizes), .d (ints m.init), .d (asgs m.goal), .d (opsD m.ops)])]) (fun j => (itC m j).sum.toNat + (if flagC m j = true then 1 else 0)) 0 trivial ?_ ?_
      · exact .slot rfl (.refl _) <| .slot rfl (.refl _) <| .slot rfl (.refl _) <| .memEq rfl rfl <| .mem rfl <| .nil
      · rintro j _
        refine Tr.seq ?_
        refine Tr.seq ?_
        refine Tr.region ?_
        refine TrOps.sem (OpSem.move (.inl rfl) rfl) rfl rfl (by decide) ?_
        refine TrOps.nil ?_
        refine At.seq ?_
        refine Tr.cond rfl (fun c28 => ?_) (fun c28 => ?_)
        · refine Tr.skip ?_
          refine At.seq ?_
          refine Tr.block ?_
          refine Tr.seq ?_
          refine Tr.region ?_
          refine TrOps.sem (OpSem.move (.inr rfl) rfl) rfl rfl (by decide) ?_
          refine TrOps.nil ?_
          refine At.seq ?_
          refine Tr.seq ?_
          refine Tr.region ?_
          refine TrOps.sem (OpSem.move (.inr rfl) rfl) rfl rfl (by decide) ?_
          refine TrOps.nil ?_
          refine At.seq ?_
          refine Tr.block ?_
          refine Tr.loop (X := Nat) (fun n => n ≤ nR m) (fun n => [(1, .r 1 0), (3, .o 3), (5, Bo ((sweepTo m (itC m j) n).2)), (6, I (n))]) (fun n => [(3, .own 1 3 (((sweepTo m (itC m j) n).1).map fun n => [D.v (.int .i64 n)])), (1, .box [.d (ints m.sizes), .d (ints m.init), .d (asgs m.goal), .d (opsD m.ops)])]) (fun n => nR m - n) 0 (by omega) ?_ ?_
          · exact .slot rfl (.refl _) <| .slot rfl (.refl _) <| .slot rfl (.refl _) <| .slot rfl (Le.of_eq (by simp)) <| .memEq rfl rfl <| .mem rfl <| .nil
          · rintro n hnl
            have hg := sweepTo_good hv (itC_good hv j) hnl
            refine Tr.seq ?_
            refine Tr.seq ?_
            refine Tr.region ?_
            refine TrOps.sem (OpSem.move (.inl rfl) rfl) rfl rfl (by decide) ?_
            refine TrOps.sem (OpSem.move (.inl rfl) rfl) rfl rfl (by decide) ?_
            refine TrOps.sem (OpSem.leno rfl rfl rfl es22) rfl rfl (by decide) ?_
            refine TrOps.sem (OpSem.bin rfl rfl rfl blss) rfl rfl (by decide) ?_
            refine TrOps.nil ?_
            refine At.seq ?_
            refine Tr.cond rfl (fun c32 => ?_) (fun c32 => ?_)
            · have hn : n < nR m := by have := hg.1; simp at c32; omega
              have hst := unrank_state (n := n) hv.sizes
              have hin : ∀ l : List Asg, AsgsP m.sizes l → ∀ i : Nat, i < l.length → 0 ≤ (nth l i).1 ∧ (nth l i).1 < (unrank m.sizes n).length := fun l hl i hi => ⟨(hl i hi).1, by have := (hl i hi).2.1; rw [hst.1]; exact this⟩
              refine Tr.skip ?_
              refine At.seq ?_
              refine Tr.seq ?_
              refine Tr.block ?_
              refine Tr.seq ?_
              refine Tr.region ?_
              refine TrOps.sem (OpSem.loadbN rfl rfl rfl vs26 (by first | decide | simp)) rfl rfl (by decide) ?_
              refine TrOps.sem (OpSem.move (.inl rfl) rfl) rfl rfl (by decide) ?_
              refine TrOps.semM (OpSem.callO 37 (R_Unrank_does m n hv (by omega) (by omega)) rfl rfl rfl rfl (Les.refl _)) rfl rfl (by decide) ?_
              refine TrOps.sem (OpSem.move (.inr rfl) rfl) rfl rfl (by decide) ?_
              refine TrOps.nil ?_
              refine At.seq ?_
              refine Tr.seq ?_
              refine Tr.region ?_
              refine TrOps.sem (OpSem.move (.inr rfl) rfl) rfl rfl (by decide) ?_
              refine TrOps.nil ?_
              refine At.seq ?_
              refine Tr.block ?_
              refine Tr.loop (X := Nat) (fun i => i ≤ m.ops.length) (fun i => [(1, .r 1 0), (3, .o 3), (5, Bo ((opsTo m (sweepTo m (itC m j) n) n i).2)), (6, I (n)), (7, .o 37), (8, I (i))]) (fun i => [(3, .own 1 3 (((opsTo m (sweepTo m (itC m j) n) n i).1).map fun n => [D.v (.int .i64 n)])), (37, .own 1 3 ((unrank m.sizes n).map fun n => [D.v (.int .i64 n)])), (1, .box [.d (ints m.sizes), .d (ints m.init), .d (asgs m.goal), .d (opsD m.ops)])]) (fun i => m.ops.length - i) 0 (by omega) ?_ ?_
              · exact .slot rfl (.refl _) <| .slot rfl (.refl _) <| .slot rfl (.refl _) <| .slot rfl (.refl _) <| .slot rfl (.refl _) <| .slot rfl (Le.of_eq (by simp)) <| .memEq rfl rfl <| .mem rfl <| .mem rfl <| .nil
              · rintro i hil
                have hgo := opsTo_good hv hg hn hil
                refine Tr.seq ?_
                refine Tr.seq ?_
                refine Tr.region ?_
                refine TrOps.sem (OpSem.move (.inl rfl) rfl) rfl rfl (by decide) ?_
                refine TrOps.sem (OpSem.fieldr rfl rfl fo26_3) rfl rfl (by decide) ?_
                refine TrOps.sem (OpSem.loadb1 rfl rfl rfl vs24 rfl) rfl rfl (by decide) ?_
                refine TrOps.sem (OpSem.lenL rfl rfl es24) rfl rfl (by decide) ?_
                refine TrOps.sem (OpSem.bin rfl rfl rfl blss) rfl rfl (by decide) ?_
                refine TrOps.nil ?_
                refine At.seq ?_
                refine Tr.cond rfl (fun c42 => ?_) (fun c42 => ?_)
                · have hi : i < m.ops.length := by simpa using c42
                  have ho := hv.op i hi
                  have hns := nextS_in hst ho.2.1
                  have hr := rkAt_in hv (n := n) hi
                  have hc1 := hgo.2 _ hr.1 hr.2
                  have hc2 := hgo.2 n (by omega) (by omega)
                  have hlen := hgo.1
                  refine Tr.skip ?_
                  refine At.seq ?_
                  refine Tr.seq ?_
                  refine Tr.block ?_
                  refine Tr.seq ?_
                  refine Tr.seq ?_
                  refine Tr.region ?_
                  refine TrOps.sem (OpSem.move (.inl rfl) rfl) rfl rfl (by decide) ?_
                  refine TrOps.sem (OpSem.fieldr rfl rfl fo26_3) rfl rfl (by decide) ?_
                  refine TrOps.sem (OpSem.loadb1 rfl rfl rfl vs24 rfl) rfl rfl (by decide) ?_
                  refine TrOps.sem (OpSem.move (.inl rfl) rfl) rfl rfl (by decide) ?_
                  refine TrOps.sem (OpSem.idxL rfl rfl rfl es24 (by omega) (by omega)) rfl rfl (by decide) ?_
                  refine TrOps.sem (OpSem.fieldp rfl rfl fo81_0) rfl rfl (by decide) ?_
                  refine TrOps.sem (OpSem.load1 rfl rfl vs23 rfl) rfl rfl (by decide) ?_
                  refine TrOps.sem (OpSem.call (R_MultiHolds_does (unrank m.sizes n) _ (hin _ ho.1)) (.inr rfl) rfl rfl rfl rfl (Les.refl _)) rfl rfl (by decide) ?_
                  refine TrOps.sem (OpSem.not rfl rfl) rfl rfl (by decide) ?_
                  refine TrOps.nil ?_
                  refine At.seq ?_
                  refine Tr.cond rfl (fun c53 => ?_) (fun c53 => ?_)
                  · refine Tr.exit ?_
                    refine At.pass_exit ?_
                    refine At.block_same ?_
                    refine At.seq ?_
                    refine Tr.region ?_
                    refine TrOps.sem (OpSem.move (.inl rfl) rfl) rfl rfl (by decide) ?_
                    refine TrOps.sem (OpSem.bin rfl rfl rfl (badd (by omega) (by omega))) rfl rfl (by decide) ?_
                    refine TrOps.sem (OpSem.move (.inr rfl) rfl) rfl rfl (by decide) ?_
                    refine TrOps.nil ?_
                    have hS : opsTo m (sweepTo m (itC m j) n) n (i + 1) = _ := stepC_0 (by simpa using c53)
                    refine At.again (i + 1) (by omega) ?_ (by omega)
                    exact .slot rfl (.refl _) <| .slot rfl (.refl _) <| .slot rfl (Le.bo (by rw [hS])) <| .slot rfl (.refl _) <| .slot rfl (.refl _) <| .slot rfl (Le.of_eq (by simp)) <| .memEq rfl (by rw [hS]) <| .mem rfl <| .mem rfl <| .nil
                  · refine Tr.skip ?_
                    refine At.seq ?_
                    refine Tr.seq ?_
                    refine PC.start [] ?_
                    refine PC.sem (OpSem.move (.inl rfl) rfl) rfl rfl ?_
                    refine PC.sem (OpSem.loadbN rfl rfl rfl vs26 (by first | decide | simp)) rfl rfl ?_
                    refine PC.sem (OpSem.loadbN rfl rfl rfl vs26 (by first | decide | simp)) rfl rfl ?_
                    refine PC.sem (OpSem.move (.inl rfl) rfl) rfl rfl ?_
                    refine PC.sem (OpSem.move (.inl rfl) rfl) rfl rfl ?_
                    refine PC.sem (OpSem.call (R_MultiAfter_does m (unrank m.sizes n) i hv hst (by omega) (by omega)).fresh (.inl rfl) rfl rfl rfl rfl (Les.refl _)) rfl rfl ?_
                    refine PC.sem (OpSem.call0 (show Does Try.prog false 19 [multi m, .d (ints (nextS (unrank m.sizes n) (nth m.ops i).post))] (I (rkAt m n i)) from R_Rank_does m _ hv hns) rfl rfl rfl rfl (Les.refl _)) rfl rfl ?_
                    refine PC.done0 mixed (by kernel_rfl) (by kernel_rfl) (by kernel_rfl) (by kernel_rfl) (by kernel_rfl) ?_
                    refine TrOps.sem (OpSem.idxo rfl rfl rfl rfl es22 (by omega) (by simp; omega)) rfl rfl (by decide) ?_
                    refine TrOps.sem (OpSem.loadq rfl rfl rfl vs3 (rows_get (by omega) (by omega)) rfl) rfl rfl (by decide) ?_
                    refine TrOps.sem (OpSem.move (.inr rfl) rfl) rfl rfl (by decide) ?_
                    refine TrOps.nil ?_
                    refine At.seq ?_
                    refine Tr.seq ?_
                    refine PC.start [] ?_
                    refine PC.sem (OpSem.move (.inl rfl) rfl) rfl rfl ?_
                    refine PC.sem (OpSem.bin rfl rfl rfl blss) rfl rfl ?_
                    refine PC.sem (OpSem.move (.inl rfl) rfl) rfl rfl ?_
                    refine PC.split (n := 65) rfl (fun c65 => ?_) (fun c65 => ?_)
                    · refine PC.gT (OpSem.move (.inl rfl) rfl) rfl rfl rfl rfl c65 rfl ?_
                      refine PC.gT (OpSem.fieldr rfl rfl fo26_3) rfl rfl rfl rfl c65 rfl ?_
                      refine PC.gT (OpSem.loadb1 rfl rfl rfl vs24 rfl) rfl rfl rfl rfl c65 rfl ?_
                      refine PC.gT (OpSem.move (.inl rfl) rfl) rfl rfl rfl rfl c65 rfl ?_
                      refine PC.gT (OpSem.idxL rfl rfl rfl es24 (by omega) (by omega)) rfl rfl rfl rfl c65 rfl ?_
                      refine PC.gT (OpSem.fieldp rfl rfl fo81_2) rfl rfl rfl rfl c65 rfl ?_
                      refine PC.gT (OpSem.load1 rfl rfl vs3 rfl) rfl rfl rfl rfl c65 rfl ?_
                      refine PC.gT (OpSem.bin rfl rfl rfl (badd (by omega) (by omega))) rfl rfl rfl rfl c65 rfl ?_
                      refine PC.gT (OpSem.move (.inl rfl) rfl) rfl rfl rfl rfl c65 rfl ?_
                      refine PC.gT (OpSem.move (.inl rfl) rfl) rfl rfl rfl rfl c65 rfl ?_
                      refine PC.gT (OpSem.idxo rfl rfl rfl rfl es22 (by omega) (by simp; omega)) rfl rfl rfl rfl c65 rfl ?_
                      refine PC.gT (OpSem.loadq rfl rfl rfl vs3 (rows_get (by omega) (by omega)) rfl) rfl rfl rfl rfl c65 rfl ?_
                      refine PC.done0 mixed (by kernel_rfl) (by kernel_rfl) (by kernel_rfl) (by kernel_rfl) (by kernel_rfl) ?_
                      refine TrOps.gT rfl rfl rfl rfl c65 ?_
                      refine TrOps.sem (OpSem.bin rfl rfl rfl blss) rfl rfl (by decide) ?_
                      refine TrOps.sem (OpSem.pickT rfl rfl c65 rfl) rfl rfl (by decide) ?_
                      refine TrOps.nil ?_
                      refine At.seq ?_
                      refine Tr.cond rfl (fun c79 => ?_) (fun c79 => ?_)
                      · refine Tr.seq ?_
                        refine Tr.region ?_
                        refine TrOps.sem (OpSem.move (.inl rfl) rfl) rfl rfl (by decide) ?_
                        refine TrOps.sem (OpSem.move (.inl rfl) rfl) rfl rfl (by decide) ?_
                        refine TrOps.sem (OpSem.move (.inl rfl) rfl) rfl rfl (by decide) ?_
                        refine TrOps.sem (OpSem.fieldr rfl rfl fo26_3) rfl rfl (by decide) ?_
                        refine TrOps.sem (OpSem.loadb1 rfl rfl rfl vs24 rfl) rfl rfl (by decide) ?_
                        refine TrOps.sem (OpSem.move (.inl rfl) rfl) rfl rfl (by decide) ?_
                        refine TrOps.sem (OpSem.idxL rfl rfl rfl es24 (by omega) (by omega)) rfl rfl (by decide) ?_
                        refine TrOps.sem (OpSem.fieldp rfl rfl fo81_2) rfl rfl (by decide) ?_
                        refine TrOps.sem (OpSem.load1 rfl rfl vs3 rfl) rfl rfl (by decide) ?_
                        refine TrOps.sem (OpSem.bin rfl rfl rfl (badd (by omega) (by omega))) rfl rfl (by decide) ?_
                        refine TrOps.sem (OpSem.idxo rfl rfl rfl rfl es22 (by omega) (by simp; omega)) rfl rfl (by decide) ?_
                        refine TrOps.storeq rfl rfl rfl rfl rfl rfl rfl vs3 (rows_get (by omega) (by omega)) (by simp) ?_
                        refine TrOps.nil ?_
                        refine At.seq ?_
                        refine Tr.region ?_
                        refine TrOps.sem (OpSem.move (.inr rfl) rfl) rfl rfl (by decide) ?_
                        refine TrOps.nil ?_
                        refine At.block_normal ?_
                        refine At.seq ?_
                        refine Tr.region ?_
                        refine TrOps.sem (OpSem.move (.inl rfl) rfl) rfl rfl (by decide) ?_
                        refine TrOps.sem (OpSem.bin rfl rfl rfl (badd (by omega) (by omega))) rfl rfl (by decide) ?_
                        refine TrOps.sem (OpSem.move (.inr rfl) rfl) rfl rfl (by decide) ?_
                        refine TrOps.nil ?_
                        have hS : opsTo m (sweepTo m (itC m j) n) n (i + 1) = _ := stepC_1 (by simpa using c53) (by simpa using c65) (by simpa using c79)
                        refine At.again (i + 1) (by omega) ?_ (by omega)
                        exact .slot rfl (.refl _) <| .slot rfl (.refl _) <| .slot rfl (Le.bo (by rw [hS])) <| .slot rfl (.refl _) <| .slot rfl (.refl _) <| .slot rfl (Le.of_eq (by simp)) <| .memEq rfl (by rw [hS]; exact congrArg (Mo.own 1 3) (rows_set (f := fun n => [D.v (.int .i64 n)]))) <| .mem rfl <| .mem rfl <| .nil
                      · refine Tr.skip ?_
                        refine At.block_normal ?_
                        refine At.seq ?_
                        refine Tr.region ?_
                        refine TrOps.sem (OpSem.move (.inl rfl) rfl) rfl rfl (by decide) ?_
                        refine TrOps.sem (OpSem.bin rfl rfl rfl (badd (by omega) (by omega))) rfl rfl (by decide) ?_
                        refine TrOps.sem (OpSem.move (.inr rfl) rfl) rfl rfl (by decide) ?_
                        refine TrOps.nil ?_
                        have hS : opsTo m (sweepTo m (itC m j) n) n (i + 1) = _ := stepC_2 (fun h => by have := h.2; simp at c79; omega)
                        refine At.again (i + 1) (by omega) ?_ (by omega)
                        exact .slot rfl (.refl _) <| .slot rfl (.refl _) <| .slot rfl (Le.bo (by rw [hS])) <| .slot rfl (.refl _) <| .slot rfl (.refl _) <| .slot rfl (Le.of_eq (by simp)) <| .memEq rfl (by rw [hS]) <| .mem rfl <| .mem rfl <| .nil
                    · refine PC.gF rfl rfl rfl rfl c65 rfl ?_
                      refine PC.gF rfl rfl rfl rfl c65 rfl ?_
                      refine PC.gF rfl rfl rfl rfl c65 rfl ?_
                      refine PC.gF rfl rfl rfl rfl c65 rfl ?_
                      refine PC.gF rfl rfl rfl rfl c65 rfl ?_
                      refine PC.gF rfl rfl rfl rfl c65 rfl ?_
                      refine PC.gF rfl rfl rfl rfl c65 rfl ?_
                      refine PC.gF rfl rfl rfl rfl c65 rfl ?_
                      refine PC.gF rfl rfl rfl rfl c65 rfl ?_
                      refine PC.gF rfl rfl rfl rfl c65 rfl ?_
                      refine PC.gF rfl rfl rfl rfl c65 rfl ?_
                      refine PC.gF rfl rfl rfl rfl c65 rfl ?_
                      refine PC.done0 mixed (by kernel_rfl) (by kernel_rfl) (by kernel_rfl) (by kernel_rfl) (by kernel_rfl) ?_
                      refine TrOps.gF rfl rfl rfl rfl c65 rfl (by decide) ?_
                      refine TrOps.sem (OpSem.pickF rfl rfl c65 rfl) rfl rfl (by decide) ?_
                      refine TrOps.nil ?_
                      refine At.seq ?_
                      refine Tr.condF rfl rfl ?_
                      refine Tr.skip ?_
                      refine At.block_normal ?_
                      refine At.seq ?_
                      refine Tr.region ?_
                      refine TrOps.sem (OpSem.move (.inl rfl) rfl) rfl rfl (by decide) ?_
                      refine TrOps.sem (OpSem.bin rfl rfl rfl (badd (by omega) (by omega))) rfl rfl (by decide) ?_
                      refine TrOps.sem (OpSem.move (.inr rfl) rfl) rfl rfl (by decide) ?_
                      refine TrOps.nil ?_
                      have hS : opsTo m (sweepTo m (itC m j) n) n (i + 1) = _ := stepC_2 (fun h => by have := h.1; simp at c65; omega)
                      refine At.again (i + 1) (by omega) ?_ (by omega)
                      exact .slot rfl (.refl _) <| .slot rfl (.refl _) <| .slot rfl (Le.bo (by rw [hS])) <| .slot rfl (.refl _) <| .slot rfl (.refl _) <| .slot rfl (Le.of_eq (by simp)) <| .memEq rfl (by rw [hS]) <| .mem rfl <| .mem rfl <| .nil
                · have hi : i = m.ops.length := by simp at c42; omega
                  subst hi
                  refine Tr.exit ?_
                  refine At.pass_exit ?_
                  refine At.pass_exit ?_
                  refine At.block_same ?_
                  refine At.block_normal ?_
                  refine At.seq ?_
                  refine Tr.region ?_
                  refine TrOps.sem (OpSem.move (.inl rfl) rfl) rfl rfl (by decide) ?_
                  refine TrOps.sem (OpSem.bin rfl rfl rfl (badd (by omega) (by omega))) rfl rfl (by decide) ?_
                  refine TrOps.sem (OpSem.move (.inr rfl) rfl) rfl rfl (by decide) ?_
                  refine TrOps.nil ?_
                  refine At.again (n + 1) (by omega) ?_ (by omega)
                  exact .slot rfl (.refl _) <| .slot rfl (.refl _) <| .slot rfl (.refl _) <| .slot rfl (Le.of_eq (by simp)) <| .memEq rfl rfl <| .mem rfl <| .nil
            · have hn : n = nR m := by have := hg.1; simp at c32; omega
              subst hn
              refine Tr.exit ?_
              refine At.pass_exit ?_
              refine At.pass_exit ?_
              refine At.block_same ?_
              refine At.block_normal ?_
              refine At.again (j + 1) trivial ?_ (flag_lt hv c28)
              exact .slot rfl (.refl _) <| .slot rfl (.refl _) <| .slot rfl (.refl _) <| .mem rfl <| .mem rfl <| .nil
        · refine Tr.exit ?_
          refine At.pass_exit ?_
          refine At.pass_exit ?_
          refine At.block_same ?_
          refine At.seq ?_
          refine Tr.seq ?_
          refine Tr.region ?_
          refine TrOps.sem (OpSem.move (.inl rfl) rfl) rfl rfl (by decide) ?_
          refine TrOps.sem (OpSem.move (.inr rfl) rfl) rfl rfl (by decide) ?_
          refine TrOps.nil ?_
          refine At.seq ?_
          refine Tr.ret ?_
          exact At.retO2 rfl rfl rfl (by simp) (by rw [flag_end hv c28])

end Go.Proofs.Ytohlmcebphcokaa
end

section
/- Projections: the projected task, what it keeps, and its costs. -/

set_option linter.unusedVariables false
set_option linter.unusedSimpArgs false
set_option linter.unusedSectionVars false
namespace Go.Eng
open Go

/-! ### Sorted assignments -/
abbrev SortedA (l : List Asg) : Prop := l.Pairwise fun a b => a.1 < b.1
theorem ext_get {α : Type} [Inhabited α] {l l' : List α} (hl : l.length = l'.length) (h : ∀ i : Nat, i < l.length → nth l i = nth l' i) : l = l' := by
  refine List.ext_getElem hl fun i h1 h2 => ?_
  have := h i h1
  rwa [nth_eq h1, nth_eq h2] at this
theorem asgs_mono2 {sizes : List Int} {l : List Asg} (h : AsgsP sizes l) : ∀ (d i : Nat), i + d + 1 < l.length → (nth l i).1 < (nth l (i + d + 1 : Nat)).1
  | 0, i, hi => by
    have := (h (i + 1) (by omega)).2.2.2.2 (by omega)
    have e : ((i + 1 : Nat) : Int) - 1 = (i : Int) := by omega
    rw [e] at this
    exact this
  | d + 1, i, hi => by
    have h1 := asgs_mono2 h d i (by omega)
    have := (h (i + (d + 1) + 1) (by omega)).2.2.2.2 (by omega)
    have e : ((i + (d + 1) + 1 : Nat) : Int) - 1 = ((i + d + 1 : Nat) : Int) := by omega
    rw [e] at this
    exact Int.lt_trans h1 this
theorem asgsP_sorted {sizes : List Int} {l : List Asg} (h : AsgsP sizes l) : SortedA l := by
  rw [SortedA, List.pairwise_iff_getElem]
  intro i j hi hj hij
  have := asgs_mono2 h (j - i - 1) i (by omega)
  have e : i + (j - i - 1) + 1 = j := by omega
  rw [e, nth_eq hi, nth_eq hj] at this
  exact this
theorem asgsP_mem {sizes : List Int} {l : List Asg} (h : AsgsP sizes l) {a : Asg} (ha : a ∈ l) : 0 ≤ a.1 ∧ a.1 < sizes.length ∧ 0 ≤ a.2 ∧ a.2 < nth sizes a.1 := by
  obtain ⟨i, hi, rfl⟩ := List.getElem_of_mem ha
  have := h i hi
  unfold AsgOk at this
  rw [nth_eq hi] at this
  exact ⟨this.1, this.2.1, this.2.2.1, this.2.2.2.1⟩
theorem sortedA_uniq {l : List Asg} (hs : SortedA l) {a b : Asg} (ha : a ∈ l) (hb : b ∈ l) (h : a.1 = b.1) : a = b := by
  induction l with
  | nil => simp at ha
  | cons x l ih =>
    rw [SortedA, List.pairwise_cons] at hs
    simp only [List.mem_cons] at ha hb
    rcases ha with rfl | ha <;> rcases hb with rfl | hb
    · rfl
    · have := hs.1 b hb; omega
    · have := hs.1 a ha; omega
    · exact ih hs.2 ha hb

/-! ### What a pattern leaves of assignments -/
theorem sorted_get {l : List Asg} (hs : SortedA l) {i j : Nat} (hij : i < j) (hj : j < l.length) : (nth l i).1 < (nth l j).1 := by
  rw [SortedA, List.pairwise_iff_getElem] at hs
  rw [nth_eq (by omega), nth_eq hj]
  exact hs i j (by omega) hj hij
/-- What a pattern leaves of a list of assignments. -/
def restr (l : List Asg) (vars : List Int) : List Asg := restrictTo l vars l.length
/-- The projected task. -/
def projM (m : Multi) (vars : List Int) : Multi := ⟨sel m.sizes vars, sel m.init vars, restr m.goal vars, m.ops.map fun o => ⟨restr o.pre vars, restr o.post vars, o.cost⟩⟩
section
variable {sizes vars : List Int} (hp : PatP sizes vars)
include hp
end
theorem holds_mem {s : List Int} {l : List Asg} : holds s l = true ↔ ∀ a, a ∈ l → nth s a.1 = a.2 := by
  unfold holds
  simp only [Bool.not_eq_true', ← Bool.not_eq_true, List.any_eq_true]
  constructor
  · intro h a ha
    refine Decidable.byContradiction fun hc => h ⟨a, ha, by simp [hc]⟩
  · rintro h ⟨a, ha, hc⟩
    simp at hc
    exact hc (h a ha)
theorem nextTo_at {sizes s : List Int} {l : List Asg} (hl : AsgsP sizes l) (hs : s.length = sizes.length) {v : Int} (h0 : 0 ≤ v) (h1 : v < sizes.length) : ∀ {k : Nat}, k ≤ l.length →
    (∀ i : Nat, i < k → (nth l i).1 = v → nth (nextTo s l k) v = (nth l i).2) ∧ ((∀ i : Nat, i < k → (nth l i).1 ≠ v) → nth (nextTo s l k) v = nth s v)
  | 0, _ => ⟨fun i hi => by omega, fun _ => rfl⟩
  | k + 1, hk => by
    obtain ⟨ih1, ih2⟩ := nextTo_at hl hs h0 h1 (k := k) (by omega)
    have hb := hl k (by omega)
    have hn := nextTo_len (s := s) (l := l) (k := k)
    have e : nth (nextTo s l (k + 1)) v = if v = (nth l k).1 then (nth l k).2 else nth (nextTo s l k) v := nth_setI h0 (by omega) hb.1
    rw [e]
    constructor
    · intro i hi hiv
      by_cases hik : i = k
      · subst hik; rw [if_pos hiv.symm]
      · have := sorted_get (asgsP_sorted hl) (i := i) (j := k) (by omega) (by omega)
        rw [if_neg (by omega)]
        exact ih1 i (by omega) hiv
    · intro h
      rw [if_neg (fun e => h k (by omega) e.symm)]
      exact ih2 fun i hi => h i (by omega)
theorem nextS_mem {sizes s : List Int} {l : List Asg} (hl : AsgsP sizes l) (hs : s.length = sizes.length) {a : Asg} (ha : a ∈ l) : nth (nextS s l) a.1 = a.2 := by
  have hb := asgsP_mem hl ha
  obtain ⟨i, hi, rfl⟩ := List.getElem_of_mem ha
  have := (nextTo_at hl hs hb.1 hb.2.1 (Nat.le_refl _)).1 i hi (by rw [nth_eq hi])
  rw [nth_eq hi] at this
  exact this
theorem nextS_not {sizes s : List Int} {l : List Asg} (hl : AsgsP sizes l) (hs : s.length = sizes.length) {v : Int} (h0 : 0 ≤ v) (h1 : v < sizes.length) (h : ∀ a, a ∈ l → a.1 ≠ v) : nth (nextS s l) v = nth s v :=
  (nextTo_at hl hs h0 h1 (Nat.le_refl _)).2 fun i hi => h _ (nth_mem (by omega) (by omega))
/-! ### Costs are consistent -/
section
variable {m : Multi} (hv : Valid m)
include hv
theorem costs_ex : ∃ j, (sweep m (itC m j)).2 = false := by
  refine Classical.byContradiction fun hc => ?_
  have hall : ∀ j, (sweep m (itC m j)).2 = true := fun j => by
    cases h : (sweep m (itC m j)).2 with
    | true => rfl
    | false => exact (hc ⟨j, h⟩).elim
  have hdown : ∀ j : Nat, (itC m j).sum + j ≤ (itC m 0).sum := fun j => by
    induction j with
    | zero => simp
    | succ j ih =>
      rcases itC_next hv j with ⟨a, _⟩ | ⟨_, b⟩
      · rw [hall j] at a; cases a
      · omega
  have h1 := hdown ((itC m 0).sum.toNat + 1)
  have h2 := sum_good hv (itC_good hv ((itC m 0).sum.toNat + 1))
  omega
omit hv in
theorem stepC_flag {c : List Int × Bool} {n j : Nat} (h : (stepC m c n j).2 = false) (hh : c.2 = false) : stepC m c n j = c := by
  unfold stepC at h ⊢
  split at h
  · rename_i hp
    rw [if_pos hp]
    split at h
    · cases h
    · rename_i hk; rw [if_neg hk]
  · rename_i hp; rw [if_neg hp]
omit hv in
theorem stepC_true {c : List Int × Bool} {n j : Nat} (hh : c.2 = true) : (stepC m c n j).2 = true := by
  unfold stepC
  split
  · split
    · rfl
    · exact hh
  · exact hh
omit hv in
theorem opsTo_true {c : List Int × Bool} {n : Nat} (hh : c.2 = true) : ∀ k : Nat, (opsTo m c n k).2 = true
  | 0 => hh
  | k + 1 => stepC_true (opsTo_true hh k)
omit hv in
theorem opsTo_flag {c : List Int × Bool} {n : Nat} : ∀ {k : Nat}, (opsTo m c n k).2 = false → c.2 = false ∧ opsTo m c n k = c ∧ ∀ j : Nat, j < k → stepC m c n j = c
  | 0, h => ⟨h, rfl, fun j hj => by omega⟩
  | k + 1, h => by
    have h1 : (opsTo m c n k).2 = false := by
      cases hf : (opsTo m c n k).2 with
      | false => rfl
      | true => have := stepC_true (m := m) (n := n) (j := k) hf; have h' : (stepC m (opsTo m c n k) n k).2 = false := h; rw [this] at h'; cases h'
    obtain ⟨a, b, d⟩ := opsTo_flag h1
    have h2 : stepC m (opsTo m c n k) n k = opsTo m c n k := stepC_flag h h1
    refine ⟨a, by show stepC m (opsTo m c n k) n k = c; rw [h2, b], fun j hj => ?_⟩
    by_cases hjk : j = k
    · subst hjk; rw [b] at h2; exact h2
    · exact d j (by omega)
omit hv in
theorem sweepTo_flag {c : List Int} : ∀ {k : Nat}, (sweepTo m c k).2 = false → sweepTo m c k = (c, false) ∧ ∀ n : Nat, n < k → ∀ j : Nat, j < m.ops.length → stepC m (c, false) n j = (c, false)
  | 0, h => ⟨rfl, fun n hn => by omega⟩
  | k + 1, h => by
    obtain ⟨a, b, d⟩ := opsTo_flag (c := sweepTo m c k) h
    obtain ⟨e, f⟩ := sweepTo_flag a
    refine ⟨by show opsTo m (sweepTo m c k) k m.ops.length = _; rw [b, e], fun n hn j hj => ?_⟩
    by_cases hnk : n = k
    · subst hnk; have := d j hj; rwa [e] at this
    · exact f n (by omega) j hj
/-- No step decreases the costs by more than it costs. -/
theorem costs_tri {s : List Int} (hs : StateP m.sizes s) {j : Nat} (hj : j < m.ops.length) (hp : holds s (nth m.ops j).pre = true) :
    nth (costs m) (rank m.sizes s) ≤ nth (costs m) (rank m.sizes (nextS s (nth m.ops j).post)) + (nth m.ops j).cost := by
  obtain ⟨i, hi⟩ := costs_ex hv
  have hc := costs_of hv hi
  obtain ⟨_, h2⟩ := sweepTo_flag hi
  obtain ⟨e1, e2⟩ := unrank_toNat hv.sizes hs
  have h3 := h2 _ e2 j hj
  have hr := rank_in hv.sizes hs
  have hst : stAt m (rank m.sizes s).toNat = s := e1
  have hg := costs_good hv
  have hN := nR_in hv
  have hb := hg.2 _ hr.1 (by omega)
  have ho := (hv.op j hj).2.2.1
  rw [hc] at h3
  refine Decidable.byContradiction fun hcon => ?_
  have h4 : nth (costs m) (rkAt m (rank m.sizes s).toNat j) < 1000000000 ∧ nth (costs m) (rkAt m (rank m.sizes s).toNat j) + (nth m.ops j).cost < nth (costs m) ((rank m.sizes s).toNat : Int) := by
    unfold rkAt
    rw [hst, Int.toNat_of_nonneg hr.1]
    omega
  unfold stepC at h3
  rw [if_pos (by rw [hst]; exact hp), if_pos h4] at h3
  have h5 := congrArg Prod.snd h3
  cases h5
theorem costs_goal {s : List Int} (hs : StateP m.sizes s) (hh : holds s m.goal = true) : nth (costs m) (rank m.sizes s) = 0 := by
  have hg := costs_good hv
  have hN := nR_in hv
  have hr := rank_in hv.sizes hs
  have hb := hg.2 _ hr.1 (by omega)
  obtain ⟨i, hi⟩ := costs_ex hv
  have hc := costs_of hv hi
  obtain ⟨e1, e2⟩ := unrank_toNat hv.sizes hs
  have key := (itC_keep hv (q := fun c => nth c ((rank m.sizes s).toNat : Int) ≤ 0) (by
    rw [nth_eq (by rw [initC_len]; exact e2)]
    simp only [initC, List.getElem_map, List.getElem_range]
    rw [if_pos (by show holds (unrank m.sizes _) m.goal = true; rw [e1]; exact hh)]
    omega) (fun c n j hn hj hg hq _ _ hlt => by
      rw [nth_setI (by omega) (by rw [hg.1]; unfold nR; omega) (by omega)]
      split
      · rename_i e; rw [← e] at hlt; omega
      · exact hq) i).2
  rw [hc, Int.toNat_of_nonneg hr.1] at key
  omega
end
/-- The pattern of all variables. -/
def allV (n : Nat) : List Int := (List.range n).map fun (i : Nat) => (i : Int)
/-- A pattern inside another one: where its variables stand. -/
def posIn (W vars : List Int) : List Int := vars.map fun v => ((W.idxOf v : Nat) : Int)
section
variable {sizes W vars : List Int} (hW : PatP sizes W) (hp : PatP sizes vars) (hin : ∀ i : Nat, i < vars.length → nth vars i ∈ W)
include hin
include hW hp
end
end Go.Eng
end

section
/- Projections: what the package's functions answer; all states in order. Projections: the laws in plain words. -/

set_option linter.unusedVariables false
set_option linter.unusedSimpArgs false
set_option linter.unusedSectionVars false
namespace Go.Eng
open Go

/-! ### All states, in order -/
def expR (s : List Int) (c : Nat) : List (List Int) := (List.range c).map fun (v : Nat) => s ++ [(v : Int)]
def expTo (l : List (List Int)) (c : Nat) : Nat → List (List Int)
  | 0 => []
  | i + 1 => expTo l c i ++ expR (nth l i) c
def statesTo (sizes : List Int) : Nat → List (List Int)
  | 0 => [[]]
  | k + 1 => expTo (statesTo sizes k) (nth sizes k).toNat (statesTo sizes k).length
/-- The first places of a state. -/
abbrev PreP (sizes s : List Int) (k : Nat) : Prop := s.length = k ∧ ∀ v : Nat, v < k → 0 ≤ nth s v ∧ nth s v < nth sizes v
def statesL (sizes : List Int) : List (List Int) := statesTo sizes sizes.length
/-! ### The first estimates -/
def fillTo (m : Multi) (k : Nat) : List Int := (List.range (nR m)).map fun n => if n < k then (if holds (stAt m n) m.goal = true then 0 else 1000000000) else 0
/-! ### The answers -/
def bigF (m : Multi) (vars : List Int) (f : Int × Int) : Int × Int := if f = (0, 0) ∧ 2000 < prodTo m.sizes vars vars.length then (10, -7) else f
def distF (m : Multi) (vars : List Int) : Int × Int := bigF m vars (projFault m vars)
def stpF (m : Multi) (vars s : List Int) : Int × Int := if stateFault m s = (0, 0) then patFault m.sizes vars (-8) else stateFault m s
def valF (m : Multi) (vars s : List Int) : Int × Int := bigF m vars (stpF m vars s)
noncomputable def distR (m : Multi) (vars : List Int) : List Int := if distF m vars = (0, 0) then costs (projM m vars) else []
def projR (m : Multi) (vars : List Int) : Multi := if projFault m vars = (0, 0) then projM m vars else ⟨[], [], [], []⟩
noncomputable def pval (m : Multi) (vars s : List Int) : Int := nth (costs (projM m vars)) (rank (projM m vars).sizes (sel s vars))
noncomputable def valR (m : Multi) (vars s : List Int) : Int := if valF m vars s = (0, 0) then pval m vars s else 0
def opTo (m : Multi) (vars : List Int) (k : Nat) : List MOp := (List.range k).map fun (i : Nat) => ⟨restr (nth m.ops i).pre vars, restr (nth m.ops i).post vars, (nth m.ops i).cost⟩
/-! ### Sets, and a number put into one -/
abbrev SetOk (n : Int) (l : List Int) (i : Nat) : Prop := 0 ≤ nth l i ∧ nth l i < n ∧ (0 < i → nth l (i - 1 : Int) < nth l i)
abbrev SetP (n : Int) (l : List Int) : Prop := ∀ i : Nat, i < l.length → SetOk n l i
def addP (f : Int × Int) (sizes vars : List Int) (i : Int) : Int × Int := if f.1 = 0 ∧ patCode sizes vars ≠ 0 then (patCode sizes vars, i) else f
def cutN (l : List Int) (n : Int) : Nat := (firstBad l.length (fun i => decide (nth l i < n))).getD l.length
def withL (l : List Int) (n : Int) : List Int := l.take (cutN l n) ++ [n] ++ l.drop (if cutN l n < l.length ∧ nth l (cutN l n) = n then cutN l n + 1 else cutN l n)
end Go.Eng

set_option linter.unusedVariables false
set_option linter.unusedSimpArgs false
set_option linter.unusedSectionVars false
namespace Go.Eng
open Go
end Go.Eng
end

section
/- Walks, written by gen.py out of hints. -/





set_option linter.unusedVariables false
set_option linter.unusedSimpArgs false
namespace Go.Proofs.Ytohlmcebphcokaa
open Go.Eng
set_option maxRecDepth 10000
set_option maxHeartbeats 1000000

theorem R_IsSet_does (l : List Int) (n : Int) (hn : -9223372036854775807 ≤ n ∧ n ≤ 9223372036854775807) : Does Try.prog false 75 [.d (ints l), I (n)] (Bo (decide (SetP n l))) := by
  refine Does.of_body Try.func75 rfl rfl (by simp) Try.call75 (fun w0 O0 => ?_)
  refine Tr.lenLe (n := 0) rfl (fun len0 => ?_)
  refine Tr.seq ?_
  refine Tr.region ?_
  refine TrOps.sem (OpSem.move (.inr rfl) rfl) rfl rfl (by decide) ?_
  refine TrOps.nil ?_
  refine At.seq ?_
  refine Tr.seq ?_
  refine Tr.seq ?_
  refine Tr.region ?_
  refine TrOps.sem (OpSem.move (.inr rfl) rfl) rfl rfl (by decide) ?_
  refine TrOps.nil ?_
  refine At.seq ?_
  refine Tr.block ?_
  refine Tr.loop (X := Nat) (fun k => k ≤ l.length ∧ ∀ i : Nat, i < k → SetOk n l i) (fun k => [(0, .d (ints l)), (1, I (n)), (5, I (k))]) (fun k => []) (fun k => l.length - k) 0 ⟨by omega, by simp⟩ ?_ ?_
  · exact .slot rfl (.refl _) <| .slot rfl (.refl _) <| .slot rfl (Le.of_eq (by simp)) <| .nil
  · rintro k ⟨hkl, hinv⟩
    refine Tr.seq ?_
    refine Tr.seq ?_
    refine Tr.region ?_
    refine TrOps.sem (OpSem.move (.inl rfl) rfl) rfl rfl (by decide) ?_
    refine TrOps.sem (OpSem.move (.inl rfl) rfl) rfl rfl (by decide) ?_
    refine TrOps.sem (OpSem.lenL rfl rfl es22) rfl rfl (by decide) ?_
    refine TrOps.sem (OpSem.bin rfl rfl rfl blss) rfl rfl (by decide) ?_
    refine TrOps.nil ?_
    refine At.seq ?_
    refine Tr.cond rfl (fun c9 => ?_) (fun c9 => ?_)
    · have hk : k < l.length := by simpa using c9
      refine Tr.skip ?_
      refine At.seq ?_
      refine Tr.seq ?_
      refine Tr.block ?_
      refine Tr.seq ?_
      refine PC.start [] ?_
      refine PC.sem (OpSem.move (.inl rfl) rfl) rfl rfl ?_
      refine PC.sem (OpSem.move (.inl rfl) rfl) rfl rfl ?_
      refine PC.sem (OpSem.idxL rfl rfl rfl es22 (by omega) (by omega)) rfl rfl ?_
      refine PC.sem (OpSem.load1 rfl rfl vs3 rfl) rfl rfl ?_
      refine PC.sem (OpSem.move (.inl rfl) rfl) rfl rfl ?_
      refine PC.sem (OpSem.bin rfl rfl rfl (bsub (by omega) (by omega))) rfl rfl ?_
      refine PC.sem (OpSem.call0 (R_In_does ..) rfl rfl rfl rfl (Les.refl _)) rfl rfl ?_
      refine PC.sem (OpSem.not rfl rfl) rfl rfl ?_
      refine PC.sem (OpSem.move (.inl rfl) rfl) rfl rfl ?_
      refine PC.split (n := 20) rfl (fun c20 => ?_) (fun c20 => ?_)
      · refine PC.gF rfl rfl rfl rfl c20 rfl ?_
        refine PC.gF rfl rfl rfl rfl c20 rfl ?_
        refine PC.gF rfl rfl rfl rfl c20 rfl ?_
        refine PC.gU rfl rfl rfl rfl rfl ?_
        refine PC.gU rfl rfl rfl rfl rfl ?_
        refine PC.gU rfl rfl rfl rfl rfl ?_
        refine PC.gU rfl rfl rfl rfl rfl ?_
        refine PC.gU rfl rfl rfl rfl rfl ?_
        refine PC.gU rfl rfl rfl rfl rfl ?_
        refine PC.gU rfl rfl rfl rfl rfl ?_
        refine PC.gU rfl rfl rfl rfl rfl ?_
        refine PC.gU rfl rfl rfl rfl rfl ?_
        refine PC.done0 mixed (by kernel_rfl) (by kernel_rfl) (by kernel_rfl) (by kernel_rfl) (by kernel_rfl) ?_
        refine TrOps.gU rfl rfl rfl rfl rfl (by decide) ?_
        refine TrOps.gF rfl rfl rfl rfl c20 rfl (by decide) ?_
        refine TrOps.sem (OpSem.pickT rfl rfl c20 rfl) rfl rfl (by decide) ?_
        refine TrOps.nil ?_
        refine At.seq ?_
        refine Tr.condT rfl rfl ?_
        refine Tr.seq ?_
        refine Tr.region ?_
        refine TrOps.sem (OpSem.move (.inr rfl) rfl) rfl rfl (by decide) ?_
        refine TrOps.nil ?_
        refine At.seq ?_
        refine Tr.ret ?_
        refine At.block_ret ?_
        refine At.pass_ret ?_
        refine At.pass_ret ?_
        refine At.block_ret ?_
        refine At.pass_ret ?_
        exact At.ret rfl (.tmp rfl <| .nil) rfl (Le.bo (decide_eq_false (fun h => by have := h k hk; simp at c20; omega)).symm)
      · refine PC.gT (OpSem.move (.inl rfl) rfl) rfl rfl rfl rfl c20 rfl ?_
        refine PC.gT (OpSem.bin rfl rfl rfl bgtr) rfl rfl rfl rfl c20 rfl ?_
        refine PC.gT (OpSem.move (.inl rfl) rfl) rfl rfl rfl rfl c20 rfl ?_
        refine PC.split (n := 23) rfl (fun c23 => ?_) (fun c23 => ?_)
        · have hkp : 0 < k := by simp at c23; omega
          refine PC.gT (OpSem.move (.inl rfl) rfl) rfl rfl rfl rfl c23 rfl ?_
          refine PC.gT (OpSem.move (.inl rfl) rfl) rfl rfl rfl rfl c23 rfl ?_
          refine PC.gT (OpSem.idxL rfl rfl rfl es22 (by omega) (by omega)) rfl rfl rfl rfl c23 rfl ?_
          refine PC.gT (OpSem.load1 rfl rfl vs3 rfl) rfl rfl rfl rfl c23 rfl ?_
          refine PC.gT (OpSem.move (.inl rfl) rfl) rfl rfl rfl rfl c23 rfl ?_
          refine PC.gT (OpSem.move (.inl rfl) rfl) rfl rfl rfl rfl c23 rfl ?_
          refine PC.gT (OpSem.bin rfl rfl rfl (bsub (by omega) (by omega))) rfl rfl rfl rfl c23 rfl ?_
          refine PC.gT (OpSem.idxL rfl rfl rfl es22 (by omega) (by omega)) rfl rfl rfl rfl c23 rfl ?_
          refine PC.gT (OpSem.load1 rfl rfl vs3 rfl) rfl rfl rfl rfl c23 rfl ?_
          refine PC.done0 mixed (by kernel_rfl) (by kernel_rfl) (by kernel_rfl) (by kernel_rfl) (by kernel_rfl) ?_
          refine TrOps.gT rfl rfl rfl rfl c23 ?_
          refine TrOps.sem (OpSem.bin rfl rfl rfl bleq) rfl rfl (by decide) ?_
          refine TrOps.gT rfl rfl rfl rfl c20 ?_
          refine TrOps.sem (OpSem.pickT rfl rfl c23 rfl) rfl rfl (by decide) ?_
          refine TrOps.sem (OpSem.pickF rfl rfl c20 rfl) rfl rfl (by decide) ?_
          refine TrOps.nil ?_
          refine At.seq ?_
          refine Tr.cond rfl (fun c35 => ?_) (fun c35 => ?_)
          · refine Tr.seq ?_
            refine Tr.region ?_
            refine TrOps.sem (OpSem.move (.inr rfl) rfl) rfl rfl (by decide) ?_
            refine TrOps.nil ?_
            refine At.seq ?_
            refine Tr.ret ?_
            refine At.block_ret ?_
            refine At.pass_ret ?_
            refine At.pass_ret ?_
            refine At.block_ret ?_
            refine At.pass_ret ?_
            exact At.ret rfl (.tmp rfl <| .nil) rfl (Le.bo (decide_eq_false (fun h => by have h1 := (h k hk).2.2 hkp; simp at c35; omega)).symm)
          · refine Tr.skip ?_
            refine At.block_normal ?_
            refine At.seq ?_
            refine Tr.region ?_
            refine TrOps.sem (OpSem.move (.inl rfl) rfl) rfl rfl (by decide) ?_
            refine TrOps.sem (OpSem.bin rfl rfl rfl (badd (by omega) (by omega))) rfl rfl (by decide) ?_
            refine TrOps.sem (OpSem.move (.inr rfl) rfl) rfl rfl (by decide) ?_
            refine TrOps.nil ?_
            have hb : SetOk n l k := by first | (simp at c20 c35; exact ⟨by omega, by omega, fun h => by omega⟩) | (simp at c20 c23; exact ⟨by omega, by omega, fun h => by omega⟩)
            refine At.again (k + 1) ⟨by omega, all_succ hinv hb⟩ ?_ (by omega)
            exact .slot rfl (.refl _) <| .slot rfl (.refl _) <| .slot rfl (Le.of_eq (by simp)) <| .nil
        · refine PC.gF rfl rfl rfl rfl c23 rfl ?_
          refine PC.gF rfl rfl rfl rfl c23 rfl ?_
          refine PC.gF rfl rfl rfl rfl c23 rfl ?_
          refine PC.gF rfl rfl rfl rfl c23 rfl ?_
          refine PC.gF rfl rfl rfl rfl c23 rfl ?_
          refine PC.gF rfl rfl rfl rfl c23 rfl ?_
          refine PC.gF rfl rfl rfl rfl c23 rfl ?_
          refine PC.gF rfl rfl rfl rfl c23 rfl ?_
          refine PC.gF rfl rfl rfl rfl c23 rfl ?_
          refine PC.done0 mixed (by kernel_rfl) (by kernel_rfl) (by kernel_rfl) (by kernel_rfl) (by kernel_rfl) ?_
          refine TrOps.gF rfl rfl rfl rfl c23 rfl (by decide) ?_
          refine TrOps.gT rfl rfl rfl rfl c20 ?_
          refine TrOps.sem (OpSem.pickF rfl rfl c23 rfl) rfl rfl (by decide) ?_
          refine TrOps.sem (OpSem.pickF rfl rfl c20 rfl) rfl rfl (by decide) ?_
          refine TrOps.nil ?_
          refine At.seq ?_
          refine Tr.condF rfl rfl ?_
          refine Tr.skip ?_
          refine At.block_normal ?_
          refine At.seq ?_
          refine Tr.region ?_
          refine TrOps.sem (OpSem.move (.inl rfl) rfl) rfl rfl (by decide) ?_
          refine TrOps.sem (OpSem.bin rfl rfl rfl (badd (by omega) (by omega))) rfl rfl (by decide) ?_
          refine TrOps.sem (OpSem.move (.inr rfl) rfl) rfl rfl (by decide) ?_
          refine TrOps.nil ?_
          have hb : SetOk n l k := by first | (simp at c20 c35; exact ⟨by omega, by omega, fun h => by omega⟩) | (simp at c20 c23; exact ⟨by omega, by omega, fun h => by omega⟩)
          refine At.again (k + 1) ⟨by omega, all_succ hinv hb⟩ ?_ (by omega)
          exact .slot rfl (.refl _) <| .slot rfl (.refl _) <| .slot rfl (Le.of_eq (by simp)) <| .nil
    · have hk : k = l.length := by simp at c9; omega
      refine Tr.exit ?_
      refine At.pass_exit ?_
      refine At.pass_exit ?_
      refine At.block_same ?_
      refine At.seq ?_
      refine Tr.seq ?_
      refine Tr.region ?_
      refine TrOps.sem (OpSem.move (.inr rfl) rfl) rfl rfl (by decide) ?_
      refine TrOps.nil ?_
      refine At.seq ?_
      refine Tr.ret ?_
      exact At.ret rfl (.tmp rfl <| .nil) rfl (Le.bo (decide_eq_true (by subst hk; exact hinv)).symm)

end Go.Proofs.Ytohlmcebphcokaa
end
