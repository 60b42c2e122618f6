/- Plain functions behind potential's laws: the faults of a list of weights, the best of them, the worked example. Plain functions: a state behind an operator. Plain laws of potential's functions: an operator lowers the value by no more than its cost less its slack. -/
import Derived.Test.YtohlmcebphcokaaEngP
set_option linter.unusedVariables false
set_option linter.unusedSimpArgs false
namespace Go.Eng
open Go

theorem validate_code {m : Multi} (h : (validate m).1 = 0) : validate m = (0, 0) := by
  unfold validate at h ⊢
  split
  · rename_i h1; rw [if_pos h1] at h; cases h
  rename_i h1; rw [if_neg h1] at h
  split
  · rename_i h2; rw [if_pos h2] at h; cases h
  rename_i h2; rw [if_neg h2] at h
  split
  · rename_i h3; rw [if_pos h3] at h; cases h
  rename_i h3; rw [if_neg h3] at h
  split
  · rename_i h4; rw [if_pos h4] at h; cases h
  rename_i h4; rw [if_neg h4] at h
  split
  · rename_i h5; rw [if_pos h5] at h; cases h
  rename_i h5; rw [if_neg h5] at h
  unfold opsFault at h ⊢
  split
  · rename_i i hi
    rw [hi] at h
    simp only at h
    unfold opFault at h ⊢
    split
    · rename_i h6; rw [if_pos h6] at h; cases h
    rename_i h6; rw [if_neg h6] at h
    split
    · rename_i h7; rw [if_pos h7] at h; cases h
    rfl
  · rfl
theorem stateFault_code {m : Multi} {s : List Int} (h : (stateFault m s).1 = 0) : stateFault m s = (0, 0) := by
  unfold stateFault at h ⊢
  split
  · rename_i h1; rw [if_pos h1] at h
    split
    · rfl
    · rename_i h2; rw [if_neg h2] at h; cases h
  · rename_i h1; rw [if_neg h1] at h; exact absurd (validate_code h) h1
theorem validate_sizes {m : Multi} (h : (validate m).1 = 0) : SizesP m.sizes := (valid_of (validate_code h)).sizes
theorem stateFault_sizes {m : Multi} {s : List Int} (h : (stateFault m s).1 = 0) : SizesP m.sizes := (stateFault_ok (stateFault_code h)).1.sizes

/-- The first fault of a list of weights, behind a fault. -/
def addTo (g : Int × Int) (sizes : List Int) (l : List (List (List Int))) : Nat → Int × Int
  | 0 => g
  | k + 1 => addW (addTo g sizes l k) sizes (nth l k) k
theorem addW_ne {f : Int × Int} {sizes : List Int} {w : List (List Int)} {i : Int} (h : f.1 ≠ 0) : addW f sizes w i = f := by unfold addW; rw [if_neg (fun e => h e.1)]
theorem addTo_le {g : Int × Int} {sizes : List Int} {l : List (List (List Int))} {k : Nat} (h : (addTo g sizes l k).1 ≠ 0) : ∀ n, addTo g sizes l (k + n) = addTo g sizes l k
  | 0 => rfl
  | n + 1 => by
    have ih := addTo_le h n
    show addW (addTo g sizes l (k + n)) sizes (nth l ((k + n : Nat) : Int)) _ = _
    rw [ih]; exact addW_ne h
theorem addTo_end {g : Int × Int} {sizes : List Int} {l : List (List (List Int))} {k n : Nat} (hk : k ≤ n) (h : (addTo g sizes l k).1 ≠ 0) : addTo g sizes l k = addTo g sizes l n := by
  obtain ⟨d, rfl⟩ := Nat.exists_eq_add_of_le hk
  exact (addTo_le h d).symm
theorem addTo_g {g : Int × Int} {sizes : List Int} {l : List (List (List Int))} (h : g.1 ≠ 0) (n : Nat) : addTo g sizes l n = g := (addTo_end (k := 0) (Nat.zero_le n) h).symm
theorem addTo_wok {sizes : List Int} {l : List (List (List Int))} {g : Int × Int} : ∀ {n : Nat}, (addTo g sizes l n).1 = 0 → g.1 = 0 ∧ addTo g sizes l n = g ∧ ∀ k : Nat, k < n → wcode sizes (nth l k) = 0
  | 0, h => ⟨h, rfl, fun k hk => absurd hk (Nat.not_lt_zero _)⟩
  | n + 1, h => by
    by_cases h0 : (addTo g sizes l n).1 = 0
    · obtain ⟨i1, i2, i3⟩ := addTo_wok h0
      simp only [addTo] at h ⊢
      unfold addW at h ⊢
      split at h
      · rename_i hh; exact absurd h hh.2
      · rename_i hh
        rw [if_neg hh]
        refine ⟨i1, i2, fun k hk => ?_⟩
        rcases Nat.lt_or_ge k n with hkn | hkn
        · exact i3 k hkn
        · have : k = n := by omega
          subst this
          exact Decidable.byContradiction fun hc => hh ⟨h0, hc⟩
    · exact absurd (addTo_le h0 1 ▸ h) h0
theorem wok_of {sizes : List Int} {w : List (List Int)} (h : wcode sizes w = 0) : WOk sizes w := by obtain ⟨a, b, c⟩ := wcode_ok h; exact ⟨a, b, c⟩
theorem addTo_step0 {sizes : List Int} {l : List (List (List Int))} {g : Int × Int} {k : Nat} (h : addTo g sizes l k = (0, 0)) (hw : (wfault sizes (nth l k) (-8)).1 = 0) : addTo g sizes l (k + 1) = (0, 0) := by
  simp only [addTo, h]
  unfold addW
  rw [if_neg]
  rintro ⟨_, h2⟩
  unfold wfault at hw
  rw [if_neg h2] at hw
  exact h2 hw
theorem addTo_step1 {sizes : List Int} {l : List (List (List Int))} {g : Int × Int} {k n : Nat} (hk : k < n) (h : addTo g sizes l k = (0, 0)) (hw : (wfault sizes (nth l k) (-8)).1 ≠ 0) : ((wfault sizes (nth l k) (-8)).1, (k : Int)) = addTo g sizes l n := by
  have hc : wcode sizes (nth l k) ≠ 0 := fun e => hw (by unfold wfault; rw [if_pos e])
  have he : addTo g sizes l (k + 1) = (wcode sizes (nth l k), (k : Int)) := by
    simp only [addTo, h]
    unfold addW
    rw [if_pos ⟨rfl, hc⟩]
  rw [← addTo_end (k := k + 1) (by omega) (by rw [he]; exact hc), he]
  unfold wfault
  rw [if_neg hc]
theorem wfault_ne {sizes : List Int} {w : List (List Int)} {i : Int} (h : ¬ ((wfault sizes w i).1 = 0 ∧ (wfault sizes w i).2 = 0)) : (wfault sizes w i).1 ≠ 0 := by
  unfold wfault at h ⊢
  split
  · rename_i h0; rw [if_pos h0] at h; exact absurd ⟨rfl, rfl⟩ h
  · assumption
def baseF (m : Multi) (l : List (List (List Int))) (s : List Int) : Int × Int :=
  if (stateFault m s).1 = 0 ∧ ¬ (1 ≤ l.length ∧ l.length ≤ 6) then (9, -9) else stateFault m s
theorem baseF_1 {m : Multi} {l : List (List (List Int))} {s : List Int} (h : (stateFault m s).1 = 0 ∧ ¬ (1 ≤ l.length ∧ l.length ≤ 6)) : (9, -9) = baseF m l s := by unfold baseF; rw [if_pos h]
theorem baseF_2 {m : Multi} {l : List (List (List Int))} {s : List Int} (h : ¬ ((stateFault m s).1 = 0 ∧ ¬ (1 ≤ l.length ∧ l.length ≤ 6))) : stateFault m s = baseF m l s := by unfold baseF; rw [if_neg h]
theorem baseF_sizes {m : Multi} {l : List (List (List Int))} {s : List Int} (h : (baseF m l s).1 = 0) : (Valid m ∧ StateP m.sizes s) ∧ 1 ≤ l.length ∧ l.length ≤ 6 := by
  unfold baseF at h
  split at h
  · cases h
  · rename_i hh
    exact ⟨stateFault_ok (stateFault_code h), Decidable.byContradiction fun hc => hh ⟨h, hc⟩⟩
def bestF (m : Multi) (l : List (List (List Int))) (s : List Int) : Int × Int := addTo (baseF m l s) m.sizes l l.length
/-- The first of the greatest. -/
def bestTo (f : Nat → Int) : Nat → Nat
  | 0 => 0
  | k + 1 => if f (bestTo f k) < f k then k else bestTo f k
theorem bestTo_lt {f : Nat → Int} : ∀ {n : Nat}, 0 < n → bestTo f n < n
  | n + 1, _ => by
    simp only [bestTo]
    split
    · omega
    · rcases Nat.eq_zero_or_pos n with h | h
      · subst h; simp [bestTo]
      · have := bestTo_lt (f := f) h; omega
theorem bestTo_le {f : Nat → Int} : ∀ {n : Nat}, bestTo f n ≤ n
  | 0 => Nat.le_refl _
  | n + 1 => Nat.le_of_lt (bestTo_lt (by omega))
theorem bestTo_t {f : Nat → Int} {k : Nat} (h : f (bestTo f k) < f k) : k = bestTo f (k + 1) := by simp only [bestTo]; rw [if_pos h]
theorem bestTo_f {f : Nat → Int} {k : Nat} (h : ¬ f (bestTo f k) < f k) : bestTo f k = bestTo f (k + 1) := by simp only [bestTo]; rw [if_neg h]
abbrev valL (l : List (List (List Int))) (s : List Int) (i : Nat) : Int := val (nth l i) s
def bestI (l : List (List (List Int))) (s : List Int) : Nat := bestTo (valL l s) l.length
def bestRes (m : Multi) (l : List (List (List Int))) (s : List Int) : Int × Int × (Int × Int) :=
  if bestF m l s = (0, 0) then ((bestI l s : Int), val (nth l (bestI l s)) s, (0, 0)) else (0, 0, bestF m l s)
theorem bestRes_1 {m : Multi} {l : List (List (List Int))} {s : List Int} (h : (bestF m l s).1 ≠ 0) : bestRes m l s = (0, 0, bestF m l s) := by
  unfold bestRes; rw [if_neg (fun e => h (by rw [e]))]
theorem bestRes_2 {m : Multi} {l : List (List (List Int))} {s : List Int} (h : bestF m l s = (0, 0)) : bestRes m l s = ((bestI l s : Int), val (nth l (bestI l s)) s, (0, 0)) := by
  unfold bestRes; rw [if_pos h]
theorem val_in {sizes : List Int} {w : List (List Int)} (hw : WOk sizes w) {s : List Int} (hs : StateP sizes s) (hz : sizes.length ≤ 8) : -8000000 ≤ val w s ∧ val w s ≤ 8000000 := by
  have := valTo_in hw hs s.length (Nat.le_refl _)
  have := hs.1
  unfold val
  omega
theorem addW_then (m : Multi) (s : List Int) (w : List (List Int)) (i : Int) : addW (stateFault m s) m.sizes w i = thenF (stateFault m s) (wfault m.sizes w i) := by
  unfold addW thenF
  by_cases h : (stateFault m s).1 = 0
  · have e := stateFault_code h
    rw [if_pos e]
    unfold wfault
    by_cases hw : wcode m.sizes w = 0
    · rw [if_neg (fun hh => hh.2 hw), if_pos hw, e]
    · rw [if_pos ⟨h, hw⟩, if_neg hw]
  · rw [if_neg (fun hh => h hh.1), if_neg (fun e => h (by rw [e]))]
theorem valFault_addW (m : Multi) (s : List Int) (w : List (List Int)) : addW (stateFault m s) m.sizes w (-8) = valFault m w s := addW_then ..
theorem valFault_code {m : Multi} {s : List Int} {w : List (List Int)} (h : (valFault m w s).1 = 0) : valFault m w s = (0, 0) := by
  rw [← valFault_addW] at h ⊢
  unfold addW at h ⊢
  split
  · rename_i hh; rw [if_pos hh] at h; exact absurd h hh.2
  · rename_i hh; rw [if_neg hh] at h; exact stateFault_code h
theorem bestF_base {m : Multi} {l : List (List (List Int))} {s : List Int} (h : (baseF m l s).1 ≠ 0) : baseF m l s = bestF m l s := (addTo_g h _).symm
theorem bestF_code {m : Multi} {l : List (List (List Int))} {s : List Int} (h : (bestF m l s).1 = 0) : bestF m l s = (0, 0) := by
  obtain ⟨i1, i2, _⟩ := addTo_wok h
  unfold bestF
  rw [i2]
  unfold baseF at i1 ⊢
  split
  · rename_i hh; rw [if_pos hh] at i1; cases i1
  · rename_i hh; rw [if_neg hh] at i1; exact stateFault_code i1
theorem bestF_ok {m : Multi} {l : List (List (List Int))} {s : List Int} (h : (bestF m l s).1 = 0) : Valid m ∧ StateP m.sizes s ∧ (1 ≤ l.length ∧ l.length ≤ 6) ∧ ∀ k : Nat, k < l.length → WOk m.sizes (nth l k) := by
  obtain ⟨i1, i2, i3⟩ := addTo_wok h
  obtain ⟨⟨a, b⟩, c⟩ := baseF_sizes i1
  exact ⟨a, b, c, fun k hk => wok_of (i3 k hk)⟩
theorem ext_nth {α : Type} [Inhabited α] {a b : List α} (hl : a.length = b.length) (h : ∀ i : Nat, i < a.length → nth a i = nth b i) : a = b := by
  apply List.ext_getElem hl
  intro i h1 h2
  have := h i h1
  rwa [nth_eq h1, nth_eq h2] at this
def lampsM : Multi := ⟨[2, 2], [0, 0], [(0, 1), (1, 1)], [⟨[], [(0, 1)], 2⟩, ⟨[], [(1, 1)], 3⟩]⟩
def exW : List (List Int) := [[2, 0], [3, 0]]
theorem lamps_val : valFault lampsM exW [0, 1] = (0, 0) := by decide +kernel
theorem lamps_valRes : valRes lampsM exW [0, 1] = 2 := by decide +kernel
theorem lamps_slack : slackRes lampsM exW = ([0, 0], 0, (0, 0)) := by decide +kernel
theorem lamps_adm : adm lampsM exW = true := by decide +kernel
/-- The slot holds what is less said. -/
theorem TrOps.weak {P : Program} {N : Nat} {w0 : World} {O0 : Nat → Nat} {ops : Array Oper} {Q : Post} {e : Env} {M : Mem} {rest : List Oper} {s s' : S} (n : Nat) (hn : look e n = some s) (hl : Le s s') (h : TrOps P N w0 O0 ops Q ((n, s') :: e) M rest) : TrOps P N w0 O0 ops Q e M rest := by
  intro O H a w hst
  refine h O H a w ⟨hst.df, hst.sz, hst.bl, hst.lab, fun k t hk => ?_, hst.mem⟩
  rcases look_cons hk with ⟨rfl, rfl⟩ | ⟨_, hk⟩
  · obtain ⟨x, hx, hr⟩ := hst.slots _ _ hn
    exact ⟨x, hx, hl _ _ _ _ hr⟩
  · exact hst.slots k t hk
theorem Tr.weak {P : Program} {N : Nat} {w0 : World} {O0 : Nat → Nat} {Q : Post} {e : Env} {M : Mem} {c : Code} {s s' : S} (n : Nat) (hn : look e n = some s) (hl : Le s s') (h : Tr P N w0 O0 ((n, s') :: e) M c Q) : Tr P N w0 O0 e M c Q := by
  intro O H a w hst
  refine h O H a w ⟨hst.df, hst.sz, hst.bl, hst.lab, fun k t hk => ?_, hst.mem⟩
  rcases look_cons hk with ⟨rfl, rfl⟩ | ⟨_, hk⟩
  · obtain ⟨x, hx, hr⟩ := hst.slots _ _ hn
    exact ⟨x, hx, hl _ _ _ _ hr⟩
  · exact hst.slots k t hk
end Go.Eng

set_option linter.unusedVariables false
set_option linter.unusedSimpArgs false
namespace Go.Eng
open Go

theorem rows_get {α : Type} [Inhabited α] {l : List α} {f : α → List D} {n : Int} (h0 : 0 ≤ n) (h1 : n < l.length) : (l.map f)[n.toNat]? = some (f (nth l n)) := by
  have hk : n.toNat < l.length := by omega
  simp only [List.getElem?_map, List.getElem?_eq_getElem hk, Option.map_some]
  rw [← nth_eq hk, Int.toNat_of_nonneg h0]
theorem rows_getN {α : Type} [Inhabited α] {l : List α} {f : α → List D} {n : Nat} (h1 : n < l.length) : (l.map f)[n]? = some (f (nth l n)) := by
  have := rows_get (f := f) (n := (n : Int)) (l := l) (by omega) (by omega)
  simpa using this
/-- A list with one place set. -/
def setI {α : Type} (l : List α) (i : Int) (v : α) : List α := l.set i.toNat v
theorem rows_set {α : Type} {l : List α} {f : α → List D} {i : Nat} {v : α} : (l.map f).set i (f v) = (l.set i v).map f := by rw [List.map_set]
theorem setI_len {α : Type} {l : List α} {i : Int} {v : α} : (setI l i v).length = l.length := by simp [setI]
theorem nth_setI {α : Type} [Inhabited α] {l : List α} {i : Int} {v : α} {n : Int} (h0 : 0 ≤ n) (h1 : n < l.length) (hi : 0 ≤ i) : nth (setI l i v) n = if n = i then v else nth l n := by
  have e1 : nth (setI l i v) n = nth (setI l i v) (n.toNat : Int) := by rw [Int.toNat_of_nonneg h0]
  have e2 : nth l n = nth l (n.toNat : Int) := by rw [Int.toNat_of_nonneg h0]
  rw [e1, e2, nth_eq (by rw [setI_len]; omega), nth_eq (by omega)]
  simp only [setI, List.getElem_set]
  by_cases h : n = i
  · rw [if_pos (by rw [h]), if_pos h]
  · rw [if_neg (by omega), if_neg h]
/-- The state behind the first k assignments. -/
def nextTo (s : List Int) (l : List Asg) : Nat → List Int
  | 0 => s
  | k + 1 => setI (nextTo s l k) (nth l k).1 (nth l k).2
theorem nextTo_len {s : List Int} {l : List Asg} : ∀ {k : Nat}, (nextTo s l k).length = s.length
  | 0 => rfl
  | k + 1 => by simp only [nextTo, setI_len]; exact nextTo_len
def nextS (s : List Int) (l : List Asg) : List Int := nextTo s l l.length
theorem nextTo_in {sizes s : List Int} {l : List Asg} (hs : StateP sizes s) (hl : AsgsP sizes l) : ∀ k : Nat, k ≤ l.length → StateP sizes (nextTo s l k)
  | 0, _ => hs
  | k + 1, hk => by
    have ih := nextTo_in hs hl k (by omega)
    have ha := hl k (by omega)
    refine ⟨by rw [nextTo_len]; exact hs.1, fun v hv => ?_⟩
    rw [nextTo_len] at hv
    have hv' := ih.2 v (by rw [nextTo_len]; exact hv)
    simp only [nextTo]
    rw [nth_setI (by omega) (by rw [nextTo_len]; omega) ha.1]
    split
    · rename_i e; rw [e]; exact ⟨ha.2.2.1, ha.2.2.2.1⟩
    · exact hv'
theorem nextS_in {sizes s : List Int} {l : List Asg} (hs : StateP sizes s) (hl : AsgsP sizes l) : StateP sizes (nextS s l) := nextTo_in hs hl _ (Nat.le_refl _)
/-- All assignments hold in the state. -/
def holds (s : List Int) (l : List Asg) : Bool := !(l.any fun a => !decide (nth s a.1 = a.2))
theorem holds_iff {s : List Int} {l : List Asg} : holds s l = true ↔ ∀ k : Nat, k < l.length → nth s (nth l k).1 = (nth l k).2 := by
  unfold holds
  rw [Bool.not_eq_true', ← Bool.not_eq_true, any_iff]
  constructor
  · intro h k hk
    exact Decidable.byContradiction fun hc => h ⟨k, hk, by simp [hc]⟩
  · rintro h ⟨k, hk, hp⟩
    simp [h k hk] at hp
theorem holds_1 {s : List Int} {l : List Asg} {k : Nat} (hk : k < l.length) (h : nth s (nth l k).1 ≠ (nth l k).2) : false = holds s l := by
  cases hh : holds s l with
  | false => rfl
  | true => exact absurd (holds_iff.1 hh k hk) h
theorem holds_0 {s : List Int} {l : List Asg} (h : ∀ k : Nat, k < l.length → nth s (nth l k).1 = (nth l k).2) : true = holds s l := (holds_iff.2 h).symm
theorem caught_p (l : List D) : Caught [.p l] := by
  intro n hn
  obtain ⟨m, rfl⟩ : ∃ m, n = m + 1 := ⟨n - 1, by omega⟩
  rfl
theorem asgs_mem {sizes : List Int} {l : List Asg} (h : AsgsP sizes l) {x : Asg} (hx : x ∈ l) : 0 ≤ x.1 ∧ x.1 < sizes.length ∧ 0 ≤ x.2 := by
  obtain ⟨k, hk, rfl⟩ := List.getElem_of_mem hx
  have := h k hk
  rw [AsgOk, nth_eq hk] at this
  exact ⟨this.1, this.2.1, this.2.2.1⟩
/-- An operator applied: the fault, and the state behind it. -/
def applyF (m : Multi) (s : List Int) (op : Int) : Int × Int :=
  if stateFault m s = (0, 0) then
    if op < 0 ∨ m.ops.length ≤ op then (3, -6) else if holds s (nth m.ops op).pre = true then (0, 0) else (11, op)
  else stateFault m s
def applyS (m : Multi) (s : List Int) (op : Int) : List Int := if applyF m s op = (0, 0) then nextS s (nth m.ops op).post else []
theorem applyF_ok {m : Multi} {s : List Int} {op : Int} (h : (applyF m s op).1 = 0) : Valid m ∧ StateP m.sizes s ∧ 0 ≤ op ∧ op < m.ops.length ∧ holds s (nth m.ops op).pre = true := by
  unfold applyF at h
  split at h
  · rename_i h0
    obtain ⟨hv, hs⟩ := stateFault_ok h0
    split at h
    · cases h
    · rename_i h1
      split at h
      · rename_i h2; exact ⟨hv, hs, by omega, by omega, h2⟩
      · cases h
  · rename_i h0; exact absurd (stateFault_code h) h0
theorem applyF_1 {m : Multi} {s : List Int} {op : Int} (h : (stateFault m s).1 ≠ 0) : stateFault m s = applyF m s op := by unfold applyF; rw [if_neg (fun e => h (by rw [e]))]
theorem applyF_2 {m : Multi} {s : List Int} {op : Int} (h : stateFault m s = (0, 0)) (h1 : op < 0 ∨ m.ops.length ≤ op) : (3, -6) = applyF m s op := by unfold applyF; rw [if_pos h, if_pos h1]
theorem applyF_3 {m : Multi} {s : List Int} {op : Int} (h : stateFault m s = (0, 0)) (h1 : ¬ (op < 0 ∨ m.ops.length ≤ op)) (h2 : holds s (nth m.ops op).pre = false) : (11, op) = applyF m s op := by unfold applyF; rw [if_pos h, if_neg h1, if_neg (by simp [h2])]
theorem applyF_0 {m : Multi} {s : List Int} {op : Int} (h : stateFault m s = (0, 0)) (h1 : ¬ (op < 0 ∨ m.ops.length ≤ op)) (h2 : holds s (nth m.ops op).pre = true) : (0, 0) = applyF m s op := by unfold applyF; rw [if_pos h, if_neg h1, if_pos h2]
theorem applyS_1 {m : Multi} {s : List Int} {op : Int} (h : (applyF m s op).1 ≠ 0) : applyS m s op = [] := by unfold applyS; rw [if_neg (fun e => h (by rw [e]))]
theorem applyS_0 {m : Multi} {s : List Int} {op : Int} (h : (0, 0) = applyF m s op) : applyS m s op = nextS s (nth m.ops op).post := by unfold applyS; rw [if_pos h.symm]
theorem nth_op {m : Multi} (hv : Valid m) {op : Int} (h0 : 0 ≤ op) (h1 : op < m.ops.length) : AsgsP m.sizes (nth m.ops op).pre ∧ AsgsP m.sizes (nth m.ops op).post ∧ 0 ≤ (nth m.ops op).cost ∧ (nth m.ops op).cost ≤ 100 := by
  have := hv.op op.toNat (by omega)
  rwa [Int.toNat_of_nonneg h0] at this
end Go.Eng

set_option linter.unusedVariables false
set_option linter.unusedSimpArgs false
namespace Go.Eng
open Go

theorem valTo_set {w : List (List Int)} {s : List Int} {v x : Int} (h0 : 0 ≤ v) : ∀ {k : Nat}, k ≤ s.length → valTo w (setI s v x) k = valTo w s k + (if v < k then nth (nth w v) x - nth (nth w v) (nth s v) else 0)
  | 0, _ => by rw [if_neg (by omega)]; rfl
  | k + 1, hk => by
    have ih := valTo_set (w := w) (s := s) (v := v) (x := x) h0 (k := k) (by omega)
    simp only [valTo]
    rw [ih, nth_setI (by omega) (by omega) h0]
    by_cases h : (k : Int) = v
    · rw [if_pos h, if_neg (by omega), if_pos (by omega), h]; omega
    · rw [if_neg h]
      by_cases h2 : v < (k : Int)
      · rw [if_pos h2, if_pos (by omega)]; omega
      · rw [if_neg h2, if_neg (by omega)]; omega
theorem val_set {w : List (List Int)} {s : List Int} {v x : Int} (h0 : 0 ≤ v) (h1 : v < s.length) : val w (setI s v x) = val w s + (nth (nth w v) x - nth (nth w v) (nth s v)) := by
  unfold val
  rw [setI_len, valTo_set h0 (Nat.le_refl _), if_pos h1]
theorem asgs_mono {sizes : List Int} {l : List Asg} (h : AsgsP sizes l) {j : Nat} : ∀ {k : Nat}, j < k → k < l.length → (nth l j).1 < (nth l k).1
  | 0, hj, _ => absurd hj (Nat.not_lt_zero _)
  | k + 1, hj, hk => by
    have := (h (k + 1) hk).2.2.2.2 (by omega)
    have e : ((k + 1 : Nat) : Int) - 1 = (k : Int) := by omega
    rw [e] at this
    rcases Nat.lt_or_ge j k with hjk | hjk
    · have ih := asgs_mono h hjk (by omega); omega
    · have : j = k := by omega
      subst this; omega
theorem nextTo_same {s : List Int} {l : List Asg} {v : Int} (h0 : 0 ≤ v) (h1 : v < s.length) : ∀ {k : Nat}, (∀ j : Nat, j < k → (nth l j).1 ≠ v ∧ 0 ≤ (nth l j).1) → nth (nextTo s l k) v = nth s v
  | 0, _ => rfl
  | k + 1, h => by
    have hk := h k (by omega)
    simp only [nextTo]
    rw [nth_setI h0 (by rw [nextTo_len]; exact h1) hk.2, if_neg (fun e => hk.1 e.symm)]
    exact nextTo_same h0 h1 fun j hj => h j (by omega)
/-- What the first k assignments of a list change. -/
def gain (w : List (List Int)) (s : List Int) (l : List Asg) : Nat → Int
  | 0 => 0
  | k + 1 => gain w s l k + (nth (nth w (nth l k).1) (nth s (nth l k).1) - nth (nth w (nth l k).1) (nth l k).2)
theorem val_next {sizes : List Int} {w : List (List Int)} {s : List Int} {l : List Asg} (hs : StateP sizes s) (hl : AsgsP sizes l) : ∀ {k : Nat}, k ≤ l.length → val w (nextTo s l k) = val w s - gain w s l k
  | 0, _ => by simp [nextTo, gain]
  | k + 1, hk => by
    have ih := val_next (w := w) hs hl (k := k) (by omega)
    have ha := hl k (by omega)
    have hsl := hs.1
    simp only [nextTo, gain]
    rw [val_set ha.1 (by rw [nextTo_len]; omega), ih, nextTo_same ha.1 (by omega) (fun j hj => ⟨by have := asgs_mono hl hj (by omega); omega, (hl j (by omega)).1⟩)]
    omega
theorem greatest_ge {sizes : List Int} {w : List (List Int)} {s : List Int} {l : List Asg} {v : Int} (hw : WOk sizes w) (hs : StateP sizes s) (hh : holds s l = true) (h0 : 0 ≤ v) (h1 : v < sizes.length) : nth (nth w v) (nth s v) ≤ greatest w v l := by
  unfold greatest
  split
  · rename_i i hi
    have hp := List.find?_some hi
    have hm := List.mem_of_find?_eq_some hi
    have hlt : i < l.length := by simpa using hm
    have he := holds_iff.1 hh i hlt
    have hv : (nth l i).1 = v := by simpa using hp
    rw [hv] at he
    rw [he]
    exact Int.le_refl _
  · have hn := hs.2 v.toNat (by have := hs.1; omega)
    rw [Int.toNat_of_nonneg h0] at hn
    have hr := hw.row h0 h1 hn.1 hn.2
    exact lmax_ge hn.1 hr.1
theorem slackTo_gain {sizes : List Int} {w : List (List Int)} {s : List Int} {o : MOp} (hw : WOk sizes w) (hs : StateP sizes s) (hh : holds s o.pre = true) (hl : AsgsP sizes o.post) : ∀ {k : Nat}, k ≤ o.post.length → gain w s o.post k ≤ o.cost - slackTo w o k
  | 0, _ => by simp [gain, slackTo]
  | k + 1, hk => by
    have ih := slackTo_gain hw hs hh hl (k := k) (by omega)
    have ha := hl k (by omega)
    have hg := greatest_ge hw hs hh ha.1 ha.2.1
    simp only [gain, slackTo]
    omega
/-- An operator lowers the value by its cost less its slack, at the most. -/
theorem val_drop {sizes : List Int} {w : List (List Int)} {s : List Int} {o : MOp} (hw : WOk sizes w) (hs : StateP sizes s) (hh : holds s o.pre = true) (hl : AsgsP sizes o.post) : val w s - val w (nextS s o.post) ≤ o.cost - slack w o := by
  have h1 := val_next (w := w) hs hl (Nat.le_refl _)
  have h2 := slackTo_gain hw hs hh hl (Nat.le_refl _)
  unfold nextS slack
  omega
theorem slack_len (m : Multi) (w : List (List Int)) : (slackRes m w).1.length ≤ m.ops.length := by
  unfold slackRes; split <;> simp
theorem potFault_code {m : Multi} {w : List (List Int)} {i : Int} (h : (potFault m w i).1 = 0) : potFault m w i = (0, 0) := by
  unfold potFault at h ⊢
  split
  · rename_i h0; rw [if_pos h0] at h
    unfold wfault at h ⊢
    split
    · rfl
    · rename_i hc; rw [if_neg hc] at h; exact absurd h hc
  · rename_i h0; rw [if_neg h0] at h; exact absurd (validate_code h) h0
theorem slack_code {m : Multi} {w : List (List Int)} (h : (slackRes m w).2.2.1 = 0) : potFault m w (-8) = (0, 0) := by
  unfold slackRes at h
  split at h
  · assumption
  · exact potFault_code h
theorem slack_fault {m : Multi} {w : List (List Int)} (h : (slackRes m w).2.2.1 ≠ 0) : (slackRes m w).1 = [] := by
  unfold slackRes at h ⊢
  split
  · rename_i h0; rw [if_pos h0] at h; exact absurd rfl h
  · rfl
theorem slack_at {m : Multi} {w : List (List Int)} (h : potFault m w (-8) = (0, 0)) {op : Int} (h0 : 0 ≤ op) (h1 : op < m.ops.length) : (slackRes m w).1.length = m.ops.length ∧ nth (slackRes m w).1 op = slack w (nth m.ops op) := by
  unfold slackRes
  rw [if_pos h]
  refine ⟨by simp, ?_⟩
  have e1 : ∀ l : List Int, nth l op = nth l (op.toNat : Int) := fun l => by rw [Int.toNat_of_nonneg h0]
  have e2 : nth m.ops op = nth m.ops (op.toNat : Int) := by rw [Int.toNat_of_nonneg h0]
  rw [e1, e2, nth_eq (by simp; omega), nth_eq (by omega)]
  simp
theorem slack_in {m : Multi} {w : List (List Int)} (hv : Valid m) (hw : WOk m.sizes w) {op : Int} (h0 : 0 ≤ op) (h1 : op < m.ops.length) : -16000000 ≤ slack w (nth m.ops op) ∧ slack w (nth m.ops op) ≤ 16000100 := by
  have ho := nth_op hv h0 h1
  have := slackTo_in hw hv.sizes ho.1 ho.2.1 ho.2.2 (nth m.ops op).post.length (Nat.le_refl _)
  have h2 := asgs_len ho.2.1
  have h3 := hv.len
  unfold slack
  omega
theorem valid_state {m : Multi} {s : List Int} (hv : validate m = (0, 0)) (hs : StateP m.sizes s) : stateFault m s = (0, 0) := by
  unfold stateFault; rw [if_pos hv, if_pos (isState_iff.2 hs)]
theorem valFault_mk {m : Multi} {w : List (List Int)} {s : List Int} (h : potFault m w (-8) = (0, 0)) (hs : StateP m.sizes s) : valFault m w s = (0, 0) ∧ valRes m w s = val w s := by
  have hv : validate m = (0, 0) := by
    unfold potFault at h
    split at h
    · assumption
    · exact h
  have hf : valFault m w s = (0, 0) := by
    unfold valFault thenF
    rw [if_pos (valid_state hv hs)]
    unfold potFault at h
    rwa [if_pos hv] at h
  exact ⟨hf, by unfold valRes; rw [if_pos hf]⟩
end Go.Eng
