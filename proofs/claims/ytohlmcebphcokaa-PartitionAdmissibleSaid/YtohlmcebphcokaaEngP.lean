/- Weights of values: what is computed. -/
import Derived.Test.YtohlmcebphcokaaEngD
set_option linter.unusedVariables false
set_option linter.unusedSimpArgs false
namespace Go.Eng

abbrev RowOk (r : List Int) : Prop := ∀ x : Nat, x < r.length → -1000000 ≤ nth r x ∧ nth r x ≤ 1000000
abbrev LensP (sizes : List Int) (w : List (List Int)) : Prop := ∀ v : Nat, v < w.length → ((nth w v).length : Int) = nth sizes v
abbrev RowsP (w : List (List Int)) : Prop := ∀ v : Nat, v < w.length → RowOk (nth w v)
/-- The error code of weights. -/
def wcode (sizes : List Int) (w : List (List Int)) : Int :=
  if w.length ≠ sizes.length then 9 else if ¬ LensP sizes w then 9 else if ¬ RowsP w then 3 else 0
theorem wcode_1 {sizes : List Int} {w : List (List Int)} (h : w.length ≠ sizes.length) : 9 = wcode sizes w := by unfold wcode; rw [if_pos h]
theorem wcode_2 {sizes : List Int} {w : List (List Int)} (h : ¬ LensP sizes w) : 9 = wcode sizes w := by unfold wcode; rw [if_pos h]; simp
theorem wcode_3 {sizes : List Int} {w : List (List Int)} (h : w.length = sizes.length) (h' : LensP sizes w) (hr : ¬ RowsP w) : 3 = wcode sizes w := by
  unfold wcode; rw [if_neg (by simp [h]), if_neg (by simpa using h'), if_pos hr]
theorem wcode_0 {sizes : List Int} {w : List (List Int)} (h : w.length = sizes.length) (h' : LensP sizes w) (hr : RowsP w) : 0 = wcode sizes w := by
  unfold wcode; rw [if_neg (by simp [h]), if_neg (by simpa using h'), if_neg (by simpa using hr)]
theorem wcode_ok {sizes : List Int} {w : List (List Int)} (h : wcode sizes w = 0) : w.length = sizes.length ∧ LensP sizes w ∧ RowsP w := by
  unfold wcode at h
  by_cases h1 : w.length = sizes.length
  · by_cases h2 : LensP sizes w
    · by_cases h3 : RowsP w
      · exact ⟨h1, h2, h3⟩
      · rw [if_neg (by simp [h1]), if_neg (by simpa using h2), if_pos h3] at h; cases h
    · rw [if_neg (by simp [h1]), if_pos h2] at h; cases h
  · rw [if_pos h1] at h; cases h
def wfault (sizes : List Int) (w : List (List Int)) (i : Int) : Int × Int := if wcode sizes w = 0 then (0, 0) else (wcode sizes w, i)
theorem wfault_bad {sizes : List Int} {w : List (List Int)} {c i : Int} (h : c = wcode sizes w) (hc : c ≠ 0) : (c, i) = wfault sizes w i := by unfold wfault; rw [if_neg (by rw [← h]; exact hc), ← h]
theorem wfault_ok {sizes : List Int} {w : List (List Int)} {i : Int} (h : 0 = wcode sizes w) : (0, 0) = wfault sizes w i := by unfold wfault; rw [if_pos h.symm]

theorem rows_any {r : List Int} (h : r.any (fun x => decide (x < -1000000 ∨ 1000000 < x)) = false) : RowOk r := by
  intro v hv
  have : ¬ ∃ k : Nat, k < r.length ∧ decide (nth r k < -1000000 ∨ 1000000 < nth r k) = true := fun hh => by have := (any_iff (l := r) (p := fun x => decide (x < -1000000 ∨ 1000000 < x))).2 hh; rw [h] at this; cases this
  have := fun hh => this ⟨v, hv, hh⟩
  simp at this
  omega
theorem rows_any' {r : List Int} (h : r.any (fun x => decide (x < -1000000 ∨ 1000000 < x)) = true) : ¬ RowOk r := by
  intro hs
  obtain ⟨k, hk, hp⟩ := any_iff.1 h
  have := hs k hk
  simp at hp
  omega
def goodTo (w : List (List Int)) (k : Nat) : Bool := decide (∀ v : Nat, v < k → RowOk (nth w v))
def goodIn (w : List (List Int)) (k j : Nat) : Bool := goodTo w k && decide (∀ x : Nat, x < j → -1000000 ≤ nth (nth w k) x ∧ nth (nth w k) x ≤ 1000000)
theorem goodTo_0 (w : List (List Int)) : true = goodTo w 0 := by simp [goodTo]
theorem goodIn_0 (w : List (List Int)) (k : Nat) : goodTo w k = goodIn w k 0 := by simp [goodIn]
theorem goodIn_end (w : List (List Int)) (k : Nat) : goodIn w k (nth w k).length = goodTo w (k + 1) := by
  unfold goodIn goodTo
  rw [Bool.eq_iff_iff]
  simp only [Bool.and_eq_true, decide_eq_true_eq]
  constructor
  · rintro ⟨h1, h2⟩
    exact all_succ h1 h2
  · intro h
    exact ⟨fun v hv => h v (by omega), h k (by omega)⟩
theorem goodIn_t {w : List (List Int)} {k j : Nat} (h : goodIn w k j = true) : decide (-1000000 ≤ nth (nth w k) j ∧ nth (nth w k) j ≤ 1000000) = goodIn w k (j + 1) := by
  unfold goodIn at h ⊢
  rw [Bool.and_eq_true] at h
  rw [h.1, Bool.true_and, Bool.eq_iff_iff]
  simp only [decide_eq_true_eq] at h ⊢
  exact ⟨fun hj => all_succ h.2 hj, fun hh => hh j (by omega)⟩
theorem goodIn_f {w : List (List Int)} {k j : Nat} (h : goodIn w k j = false) : false = goodIn w k (j + 1) := by
  unfold goodIn at h ⊢
  cases hg : goodTo w k with
  | false => rfl
  | true =>
    rw [hg, Bool.true_and, decide_eq_false_iff_not] at h
    rw [Bool.true_and, eq_comm, decide_eq_false_iff_not]
    exact fun hh => h fun x hx => hh x (by omega)

/-- The greatest of the first k + 1 numbers. -/
def lmaxTo (l : List Int) : Nat → Int
  | 0 => nth l 0
  | k + 1 => max (lmaxTo l k) (nth l (k + 1 : Nat))
def lmax (l : List Int) : Int := lmaxTo l (l.length - 1)
/-- The greatest weight of variable v where some assignments hold. -/
def greatest (w : List (List Int)) (v : Int) (l : List Asg) : Int :=
  match firstBad l.length (fun i => decide ((nth l i).1 ≠ v)) with
  | some i => nth (nth w v) (nth l i).2
  | none => lmax (nth w v)
theorem greatest_some {w : List (List Int)} {v : Int} {l : List Asg} {k : Nat} (hk : k < l.length) (h : ∀ j : Nat, j < k → (nth l j).1 ≠ v) (hv : (nth l k).1 = v) : nth (nth w v) (nth l k).2 = greatest w v l := by
  unfold greatest
  rw [firstBad_some hk (fun j hj => by simpa using h j hj) (by simpa using hv)]
theorem greatest_none {w : List (List Int)} {v : Int} {l : List Asg} (h : ∀ j : Nat, j < l.length → (nth l j).1 ≠ v) : lmax (nth w v) = greatest w v l := by
  unfold greatest
  rw [firstBad_none (fun j hj => by simpa using h j hj)]
theorem lmaxTo_in {l : List Int} {a b : Int} : ∀ {k : Nat}, (∀ i : Nat, i ≤ k → a ≤ nth l i ∧ nth l i ≤ b) → a ≤ lmaxTo l k ∧ lmaxTo l k ≤ b
  | 0, h => h 0 (by omega)
  | k + 1, h => by
    have i1 := lmaxTo_in (k := k) (fun i hi => h i (by omega))
    have i2 := h (k + 1) (by omega)
    simp only [lmaxTo]
    omega
theorem lmaxTo_ge {l : List Int} : ∀ {k i : Nat}, i ≤ k → nth l i ≤ lmaxTo l k
  | 0, i, h => by have : i = 0 := by omega
                  subst this; exact Int.le_refl _
  | k + 1, i, h => by
    rcases Nat.lt_or_ge i (k + 1) with hi | hi
    · have := lmaxTo_ge (l := l) (k := k) (i := i) (by omega)
      simp only [lmaxTo]; omega
    · have : i = k + 1 := by omega
      subst this
      simp only [lmaxTo]; omega
theorem lmax_ge {l : List Int} {x : Int} (h0 : 0 ≤ x) (h1 : x < l.length) : nth l x ≤ lmax l := by
  have := lmaxTo_ge (l := l) (k := l.length - 1) (i := x.toNat) (by omega)
  rwa [Int.toNat_of_nonneg h0] at this
theorem lmax_in {r : List Int} (h : RowOk r) (hl : 0 < r.length) : -1000000 ≤ lmax r ∧ lmax r ≤ 1000000 := lmaxTo_in fun i hi => h i (by omega)

/-- What a valid task gives. -/
structure Valid (m : Multi) : Prop where
  len : 1 ≤ m.sizes.length ∧ m.sizes.length ≤ 8
  sizes : SizesP m.sizes
  init : StateP m.sizes m.init
  goal : AsgsP m.sizes m.goal
  opsLen : m.ops.length ≤ 40
  op : ∀ i : Nat, i < m.ops.length → AsgsP m.sizes (nth m.ops i).pre ∧ AsgsP m.sizes (nth m.ops i).post ∧ 0 ≤ (nth m.ops i).cost ∧ (nth m.ops i).cost ≤ 100
theorem assigns_iff {sizes : List Int} {l : List Asg} : assigns sizes l = true ↔ AsgsP sizes l := by simp only [assigns, decide_eq_true_eq]
theorem isState_iff {sizes s : List Int} : isState sizes s = true ↔ StateP sizes s := by simp only [isState, decide_eq_true_eq]
theorem valid_of {m : Multi} (h : validate m = (0, 0)) : Valid m := by
  by_cases h1 : m.sizes.length = 0 ∨ 8 < m.sizes.length
  · rw [← validate_1 h1] at h; cases h
  by_cases h2 : SizesP m.sizes
  · cases h3 : isState m.sizes m.init with
    | false => rw [← validate_3 h1 h2 h3] at h; cases h
    | true =>
      cases h4 : assigns m.sizes m.goal with
      | false => rw [← validate_4 h1 h2 h3 h4] at h; cases h
      | true =>
        by_cases h5 : 40 < m.ops.length
        · rw [← validate_5 h1 h2 h3 h4 h5] at h; cases h
        · rw [validate_6 h1 h2 h3 h4 h5] at h
          have hall : ∀ i, i < m.ops.length → opFault m i = (0, 0) := by
            intro i hi
            unfold opsFault at h
            cases hf : firstBad m.ops.length (fun i => decide (opFault m i = (0, 0))) with
            | some j =>
              rw [hf] at h
              unfold firstBad at hf
              have := List.find?_some hf
              simp [h] at this
            | none =>
              unfold firstBad at hf
              rw [List.find?_eq_none] at hf
              have := hf i (List.mem_range.2 hi)
              simpa using this
          refine ⟨by omega, h2, isState_iff.1 h3, assigns_iff.1 h4, by omega, fun i hi => ?_⟩
          have := hall i hi
          unfold opFault at this
          split at this
          · cases this
          · rename_i ha
            split at this
            · cases this
            · rename_i hc
              simp only [Decidable.not_not] at ha hc
              exact ⟨assigns_iff.1 ha.1, assigns_iff.1 ha.2, hc⟩
  · rw [← validate_2 h1 h2] at h; cases h

/-- Increasing variables are at least their places. -/
theorem asgs_ge {sizes : List Int} {l : List Asg} (h : AsgsP sizes l) : ∀ i : Nat, i < l.length → (i : Int) ≤ (nth l i).1
  | 0, hi => by simpa using (h 0 hi).1
  | i + 1, hi => by
    have ih := asgs_ge h i (by omega)
    have := (h (i + 1) hi).2.2.2.2 (by omega)
    have e : ((i + 1 : Nat) : Int) - 1 = (i : Int) := by omega
    rw [e] at this
    omega
theorem asgs_len {sizes : List Int} {l : List Asg} (h : AsgsP sizes l) : l.length ≤ sizes.length := by
  by_cases hl : l.length = 0
  · omega
  · have := asgs_ge h (l.length - 1) (by omega)
    have := (h (l.length - 1) (by omega)).2.1
    omega
/-- Fitting weights. -/
structure WOk (sizes : List Int) (w : List (List Int)) : Prop where
  len : w.length = sizes.length
  lens : LensP sizes w
  rows : RowsP w
theorem WOk.row {sizes : List Int} {w : List (List Int)} (h : WOk sizes w) {v x : Int} (h0 : 0 ≤ v) (h1 : v < sizes.length) (h2 : 0 ≤ x) (h3 : x < nth sizes v) : x < (nth w v).length ∧ -1000000 ≤ nth (nth w v) x ∧ nth (nth w v) x ≤ 1000000 := by
  have e := h.lens v.toNat (by have := h.len; omega)
  have r := h.rows v.toNat (by have := h.len; omega) x.toNat
  rw [Int.toNat_of_nonneg h0] at e r
  rw [Int.toNat_of_nonneg h2] at r
  exact ⟨by omega, r (by omega)⟩
theorem greatest_in {sizes : List Int} {w : List (List Int)} (hw : WOk sizes w) (hs : SizesP sizes) {v : Int} (h0 : 0 ≤ v) (h1 : v < sizes.length) {l : List Asg} (hl : AsgsP sizes l) : -1000000 ≤ greatest w v l ∧ greatest w v l ≤ 1000000 := by
  unfold greatest
  cases hf : firstBad l.length (fun i => decide ((nth l i).1 ≠ v)) with
  | some i =>
    unfold firstBad at hf
    have hp := List.find?_some hf
    have hi := List.mem_of_find?_eq_some hf
    rw [List.mem_range] at hi
    simp at hp
    have := hl i hi
    subst hp
    exact (hw.row h0 h1 this.2.2.1 this.2.2.2.1).2
  | none =>
    have hn := nth_size hs h0 h1
    have e := hw.lens v.toNat (by have := hw.len; omega)
    have r := hw.rows v.toNat (by have := hw.len; omega)
    rw [Int.toNat_of_nonneg h0] at e r
    exact lmax_in r (by omega)
/-- What is left of an operator's cost behind its first k assignments. -/
def slackTo (w : List (List Int)) (o : MOp) : Nat → Int
  | 0 => o.cost
  | k + 1 => slackTo w o k - (greatest w (nth o.post k).1 o.pre - nth (nth w (nth o.post k).1) (nth o.post k).2)
def slack (w : List (List Int)) (o : MOp) : Int := slackTo w o o.post.length
def goalTo (w : List (List Int)) (l : List Asg) : Nat → Int
  | 0 => 0
  | k + 1 => goalTo w l k + greatest w k l
def goalMax (w : List (List Int)) (l : List Asg) : Int := goalTo w l w.length
theorem slackTo_in {sizes : List Int} {w : List (List Int)} (hw : WOk sizes w) (hs : SizesP sizes) {o : MOp} (hpre : AsgsP sizes o.pre) (hpost : AsgsP sizes o.post) (hc : 0 ≤ o.cost ∧ o.cost ≤ 100) : ∀ k : Nat, k ≤ o.post.length → -2000000 * k ≤ slackTo w o k ∧ slackTo w o k ≤ 100 + 2000000 * k
  | 0, _ => by simp [slackTo]; omega
  | k + 1, hk => by
    have ih := slackTo_in hw hs hpre hpost hc k (by omega)
    have h := hpost k (by omega)
    have g := greatest_in hw hs h.1 h.2.1 hpre
    have r := hw.row h.1 h.2.1 h.2.2.1 h.2.2.2.1
    simp only [slackTo]
    omega
theorem goalTo_in {sizes : List Int} {w : List (List Int)} (hw : WOk sizes w) (hs : SizesP sizes) {l : List Asg} (hl : AsgsP sizes l) : ∀ k : Nat, k ≤ sizes.length → -1000000 * k ≤ goalTo w l k ∧ goalTo w l k ≤ 1000000 * k
  | 0, _ => by simp [goalTo]
  | k + 1, hk => by
    have ih := goalTo_in hw hs hl k (by omega)
    have g := greatest_in hw hs (v := k) (by omega) (by omega) hl
    simp only [goalTo]
    omega
/-- The value of a state, up to a variable. -/
def valTo (w : List (List Int)) (s : List Int) : Nat → Int
  | 0 => 0
  | k + 1 => valTo w s k + nth (nth w k) (nth s k)
def val (w : List (List Int)) (s : List Int) : Int := valTo w s s.length
theorem valTo_in {sizes : List Int} {w : List (List Int)} (hw : WOk sizes w) {s : List Int} (hs : StateP sizes s) : ∀ k : Nat, k ≤ s.length → -1000000 * k ≤ valTo w s k ∧ valTo w s k ≤ 1000000 * k
  | 0, _ => by simp [valTo]
  | k + 1, hk => by
    have ih := valTo_in hw hs k (by omega)
    have h := hs.2 k (by omega)
    have r := hw.row (v := k) (x := nth s k) (by omega) (by have := hs.1; omega) h.1 h.2
    simp only [valTo]
    omega
theorem wfault_iff {sizes : List Int} {w : List (List Int)} {i : Int} (h : (wfault sizes w i).1 = 0) : WOk sizes w := by
  unfold wfault at h
  split at h
  · rename_i h0; obtain ⟨a, b, c⟩ := wcode_ok h0; exact ⟨a, b, c⟩
  · rename_i h0; exact absurd h h0
/-- The second fault where there is no first one. -/
def thenF (f g : Int × Int) : Int × Int := if f = (0, 0) then g else f
theorem thenF_1 {f g : Int × Int} (h : f.1 = 0 ∧ f.2 = 0) : g = thenF f g := by unfold thenF; rw [if_pos (pair0 h)]
theorem thenF_2 {f g : Int × Int} (h : ¬ (f.1 = 0 ∧ f.2 = 0)) : f = thenF f g := by unfold thenF; rw [if_neg (fun e => h (by rw [e]; exact ⟨rfl, rfl⟩))]
theorem stateFault_ok {m : Multi} {s : List Int} (h : stateFault m s = (0, 0)) : Valid m ∧ StateP m.sizes s := by
  unfold stateFault at h
  split at h
  · rename_i hv
    split at h
    · rename_i hs; exact ⟨valid_of hv, isState_iff.1 hs⟩
    · cases h
  · rename_i hv; exact absurd h hv
def valFault (m : Multi) (w : List (List Int)) (s : List Int) : Int × Int := thenF (stateFault m s) (wfault m.sizes w (-8))
theorem valFault_ok {m : Multi} {w : List (List Int)} {s : List Int} (h : valFault m w s = (0, 0)) : Valid m ∧ StateP m.sizes s ∧ WOk m.sizes w := by
  unfold valFault thenF at h
  split at h
  · rename_i hv; obtain ⟨a, b⟩ := stateFault_ok hv; exact ⟨a, b, wfault_iff (i := -8) (by rw [h])⟩
  · rename_i hv; exact absurd h hv
def valRes (m : Multi) (w : List (List Int)) (s : List Int) : Int := if valFault m w s = (0, 0) then val w s else 0
/-- Weights are checked behind a fault. -/
def addW (f : Int × Int) (sizes : List Int) (w : List (List Int)) (i : Int) : Int × Int := if f.1 = 0 ∧ wcode sizes w ≠ 0 then (wcode sizes w, i) else f
def potFault (m : Multi) (w : List (List Int)) (i : Int) : Int × Int := if validate m = (0, 0) then wfault m.sizes w i else validate m
theorem potFault_1 {m : Multi} {w : List (List Int)} {i : Int} (h : (validate m).1 = 0 ∧ (validate m).2 = 0) : wfault m.sizes w i = potFault m w i := by unfold potFault; rw [if_pos (pair0 h)]
theorem potFault_2 {m : Multi} {w : List (List Int)} {i : Int} (h : ¬ ((validate m).1 = 0 ∧ (validate m).2 = 0)) : validate m = potFault m w i := by
  unfold potFault; rw [if_neg (fun e => h (by rw [e]; exact ⟨rfl, rfl⟩))]
theorem potFault_ok {m : Multi} {w : List (List Int)} {i : Int} (h : (potFault m w i).1 = 0 ∧ (potFault m w i).2 = 0) : Valid m ∧ WOk m.sizes w := by
  unfold potFault at h
  split at h
  · rename_i hv; exact ⟨valid_of hv, wfault_iff h.1⟩
  · rename_i hv; exact absurd (pair0 h) hv

def slackRes (m : Multi) (w : List (List Int)) : List Int × Int × (Int × Int) :=
  if potFault m w (-8) = (0, 0) then (m.ops.map (slack w), goalMax w m.goal, (0, 0)) else ([], 0, potFault m w (-8))
theorem slackRes_1 {m : Multi} {w : List (List Int)} (h : ¬ ((potFault m w (-8)).1 = 0 ∧ (potFault m w (-8)).2 = 0)) : slackRes m w = ([], 0, potFault m w (-8)) := by
  unfold slackRes; rw [if_neg (fun e => h (by rw [e]; exact ⟨rfl, rfl⟩))]
theorem slackRes_2 {m : Multi} {w : List (List Int)} (h : (potFault m w (-8)).1 = 0 ∧ (potFault m w (-8)).2 = 0) : slackRes m w = (m.ops.map (slack w), goalMax w m.goal, (0, 0)) := by
  unfold slackRes; rw [if_pos (pair0 h)]
def adm (m : Multi) (w : List (List Int)) : Bool := decide ((slackRes m w).2.2 = (0, 0)) && (decide ((slackRes m w).2.1 ≤ 0) && !((slackRes m w).1.any fun n => decide (n < 0)))
theorem range_map {α β : Type} [Inhabited α] (f : α → β) (l : List α) : (List.range l.length).map (fun (i : Nat) => f (nth l i)) = l.map f := by
  apply List.ext_getElem?
  intro i
  by_cases h : i < l.length
  · simp [h, nth_eq h]
  · simp [h]
end Go.Eng
