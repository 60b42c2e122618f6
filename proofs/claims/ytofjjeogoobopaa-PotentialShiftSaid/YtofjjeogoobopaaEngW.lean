/- Plain laws: weights shifted by a constant on one variable and back on another. -/
import Derived.Test.YtofjjeogoobopaaEngV
set_option linter.unusedVariables false
set_option linter.unusedSimpArgs false
namespace Go.Eng
open Go

def dlt (v u b : Int) (k : Int) : Int := (if k = v then b else 0) - (if k = u then b else 0)
def shiftRow (r : List Int) (d : Int) : List Int := r.map fun n => n + d
theorem nth_map' {α β : Type} [Inhabited α] [Inhabited β] {l : List α} {f : α → β} {n : Int} (h0 : 0 ≤ n) (h1 : n < l.length) : nth (l.map f) n = f (nth l n) := by
  have hk : n.toNat < l.length := by omega
  have e1 : nth (l.map f) n = nth (l.map f) (n.toNat : Int) := by rw [Int.toNat_of_nonneg h0]
  have e2 : nth l n = nth l (n.toNat : Int) := by rw [Int.toNat_of_nonneg h0]
  rw [e1, e2, nth_eq (by simpa using hk), nth_eq hk]
  simp
/-- The row behind the first j steps. -/
def moveTo (r : List Int) (d : Int) : Nat → List Int
  | 0 => r
  | j + 1 => setI (moveTo r d j) j (nth r j + d)
theorem moveTo_len {r : List Int} {d : Int} : ∀ {j : Nat}, (moveTo r d j).length = r.length
  | 0 => rfl
  | j + 1 => by simp only [moveTo, setI_len]; exact moveTo_len
theorem nth_moveTo {r : List Int} {d : Int} {i : Nat} (hi : i < r.length) : ∀ {j : Nat}, j ≤ r.length → nth (moveTo r d j) i = if i < j then nth r i + d else nth r i
  | 0, _ => by rw [if_neg (by omega)]; rfl
  | j + 1, hj => by
    simp only [moveTo]
    rw [nth_setI (by omega) (by rw [moveTo_len]; omega) (by omega), nth_moveTo hi (by omega)]
    by_cases h : i = j
    · subst h; rw [if_pos rfl, if_pos (by omega)]
    · rw [if_neg (by omega)]
      by_cases h2 : i < j
      · rw [if_pos h2, if_pos (by omega)]
      · rw [if_neg h2, if_neg (by omega)]
theorem moveTo_end {r : List Int} {d : Int} : moveTo r d r.length = shiftRow r d := by
  apply ext_nth (by simp [moveTo_len, shiftRow])
  intro i hi
  rw [moveTo_len] at hi
  rw [nth_moveTo hi (Nat.le_refl _), if_pos hi, shiftRow, nth_map' (by omega) (by omega)]
theorem setI_self {l : List Int} {i : Nat} : setI l i (nth l i) = l := by
  apply ext_nth (by rw [setI_len])
  intro k hk
  rw [setI_len] at hk
  rw [nth_setI (by omega) (by omega) (by omega)]
  split
  · rename_i h; rw [h]
  · rfl
abbrev rw1 (l : List Int) : List (List D) := l.map fun n => [D.v (.int .i64 n)]
/-- The row in the middle of a step. -/
def moveA (r : List Int) (v b k : Int) (j : Nat) : List Int := if k = v then setI r j (nth r j + b) else r
theorem moveA_len {r : List Int} {v b k : Int} {j : Nat} : (moveA r v b k j).length = r.length := by unfold moveA; split <;> simp [setI_len]
theorem nth_moveA {r : List Int} {v b k : Int} {j : Nat} (hj : j < r.length) : nth (moveA r v b k j) j = if k = v then nth r j + b else nth r j := by
  unfold moveA
  split
  · rw [nth_setI (by omega) (by omega) (by omega), if_pos rfl]
  · rfl
theorem moveA_1 {r : List Int} {v b k : Int} {j : Nat} (h : k = v) : (rw1 r).set j [D.v (.int .i64 (nth r j + b))] = rw1 (moveA r v b k j) := by
  rw [rows_set (f := fun n => [D.v (.int .i64 n)])]
  unfold moveA
  rw [if_pos h]
  simp only [setI, Int.toNat_natCast]
theorem moveA_0 {r : List Int} {v b k : Int} {j : Nat} (h : ¬ k = v) : rw1 r = rw1 (moveA r v b k j) := by unfold moveA; rw [if_neg h]
section
variable {r : List Int} {v u b k : Int} {j : Nat} (hj : j < r.length)
include hj
theorem move_0 (h2 : ¬ k = u) : rw1 (moveA (moveTo r (dlt v u b k) j) v b k j) = rw1 (moveTo r (dlt v u b k) (j + 1)) := by
  congr 1
  have hn := nth_moveTo (d := dlt v u b k) hj (j := j) (by omega)
  rw [if_neg (by omega)] at hn
  unfold moveA
  simp only [moveTo]
  split
  · rename_i h1
    rw [hn, show dlt v u b k = b by simp only [dlt]; rw [if_pos h1, if_neg h2]; omega]
  · rename_i h1
    rw [show nth r j + dlt v u b k = nth (moveTo r (dlt v u b k) j) j by rw [hn]; simp only [dlt]; rw [if_neg h1, if_neg h2]; omega, setI_self]
theorem move_1 (h2 : k = u) : (rw1 (moveA (moveTo r (dlt v u b k) j) v b k j)).set j [D.v (.int .i64 (nth (moveA (moveTo r (dlt v u b k) j) v b k j) j - b))] = rw1 (moveTo r (dlt v u b k) (j + 1)) := by
  have hn := nth_moveTo (d := dlt v u b k) hj (j := j) (by omega)
  rw [if_neg (by omega)] at hn
  rw [rows_set (f := fun n => [D.v (.int .i64 n)]), nth_moveA (by rw [moveTo_len]; exact hj)]
  congr 1
  unfold moveA
  simp only [moveTo, setI, Int.toNat_natCast]
  split
  · rename_i h1
    rw [List.set_set, hn, show nth r ↑j + b - b = nth r ↑j + dlt v u b k by simp only [dlt]; rw [if_pos h1, if_pos h2]; omega]
  · rename_i h1
    rw [hn, show nth r ↑j - b = nth r ↑j + dlt v u b k by simp only [dlt]; rw [if_neg h1, if_pos h2]; omega]
end
def movedTo (w : List (List Int)) (v u b : Int) (k : Nat) : List (List Int) := (List.range k).map fun (i : Nat) => shiftRow (nth w i) (dlt v u b i)
theorem movedTo_len {w : List (List Int)} {v u b : Int} {k : Nat} : (movedTo w v u b k).length = k := by simp [movedTo]
theorem movedTo_s {w : List (List Int)} {v u b : Int} {k : Nat} : movedTo w v u b (k + 1) = movedTo w v u b k ++ [shiftRow (nth w k) (dlt v u b k)] := by simp [movedTo, List.range_succ]
theorem nth_moved {w : List (List Int)} {v u b : Int} {n : Nat} {i : Int} (h0 : 0 ≤ i) (h1 : i < n) : nth (movedTo w v u b n) i = shiftRow (nth w i) (dlt v u b i) := by
  have e1 : nth (movedTo w v u b n) i = nth (movedTo w v u b n) (i.toNat : Int) := by rw [Int.toNat_of_nonneg h0]
  rw [e1, nth_eq (by rw [movedTo_len]; omega)]
  simp only [movedTo, List.getElem_map, List.getElem_range]
  rw [Int.toNat_of_nonneg h0]
/-- The sum of the shifts. -/
def dsum (v u b : Int) : Nat → Int
  | 0 => 0
  | k + 1 => dsum v u b k + dlt v u b k
theorem dsum_eq {v u b : Int} (hv : 0 ≤ v) (hu : 0 ≤ u) : ∀ k : Nat, dsum v u b k = (if v < k then b else 0) - (if u < k then b else 0)
  | 0 => by rw [if_neg (by omega), if_neg (by omega)]; rfl
  | k + 1 => by
    simp only [dsum, dsum_eq hv hu k, dlt]
    by_cases h1 : (k : Int) = v <;> by_cases h2 : (k : Int) = u <;> by_cases h3 : v < (k : Int) <;> by_cases h4 : u < (k : Int) <;> simp only [h1, h2, h3, h4, if_true, if_false] <;> (try omega) <;>
      (try (rw [if_pos (by omega)])) <;> (try (rw [if_pos (by omega)])) <;> (try (rw [if_neg (by omega)])) <;> (try (rw [if_neg (by omega)])) <;> omega
section
variable {sizes : List Int} {w : List (List Int)} {v u b : Int} (hw : WOk sizes w)
include hw
theorem moved_lens : (movedTo w v u b w.length).length = sizes.length ∧ LensP sizes (movedTo w v u b w.length) := by
  refine ⟨by rw [movedTo_len]; exact hw.len, fun i hi => ?_⟩
  rw [movedTo_len] at hi
  rw [nth_moved (by omega) (by omega)]
  have := hw.lens i hi
  simpa [shiftRow] using this
theorem nth_shift {i : Int} (h0 : 0 ≤ i) (h1 : i < sizes.length) {x : Int} (hx0 : 0 ≤ x) (hx1 : x < nth sizes i) : nth (nth (movedTo w v u b w.length) i) x = nth (nth w i) x + dlt v u b i := by
  have hl := hw.len
  have hr := (hw.row h0 h1 hx0 hx1).1
  rw [nth_moved h0 (by omega), shiftRow, nth_map' hx0 hr]
theorem val_moved {s : List Int} (hs : StateP sizes s) : ∀ {k : Nat}, k ≤ s.length → valTo (movedTo w v u b w.length) s k = valTo w s k + dsum v u b k
  | 0, _ => by simp [valTo, dsum]
  | k + 1, hk => by
    have ih := val_moved hs (k := k) (by omega)
    have h := hs.2 k (by omega)
    have := hs.1
    simp only [valTo, dsum]
    rw [ih, nth_shift hw (by omega) (by omega) h.1 h.2]
    omega
omit hw in
theorem lmaxTo_shift {r : List Int} {d : Int} : ∀ {k : Nat}, k < r.length → lmaxTo (shiftRow r d) k = lmaxTo r k + d
  | 0, h => by simp only [lmaxTo, shiftRow]; rw [nth_map' (by omega) (by omega)]
  | k + 1, h => by
    have ih := lmaxTo_shift (r := r) (d := d) (k := k) (by omega)
    simp only [lmaxTo]
    rw [ih]
    have : nth (shiftRow r d) ((k + 1 : Nat) : Int) = nth r ((k + 1 : Nat) : Int) + d := by simp only [shiftRow]; rw [nth_map' (by omega) (by omega)]
    rw [this]
    omega
theorem greatest_moved (hs : SizesP sizes) {i : Int} (h0 : 0 ≤ i) (h1 : i < sizes.length) {l : List Asg} (hl : AsgsP sizes l) : greatest (movedTo w v u b w.length) i l = greatest w i l + dlt v u b i := by
  have hlen := hw.len
  have hn := nth_size hs h0 h1
  have he := hw.lens i.toNat (by omega)
  rw [Int.toNat_of_nonneg h0] at he
  unfold greatest
  split
  · rename_i j hj
    have hp := List.find?_some hj
    have hm := List.mem_of_find?_eq_some hj
    have hlt : j < l.length := by simpa using hm
    have hv : (nth l j).1 = i := by simpa using hp
    have ha := hl j hlt
    exact nth_shift hw h0 h1 ha.2.2.1 (by rw [← hv]; exact ha.2.2.2.1)
  · rw [nth_moved h0 (by omega)]
    unfold lmax
    rw [show (shiftRow (nth w i) (dlt v u b i)).length = (nth w i).length by simp [shiftRow], lmaxTo_shift (by omega)]
theorem goal_moved (hs : SizesP sizes) {l : List Asg} (hl : AsgsP sizes l) : ∀ {k : Nat}, k ≤ w.length → goalTo (movedTo w v u b w.length) l k = goalTo w l k + dsum v u b k
  | 0, _ => by simp [goalTo, dsum]
  | k + 1, hk => by
    have ih := goal_moved hs hl (k := k) (by omega)
    have := hw.len
    simp only [goalTo, dsum]
    rw [ih, greatest_moved hw hs (by omega) (by omega) hl]
    omega
theorem slack_moved (hs : SizesP sizes) {o : MOp} (h1 : AsgsP sizes o.pre) (h2 : AsgsP sizes o.post) : ∀ {k : Nat}, k ≤ o.post.length → slackTo (movedTo w v u b w.length) o k = slackTo w o k
  | 0, _ => rfl
  | k + 1, hk => by
    have ih := slack_moved hs h1 h2 (k := k) (by omega)
    have ha := h2 k (by omega)
    simp only [slackTo]
    rw [ih, greatest_moved hw hs ha.1 ha.2.1 h1, nth_shift hw ha.1 ha.2.1 ha.2.2.1 ha.2.2.2.1]
    omega
theorem wcode_moved : wcode sizes (movedTo w v u b w.length) = 0 ∨ wcode sizes (movedTo w v u b w.length) = 3 := by
  obtain ⟨h1, h2⟩ := moved_lens (v := v) (u := u) (b := b) hw
  by_cases h : RowsP (movedTo w v u b w.length)
  · exact .inl (wcode_0 h1 h2 h).symm
  · exact .inr (wcode_3 h1 h2 h).symm
end
/-- The shifted weights answer as the given ones do, or are out of range. -/
theorem shift_law {m : Multi} {w : List (List Int)} {s : List Int} {v u b : Int} (hpf : potFault m w (-8) = (0, 0)) (hs : StateP m.sizes s) (hv0 : 0 ≤ v) (hv1 : v < w.length) (hu0 : 0 ≤ u) (hu1 : u < w.length) :
    ((valFault m (movedTo w v u b w.length) s).1 = 3 ∧ (slackRes m (movedTo w v u b w.length)).2.2.1 = 3) ∨
    ((valFault m (movedTo w v u b w.length) s).1 = 0 ∧ (slackRes m (movedTo w v u b w.length)).2.2.1 = 0 ∧ valRes m (movedTo w v u b w.length) s = valRes m w s ∧ (slackRes m (movedTo w v u b w.length)).1 = (slackRes m w).1 ∧ (slackRes m (movedTo w v u b w.length)).2.1 = (slackRes m w).2.1) := by
  obtain ⟨hvd, hw⟩ := potFault_ok (m := m) (w := w) (i := -8) (by rw [hpf]; exact ⟨rfl, rfl⟩)
  have hvl : validate m = (0, 0) := by
    unfold potFault at hpf
    split at hpf <;> assumption
  have hsum : dsum v u b w.length = 0 := by rw [dsum_eq hv0 hu0, if_pos hv1, if_pos hu1]; omega
  rcases wcode_moved (v := v) (u := u) (b := b) hw with hc | hc
  · right
    have hw' := wok_of hc
    have hpf' : potFault m (movedTo w v u b w.length) (-8) = (0, 0) := by unfold potFault; rw [if_pos hvl]; unfold wfault; rw [if_pos hc]
    obtain ⟨a1, a2⟩ := valFault_mk hpf hs
    obtain ⟨b1, b2⟩ := valFault_mk hpf' hs
    refine ⟨by rw [b1], ?_, ?_, ?_, ?_⟩
    · unfold slackRes; rw [if_pos hpf']
    · rw [a2, b2]; unfold val
      rw [val_moved hw hs (Nat.le_refl _), show s.length = w.length by rw [hs.1, hw.len], hsum]; omega
    · unfold slackRes
      rw [if_pos hpf, if_pos hpf']
      simp only
      apply List.map_congr_left
      intro o ho
      obtain ⟨i, hi, rfl⟩ := List.getElem_of_mem ho
      have := hvd.op i hi
      rw [nth_eq hi] at this
      exact slack_moved hw hvd.sizes this.1 this.2.1 (Nat.le_refl _)
    · unfold slackRes
      rw [if_pos hpf, if_pos hpf']
      simp only
      unfold goalMax
      rw [movedTo_len, goal_moved hw hvd.sizes hvd.goal (Nat.le_refl _), hsum]; omega
  · left
    have h3 : wfault m.sizes (movedTo w v u b w.length) (-8) = (3, -8) := by unfold wfault; rw [hc, if_neg (by decide)]
    have hpf' : potFault m (movedTo w v u b w.length) (-8) = (3, -8) := by unfold potFault; rw [if_pos hvl, h3]
    constructor
    · unfold valFault thenF
      rw [if_pos (valid_state hvl hs), h3]
    · unfold slackRes
      rw [hpf', if_neg (by decide)]
end Go.Eng
