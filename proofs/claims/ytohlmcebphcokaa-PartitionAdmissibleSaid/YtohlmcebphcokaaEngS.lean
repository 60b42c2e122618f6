/- Cost partitions. -/
import Derived.Test.YtohlmcebphcokaaEngI
import Derived.Test.YtohlmcebphcokaaEngB
set_option linter.unusedVariables false
set_option linter.unusedSimpArgs false
set_option linter.unusedSectionVars false
namespace Go.Eng
open Go
/-! ### The first fault of several -/
def firstF (f : Nat → Int × Int) : Nat → Int × Int
  | 0 => (0, 0)
  | k + 1 => if firstF f k = (0, 0) then f k else firstF f k
theorem firstF_of {f : Nat → Int × Int} : ∀ {n : Nat}, (∀ j, j < n → f j = (0, 0)) → firstF f n = (0, 0)
  | 0, _ => rfl
  | n + 1, h => by simp only [firstF]; rw [if_pos (firstF_of fun j hj => h j (by omega))]; exact h n (by omega)
theorem firstF_stop {f : Nat → Int × Int} {k : Nat} (h : firstF f k ≠ (0, 0)) : ∀ n, firstF f (k + n) = firstF f k
  | 0 => rfl
  | n + 1 => by
    have ih := firstF_stop h n
    show firstF f (k + n + 1) = _
    simp only [firstF]
    rw [if_neg (by rw [ih]; exact h), ih]
theorem firstF_bad {f : Nat → Int × Int} {n k : Nat} (hk : k < n) (h0 : ∀ j, j < k → f j = (0, 0)) (h : f k ≠ (0, 0)) : f k = firstF f n := by
  have h1 : firstF f (k + 1) = f k := by simp only [firstF]; rw [if_pos (firstF_of h0)]
  have := firstF_stop (f := f) (k := k + 1) (by rw [h1]; exact h) (n - (k + 1))
  rw [show k + 1 + (n - (k + 1)) = n by omega] at this
  rw [this, h1]
theorem firstF_all {f : Nat → Int × Int} : ∀ {n : Nat}, firstF f n = (0, 0) → ∀ j, j < n → f j = (0, 0)
  | 0, _, j, hj => by omega
  | n + 1, h, j, hj => by
    simp only [firstF] at h
    split at h
    · rename_i h1
      by_cases hjn : j = n
      · subst hjn; exact h
      · exact firstF_all h1 j (by omega)
    · rename_i h1; exact absurd h h1
theorem firstF_code {f : Nat → Int × Int} (hf : ∀ j, (f j).1 = 0 → f j = (0, 0)) : ∀ {n : Nat}, (firstF f n).1 = 0 → firstF f n = (0, 0)
  | 0, _ => rfl
  | n + 1, h => by
    simp only [firstF] at h ⊢
    split
    · rename_i h1; rw [if_pos h1] at h; exact hf n h
    · rename_i h1; rw [if_neg h1] at h; exact absurd (firstF_code hf h) h1
/-! ### Abstractions with costs of labels -/
def labA (c : List Int) (a : Abs) (k : Int) : Int × Int := if (absFault a).1 ≠ 0 then ((absFault a).1, k) else if a.labels ≠ c.length then (9, k) else (0, 0)
def labF (l : List Abs) (c : List Int) : Int × Int := if 6 < l.length then (2, -1) else if costFault c (min (c.length : Int) 40) (-4) ≠ (0, 0) then costFault c (min (c.length : Int) 40) (-4) else firstF (fun k => labA c (nth l k) k) l.length
theorem labA_1 {c : List Int} {a : Abs} {k : Int} (h : (absFault a).1 ≠ 0) : ((absFault a).1, k) = labA c a k := by unfold labA; rw [if_pos h]
theorem labA_2 {c : List Int} {a : Abs} {k : Int} (h : (absFault a).1 = 0) (h2 : a.labels ≠ c.length) : (9, k) = labA c a k := by unfold labA; rw [if_neg (fun hn => hn h), if_pos h2]
theorem labA_0 {c : List Int} {a : Abs} {k : Int} (h : (absFault a).1 = 0) (h2 : a.labels = c.length) : labA c a k = (0, 0) := by unfold labA; rw [if_neg (fun hn => hn h), if_neg (fun hn => hn h2)]
theorem labA_ok {c : List Int} {a : Abs} {k : Int} (h : labA c a k = (0, 0)) : AbsOk a ∧ a.labels = c.length := by
  unfold labA at h
  split at h
  · rename_i h1; exact absurd (congrArg Prod.fst h) h1
  · rename_i h1
    split at h
    · cases h
    · rename_i h2; exact ⟨(absFault_ok (Decidable.not_not.1 h1)).1, Decidable.not_not.1 h2⟩
theorem labA_code {c : List Int} {a : Abs} {k : Int} (h : (labA c a k).1 = 0) : labA c a k = (0, 0) := by
  unfold labA at h ⊢
  split
  · rename_i h1; rw [if_pos h1] at h; exact absurd h h1
  · rename_i h1
    rw [if_neg h1] at h
    split
    · rename_i h2; rw [if_pos h2] at h; cases h
    · rfl
theorem labF_1 {l : List Abs} {c : List Int} (h : 6 < l.length) : (2, -1) = labF l c := by unfold labF; rw [if_pos h]
theorem labF_2 {l : List Abs} {c : List Int} (h : ¬ 6 < l.length) (h2 : costFault c (min (c.length : Int) 40) (-4) ≠ (0, 0)) : costFault c (min (c.length : Int) 40) (-4) = labF l c := by unfold labF; rw [if_neg h, if_pos h2]
theorem labF_3 {l : List Abs} {c : List Int} (h : ¬ 6 < l.length) (h2 : costFault c (min (c.length : Int) 40) (-4) = (0, 0)) : firstF (fun k => labA c (nth l k) k) l.length = labF l c := by unfold labF; rw [if_neg h, if_neg (fun hn => hn h2)]
theorem labF_bad {l : List Abs} {c : List Int} (h : ¬ 6 < l.length) (h2 : costFault c (min (c.length : Int) 40) (-4) = (0, 0)) {k : Nat} (hk : k < l.length) (h0 : ∀ j : Nat, j < k → labA c (nth l j) j = (0, 0)) {x : Int × Int} (hx : x = labA c (nth l k) k) (hn : x.1 ≠ 0) : x = labF l c := by
  rw [← labF_3 h h2, hx]
  exact firstF_bad (f := fun k : Nat => labA c (nth l k) k) hk h0 (fun e => hn (by rw [hx]; exact congrArg Prod.fst e))
theorem labF_0 {l : List Abs} {c : List Int} (h : ¬ 6 < l.length) (h2 : costFault c (min (c.length : Int) 40) (-4) = (0, 0)) (h0 : ∀ j : Nat, j < l.length → labA c (nth l j) j = (0, 0)) : (0, 0) = labF l c := by
  rw [← labF_3 h h2]; exact (firstF_of h0).symm
theorem costFault_code {c : List Int} {n i : Int} (h : (costFault c n i).1 = 0) : costFault c n i = (0, 0) := (costFault_ok' h).2.2
theorem labF_code {l : List Abs} {c : List Int} (h : (labF l c).1 = 0) : labF l c = (0, 0) := by
  unfold labF at h ⊢
  split
  · rename_i h1; rw [if_pos h1] at h; cases h
  · rename_i h1
    rw [if_neg h1] at h
    split
    · rename_i h2; rw [if_pos h2] at h; exact absurd (costFault_code h) h2
    · rename_i h2; rw [if_neg h2] at h; exact firstF_code (fun j => labA_code) h
theorem labF_ok {l : List Abs} {c : List Int} (h : labF l c = (0, 0)) : l.length ≤ 6 ∧ c.length ≤ 40 ∧ CostP c ∧ ∀ k : Nat, k < l.length → AbsOk (nth l k) ∧ (nth l k).labels = c.length := by
  unfold labF at h
  split at h
  · cases h
  · rename_i h1
    split at h
    · rename_i h2; exact absurd h h2
    · rename_i h2
      obtain ⟨h3, h4, _⟩ := costFault_ok' (c := c) (n := min (c.length : Int) 40) (i := -4) (by rw [Decidable.not_not.1 h2])
      exact ⟨by omega, by omega, h4, fun k hk => labA_ok (firstF_all h k hk)⟩
/-- The reference's order of the same questions. -/
theorem costFault_long {c : List Int} (h : 40 < c.length) : (9, -4) = costFault c (min (c.length : Int) 40) (-4) := costFault_bad (costCode_9 (by omega)) (by decide)
theorem costFault_short {c : List Int} (h : ¬ 40 < c.length) : costFault c (min (c.length : Int) 40) (-4) = costFault c c.length (-4) := by rw [show min (c.length : Int) 40 = c.length by omega]
/-! ### Parts -/
def prtF (c : List Int) (ps : List (List Int)) : Int × Int := if labF [] c ≠ (0, 0) then labF [] c else if 6 < ps.length then (2, -1) else firstF (fun k => costFault (nth ps k) c.length k) ps.length
theorem prtF_1 {c : List Int} {ps : List (List Int)} (h : labF [] c ≠ (0, 0)) : labF [] c = prtF c ps := by unfold prtF; rw [if_pos h]
theorem prtF_2 {c : List Int} {ps : List (List Int)} (h : labF [] c = (0, 0)) (h2 : 6 < ps.length) : (2, -1) = prtF c ps := by unfold prtF; rw [if_neg (fun hn => hn h), if_pos h2]
theorem prtF_3 {c : List Int} {ps : List (List Int)} (h : labF [] c = (0, 0)) (h2 : ¬ 6 < ps.length) : firstF (fun k => costFault (nth ps k) c.length k) ps.length = prtF c ps := by unfold prtF; rw [if_neg (fun hn => hn h), if_neg h2]
theorem prtF_bad {c : List Int} {ps : List (List Int)} (h : labF [] c = (0, 0)) (h2 : ¬ 6 < ps.length) {k : Nat} (hk : k < ps.length) (h0 : ∀ j : Nat, j < k → costFault (nth ps j) c.length j = (0, 0)) (hn : costFault (nth ps k) c.length k ≠ (0, 0)) : costFault (nth ps k) c.length k = prtF c ps := by
  rw [← prtF_3 h h2]
  exact firstF_bad (f := fun k : Nat => costFault (nth ps k) c.length k) hk h0 hn
theorem prtF_0 {c : List Int} {ps : List (List Int)} (h : labF [] c = (0, 0)) (h2 : ¬ 6 < ps.length) (h0 : ∀ j : Nat, j < ps.length → costFault (nth ps j) c.length j = (0, 0)) : (0, 0) = prtF c ps := by
  rw [← prtF_3 h h2]; exact (firstF_of h0).symm
theorem prtF_code {c : List Int} {ps : List (List Int)} (h : (prtF c ps).1 = 0) : prtF c ps = (0, 0) := by
  unfold prtF at h ⊢
  split
  · rename_i h1; rw [if_pos h1] at h; exact absurd (labF_code h) h1
  · rename_i h1
    rw [if_neg h1] at h
    split
    · rename_i h2; rw [if_pos h2] at h; cases h
    · rename_i h2; rw [if_neg h2] at h; exact firstF_code (fun j => costFault_code) h
theorem prtF_ok {c : List Int} {ps : List (List Int)} (h : prtF c ps = (0, 0)) : labF [] c = (0, 0) ∧ c.length ≤ 40 ∧ CostP c ∧ ps.length ≤ 6 ∧ ∀ k : Nat, k < ps.length → (nth ps k).length = c.length ∧ CostP (nth ps k) := by
  unfold prtF at h
  split at h
  · rename_i h1; exact absurd h h1
  · rename_i h1
    have h1 := Decidable.not_not.1 h1
    split at h
    · cases h
    · rename_i h2
      obtain ⟨_, h4, h5, _⟩ := labF_ok h1
      refine ⟨h1, h4, h5, by omega, fun k hk => ?_⟩
      have h6 := firstF_all h k hk
      obtain ⟨h7, h8, _⟩ := costFault_ok' (c := nth ps k) (n := c.length) (i := k) (by rw [h6])
      exact ⟨by omega, h8⟩
def colS (ps : List (List Int)) (x : Nat) : Nat → Int
  | 0 => 0
  | k + 1 => colS ps x k + nth (nth ps k) x
theorem colS_in {ps : List (List Int)} {n x : Nat} (hx : x < n) (h : ∀ k : Nat, k < ps.length → (nth ps k).length = n ∧ CostP (nth ps k)) : ∀ {k : Nat}, k ≤ ps.length → 0 ≤ colS ps x k ∧ colS ps x k ≤ 1000000 * k
  | 0, _ => by simp [colS]
  | k + 1, hk => by
    have ih := colS_in hx h (k := k) (by omega)
    obtain ⟨h1, h2⟩ := h k (by omega)
    have := h2 x (by omega)
    simp only [colS]
    omega
abbrev FitsP (c : List Int) (ps : List (List Int)) : Prop := ∀ x : Nat, x < c.length → colS ps x ps.length ≤ nth c x
theorem fits_bad {c : List Int} {ps : List (List Int)} {x : Nat} (hx : x < c.length) (h : nth c x - colS ps x ps.length < 0) : false = decide (FitsP c ps) := by
  symm; rw [decide_eq_false_iff_not]; intro hf; have := hf x hx; omega
theorem fits_ok {c : List Int} {ps : List (List Int)} (h : ∀ x : Nat, x < c.length → 0 ≤ nth c x - colS ps x ps.length) : true = decide (FitsP c ps) := by
  symm; rw [decide_eq_true_iff]; intro x hx; have := h x hx; omega
/-! ### Equal parts -/
def shareI (c n i : Int) : Int := c / n + (if i < c % n then 1 else 0)
theorem share_end {c n i : Int} {k : Nat} (hc : 0 ≤ c) (hn : 1 ≤ n ∧ n ≤ 6) (hi : 0 ≤ i ∧ i < n) (h1 : ¬ i + k * n < c) (h0 : k = 0 ∨ i + ((k : Int) - 1) * n < c) : (k : Int) = shareI c n i := by
  unfold shareI
  have : n = 1 ∨ n = 2 ∨ n = 3 ∨ n = 4 ∨ n = 5 ∨ n = 6 := by omega
  rcases this with rfl | rfl | rfl | rfl | rfl | rfl <;> (split <;> omega)
theorem share_1 {c n i : Int} (h : i < c % n) : c / n + 1 = shareI c n i := by unfold shareI; rw [if_pos h]
theorem share_0 {c n i : Int} (h : ¬ i < c % n) : c / n = shareI c n i := by unfold shareI; rw [if_neg h]; omega
theorem quo_in {c n : Int} (hc : 0 ≤ c ∧ c ≤ 1000000) (hn : 1 ≤ n ∧ n ≤ 6) : 0 ≤ c / n ∧ c / n ≤ 1000000 := by
  have : n = 1 ∨ n = 2 ∨ n = 3 ∨ n = 4 ∨ n = 5 ∨ n = 6 := by omega
  rcases this with rfl | rfl | rfl | rfl | rfl | rfl <;> omega
def uniF (c : List Int) (n : Int) : Int × Int := if labF [] c ≠ (0, 0) then labF [] c else if n < 1 ∨ 6 < n then (3, -5) else (0, 0)
theorem uniF_1 {c : List Int} {n : Int} (h : labF [] c ≠ (0, 0)) : labF [] c = uniF c n := by unfold uniF; rw [if_pos h]
theorem uniF_2 {c : List Int} {n : Int} (h : labF [] c = (0, 0)) (h2 : n < 1 ∨ 6 < n) : (3, -5) = uniF c n := by unfold uniF; rw [if_neg (fun hn => hn h), if_pos h2]
theorem uniF_0 {c : List Int} {n : Int} (h : labF [] c = (0, 0)) (h2 : ¬ (n < 1 ∨ 6 < n)) : (0, 0) = uniF c n := by unfold uniF; rw [if_neg (fun hn => hn h), if_neg h2]
def rowTo (c : List Int) (n i : Int) (j : Nat) : List Int := (c.take j).map fun x => shareI x n i
theorem rowTo_len {c : List Int} {n i : Int} {j : Nat} (h : j ≤ c.length) : (rowTo c n i j).length = j := by simp [rowTo]; omega
theorem rowTo_s {c : List Int} {n i : Int} {j : Nat} (h : j < c.length) : rowTo c n i (j + 1) = rowTo c n i j ++ [shareI (nth c j) n i] := by
  unfold rowTo
  rw [List.take_succ_eq_append_getElem h, nth_eq h, List.map_append]
  rfl
def uniTo (c : List Int) (n : Int) : Nat → List (List Int)
  | 0 => []
  | k + 1 => uniTo c n k ++ [rowTo c n k c.length]
theorem uniTo_len {c : List Int} {n : Int} : ∀ {k : Nat}, (uniTo c n k).length = k
  | 0 => rfl
  | k + 1 => by simp [uniTo, uniTo_len (k := k)]
def uniL (c : List Int) (n : Int) : List (List Int) := if uniF c n = (0, 0) then uniTo c n n.toNat else []
theorem uniL_1 {c : List Int} {n : Int} (h : uniF c n ≠ (0, 0)) : [] = uniL c n := by unfold uniL; rw [if_neg h]
theorem uniL_0 {c : List Int} {n : Int} (h : uniF c n = (0, 0)) : uniTo c n n.toNat = uniL c n := by unfold uniL; rw [if_pos h]
/-! ### Needed costs -/
def needI (a : Abs) (d : List Int) (x : Int) : Nat → Int
  | 0 => 0
  | k + 1 => if (nth a.arcs k).lab = x ∧ nth d (nth a.arcs k).to < 1000000000 then max (needI a d x k) (nth d (nth a.arcs k).fr - nth d (nth a.arcs k).to) else needI a d x k
theorem needI_1 {a : Abs} {d : List Int} {x : Int} {k : Nat} (h : (nth a.arcs k).lab = x ∧ nth d (nth a.arcs k).to < 1000000000) : max (needI a d x k) (nth d (nth a.arcs k).fr - nth d (nth a.arcs k).to) = needI a d x (k + 1) := by simp only [needI]; rw [if_pos h]
theorem needI_0 {a : Abs} {d : List Int} {x : Int} {k : Nat} (h : ¬ ((nth a.arcs k).lab = x ∧ nth d (nth a.arcs k).to < 1000000000)) : needI a d x k = needI a d x (k + 1) := by simp only [needI]; rw [if_neg h]
def needL (a : Abs) (d : List Int) (k : Nat) : List Int := (List.range a.labels.toNat).map fun (x : Nat) => needI a d x k
theorem needL_len {a : Abs} {d : List Int} {k : Nat} : (needL a d k).length = a.labels.toNat := by simp [needL]
theorem needL_at {a : Abs} {d : List Int} {k : Nat} {x : Int} (h0 : 0 ≤ x) (h1 : x < a.labels) : nth (needL a d k) x = needI a d x k := by
  obtain ⟨n, rfl⟩ := Int.eq_ofNat_of_zero_le h0
  rw [nth_eq (by rw [needL_len]; omega)]
  simp [needL]
theorem needL_set {a : Abs} {d : List Int} {k : Nat} (h0 : 0 ≤ (nth a.arcs k).lab) (h1 : (nth a.arcs k).lab < a.labels) (hd : nth d (nth a.arcs k).to < 1000000000) :
    (needL a d k).set (nth a.arcs k).lab.toNat (max (nth (needL a d k) (nth a.arcs k).lab) (nth d (nth a.arcs k).fr - nth d (nth a.arcs k).to)) = needL a d (k + 1) := by
  refine ext_get (by simp [needL]) fun i hi => ?_
  rw [List.length_set, needL_len] at hi
  have e1 : nth (needL a d (k + 1)) i = needI a d i (k + 1) := needL_at (by omega) (by omega)
  rw [e1, nth_eq (by rw [List.length_set, needL_len]; exact hi), List.getElem_set]
  split
  · rename_i h
    have hy : (nth a.arcs k).lab = (i : Int) := by omega
    rw [hy, needL_at (by omega) (by omega)]
    exact needI_1 ⟨hy, hd⟩
  · rename_i h
    rw [← needI_0 (fun hh => h (by omega)), ← needL_at (d := d) (k := k) (show (0 : Int) ≤ i by omega) (by omega)]
    exact (nth_eq (by rw [needL_len]; exact hi)).symm
theorem needL_same {a : Abs} {d : List Int} {k : Nat} (hd : ¬ nth d (nth a.arcs k).to < 1000000000) : needL a d k = needL a d (k + 1) := by
  unfold needL
  congr 1
  funext x
  exact needI_0 (fun hh => hd hh.2)
theorem needL_0 {a : Abs} {d : List Int} : List.replicate a.labels.toNat 0 = needL a d 0 := by
  refine ext_get (by simp [needL]) fun i hi => ?_
  rw [List.length_replicate] at hi
  rw [nth_eq (by simpa using hi), needL_at (by omega) (by omega)]
  simp [needI]
theorem needI_in {a : Abs} {c : List Int} (ha : AbsOk a) (hc : CostFor a c) {x : Int} (h0 : 0 ≤ x) (h1 : x < a.labels) : ∀ {k : Nat}, k ≤ a.arcs.length → 0 ≤ needI a (distL a c) x k ∧ needI a (distL a c) x k ≤ nth c x
  | 0, _ => by
    have := cost_at hc h0 h1
    simp only [needI]; omega
  | k + 1, hk => by
    have ih := needI_in ha hc h0 h1 (k := k) (by omega)
    have ht := distL_tri ha hc (i := k) (by omega)
    simp only [needI]
    split
    · rename_i h
      rw [h.1] at ht
      omega
    · exact ih
/-! ### Saturated costs -/
def subTo (a b : List Int) : Nat → List Int
  | 0 => a
  | j + 1 => (subTo a b j).set j (nth (subTo a b j) j - nth b j)
theorem subTo_len {a b : List Int} : ∀ {j : Nat}, (subTo a b j).length = a.length
  | 0 => rfl
  | j + 1 => by simp only [subTo, List.length_set]; exact subTo_len
theorem subTo_at {a b : List Int} {x : Nat} (hx : x < a.length) : ∀ {j : Nat}, j ≤ a.length → nth (subTo a b j) x = if x < j then nth a x - nth b x else nth a x
  | 0, _ => by simp [subTo]
  | j + 1, hj => by
    have ih := subTo_at hx (b := b) (j := j) (by omega)
    have ihj := subTo_at (a := a) (b := b) (x := j) (by omega) (j := j) (by omega)
    rw [if_neg (by omega)] at ihj
    simp only [subTo]
    rw [nth_eq (by rw [List.length_set, subTo_len]; exact hx), List.getElem_set, ihj]
    by_cases h : j = x
    · subst h; rw [if_pos rfl, if_pos (by omega)]
    · rw [if_neg h, ← nth_eq (by rw [subTo_len]; exact hx), ih]
      by_cases h2 : x < j
      · rw [if_pos h2, if_pos (by omega)]
      · rw [if_neg h2, if_neg (by omega)]
noncomputable def lefTo (l : List Abs) (c : List Int) : Nat → List Int
  | 0 => c
  | k + 1 => subTo (lefTo l c k) (needL (nth l k) (distL (nth l k) (lefTo l c k)) (nth l k).arcs.length) (lefTo l c k).length
noncomputable def ndL (l : List Abs) (c : List Int) (k : Nat) : List Int := needL (nth l k) (distL (nth l k) (lefTo l c k)) (nth l k).arcs.length
theorem lefTo_s {l : List Abs} {c : List Int} {k : Nat} : lefTo l c (k + 1) = subTo (lefTo l c k) (ndL l c k) (lefTo l c k).length := rfl
theorem lefTo_len {l : List Abs} {c : List Int} : ∀ {k : Nat}, (lefTo l c k).length = c.length
  | 0 => rfl
  | k + 1 => by rw [lefTo_s, subTo_len]; exact lefTo_len
theorem lefTo_ok {l : List Abs} {c : List Int} (h : labF l c = (0, 0)) : ∀ {k : Nat}, k ≤ l.length → CostP (lefTo l c k)
  | 0, _ => (labF_ok h).2.2.1
  | k + 1, hk => fun x hx => by
    have ih := lefTo_ok h (k := k) (by omega)
    obtain ⟨_, _, _, hl⟩ := labF_ok h
    obtain ⟨ha, hb⟩ := hl k (by omega)
    have hlen := lefTo_len (l := l) (c := c) (k := k)
    have hc : CostFor (nth l k) (lefTo l c k) := ⟨by rw [hlen]; exact hb.symm, ih⟩
    rw [lefTo_s, subTo_len] at hx
    rw [lefTo_s, subTo_at hx (Nat.le_refl _), if_pos hx]
    have h1 := needL_at (a := nth l k) (d := distL (nth l k) (lefTo l c k)) (k := (nth l k).arcs.length) (x := x) (by omega) (by omega)
    have h2 := needI_in ha hc (x := x) (by omega) (by omega) (k := (nth l k).arcs.length) (Nat.le_refl _)
    have h3 := ih x hx
    unfold ndL
    rw [h1]
    omega
theorem lefTo_for {l : List Abs} {c : List Int} (h : labF l c = (0, 0)) {k : Nat} (hk : k < l.length) : AbsOk (nth l k) ∧ CostFor (nth l k) (lefTo l c k) := by
  obtain ⟨_, _, _, hl⟩ := labF_ok h
  obtain ⟨ha, hb⟩ := hl k hk
  exact ⟨ha, by rw [lefTo_len]; exact hb.symm, lefTo_ok h (by omega)⟩
theorem ndL_len {l : List Abs} {c : List Int} (h : labF l c = (0, 0)) {k : Nat} (hk : k < l.length) : (ndL l c k).length = c.length := by
  obtain ⟨_, _, _, hl⟩ := labF_ok h
  have := (hl k hk).2
  unfold ndL
  rw [needL_len]; omega
theorem ndL_in {l : List Abs} {c : List Int} (h : labF l c = (0, 0)) {k : Nat} (hk : k < l.length) {x : Nat} (hx : x < c.length) : 0 ≤ nth (ndL l c k) x ∧ nth (ndL l c k) x ≤ nth (lefTo l c k) x := by
  obtain ⟨_, _, _, hl⟩ := labF_ok h
  obtain ⟨ha, hc⟩ := lefTo_for h hk
  have hb := (hl k hk).2
  unfold ndL
  rw [needL_at (by omega) (by omega)]
  exact needI_in ha hc (by omega) (by omega) (Nat.le_refl _)
noncomputable def prtT (l : List Abs) (c : List Int) : Nat → List (List Int)
  | 0 => []
  | k + 1 => prtT l c k ++ [ndL l c k]
noncomputable def valT (l : List Abs) (c : List Int) : Nat → List Int
  | 0 => []
  | k + 1 => valT l c k ++ [nth (distL (nth l k) (lefTo l c k)) (nth l k).init]
theorem prtT_len {l : List Abs} {c : List Int} : ∀ {k : Nat}, (prtT l c k).length = k
  | 0 => rfl
  | k + 1 => by simp [prtT, prtT_len (k := k)]
theorem valT_len {l : List Abs} {c : List Int} : ∀ {k : Nat}, (valT l c k).length = k
  | 0 => rfl
  | k + 1 => by simp [valT, valT_len (k := k)]
noncomputable def satP (l : List Abs) (c : List Int) : List (List Int) := if labF l c = (0, 0) then prtT l c l.length else []
noncomputable def satV (l : List Abs) (c : List Int) : List Int := if labF l c = (0, 0) then valT l c l.length else []
theorem satP_0 {l : List Abs} {c : List Int} (h : labF l c = (0, 0)) : prtT l c l.length = satP l c := by unfold satP; rw [if_pos h]
theorem satP_1 {l : List Abs} {c : List Int} (h : labF l c ≠ (0, 0)) : [] = satP l c := by unfold satP; rw [if_neg h]
theorem satV_0 {l : List Abs} {c : List Int} (h : labF l c = (0, 0)) : valT l c l.length = satV l c := by unfold satV; rw [if_pos h]
theorem satV_1 {l : List Abs} {c : List Int} (h : labF l c ≠ (0, 0)) : [] = satV l c := by unfold satV; rw [if_neg h]
end Go.Eng
