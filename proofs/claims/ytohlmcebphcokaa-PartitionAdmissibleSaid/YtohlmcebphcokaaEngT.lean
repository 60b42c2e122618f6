/- The laws of cost partitions. -/
import Derived.Test.YtohlmcebphcokaaEngS
set_option linter.unusedVariables false
set_option linter.unusedSimpArgs false
set_option linter.unusedSectionVars false
namespace Go.Eng
open Go
def prtR (c : List Int) (ps : List (List Int)) : Bool := decide (prtF c ps = (0, 0)) && decide (FitsP c ps)
theorem prtR_1 {c : List Int} {ps : List (List Int)} (h : prtF c ps ≠ (0, 0)) : prtR c ps = false := by unfold prtR; rw [decide_eq_false h]; rfl
theorem prtR_0 {c : List Int} {ps : List (List Int)} (h : prtF c ps = (0, 0)) : prtR c ps = decide (FitsP c ps) := by unfold prtR; rw [decide_eq_true h]; rfl
theorem prtF_of {c : List Int} {ps : List (List Int)} (h1 : labF [] c = (0, 0)) (h2 : ps.length ≤ 6) (h3 : ∀ k : Nat, k < ps.length → (nth ps k).length = c.length ∧ CostP (nth ps k)) : prtF c ps = (0, 0) := by
  refine (prtF_0 h1 (by omega) fun j hj => ?_).symm
  obtain ⟨h4, h5⟩ := h3 j hj
  exact (costFault_ok (costCode_0 (by omega) h5)).symm
theorem labF_nil {l : List Abs} {c : List Int} (h : labF l c = (0, 0)) : labF [] c = (0, 0) := by
  obtain ⟨_, h2, h3, _⟩ := labF_ok h
  refine (labF_0 (by simp) ?_ (fun j hj => by simp at hj)).symm
  rw [costFault_short (by omega)]
  exact (costFault_ok (costCode_0 rfl h3)).symm
/-! ### Equal parts -/
theorem uniF_ok {c : List Int} {n : Int} (h : uniF c n = (0, 0)) : labF [] c = (0, 0) ∧ 1 ≤ n ∧ n ≤ 6 := by
  unfold uniF at h
  split at h
  · rename_i h1; exact absurd h h1
  · rename_i h1
    split at h
    · cases h
    · rename_i h2; exact ⟨Decidable.not_not.1 h1, by omega, by omega⟩
theorem uniF_code {c : List Int} {n : Int} (h : (uniF c n).1 = 0) : uniF c n = (0, 0) := by
  unfold uniF at h ⊢
  split
  · rename_i h1; rw [if_pos h1] at h; exact absurd (labF_code h) h1
  · rename_i h1
    rw [if_neg h1] at h
    split
    · rename_i h2; rw [if_pos h2] at h; cases h
    · rfl
theorem uniTo_at {c : List Int} {n : Int} {i : Nat} : ∀ {k : Nat}, i < k → nth (uniTo c n k) i = rowTo c n i c.length
  | 0, h => by omega
  | k + 1, h => by
    rw [nth_eq (by rw [uniTo_len]; exact h)]
    simp only [uniTo]
    by_cases hik : i < k
    · rw [List.getElem_append_left (by rw [uniTo_len]; exact hik), ← nth_eq (by rw [uniTo_len]; exact hik)]
      exact uniTo_at hik
    · have : i = k := by omega
      subst this
      rw [List.getElem_append_right (by rw [uniTo_len]; omega)]
      simp [uniTo_len]
theorem rowTo_at {c : List Int} {n i : Int} {x : Nat} (hx : x < c.length) : nth (rowTo c n i c.length) x = shareI (nth c x) n i := by
  rw [nth_eq (by rw [rowTo_len (Nat.le_refl _)]; exact hx), nth_eq hx]
  simp [rowTo]
theorem share_in {c n i : Int} (hc : 0 ≤ c ∧ c ≤ 1000000) (hn : 1 ≤ n ∧ n ≤ 6) : 0 ≤ shareI c n i ∧ shareI c n i ≤ c + 1 := by
  unfold shareI
  have : n = 1 ∨ n = 2 ∨ n = 3 ∨ n = 4 ∨ n = 5 ∨ n = 6 := by omega
  rcases this with rfl | rfl | rfl | rfl | rfl | rfl <;> (split <;> omega)
theorem share_le {c n i : Int} (hc : 0 ≤ c ∧ c ≤ 1000000) (hn : 1 ≤ n ∧ n ≤ 6) (hi : 0 ≤ i) : 0 ≤ shareI c n i ∧ shareI c n i ≤ c := by
  unfold shareI
  have : n = 1 ∨ n = 2 ∨ n = 3 ∨ n = 4 ∨ n = 5 ∨ n = 6 := by omega
  rcases this with rfl | rfl | rfl | rfl | rfl | rfl <;> (split <;> omega)
theorem col_uni {c : List Int} {n : Int} {x : Nat} (hx : x < c.length) {m : Nat} : ∀ {k : Nat}, k ≤ m → colS (uniTo c n m) x k = (nth c x / n) * k + min (k : Int) (max 0 (nth c x % n))
  | 0, _ => by simp [colS]; omega
  | k + 1, hk => by
    have ih := col_uni hx (n := n) (m := m) (k := k) (by omega)
    simp only [colS]
    rw [ih, uniTo_at (by omega), rowTo_at hx]
    unfold shareI
    have e : nth c x / n * ((k + 1 : Nat) : Int) = nth c x / n * k + nth c x / n := by rw [Int.natCast_add, Int.natCast_one, Int.mul_add, Int.mul_one]
    rw [e]
    split <;> omega
theorem uni_fits {c : List Int} {n : Int} (h : uniF c n = (0, 0)) : prtF c (uniL c n) = (0, 0) ∧ FitsP c (uniL c n) := by
  obtain ⟨h1, h2, h3⟩ := uniF_ok h
  obtain ⟨_, h4, h5, _⟩ := labF_ok h1
  rw [← uniL_0 h]
  refine ⟨prtF_of h1 (by rw [uniTo_len]; omega) fun k hk => ?_, fun x hx => ?_⟩
  · rw [uniTo_len] at hk
    rw [uniTo_at hk]
    refine ⟨rowTo_len (Nat.le_refl _), fun x hx => ?_⟩
    rw [rowTo_len (Nat.le_refl _)] at hx
    rw [rowTo_at hx]
    have := h5 x hx
    have := share_le this ⟨h2, h3⟩ (i := k) (by omega)
    omega
  · rw [uniTo_len, col_uni hx (Nat.le_refl _)]
    have hm := Int.emod_nonneg (nth c x) (show n ≠ 0 by omega)
    have hl := Int.emod_lt_of_pos (nth c x) (show 0 < n by omega)
    have hd : n * (nth c x / n) + nth c x % n = nth c x := by first | exact Int.mul_ediv_add_emod _ _ | (have := Int.emod_add_mul_ediv (nth c x) n; omega) | (have := Int.emod_add_ediv (nth c x) n; omega)
    rw [Int.toNat_of_nonneg (by omega), Int.mul_comm]
    omega
/-! ### Saturated parts -/
theorem prtT_at {l : List Abs} {c : List Int} {i : Nat} : ∀ {k : Nat}, i < k → nth (prtT l c k) i = ndL l c i
  | 0, h => by omega
  | k + 1, h => by
    rw [nth_eq (by rw [prtT_len]; exact h)]
    simp only [prtT]
    by_cases hik : i < k
    · rw [List.getElem_append_left (by rw [prtT_len]; exact hik), ← nth_eq (by rw [prtT_len]; exact hik)]
      exact prtT_at hik
    · have : i = k := by omega
      subst this
      rw [List.getElem_append_right (by rw [prtT_len]; omega)]
      simp [prtT_len]
theorem valT_at {l : List Abs} {c : List Int} {i : Nat} : ∀ {k : Nat}, i < k → nth (valT l c k) i = nth (distL (nth l i) (lefTo l c i)) (nth l i).init
  | 0, h => by omega
  | k + 1, h => by
    rw [nth_eq (by rw [valT_len]; exact h)]
    simp only [valT]
    by_cases hik : i < k
    · rw [List.getElem_append_left (by rw [valT_len]; exact hik), ← nth_eq (by rw [valT_len]; exact hik)]
      exact valT_at hik
    · have : i = k := by omega
      subst this
      rw [List.getElem_append_right (by rw [valT_len]; omega)]
      simp [valT_len]
theorem lef_sub {l : List Abs} {c : List Int} {k x : Nat} (hx : x < c.length) : nth (lefTo l c (k + 1)) x = nth (lefTo l c k) x - nth (ndL l c k) x := by
  have hl := lefTo_len (l := l) (c := c) (k := k)
  rw [lefTo_s, subTo_at (by rw [hl]; exact hx) (Nat.le_refl _), if_pos (by rw [hl]; exact hx)]
theorem col_sat {l : List Abs} {c : List Int} {x m : Nat} (hx : x < c.length) : ∀ {k : Nat}, k ≤ m → colS (prtT l c m) x k = nth c x - nth (lefTo l c k) x
  | 0, _ => by simp [colS, lefTo]
  | k + 1, hk => by
    have ih := col_sat hx (l := l) (m := m) (k := k) (by omega)
    simp only [colS]
    rw [ih, prtT_at (by omega), lef_sub hx]
    omega
theorem sat_fits {l : List Abs} {c : List Int} (h : labF l c = (0, 0)) : prtF c (satP l c) = (0, 0) ∧ FitsP c (satP l c) := by
  obtain ⟨h6, _, hcp, _⟩ := labF_ok h
  rw [← satP_0 h]
  refine ⟨prtF_of (labF_nil h) (by rw [prtT_len]; exact h6) fun k hk => ?_, fun x hx => ?_⟩
  · rw [prtT_len] at hk
    rw [prtT_at hk]
    have hl := ndL_len h hk
    refine ⟨hl, fun x hx => ?_⟩
    rw [hl] at hx
    have h1 := ndL_in h hk hx
    have h2 := lefTo_ok h (k := k) (by omega) x (by rw [lefTo_len]; exact hx)
    omega
  · rw [prtT_len, col_sat hx (Nat.le_refl _)]
    have := lefTo_ok h (k := l.length) (Nat.le_refl _) x (by rw [lefTo_len]; exact hx)
    omega
/-- With the costs that an abstraction needs its distances stay. -/
theorem dist_need {a : Abs} {c : List Int} (ha : AbsOk a) (hc : CostFor a c) : CostFor a (needL a (distL a c) a.arcs.length) ∧ distL a (needL a (distL a c) a.arcs.length) = distL a c := by
  have hl := ha.head
  have hin : ∀ x : Int, 0 ≤ x → x < a.labels → 0 ≤ nth (needL a (distL a c) a.arcs.length) x ∧ nth (needL a (distL a c) a.arcs.length) x ≤ nth c x := fun x h0 h1 => by
    rw [needL_at h0 h1]; exact needI_in ha hc h0 h1 (Nat.le_refl _)
  have hn : CostFor a (needL a (distL a c) a.arcs.length) := by
    have h3 := hc.1
    refine ⟨by rw [needL_len]; omega, fun i hi => ?_⟩
    rw [needL_len] at hi
    have h1 := hin i (by omega) (by omega)
    have h2 := cost_at hc (x := i) (by omega) (by omega)
    omega
  refine ⟨hn, ext_get (by rw [(distL_good ha hn).1, (distL_good ha hc).1]) fun x hx => ?_⟩
  rw [(distL_good ha hn).1] at hx
  have hg := distL_good ha hc
  have hgn := distL_good ha hn
  have hS := nS_eq ha
  have hge : ∀ k : Nat, k < a.arcs.length → ∀ m, k < m → m ≤ a.arcs.length → nth (distL a c) (nth a.arcs k).to < 1000000000 → nth (distL a c) (nth a.arcs k).fr - nth (distL a c) (nth a.arcs k).to ≤ needI a (distL a c) (nth a.arcs k).lab m := by
    intro k hk m
    induction m with
    | zero => intro h; omega
    | succ m ih =>
      intro h1 h2 h3
      by_cases hkm : k = m
      · subst hkm
        rw [← needI_1 ⟨rfl, h3⟩]
        omega
      · have := ih (by omega) (by omega) h3
        simp only [needI]
        split <;> omega
  have h1 : nth (distL a c) x ≤ nth (distL a (needL a (distL a c) a.arcs.length)) x := by
    refine distL_ge ha hn (f := fun x => nth (distL a c) x) (fun x h0 h1 => (hg.2 x h0 h1).2) (fun x h0 h1 h2 => by rw [distL_goal ha hc h0 h1 h2]; exact Int.le_refl _) (fun i hi => ?_) (by omega) (by omega)
    have har := ha.arc i hi
    have hw := hin _ har.2.1.1 har.2.1.2
    have hat := needL_at (d := distL a c) (k := a.arcs.length) har.2.1.1 har.2.1.2
    have h2 := hg.2 _ har.1.1 (by omega)
    have h3 := hg.2 _ har.2.2.1 (by omega)
    show nth (distL a c) (nth a.arcs i).fr ≤ nth (distL a c) (nth a.arcs i).to + _
    by_cases hi2 : nth (distL a c) (nth a.arcs i).to < 1000000000
    · have := hge i hi _ hi (Nat.le_refl _) hi2
      omega
    · omega
  have h2 : nth (distL a (needL a (distL a c) a.arcs.length)) x ≤ nth (distL a c) x := by
    refine distL_ge ha hc (f := fun x => nth (distL a (needL a (distL a c) a.arcs.length)) x) (fun x h0 h1 => (hgn.2 x h0 h1).2) (fun x h0 h1 h2 => by rw [distL_goal ha hn h0 h1 h2]; exact Int.le_refl _) (fun i hi => ?_) (by omega) (by omega)
    have har := ha.arc i hi
    have hw := hin _ har.2.1.1 har.2.1.2
    have := distL_tri ha hn hi
    show nth (distL a (needL a (distL a c) a.arcs.length)) (nth a.arcs i).fr ≤ nth (distL a (needL a (distL a c) a.arcs.length)) (nth a.arcs i).to + _
    omega
  omega
/-! ### The example -/
abbrev lineA : Abs := ⟨3, 2, [⟨0, 0, 1⟩, ⟨1, 1, 2⟩, ⟨2, 1, 2⟩], 0, [2]⟩
theorem ex_prtF : prtF [2, 2] [[1, 0], [1, 2]] = (0, 0) := by decide +kernel
theorem ex_prtR : prtR [2, 2] [[1, 0], [1, 2]] = true := by decide +kernel
theorem ex_uniF : uniF [5] 3 = (0, 0) := by decide +kernel
theorem ex_uniL : uniL [5] 3 = [[2], [2], [1]] := by decide +kernel
theorem ex_labF : labF [lineA] [2, 3] = (0, 0) := by decide +kernel
theorem ex_line : distL lineA [2, 3] = [5, 3, 0] := by
  obtain ⟨ha, hc⟩ := lefTo_for ex_labF (k := 0) (by decide)
  have ha : AbsOk lineA := ha
  have hc : CostFor lineA [2, 3] := hc
  unfold distL
  rw [← fixE_of (edgesOk ha hc) initG_good (j := 2) (by decide +kernel)]
  decide +kernel
theorem ex_satP : satP [lineA] [2, 3] = [[2, 3]] := by
  rw [← satP_0 ex_labF]
  show [needL lineA (distL lineA [2, 3]) 3] = [[2, 3]]
  rw [ex_line]
  decide +kernel
theorem ex_satV : satV [lineA] [2, 3] = [5] := by
  rw [← satV_0 ex_labF]
  show [nth (distL lineA [2, 3]) 0] = [5]
  rw [ex_line]
  decide +kernel
theorem ad_need {l : List Abs} {c : List Int} (h : labF l c = (0, 0)) {k : Nat} (hk : k < l.length) : adF (nth l k) (ndL l c k) = (0, 0) ∧ adR (nth l k) (ndL l c k) = distL (nth l k) (lefTo l c k) := by
  obtain ⟨ha, hc⟩ := lefTo_for h hk
  obtain ⟨h1, h2⟩ := dist_need ha hc
  have h3 : adF (nth l k) (ndL l c k) = (0, 0) := by
    rw [← adF_1 (absFault_of ha)]
    exact (costFault_ok (costCode_0 h1.1 h1.2)).symm
  exact ⟨h3, by rw [adR_0 h3]; exact h2⟩
end Go.Eng
