/- Atomic abstractions: what the reference computes; the laws' words. -/
import Derived.Test.YtohlmcebphcokaaEngE
set_option linter.unusedVariables false
set_option linter.unusedSimpArgs false
set_option linter.unusedSectionVars false
namespace Go.Eng
open Go

def costsTo (m : Multi) (k : Nat) : List Int := (List.range k).map fun (i : Nat) => (nth m.ops i).cost
theorem costsTo_s {m : Multi} {k : Nat} : costsTo m (k + 1) = costsTo m k ++ [(nth m.ops k).cost] := by simp [costsTo, List.range_succ]
theorem costsTo_len {m : Multi} {k : Nat} : (costsTo m k).length = k := by simp [costsTo]
theorem costsTo_end {m : Multi} : costsTo m m.ops.length = costsL m := by
  refine List.ext_getElem (by simp [costsTo, costsL]) fun i h1 h2 => ?_
  have hi : i < m.ops.length := by simpa [costsL] using h2
  simp only [costsTo, costsL, List.getElem_map, List.getElem_range]
  rw [nth_eq hi]
theorem abs_ext {a b : Abs} (h1 : a.states = b.states) (h2 : a.labels = b.labels) (h3 : a.arcs = b.arcs) (h4 : a.init = b.init) (h5 : a.goals = b.goals) : a = b := by
  cases a; cases b; simp only at h1 h2 h3 h4 h5; subst h1 h2 h3 h4 h5; rfl
theorem arc_ext {x y : Arc} (h1 : x.fr = y.fr) (h2 : x.lab = y.lab) (h3 : x.to = y.to) : x = y := by
  cases x; cases y; simp only at h1 h2 h3; subst h1 h2 h3; rfl
/-- The arc that the reference finds among the first i targets. -/
def arcsY (m : Multi) (v x : Int) (j : Nat) (i : Nat) : List Arc := if findA (nth m.ops j).pre v x = x ∧ findA (nth m.ops j).post v x < i then [⟨x, j, findA (nth m.ops j).post v x⟩] else []
theorem arcsY_t {m : Multi} {v x : Int} {j i : Nat} (h1 : findA (nth m.ops j).pre v x = x) (h2 : findA (nth m.ops j).post v x = i) : arcsY m v x j (i + 1) = arcsY m v x j i ++ [⟨x, j, i⟩] := by
  unfold arcsY
  rw [if_pos ⟨h1, by omega⟩, if_neg (by omega), h2]; rfl
theorem arcsY_n {m : Multi} {v x : Int} {j i : Nat} (h : ¬ (findA (nth m.ops j).pre v x = x ∧ findA (nth m.ops j).post v x = i)) : arcsY m v x j (i + 1) = arcsY m v x j i := by
  unfold arcsY
  by_cases h1 : findA (nth m.ops j).pre v x = x
  · by_cases h2 : findA (nth m.ops j).post v x < i
    · rw [if_pos ⟨h1, by omega⟩, if_pos ⟨h1, h2⟩]
    · rw [if_neg (by have := fun e => h ⟨h1, e⟩; omega), if_neg (by omega)]
  · rw [if_neg (fun hh => h1 hh.1), if_neg (fun hh => h1 hh.1)]
theorem arcsY_len {m : Multi} {v x : Int} {j i : Nat} : (arcsY m v x j i).length ≤ 1 := by unfold arcsY; split <;> simp
section
variable {m : Multi} (hv : Valid m) {v : Int} (h0 : 0 ≤ v) (h1 : v < m.sizes.length)
include hv h0 h1
theorem arcsY_0 {x : Int} (hx : 0 ≤ x ∧ x < nth m.sizes v) {j : Nat} (hj : j < m.ops.length) : arcsY m v x j 0 = [] := by
  have := findA_in hv h0 h1 (hv.op j hj).2.1 hx.1 hx.2
  unfold arcsY
  rw [if_neg (fun h => by have := h.2; omega)]
theorem arcsY_end {x : Int} (hx : 0 ≤ x ∧ x < nth m.sizes v) {j : Nat} (hj : j < m.ops.length) : arcsIn m v x (j + 1) = arcsIn m v x j ++ arcsY m v x j (nth m.sizes v).toNat := by
  have := findA_in hv h0 h1 (hv.op j hj).2.1 hx.1 hx.2
  unfold arcsY
  by_cases h : findA (nth m.ops j).pre v x = x
  · rw [arcsIn_t h, if_pos ⟨h, by omega⟩]
  · rw [arcsIn_f h, if_neg (fun hh => h hh.1)]; simp
theorem one_asgs {l : List Asg} (hl : AsgsP m.sizes l) : ∀ k : Nat, k < (restr l [v]).length → 0 ≤ (nth (restr l [v]) k).1 ∧ (nth (restr l [v]) k).1 < (1 : Nat) := fun k hk => by
  have h := restr_asgs (pat1 hv h0 h1) hl k hk
  unfold AsgOk at h
  rw [sel_len] at h
  exact ⟨h.1, h.2.1⟩
theorem op_asgs {j : Nat} (hj : j < m.ops.length) {x : Int} : ∀ k : Nat, k < (nth (projM m [v]).ops j).pre.length → 0 ≤ (nth (nth (projM m [v]).ops j).pre k).1 ∧ (nth (nth (projM m [v]).ops j).pre k).1 < [x].length := by
  rw [projM_op hj]; exact one_asgs hv h0 h1 (hv.op j hj).1
theorem holds_op {j : Nat} (hj : j < m.ops.length) {x : Int} : holds [x] (nth (projM m [v]).ops j).pre = true ↔ findA (nth m.ops j).pre v x = x := by
  rw [projM_op hj]; exact holds_one hv h0 h1 (hv.op j hj).1
theorem next_op {j : Nat} (hj : j < m.ops.length) {x : Int} : nextS [x] (nth (projM m [v]).ops j).post = [findA (nth m.ops j).post v x] := by
  rw [projM_op hj]; exact next_one hv h0 h1 (hv.op j hj).2.1
theorem valid1 : Valid (projM m [v]) := valid_proj hv (by simp) (pat1 hv h0 h1)
theorem atom_ad : adF (atomA m v) (costsL m) = (0, 0) ∧ adR (atomA m v) (costsL m) = costs (projM m [v]) := by
  have hF : adF (atomA m v) (costsL m) = (0, 0) := by
    rw [← adF_1 (absFault_of (atom_ok hv h0 h1))]
    exact (costFault_ok (costCode_0 (by rw [costsL_len]; rfl) fun j hj => costsL_in hv hj)).symm
  exact ⟨hF, (adR_0 hF).trans (atom_dist hv h0 h1)⟩
end
theorem dist1 {m : Multi} (hval : validate m = (0, 0)) {v : Int} (h0 : 0 ≤ v) (h1 : v < m.sizes.length) : distF m [v] = (0, 0) ∧ distR m [v] = costs (projM m [v]) := by
  have hv := valid_of hval
  have hp := pat1 hv h0 h1
  have hs := size_in hv h0 h1
  have hpf : projFault m [v] = (0, 0) := by
    rw [← projFault_1 hval]
    exact (patFault_ok (patCode_0 (by simp) hp)).symm
  have hF : distF m [v] = (0, 0) := by
    unfold distF
    rw [← bigF_2 (fun h => ?_)]
    · exact hpf
    · have hprod : prodTo m.sizes [v] ([v].length) = nth m.sizes v := by simp [prodTo, nth]
      rw [hprod] at h
      have := h.2
      omega
  exact ⟨hF, distR_0 hF⟩
end Go.Eng
