/- The abstraction of one variable: what is computed. -/
import Derived.Test.YtohlmcebphcokaaEngA
set_option linter.unusedVariables false
set_option linter.unusedSimpArgs false
set_option linter.unusedSectionVars false
namespace Go.Eng
open Go
/-- The value that a list assigns to a variable, or another one. -/
def findA (l : List Asg) (v other : Int) : Int := ((l.find? fun x => decide (x.1 = v)).map (·.2)).getD other
theorem findA_some {l : List Asg} {v other : Int} {k : Nat} (hk : k < l.length) (h : ∀ j : Nat, j < k → (nth l j).1 ≠ v) (hp : (nth l k).1 = v) : (nth l k).2 = findA l v other := by
  unfold findA
  have h1 : l.find? (fun x => decide (x.1 = v)) = some l[k] := by
    rw [List.find?_eq_some_iff_getElem]
    refine ⟨by rw [← nth_eq hk]; simpa using hp, k, hk, rfl, fun j hj => ?_⟩
    have := h j hj
    rw [nth_eq (by omega)] at this
    simp [this]
  rw [h1, nth_eq hk]; rfl
theorem findA_none {l : List Asg} {v other : Int} (h : ∀ j : Nat, j < l.length → (nth l j).1 ≠ v) : other = findA l v other := by
  unfold findA
  have h1 : l.find? (fun x => decide (x.1 = v)) = none := by
    rw [List.find?_eq_none]
    intro x hx
    obtain ⟨i, hi, rfl⟩ := List.getElem_of_mem hx
    have := h i hi
    rw [nth_eq hi] at this
    simp [this]
  rw [h1]; rfl
def goalsTo (m : Multi) (v : Int) : Nat → List Int
  | 0 => []
  | k + 1 => if findA m.goal v k = k then goalsTo m v k ++ [(k : Int)] else goalsTo m v k
def arcsIn (m : Multi) (v x : Int) : Nat → List Arc
  | 0 => []
  | j + 1 => if findA (nth m.ops j).pre v x = x then arcsIn m v x j ++ [⟨x, j, findA (nth m.ops j).post v x⟩] else arcsIn m v x j
def arcsTo (m : Multi) (v : Int) : Nat → List Arc
  | 0 => []
  | k + 1 => arcsTo m v k ++ arcsIn m v k m.ops.length
theorem goalsTo_t {m : Multi} {v : Int} {k : Nat} (h : findA m.goal v k = k) : goalsTo m v (k + 1) = goalsTo m v k ++ [(k : Int)] := by simp only [goalsTo]; rw [if_pos h]
theorem goalsTo_f {m : Multi} {v : Int} {k : Nat} (h : ¬ findA m.goal v k = k) : goalsTo m v (k + 1) = goalsTo m v k := by simp only [goalsTo]; rw [if_neg h]
theorem goalsTo_len {m : Multi} {v : Int} : ∀ {k : Nat}, (goalsTo m v k).length ≤ k
  | 0 => by simp [goalsTo]
  | k + 1 => by
    have := goalsTo_len (m := m) (v := v) (k := k)
    simp only [goalsTo]; split
    · simp; omega
    · omega
theorem arcsIn_t {m : Multi} {v x : Int} {j : Nat} (h : findA (nth m.ops j).pre v x = x) : arcsIn m v x (j + 1) = arcsIn m v x j ++ [⟨x, j, findA (nth m.ops j).post v x⟩] := by simp only [arcsIn]; rw [if_pos h]
theorem arcsIn_f {m : Multi} {v x : Int} {j : Nat} (h : ¬ findA (nth m.ops j).pre v x = x) : arcsIn m v x (j + 1) = arcsIn m v x j := by simp only [arcsIn]; rw [if_neg h]
theorem arcsIn_len {m : Multi} {v x : Int} : ∀ {j : Nat}, (arcsIn m v x j).length ≤ j
  | 0 => by simp [arcsIn]
  | j + 1 => by
    have := arcsIn_len (m := m) (v := v) (x := x) (j := j)
    simp only [arcsIn]; split
    · simp; omega
    · omega
theorem arcsTo_len {m : Multi} {v : Int} : ∀ {k : Nat}, (arcsTo m v k).length ≤ k * m.ops.length
  | 0 => by simp [arcsTo]
  | k + 1 => by
    have := arcsTo_len (m := m) (v := v) (k := k)
    have := arcsIn_len (m := m) (v := v) (x := k) (j := m.ops.length)
    simp only [arcsTo, List.length_append, Nat.succ_mul]; omega
def atomA (m : Multi) (v : Int) : Abs := ⟨nth m.sizes v, m.ops.length, arcsTo m v (nth m.sizes v).toNat, nth m.init v, goalsTo m v (nth m.sizes v).toNat⟩
def atomF (m : Multi) (v : Int) : Int × Int := if validate m = (0, 0) then (if v < 0 ∨ m.sizes.length ≤ v then (3, -8) else (0, 0)) else validate m
def absZ : Abs := ⟨0, 0, [], 0, []⟩
def atomR (m : Multi) (v : Int) : Abs := if atomF m v = (0, 0) then atomA m v else absZ
theorem atomF_1 {m : Multi} {v : Int} (h : validate m ≠ (0, 0)) : atomF m v = validate m ∧ atomR m v = absZ := by
  have h1 : atomF m v = validate m := by unfold atomF; rw [if_neg h]
  exact ⟨h1, by unfold atomR; rw [h1, if_neg h]⟩
theorem atomF_2 {m : Multi} {v : Int} (h : validate m = (0, 0)) (h1 : v < 0 ∨ m.sizes.length ≤ v) : atomF m v = (3, -8) ∧ atomR m v = absZ := by
  have h2 : atomF m v = (3, -8) := by unfold atomF; rw [if_pos h, if_pos h1]
  exact ⟨h2, by unfold atomR; rw [h2, if_neg (by decide)]⟩
theorem atomF_0 {m : Multi} {v : Int} (h : validate m = (0, 0)) (h1 : ¬ (v < 0 ∨ m.sizes.length ≤ v)) : atomF m v = (0, 0) ∧ atomR m v = atomA m v := by
  have h2 : atomF m v = (0, 0) := by unfold atomF; rw [if_pos h, if_neg h1]
  exact ⟨h2, by unfold atomR; rw [if_pos h2]⟩
theorem atomF_ok {m : Multi} {v : Int} (h : (atomF m v).1 = 0) : Valid m ∧ 0 ≤ v ∧ v < m.sizes.length ∧ atomF m v = (0, 0) := by
  by_cases h1 : validate m = (0, 0)
  · by_cases h2 : v < 0 ∨ m.sizes.length ≤ v
    · rw [(atomF_2 h1 h2).1] at h; cases h
    · exact ⟨valid_of h1, by omega, by omega, (atomF_0 h1 h2).1⟩
  · rw [(atomF_1 h1).1] at h
    exact absurd (validate_code h) h1
/-! ### Distances of an abstraction, with their fault -/
def adF (a : Abs) (c : List Int) : Int × Int := if absFault a = (0, 0) then costFault c a.labels (-4) else absFault a
noncomputable def adR (a : Abs) (c : List Int) : List Int := if adF a c = (0, 0) then distL a c else []
theorem adF_1 {a : Abs} {c : List Int} (h : absFault a = (0, 0)) : costFault c a.labels (-4) = adF a c := by unfold adF; rw [if_pos h]
theorem adF_2 {a : Abs} {c : List Int} (h : absFault a ≠ (0, 0)) : absFault a = adF a c := by unfold adF; rw [if_neg h]
theorem adR_1 {a : Abs} {c : List Int} (h : adF a c ≠ (0, 0)) : adR a c = [] := by unfold adR; rw [if_neg h]
theorem adR_0 {a : Abs} {c : List Int} (h : adF a c = (0, 0)) : adR a c = distL a c := by unfold adR; rw [if_pos h]
theorem adF_ok {a : Abs} {c : List Int} (h : (adF a c).1 = 0) : AbsOk a ∧ CostFor a c ∧ adF a c = (0, 0) ∧ absFault a = (0, 0) := by
  unfold adF at h ⊢
  split at h
  · rename_i h1
    rw [if_pos h1]
    obtain ⟨c1, c2, c3⟩ := costFault_ok' h
    exact ⟨(absFault_ok (by rw [h1])).1, ⟨c1, c2⟩, c3, h1⟩
  · rename_i h1
    exact absurd (absFault_ok h).2 h1
open Classical in
noncomputable def tightTo (a : Abs) (c : List Int) (x : Int) (i : Nat) : Bool := decide (∃ j : Nat, j < i ∧ (nth a.arcs j).fr = x ∧ nth (distL a c) (nth a.arcs j).to < 1000000000 ∧ nth (distL a c) x = nth (distL a c) (nth a.arcs j).to + nth c (nth a.arcs j).lab)
theorem tightTo_0 {a : Abs} {c : List Int} {x : Int} : false = tightTo a c x 0 := by unfold tightTo; rw [decide_eq_false]; rintro ⟨j, h, _⟩; omega
theorem tightTo_t {a : Abs} {c : List Int} {x : Int} {i : Nat} (h : tightTo a c x i = true) : true = tightTo a c x (i + 1) := by
  unfold tightTo at h ⊢
  obtain ⟨j, h1, h2⟩ := of_decide_eq_true h
  exact (decide_eq_true ⟨j, by omega, h2⟩).symm
theorem tightTo_n {a : Abs} {c : List Int} {x : Int} {i : Nat} {b : Bool} (h : tightTo a c x i = false) (hb : b = true ↔ ((nth a.arcs i).fr = x ∧ nth (distL a c) (nth a.arcs i).to < 1000000000 ∧ nth (distL a c) x = nth (distL a c) (nth a.arcs i).to + nth c (nth a.arcs i).lab)) : b = tightTo a c x (i + 1) := by
  unfold tightTo at h ⊢
  have h1 := of_decide_eq_false h
  cases b with
  | true => exact (decide_eq_true ⟨i, by omega, hb.1 rfl⟩).symm
  | false =>
    refine (decide_eq_false ?_).symm
    rintro ⟨j, h2, h3⟩
    by_cases hj : j = i
    · subst hj; have := hb.2 h3; cases this
    · exact h1 ⟨j, by omega, h3⟩
theorem tightTo_end {a : Abs} {c : List Int} {x : Int} (ha : AbsOk a) (hc : CostFor a c) (h0 : 0 ≤ x) (h1 : x < nS a) (hg : x ∉ a.goals) (hlt : nth (distL a c) x ≠ 1000000000) : tightTo a c x a.arcs.length = true := by
  unfold tightTo
  have := (distL_good ha hc).2 x h0 h1
  exact decide_eq_true (distL_tight ha hc h0 h1 hg (by omega))
theorem ex_atomF : atomF lampsM 0 = (0, 0) := by decide +kernel
theorem ex_atom : atomR lampsM 0 = ⟨2, 2, [⟨0, 0, 1⟩, ⟨0, 1, 0⟩, ⟨1, 0, 1⟩, ⟨1, 1, 1⟩], 0, [1]⟩ := by decide +kernel
theorem ex_adF : adF (atomR lampsM 0) [2, 3] = (0, 0) := by decide +kernel
theorem ex_ad : adR (atomR lampsM 0) [2, 3] = [2, 0] := by
  obtain ⟨h1, h2, _, _⟩ := adF_ok (a := atomR lampsM 0) (c := [2, 3]) (by rw [ex_adF])
  rw [adR_0 ex_adF]
  unfold distL
  rw [← fixE_of (edgesOk h1 h2) initG_good (j := 2) (by decide +kernel)]
  decide +kernel
end Go.Eng
