/- Atomic abstractions: they are valid, and their distances are those of the projection to their variable; sums of distances with parts of the costs. Atomic abstractions: what the reference computes; the laws' words. Sums of distances of atomic abstractions with parts of the costs: the law's words. -/
import Derived.Test.YtohlmcebphcokaaEngT
set_option linter.unusedVariables false
set_option linter.unusedSimpArgs false
set_option linter.unusedSectionVars false
namespace Go.Eng
open Go

/-! ### Abstractions with sorted arcs -/
theorem arcLt_trans {x y z : Arc} (h : arcLt x y) (k : arcLt y z) : arcLt x z := by unfold arcLt at *; omega
theorem arcLt_irr {x : Arc} (h : arcLt x x) : False := by unfold arcLt at h; omega
theorem absOk_sorted {a : Abs} (ha : AbsOk a) : a.arcs.Pairwise arcLt := by
  have key : ∀ (d i : Nat), i + d + 1 < a.arcs.length → arcLt (nth a.arcs i) (nth a.arcs (i + d + 1 : Nat)) := by
    intro d
    induction d with
    | zero =>
      intro i hi
      have := ha.ord (i + 1) (by omega) (by omega)
      have e : ((i + 1 : Nat) : Int) - 1 = (i : Int) := by omega
      rw [e] at this
      exact this
    | succ d ih =>
      intro i hi
      have h1 := ih i (by omega)
      have := ha.ord (i + (d + 1) + 1) (by omega) (by omega)
      have e : ((i + (d + 1) + 1 : Nat) : Int) - 1 = ((i + d + 1 : Nat) : Int) := by omega
      rw [e] at this
      exact arcLt_trans h1 this
  rw [List.pairwise_iff_getElem]
  intro i j hi hj hij
  have := key (j - i - 1) i (by omega)
  have e : i + (j - i - 1) + 1 = j := by omega
  rw [e, nth_eq hi, nth_eq hj] at this
  exact this
theorem absOk_mem {a : Abs} (ha : AbsOk a) {x : Arc} (hx : x ∈ a.arcs) : arcIn a x := by
  obtain ⟨i, hi, rfl⟩ := List.getElem_of_mem hx
  have := ha.arc i hi
  rwa [nth_eq hi] at this
theorem setP_of {n : Int} {l : List Int} (hs : l.Pairwise (· < ·)) (hm : ∀ x, x ∈ l → 0 ≤ x ∧ x < n) : SetP n l := fun i hi => by
  have h1 := hm l[i] (List.getElem_mem hi)
  unfold SetOk
  rw [nth_eq hi]
  refine ⟨by omega, by omega, fun h0 => ?_⟩
  rw [List.pairwise_iff_getElem] at hs
  have e : (i : Int) - 1 = ((i - 1 : Nat) : Int) := by omega
  rw [e, nth_eq (by omega)]
  exact hs (i - 1) i (by omega) hi (by omega)
theorem setP_sorted {n : Int} {l : List Int} (h : SetP n l) : l.Pairwise (· < ·) := by
  have key : ∀ (d i : Nat), i + d + 1 < l.length → nth l i < nth l (i + d + 1 : Nat) := by
    intro d
    induction d with
    | zero =>
      intro i hi
      have := (h (i + 1) (by omega)).2.2 (by omega)
      have e : ((i + 1 : Nat) : Int) - 1 = (i : Int) := by omega
      rw [e] at this
      exact this
    | succ d ih =>
      intro i hi
      have h1 := ih i (by omega)
      have := (h (i + (d + 1) + 1) (by omega)).2.2 (by omega)
      have e : ((i + (d + 1) + 1 : Nat) : Int) - 1 = ((i + d + 1 : Nat) : Int) := by omega
      rw [e] at this
      exact Int.lt_trans h1 this
  rw [List.pairwise_iff_getElem]
  intro i j hi hj hij
  have := key (j - i - 1) i (by omega)
  have e : i + (j - i - 1) + 1 = j := by omega
  rw [e, nth_eq hi, nth_eq hj] at this
  exact this
theorem setP_mem {n : Int} {l : List Int} (h : SetP n l) {x : Int} (hx : x ∈ l) : 0 ≤ x ∧ x < n := by
  obtain ⟨i, hi, rfl⟩ := List.getElem_of_mem hx
  have := h i hi
  unfold SetOk at this
  rw [nth_eq hi] at this
  exact ⟨this.1, this.2.1⟩
theorem absOk_of {a : Abs} (h1 : headOk a) (h2 : a.goals.Pairwise (· < ·)) (h3 : ∀ x, x ∈ a.goals → 0 ≤ x ∧ x < a.states) (h4 : a.arcs.length ≤ 400) (h5 : a.arcs.Pairwise arcLt) (h6 : ∀ x, x ∈ a.arcs → arcIn a x) : AbsOk a := {
  head := h1
  goals := setP_of h2 h3
  len := h4
  arc := fun i hi => h6 _ (nth_mem (by omega) (by omega))
  ord := fun i h0 hi => by
    rw [List.pairwise_iff_getElem] at h5
    have e : (i : Int) - 1 = ((i - 1 : Nat) : Int) := by omega
    rw [e, nth_eq hi, nth_eq (by omega)]
    exact h5 (i - 1) i (by omega) hi (by omega) }

/-! ### The abstraction of one variable -/
theorem findA_cases {l : List Asg} {v o : Int} : (∃ a, a ∈ l ∧ a.1 = v ∧ findA l v o = a.2) ∨ ((∀ a, a ∈ l → a.1 ≠ v) ∧ findA l v o = o) := by
  unfold findA
  cases h : l.find? (fun x => decide (x.1 = v)) with
  | none =>
    right
    rw [List.find?_eq_none] at h
    exact ⟨fun a ha e => h a ha (by simpa using e), rfl⟩
  | some a =>
    left
    exact ⟨a, List.mem_of_find?_eq_some h, by simpa using List.find?_some h, rfl⟩
theorem mem_goalsTo {m : Multi} {v x : Int} : ∀ {k : Nat}, x ∈ goalsTo m v k ↔ 0 ≤ x ∧ x < k ∧ findA m.goal v x = x
  | 0 => by simp [goalsTo]; omega
  | k + 1 => by
    have ih := mem_goalsTo (m := m) (v := v) (x := x) (k := k)
    simp only [goalsTo]
    split
    · rename_i h
      rw [List.mem_append, ih, List.mem_singleton]
      constructor
      · rintro (⟨h1, h2, h3⟩ | rfl)
        · exact ⟨h1, by omega, h3⟩
        · exact ⟨by omega, by omega, h⟩
      · rintro ⟨h1, h2, h3⟩
        by_cases e : x = k
        · exact .inr e
        · exact .inl ⟨h1, by omega, h3⟩
    · rename_i h
      rw [ih]
      constructor
      · rintro ⟨h1, h2, h3⟩; exact ⟨h1, by omega, h3⟩
      · rintro ⟨h1, h2, h3⟩
        refine ⟨h1, ?_, h3⟩
        by_cases e : x = k
        · rw [e] at h3; exact absurd h3 h
        · omega
theorem goalsTo_sorted {m : Multi} {v : Int} : ∀ {k : Nat}, (goalsTo m v k).Pairwise (· < ·)
  | 0 => by simp [goalsTo]
  | k + 1 => by
    simp only [goalsTo]
    split
    · rw [List.pairwise_append]
      refine ⟨goalsTo_sorted, by simp, fun x hx y hy => ?_⟩
      rw [mem_goalsTo] at hx
      simp at hy
      omega
    · exact goalsTo_sorted
theorem mem_arcsIn {m : Multi} {v x : Int} {r : Arc} : ∀ {j : Nat}, r ∈ arcsIn m v x j ↔ r.fr = x ∧ 0 ≤ r.lab ∧ r.lab < j ∧ findA (nth m.ops r.lab).pre v x = x ∧ r.to = findA (nth m.ops r.lab).post v x
  | 0 => by simp [arcsIn]; omega
  | j + 1 => by
    have ih := mem_arcsIn (m := m) (v := v) (x := x) (r := r) (j := j)
    simp only [arcsIn]
    split
    · rename_i h
      rw [List.mem_append, ih, List.mem_singleton]
      constructor
      · rintro (⟨h1, h2, h3, h4, h5⟩ | rfl)
        · exact ⟨h1, h2, by omega, h4, h5⟩
        · exact ⟨rfl, by show (0 : Int) ≤ (j : Int); omega, by show (j : Int) < _; omega, h, rfl⟩
      · rintro ⟨h1, h2, h3, h4, h5⟩
        by_cases e : r.lab = j
        · right
          obtain ⟨f, l, t⟩ := r
          simp only at h1 e h5
          subst h1; subst e; subst h5; rfl
        · exact .inl ⟨h1, h2, by omega, h4, h5⟩
    · rename_i h
      rw [ih]
      constructor
      · rintro ⟨h1, h2, h3, h4⟩; exact ⟨h1, h2, by omega, h4⟩
      · rintro ⟨h1, h2, h3, h4⟩
        refine ⟨h1, h2, ?_, h4⟩
        by_cases e : r.lab = j
        · rw [e] at h4; exact absurd h4.1 h
        · omega
theorem arcsIn_sorted {m : Multi} {v x : Int} : ∀ {j : Nat}, (arcsIn m v x j).Pairwise arcLt
  | 0 => by simp [arcsIn]
  | j + 1 => by
    simp only [arcsIn]
    split
    · rw [List.pairwise_append]
      refine ⟨arcsIn_sorted, by simp, fun a ha b hb => ?_⟩
      rw [mem_arcsIn] at ha
      simp at hb
      subst hb
      unfold arcLt
      simp only
      omega
    · exact arcsIn_sorted
theorem mem_arcsTo {m : Multi} {v : Int} {r : Arc} : ∀ {k : Nat}, r ∈ arcsTo m v k ↔ 0 ≤ r.fr ∧ r.fr < k ∧ 0 ≤ r.lab ∧ r.lab < m.ops.length ∧ findA (nth m.ops r.lab).pre v r.fr = r.fr ∧ r.to = findA (nth m.ops r.lab).post v r.fr
  | 0 => by simp [arcsTo]; omega
  | k + 1 => by
    simp only [arcsTo]
    rw [List.mem_append, mem_arcsTo, mem_arcsIn]
    constructor
    · rintro (⟨h1, h2, h3⟩ | ⟨h1, h2⟩)
      · exact ⟨h1, by omega, h3⟩
      · rw [h1]; exact ⟨by omega, by omega, h2⟩
    · rintro ⟨h1, h2, h3⟩
      by_cases e : r.fr = k
      · right; rw [e] at h3; exact ⟨e, h3⟩
      · exact .inl ⟨h1, by omega, h3⟩
theorem arcsTo_sorted {m : Multi} {v : Int} : ∀ {k : Nat}, (arcsTo m v k).Pairwise arcLt
  | 0 => by simp [arcsTo]
  | k + 1 => by
    simp only [arcsTo]
    rw [List.pairwise_append]
    refine ⟨arcsTo_sorted, arcsIn_sorted, fun a ha b hb => ?_⟩
    rw [mem_arcsTo] at ha
    rw [mem_arcsIn] at hb
    unfold arcLt
    omega
section
variable {m : Multi} (hv : Valid m) {v : Int} (h0 : 0 ≤ v) (h1 : v < m.sizes.length)
include hv h0 h1
theorem size_in : 1 ≤ nth m.sizes v ∧ nth m.sizes v ≤ 6 := nth_size hv.sizes h0 h1
theorem findA_in {l : List Asg} (hl : AsgsP m.sizes l) {x : Int} (hx0 : 0 ≤ x) (hx1 : x < nth m.sizes v) : 0 ≤ findA l v x ∧ findA l v x < nth m.sizes v := by
  rcases findA_cases (l := l) (v := v) (o := x) with ⟨a, ha, hav, e⟩ | ⟨_, e⟩
  · rw [e]
    have := asgsP_mem hl ha
    rw [hav] at this
    exact ⟨this.2.2.1, this.2.2.2⟩
  · rw [e]; exact ⟨hx0, hx1⟩
theorem atom_ok : AbsOk (atomA m v) := by
  have hs := size_in hv h0 h1
  have hi : 0 ≤ nth m.init v ∧ nth m.init v < nth m.sizes v := by
    have h2 := hv.init.1
    have := hv.init.2 v.toNat (by omega)
    rwa [Int.toNat_of_nonneg h0] at this
  have hol := hv.opsLen
  refine absOk_of ?_ goalsTo_sorted (fun x hx => ?_) ?_ arcsTo_sorted (fun x hx => ?_)
  · show headOk (atomA m v)
    unfold headOk atomA
    simp only
    omega
  · have : x ∈ goalsTo m v (nth m.sizes v).toNat := hx
    rw [mem_goalsTo] at this
    show 0 ≤ x ∧ x < nth m.sizes v
    omega
  · have h2 := arcsTo_len (m := m) (v := v) (k := (nth m.sizes v).toNat)
    have h3 : (nth m.sizes v).toNat * m.ops.length ≤ 6 * 40 := Nat.mul_le_mul (by omega) hol
    show (arcsTo m v (nth m.sizes v).toNat).length ≤ 400
    omega
  · have hx' : x ∈ arcsTo m v (nth m.sizes v).toNat := hx
    rw [mem_arcsTo] at hx'
    obtain ⟨a1, a2, a3, a4, a5, a6⟩ := hx'
    have hop := hv.op x.lab.toNat (by omega)
    rw [Int.toNat_of_nonneg a3] at hop
    have ht := findA_in hv h0 h1 hop.2.1 a1 (by omega)
    unfold arcIn atomA
    simp only
    omega
theorem pat1 : PatP m.sizes [v] := fun i hi => by
  have : i = 0 := by simp at hi; omega
  subst this
  unfold PatOk
  rw [nth_eq (by simp)]
  exact ⟨h0, h1, fun h => by omega⟩
theorem holds_one {l : List Asg} (hl : AsgsP m.sizes l) {x : Int} : holds [x] (restr l [v]) = true ↔ findA l v x = x := by
  rw [holds_mem]
  constructor
  · intro h
    rcases findA_cases (l := l) (v := v) (o := x) with ⟨a, ha, hav, e⟩ | ⟨_, e⟩
    · have := h (0, a.2) (mem_restr.2 ⟨a, ha, 0, by simp, by rw [hav]; rfl, rfl⟩)
      rw [e, ← this]; rfl
    · exact e
  · intro h a ha
    obtain ⟨b, hb, j, h2, h3, rfl⟩ := mem_restr.1 ha
    have : j = 0 := by simp at h2; omega
    subst this
    have hbv : b.1 = v := h3
    rcases findA_cases (l := l) (v := v) (o := x) with ⟨a, ha', hav, e⟩ | ⟨hn, e⟩
    · have : a = b := sortedA_uniq (asgsP_sorted hl) ha' hb (by rw [hav, hbv])
      rw [← this, ← e, h]; rfl
    · exact absurd hbv (hn b hb)
theorem next_one {l : List Asg} (hl : AsgsP m.sizes l) {x : Int} : nextS [x] (restr l [v]) = [findA l v x] := by
  have hp := pat1 hv h0 h1
  have hr := restr_asgs hp hl
  have hlen : (nextS [x] (restr l [v])).length = 1 := nextS_len
  have key : nth (nextS [x] (restr l [v])) (0 : Int) = findA l v x := by
    rcases findA_cases (l := l) (v := v) (o := x) with ⟨a, ha, hav, e⟩ | ⟨hn, e⟩
    · have h2 : ((0 : Int), a.2) ∈ restr l [v] := mem_restr.2 ⟨a, ha, 0, by simp, by rw [hav]; rfl, rfl⟩
      have := nextS_mem hr (s := [x]) (by simp [sel_len]) h2
      rw [e]; exact this
    · have := nextS_not hr (s := [x]) (by simp [sel_len]) (v := 0) (by omega) (by rw [sel_len]; simp) (fun a ha hc => by
        obtain ⟨b, hb, j, h2, h3, rfl⟩ := mem_restr.1 ha
        have : j = 0 := by simp at h2; omega
        subst this
        exact hn b hb h3)
      rw [e]; exact this
  obtain ⟨y, hy⟩ : ∃ y, nextS [x] (restr l [v]) = [y] := by
    match hh : nextS [x] (restr l [v]), hlen with
    | [y], _ => exact ⟨y, rfl⟩
  rw [hy] at key ⊢
  rw [← key]; rfl
theorem rank_one {n x : Int} : rank [n] [x] = x := by
  simp [rank, rankTo, nth]
theorem state_one {x : Int} (hx : 0 ≤ x ∧ x < nth m.sizes v) : StateP (projM m [v]).sizes [x] := by
  refine ⟨by simp [projM, sel], fun i hi => ?_⟩
  have : i = 0 := by simp at hi; omega
  subst this
  exact hx
theorem state_of {s : List Int} (hs : StateP (projM m [v]).sizes s) : ∃ x, s = [x] ∧ 0 ≤ x ∧ x < nth m.sizes v := by
  have hl : s.length = 1 := hs.1
  match s, hl with
  | [x], _ => exact ⟨x, rfl, hs.2 0 (by simp)⟩
theorem costsL_for' {c : List Int} (hc : c.length = m.ops.length) (h : ∀ j : Nat, j < c.length → 0 ≤ nth c j ∧ nth c j ≤ 1000000) : CostFor (atomA m v) c := ⟨by show (c.length : Int) = (m.ops.length : Int); omega, h⟩
theorem nS_atom : nS (atomA m v) = (nth m.sizes v).toNat := rfl
/-- A step in the variable's own graph. -/
theorem atom_arc {j : Nat} (hj : j < m.ops.length) {x : Int} (hx0 : 0 ≤ x) (hx1 : x < nth m.sizes v) (hp : findA (nth m.ops j).pre v x = x) : ∃ i : Nat, i < (atomA m v).arcs.length ∧ nth (atomA m v).arcs i = ⟨x, j, findA (nth m.ops j).post v x⟩ := by
  have hmem : (⟨x, j, findA (nth m.ops j).post v x⟩ : Arc) ∈ arcsTo m v (nth m.sizes v).toNat := mem_arcsTo.2 ⟨hx0, by show x < _; omega, by show (0 : Int) ≤ (j : Int); omega, by show (j : Int) < _; omega, hp, rfl⟩
  obtain ⟨i, hi, he⟩ := List.getElem_of_mem hmem
  refine ⟨i, hi, ?_⟩
  show nth (arcsTo m v (nth m.sizes v).toNat) i = _
  rw [nth_eq hi, he]
end
def costsL (m : Multi) : List Int := m.ops.map (·.cost)
theorem costsL_len {m : Multi} : (costsL m).length = m.ops.length := by simp [costsL]
theorem costsL_at {m : Multi} {j : Nat} (hj : j < m.ops.length) : nth (costsL m) j = (nth m.ops j).cost := by
  rw [nth_eq (by rw [costsL_len]; exact hj), nth_eq hj]
  simp [costsL]
theorem costsL_in {m : Multi} (hv : Valid m) {j : Nat} (hj : j < (costsL m).length) : 0 ≤ nth (costsL m) j ∧ nth (costsL m) j ≤ 1000000 := by
  rw [costsL_len] at hj
  rw [costsL_at hj]
  have := (hv.op j hj).2.2
  omega
section
variable {m : Multi} (hv : Valid m) {v : Int} (h0 : 0 ≤ v) (h1 : v < m.sizes.length)
include hv h0 h1
theorem costsL_for : CostFor (atomA m v) (costsL m) := costsL_for' hv h0 h1 costsL_len (fun j hj => costsL_in hv hj)
/-- The distances of the abstraction of a variable are those of the projection to it. -/
theorem atom_dist : distL (atomA m v) (costsL m) = costs (projM m [v]) := by
  have ha := atom_ok hv h0 h1
  have hc := costsL_for hv h0 h1
  have hp := pat1 hv h0 h1
  have hv' : Valid (projM m [v]) := valid_proj hv (by simp) hp
  have hs := size_in hv h0 h1
  have hdg := distL_good ha hc
  have hcg := costs_good hv'
  have hnS : nS (atomA m v) = (nth m.sizes v).toNat := rfl
  have hsz : (projM m [v]).sizes = [nth m.sizes v] := rfl
  have hrk : ∀ x : Int, rank (projM m [v]).sizes [x] = x := fun x => rank_one (hv := hv) (h0 := h0) (h1 := h1)
  have hnR : nR (projM m [v]) = (nth m.sizes v).toNat := by
    unfold nR; rw [hsz]; simp [ranks, ranksTo, nth]
  refine ext_get (by rw [hdg.1, hcg.1, hnS, hnR]) fun i hi => ?_
  rw [hdg.1, hnS] at hi
  have hst := state_one hv h0 h1 (x := (i : Int)) ⟨by omega, by omega⟩
  refine Int.le_antisymm ?_ ?_
  · have := costs_ge hv' (f := fun s => nth (distL (atomA m v) (costsL m)) (nth s (0 : Int))) (fun s hs' => ?_) (fun s hs' hh => ?_) (fun s hs' j hj hpre => ?_) hst
    · rw [hrk] at this
      exact this
    · obtain ⟨x, rfl, hx⟩ := state_of hv h0 h1 hs'
      exact (hdg.2 x hx.1 (by rw [hnS]; omega)).2
    · obtain ⟨x, rfl, hx⟩ := state_of hv h0 h1 hs'
      have hgl := (holds_one hv h0 h1 hv.goal).1 hh
      have : x ∈ (atomA m v).goals := mem_goalsTo.2 ⟨hx.1, by omega, hgl⟩
      have hgoal := distL_goal (x := x) ha hc hx.1 (by rw [hnS]; omega) this
      exact Int.le_of_eq hgoal
    · obtain ⟨x, rfl, hx⟩ := state_of hv h0 h1 hs'
      rw [projM_ops] at hj
      rw [projM_op hj] at hpre ⊢
      have hop := hv.op j hj
      have hf := (holds_one hv h0 h1 hop.1).1 hpre
      obtain ⟨i', hi', he⟩ := atom_arc hv h0 h1 hj hx.1 hx.2 hf
      have ht := distL_tri ha hc hi'
      rw [he] at ht
      simp only at ht
      rw [costsL_at hj] at ht
      rw [next_one hv h0 h1 hop.2.1]
      exact ht
  · refine distL_ge ha hc (f := fun x => nth (costs (projM m [v])) x) (fun x hx0 hx1 => ?_) (fun x hx0 hx1 hg => ?_) (fun i' hi' => ?_) (by omega) (by rw [hnS]; omega)
    · exact (hcg.2 x hx0 (by rw [hnR]; omega)).2
    · have hg' : x ∈ goalsTo m v (nth m.sizes v).toNat := hg
      rw [mem_goalsTo] at hg'
      have := costs_goal hv' (state_one hv h0 h1 (x := x) ⟨hx0, by omega⟩) ((holds_one hv h0 h1 hv.goal).2 hg'.2.2)
      rw [hrk] at this
      exact Int.le_of_eq this
    · have hmem : nth (atomA m v).arcs i' ∈ arcsTo m v (nth m.sizes v).toNat := nth_mem (l := (atomA m v).arcs) (by omega) (by omega)
      generalize nth (atomA m v).arcs i' = r at hmem ⊢
      rw [mem_arcsTo] at hmem
      obtain ⟨a1, a2, a3, a4, a5, a6⟩ := hmem
      have hjl : r.lab.toNat < m.ops.length := by omega
      have hlab : ((r.lab.toNat : Nat) : Int) = r.lab := Int.toNat_of_nonneg a3
      have hop := hv.op _ hjl
      have := costs_tri hv' (state_one hv h0 h1 (x := r.fr) ⟨a1, by omega⟩) (j := r.lab.toNat) (by rw [projM_ops]; exact hjl) (by rw [projM_op hjl]; refine (holds_one hv h0 h1 hop.1).2 ?_; rw [hlab]; exact a5)
      rw [projM_op hjl] at this
      simp only at this
      rw [next_one hv h0 h1 hop.2.1, hrk, hrk, hlab, ← a6] at this
      rw [← hlab, costsL_at hjl, hlab]
      exact this
end

/-! ### Sums of distances -/
def sumV (D : Nat → List Int) (V : Nat → Int) (s : List Int) : Nat → Int
  | 0 => 0
  | k + 1 => sumV D V s k + nth (D k) (nth s (V k))
def sumP (p : Nat → List Int) (j : Nat) : Nat → Int
  | 0 => 0
  | k + 1 => sumP p j k + nth (p k) j
theorem state_at {sizes s : List Int} (hs : StateP sizes s) {v : Int} (h0 : 0 ≤ v) (h1 : v < sizes.length) : 0 ≤ nth s v ∧ nth s v < nth sizes v := by
  have := hs.1
  have h2 := hs.2 v.toNat (by omega)
  rwa [Int.toNat_of_nonneg h0] at h2
theorem next_find {sizes s : List Int} {l : List Asg} (hl : AsgsP sizes l) (hs : s.length = sizes.length) {v : Int} (h0 : 0 ≤ v) (h1 : v < sizes.length) : nth (nextS s l) v = findA l v (nth s v) := by
  rcases findA_cases (l := l) (v := v) (o := nth s v) with ⟨a, ha, hav, e⟩ | ⟨hn, e⟩
  · rw [e, ← hav]; exact nextS_mem hl hs ha
  · rw [e]; exact nextS_not hl hs h0 h1 hn
theorem holds_find {sizes s : List Int} {l : List Asg} (hl : AsgsP sizes l) (hh : holds s l = true) {v : Int} : findA l v (nth s v) = nth s v := by
  rcases findA_cases (l := l) (v := v) (o := nth s v) with ⟨a, ha, hav, e⟩ | ⟨hn, e⟩
  · rw [e, ← hav]; exact (holds_mem.1 hh a ha).symm
  · exact e
/-- Distances with parts of the costs, added, are at most the cost of every plan. -/
theorem parts_le {m : Multi} (hv : Valid m) {n : Nat} {V : Nat → Int} {p : Nat → List Int} (hV : ∀ i, i < n → 0 ≤ V i ∧ V i < m.sizes.length) (hp : ∀ i, i < n → CostFor (atomA m (V i)) (p i))
    (hsum : ∀ j : Nat, j < m.ops.length → sumP p j n ≤ (nth m.ops j).cost) {s : List Int} (hs : StateP m.sizes s) : min 1000000000 (sumV (fun i => distL (atomA m (V i)) (p i)) V s n) ≤ nth (costs m) (rank m.sizes s) := by
  refine costs_ge hv (f := fun s => min 1000000000 (sumV (fun i => distL (atomA m (V i)) (p i)) V s n)) (fun s hs => Int.min_le_left _ _) (fun s hs hh => ?_) (fun s hs j hj hpre => ?_) hs
  · have key : ∀ k, k ≤ n → sumV (fun i => distL (atomA m (V i)) (p i)) V s k ≤ 0 := by
      intro k
      induction k with
      | zero => intro _; exact Int.le_refl _
      | succ k ih =>
        intro hk
        have h1 := ih (by omega)
        obtain ⟨v0, v1⟩ := hV k (by omega)
        have hst := state_at hs v0 v1
        have hg : nth s (V k) ∈ (atomA m (V k)).goals := mem_goalsTo.2 ⟨hst.1, by omega, holds_find hv.goal hh⟩
        have := distL_goal (atom_ok hv v0 v1) (hp k (by omega)) hst.1 (by rw [nS_atom hv v0 v1]; omega) hg
        simp only [sumV]
        omega
    have := key n (Nat.le_refl _)
    exact Int.le_trans (Int.min_le_right _ _) this
  · have hop := hv.op j hj
    have key : ∀ k, k ≤ n → sumV (fun i => distL (atomA m (V i)) (p i)) V s k ≤ sumV (fun i => distL (atomA m (V i)) (p i)) V (nextS s (nth m.ops j).post) k + sumP p j k := by
      intro k
      induction k with
      | zero => intro _; simp [sumV, sumP]
      | succ k ih =>
        intro hk
        have h1 := ih (by omega)
        obtain ⟨v0, v1⟩ := hV k (by omega)
        have hst := state_at hs v0 v1
        obtain ⟨i, hi, he⟩ := atom_arc hv v0 v1 hj hst.1 hst.2 (holds_find hop.1 hpre)
        have ht := distL_tri (atom_ok hv v0 v1) (hp k (by omega)) hi
        rw [he] at ht
        simp only at ht
        rw [← next_find hop.2.1 hs.1 v0 v1] at ht
        simp only [sumV, sumP]
        omega
    have h1 := key n (Nat.le_refl _)
    have h2 := hsum j hj
    show min 1000000000 _ ≤ min 1000000000 _ + (nth m.ops j).cost
    have := hop.2.2.1
    omega
end Go.Eng

set_option linter.unusedVariables false
set_option linter.unusedSimpArgs false
set_option linter.unusedSectionVars false
namespace Go.Eng
open Go

def costsTo (m : Multi) (k : Nat) : List Int := (List.range k).map fun (i : Nat) => (nth m.ops i).cost
theorem costsTo_s {m : Multi} {k : Nat} : costsTo m (k + 1) = costsTo m k ++ [(nth m.ops k).cost] := by simp [costsTo, List.range_succ]
theorem costsTo_len {m : Multi} {k : Nat} : (costsTo m k).length = k := by simp [costsTo]
theorem costsTo_end {m : Multi} : costsTo m m.ops.length = costsL m := by
  refine List.ext_getElem (by simp [costsTo, costsL]) fun i h1 h2 => ?_
  have hi : i < m.ops.length := by simpa [costsL] using h2
  simp only [costsTo, costsL, List.getElem_map, List.getElem_range]
  rw [nth_eq hi]
theorem abs_ext {a b : Abs} (h1 : a.states = b.states) (h2 : a.labels = b.labels) (h3 : a.arcs = b.arcs) (h4 : a.init = b.init) (h5 : a.goals = b.goals) : a = b := by
  cases a; cases b; simp only at h1 h2 h3 h4 h5; subst h1 h2 h3 h4 h5; rfl
theorem arc_ext {x y : Arc} (h1 : x.fr = y.fr) (h2 : x.lab = y.lab) (h3 : x.to = y.to) : x = y := by
  cases x; cases y; simp only at h1 h2 h3; subst h1 h2 h3; rfl
/-- The arc that the reference finds among the first i targets. -/
def arcsY (m : Multi) (v x : Int) (j : Nat) (i : Nat) : List Arc := if findA (nth m.ops j).pre v x = x ∧ findA (nth m.ops j).post v x < i then [⟨x, j, findA (nth m.ops j).post v x⟩] else []
theorem arcsY_t {m : Multi} {v x : Int} {j i : Nat} (h1 : findA (nth m.ops j).pre v x = x) (h2 : findA (nth m.ops j).post v x = i) : arcsY m v x j (i + 1) = arcsY m v x j i ++ [⟨x, j, i⟩] := by
  unfold arcsY
  rw [if_pos ⟨h1, by omega⟩, if_neg (by omega), h2]; rfl
theorem arcsY_n {m : Multi} {v x : Int} {j i : Nat} (h : ¬ (findA (nth m.ops j).pre v x = x ∧ findA (nth m.ops j).post v x = i)) : arcsY m v x j (i + 1) = arcsY m v x j i := by
  unfold arcsY
  by_cases h1 : findA (nth m.ops j).pre v x = x
  · by_cases h2 : findA (nth m.ops j).post v x < i
    · rw [if_pos ⟨h1, by omega⟩, if_pos ⟨h1, h2⟩]
    · rw [if_neg (by have := fun e => h ⟨h1, e⟩; omega), if_neg (by omega)]
  · rw [if_neg (fun hh => h1 hh.1), if_neg (fun hh => h1 hh.1)]
theorem arcsY_len {m : Multi} {v x : Int} {j i : Nat} : (arcsY m v x j i).length ≤ 1 := by unfold arcsY; split <;> simp
section
variable {m : Multi} (hv : Valid m) {v : Int} (h0 : 0 ≤ v) (h1 : v < m.sizes.length)
include hv h0 h1
theorem arcsY_0 {x : Int} (hx : 0 ≤ x ∧ x < nth m.sizes v) {j : Nat} (hj : j < m.ops.length) : arcsY m v x j 0 = [] := by
  have := findA_in hv h0 h1 (hv.op j hj).2.1 hx.1 hx.2
  unfold arcsY
  rw [if_neg (fun h => by have := h.2; omega)]
theorem arcsY_end {x : Int} (hx : 0 ≤ x ∧ x < nth m.sizes v) {j : Nat} (hj : j < m.ops.length) : arcsIn m v x (j + 1) = arcsIn m v x j ++ arcsY m v x j (nth m.sizes v).toNat := by
  have := findA_in hv h0 h1 (hv.op j hj).2.1 hx.1 hx.2
  unfold arcsY
  by_cases h : findA (nth m.ops j).pre v x = x
  · rw [arcsIn_t h, if_pos ⟨h, by omega⟩]
  · rw [arcsIn_f h, if_neg (fun hh => h hh.1)]; simp
theorem one_asgs {l : List Asg} (hl : AsgsP m.sizes l) : ∀ k : Nat, k < (restr l [v]).length → 0 ≤ (nth (restr l [v]) k).1 ∧ (nth (restr l [v]) k).1 < (1 : Nat) := fun k hk => by
  have h := restr_asgs (pat1 hv h0 h1) hl k hk
  unfold AsgOk at h
  rw [sel_len] at h
  exact ⟨h.1, h.2.1⟩
theorem op_asgs {j : Nat} (hj : j < m.ops.length) {x : Int} : ∀ k : Nat, k < (nth (projM m [v]).ops j).pre.length → 0 ≤ (nth (nth (projM m [v]).ops j).pre k).1 ∧ (nth (nth (projM m [v]).ops j).pre k).1 < [x].length := by
  rw [projM_op hj]; exact one_asgs hv h0 h1 (hv.op j hj).1
theorem holds_op {j : Nat} (hj : j < m.ops.length) {x : Int} : holds [x] (nth (projM m [v]).ops j).pre = true ↔ findA (nth m.ops j).pre v x = x := by
  rw [projM_op hj]; exact holds_one hv h0 h1 (hv.op j hj).1
theorem next_op {j : Nat} (hj : j < m.ops.length) {x : Int} : nextS [x] (nth (projM m [v]).ops j).post = [findA (nth m.ops j).post v x] := by
  rw [projM_op hj]; exact next_one hv h0 h1 (hv.op j hj).2.1
theorem valid1 : Valid (projM m [v]) := valid_proj hv (by simp) (pat1 hv h0 h1)
theorem atom_ad : adF (atomA m v) (costsL m) = (0, 0) ∧ adR (atomA m v) (costsL m) = costs (projM m [v]) := by
  have hF : adF (atomA m v) (costsL m) = (0, 0) := by
    rw [← adF_1 (absFault_of (atom_ok hv h0 h1))]
    exact (costFault_ok (costCode_0 (by rw [costsL_len]; rfl) fun j hj => costsL_in hv hj)).symm
  exact ⟨hF, (adR_0 hF).trans (atom_dist hv h0 h1)⟩
end
theorem dist1 {m : Multi} (hval : validate m = (0, 0)) {v : Int} (h0 : 0 ≤ v) (h1 : v < m.sizes.length) : distF m [v] = (0, 0) ∧ distR m [v] = costs (projM m [v]) := by
  have hv := valid_of hval
  have hp := pat1 hv h0 h1
  have hs := size_in hv h0 h1
  have hpf : projFault m [v] = (0, 0) := by
    rw [← projFault_1 hval]
    exact (patFault_ok (patCode_0 (by simp) hp)).symm
  have hF : distF m [v] = (0, 0) := by
    unfold distF
    rw [← bigF_2 (fun h => ?_)]
    · exact hpf
    · have hprod : prodTo m.sizes [v] ([v].length) = nth m.sizes v := by simp [prodTo, nth]
      rw [hprod] at h
      have := h.2
      omega
  exact ⟨hF, distR_0 hF⟩
end Go.Eng

set_option linter.unusedVariables false
set_option linter.unusedSimpArgs false
set_option linter.unusedSectionVars false
namespace Go.Eng
open Go

def vAt (m : Multi) (f : Int) (i : Nat) : Int := (f % m.sizes.length + i) % m.sizes.length
def atomsTo (m : Multi) (f : Int) (k : Nat) : List Abs := (List.range k).map fun (i : Nat) => atomA m (vAt m f i)
def nAt (m : Multi) : Nat := min m.sizes.length 6
def atomsL (m : Multi) (f : Int) : List Abs := atomsTo m f (nAt m)
theorem atomsTo_s {m : Multi} {f : Int} {k : Nat} : atomsTo m f (k + 1) = atomsTo m f k ++ [atomA m (vAt m f k)] := by simp [atomsTo, List.range_succ]
theorem atomsTo_len {m : Multi} {f : Int} {k : Nat} : (atomsTo m f k).length = k := by simp [atomsTo]
theorem atomsL_len {m : Multi} {f : Int} : (atomsL m f).length = nAt m := atomsTo_len
theorem atomsL_at {m : Multi} {f : Int} {i : Nat} (hi : i < nAt m) : nth (atomsL m f) i = atomA m (vAt m f i) := by
  rw [nth_eq (by rw [atomsL_len]; exact hi)]
  simp [atomsL, atomsTo]
section
variable {m : Multi} (hv : Valid m) {f : Int} (hf : 0 ≤ f)
include hv hf
theorem vAt_in {i : Nat} : 0 ≤ vAt m f i ∧ vAt m f i < m.sizes.length := by
  have := hv.len
  unfold vAt
  exact ⟨Int.emod_nonneg _ (by omega), Int.emod_lt_of_pos _ (by omega)⟩
theorem nAt_in : 1 ≤ nAt m ∧ nAt m ≤ 6 := by have := hv.len; unfold nAt; omega
theorem atoms_lab : labF (atomsL m f) (costsL m) = (0, 0) := by
  have hn := nAt_in hv hf
  have hol := hv.opsLen
  refine (labF_0 (by rw [atomsL_len]; omega) ?_ fun j hj => ?_).symm
  · rw [costFault_short (by rw [costsL_len]; omega)]
    exact (costFault_ok (costCode_0 rfl fun j hj => costsL_in hv hj)).symm
  · rw [atomsL_len] at hj
    rw [atomsL_at hj]
    obtain ⟨v0, v1⟩ := vAt_in hv hf (i := j)
    exact labA_0 (by rw [absFault_of (atom_ok hv v0 v1)]) (by rw [costsL_len]; rfl)
theorem atoms_uni : uniF (costsL m) (nAt m) = (0, 0) := by
  have hn := nAt_in hv hf
  exact (uniF_0 (labF_nil (atoms_lab hv hf)) (by omega)).symm
end
/-- The distance of the initial state in each abstraction, with the costs that are left and with equal parts. -/
noncomputable def dSat (m : Multi) (f : Int) (i : Nat) : List Int := distL (atomA m (vAt m f i)) (lefTo (atomsL m f) (costsL m) i)
noncomputable def dUni (m : Multi) (f : Int) (i : Nat) : List Int := distL (atomA m (vAt m f i)) (rowTo (costsL m) (nAt m) i (costsL m).length)
noncomputable def aTo (m : Multi) (f : Int) (k : Nat) : Int := min 1000000000 (sumV (dSat m f) (vAt m f) m.init k)
noncomputable def bTo (m : Multi) (f : Int) (k : Nat) : Int := min 1000000000 (sumV (dUni m f) (vAt m f) m.init k)
theorem min_step {s x : Int} (hx : 0 ≤ x) : min 1000000000 (min 1000000000 s + x) = min 1000000000 (s + x) := by omega
section
variable {m : Multi} (hv : Valid m) {f : Int} (hf : 0 ≤ f)
include hv hf
theorem init_at {i : Nat} : 0 ≤ nth m.init (vAt m f i) ∧ nth m.init (vAt m f i) < nth m.sizes (vAt m f i) := state_at hv.init (vAt_in hv hf).1 (vAt_in hv hf).2
theorem sat_for {i : Nat} (hi : i < nAt m) : CostFor (atomA m (vAt m f i)) (lefTo (atomsL m f) (costsL m) i) := by
  have := (lefTo_for (atoms_lab hv hf) (k := i) (by rw [atomsL_len]; exact hi)).2
  rwa [atomsL_at hi] at this
theorem uni_for {i : Nat} (hi : i < nAt m) : CostFor (atomA m (vAt m f i)) (rowTo (costsL m) (nAt m) i (costsL m).length) := by
  obtain ⟨v0, v1⟩ := vAt_in hv hf (i := i)
  have hn := nAt_in hv hf
  have hl := rowTo_len (c := costsL m) (n := nAt m) (i := i) (Nat.le_refl _)
  refine costsL_for' hv v0 v1 (by rw [hl, costsL_len]) fun j hj => ?_
  rw [hl] at hj
  have hc := costsL_in hv hj
  rw [rowTo_at hj]
  have := share_le hc (n := nAt m) (i := i) (by omega) (by omega)
  omega
theorem dSat_in {i : Nat} (hi : i < nAt m) {x : Int} (hx : 0 ≤ x ∧ x < nth m.sizes (vAt m f i)) : 0 ≤ nth (dSat m f i) x ∧ nth (dSat m f i) x ≤ 1000000000 := by
  obtain ⟨v0, v1⟩ := vAt_in hv hf (i := i)
  exact (distL_good (atom_ok hv v0 v1) (sat_for hv hf hi)).2 x hx.1 (by rw [nS_atom hv v0 v1]; omega)
theorem dUni_in {i : Nat} (hi : i < nAt m) {x : Int} (hx : 0 ≤ x ∧ x < nth m.sizes (vAt m f i)) : 0 ≤ nth (dUni m f i) x ∧ nth (dUni m f i) x ≤ 1000000000 := by
  obtain ⟨v0, v1⟩ := vAt_in hv hf (i := i)
  exact (distL_good (atom_ok hv v0 v1) (uni_for hv hf hi)).2 x hx.1 (by rw [nS_atom hv v0 v1]; omega)
theorem aTo_s {k : Nat} (hk : k < nAt m) : min 1000000000 (aTo m f k + nth (dSat m f k) (nth m.init (vAt m f k))) = aTo m f (k + 1) := min_step (dSat_in hv hf hk (init_at hv hf)).1
theorem bTo_s {k : Nat} (hk : k < nAt m) : min 1000000000 (bTo m f k + nth (dUni m f k) (nth m.init (vAt m f k))) = bTo m f (k + 1) := min_step (dUni_in hv hf hk (init_at hv hf)).1
theorem sumSat_nn {k : Nat} (hk : k ≤ nAt m) : 0 ≤ sumV (dSat m f) (vAt m f) m.init k := by
  induction k with
  | zero => exact Int.le_refl _
  | succ k ih =>
    have := ih (by omega)
    have := (dSat_in hv hf (i := k) (by omega) (init_at hv hf)).1
    simp only [sumV]; omega
theorem sumUni_nn {k : Nat} (hk : k ≤ nAt m) : 0 ≤ sumV (dUni m f) (vAt m f) m.init k := by
  induction k with
  | zero => exact Int.le_refl _
  | succ k ih =>
    have := ih (by omega)
    have := (dUni_in hv hf (i := k) (by omega) (init_at hv hf)).1
    simp only [sumV]; omega
theorem aTo_in {k : Nat} (hk : k ≤ nAt m) : 0 ≤ aTo m f k ∧ aTo m f k ≤ 1000000000 := by have := sumSat_nn hv hf hk; unfold aTo; omega
theorem bTo_in {k : Nat} (hk : k ≤ nAt m) : 0 ≤ bTo m f k ∧ bTo m f k ≤ 1000000000 := by have := sumUni_nn hv hf hk; unfold bTo; omega
theorem aTo_ge : nth (distL (atomA m (vAt m f 0)) (costsL m)) (nth m.init (vAt m f 0)) ≤ aTo m f (nAt m) := by
  have hn := nAt_in hv hf
  have key : ∀ k, 1 ≤ k → k ≤ nAt m → nth (dSat m f 0) (nth m.init (vAt m f 0)) ≤ sumV (dSat m f) (vAt m f) m.init k := by
    intro k h1 hk
    induction k with
    | zero => omega
    | succ k ih =>
      have h2 := (dSat_in hv hf (i := k) (by omega) (init_at hv hf)).1
      cases k with
      | zero => simp [sumV]
      | succ k =>
        have := ih (by omega) (by omega)
        simp only [sumV] at this ⊢; omega
  have h1 := key (nAt m) hn.1 (Nat.le_refl _)
  have h2 := (dSat_in hv hf (i := 0) (by omega) (init_at hv hf)).2
  have e : distL (atomA m (vAt m f 0)) (costsL m) = dSat m f 0 := rfl
  rw [e]
  unfold aTo
  omega
theorem sumP_col {p : List (List Int)} {q : Nat → List Int} {j : Nat} : ∀ {k : Nat}, (∀ i : Nat, i < k → nth p i = q i) → sumP q j k = colS p j k
  | 0, _ => rfl
  | k + 1, h => by
    have ih := sumP_col (p := p) (q := q) (j := j) (k := k) fun i hi => h i (by omega)
    simp only [sumP, colS]
    rw [ih, h k (by omega)]
theorem sumV_cong {D D' : Nat → List Int} {V : Nat → Int} {s : List Int} : ∀ {k : Nat}, (∀ i, i < k → D i = D' i) → sumV D V s k = sumV D' V s k
  | 0, _ => rfl
  | k + 1, h => by
    simp only [sumV]
    rw [sumV_cong (fun i hi => h i (by omega)), h k (by omega)]
theorem aTo_le : aTo m f (nAt m) ≤ nth (costs m) (rank m.sizes m.init) := by
  have hlab := atoms_lab hv hf
  have hl : (atomsL m f).length = nAt m := atomsL_len
  have had : ∀ i, i < nAt m → CostFor (atomA m (vAt m f i)) (ndL (atomsL m f) (costsL m) i) ∧ distL (atomA m (vAt m f i)) (ndL (atomsL m f) (costsL m) i) = dSat m f i := by
    intro i hi
    obtain ⟨h1, h2⟩ := ad_need hlab (k := i) (by rw [hl]; exact hi)
    rw [atomsL_at hi] at h1 h2
    obtain ⟨_, h3, _⟩ := adF_ok (a := atomA m (vAt m f i)) (c := ndL (atomsL m f) (costsL m) i) (by rw [h1])
    rw [adR_0 h1] at h2
    exact ⟨h3, h2⟩
  have := parts_le hv (n := nAt m) (V := vAt m f) (p := ndL (atomsL m f) (costsL m)) (fun i hi => vAt_in hv hf) (fun i hi => (had i hi).1) (fun j hj => ?_) hv.init
  · unfold aTo
    rw [sumV_cong (D := dSat m f) (D' := fun i => distL (atomA m (vAt m f i)) (ndL (atomsL m f) (costsL m) i)) (hv := hv) (hf := hf) (fun i hi => (had i hi).2.symm)]
    exact this
  · have hj' : j < (costsL m).length := by rw [costsL_len]; exact hj
    have h1 := col_sat (l := atomsL m f) (c := costsL m) (m := nAt m) hj' (k := nAt m) (Nat.le_refl _)
    rw [sumP_col hv hf (p := prtT (atomsL m f) (costsL m) (nAt m)) (fun i hi => prtT_at hi), h1, costsL_at hj]
    have := (lefTo_ok hlab (k := nAt m) (by rw [hl]; exact Nat.le_refl _) j (by rw [lefTo_len]; exact hj')).1
    omega
theorem bTo_le : bTo m f (nAt m) ≤ nth (costs m) (rank m.sizes m.init) := by
  have hU := atoms_uni hv hf
  have := parts_le hv (n := nAt m) (V := vAt m f) (p := fun i => rowTo (costsL m) (nAt m) i (costsL m).length) (fun i hi => vAt_in hv hf) (fun i hi => uni_for hv hf hi) (fun j hj => ?_) hv.init
  · exact this
  · have hj' : j < (costsL m).length := by rw [costsL_len]; exact hj
    have h1 := (uni_fits hU).2 j hj'
    rw [← uniL_0 hU, uniTo_len, Int.toNat_natCast] at h1
    rw [sumP_col hv hf (p := uniTo (costsL m) (nAt m) (nAt m)) (fun i hi => uniTo_at hi), ← costsL_at hj]
    exact h1
theorem uni_ad {i : Nat} (hi : i < nAt m) : nth (uniL (costsL m) (nAt m)) i = rowTo (costsL m) (nAt m) i (costsL m).length ∧ adF (atomA m (vAt m f i)) (rowTo (costsL m) (nAt m) i (costsL m).length) = (0, 0) ∧ adR (atomA m (vAt m f i)) (rowTo (costsL m) (nAt m) i (costsL m).length) = dUni m f i := by
  obtain ⟨v0, v1⟩ := vAt_in hv hf (i := i)
  have hU := atoms_uni hv hf
  have hc := uni_for hv hf hi
  have hF : adF (atomA m (vAt m f i)) (rowTo (costsL m) (nAt m) i (costsL m).length) = (0, 0) := by
    rw [← adF_1 (absFault_of (atom_ok hv v0 v1))]
    exact (costFault_ok (costCode_0 hc.1 hc.2)).symm
  refine ⟨?_, hF, adR_0 hF⟩
  rw [← uniL_0 hU, Int.toNat_natCast]
  exact uniTo_at hi
theorem satV_at {i : Nat} (hi : i < nAt m) : nth (satV (atomsL m f) (costsL m)) i = nth (dSat m f i) (nth m.init (vAt m f i)) := by
  rw [← satV_0 (atoms_lab hv hf), valT_at (by rw [atomsL_len]; exact hi), atomsL_at hi]
  rfl
theorem satV_len : (satV (atomsL m f) (costsL m)).length = nAt m := by rw [← satV_0 (atoms_lab hv hf), valT_len, atomsL_len]
theorem uniL_len : (uniL (costsL m) (nAt m)).length = nAt m := by rw [← uniL_0 (atoms_uni hv hf), uniTo_len, Int.toNat_natCast]
end
end Go.Eng
