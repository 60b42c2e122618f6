/- The engine and the walks that this claim uses, part 5. Written by prune.py out of our own texts. -/
import Derived.Test.YthgcnfolgbaemaaA4
import Derived.Shelf.SortM.Plain
import Derived.Shelf.SortM.SortNone
import Derived.Shelf.SlGeneric
import Derived.Ground.SlgmProg
section
/- Partitions of states: numbers in the order of first occurrence, refinement, the coarsest bisimulation. -/



set_option linter.unusedVariables false
set_option linter.unusedSimpArgs false
set_option linter.unusedSectionVars false
namespace Go.Eng
open Go
section
variable {α : Type} [DecidableEq α] [Inhabited α]
/-- The distinct ones among the first k, in the order of their first occurrence. -/
def dsTo (l : List α) : Nat → List α
  | 0 => []
  | k + 1 => if nth l k ∈ dsTo l k then dsTo l k else dsTo l k ++ [nth l k]
def nmTo (l : List α) : Nat → List Int
  | 0 => []
  | k + 1 => nmTo l k ++ [((dsTo l (k + 1)).idxOf (nth l k) : Int)]
/-- The numbers of values in the order of their first occurrence. -/
def numL (l : List α) : List Int := nmTo l l.length
theorem nmTo_len {l : List α} : ∀ {k : Nat}, (nmTo l k).length = k
  | 0 => rfl
  | k + 1 => by simp [nmTo, nmTo_len]
theorem numL_len {l : List α} : (numL l).length = l.length := nmTo_len
theorem dsTo_len {l : List α} : ∀ {k : Nat}, (dsTo l k).length ≤ k
  | 0 => Nat.le_refl _
  | k + 1 => by
    have := dsTo_len (l := l) (k := k)
    simp only [dsTo]; split
    · omega
    · simp; omega
theorem dsTo_mem {l : List α} {x : α} : ∀ {k : Nat}, x ∈ dsTo l k ↔ ∃ i : Nat, i < k ∧ nth l i = x
  | 0 => by simp [dsTo]
  | k + 1 => by
    have ih := dsTo_mem (l := l) (x := x) (k := k)
    simp only [dsTo]
    split
    · rename_i h
      rw [ih]
      constructor
      · rintro ⟨i, hi, he⟩; exact ⟨i, by omega, he⟩
      · rintro ⟨i, hi, he⟩
        by_cases e : i = k
        · subst e; rw [he] at h; exact ih.1 h
        · exact ⟨i, by omega, he⟩
    · rw [List.mem_append, ih, List.mem_singleton]
      constructor
      · rintro (⟨i, hi, he⟩ | rfl)
        · exact ⟨i, by omega, he⟩
        · exact ⟨k, by omega, rfl⟩
      · rintro ⟨i, hi, he⟩
        by_cases e : i = k
        · subst e; exact .inr he.symm
        · exact .inl ⟨i, by omega, he⟩
theorem dsTo_idx {l : List α} {x : α} {k : Nat} (h : x ∈ dsTo l k) : ∀ {n : Nat}, k ≤ n → (dsTo l n).idxOf x = (dsTo l k).idxOf x
  | 0, hn => by obtain rfl : k = 0 := by omega
                rfl
  | n + 1, hn => by
    by_cases e : k = n + 1
    · subst e; rfl
    · have ih := dsTo_idx h (n := n) (by omega)
      have hm : x ∈ dsTo l n := by
        obtain ⟨i, hi, he⟩ := dsTo_mem.1 h
        exact dsTo_mem.2 ⟨i, by omega, he⟩
      simp only [dsTo]
      split
      · exact ih
      · rw [List.idxOf_append, if_pos hm]; exact ih
def idD (l : List α) (x : α) : Nat := l.idxOf x
theorem idx_inj {l : List α} {x y : α} (hx : x ∈ l) (hy : y ∈ l) (h : l.idxOf x = l.idxOf y) : x = y := by
  have h1 := List.getElem_idxOf (List.idxOf_lt_length_of_mem hx)
  have h2 := List.getElem_idxOf (List.idxOf_lt_length_of_mem hy)
  rw [← h1, ← h2]
  congr 1
theorem nmTo_at {l : List α} {i : Nat} : ∀ {k : Nat}, i < k → nth (nmTo l k) i = ((dsTo l k).idxOf (nth l i) : Int)
  | 0, h => by omega
  | k + 1, h => by
    have hl := nmTo_len (l := l) (k := k)
    rw [nth_eq (by rw [nmTo_len]; omega)]
    simp only [nmTo]
    by_cases e : i = k
    · subst e
      rw [List.getElem_append_right (by omega)]; simp [hl]
    · rw [List.getElem_append_left (by omega), ← nth_eq (by omega), nmTo_at (by omega)]
      rw [dsTo_idx (dsTo_mem.2 ⟨i, by omega, rfl⟩) (Nat.le_succ k)]
theorem numL_at {l : List α} {i : Nat} (h : i < l.length) : nth (numL l) i = ((dsTo l l.length).idxOf (nth l i) : Int) := nmTo_at h
theorem numL_eq {l : List α} {i j : Nat} (hi : i < l.length) (hj : j < l.length) : nth (numL l) i = nth (numL l) j ↔ nth l i = nth l j := by
  rw [numL_at hi, numL_at hj]
  constructor
  · intro h
    exact idx_inj (dsTo_mem.2 ⟨i, hi, rfl⟩) (dsTo_mem.2 ⟨j, hj, rfl⟩) (by omega)
  · intro h; rw [h]
theorem ds_old {l : List α} {k : Nat} (h : nth l k ∈ dsTo l k) : dsTo l (k + 1) = dsTo l k := by simp only [dsTo]; rw [if_pos h]
theorem ds_new {l : List α} {k : Nat} (h : nth l k ∉ dsTo l k) : dsTo l (k + 1) = dsTo l k ++ [nth l k] := by simp only [dsTo]; rw [if_neg h]
theorem nm_old {l : List α} {k : Nat} (h : nth l k ∈ dsTo l k) : nmTo l (k + 1) = nmTo l k ++ [((dsTo l k).idxOf (nth l k) : Int)] := by
  simp only [nmTo, ds_old h]
theorem nm_new {l : List α} {k : Nat} (h : nth l k ∉ dsTo l k) : nmTo l (k + 1) = nmTo l k ++ [((dsTo l k).length : Int)] := by
  simp only [nmTo, ds_new h]
  rw [List.idxOf_append, if_neg h]; simp
theorem idD_old {l : List α} {x : α} {k n : Nat} (h : x ∈ dsTo l k) (hn : k ≤ n) : idD (dsTo l k) x = idD (dsTo l n) x := (dsTo_idx h hn).symm
theorem idD_cons {l : List α} {x y : α} : idD (y :: l) x = if y = x then 0 else idD l x + 1 := by
  unfold idD
  rw [List.idxOf_cons]
  by_cases h : y = x
  · simp [h]
  · rw [if_neg h]
    have : (y == x) = false := by simp [h]
    rw [this]; rfl
theorem idD_new {l : List α} {k n : Nat} (h : nth l k ∉ dsTo l k) (hn : k < n) : (dsTo l k).length = idD (dsTo l n) (nth l k) := by
  unfold idD
  rw [dsTo_idx (k := k + 1) (dsTo_mem.2 ⟨k, by omega, rfl⟩) hn, ds_new h, List.idxOf_append, if_neg h]; simp
end
/-- Numbers depend on which values are equal, and on nothing else. -/
theorem num_cong {α β : Type} [DecidableEq α] [Inhabited α] [DecidableEq β] [Inhabited β] {l : List α} {l' : List β} (hl : l.length = l'.length) (h : ∀ i j : Nat, i < l.length → j < l.length → (nth l i = nth l j ↔ nth l' i = nth l' j)) : numL l = numL l' := by
  have key : ∀ k : Nat, k ≤ l.length → nmTo l k = nmTo l' k ∧ (dsTo l k).length = (dsTo l' k).length := by
    intro k
    induction k with
    | zero => exact fun _ => ⟨rfl, rfl⟩
    | succ k ih =>
      intro hk
      obtain ⟨h1, h2⟩ := ih (by omega)
      have hm : nth l k ∈ dsTo l k ↔ nth l' k ∈ dsTo l' k := by
        rw [dsTo_mem, dsTo_mem]
        constructor
        · rintro ⟨i, hi, he⟩; exact ⟨i, hi, (h i k (by omega) (by omega)).1 he⟩
        · rintro ⟨i, hi, he⟩; exact ⟨i, hi, (h i k (by omega) (by omega)).2 he⟩
      by_cases hk1 : nth l k ∈ dsTo l k
      · have hk2 := hm.1 hk1
        rw [nm_old hk1, nm_old hk2, ds_old hk1, ds_old hk2]
        refine ⟨?_, h2⟩
        obtain ⟨i, hi, he⟩ := dsTo_mem.1 hk1
        have he' := (h i k (by omega) (by omega)).1 he
        rw [← he, ← he', ← nmTo_at hi, ← nmTo_at hi, h1]
      · have hk2 := fun hh => hk1 (hm.2 hh)
        rw [nm_new hk1, nm_new hk2, ds_new hk1, ds_new hk2, h1, h2]
        exact ⟨rfl, by simp [h2]⟩
  unfold numL
  rw [← hl]
  exact (key _ (Nat.le_refl _)).1
theorem num_num {α : Type} [DecidableEq α] [Inhabited α] {l : List α} : numL (numL l) = numL l :=
  num_cong numL_len fun i j hi hj => numL_eq (by rw [← numL_len (l := l)]; exact hi) (by rw [← numL_len (l := l)]; exact hj)
/-! ### The map of numbers -/
def mpTo (l : List Asg) (k : Nat) : List (List Int × Int) := (dsTo l k).zipIdx.map fun p => ([p.1.1, p.1.2], (p.2 : Int))
theorem mpTo_n {l : List Asg} {k : Nat} : ∀ p, p ∈ mpTo l k → p.1.length = 2 := fun p hp => by
  obtain ⟨q, _, rfl⟩ := List.mem_map.1 hp; rfl
theorem mpTo_len {l : List Asg} {k : Nat} : (mpTo l k).length = (dsTo l k).length := by simp [mpTo]
theorem lookM_zip {x : Asg} : ∀ {d : List Asg} {s : Nat}, lookM ((d.zipIdx s).map fun p => ([p.1.1, p.1.2], (p.2 : Int))) [x.1, x.2] = if x ∈ d then some ((s + idD d x : Nat) : Int) else none
  | [], s => by simp [lookM]
  | y :: d, s => by
    have ih := lookM_zip (x := x) (d := d) (s := s + 1)
    unfold lookM at ih ⊢
    by_cases h : x = y
    · subst h
      simp [List.zipIdx_cons, idD_cons]
    · have h' : ¬ ([x.1, x.2] = [y.1, y.2]) := fun e => h (by simp at e; exact Prod.ext e.1 e.2)
      have h2 : ¬ y = x := fun e => h e.symm
      simp only [List.zipIdx_cons, List.map_cons, List.find?_cons, h', decide_false]
      rw [ih, idD_cons, if_neg h2]
      simp only [List.mem_cons, h, false_or]
      by_cases hd : x ∈ d
      · simp only [hd, if_true]
        simp; omega
      · simp [hd]
theorem lookM_mp {l : List Asg} {k : Nat} {x : Asg} : lookM (mpTo l k) [x.1, x.2] = if x ∈ dsTo l k then some (idD (dsTo l k) x : Int) else none := by
  have := lookM_zip (x := x) (d := dsTo l k) (s := 0)
  unfold mpTo
  rw [this]; simp
theorem lookM_old {l : List Asg} {k : Nat} (h : nth l k ∈ dsTo l k) : lookM (mpTo l k) [(nth l k).1, (nth l k).2] = some (idD (dsTo l (k + 1)) (nth l k) : Int) := by rw [lookM_mp, if_pos h, ds_old h]
theorem nm_s {l : List Asg} {k : Nat} : nmTo l (k + 1) = nmTo l k ++ [(idD (dsTo l (k + 1)) (nth l k) : Int)] := rfl
theorem mp_new {l : List Asg} {k : Nat} (h : nth l k ∉ dsTo l k) : mpTo l (k + 1) = mpTo l k ++ [([(nth l k).1, (nth l k).2], ((dsTo l k).length : Int))] := by
  unfold mpTo
  rw [ds_new h, List.zipIdx_append, List.map_append]; simp
theorem mp_old {l : List Asg} {k : Nat} (h : nth l k ∈ dsTo l k) : mpTo l (k + 1) = mpTo l k := by unfold mpTo; rw [ds_old h]
/-! ### Refinement -/
/-- The arcs of a state among the first k, as seen with parts. -/
def sgTo (a : Abs) (part : List Int) (x : Nat) (k : Nat) : List Arc := ((a.arcs.take k).filter fun (r : Arc) => decide (r.fr = (x : Int))).map fun r => ⟨0, r.lab, nth part r.to⟩
def sig (a : Abs) (part : List Int) (x : Nat) : List Arc := dd (sortL (sgTo a part x a.arcs.length))
def sigL (a : Abs) (part : List Int) : List (List Arc) := (List.range (nS a)).map fun x => sig a part x
def keyTo (a : Abs) (part : List Int) (k : Nat) : List Asg := (List.range k).map fun (x : Nat) => (nth part x, (idD (dsTo (sigL a part) (nS a)) (sig a part x) : Int))
def refL (a : Abs) (part : List Int) : List Int := numL (keyTo a part (nS a))
def goalP (a : Abs) : List Asg := (List.range (nS a)).map fun (x : Nat) => (if (x : Int) ∈ a.goals then 1 else 0, 0)
def prt0 (a : Abs) : List Int := numL (goalP a)
def prtN (a : Abs) : Nat → List Int
  | 0 => prt0 a
  | k + 1 => refL a (prtN a k)
theorem sgTo_len {a : Abs} {part : List Int} {x k : Nat} : (sgTo a part x k).length ≤ k := by
  unfold sgTo
  have := List.length_filter_le (fun (r : Arc) => decide (r.fr = (x : Int))) (a.arcs.take k)
  simp only [List.length_map, List.length_take] at *
  omega
theorem sgTo_s {a : Abs} {part : List Int} {x k : Nat} (hk : k < a.arcs.length) : sgTo a part x (k + 1) = if (nth a.arcs k).fr = x then sgTo a part x k ++ [⟨0, (nth a.arcs k).lab, nth part (nth a.arcs k).to⟩] else sgTo a part x k := by
  unfold sgTo
  rw [tk_s hk, List.filter_append, List.map_append]
  by_cases h : (nth a.arcs k).fr = x
  · simp [h]
  · rw [if_neg h, List.filter_cons_of_neg (by simpa using h)]; simp
theorem sigL_len {a : Abs} {part : List Int} : (sigL a part).length = nS a := by simp [sigL]
theorem sigL_at {a : Abs} {part : List Int} {x : Nat} (h : x < nS a) : nth (sigL a part) x = sig a part x := by
  rw [nth_eq (by rw [sigL_len]; exact h)]; simp [sigL]
theorem keyTo_len {a : Abs} {part : List Int} {k : Nat} : (keyTo a part k).length = k := by simp [keyTo]
theorem keyTo_at {a : Abs} {part : List Int} {k x : Nat} (h : x < k) : nth (keyTo a part k) x = (nth part x, (idD (dsTo (sigL a part) (nS a)) (sig a part x) : Int)) := by
  rw [nth_eq (by rw [keyTo_len]; exact h)]; simp [keyTo]
theorem refL_len {a : Abs} {part : List Int} : (refL a part).length = nS a := by unfold refL; rw [numL_len, keyTo_len]
theorem refL_eq {a : Abs} {part : List Int} {x y : Nat} (hx : x < nS a) (hy : y < nS a) : nth (refL a part) x = nth (refL a part) y ↔ nth part x = nth part y ∧ sig a part x = sig a part y := by
  unfold refL
  rw [numL_eq (by rw [keyTo_len]; exact hx) (by rw [keyTo_len]; exact hy), keyTo_at hx, keyTo_at hy, Prod.mk.injEq]
  refine and_congr_right fun _ => ⟨fun h => ?_, fun h => by rw [h]⟩
  refine idx_inj (l := dsTo (sigL a part) (nS a)) (dsTo_mem.2 ⟨x, hx, sigL_at hx⟩) (dsTo_mem.2 ⟨y, hy, sigL_at hy⟩) ?_
  show idD _ _ = idD _ _
  omega
theorem mem_sig {a : Abs} {part : List Int} {x : Nat} {z : Arc} : z ∈ sig a part x ↔ ∃ r, r ∈ a.arcs ∧ r.fr = x ∧ z = ⟨0, r.lab, nth part r.to⟩ := by
  unfold sig
  rw [sd_mem]
  unfold sgTo
  rw [List.take_length, List.mem_map]
  constructor
  · rintro ⟨r, hr, rfl⟩
    rw [List.mem_filter] at hr
    exact ⟨r, hr.1, by simpa using hr.2, rfl⟩
  · rintro ⟨r, hr, hf, rfl⟩
    exact ⟨r, List.mem_filter.2 ⟨hr, by simpa using hf⟩, rfl⟩
theorem sig_eq {a : Abs} {part : List Int} {x y : Nat} : sig a part x = sig a part y ↔ ∀ z, z ∈ sig a part x ↔ z ∈ sig a part y :=
  ⟨fun h z => by rw [h], fun h => arcs_uniq sd_strict sd_strict h⟩
theorem prtN_len {a : Abs} : ∀ {k : Nat}, (prtN a k).length = nS a
  | 0 => by simp [prtN, prt0, numL_len, goalP]
  | k + 1 => refL_len
theorem prtN_num {a : Abs} : ∀ {k : Nat}, numL (prtN a k) = prtN a k
  | 0 => num_num
  | k + 1 => num_num
theorem prtN_fin {a : Abs} {k x y : Nat} (hx : x < nS a) (hy : y < nS a) (h : nth (prtN a (k + 1)) x = nth (prtN a (k + 1)) y) : nth (prtN a k) x = nth (prtN a k) y := ((refL_eq hx hy).1 h).1
/-- How many parts. -/
def cnt (p : List Int) : Nat := (dsTo p p.length).length
theorem cnt_le {p : List Int} : cnt p ≤ p.length := dsTo_len
theorem inj_surj {p q : List Int} (hl : p.length = q.length) (h : ∀ x y : Nat, x < p.length → y < p.length → nth q x = nth q y → nth p x = nth p y) : cnt p ≤ cnt q ∧ (cnt p = cnt q → ∀ x y : Nat, x < p.length → y < p.length → nth p x = nth p y → nth q x = nth q y) := by
  have key : ∀ k : Nat, k ≤ p.length → (dsTo p k).length ≤ (dsTo q k).length ∧ ((dsTo p k).length = (dsTo q k).length → ∀ x y : Nat, x < k → y < k → nth p x = nth p y → nth q x = nth q y) := by
    intro k
    induction k with
    | zero => exact fun _ => ⟨Nat.le_refl _, fun _ x y hx => by omega⟩
    | succ k ih =>
      intro hk
      obtain ⟨h1, h2⟩ := ih (by omega)
      by_cases hq : nth q k ∈ dsTo q k
      · have hp : nth p k ∈ dsTo p k := by
          obtain ⟨i, hi, he⟩ := dsTo_mem.1 hq
          exact dsTo_mem.2 ⟨i, hi, h i k (by omega) (by omega) he⟩
        rw [ds_old hq, ds_old hp]
        refine ⟨h1, fun he x y hx hy hxy => ?_⟩
        obtain ⟨i, hi, hiq⟩ := dsTo_mem.1 hq
        have hip := h i k (by omega) (by omega) hiq
        have hred : ∀ z : Nat, z < k + 1 → ∃ z' : Nat, z' < k ∧ nth p z' = nth p z ∧ nth q z' = nth q z := fun z hz => by
          by_cases e : z = k
          · subst e; exact ⟨i, hi, hip, hiq⟩
          · exact ⟨z, by omega, rfl, rfl⟩
        obtain ⟨x', hx1, hx2, hx3⟩ := hred x hx
        obtain ⟨y', hy1, hy2, hy3⟩ := hred y hy
        rw [← hx3, ← hy3]
        exact h2 he x' y' hx1 hy1 (by rw [hx2, hy2, hxy])
      · by_cases hp : nth p k ∈ dsTo p k
        · rw [ds_new hq, ds_old hp]
          simp only [List.length_append, List.length_singleton]
          exact ⟨by omega, fun he => by omega⟩
        · rw [ds_new hq, ds_new hp]
          simp only [List.length_append, List.length_singleton]
          refine ⟨by omega, fun he x y hx hy hxy => ?_⟩
          by_cases ex : x = k
          · by_cases ey : y = k
            · rw [ex, ey]
            · subst ex
              exact absurd (dsTo_mem.2 ⟨y, by omega, hxy.symm⟩) hp
          · by_cases ey : y = k
            · subst ey
              exact absurd (dsTo_mem.2 ⟨x, by omega, hxy⟩) hp
            · exact h2 (by omega) x y (by omega) (by omega) hxy
  unfold cnt
  rw [← hl]
  exact key _ (Nat.le_refl _)
/-- Each round makes more parts, or the last. -/
theorem prtN_step {a : Abs} {k : Nat} (h : prtN a (k + 1) ≠ prtN a k) : cnt (prtN a k) < cnt (prtN a (k + 1)) := by
  obtain ⟨h1, h2⟩ := inj_surj (p := prtN a k) (q := prtN a (k + 1)) (by rw [prtN_len, prtN_len]) (fun x y hx hy he => by rw [prtN_len] at hx hy; exact prtN_fin hx hy he)
  refine Nat.lt_of_le_of_ne h1 fun he => h ?_
  have h3 := h2 he
  rw [← prtN_num (k := k + 1), ← prtN_num (k := k)]
  refine num_cong (by rw [prtN_len, prtN_len]) fun i j hi hj => ?_
  rw [prtN_len] at hi hj
  exact ⟨prtN_fin hi hj, h3 i j (by rw [prtN_len]; exact hi) (by rw [prtN_len]; exact hj)⟩
theorem prtN_stay {a : Abs} {k : Nat} (h : prtN a (k + 1) = prtN a k) : ∀ j, prtN a (k + j) = prtN a k
  | 0 => rfl
  | j + 1 => by
    have ih := prtN_stay h j
    show refL a (prtN a (k + j)) = _
    rw [ih]; exact h
theorem prtN_ex (a : Abs) : ∃ k, prtN a (k + 1) = prtN a k := by
  refine Classical.byContradiction fun hn => ?_
  have hall : ∀ k, prtN a (k + 1) ≠ prtN a k := fun k h => hn ⟨k, h⟩
  have hc : ∀ k, k ≤ cnt (prtN a k) := fun k => by
    induction k with
    | zero => omega
    | succ k ih => have := prtN_step (hall k); omega
  have h1 := hc (nS a + 1)
  have h2 := cnt_le (p := prtN a (nS a + 1))
  rw [prtN_len] at h2
  omega
/-- The coarsest bisimulation. -/
noncomputable def bisL (a : Abs) : List Int := prtN a (Classical.choose (prtN_ex a))
theorem bisL_of {a : Abs} {k : Nat} (h : prtN a (k + 1) = prtN a k) : prtN a k = bisL a := by
  have h2 := Classical.choose_spec (prtN_ex a)
  unfold bisL
  rcases Nat.le_total k (Classical.choose (prtN_ex a)) with q | q
  · have := prtN_stay h (Classical.choose (prtN_ex a) - k)
    rw [show k + (Classical.choose (prtN_ex a) - k) = Classical.choose (prtN_ex a) by omega] at this
    exact this.symm
  · have := prtN_stay h2 (k - Classical.choose (prtN_ex a))
    rw [show Classical.choose (prtN_ex a) + (k - Classical.choose (prtN_ex a)) = k by omega] at this
    exact this
theorem bisL_fix {a : Abs} : refL a (bisL a) = bisL a := Classical.choose_spec (prtN_ex a)
theorem bisL_len {a : Abs} : (bisL a).length = nS a := prtN_len
abbrev arcss (l : List (List Arc)) : D := .s 1 (l.map fun r => [arcsD r])
/-- The buckets of the arcs of each state. -/
def bkTo (a : Abs) (part : List Int) (k : Nat) : List (List Arc) := (List.range (nS a)).map fun (x : Nat) => sgTo a part x k
theorem bkTo_len {a : Abs} {part : List Int} {k : Nat} : (bkTo a part k).length = nS a := by simp [bkTo]
theorem bk_at {a : Abs} {part : List Int} {k x : Nat} (h : x < nS a) : nth (bkTo a part k) x = sgTo a part x k := by
  rw [nth_eq (by rw [bkTo_len]; exact h)]; simp [bkTo]
theorem bk_get {a : Abs} {part : List Int} {k x : Nat} (h : x < nS a) : ((bkTo a part k).map fun l => l.map arcC)[x]? = some ((sgTo a part x k).map arcC) := by
  simp [bkTo, h]
theorem bk_set {a : Abs} {part : List Int} {k : Nat} (hk : k < a.arcs.length) (h0 : 0 ≤ (nth a.arcs k).fr) :
    ((bkTo a part k).map fun l => l.map arcC).set (nth a.arcs k).fr.toNat ((sgTo a part (nth a.arcs k).fr.toNat k).map arcC ++ [arcC ⟨0, (nth a.arcs k).lab, nth part (nth a.arcs k).to⟩]) = (bkTo a part (k + 1)).map fun l => l.map arcC := by
  apply List.ext_getElem (by simp [bkTo])
  intro i h1 h2
  simp only [List.getElem_set, bkTo, List.getElem_map, List.getElem_range]
  rw [sgTo_s hk]
  by_cases e : (nth a.arcs k).fr.toNat = i
  · rw [if_pos e, if_pos (by omega), e]; simp
  · rw [if_neg e, if_neg (by omega)]
/-- The keys so far. -/
def kyTo (a : Abs) (part : List Int) (k : Nat) : List Asg := (List.range (nS a)).map fun (x : Nat) => if x < k then (nth part x, (idD (dsTo (sigL a part) (nS a)) (sig a part x) : Int)) else (0, 0)
theorem kyTo_len {a : Abs} {part : List Int} {k : Nat} : (kyTo a part k).length = nS a := by simp [kyTo]
theorem kyTo_0 {a : Abs} {part : List Int} : kyTo a part 0 = List.replicate (nS a) (0, 0) := by
  apply List.ext_getElem (by simp [kyTo])
  intro i h1 h2; simp [kyTo]
theorem kyTo_end {a : Abs} {part : List Int} : kyTo a part (nS a) = keyTo a part (nS a) := by
  apply List.ext_getElem (by simp [kyTo, keyTo])
  intro i h1 h2
  have : i < nS a := by simpa [kyTo] using h1
  simp [kyTo, keyTo, this]
theorem kyTo_s {a : Abs} {part : List Int} {k : Nat} (hk : k < nS a) : kyTo a part (k + 1) = (kyTo a part k).set k (nth part k, (idD (dsTo (sigL a part) (nS a)) (sig a part k) : Int)) := by
  apply List.ext_getElem (by simp [kyTo])
  intro i h1 h2
  simp only [List.getElem_set, kyTo, List.getElem_map, List.getElem_range]
  by_cases e : k = i
  · subst e; rw [if_pos rfl, if_pos (by omega)]
  · rw [if_neg e]
    by_cases h : i < k
    · rw [if_pos h, if_pos (by omega)]
    · rw [if_neg h, if_neg (by omega)]
theorem find_mem {α : Type} [DecidableEq α] [Inhabited α] {x : α} : ∀ {l : List α}, findI (fun y => decide (x = y)) l = if x ∈ l then (idD l x : Int) else -1 := by
  intro l
  by_cases h : x ∈ l
  · rw [if_pos h]
    have hlt := List.idxOf_lt_length_of_mem h
    refine findI_some (k := idD l x) hlt (fun j hj => ?_) ?_
    · have : j < l.idxOf x := hj
      have hn := List.not_of_lt_findIdx (p := fun y => y == x) (xs := l) this
      rw [nth_eq (by omega)]
      simp only [decide_eq_false_iff_not]
      intro e
      simp [← e] at hn
    · show decide (x = nth l ((l.idxOf x : Nat) : Int)) = true
      rw [nth_eq hlt]
      simp only [decide_eq_true_eq]
      exact (List.getElem_idxOf hlt).symm
  · rw [if_neg h]
    refine findI_none fun j hj => ?_
    rw [nth_eq hj]
    simp only [decide_eq_false_iff_not]
    intro e
    exact h (e ▸ List.getElem_mem hj)
theorem bk_0 {a : Abs} {part : List Int} : ((bkTo a part 0).map fun l => l.map arcC) = List.replicate (nS a) [] := by
  apply List.ext_getElem (by simp [bkTo])
  intro i h1 h2; simp [bkTo, sgTo]
theorem ky_set {a : Abs} {part : List Int} {x : Nat} (hx : x < nS a) : ((kyTo a part x).map asg).take (x : Int).toNat ++ [asg (nth part x, (idD (dsTo (sigL a part) (nS a)) (sig a part x) : Int))] ++ ((kyTo a part x).map asg).drop ((x : Int).toNat + 1) = (kyTo a part (x + 1)).map asg := by
  rw [kyTo_s hx, List.set_eq_take_append_cons_drop, if_pos (by rw [kyTo_len]; exact hx)]
  simp
theorem id_old {a : Abs} {part : List Int} {x : Nat} (hx : x < nS a) (h : sig a part x ∈ dsTo (sigL a part) x) : ((idD (dsTo (sigL a part) x) (sig a part x) : Nat) : Int) = (idD (dsTo (sigL a part) (nS a)) (sig a part x) : Int) := by
  rw [idD_old h (n := nS a) (by omega)]
theorem id_new {a : Abs} {part : List Int} {x : Nat} (hx : x < nS a) (h : nth (sigL a part) x ∉ dsTo (sigL a part) x) : ((dsTo (sigL a part) x).length : Int) = (idD (dsTo (sigL a part) (nS a)) (sig a part x) : Int) := by
  rw [idD_new h hx, sigL_at hx]
end Go.Eng
end

section
/- Walks, written by gen.py out of hints. -/





set_option linter.unusedVariables false
set_option linter.unusedSimpArgs false
namespace Go.Proofs.Ythgcnfolgbaemaa
open Go.Eng
set_option maxRecDepth 10000
set_option maxHeartbeats 1000000

theorem shrink_number_shrink_pair_does (l : List Asg) (hl : l.length ≤ 1000) : DoesO Try.prog 26 [.d (asgs l)] 1 3 (((numL l).map fun n => [D.v (.int .i64 n)])) := by
  refine DoesO.of_body Try.func26 rfl rfl (by simp) Try.call26 (fun w0 O0 => ?_)
  refine Tr.lenLe (n := 0) rfl (fun len0 => ?_)
  refine Tr.seq ?_
  refine Tr.region ?_
  refine TrOps.sem (OpSem.move (.inr rfl) rfl) rfl rfl (by decide) ?_
  refine TrOps.nil ?_
  refine At.seq ?_
  refine Tr.seq ?_
  refine Tr.region ?_
  refine TrOps.semM (OpSem.makeMap 9 rfl) rfl rfl (by decide) ?_
  refine TrOps.sem (OpSem.move (.inr rfl) rfl) rfl rfl (by decide) ?_
  refine TrOps.nil ?_
  refine At.seq ?_
  refine Tr.seq ?_
  refine Tr.region ?_
  refine TrOps.sem (OpSem.move (.inr rfl) rfl) rfl rfl (by decide) ?_
  refine TrOps.nil ?_
  refine At.seq ?_
  refine Tr.seq ?_
  refine Tr.seq ?_
  refine Tr.ownNil (n := 4) 4 1 3 rfl ?_
  refine Tr.region ?_
  refine TrOps.sem (OpSem.move (.inl rfl) rfl) rfl rfl (by decide) ?_
  refine TrOps.sem (OpSem.lenL rfl rfl es49) rfl rfl (by decide) ?_
  refine TrOps.sem (OpSem.move (.inl rfl) rfl) rfl rfl (by decide) ?_
  refine TrOps.nil ?_
  refine At.seq ?_
  refine Tr.block ?_
  refine Tr.loop (X := Nat) (fun k => k ≤ l.length) (fun k => [(3, .o 9), (4, .o 4), (10, .d (asgs l)), (11, I (l.length)), (12, I (k))]) (fun k => [(9, .any (mapK (mpTo l k))), (4, .own 1 3 ((nmTo l k).map fun n => [D.v (.int .i64 n)]))]) (fun k => l.length - k) 0 (by omega) ?_ ?_
  · exact .slot rfl (.refl _) <| .slot rfl (.refl _) <| .slot rfl (.refl _) <| .slot rfl (.refl _) <| .slot rfl (Le.of_eq (by simp)) <| .memEq rfl rfl <| .memEq rfl (by simp [nmTo]) <| .nil
  · rintro k hkl
    refine Tr.seq ?_
    refine Tr.region ?_
    refine TrOps.sem (OpSem.bin rfl rfl rfl blss) rfl rfl (by decide) ?_
    refine TrOps.nil ?_
    refine At.seq ?_
    refine Tr.seq ?_
    refine Tr.cond rfl (fun c13 => ?_) (fun c13 => ?_)
    · have hk : k < l.length := by simpa using c13
      have hdl := dsTo_len (l := l) (k := k)
      have hnl := nmTo_len (l := l) (k := k)
      refine Tr.skip ?_
      refine At.seq ?_
      refine Tr.seq ?_
      refine Tr.block ?_
      refine Tr.seq ?_
      refine Tr.region ?_
      refine TrOps.sem (OpSem.idxL rfl rfl rfl es49 (by omega) (by omega)) rfl rfl (by decide) ?_
      refine TrOps.sem (OpSem.loadN rfl rfl vs51 (by first | decide | simp) rfl) rfl rfl (by decide) ?_
      refine TrOps.semM (OpSem.alloc 6 rfl zc51 rfl) rfl rfl (by decide) ?_
      refine TrOps.storeb rfl rfl rfl rfl rfl rfl rfl vs51 (by first | decide | simp) ?_
      refine TrOps.nil ?_
      refine At.seq ?_
      refine Tr.seq ?_
      refine Tr.region ?_
      refine TrOps.sem (OpSem.move (.inl rfl) rfl) rfl rfl (by decide) ?_
      refine TrOps.sem (OpSem.loadbN rfl rfl rfl vs51 (by first | decide | simp)) rfl rfl (by decide) ?_
      refine TrOps.sem (OpSem.lookupOk (xs := [(nth l k).1, (nth l k).2]) rfl rfl rfl rfl mt69 io51 zv3 rfl mpTo_n) rfl rfl (by decide) ?_
      refine TrOps.sem (OpSem.move (.inl rfl) rfl) rfl rfl (by decide) ?_
      refine TrOps.sem (OpSem.extract rfl rfl rfl) rfl rfl (by decide) ?_
      refine TrOps.sem (OpSem.extract rfl rfl rfl) rfl rfl (by decide) ?_
      refine TrOps.sem (OpSem.move (.inr rfl) rfl) rfl rfl (by decide) ?_
      refine TrOps.sem (OpSem.move (.inr rfl) rfl) rfl rfl (by decide) ?_
      refine TrOps.nil ?_
      refine At.seq ?_
      refine Tr.cut [(3, .o 9), (4, .o 4), (7, I ((idD (dsTo l (k + 1)) (nth l k) : Int))), (10, .d (asgs l)), (11, I (l.length)), (12, I (k))] [(9, .any (mapK (mpTo l (k + 1)))), (4, .own 1 3 ((nmTo l k).map fun n => [D.v (.int .i64 n)]))] ?_ ?_
      · refine Tr.seq ?_
        refine Tr.region ?_
        refine TrOps.sem (OpSem.move (.inl rfl) rfl) rfl rfl (by decide) ?_
        refine TrOps.sem (OpSem.not rfl rfl) rfl rfl (by decide) ?_
        refine TrOps.nil ?_
        refine At.seq ?_
        refine Tr.cond rfl (fun c23 => ?_) (fun c23 => ?_)
        · have hnew : nth l k ∉ dsTo l k := fun h => by rw [lookM_mp, if_pos h] at c23; simp at c23
          refine Tr.seq ?_
          refine Tr.region ?_
          refine TrOps.sem (OpSem.move (.inl rfl) rfl) rfl rfl (by decide) ?_
          refine TrOps.sem (OpSem.lenMap rfl rfl rfl mt69) rfl rfl (by decide) ?_
          refine TrOps.sem (OpSem.move (.inr rfl) rfl) rfl rfl (by decide) ?_
          refine TrOps.nil ?_
          refine At.seq ?_
          refine Tr.region ?_
          refine TrOps.sem (OpSem.move (.inl rfl) rfl) rfl rfl (by decide) ?_
          refine TrOps.sem (OpSem.loadbN rfl rfl rfl vs51 (by first | decide | simp)) rfl rfl (by decide) ?_
          refine TrOps.sem (OpSem.move (.inl rfl) rfl) rfl rfl (by decide) ?_
          refine TrOps.ofSt0 (OpSt.mapUpdate (xs := [(nth l k).1, (nth l k).2]) rfl rfl rfl rfl mt69 io51 rfl mpTo_n (by rw [lookM_mp, if_neg hnew])) rfl rfl rfl ?_
          refine TrOps.nil ?_
          refine At.meet ?_
          exact .slot rfl (.refl _) <| .slot rfl (.refl _) <| .slot rfl (Le.i (by rw [mpTo_len, idD_new hnew (Nat.lt_succ_self k)])) <| .slot rfl (.refl _) <| .slot rfl (.refl _) <| .slot rfl (.refl _) <| .memEq rfl (by rw [mp_new hnew, mpTo_len]) <| .mem rfl <| .nil
        · have hold : nth l k ∈ dsTo l k := Decidable.byContradiction fun h => by rw [lookM_mp, if_neg h] at c23; simp at c23
          refine Tr.skip ?_
          refine At.meet ?_
          exact .slot rfl (.refl _) <| .slot rfl (.refl _) <| .slot rfl (Le.i (by rw [lookM_old hold]; rfl)) <| .slot rfl (.refl _) <| .slot rfl (.refl _) <| .slot rfl (.refl _) <| .memEq rfl (by rw [mp_old hold]; rfl) <| .mem rfl <| .nil
      · refine Tr.region ?_
        refine TrOps.sem (OpSem.move (.inl rfl) rfl) rfl rfl (by decide) ?_
        refine TrOps.sem (OpSem.move (.inl rfl) rfl) rfl rfl (by decide) ?_
        refine TrOps.sem (OpSem.buildSlice rfl rfl es23 ze23 rfl rfl (by decide) (by decide) rfl rfl) rfl rfl (by decide) ?_
        refine TrOps.append rfl rfl rfl (by decide) rfl rfl rfl es23 el23 zc3 rfl by3 (by simp [D.one, Value.oneCell']) (by simp [maxLen]; omega) (by simp; omega) ?_
        refine TrOps.sem (OpSem.move (.inr rfl) rfl) rfl rfl (by decide) ?_
        refine TrOps.nil ?_
        refine At.block_normal ?_
        refine At.seq ?_
        refine Tr.region ?_
        refine TrOps.sem (OpSem.bin rfl rfl rfl (badd (by omega) (by omega))) rfl rfl (by decide) ?_
        refine TrOps.sem (OpSem.move (.inl rfl) rfl) rfl rfl (by decide) ?_
        refine TrOps.nil ?_
        refine At.again (k + 1) (by omega) ?_ (by omega)
        exact .slot rfl (.refl _) <| .slot rfl (.refl _) <| .slot rfl (.refl _) <| .slot rfl (.refl _) <| .slot rfl (Le.of_eq (by simp)) <| .mem rfl <| .memEq rfl (by simp [nm_s]) <| .nil
    · have hk : k = l.length := by simp at c13; omega
      refine Tr.exit ?_
      refine At.pass_exit ?_
      refine At.pass_exit ?_
      refine At.block_same ?_
      refine At.seq ?_
      refine Tr.seq ?_
      refine Tr.region ?_
      refine TrOps.sem (OpSem.move (.inl rfl) rfl) rfl rfl (by decide) ?_
      refine TrOps.sem (OpSem.move (.inr rfl) rfl) rfl rfl (by decide) ?_
      refine TrOps.nil ?_
      refine At.seq ?_
      refine Tr.ret ?_
      exact At.retO2 rfl rfl rfl (by simp) (by rw [hk]; rfl)

theorem slices_Equal_Arc_Arc_does (s t : List Arc) : Does Try.prog false 49 [.d (arcsD s), .d (arcsD t)] (Bo (decide (s = t))) := by
  refine Does.of_body Try.func49 rfl rfl (by simp) Try.call49 (fun w0 O0 => ?_)
  refine Tr.lenLe (n := 0) rfl (fun len0 => ?_)
  refine Tr.lenLe (n := 1) rfl (fun len1 => ?_)
  refine Tr.seq ?_
  refine Tr.region ?_
  refine TrOps.sem (OpSem.move (.inr rfl) rfl) rfl rfl (by decide) ?_
  refine TrOps.nil ?_
  refine At.seq ?_
  refine Tr.seq ?_
  refine Tr.seq ?_
  refine Tr.region ?_
  refine TrOps.sem (OpSem.move (.inl rfl) rfl) rfl rfl (by decide) ?_
  refine TrOps.sem (OpSem.lenL rfl rfl es22) rfl rfl (by decide) ?_
  refine TrOps.sem (OpSem.move (.inl rfl) rfl) rfl rfl (by decide) ?_
  refine TrOps.sem (OpSem.lenL rfl rfl es22) rfl rfl (by decide) ?_
  refine TrOps.sem (OpSem.bin rfl rfl rfl bneq) rfl rfl (by decide) ?_
  refine TrOps.nil ?_
  refine At.seq ?_
  refine Tr.cond rfl (fun c10 => ?_) (fun c10 => ?_)
  · have hl : s.length ≠ t.length := by simp at c10; omega
    refine Tr.seq ?_
    refine Tr.region ?_
    refine TrOps.sem (OpSem.move (.inr rfl) rfl) rfl rfl (by decide) ?_
    refine TrOps.nil ?_
    refine At.seq ?_
    refine Tr.ret ?_
    refine At.pass_ret ?_
    exact At.ret rfl (.tmp rfl <| .nil) rfl (Le.bo (decide_eq_false (fun e => hl (by rw [e]))).symm)
  · have hl : s.length = t.length := by simp at c10; omega
    refine Tr.skip ?_
    refine At.seq ?_
    refine Tr.seq ?_
    refine Tr.seq ?_
    refine Tr.region ?_
    refine TrOps.sem (OpSem.move (.inl rfl) rfl) rfl rfl (by decide) ?_
    refine TrOps.sem (OpSem.lenL rfl rfl es22) rfl rfl (by decide) ?_
    refine TrOps.sem (OpSem.move (.inl rfl) rfl) rfl rfl (by decide) ?_
    refine TrOps.nil ?_
    refine At.seq ?_
    refine Tr.block ?_
    refine Tr.loop (X := Nat) (fun k => k ≤ s.length ∧ ∀ i : Nat, i < k → nth s i = nth t i) (fun k => [(0, .d (arcsD s)), (1, .d (arcsD t)), (12, I (s.length)), (13, I (k))]) (fun k => []) (fun k => s.length - k) 0 ⟨by omega, by simp⟩ ?_ ?_
    · exact .slot rfl (.refl _) <| .slot rfl (.refl _) <| .slot rfl (.refl _) <| .slot rfl (Le.of_eq (by simp)) <| .nil
    · rintro k ⟨hkl, hinv⟩
      refine Tr.seq ?_
      refine Tr.region ?_
      refine TrOps.sem (OpSem.bin rfl rfl rfl blss) rfl rfl (by decide) ?_
      refine TrOps.nil ?_
      refine At.seq ?_
      refine Tr.seq ?_
      refine Tr.cond rfl (fun c14 => ?_) (fun c14 => ?_)
      · have hk : k < s.length := by simpa using c14
        refine Tr.skip ?_
        refine At.seq ?_
        refine Tr.seq ?_
        refine Tr.block ?_
        refine Tr.seq ?_
        refine Tr.region ?_
        refine TrOps.sem (OpSem.move (.inl rfl) rfl) rfl rfl (by decide) ?_
        refine TrOps.sem (OpSem.move (.inr rfl) rfl) rfl rfl (by decide) ?_
        refine TrOps.nil ?_
        refine At.seq ?_
        refine Tr.seq ?_
        refine PC.start [] ?_
        refine PC.sem (OpSem.move (.inl rfl) rfl) rfl rfl ?_
        refine PC.sem (OpSem.move (.inl rfl) rfl) rfl rfl ?_
        refine PC.sem (OpSem.idxL rfl rfl rfl es22 (by omega) (by omega)) rfl rfl ?_
        refine PC.sem (OpSem.loadN rfl rfl vs57 (by first | decide | simp) rfl) rfl rfl ?_
        refine PC.sem (OpSem.move (.inl rfl) rfl) rfl rfl ?_
        refine PC.sem (OpSem.move (.inl rfl) rfl) rfl rfl ?_
        refine PC.sem (OpSem.idxL rfl rfl rfl es22 (by omega) (by omega)) rfl rfl ?_
        refine PC.sem (OpSem.loadN rfl rfl vs57 (by first | decide | simp) rfl) rfl rfl ?_
        refine PC.done0 mixed (by kernel_rfl) (by kernel_rfl) (by kernel_rfl) (by kernel_rfl) (by kernel_rfl) ?_
        refine TrOps.sem (OpSem.neS3 rfl rfl rfl io57) rfl rfl (by decide) ?_
        refine TrOps.nil ?_
        refine At.seq ?_
        refine Tr.cond rfl (fun c24 => ?_) (fun c24 => ?_)
        · refine Tr.seq ?_
          refine Tr.region ?_
          refine TrOps.sem (OpSem.move (.inr rfl) rfl) rfl rfl (by decide) ?_
          refine TrOps.nil ?_
          refine At.seq ?_
          refine Tr.ret ?_
          refine At.block_ret ?_
          refine At.pass_ret ?_
          refine At.pass_ret ?_
          refine At.block_ret ?_
          refine At.pass_ret ?_
          exact At.ret rfl (.tmp rfl <| .nil) rfl (Le.bo (decide_eq_false (fun e => by subst e; simp at c24)).symm)
        · have hb : nth s k = nth t k := arc_ext (by simp at c24; exact c24.1) (by simp at c24; exact c24.2.1) (by simp at c24; exact c24.2.2)
          refine Tr.skip ?_
          refine At.block_normal ?_
          refine At.seq ?_
          refine Tr.region ?_
          refine TrOps.sem (OpSem.bin rfl rfl rfl (badd (by omega) (by omega))) rfl rfl (by decide) ?_
          refine TrOps.sem (OpSem.move (.inl rfl) rfl) rfl rfl (by decide) ?_
          refine TrOps.nil ?_
          refine At.again (k + 1) ⟨by omega, all_succ hinv hb⟩ ?_ (by omega)
          exact .slot rfl (.refl _) <| .slot rfl (.refl _) <| .slot rfl (.refl _) <| .slot rfl (Le.of_eq (by simp)) <| .nil
      · have hk : k = s.length := by simp at c14; omega
        refine Tr.exit ?_
        refine At.pass_exit ?_
        refine At.pass_exit ?_
        refine At.block_same ?_
        refine At.seq ?_
        refine Tr.seq ?_
        refine Tr.region ?_
        refine TrOps.sem (OpSem.move (.inr rfl) rfl) rfl rfl (by decide) ?_
        refine TrOps.nil ?_
        refine At.seq ?_
        refine Tr.ret ?_
        exact At.ret rfl (.tmp rfl <| .nil) rfl (Le.bo (decide_eq_true (ext_get (by omega) (by subst hk; exact hinv))).symm)

theorem slices_Equal_int_int_does (s t : List Int) : Does Try.prog false 28 [.d (ints s), .d (ints t)] (Bo (decide (s = t))) := by
  refine Does.of_body Try.func28 rfl rfl (by simp) Try.call28 (fun w0 O0 => ?_)
  refine Tr.lenLe (n := 0) rfl (fun len0 => ?_)
  refine Tr.lenLe (n := 1) rfl (fun len1 => ?_)
  refine Tr.seq ?_
  refine Tr.region ?_
  refine TrOps.sem (OpSem.move (.inr rfl) rfl) rfl rfl (by decide) ?_
  refine TrOps.nil ?_
  refine At.seq ?_
  refine Tr.seq ?_
  refine Tr.seq ?_
  refine Tr.region ?_
  refine TrOps.sem (OpSem.move (.inl rfl) rfl) rfl rfl (by decide) ?_
  refine TrOps.sem (OpSem.lenL rfl rfl es23) rfl rfl (by decide) ?_
  refine TrOps.sem (OpSem.move (.inl rfl) rfl) rfl rfl (by decide) ?_
  refine TrOps.sem (OpSem.lenL rfl rfl es23) rfl rfl (by decide) ?_
  refine TrOps.sem (OpSem.bin rfl rfl rfl bneq) rfl rfl (by decide) ?_
  refine TrOps.nil ?_
  refine At.seq ?_
  refine Tr.cond rfl (fun c10 => ?_) (fun c10 => ?_)
  · have hl : s.length ≠ t.length := by simp at c10; omega
    refine Tr.seq ?_
    refine Tr.region ?_
    refine TrOps.sem (OpSem.move (.inr rfl) rfl) rfl rfl (by decide) ?_
    refine TrOps.nil ?_
    refine At.seq ?_
    refine Tr.ret ?_
    refine At.pass_ret ?_
    exact At.ret rfl (.tmp rfl <| .nil) rfl (Le.bo (decide_eq_false (fun e => hl (by rw [e]))).symm)
  · have hl : s.length = t.length := by simp at c10; omega
    refine Tr.skip ?_
    refine At.seq ?_
    refine Tr.seq ?_
    refine Tr.seq ?_
    refine Tr.region ?_
    refine TrOps.sem (OpSem.move (.inl rfl) rfl) rfl rfl (by decide) ?_
    refine TrOps.sem (OpSem.lenL rfl rfl es23) rfl rfl (by decide) ?_
    refine TrOps.sem (OpSem.move (.inl rfl) rfl) rfl rfl (by decide) ?_
    refine TrOps.nil ?_
    refine At.seq ?_
    refine Tr.block ?_
    refine Tr.loop (X := Nat) (fun k => k ≤ s.length ∧ ∀ i : Nat, i < k → nth s i = nth t i) (fun k => [(0, .d (ints s)), (1, .d (ints t)), (12, I (s.length)), (13, I (k))]) (fun k => []) (fun k => s.length - k) 0 ⟨by omega, by simp⟩ ?_ ?_
    · exact .slot rfl (.refl _) <| .slot rfl (.refl _) <| .slot rfl (.refl _) <| .slot rfl (Le.of_eq (by simp)) <| .nil
    · rintro k ⟨hkl, hinv⟩
      refine Tr.seq ?_
      refine Tr.region ?_
      refine TrOps.sem (OpSem.bin rfl rfl rfl blss) rfl rfl (by decide) ?_
      refine TrOps.nil ?_
      refine At.seq ?_
      refine Tr.seq ?_
      refine Tr.cond rfl (fun c14 => ?_) (fun c14 => ?_)
      · have hk : k < s.length := by simpa using c14
        refine Tr.skip ?_
        refine At.seq ?_
        refine Tr.seq ?_
        refine Tr.block ?_
        refine Tr.seq ?_
        refine Tr.region ?_
        refine TrOps.sem (OpSem.move (.inl rfl) rfl) rfl rfl (by decide) ?_
        refine TrOps.sem (OpSem.move (.inr rfl) rfl) rfl rfl (by decide) ?_
        refine TrOps.nil ?_
        refine At.seq ?_
        refine Tr.seq ?_
        refine PC.start [] ?_
        refine PC.sem (OpSem.move (.inl rfl) rfl) rfl rfl ?_
        refine PC.sem (OpSem.move (.inl rfl) rfl) rfl rfl ?_
        refine PC.sem (OpSem.idxL rfl rfl rfl es23 (by omega) (by omega)) rfl rfl ?_
        refine PC.sem (OpSem.load1 rfl rfl vs3 rfl) rfl rfl ?_
        refine PC.sem (OpSem.move (.inl rfl) rfl) rfl rfl ?_
        refine PC.sem (OpSem.move (.inl rfl) rfl) rfl rfl ?_
        refine PC.sem (OpSem.idxL rfl rfl rfl es23 (by omega) (by omega)) rfl rfl ?_
        refine PC.sem (OpSem.load1 rfl rfl vs3 rfl) rfl rfl ?_
        refine PC.done0 mixed (by kernel_rfl) (by kernel_rfl) (by kernel_rfl) (by kernel_rfl) (by kernel_rfl) ?_
        refine TrOps.sem (OpSem.bin rfl rfl rfl bneq) rfl rfl (by decide) ?_
        refine TrOps.nil ?_
        refine At.seq ?_
        refine Tr.cond rfl (fun c24 => ?_) (fun c24 => ?_)
        · refine Tr.seq ?_
          refine Tr.region ?_
          refine TrOps.sem (OpSem.move (.inr rfl) rfl) rfl rfl (by decide) ?_
          refine TrOps.nil ?_
          refine At.seq ?_
          refine Tr.ret ?_
          refine At.block_ret ?_
          refine At.pass_ret ?_
          refine At.pass_ret ?_
          refine At.block_ret ?_
          refine At.pass_ret ?_
          exact At.ret rfl (.tmp rfl <| .nil) rfl (Le.bo (decide_eq_false (fun e => by subst e; simp at c24)).symm)
        · have hb : nth s k = nth t k := by simpa using c24
          refine Tr.skip ?_
          refine At.block_normal ?_
          refine At.seq ?_
          refine Tr.region ?_
          refine TrOps.sem (OpSem.bin rfl rfl rfl (badd (by omega) (by omega))) rfl rfl (by decide) ?_
          refine TrOps.sem (OpSem.move (.inl rfl) rfl) rfl rfl (by decide) ?_
          refine TrOps.nil ?_
          refine At.again (k + 1) ⟨by omega, all_succ hinv hb⟩ ?_ (by omega)
          exact .slot rfl (.refl _) <| .slot rfl (.refl _) <| .slot rfl (.refl _) <| .slot rfl (Le.of_eq (by simp)) <| .nil
      · have hk : k = s.length := by simp at c14; omega
        refine Tr.exit ?_
        refine At.pass_exit ?_
        refine At.pass_exit ?_
        refine At.block_same ?_
        refine At.seq ?_
        refine Tr.seq ?_
        refine Tr.region ?_
        refine TrOps.sem (OpSem.move (.inr rfl) rfl) rfl rfl (by decide) ?_
        refine TrOps.nil ?_
        refine At.seq ?_
        refine Tr.ret ?_
        exact At.ret rfl (.tmp rfl <| .nil) rfl (Le.bo (decide_eq_true (ext_get (by omega) (by subst hk; exact hinv))).symm)

theorem slices_Clone_Arc_Arc_does (l : List Arc) (hl : l.length ≤ 1000000) : DoesO Try.prog 44 [.d (arcsD l)] 3 57 ((l.map arcC)) := by
  refine DoesO.of_body Try.func44 rfl rfl (by simp) Try.call44 (fun w0 O0 => ?_)
  refine Tr.lenLe (n := 0) rfl (fun len0 => ?_)
  refine Tr.seq ?_
  refine Tr.region ?_
  refine TrOps.sem (OpSem.move (.inr rfl) rfl) rfl rfl (by decide) ?_
  refine TrOps.nil ?_
  refine At.seq ?_
  refine Tr.seq ?_
  refine Tr.seq ?_
  refine Tr.region ?_
  refine TrOps.sem (OpSem.move (.inl rfl) rfl) rfl rfl (by decide) ?_
  refine TrOps.eqNil rfl rfl es22 rfl rfl (by decide) (fun b4 hb4 => ?_)
  refine TrOps.nil ?_
  refine At.seq ?_
  refine Tr.cond rfl (fun c4 => ?_) (fun c4 => ?_)
  · refine Tr.seq ?_
    refine Tr.region ?_
    refine TrOps.sem (OpSem.move (.inr rfl) rfl) rfl rfl (by decide) ?_
    refine TrOps.nil ?_
    refine At.seq ?_
    refine Tr.ret ?_
    refine At.pass_ret ?_
    exact At.retONil rfl rfl (hb4 c4)
  · refine Tr.skip ?_
    refine At.seq ?_
    refine Tr.seq ?_
    refine Tr.region ?_
    refine TrOps.semM (OpSem.buildO 5 rfl es22 (by decide)) rfl rfl (by decide) ?_
    refine TrOps.sem (OpSem.move (.inl rfl) rfl) rfl rfl (by decide) ?_
    refine TrOps.append rfl rfl rfl (by decide) rfl rfl rfl es22 el22 zc57 rfl by57 (by intro r hr; obtain ⟨y, _, rfl⟩ := List.mem_map.1 hr; simp [D.one, Value.oneCell']) (by simp [maxLen]; omega) (by simp; omega) ?_
    refine TrOps.sem (OpSem.move (.inr rfl) rfl) rfl rfl (by decide) ?_
    refine TrOps.nil ?_
    refine At.seq ?_
    refine Tr.ret ?_
    exact At.retO2 rfl rfl rfl (by simp) (by simp)

theorem shrink_refine_1_does (s y : List Arc) : Does Try.prog false 48 [.d (arcsD y), .p [arcsD s]] (Bo (decide (s = y))) := by
  refine Does.of_body Try.func48 rfl rfl (by simp) Try.call48 (fun w0 O0 => ?_)
  refine Tr.lenLe (n := 0) rfl (fun len0 => ?_)
  refine Tr.seq ?_
  refine Tr.region ?_
  refine TrOps.sem (OpSem.move (.inr rfl) rfl) rfl rfl (by decide) ?_
  refine TrOps.nil ?_
  refine At.seq ?_
  refine Tr.seq ?_
  refine Tr.region ?_
  refine TrOps.sem (OpSem.load1 rfl rfl vs22 rfl) rfl rfl (by decide) ?_
  refine TrOps.sem (OpSem.move (.inl rfl) rfl) rfl rfl (by decide) ?_
  refine TrOps.sem (OpSem.call0 (slices_Equal_Arc_Arc_does ..) rfl rfl rfl rfl (Les.refl _)) rfl rfl (by decide) ?_
  refine TrOps.sem (OpSem.move (.inr rfl) rfl) rfl rfl (by decide) ?_
  refine TrOps.nil ?_
  refine At.seq ?_
  refine Tr.ret ?_
  exact At.ret rfl (.tmp rfl <| .nil) rfl (.refl _)

theorem slices_IndexFunc_Arc_Arc_does (l : List (List Arc)) (fn : Nat) (cs : List S) (p : List Arc → Bool) (hcs : Caught cs) (hf : ∀ x, x ∈ l → Does Try.prog false fn ([.d (arcsD x)] ++ cs) (Bo (p x))) : Does Try.prog false 47 [.d (arcss l), .f fn [] cs] (I (findI p l)) := by
  refine Does.of_body Try.func47 rfl rfl (by simp) Try.call47 (fun w0 O0 => ?_)
  refine Tr.lenLe (n := 0) rfl (fun len0 => ?_)
  refine Tr.seq ?_
  refine Tr.region ?_
  refine TrOps.sem (OpSem.move (.inr rfl) rfl) rfl rfl (by decide) ?_
  refine TrOps.nil ?_
  refine At.seq ?_
  refine Tr.seq ?_
  refine Tr.seq ?_
  refine Tr.region ?_
  refine TrOps.sem (OpSem.move (.inl rfl) rfl) rfl rfl (by decide) ?_
  refine TrOps.sem (OpSem.lenL rfl rfl es71) rfl rfl (by decide) ?_
  refine TrOps.sem (OpSem.move (.inl rfl) rfl) rfl rfl (by decide) ?_
  refine TrOps.nil ?_
  refine At.seq ?_
  refine Tr.block ?_
  refine Tr.loop (X := Nat) (fun k => k ≤ l.length ∧ ∀ j : Nat, j < k → p (nth l j) = false) (fun k => [(0, .d (arcss l)), (1, .f fn [] cs), (7, I (l.length)), (8, I (k))]) (fun k => []) (fun k => l.length - k) 0 ⟨by omega, by simp⟩ ?_ ?_
  · exact .slot rfl (.refl _) <| .slot rfl (.refl _) <| .slot rfl (.refl _) <| .slot rfl (Le.of_eq (by simp)) <| .nil
  · rintro k ⟨hkl, hinv⟩
    refine Tr.seq ?_
    refine Tr.region ?_
    refine TrOps.sem (OpSem.bin rfl rfl rfl blss) rfl rfl (by decide) ?_
    refine TrOps.nil ?_
    refine At.seq ?_
    refine Tr.seq ?_
    refine Tr.cond rfl (fun c9 => ?_) (fun c9 => ?_)
    · have hk : k < l.length := by simpa using c9
      refine Tr.skip ?_
      refine At.seq ?_
      refine Tr.seq ?_
      refine Tr.block ?_
      refine Tr.seq ?_
      refine Tr.region ?_
      refine TrOps.sem (OpSem.move (.inl rfl) rfl) rfl rfl (by decide) ?_
      refine TrOps.sem (OpSem.move (.inr rfl) rfl) rfl rfl (by decide) ?_
      refine TrOps.nil ?_
      refine At.seq ?_
      refine Tr.seq ?_
      refine Tr.region ?_
      refine TrOps.sem (OpSem.move (.inl rfl) rfl) rfl rfl (by decide) ?_
      refine TrOps.sem (OpSem.move (.inl rfl) rfl) rfl rfl (by decide) ?_
      refine TrOps.sem (OpSem.move (.inl rfl) rfl) rfl rfl (by decide) ?_
      refine TrOps.sem (OpSem.idxL rfl rfl rfl es71 (by omega) (by omega)) rfl rfl (by decide) ?_
      refine TrOps.sem (OpSem.load1 rfl rfl vs22 rfl) rfl rfl (by decide) ?_
      refine TrOps.sem (OpSem.call0 (hf _ (nth_mem (by omega) (by omega))) rfl rfl rfl (hcs.app rfl) (Les.refl _)) rfl rfl (by decide) ?_
      refine TrOps.nil ?_
      refine At.seq ?_
      refine Tr.cond rfl (fun c16 => ?_) (fun c16 => ?_)
      · refine Tr.seq ?_
        refine Tr.region ?_
        refine TrOps.sem (OpSem.move (.inl rfl) rfl) rfl rfl (by decide) ?_
        refine TrOps.sem (OpSem.move (.inr rfl) rfl) rfl rfl (by decide) ?_
        refine TrOps.nil ?_
        refine At.seq ?_
        refine Tr.ret ?_
        refine At.block_ret ?_
        refine At.pass_ret ?_
        refine At.pass_ret ?_
        refine At.block_ret ?_
        refine At.pass_ret ?_
        exact At.ret rfl (.tmp rfl <| .nil) rfl (Le.i (findI_some hk hinv c16).symm)
      · refine Tr.skip ?_
        refine At.block_normal ?_
        refine At.seq ?_
        refine Tr.region ?_
        refine TrOps.sem (OpSem.bin rfl rfl rfl (badd (by omega) (by omega))) rfl rfl (by decide) ?_
        refine TrOps.sem (OpSem.move (.inl rfl) rfl) rfl rfl (by decide) ?_
        refine TrOps.nil ?_
        refine At.again (k + 1) ⟨by omega, all_succ hinv c16⟩ ?_ (by omega)
        exact .slot rfl (.refl _) <| .slot rfl (.refl _) <| .slot rfl (.refl _) <| .slot rfl (Le.of_eq (by simp)) <| .nil
    · have hk : k = l.length := by simp at c9; omega
      refine Tr.exit ?_
      refine At.pass_exit ?_
      refine At.pass_exit ?_
      refine At.block_same ?_
      refine At.seq ?_
      refine Tr.seq ?_
      refine Tr.region ?_
      refine TrOps.sem (OpSem.move (.inr rfl) rfl) rfl rfl (by decide) ?_
      refine TrOps.nil ?_
      refine At.seq ?_
      refine Tr.ret ?_
      exact At.ret rfl (.tmp rfl <| .nil) rfl (Le.i (by subst hk; exact (findI_none hinv).symm))


theorem compact_all (l : List Arc) (hml : (l.length : Int) ≤ 9223372036854775807) : DoesW Try.prog 46 (fun v => [v]) (fun v => v) 3 57 (l.map arcC) ((dd l).map arcC) := by
  by_cases hne : l = []
  · subst hne
    refine ⟨Try.call46, fun w v hv => ?_⟩
    have he : ∃ p cap, v = .slice p 0 cap := by
      rcases hv with ⟨rfl, _⟩ | ⟨b, cap, xs, rfl, _⟩
      · exact ⟨_, _, rfl⟩
      · exact ⟨_, _, rfl⟩
    obtain ⟨p, cap, rfl⟩ := he
    refine (compact_nil p cap w).mono ?_
    rintro e w' ⟨rfl, rfl⟩
    refine ⟨_, rfl, ⟨rfl, rfl, rfl, Nat.le_refl _, fun b hb _ => rfl⟩, ?_, .inr (.inl rfl)⟩
    have e0 : dd ([] : List Arc) = [] := by simp [dd, ddTo]
    rw [e0]
    rcases hv with h | ⟨b, cap', xs, h1, h2, h3, h4⟩
    · exact .inl h
    · exact .inr ⟨b, cap', xs, h1, h2, h3, h4⟩
  · exact slices_Compact_Arc_Arc_W l hne hml


theorem shrink_refine_does (a : Abs) (part : List Int) (hA : AbsOk a) (hp : part.length = nS a) : DoesO Try.prog 27 [absS a, .d (ints part)] 1 3 (((refL a part).map fun n => [D.v (.int .i64 n)])) := by
  have hal := hA.len
  have hst := hA.head.1
  have hns := nS_eq hA
  refine DoesO.of_body Try.func27 rfl rfl (by simp) Try.call27 (fun w0 O0 => ?_)
  refine Tr.lenG (n := 0) (i := 2) rfl rfl (fun len0_2 => ?_)
  refine Tr.lenG (n := 0) (i := 4) rfl rfl (fun len0_4 => ?_)
  refine Tr.lenLe (n := 1) rfl (fun len1 => ?_)
  refine Tr.seq ?_
  refine Tr.region ?_
  refine TrOps.semM (OpSem.box 2 rfl rfl rfl rfl) rfl rfl (by decide) ?_
  refine TrOps.sem (OpSem.move (.inr rfl) rfl) rfl rfl (by decide) ?_
  refine TrOps.nil ?_
  refine At.seq ?_
  refine Tr.seq ?_
  refine Tr.region ?_
  refine TrOps.sem (OpSem.fieldr rfl rfl fo25_0) rfl rfl (by decide) ?_
  refine TrOps.sem (OpSem.loadb1 rfl rfl rfl vs3 rfl) rfl rfl (by decide) ?_
  refine TrOps.semM (OpSem.makeSlice 15 rfl rfl rfl es71 ze71 rfl rfl (by decide) bye71 (by omega) (by omega) (by omega)) rfl rfl (by decide) ?_
  refine TrOps.sem (OpSem.move (.inr rfl) rfl) rfl rfl (by decide) ?_
  refine TrOps.nil ?_
  refine At.seq ?_
  refine Tr.seq ?_
  refine Tr.seq ?_
  refine Tr.own2 15 3 57 rfl (by omega) ?_
  refine Tr.region ?_
  refine TrOps.sem (OpSem.fieldr rfl rfl fo25_2) rfl rfl (by decide) ?_
  refine TrOps.sem (OpSem.loadb1 rfl rfl rfl vs22 rfl) rfl rfl (by decide) ?_
  refine TrOps.sem (OpSem.lenL rfl rfl es22) rfl rfl (by decide) ?_
  refine TrOps.sem (OpSem.move (.inl rfl) rfl) rfl rfl (by decide) ?_
  refine TrOps.nil ?_
  refine At.seq ?_
  refine Tr.block ?_
  refine Tr.loop (X := Nat) (fun k => k ≤ a.arcs.length) (fun k => [(1, .d (ints part)), (2, .r 2 0), (5, .o 15), (17, .d (arcsD a.arcs)), (18, I (a.arcs.length)), (19, I (k))]) (fun k => [(15, .any (own2K 22 3 57 ((bkTo a part k).map fun l => l.map arcC) none none)), (2, .box [I (a.states), I (a.labels), .d (arcsD a.arcs), I (a.init), .d (ints a.goals)])]) (fun k => a.arcs.length - k) 0 (by omega) ?_ ?_
  · exact .slot rfl (.refl _) <| .slot rfl (.refl _) <| .slot rfl (.refl _) <| .slot rfl (.refl _) <| .slot rfl (.refl _) <| .slot rfl (Le.of_eq (by simp)) <| .memEq rfl (by rw [bk_0, el71]; rfl) <| .mem rfl <| .nil
  · rintro k hkl
    refine Tr.seq ?_
    refine Tr.region ?_
    refine TrOps.sem (OpSem.bin rfl rfl rfl blss) rfl rfl (by decide) ?_
    refine TrOps.nil ?_
    refine At.seq ?_
    refine Tr.seq ?_
    refine Tr.cond rfl (fun c20 => ?_) (fun c20 => ?_)
    · have hk : k < a.arcs.length := by simpa using c20
      have harc := hA.arc k hk
      have hsl := sgTo_len (a := a) (part := part) (x := (nth a.arcs k).fr.toNat) (k := k)
      refine Tr.skip ?_
      refine At.seq ?_
      refine Tr.cut [(1, .d (ints part)), (2, .r 2 0), (5, .o 15), (17, .d (arcsD a.arcs)), (18, I (a.arcs.length)), (19, I (k))] [(2, .box [I (a.states), I (a.labels), .d (arcsD a.arcs), I (a.init), .d (ints a.goals)]), (15, .any (own2K 22 3 57 ((bkTo a part (k + 1)).map fun l => l.map arcC) none none))] ?_ ?_
      · refine Tr.block ?_
        refine Tr.seq ?_
        refine Tr.region ?_
        refine TrOps.sem (OpSem.idxL rfl rfl rfl es22 (by omega) (by omega)) rfl rfl (by decide) ?_
        refine TrOps.sem (OpSem.loadN rfl rfl vs57 (by first | decide | simp) rfl) rfl rfl (by decide) ?_
        refine TrOps.semM (OpSem.alloc 7 rfl zc57 rfl) rfl rfl (by decide) ?_
        refine TrOps.storeb rfl rfl rfl rfl rfl rfl rfl vs57 (by first | decide | simp) ?_
        refine TrOps.nil ?_
        refine At.seq ?_
        refine Tr.open2 15 rfl (fun b5 xs5 hxs => ?_)
        obtain ⟨x5, hx5⟩ := hxs (nth a.arcs k).fr.toNat (by simp [bkTo]; omega)
        refine PC.start [] ?_
        refine PC.sem (OpSem.move (.inl rfl) rfl) rfl rfl ?_
        refine PC.sem (OpSem.fieldr rfl rfl fo57_0) rfl rfl ?_
        refine PC.sem (OpSem.loadb1 rfl rfl rfl vs3 rfl) rfl rfl ?_
        refine PC.sem (OpSem.move (.inl rfl) rfl) rfl rfl ?_
        refine PC.sem (OpSem.fieldr rfl rfl fo57_0) rfl rfl ?_
        refine PC.sem (OpSem.loadb1 rfl rfl rfl vs3 rfl) rfl rfl ?_
        refine PC.sem (OpSem.idx2 rfl rfl rfl rfl es71 (by omega) (by simp [bkTo]; omega)) rfl rfl ?_
        refine PC.sem (OpSem.load2 rfl rfl rfl vs22 hx5) rfl rfl ?_
        refine PC.sem (OpSem.fieldr rfl rfl fo57_1) rfl rfl ?_
        refine PC.sem (OpSem.loadb1 rfl rfl rfl vs3 rfl) rfl rfl ?_
        refine PC.sem (OpSem.move (.inl rfl) rfl) rfl rfl ?_
        refine PC.sem (OpSem.fieldr rfl rfl fo57_2) rfl rfl ?_
        refine PC.sem (OpSem.loadb1 rfl rfl rfl vs3 rfl) rfl rfl ?_
        refine PC.sem (OpSem.idxL rfl rfl rfl es23 (by omega) (by omega)) rfl rfl ?_
        refine PC.sem (OpSem.load1 rfl rfl vs3 rfl) rfl rfl ?_
        refine PC.sem (OpSem.build rfl rfl pl57 zc57 rfl rfl) rfl rfl ?_
        refine PC.sem (OpSem.buildSlice rfl rfl es22 ze22 rfl rfl (by decide) (by decide) rfl rfl) rfl rfl ?_
        refine PC.doneS [0, 1, 2] [[], [2], [1], [1, 2], [0], [0, 2], [0, 1], [0, 1, 2]] mixed (by kernel_rfl) (by kernel_rfl) (by kernel_rfl) (by kernel_rfl) (by kernel_rfl) (by decide) rfl (by kernel_rfl) ⟨?_, ?_, ?_, ?_, ?_, ?_, ?_, ?_, trivial⟩
        · refine ⟨[], _, by kernel_rfl, by repeat' (first | exact .nil | (apply DropRs.hit; rfl) | (apply DropRs.miss; rfl)), ?_⟩
          refine TrOps.take2 30 93 (h := 15) rfl rfl hx5 (bk_get (a := a) (part := part) (k := k) (x := (nth a.arcs k).fr.toNat) (by omega)) (by decide) ?_
          refine TrOps.append rfl rfl rfl (by decide) rfl rfl rfl es22 el22 zc57 rfl by57 (by simp [D.one, Value.oneCell']) (by simp [maxLen]; omega) (by simp; omega) ?_
          refine TrSet.start ?_
          refine TrSet.zero ?_
          refine TrOps.sem (OpSem.idx2 rfl rfl rfl rfl es71 (by omega) (by simp [bkTo]; omega)) rfl rfl (by decide) ?_
          refine TrOps.put2 rfl rfl rfl rfl rfl rfl rfl vs22 (by simp [bkTo]; omega) (by decide) ?_
          refine TrOps.nil ?_
          refine At.block_normal ?_
          refine At.meet ?_
          exact .slot rfl (.refl _) <| .slot rfl (.refl _) <| .slot rfl (.refl _) <| .slot rfl (.refl _) <| .slot rfl (.refl _) <| .slot rfl (.refl _) <| .mem rfl <| .memEq rfl (by rw [← bk_set hk harc.1.1]; rfl) <| .nil
        · refine ⟨[25], _, by kernel_rfl, by repeat' (first | exact .nil | (apply DropRs.hit; rfl) | (apply DropRs.miss; rfl)), ?_⟩
          refine TrOps.take2 30 93 (h := 15) rfl rfl hx5 (bk_get (a := a) (part := part) (k := k) (x := (nth a.arcs k).fr.toNat) (by omega)) (by decide) ?_
          refine TrOps.append rfl rfl rfl (by decide) rfl rfl rfl es22 el22 zc57 rfl by57 (by simp [D.one, Value.oneCell']) (by simp [maxLen]; omega) (by simp; omega) ?_
          refine TrSet.start ?_
          refine TrSet.succ ⟨?_, trivial⟩
          · refine .inr (TrI.sem rfl (OpSem.loadb1 rfl rfl rfl vs3 rfl) rfl rfl (by decide) rfl ?_)
            refine TrSet.zero ?_
            refine TrOps.sem (OpSem.idx2 rfl rfl rfl rfl es71 (by omega) (by simp [bkTo]; omega)) rfl rfl (by decide) ?_
            refine TrOps.put2 rfl rfl rfl rfl rfl rfl rfl vs22 (by simp [bkTo]; omega) (by decide) ?_
            refine TrOps.nil ?_
            refine At.block_normal ?_
            refine At.meet ?_
            exact .slot rfl (.refl _) <| .slot rfl (.refl _) <| .slot rfl (.refl _) <| .slot rfl (.refl _) <| .slot rfl (.refl _) <| .slot rfl (.refl _) <| .mem rfl <| .memEq rfl (by rw [← bk_set hk harc.1.1]; rfl) <| .nil
        · refine ⟨[24], _, by kernel_rfl, by repeat' (first | exact .nil | (apply DropRs.hit; rfl) | (apply DropRs.miss; rfl)), ?_⟩
          refine TrOps.take2 30 93 (h := 15) rfl rfl hx5 (bk_get (a := a) (part := part) (k := k) (x := (nth a.arcs k).fr.toNat) (by omega)) (by decide) ?_
          refine TrOps.append rfl rfl rfl (by decide) rfl rfl rfl es22 el22 zc57 rfl by57 (by simp [D.one, Value.oneCell']) (by simp [maxLen]; omega) (by simp; omega) ?_
          refine TrSet.start ?_
          refine TrSet.succ ⟨?_, trivial⟩
          · refine .inr (TrI.sem rfl (OpSem.fieldr rfl rfl fo57_0) rfl rfl (by decide) rfl ?_)
            refine TrSet.zero ?_
            refine TrOps.sem (OpSem.idx2 rfl rfl rfl rfl es71 (by omega) (by simp [bkTo]; omega)) rfl rfl (by decide) ?_
            refine TrOps.put2 rfl rfl rfl rfl rfl rfl rfl vs22 (by simp [bkTo]; omega) (by decide) ?_
            refine TrOps.nil ?_
            refine At.block_normal ?_
            refine At.meet ?_
            exact .slot rfl (.refl _) <| .slot rfl (.refl _) <| .slot rfl (.refl _) <| .slot rfl (.refl _) <| .slot rfl (.refl _) <| .slot rfl (.refl _) <| .mem rfl <| .memEq rfl (by rw [← bk_set hk harc.1.1]; rfl) <| .nil
        · refine ⟨[24, 25], _, by kernel_rfl, by repeat' (first | exact .nil | (apply DropRs.hit; rfl) | (apply DropRs.miss; rfl)), ?_⟩
          refine TrOps.take2 30 93 (h := 15) rfl rfl hx5 (bk_get (a := a) (part := part) (k := k) (x := (nth a.arcs k).fr.toNat) (by omega)) (by decide) ?_
          refine TrOps.append rfl rfl rfl (by decide) rfl rfl rfl es22 el22 zc57 rfl by57 (by simp [D.one, Value.oneCell']) (by simp [maxLen]; omega) (by simp; omega) ?_
          refine TrSet.start ?_
          refine TrSet.succ ⟨?_, ?_, trivial⟩
          · refine .inr (TrI.sem rfl (OpSem.fieldr rfl rfl fo57_0) rfl rfl (by decide) rfl ?_)
            refine TrSet.succ ⟨?_, trivial⟩
            · refine .inr (TrI.sem rfl (OpSem.loadb1 rfl rfl rfl vs3 rfl) rfl rfl (by decide) rfl ?_)
              refine TrSet.zero ?_
              refine TrOps.sem (OpSem.idx2 rfl rfl rfl rfl es71 (by omega) (by simp [bkTo]; omega)) rfl rfl (by decide) ?_
              refine TrOps.put2 rfl rfl rfl rfl rfl rfl rfl vs22 (by simp [bkTo]; omega) (by decide) ?_
              refine TrOps.nil ?_
              refine At.block_normal ?_
              refine At.meet ?_
              exact .slot rfl (.refl _) <| .slot rfl (.refl _) <| .slot rfl (.refl _) <| .slot rfl (.refl _) <| .slot rfl (.refl _) <| .slot rfl (.refl _) <| .mem rfl <| .memEq rfl (by rw [← bk_set hk harc.1.1]; rfl) <| .nil
          · exact .inl (by kernel_rfl)
        · refine ⟨[23], _, by kernel_rfl, by repeat' (first | exact .nil | (apply DropRs.hit; rfl) | (apply DropRs.miss; rfl)), ?_⟩
          refine TrOps.take2 30 93 (h := 15) rfl rfl hx5 (bk_get (a := a) (part := part) (k := k) (x := (nth a.arcs k).fr.toNat) (by omega)) (by decide) ?_
          refine TrOps.append rfl rfl rfl (by decide) rfl rfl rfl es22 el22 zc57 rfl by57 (by simp [D.one, Value.oneCell']) (by simp [maxLen]; omega) (by simp; omega) ?_
          refine TrSet.start ?_
          refine TrSet.succ ⟨?_, trivial⟩
          · refine .inr (TrI.sem rfl (OpSem.move (.inl rfl) rfl) rfl rfl (by decide) rfl ?_)
            refine TrSet.zero ?_
            refine TrOps.sem (OpSem.idx2 rfl rfl rfl rfl es71 (by omega) (by simp [bkTo]; omega)) rfl rfl (by decide) ?_
            refine TrOps.put2 rfl rfl rfl rfl rfl rfl rfl vs22 (by simp [bkTo]; omega) (by decide) ?_
            refine TrOps.nil ?_
            refine At.block_normal ?_
            refine At.meet ?_
            exact .slot rfl (.refl _) <| .slot rfl (.refl _) <| .slot rfl (.refl _) <| .slot rfl (.refl _) <| .slot rfl (.refl _) <| .slot rfl (.refl _) <| .mem rfl <| .memEq rfl (by rw [← bk_set hk harc.1.1]; rfl) <| .nil
        · refine ⟨[23, 25], _, by kernel_rfl, by repeat' (first | exact .nil | (apply DropRs.hit; rfl) | (apply DropRs.miss; rfl)), ?_⟩
          refine TrOps.take2 30 93 (h := 15) rfl rfl hx5 (bk_get (a := a) (part := part) (k := k) (x := (nth a.arcs k).fr.toNat) (by omega)) (by decide) ?_
          refine TrOps.append rfl rfl rfl (by decide) rfl rfl rfl es22 el22 zc57 rfl by57 (by simp [D.one, Value.oneCell']) (by simp [maxLen]; omega) (by simp; omega) ?_
          refine TrSet.start ?_
          refine TrSet.succ ⟨?_, ?_, trivial⟩
          · refine .inr (TrI.sem rfl (OpSem.move (.inl rfl) rfl) rfl rfl (by decide) rfl ?_)
            refine TrSet.succ ⟨?_, trivial⟩
            · refine .inr (TrI.sem rfl (OpSem.loadb1 rfl rfl rfl vs3 rfl) rfl rfl (by decide) rfl ?_)
              refine TrSet.zero ?_
              refine TrOps.sem (OpSem.idx2 rfl rfl rfl rfl es71 (by omega) (by simp [bkTo]; omega)) rfl rfl (by decide) ?_
              refine TrOps.put2 rfl rfl rfl rfl rfl rfl rfl vs22 (by simp [bkTo]; omega) (by decide) ?_
              refine TrOps.nil ?_
              refine At.block_normal ?_
              refine At.meet ?_
              exact .slot rfl (.refl _) <| .slot rfl (.refl _) <| .slot rfl (.refl _) <| .slot rfl (.refl _) <| .slot rfl (.refl _) <| .slot rfl (.refl _) <| .mem rfl <| .memEq rfl (by rw [← bk_set hk harc.1.1]; rfl) <| .nil
          · refine .inr (TrI.sem rfl (OpSem.loadb1 rfl rfl rfl vs3 rfl) rfl rfl (by decide) rfl ?_)
            refine TrSet.succ ⟨?_, trivial⟩
            · refine .inr (TrI.sem rfl (OpSem.move (.inl rfl) rfl) rfl rfl (by decide) rfl ?_)
              refine TrSet.zero ?_
              refine TrOps.sem (OpSem.idx2 rfl rfl rfl rfl es71 (by omega) (by simp [bkTo]; omega)) rfl rfl (by decide) ?_
              refine TrOps.put2 rfl rfl rfl rfl rfl rfl rfl vs22 (by simp [bkTo]; omega) (by decide) ?_
              refine TrOps.nil ?_
              refine At.block_normal ?_
              refine At.meet ?_
              exact .slot rfl (.refl _) <| .slot rfl (.refl _) <| .slot rfl (.refl _) <| .slot rfl (.refl _) <| .slot rfl (.refl _) <| .slot rfl (.refl _) <| .mem rfl <| .memEq rfl (by rw [← bk_set hk harc.1.1]; rfl) <| .nil
        · refine ⟨[23, 24], _, by kernel_rfl, by repeat' (first | exact .nil | (apply DropRs.hit; rfl) | (apply DropRs.miss; rfl)), ?_⟩
          refine TrOps.take2 30 93 (h := 15) rfl rfl hx5 (bk_get (a := a) (part := part) (k := k) (x := (nth a.arcs k).fr.toNat) (by omega)) (by decide) ?_
          refine TrOps.append rfl rfl rfl (by decide) rfl rfl rfl es22 el22 zc57 rfl by57 (by simp [D.one, Value.oneCell']) (by simp [maxLen]; omega) (by simp; omega) ?_
          refine TrSet.start ?_
          refine TrSet.succ ⟨?_, ?_, trivial⟩
          · refine .inr (TrI.sem rfl (OpSem.move (.inl rfl) rfl) rfl rfl (by decide) rfl ?_)
            refine TrSet.succ ⟨?_, trivial⟩
            · refine .inr (TrI.sem rfl (OpSem.fieldr rfl rfl fo57_0) rfl rfl (by decide) rfl ?_)
              refine TrSet.zero ?_
              refine TrOps.sem (OpSem.idx2 rfl rfl rfl rfl es71 (by omega) (by simp [bkTo]; omega)) rfl rfl (by decide) ?_
              refine TrOps.put2 rfl rfl rfl rfl rfl rfl rfl vs22 (by simp [bkTo]; omega) (by decide) ?_
              refine TrOps.nil ?_
              refine At.block_normal ?_
              refine At.meet ?_
              exact .slot rfl (.refl _) <| .slot rfl (.refl _) <| .slot rfl (.refl _) <| .slot rfl (.refl _) <| .slot rfl (.refl _) <| .slot rfl (.refl _) <| .mem rfl <| .memEq rfl (by rw [← bk_set hk harc.1.1]; rfl) <| .nil
          · refine .inr (TrI.sem rfl (OpSem.fieldr rfl rfl fo57_0) rfl rfl (by decide) rfl ?_)
            refine TrSet.succ ⟨?_, trivial⟩
            · refine .inr (TrI.sem rfl (OpSem.move (.inl rfl) rfl) rfl rfl (by decide) rfl ?_)
              refine TrSet.zero ?_
              refine TrOps.sem (OpSem.idx2 rfl rfl rfl rfl es71 (by omega) (by simp [bkTo]; omega)) rfl rfl (by decide) ?_
              refine TrOps.put2 rfl rfl rfl rfl rfl rfl rfl vs22 (by simp [bkTo]; omega) (by decide) ?_
              refine TrOps.nil ?_
              refine At.block_normal ?_
              refine At.meet ?_
              exact .slot rfl (.refl _) <| .slot rfl (.refl _) <| .slot rfl (.refl _) <| .slot rfl (.refl _) <| .slot rfl (.refl _) <| .slot rfl (.refl _) <| .mem rfl <| .memEq rfl (by rw [← bk_set hk harc.1.1]; rfl) <| .nil
        · refine ⟨[23, 24, 25], _, by kernel_rfl, by repeat' (first | exact .nil | (apply DropRs.hit; rfl) | (apply DropRs.miss; rfl)), ?_⟩
          refine TrOps.take2 30 93 (h := 15) rfl rfl hx5 (bk_get (a := a) (part := part) (k := k) (x := (nth a.arcs k).fr.toNat) (by omega)) (by decide) ?_
          refine TrOps.append rfl rfl rfl (by decide) rfl rfl rfl es22 el22 zc57 rfl by57 (by simp [D.one, Value.oneCell']) (by simp [maxLen]; omega) (by simp; omega) ?_
          refine TrSet.start ?_
          refine TrSet.succ ⟨?_, ?_, ?_, trivial⟩
          · refine .inr (TrI.sem rfl (OpSem.move (.inl rfl) rfl) rfl rfl (by decide) rfl ?_)
            refine TrSet.succ ⟨?_, ?_, trivial⟩
            · refine .inr (TrI.sem rfl (OpSem.fieldr rfl rfl fo57_0) rfl rfl (by decide) rfl ?_)
              refine TrSet.succ ⟨?_, trivial⟩
              · refine .inr (TrI.sem rfl (OpSem.loadb1 rfl rfl rfl vs3 rfl) rfl rfl (by decide) rfl ?_)
                refine TrSet.zero ?_
                refine TrOps.sem (OpSem.idx2 rfl rfl rfl rfl es71 (by omega) (by simp [bkTo]; omega)) rfl rfl (by decide) ?_
                refine TrOps.put2 rfl rfl rfl rfl rfl rfl rfl vs22 (by simp [bkTo]; omega) (by decide) ?_
                refine TrOps.nil ?_
                refine At.block_normal ?_
                refine At.meet ?_
                exact .slot rfl (.refl _) <| .slot rfl (.refl _) <| .slot rfl (.refl _) <| .slot rfl (.refl _) <| .slot rfl (.refl _) <| .slot rfl (.refl _) <| .mem rfl <| .memEq rfl (by rw [← bk_set hk harc.1.1]; rfl) <| .nil
            · exact .inl (by kernel_rfl)
          · refine .inr (TrI.sem rfl (OpSem.fieldr rfl rfl fo57_0) rfl rfl (by decide) rfl ?_)
            refine TrSet.succ ⟨?_, ?_, trivial⟩
            · refine .inr (TrI.sem rfl (OpSem.move (.inl rfl) rfl) rfl rfl (by decide) rfl ?_)
              refine TrSet.succ ⟨?_, trivial⟩
              · refine .inr (TrI.sem rfl (OpSem.loadb1 rfl rfl rfl vs3 rfl) rfl rfl (by decide) rfl ?_)
                refine TrSet.zero ?_
                refine TrOps.sem (OpSem.idx2 rfl rfl rfl rfl es71 (by omega) (by simp [bkTo]; omega)) rfl rfl (by decide) ?_
                refine TrOps.put2 rfl rfl rfl rfl rfl rfl rfl vs22 (by simp [bkTo]; omega) (by decide) ?_
                refine TrOps.nil ?_
                refine At.block_normal ?_
                refine At.meet ?_
                exact .slot rfl (.refl _) <| .slot rfl (.refl _) <| .slot rfl (.refl _) <| .slot rfl (.refl _) <| .slot rfl (.refl _) <| .slot rfl (.refl _) <| .mem rfl <| .memEq rfl (by rw [← bk_set hk harc.1.1]; rfl) <| .nil
            · refine .inr (TrI.sem rfl (OpSem.loadb1 rfl rfl rfl vs3 rfl) rfl rfl (by decide) rfl ?_)
              refine TrSet.succ ⟨?_, trivial⟩
              · refine .inr (TrI.sem rfl (OpSem.move (.inl rfl) rfl) rfl rfl (by decide) rfl ?_)
                refine TrSet.zero ?_
                refine TrOps.sem (OpSem.idx2 rfl rfl rfl rfl es71 (by omega) (by simp [bkTo]; omega)) rfl rfl (by decide) ?_
                refine TrOps.put2 rfl rfl rfl rfl rfl rfl rfl vs22 (by simp [bkTo]; omega) (by decide) ?_
                refine TrOps.nil ?_
                refine At.block_normal ?_
                refine At.meet ?_
                exact .slot rfl (.refl _) <| .slot rfl (.refl _) <| .slot rfl (.refl _) <| .slot rfl (.refl _) <| .slot rfl (.refl _) <| .slot rfl (.refl _) <| .mem rfl <| .memEq rfl (by rw [← bk_set hk harc.1.1]; rfl) <| .nil
          · exact .inl (by kernel_rfl)
      · refine Tr.region ?_
        refine TrOps.sem (OpSem.bin rfl rfl rfl (badd (by omega) (by omega))) rfl rfl (by decide) ?_
        refine TrOps.sem (OpSem.move (.inl rfl) rfl) rfl rfl (by decide) ?_
        refine TrOps.nil ?_
        refine At.again (k + 1) (by omega) ?_ (by omega)
        exact .slot rfl (.refl _) <| .slot rfl (.refl _) <| .slot rfl (.refl _) <| .slot rfl (.refl _) <| .slot rfl (.refl _) <| .slot rfl (Le.of_eq (by simp)) <| .mem rfl <| .mem rfl <| .nil
    · have hk : k = a.arcs.length := by simp at c20; omega
      subst hk
      refine Tr.exit ?_
      refine At.pass_exit ?_
      refine At.pass_exit ?_
      refine At.block_same ?_
      refine At.seq ?_
      refine Tr.seq ?_
      refine Tr.freeze2 15 rfl ?_
      refine Tr.weak (s' := .d (arcss (bkTo a part a.arcs.length))) 5 rfl (Le.of_eq (by simp [Function.comp_def]; rfl)) ?_
      refine Tr.region ?_
      refine TrOps.sem (OpSem.move (.inr rfl) rfl) rfl rfl (by decide) ?_
      refine TrOps.nil ?_
      refine At.seq ?_
      refine Tr.seq ?_
      refine Tr.ownNil (n := 8) 8 1 22 rfl ?_
      refine Tr.region ?_
      refine TrOps.sem (OpSem.fieldr rfl rfl fo25_0) rfl rfl (by decide) ?_
      refine TrOps.sem (OpSem.loadb1 rfl rfl rfl vs3 rfl) rfl rfl (by decide) ?_
      refine TrOps.semM (OpSem.makeSlice 45 rfl rfl rfl es49 ze49 rfl rfl (by decide) bye49 (by omega) (by omega) (by omega)) rfl rfl (by decide) ?_
      refine TrOps.sem (OpSem.move (.inr rfl) rfl) rfl rfl (by decide) ?_
      refine TrOps.nil ?_
      refine At.seq ?_
      refine Tr.seq ?_
      refine Tr.seq ?_
      refine Tr.region ?_
      refine TrOps.sem (OpSem.move (.inl rfl) rfl) rfl rfl (by decide) ?_
      refine TrOps.sem (OpSem.leno rfl rfl rfl es49) rfl rfl (by decide) ?_
      refine TrOps.sem (OpSem.move (.inl rfl) rfl) rfl rfl (by decide) ?_
      refine TrOps.nil ?_
      refine At.seq ?_
      refine Tr.block ?_
      refine Tr.loop (X := Nat) (fun x => x ≤ nS a) (fun x => [(1, .d (ints part)), (5, .d (arcss (bkTo a part a.arcs.length))), (8, .o 8), (9, .o 45), (47, I (nS a)), (48, I (x))]) (fun x => [(8, .own 1 22 ((dsTo (sigL a part) x).map fun l => [arcsD l])), (45, .own 2 51 ((kyTo a part x).map asg))]) (fun x => nS a - x) 0 (by omega) ?_ ?_
      · exact .slot rfl (.refl _) <| .slot rfl (.refl _) <| .slot rfl (.refl _) <| .slot rfl (.refl _) <| .slot rfl (Le.i (by simp; omega)) <| .slot rfl (Le.of_eq (by simp)) <| .memEq rfl (by simp [dsTo]; try rfl) <| .memEq rfl (by rw [kyTo_0, el49]; simp [nS]) <| .nil
      · rintro x hxl
        refine Tr.seq ?_
        refine Tr.region ?_
        refine TrOps.sem (OpSem.bin rfl rfl rfl blss) rfl rfl (by decide) ?_
        refine TrOps.nil ?_
        refine At.seq ?_
        refine Tr.seq ?_
        refine Tr.cond rfl (fun c49 => ?_) (fun c49 => ?_)
        · have hx : x < nS a := by simp at c49; omega
          have hsl := sgTo_len (a := a) (part := part) (x := x) (k := a.arcs.length)
          have hdl := dsTo_len (l := sigL a part) (k := x)
          have hbx : nth (bkTo a part a.arcs.length) x = (sgTo a part x a.arcs.length) := bk_at hx
          have hsx := sigL_at (a := a) (part := part) hx
          refine Tr.skip ?_
          refine At.seq ?_
          refine Tr.seq ?_
          refine Tr.block ?_
          refine Tr.seq ?_
          refine Tr.region ?_
          refine TrOps.sem (OpSem.move (.inl rfl) rfl) rfl rfl (by decide) ?_
          refine TrOps.sem (OpSem.move (.inr rfl) rfl) rfl rfl (by decide) ?_
          refine TrOps.nil ?_
          refine At.seq ?_
          refine Tr.seq ?_
          refine Tr.region ?_
          refine TrOps.sem (OpSem.move (.inl rfl) rfl) rfl rfl (by decide) ?_
          refine TrOps.sem (OpSem.move (.inl rfl) rfl) rfl rfl (by decide) ?_
          refine TrOps.sem (OpSem.idxL rfl rfl rfl es71 (by omega) (by simp [bkTo]; omega)) rfl rfl (by decide) ?_
          refine TrOps.sem (OpSem.load1 rfl rfl vs22 rfl) rfl rfl (by decide) ?_
          refine TrOps.semM (OpSem.callO 55 (slices_Clone_Arc_Arc_does (sgTo a part x a.arcs.length) (by omega)) rfl rfl rfl rfl (Les.cons (Le.of_eq (by rw [hbx])) .nil)) rfl rfl (by decide) ?_
          refine TrOps.semM (OpSem.alloc 11 rfl zc22 rfl) rfl rfl (by decide) ?_
          refine TrOps.storeb rfl rfl rfl rfl rfl rfl rfl vs22 (by first | decide | simp) ?_
          refine TrOps.nil ?_
          refine At.seq ?_
          refine Tr.seq ?_
          refine Tr.region ?_
          refine TrOps.sem (OpSem.loadb1 rfl rfl rfl vs22 rfl) rfl rfl (by decide) ?_
          refine TrOps.ofSt (OpSt.callWS (s := .t []) (sortArc_W (sgTo a part x a.arcs.length) (by omega)) rfl rfl rfl (fun H => rfl) (plain_arcs _) (fun O H w => .t [] [] rfl (fun i x s h => by simp at h))) rfl rfl rfl (by decide) ?_
          refine TrOps.nil ?_
          refine At.seq ?_
          refine Tr.seq ?_
          refine Tr.region ?_
          refine TrOps.sem (OpSem.loadb1 rfl rfl rfl vs22 rfl) rfl rfl (by decide) ?_
          refine TrOps.callW (s := .o 55) (compact_all (sortL (sgTo a part x a.arcs.length)) (by rw [sortL_len]; omega)) rfl rfl rfl (by decide) rfl rfl rfl (fun H => rfl) (plain_arcs _) (fun O H w h1 => .o 55 h1) ?_
          refine TrOps.storeb rfl rfl rfl rfl rfl rfl rfl vs22 (by first | decide | simp) ?_
          refine TrOps.nil ?_
          refine At.seq ?_
          refine Tr.seq ?_
          refine Tr.freeze 55 rfl ?_
          refine Tr.region ?_
          refine TrOps.sem (OpSem.move (.inl rfl) rfl) rfl rfl (by decide) ?_
          refine TrOps.sem (OpSem.makeFunc rfl rfl rfl) rfl rfl (by decide) ?_
          refine TrOps.sem (OpSem.call (slices_IndexFunc_Arc_Arc_does (dsTo (sigL a part) x) 48 [.p [arcsD (sig a part x)]] (fun y => decide (sig a part x = y)) (caught_p _) (fun y _ => shrink_refine_1_does (sig a part x) y)) (.inr rfl) rfl rfl rfl rfl (Les.refl _)) rfl rfl (by decide) ?_
          refine TrOps.sem (OpSem.move (.inr rfl) rfl) rfl rfl (by decide) ?_
          refine TrOps.nil ?_
          refine At.seq ?_
          refine Tr.cut [(1, .d (ints part)), (5, .d (arcss (bkTo a part a.arcs.length))), (8, .o 8), (9, .o 45), (10, I (x)), (12, I ((idD (dsTo (sigL a part) (nS a)) (sig a part x) : Int))), (47, I (nS a)), (48, I (x))] [(8, .own 1 22 ((dsTo (sigL a part) (x + 1)).map fun l => [arcsD l])), (45, .own 2 51 ((kyTo a part x).map asg))] ?_ ?_
          · refine Tr.seq ?_
            refine Tr.region ?_
            refine TrOps.sem (OpSem.move (.inl rfl) rfl) rfl rfl (by decide) ?_
            refine TrOps.sem (OpSem.bin rfl rfl rfl blss) rfl rfl (by decide) ?_
            refine TrOps.nil ?_
            refine At.seq ?_
            refine Tr.cond rfl (fun c64 => ?_) (fun c64 => ?_)
            · have hnew : nth (sigL a part) x ∉ dsTo (sigL a part) x := fun h => by rw [hsx] at h; rw [find_mem, if_pos h] at c64; simp at c64; omega
              refine Tr.seq ?_
              refine Tr.region ?_
              refine TrOps.sem (OpSem.move (.inl rfl) rfl) rfl rfl (by decide) ?_
              refine TrOps.sem (OpSem.leno rfl rfl rfl es71) rfl rfl (by decide) ?_
              refine TrOps.sem (OpSem.move (.inr rfl) rfl) rfl rfl (by decide) ?_
              refine TrOps.nil ?_
              refine At.seq ?_
              refine Tr.region ?_
              refine TrOps.sem (OpSem.move (.inl rfl) rfl) rfl rfl (by decide) ?_
              refine TrOps.sem (OpSem.loadb1 rfl rfl rfl vs22 rfl) rfl rfl (by decide) ?_
              refine TrOps.sem (OpSem.buildSlice rfl rfl es71 ze71 rfl rfl (by decide) (by decide) rfl rfl) rfl rfl (by decide) ?_
              refine TrOps.append rfl rfl rfl (by decide) rfl rfl rfl es71 el71 zc22 rfl by22 (by simp [D.one, Value.oneCell']) (by simp [maxLen]; omega) (by simp; omega) ?_
              refine TrOps.sem (OpSem.move (.inr rfl) rfl) rfl rfl (by decide) ?_
              refine TrOps.nil ?_
              refine At.meet ?_
              exact .slot rfl (.refl _) <| .slot rfl (.refl _) <| .slot rfl (.refl _) <| .slot rfl (.refl _) <| .slot rfl (.refl _) <| .slot rfl (Le.i (by rw [List.length_map]; exact id_new hx hnew)) <| .slot rfl (.refl _) <| .slot rfl (.refl _) <| .memEq rfl (by rw [ds_new hnew, hsx, List.map_append]; rfl) <| .memEq rfl (by rfl) <| .nil
            · have hold : nth (sigL a part) x ∈ dsTo (sigL a part) x := Decidable.byContradiction fun h => by rw [hsx] at h; rw [find_mem, if_neg h] at c64; simp at c64
              refine Tr.skip ?_
              refine At.meet ?_
              exact .slot rfl (.refl _) <| .slot rfl (.refl _) <| .slot rfl (.refl _) <| .slot rfl (.refl _) <| .slot rfl (.refl _) <| .slot rfl (Le.i (by rw [hsx] at hold; rw [find_mem, if_pos hold]; exact id_old hx hold)) <| .slot rfl (.refl _) <| .slot rfl (.refl _) <| .memEq rfl (by rw [ds_old hold]; rfl) <| .memEq rfl (by rfl) <| .nil
          · refine Tr.region ?_
            refine TrOps.sem (OpSem.move (.inl rfl) rfl) rfl rfl (by decide) ?_
            refine TrOps.sem (OpSem.move (.inl rfl) rfl) rfl rfl (by decide) ?_
            refine TrOps.sem (OpSem.move (.inl rfl) rfl) rfl rfl (by decide) ?_
            refine TrOps.sem (OpSem.move (.inl rfl) rfl) rfl rfl (by decide) ?_
            refine TrOps.sem (OpSem.idxL rfl rfl rfl es23 (by omega) (by omega)) rfl rfl (by decide) ?_
            refine TrOps.sem (OpSem.load1 rfl rfl vs3 rfl) rfl rfl (by decide) ?_
            refine TrOps.sem (OpSem.move (.inl rfl) rfl) rfl rfl (by decide) ?_
            refine TrOps.sem (OpSem.build rfl rfl pl51 zc51 rfl rfl) rfl rfl (by decide) ?_
            refine TrOps.sem (OpSem.idxo rfl rfl rfl rfl es49 (by omega) (by simp [kyTo]; omega)) rfl rfl (by decide) ?_
            refine TrOps.ofSt0 (OpSt.storeqN (r' := asg (nth part x, (idD (dsTo (sigL a part) (nS a)) (sig a part x) : Int))) rfl rfl rfl rfl vs51 (by simp [kyTo]; omega) rfl) rfl rfl rfl ?_
            refine TrOps.nil ?_
            refine At.block_normal ?_
            refine At.seq ?_
            refine Tr.region ?_
            refine TrOps.sem (OpSem.bin rfl rfl rfl (badd (by omega) (by omega))) rfl rfl (by decide) ?_
            refine TrOps.sem (OpSem.move (.inl rfl) rfl) rfl rfl (by decide) ?_
            refine TrOps.nil ?_
            refine At.again (x + 1) (by omega) ?_ (by omega)
            exact .slot rfl (.refl _) <| .slot rfl (.refl _) <| .slot rfl (.refl _) <| .slot rfl (.refl _) <| .slot rfl (.refl _) <| .slot rfl (Le.of_eq (by simp)) <| .mem rfl <| .memEq rfl (by rw [ky_set hx]) <| .nil
        · have hx : x = nS a := by simp at c49; omega
          subst hx
          refine Tr.exit ?_
          refine At.pass_exit ?_
          refine At.pass_exit ?_
          refine At.block_same ?_
          refine At.seq ?_
          refine Tr.seq ?_
          refine Tr.region ?_
          refine TrOps.sem (OpSem.move (.inl rfl) rfl) rfl rfl (by decide) ?_
          refine TrOps.semM (OpSem.callO 82 (shrink_number_shrink_pair_does (keyTo a part (nS a)) (by rw [keyTo_len]; omega)) rfl rfl rfl rfl (Les.cons (Le.d (by rw [kyTo_end])) .nil)) rfl rfl (by decide) ?_
          refine TrOps.sem (OpSem.move (.inr rfl) rfl) rfl rfl (by decide) ?_
          refine TrOps.nil ?_
          refine At.seq ?_
          refine Tr.ret ?_
          exact At.retO2 rfl rfl rfl (by simp) (rfl)

end Go.Proofs.Ythgcnfolgbaemaa
end

section
/- The engine, part 25: slices.Sort of integers, in place. -/



set_option linter.unusedVariables false
set_option linter.unusedSimpArgs false
namespace Go.Eng
open Go.Shelf Go.Lib Go.Proofs
open Go.Sort (Holds ahead grow putCells putRow mapBlock onCells)
def sortI (l : List Int) : List Int := l.mergeSort fun x y => decide (x ≤ y)
theorem sortI_len {l : List Int} : (sortI l).length = l.length := List.length_mergeSort l
theorem sortI_mem {l : List Int} {x : Int} : x ∈ sortI l ↔ x ∈ l := (List.mergeSort_perm l _).mem_iff
theorem sortI_sorted {l : List Int} : (sortI l).Pairwise (· ≤ ·) := by
  have := List.pairwise_mergeSort (le := fun x y : Int => decide (x ≤ y)) (fun a b c h1 h2 => by simp at *; omega) (fun a b => by simp; omega) l
  exact this.imp fun h => by simpa using h
theorem sortInts_W {P : Program} {ρ : Ren} (L : SlLaysM.n5 P ρ) (T : Nat) (can : ∀ xs w, (callFunc (ρ.f 5) xs).run P w = .ok (.enter (ρ.f 5) xs) w) (l : List Int) (hl : l.length < 4611686018427387904) :
    DoesWS P (ρ.f 5) (fun v => [v]) (.tuple #[]) 1 T (l.map fun x => [D.v (.int .i64 x)]) ((sortI l).map fun x => [D.v (.int .i64 x)]) := by
  refine ⟨can, fun w v hv => ?_⟩
  rcases hv with ⟨rfl, hr⟩ | ⟨b, cap, xs, rfl, _, hb, hlc, hcm, hsz, hw, hc⟩
  · have hl0 : l = [] := by simpa using hr
    subst hl0
    refine (AnyM.slices_Sort_int_none L none 0 w).mono ?_
    rintro e w' ⟨rfl, rfl⟩
    exact ⟨rfl, ⟨rfl, rfl, rfl, Nat.le_refl _, fun _ _ _ => rfl⟩, .inl ⟨rfl, by simp [sortI]⟩⟩
  · have hcv : ∀ (i : Nat) (x : Int), l[i]? = some x → xs[i]? = some (.int .i64 x) := fun i x hi => by
      obtain ⟨y, hy, he, _⟩ := hc i [D.v (.int .i64 x)] 0 (.v (.int .i64 x)) (by simp [hi]) rfl
      cases he; simpa using hy
    have hbs := (Array.getElem?_eq_some_iff.1 hb).1
    have hH : Holds (Value.int .i64) w b 0 l.toArray := by
      intro j hj
      have hj' : j < l.length := by simpa using hj
      have h2 := hcv j l[j] (List.getElem?_eq_getElem hj')
      refine ⟨?_, by simp [World.frozen?, hb]⟩
      simp only [World.cell?, hb, Nat.zero_add]
      simpa [hj'] using h2
    have hcon := AnyM.slices_Sort_int L b 0 cap l w hH hbs hl
    have e1 : l.length = (l.map fun x => [D.v (.int .i64 x)]).length := by simp
    rw [e1] at hcon
    refine hcon.mono ?_
    rintro e w' ⟨rfl, n, os, rfl⟩
    have hat : ∀ b', b' < w.heap.size → (grow (putRow (Value.int .i64) (Sort.ahead w n) b 0 (sortI l).toArray) os).heap[b']? = if b = b' then (w.heap[b']?).map (onCells (putCells (Value.int .i64) 0 (sortI l).toArray)) else w.heap[b']? := fun b' hb' => by
      unfold grow putRow mapBlock
      show ((w.heap.modify b _) ++ os)[b']? = _
      rw [Array.getElem?_append_left (by simpa using hb'), Array.getElem?_modify]
    have hlc' : l.length ≤ cap := by simpa using hlc
    refine ⟨rfl, ⟨rfl, rfl, rfl, ?_, fun b' hb' hne => ?_⟩, .inr ⟨b, cap, putCells (Value.int .i64) 0 (sortI l).toArray xs, by simp [sortI_len], Nat.zero_le _, ?_, by simpa [sortI_len] using hlc', hcm, ?_, ?_, ?_⟩⟩
    · show w.heap.size ≤ (grow (putRow (Value.int .i64) (Sort.ahead w n) b 0 (sortI l).toArray) os).heap.size
      unfold grow putRow mapBlock
      simp [ahead]
    · refine (hat b' hb').trans (if_neg fun e => hne (by rw [e]; rfl))
    · rw [show (grow (putRow (Value.int .i64) (Sort.ahead w n) b 0 (l.mergeSort fun x y => decide (x ≤ y)).toArray) os).heap[b]? = _ from hat b hbs, if_pos rfl, hb]
      rfl
    · simp [putCells, hsz]
    · intro r hr
      obtain ⟨x, _, rfl⟩ := List.mem_map.1 hr
      rfl
    · intro i r j d hi hj
      rw [List.getElem?_map, Option.map_eq_some_iff] at hi
      obtain ⟨x, hx, rfl⟩ := hi
      have hj0 : j = 0 := by have := (List.getElem?_eq_some_iff.1 hj).1; simp at this; omega
      subst hj0
      simp at hj
      subst hj
      refine ⟨.int .i64 x, ?_, rfl, rfl⟩
      have hil : i < l.length := by have := (List.getElem?_eq_some_iff.1 hx).1; rwa [sortI_len] at this
      have hxs : i < xs.size := by rw [hsz]; omega
      unfold putCells
      simp only [Nat.mul_one, Nat.add_zero]
      rw [Array.getElem?_mapIdx, Array.getElem?_eq_getElem hxs, Option.map_some, if_pos ⟨Nat.zero_le _, by simpa [sortI_len] using hil⟩, Nat.sub_zero]
      simp [hx]
theorem plain_ints (l : List Int) : plainB (l.map fun n => [D.v (.int .i64 n)]) = true := by simp [plainB]
theorem ints_dm {L : List Int} {i y : Nat} {v : Int} (ha : nth L i = v) (hi : i < L.length) (hy : y = i) : (L.map fun n => [D.v (.int .i64 n)])[y]? = some [D.v (.int .i64 v)] := by
  subst hy; subst ha
  rw [List.getElem?_map, List.getElem?_eq_getElem hi, nth_eq hi]; rfl
theorem dmTo_sI {l : List Int} {k j : Nat} (h : nth l (k + j + 1 : Nat) ≠ nth l (k + j : Nat)) : dmTo l k (j + 1) = (dmTo l k j).set (ddTo l (k + j + 1)).length (nth l (k + j + 1 : Nat)) := by
  simp only [dmTo]; rw [if_neg h]
theorem dmTo_eI {l : List Int} {k j : Nat} (h : nth l (k + j + 1 : Nat) = nth l (k + j : Nat)) : dmTo l k (j + 1) = dmTo l k j := by
  simp only [dmTo]; rw [if_pos h]
theorem cut_ddI {l : List Int} {k j : Nat} (h0 : 0 < k) (hd : nth l k = nth l (k - 1 : Int)) (hk : k < l.length) (hu : ∀ i : Nat, 0 < i → i < k → nth l i ≠ nth l (i - 1 : Int)) (hj : k + j + 1 = l.length) {R S : List (List D)} :
    (((dmTo l k j).map fun n => [D.v (.int .i64 n)]).take ((ddTo l (k + j + 1)).length : Int).toNat ++ R ++ S).take ((ddTo l (k + j + 1)).length : Int).toNat = (dd l).map fun n => [D.v (.int .i64 n)] := by
  have h1 := dk_len h0 hd (j := j)
  have h2 := dmTo_len (l := l) (k0 := k) (j := j)
  have h3 := dmTo_take h0 hd hk hu (j := j) (by omega)
  rw [Int.toNat_natCast, List.append_assoc, List.take_append_of_le_length (by simp; omega), List.take_take, Nat.min_self, ← List.map_take, h3, hj]
  rfl
end Go.Eng
end

section
/- Walks, written by gen.py out of hints. -/





set_option linter.unusedVariables false
set_option linter.unusedSimpArgs false
namespace Go.Proofs.Ythgcnfolgbaemaa
open Go.Eng
set_option maxRecDepth 10000
set_option maxHeartbeats 1000000

theorem slices_Compact_int_int_W (l : List Int) (hne : l ≠ []) (hml : (l.length : Int) ≤ 9223372036854775807) : DoesW Try.prog 34 (fun v => [v]) (fun v => v) 1 3 (l.map fun n => [D.v (.int .i64 n)]) ((dd l).map fun n => [D.v (.int .i64 n)]) := by
  have hpos : 0 < l.length := List.length_pos_iff.2 hne
  refine DoesW.of_body (as_ := [.o 0]) Try.func34 rfl rfl (by simp) Try.call34 (fun _ => rfl) (by intro O H w h1 i x s hx hs; rcases i with _ | i <;> simp at hx hs; subst hx; subst hs; exact .o 0 h1) (by simpa using hne) (by simpa using dd_ne hne) (fun O0 Oc W => ?_)
  refine Tr.seq ?_
  refine Tr.region ?_
  refine TrOps.sem (OpSem.move (.inr rfl) rfl) rfl rfl (by decide) ?_
  refine TrOps.nil ?_
  refine At.seq ?_
  refine Tr.seq ?_
  refine Tr.seq ?_
  refine Tr.region ?_
  refine TrOps.sem (OpSem.move (.inl rfl) rfl) rfl rfl (by decide) ?_
  refine TrOps.sem (OpSem.leno rfl rfl rfl es23) rfl rfl (by decide) ?_
  refine TrOps.sem (OpSem.bin rfl rfl rfl blss) rfl rfl (by decide) ?_
  refine TrOps.nil ?_
  refine At.seq ?_
  refine Tr.cond rfl (fun c8 => ?_) (fun c8 => ?_)
  · have hlt : l.length < 2 := by simp at c8; omega
    refine Tr.seq ?_
    refine Tr.region ?_
    refine TrOps.sem (OpSem.move (.inl rfl) rfl) rfl rfl (by decide) ?_
    refine TrOps.sem (OpSem.move (.inr rfl) rfl) rfl rfl (by decide) ?_
    refine TrOps.nil ?_
    refine At.seq ?_
    refine Tr.ret ?_
    refine At.pass_ret ?_
    exact At.retW rfl (.tmp rfl <| .nil) rfl rfl (by simp [plainB]) (by rw [dd_one hlt]) (fun H => rfl)
  · have hge : 2 ≤ l.length := by simp at c8; omega
    refine Tr.skip ?_
    refine At.seq ?_
    refine Tr.seq ?_
    refine Tr.seq ?_
    refine Tr.region ?_
    refine TrOps.sem (OpSem.move (.inr rfl) rfl) rfl rfl (by decide) ?_
    refine TrOps.nil ?_
    refine At.seq ?_
    refine Tr.block ?_
    refine Tr.loop (X := Nat) (fun k => 1 ≤ k ∧ k ≤ l.length ∧ ∀ i : Nat, 0 < i → i < k → nth l i ≠ nth l (i - 1 : Int)) (fun k => [(0, .o 0), (3, I (k))]) (fun k => [(0, .own 1 3 (l.map fun n => [D.v (.int .i64 n)])), (1000, .fr (frK Oc W))]) (fun k => l.length - k) 1 ⟨by omega, by omega, fun i h0 h1 => by omega⟩ ?_ ?_
    · exact .slot rfl (.refl _) <| .slot rfl (.refl _) <| .mem rfl <| .mem rfl <| .nil
    · rintro k ⟨hk1, hkl, hinv⟩
      refine Tr.seq ?_
      refine Tr.seq ?_
      refine Tr.region ?_
      refine TrOps.sem (OpSem.move (.inl rfl) rfl) rfl rfl (by decide) ?_
      refine TrOps.sem (OpSem.move (.inl rfl) rfl) rfl rfl (by decide) ?_
      refine TrOps.sem (OpSem.leno rfl rfl rfl es23) rfl rfl (by decide) ?_
      refine TrOps.sem (OpSem.bin rfl rfl rfl blss) rfl rfl (by decide) ?_
      refine TrOps.nil ?_
      refine At.seq ?_
      refine Tr.cond rfl (fun c13 => ?_) (fun c13 => ?_)
      · have hk : k < l.length := by simpa using c13
        refine Tr.skip ?_
        refine At.seq ?_
        refine Tr.seq ?_
        refine Tr.block ?_
        refine Tr.seq ?_
        refine PC.start [] ?_
        refine PC.sem (OpSem.move (.inl rfl) rfl) rfl rfl ?_
        refine PC.sem (OpSem.move (.inl rfl) rfl) rfl rfl ?_
        refine PC.sem (OpSem.idxo rfl rfl rfl rfl es23 (by omega) (by simp; omega)) rfl rfl ?_
        refine PC.sem (OpSem.loadq rfl rfl rfl vs3 (rows_get (by omega) (by omega)) rfl) rfl rfl ?_
        refine PC.sem (OpSem.move (.inl rfl) rfl) rfl rfl ?_
        refine PC.sem (OpSem.move (.inl rfl) rfl) rfl rfl ?_
        refine PC.sem (OpSem.bin rfl rfl rfl (bsub (by omega) (by omega))) rfl rfl ?_
        refine PC.sem (OpSem.idxo rfl rfl rfl rfl es23 (by omega) (by simp; omega)) rfl rfl ?_
        refine PC.sem (OpSem.loadq rfl rfl rfl vs3 (rows_get (by omega) (by omega)) rfl) rfl rfl ?_
        refine PC.done0 mixed (by kernel_rfl) (by kernel_rfl) (by kernel_rfl) (by kernel_rfl) (by kernel_rfl) ?_
        refine TrOps.sem (OpSem.bin rfl rfl rfl beql) rfl rfl (by decide) ?_
        refine TrOps.nil ?_
        refine At.seq ?_
        refine Tr.cond rfl (fun c25 => ?_) (fun c25 => ?_)
        · have hdu : nth l k = nth l (k - 1 : Int) := by simpa using c25
          have hk0 : (ddTo l (k + 1)).length = k := by rw [show ddTo l (k + 1) = ddTo l k from if_pos ⟨by omega, hdu⟩, ddTo_take (by omega) hinv]; simp; omega
          refine Tr.seq ?_
          refine Tr.region ?_
          refine TrOps.sem (OpSem.move (.inl rfl) rfl) rfl rfl (by decide) ?_
          refine TrOps.sem (OpSem.move (.inl rfl) rfl) rfl rfl (by decide) ?_
          refine TrOps.sem (OpSem.sliceoL rfl rfl rfl rfl es23 (by omega) (by simp; omega)) rfl rfl (by decide) ?_
          refine TrOps.sem (OpSem.move (.inr rfl) rfl) rfl rfl (by decide) ?_
          refine TrOps.nil ?_
          refine At.seq ?_
          refine Tr.seq ?_
          refine Tr.seq ?_
          refine Tr.region ?_
          refine TrOps.sem (OpSem.move (.inr rfl) rfl) rfl rfl (by decide) ?_
          refine TrOps.nil ?_
          refine At.seq ?_
          refine Tr.block ?_
          refine Tr.loop (X := Nat) (fun j => k + j + 1 ≤ l.length) (fun j => [(0, .o 0), (3, I (((ddTo l (k + j + 1)).length : Int))), (4, .w 0 1 k (l.length - k)), (5, I (((j + 1 : Nat) : Int)))]) (fun j => [(0, .own 1 3 ((dmTo l k j).map fun n => [D.v (.int .i64 n)])), (1000, .fr (frK Oc W))]) (fun j => l.length - (k + j + 1)) 0 (by omega) ?_ ?_
          · exact .slot rfl (.refl _) <| .slot rfl (Le.i (by rw [Nat.add_zero, hk0])) <| .slot rfl (Le.of_eq (by simp)) <| .slot rfl (Le.of_eq (by simp)) <| .memEq rfl (by simp [dmTo]) <| .mem rfl <| .nil
          · rintro j hjl
            refine Tr.seq ?_
            refine Tr.seq ?_
            refine Tr.region ?_
            refine TrOps.sem (OpSem.move (.inl rfl) rfl) rfl rfl (by decide) ?_
            refine TrOps.sem (OpSem.move (.inl rfl) rfl) rfl rfl (by decide) ?_
            refine TrOps.sem (OpSem.lenw rfl rfl es23) rfl rfl (by decide) ?_
            refine TrOps.sem (OpSem.bin rfl rfl rfl blss) rfl rfl (by decide) ?_
            refine TrOps.nil ?_
            refine At.seq ?_
            refine Tr.cond rfl (fun c32 => ?_) (fun c32 => ?_)
            · have hj : k + j + 1 < l.length := by simp at c32; omega
              have hdl := dk_len (by omega) hdu (j := j)
              have a1 := dmTo_at (by omega) hdu (i := k + j + 1) (j := j) (by omega)
              have a2 := dmTo_at (by omega) hdu (i := k + j) (j := j) (by omega)
              refine Tr.skip ?_
              refine At.seq ?_
              refine Tr.seq ?_
              refine Tr.block ?_
              refine Tr.seq ?_
              refine PC.start [] ?_
              refine PC.sem (OpSem.move (.inl rfl) rfl) rfl rfl ?_
              refine PC.sem (OpSem.move (.inl rfl) rfl) rfl rfl ?_
              refine PC.sem (OpSem.idxw rfl rfl rfl es23 (by omega) (by omega)) rfl rfl ?_
              refine PC.sem (OpSem.loadq rfl rfl rfl vs3 (ints_dm a1 (by rw [dmTo_len]; omega) (by omega)) rfl) rfl rfl ?_
              refine PC.sem (OpSem.move (.inl rfl) rfl) rfl rfl ?_
              refine PC.sem (OpSem.move (.inl rfl) rfl) rfl rfl ?_
              refine PC.sem (OpSem.bin rfl rfl rfl (bsub (by omega) (by omega))) rfl rfl ?_
              refine PC.sem (OpSem.idxw rfl rfl rfl es23 (by omega) (by omega)) rfl rfl ?_
              refine PC.sem (OpSem.loadq rfl rfl rfl vs3 (ints_dm a2 (by rw [dmTo_len]; omega) (by omega)) rfl) rfl rfl ?_
              refine PC.done0 mixed (by kernel_rfl) (by kernel_rfl) (by kernel_rfl) (by kernel_rfl) (by kernel_rfl) ?_
              refine TrOps.sem (OpSem.bin rfl rfl rfl bneq) rfl rfl (by decide) ?_
              refine TrOps.nil ?_
              refine At.seq ?_
              refine Tr.cond rfl (fun c44 => ?_) (fun c44 => ?_)
              · have hnq : nth l (k + j + 1 : Nat) ≠ nth l (k + j : Nat) := fun h => by rw [h] at c44; simp at c44
                refine Tr.seq ?_
                refine Tr.region ?_
                refine TrOps.sem (OpSem.move (.inl rfl) rfl) rfl rfl (by decide) ?_
                refine TrOps.sem (OpSem.move (.inl rfl) rfl) rfl rfl (by decide) ?_
                refine TrOps.sem (OpSem.move (.inl rfl) rfl) rfl rfl (by decide) ?_
                refine TrOps.sem (OpSem.move (.inl rfl) rfl) rfl rfl (by decide) ?_
                refine TrOps.sem (OpSem.idxw rfl rfl rfl es23 (by omega) (by omega)) rfl rfl (by decide) ?_
                refine TrOps.sem (OpSem.loadq rfl rfl rfl vs3 (ints_dm a1 (by rw [dmTo_len]; omega) (by omega)) rfl) rfl rfl (by decide) ?_
                refine TrOps.sem (OpSem.idxo rfl rfl rfl rfl es23 (by omega) (by simp [dmTo_len]; omega)) rfl rfl (by decide) ?_
                refine TrOps.storeq rfl rfl rfl rfl rfl rfl rfl vs3 (rows_get (by omega) (by simp [dmTo_len]; omega)) (by simp) ?_
                refine TrOps.nil ?_
                refine At.seq ?_
                refine Tr.region ?_
                refine TrOps.sem (OpSem.move (.inl rfl) rfl) rfl rfl (by decide) ?_
                refine TrOps.sem (OpSem.bin rfl rfl rfl (badd (by omega) (by omega))) rfl rfl (by decide) ?_
                refine TrOps.sem (OpSem.move (.inr rfl) rfl) rfl rfl (by decide) ?_
                refine TrOps.nil ?_
                refine At.block_normal ?_
                refine At.seq ?_
                refine Tr.region ?_
                refine TrOps.sem (OpSem.move (.inl rfl) rfl) rfl rfl (by decide) ?_
                refine TrOps.sem (OpSem.bin rfl rfl rfl (badd (by omega) (by omega))) rfl rfl (by decide) ?_
                refine TrOps.sem (OpSem.move (.inr rfl) rfl) rfl rfl (by decide) ?_
                refine TrOps.nil ?_
                refine At.again (j + 1) (by omega) ?_ (by omega)
                exact .slot rfl (.refl _) <| .slot rfl (Le.i (by rw [ddTo_step (by omega) hdu, if_neg hnq]; simp)) <| .slot rfl (.refl _) <| .slot rfl (Le.i (by omega)) <| .memEq rfl (by rw [dmTo_sI (k := k) (j := j) hnq, List.map_set]; rfl) <| .mem rfl <| .nil
              · have hq : nth l (k + j + 1 : Nat) = nth l (k + j : Nat) := by simpa using c44
                refine Tr.skip ?_
                refine At.block_normal ?_
                refine At.seq ?_
                refine Tr.region ?_
                refine TrOps.sem (OpSem.move (.inl rfl) rfl) rfl rfl (by decide) ?_
                refine TrOps.sem (OpSem.bin rfl rfl rfl (badd (by omega) (by omega))) rfl rfl (by decide) ?_
                refine TrOps.sem (OpSem.move (.inr rfl) rfl) rfl rfl (by decide) ?_
                refine TrOps.nil ?_
                refine At.again (j + 1) (by omega) ?_ (by omega)
                exact .slot rfl (.refl _) <| .slot rfl (Le.i (by rw [ddTo_step (by omega) hdu, if_pos hq])) <| .slot rfl (.refl _) <| .slot rfl (Le.i (by omega)) <| .memEq rfl (by rw [dmTo_eI (k := k) (j := j) hq]) <| .mem rfl <| .nil
            · have hj : k + j + 1 = l.length := by simp at c32; omega
              have hdl := dk_len (by omega) hdu (j := j)
              refine Tr.exit ?_
              refine At.pass_exit ?_
              refine At.pass_exit ?_
              refine At.block_same ?_
              refine At.seq ?_
              refine Tr.seq ?_
              refine Tr.region ?_
              refine TrOps.sem (OpSem.move (.inl rfl) rfl) rfl rfl (by decide) ?_
              refine TrOps.sem (OpSem.move (.inl rfl) rfl) rfl rfl (by decide) ?_
              refine TrOps.sem (OpSem.sliceoL rfl rfl rfl rfl es23 (by omega) (by simp [dmTo_len]; omega)) rfl rfl (by decide) ?_
              refine TrOps.ofSt0 (OpSt.clearW rfl rfl es23 ze23 rfl rfl (by decide) (by simp [dmTo_len]; omega)) rfl rfl rfl ?_
              refine TrOps.nil ?_
              refine At.seq ?_
              refine Tr.seq ?_
              refine Tr.region ?_
              refine TrOps.sem (OpSem.move (.inl rfl) rfl) rfl rfl (by decide) ?_
              refine TrOps.sem (OpSem.move (.inl rfl) rfl) rfl rfl (by decide) ?_
              refine TrOps.semM (OpSem.cutO rfl rfl rfl rfl es23 (by omega) (by simp [dmTo_len]; omega) (by simp [dmTo_len]; omega)) rfl rfl (by decide) ?_
              refine TrOps.sem (OpSem.move (.inr rfl) rfl) rfl rfl (by decide) ?_
              refine TrOps.nil ?_
              refine At.seq ?_
              refine Tr.ret ?_
              refine At.block_ret ?_
              refine At.pass_ret ?_
              refine At.pass_ret ?_
              refine At.block_ret ?_
              refine At.pass_ret ?_
              exact At.retW rfl (.tmp rfl <| .nil) rfl rfl (by rw [cut_ddI (by omega) hdu hk hinv hj]; exact plain_ints _) (cut_ddI (by omega) hdu hk hinv hj) (fun H => rfl)
        · have hdu : nth l k ≠ nth l (k - 1 : Int) := fun h => by rw [h] at c25; simp at c25
          refine Tr.skip ?_
          refine At.block_normal ?_
          refine At.seq ?_
          refine Tr.region ?_
          refine TrOps.sem (OpSem.move (.inl rfl) rfl) rfl rfl (by decide) ?_
          refine TrOps.sem (OpSem.bin rfl rfl rfl (badd (by omega) (by omega))) rfl rfl (by decide) ?_
          refine TrOps.sem (OpSem.move (.inr rfl) rfl) rfl rfl (by decide) ?_
          refine TrOps.nil ?_
          refine At.again (k + 1) ⟨by omega, by omega, fun i h0 hi => by by_cases h : i = k; (subst h; exact hdu); exact hinv i h0 (by omega)⟩ ?_ (by omega)
          exact .slot rfl (.refl _) <| .slot rfl (Le.i (by omega)) <| .mem rfl <| .mem rfl <| .nil
      · have hk : k = l.length := by simp at c13; omega
        refine Tr.exit ?_
        refine At.pass_exit ?_
        refine At.pass_exit ?_
        refine At.block_same ?_
        refine At.seq ?_
        refine Tr.seq ?_
        refine Tr.region ?_
        refine TrOps.sem (OpSem.move (.inl rfl) rfl) rfl rfl (by decide) ?_
        refine TrOps.sem (OpSem.move (.inr rfl) rfl) rfl rfl (by decide) ?_
        refine TrOps.nil ?_
        refine At.seq ?_
        refine Tr.ret ?_
        exact At.retW rfl (.tmp rfl <| .nil) rfl rfl (by simp [plainB]) (by rw [dd_all (by rw [← hk]; exact hinv)]) (fun H => rfl)


open Go.Shelf Go.RowKit Go.Lib
theorem compact_nilI (p : Option Addr) (cap : Nat) (w : World) : Calls Try.prog 34 #[.slice p 0 cap] w fun e w' => e = .returned (.slice p 0 cap) ∧ w' = w := by
  go_enter Try.func34, Try.ntmps34
  go_wp2
  go_ret
  exact ⟨by simp, rfl⟩
theorem compact_allI (l : List Int) (hml : (l.length : Int) ≤ 9223372036854775807) : DoesW Try.prog 34 (fun v => [v]) (fun v => v) 1 3 (l.map fun n => [D.v (.int .i64 n)]) ((dd l).map fun n => [D.v (.int .i64 n)]) := by
  by_cases hne : l = []
  · subst hne
    refine ⟨Try.call34, fun w v hv => ?_⟩
    have he : ∃ p cap, v = .slice p 0 cap := by
      rcases hv with ⟨rfl, _⟩ | ⟨b, cap, xs, rfl, _⟩
      · exact ⟨_, _, rfl⟩
      · exact ⟨_, _, rfl⟩
    obtain ⟨p, cap, rfl⟩ := he
    refine (compact_nilI p cap w).mono ?_
    rintro e w' ⟨rfl, rfl⟩
    refine ⟨_, rfl, ⟨rfl, rfl, rfl, Nat.le_refl _, fun b hb _ => rfl⟩, ?_, .inr (.inl rfl)⟩
    have e0 : dd ([] : List Int) = [] := by simp [dd, ddTo]
    rw [e0]
    rcases hv with h | ⟨b, cap', xs, h1, h2, h3, h4⟩
    · exact .inl h
    · exact .inr ⟨b, cap', xs, h1, h2, h3, h4⟩
  · exact slices_Compact_int_int_W l hne hml
def Try.sortInts_ren : Go.Shelf.Ren := ⟨fun | 5 => 33 | 8 => 51 | 7 => 50 | 19 => 67 | 20 => 68 | 10 => 58 | 11 => 59 | 12 => 60 | 13 => 61 | 14 => 62 | 15 => 63 | 16 => 64 | 17 => 65 | 18 => 66 | 30 => 80 | 31 => 81 | 32 => 82 | 33 => 83 | 34 => 84 | 35 => 71 | 40 => 90 | n => n, fun | 23 => 23 | 25 => 3 | 3 => 3 | 32 => 79 | 22 => 23 | 0 => 0 | 44 => 94 | 46 => 96 | 4 => 4 | 36 => 88 | 35 => 87 | 41 => 70 | 5 => 5 | 9 => 9 | 53 => 105 | 57 => 109 | 63 => 117 | 64 => 118 | n => n, fun | n => n⟩
theorem Try.sortInts : Go.Proofs.SlLaysM.n5 Try.prog Try.sortInts_ren := {
 mixed := by kernel_rfl
 f5 := ⟨Try.f33.name, by decide, Try.func33.trans (congrArg some (by kernel_rfl))⟩
 f7 := ⟨Try.f50.name, by decide, Try.func50.trans (congrArg some (by kernel_rfl))⟩
 f8 := Try.func51.trans (congrArg some (by kernel_rfl))
 f10 := ⟨Try.f58.name, by decide, Try.func58.trans (congrArg some (by kernel_rfl))⟩
 f11 := ⟨Try.f59.name, by decide, Try.func59.trans (congrArg some (by kernel_rfl))⟩
 f12 := ⟨Try.f60.name, by decide, Try.func60.trans (congrArg some (by kernel_rfl))⟩
 f13 := ⟨Try.f61.name, by decide, Try.func61.trans (congrArg some (by kernel_rfl))⟩
 f14 := ⟨Try.f62.name, by decide, Try.func62.trans (congrArg some (by kernel_rfl))⟩
 f15 := ⟨Try.f63.name, by decide, Try.func63.trans (congrArg some (by kernel_rfl))⟩
 f16 := ⟨Try.f64.name, by decide, Try.func64.trans (congrArg some (by kernel_rfl))⟩
 f17 := ⟨Try.f65.name, by decide, Try.func65.trans (congrArg some (by kernel_rfl))⟩
 f18 := ⟨Try.f66.name, by decide, Try.func66.trans (congrArg some (by kernel_rfl))⟩
 f19 := Try.func67.trans (congrArg some (by kernel_rfl))
 f20 := Try.func68.trans (congrArg some (by kernel_rfl))
 f30 := ⟨Try.f80.name, by decide, Try.func80.trans (congrArg some (by kernel_rfl))⟩
 f31 := Try.func81.trans (congrArg some (by kernel_rfl))
 f32 := Try.func82.trans (congrArg some (by kernel_rfl))
 f33 := ⟨Try.f83.name, by decide, Try.func83.trans (congrArg some (by kernel_rfl))⟩
 f34 := ⟨Try.f84.name, by decide, Try.func84.trans (congrArg some (by kernel_rfl))⟩
 f35 := ⟨Try.f71.name, by decide, Try.func71.trans (congrArg some (by kernel_rfl))⟩
 f40 := ⟨Try.f90.name, by decide, Try.func90.trans (congrArg some (by kernel_rfl))⟩
 t0 := Try.underlying0
 a0 := Try.isAgg0
 z0 := Try.sizeOf0
 v0 := Try.zeroValue0
 t3 := Try.underlying3
 a3 := Try.isAgg3
 z3 := Try.sizeOf3
 v3 := Try.zeroValue3
 t4 := Try.underlying4
 a4 := Try.isAgg4
 z4 := Try.sizeOf4
 v4 := Try.zeroValue4
 t5 := Try.underlying5
 a5 := Try.isAgg5
 z5 := Try.sizeOf5
 v5 := Try.zeroValue5
 t9 := Try.underlying9
 a9 := Try.isAgg9
 z9 := Try.sizeOf9
 v9 := Try.zeroValue9
 t22 := Try.underlying23
 a22 := Try.isAgg23
 z22 := Try.sizeOf23
 v22 := Try.zeroValue23
 t23 := Try.underlying23
 a23 := Try.isAgg23
 z23 := Try.sizeOf23
 v23 := Try.zeroValue23
 t25 := Try.underlying3
 a25 := Try.isAgg3
 z25 := Try.sizeOf3
 v25 := Try.zeroValue3
 t32 := Try.underlying79
 a32 := Try.isAgg79
 z32 := Try.sizeOf79
 v32 := Try.zeroValue79
 t35 := Try.underlying87
 a35 := Try.isAgg87
 z35 := Try.sizeOf87
 v35 := Try.zeroValue87
 t36 := Try.underlying88
 a36 := Try.isAgg88
 z36 := Try.sizeOf88
 v36 := Try.zeroValue88
 t41 := Try.underlying70
 a41 := Try.isAgg70
 z41 := Try.sizeOf70
 v41 := Try.zeroValue70
 t44 := Try.underlying94
 a44 := Try.isAgg94
 z44 := Try.sizeOf94
 v44 := Try.zeroValue94
 t46 := Try.underlying96
 a46 := Try.isAgg96
 z46 := Try.sizeOf96
 v46 := Try.zeroValue96
 t53 := Try.underlying105
 a53 := Try.isAgg105
 z53 := Try.sizeOf105
 v53 := Try.zeroValue105
 t57 := Try.underlying109
 a57 := Try.isAgg109
 z57 := Try.sizeOf109
 v57 := Try.zeroValue109
 t63 := Try.underlying117
 a63 := Try.isAgg117
 z63 := Try.sizeOf117
 v63 := Try.zeroValue117
 t64 := Try.underlying118
 a64 := Try.isAgg118
 z64 := Try.sizeOf118
 v64 := Try.zeroValue118 }
theorem sortI_W (l : List Int) (hl : l.length < 4611686018427387904) : DoesWS Try.prog 33 (fun v => [v]) (.tuple #[]) 1 3 (l.map fun n => [D.v (.int .i64 n)]) ((sortI l).map fun n => [D.v (.int .i64 n)]) :=
  sortInts_W Try.sortInts 3 Try.call33 l hl


end Go.Proofs.Ythgcnfolgbaemaa
end

section
/- Walks, written by gen.py out of hints. -/




set_option linter.unusedVariables false
set_option linter.unusedSimpArgs false
namespace Go.Proofs.Ythgcnfolgbaemaa
open Go.Eng
set_option maxRecDepth 10000
set_option maxHeartbeats 1000000



end Go.Proofs.Ythgcnfolgbaemaa
end

section
/- Walks, written by gen.py out of hints. -/






set_option linter.unusedVariables false
set_option linter.unusedSimpArgs false
namespace Go.Proofs.Ythgcnfolgbaemaa
open Go.Eng
set_option maxRecDepth 10000
set_option maxHeartbeats 1000000

end Go.Proofs.Ythgcnfolgbaemaa
end
