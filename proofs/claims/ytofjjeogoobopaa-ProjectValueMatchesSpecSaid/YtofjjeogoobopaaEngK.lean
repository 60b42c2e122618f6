/- Projections: the projected task, what it keeps, and its costs. -/
import Derived.Test.YtofjjeogoobopaaEngJ
set_option linter.unusedVariables false
set_option linter.unusedSimpArgs false
set_option linter.unusedSectionVars false
namespace Go.Eng
open Go

/-! ### Sorted assignments -/
abbrev SortedA (l : List Asg) : Prop := l.Pairwise fun a b => a.1 < b.1
theorem ext_get {α : Type} [Inhabited α] {l l' : List α} (hl : l.length = l'.length) (h : ∀ i : Nat, i < l.length → nth l i = nth l' i) : l = l' := by
  refine List.ext_getElem hl fun i h1 h2 => ?_
  have := h i h1
  rwa [nth_eq h1, nth_eq h2] at this
theorem asgs_mono2 {sizes : List Int} {l : List Asg} (h : AsgsP sizes l) : ∀ (d i : Nat), i + d + 1 < l.length → (nth l i).1 < (nth l (i + d + 1 : Nat)).1
  | 0, i, hi => by
    have := (h (i + 1) (by omega)).2.2.2.2 (by omega)
    have e : ((i + 1 : Nat) : Int) - 1 = (i : Int) := by omega
    rw [e] at this
    exact this
  | d + 1, i, hi => by
    have h1 := asgs_mono2 h d i (by omega)
    have := (h (i + (d + 1) + 1) (by omega)).2.2.2.2 (by omega)
    have e : ((i + (d + 1) + 1 : Nat) : Int) - 1 = ((i + d + 1 : Nat) : Int) := by omega
    rw [e] at this
    exact Int.lt_trans h1 this
theorem asgsP_sorted {sizes : List Int} {l : List Asg} (h : AsgsP sizes l) : SortedA l := by
  rw [SortedA, List.pairwise_iff_getElem]
  intro i j hi hj hij
  have := asgs_mono2 h (j - i - 1) i (by omega)
  have e : i + (j - i - 1) + 1 = j := by omega
  rw [e, nth_eq hi, nth_eq hj] at this
  exact this
theorem asgsP_mem {sizes : List Int} {l : List Asg} (h : AsgsP sizes l) {a : Asg} (ha : a ∈ l) : 0 ≤ a.1 ∧ a.1 < sizes.length ∧ 0 ≤ a.2 ∧ a.2 < nth sizes a.1 := by
  obtain ⟨i, hi, rfl⟩ := List.getElem_of_mem ha
  have := h i hi
  unfold AsgOk at this
  rw [nth_eq hi] at this
  exact ⟨this.1, this.2.1, this.2.2.1, this.2.2.2.1⟩
theorem asgsP_of {sizes : List Int} {l : List Asg} (hs : SortedA l) (hm : ∀ a, a ∈ l → 0 ≤ a.1 ∧ a.1 < sizes.length ∧ 0 ≤ a.2 ∧ a.2 < nth sizes a.1) : AsgsP sizes l := fun i hi => by
  have h1 := hm l[i] (List.getElem_mem hi)
  rw [SortedA, List.pairwise_iff_getElem] at hs
  unfold AsgOk
  rw [nth_eq hi]
  refine ⟨h1.1, h1.2.1, h1.2.2.1, h1.2.2.2, fun h0 => ?_⟩
  have e : (i : Int) - 1 = ((i - 1 : Nat) : Int) := by omega
  rw [e, nth_eq (by omega)]
  exact hs (i - 1) i (by omega) hi (by omega)
theorem sortedA_ext : ∀ {l l' : List Asg}, SortedA l → SortedA l' → (∀ a, a ∈ l ↔ a ∈ l') → l = l'
  | [], [], _, _, _ => rfl
  | [], b :: l', _, _, h => by have := (h b).2 (by simp); simp at this
  | a :: l, [], _, _, h => by have := (h a).1 (by simp); simp at this
  | a :: l, b :: l', hs, hs', h => by
    rw [SortedA, List.pairwise_cons] at hs hs'
    have h1 : a = b := by
      have ha := (h a).1 (by simp)
      have hb := (h b).2 (by simp)
      simp only [List.mem_cons] at ha hb
      rcases ha with ha | ha
      · exact ha
      · rcases hb with hb | hb
        · exact hb.symm
        · have := hs.1 b hb; have := hs'.1 a ha; omega
    subst h1
    have h2 : l = l' := sortedA_ext hs.2 hs'.2 fun x => by
      have hx := h x
      simp only [List.mem_cons] at hx
      constructor
      · intro hl
        rcases hx.1 (.inr hl) with e | h
        · subst e; have := hs.1 x hl; omega
        · exact h
      · intro hl
        rcases hx.2 (.inr hl) with e | h
        · subst e; have := hs'.1 x hl; omega
        · exact h
    rw [h2]
theorem sortedA_uniq {l : List Asg} (hs : SortedA l) {a b : Asg} (ha : a ∈ l) (hb : b ∈ l) (h : a.1 = b.1) : a = b := by
  induction l with
  | nil => simp at ha
  | cons x l ih =>
    rw [SortedA, List.pairwise_cons] at hs
    simp only [List.mem_cons] at ha hb
    rcases ha with rfl | ha <;> rcases hb with rfl | hb
    · rfl
    · have := hs.1 b hb; omega
    · have := hs.1 a ha; omega
    · exact ih hs.2 ha hb

/-! ### What a pattern leaves of assignments -/
theorem mem_matchR {a x : Asg} {vars : List Int} : ∀ {k : Nat}, x ∈ matchR a vars k ↔ ∃ j : Nat, j < k ∧ a.1 = nth vars j ∧ x = ((j : Int), a.2)
  | 0 => by simp [matchR]
  | k + 1 => by
    simp only [matchR]
    constructor
    · intro h
      split at h
      · simp only [List.mem_append, List.mem_singleton] at h
        rcases h with h | h
        · obtain ⟨j, h1, h2⟩ := mem_matchR.1 h; exact ⟨j, by omega, h2⟩
        · exact ⟨k, by omega, by assumption, h⟩
      · obtain ⟨j, h1, h2⟩ := mem_matchR.1 h; exact ⟨j, by omega, h2⟩
    · rintro ⟨j, h1, h2, h3⟩
      by_cases hj : j = k
      · subst hj
        rw [if_pos h2]; simp [h3]
      · have := mem_matchR.2 ⟨j, (by omega : j < k), h2, h3⟩
        split
        · simp [this]
        · exact this
theorem mem_restrictTo {x : Asg} {l : List Asg} {vars : List Int} : ∀ {k : Nat}, x ∈ restrictTo l vars k ↔ ∃ i : Nat, i < k ∧ ∃ j : Nat, j < vars.length ∧ (nth l i).1 = nth vars j ∧ x = ((j : Int), (nth l i).2)
  | 0 => by simp [restrictTo]
  | k + 1 => by
    simp only [restrictTo, List.mem_append, mem_restrictTo (k := k), mem_matchR]
    constructor
    · rintro (⟨i, h1, h2⟩ | h)
      · exact ⟨i, by omega, h2⟩
      · exact ⟨k, by omega, h⟩
    · rintro ⟨i, h1, h2⟩
      by_cases hi : i = k
      · subst hi; exact .inr h2
      · exact .inl ⟨i, by omega, h2⟩
theorem mem_matchK {v i : Int} {x : Asg} {l : List Asg} : ∀ {k : Nat}, x ∈ matchK v i l k ↔ ∃ j : Nat, j < k ∧ (nth l j).1 = v ∧ x = (i, (nth l j).2)
  | 0 => by simp [matchK]
  | k + 1 => by
    simp only [matchK]
    constructor
    · intro h
      split at h
      · simp only [List.mem_append, List.mem_singleton] at h
        rcases h with h | h
        · obtain ⟨j, h1, h2⟩ := mem_matchK.1 h; exact ⟨j, by omega, h2⟩
        · exact ⟨k, by omega, by assumption, h⟩
      · obtain ⟨j, h1, h2⟩ := mem_matchK.1 h; exact ⟨j, by omega, h2⟩
    · rintro ⟨j, h1, h2, h3⟩
      by_cases hj : j = k
      · subst hj
        rw [if_pos h2]; simp [h3]
      · have := mem_matchK.2 ⟨j, (by omega : j < k), h2, h3⟩
        split
        · simp [this]
        · exact this
theorem mem_keptTo {x : Asg} {l : List Asg} {vars : List Int} : ∀ {k : Nat}, x ∈ keptTo l vars k ↔ ∃ i : Nat, i < k ∧ ∃ j : Nat, j < l.length ∧ (nth l j).1 = nth vars i ∧ x = ((i : Int), (nth l j).2)
  | 0 => by simp [keptTo]
  | k + 1 => by
    simp only [keptTo, List.mem_append, mem_keptTo (k := k), mem_matchK]
    constructor
    · rintro (⟨i, h1, h2⟩ | h)
      · exact ⟨i, by omega, h2⟩
      · exact ⟨k, by omega, h⟩
    · rintro ⟨i, h1, h2⟩
      by_cases hi : i = k
      · subst hi; exact .inr h2
      · exact .inl ⟨i, by omega, h2⟩
theorem pat_mono {sizes vars : List Int} (h : PatP sizes vars) : ∀ (d i : Nat), i + d + 1 < vars.length → nth vars i < nth vars (i + d + 1 : Nat)
  | 0, i, hi => by
    have := (h (i + 1) (by omega)).2.2 (by omega)
    have e : ((i + 1 : Nat) : Int) - 1 = (i : Int) := by omega
    rw [e] at this
    exact this
  | d + 1, i, hi => by
    have h1 := pat_mono h d i (by omega)
    have := (h (i + (d + 1) + 1) (by omega)).2.2 (by omega)
    have e : ((i + (d + 1) + 1 : Nat) : Int) - 1 = ((i + d + 1 : Nat) : Int) := by omega
    rw [e] at this
    exact Int.lt_trans h1 this
theorem pat_lt {sizes vars : List Int} (h : PatP sizes vars) {i j : Nat} (hij : i < j) (hj : j < vars.length) : nth vars i < nth vars j := by
  have := pat_mono h (j - i - 1) i (by omega)
  have e : i + (j - i - 1) + 1 = j := by omega
  rwa [e] at this
theorem pat_lt' {sizes vars : List Int} (h : PatP sizes vars) {i j : Nat} (hi : i < vars.length) (hj : j < vars.length) (hl : nth vars i < nth vars j) : i < j := by
  rcases Nat.lt_trichotomy i j with h1 | h1 | h1
  · exact h1
  · subst h1; omega
  · have := pat_lt h h1 hi; omega
theorem pat_inj {sizes vars : List Int} (h : PatP sizes vars) {i j : Nat} (hi : i < vars.length) (hj : j < vars.length) (hl : nth vars i = nth vars j) : i = j := by
  rcases Nat.lt_trichotomy i j with h1 | h1 | h1
  · have := pat_lt h h1 hj; omega
  · exact h1
  · have := pat_lt h h1 hi; omega
theorem sorted_get {l : List Asg} (hs : SortedA l) {i j : Nat} (hij : i < j) (hj : j < l.length) : (nth l i).1 < (nth l j).1 := by
  rw [SortedA, List.pairwise_iff_getElem] at hs
  rw [nth_eq (by omega), nth_eq hj]
  exact hs i j (by omega) hj hij
theorem matchR_sorted {a : Asg} {vars : List Int} : ∀ {k : Nat}, SortedA (matchR a vars k)
  | 0 => by simp [matchR]
  | k + 1 => by
    simp only [matchR]
    split
    · rw [SortedA, List.pairwise_append]
      refine ⟨matchR_sorted, by simp, fun x hx y hy => ?_⟩
      obtain ⟨j, h1, _, h3⟩ := mem_matchR.1 hx
      simp at hy
      subst hy; subst h3
      simp; omega
    · exact matchR_sorted
theorem restrictTo_sorted {sizes vars : List Int} (hp : PatP sizes vars) {l : List Asg} (hs : SortedA l) : ∀ {k : Nat}, k ≤ l.length → SortedA (restrictTo l vars k)
  | 0, _ => by simp [restrictTo]
  | k + 1, hk => by
    simp only [restrictTo]
    rw [SortedA, List.pairwise_append]
    refine ⟨restrictTo_sorted hp hs (by omega), matchR_sorted, fun x hx y hy => ?_⟩
    obtain ⟨i, h1, j, h2, h3, h4⟩ := mem_restrictTo.1 hx
    obtain ⟨j', h2', h3', h4'⟩ := mem_matchR.1 hy
    subst h4; subst h4'
    have := sorted_get hs h1 (by omega)
    rw [h3, h3'] at this
    have := pat_lt' hp h2 h2' this
    show (j : Int) < (j' : Int)
    omega
theorem matchK_sorted {v i : Int} {l : List Asg} (hs : SortedA l) : ∀ {k : Nat}, k ≤ l.length → SortedA (matchK v i l k)
  | 0, _ => by simp [matchK]
  | k + 1, hk => by
    simp only [matchK]
    split
    · rename_i hv
      rw [SortedA, List.pairwise_append]
      refine ⟨matchK_sorted hs (by omega), by simp, fun x hx y hy => ?_⟩
      obtain ⟨j, h1, h2, _⟩ := mem_matchK.1 hx
      have := sorted_get hs h1 (by omega)
      omega
    · exact matchK_sorted hs (by omega)
theorem keptTo_sorted {vars : List Int} {l : List Asg} (hs : SortedA l) : ∀ {k : Nat}, SortedA (keptTo l vars k)
  | 0 => by simp [keptTo]
  | k + 1 => by
    simp only [keptTo]
    rw [SortedA, List.pairwise_append]
    refine ⟨keptTo_sorted hs, matchK_sorted hs (Nat.le_refl _), fun x hx y hy => ?_⟩
    obtain ⟨i, h1, j, h2, h3, h4⟩ := mem_keptTo.1 hx
    obtain ⟨j', h2', h3', h4'⟩ := mem_matchK.1 hy
    subst h4; subst h4'
    show (i : Int) < (k : Int)
    omega
/-- What a pattern leaves of a list of assignments. -/
def restr (l : List Asg) (vars : List Int) : List Asg := restrictTo l vars l.length
theorem mem_restr {x : Asg} {l : List Asg} {vars : List Int} : x ∈ restr l vars ↔ ∃ a, a ∈ l ∧ ∃ j : Nat, j < vars.length ∧ a.1 = nth vars j ∧ x = ((j : Int), a.2) := by
  unfold restr
  rw [mem_restrictTo]
  constructor
  · rintro ⟨i, h1, j, h2, h3, h4⟩
    exact ⟨nth l i, nth_mem (by omega) (by omega), j, h2, h3, h4⟩
  · rintro ⟨a, ha, j, h2, h3, h4⟩
    obtain ⟨i, hi, rfl⟩ := List.getElem_of_mem ha
    exact ⟨i, hi, j, h2, by rw [nth_eq hi]; exact h3, by rw [nth_eq hi]; exact h4⟩
theorem kept_restr {sizes vars : List Int} (hp : PatP sizes vars) {l : List Asg} (hs : SortedA l) : keptTo l vars vars.length = restr l vars :=
  sortedA_ext (keptTo_sorted hs) (restrictTo_sorted hp hs (Nat.le_refl _)) fun x => by
    rw [mem_keptTo]
    unfold restr
    rw [mem_restrictTo]
    constructor
    · rintro ⟨i, h1, j, h2, h3, h4⟩; exact ⟨j, h2, i, h1, h3, h4⟩
    · rintro ⟨i, h1, j, h2, h3, h4⟩; exact ⟨j, h2, i, h1, h3, h4⟩
theorem restr_sorted {sizes vars : List Int} (hp : PatP sizes vars) {l : List Asg} (hs : SortedA l) : SortedA (restr l vars) := restrictTo_sorted hp hs (Nat.le_refl _)

theorem selTo_end {s vars : List Int} : selTo s vars vars.length = sel s vars := by
  refine List.ext_getElem (by simp [selTo, sel]) fun i h1 h2 => ?_
  have hi : i < vars.length := by simpa [sel] using h2
  simp only [selTo, sel, List.getElem_map, List.getElem_range]
  rw [nth_eq hi]
theorem sel_len {s vars : List Int} : (sel s vars).length = vars.length := by simp [sel]
theorem nth_sel {s vars : List Int} {i : Nat} (hi : i < vars.length) : nth (sel s vars) i = nth s (nth vars i) := by
  rw [nth_eq (by rw [sel_len]; exact hi)]
  simp only [sel, List.getElem_map]
  rw [nth_eq hi]
/-- The projected task. -/
def projM (m : Multi) (vars : List Int) : Multi := ⟨sel m.sizes vars, sel m.init vars, restr m.goal vars, m.ops.map fun o => ⟨restr o.pre vars, restr o.post vars, o.cost⟩⟩
theorem projM_ops {m : Multi} {vars : List Int} : (projM m vars).ops.length = m.ops.length := by simp [projM]
theorem projM_op {m : Multi} {vars : List Int} {j : Nat} (hj : j < m.ops.length) : nth (projM m vars).ops j = ⟨restr (nth m.ops j).pre vars, restr (nth m.ops j).post vars, (nth m.ops j).cost⟩ := by
  rw [nth_eq (by rw [projM_ops]; exact hj)]
  simp only [projM, List.getElem_map]
  rw [nth_eq hj]
section
variable {sizes vars : List Int} (hp : PatP sizes vars)
include hp
theorem sel_state {s : List Int} (hs : StateP sizes s) : StateP (sel sizes vars) (sel s vars) := by
  refine ⟨by rw [sel_len, sel_len], fun v hv => ?_⟩
  rw [sel_len] at hv
  have hb := hp v hv
  rw [nth_sel hv, nth_sel hv]
  have h1 := hs.1
  have h2 := hs.2 (nth vars v).toNat (by omega)
  rw [Int.toNat_of_nonneg hb.1] at h2
  exact h2
theorem restr_asgs {l : List Asg} (h : AsgsP sizes l) : AsgsP (sel sizes vars) (restr l vars) := asgsP_of (restr_sorted hp (asgsP_sorted h)) fun a ha => by
  obtain ⟨b, hb, j, h1, h2, rfl⟩ := mem_restr.1 ha
  have h3 := asgsP_mem h hb
  have h4 : nth (sel sizes vars) (j : Int) = nth sizes (nth vars j) := nth_sel h1
  show 0 ≤ (j : Int) ∧ (j : Int) < (sel sizes vars).length ∧ 0 ≤ b.2 ∧ b.2 < nth (sel sizes vars) (j : Int)
  rw [sel_len, h4, ← h2]
  exact ⟨by omega, by omega, h3.2.2.1, h3.2.2.2⟩
theorem sel_sizes (hs : SizesP sizes) : SizesP (sel sizes vars) := fun v hv => by
  rw [sel_len] at hv
  rw [nth_sel hv]
  exact nth_size hs (hp v hv).1 (hp v hv).2.1
end
theorem valid_proj {m : Multi} {vars : List Int} (hv : Valid m) (h0 : vars.length ≠ 0) (hp : PatP m.sizes vars) : Valid (projM m vars) := {
  len := by have := pat_len hp; have := hv.len; show 1 ≤ (sel m.sizes vars).length ∧ (sel m.sizes vars).length ≤ 8; rw [sel_len]; omega
  sizes := sel_sizes hp hv.sizes
  init := sel_state hp hv.init
  goal := restr_asgs hp hv.goal
  opsLen := by rw [projM_ops]; exact hv.opsLen
  op := fun i hi => by
    rw [projM_ops] at hi
    rw [projM_op hi]
    have := hv.op i hi
    exact ⟨restr_asgs hp this.1, restr_asgs hp this.2.1, this.2.2⟩ }

theorem holds_mem {s : List Int} {l : List Asg} : holds s l = true ↔ ∀ a, a ∈ l → nth s a.1 = a.2 := by
  unfold holds
  simp only [Bool.not_eq_true', ← Bool.not_eq_true, List.any_eq_true]
  constructor
  · intro h a ha
    refine Decidable.byContradiction fun hc => h ⟨a, ha, by simp [hc]⟩
  · rintro h ⟨a, ha, hc⟩
    simp at hc
    exact hc (h a ha)
theorem holds_sel {s : List Int} {vars : List Int} {l : List Asg} (h : holds s l = true) : holds (sel s vars) (restr l vars) = true := by
  rw [holds_mem] at h ⊢
  intro a ha
  obtain ⟨b, hb, j, h1, h2, rfl⟩ := mem_restr.1 ha
  show nth (sel s vars) (j : Int) = b.2
  rw [nth_sel h1, ← h2]
  exact h b hb
theorem nextTo_at {sizes s : List Int} {l : List Asg} (hl : AsgsP sizes l) (hs : s.length = sizes.length) {v : Int} (h0 : 0 ≤ v) (h1 : v < sizes.length) : ∀ {k : Nat}, k ≤ l.length →
    (∀ i : Nat, i < k → (nth l i).1 = v → nth (nextTo s l k) v = (nth l i).2) ∧ ((∀ i : Nat, i < k → (nth l i).1 ≠ v) → nth (nextTo s l k) v = nth s v)
  | 0, _ => ⟨fun i hi => by omega, fun _ => rfl⟩
  | k + 1, hk => by
    obtain ⟨ih1, ih2⟩ := nextTo_at hl hs h0 h1 (k := k) (by omega)
    have hb := hl k (by omega)
    have hn := nextTo_len (s := s) (l := l) (k := k)
    have e : nth (nextTo s l (k + 1)) v = if v = (nth l k).1 then (nth l k).2 else nth (nextTo s l k) v := nth_setI h0 (by omega) hb.1
    rw [e]
    constructor
    · intro i hi hiv
      by_cases hik : i = k
      · subst hik; rw [if_pos hiv.symm]
      · have := sorted_get (asgsP_sorted hl) (i := i) (j := k) (by omega) (by omega)
        rw [if_neg (by omega)]
        exact ih1 i (by omega) hiv
    · intro h
      rw [if_neg (fun e => h k (by omega) e.symm)]
      exact ih2 fun i hi => h i (by omega)
theorem nextS_mem {sizes s : List Int} {l : List Asg} (hl : AsgsP sizes l) (hs : s.length = sizes.length) {a : Asg} (ha : a ∈ l) : nth (nextS s l) a.1 = a.2 := by
  have hb := asgsP_mem hl ha
  obtain ⟨i, hi, rfl⟩ := List.getElem_of_mem ha
  have := (nextTo_at hl hs hb.1 hb.2.1 (Nat.le_refl _)).1 i hi (by rw [nth_eq hi])
  rw [nth_eq hi] at this
  exact this
theorem nextS_not {sizes s : List Int} {l : List Asg} (hl : AsgsP sizes l) (hs : s.length = sizes.length) {v : Int} (h0 : 0 ≤ v) (h1 : v < sizes.length) (h : ∀ a, a ∈ l → a.1 ≠ v) : nth (nextS s l) v = nth s v :=
  (nextTo_at hl hs h0 h1 (Nat.le_refl _)).2 fun i hi => h _ (nth_mem (by omega) (by omega))
theorem nextS_len {s : List Int} {l : List Asg} : (nextS s l).length = s.length := nextTo_len
theorem sel_next {sizes vars s : List Int} (hp : PatP sizes vars) {l : List Asg} (hl : AsgsP sizes l) (hs : s.length = sizes.length) : sel (nextS s l) vars = nextS (sel s vars) (restr l vars) := by
  have hr := restr_asgs hp hl
  refine ext_get (by rw [nextS_len, sel_len, sel_len]) fun i hi => ?_
  rw [sel_len] at hi
  rw [nth_sel hi]
  have hb := hp i hi
  by_cases hc : ∃ a, a ∈ l ∧ a.1 = nth vars i
  · obtain ⟨a, ha, hv⟩ := hc
    rw [← hv, nextS_mem hl hs ha]
    have := nextS_mem hr (s := sel s vars) (by rw [sel_len, sel_len]) (a := ((i : Int), a.2)) (mem_restr.2 ⟨a, ha, i, hi, hv, rfl⟩)
    exact this.symm
  · rw [nextS_not hl hs hb.1 hb.2.1 (fun a ha e => hc ⟨a, ha, e⟩)]
    rw [nextS_not hr (s := sel s vars) (v := (i : Int)) (by rw [sel_len, sel_len]) (by omega) (by rw [sel_len]; omega) (fun a ha e => ?_), nth_sel hi]
    obtain ⟨b, hb', j, h1, h2, rfl⟩ := mem_restr.1 ha
    have e' : (j : Int) = i := e
    have : j = i := by omega
    subst this
    exact hc ⟨b, hb', h2⟩

/-! ### Costs are consistent -/
section
variable {m : Multi} (hv : Valid m)
include hv
theorem costs_ex : ∃ j, (sweep m (itC m j)).2 = false := by
  refine Classical.byContradiction fun hc => ?_
  have hall : ∀ j, (sweep m (itC m j)).2 = true := fun j => by
    cases h : (sweep m (itC m j)).2 with
    | true => rfl
    | false => exact (hc ⟨j, h⟩).elim
  have hdown : ∀ j : Nat, (itC m j).sum + j ≤ (itC m 0).sum := fun j => by
    induction j with
    | zero => simp
    | succ j ih =>
      rcases itC_next hv j with ⟨a, _⟩ | ⟨_, b⟩
      · rw [hall j] at a; cases a
      · omega
  have h1 := hdown ((itC m 0).sum.toNat + 1)
  have h2 := sum_good hv (itC_good hv ((itC m 0).sum.toNat + 1))
  omega
omit hv in
theorem stepC_flag {c : List Int × Bool} {n j : Nat} (h : (stepC m c n j).2 = false) (hh : c.2 = false) : stepC m c n j = c := by
  unfold stepC at h ⊢
  split at h
  · rename_i hp
    rw [if_pos hp]
    split at h
    · cases h
    · rename_i hk; rw [if_neg hk]
  · rename_i hp; rw [if_neg hp]
omit hv in
theorem stepC_true {c : List Int × Bool} {n j : Nat} (hh : c.2 = true) : (stepC m c n j).2 = true := by
  unfold stepC
  split
  · split
    · rfl
    · exact hh
  · exact hh
omit hv in
theorem opsTo_true {c : List Int × Bool} {n : Nat} (hh : c.2 = true) : ∀ k : Nat, (opsTo m c n k).2 = true
  | 0 => hh
  | k + 1 => stepC_true (opsTo_true hh k)
omit hv in
theorem opsTo_flag {c : List Int × Bool} {n : Nat} : ∀ {k : Nat}, (opsTo m c n k).2 = false → c.2 = false ∧ opsTo m c n k = c ∧ ∀ j : Nat, j < k → stepC m c n j = c
  | 0, h => ⟨h, rfl, fun j hj => by omega⟩
  | k + 1, h => by
    have h1 : (opsTo m c n k).2 = false := by
      cases hf : (opsTo m c n k).2 with
      | false => rfl
      | true => have := stepC_true (m := m) (n := n) (j := k) hf; have h' : (stepC m (opsTo m c n k) n k).2 = false := h; rw [this] at h'; cases h'
    obtain ⟨a, b, d⟩ := opsTo_flag h1
    have h2 : stepC m (opsTo m c n k) n k = opsTo m c n k := stepC_flag h h1
    refine ⟨a, by show stepC m (opsTo m c n k) n k = c; rw [h2, b], fun j hj => ?_⟩
    by_cases hjk : j = k
    · subst hjk; rw [b] at h2; exact h2
    · exact d j (by omega)
omit hv in
theorem sweepTo_flag {c : List Int} : ∀ {k : Nat}, (sweepTo m c k).2 = false → sweepTo m c k = (c, false) ∧ ∀ n : Nat, n < k → ∀ j : Nat, j < m.ops.length → stepC m (c, false) n j = (c, false)
  | 0, h => ⟨rfl, fun n hn => by omega⟩
  | k + 1, h => by
    obtain ⟨a, b, d⟩ := opsTo_flag (c := sweepTo m c k) h
    obtain ⟨e, f⟩ := sweepTo_flag a
    refine ⟨by show opsTo m (sweepTo m c k) k m.ops.length = _; rw [b, e], fun n hn j hj => ?_⟩
    by_cases hnk : n = k
    · subst hnk; have := d j hj; rwa [e] at this
    · exact f n (by omega) j hj
/-- No step decreases the costs by more than it costs. -/
theorem costs_tri {s : List Int} (hs : StateP m.sizes s) {j : Nat} (hj : j < m.ops.length) (hp : holds s (nth m.ops j).pre = true) :
    nth (costs m) (rank m.sizes s) ≤ nth (costs m) (rank m.sizes (nextS s (nth m.ops j).post)) + (nth m.ops j).cost := by
  obtain ⟨i, hi⟩ := costs_ex hv
  have hc := costs_of hv hi
  obtain ⟨_, h2⟩ := sweepTo_flag hi
  obtain ⟨e1, e2⟩ := unrank_toNat hv.sizes hs
  have h3 := h2 _ e2 j hj
  have hr := rank_in hv.sizes hs
  have hst : stAt m (rank m.sizes s).toNat = s := e1
  have hg := costs_good hv
  have hN := nR_in hv
  have hb := hg.2 _ hr.1 (by omega)
  have ho := (hv.op j hj).2.2.1
  rw [hc] at h3
  refine Decidable.byContradiction fun hcon => ?_
  have h4 : nth (costs m) (rkAt m (rank m.sizes s).toNat j) < 1000000000 ∧ nth (costs m) (rkAt m (rank m.sizes s).toNat j) + (nth m.ops j).cost < nth (costs m) ((rank m.sizes s).toNat : Int) := by
    unfold rkAt
    rw [hst, Int.toNat_of_nonneg hr.1]
    omega
  unfold stepC at h3
  rw [if_pos (by rw [hst]; exact hp), if_pos h4] at h3
  have h5 := congrArg Prod.snd h3
  cases h5
theorem costs_goal {s : List Int} (hs : StateP m.sizes s) (hh : holds s m.goal = true) : nth (costs m) (rank m.sizes s) = 0 := by
  have hg := costs_good hv
  have hN := nR_in hv
  have hr := rank_in hv.sizes hs
  have hb := hg.2 _ hr.1 (by omega)
  obtain ⟨i, hi⟩ := costs_ex hv
  have hc := costs_of hv hi
  obtain ⟨e1, e2⟩ := unrank_toNat hv.sizes hs
  have key := (itC_keep hv (q := fun c => nth c ((rank m.sizes s).toNat : Int) ≤ 0) (by
    rw [nth_eq (by rw [initC_len]; exact e2)]
    simp only [initC, List.getElem_map, List.getElem_range]
    rw [if_pos (by show holds (unrank m.sizes _) m.goal = true; rw [e1]; exact hh)]
    omega) (fun c n j hn hj hg hq _ _ hlt => by
      rw [nth_setI (by omega) (by rw [hg.1]; unfold nR; omega) (by omega)]
      split
      · rename_i e; rw [← e] at hlt; omega
      · exact hq) i).2
  rw [hc, Int.toNat_of_nonneg hr.1] at key
  omega
end
/-- The costs of a projection are at most those of the task. -/
theorem proj_le {m : Multi} {vars : List Int} (hv : Valid m) (h0 : vars.length ≠ 0) (hp : PatP m.sizes vars) {s : List Int} (hs : StateP m.sizes s) :
    nth (costs (projM m vars)) (rank (projM m vars).sizes (sel s vars)) ≤ nth (costs m) (rank m.sizes s) := by
  have hv' := valid_proj hv h0 hp
  refine costs_ge hv (f := fun s => nth (costs (projM m vars)) (rank (projM m vars).sizes (sel s vars))) (fun s hs => ?_) (fun s hs hh => ?_) (fun s hs j hj hpre => ?_) hs
  · have hst : StateP (projM m vars).sizes (sel s vars) := sel_state hp hs
    have hr := rank_in hv'.sizes hst
    have hN := nR_in hv'
    exact ((costs_good hv').2 _ hr.1 (by omega)).2
  · have := costs_goal hv' (sel_state hp hs) (holds_sel hh)
    show nth (costs (projM m vars)) _ ≤ 0
    exact Int.le_of_eq this
  · have := costs_tri hv' (sel_state hp hs) (j := j) (by rw [projM_ops]; exact hj) (by rw [projM_op hj]; exact holds_sel hpre)
    rw [projM_op hj] at this
    show nth (costs (projM m vars)) (rank (projM m vars).sizes (sel s vars)) ≤ nth (costs (projM m vars)) (rank (projM m vars).sizes (sel (nextS s _) vars)) + _
    rw [sel_next hp (hv.op j hj).2.1 hs.1]
    exact this
/-- The pattern of all variables. -/
def allV (n : Nat) : List Int := (List.range n).map fun (i : Nat) => (i : Int)
theorem allV_len {n : Nat} : (allV n).length = n := by simp [allV]
theorem nth_allV {n i : Nat} (hi : i < n) : nth (allV n) i = i := by rw [nth_eq (by rw [allV_len]; exact hi)]; simp [allV]
theorem sel_all {s : List Int} : sel s (allV s.length) = s := ext_get (by rw [sel_len, allV_len]) fun i hi => by
  rw [sel_len, allV_len] at hi
  rw [nth_sel (by rw [allV_len]; exact hi), nth_allV hi]
theorem allV_pat {sizes : List Int} : PatP sizes (allV sizes.length) := fun i hi => by
  rw [allV_len] at hi
  unfold PatOk
  rw [nth_allV hi]
  refine ⟨by omega, by omega, fun h0 => ?_⟩
  have e : (i : Int) - 1 = ((i - 1 : Nat) : Int) := by omega
  rw [e, nth_allV (by omega)]
  omega
theorem restr_all {sizes : List Int} {l : List Asg} (h : AsgsP sizes l) : restr l (allV sizes.length) = l :=
  sortedA_ext (restr_sorted allV_pat (asgsP_sorted h)) (asgsP_sorted h) fun x => by
    rw [mem_restr]
    constructor
    · rintro ⟨a, ha, j, h1, h2, rfl⟩
      rw [allV_len] at h1
      rw [nth_allV h1] at h2
      rw [← h2]; exact ha
    · intro hx
      have hb := asgsP_mem h hx
      refine ⟨x, hx, x.1.toNat, by rw [allV_len]; omega, ?_, ?_⟩
      · rw [nth_allV (by omega)]; omega
      · rw [Int.toNat_of_nonneg hb.1]
theorem projM_all {m : Multi} (hv : Valid m) : projM m (allV m.sizes.length) = m := by
  have h1 : sel m.init (allV m.sizes.length) = m.init := by rw [← hv.init.1]; exact sel_all
  have h2 : (m.ops.map fun o => (⟨restr o.pre (allV m.sizes.length), restr o.post (allV m.sizes.length), o.cost⟩ : MOp)) = m.ops := by
    refine List.ext_getElem (by simp) fun i hi1 hi2 => ?_
    have ho := hv.op i hi2
    rw [nth_eq hi2] at ho
    simp only [List.getElem_map]
    rw [restr_all ho.1, restr_all ho.2.1]
  show Multi.mk _ _ _ _ = m
  rw [sel_all, h1, restr_all hv.goal, h2]
/-- A pattern inside another one: where its variables stand. -/
def posIn (W vars : List Int) : List Int := vars.map fun v => ((W.idxOf v : Nat) : Int)
section
variable {sizes W vars : List Int} (hW : PatP sizes W) (hp : PatP sizes vars) (hin : ∀ i : Nat, i < vars.length → nth vars i ∈ W)
include hin
theorem posIn_len : (posIn W vars).length = vars.length := by simp [posIn]
theorem posIn_at {i : Nat} (hi : i < vars.length) : ∃ j : Nat, j < W.length ∧ nth (posIn W vars) i = j ∧ nth W j = nth vars i := by
  have h1 := hin i hi
  refine ⟨W.idxOf (nth vars i), List.idxOf_lt_length_of_mem h1, ?_, ?_⟩
  · rw [nth_eq (by simp [posIn]; exact hi)]
    simp only [posIn, List.getElem_map]
    rw [nth_eq hi]
  · rw [nth_eq (List.idxOf_lt_length_of_mem h1)]
    exact List.getElem_idxOf _
theorem sel_pos {s : List Int} : sel (sel s W) (posIn W vars) = sel s vars := ext_get (by simp [sel, posIn]) fun i hi => by
  rw [sel_len, posIn_len hin] at hi
  obtain ⟨j, h1, h2, h3⟩ := posIn_at hin hi
  rw [nth_sel (by rw [posIn_len hin]; exact hi), nth_sel hi, h2, nth_sel h1, h3]
include hW hp
theorem posIn_pat : PatP (sel sizes W) (posIn W vars) := fun i hi => by
  rw [posIn_len hin] at hi
  obtain ⟨j, h1, h2, h3⟩ := posIn_at hin hi
  unfold PatOk
  rw [h2, sel_len]
  refine ⟨by omega, by omega, fun h0 => ?_⟩
  have e : (i : Int) - 1 = ((i - 1 : Nat) : Int) := by omega
  obtain ⟨j', h1', h2', h3'⟩ := posIn_at hin (i := i - 1) (by omega)
  rw [e, h2']
  have := pat_lt hp (i := i - 1) (j := i) (by omega) hi
  rw [← h3, ← h3'] at this
  have := pat_lt' hW h1' h1 this
  omega
theorem restr_pos {l : List Asg} (h : AsgsP sizes l) : restr (restr l W) (posIn W vars) = restr l vars :=
  sortedA_ext (restr_sorted (posIn_pat hW hp hin) (restr_sorted hW (asgsP_sorted h))) (restr_sorted hp (asgsP_sorted h)) fun x => by
    rw [mem_restr, mem_restr]
    constructor
    · rintro ⟨a, ha, i, h1, h2, rfl⟩
      obtain ⟨b, hb, j, h3, h4, rfl⟩ := mem_restr.1 ha
      rw [posIn_len hin] at h1
      obtain ⟨j', h1', h2', h3'⟩ := posIn_at hin h1
      have e : (j : Int) = (j' : Int) := by rw [← h2']; exact h2
      have e : j = j' := by omega
      subst e
      exact ⟨b, hb, i, h1, by rw [h4, h3'], rfl⟩
    · rintro ⟨b, hb, i, h1, h2, rfl⟩
      obtain ⟨j', h1', h2', h3'⟩ := posIn_at hin h1
      exact ⟨((j' : Int), b.2), mem_restr.2 ⟨b, hb, j', h1', by rw [h2, h3'], rfl⟩, i, by rw [posIn_len hin]; exact h1, h2'.symm, rfl⟩
end
theorem projM_pos {m : Multi} {W vars : List Int} (hv : Valid m) (hW : PatP m.sizes W) (hp : PatP m.sizes vars) (hin : ∀ i : Nat, i < vars.length → nth vars i ∈ W) : projM (projM m W) (posIn W vars) = projM m vars := by
  have h2 : ((m.ops.map fun o => (⟨restr o.pre W, restr o.post W, o.cost⟩ : MOp)).map fun o => (⟨restr o.pre (posIn W vars), restr o.post (posIn W vars), o.cost⟩ : MOp)) = m.ops.map fun o => (⟨restr o.pre vars, restr o.post vars, o.cost⟩ : MOp) := by
    refine List.ext_getElem (by simp) fun i hi1 hi2 => ?_
    have hi : i < m.ops.length := by simpa using hi2
    have ho := hv.op i hi
    rw [nth_eq hi] at ho
    simp only [List.getElem_map]
    rw [restr_pos hW hp hin ho.1, restr_pos hW hp hin ho.2.1]
  show Multi.mk (sel (sel m.sizes W) (posIn W vars)) (sel (sel m.init W) (posIn W vars)) (restr (restr m.goal W) (posIn W vars)) _ = Multi.mk _ _ _ _
  rw [sel_pos hin, sel_pos hin, restr_pos hW hp hin hv.goal]
  exact congrArg _ h2
/-- A greater pattern has no smaller costs. -/
theorem proj_mono {m : Multi} {W vars : List Int} (hv : Valid m) (hW0 : W.length ≠ 0) (h0 : vars.length ≠ 0) (hW : PatP m.sizes W) (hp : PatP m.sizes vars) (hin : ∀ i : Nat, i < vars.length → nth vars i ∈ W) {s : List Int} (hs : StateP m.sizes s) :
    nth (costs (projM m vars)) (rank (projM m vars).sizes (sel s vars)) ≤ nth (costs (projM m W)) (rank (projM m W).sizes (sel s W)) := by
  have h := proj_le (valid_proj hv hW0 hW) (vars := posIn W vars) (by rw [posIn_len hin]; exact h0) (posIn_pat hW hp hin) (sel_state hW hs)
  rw [projM_pos hv hW hp hin, sel_pos hin] at h
  exact h
/-- An operator decreases the projection's cost by at most its own. -/
theorem proj_tri {m : Multi} {vars : List Int} (hv : Valid m) (h0 : vars.length ≠ 0) (hp : PatP m.sizes vars) {s : List Int} (hs : StateP m.sizes s) {j : Nat} (hj : j < m.ops.length) (hpre : holds s (nth m.ops j).pre = true) :
    nth (costs (projM m vars)) (rank (projM m vars).sizes (sel s vars)) ≤ nth (costs (projM m vars)) (rank (projM m vars).sizes (sel (nextS s (nth m.ops j).post) vars)) + (nth m.ops j).cost := by
  have hv' := valid_proj hv h0 hp
  have := costs_tri hv' (sel_state hp hs) (j := j) (by rw [projM_ops]; exact hj) (by rw [projM_op hj]; exact holds_sel hpre)
  rw [projM_op hj] at this
  rw [sel_next hp (hv.op j hj).2.1 hs.1]
  exact this
theorem prodTo_ranks {sizes vars : List Int} : ∀ {k : Nat}, k ≤ vars.length → prodTo sizes vars k = ranksTo (sel sizes vars) k
  | 0, _ => rfl
  | k + 1, hk => by
    simp only [prodTo, ranksTo]
    rw [prodTo_ranks (k := k) (by omega), nth_sel (by omega)]
theorem prod_ranks {m : Multi} {vars : List Int} : prodTo m.sizes vars vars.length = ranks (projM m vars).sizes := by
  unfold ranks
  rw [prodTo_ranks (Nat.le_refl _)]
  show _ = ranksTo (sel m.sizes vars) (sel m.sizes vars).length
  rw [sel_len]
end Go.Eng
