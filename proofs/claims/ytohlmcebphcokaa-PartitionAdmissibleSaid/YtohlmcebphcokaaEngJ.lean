/- The costs of all states: the sweeps, and what bounds them from below. Plain functions behind project's laws: patterns and what they leave. -/
import Derived.Test.YtohlmcebphcokaaEngR
set_option linter.unusedVariables false
set_option linter.unusedSimpArgs false
set_option linter.unusedSectionVars false
namespace Go.Eng
open Go

abbrev stAt (m : Multi) (n : Nat) : List Int := unrank m.sizes n
/-- The rank behind an operator. -/
def rkAt (m : Multi) (n j : Nat) : Int := rank m.sizes (nextS (stAt m n) (nth m.ops j).post)
def initC (m : Multi) (k : Nat) : List Int := (List.range k).map fun n => if holds (stAt m n) m.goal = true then 0 else 1000000000
def stepC (m : Multi) (c : List Int × Bool) (n j : Nat) : List Int × Bool :=
  if holds (stAt m n) (nth m.ops j).pre = true then
    if nth c.1 (rkAt m n j) < 1000000000 ∧ nth c.1 (rkAt m n j) + (nth m.ops j).cost < nth c.1 n then (setI c.1 n (nth c.1 (rkAt m n j) + (nth m.ops j).cost), true) else c
  else c
def opsTo (m : Multi) (c : List Int × Bool) (n : Nat) : Nat → List Int × Bool
  | 0 => c
  | j + 1 => stepC m (opsTo m c n j) n j
def sweepTo (m : Multi) (c : List Int) : Nat → List Int × Bool
  | 0 => (c, false)
  | n + 1 => opsTo m (sweepTo m c n) n m.ops.length
def nR (m : Multi) : Nat := (ranks m.sizes).toNat
def sweep (m : Multi) (c : List Int) : List Int × Bool := sweepTo m c (nR m)
def itC (m : Multi) : Nat → List Int
  | 0 => initC m (nR m)
  | j + 1 => (sweep m (itC m j)).1
open Classical in
noncomputable def costs (m : Multi) : List Int := if h : ∃ j, (sweep m (itC m j)).2 = false then itC m (Classical.choose h) else List.replicate (nR m) 1000000000

theorem initC_len {m : Multi} {k : Nat} : (initC m k).length = k := by simp [initC]
theorem initC_s {m : Multi} {k : Nat} : initC m (k + 1) = initC m k ++ [if holds (stAt m k) m.goal = true then 0 else 1000000000] := by simp [initC, List.range_succ]

section
variable {m : Multi} (hv : Valid m)
theorem nR_in (hv : Valid m) : 1 ≤ nR m ∧ nR m ≤ 1679616 ∧ (nR m : Int) = ranks m.sizes := by
  have := ranks_in hv
  unfold nR
  omega
include hv
theorem st_state {n : Nat} : StateP m.sizes (stAt m n) := unrank_state hv.sizes
theorem rkAt_in {n j : Nat} (hj : j < m.ops.length) : 0 ≤ rkAt m n j ∧ rkAt m n j < nR m := by
  have := rank_in hv.sizes (nextS_in (st_state hv (n := n)) (hv.op j hj).2.1)
  have h2 := nR_in hv
  unfold rkAt
  omega
def GoodC (m : Multi) (c : List Int) : Prop := c.length = nR m ∧ ∀ n : Int, 0 ≤ n → n < nR m → 0 ≤ nth c n ∧ nth c n ≤ 1000000000
theorem initC_good : GoodC m (initC m (nR m)) := by
  refine ⟨initC_len, fun n h0 h1 => ?_⟩
  have e : nth (initC m (nR m)) n = nth (initC m (nR m)) (n.toNat : Int) := by rw [Int.toNat_of_nonneg h0]
  rw [e, nth_eq (by rw [initC_len]; omega)]
  simp only [initC, List.getElem_map, List.getElem_range]
  split <;> omega
/-- What one step keeps. -/
theorem stepC_keep {q : List Int → Prop} {c : List Int × Bool} {n j : Nat} (hj : j < m.ops.length) (hg : GoodC m c.1) (hq : q c.1) (hn : n < nR m)
    (hs : holds (stAt m n) (nth m.ops j).pre = true → nth c.1 (rkAt m n j) < 1000000000 → nth c.1 (rkAt m n j) + (nth m.ops j).cost < nth c.1 n → q (setI c.1 n (nth c.1 (rkAt m n j) + (nth m.ops j).cost))) :
    GoodC m (stepC m c n j).1 ∧ q (stepC m c n j).1 := by
  unfold stepC
  split
  · rename_i hp
    split
    · rename_i hk
      refine ⟨⟨by rw [setI_len]; exact hg.1, fun i h0 h1 => ?_⟩, hs hp hk.1 hk.2⟩
      have hr := rkAt_in hv (n := n) hj
      have h2 := hg.2 _ hr.1 hr.2
      have h3 := hg.2 n (by omega) (by omega)
      have h4 := hg.2 i h0 h1
      have ho := (hv.op j hj).2.2
      show 0 ≤ nth (setI c.1 n _) i ∧ _
      rw [nth_setI h0 (by rw [hg.1]; exact h1) (by omega)]
      split <;> omega
    · exact ⟨hg, hq⟩
  · exact ⟨hg, hq⟩
theorem opsTo_keep {q : List Int → Prop} {c : List Int × Bool} {n : Nat} (hg : GoodC m c.1) (hq : q c.1) (hn : n < nR m)
    (hs : ∀ (c : List Int) (j : Nat), j < m.ops.length → GoodC m c → q c → holds (stAt m n) (nth m.ops j).pre = true → nth c (rkAt m n j) < 1000000000 → nth c (rkAt m n j) + (nth m.ops j).cost < nth c n → q (setI c n (nth c (rkAt m n j) + (nth m.ops j).cost))) :
    ∀ {k : Nat}, k ≤ m.ops.length → GoodC m (opsTo m c n k).1 ∧ q (opsTo m c n k).1
  | 0, _ => ⟨hg, hq⟩
  | k + 1, hk => by
    obtain ⟨h1, h2⟩ := opsTo_keep hg hq hn hs (k := k) (by omega)
    exact stepC_keep hv (by omega) h1 h2 hn (fun hp a b => hs _ k (by omega) h1 h2 hp a b)
theorem sweepTo_keep {q : List Int → Prop} {c : List Int} (hg : GoodC m c) (hq : q c)
    (hs : ∀ (c : List Int) (n j : Nat), n < nR m → j < m.ops.length → GoodC m c → q c → holds (stAt m n) (nth m.ops j).pre = true → nth c (rkAt m n j) < 1000000000 → nth c (rkAt m n j) + (nth m.ops j).cost < nth c n → q (setI c n (nth c (rkAt m n j) + (nth m.ops j).cost))) :
    ∀ {k : Nat}, k ≤ nR m → GoodC m (sweepTo m c k).1 ∧ q (sweepTo m c k).1
  | 0, _ => ⟨hg, hq⟩
  | k + 1, hk => by
    obtain ⟨h1, h2⟩ := sweepTo_keep hg hq hs (k := k) (by omega)
    exact opsTo_keep hv h1 h2 (by omega) (fun c j hj a b d e f => hs c k j (by omega) hj a b d e f) (Nat.le_refl _)
theorem itC_keep {q : List Int → Prop} (hq : q (initC m (nR m)))
    (hs : ∀ (c : List Int) (n j : Nat), n < nR m → j < m.ops.length → GoodC m c → q c → holds (stAt m n) (nth m.ops j).pre = true → nth c (rkAt m n j) < 1000000000 → nth c (rkAt m n j) + (nth m.ops j).cost < nth c n → q (setI c n (nth c (rkAt m n j) + (nth m.ops j).cost))) :
    ∀ j : Nat, GoodC m (itC m j) ∧ q (itC m j)
  | 0 => ⟨initC_good hv, hq⟩
  | j + 1 => by
    obtain ⟨h1, h2⟩ := itC_keep hq hs j
    exact sweepTo_keep hv h1 h2 hs (Nat.le_refl _)
theorem itC_good (j : Nat) : GoodC m (itC m j) := (itC_keep hv (q := fun _ => True) trivial (fun _ _ _ _ _ _ _ _ _ _ => trivial) j).1
theorem sweepTo_good {c : List Int} (hg : GoodC m c) {k : Nat} (hk : k ≤ nR m) : GoodC m (sweepTo m c k).1 := (sweepTo_keep hv (q := fun _ => True) hg trivial (fun _ _ _ _ _ _ _ _ _ _ => trivial) hk).1
theorem opsTo_good {c : List Int × Bool} {n : Nat} (hg : GoodC m c.1) (hn : n < nR m) {k : Nat} (hk : k ≤ m.ops.length) : GoodC m (opsTo m c n k).1 := (opsTo_keep hv (q := fun _ => True) hg trivial hn (fun _ _ _ _ _ _ _ _ => trivial) hk).1
end

/-! ### The sum goes down -/
theorem sum_set : ∀ {l : List Int} {i : Nat} {x : Int} (h : i < l.length), (l.set i x).sum = l.sum - l[i] + x
  | a :: l, 0, x, h => by simp; omega
  | a :: l, i + 1, x, h => by
    have := sum_set (l := l) (i := i) (x := x) (by simpa using h)
    simp only [List.set_cons_succ, List.sum_cons, List.getElem_cons_succ]
    omega
theorem sum_nn : ∀ {l : List Int}, (∀ x, x ∈ l → 0 ≤ x) → 0 ≤ l.sum
  | [], _ => by simp
  | a :: l, h => by
    have h1 := h a (by simp)
    have h2 := sum_nn (l := l) (fun x hx => h x (by simp [hx]))
    simp only [List.sum_cons]
    omega
/-- Behind c0, with the flag: nothing has changed, or the sum is less. -/
def Down (c0 : List Int) (c : List Int × Bool) : Prop := (c.2 = false ∧ c.1 = c0) ∨ (c.2 = true ∧ c.1.sum < c0.sum)
section
variable {m : Multi} (hv : Valid m)
include hv
theorem stepC_down {c0 : List Int} {c : List Int × Bool} {n j : Nat} (hj : j < m.ops.length) (hn : n < nR m) (hg : GoodC m c.1) (hd : Down c0 c) : Down c0 (stepC m c n j) := by
  unfold stepC
  split
  · split
    · rename_i hk
      right
      refine ⟨rfl, ?_⟩
      have hlt : n < c.1.length := by rw [hg.1]; exact hn
      have h1 : (setI c.1 n (nth c.1 (rkAt m n j) + (nth m.ops j).cost)).sum < c.1.sum := by
        have h2 := hk.2
        rw [nth_eq hlt] at h2
        simp only [setI, Int.toNat_natCast]
        rw [sum_set hlt]
        omega
      rcases hd with ⟨_, e⟩ | ⟨_, e⟩
      · rw [← e]; exact h1
      · exact Int.lt_trans h1 e
    · exact hd
  · exact hd
theorem opsTo_down {c0 : List Int} {c : List Int × Bool} {n : Nat} (hn : n < nR m) (hg : GoodC m c.1) (hd : Down c0 c) : ∀ {k : Nat}, k ≤ m.ops.length → Down c0 (opsTo m c n k)
  | 0, _ => hd
  | k + 1, hk => stepC_down hv (by omega) hn (opsTo_good hv hg hn (by omega)) (opsTo_down hn hg hd (k := k) (by omega))
theorem sweepTo_down {c : List Int} (hg : GoodC m c) : ∀ {k : Nat}, k ≤ nR m → Down c (sweepTo m c k)
  | 0, _ => .inl ⟨rfl, rfl⟩
  | k + 1, hk => opsTo_down hv (by omega) (sweepTo_good hv hg (by omega)) (sweepTo_down hg (k := k) (by omega)) (Nat.le_refl _)
theorem sum_good {c : List Int} (hg : GoodC m c) : 0 ≤ c.sum := sum_nn fun x hx => by
  obtain ⟨i, hi, rfl⟩ := List.getElem_of_mem hx
  have := (hg.2 i (by omega) (by rw [← hg.1]; omega)).1
  rwa [nth_eq hi] at this
theorem itC_next (j : Nat) : ((sweep m (itC m j)).2 = false ∧ itC m (j + 1) = itC m j) ∨ ((sweep m (itC m j)).2 = true ∧ (itC m (j + 1)).sum < (itC m j).sum) := sweepTo_down hv (itC_good hv j) (Nat.le_refl _)
omit hv in
theorem itC_stay {j : Nat} (h : (sweep m (itC m j)).2 = false) (he : itC m (j + 1) = itC m j) : ∀ d, itC m (j + d) = itC m j
  | 0 => rfl
  | d + 1 => by
    have ih := itC_stay h he d
    show (sweep m (itC m (j + d))).1 = _
    rw [ih]; exact he
theorem itC_uniq {i j : Nat} (hi : (sweep m (itC m i)).2 = false) (hj : (sweep m (itC m j)).2 = false) : itC m i = itC m j := by
  have ei : itC m (i + 1) = itC m i := by rcases itC_next hv i with h | h; exact h.2; rw [h.1] at hi; cases hi
  have ej : itC m (j + 1) = itC m j := by rcases itC_next hv j with h | h; exact h.2; rw [h.1] at hj; cases hj
  rcases Nat.le_total i j with h | h
  · obtain ⟨d, rfl⟩ := Nat.exists_eq_add_of_le h; exact (itC_stay hi ei d).symm
  · obtain ⟨d, rfl⟩ := Nat.exists_eq_add_of_le h; exact itC_stay hj ej d
theorem costs_of {j : Nat} (hj : (sweep m (itC m j)).2 = false) : itC m j = costs m := by
  unfold costs
  rw [dif_pos ⟨j, hj⟩]
  exact itC_uniq hv hj (Classical.choose_spec (⟨j, hj⟩ : ∃ j, (sweep m (itC m j)).2 = false))
theorem costs_stay {j : Nat} (hj : (sweep m (itC m j)).2 = false) : itC m (j + 1) = costs m := by
  rw [← costs_of hv hj]
  rcases itC_next hv j with h | h
  · exact h.2
  · rw [h.1] at hj; cases hj
theorem costs_good : GoodC m (costs m) := by
  unfold costs
  split
  · exact itC_good hv _
  · refine ⟨by simp, fun n h0 h1 => ?_⟩
    have e : nth (List.replicate (nR m) (1000000000 : Int)) n = nth (List.replicate (nR m) (1000000000 : Int)) (n.toNat : Int) := by rw [Int.toNat_of_nonneg h0]
    rw [e, nth_eq (by simp; omega)]
    simp
/-- What is consistent is no more than the costs. -/
theorem costs_ge {f : List Int → Int} (h1 : ∀ s, StateP m.sizes s → f s ≤ 1000000000) (h2 : ∀ s, StateP m.sizes s → holds s m.goal = true → f s ≤ 0)
    (h3 : ∀ s, StateP m.sizes s → ∀ j : Nat, j < m.ops.length → holds s (nth m.ops j).pre = true → f s ≤ f (nextS s (nth m.ops j).post) + (nth m.ops j).cost) {s : List Int} (hs : StateP m.sizes s) : f s ≤ nth (costs m) (rank m.sizes s) := by
  have key : ∀ j : Nat, ∀ n : Nat, n < nR m → f (stAt m n) ≤ nth (itC m j) n := fun j => (itC_keep hv (q := fun c => ∀ n : Nat, n < nR m → f (stAt m n) ≤ nth c n) (fun n hn => by
    rw [nth_eq (by rw [initC_len]; exact hn)]
    simp only [initC, List.getElem_map, List.getElem_range]
    split
    · rename_i hh; exact h2 _ (st_state hv) hh
    · exact h1 _ (st_state hv)) (fun c n j hn hj hg hq hp _ hk i hi => by
      have hst := st_state hv (n := n)
      rw [nth_setI (by omega) (by rw [hg.1]; omega) (by omega)]
      split
      · rename_i e
        have e' : i = n := by omega
        rw [e']
        have hns := nextS_in hst (hv.op j hj).2.1
        have hr := rkAt_in hv (n := n) hj
        have h4 := h3 _ hst j hj hp
        have h5 := hq (rkAt m n j).toNat (by omega)
        rw [Int.toNat_of_nonneg hr.1] at h5
        have h6 : stAt m (rkAt m n j).toNat = nextS (stAt m n) (nth m.ops j).post := (unrank_toNat hv.sizes hns).1
        rw [h6] at h5
        omega
      · exact hq i hi) j).2
  obtain ⟨e1, e2⟩ := unrank_toNat hv.sizes hs
  have hr := rank_in hv.sizes hs
  have hk : ∀ n : Nat, n < nR m → f (stAt m n) ≤ nth (costs m) n := by
    unfold costs
    split
    · exact key _
    · intro n hn
      rw [nth_eq (by simpa using hn)]
      simp only [List.getElem_replicate]
      exact h1 _ (st_state hv)
  have := hk (rank m.sizes s).toNat e2
  rw [Int.toNat_of_nonneg hr.1] at this
  have h7 : stAt m (rank m.sizes s).toNat = s := e1
  rwa [h7] at this
end

/-! ### The walk's words -/
/-- Is another sweep due? -/
def flagC (m : Multi) : Nat → Bool
  | 0 => true
  | j + 1 => (sweep m (itC m j)).2
section
variable {m : Multi} (hv : Valid m)
include hv
theorem flag_lt {j : Nat} (h : flagC m j = true) : (itC m (j + 1)).sum.toNat + (if flagC m (j + 1) = true then 1 else 0) < (itC m j).sum.toNat + (if flagC m j = true then 1 else 0) := by
  have h1 := sum_good hv (itC_good hv (j + 1))
  have h2 := sum_good hv (itC_good hv j)
  rw [if_pos h]
  show _ + (if (sweep m (itC m j)).2 = true then 1 else 0) < _
  rcases itC_next hv j with ⟨a, b⟩ | ⟨a, b⟩
  · rw [a, b]; simp
  · rw [a]; simp; omega
theorem flag_end {j : Nat} (h : flagC m j = false) : itC m j = costs m := by
  cases j with
  | zero => cases h
  | succ j => exact costs_stay hv h
end
theorem stepC_0 {m : Multi} {c : List Int × Bool} {n j : Nat} (h : holds (stAt m n) (nth m.ops j).pre = false) : stepC m c n j = c := by unfold stepC; rw [if_neg (by simp [h])]
theorem stepC_1 {m : Multi} {c : List Int × Bool} {n j : Nat} (h : holds (stAt m n) (nth m.ops j).pre = true) (h1 : nth c.1 (rkAt m n j) < 1000000000) (h2 : nth c.1 (rkAt m n j) + (nth m.ops j).cost < nth c.1 n) : stepC m c n j = (setI c.1 n (nth c.1 (rkAt m n j) + (nth m.ops j).cost), true) := by
  unfold stepC; rw [if_pos h, if_pos ⟨h1, h2⟩]
theorem stepC_2 {m : Multi} {c : List Int × Bool} {n j : Nat} (h1 : ¬ (nth c.1 (rkAt m n j) < 1000000000 ∧ nth c.1 (rkAt m n j) + (nth m.ops j).cost < nth c.1 n)) : stepC m c n j = c := by
  unfold stepC; rw [if_neg h1]; split <;> rfl
/-- Admissible weights value no state above its cost. -/
theorem adm_costs {m : Multi} {w : List (List Int)} {s : List Int} (ha : adm m w = true) (hpf : potFault m w (-8) = (0, 0)) (hs : StateP m.sizes s) : val w s ≤ nth (costs m) (rank m.sizes s) := by
  obtain ⟨hv, hw⟩ := potFault_ok (m := m) (w := w) (i := -8) (by rw [hpf]; exact ⟨rfl, rfl⟩)
  have he := slackRes_2 (m := m) (w := w) (by rw [hpf]; exact ⟨rfl, rfl⟩)
  unfold adm at ha
  simp only [Bool.and_eq_true, decide_eq_true_eq, Bool.not_eq_true'] at ha
  have hg : goalMax w m.goal ≤ 0 := by have := ha.2.1; rwa [he] at this
  have hsl : ∀ j : Nat, j < m.ops.length → 0 ≤ slack w (nth m.ops j) := fun j hj => by
    have h2 := ha.2.2
    rw [← Bool.not_eq_true, any_iff] at h2
    have h3 := slack_at hpf (op := (j : Int)) (by omega) (by omega)
    refine Decidable.byContradiction fun hc => h2 ⟨j, by rw [h3.1]; exact hj, ?_⟩
    rw [h3.2]
    simp; omega
  refine costs_ge hv (f := val w) (fun s hs => by have := val_in hw hs hv.len.2; omega) (fun s hs hh => ?_) (fun s hs j hj hp => ?_) hs
  · have := valTo_goal hw hs hh (Nat.le_refl _)
    unfold goalMax at hg
    unfold val
    rw [show w.length = s.length by rw [hs.1, hw.len]] at hg
    omega
  · have := val_drop hw hs hp (hv.op j hj).2.1
    have := hsl j hj
    omega

end Go.Eng

set_option linter.unusedVariables false
set_option linter.unusedSimpArgs false
set_option linter.unusedSectionVars false
namespace Go.Eng
open Go

abbrev PatOk (sizes vars : List Int) (i : Nat) : Prop := 0 ≤ nth vars i ∧ nth vars i < sizes.length ∧ (0 < i → nth vars (i - 1 : Int) < nth vars i)
abbrev PatP (sizes vars : List Int) : Prop := ∀ i : Nat, i < vars.length → PatOk sizes vars i
def patCode (sizes vars : List Int) : Int := if vars.length = 0 then 9 else if ¬ PatP sizes vars then 5 else 0
theorem patCode_9 {sizes vars : List Int} (h : vars.length = 0) : 9 = patCode sizes vars := by unfold patCode; rw [if_pos h]
theorem patCode_5 {sizes vars : List Int} (h : vars.length ≠ 0) (k : Nat) (hk : k < vars.length) (hb : ¬ PatOk sizes vars k) : 5 = patCode sizes vars := by
  unfold patCode; rw [if_neg h, if_pos (fun hh => hb (hh k hk))]
theorem patCode_0 {sizes vars : List Int} (h : vars.length ≠ 0) (hh : PatP sizes vars) : 0 = patCode sizes vars := by unfold patCode; rw [if_neg h, if_neg (by simpa using hh)]
theorem patCode_ok {sizes vars : List Int} (h : patCode sizes vars = 0) : vars.length ≠ 0 ∧ PatP sizes vars := by
  unfold patCode at h
  split at h
  · cases h
  · rename_i h1
    split at h
    · cases h
    · rename_i h2; exact ⟨h1, Decidable.not_not.1 h2⟩
def patFault (sizes vars : List Int) (i : Int) : Int × Int := if patCode sizes vars = 0 then (0, 0) else (patCode sizes vars, i)
theorem patFault_bad {sizes vars : List Int} {c i : Int} (h : c = patCode sizes vars) (hc : c ≠ 0) : (c, i) = patFault sizes vars i := by unfold patFault; rw [if_neg (by rw [← h]; exact hc), ← h]
theorem patFault_ok {sizes vars : List Int} {i : Int} (h : 0 = patCode sizes vars) : (0, 0) = patFault sizes vars i := by unfold patFault; rw [if_pos h.symm]
/-- The places of a pattern, out of a list. -/
def sel (s vars : List Int) : List Int := vars.map fun v => nth s v
def selTo (s vars : List Int) (k : Nat) : List Int := (List.range k).map fun (i : Nat) => nth s (nth vars i)
theorem selTo_s {s vars : List Int} {k : Nat} : selTo s vars (k + 1) = selTo s vars k ++ [nth s (nth vars k)] := by simp [selTo, List.range_succ]
theorem selTo_len {s vars : List Int} {k : Nat} : (selTo s vars k).length = k := by simp [selTo]
/-- The fault of a task and a pattern. -/
def projFault (m : Multi) (vars : List Int) : Int × Int := if validate m = (0, 0) then patFault m.sizes vars (-8) else validate m
theorem projFault_1 {m : Multi} {vars : List Int} (h : validate m = (0, 0)) : patFault m.sizes vars (-8) = projFault m vars := by unfold projFault; rw [if_pos h]
theorem projFault_2 {m : Multi} {vars : List Int} (h : validate m ≠ (0, 0)) : validate m = projFault m vars := by unfold projFault; rw [if_neg h]
theorem projFault_ok {m : Multi} {vars : List Int} (h : (projFault m vars).1 = 0) : Valid m ∧ vars.length ≠ 0 ∧ PatP m.sizes vars ∧ projFault m vars = (0, 0) := by
  unfold projFault at h ⊢
  split at h
  · rename_i hv
    rw [if_pos hv]
    unfold patFault at h ⊢
    split at h
    · rename_i hp
      rw [if_pos hp]
      obtain ⟨a, b⟩ := patCode_ok hp
      exact ⟨valid_of hv, a, b, rfl⟩
    · rename_i hp; exact absurd h hp
  · rename_i hv; exact absurd (validate_code h) hv
theorem pat_ge {sizes vars : List Int} (h : PatP sizes vars) : ∀ i : Nat, i < vars.length → (i : Int) ≤ nth vars i
  | 0, hi => by simpa using (h 0 hi).1
  | i + 1, hi => by
    have ih := pat_ge h i (by omega)
    have := (h (i + 1) hi).2.2 (by omega)
    have e : ((i + 1 : Nat) : Int) - 1 = (i : Int) := by omega
    rw [e] at this
    omega
theorem pat_len {sizes vars : List Int} (h : PatP sizes vars) : vars.length ≤ sizes.length := by
  by_cases hl : vars.length = 0
  · omega
  · have := pat_ge h (vars.length - 1) (by omega)
    have := (h (vars.length - 1) (by omega)).2.1
    omega
def prodTo (sizes vars : List Int) : Nat → Int
  | 0 => 1
  | k + 1 => prodTo sizes vars k * nth sizes (nth vars k)
theorem prodTo_in {sizes vars : List Int} (h : SizesP sizes) (hp : PatP sizes vars) : ∀ {k : Nat}, k ≤ vars.length → 1 ≤ prodTo sizes vars k ∧ prodTo sizes vars k ≤ 6 ^ k
  | 0, _ => by simp [prodTo]
  | k + 1, hk => by
    have ih := prodTo_in h hp (k := k) (by omega)
    have hs := nth_size h (hp k (by omega)).1 (hp k (by omega)).2.1
    simp only [prodTo]
    constructor
    · have := Int.mul_le_mul ih.1 hs.1 (by omega) (by omega)
      omega
    · have := Int.mul_le_mul ih.2 hs.2 (by omega) (by omega)
      rw [Int.pow_succ]; exact this
/-- An assignment under a pattern: at the places of its variable. -/
def matchR (a : Asg) (vars : List Int) : Nat → List Asg
  | 0 => []
  | j + 1 => if a.1 = nth vars j then matchR a vars j ++ [((j : Int), a.2)] else matchR a vars j
theorem matchR_len {a : Asg} {vars : List Int} : ∀ {j : Nat}, (matchR a vars j).length ≤ j
  | 0 => by simp [matchR]
  | j + 1 => by
    have := matchR_len (a := a) (vars := vars) (j := j)
    simp only [matchR]
    split
    · simp; omega
    · omega
def restrictTo (l : List Asg) (vars : List Int) : Nat → List Asg
  | 0 => []
  | k + 1 => restrictTo l vars k ++ matchR (nth l k) vars vars.length
theorem restrictTo_len {l : List Asg} {vars : List Int} : ∀ {k : Nat}, (restrictTo l vars k).length ≤ k * vars.length
  | 0 => by simp [restrictTo]
  | k + 1 => by
    have := restrictTo_len (l := l) (vars := vars) (k := k)
    have := matchR_len (a := nth l k) (vars := vars) (j := vars.length)
    simp only [restrictTo, List.length_append, Nat.succ_mul]
    omega
def matchK (v i : Int) (l : List Asg) : Nat → List Asg
  | 0 => []
  | j + 1 => if (nth l j).1 = v then matchK v i l j ++ [(i, (nth l j).2)] else matchK v i l j
theorem matchK_len {v i : Int} {l : List Asg} : ∀ {j : Nat}, (matchK v i l j).length ≤ j
  | 0 => by simp [matchK]
  | j + 1 => by
    have := matchK_len (v := v) (i := i) (l := l) (j := j)
    simp only [matchK]
    split
    · simp; omega
    · omega
def keptTo (l : List Asg) (vars : List Int) : Nat → List Asg
  | 0 => []
  | k + 1 => keptTo l vars k ++ matchK (nth vars k) k l l.length
theorem keptTo_len {l : List Asg} {vars : List Int} : ∀ {k : Nat}, (keptTo l vars k).length ≤ k * l.length
  | 0 => by simp [keptTo]
  | k + 1 => by
    have := keptTo_len (l := l) (vars := vars) (k := k)
    have := matchK_len (v := nth vars k) (i := k) (l := l) (j := l.length)
    simp only [keptTo, List.length_append, Nat.succ_mul]
    omega
end Go.Eng
