/- Plans of a task and of its projections; compatible patterns. -/
import Derived.Test.YtohlmcebphcokaaEngM
set_option linter.unusedVariables false
set_option linter.unusedSimpArgs false
set_option linter.unusedSectionVars false
namespace Go.Eng
open Go
abbrev StepP (n : Int) (plan : List Int) : Prop := ∀ i : Nat, i < plan.length → 0 ≤ nth plan i ∧ nth plan i < n
def stepsF (n : Int) (plan : List Int) : Int × Int := if 60 < plan.length then (2, -5) else if ¬ StepP n plan then (3, -6) else (0, 0)
theorem stepsF_2 {n : Int} {plan : List Int} (h : 60 < plan.length) : (2, -5) = stepsF n plan := by unfold stepsF; rw [if_pos h]
theorem stepsF_3 {n : Int} {plan : List Int} (h : ¬ 60 < plan.length) (h' : ¬ StepP n plan) : (3, -6) = stepsF n plan := by unfold stepsF; rw [if_neg h, if_pos h']
theorem stepsF_0 {n : Int} {plan : List Int} (h : ¬ 60 < plan.length) (h' : StepP n plan) : (0, 0) = stepsF n plan := by unfold stepsF; rw [if_neg h, if_neg (fun hn => hn h')]
theorem stepsF_ok {n : Int} {plan : List Int} (h : (stepsF n plan).1 = 0) : plan.length ≤ 60 ∧ StepP n plan ∧ stepsF n plan = (0, 0) := by
  unfold stepsF at h ⊢
  split at h
  · cases h
  · rename_i h1
    split at h
    · cases h
    · rename_i h2
      rw [if_neg h1, if_neg h2]
      exact ⟨by omega, Decidable.not_not.1 h2, rfl⟩
def planF (m : Multi) (plan : List Int) : Int × Int := if validate m = (0, 0) then stepsF m.ops.length plan else validate m
theorem planF_1 {m : Multi} {plan : List Int} (h : validate m ≠ (0, 0)) : validate m = planF m plan := by unfold planF; rw [if_neg h]
theorem planF_0 {m : Multi} {plan : List Int} (h : validate m = (0, 0)) : stepsF m.ops.length plan = planF m plan := by unfold planF; rw [if_pos h]
theorem planF_ok {m : Multi} {plan : List Int} (h : (planF m plan).1 = 0) : Valid m ∧ plan.length ≤ 60 ∧ StepP m.ops.length plan ∧ planF m plan = (0, 0) := by
  unfold planF at h ⊢
  split at h
  · rename_i h1
    rw [if_pos h1]
    obtain ⟨a, b, c⟩ := stepsF_ok h
    exact ⟨valid_of h1, a, b, c⟩
  · rename_i h1; exact absurd (validate_code h) h1
def itS (m : Multi) (plan : List Int) : Nat → List Int
  | 0 => m.init
  | k + 1 => nextS (itS m plan k) (nth m.ops (nth plan k)).post
abbrev okTo (m : Multi) (plan : List Int) (k : Nat) : Prop := ∀ i : Nat, i < k → holds (itS m plan i) (nth m.ops (nth plan i)).pre = true
def solvesB (m : Multi) (plan : List Int) : Bool := decide (okTo m plan plan.length) && holds (itS m plan plan.length) m.goal
def solvesR (m : Multi) (plan : List Int) : Bool := decide (planF m plan = (0, 0)) && solvesB m plan
theorem itS_state {m : Multi} {plan : List Int} (hv : Valid m) (hs : StepP m.ops.length plan) : ∀ {k : Nat}, k ≤ plan.length → StateP m.sizes (itS m plan k)
  | 0, _ => hv.init
  | k + 1, hk => nextS_in (itS_state hv hs (k := k) (by omega)) (nth_op hv (hs k (by omega)).1 (hs k (by omega)).2).2.1
theorem solvesB_1 {m : Multi} {plan : List Int} {k : Nat} (hk : k < plan.length) (h : holds (itS m plan k) (nth m.ops (nth plan k)).pre = false) : solvesB m plan = false := by
  unfold solvesB
  rw [decide_eq_false (fun hn => by have := hn k hk; rw [h] at this; cases this)]; rfl
theorem solvesB_2 {m : Multi} {plan : List Int} (h : okTo m plan plan.length) : solvesB m plan = holds (itS m plan plan.length) m.goal := by
  unfold solvesB
  rw [decide_eq_true h]; rfl
theorem solvesR_1 {m : Multi} {plan : List Int} (h : planF m plan ≠ (0, 0)) : solvesR m plan = false := by unfold solvesR; rw [decide_eq_false h]; rfl
theorem solvesR_0 {m : Multi} {plan : List Int} (h : planF m plan = (0, 0)) : solvesR m plan = solvesB m plan := by unfold solvesR; rw [decide_eq_true h]; rfl
theorem projM_opI {m : Multi} {vars : List Int} {j : Int} (h0 : 0 ≤ j) (hj : j < m.ops.length) : nth (projM m vars).ops j = ⟨restr (nth m.ops j).pre vars, restr (nth m.ops j).post vars, (nth m.ops j).cost⟩ := by
  have := projM_op (m := m) (vars := vars) (j := j.toNat) (by omega)
  rwa [Int.toNat_of_nonneg h0] at this
theorem itS_proj {m : Multi} {vars plan : List Int} (hv : Valid m) (hp : PatP m.sizes vars) (hs : StepP m.ops.length plan) : ∀ {k : Nat}, k ≤ plan.length → itS (projM m vars) plan k = sel (itS m plan k) vars
  | 0, _ => rfl
  | k + 1, hk => by
    have hb := hs k (by omega)
    have ho := nth_op hv hb.1 hb.2
    have hst := itS_state hv hs (k := k) (by omega)
    simp only [itS]
    rw [itS_proj hv hp hs (k := k) (by omega), projM_opI hb.1 hb.2, sel_next hp ho.2.1 hst.1]
theorem solves_proj {m : Multi} {vars plan : List Int} (hv : Valid m) (hp : PatP m.sizes vars) (hs : StepP m.ops.length plan) (h : solvesB m plan = true) : solvesB (projM m vars) plan = true := by
  unfold solvesB at h ⊢
  simp only [Bool.and_eq_true, decide_eq_true_eq] at h ⊢
  refine ⟨fun i hi => ?_, ?_⟩
  · have hb := hs i hi
    rw [itS_proj hv hp hs (by omega), projM_opI hb.1 hb.2]
    exact holds_sel (h.1 i hi)
  · rw [itS_proj hv hp hs (Nat.le_refl _)]
    exact holds_sel h.2
theorem planF_proj {m : Multi} {vars plan : List Int} (hv : Valid m) (h0 : vars.length ≠ 0) (hp : PatP m.sizes vars) (hl : plan.length ≤ 60) (hs : StepP m.ops.length plan) : planF (projM m vars) plan = (0, 0) := by
  rw [← planF_0 (validate_of (valid_proj hv h0 hp)), projM_ops]
  exact (stepsF_0 (by omega) hs).symm

/-! ### Compatible patterns -/
/-- An operator changes a variable of the pattern. -/
def chg (l : List Asg) (vars : List Int) : Bool := l.any fun x => decide (x.1 ∈ vars)
def compat (m : Multi) (a b : List Int) : Bool := !(m.ops.any fun o => chg o.post a && chg o.post b)
theorem compat_symm {m : Multi} {a b : List Int} : compat m a b = compat m b a := by
  unfold compat
  congr 1
  exact congrArg _ (funext fun o => Bool.and_comm _ _)
theorem compat_1 {m : Multi} {a b : List Int} {k : Nat} (hk : k < m.ops.length) (h : chg (nth m.ops k).post a = true ∧ chg (nth m.ops k).post b = true) : false = compat m a b := by
  unfold compat
  rw [any_iff.2 ⟨k, hk, by simp [h.1, h.2]⟩]; rfl
theorem compat_0 {m : Multi} {a b : List Int} (h : ∀ k : Nat, k < m.ops.length → ¬ (chg (nth m.ops k).post a = true ∧ chg (nth m.ops k).post b = true)) : true = compat m a b := by
  unfold compat
  cases hc : m.ops.any fun o => chg o.post a && chg o.post b with
  | false => rfl
  | true =>
    obtain ⟨k, hk, h2⟩ := any_iff.1 hc
    simp only [Bool.and_eq_true] at h2
    exact absurd h2 (h k hk)

/-! ### Finite costs are small -/
theorem countP_lt {p q : Nat → Bool} {y : Nat} (h1 : q y = true) (h2 : p y = false) : ∀ {l : List Nat}, (∀ x, x ∈ l → p x = true → q x = true) → y ∈ l → l.countP p < l.countP q
  | [], _, hy => by simp at hy
  | a :: l, h, hy => by
    have hle : l.countP p ≤ l.countP q := List.countP_mono_left fun x hx => h x (List.mem_cons_of_mem _ hx)
    simp only [List.countP_cons]
    by_cases hay : a = y
    · subst hay
      rw [h1, h2]
      simp
      omega
    · have hy' : y ∈ l := by
        rcases List.mem_cons.1 hy with e | e
        · exact absurd e.symm hay
        · exact e
      have ih := countP_lt h1 h2 (fun x hx => h x (List.mem_cons_of_mem _ hx)) hy'
      have ha := h a (List.mem_cons_self ..)
      cases hpa : p a with
      | false => simp; omega
      | true => rw [ha hpa]; simp; omega
def liftI (L c : Int) : Int := if L + 100 < c ∧ c < 1000000000 then c + 1 else c
theorem liftI_step {L c c' w : Int} (hw : 0 ≤ w ∧ w ≤ 100) (h : c ≤ c' + w) (h0 : c ≤ 1000000000) (h1 : c' ≤ 1000000000) (hn : ¬ (L < c' ∧ c' ≤ L + 100)) : liftI L c ≤ liftI L c' + w := by
  unfold liftI; split <;> split <;> omega
theorem liftI_le {L c : Int} (h : c ≤ 1000000000) : liftI L c ≤ 1000000000 := by unfold liftI; split <;> omega
section
variable {m : Multi} (hv : Valid m)
include hv
theorem costs_window {L : Int} (hL : -100 ≤ L) {s : List Int} (hs : StateP m.sizes s) (h1 : L + 100 < nth (costs m) (rank m.sizes s)) (h2 : nth (costs m) (rank m.sizes s) < 1000000000) :
    ∃ n : Nat, n < nR m ∧ L < nth (costs m) n ∧ nth (costs m) n ≤ L + 100 := by
  refine Classical.byContradiction fun hc => ?_
  have hg := costs_good hv
  have hN := nR_in hv
  have hrk : ∀ s, StateP m.sizes s → 0 ≤ rank m.sizes s ∧ rank m.sizes s < nR m := fun s hs => by
    have := rank_in hv.sizes hs; omega
  have hb : ∀ s, StateP m.sizes s → 0 ≤ nth (costs m) (rank m.sizes s) ∧ nth (costs m) (rank m.sizes s) ≤ 1000000000 := fun s hs => hg.2 _ (hrk s hs).1 (hrk s hs).2
  have hno : ∀ s, StateP m.sizes s → ¬ (L < nth (costs m) (rank m.sizes s) ∧ nth (costs m) (rank m.sizes s) ≤ L + 100) := fun s hs hh => hc ⟨(rank m.sizes s).toNat, by have := hrk s hs; omega, by rw [Int.toNat_of_nonneg (hrk s hs).1]; exact hh⟩
  have key := costs_ge hv (f := fun s => liftI L (nth (costs m) (rank m.sizes s)))
    (fun s hs => liftI_le (hb s hs).2)
    (fun s hs hh => by show liftI L (nth (costs m) (rank m.sizes s)) ≤ 0; rw [costs_goal hv hs hh]; unfold liftI; split <;> omega)
    (fun s hs j hj hp => liftI_step (hv.op j hj).2.2 (costs_tri hv hs hj hp) (hb s hs).2 (hb _ (nextS_in hs (hv.op j hj).2.1)).2 (hno _ (nextS_in hs (hv.op j hj).2.1))) hs
  have key' : liftI L (nth (costs m) (rank m.sizes s)) ≤ nth (costs m) (rank m.sizes s) := key
  unfold liftI at key'
  rw [if_pos ⟨h1, h2⟩] at key'
  omega
theorem costs_count {s : List Int} (hs : StateP m.sizes s) (h2 : nth (costs m) (rank m.sizes s) < 1000000000) : ∀ j : Nat, (100 * j : Int) < nth (costs m) (rank m.sizes s) → j + 1 ≤ (List.range (nR m)).countP fun (n : Nat) => decide (nth (costs m) n ≤ 100 * j)
  | 0, h1 => by
    obtain ⟨n, h3, h4, h5⟩ := costs_window hv (L := -100) (by omega) hs (by omega) h2
    have : 0 < (List.range (nR m)).countP fun (n : Nat) => decide (nth (costs m) n ≤ 100 * (0 : Nat)) := List.countP_pos_iff.2 ⟨n, List.mem_range.2 h3, by simp; omega⟩
    omega
  | j + 1, h1 => by
    have ih := costs_count hs h2 j (by omega)
    obtain ⟨n, h3, h4, h5⟩ := costs_window hv (L := 100 * j) (by omega) hs (by omega) h2
    have := countP_lt (p := fun (n : Nat) => decide (nth (costs m) n ≤ 100 * j)) (q := fun (n : Nat) => decide (nth (costs m) n ≤ 100 * (j + 1 : Nat))) (y := n) (l := List.range (nR m)) (by simp; omega) (by simp; omega) (fun x _ hx => by simp at hx ⊢; omega) (List.mem_range.2 h3)
    omega
theorem costs_bound {s : List Int} (hs : StateP m.sizes s) (h2 : nth (costs m) (rank m.sizes s) < 1000000000) : nth (costs m) (rank m.sizes s) ≤ 100 * nR m := by
  refine Int.not_lt.1 fun h1 => ?_
  have h3 := costs_count hv hs h2 (nR m) h1
  have h4 := List.countP_le_length (p := fun (n : Nat) => decide (nth (costs m) n ≤ 100 * (nR m : Nat))) (l := List.range (nR m))
  rw [List.length_range] at h4
  omega
end
theorem pval_in {m : Multi} {vars s : List Int} (hv : Valid m) (hs : StateP m.sizes s) (h0 : vars.length ≠ 0) (hp : PatP m.sizes vars) (hb : prodTo m.sizes vars vars.length ≤ 2000) :
    0 ≤ pval m vars s ∧ pval m vars s ≤ 1000000000 ∧ (pval m vars s < 1000000000 → pval m vars s ≤ 200000) := by
  have hv' := valid_proj hv h0 hp
  have hst : StateP (projM m vars).sizes (sel s vars) := sel_state hp hs
  have hr := rank_in hv'.sizes hst
  have hN := nR_in hv'
  have hn := nR_proj hv h0 hp hb
  have hg := (costs_good hv').2 _ hr.1 (by omega)
  refine ⟨hg.1, hg.2, fun h => ?_⟩
  have := costs_bound hv' hst h
  unfold pval at h ⊢
  omega
end Go.Eng
