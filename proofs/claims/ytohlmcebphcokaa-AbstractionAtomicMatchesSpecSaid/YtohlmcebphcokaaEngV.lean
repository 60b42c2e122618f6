/- Plain laws of potential's functions: an operator lowers the value by no more than its cost less its slack. -/
import Derived.Test.YtohlmcebphcokaaEngO
set_option linter.unusedVariables false
set_option linter.unusedSimpArgs false
namespace Go.Eng
open Go

theorem valTo_set {w : List (List Int)} {s : List Int} {v x : Int} (h0 : 0 ≤ v) : ∀ {k : Nat}, k ≤ s.length → valTo w (setI s v x) k = valTo w s k + (if v < k then nth (nth w v) x - nth (nth w v) (nth s v) else 0)
  | 0, _ => by rw [if_neg (by omega)]; rfl
  | k + 1, hk => by
    have ih := valTo_set (w := w) (s := s) (v := v) (x := x) h0 (k := k) (by omega)
    simp only [valTo]
    rw [ih, nth_setI (by omega) (by omega) h0]
    by_cases h : (k : Int) = v
    · rw [if_pos h, if_neg (by omega), if_pos (by omega), h]; omega
    · rw [if_neg h]
      by_cases h2 : v < (k : Int)
      · rw [if_pos h2, if_pos (by omega)]; omega
      · rw [if_neg h2, if_neg (by omega)]; omega
theorem val_set {w : List (List Int)} {s : List Int} {v x : Int} (h0 : 0 ≤ v) (h1 : v < s.length) : val w (setI s v x) = val w s + (nth (nth w v) x - nth (nth w v) (nth s v)) := by
  unfold val
  rw [setI_len, valTo_set h0 (Nat.le_refl _), if_pos h1]
theorem asgs_mono {sizes : List Int} {l : List Asg} (h : AsgsP sizes l) {j : Nat} : ∀ {k : Nat}, j < k → k < l.length → (nth l j).1 < (nth l k).1
  | 0, hj, _ => absurd hj (Nat.not_lt_zero _)
  | k + 1, hj, hk => by
    have := (h (k + 1) hk).2.2.2.2 (by omega)
    have e : ((k + 1 : Nat) : Int) - 1 = (k : Int) := by omega
    rw [e] at this
    rcases Nat.lt_or_ge j k with hjk | hjk
    · have ih := asgs_mono h hjk (by omega); omega
    · have : j = k := by omega
      subst this; omega
theorem nextTo_same {s : List Int} {l : List Asg} {v : Int} (h0 : 0 ≤ v) (h1 : v < s.length) : ∀ {k : Nat}, (∀ j : Nat, j < k → (nth l j).1 ≠ v ∧ 0 ≤ (nth l j).1) → nth (nextTo s l k) v = nth s v
  | 0, _ => rfl
  | k + 1, h => by
    have hk := h k (by omega)
    simp only [nextTo]
    rw [nth_setI h0 (by rw [nextTo_len]; exact h1) hk.2, if_neg (fun e => hk.1 e.symm)]
    exact nextTo_same h0 h1 fun j hj => h j (by omega)
/-- What the first k assignments of a list change. -/
def gain (w : List (List Int)) (s : List Int) (l : List Asg) : Nat → Int
  | 0 => 0
  | k + 1 => gain w s l k + (nth (nth w (nth l k).1) (nth s (nth l k).1) - nth (nth w (nth l k).1) (nth l k).2)
theorem val_next {sizes : List Int} {w : List (List Int)} {s : List Int} {l : List Asg} (hs : StateP sizes s) (hl : AsgsP sizes l) : ∀ {k : Nat}, k ≤ l.length → val w (nextTo s l k) = val w s - gain w s l k
  | 0, _ => by simp [nextTo, gain]
  | k + 1, hk => by
    have ih := val_next (w := w) hs hl (k := k) (by omega)
    have ha := hl k (by omega)
    have hsl := hs.1
    simp only [nextTo, gain]
    rw [val_set ha.1 (by rw [nextTo_len]; omega), ih, nextTo_same ha.1 (by omega) (fun j hj => ⟨by have := asgs_mono hl hj (by omega); omega, (hl j (by omega)).1⟩)]
    omega
theorem greatest_ge {sizes : List Int} {w : List (List Int)} {s : List Int} {l : List Asg} {v : Int} (hw : WOk sizes w) (hs : StateP sizes s) (hh : holds s l = true) (h0 : 0 ≤ v) (h1 : v < sizes.length) : nth (nth w v) (nth s v) ≤ greatest w v l := by
  unfold greatest
  split
  · rename_i i hi
    have hp := List.find?_some hi
    have hm := List.mem_of_find?_eq_some hi
    have hlt : i < l.length := by simpa using hm
    have he := holds_iff.1 hh i hlt
    have hv : (nth l i).1 = v := by simpa using hp
    rw [hv] at he
    rw [he]
    exact Int.le_refl _
  · have hn := hs.2 v.toNat (by have := hs.1; omega)
    rw [Int.toNat_of_nonneg h0] at hn
    have hr := hw.row h0 h1 hn.1 hn.2
    exact lmax_ge hn.1 hr.1
theorem slackTo_gain {sizes : List Int} {w : List (List Int)} {s : List Int} {o : MOp} (hw : WOk sizes w) (hs : StateP sizes s) (hh : holds s o.pre = true) (hl : AsgsP sizes o.post) : ∀ {k : Nat}, k ≤ o.post.length → gain w s o.post k ≤ o.cost - slackTo w o k
  | 0, _ => by simp [gain, slackTo]
  | k + 1, hk => by
    have ih := slackTo_gain hw hs hh hl (k := k) (by omega)
    have ha := hl k (by omega)
    have hg := greatest_ge hw hs hh ha.1 ha.2.1
    simp only [gain, slackTo]
    omega
/-- An operator lowers the value by its cost less its slack, at the most. -/
theorem val_drop {sizes : List Int} {w : List (List Int)} {s : List Int} {o : MOp} (hw : WOk sizes w) (hs : StateP sizes s) (hh : holds s o.pre = true) (hl : AsgsP sizes o.post) : val w s - val w (nextS s o.post) ≤ o.cost - slack w o := by
  have h1 := val_next (w := w) hs hl (Nat.le_refl _)
  have h2 := slackTo_gain hw hs hh hl (Nat.le_refl _)
  unfold nextS slack
  omega
theorem slack_len (m : Multi) (w : List (List Int)) : (slackRes m w).1.length ≤ m.ops.length := by
  unfold slackRes; split <;> simp
theorem potFault_code {m : Multi} {w : List (List Int)} {i : Int} (h : (potFault m w i).1 = 0) : potFault m w i = (0, 0) := by
  unfold potFault at h ⊢
  split
  · rename_i h0; rw [if_pos h0] at h
    unfold wfault at h ⊢
    split
    · rfl
    · rename_i hc; rw [if_neg hc] at h; exact absurd h hc
  · rename_i h0; rw [if_neg h0] at h; exact absurd (validate_code h) h0
theorem slack_code {m : Multi} {w : List (List Int)} (h : (slackRes m w).2.2.1 = 0) : potFault m w (-8) = (0, 0) := by
  unfold slackRes at h
  split at h
  · assumption
  · exact potFault_code h
theorem slack_fault {m : Multi} {w : List (List Int)} (h : (slackRes m w).2.2.1 ≠ 0) : (slackRes m w).1 = [] := by
  unfold slackRes at h ⊢
  split
  · rename_i h0; rw [if_pos h0] at h; exact absurd rfl h
  · rfl
theorem slack_at {m : Multi} {w : List (List Int)} (h : potFault m w (-8) = (0, 0)) {op : Int} (h0 : 0 ≤ op) (h1 : op < m.ops.length) : (slackRes m w).1.length = m.ops.length ∧ nth (slackRes m w).1 op = slack w (nth m.ops op) := by
  unfold slackRes
  rw [if_pos h]
  refine ⟨by simp, ?_⟩
  have e1 : ∀ l : List Int, nth l op = nth l (op.toNat : Int) := fun l => by rw [Int.toNat_of_nonneg h0]
  have e2 : nth m.ops op = nth m.ops (op.toNat : Int) := by rw [Int.toNat_of_nonneg h0]
  rw [e1, e2, nth_eq (by simp; omega), nth_eq (by omega)]
  simp
theorem slack_in {m : Multi} {w : List (List Int)} (hv : Valid m) (hw : WOk m.sizes w) {op : Int} (h0 : 0 ≤ op) (h1 : op < m.ops.length) : -16000000 ≤ slack w (nth m.ops op) ∧ slack w (nth m.ops op) ≤ 16000100 := by
  have ho := nth_op hv h0 h1
  have := slackTo_in hw hv.sizes ho.1 ho.2.1 ho.2.2 (nth m.ops op).post.length (Nat.le_refl _)
  have h2 := asgs_len ho.2.1
  have h3 := hv.len
  unfold slack
  omega
theorem valid_state {m : Multi} {s : List Int} (hv : validate m = (0, 0)) (hs : StateP m.sizes s) : stateFault m s = (0, 0) := by
  unfold stateFault; rw [if_pos hv, if_pos (isState_iff.2 hs)]
theorem valFault_mk {m : Multi} {w : List (List Int)} {s : List Int} (h : potFault m w (-8) = (0, 0)) (hs : StateP m.sizes s) : valFault m w s = (0, 0) ∧ valRes m w s = val w s := by
  have hv : validate m = (0, 0) := by
    unfold potFault at h
    split at h
    · assumption
    · exact h
  have hf : valFault m w s = (0, 0) := by
    unfold valFault thenF
    rw [if_pos (valid_state hv hs)]
    unfold potFault at h
    rwa [if_pos hv] at h
  exact ⟨hf, by unfold valRes; rw [if_pos hf]⟩
end Go.Eng
