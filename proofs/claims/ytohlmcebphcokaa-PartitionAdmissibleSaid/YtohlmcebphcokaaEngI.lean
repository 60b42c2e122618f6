/- The laws of sums of patterns. -/
import Derived.Test.YtohlmcebphcokaaEngH
import Derived.Test.YtohlmcebphcokaaEng15
set_option linter.unusedVariables false
set_option linter.unusedSimpArgs false
set_option linter.unusedSectionVars false
namespace Go.Eng
open Go
theorem ex_cmpT : cmpT lampsM [0] [1] = (0, 0) := by decide +kernel
theorem ex_cmpR : cmpR lampsM [0] [1] = true := by decide +kernel
theorem ex_addF : addF lampsM [[0], [1]] [0, 0] = (0, 0) := by decide +kernel
theorem ex_add : addR lampsM [[0], [1]] [0, 0] = 5 := by
  rw [addR_0 ex_addF]
  have h0 : pval lampsM [0] [0, 0] = 2 := by
    have hv : Valid (projM lampsM [0]) := valid_proj lamps_valid (by decide) (by decide +kernel)
    unfold pval
    rw [← costs_of hv (j := 2) (by decide +kernel)]
    decide +kernel
  have h1 : pval lampsM [1] [0, 0] = 3 := by
    have hv : Valid (projM lampsM [1]) := valid_proj lamps_valid (by decide) (by decide +kernel)
    unfold pval
    rw [← costs_of hv (j := 2) (by decide +kernel)]
    decide +kernel
  have e : valsL lampsM [[0], [1]] [0, 0] = [2, 3] := by
    show [pval lampsM [0] [0, 0], pval lampsM [1] [0, 0]] = [2, 3]
    rw [h0, h1]
  rw [e]
  decide +kernel
theorem cmpT_swap {m : Multi} {a b : List Int} (h : cmpT m a b = (0, 0)) : cmpT m b a = (0, 0) := by
  obtain ⟨h1, h2, h3⟩ := cmpT_ok h
  exact cmpT_of (i := 0) (j := 0) h1 h3 h2
theorem cmpR_swap {m : Multi} {a b : List Int} (h : cmpT m a b = (0, 0)) : cmpR m a b = cmpR m b a := by
  rw [cmpR_0 h, cmpR_0 (cmpT_swap h), compat_symm]
theorem add_two {m : Multi} {a b s : List Int} (h : addF m [a, b] s = (0, 0)) (h2 : cmpT m a b = (0, 0)) : valF m a s = (0, 0) ∧ valF m b s = (0, 0) ∧ addR m [a, b] s = if cmpR m a b = true then min 1000000000 (valR m a s + valR m b s) else max (valR m a s) (valR m b s) := by
  obtain ⟨_, _, h3⟩ := addF_ok h
  have ha : valF m a s = (0, 0) := h3 0 (by simp)
  have hb : valF m b s = (0, 0) := h3 1 (by simp)
  obtain ⟨hv, hst, hpo⟩ := addF_pats h
  have hV := valsL_ok hv hpo hst
  have e : valsL m [a, b] s = [pval m a s, pval m b s] := rfl
  have e2 : cmpF m [a, b] 1 0 = compat m a b := by rw [compat_symm]; rfl
  rw [e] at hV
  refine ⟨ha, hb, ?_⟩
  rw [addR_0 h, e, valR_0 ha, valR_0 hb, cmpR_0 h2, ← e2]
  exact best_two (hV 0 (by simp)) (hV 1 (by simp))
theorem add_each {m : Multi} {pats : List (List Int)} {s : List Int} (h : addF m pats s = (0, 0)) {k : Nat} (hk : k < pats.length) : valR m (nth pats k) s ≤ addR m pats s := by
  obtain ⟨_, _, h3⟩ := addF_ok h
  obtain ⟨hv, hst, hpo⟩ := addF_pats h
  rw [addR_0 h, valR_0 (h3 k hk)]
  exact best_each hv hpo hst hk
theorem add_adm {m : Multi} {pats : List (List Int)} {s : List Int} (h : addF m pats s = (0, 0)) : addR m pats s ≤ nth (costs m) (rank m.sizes s) := by
  obtain ⟨_, h6, _⟩ := addF_ok h
  obtain ⟨hv, hst, hpo⟩ := addF_pats h
  rw [addR_0 h]
  exact best_adm hv hpo hst h6
theorem add_rev {m : Multi} {pats : List (List Int)} {s : List Int} (h : addF m pats s = (0, 0)) : addF m pats.reverse s = (0, 0) ∧ addR m pats s = addR m pats.reverse s := by
  obtain ⟨h0, h6, h3⟩ := addF_ok h
  obtain ⟨hv, hst, hpo⟩ := addF_pats h
  have hr : addF m pats.reverse s = (0, 0) := addF_of h0 (by simpa using h6) fun k hk => by
    rw [List.length_reverse] at hk
    rw [nth_rev hk]
    exact h3 _ (by omega)
  refine ⟨hr, ?_⟩
  obtain ⟨_, _, hpr⟩ := addF_pats hr
  have hV := valsL_ok hv hpo hst
  have hVr := valsL_ok hv hpr hst
  have e : valsL m pats.reverse s = (valsL m pats s).reverse := by simp [valsL]
  have hl := valsL_len (m := m) (pats := pats) (s := s)
  have hC : ∀ i k : Nat, i < (valsL m pats s).length → k < (valsL m pats s).length → cmpF m pats.reverse i k = cmpF m pats ((valsL m pats s).length - 1 - i) ((valsL m pats s).length - 1 - k) := fun i k hi hk => by
    rw [hl] at hi hk ⊢
    unfold cmpF
    rw [nth_rev hi, nth_rev hk]
  have hC2 : ∀ i k : Nat, i < (valsL m pats.reverse s).length → k < (valsL m pats.reverse s).length → cmpF m pats i k = cmpF m pats.reverse ((valsL m pats.reverse s).length - 1 - i) ((valsL m pats.reverse s).length - 1 - k) := fun i k hi hk => by
    rw [valsL_len, List.length_reverse] at hi hk ⊢
    unfold cmpF
    rw [nth_rev (by omega), nth_rev (by omega)]
    rw [show pats.length - 1 - (pats.length - 1 - i) = i by omega, show pats.length - 1 - (pats.length - 1 - k) = k by omega]
  have g1 := best_rev hV (by rw [hl]; exact h6) hC (fun i k => compat_symm)
  have g2 := best_rev hVr (by rw [valsL_len, List.length_reverse]; exact h6) hC2 (fun i k => compat_symm)
  rw [← e, hl] at g1
  have e3 : (valsL m pats.reverse s).reverse = valsL m pats s := by rw [e, List.reverse_reverse]
  rw [e3, valsL_len, List.length_reverse] at g2
  rw [addR_0 h, addR_0 hr, List.length_reverse]
  omega
theorem add_tail {m : Multi} {pats : List (List Int)} {s : List Int} (h : addF m pats s = (0, 0)) (hne : pats.length ≠ 0) : addF m (pats.drop 1) s = (0, 0) ∧ addR m (pats.drop 1) s ≤ addR m pats s := by
  obtain ⟨h0, h6, h3⟩ := addF_ok h
  obtain ⟨hv, hst, hpo⟩ := addF_pats h
  obtain ⟨x, l, rfl⟩ : ∃ x l, pats = x :: l := by
    cases pats with
    | nil => simp at hne
    | cons x l => exact ⟨x, l, rfl⟩
  have hn : ∀ k : Nat, nth (x :: l) ((k + 1 : Nat) : Int) = nth l (k : Int) := fun k => by simp [nth]
  show addF m l s = (0, 0) ∧ addR m l s ≤ _
  have ht : addF m l s = (0, 0) := addF_of h0 (by simp at h6; omega) fun k hk => by
    have := h3 (k + 1) (by simp; omega)
    rwa [hn] at this
  refine ⟨ht, ?_⟩
  rw [addR_0 h, addR_0 ht]
  have hV := valsL_ok hv hpo hst
  have e : valsL m (x :: l) s = pval m x s :: valsL m l s := rfl
  rw [e] at hV ⊢
  have := best_tail hV (C := cmpF m (x :: l)) (C' := cmpF m l) (fun i k => by unfold cmpF; rw [hn, hn])
  rwa [valsL_len] at this
def backTo (pats : List (List Int)) : Nat → List (List Int)
  | 0 => []
  | k + 1 => backTo pats k ++ [nth pats ((pats.length - 1 - k : Nat) : Int)]
theorem backTo_len {pats : List (List Int)} : ∀ {k : Nat}, (backTo pats k).length = k
  | 0 => rfl
  | k + 1 => by simp [backTo, backTo_len (k := k)]
theorem backTo_take {pats : List (List Int)} : ∀ {k : Nat}, k ≤ pats.length → backTo pats k = pats.reverse.take k
  | 0, _ => by simp [backTo]
  | k + 1, h => by
    rw [backTo, backTo_take (by omega), ← nth_rev (by omega), nth_eq (by simp; omega)]
    rw [List.take_succ_eq_append_getElem (by simp; omega)]
theorem backTo_end {pats : List (List Int)} : backTo pats pats.length = pats.reverse := by
  rw [backTo_take (Nat.le_refl _), List.take_of_length_le (by simp)]
/-! ### Shifts -/
theorem bshl1 {t : TypeId} {yk : IntKind} {n : Int} (h0 : 0 ≤ n) (h1 : n ≤ 62) : binOp .shl t (.int .i64 1) (.int yk n) = pure (.int .i64 ((2 ^ n.toNat : Nat) : Int)) := by
  rw [show binOp .shl t (.int .i64 1) (.int yk n) = Op.shift .shl .i64 1 yk n from rfl, shift_shl_any _ _ _ _ h0]
  have e : min n.toNat IntKind.i64.bits = n.toNat := by simp [IntKind.bits]; omega
  rw [e]
  have hp : 2 ^ n.toNat ≤ 2 ^ 62 := Nat.pow_le_pow_right (by omega) (by omega)
  have hc : (1 : Int) * 2 ^ n.toNat = ((2 ^ n.toNat : Nat) : Int) := by simp
  rw [hc]
  clear hc e
  generalize 2 ^ n.toNat = z at hp ⊢
  rw [wrap_i64 (by omega) (by omega)]
theorem band1 {t : TypeId} {m : Int} (h0 : 0 ≤ m) (h1 : m ≤ 9223372036854775807) : binOp .and t (.int .i64 m) (.int .i64 1) = pure (.int .i64 (m % 2)) := by
  rw [binOp_and, intBits_and]
  congr 2
  unfold bits
  obtain ⟨n, rfl⟩ := Int.eq_ofNat_of_zero_le h0
  have hb : (BitVec.ofInt 64 (n : Int) &&& BitVec.ofInt 64 1).toNat = n % 2 := by
    have e1 : BitVec.ofInt 64 (n : Int) = BitVec.ofNat 64 n := by simp
    have e2 : BitVec.ofInt 64 1 = BitVec.ofNat 64 1 := by rfl
    rw [e1, e2, BitVec.toNat_and, BitVec.toNat_ofNat, BitVec.toNat_ofNat]
    have e3 : n % 2 ^ 64 = n := Nat.mod_eq_of_lt (by omega)
    rw [e3]
    exact Nat.and_one_is_mod n
  have hb' : ((BitVec.ofInt IntKind.i64.bits (n : Int) &&& BitVec.ofInt IntKind.i64.bits 1).toNat : Int) = ((n % 2 : Nat) : Int) := congrArg Int.ofNat hb
  exact (congrArg IntKind.i64.wrap hb').trans ((wrap_i64 (by omega) (by omega)).trans (by omega))
theorem bit_at {w i : Nat} : ((w : Int) / 2 ^ ((i : Int)).toNat) % 2 = ((w / 2 ^ i % 2 : Nat) : Int) := by
  simp
/-! ### The greatest sum, word by word -/
theorem bit_f {w i : Nat} (h : (w : Int) / 2 ^ ((i : Int)).toNat % 2 = 0) : bitI w i = false := by
  rw [bit_at] at h
  unfold bitI
  rw [decide_eq_false_iff_not]; omega
theorem bit_t {w i : Nat} (h : ¬ (w : Int) / 2 ^ ((i : Int)).toNat % 2 = 0) : bitI w i = true := by
  rw [bit_at] at h
  unfold bitI
  rw [decide_eq_true_iff]; omega
theorem bit_1 {w i : Nat} (h : (w : Int) / 2 ^ ((i : Int)).toNat % 2 = 1) : bitI w i = true := bit_t (by omega)
theorem bit_0 {w i : Nat} (h : ¬ (w : Int) / 2 ^ ((i : Int)).toNat % 2 = 1) : bitI w i = false := bit_f (by rw [bit_at] at h ⊢; omega)
theorem shr_in {w i : Nat} (h : w ≤ 64) : 0 ≤ (w : Int) / 2 ^ ((i : Int)).toNat ∧ (w : Int) / 2 ^ ((i : Int)).toNat ≤ 9223372036854775807 := by
  have e : (w : Int) / 2 ^ ((i : Int)).toNat = ((w / 2 ^ i : Nat) : Int) := by simp
  rw [e]
  have := Nat.div_le_self w (2 ^ i)
  generalize w / 2 ^ i = z at this ⊢
  omega
def fitK (C : Nat → Nat → Bool) (w i : Nat) : Nat → Bool
  | 0 => true
  | k + 1 => fitK C w i k && (!bitI w k || C i k)
theorem fitK_f {C : Nat → Nat → Bool} {w i k : Nat} {d : Bool} (h : bitI w k = true) (h2 : C i k = false) : false = (d && fitK C w i (k + 1)) := by simp [fitK, h, h2]
theorem fitK_t {C : Nat → Nat → Bool} {w i k : Nat} {d : Bool} (h : bitI w k = false ∨ C i k = true) : (d && fitK C w i k) = (d && fitK C w i (k + 1)) := by
  rcases h with h | h <;> simp [fitK, h]
theorem fitK_iff {C : Nat → Nat → Bool} {w i : Nat} : ∀ {k : Nat}, fitK C w i k = true ↔ ∀ j : Nat, j < k → bitI w j = true → C i j = true
  | 0 => by simp [fitK]
  | k + 1 => by
    simp only [fitK, Bool.and_eq_true, fitK_iff (k := k), Bool.or_eq_true, Bool.not_eq_true']
    refine ⟨fun ⟨h1, h2⟩ j hj hb => ?_, fun h => ⟨fun j hj => h j (by omega), ?_⟩⟩
    · by_cases hjk : j = k
      · subst hjk
        rcases h2 with h2 | h2
        · rw [h2] at hb; cases hb
        · exact h2
      · exact h1 j (by omega) hb
    · cases hb : bitI w k with
      | false => exact .inl rfl
      | true => exact .inr (h k (by omega) hb)
theorem fits_s {C : Nat → Nat → Bool} {w i : Nat} (hb : bitI w i = true) : (decide (FitsW C i w) && fitK C w i i) = decide (FitsW C (i + 1) w) := by
  rw [Bool.eq_iff_iff, Bool.and_eq_true, decide_eq_true_iff, decide_eq_true_iff, fitK_iff]
  refine ⟨fun ⟨h1, h2⟩ j hj hbj => ?_, fun h => ⟨fun j hj => h j (by omega), h i (by omega) hb⟩⟩
  by_cases hji : j = i
  · subst hji; exact h2
  · exact h1 j (by omega) hbj
theorem fits_n {C : Nat → Nat → Bool} {w i : Nat} (hb : bitI w i = false) : decide (FitsW C i w) = decide (FitsW C (i + 1) w) := by
  rw [Bool.eq_iff_iff, decide_eq_true_iff, decide_eq_true_iff]
  refine ⟨fun h1 j hj hbj => ?_, fun h => fun j hj => h j (by omega)⟩
  by_cases hji : j = i
  · subst hji; rw [hb] at hbj; cases hbj
  · exact h1 j (by omega) hbj
theorem fits_0 {C : Nat → Nat → Bool} {w : Nat} : true = decide (FitsW C 0 w) := by
  symm; rw [decide_eq_true_iff]; intro i hi; omega
theorem sumL_n {V : List Int} {w i : Nat} (hb : bitI w i = false) : sumL V (bitI w) i = sumL V (bitI w) (i + 1) := by simp [sumL, hb]
theorem sumL_i {V : List Int} {w i : Nat} (hb : bitI w i = true) (h : nth V i = 1000000000 ∨ sumL V (bitI w) i = 1000000000) : 1000000000 = sumL V (bitI w) (i + 1) := by
  simp only [sumL]; rw [if_pos hb, if_pos h]
theorem sumL_a {V : List Int} {w i : Nat} (hb : bitI w i = true) (h : ¬ nth V i = 1000000000) (h2 : ¬ sumL V (bitI w) i = 1000000000) : sumL V (bitI w) i + nth V i = sumL V (bitI w) (i + 1) := by
  simp only [sumL]; rw [if_pos hb, if_neg (by simp [h, h2])]
theorem sumL_in {V : List Int} (hV : ValsOk V) {p : Nat → Bool} {n : Nat} (h : n ≤ V.length) (h6 : n ≤ 6) : 0 ≤ sumL V p n ∧ sumL V p n ≤ 1000000000 := by
  have h1 := sumL_eq hV (p := p) h h6
  by_cases hi : InfR V p 0 n
  · rw [h1.1 hi]; omega
  · rw [h1.2 hi]
    have := seg_in hV (p := p) (i := 0) (n := n) (by omega) hi
    omega
theorem bestW_t {V : List Int} {C : Nat → Nat → Bool} {n w : Nat} (h : decide (FitsW C n w) = true) : max (bestW V C n w) (sumL V (bitI w) n) = bestW V C n (w + 1) := by
  simp only [bestW]; rw [if_pos (of_decide_eq_true h)]
theorem bestW_f {V : List Int} {C : Nat → Nat → Bool} {n w : Nat} (h : decide (FitsW C n w) = false) : bestW V C n w = bestW V C n (w + 1) := by
  simp only [bestW]; rw [if_neg (of_decide_eq_false h)]
theorem add_best {m : Multi} {pats : List (List Int)} {s : List Int} (h : addF m pats s = (0, 0)) : addR m pats s = bestW (valsL m pats s) (cmpF m pats) pats.length (2 ^ pats.length) := by
  obtain ⟨_, h6, _⟩ := addF_ok h
  obtain ⟨hv, hst, hpo⟩ := addF_pats h
  rw [addR_0 h]
  exact best_both (valsL_ok hv hpo hst) valsL_len.symm h6
/-! ### The fault, pattern by pattern -/
def patA (m : Multi) (pats : List (List Int)) (k : Nat) : Int × Int := patFault m.sizes (nth pats k) k
def addK (m : Multi) (pats : List (List Int)) (s : List Int) (k : Nat) : Int × Int := if stateFault m s ≠ (0, 0) then stateFault m s else if 6 < pats.length then (2, -9) else patsF m pats s k
theorem addK_a {m : Multi} {pats : List (List Int)} {s : List Int} (h : stateFault m s = (0, 0)) (h1 : 6 < pats.length) : (2, -9) = addK m pats s 0 := by unfold addK; rw [if_neg (fun hn => hn h), if_pos h1]
theorem addK_b {m : Multi} {pats : List (List Int)} {s : List Int} (h : stateFault m s = (0, 0)) (h1 : ¬ 6 < pats.length) : stateFault m s = addK m pats s 0 := by
  unfold addK; rw [if_neg (fun hn => hn h), if_neg h1]; exact h
theorem addK_c {m : Multi} {pats : List (List Int)} {s : List Int} (h : stateFault m s ≠ (0, 0)) : stateFault m s = addK m pats s 0 := by unfold addK; rw [if_pos h]
theorem addK_len {m : Multi} {pats : List (List Int)} {s : List Int} : addK m pats s pats.length = addF m pats s := rfl
theorem addK_stop {m : Multi} {pats : List (List Int)} {s : List Int} {k : Nat} (hk : k ≤ pats.length) (h : addK m pats s k ≠ (0, 0)) : addK m pats s k = addF m pats s := by
  by_cases h0 : stateFault m s = (0, 0)
  · by_cases h1 : 6 < pats.length
    · unfold addK addF
      rw [if_neg (fun hn => hn h0), if_pos h1, if_neg (fun hn => hn h0), if_pos h1]
    · have e : addK m pats s k = patsF m pats s k := by unfold addK; rw [if_neg (fun hn => hn h0), if_neg h1]
      rw [e] at h ⊢
      have := patsF_stop h (pats.length - k)
      rw [show k + (pats.length - k) = pats.length by omega] at this
      rw [← addF_3 h0 h1, this]
  · unfold addK addF
    rw [if_pos h0, if_pos h0]
theorem addK_ok {m : Multi} {pats : List (List Int)} {s : List Int} {k : Nat} (h : addK m pats s k = (0, 0)) : stateFault m s = (0, 0) ∧ ¬ 6 < pats.length ∧ patsF m pats s k = (0, 0) := by
  unfold addK at h
  by_cases h0 : stateFault m s = (0, 0)
  · rw [if_neg (fun hn => hn h0)] at h
    by_cases h1 : 6 < pats.length
    · rw [if_pos h1] at h; cases h
    · rw [if_neg h1] at h; exact ⟨h0, h1, h⟩
  · rw [if_pos h0] at h; exact absurd h h0
theorem patsF_code {m : Multi} {pats : List (List Int)} {s : List Int} {k : Nat} (h : (patsF m pats s k).1 = 0) : patsF m pats s k = (0, 0) := by
  induction k with
  | zero => rfl
  | succ n ih =>
    simp only [patsF] at h ⊢
    split
    · rename_i h2
      rw [if_pos h2] at h
      split
      · rfl
      · rename_i h3; rw [if_neg h3] at h; exact absurd h (valF_ne h3)
    · rename_i h2; rw [if_neg h2] at h; exact absurd (ih h) h2
theorem addK_code {m : Multi} {pats : List (List Int)} {s : List Int} {k : Nat} (h : (addK m pats s k).1 = 0) : addK m pats s k = (0, 0) := by
  unfold addK at h ⊢
  by_cases h0 : stateFault m s = (0, 0)
  · rw [if_neg (fun hn => hn h0)] at h ⊢
    by_cases h1 : 6 < pats.length
    · rw [if_pos h1] at h; cases h
    · rw [if_neg h1] at h ⊢; exact patsF_code h
  · rw [if_pos h0] at h ⊢; exact stateFault_code h
theorem addK_s {m : Multi} {pats : List (List Int)} {s : List Int} {k : Nat} (h : addK m pats s k = (0, 0)) : addK m pats s (k + 1) = if valF m (nth pats k) s = (0, 0) then (0, 0) else ((valF m (nth pats k) s).1, (k : Int)) := by
  obtain ⟨h0, h1, h2⟩ := addK_ok h
  unfold addK
  rw [if_neg (fun hn => hn h0), if_neg h1]
  simp only [patsF]
  rw [if_pos h2]
theorem addP_at {m : Multi} {pats : List (List Int)} {s : List Int} {k : Nat} (h : addK m pats s k = (0, 0)) : addP (addK m pats s k) m.sizes (nth pats k) k = patA m pats k := by
  rw [h]; unfold addP patA patFault
  by_cases h2 : patCode m.sizes (nth pats k) = 0 <;> simp [h2]
theorem addK_1 {m : Multi} {pats : List (List Int)} {s : List Int} {k : Nat} (h : addK m pats s k = (0, 0)) (hb : (patA m pats k).1 ≠ 0) : patA m pats k = addK m pats s (k + 1) := by
  obtain ⟨h0, _, _⟩ := addK_ok h
  have hc : patCode m.sizes (nth pats k) ≠ 0 := fun e => hb (by unfold patA patFault; rw [if_pos e])
  have hs : stpF m (nth pats k) s = (patCode m.sizes (nth pats k), -8) := by rw [← stpF_1 h0]; unfold patFault; rw [if_neg hc]
  have hv : valF m (nth pats k) s = (patCode m.sizes (nth pats k), -8) := by
    rw [← hs]; exact (bigF_2 (fun hh => hc (by have := hh.1; rw [hs] at this; exact congrArg Prod.fst this))).symm
  rw [addK_s h, if_neg (by rw [hv]; intro e; exact hc (congrArg Prod.fst e)), hv]
  unfold patA patFault; rw [if_neg hc]
theorem addK_2 {m : Multi} {pats : List (List Int)} {s : List Int} {k : Nat} (h : addK m pats s k = (0, 0)) (hb : (patA m pats k).1 = 0) (h2 : 2000 < ranks (projM m (nth pats k)).sizes) : (10, (k : Int)) = addK m pats s (k + 1) := by
  obtain ⟨h0, _, _⟩ := addK_ok h
  obtain ⟨h3, h4, _⟩ := patFault_ok2 hb
  have hs : stpF m (nth pats k) s = (0, 0) := by rw [← stpF_1 h0]; exact (patFault_ok (patCode_0 h3 h4)).symm
  have hv : valF m (nth pats k) s = (10, -7) := (bigF_1 hs (by rw [prod_ranks]; exact h2)).symm
  rw [addK_s h, if_neg (by rw [hv]; decide), hv]
theorem addK_3 {m : Multi} {pats : List (List Int)} {s : List Int} {k : Nat} (h : addK m pats s k = (0, 0)) (hb : (patA m pats k).1 = 0) (h2 : ¬ 2000 < ranks (projM m (nth pats k)).sizes) : patA m pats k = addK m pats s (k + 1) := by
  obtain ⟨h0, _, _⟩ := addK_ok h
  obtain ⟨h3, h4, h5⟩ := patFault_ok2 hb
  have hs : stpF m (nth pats k) s = (0, 0) := by rw [← stpF_1 h0]; exact (patFault_ok (patCode_0 h3 h4)).symm
  have hv : valF m (nth pats k) s = (0, 0) := by
    rw [← hs]; exact (bigF_2 (fun hh => h2 (by rw [← prod_ranks]; exact hh.2))).symm
  rw [addK_s h, if_pos hv]; exact h5
end Go.Eng
