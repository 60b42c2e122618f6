/- The engine and the walks that this claim uses, part 4. Written by prune.py out of our own texts. -/
import Derived.Test.YtlidcpmdgceboaaE3
set_option linter.unusedSimpArgs false
set_option linter.unnecessarySimpa false
set_option linter.unusedVariables false
set_option linter.unusedSectionVars false
section
/- Walks, written by gen.py out of hints. -/



namespace Go.Proofs.Ytlidcpmdgceboaa
open Go.Eng
set_option maxRecDepth 10000
set_option maxHeartbeats 1000000

theorem slices_Index_int_int_does (l : List Int) (n : Int) : Does Try.prog false 64 [.d (ints l), I (n)] (I (findI (fun x => decide (n = x)) l)) := by
 refine Does.of_body Try.func64 rfl rfl (by simp) Try.call64 (fun w0 O0 => ?_); refine .lenLe (n := 0) rfl (fun len0 => ?_); refine .seq ?_; refine .region ?_; refine .a ?_; refine .sq ?_; refine .seq ?_; refine .seq ?_; refine .region ?_; refine .m ?_; refine .x (OpSem.lenL rfl rfl es22) ?_; refine .m ?_; refine .sq ?_; refine .block ?_; refine .loop (X := Nat) (fun k => k ≤ l.length ∧ ∀ j : Nat, j < k → decide (n = nth l j) = false) (fun k => [(0, .d (ints l)), (1, I (n)), (7, I (l.length)), (8, I (k))]) (fun k => []) (fun k => l.length - k) 0 ⟨by omega, by simp⟩ ?_ ?_
 ·exact .sl <| .sl <| .sl <| .slot rfl (Le.of_eq (by simp)) <| .nil
 ·rintro k ⟨hkl, hinv⟩
  refine .seq ?_; refine .region ?_; refine .x (.b blss) ?_; refine .sq ?_; refine .seq ?_; refine .cond rfl (fun c9 => ?_) (fun c9 => ?_)
  ·have hk : k < l.length := by simpa using c9
   refine .skip ?_; refine .seq ?_; refine .seq ?_; refine .block ?_; refine .seq ?_; refine .region ?_; refine .m ?_; refine .a ?_; refine .z ?_; refine .m ?_; refine .m ?_; refine .m ?_; refine .x (OpSem.idxL rfl rfl rfl es22 (by omega) (by omega)) ?_; refine .x (OpSem.load1 rfl rfl vs3 rfl) ?_; refine .x (.b beql) ?_; refine .sq ?_; refine .cond rfl (fun c16 => ?_) (fun c16 => ?_)
   ·refine .seq ?_; refine .region ?_; refine .m ?_; refine .a ?_; refine .sq ?_; refine .ret ?_; refine .block_ret ?_; refine .pass_ret ?_; refine .pass_ret ?_; refine .block_ret ?_; refine .pass_ret ?_; exact .ret rfl (.tmp rfl <| .nil) rfl (Le.i (findI_some (p := fun x => decide (n = x)) hk hinv c16).symm)
   ·have hb : decide (n = nth l k) = false := c16
    refine .skip ?_; refine .block_normal ?_; refine .y ?_; refine .x .ad ?_; refine .m ?_; refine .nil ?_; refine .again (k + 1) ⟨by omega, all_succ hinv hb⟩ ?_ (by omega); exact .sl <| .sl <| .sl <| .slot rfl (Le.of_eq (by simp)) <| .nil
  ·have hk : k = l.length := by simp at c9; omega
   refine .exit ?_; refine .pass_exit ?_; refine .pass_exit ?_; refine .block_same ?_; refine .z ?_; refine .a ?_; refine .sq ?_; refine .ret ?_; exact .ret rfl (.tmp rfl <| .nil) rfl (Le.i (by subst hk; exact (findI_none (p := fun x => decide (n = x)) hinv).symm))

theorem slices_Contains_int_int_does (l : List Int) (n : Int) : Does Try.prog false 32 [.d (ints l), I (n)] (Bo (decide (n ∈ l))) := by
 refine Does.of_body Try.func32 rfl rfl (by simp) Try.call32 (fun w0 O0 => ?_); refine .lenLe (n := 0) rfl (fun len0 => ?_); refine .seq ?_; refine .region ?_; refine .a ?_; refine .z ?_; refine .m ?_; refine .m ?_; refine .x (OpSem.call0 (slices_Index_int_int_does l n) rfl rfl rfl rfl (Les.refl _)) ?_; refine .x (.b bgeq) ?_; refine .a ?_; refine .sq ?_; refine .ret ?_; exact .ret rfl (.tmp rfl <| .nil) rfl (Le.bo (findI_any.trans any_mem))

theorem landmark_without_1_does (i : Nat) (t : Tsk) (p : Int) (hi : i < t.ops.length) : Does Try.prog false 90 [I (i), .p [.v (.int .i64 t.facts), ints t.ini, ints t.goal, sopsD t.ops], .p [.v (.int .i64 p)]] (Bo (useP t p i)) := by
 refine Does.of_body Try.func90 rfl rfl (by simp) Try.call90 (fun w0 O0 => ?_); refine .seq ?_; refine .region ?_; refine .a ?_; refine .sq ?_; refine .seq ?_; refine PC.start [] ?_; refine .x (OpSem.fieldp rfl rfl fo25_3) ?_; refine .x (OpSem.load1 rfl rfl vs23 rfl) ?_; refine .m ?_; refine .x (OpSem.idxL rfl rfl rfl es23 (by omega) (by omega)) ?_; refine .x (OpSem.fieldp rfl rfl fo35_1) ?_; refine .x (OpSem.load1 rfl rfl vs22 rfl) ?_; refine .x (OpSem.load1 rfl rfl vs3 rfl) ?_; refine .d0 mixed ?_; refine .x (OpSem.call0 (slices_Contains_int_int_does (nth t.ops i).add p) rfl rfl rfl rfl (Les.refl _)) ?_; refine .x (OpSem.not rfl rfl) ?_; refine .a ?_; refine .sq ?_; refine .ret ?_; exact .ret rfl (.tmp rfl <| .nil) rfl (.refl _)

theorem landmark_without_does (t : Tsk) (p : Int) (hV : TskV t) : DoesO Try.prog 66 [tskS t, I (p)] 1 4 (((wtoL t p).map fun b => [D.v (.bool b)])) := by
 refine DoesO.of_body Try.func66 rfl rfl (by simp) Try.call66 (fun w0 O0 => ?_); refine .lenG (n := 0) (i := 1) rfl rfl (fun len0_1 => ?_); refine .lenG (n := 0) (i := 2) rfl rfl (fun len0_2 => ?_); refine .lenG (n := 0) (i := 3) rfl rfl (fun len0_3 => ?_); refine .seq ?_; refine .region ?_; refine .semM (OpSem.box 2 rfl rfl rfl rfl) rfl rfl (by decide) ?_; refine .semM (OpSem.box 3 rfl rfl rfl rfl) rfl rfl (by decide) ?_; refine .a ?_; refine .sq ?_; refine .seq ?_; refine .freezeR 2 rfl rfl ?_; refine .freezeR 3 rfl rfl ?_; refine .region ?_; refine .x (OpSem.loadN rfl rfl vs25 (by first | decide | simp) rfl) ?_; refine .x (OpSem.fieldp rfl rfl fo25_1) ?_; refine .x (OpSem.load1 rfl rfl vs22 rfl) ?_; refine .x (OpSem.makeFunc rfl rfl rfl) ?_; refine .semM (OpSem.callO 9 (relaxed_Close_does t t.ini 90 [.v (.int .i64 t.facts), ints t.ini, ints t.goal, sopsD t.ops] [.v (.int .i64 p)] (useP t p) hV.ok (fun q hq => setP_mem hV.ini hq) (fun i hi => landmark_without_1_does i t p hi)) rfl rfl rfl rfl (Les.refl _)) rfl rfl (by decide) ?_; refine .a ?_; refine .sq ?_; refine .ret ?_; exact .retO2 rfl rfl rfl (by simp) (rfl)

theorem landmark_facts_does (t : Tsk) (hV : TskV t) : DoesO Try.prog 65 [tskS t] 1 3 (((lmL t).map fun n => [D.v (.int .i64 n)])) := by
 have htf := hV.facts
 refine DoesO.of_body Try.func65 rfl rfl (by simp) Try.call65 (fun w0 O0 => ?_); refine .lenG (n := 0) (i := 1) rfl rfl (fun len0_1 => ?_); refine .lenG (n := 0) (i := 2) rfl rfl (fun len0_2 => ?_); refine .lenG (n := 0) (i := 3) rfl rfl (fun len0_3 => ?_); refine .seq ?_; refine .region ?_; refine .semM (OpSem.box 1 rfl rfl rfl rfl) rfl rfl (by decide) ?_; refine .a ?_; refine .z ?_; refine .a ?_; refine .sq ?_; refine .seq ?_; refine .seq ?_; refine .ownNil (n := 3) 3 1 3 rfl ?_; refine .region ?_; refine .x (.f fo25_0) ?_; refine .x (.l vs3) ?_; refine .m ?_; refine .sq ?_; refine .block ?_; refine .loop (X := Nat) (fun k0 => (k0 : Int) ≤ t.facts) (fun k0 => [(1, .r 1 0), (3, .o 3), (6, I (t.facts)), (7, I (k0))]) (fun k0 => [(3, .own 1 3 ((lmTo t k0).map fun n => [D.v (.int .i64 n)])), (1, .box [I (t.facts), .d (ints t.ini), .d (ints t.goal), .d (sopsD t.ops)])]) (fun k0 => t.facts.toNat - k0) 0 (by omega) ?_ ?_
 ·exact .sl <| .sl <| .sl <| .slot rfl (Le.of_eq (by simp)) <| .memEq rfl (by simp [lmTo]) <| .mem rfl <| .nil
 ·rintro k0 hkl
  refine .seq ?_; refine .region ?_; refine .x (.b blss) ?_; refine .sq ?_; refine .seq ?_; refine .cond rfl (fun c8 => ?_) (fun c8 => ?_)
  ·have hk : (k0 : Int) < t.facts := by simpa using c8
   have hll := lmTo_len (t := t) (k := k0)
   refine .skip ?_; refine .seq ?_; refine .seq ?_; refine .block ?_; refine .seq ?_; refine .region ?_; refine .m ?_; refine .a ?_; refine .sq ?_; refine .seq ?_; refine PC.start [] ?_; refine .x (.f fo25_1) ?_; refine .x (.l vs22) ?_; refine .m ?_; refine .x (OpSem.call0 (slices_Contains_int_int_does t.ini (k0 : Int)) rfl rfl rfl rfl (Les.refl _)) ?_; refine .m ?_; refine .split (n := 14) rfl (fun c14 => ?_) (fun c14 => ?_)
   ·have hl : lmP t k0 = true := by unfold lmP; simp_all
    refine .hf c14 ?_; refine .hf c14 ?_; refine .hf c14 ?_; refine .hf c14 ?_; refine .hf c14 ?_; refine .d0 mixed ?_; refine .hf c14 ?_; refine .hf c14 ?_; refine .x (OpSem.pickT rfl rfl c14 rfl) ?_; refine .sq ?_; refine .condT rfl rfl ?_; refine .region ?_; refine .m ?_; refine .m ?_; refine .x (.bs es22 ze22) ?_; refine .ap es22 el22 zc3 by3 ?_; refine .a ?_; refine .nil ?_; refine .block_normal ?_; refine .y ?_; refine .x .ad ?_; refine .m ?_; refine .nil ?_; refine .again (k0 + 1) (by omega) ?_ (by omega); exact .sl <| .sl <| .sl <| .slot rfl (Le.of_eq (by simp)) <| .memEq rfl (by rw [lm_t hl]; simp) <| .mem rfl <| .nil
   ·refine .ht (OpSem.loadbN rfl rfl rfl vs25 (by first | decide | simp)) c14 ?_; refine .ht (OpSem.move (.inl rfl) rfl) c14 ?_; refine .ht (OpSem.call0 (landmark_without_does t (k0 : Int) hV).fresh rfl rfl rfl rfl (Les.refl _)) c14 ?_; refine .ht (.f fo25_2) c14 ?_; refine .ht (.l vs22) c14 ?_; refine .d0 mixed ?_; refine .ht c14 ?_; refine .x (OpSem.call0 (relaxed_All_does (wtoL t (k0 : Int)) t.goal (fun k hk => by have q := set_rng hV.goal k hk; have q2 := wtoL_len (t := t) (p := (k0 : Int)); omega)) rfl rfl rfl rfl (Les.refl _)) ?_; refine .ht c14 ?_; refine .x (OpSem.not rfl rfl) ?_; refine .x (OpSem.pickF rfl rfl c14 rfl) ?_; refine .sq ?_; refine .cond rfl (fun c22 => ?_) (fun c22 => ?_)
    ·have hl : lmP t k0 = true := by unfold lmP; simp_all
     refine .region ?_; refine .m ?_; refine .m ?_; refine .x (.bs es22 ze22) ?_; refine .ap es22 el22 zc3 by3 ?_; refine .a ?_; refine .nil ?_; refine .block_normal ?_; refine .y ?_; refine .x .ad ?_; refine .m ?_; refine .nil ?_; refine .again (k0 + 1) (by omega) ?_ (by omega); exact .sl <| .sl <| .sl <| .slot rfl (Le.of_eq (by simp)) <| .memEq rfl (by rw [lm_t hl]; simp) <| .mem rfl <| .nil
    ·have hl : ¬ lmP t k0 = true := by unfold lmP; simp_all
     refine .skip ?_; refine .block_normal ?_; refine .y ?_; refine .x .ad ?_; refine .m ?_; refine .nil ?_; refine .again (k0 + 1) (by omega) ?_ (by omega); exact .sl <| .sl <| .sl <| .slot rfl (Le.of_eq (by simp)) <| .memEq rfl (by rw [lm_f hl]) <| .mem rfl <| .nil
  ·have hk : k0 = t.facts.toNat := by simp at c8; omega
   refine .exit ?_; refine .pass_exit ?_; refine .pass_exit ?_; refine .block_same ?_; refine .z ?_; refine .m ?_; refine .a ?_; refine .sq ?_; refine .ret ?_; exact .retO2 rfl rfl rfl (by simp) (by rw [hk]; rfl)

theorem landmark_Facts_does (t : Tsk) : Does Try.prog false 33 [tskS t] (.t [.d (ints (lmR t)), flt (tskF t)]) := by
 refine Does.of_body Try.func33 rfl rfl (by simp) Try.call33 (fun w0 O0 => ?_); refine .lenG (n := 0) (i := 1) rfl rfl (fun len0_1 => ?_); refine .lenG (n := 0) (i := 2) rfl rfl (fun len0_2 => ?_); refine .lenG (n := 0) (i := 3) rfl rfl (fun len0_3 => ?_); refine .seq ?_; refine .region ?_; refine .semM (OpSem.box 1 rfl rfl rfl rfl) rfl rfl (by decide) ?_; refine .a ?_; refine .semM (OpSem.alloc 3 rfl zc30 rfl) rfl rfl (by decide) ?_; refine .z ?_; refine .x (OpSem.loadbN rfl rfl rfl vs25 (by first | decide | simp)) ?_; refine .x (OpSem.call0 (strips_Validate_does t) rfl rfl rfl rfl (Les.refl _)) ?_; refine .semM (OpSem.alloc 4 rfl zc30 rfl) rfl rfl (by decide) ?_; refine .sb vs30 ?_; refine .sq ?_; refine .seq ?_; refine .seq ?_; refine .region ?_; refine .x (OpSem.loadbN rfl rfl rfl vs30 (by first | decide | simp)) ?_; refine .x (OpSem.build rfl rfl pl30 zc30 rfl rfl) ?_; refine .x (OpSem.neS2 rfl rfl rfl io30) ?_; refine .sq ?_; refine .cond rfl (fun c9 => ?_) (fun c9 => ?_)
 ·have hne : tskF t ≠ (0, 0) := fun h => by simp [h] at c9
  refine .seq ?_; refine PC.start [] ?_; refine .x (OpSem.loadbN rfl rfl rfl vs30 (by first | decide | simp)) ?_; refine .x (OpSem.move (.inr rfl) rfl) ?_; refine .d0 mixed ?_; refine .sb vs30 ?_; refine .sq ?_; refine .ret ?_; refine .pass_ret ?_; exact .ret rfl (.tmp rfl <| .cellN rfl rfl vs30 <| .nil) rfl (Le.t (.cons (by rw [lmR_1 hne]; exact Le.nil 1) <| .cons (.refl _) <| .nil))
 ·have h0 : tskF t = (0, 0) := pair0 (by simpa using c9)
  refine .skip ?_; refine .seq ?_; refine .seq ?_; refine PC.start [] ?_; refine .x (OpSem.loadbN rfl rfl rfl vs25 (by first | decide | simp)) ?_; refine .x (OpSem.call0 (landmark_facts_does t (tskF_v h0)).fresh rfl rfl rfl rfl (Les.refl _)) ?_; refine .x (OpSem.loadbN rfl rfl rfl vs30 (by first | decide | simp)) ?_; refine .x (OpSem.move (.inr rfl) rfl) ?_; refine .d0 mixed ?_; refine .sb vs30 ?_; refine .sq ?_; refine .ret ?_; exact .ret rfl (.tmp rfl <| .cellN rfl rfl vs30 <| .nil) rfl (Le.t (.cons (Le.of_eq (by rw [lmR_0 h0])) <| .cons (.refl _) <| .nil))

theorem landmark_Achievers_does (t : Tsk) : Does Try.prog false 34 [tskS t] (.t [.d (rows (acR t)), flt (tskF t)]) := by
 refine Does.of_body Try.func34 rfl rfl (by simp) Try.call34 (fun w0 O0 => ?_); refine .lenG (n := 0) (i := 1) rfl rfl (fun len0_1 => ?_); refine .lenG (n := 0) (i := 2) rfl rfl (fun len0_2 => ?_); refine .lenG (n := 0) (i := 3) rfl rfl (fun len0_3 => ?_); refine .seq ?_; refine .region ?_; refine .semM (OpSem.box 1 rfl rfl rfl rfl) rfl rfl (by decide) ?_; refine .a ?_; refine .semM (OpSem.alloc 3 rfl zc30 rfl) rfl rfl (by decide) ?_; refine .z ?_; refine .x (OpSem.loadbN rfl rfl rfl vs25 (by first | decide | simp)) ?_; refine .x (OpSem.call0 (strips_Validate_does t) rfl rfl rfl rfl (Les.refl _)) ?_; refine .semM (OpSem.alloc 4 rfl zc30 rfl) rfl rfl (by decide) ?_; refine .sb vs30 ?_; refine .sq ?_; refine .seq ?_; refine .seq ?_; refine .region ?_; refine .x (OpSem.loadbN rfl rfl rfl vs30 (by first | decide | simp)) ?_; refine .x (OpSem.build rfl rfl pl30 zc30 rfl rfl) ?_; refine .x (OpSem.neS2 rfl rfl rfl io30) ?_; refine .sq ?_; refine .cond rfl (fun c16 => ?_) (fun c16 => ?_)
 ·have hne : tskF t ≠ (0, 0) := fun h => by simp [h] at c16
  refine .seq ?_; refine PC.start [] ?_; refine .x (OpSem.loadbN rfl rfl rfl vs30 (by first | decide | simp)) ?_; refine .x (OpSem.move (.inr rfl) rfl) ?_; refine .d0 mixed ?_; refine .sb vs30 ?_; refine .sq ?_; refine .ret ?_; refine .pass_ret ?_; exact .ret rfl (.tmp rfl <| .cellN rfl rfl vs30 <| .nil) rfl (Le.t (.cons (by rw [acR_1 hne]; exact Le.nil 1) <| .cons (.refl _) <| .nil))
 ·have h0 : tskF t = (0, 0) := pair0 (by simpa using c16)
  have hV := tskF_v h0
  have htf := hV.facts
  have hoo := hV.ops
  have hll : (lmL t).length ≤ t.facts.toNat := lmTo_len
  refine .skip ?_; refine .z ?_; refine .a ?_; refine .sq ?_; refine .seq ?_; refine .seq ?_; refine .ownNil (n := 5) 5 1 22 rfl ?_; refine .region ?_; refine .x (OpSem.loadbN rfl rfl rfl vs25 (by first | decide | simp)) ?_; refine .x (OpSem.call0 (landmark_facts_does t hV).fresh rfl rfl rfl rfl (Les.refl _)) ?_; refine .x (OpSem.lenL rfl rfl es22) ?_; refine .m ?_; refine .sq ?_; refine .block ?_; refine .loop (X := Nat) (fun k => k ≤ (lmL t).length) (fun k => [(1, .r 1 0), (3, .r 3 0), (4, .r 4 0), (5, .o 5), (19, .d (ints (lmL t))), (20, I ((lmL t).length)), (21, I (k))]) (fun k => [(5, .own 1 22 ((acsTo t k).map fun r => [ints r])), (1, .box [I (t.facts), .d (ints t.ini), .d (ints t.goal), .d (sopsD t.ops)]), (3, .box [I (0), I (0)]), (4, .box [I ((tskF t).1), I ((tskF t).2)])]) (fun k => (lmL t).length - k) 0 (by omega) ?_ ?_
  ·exact .sl <| .sl <| .sl <| .sl <| .sl <| .sl <| .slot rfl (Le.of_eq (by simp)) <| .memEq rfl (by simp [acsTo]) <| .mem rfl <| .mem rfl <| .mem rfl <| .nil
  ·rintro k hkl
   refine .seq ?_; refine .region ?_; refine .x (.b blss) ?_; refine .sq ?_; refine .seq ?_; refine .cond rfl (fun c22 => ?_) (fun c22 => ?_)
   ·have hk : k < (lmL t).length := by simpa using c22
    have hsl : (acsTo t k).length ≤ k := by simp [acsTo]; omega
    refine .skip ?_; refine .seq ?_; refine .seq ?_; refine .block ?_; refine .seq ?_; refine .region ?_; refine .x (OpSem.idxL rfl rfl rfl es22 (by omega) (by omega)) ?_; refine .x (OpSem.load1 rfl rfl vs3 rfl) ?_; refine .a ?_; refine .z ?_; refine .a ?_; refine .sq ?_; refine .seq ?_; refine .ownNil (n := 8) 8 1 3 rfl ?_; refine .region ?_; refine .x (OpSem.loadbN rfl rfl rfl vs25 (by first | decide | simp)) ?_; refine .m ?_; refine .x (OpSem.call0 (landmark_without_does t (nth (lmL t) k) hV).fresh rfl rfl rfl rfl (Les.refl _)) ?_; refine .a ?_; refine .sq ?_; refine .seq ?_; refine .seq ?_; refine .region ?_; refine .x (.f fo25_3) ?_; refine .x (.l vs23) ?_; refine .x (OpSem.lenL rfl rfl es23) ?_; refine .m ?_; refine .sq ?_; refine .block ?_; refine .loop (X := Nat) (fun i => i ≤ t.ops.length) (fun i => [(1, .r 1 0), (3, .r 3 0), (4, .r 4 0), (5, .o 5), (7, I ((nth (lmL t) k))), (8, .o 8), (9, .d (bools (wtoL t (nth (lmL t) k)))), (19, .d (ints (lmL t))), (20, I ((lmL t).length)), (21, I (k)), (29, .d (sopsD t.ops)), (30, I (t.ops.length)), (31, I (i))]) (fun i => [(8, .own 1 3 ((acTo t (nth (lmL t) k) i).map fun n => [D.v (.int .i64 n)])), (5, .own 1 22 ((acsTo t k).map fun r => [ints r])), (1, .box [I (t.facts), .d (ints t.ini), .d (ints t.goal), .d (sopsD t.ops)]), (3, .box [I (0), I (0)]), (4, .box [I ((tskF t).1), I ((tskF t).2)])]) (fun i => t.ops.length - i) 0 (by omega) ?_ ?_
    ·exact .sl <| .sl <| .sl <| .sl <| .sl <| .sl <| .sl <| .sl <| .sl <| .sl <| .sl <| .sl <| .slot rfl (Le.of_eq (by simp)) <| .memEq rfl (by simp [acTo]) <| .memEq rfl rfl <| .mem rfl <| .mem rfl <| .mem rfl <| .nil
    ·rintro i hil
     refine .seq ?_; refine .region ?_; refine .x (.b blss) ?_; refine .sq ?_; refine .seq ?_; refine .cond rfl (fun c32 => ?_) (fun c32 => ?_)
     ·have hi : i < t.ops.length := by simpa using c32
      have hal := acTo_len (t := t) (p := (nth (lmL t) k)) (k := i)
      refine .skip ?_; refine .seq ?_; refine .seq ?_; refine .block ?_; refine .seq ?_; refine .region ?_; refine .m ?_; refine .x (OpSem.idxL rfl rfl rfl es23 (by omega) (by omega)) ?_; refine .x (OpSem.loadN rfl rfl vs35 (by first | decide | simp) rfl) ?_; refine .semM (OpSem.alloc 11 rfl zc35 rfl) rfl rfl (by decide) ?_; refine .a ?_; refine .sb vs35 ?_; refine .z ?_; refine .x (.f fo25_1) ?_; refine .x (.l vs22) ?_; refine .m ?_; refine .x (OpSem.call0 (slices_Contains_int_int_does t.ini (nth (lmL t) k)) rfl rfl rfl rfl (Les.refl _)) ?_; refine .x (OpSem.not rfl rfl) ?_; refine .m ?_; refine .split (n := 41) rfl (fun c41 => ?_) (fun c41 => ?_)
      ·refine .gt c41 ?_; refine .x (.f fo35_1) ?_; refine .gt c41 ?_; refine .x (.l vs22) ?_; refine .gt c41 ?_; refine .m ?_; refine .gt c41 ?_; refine .x (OpSem.call0 (slices_Contains_int_int_does (nth t.ops i).add (nth (lmL t) k)) rfl rfl rfl rfl (Les.refl _)) ?_; refine .x (OpSem.pickT rfl rfl c41 rfl) ?_; refine .m ?_; refine .split (n := 47) rfl (fun c47 => ?_) (fun c47 => ?_)
       ·refine .gt c47 ?_; refine .m ?_; refine .gt c47 ?_; refine .x (.f fo35_0) ?_; refine .gt c47 ?_; refine .x (.l vs22) ?_; refine .gt c47 ?_; refine .x (OpSem.call0 (relaxed_All_does (wtoL t (nth (lmL t) k)) (nth t.ops i).pre (fun j hj => by have q := set_rng (hV.op i hi).1.1 j hj; have q2 := wtoL_len (t := t) (p := (nth (lmL t) k)); omega)) rfl rfl rfl rfl (Les.refl _)) ?_; refine .x (OpSem.pickT rfl rfl c47 rfl) ?_; refine .sq ?_; refine .cond rfl (fun c52 => ?_) (fun c52 => ?_)
        ·have hl : acP t (nth (lmL t) k) i = true := by unfold acP; simp_all
         refine .region ?_; refine .m ?_; refine .m ?_; refine .x (.bs es22 ze22) ?_; refine .ap es22 el22 zc3 by3 ?_; refine .a ?_; refine .nil ?_; refine .block_normal ?_; refine .y ?_; refine .x .ad ?_; refine .m ?_; refine .nil ?_; refine .again (i + 1) (by omega) ?_ (by omega); exact .sl <| .sl <| .sl <| .sl <| .sl <| .sl <| .sl <| .sl <| .sl <| .sl <| .sl <| .sl <| .slot rfl (Le.of_eq (by simp)) <| .memEq rfl (by rw [ac_t hl]; simp) <| .memEq rfl rfl <| .mem rfl <| .mem rfl <| .mem rfl <| .nil
        ·have hl : ¬ acP t (nth (lmL t) k) i = true := by unfold acP; simp_all
         refine .skip ?_; refine .block_normal ?_; refine .y ?_; refine .x .ad ?_; refine .m ?_; refine .nil ?_; refine .again (i + 1) (by omega) ?_ (by omega); exact .sl <| .sl <| .sl <| .sl <| .sl <| .sl <| .sl <| .sl <| .sl <| .sl <| .sl <| .sl <| .slot rfl (Le.of_eq (by simp)) <| .memEq rfl (by first | (rw [ac_f hl]; done) | (rw [ac_f hl]; rfl)) <| .memEq rfl rfl <| .mem rfl <| .mem rfl <| .mem rfl <| .nil
       ·have hl : ¬ acP t (nth (lmL t) k) i = true := by unfold acP; simp_all
        refine .gf c47 ?_; refine .gf c47 ?_; refine .gf c47 ?_; refine .gf c47 ?_; refine .x (OpSem.pickF rfl rfl c47 rfl) ?_; refine .sq ?_; refine .condF rfl rfl ?_; refine .skip ?_; refine .block_normal ?_; refine .y ?_; refine .x .ad ?_; refine .m ?_; refine .nil ?_; refine .again (i + 1) (by omega) ?_ (by omega); exact .sl <| .sl <| .sl <| .sl <| .sl <| .sl <| .sl <| .sl <| .sl <| .sl <| .sl <| .sl <| .slot rfl (Le.of_eq (by simp)) <| .memEq rfl (by first | (rw [ac_f hl]; done) | (rw [ac_f hl]; rfl)) <| .memEq rfl rfl <| .mem rfl <| .mem rfl <| .mem rfl <| .nil
      ·have hl : ¬ acP t (nth (lmL t) k) i = true := by unfold acP; simp_all
       refine .gf c41 ?_; refine .gf c41 ?_; refine .gf c41 ?_; refine .gf c41 ?_; refine .x (OpSem.pickF rfl rfl c41 rfl) ?_; refine .m ?_; refine .gf rfl ?_; refine .gf rfl ?_; refine .gf rfl ?_; refine .gf rfl ?_; refine .x (OpSem.pickF rfl rfl rfl rfl) ?_; refine .sq ?_; refine .condF rfl rfl ?_; refine .skip ?_; refine .block_normal ?_; refine .y ?_; refine .x .ad ?_; refine .m ?_; refine .nil ?_; refine .again (i + 1) (by omega) ?_ (by omega); exact .sl <| .sl <| .sl <| .sl <| .sl <| .sl <| .sl <| .sl <| .sl <| .sl <| .sl <| .sl <| .slot rfl (Le.of_eq (by simp)) <| .memEq rfl (by first | (rw [ac_f hl]; done) | (rw [ac_f hl]; rfl)) <| .memEq rfl rfl <| .mem rfl <| .mem rfl <| .mem rfl <| .nil
     ·have hi : i = t.ops.length := by simp at c32; omega
      subst hi
      refine .exit ?_; refine .pass_exit ?_; refine .pass_exit ?_; refine .block_same ?_; refine .seq ?_; refine .freeze 8 rfl ?_; refine .region ?_; refine .m ?_; refine .m ?_; refine .x (.bs es37 ze37) ?_; refine .ap es37 el37 zc22 by22 ?_; refine .a ?_; refine .nil ?_; refine .block_normal ?_; refine .y ?_; refine .x .ad ?_; refine .m ?_; refine .nil ?_; refine .again (k + 1) (by omega) ?_ (by omega); exact .sl <| .sl <| .sl <| .sl <| .sl <| .sl <| .slot rfl (Le.of_eq (by simp)) <| .memEq rfl (by rw [acs_s hk]; simp [acL]) <| .mem rfl <| .mem rfl <| .mem rfl <| .nil
   ·have hk : k = (lmL t).length := by simp at c22; omega
    subst hk
    refine .exit ?_; refine .pass_exit ?_; refine .pass_exit ?_; refine .block_same ?_; refine .seq ?_; refine .seq ?_; refine .freeze 5 rfl ?_; refine PC.start [] ?_; refine .m ?_; refine .x (OpSem.loadbN rfl rfl rfl vs30 (by first | decide | simp)) ?_; refine .x (OpSem.move (.inr rfl) rfl) ?_; refine .d0 mixed ?_; refine .sb vs30 ?_; refine .sq ?_; refine .ret ?_; exact .ret rfl (.tmp rfl <| .cellN rfl rfl vs30 <| .nil) rfl (Le.t (.cons (Le.of_eq (by rw [acR_0 h0])) <| .cons (.refl _) <| .nil))

end Go.Proofs.Ytlidcpmdgceboaa
end

section
/- The program of a task: what the walks need. -/

namespace Go.Eng
open Go
def chgO (o : SOp) (p : Int) : Int := if p ∉ o.pre ∧ p ∈ o.add then 1 else if p ∈ o.pre ∧ p ∈ o.del then -1 else 0
theorem chg_1 {o : SOp} {p : Int} (h : p ∉ o.pre) (h2 : p ∈ o.add) : 1 = chgO o p := by unfold chgO; rw [if_pos ⟨h, h2⟩]
theorem chg_2 {o : SOp} {p : Int} (h : p ∈ o.pre) (h2 : p ∈ o.del) : -1 = chgO o p := by unfold chgO; rw [if_neg (fun hh => hh.1 h), if_pos ⟨h, h2⟩]
theorem chg_0 {o : SOp} {p : Int} (h : ¬ (p ∉ o.pre ∧ p ∈ o.add)) (h2 : ¬ (p ∈ o.pre ∧ p ∈ o.del)) : 0 = chgO o p := by unfold chgO; rw [if_neg h, if_neg h2]
def SubP (a l : List Int) : Prop := ∀ k : Nat, k < a.length → nth a k ∈ l
instance {a l : List Int} : Decidable (SubP a l) := by unfold SubP; exact inferInstance
def CLarge (t : Tsk) : Prop := (∃ i : Nat, i < t.ops.length ∧ 20 < (nth t.ops i).cost) ∨ 6 < t.ops.length
instance {t : Tsk} : Decidable (CLarge t) := by
  unfold CLarge
  have : Decidable (∃ i : Nat, i < t.ops.length ∧ 20 < (nth t.ops i).cost) := decidable_of_iff (¬ ∀ i : Nat, i < t.ops.length → ¬ 20 < (nth t.ops i).cost) (by
    constructor
    · intro h
      exact Classical.byContradiction fun hn => h fun i hi hc => hn ⟨i, hi, hc⟩
    · rintro ⟨i, hi, hc⟩ h; exact h i hi hc)
  exact inferInstance
def adrTo (t : Tsk) (p : Int) (k : Nat) : List Bool := (t.ops.take k).map fun o => decide (p ∈ o.add)
theorem adr_s {t : Tsk} {p : Int} {k : Nat} (hk : k < t.ops.length) : adrTo t p (k + 1) = adrTo t p k ++ [decide (p ∈ (nth t.ops k).add)] := by unfold adrTo; rw [tk_s hk]; simp
theorem adr_len {t : Tsk} {p : Int} {k : Nat} (hk : k ≤ t.ops.length) : (adrTo t p k).length = k := by simp [adrTo]; omega
theorem adr_at {t : Tsk} {p : Int} {i : Nat} (hi : i < t.ops.length) : nth (adrTo t p t.ops.length) i = !(useP t p i) := by
  rw [nth_eq (by rw [adr_len (Nat.le_refl _)]; exact hi)]
  simp [adrTo, useP, nth_eq hi]
/-! ### The reference's closure -/
def wiJ (l : List Int) (now : List Int) : Nat → List Int
  | 0 => now
  | k + 1 => if nth l k ∈ wiJ l now k then wiJ l now k else withL (wiJ l now k) (nth l k)
def wiI (t : Tsk) (drop : List Bool) (now : List Int) : Nat → List Int
  | 0 => now
  | i + 1 => if nth drop i = false ∧ SubP (nth t.ops i).pre (wiI t drop now i) then wiJ (nth t.ops i).add (wiI t drop now i) (nth t.ops i).add.length else wiI t drop now i
def wiR (t : Tsk) (drop : List Bool) (s : List Int) : Nat → List Int
  | 0 => s
  | r + 1 => wiI t drop (wiR t drop s r) t.ops.length
end Go.Eng
end

section
/- Walks, written by gen.py out of hints. -/



namespace Go.Proofs.Ytlidcpmdgceboaa
open Go.Eng
set_option maxRecDepth 10000
set_option maxHeartbeats 1000000

theorem slices_IndexFunc_Operator_Operator_does (l : List SOp) (fn : Nat) (cs : List S) (p : SOp → Bool) (hcs : Caught cs) (hf : ∀ x, x ∈ l → Does Try.prog false fn ([sopS x] ++ cs) (Bo (p x))) : Does Try.prog false 63 [.d (sopsD l), .f fn [] cs] (I (findI p l)) := by
 refine Does.of_body Try.func63 rfl rfl (by simp) Try.call63 (fun w0 O0 => ?_); refine .lenLe (n := 0) rfl (fun len0 => ?_); refine .seq ?_; refine .region ?_; refine .a ?_; refine .sq ?_; refine .seq ?_; refine .seq ?_; refine .region ?_; refine .m ?_; refine .x (OpSem.lenL rfl rfl es23) ?_; refine .m ?_; refine .sq ?_; refine .block ?_; refine .loop (X := Nat) (fun k => k ≤ l.length ∧ ∀ j : Nat, j < k → p (nth l j) = false) (fun k => [(0, .d (sopsD l)), (1, .f fn [] cs), (7, I (l.length)), (8, I (k))]) (fun k => []) (fun k => l.length - k) 0 ⟨by omega, by simp⟩ ?_ ?_
 ·exact .sl <| .sl <| .sl <| .slot rfl (Le.of_eq (by simp)) <| .nil
 ·rintro k ⟨hkl, hinv⟩
  refine .seq ?_; refine .region ?_; refine .x (.b blss) ?_; refine .sq ?_; refine .seq ?_; refine .cond rfl (fun c9 => ?_) (fun c9 => ?_)
  ·have hk : k < l.length := by simpa using c9
   refine .skip ?_; refine .seq ?_; refine .seq ?_; refine .block ?_; refine .seq ?_; refine .region ?_; refine .m ?_; refine .a ?_; refine .z ?_; refine .m ?_; refine .m ?_; refine .m ?_; refine .x (OpSem.idxL rfl rfl rfl es23 (by omega) (by omega)) ?_; refine .x (OpSem.loadN rfl rfl vs35 (by first | decide | simp) rfl) ?_; refine .x (OpSem.call0 (hf _ (nth_mem (by omega) (by omega))) rfl rfl rfl (hcs.app rfl) (Les.refl _)) ?_; refine .sq ?_; refine .cond rfl (fun c16 => ?_) (fun c16 => ?_)
   ·refine .seq ?_; refine .region ?_; refine .m ?_; refine .a ?_; refine .sq ?_; refine .ret ?_; refine .block_ret ?_; refine .pass_ret ?_; refine .pass_ret ?_; refine .block_ret ?_; refine .pass_ret ?_; exact .ret rfl (.tmp rfl <| .nil) rfl (Le.i (findI_some hk hinv c16).symm)
   ·refine .skip ?_; refine .block_normal ?_; refine .y ?_; refine .x .ad ?_; refine .m ?_; refine .nil ?_; refine .again (k + 1) ⟨by omega, all_succ hinv c16⟩ ?_ (by omega); exact .sl <| .sl <| .sl <| .slot rfl (Le.of_eq (by simp)) <| .nil
  ·have hk : k = l.length := by simp at c9; omega
   refine .exit ?_; refine .pass_exit ?_; refine .pass_exit ?_; refine .block_same ?_; refine .z ?_; refine .a ?_; refine .sq ?_; refine .ret ?_; exact .ret rfl (.tmp rfl <| .nil) rfl (Le.i (by subst hk; exact (findI_none hinv).symm))

theorem slices_ContainsFunc_Operator_Operator_does (l : List SOp) (fn : Nat) (cs : List S) (p : SOp → Bool) (hcs : Caught cs) (hf : ∀ x, x ∈ l → Does Try.prog false fn ([sopS x] ++ cs) (Bo (p x))) : Does Try.prog false 29 [.d (sopsD l), .f fn [] cs] (Bo (l.any p)) := by
 refine Does.of_body Try.func29 rfl rfl (by simp) Try.call29 (fun w0 O0 => ?_); refine .lenLe (n := 0) rfl (fun len0 => ?_); refine .seq ?_; refine .region ?_; refine .a ?_; refine .z ?_; refine .m ?_; refine .m ?_; refine .x (OpSem.call0 (slices_IndexFunc_Operator_Operator_does l fn cs p hcs hf) rfl rfl rfl (hcs.arg rfl) (Les.refl _)) ?_; refine .x (.b bgeq) ?_; refine .a ?_; refine .sq ?_; refine .ret ?_; exact .ret rfl (.tmp rfl <| .nil) rfl (Le.bo findI_any)

theorem counting_Program_1_does (o : SOp) : Does Try.prog false 30 [sopS o] (Bo (decide (20 < o.cost))) := by
 refine Does.of_body Try.func30 rfl rfl (by simp) Try.call30 (fun w0 O0 => ?_); refine .lenG (n := 0) (i := 0) rfl rfl (fun len0_0 => ?_); refine .lenG (n := 0) (i := 1) rfl rfl (fun len0_1 => ?_); refine .lenG (n := 0) (i := 2) rfl rfl (fun len0_2 => ?_); refine .seq ?_; refine .region ?_; refine .semM (OpSem.box 1 rfl rfl rfl rfl) rfl rfl (by decide) ?_; refine .a ?_; refine .z ?_; refine .x (.f fo35_3) ?_; refine .x (.l vs3) ?_; refine .x (.b bgtr) ?_; refine .a ?_; refine .sq ?_; refine .ret ?_; exact .ret rfl (.tmp rfl <| .nil) rfl (Le.bo (by simp))

theorem counting_change_does (o : SOp) (p : Int) : Does Try.prog false 31 [sopS o, I (p)] (I (chgO o p)) := by
 refine Does.of_body Try.func31 rfl rfl (by simp) Try.call31 (fun w0 O0 => ?_); refine .lenG (n := 0) (i := 0) rfl rfl (fun len0_0 => ?_); refine .lenG (n := 0) (i := 1) rfl rfl (fun len0_1 => ?_); refine .lenG (n := 0) (i := 2) rfl rfl (fun len0_2 => ?_); refine .seq ?_; refine .region ?_; refine .semM (OpSem.box 2 rfl rfl rfl rfl) rfl rfl (by decide) ?_; refine .a ?_; refine .z ?_; refine .x (.f fo35_0) ?_; refine .x (.l vs22) ?_; refine .m ?_; refine .x (OpSem.call0 (slices_Contains_int_int_does o.pre p) rfl rfl rfl rfl (Les.refl _)) ?_; refine .a ?_; refine .sq ?_; refine .seq ?_; refine .block ?_; refine .seq ?_; refine .region ?_; refine .m ?_; refine .x (OpSem.not rfl rfl) ?_; refine .m ?_; refine .split (n := 13) rfl (fun c13 => ?_) (fun c13 => ?_)
 ·refine .gt c13 ?_; refine .x (.f fo35_1) ?_; refine .gt c13 ?_; refine .x (.l vs22) ?_; refine .gt c13 ?_; refine .m ?_; refine .gt c13 ?_; refine .x (OpSem.call0 (slices_Contains_int_int_does o.add p) rfl rfl rfl rfl (Les.refl _)) ?_; refine .x (OpSem.pickT rfl rfl c13 rfl) ?_; refine .a ?_; refine .sq ?_; refine .cond rfl (fun c10 => ?_) (fun c10 => ?_)
  ·refine .seq ?_; refine .region ?_; refine .a ?_; refine .sq ?_; refine .ret ?_; refine .block_ret ?_; refine .pass_ret ?_; exact .ret rfl (.tmp rfl <| .nil) rfl (Le.i (by first | exact chg_1 (by simp_all) (by simp_all) | exact chg_2 (by simp_all) (by simp_all) | exact chg_0 (by simp_all) (by simp_all)))
  ·refine .seq ?_; refine .region ?_; refine .m ?_; refine .m ?_; refine .split (n := 21) rfl (fun c21 => ?_) (fun c21 => ?_)
   ·refine .gt c21 ?_; refine .x (.f fo35_2) ?_; refine .gt c21 ?_; refine .x (.l vs22) ?_; refine .gt c21 ?_; refine .m ?_; refine .gt c21 ?_; refine .x (OpSem.call0 (slices_Contains_int_int_does o.del p) rfl rfl rfl rfl (Les.refl _)) ?_; refine .x (OpSem.pickT rfl rfl c21 rfl) ?_; refine .a ?_; refine .sq ?_; refine .cond rfl (fun c19 => ?_) (fun c19 => ?_)
    ·refine .seq ?_; refine .region ?_; refine .a ?_; refine .sq ?_; refine .ret ?_; refine .block_ret ?_; refine .pass_ret ?_; exact .ret rfl (.tmp rfl <| .nil) rfl (Le.i (by first | exact chg_1 (by simp_all) (by simp_all) | exact chg_2 (by simp_all) (by simp_all) | exact chg_0 (by simp_all) (by simp_all)))
    ·refine .skip ?_; refine .block_normal ?_; refine .z ?_; refine .a ?_; refine .sq ?_; refine .ret ?_; exact .ret rfl (.tmp rfl <| .nil) rfl (Le.i (by first | exact chg_1 (by simp_all) (by simp_all) | exact chg_2 (by simp_all) (by simp_all) | exact chg_0 (by simp_all) (by simp_all)))
   ·refine .gf c21 ?_; refine .gf c21 ?_; refine .gf c21 ?_; refine .gf c21 ?_; refine .x (OpSem.pickF rfl rfl c21 rfl) ?_; refine .a ?_; refine .sq ?_; refine .condF rfl rfl ?_; refine .skip ?_; refine .block_normal ?_; refine .z ?_; refine .a ?_; refine .sq ?_; refine .ret ?_; exact .ret rfl (.tmp rfl <| .nil) rfl (Le.i (by first | exact chg_1 (by simp_all) (by simp_all) | exact chg_2 (by simp_all) (by simp_all) | exact chg_0 (by simp_all) (by simp_all)))
 ·refine .gf c13 ?_; refine .gf c13 ?_; refine .gf c13 ?_; refine .gf c13 ?_; refine .x (OpSem.pickF rfl rfl c13 rfl) ?_; refine .a ?_; refine .sq ?_; refine .condF rfl rfl ?_; refine .seq ?_; refine .region ?_; refine .m ?_; refine .m ?_; refine .split (n := 21) rfl (fun c21 => ?_) (fun c21 => ?_)
  ·refine .gt c21 ?_; refine .x (.f fo35_2) ?_; refine .gt c21 ?_; refine .x (.l vs22) ?_; refine .gt c21 ?_; refine .m ?_; refine .gt c21 ?_; refine .x (OpSem.call0 (slices_Contains_int_int_does o.del p) rfl rfl rfl rfl (Les.refl _)) ?_; refine .x (OpSem.pickT rfl rfl c21 rfl) ?_; refine .a ?_; refine .sq ?_; refine .cond rfl (fun c19 => ?_) (fun c19 => ?_)
   ·refine .seq ?_; refine .region ?_; refine .a ?_; refine .sq ?_; refine .ret ?_; refine .block_ret ?_; refine .pass_ret ?_; exact .ret rfl (.tmp rfl <| .nil) rfl (Le.i (by first | exact chg_1 (by simp_all) (by simp_all) | exact chg_2 (by simp_all) (by simp_all) | exact chg_0 (by simp_all) (by simp_all)))
   ·refine .skip ?_; refine .block_normal ?_; refine .z ?_; refine .a ?_; refine .sq ?_; refine .ret ?_; exact .ret rfl (.tmp rfl <| .nil) rfl (Le.i (by first | exact chg_1 (by simp_all) (by simp_all) | exact chg_2 (by simp_all) (by simp_all) | exact chg_0 (by simp_all) (by simp_all)))
  ·refine .gf c21 ?_; refine .gf c21 ?_; refine .gf c21 ?_; refine .gf c21 ?_; refine .x (OpSem.pickF rfl rfl c21 rfl) ?_; refine .a ?_; refine .sq ?_; refine .condF rfl rfl ?_; refine .skip ?_; refine .block_normal ?_; refine .z ?_; refine .a ?_; refine .sq ?_; refine .ret ?_; exact .ret rfl (.tmp rfl <| .nil) rfl (Le.i (by first | exact chg_1 (by simp_all) (by simp_all) | exact chg_2 (by simp_all) (by simp_all) | exact chg_0 (by simp_all) (by simp_all)))

theorem R_Subset_does (a l : List Int) : Does Try.prog false 68 [.d (ints a), .d (ints l)] (Bo (decide (SubP a l))) := by
 refine Does.of_body Try.func68 rfl rfl (by simp) Try.call68 (fun w0 O0 => ?_); refine .lenLe (n := 0) rfl (fun len0 => ?_); refine .lenLe (n := 1) rfl (fun len1 => ?_); refine .seq ?_; refine .region ?_; refine .a ?_; refine .sq ?_; refine .seq ?_; refine .seq ?_; refine .region ?_; refine .a ?_; refine .sq ?_; refine .block ?_; refine .loop (X := Nat) (fun k => k ≤ a.length ∧ ∀ i : Nat, i < k → nth a i ∈ l) (fun k => [(0, .d (ints a)), (1, .d (ints l)), (5, I (k))]) (fun k => []) (fun k => a.length - k) 0 ⟨by omega, by simp⟩ ?_ ?_
 ·exact .sl <| .sl <| .slot rfl (Le.of_eq (by simp)) <| .nil
 ·rintro k ⟨hkl, hinv⟩
  refine .seq ?_; refine .seq ?_; refine .region ?_; refine .m ?_; refine .m ?_; refine .x (OpSem.lenL rfl rfl es22) ?_; refine .x (.b blss) ?_; refine .sq ?_; refine .cond rfl (fun c9 => ?_) (fun c9 => ?_)
  ·have hk : k < a.length := by simpa using c9
   refine .skip ?_; refine .seq ?_; refine .seq ?_; refine .block ?_; refine .seq ?_; refine .region ?_; refine .m ?_; refine .m ?_; refine .m ?_; refine .x (OpSem.idxL rfl rfl rfl es22 (by omega) (by omega)) ?_; refine .x (OpSem.load1 rfl rfl vs3 rfl) ?_; refine .x (OpSem.call0 (R_Has_does l (nth a k)) rfl rfl rfl rfl (Les.refl _)) ?_; refine .x (OpSem.not rfl rfl) ?_; refine .sq ?_; refine .cond rfl (fun c18 => ?_) (fun c18 => ?_)
   ·have hb : ¬ nth a k ∈ l := by simpa using c18
    refine .seq ?_; refine .region ?_; refine .a ?_; refine .sq ?_; refine .ret ?_; refine .block_ret ?_; refine .pass_ret ?_; refine .pass_ret ?_; refine .block_ret ?_; refine .pass_ret ?_; exact .ret rfl (.tmp rfl <| .nil) rfl (Le.bo (decide_eq_false (fun h => hb (h k hk))).symm)
   ·have hb : nth a k ∈ l := by simpa using c18
    refine .skip ?_; refine .block_normal ?_; refine .y ?_; refine .m ?_; refine .x .ad ?_; refine .a ?_; refine .nil ?_; refine .again (k + 1) ⟨by omega, all_succ hinv hb⟩ ?_ (by omega); exact .sl <| .sl <| .slot rfl (Le.of_eq (by simp)) <| .nil
  ·have hk : k = a.length := by simp at c9; omega
   refine .exit ?_; refine .pass_exit ?_; refine .pass_exit ?_; refine .block_same ?_; refine .z ?_; refine .a ?_; refine .sq ?_; refine .ret ?_; exact .ret rfl (.tmp rfl <| .nil) rfl (Le.bo (decide_eq_true (by subst hk; exact hinv)).symm)

theorem Q_CountingLarge_does (t : Tsk) : Does Try.prog false 14 [tskS t] (Bo (decide (CLarge t))) := by
 refine Does.of_body Try.func14 rfl rfl (by simp) Try.call14 (fun w0 O0 => ?_); refine .lenG (n := 0) (i := 1) rfl rfl (fun len0_1 => ?_); refine .lenG (n := 0) (i := 2) rfl rfl (fun len0_2 => ?_); refine .lenG (n := 0) (i := 3) rfl rfl (fun len0_3 => ?_); refine .seq ?_; refine .region ?_; refine .semM (OpSem.box 1 rfl rfl rfl rfl) rfl rfl (by decide) ?_; refine .a ?_; refine .sq ?_; refine .seq ?_; refine .seq ?_; refine .region ?_; refine .a ?_; refine .sq ?_; refine .block ?_; refine .loop (X := Nat) (fun k => k ≤ t.ops.length ∧ ∀ i : Nat, i < k → ¬ 20 < (nth t.ops i).cost) (fun k => [(1, .r 1 0), (3, I (k))]) (fun k => [(1, .box [I (t.facts), .d (ints t.ini), .d (ints t.goal), .d (sopsD t.ops)])]) (fun k => t.ops.length - k) 0 ⟨by omega, by simp⟩ ?_ ?_
 ·exact .sl <| .slot rfl (Le.of_eq (by simp)) <| .mem rfl <| .nil
 ·rintro k ⟨hkl, hinv⟩
  refine .seq ?_; refine .seq ?_; refine .region ?_; refine .m ?_; refine .x (.f fo25_3) ?_; refine .x (.l vs23) ?_; refine .x (OpSem.lenL rfl rfl es23) ?_; refine .x (.b blss) ?_; refine .sq ?_; refine .cond rfl (fun c8 => ?_) (fun c8 => ?_)
  ·have hk : k < t.ops.length := by simpa using c8
   refine .skip ?_; refine .seq ?_; refine .seq ?_; refine .block ?_; refine .seq ?_; refine .region ?_; refine .x (.f fo25_3) ?_; refine .x (.l vs23) ?_; refine .m ?_; refine .x (OpSem.idxL rfl rfl rfl es23 (by omega) (by omega)) ?_; refine .x (OpSem.fieldp rfl rfl fo35_3) ?_; refine .x (OpSem.load1 rfl rfl vs3 rfl) ?_; refine .x (.b bgtr) ?_; refine .sq ?_; refine .cond rfl (fun c17 => ?_) (fun c17 => ?_)
   ·have hb : 20 < (nth t.ops k).cost := by simpa using c17
    refine .seq ?_; refine .region ?_; refine .a ?_; refine .sq ?_; refine .ret ?_; refine .block_ret ?_; refine .pass_ret ?_; refine .pass_ret ?_; refine .block_ret ?_; refine .pass_ret ?_; exact .ret rfl (.tmp rfl <| .nil) rfl (Le.bo (decide_eq_true (.inl ⟨k, hk, hb⟩)).symm)
   ·have hb : ¬ 20 < (nth t.ops k).cost := by simpa using c17
    refine .skip ?_; refine .block_normal ?_; refine .y ?_; refine .m ?_; refine .x .ad ?_; refine .a ?_; refine .nil ?_; refine .again (k + 1) ⟨by omega, all_succ hinv hb⟩ ?_ (by omega); exact .sl <| .slot rfl (Le.of_eq (by simp)) <| .mem rfl <| .nil
  ·have hk : k = t.ops.length := by simp at c8; omega
   refine .exit ?_; refine .pass_exit ?_; refine .pass_exit ?_; refine .block_same ?_; refine .z ?_; refine .x (.f fo25_3) ?_; refine .x (.l vs23) ?_; refine .x (OpSem.lenL rfl rfl es23) ?_; refine .x (.b bgtr) ?_; refine .a ?_; refine .sq ?_; refine .ret ?_; exact .ret rfl (.tmp rfl <| .nil) rfl (Le.bo (decide_eq_decide.2 ⟨fun h => .inr (by omega), fun h => h.elim (fun ⟨i, hi, hc⟩ => absurd hc (hinv i (by omega))) (fun h => by omega)⟩))

theorem S3_Adders_does (t : Tsk) (p : Int) (hol : t.ops.length ≤ 1000000) : DoesO Try.prog 70 [tskS t, I (p)] 1 4 (((adrTo t p t.ops.length).map fun b => [D.v (.bool b)])) := by
 refine DoesO.of_body Try.func70 rfl rfl (by simp) Try.call70 (fun w0 O0 => ?_); refine .lenG (n := 0) (i := 1) rfl rfl (fun len0_1 => ?_); refine .lenG (n := 0) (i := 2) rfl rfl (fun len0_2 => ?_); refine .lenG (n := 0) (i := 3) rfl rfl (fun len0_3 => ?_); refine .seq ?_; refine .region ?_; refine .semM (OpSem.box 2 rfl rfl rfl rfl) rfl rfl (by decide) ?_; refine .a ?_; refine .z ?_; refine .a ?_; refine .sq ?_; refine .seq ?_; refine .seq ?_; refine .ownNil (n := 5) 5 1 4 rfl ?_; refine .region ?_; refine .a ?_; refine .sq ?_; refine .block ?_; refine .loop (X := Nat) (fun k => k ≤ t.ops.length) (fun k => [(1, I (p)), (2, .r 2 0), (5, .o 5), (6, I (k))]) (fun k => [(5, .own 1 4 ((adrTo t p k).map fun b => [D.v (.bool b)])), (2, .box [I (t.facts), .d (ints t.ini), .d (ints t.goal), .d (sopsD t.ops)])]) (fun k => t.ops.length - k) 0 (by omega) ?_ ?_
 ·exact .sl <| .sl <| .sl <| .slot rfl (Le.of_eq (by simp)) <| .memEq rfl (by simp [adrTo]) <| .mem rfl <| .nil
 ·rintro k hkl
  refine .seq ?_; refine .seq ?_; refine .region ?_; refine .m ?_; refine .x (.f fo25_3) ?_; refine .x (.l vs23) ?_; refine .x (OpSem.lenL rfl rfl es23) ?_; refine .x (.b blss) ?_; refine .sq ?_; refine .cond rfl (fun c11 => ?_) (fun c11 => ?_)
  ·have hk : k < t.ops.length := by simpa using c11
   have hal := adr_len (p := p) (Nat.le_of_lt hk)
   refine .skip ?_; refine .seq ?_; refine .seq ?_; refine .block ?_; refine .region ?_; refine .m ?_; refine .x (.f fo25_3) ?_; refine .x (.l vs23) ?_; refine .m ?_; refine .x (OpSem.idxL rfl rfl rfl es23 (by omega) (by omega)) ?_; refine .x (OpSem.fieldp rfl rfl fo35_1) ?_; refine .x (OpSem.load1 rfl rfl vs22 rfl) ?_; refine .m ?_; refine .x (OpSem.call0 (R_Has_does (nth t.ops k).add p) rfl rfl rfl rfl (Les.refl _)) ?_; refine .x (.bs es105 ze105) ?_; refine .ap es105 el105 zc4 by4 ?_; refine .a ?_; refine .nil ?_; refine .block_normal ?_; refine .y ?_; refine .m ?_; refine .x .ad ?_; refine .a ?_; refine .nil ?_; refine .again (k + 1) (by omega) ?_ (by omega); exact .sl <| .sl <| .sl <| .slot rfl (Le.of_eq (by simp)) <| .memEq rfl (by rw [adr_s hk]; simp) <| .mem rfl <| .nil
  ·have hk : k = t.ops.length := by simp at c11; omega
   subst hk
   refine .exit ?_; refine .pass_exit ?_; refine .pass_exit ?_; refine .block_same ?_; refine .z ?_; refine .m ?_; refine .a ?_; refine .sq ?_; refine .ret ?_; exact .retO2 rfl rfl rfl (by simp) (rfl)

end Go.Proofs.Ytlidcpmdgceboaa
end

section
/- The reference's closure is the closure. -/

namespace Go.Eng
open Go
theorem withL_in {l : List Int} {n x : Int} (h : x ∈ withL l n) : x = n ∨ x ∈ l := by
  unfold withL at h
  simp only [List.mem_append, List.mem_singleton] at h
  rcases h with (h | h) | h
  · exact .inr (List.mem_of_mem_take h)
  · exact .inl h
  · exact .inr (List.mem_of_mem_drop h)
theorem withL_old {l : List Int} {n x : Int} (h : x ∈ l) : x ∈ withL l n := by
  obtain ⟨i, hi, rfl⟩ := List.getElem_of_mem h
  have := withL_mem (l := l) (n := n) hi
  rwa [nth_eq hi] at this
theorem cutN_le {l : List Int} {n : Int} : cutN l n ≤ l.length := by
  unfold cutN firstBad
  cases h : (List.range l.length).find? _ with
  | none => simp
  | some i => have := List.mem_of_find?_eq_some h; simp at this ⊢; omega
theorem withL_new {l : List Int} {n : Int} (h : n ∉ l) : withL l n = l.take (cutN l n) ++ [n] ++ l.drop (cutN l n) :=
  withL_f rfl fun hh => h (by rw [← hh.2]; exact nth_mem (by omega) (by omega))
theorem withL_nd {l : List Int} {n : Int} (h : n ∉ l) (hn : l.Nodup) : (withL l n).Nodup ∧ (withL l n).length = l.length + 1 := by
  have hc := cutN_le (l := l) (n := n)
  rw [withL_new h]
  refine ⟨?_, by simp; omega⟩
  have hp : (l.take (cutN l n) ++ [n] ++ l.drop (cutN l n)).Perm (n :: l) := by
    have h1 : (l.take (cutN l n) ++ [n] ++ l.drop (cutN l n)).Perm (n :: (l.take (cutN l n) ++ l.drop (cutN l n))) := by
      rw [List.append_assoc]; exact List.perm_middle
    rwa [List.take_append_drop] at h1
  exact hp.nodup_iff.2 (List.nodup_cons.2 ⟨h, hn⟩)
/-- What holds of the list. -/
structure WInv (t : Tsk) (s : List Int) (use : Nat → Bool) (now : List Int) : Prop where
  nd : now.Nodup
  base : ∀ p, p ∈ s → p ∈ now
  snd : ∀ p, p ∈ now → (0 ≤ p ∧ p < t.facts) ∧ Rch t s use p
section
variable {t : Tsk} {s : List Int} {use : Nat → Bool} {drop : List Bool}
theorem wiJ_inv {l now : List Int} (hl : ∀ p, p ∈ l → (0 ≤ p ∧ p < t.facts) ∧ Rch t s use p) (h : WInv t s use now) : ∀ {k : Nat}, k ≤ l.length → WInv t s use (wiJ l now k) ∧ now.length ≤ (wiJ l now k).length ∧ (∀ p, p ∈ now → p ∈ wiJ l now k) ∧ ((wiJ l now k).length = now.length → wiJ l now k = now ∧ ∀ j : Nat, j < k → nth l j ∈ now)
  | 0, _ => ⟨h, Nat.le_refl _, fun p hp => hp, fun _ => ⟨rfl, fun j hj => by omega⟩⟩
  | k + 1, hk => by
    obtain ⟨i1, i2, i3, i4⟩ := wiJ_inv hl h (k := k) (by omega)
    simp only [wiJ]
    by_cases c : nth l k ∈ wiJ l now k
    · rw [if_pos c]
      refine ⟨i1, i2, i3, fun he => ?_⟩
      obtain ⟨e1, e2⟩ := i4 he
      refine ⟨e1, fun j hj => ?_⟩
      by_cases e : j = k
      · subst e; rw [e1] at c; exact c
      · exact e2 j (by omega)
    · rw [if_neg c]
      obtain ⟨n1, n2⟩ := withL_nd c i1.nd
      refine ⟨⟨n1, fun p hp => withL_old (i1.base p hp), fun p hp => ?_⟩, by omega, fun p hp => withL_old (i3 p hp), fun he => by omega⟩
      rcases withL_in hp with rfl | hp
      · exact hl _ (nth_mem (by omega) (by omega))
      · exact i1.snd p hp
theorem wiI_inv (ht : TskOk t) (hd : ∀ i : Nat, i < t.ops.length → nth drop i = !(use i)) {now : List Int} (h : WInv t s use now) : ∀ {i : Nat}, i ≤ t.ops.length → WInv t s use (wiI t drop now i) ∧ now.length ≤ (wiI t drop now i).length ∧ (∀ p, p ∈ now → p ∈ wiI t drop now i) ∧
    ((wiI t drop now i).length = now.length → wiI t drop now i = now ∧ ∀ j : Nat, j < i → use j = true → SubP (nth t.ops j).pre now → ∀ p, p ∈ (nth t.ops j).add → p ∈ now)
  | 0, _ => ⟨h, Nat.le_refl _, fun p hp => hp, fun _ => ⟨rfl, fun j hj => by omega⟩⟩
  | i + 1, hi => by
    obtain ⟨i1, i2, i3, i4⟩ := wiI_inv ht hd h (i := i) (by omega)
    simp only [wiI]
    have hdi := hd i (by omega)
    by_cases c : nth drop i = false ∧ SubP (nth t.ops i).pre (wiI t drop now i)
    · rw [if_pos c]
      have hu : use i = true := by have := c.1; rw [hdi] at this; simpa using this
      have hadd : ∀ p, p ∈ (nth t.ops i).add → (0 ≤ p ∧ p < t.facts) ∧ Rch t s use p := fun p hp => ⟨setP_mem (ht.2 i (by omega)).2.1 hp, .op (by omega) hu (fun q hq => by
        obtain ⟨k, hk, rfl⟩ := List.getElem_of_mem hq
        have := c.2 k hk
        rw [nth_eq hk] at this
        exact (i1.snd _ this).2) hp⟩
      obtain ⟨j1, j2, j3, j4⟩ := wiJ_inv hadd i1 (Nat.le_refl _)
      refine ⟨j1, by omega, fun p hp => j3 p (i3 p hp), fun he => ?_⟩
      obtain ⟨e1, e2⟩ := i4 (by omega)
      obtain ⟨e3, e4⟩ := j4 (by omega)
      refine ⟨e3.trans e1, fun j hj hu hp p hpm => ?_⟩
      by_cases e : j = i
      · subst e
        obtain ⟨k, hk, rfl⟩ := List.getElem_of_mem hpm
        have := e4 k hk
        rw [nth_eq hk, e1] at this
        exact this
      · exact e2 j (by omega) hu hp p hpm
    · rw [if_neg c]
      refine ⟨i1, i2, i3, fun he => ?_⟩
      obtain ⟨e1, e2⟩ := i4 he
      refine ⟨e1, fun j hj hu hp p hpm => ?_⟩
      by_cases e : j = i
      · subst e
        rw [e1] at c
        exact absurd ⟨by rw [hdi, hu]; rfl, hp⟩ c
      · exact e2 j (by omega) hu hp p hpm
theorem wiR_inv (ht : TskOk t) (hd : ∀ i : Nat, i < t.ops.length → nth drop i = !(use i)) (hs : SetP t.facts s) : ∀ {r : Nat}, WInv t s use (wiR t drop s r)
  | 0 => ⟨List.Pairwise.imp (fun {a b} h => by omega) (setP_sorted hs), fun p hp => hp, fun p hp => ⟨setP_mem hs hp, .base hp⟩⟩
  | r + 1 => (wiI_inv ht hd (wiR_inv ht hd hs (r := r)) (Nat.le_refl _)).1
theorem w_len (ht : TskOk t) {now : List Int} (h : WInv t s use now) : now.length ≤ t.facts.toNat := by
  have := nodup_le (l := now) (l' := (List.range t.facts.toNat).map fun (i : Nat) => (i : Int)) h.nd (fun p hp => by
    obtain ⟨⟨h0, h1⟩, _⟩ := h.snd p hp
    obtain ⟨m, rfl⟩ := Int.eq_ofNat_of_zero_le h0
    exact List.mem_map.2 ⟨m, List.mem_range.2 (by omega), rfl⟩)
  simpa using this
theorem wiR_stay {r : Nat} (h : wiR t drop s (r + 1) = wiR t drop s r) : ∀ j, wiR t drop s (r + j) = wiR t drop s r
  | 0 => rfl
  | j + 1 => by
    have ih := wiR_stay h j
    show wiI t drop (wiR t drop s (r + j)) t.ops.length = _
    rw [ih]; exact h
theorem wiR_mem (ht : TskOk t) (hd : ∀ i : Nat, i < t.ops.length → nth drop i = !(use i)) (hs : SetP t.facts s) {p : Int} : p ∈ wiR t drop s (t.facts.toNat + 1) ↔ Rch t s use p := by
  have hstep : ∀ r, (wiR t drop s (r + 1)).length = (wiR t drop s r).length ∨ (wiR t drop s r).length < (wiR t drop s (r + 1)).length := fun r => by
    have := (wiI_inv ht hd (wiR_inv ht hd hs (r := r)) (Nat.le_refl _)).2.1
    have e : wiI t drop (wiR t drop s r) t.ops.length = wiR t drop s (r + 1) := rfl
    rw [e] at this; omega
  obtain ⟨r, hr, he⟩ : ∃ r, r ≤ t.facts.toNat ∧ (wiR t drop s (r + 1)).length = (wiR t drop s r).length := by
    refine Classical.byContradiction fun hn => ?_
    have hall : ∀ r, r ≤ t.facts.toNat → (wiR t drop s r).length < (wiR t drop s (r + 1)).length := fun r hr => (hstep r).resolve_left fun h => hn ⟨r, hr, h⟩
    have hk : ∀ r, r ≤ t.facts.toNat + 1 → r ≤ (wiR t drop s r).length := fun r => by
      induction r with
      | zero => intro _; omega
      | succ r ih => intro hr; have := ih (by omega); have := hall r (by omega); omega
    have h1 := hk (t.facts.toNat + 1) (Nat.le_refl _)
    have h2 := w_len ht (wiR_inv ht hd hs (r := t.facts.toNat + 1))
    omega
  obtain ⟨e1, e2⟩ := (wiI_inv ht hd (wiR_inv ht hd hs (r := r)) (Nat.le_refl _)).2.2.2 he
  have hst := wiR_stay (t := t) (drop := drop) (s := s) (r := r) e1 (t.facts.toNat + 1 - r)
  rw [show r + (t.facts.toNat + 1 - r) = t.facts.toNat + 1 by omega] at hst
  rw [hst]
  have hI := wiR_inv ht hd hs (r := r)
  refine ⟨fun hp => (hI.snd p hp).2, fun hp => ?_⟩
  induction hp with
  | base hp => exact hI.base _ hp
  | @op i p hi hu hq hp ih => exact e2 i hi hu (fun k hk => ih _ (nth_mem (by omega) (by omega))) p hp
end
end Go.Eng
end

section
/- Walks, written by gen.py out of hints. -/





namespace Go.Proofs.Ytlidcpmdgceboaa
open Go.Eng
set_option maxRecDepth 10000
set_option maxHeartbeats 1000000

theorem S3_Within_does (t : Tsk) (s : List Int) (drop : List Bool) (use : Nat → Bool) (ht : TskOk t) (hdl : drop.length = t.ops.length) (hd : ∀ i : Nat, i < t.ops.length → nth drop i = !(use i)) (hs : SetP t.facts s) : Does Try.prog false 69 [tskS t, .d (ints s), .d (bools drop)] (.d (ints (wiR t drop s (t.facts.toNat + 1)))) := by
 have htf := ht.1
 have hsl := setP_len hs htf.2
 refine Does.of_body Try.func69 rfl rfl (by simp) Try.call69 (fun w0 O0 => ?_); refine .lenG (n := 0) (i := 1) rfl rfl (fun len0_1 => ?_); refine .lenG (n := 0) (i := 2) rfl rfl (fun len0_2 => ?_); refine .lenG (n := 0) (i := 3) rfl rfl (fun len0_3 => ?_); refine .lenLe (n := 1) rfl (fun len1 => ?_); refine .lenLe (n := 2) rfl (fun len2 => ?_); refine .seq ?_; refine .region ?_; refine .semM (OpSem.box 3 rfl rfl rfl rfl) rfl rfl (by decide) ?_; refine .a ?_; refine .z ?_; refine .m ?_; refine .x (OpSem.call0 (R_Copy_does s (by omega)).fresh rfl rfl rfl rfl (Les.refl _)) ?_; refine .a ?_; refine .sq ?_; refine .seq ?_; refine .seq ?_; refine .region ?_; refine .a ?_; refine .sq ?_; refine .block ?_; refine .loop (X := Nat) (fun r => (r : Int) ≤ t.facts + 1) (fun r => [(2, .d (bools drop)), (3, .r 3 0), (7, .d (ints (wiR t drop s r))), (8, I (r))]) (fun r => [(3, .box [I (t.facts), .d (ints t.ini), .d (ints t.goal), .d (sopsD t.ops)])]) (fun r => t.facts.toNat + 1 - r) 0 (by omega) ?_ ?_
 ·exact .sl <| .sl <| .slot rfl (Le.of_eq rfl) <| .slot rfl (Le.of_eq (by simp)) <| .mem rfl <| .nil
 ·rintro r hrl
  refine .seq ?_; refine .seq ?_; refine .region ?_; refine .m ?_; refine .x (.f fo25_0) ?_; refine .x (.l vs3) ?_; refine .x (.b bleq) ?_; refine .sq ?_; refine .cond rfl (fun c16 => ?_) (fun c16 => ?_)
  ·have hr : (r : Int) ≤ t.facts := by simpa using c16
   have hR := wiR_inv ht hd hs (r := r)
   refine .skip ?_; refine .seq ?_; refine .seq ?_; refine .block ?_; refine .seq ?_; refine .region ?_; refine .a ?_; refine .sq ?_; refine .block ?_; refine .loop (X := Nat) (fun i => i ≤ t.ops.length) (fun i => [(2, .d (bools drop)), (3, .r 3 0), (7, .d (ints (wiI t drop (wiR t drop s r) i))), (8, I (r)), (9, I (i))]) (fun i => [(3, .box [I (t.facts), .d (ints t.ini), .d (ints t.goal), .d (sopsD t.ops)])]) (fun i => t.ops.length - i) 0 (by omega) ?_ ?_
   ·exact .sl <| .sl <| .slot rfl (Le.of_eq rfl) <| .sl <| .slot rfl (Le.of_eq (by simp)) <| .mem rfl <| .nil
   ·rintro i hil
    refine .seq ?_; refine .seq ?_; refine .region ?_; refine .m ?_; refine .x (.f fo25_3) ?_; refine .x (.l vs23) ?_; refine .x (OpSem.lenL rfl rfl es23) ?_; refine .x (.b blss) ?_; refine .sq ?_; refine .cond rfl (fun c23 => ?_) (fun c23 => ?_)
    ·have hi : i < t.ops.length := by simpa using c23
     have hI := (wiI_inv ht hd hR (i := i) (by omega)).1
     have hadl := setP_len (ht.2 i hi).2.1 htf.2
     refine .skip ?_; refine .seq ?_; refine .seq ?_; refine .block ?_; refine .seq ?_; refine .region ?_; refine .m ?_; refine .m ?_; refine .x (OpSem.idxL rfl rfl rfl es105 (by omega) (by omega)) ?_; refine .x (OpSem.load1 rfl rfl vs4 rfl) ?_; refine .x (OpSem.not rfl rfl) ?_; refine .m ?_; refine .split (n := 31) rfl (fun c31 => ?_) (fun c31 => ?_)
     ·refine .gt c31 ?_; refine .x (.f fo25_3) ?_; refine .gt c31 ?_; refine .x (.l vs23) ?_; refine .gt c31 ?_; refine .m ?_; refine .gt c31 ?_; refine .x (OpSem.idxL rfl rfl rfl es23 (by omega) (by omega)) ?_; refine .gt c31 ?_; refine .x (OpSem.fieldp rfl rfl fo35_0) ?_; refine .gt c31 ?_; refine .x (OpSem.load1 rfl rfl vs22 rfl) ?_; refine .gt c31 ?_; refine .m ?_; refine .gt c31 ?_; refine .x (OpSem.call0 (R_Subset_does (nth t.ops i).pre (wiI t drop (wiR t drop s r) i)) rfl rfl rfl rfl (Les.refl _)) ?_; refine .x (OpSem.pickT rfl rfl c31 rfl) ?_; refine .sq ?_; refine .cond rfl (fun c40 => ?_) (fun c40 => ?_)
      ·have hc : nth drop i = false ∧ SubP (nth t.ops i).pre (wiI t drop (wiR t drop s r) i) := ⟨by simpa using c31, by simpa using c40⟩
       have hst : wiI t drop (wiR t drop s r) (i + 1) = wiJ (nth t.ops i).add (wiI t drop (wiR t drop s r) i) (nth t.ops i).add.length := by simp only [wiI]; rw [if_pos hc]
       have hu : use i = true := by have q := hc.1; rw [hd i hi] at q; simpa using q
       have hadd : ∀ p, p ∈ (nth t.ops i).add → (0 ≤ p ∧ p < t.facts) ∧ Rch t s use p := fun p hp => ⟨setP_mem (ht.2 i hi).2.1 hp, .op hi hu (fun q hq => by obtain ⟨k, hk, rfl⟩ := List.getElem_of_mem hq; have w := hc.2 k hk; rw [nth_eq hk] at w; exact (hI.snd _ w).2) hp⟩
       refine .seq ?_; refine .region ?_; refine .a ?_; refine .sq ?_; refine .block ?_; refine .loop (X := Nat) (fun k => k ≤ (nth t.ops i).add.length) (fun k => [(2, .d (bools drop)), (3, .r 3 0), (7, .d (ints (wiJ (nth t.ops i).add (wiI t drop (wiR t drop s r) i) k))), (8, I (r)), (9, I (i)), (10, I (k))]) (fun k => [(3, .box [I (t.facts), .d (ints t.ini), .d (ints t.goal), .d (sopsD t.ops)])]) (fun k => (nth t.ops i).add.length - k) 0 (by omega) ?_ ?_
       ·exact .sl <| .sl <| .slot rfl (Le.of_eq rfl) <| .sl <| .sl <| .slot rfl (Le.of_eq (by simp)) <| .mem rfl <| .nil
       ·rintro k hkl
        refine .seq ?_; refine .seq ?_; refine .region ?_; refine .m ?_; refine .x (.f fo25_3) ?_; refine .x (.l vs23) ?_; refine .m ?_; refine .x (OpSem.idxL rfl rfl rfl es23 (by omega) (by omega)) ?_; refine .x (OpSem.fieldp rfl rfl fo35_1) ?_; refine .x (OpSem.load1 rfl rfl vs22 rfl) ?_; refine .x (OpSem.lenL rfl rfl es22) ?_; refine .x (.b blss) ?_; refine .sq ?_; refine .cond rfl (fun c49 => ?_) (fun c49 => ?_)
        ·have hk : k < (nth t.ops i).add.length := by simpa using c49
         have hJ := (wiJ_inv hadd hI (k := k) (by omega)).1
         have hJl := w_len ht hJ
         refine .skip ?_; refine .seq ?_; refine .seq ?_; refine .block ?_; refine .seq ?_; refine .region ?_; refine .m ?_; refine .x (.f fo25_3) ?_; refine .x (.l vs23) ?_; refine .m ?_; refine .x (OpSem.idxL rfl rfl rfl es23 (by omega) (by omega)) ?_; refine .x (OpSem.fieldp rfl rfl fo35_1) ?_; refine .x (OpSem.load1 rfl rfl vs22 rfl) ?_; refine .m ?_; refine .x (OpSem.idxL rfl rfl rfl es22 (by omega) (by omega)) ?_; refine .x (OpSem.load1 rfl rfl vs3 rfl) ?_; refine .x (OpSem.call0 (R_Has_does (wiJ (nth t.ops i).add (wiI t drop (wiR t drop s r) i) k) (nth (nth t.ops i).add k)) rfl rfl rfl rfl (Les.refl _)) ?_; refine .x (OpSem.not rfl rfl) ?_; refine .sq ?_; refine .cond rfl (fun c63 => ?_) (fun c63 => ?_)
         ·have hw : wiJ (nth t.ops i).add (wiI t drop (wiR t drop s r) i) (k + 1) = withL (wiJ (nth t.ops i).add (wiI t drop (wiR t drop s r) i) k) (nth (nth t.ops i).add k) := by simp only [wiJ]; rw [if_neg (by simpa using c63)]
          refine .region ?_; refine .m ?_; refine .x (.f fo25_3) ?_; refine .x (.l vs23) ?_; refine .m ?_; refine .x (OpSem.idxL rfl rfl rfl es23 (by omega) (by omega)) ?_; refine .x (OpSem.fieldp rfl rfl fo35_1) ?_; refine .x (OpSem.load1 rfl rfl vs22 rfl) ?_; refine .m ?_; refine .x (OpSem.idxL rfl rfl rfl es22 (by omega) (by omega)) ?_; refine .x (OpSem.load1 rfl rfl vs3 rfl) ?_; refine .x (OpSem.call0 (R_With_does (wiJ (nth t.ops i).add (wiI t drop (wiR t drop s r) i) k) (nth (nth t.ops i).add k) (by omega)).fresh rfl rfl rfl rfl (Les.refl _)) ?_; refine .a ?_; refine .nil ?_; refine .block_normal ?_; refine .y ?_; refine .m ?_; refine .x .ad ?_; refine .a ?_; refine .nil ?_; refine .again (k + 1) (by omega) ?_ (by omega); exact .sl <| .sl <| .slot rfl (Le.of_eq (by rw [hw])) <| .sl <| .sl <| .slot rfl (Le.of_eq (by simp)) <| .mem rfl <| .nil
         ·have hw : wiJ (nth t.ops i).add (wiI t drop (wiR t drop s r) i) (k + 1) = (wiJ (nth t.ops i).add (wiI t drop (wiR t drop s r) i) k) := by simp only [wiJ]; rw [if_pos (by simpa using c63)]
          refine .skip ?_; refine .block_normal ?_; refine .y ?_; refine .m ?_; refine .x .ad ?_; refine .a ?_; refine .nil ?_; refine .again (k + 1) (by omega) ?_ (by omega); exact .sl <| .sl <| .slot rfl (Le.of_eq (by rw [hw])) <| .sl <| .sl <| .slot rfl (Le.of_eq (by simp)) <| .mem rfl <| .nil
        ·have hk : k = (nth t.ops i).add.length := by simp at c49; omega
         subst hk
         refine .exit ?_; refine .pass_exit ?_; refine .pass_exit ?_; refine .block_same ?_; refine .block_normal ?_; refine .y ?_; refine .m ?_; refine .x .ad ?_; refine .a ?_; refine .nil ?_; refine .again (i + 1) (by omega) ?_ (by omega); exact .sl <| .sl <| .slot rfl (Le.of_eq (by rw [hst])) <| .sl <| .slot rfl (Le.of_eq (by simp)) <| .mem rfl <| .nil
      ·have hst : wiI t drop (wiR t drop s r) (i + 1) = (wiI t drop (wiR t drop s r) i) := by simp only [wiI]; rw [if_neg (fun h => by rw [decide_eq_true h.2] at c40; simp at c40)]
       refine .skip ?_; refine .block_normal ?_; refine .y ?_; refine .m ?_; refine .x .ad ?_; refine .a ?_; refine .nil ?_; refine .again (i + 1) (by omega) ?_ (by omega); exact .sl <| .sl <| .slot rfl (Le.of_eq (by rw [hst])) <| .sl <| .slot rfl (Le.of_eq (by simp)) <| .mem rfl <| .nil
     ·have hst : wiI t drop (wiR t drop s r) (i + 1) = (wiI t drop (wiR t drop s r) i) := by simp only [wiI]; rw [if_neg (fun h => by simp [h.1] at c31)]
      refine .gf c31 ?_; refine .gf c31 ?_; refine .gf c31 ?_; refine .gf c31 ?_; refine .gf c31 ?_; refine .gf c31 ?_; refine .gf c31 ?_; refine .gf c31 ?_; refine .x (OpSem.pickF rfl rfl c31 rfl) ?_; refine .sq ?_; refine .condF rfl rfl ?_; refine .skip ?_; refine .block_normal ?_; refine .y ?_; refine .m ?_; refine .x .ad ?_; refine .a ?_; refine .nil ?_; refine .again (i + 1) (by omega) ?_ (by omega); exact .sl <| .sl <| .slot rfl (Le.of_eq (by rw [hst])) <| .sl <| .slot rfl (Le.of_eq (by simp)) <| .mem rfl <| .nil
    ·have hi : i = t.ops.length := by simp at c23; omega
     subst hi
     refine .exit ?_; refine .pass_exit ?_; refine .pass_exit ?_; refine .block_same ?_; refine .block_normal ?_; refine .y ?_; refine .m ?_; refine .x .ad ?_; refine .a ?_; refine .nil ?_; refine .again (r + 1) (by omega) ?_ (by omega); exact .sl <| .sl <| .slot rfl (Le.of_eq rfl) <| .slot rfl (Le.of_eq (by simp)) <| .mem rfl <| .nil
  ·have hr : r = t.facts.toNat + 1 := by simp at c16; omega
   refine .exit ?_; refine .pass_exit ?_; refine .pass_exit ?_; refine .block_same ?_; refine .z ?_; refine .m ?_; refine .a ?_; refine .sq ?_; refine .ret ?_; exact .ret rfl (.tmp rfl <| .nil) rfl (Le.of_eq (by rw [hr]))

end Go.Proofs.Ytlidcpmdgceboaa
end

section
/- Landmarks: the reference's tests are those of the program. -/

namespace Go.Eng
open Go
/-- The facts that are within reach, as the reference lists them. -/
def wiW (t : Tsk) (p : Int) : List Int := wiR t (adrTo t p t.ops.length) t.ini (t.facts.toNat + 1)
theorem wi_all {t : Tsk} {p : Int} (hV : TskV t) {l : List Int} (hl : SetP t.facts l) : SubP l (wiW t p) ↔ AllP (wtoL t p) l := by
  have hm : ∀ q, q ∈ wiW t p ↔ Rch t t.ini (useP t p) q := fun q => wiR_mem hV.ok (fun i hi => adr_at hi) hV.ini
  have key : ∀ k : Nat, k < l.length → (nth l k ∈ wiW t p ↔ nth (wtoL t p) (nth l k) = true) := fun k hk => by
    have hr := set_rng hl k hk
    rw [hm]
    exact (cloL_at hr.1 hr.2).symm
  exact ⟨fun h k hk => (key k hk).1 (h k hk), fun h k hk => (key k hk).2 (h k hk)⟩
theorem lm_1 {t : Tsk} {p : Int} (h : p ∈ t.ini) : lmP t p = true := by unfold lmP; simp [h]
theorem lm_2 {t : Tsk} {p : Int} (hV : TskV t) (h : p ∉ t.ini) : (!decide (SubP t.goal (wiW t p))) = lmP t p := by
  unfold lmP
  rw [decide_eq_decide.2 (wi_all hV hV.goal), decide_eq_false h]; rfl
theorem ac_1 {t : Tsk} {p : Int} {i : Nat} (hV : TskV t) (hi : i < t.ops.length) : acP t p i = true ↔ p ∉ t.ini ∧ p ∈ (nth t.ops i).add ∧ SubP (nth t.ops i).pre (wiW t p) := by
  unfold acP
  rw [wi_all hV (hV.op i hi).1.1]
  simp
end Go.Eng
end

section
/- Walks, written by gen.py out of hints. -/



namespace Go.Proofs.Ytlidcpmdgceboaa
open Go.Eng
set_option maxRecDepth 10000
set_option maxHeartbeats 1000000

theorem S3_IsLandmark_does (t : Tsk) (p : Int) (hV : TskV t) : Does Try.prog false 41 [tskS t, I (p)] (Bo (lmP t p)) := by
 have hoo := hV.ops
 refine Does.of_body Try.func41 rfl rfl (by simp) Try.call41 (fun w0 O0 => ?_); refine .lenG (n := 0) (i := 1) rfl rfl (fun len0_1 => ?_); refine .lenG (n := 0) (i := 2) rfl rfl (fun len0_2 => ?_); refine .lenG (n := 0) (i := 3) rfl rfl (fun len0_3 => ?_); refine .seq ?_; refine .region ?_; refine .semM (OpSem.box 2 rfl rfl rfl rfl) rfl rfl (by decide) ?_; refine .a ?_; refine .sq ?_; refine .seq ?_; refine PC.start [] ?_; refine .x (.f fo25_1) ?_; refine .x (.l vs22) ?_; refine .m ?_; refine .x (OpSem.call0 (R_Has_does t.ini p) rfl rfl rfl rfl (Les.refl _)) ?_; refine .m ?_; refine .split (n := 9) rfl (fun c9 => ?_) (fun c9 => ?_)
 ·refine .hf c9 ?_; refine .hf c9 ?_; refine .hf c9 ?_; refine .hf c9 ?_; refine .hf c9 ?_; refine .hf c9 ?_; refine .hf c9 ?_; refine .hf c9 ?_; refine .hf c9 ?_; refine .d0 mixed ?_; refine .hf c9 ?_; refine .hf c9 ?_; refine .x (OpSem.pickT rfl rfl c9 rfl) ?_; refine .a ?_; refine .sq ?_; refine .ret ?_; exact .ret rfl (.tmp rfl <| .nil) rfl (Le.bo (lm_1 (of_decide_eq_true c9)).symm)
 ·refine .ht (.f fo25_2) c9 ?_; refine .ht (.l vs22) c9 ?_; refine .ht (OpSem.loadbN rfl rfl rfl vs25 (by first | decide | simp)) c9 ?_; refine .ht (.f fo25_1) c9 ?_; refine .ht (.l vs22) c9 ?_; refine .ht (OpSem.loadbN rfl rfl rfl vs25 (by first | decide | simp)) c9 ?_; refine .ht (OpSem.move (.inl rfl) rfl) c9 ?_; refine .ht (OpSem.call0 (S3_Adders_does t p (by omega)).fresh rfl rfl rfl rfl (Les.refl _)) c9 ?_; refine .ht (OpSem.call0 (S3_Within_does t t.ini (adrTo t p t.ops.length) (useP t p) hV.ok (adr_len (Nat.le_refl _)) (fun i hi => adr_at hi) hV.ini) rfl rfl rfl rfl (Les.refl _)) c9 ?_; refine .d0 mixed ?_; refine .ht c9 ?_; refine .x (OpSem.call0 (R_Subset_does t.goal (wiW t p)) rfl rfl rfl rfl (Les.refl _)) ?_; refine .ht c9 ?_; refine .x (OpSem.not rfl rfl) ?_; refine .x (OpSem.pickF rfl rfl c9 rfl) ?_; refine .a ?_; refine .sq ?_; refine .ret ?_; exact .ret rfl (.tmp rfl <| .nil) rfl (Le.bo (lm_2 hV (of_decide_eq_false c9)))

theorem S3_FirstAchievers_does (t : Tsk) (p : Int) (hV : TskV t) : DoesO Try.prog 42 [tskS t, I (p)] 1 3 (((acL t p).map fun n => [D.v (.int .i64 n)])) := by
 have hoo := hV.ops
 refine DoesO.of_body Try.func42 rfl rfl (by simp) Try.call42 (fun w0 O0 => ?_); refine .lenG (n := 0) (i := 1) rfl rfl (fun len0_1 => ?_); refine .lenG (n := 0) (i := 2) rfl rfl (fun len0_2 => ?_); refine .lenG (n := 0) (i := 3) rfl rfl (fun len0_3 => ?_); refine .seq ?_; refine .region ?_; refine .semM (OpSem.box 2 rfl rfl rfl rfl) rfl rfl (by decide) ?_; refine .a ?_; refine .z ?_; refine .a ?_; refine .sq ?_; refine .seq ?_; refine .ownNil (n := 5) 5 1 3 rfl ?_; refine PC.start [] ?_; refine .x (OpSem.loadbN rfl rfl rfl vs25 (by first | decide | simp)) ?_; refine .x (.f fo25_1) ?_; refine .x (.l vs22) ?_; refine .x (OpSem.loadbN rfl rfl rfl vs25 (by first | decide | simp)) ?_; refine .m ?_; refine .x (OpSem.call0 (S3_Adders_does t p (by omega)).fresh rfl rfl rfl rfl (Les.refl _)) ?_; refine .d0 mixed ?_; refine .x (OpSem.call0 (S3_Within_does t t.ini (adrTo t p t.ops.length) (useP t p) hV.ok (adr_len (Nat.le_refl _)) (fun i hi => adr_at hi) hV.ini) rfl rfl rfl rfl (Les.refl _)) ?_; refine .a ?_; refine .sq ?_; refine .seq ?_; refine .seq ?_; refine .region ?_; refine .a ?_; refine .sq ?_; refine .block ?_; refine .loop (X := Nat) (fun i => i ≤ t.ops.length) (fun i => [(1, I (p)), (2, .r 2 0), (5, .o 5), (6, .d (ints (wiW t p))), (7, I (i))]) (fun i => [(5, .own 1 3 ((acTo t p i).map fun n => [D.v (.int .i64 n)])), (2, .box [I (t.facts), .d (ints t.ini), .d (ints t.goal), .d (sopsD t.ops)])]) (fun i => t.ops.length - i) 0 (by omega) ?_ ?_
 ·exact .sl <| .sl <| .sl <| .sl <| .slot rfl (Le.of_eq (by simp)) <| .memEq rfl (by simp [acTo]) <| .mem rfl <| .nil
 ·rintro i hil
  refine .seq ?_; refine .seq ?_; refine .region ?_; refine .m ?_; refine .x (.f fo25_3) ?_; refine .x (.l vs23) ?_; refine .x (OpSem.lenL rfl rfl es23) ?_; refine .x (.b blss) ?_; refine .sq ?_; refine .cond rfl (fun c19 => ?_) (fun c19 => ?_)
  ·have hi : i < t.ops.length := by simpa using c19
   have hal := acTo_len (t := t) (p := p) (k := i)
   refine .skip ?_; refine .seq ?_; refine .seq ?_; refine .block ?_; refine .seq ?_; refine .region ?_; refine .x (.f fo25_1) ?_; refine .x (.l vs22) ?_; refine .m ?_; refine .x (OpSem.call0 (R_Has_does t.ini p) rfl rfl rfl rfl (Les.refl _)) ?_; refine .x (OpSem.not rfl rfl) ?_; refine .m ?_; refine .split (n := 27) rfl (fun c27 => ?_) (fun c27 => ?_)
   ·refine .gt c27 ?_; refine .x (.f fo25_3) ?_; refine .gt c27 ?_; refine .x (.l vs23) ?_; refine .gt c27 ?_; refine .m ?_; refine .gt c27 ?_; refine .x (OpSem.idxL rfl rfl rfl es23 (by omega) (by omega)) ?_; refine .gt c27 ?_; refine .x (OpSem.fieldp rfl rfl fo35_1) ?_; refine .gt c27 ?_; refine .x (OpSem.load1 rfl rfl vs22 rfl) ?_; refine .gt c27 ?_; refine .m ?_; refine .gt c27 ?_; refine .x (OpSem.call0 (R_Has_does (nth t.ops i).add p) rfl rfl rfl rfl (Les.refl _)) ?_; refine .x (OpSem.pickT rfl rfl c27 rfl) ?_; refine .m ?_; refine .split (n := 37) rfl (fun c37 => ?_) (fun c37 => ?_)
    ·refine .gt c37 ?_; refine .x (.f fo25_3) ?_; refine .gt c37 ?_; refine .x (.l vs23) ?_; refine .gt c37 ?_; refine .m ?_; refine .gt c37 ?_; refine .x (OpSem.idxL rfl rfl rfl es23 (by omega) (by omega)) ?_; refine .gt c37 ?_; refine .x (OpSem.fieldp rfl rfl fo35_0) ?_; refine .gt c37 ?_; refine .x (OpSem.load1 rfl rfl vs22 rfl) ?_; refine .gt c37 ?_; refine .m ?_; refine .gt c37 ?_; refine .x (OpSem.call0 (R_Subset_does (nth t.ops i).pre (wiW t p)) rfl rfl rfl rfl (Les.refl _)) ?_; refine .x (OpSem.pickT rfl rfl c37 rfl) ?_; refine .sq ?_; refine .cond rfl (fun c46 => ?_) (fun c46 => ?_)
     ·have hl : acP t p i = true := (ac_1 hV hi).2 ⟨by simpa using c27, by simpa using c37, by simpa using c46⟩
      refine .region ?_; refine .m ?_; refine .m ?_; refine .x (.bs es22 ze22) ?_; refine .ap es22 el22 zc3 by3 ?_; refine .a ?_; refine .nil ?_; refine .block_normal ?_; refine .y ?_; refine .m ?_; refine .x .ad ?_; refine .a ?_; refine .nil ?_; refine .again (i + 1) (by omega) ?_ (by omega); exact .sl <| .sl <| .sl <| .sl <| .slot rfl (Le.of_eq (by simp)) <| .memEq rfl (by rw [ac_t hl]; simp) <| .mem rfl <| .nil
     ·have hl : ¬ acP t p i = true := fun h => by have q := (ac_1 hV hi).1 h; exact (of_decide_eq_false c46) q.2.2
      refine .skip ?_; refine .block_normal ?_; refine .y ?_; refine .m ?_; refine .x .ad ?_; refine .a ?_; refine .nil ?_; refine .again (i + 1) (by omega) ?_ (by omega); exact .sl <| .sl <| .sl <| .sl <| .slot rfl (Le.of_eq (by simp)) <| .memEq rfl (by first | (rw [ac_f hl]; done) | (rw [ac_f hl]; rfl)) <| .mem rfl <| .nil
    ·have hl : ¬ acP t p i = true := fun h => by have q := (ac_1 hV hi).1 h; exact (of_decide_eq_false c37) q.2.1
     refine .gf c37 ?_; refine .gf c37 ?_; refine .gf c37 ?_; refine .gf c37 ?_; refine .gf c37 ?_; refine .gf c37 ?_; refine .gf c37 ?_; refine .gf c37 ?_; refine .x (OpSem.pickF rfl rfl c37 rfl) ?_; refine .sq ?_; refine .condF rfl rfl ?_; refine .skip ?_; refine .block_normal ?_; refine .y ?_; refine .m ?_; refine .x .ad ?_; refine .a ?_; refine .nil ?_; refine .again (i + 1) (by omega) ?_ (by omega); exact .sl <| .sl <| .sl <| .sl <| .slot rfl (Le.of_eq (by simp)) <| .memEq rfl (by first | (rw [ac_f hl]; done) | (rw [ac_f hl]; rfl)) <| .mem rfl <| .nil
   ·have hl : ¬ acP t p i = true := fun h => by have q := (ac_1 hV hi).1 h; simp [q.1] at c27
    refine .gf c27 ?_; refine .gf c27 ?_; refine .gf c27 ?_; refine .gf c27 ?_; refine .gf c27 ?_; refine .gf c27 ?_; refine .gf c27 ?_; refine .gf c27 ?_; refine .x (OpSem.pickF rfl rfl c27 rfl) ?_; refine .m ?_; refine .gf rfl ?_; refine .gf rfl ?_; refine .gf rfl ?_; refine .gf rfl ?_; refine .gf rfl ?_; refine .gf rfl ?_; refine .gf rfl ?_; refine .gf rfl ?_; refine .x (OpSem.pickF rfl rfl rfl rfl) ?_; refine .sq ?_; refine .condF rfl rfl ?_; refine .skip ?_; refine .block_normal ?_; refine .y ?_; refine .m ?_; refine .x .ad ?_; refine .a ?_; refine .nil ?_; refine .again (i + 1) (by omega) ?_ (by omega); exact .sl <| .sl <| .sl <| .sl <| .slot rfl (Le.of_eq (by simp)) <| .memEq rfl (by first | (rw [ac_f hl]; done) | (rw [ac_f hl]; rfl)) <| .mem rfl <| .nil
  ·have hi : i = t.ops.length := by simp at c19; omega
   subst hi
   refine .exit ?_; refine .pass_exit ?_; refine .pass_exit ?_; refine .block_same ?_; refine .z ?_; refine .m ?_; refine .a ?_; refine .sq ?_; refine .ret ?_; exact .retO2 rfl rfl rfl (by simp) (rfl)

end Go.Proofs.Ytlidcpmdgceboaa
end

section
/- Linear programs. -/

namespace Go.Eng
open Go
structure LPr where
  rws : List (List Int)
  bnd : List Int
  obj : List Int
deriving DecidableEq
instance : Inhabited LPr := ⟨⟨[], [], []⟩⟩
abbrev lprS (p : LPr) : S := .g [.d (rows p.rws), .d (ints p.bnd), .d (ints p.obj)]
def lprZ : LPr := ⟨[], [], []⟩
/-- The row of a fact of the goal. -/
def gRow (t : Tsk) (q : Int) : List Int := t.ops.map fun o => -(chgO o q)
def gBnd (t : Tsk) (q : Int) : Int := if q ∈ t.ini then 0 else -1
/-- The row of a landmark. -/
noncomputable def lRow (t : Tsk) (q : Int) : List Int := (List.range t.ops.length).map fun (i : Nat) => if (i : Int) ∈ acL t q then -1 else 0
noncomputable def lmN (t : Tsk) : List Int := (lmL t).filter fun q => decide (q ∉ t.ini)
/-- The program of counting. -/
noncomputable def cpA (t : Tsk) : LPr := ⟨((t.goal.map (gRow t)) ++ (lmN t).map (lRow t)).take 6, ((t.goal.map (gBnd t)) ++ (lmN t).map fun _ => -1).take 6, t.ops.map fun o => -o.cost⟩
def cpF (t : Tsk) : Int × Int := if tskF t ≠ (0, 0) then tskF t else if CLarge t then (10, -8) else (0, 0)
noncomputable def cpR (t : Tsk) : LPr := if cpF t = (0, 0) then cpA t else lprZ
/-! ### The reference's program, so far -/
def obTo (t : Tsk) (k : Nat) : List Int := (t.ops.take k).map fun o => -o.cost
theorem ob_s {t : Tsk} {k : Nat} (hk : k < t.ops.length) : obTo t (k + 1) = obTo t k ++ [-(nth t.ops k).cost] := by unfold obTo; rw [tk_s hk]; simp
theorem ob_len {t : Tsk} {k : Nat} (hk : k ≤ t.ops.length) : (obTo t k).length = k := by simp [obTo]; omega
def gRowTo (t : Tsk) (q : Int) (k : Nat) : List Int := (t.ops.take k).map fun o => -(chgO o q)
theorem gr_s {t : Tsk} {q : Int} {k : Nat} (hk : k < t.ops.length) : gRowTo t q (k + 1) = gRowTo t q k ++ [-(chgO (nth t.ops k) q)] := by unfold gRowTo; rw [tk_s hk]; simp
theorem gr_len {t : Tsk} {q : Int} {k : Nat} (hk : k ≤ t.ops.length) : (gRowTo t q k).length = k := by simp [gRowTo]; omega
theorem gr_end {t : Tsk} {q : Int} : gRowTo t q t.ops.length = gRow t q := by unfold gRowTo gRow; rw [List.take_length]
def gRows (t : Tsk) (k : Nat) : List (List Int) := (t.goal.take k).map (gRow t)
def gBnds (t : Tsk) (k : Nat) : List Int := (t.goal.take k).map (gBnd t)
theorem grs_s {t : Tsk} {k : Nat} (hk : k < t.goal.length) : gRows t (k + 1) = gRows t k ++ [gRow t (nth t.goal k)] := by unfold gRows; rw [tk_s hk]; simp
theorem gbs_s {t : Tsk} {k : Nat} (hk : k < t.goal.length) : gBnds t (k + 1) = gBnds t k ++ [gBnd t (nth t.goal k)] := by unfold gBnds; rw [tk_s hk]; simp
theorem grs_len {t : Tsk} {k : Nat} (hk : k ≤ t.goal.length) : (gRows t k).length = k := by simp [gRows]; omega
noncomputable def lRowTo (t : Tsk) (q : Int) (k : Nat) : List Int := (List.range k).map fun (i : Nat) => if (i : Int) ∈ acL t q then -1 else 0
theorem lr_s {t : Tsk} {q : Int} {k : Nat} : lRowTo t q (k + 1) = lRowTo t q k ++ [if (k : Int) ∈ acL t q then -1 else 0] := by simp [lRowTo, List.range_succ]
theorem lr_len {t : Tsk} {q : Int} {k : Nat} : (lRowTo t q k).length = k := by simp [lRowTo]
theorem lr_end {t : Tsk} {q : Int} : lRowTo t q t.ops.length = lRow t q := rfl
/-! ### All rows, and the first six -/
noncomputable def lmNTo (t : Tsk) (q : Nat) : List Int := (lmTo t q).filter fun p => decide (p ∉ t.ini)
noncomputable def allR (t : Tsk) (q : Nat) : List (List Int) := t.goal.map (gRow t) ++ (lmNTo t q).map (lRow t)
noncomputable def allB (t : Tsk) (q : Nat) : List Int := t.goal.map (gBnd t) ++ (lmNTo t q).map fun _ => -1
theorem all_len {t : Tsk} {q : Nat} : (allB t q).length = (allR t q).length := by simp [allR, allB]
theorem cpA_r (t : Tsk) : (cpA t).rws = (allR t t.facts.toNat).take 6 := rfl
theorem cpA_b (t : Tsk) : (cpA t).bnd = (allB t t.facts.toNat).take 6 := rfl
theorem cpA_o (t : Tsk) : (cpA t).obj = obTo t t.ops.length := by unfold obTo; rw [List.take_length]; rfl
theorem lmN_t {t : Tsk} {q : Nat} (h : lmP t q = true) (hi : (q : Int) ∉ t.ini) : lmNTo t (q + 1) = lmNTo t q ++ [(q : Int)] := by
  unfold lmNTo; rw [lm_t h, List.filter_append]; simp [hi]
theorem lmN_f {t : Tsk} {q : Nat} (h : ¬ (lmP t q = true ∧ (q : Int) ∉ t.ini)) : lmNTo t (q + 1) = lmNTo t q := by
  unfold lmNTo
  by_cases hl : lmP t q = true
  · rw [lm_t hl, List.filter_append]
    have : (q : Int) ∈ t.ini := Classical.byContradiction fun hn => h ⟨hl, hn⟩
    simp [this]
  · rw [lm_f hl]
theorem ar_0 {t : Tsk} {k : Nat} (hk : k ≤ t.goal.length) (h6 : k ≤ 6) (he : k = t.goal.length ∨ k = 6) : gRows t k = (allR t 0).take 6 ∧ gBnds t k = (allB t 0).take 6 := by
  have h0 : lmNTo t 0 = [] := by simp [lmNTo, lmTo]
  unfold gRows gBnds allR allB
  rw [h0]
  simp only [List.map_nil, List.append_nil, List.map_take]
  rcases he with rfl | rfl
  · constructor
    all_goals rw [List.take_of_length_le (by simp), List.take_of_length_le (by simpa using h6)]
  · exact ⟨rfl, rfl⟩
theorem tk6 {α : Type} {l : List α} (h : (l.take 6).length < 6) : l.take 6 = l := List.take_of_length_le (by rw [List.length_take] at h; omega)
theorem ar_t {t : Tsk} {q : Nat} (h : lmP t q = true) (hi : (q : Int) ∉ t.ini) (hl : ((allR t q).take 6).length < 6) : (allR t (q + 1)).take 6 = (allR t q).take 6 ++ [lRow t q] ∧ (allB t (q + 1)).take 6 = (allB t q).take 6 ++ [-1] := by
  have hlb : ((allB t q).take 6).length < 6 := by rw [List.length_take, all_len, ← List.length_take]; exact hl
  have e1 : allR t (q + 1) = allR t q ++ [lRow t q] := by unfold allR; rw [lmN_t h hi]; simp
  have e2 : allB t (q + 1) = allB t q ++ [-1] := by unfold allB; rw [lmN_t h hi]; simp
  rw [tk6 hl, tk6 hlb, e1, e2]
  rw [tk6 hl] at hl
  rw [tk6 hlb] at hlb
  exact ⟨List.take_of_length_le (by simp; omega), List.take_of_length_le (by simp; omega)⟩
theorem ar_f {t : Tsk} {q : Nat} (h : ¬ (lmP t q = true ∧ (q : Int) ∉ t.ini)) : allR t (q + 1) = allR t q ∧ allB t (q + 1) = allB t q := by
  unfold allR allB; rw [lmN_f h]; exact ⟨rfl, rfl⟩
theorem all_pre {t : Tsk} {q : Nat} : ∀ {q' : Nat}, q ≤ q' → (∃ r, allR t q' = allR t q ++ r) ∧ ∃ r, allB t q' = allB t q ++ r
  | 0, h => by
    obtain rfl : q = 0 := by omega
    exact ⟨⟨[], by simp⟩, ⟨[], by simp⟩⟩
  | q' + 1, h => by
    rcases Nat.lt_or_ge q' q with hl | hl
    · obtain rfl : q = q' + 1 := by omega
      exact ⟨⟨[], by simp⟩, ⟨[], by simp⟩⟩
    · obtain ⟨⟨r, hr⟩, ⟨s, hs⟩⟩ := all_pre (t := t) hl
      by_cases hc : lmP t q' = true ∧ (q' : Int) ∉ t.ini
      · exact ⟨⟨r ++ [lRow t q'], by rw [← List.append_assoc, ← hr]; unfold allR; rw [lmN_t hc.1 hc.2]; simp⟩, ⟨s ++ [-1], by rw [← List.append_assoc, ← hs]; unfold allB; rw [lmN_t hc.1 hc.2]; simp⟩⟩
      · exact ⟨⟨r, by rw [(ar_f hc).1, hr]⟩, ⟨s, by rw [(ar_f hc).2, hs]⟩⟩
theorem ar_end {t : Tsk} {q : Nat} (hq : (q : Int) ≤ t.facts) (h0 : 0 ≤ t.facts) (he : (q : Int) = t.facts ∨ 6 ≤ ((allR t q).take 6).length) : (allR t q).take 6 = (cpA t).rws ∧ (allB t q).take 6 = (cpA t).bnd := by
  rw [cpA_r, cpA_b]
  rcases he with he | he
  · have : q = t.facts.toNat := by omega
    rw [this]; exact ⟨rfl, rfl⟩
  · obtain ⟨⟨r, hr⟩, ⟨s, hs⟩⟩ := all_pre (t := t) (q := q) (q' := t.facts.toNat) (by omega)
    have hl := all_len (t := t) (q := q)
    rw [List.length_take] at he
    rw [hr, hs, List.take_append_of_le_length (by omega), List.take_append_of_le_length (by omega)]
    exact ⟨rfl, rfl⟩
theorem cl_ops {t : Tsk} (h : ¬ CLarge t) : t.ops.length ≤ 6 := by unfold CLarge at h; omega
theorem cl_cost {t : Tsk} (h : ¬ CLarge t) {i : Nat} (hi : i < t.ops.length) : (nth t.ops i).cost ≤ 20 := Classical.byContradiction fun hn => h (.inl ⟨i, hi, by omega⟩)
theorem chg_in {o : SOp} {p : Int} : -1 ≤ chgO o p ∧ chgO o p ≤ 1 := by unfold chgO; split; omega; split <;> omega
theorem neg_in {n : Int} (h0 : -9223372036854775807 ≤ n) (h1 : n ≤ 9223372036854775807) : IntKind.i64.wrap (0 - n) = -n := by
  rw [IntWalk.i64_in _ ⟨by omega, by omega⟩]; omega
theorem chg_r1 {o : SOp} {p : Int} (h : p ∈ o.pre ∧ p ∈ o.del) : (1 : Int) = -(chgO o p) := by unfold chgO; rw [if_neg (fun hh => hh.1 h.1), if_pos h]; rfl
theorem chg_r2 {o : SOp} {p : Int} (h : ¬ (p ∈ o.pre ∧ p ∈ o.del)) : (if p ∈ o.add ∧ p ∉ o.pre then (-1 : Int) else 0) = -(chgO o p) := by
  unfold chgO
  by_cases hq : p ∈ o.add ∧ p ∉ o.pre
  · rw [if_pos hq, if_pos ⟨hq.2, hq.1⟩]
  · rw [if_neg hq, if_neg (fun hh => hq ⟨hh.2, hh.1⟩), if_neg h]; rfl
end Go.Eng
end

section
/- Walks, written by gen.py out of hints. -/



namespace Go.Proofs.Ytlidcpmdgceboaa
open Go.Eng
set_option maxRecDepth 10000
set_option maxHeartbeats 1000000

end Go.Proofs.Ytlidcpmdgceboaa
end
