/- The engine and the walks that this claim uses, part 4. Written by prune.py out of our own texts. -/
import Derived.Test.YtlidcpmdgceboaaD3
section
/- Walks, written by gen.py out of hints. -/



set_option linter.unusedVariables false
set_option linter.unusedSimpArgs false
namespace Go.Proofs.Ytlidcpmdgceboaa
open Go.Eng
set_option maxRecDepth 10000
set_option maxHeartbeats 1000000

theorem slices_Index_int_int_does (l : List Int) (n : Int) : Does Try.prog false 64 [.d (ints l), I (n)] (I (findI (fun x => decide (n = x)) l)) := by
 refine Does.of_body Try.func64 rfl rfl (by simp) Try.call64 (fun w0 O0 => ?_); refine .lenLe (n := 0) rfl (fun len0 => ?_); refine .seq ?_; refine .region ?_; refine .a ?_; refine .sq ?_; refine .seq ?_; refine .seq ?_; refine .region ?_; refine .m ?_; refine .x (OpSem.lenL rfl rfl es22) ?_; refine .m ?_; refine .sq ?_; refine .block ?_; refine .loop (X := Nat) (fun k => k ≤ l.length ∧ ∀ j : Nat, j < k → decide (n = nth l j) = false) (fun k => [(0, .d (ints l)), (1, I (n)), (7, I (l.length)), (8, I (k))]) (fun k => []) (fun k => l.length - k) 0 ⟨by omega, by simp⟩ ?_ ?_
 ·exact .slot rfl (.refl _) <| .slot rfl (.refl _) <| .slot rfl (.refl _) <| .slot rfl (Le.of_eq (by simp)) <| .nil
 ·rintro k ⟨hkl, hinv⟩
  refine .seq ?_; refine .region ?_; refine .x (.b blss) ?_; refine .sq ?_; refine .seq ?_; refine .cond rfl (fun c9 => ?_) (fun c9 => ?_)
  ·have hk : k < l.length := by simpa using c9
   refine .skip ?_; refine .seq ?_; refine .seq ?_; refine .block ?_; refine .seq ?_; refine .region ?_; refine .m ?_; refine .a ?_; refine .z ?_; refine .m ?_; refine .m ?_; refine .m ?_; refine .x (OpSem.idxL rfl rfl rfl es22 (by omega) (by omega)) ?_; refine .x (OpSem.load1 rfl rfl vs3 rfl) ?_; refine .x (.b beql) ?_; refine .sq ?_; refine .cond rfl (fun c16 => ?_) (fun c16 => ?_)
   ·refine .seq ?_; refine .region ?_; refine .m ?_; refine .a ?_; refine .sq ?_; refine .ret ?_; refine .block_ret ?_; refine .pass_ret ?_; refine .pass_ret ?_; refine .block_ret ?_; refine .pass_ret ?_; exact .ret rfl (.tmp rfl <| .nil) rfl (Le.i (findI_some (p := fun x => decide (n = x)) hk hinv c16).symm)
   ·have hb : decide (n = nth l k) = false := c16
    refine .skip ?_; refine .block_normal ?_; refine .y ?_; refine .x .ad ?_; refine .m ?_; refine .nil ?_; refine .again (k + 1) ⟨by omega, all_succ hinv hb⟩ ?_ (by omega); exact .slot rfl (.refl _) <| .slot rfl (.refl _) <| .slot rfl (.refl _) <| .slot rfl (Le.of_eq (by simp)) <| .nil
  ·have hk : k = l.length := by simp at c9; omega
   refine .exit ?_; refine .pass_exit ?_; refine .pass_exit ?_; refine .block_same ?_; refine .z ?_; refine .a ?_; refine .sq ?_; refine .ret ?_; exact .ret rfl (.tmp rfl <| .nil) rfl (Le.i (by subst hk; exact (findI_none (p := fun x => decide (n = x)) hinv).symm))

theorem slices_Contains_int_int_does (l : List Int) (n : Int) : Does Try.prog false 32 [.d (ints l), I (n)] (Bo (decide (n ∈ l))) := by
 refine Does.of_body Try.func32 rfl rfl (by simp) Try.call32 (fun w0 O0 => ?_); refine .lenLe (n := 0) rfl (fun len0 => ?_); refine .seq ?_; refine .region ?_; refine .a ?_; refine .z ?_; refine .m ?_; refine .m ?_; refine .x (OpSem.call0 (slices_Index_int_int_does l n) rfl rfl rfl rfl (Les.refl _)) ?_; refine .x (.b bgeq) ?_; refine .a ?_; refine .sq ?_; refine .ret ?_; exact .ret rfl (.tmp rfl <| .nil) rfl (Le.bo (findI_any.trans any_mem))

theorem landmark_without_1_does (i : Nat) (t : Tsk) (p : Int) (hi : i < t.ops.length) : Does Try.prog false 90 [I (i), .p [.v (.int .i64 t.facts), ints t.ini, ints t.goal, sopsD t.ops], .p [.v (.int .i64 p)]] (Bo (useP t p i)) := by
 refine Does.of_body Try.func90 rfl rfl (by simp) Try.call90 (fun w0 O0 => ?_); refine .seq ?_; refine .region ?_; refine .a ?_; refine .sq ?_; refine .seq ?_; refine PC.start [] ?_; refine .x (OpSem.fieldp rfl rfl fo25_3) ?_; refine .x (OpSem.load1 rfl rfl vs23 rfl) ?_; refine .m ?_; refine .x (OpSem.idxL rfl rfl rfl es23 (by omega) (by omega)) ?_; refine .x (OpSem.fieldp rfl rfl fo35_1) ?_; refine .x (OpSem.load1 rfl rfl vs22 rfl) ?_; refine .x (OpSem.load1 rfl rfl vs3 rfl) ?_; refine .d0 mixed ?_; refine .x (OpSem.call0 (slices_Contains_int_int_does (nth t.ops i).add p) rfl rfl rfl rfl (Les.refl _)) ?_; refine .x (OpSem.not rfl rfl) ?_; refine .a ?_; refine .sq ?_; refine .ret ?_; exact .ret rfl (.tmp rfl <| .nil) rfl (.refl _)

theorem landmark_without_does (t : Tsk) (p : Int) (hV : TskV t) : DoesO Try.prog 66 [tskS t, I (p)] 1 4 (((wtoL t p).map fun b => [D.v (.bool b)])) := by
 refine DoesO.of_body Try.func66 rfl rfl (by simp) Try.call66 (fun w0 O0 => ?_); refine .lenG (n := 0) (i := 1) rfl rfl (fun len0_1 => ?_); refine .lenG (n := 0) (i := 2) rfl rfl (fun len0_2 => ?_); refine .lenG (n := 0) (i := 3) rfl rfl (fun len0_3 => ?_); refine .seq ?_; refine .region ?_; refine .semM (OpSem.box 2 rfl rfl rfl rfl) rfl rfl (by decide) ?_; refine .semM (OpSem.box 3 rfl rfl rfl rfl) rfl rfl (by decide) ?_; refine .a ?_; refine .sq ?_; refine .seq ?_; refine .freezeR 2 rfl rfl ?_; refine .freezeR 3 rfl rfl ?_; refine .region ?_; refine .x (OpSem.loadN rfl rfl vs25 (by first | decide | simp) rfl) ?_; refine .x (OpSem.fieldp rfl rfl fo25_1) ?_; refine .x (OpSem.load1 rfl rfl vs22 rfl) ?_; refine .x (OpSem.makeFunc rfl rfl rfl) ?_; refine .semM (OpSem.callO 9 (relaxed_Close_does t t.ini 90 [.v (.int .i64 t.facts), ints t.ini, ints t.goal, sopsD t.ops] [.v (.int .i64 p)] (useP t p) hV.ok (fun q hq => setP_mem hV.ini hq) (fun i hi => landmark_without_1_does i t p hi)) rfl rfl rfl rfl (Les.refl _)) rfl rfl (by decide) ?_; refine .a ?_; refine .sq ?_; refine .ret ?_; exact .retO2 rfl rfl rfl (by simp) (rfl)

theorem landmark_facts_does (t : Tsk) (hV : TskV t) : DoesO Try.prog 65 [tskS t] 1 3 (((lmL t).map fun n => [D.v (.int .i64 n)])) := by
 have htf := hV.facts
 refine DoesO.of_body Try.func65 rfl rfl (by simp) Try.call65 (fun w0 O0 => ?_); refine .lenG (n := 0) (i := 1) rfl rfl (fun len0_1 => ?_); refine .lenG (n := 0) (i := 2) rfl rfl (fun len0_2 => ?_); refine .lenG (n := 0) (i := 3) rfl rfl (fun len0_3 => ?_); refine .seq ?_; refine .region ?_; refine .semM (OpSem.box 1 rfl rfl rfl rfl) rfl rfl (by decide) ?_; refine .a ?_; refine .z ?_; refine .a ?_; refine .sq ?_; refine .seq ?_; refine .seq ?_; refine .ownNil (n := 3) 3 1 3 rfl ?_; refine .region ?_; refine .x (.f fo25_0) ?_; refine .x (.l vs3) ?_; refine .m ?_; refine .sq ?_; refine .block ?_; refine .loop (X := Nat) (fun k0 => (k0 : Int) ≤ t.facts) (fun k0 => [(1, .r 1 0), (3, .o 3), (6, I (t.facts)), (7, I (k0))]) (fun k0 => [(3, .own 1 3 ((lmTo t k0).map fun n => [D.v (.int .i64 n)])), (1, .box [I (t.facts), .d (ints t.ini), .d (ints t.goal), .d (sopsD t.ops)])]) (fun k0 => t.facts.toNat - k0) 0 (by omega) ?_ ?_
 ·exact .slot rfl (.refl _) <| .slot rfl (.refl _) <| .slot rfl (.refl _) <| .slot rfl (Le.of_eq (by simp)) <| .memEq rfl (by simp [lmTo]) <| .mem rfl <| .nil
 ·rintro k0 hkl
  refine .seq ?_; refine .region ?_; refine .x (.b blss) ?_; refine .sq ?_; refine .seq ?_; refine .cond rfl (fun c8 => ?_) (fun c8 => ?_)
  ·have hk : (k0 : Int) < t.facts := by simpa using c8
   have hll := lmTo_len (t := t) (k := k0)
   refine .skip ?_; refine .seq ?_; refine .seq ?_; refine .block ?_; refine .seq ?_; refine .region ?_; refine .m ?_; refine .a ?_; refine .sq ?_; refine .seq ?_; refine PC.start [] ?_; refine .x (.f fo25_1) ?_; refine .x (.l vs22) ?_; refine .m ?_; refine .x (OpSem.call0 (slices_Contains_int_int_does t.ini (k0 : Int)) rfl rfl rfl rfl (Les.refl _)) ?_; refine .m ?_; refine .split (n := 14) rfl (fun c14 => ?_) (fun c14 => ?_)
   ·have hl : lmP t k0 = true := by unfold lmP; simp_all
    refine .hf c14 ?_; refine .hf c14 ?_; refine .hf c14 ?_; refine .hf c14 ?_; refine .hf c14 ?_; refine .d0 mixed ?_; refine .hf c14 ?_; refine .hf c14 ?_; refine .x (OpSem.pickT rfl rfl c14 rfl) ?_; refine .sq ?_; refine .condT rfl rfl ?_; refine .region ?_; refine .m ?_; refine .m ?_; refine .x (.bs es22 ze22) ?_; refine .ap es22 el22 zc3 by3 ?_; refine .a ?_; refine .nil ?_; refine .block_normal ?_; refine .y ?_; refine .x .ad ?_; refine .m ?_; refine .nil ?_; refine .again (k0 + 1) (by omega) ?_ (by omega); exact .slot rfl (.refl _) <| .slot rfl (.refl _) <| .slot rfl (.refl _) <| .slot rfl (Le.of_eq (by simp)) <| .memEq rfl (by rw [lm_t hl]; simp) <| .mem rfl <| .nil
   ·refine .ht (OpSem.loadbN rfl rfl rfl vs25 (by first | decide | simp)) c14 ?_; refine .ht (OpSem.move (.inl rfl) rfl) c14 ?_; refine .ht (OpSem.call0 (landmark_without_does t (k0 : Int) hV).fresh rfl rfl rfl rfl (Les.refl _)) c14 ?_; refine .ht (.f fo25_2) c14 ?_; refine .ht (.l vs22) c14 ?_; refine .d0 mixed ?_; refine .ht c14 ?_; refine .x (OpSem.call0 (relaxed_All_does (wtoL t (k0 : Int)) t.goal (fun k hk => by have q := set_rng hV.goal k hk; have q2 := wtoL_len (t := t) (p := (k0 : Int)); omega)) rfl rfl rfl rfl (Les.refl _)) ?_; refine .ht c14 ?_; refine .x (OpSem.not rfl rfl) ?_; refine .x (OpSem.pickF rfl rfl c14 rfl) ?_; refine .sq ?_; refine .cond rfl (fun c22 => ?_) (fun c22 => ?_)
    ·have hl : lmP t k0 = true := by unfold lmP; simp_all
     refine .region ?_; refine .m ?_; refine .m ?_; refine .x (.bs es22 ze22) ?_; refine .ap es22 el22 zc3 by3 ?_; refine .a ?_; refine .nil ?_; refine .block_normal ?_; refine .y ?_; refine .x .ad ?_; refine .m ?_; refine .nil ?_; refine .again (k0 + 1) (by omega) ?_ (by omega); exact .slot rfl (.refl _) <| .slot rfl (.refl _) <| .slot rfl (.refl _) <| .slot rfl (Le.of_eq (by simp)) <| .memEq rfl (by rw [lm_t hl]; simp) <| .mem rfl <| .nil
    ·have hl : ¬ lmP t k0 = true := by unfold lmP; simp_all
     refine .skip ?_; refine .block_normal ?_; refine .y ?_; refine .x .ad ?_; refine .m ?_; refine .nil ?_; refine .again (k0 + 1) (by omega) ?_ (by omega); exact .slot rfl (.refl _) <| .slot rfl (.refl _) <| .slot rfl (.refl _) <| .slot rfl (Le.of_eq (by simp)) <| .memEq rfl (by rw [lm_f hl]) <| .mem rfl <| .nil
  ·have hk : k0 = t.facts.toNat := by simp at c8; omega
   refine .exit ?_; refine .pass_exit ?_; refine .pass_exit ?_; refine .block_same ?_; refine .z ?_; refine .m ?_; refine .a ?_; refine .sq ?_; refine .ret ?_; exact .retO2 rfl rfl rfl (by simp) (by rw [hk]; rfl)

theorem landmark_Facts_does (t : Tsk) : Does Try.prog false 33 [tskS t] (.t [.d (ints (lmR t)), flt (tskF t)]) := by
 refine Does.of_body Try.func33 rfl rfl (by simp) Try.call33 (fun w0 O0 => ?_); refine .lenG (n := 0) (i := 1) rfl rfl (fun len0_1 => ?_); refine .lenG (n := 0) (i := 2) rfl rfl (fun len0_2 => ?_); refine .lenG (n := 0) (i := 3) rfl rfl (fun len0_3 => ?_); refine .seq ?_; refine .region ?_; refine .semM (OpSem.box 1 rfl rfl rfl rfl) rfl rfl (by decide) ?_; refine .a ?_; refine .semM (OpSem.alloc 3 rfl zc30 rfl) rfl rfl (by decide) ?_; refine .z ?_; refine .x (OpSem.loadbN rfl rfl rfl vs25 (by first | decide | simp)) ?_; refine .x (OpSem.call0 (strips_Validate_does t) rfl rfl rfl rfl (Les.refl _)) ?_; refine .semM (OpSem.alloc 4 rfl zc30 rfl) rfl rfl (by decide) ?_; refine .sb vs30 ?_; refine .sq ?_; refine .seq ?_; refine .seq ?_; refine .region ?_; refine .x (OpSem.loadbN rfl rfl rfl vs30 (by first | decide | simp)) ?_; refine .x (OpSem.build rfl rfl pl30 zc30 rfl rfl) ?_; refine .x (OpSem.neS2 rfl rfl rfl io30) ?_; refine .sq ?_; refine .cond rfl (fun c9 => ?_) (fun c9 => ?_)
 ·have hne : tskF t ≠ (0, 0) := fun h => by simp [h] at c9
  refine .seq ?_; refine PC.start [] ?_; refine .x (OpSem.loadbN rfl rfl rfl vs30 (by first | decide | simp)) ?_; refine .x (OpSem.move (.inr rfl) rfl) ?_; refine .d0 mixed ?_; refine .sb vs30 ?_; refine .sq ?_; refine .ret ?_; refine .pass_ret ?_; exact .ret rfl (.tmp rfl <| .cellN rfl rfl vs30 <| .nil) rfl (Le.t (.cons (by rw [lmR_1 hne]; exact Le.nil 1) <| .cons (.refl _) <| .nil))
 ·have h0 : tskF t = (0, 0) := pair0 (by simpa using c9)
  refine .skip ?_; refine .seq ?_; refine .seq ?_; refine PC.start [] ?_; refine .x (OpSem.loadbN rfl rfl rfl vs25 (by first | decide | simp)) ?_; refine .x (OpSem.call0 (landmark_facts_does t (tskF_v h0)).fresh rfl rfl rfl rfl (Les.refl _)) ?_; refine .x (OpSem.loadbN rfl rfl rfl vs30 (by first | decide | simp)) ?_; refine .x (OpSem.move (.inr rfl) rfl) ?_; refine .d0 mixed ?_; refine .sb vs30 ?_; refine .sq ?_; refine .ret ?_; exact .ret rfl (.tmp rfl <| .cellN rfl rfl vs30 <| .nil) rfl (Le.t (.cons (Le.of_eq (by rw [lmR_0 h0])) <| .cons (.refl _) <| .nil))

theorem landmark_Achievers_does (t : Tsk) : Does Try.prog false 34 [tskS t] (.t [.d (rows (acR t)), flt (tskF t)]) := by
 refine Does.of_body Try.func34 rfl rfl (by simp) Try.call34 (fun w0 O0 => ?_); refine .lenG (n := 0) (i := 1) rfl rfl (fun len0_1 => ?_); refine .lenG (n := 0) (i := 2) rfl rfl (fun len0_2 => ?_); refine .lenG (n := 0) (i := 3) rfl rfl (fun len0_3 => ?_); refine .seq ?_; refine .region ?_; refine .semM (OpSem.box 1 rfl rfl rfl rfl) rfl rfl (by decide) ?_; refine .a ?_; refine .semM (OpSem.alloc 3 rfl zc30 rfl) rfl rfl (by decide) ?_; refine .z ?_; refine .x (OpSem.loadbN rfl rfl rfl vs25 (by first | decide | simp)) ?_; refine .x (OpSem.call0 (strips_Validate_does t) rfl rfl rfl rfl (Les.refl _)) ?_; refine .semM (OpSem.alloc 4 rfl zc30 rfl) rfl rfl (by decide) ?_; refine .sb vs30 ?_; refine .sq ?_; refine .seq ?_; refine .seq ?_; refine .region ?_; refine .x (OpSem.loadbN rfl rfl rfl vs30 (by first | decide | simp)) ?_; refine .x (OpSem.build rfl rfl pl30 zc30 rfl rfl) ?_; refine .x (OpSem.neS2 rfl rfl rfl io30) ?_; refine .sq ?_; refine .cond rfl (fun c16 => ?_) (fun c16 => ?_)
 ·have hne : tskF t ≠ (0, 0) := fun h => by simp [h] at c16
  refine .seq ?_; refine PC.start [] ?_; refine .x (OpSem.loadbN rfl rfl rfl vs30 (by first | decide | simp)) ?_; refine .x (OpSem.move (.inr rfl) rfl) ?_; refine .d0 mixed ?_; refine .sb vs30 ?_; refine .sq ?_; refine .ret ?_; refine .pass_ret ?_; exact .ret rfl (.tmp rfl <| .cellN rfl rfl vs30 <| .nil) rfl (Le.t (.cons (by rw [acR_1 hne]; exact Le.nil 1) <| .cons (.refl _) <| .nil))
 ·have h0 : tskF t = (0, 0) := pair0 (by simpa using c16)
  have hV := tskF_v h0
  have htf := hV.facts
  have hoo := hV.ops
  have hll : (lmL t).length ≤ t.facts.toNat := lmTo_len
  refine .skip ?_; refine .z ?_; refine .a ?_; refine .sq ?_; refine .seq ?_; refine .seq ?_; refine .ownNil (n := 5) 5 1 22 rfl ?_; refine .region ?_; refine .x (OpSem.loadbN rfl rfl rfl vs25 (by first | decide | simp)) ?_; refine .x (OpSem.call0 (landmark_facts_does t hV).fresh rfl rfl rfl rfl (Les.refl _)) ?_; refine .x (OpSem.lenL rfl rfl es22) ?_; refine .m ?_; refine .sq ?_; refine .block ?_; refine .loop (X := Nat) (fun k => k ≤ (lmL t).length) (fun k => [(1, .r 1 0), (3, .r 3 0), (4, .r 4 0), (5, .o 5), (19, .d (ints (lmL t))), (20, I ((lmL t).length)), (21, I (k))]) (fun k => [(5, .own 1 22 ((acsTo t k).map fun r => [ints r])), (1, .box [I (t.facts), .d (ints t.ini), .d (ints t.goal), .d (sopsD t.ops)]), (3, .box [I (0), I (0)]), (4, .box [I ((tskF t).1), I ((tskF t).2)])]) (fun k => (lmL t).length - k) 0 (by omega) ?_ ?_
  ·exact .slot rfl (.refl _) <| .slot rfl (.refl _) <| .slot rfl (.refl _) <| .slot rfl (.refl _) <| .slot rfl (.refl _) <| .slot rfl (.refl _) <| .slot rfl (Le.of_eq (by simp)) <| .memEq rfl (by simp [acsTo]) <| .mem rfl <| .mem rfl <| .mem rfl <| .nil
  ·rintro k hkl
   refine .seq ?_; refine .region ?_; refine .x (.b blss) ?_; refine .sq ?_; refine .seq ?_; refine .cond rfl (fun c22 => ?_) (fun c22 => ?_)
   ·have hk : k < (lmL t).length := by simpa using c22
    have hsl : (acsTo t k).length ≤ k := by simp [acsTo]; omega
    refine .skip ?_; refine .seq ?_; refine .seq ?_; refine .block ?_; refine .seq ?_; refine .region ?_; refine .x (OpSem.idxL rfl rfl rfl es22 (by omega) (by omega)) ?_; refine .x (OpSem.load1 rfl rfl vs3 rfl) ?_; refine .a ?_; refine .z ?_; refine .a ?_; refine .sq ?_; refine .seq ?_; refine .ownNil (n := 8) 8 1 3 rfl ?_; refine .region ?_; refine .x (OpSem.loadbN rfl rfl rfl vs25 (by first | decide | simp)) ?_; refine .m ?_; refine .x (OpSem.call0 (landmark_without_does t (nth (lmL t) k) hV).fresh rfl rfl rfl rfl (Les.refl _)) ?_; refine .a ?_; refine .sq ?_; refine .seq ?_; refine .seq ?_; refine .region ?_; refine .x (.f fo25_3) ?_; refine .x (.l vs23) ?_; refine .x (OpSem.lenL rfl rfl es23) ?_; refine .m ?_; refine .sq ?_; refine .block ?_; refine .loop (X := Nat) (fun i => i ≤ t.ops.length) (fun i => [(1, .r 1 0), (3, .r 3 0), (4, .r 4 0), (5, .o 5), (7, I ((nth (lmL t) k))), (8, .o 8), (9, .d (bools (wtoL t (nth (lmL t) k)))), (19, .d (ints (lmL t))), (20, I ((lmL t).length)), (21, I (k)), (29, .d (sopsD t.ops)), (30, I (t.ops.length)), (31, I (i))]) (fun i => [(8, .own 1 3 ((acTo t (nth (lmL t) k) i).map fun n => [D.v (.int .i64 n)])), (5, .own 1 22 ((acsTo t k).map fun r => [ints r])), (1, .box [I (t.facts), .d (ints t.ini), .d (ints t.goal), .d (sopsD t.ops)]), (3, .box [I (0), I (0)]), (4, .box [I ((tskF t).1), I ((tskF t).2)])]) (fun i => t.ops.length - i) 0 (by omega) ?_ ?_
    ·exact .slot rfl (.refl _) <| .slot rfl (.refl _) <| .slot rfl (.refl _) <| .slot rfl (.refl _) <| .slot rfl (.refl _) <| .slot rfl (.refl _) <| .slot rfl (.refl _) <| .slot rfl (.refl _) <| .slot rfl (.refl _) <| .slot rfl (.refl _) <| .slot rfl (.refl _) <| .slot rfl (.refl _) <| .slot rfl (Le.of_eq (by simp)) <| .memEq rfl (by simp [acTo]) <| .memEq rfl rfl <| .mem rfl <| .mem rfl <| .mem rfl <| .nil
    ·rintro i hil
     refine .seq ?_; refine .region ?_; refine .x (.b blss) ?_; refine .sq ?_; refine .seq ?_; refine .cond rfl (fun c32 => ?_) (fun c32 => ?_)
     ·have hi : i < t.ops.length := by simpa using c32
      have hal := acTo_len (t := t) (p := (nth (lmL t) k)) (k := i)
      refine .skip ?_; refine .seq ?_; refine .seq ?_; refine .block ?_; refine .seq ?_; refine .region ?_; refine .m ?_; refine .x (OpSem.idxL rfl rfl rfl es23 (by omega) (by omega)) ?_; refine .x (OpSem.loadN rfl rfl vs35 (by first | decide | simp) rfl) ?_; refine .semM (OpSem.alloc 11 rfl zc35 rfl) rfl rfl (by decide) ?_; refine .a ?_; refine .sb vs35 ?_; refine .z ?_; refine .x (.f fo25_1) ?_; refine .x (.l vs22) ?_; refine .m ?_; refine .x (OpSem.call0 (slices_Contains_int_int_does t.ini (nth (lmL t) k)) rfl rfl rfl rfl (Les.refl _)) ?_; refine .x (OpSem.not rfl rfl) ?_; refine .m ?_; refine .split (n := 41) rfl (fun c41 => ?_) (fun c41 => ?_)
      ·refine .gt c41 ?_; refine .x (.f fo35_1) ?_; refine .gt c41 ?_; refine .x (.l vs22) ?_; refine .gt c41 ?_; refine .m ?_; refine .gt c41 ?_; refine .x (OpSem.call0 (slices_Contains_int_int_does (nth t.ops i).add (nth (lmL t) k)) rfl rfl rfl rfl (Les.refl _)) ?_; refine .x (OpSem.pickT rfl rfl c41 rfl) ?_; refine .m ?_; refine .split (n := 47) rfl (fun c47 => ?_) (fun c47 => ?_)
       ·refine .gt c47 ?_; refine .m ?_; refine .gt c47 ?_; refine .x (.f fo35_0) ?_; refine .gt c47 ?_; refine .x (.l vs22) ?_; refine .gt c47 ?_; refine .x (OpSem.call0 (relaxed_All_does (wtoL t (nth (lmL t) k)) (nth t.ops i).pre (fun j hj => by have q := set_rng (hV.op i hi).1.1 j hj; have q2 := wtoL_len (t := t) (p := (nth (lmL t) k)); omega)) rfl rfl rfl rfl (Les.refl _)) ?_; refine .x (OpSem.pickT rfl rfl c47 rfl) ?_; refine .sq ?_; refine .cond rfl (fun c52 => ?_) (fun c52 => ?_)
        ·have hl : acP t (nth (lmL t) k) i = true := by unfold acP; simp_all
         refine .region ?_; refine .m ?_; refine .m ?_; refine .x (.bs es22 ze22) ?_; refine .ap es22 el22 zc3 by3 ?_; refine .a ?_; refine .nil ?_; refine .block_normal ?_; refine .y ?_; refine .x .ad ?_; refine .m ?_; refine .nil ?_; refine .again (i + 1) (by omega) ?_ (by omega); exact .slot rfl (.refl _) <| .slot rfl (.refl _) <| .slot rfl (.refl _) <| .slot rfl (.refl _) <| .slot rfl (.refl _) <| .slot rfl (.refl _) <| .slot rfl (.refl _) <| .slot rfl (.refl _) <| .slot rfl (.refl _) <| .slot rfl (.refl _) <| .slot rfl (.refl _) <| .slot rfl (.refl _) <| .slot rfl (Le.of_eq (by simp)) <| .memEq rfl (by rw [ac_t hl]; simp) <| .memEq rfl rfl <| .mem rfl <| .mem rfl <| .mem rfl <| .nil
        ·have hl : ¬ acP t (nth (lmL t) k) i = true := by unfold acP; simp_all
         refine .skip ?_; refine .block_normal ?_; refine .y ?_; refine .x .ad ?_; refine .m ?_; refine .nil ?_; refine .again (i + 1) (by omega) ?_ (by omega); exact .slot rfl (.refl _) <| .slot rfl (.refl _) <| .slot rfl (.refl _) <| .slot rfl (.refl _) <| .slot rfl (.refl _) <| .slot rfl (.refl _) <| .slot rfl (.refl _) <| .slot rfl (.refl _) <| .slot rfl (.refl _) <| .slot rfl (.refl _) <| .slot rfl (.refl _) <| .slot rfl (.refl _) <| .slot rfl (Le.of_eq (by simp)) <| .memEq rfl (by first | (rw [ac_f hl]; done) | (rw [ac_f hl]; rfl)) <| .memEq rfl rfl <| .mem rfl <| .mem rfl <| .mem rfl <| .nil
       ·have hl : ¬ acP t (nth (lmL t) k) i = true := by unfold acP; simp_all
        refine .gf c47 ?_; refine .gf c47 ?_; refine .gf c47 ?_; refine .gf c47 ?_; refine .x (OpSem.pickF rfl rfl c47 rfl) ?_; refine .sq ?_; refine .condF rfl rfl ?_; refine .skip ?_; refine .block_normal ?_; refine .y ?_; refine .x .ad ?_; refine .m ?_; refine .nil ?_; refine .again (i + 1) (by omega) ?_ (by omega); exact .slot rfl (.refl _) <| .slot rfl (.refl _) <| .slot rfl (.refl _) <| .slot rfl (.refl _) <| .slot rfl (.refl _) <| .slot rfl (.refl _) <| .slot rfl (.refl _) <| .slot rfl (.refl _) <| .slot rfl (.refl _) <| .slot rfl (.refl _) <| .slot rfl (.refl _) <| .slot rfl (.refl _) <| .slot rfl (Le.of_eq (by simp)) <| .memEq rfl (by first | (rw [ac_f hl]; done) | (rw [ac_f hl]; rfl)) <| .memEq rfl rfl <| .mem rfl <| .mem rfl <| .mem rfl <| .nil
      ·have hl : ¬ acP t (nth (lmL t) k) i = true := by unfold acP; simp_all
       refine .gf c41 ?_; refine .gf c41 ?_; refine .gf c41 ?_; refine .gf c41 ?_; refine .x (OpSem.pickF rfl rfl c41 rfl) ?_; refine .m ?_; refine .gf rfl ?_; refine .gf rfl ?_; refine .gf rfl ?_; refine .gf rfl ?_; refine .x (OpSem.pickF rfl rfl rfl rfl) ?_; refine .sq ?_; refine .condF rfl rfl ?_; refine .skip ?_; refine .block_normal ?_; refine .y ?_; refine .x .ad ?_; refine .m ?_; refine .nil ?_; refine .again (i + 1) (by omega) ?_ (by omega); exact .slot rfl (.refl _) <| .slot rfl (.refl _) <| .slot rfl (.refl _) <| .slot rfl (.refl _) <| .slot rfl (.refl _) <| .slot rfl (.refl _) <| .slot rfl (.refl _) <| .slot rfl (.refl _) <| .slot rfl (.refl _) <| .slot rfl (.refl _) <| .slot rfl (.refl _) <| .slot rfl (.refl _) <| .slot rfl (Le.of_eq (by simp)) <| .memEq rfl (by first | (rw [ac_f hl]; done) | (rw [ac_f hl]; rfl)) <| .memEq rfl rfl <| .mem rfl <| .mem rfl <| .mem rfl <| .nil
     ·have hi : i = t.ops.length := by simp at c32; omega
      subst hi
      refine .exit ?_; refine .pass_exit ?_; refine .pass_exit ?_; refine .block_same ?_; refine .seq ?_; refine .freeze 8 rfl ?_; refine .region ?_; refine .m ?_; refine .m ?_; refine .x (.bs es37 ze37) ?_; refine .ap es37 el37 zc22 by22 ?_; refine .a ?_; refine .nil ?_; refine .block_normal ?_; refine .y ?_; refine .x .ad ?_; refine .m ?_; refine .nil ?_; refine .again (k + 1) (by omega) ?_ (by omega); exact .slot rfl (.refl _) <| .slot rfl (.refl _) <| .slot rfl (.refl _) <| .slot rfl (.refl _) <| .slot rfl (.refl _) <| .slot rfl (.refl _) <| .slot rfl (Le.of_eq (by simp)) <| .memEq rfl (by rw [acs_s hk]; simp [acL]) <| .mem rfl <| .mem rfl <| .mem rfl <| .nil
   ·have hk : k = (lmL t).length := by simp at c22; omega
    subst hk
    refine .exit ?_; refine .pass_exit ?_; refine .pass_exit ?_; refine .block_same ?_; refine .seq ?_; refine .seq ?_; refine .freeze 5 rfl ?_; refine PC.start [] ?_; refine .m ?_; refine .x (OpSem.loadbN rfl rfl rfl vs30 (by first | decide | simp)) ?_; refine .x (OpSem.move (.inr rfl) rfl) ?_; refine .d0 mixed ?_; refine .sb vs30 ?_; refine .sq ?_; refine .ret ?_; exact .ret rfl (.tmp rfl <| .cellN rfl rfl vs30 <| .nil) rfl (Le.t (.cons (Le.of_eq (by rw [acR_0 h0])) <| .cons (.refl _) <| .nil))

end Go.Proofs.Ytlidcpmdgceboaa
end

section
/- The program of a task: what the walks need. -/

set_option linter.unusedVariables false
set_option linter.unusedSimpArgs false
set_option linter.unusedSectionVars false
namespace Go.Eng
open Go
def chgO (o : SOp) (p : Int) : Int := if p ∉ o.pre ∧ p ∈ o.add then 1 else if p ∈ o.pre ∧ p ∈ o.del then -1 else 0
theorem chg_1 {o : SOp} {p : Int} (h : p ∉ o.pre) (h2 : p ∈ o.add) : 1 = chgO o p := by unfold chgO; rw [if_pos ⟨h, h2⟩]
theorem chg_2 {o : SOp} {p : Int} (h : p ∈ o.pre) (h2 : p ∈ o.del) : -1 = chgO o p := by unfold chgO; rw [if_neg (fun hh => hh.1 h), if_pos ⟨h, h2⟩]
theorem chg_0 {o : SOp} {p : Int} (h : ¬ (p ∉ o.pre ∧ p ∈ o.add)) (h2 : ¬ (p ∈ o.pre ∧ p ∈ o.del)) : 0 = chgO o p := by unfold chgO; rw [if_neg h, if_neg h2]
def SubP (a l : List Int) : Prop := ∀ k : Nat, k < a.length → nth a k ∈ l
instance {a l : List Int} : Decidable (SubP a l) := by unfold SubP; exact inferInstance
def CLarge (t : Tsk) : Prop := (∃ i : Nat, i < t.ops.length ∧ 20 < (nth t.ops i).cost) ∨ 6 < t.ops.length
instance {t : Tsk} : Decidable (CLarge t) := by
  unfold CLarge
  have : Decidable (∃ i : Nat, i < t.ops.length ∧ 20 < (nth t.ops i).cost) := decidable_of_iff (¬ ∀ i : Nat, i < t.ops.length → ¬ 20 < (nth t.ops i).cost) (by
    constructor
    · intro h
      exact Classical.byContradiction fun hn => h fun i hi hc => hn ⟨i, hi, hc⟩
    · rintro ⟨i, hi, hc⟩ h; exact h i hi hc)
  exact inferInstance
def adrTo (t : Tsk) (p : Int) (k : Nat) : List Bool := (t.ops.take k).map fun o => decide (p ∈ o.add)
/-! ### The reference's closure -/
def wiJ (l : List Int) (now : List Int) : Nat → List Int
  | 0 => now
  | k + 1 => if nth l k ∈ wiJ l now k then wiJ l now k else withL (wiJ l now k) (nth l k)
def wiI (t : Tsk) (drop : List Bool) (now : List Int) : Nat → List Int
  | 0 => now
  | i + 1 => if nth drop i = false ∧ SubP (nth t.ops i).pre (wiI t drop now i) then wiJ (nth t.ops i).add (wiI t drop now i) (nth t.ops i).add.length else wiI t drop now i
def wiR (t : Tsk) (drop : List Bool) (s : List Int) : Nat → List Int
  | 0 => s
  | r + 1 => wiI t drop (wiR t drop s r) t.ops.length
end Go.Eng
end

section
/- Walks, written by gen.py out of hints. -/



set_option linter.unusedVariables false
set_option linter.unusedSimpArgs false
namespace Go.Proofs.Ytlidcpmdgceboaa
open Go.Eng
set_option maxRecDepth 10000
set_option maxHeartbeats 1000000

theorem slices_IndexFunc_Operator_Operator_does (l : List SOp) (fn : Nat) (cs : List S) (p : SOp → Bool) (hcs : Caught cs) (hf : ∀ x, x ∈ l → Does Try.prog false fn ([sopS x] ++ cs) (Bo (p x))) : Does Try.prog false 63 [.d (sopsD l), .f fn [] cs] (I (findI p l)) := by
 refine Does.of_body Try.func63 rfl rfl (by simp) Try.call63 (fun w0 O0 => ?_); refine .lenLe (n := 0) rfl (fun len0 => ?_); refine .seq ?_; refine .region ?_; refine .a ?_; refine .sq ?_; refine .seq ?_; refine .seq ?_; refine .region ?_; refine .m ?_; refine .x (OpSem.lenL rfl rfl es23) ?_; refine .m ?_; refine .sq ?_; refine .block ?_; refine .loop (X := Nat) (fun k => k ≤ l.length ∧ ∀ j : Nat, j < k → p (nth l j) = false) (fun k => [(0, .d (sopsD l)), (1, .f fn [] cs), (7, I (l.length)), (8, I (k))]) (fun k => []) (fun k => l.length - k) 0 ⟨by omega, by simp⟩ ?_ ?_
 ·exact .slot rfl (.refl _) <| .slot rfl (.refl _) <| .slot rfl (.refl _) <| .slot rfl (Le.of_eq (by simp)) <| .nil
 ·rintro k ⟨hkl, hinv⟩
  refine .seq ?_; refine .region ?_; refine .x (.b blss) ?_; refine .sq ?_; refine .seq ?_; refine .cond rfl (fun c9 => ?_) (fun c9 => ?_)
  ·have hk : k < l.length := by simpa using c9
   refine .skip ?_; refine .seq ?_; refine .seq ?_; refine .block ?_; refine .seq ?_; refine .region ?_; refine .m ?_; refine .a ?_; refine .z ?_; refine .m ?_; refine .m ?_; refine .m ?_; refine .x (OpSem.idxL rfl rfl rfl es23 (by omega) (by omega)) ?_; refine .x (OpSem.loadN rfl rfl vs35 (by first | decide | simp) rfl) ?_; refine .x (OpSem.call0 (hf _ (nth_mem (by omega) (by omega))) rfl rfl rfl (hcs.app rfl) (Les.refl _)) ?_; refine .sq ?_; refine .cond rfl (fun c16 => ?_) (fun c16 => ?_)
   ·refine .seq ?_; refine .region ?_; refine .m ?_; refine .a ?_; refine .sq ?_; refine .ret ?_; refine .block_ret ?_; refine .pass_ret ?_; refine .pass_ret ?_; refine .block_ret ?_; refine .pass_ret ?_; exact .ret rfl (.tmp rfl <| .nil) rfl (Le.i (findI_some hk hinv c16).symm)
   ·refine .skip ?_; refine .block_normal ?_; refine .y ?_; refine .x .ad ?_; refine .m ?_; refine .nil ?_; refine .again (k + 1) ⟨by omega, all_succ hinv c16⟩ ?_ (by omega); exact .slot rfl (.refl _) <| .slot rfl (.refl _) <| .slot rfl (.refl _) <| .slot rfl (Le.of_eq (by simp)) <| .nil
  ·have hk : k = l.length := by simp at c9; omega
   refine .exit ?_; refine .pass_exit ?_; refine .pass_exit ?_; refine .block_same ?_; refine .z ?_; refine .a ?_; refine .sq ?_; refine .ret ?_; exact .ret rfl (.tmp rfl <| .nil) rfl (Le.i (by subst hk; exact (findI_none hinv).symm))

theorem slices_ContainsFunc_Operator_Operator_does (l : List SOp) (fn : Nat) (cs : List S) (p : SOp → Bool) (hcs : Caught cs) (hf : ∀ x, x ∈ l → Does Try.prog false fn ([sopS x] ++ cs) (Bo (p x))) : Does Try.prog false 29 [.d (sopsD l), .f fn [] cs] (Bo (l.any p)) := by
 refine Does.of_body Try.func29 rfl rfl (by simp) Try.call29 (fun w0 O0 => ?_); refine .lenLe (n := 0) rfl (fun len0 => ?_); refine .seq ?_; refine .region ?_; refine .a ?_; refine .z ?_; refine .m ?_; refine .m ?_; refine .x (OpSem.call0 (slices_IndexFunc_Operator_Operator_does l fn cs p hcs hf) rfl rfl rfl (hcs.arg rfl) (Les.refl _)) ?_; refine .x (.b bgeq) ?_; refine .a ?_; refine .sq ?_; refine .ret ?_; exact .ret rfl (.tmp rfl <| .nil) rfl (Le.bo findI_any)

theorem counting_Program_1_does (o : SOp) : Does Try.prog false 30 [sopS o] (Bo (decide (20 < o.cost))) := by
 refine Does.of_body Try.func30 rfl rfl (by simp) Try.call30 (fun w0 O0 => ?_); refine .lenG (n := 0) (i := 0) rfl rfl (fun len0_0 => ?_); refine .lenG (n := 0) (i := 1) rfl rfl (fun len0_1 => ?_); refine .lenG (n := 0) (i := 2) rfl rfl (fun len0_2 => ?_); refine .seq ?_; refine .region ?_; refine .semM (OpSem.box 1 rfl rfl rfl rfl) rfl rfl (by decide) ?_; refine .a ?_; refine .z ?_; refine .x (.f fo35_3) ?_; refine .x (.l vs3) ?_; refine .x (.b bgtr) ?_; refine .a ?_; refine .sq ?_; refine .ret ?_; exact .ret rfl (.tmp rfl <| .nil) rfl (Le.bo (by simp))

theorem counting_change_does (o : SOp) (p : Int) : Does Try.prog false 31 [sopS o, I (p)] (I (chgO o p)) := by
 refine Does.of_body Try.func31 rfl rfl (by simp) Try.call31 (fun w0 O0 => ?_); refine .lenG (n := 0) (i := 0) rfl rfl (fun len0_0 => ?_); refine .lenG (n := 0) (i := 1) rfl rfl (fun len0_1 => ?_); refine .lenG (n := 0) (i := 2) rfl rfl (fun len0_2 => ?_); refine .seq ?_; refine .region ?_; refine .semM (OpSem.box 2 rfl rfl rfl rfl) rfl rfl (by decide) ?_; refine .a ?_; refine .z ?_; refine .x (.f fo35_0) ?_; refine .x (.l vs22) ?_; refine .m ?_; refine .x (OpSem.call0 (slices_Contains_int_int_does o.pre p) rfl rfl rfl rfl (Les.refl _)) ?_; refine .a ?_; refine .sq ?_; refine .seq ?_; refine .block ?_; refine .seq ?_; refine .region ?_; refine .m ?_; refine .x (OpSem.not rfl rfl) ?_; refine .m ?_; refine .split (n := 13) rfl (fun c13 => ?_) (fun c13 => ?_)
 ·refine .gt c13 ?_; refine .x (.f fo35_1) ?_; refine .gt c13 ?_; refine .x (.l vs22) ?_; refine .gt c13 ?_; refine .m ?_; refine .gt c13 ?_; refine .x (OpSem.call0 (slices_Contains_int_int_does o.add p) rfl rfl rfl rfl (Les.refl _)) ?_; refine .x (OpSem.pickT rfl rfl c13 rfl) ?_; refine .a ?_; refine .sq ?_; refine .cond rfl (fun c10 => ?_) (fun c10 => ?_)
  ·refine .seq ?_; refine .region ?_; refine .a ?_; refine .sq ?_; refine .ret ?_; refine .block_ret ?_; refine .pass_ret ?_; exact .ret rfl (.tmp rfl <| .nil) rfl (Le.i (by first | exact chg_1 (by simp_all) (by simp_all) | exact chg_2 (by simp_all) (by simp_all) | exact chg_0 (by simp_all) (by simp_all)))
  ·refine .seq ?_; refine .region ?_; refine .m ?_; refine .m ?_; refine .split (n := 21) rfl (fun c21 => ?_) (fun c21 => ?_)
   ·refine .gt c21 ?_; refine .x (.f fo35_2) ?_; refine .gt c21 ?_; refine .x (.l vs22) ?_; refine .gt c21 ?_; refine .m ?_; refine .gt c21 ?_; refine .x (OpSem.call0 (slices_Contains_int_int_does o.del p) rfl rfl rfl rfl (Les.refl _)) ?_; refine .x (OpSem.pickT rfl rfl c21 rfl) ?_; refine .a ?_; refine .sq ?_; refine .cond rfl (fun c19 => ?_) (fun c19 => ?_)
    ·refine .seq ?_; refine .region ?_; refine .a ?_; refine .sq ?_; refine .ret ?_; refine .block_ret ?_; refine .pass_ret ?_; exact .ret rfl (.tmp rfl <| .nil) rfl (Le.i (by first | exact chg_1 (by simp_all) (by simp_all) | exact chg_2 (by simp_all) (by simp_all) | exact chg_0 (by simp_all) (by simp_all)))
    ·refine .skip ?_; refine .block_normal ?_; refine .z ?_; refine .a ?_; refine .sq ?_; refine .ret ?_; exact .ret rfl (.tmp rfl <| .nil) rfl (Le.i (by first | exact chg_1 (by simp_all) (by simp_all) | exact chg_2 (by simp_all) (by simp_all) | exact chg_0 (by simp_all) (by simp_all)))
   ·refine .gf c21 ?_; refine .gf c21 ?_; refine .gf c21 ?_; refine .gf c21 ?_; refine .x (OpSem.pickF rfl rfl c21 rfl) ?_; refine .a ?_; refine .sq ?_; refine .condF rfl rfl ?_; refine .skip ?_; refine .block_normal ?_; refine .z ?_; refine .a ?_; refine .sq ?_; refine .ret ?_; exact .ret rfl (.tmp rfl <| .nil) rfl (Le.i (by first | exact chg_1 (by simp_all) (by simp_all) | exact chg_2 (by simp_all) (by simp_all) | exact chg_0 (by simp_all) (by simp_all)))
 ·refine .gf c13 ?_; refine .gf c13 ?_; refine .gf c13 ?_; refine .gf c13 ?_; refine .x (OpSem.pickF rfl rfl c13 rfl) ?_; refine .a ?_; refine .sq ?_; refine .condF rfl rfl ?_; refine .seq ?_; refine .region ?_; refine .m ?_; refine .m ?_; refine .split (n := 21) rfl (fun c21 => ?_) (fun c21 => ?_)
  ·refine .gt c21 ?_; refine .x (.f fo35_2) ?_; refine .gt c21 ?_; refine .x (.l vs22) ?_; refine .gt c21 ?_; refine .m ?_; refine .gt c21 ?_; refine .x (OpSem.call0 (slices_Contains_int_int_does o.del p) rfl rfl rfl rfl (Les.refl _)) ?_; refine .x (OpSem.pickT rfl rfl c21 rfl) ?_; refine .a ?_; refine .sq ?_; refine .cond rfl (fun c19 => ?_) (fun c19 => ?_)
   ·refine .seq ?_; refine .region ?_; refine .a ?_; refine .sq ?_; refine .ret ?_; refine .block_ret ?_; refine .pass_ret ?_; exact .ret rfl (.tmp rfl <| .nil) rfl (Le.i (by first | exact chg_1 (by simp_all) (by simp_all) | exact chg_2 (by simp_all) (by simp_all) | exact chg_0 (by simp_all) (by simp_all)))
   ·refine .skip ?_; refine .block_normal ?_; refine .z ?_; refine .a ?_; refine .sq ?_; refine .ret ?_; exact .ret rfl (.tmp rfl <| .nil) rfl (Le.i (by first | exact chg_1 (by simp_all) (by simp_all) | exact chg_2 (by simp_all) (by simp_all) | exact chg_0 (by simp_all) (by simp_all)))
  ·refine .gf c21 ?_; refine .gf c21 ?_; refine .gf c21 ?_; refine .gf c21 ?_; refine .x (OpSem.pickF rfl rfl c21 rfl) ?_; refine .a ?_; refine .sq ?_; refine .condF rfl rfl ?_; refine .skip ?_; refine .block_normal ?_; refine .z ?_; refine .a ?_; refine .sq ?_; refine .ret ?_; exact .ret rfl (.tmp rfl <| .nil) rfl (Le.i (by first | exact chg_1 (by simp_all) (by simp_all) | exact chg_2 (by simp_all) (by simp_all) | exact chg_0 (by simp_all) (by simp_all)))

theorem R_Subset_does (a l : List Int) : Does Try.prog false 68 [.d (ints a), .d (ints l)] (Bo (decide (SubP a l))) := by
 refine Does.of_body Try.func68 rfl rfl (by simp) Try.call68 (fun w0 O0 => ?_); refine .lenLe (n := 0) rfl (fun len0 => ?_); refine .lenLe (n := 1) rfl (fun len1 => ?_); refine .seq ?_; refine .region ?_; refine .a ?_; refine .sq ?_; refine .seq ?_; refine .seq ?_; refine .region ?_; refine .a ?_; refine .sq ?_; refine .block ?_; refine .loop (X := Nat) (fun k => k ≤ a.length ∧ ∀ i : Nat, i < k → nth a i ∈ l) (fun k => [(0, .d (ints a)), (1, .d (ints l)), (5, I (k))]) (fun k => []) (fun k => a.length - k) 0 ⟨by omega, by simp⟩ ?_ ?_
 ·exact .slot rfl (.refl _) <| .slot rfl (.refl _) <| .slot rfl (Le.of_eq (by simp)) <| .nil
 ·rintro k ⟨hkl, hinv⟩
  refine .seq ?_; refine .seq ?_; refine .region ?_; refine .m ?_; refine .m ?_; refine .x (OpSem.lenL rfl rfl es22) ?_; refine .x (.b blss) ?_; refine .sq ?_; refine .cond rfl (fun c9 => ?_) (fun c9 => ?_)
  ·have hk : k < a.length := by simpa using c9
   refine .skip ?_; refine .seq ?_; refine .seq ?_; refine .block ?_; refine .seq ?_; refine .region ?_; refine .m ?_; refine .m ?_; refine .m ?_; refine .x (OpSem.idxL rfl rfl rfl es22 (by omega) (by omega)) ?_; refine .x (OpSem.load1 rfl rfl vs3 rfl) ?_; refine .x (OpSem.call0 (R_Has_does l (nth a k)) rfl rfl rfl rfl (Les.refl _)) ?_; refine .x (OpSem.not rfl rfl) ?_; refine .sq ?_; refine .cond rfl (fun c18 => ?_) (fun c18 => ?_)
   ·have hb : ¬ nth a k ∈ l := by simpa using c18
    refine .seq ?_; refine .region ?_; refine .a ?_; refine .sq ?_; refine .ret ?_; refine .block_ret ?_; refine .pass_ret ?_; refine .pass_ret ?_; refine .block_ret ?_; refine .pass_ret ?_; exact .ret rfl (.tmp rfl <| .nil) rfl (Le.bo (decide_eq_false (fun h => hb (h k hk))).symm)
   ·have hb : nth a k ∈ l := by simpa using c18
    refine .skip ?_; refine .block_normal ?_; refine .y ?_; refine .m ?_; refine .x .ad ?_; refine .a ?_; refine .nil ?_; refine .again (k + 1) ⟨by omega, all_succ hinv hb⟩ ?_ (by omega); exact .slot rfl (.refl _) <| .slot rfl (.refl _) <| .slot rfl (Le.of_eq (by simp)) <| .nil
  ·have hk : k = a.length := by simp at c9; omega
   refine .exit ?_; refine .pass_exit ?_; refine .pass_exit ?_; refine .block_same ?_; refine .z ?_; refine .a ?_; refine .sq ?_; refine .ret ?_; exact .ret rfl (.tmp rfl <| .nil) rfl (Le.bo (decide_eq_true (by subst hk; exact hinv)).symm)

end Go.Proofs.Ytlidcpmdgceboaa
end

section
/- The reference's closure is the closure. -/

set_option linter.unusedVariables false
set_option linter.unusedSimpArgs false
set_option linter.unusedSectionVars false
namespace Go.Eng
open Go
/-- What holds of the list. -/
structure WInv (t : Tsk) (s : List Int) (use : Nat → Bool) (now : List Int) : Prop where
  nd : now.Nodup
  base : ∀ p, p ∈ s → p ∈ now
  snd : ∀ p, p ∈ now → (0 ≤ p ∧ p < t.facts) ∧ Rch t s use p
section
variable {t : Tsk} {s : List Int} {use : Nat → Bool} {drop : List Bool}
end
end Go.Eng
end

section
/- Walks, written by gen.py out of hints. -/





set_option linter.unusedVariables false
set_option linter.unusedSimpArgs false
namespace Go.Proofs.Ytlidcpmdgceboaa
open Go.Eng
set_option maxRecDepth 10000
set_option maxHeartbeats 1000000

end Go.Proofs.Ytlidcpmdgceboaa
end

section
/- Landmarks: the reference's tests are those of the program. -/

set_option linter.unusedVariables false
set_option linter.unusedSimpArgs false
set_option linter.unusedSectionVars false
namespace Go.Eng
open Go
/-- The facts that are within reach, as the reference lists them. -/
def wiW (t : Tsk) (p : Int) : List Int := wiR t (adrTo t p t.ops.length) t.ini (t.facts.toNat + 1)
end Go.Eng
end

section
/- Walks, written by gen.py out of hints. -/



set_option linter.unusedVariables false
set_option linter.unusedSimpArgs false
namespace Go.Proofs.Ytlidcpmdgceboaa
open Go.Eng
set_option maxRecDepth 10000
set_option maxHeartbeats 1000000

end Go.Proofs.Ytlidcpmdgceboaa
end

section
/- Linear programs. -/

set_option linter.unusedVariables false
set_option linter.unusedSimpArgs false
set_option linter.unusedSectionVars false
namespace Go.Eng
open Go
structure LPr where
  rws : List (List Int)
  bnd : List Int
  obj : List Int
deriving DecidableEq
instance : Inhabited LPr := ⟨⟨[], [], []⟩⟩
abbrev lprS (p : LPr) : S := .g [.d (rows p.rws), .d (ints p.bnd), .d (ints p.obj)]
def lprZ : LPr := ⟨[], [], []⟩
/-- The row of a fact of the goal. -/
def gRow (t : Tsk) (q : Int) : List Int := t.ops.map fun o => -(chgO o q)
def gBnd (t : Tsk) (q : Int) : Int := if q ∈ t.ini then 0 else -1
/-- The row of a landmark. -/
noncomputable def lRow (t : Tsk) (q : Int) : List Int := (List.range t.ops.length).map fun (i : Nat) => if (i : Int) ∈ acL t q then -1 else 0
noncomputable def lmN (t : Tsk) : List Int := (lmL t).filter fun q => decide (q ∉ t.ini)
/-- The program of counting. -/
noncomputable def cpA (t : Tsk) : LPr := ⟨((t.goal.map (gRow t)) ++ (lmN t).map (lRow t)).take 6, ((t.goal.map (gBnd t)) ++ (lmN t).map fun _ => -1).take 6, t.ops.map fun o => -o.cost⟩
def cpF (t : Tsk) : Int × Int := if tskF t ≠ (0, 0) then tskF t else if CLarge t then (10, -8) else (0, 0)
noncomputable def cpR (t : Tsk) : LPr := if cpF t = (0, 0) then cpA t else lprZ
/-! ### The reference's program, so far -/
def obTo (t : Tsk) (k : Nat) : List Int := (t.ops.take k).map fun o => -o.cost
theorem ob_s {t : Tsk} {k : Nat} (hk : k < t.ops.length) : obTo t (k + 1) = obTo t k ++ [-(nth t.ops k).cost] := by unfold obTo; rw [tk_s hk]; simp
theorem ob_len {t : Tsk} {k : Nat} (hk : k ≤ t.ops.length) : (obTo t k).length = k := by simp [obTo]; omega
def gRowTo (t : Tsk) (q : Int) (k : Nat) : List Int := (t.ops.take k).map fun o => -(chgO o q)
def gRows (t : Tsk) (k : Nat) : List (List Int) := (t.goal.take k).map (gRow t)
def gBnds (t : Tsk) (k : Nat) : List Int := (t.goal.take k).map (gBnd t)
theorem grs_s {t : Tsk} {k : Nat} (hk : k < t.goal.length) : gRows t (k + 1) = gRows t k ++ [gRow t (nth t.goal k)] := by unfold gRows; rw [tk_s hk]; simp
theorem gbs_s {t : Tsk} {k : Nat} (hk : k < t.goal.length) : gBnds t (k + 1) = gBnds t k ++ [gBnd t (nth t.goal k)] := by unfold gBnds; rw [tk_s hk]; simp
theorem grs_len {t : Tsk} {k : Nat} (hk : k ≤ t.goal.length) : (gRows t k).length = k := by simp [gRows]; omega
noncomputable def lRowTo (t : Tsk) (q : Int) (k : Nat) : List Int := (List.range k).map fun (i : Nat) => if (i : Int) ∈ acL t q then -1 else 0
/-! ### All rows, and the first six -/
noncomputable def lmNTo (t : Tsk) (q : Nat) : List Int := (lmTo t q).filter fun p => decide (p ∉ t.ini)
noncomputable def allR (t : Tsk) (q : Nat) : List (List Int) := t.goal.map (gRow t) ++ (lmNTo t q).map (lRow t)
noncomputable def allB (t : Tsk) (q : Nat) : List Int := t.goal.map (gBnd t) ++ (lmNTo t q).map fun _ => -1
theorem all_len {t : Tsk} {q : Nat} : (allB t q).length = (allR t q).length := by simp [allR, allB]
theorem cpA_r (t : Tsk) : (cpA t).rws = (allR t t.facts.toNat).take 6 := rfl
theorem cpA_b (t : Tsk) : (cpA t).bnd = (allB t t.facts.toNat).take 6 := rfl
theorem cpA_o (t : Tsk) : (cpA t).obj = obTo t t.ops.length := by unfold obTo; rw [List.take_length]; rfl
theorem lmN_t {t : Tsk} {q : Nat} (h : lmP t q = true) (hi : (q : Int) ∉ t.ini) : lmNTo t (q + 1) = lmNTo t q ++ [(q : Int)] := by
  unfold lmNTo; rw [lm_t h, List.filter_append]; simp [hi]
theorem cl_ops {t : Tsk} (h : ¬ CLarge t) : t.ops.length ≤ 6 := by unfold CLarge at h; omega
theorem cl_cost {t : Tsk} (h : ¬ CLarge t) {i : Nat} (hi : i < t.ops.length) : (nth t.ops i).cost ≤ 20 := Classical.byContradiction fun hn => h (.inl ⟨i, hi, by omega⟩)
theorem chg_in {o : SOp} {p : Int} : -1 ≤ chgO o p ∧ chgO o p ≤ 1 := by unfold chgO; split; omega; split <;> omega
theorem neg_in {n : Int} (h0 : -9223372036854775807 ≤ n) (h1 : n ≤ 9223372036854775807) : IntKind.i64.wrap (0 - n) = -n := by
  rw [IntWalk.i64_in _ ⟨by omega, by omega⟩]; omega
end Go.Eng
end

section
/- Walks, written by gen.py out of hints. -/



set_option linter.unusedVariables false
set_option linter.unusedSimpArgs false
namespace Go.Proofs.Ytlidcpmdgceboaa
open Go.Eng
set_option maxRecDepth 10000
set_option maxHeartbeats 1000000

end Go.Proofs.Ytlidcpmdgceboaa
end

section
/- Walks, written by gen.py out of hints. -/



set_option linter.unusedVariables false
set_option linter.unusedSimpArgs false
namespace Go.Proofs.Ytlidcpmdgceboaa
open Go.Eng
set_option maxRecDepth 10000
set_option maxHeartbeats 1000000

end Go.Proofs.Ytlidcpmdgceboaa
end

section
/- The program of counting, as the planner builds it. -/

set_option linter.unusedVariables false
set_option linter.unusedSimpArgs false
set_option linter.unusedSectionVars false
namespace Go.Eng
open Go
def gRowS (t : Tsk) (q : Int) (i : Nat) : List Int := (List.range t.ops.length).map fun (j : Nat) => if j < i then -(chgO (nth t.ops j) q) else 0
theorem gs_len {t : Tsk} {q : Int} {i : Nat} : (gRowS t q i).length = t.ops.length := by simp [gRowS]
theorem gs_0 {t : Tsk} {q : Int} : gRowS t q 0 = List.replicate t.ops.length 0 := by
  apply List.ext_getElem (by simp [gRowS])
  intro i h1 h2; simp [gRowS]
theorem gs_s {t : Tsk} {q : Int} {i : Nat} (hi : i < t.ops.length) : (gRowS t q i).set i (-(chgO (nth t.ops i) q)) = gRowS t q (i + 1) := by
  apply List.ext_getElem (by simp [gRowS])
  intro j h1 h2
  rw [List.getElem_set]
  simp only [gRowS, List.getElem_map, List.getElem_range]
  by_cases hj : i = j
  · subst hj; simp
  · rw [if_neg hj]
    by_cases h : j < i
    · rw [if_pos h, if_pos (by omega)]
    · rw [if_neg h, if_neg (by omega)]
theorem gs_end {t : Tsk} {q : Int} : gRowS t q t.ops.length = gRow t q := by
  apply List.ext_getElem (by simp [gRowS, gRow])
  intro j h1 h2
  have hj : j < t.ops.length := by simpa [gRow] using h2
  simp only [gRowS, gRow, List.getElem_map, List.getElem_range]
  rw [if_pos hj, nth_eq hj]
noncomputable def lRowS (t : Tsk) (q : Int) (j : Nat) : List Int := (List.range t.ops.length).map fun (i : Nat) => if (i : Int) ∈ (acL t q).take j then -1 else 0
theorem ls_len {t : Tsk} {q : Int} {i : Nat} : (lRowS t q i).length = t.ops.length := by simp [lRowS]
theorem ls_0 {t : Tsk} {q : Int} : lRowS t q 0 = List.replicate t.ops.length 0 := by
  apply List.ext_getElem (by simp [lRowS])
  intro i h1 h2; simp [lRowS]
theorem ls_end {t : Tsk} {q : Int} : lRowS t q (acL t q).length = lRow t q := by unfold lRowS lRow; rw [List.take_length]
theorem acTo_in {t : Tsk} {p x : Int} : ∀ {k : Nat}, x ∈ acTo t p k → 0 ≤ x ∧ x < k
  | 0, h => by simp [acTo] at h
  | k + 1, h => by
    by_cases hl : acP t p k = true
    · rw [ac_t hl] at h
      rcases List.mem_append.1 h with h | h
      · have := acTo_in h; omega
      · simp at h; omega
    · rw [ac_f hl] at h; have := acTo_in h; omega
theorem acL_in {t : Tsk} {p : Int} {j : Nat} (hj : j < (acL t p).length) : 0 ≤ nth (acL t p) j ∧ nth (acL t p) j < t.ops.length := acTo_in (k := t.ops.length) (nth_mem (l := acL t p) (n := (j : Int)) (by omega) (by omega))
theorem ls_s {t : Tsk} {q : Int} {j : Nat} (hj : j < (acL t q).length) : (lRowS t q j).set (nth (acL t q) j).toNat (-1) = lRowS t q (j + 1) := by
  have hr := acL_in hj
  apply List.ext_getElem (by simp [lRowS])
  intro i h1 h2
  rw [List.getElem_set]
  simp only [lRowS, List.getElem_map, List.getElem_range]
  have hm : (i : Int) ∈ (acL t q).take (j + 1) ↔ (i : Int) ∈ (acL t q).take j ∨ nth (acL t q) j = i := by
    rw [tk_s hj]; simp only [List.mem_append, List.mem_singleton]; constructor <;> (rintro (h | h) <;> simp [h])
  by_cases he : (nth (acL t q) j).toNat = i
  · rw [if_pos he, if_pos (hm.2 (.inr (by omega)))]
  · rw [if_neg he]
    by_cases h : (i : Int) ∈ (acL t q).take j
    · rw [if_pos h, if_pos (hm.2 (.inl h))]
    · rw [if_neg h, if_neg (fun h' => (hm.1 h').elim h (fun e => he (by omega)))]
noncomputable def lmNK (t : Tsk) (k : Nat) : List Int := ((lmL t).take k).filter fun p => decide (p ∉ t.ini)
noncomputable def qR (t : Tsk) (k : Nat) : List (List Int) := t.goal.map (gRow t) ++ (lmNK t k).map (lRow t)
noncomputable def qB (t : Tsk) (k : Nat) : List Int := t.goal.map (gBnd t) ++ (lmNK t k).map fun _ => -1
theorem qr_0 {t : Tsk} : gRows t t.goal.length = qR t 0 ∧ gBnds t t.goal.length = qB t 0 := by
  unfold gRows gBnds qR qB lmNK
  rw [List.take_length]; simp
theorem qr_t {t : Tsk} {k : Nat} (hk : k < (lmL t).length) (h : nth (lmL t) k ∉ t.ini) : qR t (k + 1) = qR t k ++ [lRow t (nth (lmL t) k)] ∧ qB t (k + 1) = qB t k ++ [-1] := by
  unfold qR qB lmNK; rw [tk_s hk, List.filter_append]; simp [h]
theorem qr_f {t : Tsk} {k : Nat} (hk : k < (lmL t).length) (h : nth (lmL t) k ∈ t.ini) : qR t (k + 1) = qR t k ∧ qB t (k + 1) = qB t k := by
  unfold qR qB lmNK; rw [tk_s hk, List.filter_append]; simp [h]
theorem qr_len {t : Tsk} {k : Nat} : (qB t k).length = (qR t k).length := by simp [qR, qB]
theorem qr_le {t : Tsk} {k : Nat} : (qR t k).length ≤ t.goal.length + k := by
  unfold qR lmNK
  have := List.length_filter_le (fun p => decide (p ∉ t.ini)) ((lmL t).take k)
  simp only [List.length_append, List.length_map]
  rw [List.length_take] at this; omega
theorem qr_end {t : Tsk} : (qR t (lmL t).length).take 6 = (cpA t).rws ∧ (qB t (lmL t).length).take 6 = (cpA t).bnd := by
  have h : lmNK t (lmL t).length = lmNTo t t.facts.toNat := by unfold lmNK lmNTo; rw [List.take_length]; rfl
  rw [cpA_r, cpA_b]; unfold qR qB allR allB; rw [h]; exact ⟨rfl, rfl⟩
theorem tk_min {α : Type} {l : List α} {n : Int} (h : n = min (l.length : Int) 6) : l.take n.toNat = l.take 6 := by
  rcases Nat.lt_or_ge l.length 6 with h1 | h1
  · rw [List.take_of_length_le (by omega), List.take_of_length_le (by omega)]
  · congr 1; omega
theorem cpR_1 {t : Tsk} (h : cpF t ≠ (0, 0)) : lprZ = cpR t := by unfold cpR; rw [if_neg h]
theorem cpR_0 {t : Tsk} (h : cpF t = (0, 0)) : cpA t = cpR t := by unfold cpR; rw [if_pos h]
theorem cpF_1 {t : Tsk} (h : tskF t ≠ (0, 0)) : tskF t = cpF t := by unfold cpF; rw [if_pos h]
theorem cpF_2 {t : Tsk} (h : tskF t = (0, 0)) (h2 : CLarge t) : (10, -8) = cpF t := by unfold cpF; rw [if_neg (fun hn => hn h), if_pos h2]
theorem cpF_0 {t : Tsk} (h : tskF t = (0, 0)) (h2 : ¬ CLarge t) : (0, 0) = cpF t := by unfold cpF; rw [if_neg (fun hn => hn h), if_neg h2]
theorem cpF_ne {t : Tsk} (h : tskF t ≠ (0, 0)) : cpF t ≠ (0, 0) := by rw [← cpF_1 h]; exact h
theorem cl_any {t : Tsk} (h : (t.ops.any fun o => decide (20 < o.cost)) = true) : CLarge t := by
  obtain ⟨o, ho, hc⟩ := List.any_eq_true.1 h
  obtain ⟨i, hi, rfl⟩ := List.getElem_of_mem ho
  exact .inl ⟨i, hi, by rw [nth_eq hi]; simpa using hc⟩
theorem cl_none {t : Tsk} (h : ¬ (t.ops.any fun o => decide (20 < o.cost)) = true) (h6 : ¬ 6 < t.ops.length) : ¬ CLarge t := fun hc => by
  rcases hc with ⟨i, hi, hc⟩ | hc
  · exact h (List.any_eq_true.2 ⟨t.ops[i], List.getElem_mem hi, by rw [nth_eq hi] at hc; simpa using hc⟩)
  · exact h6 hc
theorem acs_at {t : Tsk} {k : Nat} (hk : k < (lmL t).length) : nth (acsTo t (lmL t).length) k = acL t (nth (lmL t) k) := by
  have h : k < (acsTo t (lmL t).length).length := by simp [acsTo]; omega
  rw [nth_eq h, nth_eq hk]; simp [acsTo]
theorem setP_len2 {n : Int} {l : List Int} (h : SetP n l) (hn : n ≤ 24) : l.length ≤ 24 := by
  have := pw_lt_len (n := n) (x := 0) (setP_sorted h) (fun y hy => setP_mem h hy)
  omega
theorem lp_end {t : Tsk} : (S.g [.d (rows ((qR t (lmL t).length).take (min ((qR t (lmL t).length).length : Int) 6).toNat)), .d (ints ((qB t (lmL t).length).take (min ((qR t (lmL t).length).length : Int) 6).toNat)), .d (ints (obTo t t.ops.length))]) = lprS (cpA t) := by
  have h := qr_end (t := t)
  rw [tk_min rfl, tk_min (by rw [qr_len]), h.1, h.2, ← cpA_o]
theorem Le.lpz : Le (.g [.d (.v (.slice none 0 0)), .d (.v (.slice none 0 0)), .d (.v (.slice none 0 0))]) (lprS lprZ) := Le.g (.cons (Le.nil 1) <| .cons (Le.nil 1) <| .cons (Le.nil 1) <| .nil)
end Go.Eng
end
