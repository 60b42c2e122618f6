/- The engine and the walks that this claim uses, part 6. Written by prune.py out of our own texts. -/
import Derived.Test.YtlidcpmdgceboaaE5
set_option linter.unusedSimpArgs false
set_option linter.unnecessarySimpa false
set_option linter.unusedVariables false
set_option linter.unusedSectionVars false
section
/- Walks, written by gen.py out of hints. -/




namespace Go.Proofs.Ytlidcpmdgceboaa
open Go.Eng
set_option maxRecDepth 10000
set_option maxHeartbeats 1000000

theorem slices_Clone_S_int_int_does (l : List (List Int)) (hl : l.length ≤ 1000000) : Does Try.prog false 35 [.d (rows l)] (.d (rows l)) := by
 refine Does.of_body Try.func35 rfl rfl (by simp) Try.call35 (fun w0 O0 => ?_); refine .lenLe (n := 0) rfl (fun len0 => ?_); refine .seq ?_; refine .region ?_; refine .a ?_; refine .sq ?_; refine .seq ?_; refine .seq ?_; refine .region ?_; refine .m ?_; refine .eqNil rfl rfl es37 rfl rfl (by decide) (fun b4 hb4 => ?_); refine .sq ?_; refine .cond rfl (fun c4 => ?_) (fun c4 => ?_)
 ·refine .seq ?_; refine .region ?_; refine .a ?_; refine .sq ?_; refine .ret ?_; refine .pass_ret ?_; exact .ret rfl (.tmp rfl <| .nil) rfl (by have h := hb4 c4; unfold rows; rw [h]; exact Le.nil 1)
 ·refine .skip ?_; refine .z ?_; refine .semM (OpSem.buildO 5 rfl es37 (by decide)) rfl rfl (by decide) ?_; refine .m ?_; refine .ap es37 el37 zc22 by22 ?_; refine .freeze 5 rfl ?_; refine .a ?_; refine .sq ?_; refine .ret ?_; exact .ret rfl (.tmp rfl <| .nil) rfl (Le.of_eq (by simp))

noncomputable abbrev cp24E (t : Tsk) (k : Nat) : Env := [(1, .r 1 0), (2, .r 2 0), (3, .r 3 0), (5, .r 5 0), (10, .d (ints (gRow t (nth t.goal k)))), (13, I ((gBnd t (nth t.goal k)))), (58, .d (ints t.goal)), (59, I (t.goal.length)), (60, I (k))]
noncomputable abbrev cp24M (t : Tsk) (k : Nat) : Mem := [(1, .box [I (t.facts), .d (ints t.ini), .d (ints t.goal), .d (sopsD t.ops)]), (2, .box [.d (.v (.slice none 0 0)), .d (.v (.slice none 0 0)), .d (.v (.slice none 0 0))]), (3, .box [I (0), I (0)]), (193, .own 1 3 ((obTo t t.ops.length).map fun n => [D.v (.int .i64 n)]))]
noncomputable abbrev cp42E (t : Tsk) (k : Nat) : Env := [(1, .r 1 0), (2, .r 2 0), (3, .r 3 0), (5, .r 5 0), (16, .d (rows (acsTo t (lmL t).length))), (19, .d (ints (lRow t (nth (lmL t) k)))), (121, .d (ints (lmL t))), (122, I ((lmL t).length)), (123, I (k))]
noncomputable abbrev cp42M (t : Tsk) (k : Nat) : Mem := [(1, .box [I (t.facts), .d (ints t.ini), .d (ints t.goal), .d (sopsD t.ops)]), (2, .box [.d (.v (.slice none 0 0)), .d (.v (.slice none 0 0)), .d (.v (.slice none 0 0))]), (3, .box [I (0), I (0)]), (193, .own 1 3 ((obTo t t.ops.length).map fun n => [D.v (.int .i64 n)]))]
theorem counting_Program_does (t : Tsk) : Does Try.prog false 12 [tskS t] (.t [lprS (cpR t), flt (cpF t)]) := by
 refine Does.of_body Try.func12 rfl rfl (by simp) Try.call12 (fun w0 O0 => ?_); refine .lenG (n := 0) (i := 1) rfl rfl (fun len0_1 => ?_); refine .lenG (n := 0) (i := 2) rfl rfl (fun len0_2 => ?_); refine .lenG (n := 0) (i := 3) rfl rfl (fun len0_3 => ?_); refine .seq ?_; refine .region ?_; refine .semM (OpSem.box 1 rfl rfl rfl rfl) rfl rfl (by decide) ?_; refine .semM (OpSem.alloc 2 rfl zc39 rfl) rfl rfl (by decide) ?_; refine .semM (OpSem.alloc 3 rfl zc30 rfl) rfl rfl (by decide) ?_; refine .sq ?_; refine .seq ?_; refine .seq ?_; refine .region ?_; refine .x (OpSem.loadbN rfl rfl rfl vs25 (by first | decide | simp)) ?_; refine .x (OpSem.call0 (strips_Validate_does t) rfl rfl rfl rfl (Les.refl _)) ?_; refine .semM (OpSem.alloc 4 rfl zc30 rfl) rfl rfl (by decide) ?_; refine .sb vs30 ?_; refine .z ?_; refine .x (OpSem.loadbN rfl rfl rfl vs30 (by first | decide | simp)) ?_; refine .x (OpSem.build rfl rfl pl30 zc30 rfl rfl) ?_; refine .x (OpSem.neS2 rfl rfl rfl io30) ?_; refine .sq ?_; refine .cond rfl (fun c27 => ?_) (fun c27 => ?_)
 ·have hne : tskF t ≠ (0, 0) := fun h => by simp [h] at c27
  refine .seq ?_; refine PC.start [2] ?_; refine .x (OpSem.build rfl rfl pl39 zc39 rfl rfl) ?_; refine .x (OpSem.loadbN rfl rfl rfl vs30 (by first | decide | simp)) ?_; refine .storeb 100002 rfl rfl rfl rfl rfl rfl rfl vs39 (by first | decide | simp) ?_; refine .dn mixed ?_; refine .sb vs30 ?_; refine .sq ?_; refine .ret ?_; refine .pass_ret ?_; exact .ret rfl (.cellN rfl rfl vs39 <| .cellN rfl rfl vs30 <| .nil) rfl (Le.t (.cons (by rw [← cpR_1 (cpF_ne hne)]; exact Le.lpz) <| .cons (Le.flt (cpF_1 hne)) <| .nil))
 ·have h0 : tskF t = (0, 0) := pair0 (by simpa using c27)
  have hV := tskF_v h0
  have hf0 := hV.facts.1
  have hf1 := hV.facts.2
  have hgl := setP_len hV.goal hf1
  have hgl2 := setP_len2 hV.goal hf1
  have hll : (lmL t).length ≤ t.facts.toNat := lmTo_len
  refine .skip ?_; refine .seq ?_; refine .seq ?_; refine .seq ?_; refine .region ?_; refine .x (.f fo25_3) ?_; refine .x (.l vs23) ?_; refine .x (OpSem.lenL rfl rfl es23) ?_; refine .x (.b bgtr) ?_; refine .m ?_; refine .split (n := 34) rfl (fun c34 => ?_) (fun c34 => ?_)
  ·have hcl : CLarge t := .inr (by simp at c34; omega)
   refine .hf c34 ?_; refine .hf c34 ?_; refine .hf c34 ?_; refine .x (OpSem.pickT rfl rfl c34 rfl) ?_; refine .sq ?_; refine .condT rfl rfl ?_; refine .seq ?_; refine .region ?_; refine .x (OpSem.build rfl rfl pl39 zc39 rfl rfl) ?_; refine .x (OpSem.build rfl rfl pl30 zc30 rfl rfl) ?_; refine .sb vs39 ?_; refine .sb vs30 ?_; refine .sq ?_; refine .ret ?_; refine .pass_ret ?_; exact .ret rfl (.cellN rfl rfl vs39 <| .cellN rfl rfl vs30 <| .nil) rfl (Le.t (.cons (by rw [← cpR_1 (fun h => by rw [← cpF_2 h0 hcl] at h; simp at h)]; exact Le.lpz) <| .cons (Le.flt (cpF_2 h0 hcl)) <| .nil))
  ·have h6 : ¬ 6 < t.ops.length := by simp at c34; omega
   refine .ht c34 ?_; refine .x (.f fo25_3) ?_; refine .ht c34 ?_; refine .x (.l vs23) ?_; refine .ht c34 ?_; refine .x (OpSem.call0 (slices_ContainsFunc_Operator_Operator_does t.ops 30 [] (fun o => decide (20 < o.cost)) (fun n hn => rfl) (fun x _ => counting_Program_1_does x)) rfl rfl rfl rfl (Les.refl _)) ?_; refine .x (OpSem.pickF rfl rfl c34 rfl) ?_; refine .sq ?_; refine .cond rfl (fun c38 => ?_) (fun c38 => ?_)
   ·have hcl : CLarge t := cl_any (by simpa using c38)
    refine .seq ?_; refine .region ?_; refine .x (OpSem.build rfl rfl pl39 zc39 rfl rfl) ?_; refine .x (OpSem.build rfl rfl pl30 zc30 rfl rfl) ?_; refine .sb vs39 ?_; refine .sb vs30 ?_; refine .sq ?_; refine .ret ?_; refine .pass_ret ?_; exact .ret rfl (.cellN rfl rfl vs39 <| .cellN rfl rfl vs30 <| .nil) rfl (Le.t (.cons (by rw [← cpR_1 (fun h => by rw [← cpF_2 h0 hcl] at h; simp at h)]; exact Le.lpz) <| .cons (Le.flt (cpF_2 h0 hcl)) <| .nil))
   ·have hL : ¬ CLarge t := cl_none (by simpa using c38) h6
    refine .skip ?_; refine .z ?_; refine .semM (OpSem.alloc 5 rfl zc39 rfl) rfl rfl (by decide) ?_; refine .sq ?_; refine .seq ?_; refine .seq ?_; refine .ownNilBox 191 5 0 1 22 rfl rfl rfl ?_; refine .ownNilBox 192 5 1 1 3 rfl rfl rfl ?_; refine .ownNilBox 193 5 2 1 3 rfl rfl rfl ?_; refine .region ?_; refine .x (.f fo25_3) ?_; refine .x (.l vs23) ?_; refine .x (OpSem.lenL rfl rfl es23) ?_; refine .m ?_; refine .sq ?_; refine .block ?_; refine .loop (X := Nat) (fun i => i ≤ t.ops.length) (fun i => [(1, .r 1 0), (2, .r 2 0), (3, .r 3 0), (5, .r 5 0), (42, .d (sopsD t.ops)), (43, I (t.ops.length)), (44, I (i))]) (fun i => [(191, .own 1 22 (([] : List (List Int)).map fun r => [ints r])), (192, .own 1 3 (([] : List Int).map fun n => [D.v (.int .i64 n)])), (193, .own 1 3 ((obTo t i).map fun n => [D.v (.int .i64 n)])), (1, .box [I (t.facts), .d (ints t.ini), .d (ints t.goal), .d (sopsD t.ops)]), (2, .box [.d (.v (.slice none 0 0)), .d (.v (.slice none 0 0)), .d (.v (.slice none 0 0))]), (3, .box [I (0), I (0)]), (5, .box [.o 191, .o 192, .o 193])]) (fun i => t.ops.length - i) 0 (by omega) ?_ ?_
    ·exact .sl <| .sl <| .sl <| .sl <| .sl <| .sl <| .slot rfl (Le.of_eq (by simp)) <| .mem rfl <| .mem rfl <| .memEq rfl (by simp [obTo]) <| .mem rfl <| .mem rfl <| .mem rfl <| .mem rfl <| .nil
    ·rintro i hil
     refine .seq ?_; refine .region ?_; refine .x (.b blss) ?_; refine .sq ?_; refine .seq ?_; refine .cond rfl (fun c45 => ?_) (fun c45 => ?_)
     ·have hk : i < t.ops.length := by simpa using c45
      have hcs := (hV.op i hk).2
      have hobl := ob_len (t := t) (k := i) (by omega)
      refine .skip ?_; refine .seq ?_; refine .seq ?_; refine .block ?_; refine .seq ?_; refine .region ?_; refine .x (OpSem.idxL rfl rfl rfl es23 (by omega) (by omega)) ?_; refine .x (OpSem.loadN rfl rfl vs35 (by first | decide | simp) rfl) ?_; refine .semM (OpSem.alloc 7 rfl zc35 rfl) rfl rfl (by decide) ?_; refine .sb vs35 ?_; refine .y ?_; refine .x (.f fo39_2) ?_; refine .x (.l vs22) ?_; refine .x (.f fo35_3) ?_; refine .x (.l vs3) ?_; refine .x (OpSem.neg rfl rfl (neg_in (by omega) (by omega))) ?_; refine .x (.bs es22 ze22) ?_; refine .ap es22 el22 zc3 by3 ?_; refine .x (.f fo39_2) ?_; refine .sb vs22 ?_; refine .nil ?_; refine .block_normal ?_; refine .y ?_; refine .x .ad ?_; refine .m ?_; refine .nil ?_; refine .again (i + 1) (by omega) ?_ (by omega); exact .sl <| .sl <| .sl <| .sl <| .sl <| .sl <| .slot rfl (Le.of_eq (by simp)) <| .mem rfl <| .mem rfl <| .memEq rfl (by rw [ob_s hk]; simp) <| .mem rfl <| .mem rfl <| .mem rfl <| .mem rfl <| .nil
     ·have hk : i = t.ops.length := by simp at c45; omega
      subst hk
      refine .exit ?_; refine .pass_exit ?_; refine .pass_exit ?_; refine .block_same ?_; refine .seq ?_; refine .seq ?_; refine .seq ?_; refine .region ?_; refine .x (.f fo25_2) ?_; refine .x (.l vs22) ?_; refine .x (OpSem.lenL rfl rfl es22) ?_; refine .m ?_; refine .sq ?_; refine .block ?_; refine .loop (X := Nat) (fun k => k ≤ t.goal.length) (fun k => [(1, .r 1 0), (2, .r 2 0), (3, .r 3 0), (5, .r 5 0), (58, .d (ints t.goal)), (59, I (t.goal.length)), (60, I (k))]) (fun k => [(191, .own 1 22 ((gRows t k).map fun r => [ints r])), (192, .own 1 3 ((gBnds t k).map fun n => [D.v (.int .i64 n)])), (193, .own 1 3 ((obTo t t.ops.length).map fun n => [D.v (.int .i64 n)])), (1, .box [I (t.facts), .d (ints t.ini), .d (ints t.goal), .d (sopsD t.ops)]), (2, .box [.d (.v (.slice none 0 0)), .d (.v (.slice none 0 0)), .d (.v (.slice none 0 0))]), (3, .box [I (0), I (0)]), (5, .box [.o 191, .o 192, .o 193])]) (fun k => t.goal.length - k) 0 (by omega) ?_ ?_
      ·exact .sl <| .sl <| .sl <| .sl <| .sl <| .sl <| .slot rfl (Le.of_eq (by simp)) <| .memEq rfl (by simp [gRows]) <| .memEq rfl (by simp [gBnds]) <| .mem rfl <| .mem rfl <| .mem rfl <| .mem rfl <| .mem rfl <| .nil
      ·rintro k hkl
       refine .seq ?_; refine .region ?_; refine .x (.b blss) ?_; refine .sq ?_; refine .seq ?_; refine .cond rfl (fun c61 => ?_) (fun c61 => ?_)
       ·have hk : k < t.goal.length := by simpa using c61
        have hgr := grs_len (t := t) (k := k) (by omega)
        have hgb : (gBnds t k).length = k := by simp [gBnds]; omega
        refine .skip ?_; refine .seq ?_; refine .seq ?_; refine .block ?_; refine .seq ?_; refine .region ?_; refine .x (OpSem.idxL rfl rfl rfl es22 (by omega) (by omega)) ?_; refine .x (OpSem.load1 rfl rfl vs3 rfl) ?_; refine .a ?_; refine .z ?_; refine .x (.f fo25_3) ?_; refine .x (.l vs23) ?_; refine .x (OpSem.lenL rfl rfl es23) ?_; refine .semM (OpSem.makeSlice 67 rfl rfl rfl es22 ze22 rfl rfl (by decide) bye22 (by omega) (by omega) (by omega)) rfl rfl (by decide) ?_; refine .a ?_; refine .sq ?_; refine .cut [(1, .r 1 0), (3, .r 3 0), (2, .r 2 0), (5, .r 5 0), (9, I ((nth t.goal k))), (10, .o 67), (58, .d (ints t.goal)), (59, I (t.goal.length)), (60, I (k))] [(1, .box [I (t.facts), .d (ints t.ini), .d (ints t.goal), .d (sopsD t.ops)]), (3, .box [I (0), I (0)]), (2, .box [.d (.v (.slice none 0 0)), .d (.v (.slice none 0 0)), .d (.v (.slice none 0 0))]), (5, .box [.o 191, .o 192, .o 193]), (67, .own 1 3 ((gRow t (nth t.goal k)).map fun n => [D.v (.int .i64 n)])), (191, .own 1 22 ((gRows t k).map fun r => [ints r])), (192, .own 1 3 ((gBnds t k).map fun n => [D.v (.int .i64 n)])), (193, .own 1 3 ((obTo t t.ops.length).map fun n => [D.v (.int .i64 n)]))] ?_ ?_
        ·refine .seq ?_; refine .region ?_; refine .x (.f fo25_3) ?_; refine .x (.l vs23) ?_; refine .x (OpSem.lenL rfl rfl es23) ?_; refine .m ?_; refine .sq ?_; refine .block ?_; refine .loop (X := Nat) (fun i => i ≤ t.ops.length) (fun i => [(1, .r 1 0), (2, .r 2 0), (3, .r 3 0), (5, .r 5 0), (9, I ((nth t.goal k))), (10, .o 67), (58, .d (ints t.goal)), (59, I (t.goal.length)), (60, I (k)), (69, .d (sopsD t.ops)), (70, I (t.ops.length)), (71, I (i))]) (fun i => [(191, .own 1 22 ((gRows t k).map fun r => [ints r])), (192, .own 1 3 ((gBnds t k).map fun n => [D.v (.int .i64 n)])), (193, .own 1 3 ((obTo t t.ops.length).map fun n => [D.v (.int .i64 n)])), (67, .own 1 3 ((gRowS t (nth t.goal k) i).map fun n => [D.v (.int .i64 n)])), (1, .box [I (t.facts), .d (ints t.ini), .d (ints t.goal), .d (sopsD t.ops)]), (2, .box [.d (.v (.slice none 0 0)), .d (.v (.slice none 0 0)), .d (.v (.slice none 0 0))]), (3, .box [I (0), I (0)]), (5, .box [.o 191, .o 192, .o 193])]) (fun i => t.ops.length - i) 0 (by omega) ?_ ?_
         ·exact .sl <| .sl <| .sl <| .sl <| .sl <| .sl <| .sl <| .sl <| .sl <| .sl <| .sl <| .slot rfl (Le.of_eq (by simp)) <| .mem rfl <| .mem rfl <| .mem rfl <| .memEq rfl (by rw [gs_0, el22]; first | (simp; done) | (simp; rfl)) <| .mem rfl <| .mem rfl <| .mem rfl <| .mem rfl <| .nil
         ·rintro i hil
          refine .seq ?_; refine .region ?_; refine .x (.b blss) ?_; refine .sq ?_; refine .seq ?_; refine .cond rfl (fun c72 => ?_) (fun c72 => ?_)
          ·have hi : i < t.ops.length := by simpa using c72
           have hci := chg_in (o := (nth t.ops i)) (p := (nth t.goal k))
           refine .skip ?_; refine .seq ?_; refine .seq ?_; refine .block ?_; refine .seq ?_; refine .region ?_; refine .m ?_; refine .x (OpSem.idxL rfl rfl rfl es23 (by omega) (by omega)) ?_; refine .x (OpSem.loadN rfl rfl vs35 (by first | decide | simp) rfl) ?_; refine .semM (OpSem.alloc 12 rfl zc35 rfl) rfl rfl (by decide) ?_; refine .a ?_; refine .sb vs35 ?_; refine .y ?_; refine .m ?_; refine .m ?_; refine .x (OpSem.loadbN rfl rfl rfl vs35 (by first | decide | simp)) ?_; refine .m ?_; refine .x (OpSem.call0 (counting_change_does (nth t.ops i) (nth t.goal k)) rfl rfl rfl rfl (Les.refl _)) ?_; refine .x (OpSem.neg rfl rfl (neg_in (by omega) (by omega))) ?_; refine .x (OpSem.idxo rfl rfl rfl rfl es22 (by omega) (by simp [gs_len]; omega)) ?_; refine .storeq rfl rfl rfl rfl rfl rfl rfl vs3 (rows_get (by omega) (by rw [gs_len]; omega)) (by simp) ?_; refine .nil ?_; refine .block_normal ?_; refine .y ?_; refine .x .ad ?_; refine .m ?_; refine .nil ?_; refine .again (i + 1) (by omega) ?_ (by omega); exact .sl <| .sl <| .sl <| .sl <| .sl <| .sl <| .sl <| .sl <| .sl <| .sl <| .sl <| .slot rfl (Le.of_eq (by simp)) <| .mem rfl <| .mem rfl <| .mem rfl <| .memEq rfl (by rw [← gs_s hi]; exact congrArg (Mo.own 1 3) (rows_set (f := fun n => [D.v (.int .i64 n)]))) <| .mem rfl <| .mem rfl <| .mem rfl <| .mem rfl <| .nil
          ·have hi : i = t.ops.length := by simp at c72; omega
           subst hi
           refine .exit ?_; refine .pass_exit ?_; refine .pass_exit ?_; refine .block_same ?_; refine .meet ?_; exact .sl <| .sl <| .sl <| .sl <| .sl <| .sl <| .sl <| .sl <| .sl <| .mem rfl <| .mem rfl <| .mem rfl <| .mem rfl <| .memEq rfl (by rw [gs_end]) <| .mem rfl <| .mem rfl <| .mem rfl <| .nil
        ·refine .seq ?_; refine .freeze 67 rfl ?_; refine .region ?_; refine .a ?_; refine .sq ?_; refine .cut [(1, .r 1 0), (3, .r 3 0), (2, .r 2 0), (5, .r 5 0), (10, .d (ints (gRow t (nth t.goal k)))), (13, I ((gBnd t (nth t.goal k)))), (58, .d (ints t.goal)), (59, I (t.goal.length)), (60, I (k))] [(1, .box [I (t.facts), .d (ints t.ini), .d (ints t.goal), .d (sopsD t.ops)]), (3, .box [I (0), I (0)]), (2, .box [.d (.v (.slice none 0 0)), .d (.v (.slice none 0 0)), .d (.v (.slice none 0 0))]), (5, .box [.o 191, .o 192, .o 193]), (191, .own 1 22 ((gRows t k).map fun r => [ints r])), (192, .own 1 3 ((gBnds t k).map fun n => [D.v (.int .i64 n)])), (193, .own 1 3 ((obTo t t.ops.length).map fun n => [D.v (.int .i64 n)]))] ?_ ?_
         ·refine .seq ?_; refine .region ?_; refine .x (.f fo25_1) ?_; refine .x (.l vs22) ?_; refine .m ?_; refine .x (OpSem.call0 (slices_Contains_int_int_does t.ini (nth t.goal k)) rfl rfl rfl rfl (Les.refl _)) ?_; refine .sq ?_; refine .cond rfl (fun c87 => ?_) (fun c87 => ?_)
          ·have hgin : gBnd t (nth t.goal k) = 0 := by unfold gBnd; rw [if_pos (by simpa using c87)]
           refine .region ?_; refine .a ?_; refine .nil ?_; refine .meet ?_; exact .sl <| .sl <| .sl <| .sl <| .sl <| .slot rfl (Le.i hgin.symm) <| .sl <| .sl <| .sl <| .mem rfl <| .mem rfl <| .mem rfl <| .mem rfl <| .mem rfl <| .mem rfl <| .mem rfl <| .nil
          ·have hgin : gBnd t (nth t.goal k) = -1 := by unfold gBnd; rw [if_neg (by simpa using c87)]
           refine .skip ?_; refine .meet ?_; exact .sl <| .sl <| .sl <| .sl <| .sl <| .slot rfl (Le.i hgin.symm) <| .sl <| .sl <| .sl <| .mem rfl <| .mem rfl <| .mem rfl <| .mem rfl <| .mem rfl <| .mem rfl <| .mem rfl <| .nil
         ·refine .lattice 14 [Ff, Ff, Ff, Ff, Ff, Ff, Ff, Ff, Ff, Ff, Ff, Ff, Ff, Ff] mixed rfl rfl ?_; refine .share 0 [Tt, Tt, Tt, Tt, Tt, Tt, Tt, Tt, Tt, Tt, Tt, Tt, Tt, Tt] (cp24E t k) ((5, .box [.o 191, .o 192, .o 193]) :: (191, .own 1 22 ((gRows t (k + 1)).map fun r => [ints r])) :: (192, .own 1 3 ((gBnds t (k + 1)).map fun n => [D.v (.int .i64 n)])) :: cp24M t k) ?_ (fun h_97 => ?_)
          ·refine .fin (by kernel_rfl) ?_; refine .block_normal ?_; refine .y ?_; refine .x .ad ?_; refine .m ?_; refine .nil ?_; refine .again (k + 1) (by omega) ?_ (by omega); exact .sl <| .sl <| .sl <| .sl <| .sl <| .sl <| .slot rfl (Le.of_eq (by simp)) <| .mem rfl <| .mem rfl <| .mem rfl <| .mem rfl <| .mem rfl <| .mem rfl <| .mem rfl <| .nil
          refine .share 1 [Tt, Tt, Tt, Tt, Tt, Tt, Tt, Tt, Tt, Tt, Tt, Tt, Tt, Ff] ((97, .o 192) :: (99, .r 5 1) :: cp24E t k) ((5, .box [.o 191, .u, .o 193]) :: (191, .own 1 22 ((gRows t (k + 1)).map fun r => [ints r])) :: (192, .own 1 3 ((gBnds t (k + 1)).map fun n => [D.v (.int .i64 n)])) :: cp24M t k) ?_ (fun h_96 => ?_)
          ·refine .st [13] ⟨?_, trivial⟩
           ·refine ⟨_, rfl, ?_⟩
            refine .sb vs22 ?_; exact .j h_97
          refine .share 2 [Tt, Tt, Tt, Tt, Tt, Tt, Tt, Tt, Tt, Tt, Tt, Tt, Ff, Ff] ((97, .o 192) :: cp24E t k) ((5, .box [.o 191, .u, .o 193]) :: (191, .own 1 22 ((gRows t (k + 1)).map fun r => [ints r])) :: (192, .own 1 3 ((gBnds t (k + 1)).map fun n => [D.v (.int .i64 n)])) :: cp24M t k) ?_ (fun h_95 => ?_)
          ·refine .st [12] ⟨?_, trivial⟩
           ·refine ⟨_, rfl, ?_⟩
            refine .x (.f fo39_1) ?_; exact .j h_96
          refine .share 3 [Tt, Tt, Tt, Tt, Tt, Tt, Tt, Tt, Tt, Tt, Tt, Ff, Ff, Ff] ((92, .o 191) :: (97, .o 192) :: (98, .r 5 0) :: cp24E t k) ((5, .box [.u, .u, .o 193]) :: (191, .own 1 22 ((gRows t (k + 1)).map fun r => [ints r])) :: (192, .own 1 3 ((gBnds t (k + 1)).map fun n => [D.v (.int .i64 n)])) :: cp24M t k) ?_ (fun h_94 => ?_)
          ·refine .st [11] ⟨?_, trivial⟩
           ·refine ⟨_, rfl, ?_⟩
            refine .sb vs37 ?_; exact .j h_95
          refine .share 4 [Tt, Tt, Tt, Tt, Tt, Tt, Tt, Tt, Tt, Tt, Ff, Ff, Ff, Ff] ((92, .o 191) :: (97, .o 192) :: cp24E t k) ((5, .box [.u, .u, .o 193]) :: (191, .own 1 22 ((gRows t (k + 1)).map fun r => [ints r])) :: (192, .own 1 3 ((gBnds t (k + 1)).map fun n => [D.v (.int .i64 n)])) :: cp24M t k) ?_ (fun h_92 => ?_)
          ·refine .st [10] ⟨?_, trivial⟩
           ·refine ⟨_, rfl, ?_⟩
            refine .x (.f fo39_0) ?_; exact .j h_94
          refine .share 4 [Tt, Tt, Tt, Tt, Tt, Tt, Tt, Tt, Tt, Ff, Tt, Ff, Ff, Ff] ((92, .o 191) :: (94, .o 192) :: (96, .d (.s 1 [[.v (.int .i64 (gBnd t (nth t.goal k)))]])) :: (98, .r 5 0) :: cp24E t k) ((5, .box [.u, .o 192, .o 193]) :: (191, .own 1 22 ((gRows t (k + 1)).map fun r => [ints r])) :: (192, .own 1 3 ((gBnds t k).map fun n => [D.v (.int .i64 n)])) :: cp24M t k) ?_ (fun h_93 => ?_)
          ·refine .st [9] ⟨?_, trivial⟩
           ·refine ⟨_, rfl, ?_⟩
            refine .ap es22 el22 zc3 by3 ?_; exact TrL.join h_94 rfl (.sl <| .sl <| .sl <| .sl <| .sl <| .sl <| .sl <| .sl <| .sl <| .sl <| .sl <| .sl <| .mem rfl <| .mem rfl <| .memEq rfl (by rw [gbs_s hk]; simp) <| .mem rfl <| .mem rfl <| .mem rfl <| .mem rfl <| .nil)
          refine .share 5 [Tt, Tt, Tt, Tt, Tt, Tt, Tt, Tt, Tt, Ff, Ff, Ff, Ff, Ff] ((92, .o 191) :: (94, .o 192) :: (96, .d (.s 1 [[.v (.int .i64 (gBnd t (nth t.goal k)))]])) :: cp24E t k) ((5, .box [.u, .o 192, .o 193]) :: (191, .own 1 22 ((gRows t (k + 1)).map fun r => [ints r])) :: (192, .own 1 3 ((gBnds t k).map fun n => [D.v (.int .i64 n)])) :: cp24M t k) ?_ (fun h_90 => ?_)
          ·refine .st [9, 10] ⟨?_, ?_, trivial⟩
           ·refine ⟨_, rfl, ?_⟩
            refine .ap es22 el22 zc3 by3 ?_; exact TrL.join h_92 rfl (.sl <| .sl <| .sl <| .sl <| .sl <| .sl <| .sl <| .sl <| .sl <| .sl <| .sl <| .mem rfl <| .mem rfl <| .memEq rfl (by rw [gbs_s hk]; simp) <| .mem rfl <| .mem rfl <| .mem rfl <| .mem rfl <| .nil)
           ·refine ⟨_, rfl, ?_⟩
            refine .x (.f fo39_0) ?_; exact .j h_93
          refine .share 5 [Tt, Tt, Tt, Tt, Tt, Tt, Tt, Tt, Ff, Ff, Tt, Ff, Ff, Ff] ((92, .o 191) :: (94, .o 192) :: (95, I ((gBnd t (nth t.goal k)))) :: (98, .r 5 0) :: cp24E t k) ((5, .box [.u, .o 192, .o 193]) :: (191, .own 1 22 ((gRows t (k + 1)).map fun r => [ints r])) :: (192, .own 1 3 ((gBnds t k).map fun n => [D.v (.int .i64 n)])) :: cp24M t k) ?_ (fun h_91 => ?_)
          ·refine .st [8] ⟨?_, trivial⟩
           ·refine ⟨_, rfl, ?_⟩
            refine .x (.bs es22 ze22) ?_; exact .j h_93
          refine .share 6 [Tt, Tt, Tt, Tt, Tt, Tt, Tt, Tt, Ff, Ff, Ff, Ff, Ff, Ff] ((92, .o 191) :: (94, .o 192) :: (95, I ((gBnd t (nth t.goal k)))) :: cp24E t k) ((5, .box [.u, .o 192, .o 193]) :: (191, .own 1 22 ((gRows t (k + 1)).map fun r => [ints r])) :: (192, .own 1 3 ((gBnds t k).map fun n => [D.v (.int .i64 n)])) :: cp24M t k) ?_ (fun h_86 => ?_)
          ·refine .st [8, 10] ⟨?_, ?_, trivial⟩
           ·refine ⟨_, rfl, ?_⟩
            refine .x (.bs es22 ze22) ?_; exact .j h_90
           ·refine ⟨_, rfl, ?_⟩
            refine .x (.f fo39_0) ?_; exact .j h_91
          refine .share 6 [Tt, Tt, Tt, Tt, Tt, Tt, Tt, Ff, Ff, Ff, Tt, Ff, Ff, Ff] ((92, .o 191) :: (94, .o 192) :: (98, .r 5 0) :: cp24E t k) ((5, .box [.u, .o 192, .o 193]) :: (191, .own 1 22 ((gRows t (k + 1)).map fun r => [ints r])) :: (192, .own 1 3 ((gBnds t k).map fun n => [D.v (.int .i64 n)])) :: cp24M t k) ?_ (fun h_87 => ?_)
          ·refine .st [7] ⟨?_, trivial⟩
           ·refine ⟨_, rfl, ?_⟩
            refine .m ?_; exact .j h_91
          refine .share 6 [Tt, Tt, Tt, Tt, Tt, Tt, Ff, Tt, Tt, Ff, Ff, Ff, Ff, Ff] ((92, .o 191) :: (93, .r 5 1) :: (96, .d (.s 1 [[.v (.int .i64 (gBnd t (nth t.goal k)))]])) :: cp24E t k) ((5, .box [.u, .o 192, .o 193]) :: (191, .own 1 22 ((gRows t (k + 1)).map fun r => [ints r])) :: (192, .own 1 3 ((gBnds t k).map fun n => [D.v (.int .i64 n)])) :: cp24M t k) ?_ (fun h_88 => ?_)
          ·refine .st [6] ⟨?_, trivial⟩
           ·refine ⟨_, rfl, ?_⟩
            refine .x (.l vs22) ?_; exact .j h_90
          refine .share 6 [Tt, Tt, Tt, Tt, Ff, Tt, Tt, Tt, Tt, Ff, Ff, Ff, Ff, Ff] ((89, .o 191) :: (91, .d (.s 1 [[ints (gRow t (nth t.goal k))]])) :: (94, .o 192) :: (96, .d (.s 1 [[.v (.int .i64 (gBnd t (nth t.goal k)))]])) :: cp24E t k) ((5, .box [.o 191, .o 192, .o 193]) :: (191, .own 1 22 ((gRows t k).map fun r => [ints r])) :: (192, .own 1 3 ((gBnds t k).map fun n => [D.v (.int .i64 n)])) :: cp24M t k) ?_ (fun h_89 => ?_)
          ·refine .st [4] ⟨?_, trivial⟩
           ·refine ⟨_, rfl, ?_⟩
            refine .ap es37 el37 zc22 by22 ?_; exact TrL.join h_90 rfl (.sl <| .sl <| .sl <| .sl <| .sl <| .sl <| .sl <| .sl <| .sl <| .sl <| .sl <| .sl <| .mem rfl <| .memEq rfl (by rw [grs_s hk, List.map_append]; rfl) <| .mem rfl <| .mem rfl <| .mem rfl <| .mem rfl <| .mem rfl <| .nil)
          refine .share 7 [Tt, Tt, Tt, Tt, Tt, Tt, Tt, Ff, Ff, Ff, Ff, Ff, Ff, Ff] ((92, .o 191) :: (94, .o 192) :: cp24E t k) ((5, .box [.u, .o 192, .o 193]) :: (191, .own 1 22 ((gRows t (k + 1)).map fun r => [ints r])) :: (192, .own 1 3 ((gBnds t k).map fun n => [D.v (.int .i64 n)])) :: cp24M t k) ?_ (fun h_79 => ?_)
          ·refine .st [7, 10] ⟨?_, ?_, trivial⟩
           ·refine ⟨_, rfl, ?_⟩
            refine .m ?_; exact .j h_86
           ·refine ⟨_, rfl, ?_⟩
            refine .x (.f fo39_0) ?_; exact .j h_87
          refine .share 7 [Tt, Tt, Tt, Tt, Tt, Tt, Ff, Tt, Ff, Ff, Ff, Ff, Ff, Ff] ((92, .o 191) :: (93, .r 5 1) :: (95, I ((gBnd t (nth t.goal k)))) :: cp24E t k) ((5, .box [.u, .o 192, .o 193]) :: (191, .own 1 22 ((gRows t (k + 1)).map fun r => [ints r])) :: (192, .own 1 3 ((gBnds t k).map fun n => [D.v (.int .i64 n)])) :: cp24M t k) ?_ (fun h_80 => ?_)
          ·refine .st [6, 8] ⟨?_, ?_, trivial⟩
           ·refine ⟨_, rfl, ?_⟩
            refine .x (.l vs22) ?_; exact .j h_86
           ·refine ⟨_, rfl, ?_⟩
            refine .x (.bs es22 ze22) ?_; exact .j h_88
          refine .share 7 [Tt, Tt, Tt, Tt, Tt, Ff, Ff, Tt, Tt, Ff, Ff, Ff, Ff, Ff] ((92, .o 191) :: (96, .d (.s 1 [[.v (.int .i64 (gBnd t (nth t.goal k)))]])) :: cp24E t k) ((5, .box [.u, .o 192, .o 193]) :: (191, .own 1 22 ((gRows t (k + 1)).map fun r => [ints r])) :: (192, .own 1 3 ((gBnds t k).map fun n => [D.v (.int .i64 n)])) :: cp24M t k) ?_ (fun h_81 => ?_)
          ·refine .st [5] ⟨?_, trivial⟩
           ·refine ⟨_, rfl, ?_⟩
            refine .x (.f fo39_1) ?_; exact .j h_88
          refine .share 7 [Tt, Tt, Tt, Tt, Ff, Tt, Tt, Tt, Ff, Ff, Ff, Ff, Ff, Ff] ((89, .o 191) :: (91, .d (.s 1 [[ints (gRow t (nth t.goal k))]])) :: (94, .o 192) :: (95, I ((gBnd t (nth t.goal k)))) :: cp24E t k) ((5, .box [.o 191, .o 192, .o 193]) :: (191, .own 1 22 ((gRows t k).map fun r => [ints r])) :: (192, .own 1 3 ((gBnds t k).map fun n => [D.v (.int .i64 n)])) :: cp24M t k) ?_ (fun h_82 => ?_)
          ·refine .st [4, 8] ⟨?_, ?_, trivial⟩
           ·refine ⟨_, rfl, ?_⟩
            refine .ap es37 el37 zc22 by22 ?_; exact TrL.join h_86 rfl (.sl <| .sl <| .sl <| .sl <| .sl <| .sl <| .sl <| .sl <| .sl <| .sl <| .sl <| .sl <| .mem rfl <| .memEq rfl (by rw [grs_s hk, List.map_append]; rfl) <| .mem rfl <| .mem rfl <| .mem rfl <| .mem rfl <| .mem rfl <| .nil)
           ·refine ⟨_, rfl, ?_⟩
            refine .x (.bs es22 ze22) ?_; exact .j h_89
          refine .share 7 [Tt, Tt, Tt, Tt, Ff, Tt, Ff, Tt, Tt, Ff, Ff, Ff, Ff, Ff] ((89, .o 191) :: (91, .d (.s 1 [[ints (gRow t (nth t.goal k))]])) :: (93, .r 5 1) :: (96, .d (.s 1 [[.v (.int .i64 (gBnd t (nth t.goal k)))]])) :: cp24E t k) ((5, .box [.o 191, .o 192, .o 193]) :: (191, .own 1 22 ((gRows t k).map fun r => [ints r])) :: (192, .own 1 3 ((gBnds t k).map fun n => [D.v (.int .i64 n)])) :: cp24M t k) ?_ (fun h_83 => ?_)
          ·refine .st [4, 6] ⟨?_, ?_, trivial⟩
           ·refine ⟨_, rfl, ?_⟩
            refine .ap es37 el37 zc22 by22 ?_; exact TrL.join h_88 rfl (.sl <| .sl <| .sl <| .sl <| .sl <| .sl <| .sl <| .sl <| .sl <| .sl <| .sl <| .sl <| .mem rfl <| .memEq rfl (by rw [grs_s hk, List.map_append]; rfl) <| .mem rfl <| .mem rfl <| .mem rfl <| .mem rfl <| .mem rfl <| .nil)
           ·refine ⟨_, rfl, ?_⟩
            refine .x (.l vs22) ?_; exact .j h_89
          refine .share 7 [Tt, Tt, Tt, Ff, Ff, Tt, Tt, Tt, Tt, Ff, Ff, Ff, Ff, Ff] ((89, .o 191) :: (90, .d (ints (gRow t (nth t.goal k)))) :: (94, .o 192) :: (96, .d (.s 1 [[.v (.int .i64 (gBnd t (nth t.goal k)))]])) :: cp24E t k) ((5, .box [.o 191, .o 192, .o 193]) :: (191, .own 1 22 ((gRows t k).map fun r => [ints r])) :: (192, .own 1 3 ((gBnds t k).map fun n => [D.v (.int .i64 n)])) :: cp24M t k) ?_ (fun h_84 => ?_)
          ·refine .st [3] ⟨?_, trivial⟩
           ·refine ⟨_, rfl, ?_⟩
            refine .x (.bs es37 ze37) ?_; exact .j h_89
          refine .share 7 [Tt, Ff, Tt, Tt, Ff, Tt, Tt, Tt, Tt, Ff, Ff, Ff, Ff, Ff] ((88, .r 5 0) :: (91, .d (.s 1 [[ints (gRow t (nth t.goal k))]])) :: (94, .o 192) :: (96, .d (.s 1 [[.v (.int .i64 (gBnd t (nth t.goal k)))]])) :: cp24E t k) ((5, .box [.o 191, .o 192, .o 193]) :: (191, .own 1 22 ((gRows t k).map fun r => [ints r])) :: (192, .own 1 3 ((gBnds t k).map fun n => [D.v (.int .i64 n)])) :: cp24M t k) ?_ (fun h_85 => ?_)
          ·refine .st [1] ⟨?_, trivial⟩
           ·refine ⟨_, rfl, ?_⟩
            refine .x (.l vs37) ?_; exact .j h_89
          refine .share 8 [Tt, Tt, Tt, Tt, Tt, Tt, Ff, Ff, Ff, Ff, Ff, Ff, Ff, Ff] ((92, .o 191) :: (93, .r 5 1) :: cp24E t k) ((5, .box [.u, .o 192, .o 193]) :: (191, .own 1 22 ((gRows t (k + 1)).map fun r => [ints r])) :: (192, .own 1 3 ((gBnds t k).map fun n => [D.v (.int .i64 n)])) :: cp24M t k) ?_ (fun h_67 => ?_)
          ·refine .st [6, 7] ⟨?_, ?_, trivial⟩
           ·refine ⟨_, rfl, ?_⟩
            refine .x (.l vs22) ?_; exact .j h_79
           ·refine ⟨_, rfl, ?_⟩
            refine .m ?_; exact .j h_80
          refine .share 8 [Tt, Tt, Tt, Tt, Tt, Ff, Ff, Tt, Ff, Ff, Ff, Ff, Ff, Ff] ((92, .o 191) :: (95, I ((gBnd t (nth t.goal k)))) :: cp24E t k) ((5, .box [.u, .o 192, .o 193]) :: (191, .own 1 22 ((gRows t (k + 1)).map fun r => [ints r])) :: (192, .own 1 3 ((gBnds t k).map fun n => [D.v (.int .i64 n)])) :: cp24M t k) ?_ (fun h_68 => ?_)
          ·refine .st [5, 8] ⟨?_, ?_, trivial⟩
           ·refine ⟨_, rfl, ?_⟩
            refine .x (.f fo39_1) ?_; exact .j h_80
           ·refine ⟨_, rfl, ?_⟩
            refine .x (.bs es22 ze22) ?_; exact .j h_81
          refine .share 8 [Tt, Tt, Tt, Tt, Ff, Tt, Tt, Ff, Ff, Ff, Ff, Ff, Ff, Ff] ((89, .o 191) :: (91, .d (.s 1 [[ints (gRow t (nth t.goal k))]])) :: (94, .o 192) :: cp24E t k) ((5, .box [.o 191, .o 192, .o 193]) :: (191, .own 1 22 ((gRows t k).map fun r => [ints r])) :: (192, .own 1 3 ((gBnds t k).map fun n => [D.v (.int .i64 n)])) :: cp24M t k) ?_ (fun h_69 => ?_)
          ·refine .st [4, 7] ⟨?_, ?_, trivial⟩
           ·refine ⟨_, rfl, ?_⟩
            refine .ap es37 el37 zc22 by22 ?_; exact TrL.join h_79 rfl (.sl <| .sl <| .sl <| .sl <| .sl <| .sl <| .sl <| .sl <| .sl <| .sl <| .sl <| .mem rfl <| .memEq rfl (by rw [grs_s hk, List.map_append]; rfl) <| .mem rfl <| .mem rfl <| .mem rfl <| .mem rfl <| .mem rfl <| .nil)
           ·refine ⟨_, rfl, ?_⟩
            refine .m ?_; exact .j h_82
          refine .share 8 [Tt, Tt, Tt, Tt, Ff, Tt, Ff, Tt, Ff, Ff, Ff, Ff, Ff, Ff] ((89, .o 191) :: (91, .d (.s 1 [[ints (gRow t (nth t.goal k))]])) :: (93, .r 5 1) :: (95, I ((gBnd t (nth t.goal k)))) :: cp24E t k) ((5, .box [.o 191, .o 192, .o 193]) :: (191, .own 1 22 ((gRows t k).map fun r => [ints r])) :: (192, .own 1 3 ((gBnds t k).map fun n => [D.v (.int .i64 n)])) :: cp24M t k) ?_ (fun h_70 => ?_)
          ·refine .st [4, 6, 8] ⟨?_, ?_, ?_, trivial⟩
           ·refine ⟨_, rfl, ?_⟩
            refine .ap es37 el37 zc22 by22 ?_; exact TrL.join h_80 rfl (.sl <| .sl <| .sl <| .sl <| .sl <| .sl <| .sl <| .sl <| .sl <| .sl <| .sl <| .sl <| .mem rfl <| .memEq rfl (by rw [grs_s hk, List.map_append]; rfl) <| .mem rfl <| .mem rfl <| .mem rfl <| .mem rfl <| .mem rfl <| .nil)
           ·refine ⟨_, rfl, ?_⟩
            refine .x (.l vs22) ?_; exact .j h_82
           ·refine ⟨_, rfl, ?_⟩
            refine .x (.bs es22 ze22) ?_; exact .j h_83
          refine .share 8 [Tt, Tt, Tt, Tt, Ff, Ff, Ff, Tt, Tt, Ff, Ff, Ff, Ff, Ff] ((89, .o 191) :: (91, .d (.s 1 [[ints (gRow t (nth t.goal k))]])) :: (96, .d (.s 1 [[.v (.int .i64 (gBnd t (nth t.goal k)))]])) :: cp24E t k) ((5, .box [.o 191, .o 192, .o 193]) :: (191, .own 1 22 ((gRows t k).map fun r => [ints r])) :: (192, .own 1 3 ((gBnds t k).map fun n => [D.v (.int .i64 n)])) :: cp24M t k) ?_ (fun h_71 => ?_)
          ·refine .st [4, 5] ⟨?_, ?_, trivial⟩
           ·refine ⟨_, rfl, ?_⟩
            refine .ap es37 el37 zc22 by22 ?_; exact TrL.join h_81 rfl (.sl <| .sl <| .sl <| .sl <| .sl <| .sl <| .sl <| .sl <| .sl <| .sl <| .sl <| .mem rfl <| .memEq rfl (by rw [grs_s hk, List.map_append]; rfl) <| .mem rfl <| .mem rfl <| .mem rfl <| .mem rfl <| .mem rfl <| .nil)
           ·refine ⟨_, rfl, ?_⟩
            refine .x (.f fo39_1) ?_; exact .j h_83
          refine .share 8 [Tt, Tt, Tt, Ff, Ff, Tt, Tt, Tt, Ff, Ff, Ff, Ff, Ff, Ff] ((89, .o 191) :: (90, .d (ints (gRow t (nth t.goal k)))) :: (94, .o 192) :: (95, I ((gBnd t (nth t.goal k)))) :: cp24E t k) ((5, .box [.o 191, .o 192, .o 193]) :: (191, .own 1 22 ((gRows t k).map fun r => [ints r])) :: (192, .own 1 3 ((gBnds t k).map fun n => [D.v (.int .i64 n)])) :: cp24M t k) ?_ (fun h_72 => ?_)
          ·refine .st [3, 8] ⟨?_, ?_, trivial⟩
           ·refine ⟨_, rfl, ?_⟩
            refine .x (.bs es37 ze37) ?_; exact .j h_82
           ·refine ⟨_, rfl, ?_⟩
            refine .x (.bs es22 ze22) ?_; exact .j h_84
          refine .share 8 [Tt, Tt, Tt, Ff, Ff, Tt, Ff, Tt, Tt, Ff, Ff, Ff, Ff, Ff] ((89, .o 191) :: (90, .d (ints (gRow t (nth t.goal k)))) :: (93, .r 5 1) :: (96, .d (.s 1 [[.v (.int .i64 (gBnd t (nth t.goal k)))]])) :: cp24E t k) ((5, .box [.o 191, .o 192, .o 193]) :: (191, .own 1 22 ((gRows t k).map fun r => [ints r])) :: (192, .own 1 3 ((gBnds t k).map fun n => [D.v (.int .i64 n)])) :: cp24M t k) ?_ (fun h_73 => ?_)
          ·refine .st [3, 6] ⟨?_, ?_, trivial⟩
           ·refine ⟨_, rfl, ?_⟩
            refine .x (.bs es37 ze37) ?_; exact .j h_83
           ·refine ⟨_, rfl, ?_⟩
            refine .x (.l vs22) ?_; exact .j h_84
          refine .share 8 [Tt, Tt, Ff, Ff, Ff, Tt, Tt, Tt, Tt, Ff, Ff, Ff, Ff, Ff] ((89, .o 191) :: (94, .o 192) :: (96, .d (.s 1 [[.v (.int .i64 (gBnd t (nth t.goal k)))]])) :: cp24E t k) ((5, .box [.o 191, .o 192, .o 193]) :: (191, .own 1 22 ((gRows t k).map fun r => [ints r])) :: (192, .own 1 3 ((gBnds t k).map fun n => [D.v (.int .i64 n)])) :: cp24M t k) ?_ (fun h_74 => ?_)
          ·refine .st [2] ⟨?_, trivial⟩
           ·refine ⟨_, rfl, ?_⟩
            refine .m ?_; exact .j h_84
          refine .share 8 [Tt, Ff, Tt, Tt, Ff, Tt, Tt, Tt, Ff, Ff, Ff, Ff, Ff, Ff] ((88, .r 5 0) :: (91, .d (.s 1 [[ints (gRow t (nth t.goal k))]])) :: (94, .o 192) :: (95, I ((gBnd t (nth t.goal k)))) :: cp24E t k) ((5, .box [.o 191, .o 192, .o 193]) :: (191, .own 1 22 ((gRows t k).map fun r => [ints r])) :: (192, .own 1 3 ((gBnds t k).map fun n => [D.v (.int .i64 n)])) :: cp24M t k) ?_ (fun h_75 => ?_)
          ·refine .st [1, 8] ⟨?_, ?_, trivial⟩
           ·refine ⟨_, rfl, ?_⟩
            refine .x (.l vs37) ?_; exact .j h_82
           ·refine ⟨_, rfl, ?_⟩
            refine .x (.bs es22 ze22) ?_; exact .j h_85
          refine .share 8 [Tt, Ff, Tt, Tt, Ff, Tt, Ff, Tt, Tt, Ff, Ff, Ff, Ff, Ff] ((88, .r 5 0) :: (91, .d (.s 1 [[ints (gRow t (nth t.goal k))]])) :: (93, .r 5 1) :: (96, .d (.s 1 [[.v (.int .i64 (gBnd t (nth t.goal k)))]])) :: cp24E t k) ((5, .box [.o 191, .o 192, .o 193]) :: (191, .own 1 22 ((gRows t k).map fun r => [ints r])) :: (192, .own 1 3 ((gBnds t k).map fun n => [D.v (.int .i64 n)])) :: cp24M t k) ?_ (fun h_76 => ?_)
          ·refine .st [1, 6] ⟨?_, ?_, trivial⟩
           ·refine ⟨_, rfl, ?_⟩
            refine .x (.l vs37) ?_; exact .j h_83
           ·refine ⟨_, rfl, ?_⟩
            refine .x (.l vs22) ?_; exact .j h_85
          refine .share 8 [Tt, Ff, Tt, Ff, Ff, Tt, Tt, Tt, Tt, Ff, Ff, Ff, Ff, Ff] ((88, .r 5 0) :: (90, .d (ints (gRow t (nth t.goal k)))) :: (94, .o 192) :: (96, .d (.s 1 [[.v (.int .i64 (gBnd t (nth t.goal k)))]])) :: cp24E t k) ((5, .box [.o 191, .o 192, .o 193]) :: (191, .own 1 22 ((gRows t k).map fun r => [ints r])) :: (192, .own 1 3 ((gBnds t k).map fun n => [D.v (.int .i64 n)])) :: cp24M t k) ?_ (fun h_77 => ?_)
          ·refine .st [1, 3] ⟨?_, ?_, trivial⟩
           ·refine ⟨_, rfl, ?_⟩
            refine .x (.l vs37) ?_; exact .j h_84
           ·refine ⟨_, rfl, ?_⟩
            refine .x (.bs es37 ze37) ?_; exact .j h_85
          refine .share 8 [Ff, Ff, Tt, Tt, Ff, Tt, Tt, Tt, Tt, Ff, Ff, Ff, Ff, Ff] ((91, .d (.s 1 [[ints (gRow t (nth t.goal k))]])) :: (94, .o 192) :: (96, .d (.s 1 [[.v (.int .i64 (gBnd t (nth t.goal k)))]])) :: cp24E t k) ((5, .box [.o 191, .o 192, .o 193]) :: (191, .own 1 22 ((gRows t k).map fun r => [ints r])) :: (192, .own 1 3 ((gBnds t k).map fun n => [D.v (.int .i64 n)])) :: cp24M t k) ?_ (fun h_78 => ?_)
          ·refine .st [0] ⟨?_, trivial⟩
           ·refine ⟨_, rfl, ?_⟩
            refine .x (.f fo39_0) ?_; exact .j h_85
          refine .share 9 [Tt, Tt, Tt, Tt, Tt, Ff, Ff, Ff, Ff, Ff, Ff, Ff, Ff, Ff] ((92, .o 191) :: cp24E t k) ((5, .box [.u, .o 192, .o 193]) :: (191, .own 1 22 ((gRows t (k + 1)).map fun r => [ints r])) :: (192, .own 1 3 ((gBnds t k).map fun n => [D.v (.int .i64 n)])) :: cp24M t k) ?_ (fun h_50 => ?_)
          ·refine .st [5, 7] ⟨?_, ?_, trivial⟩
           ·refine ⟨_, rfl, ?_⟩
            refine .x (.f fo39_1) ?_; exact .j h_67
           ·refine ⟨_, rfl, ?_⟩
            refine .m ?_; exact .j h_68
          refine .share 9 [Tt, Tt, Tt, Tt, Ff, Tt, Ff, Ff, Ff, Ff, Ff, Ff, Ff, Ff] ((89, .o 191) :: (91, .d (.s 1 [[ints (gRow t (nth t.goal k))]])) :: (93, .r 5 1) :: cp24E t k) ((5, .box [.o 191, .o 192, .o 193]) :: (191, .own 1 22 ((gRows t k).map fun r => [ints r])) :: (192, .own 1 3 ((gBnds t k).map fun n => [D.v (.int .i64 n)])) :: cp24M t k) ?_ (fun h_51 => ?_)
          ·refine .st [4, 6, 7] ⟨?_, ?_, ?_, trivial⟩
           ·refine ⟨_, rfl, ?_⟩
            refine .ap es37 el37 zc22 by22 ?_; exact TrL.join h_67 rfl (.sl <| .sl <| .sl <| .sl <| .sl <| .sl <| .sl <| .sl <| .sl <| .sl <| .sl <| .mem rfl <| .memEq rfl (by rw [grs_s hk, List.map_append]; rfl) <| .mem rfl <| .mem rfl <| .mem rfl <| .mem rfl <| .mem rfl <| .nil)
           ·refine ⟨_, rfl, ?_⟩
            refine .x (.l vs22) ?_; exact .j h_69
           ·refine ⟨_, rfl, ?_⟩
            refine .m ?_; exact .j h_70
          refine .share 9 [Tt, Tt, Tt, Tt, Ff, Ff, Ff, Tt, Ff, Ff, Ff, Ff, Ff, Ff] ((89, .o 191) :: (91, .d (.s 1 [[ints (gRow t (nth t.goal k))]])) :: (95, I ((gBnd t (nth t.goal k)))) :: cp24E t k) ((5, .box [.o 191, .o 192, .o 193]) :: (191, .own 1 22 ((gRows t k).map fun r => [ints r])) :: (192, .own 1 3 ((gBnds t k).map fun n => [D.v (.int .i64 n)])) :: cp24M t k) ?_ (fun h_52 => ?_)
          ·refine .st [4, 5, 8] ⟨?_, ?_, ?_, trivial⟩
           ·refine ⟨_, rfl, ?_⟩
            refine .ap es37 el37 zc22 by22 ?_; exact TrL.join h_68 rfl (.sl <| .sl <| .sl <| .sl <| .sl <| .sl <| .sl <| .sl <| .sl <| .sl <| .sl <| .mem rfl <| .memEq rfl (by rw [grs_s hk, List.map_append]; rfl) <| .mem rfl <| .mem rfl <| .mem rfl <| .mem rfl <| .mem rfl <| .nil)
           ·refine ⟨_, rfl, ?_⟩
            refine .x (.f fo39_1) ?_; exact .j h_70
           ·refine ⟨_, rfl, ?_⟩
            refine .x (.bs es22 ze22) ?_; exact .j h_71
          refine .share 9 [Tt, Tt, Tt, Ff, Ff, Tt, Tt, Ff, Ff, Ff, Ff, Ff, Ff, Ff] ((89, .o 191) :: (90, .d (ints (gRow t (nth t.goal k)))) :: (94, .o 192) :: cp24E t k) ((5, .box [.o 191, .o 192, .o 193]) :: (191, .own 1 22 ((gRows t k).map fun r => [ints r])) :: (192, .own 1 3 ((gBnds t k).map fun n => [D.v (.int .i64 n)])) :: cp24M t k) ?_ (fun h_53 => ?_)
          ·refine .st [3, 7] ⟨?_, ?_, trivial⟩
           ·refine ⟨_, rfl, ?_⟩
            refine .x (.bs es37 ze37) ?_; exact .j h_69
           ·refine ⟨_, rfl, ?_⟩
            refine .m ?_; exact .j h_72
          refine .share 9 [Tt, Tt, Tt, Ff, Ff, Tt, Ff, Tt, Ff, Ff, Ff, Ff, Ff, Ff] ((89, .o 191) :: (90, .d (ints (gRow t (nth t.goal k)))) :: (93, .r 5 1) :: (95, I ((gBnd t (nth t.goal k)))) :: cp24E t k) ((5, .box [.o 191, .o 192, .o 193]) :: (191, .own 1 22 ((gRows t k).map fun r => [ints r])) :: (192, .own 1 3 ((gBnds t k).map fun n => [D.v (.int .i64 n)])) :: cp24M t k) ?_ (fun h_54 => ?_)
          ·refine .st [3, 6, 8] ⟨?_, ?_, ?_, trivial⟩
           ·refine ⟨_, rfl, ?_⟩
            refine .x (.bs es37 ze37) ?_; exact .j h_70
           ·refine ⟨_, rfl, ?_⟩
            refine .x (.l vs22) ?_; exact .j h_72
           ·refine ⟨_, rfl, ?_⟩
            refine .x (.bs es22 ze22) ?_; exact .j h_73
          refine .share 9 [Tt, Tt, Tt, Ff, Ff, Ff, Ff, Tt, Tt, Ff, Ff, Ff, Ff, Ff] ((89, .o 191) :: (90, .d (ints (gRow t (nth t.goal k)))) :: (96, .d (.s 1 [[.v (.int .i64 (gBnd t (nth t.goal k)))]])) :: cp24E t k) ((5, .box [.o 191, .o 192, .o 193]) :: (191, .own 1 22 ((gRows t k).map fun r => [ints r])) :: (192, .own 1 3 ((gBnds t k).map fun n => [D.v (.int .i64 n)])) :: cp24M t k) ?_ (fun h_55 => ?_)
          ·refine .st [3, 5] ⟨?_, ?_, trivial⟩
           ·refine ⟨_, rfl, ?_⟩
            refine .x (.bs es37 ze37) ?_; exact .j h_71
           ·refine ⟨_, rfl, ?_⟩
            refine .x (.f fo39_1) ?_; exact .j h_73
          refine .share 9 [Tt, Tt, Ff, Ff, Ff, Tt, Tt, Tt, Ff, Ff, Ff, Ff, Ff, Ff] ((89, .o 191) :: (94, .o 192) :: (95, I ((gBnd t (nth t.goal k)))) :: cp24E t k) ((5, .box [.o 191, .o 192, .o 193]) :: (191, .own 1 22 ((gRows t k).map fun r => [ints r])) :: (192, .own 1 3 ((gBnds t k).map fun n => [D.v (.int .i64 n)])) :: cp24M t k) ?_ (fun h_56 => ?_)
          ·refine .st [2, 8] ⟨?_, ?_, trivial⟩
           ·refine ⟨_, rfl, ?_⟩
            refine .m ?_; exact .j h_72
           ·refine ⟨_, rfl, ?_⟩
            refine .x (.bs es22 ze22) ?_; exact .j h_74
          refine .share 9 [Tt, Tt, Ff, Ff, Ff, Tt, Ff, Tt, Tt, Ff, Ff, Ff, Ff, Ff] ((89, .o 191) :: (93, .r 5 1) :: (96, .d (.s 1 [[.v (.int .i64 (gBnd t (nth t.goal k)))]])) :: cp24E t k) ((5, .box [.o 191, .o 192, .o 193]) :: (191, .own 1 22 ((gRows t k).map fun r => [ints r])) :: (192, .own 1 3 ((gBnds t k).map fun n => [D.v (.int .i64 n)])) :: cp24M t k) ?_ (fun h_57 => ?_)
          ·refine .st [2, 6] ⟨?_, ?_, trivial⟩
           ·refine ⟨_, rfl, ?_⟩
            refine .m ?_; exact .j h_73
           ·refine ⟨_, rfl, ?_⟩
            refine .x (.l vs22) ?_; exact .j h_74
          refine .share 9 [Tt, Ff, Tt, Tt, Ff, Tt, Tt, Ff, Ff, Ff, Ff, Ff, Ff, Ff] ((88, .r 5 0) :: (91, .d (.s 1 [[ints (gRow t (nth t.goal k))]])) :: (94, .o 192) :: cp24E t k) ((5, .box [.o 191, .o 192, .o 193]) :: (191, .own 1 22 ((gRows t k).map fun r => [ints r])) :: (192, .own 1 3 ((gBnds t k).map fun n => [D.v (.int .i64 n)])) :: cp24M t k) ?_ (fun h_58 => ?_)
          ·refine .st [1, 7] ⟨?_, ?_, trivial⟩
           ·refine ⟨_, rfl, ?_⟩
            refine .x (.l vs37) ?_; exact .j h_69
           ·refine ⟨_, rfl, ?_⟩
            refine .m ?_; exact .j h_75
          refine .share 9 [Tt, Ff, Tt, Tt, Ff, Tt, Ff, Tt, Ff, Ff, Ff, Ff, Ff, Ff] ((88, .r 5 0) :: (91, .d (.s 1 [[ints (gRow t (nth t.goal k))]])) :: (93, .r 5 1) :: (95, I ((gBnd t (nth t.goal k)))) :: cp24E t k) ((5, .box [.o 191, .o 192, .o 193]) :: (191, .own 1 22 ((gRows t k).map fun r => [ints r])) :: (192, .own 1 3 ((gBnds t k).map fun n => [D.v (.int .i64 n)])) :: cp24M t k) ?_ (fun h_59 => ?_)
          ·refine .st [1, 6, 8] ⟨?_, ?_, ?_, trivial⟩
           ·refine ⟨_, rfl, ?_⟩
            refine .x (.l vs37) ?_; exact .j h_70
           ·refine ⟨_, rfl, ?_⟩
            refine .x (.l vs22) ?_; exact .j h_75
           ·refine ⟨_, rfl, ?_⟩
            refine .x (.bs es22 ze22) ?_; exact .j h_76
          refine .share 9 [Tt, Ff, Tt, Tt, Ff, Ff, Ff, Tt, Tt, Ff, Ff, Ff, Ff, Ff] ((88, .r 5 0) :: (91, .d (.s 1 [[ints (gRow t (nth t.goal k))]])) :: (96, .d (.s 1 [[.v (.int .i64 (gBnd t (nth t.goal k)))]])) :: cp24E t k) ((5, .box [.o 191, .o 192, .o 193]) :: (191, .own 1 22 ((gRows t k).map fun r => [ints r])) :: (192, .own 1 3 ((gBnds t k).map fun n => [D.v (.int .i64 n)])) :: cp24M t k) ?_ (fun h_60 => ?_)
          ·refine .st [1, 5] ⟨?_, ?_, trivial⟩
           ·refine ⟨_, rfl, ?_⟩
            refine .x (.l vs37) ?_; exact .j h_71
           ·refine ⟨_, rfl, ?_⟩
            refine .x (.f fo39_1) ?_; exact .j h_76
          refine .share 9 [Tt, Ff, Tt, Ff, Ff, Tt, Tt, Tt, Ff, Ff, Ff, Ff, Ff, Ff] ((88, .r 5 0) :: (90, .d (ints (gRow t (nth t.goal k)))) :: (94, .o 192) :: (95, I ((gBnd t (nth t.goal k)))) :: cp24E t k) ((5, .box [.o 191, .o 192, .o 193]) :: (191, .own 1 22 ((gRows t k).map fun r => [ints r])) :: (192, .own 1 3 ((gBnds t k).map fun n => [D.v (.int .i64 n)])) :: cp24M t k) ?_ (fun h_61 => ?_)
          ·refine .st [1, 3, 8] ⟨?_, ?_, ?_, trivial⟩
           ·refine ⟨_, rfl, ?_⟩
            refine .x (.l vs37) ?_; exact .j h_72
           ·refine ⟨_, rfl, ?_⟩
            refine .x (.bs es37 ze37) ?_; exact .j h_75
           ·refine ⟨_, rfl, ?_⟩
            refine .x (.bs es22 ze22) ?_; exact .j h_77
          refine .share 9 [Tt, Ff, Tt, Ff, Ff, Tt, Ff, Tt, Tt, Ff, Ff, Ff, Ff, Ff] ((88, .r 5 0) :: (90, .d (ints (gRow t (nth t.goal k)))) :: (93, .r 5 1) :: (96, .d (.s 1 [[.v (.int .i64 (gBnd t (nth t.goal k)))]])) :: cp24E t k) ((5, .box [.o 191, .o 192, .o 193]) :: (191, .own 1 22 ((gRows t k).map fun r => [ints r])) :: (192, .own 1 3 ((gBnds t k).map fun n => [D.v (.int .i64 n)])) :: cp24M t k) ?_ (fun h_62 => ?_)
          ·refine .st [1, 3, 6] ⟨?_, ?_, ?_, trivial⟩
           ·refine ⟨_, rfl, ?_⟩
            refine .x (.l vs37) ?_; exact .j h_73
           ·refine ⟨_, rfl, ?_⟩
            refine .x (.bs es37 ze37) ?_; exact .j h_76
           ·refine ⟨_, rfl, ?_⟩
            refine .x (.l vs22) ?_; exact .j h_77
          refine .share 9 [Tt, Ff, Ff, Ff, Ff, Tt, Tt, Tt, Tt, Ff, Ff, Ff, Ff, Ff] ((88, .r 5 0) :: (94, .o 192) :: (96, .d (.s 1 [[.v (.int .i64 (gBnd t (nth t.goal k)))]])) :: cp24E t k) ((5, .box [.o 191, .o 192, .o 193]) :: (191, .own 1 22 ((gRows t k).map fun r => [ints r])) :: (192, .own 1 3 ((gBnds t k).map fun n => [D.v (.int .i64 n)])) :: cp24M t k) ?_ (fun h_63 => ?_)
          ·refine .st [1, 2] ⟨?_, ?_, trivial⟩
           ·refine ⟨_, rfl, ?_⟩
            refine .x (.l vs37) ?_; exact .j h_74
           ·refine ⟨_, rfl, ?_⟩
            refine .m ?_; exact .j h_77
          refine .share 9 [Ff, Ff, Tt, Tt, Ff, Tt, Tt, Tt, Ff, Ff, Ff, Ff, Ff, Ff] ((91, .d (.s 1 [[ints (gRow t (nth t.goal k))]])) :: (94, .o 192) :: (95, I ((gBnd t (nth t.goal k)))) :: cp24E t k) ((5, .box [.o 191, .o 192, .o 193]) :: (191, .own 1 22 ((gRows t k).map fun r => [ints r])) :: (192, .own 1 3 ((gBnds t k).map fun n => [D.v (.int .i64 n)])) :: cp24M t k) ?_ (fun h_64 => ?_)
          ·refine .st [0, 8] ⟨?_, ?_, trivial⟩
           ·refine ⟨_, rfl, ?_⟩
            refine .x (.f fo39_0) ?_; exact .j h_75
           ·refine ⟨_, rfl, ?_⟩
            refine .x (.bs es22 ze22) ?_; exact .j h_78
          refine .share 9 [Ff, Ff, Tt, Tt, Ff, Tt, Ff, Tt, Tt, Ff, Ff, Ff, Ff, Ff] ((91, .d (.s 1 [[ints (gRow t (nth t.goal k))]])) :: (93, .r 5 1) :: (96, .d (.s 1 [[.v (.int .i64 (gBnd t (nth t.goal k)))]])) :: cp24E t k) ((5, .box [.o 191, .o 192, .o 193]) :: (191, .own 1 22 ((gRows t k).map fun r => [ints r])) :: (192, .own 1 3 ((gBnds t k).map fun n => [D.v (.int .i64 n)])) :: cp24M t k) ?_ (fun h_65 => ?_)
          ·refine .st [0, 6] ⟨?_, ?_, trivial⟩
           ·refine ⟨_, rfl, ?_⟩
            refine .x (.f fo39_0) ?_; exact .j h_76
           ·refine ⟨_, rfl, ?_⟩
            refine .x (.l vs22) ?_; exact .j h_78
          refine .share 9 [Ff, Ff, Tt, Ff, Ff, Tt, Tt, Tt, Tt, Ff, Ff, Ff, Ff, Ff] ((90, .d (ints (gRow t (nth t.goal k)))) :: (94, .o 192) :: (96, .d (.s 1 [[.v (.int .i64 (gBnd t (nth t.goal k)))]])) :: cp24E t k) ((5, .box [.o 191, .o 192, .o 193]) :: (191, .own 1 22 ((gRows t k).map fun r => [ints r])) :: (192, .own 1 3 ((gBnds t k).map fun n => [D.v (.int .i64 n)])) :: cp24M t k) ?_ (fun h_66 => ?_)
          ·refine .st [0, 3] ⟨?_, ?_, trivial⟩
           ·refine ⟨_, rfl, ?_⟩
            refine .x (.f fo39_0) ?_; exact .j h_77
           ·refine ⟨_, rfl, ?_⟩
            refine .x (.bs es37 ze37) ?_; exact .j h_78
          refine .share 10 [Tt, Tt, Tt, Tt, Ff, Ff, Ff, Ff, Ff, Ff, Ff, Ff, Ff, Ff] ((89, .o 191) :: (91, .d (.s 1 [[ints (gRow t (nth t.goal k))]])) :: cp24E t k) ((5, .box [.o 191, .o 192, .o 193]) :: (191, .own 1 22 ((gRows t k).map fun r => [ints r])) :: (192, .own 1 3 ((gBnds t k).map fun n => [D.v (.int .i64 n)])) :: cp24M t k) ?_ (fun h_31 => ?_)
          ·refine .st [4, 5, 7] ⟨?_, ?_, ?_, trivial⟩
           ·refine ⟨_, rfl, ?_⟩
            refine .ap es37 el37 zc22 by22 ?_; exact TrL.join h_50 rfl (.sl <| .sl <| .sl <| .sl <| .sl <| .sl <| .sl <| .sl <| .sl <| .sl <| .mem rfl <| .memEq rfl (by rw [grs_s hk, List.map_append]; rfl) <| .mem rfl <| .mem rfl <| .mem rfl <| .mem rfl <| .mem rfl <| .nil)
           ·refine ⟨_, rfl, ?_⟩
            refine .x (.f fo39_1) ?_; exact .j h_51
           ·refine ⟨_, rfl, ?_⟩
            refine .m ?_; exact .j h_52
          refine .share 10 [Tt, Tt, Tt, Ff, Ff, Tt, Ff, Ff, Ff, Ff, Ff, Ff, Ff, Ff] ((89, .o 191) :: (90, .d (ints (gRow t (nth t.goal k)))) :: (93, .r 5 1) :: cp24E t k) ((5, .box [.o 191, .o 192, .o 193]) :: (191, .own 1 22 ((gRows t k).map fun r => [ints r])) :: (192, .own 1 3 ((gBnds t k).map fun n => [D.v (.int .i64 n)])) :: cp24M t k) ?_ (fun h_32 => ?_)
          ·refine .st [3, 6, 7] ⟨?_, ?_, ?_, trivial⟩
           ·refine ⟨_, rfl, ?_⟩
            refine .x (.bs es37 ze37) ?_; exact .j h_51
           ·refine ⟨_, rfl, ?_⟩
            refine .x (.l vs22) ?_; exact .j h_53
           ·refine ⟨_, rfl, ?_⟩
            refine .m ?_; exact .j h_54
          refine .share 10 [Tt, Tt, Tt, Ff, Ff, Ff, Ff, Tt, Ff, Ff, Ff, Ff, Ff, Ff] ((89, .o 191) :: (90, .d (ints (gRow t (nth t.goal k)))) :: (95, I ((gBnd t (nth t.goal k)))) :: cp24E t k) ((5, .box [.o 191, .o 192, .o 193]) :: (191, .own 1 22 ((gRows t k).map fun r => [ints r])) :: (192, .own 1 3 ((gBnds t k).map fun n => [D.v (.int .i64 n)])) :: cp24M t k) ?_ (fun h_33 => ?_)
          ·refine .st [3, 5, 8] ⟨?_, ?_, ?_, trivial⟩
           ·refine ⟨_, rfl, ?_⟩
            refine .x (.bs es37 ze37) ?_; exact .j h_52
           ·refine ⟨_, rfl, ?_⟩
            refine .x (.f fo39_1) ?_; exact .j h_54
           ·refine ⟨_, rfl, ?_⟩
            refine .x (.bs es22 ze22) ?_; exact .j h_55
          refine .share 10 [Tt, Tt, Ff, Ff, Ff, Tt, Tt, Ff, Ff, Ff, Ff, Ff, Ff, Ff] ((89, .o 191) :: (94, .o 192) :: cp24E t k) ((5, .box [.o 191, .o 192, .o 193]) :: (191, .own 1 22 ((gRows t k).map fun r => [ints r])) :: (192, .own 1 3 ((gBnds t k).map fun n => [D.v (.int .i64 n)])) :: cp24M t k) ?_ (fun h_34 => ?_)
          ·refine .st [2, 7] ⟨?_, ?_, trivial⟩
           ·refine ⟨_, rfl, ?_⟩
            refine .m ?_; exact .j h_53
           ·refine ⟨_, rfl, ?_⟩
            refine .m ?_; exact .j h_56
          refine .share 10 [Tt, Tt, Ff, Ff, Ff, Tt, Ff, Tt, Ff, Ff, Ff, Ff, Ff, Ff] ((89, .o 191) :: (93, .r 5 1) :: (95, I ((gBnd t (nth t.goal k)))) :: cp24E t k) ((5, .box [.o 191, .o 192, .o 193]) :: (191, .own 1 22 ((gRows t k).map fun r => [ints r])) :: (192, .own 1 3 ((gBnds t k).map fun n => [D.v (.int .i64 n)])) :: cp24M t k) ?_ (fun h_35 => ?_)
          ·refine .st [2, 6, 8] ⟨?_, ?_, ?_, trivial⟩
           ·refine ⟨_, rfl, ?_⟩
            refine .m ?_; exact .j h_54
           ·refine ⟨_, rfl, ?_⟩
            refine .x (.l vs22) ?_; exact .j h_56
           ·refine ⟨_, rfl, ?_⟩
            refine .x (.bs es22 ze22) ?_; exact .j h_57
          refine .share 10 [Tt, Tt, Ff, Ff, Ff, Ff, Ff, Tt, Tt, Ff, Ff, Ff, Ff, Ff] ((89, .o 191) :: (96, .d (.s 1 [[.v (.int .i64 (gBnd t (nth t.goal k)))]])) :: cp24E t k) ((5, .box [.o 191, .o 192, .o 193]) :: (191, .own 1 22 ((gRows t k).map fun r => [ints r])) :: (192, .own 1 3 ((gBnds t k).map fun n => [D.v (.int .i64 n)])) :: cp24M t k) ?_ (fun h_36 => ?_)
          ·refine .st [2, 5] ⟨?_, ?_, trivial⟩
           ·refine ⟨_, rfl, ?_⟩
            refine .m ?_; exact .j h_55
           ·refine ⟨_, rfl, ?_⟩
            refine .x (.f fo39_1) ?_; exact .j h_57
          refine .share 10 [Tt, Ff, Tt, Tt, Ff, Tt, Ff, Ff, Ff, Ff, Ff, Ff, Ff, Ff] ((88, .r 5 0) :: (91, .d (.s 1 [[ints (gRow t (nth t.goal k))]])) :: (93, .r 5 1) :: cp24E t k) ((5, .box [.o 191, .o 192, .o 193]) :: (191, .own 1 22 ((gRows t k).map fun r => [ints r])) :: (192, .own 1 3 ((gBnds t k).map fun n => [D.v (.int .i64 n)])) :: cp24M t k) ?_ (fun h_37 => ?_)
          ·refine .st [1, 6, 7] ⟨?_, ?_, ?_, trivial⟩
           ·refine ⟨_, rfl, ?_⟩
            refine .x (.l vs37) ?_; exact .j h_51
           ·refine ⟨_, rfl, ?_⟩
            refine .x (.l vs22) ?_; exact .j h_58
           ·refine ⟨_, rfl, ?_⟩
            refine .m ?_; exact .j h_59
          refine .share 10 [Tt, Ff, Tt, Tt, Ff, Ff, Ff, Tt, Ff, Ff, Ff, Ff, Ff, Ff] ((88, .r 5 0) :: (91, .d (.s 1 [[ints (gRow t (nth t.goal k))]])) :: (95, I ((gBnd t (nth t.goal k)))) :: cp24E t k) ((5, .box [.o 191, .o 192, .o 193]) :: (191, .own 1 22 ((gRows t k).map fun r => [ints r])) :: (192, .own 1 3 ((gBnds t k).map fun n => [D.v (.int .i64 n)])) :: cp24M t k) ?_ (fun h_38 => ?_)
          ·refine .st [1, 5, 8] ⟨?_, ?_, ?_, trivial⟩
           ·refine ⟨_, rfl, ?_⟩
            refine .x (.l vs37) ?_; exact .j h_52
           ·refine ⟨_, rfl, ?_⟩
            refine .x (.f fo39_1) ?_; exact .j h_59
           ·refine ⟨_, rfl, ?_⟩
            refine .x (.bs es22 ze22) ?_; exact .j h_60
          refine .share 10 [Tt, Ff, Tt, Ff, Ff, Tt, Tt, Ff, Ff, Ff, Ff, Ff, Ff, Ff] ((88, .r 5 0) :: (90, .d (ints (gRow t (nth t.goal k)))) :: (94, .o 192) :: cp24E t k) ((5, .box [.o 191, .o 192, .o 193]) :: (191, .own 1 22 ((gRows t k).map fun r => [ints r])) :: (192, .own 1 3 ((gBnds t k).map fun n => [D.v (.int .i64 n)])) :: cp24M t k) ?_ (fun h_39 => ?_)
          ·refine .st [1, 3, 7] ⟨?_, ?_, ?_, trivial⟩
           ·refine ⟨_, rfl, ?_⟩
            refine .x (.l vs37) ?_; exact .j h_53
           ·refine ⟨_, rfl, ?_⟩
            refine .x (.bs es37 ze37) ?_; exact .j h_58
           ·refine ⟨_, rfl, ?_⟩
            refine .m ?_; exact .j h_61
          refine .share 10 [Tt, Ff, Tt, Ff, Ff, Tt, Ff, Tt, Ff, Ff, Ff, Ff, Ff, Ff] ((88, .r 5 0) :: (90, .d (ints (gRow t (nth t.goal k)))) :: (93, .r 5 1) :: (95, I ((gBnd t (nth t.goal k)))) :: cp24E t k) ((5, .box [.o 191, .o 192, .o 193]) :: (191, .own 1 22 ((gRows t k).map fun r => [ints r])) :: (192, .own 1 3 ((gBnds t k).map fun n => [D.v (.int .i64 n)])) :: cp24M t k) ?_ (fun h_40 => ?_)
          ·refine .st [1, 3, 6, 8] ⟨?_, ?_, ?_, ?_, trivial⟩
           ·refine ⟨_, rfl, ?_⟩
            refine .x (.l vs37) ?_; exact .j h_54
           ·refine ⟨_, rfl, ?_⟩
            refine .x (.bs es37 ze37) ?_; exact .j h_59
           ·refine ⟨_, rfl, ?_⟩
            refine .x (.l vs22) ?_; exact .j h_61
           ·refine ⟨_, rfl, ?_⟩
            refine .x (.bs es22 ze22) ?_; exact .j h_62
          refine .share 10 [Tt, Ff, Tt, Ff, Ff, Ff, Ff, Tt, Tt, Ff, Ff, Ff, Ff, Ff] ((88, .r 5 0) :: (90, .d (ints (gRow t (nth t.goal k)))) :: (96, .d (.s 1 [[.v (.int .i64 (gBnd t (nth t.goal k)))]])) :: cp24E t k) ((5, .box [.o 191, .o 192, .o 193]) :: (191, .own 1 22 ((gRows t k).map fun r => [ints r])) :: (192, .own 1 3 ((gBnds t k).map fun n => [D.v (.int .i64 n)])) :: cp24M t k) ?_ (fun h_41 => ?_)
          ·refine .st [1, 3, 5] ⟨?_, ?_, ?_, trivial⟩
           ·refine ⟨_, rfl, ?_⟩
            refine .x (.l vs37) ?_; exact .j h_55
           ·refine ⟨_, rfl, ?_⟩
            refine .x (.bs es37 ze37) ?_; exact .j h_60
           ·refine ⟨_, rfl, ?_⟩
            refine .x (.f fo39_1) ?_; exact .j h_62
          refine .share 10 [Tt, Ff, Ff, Ff, Ff, Tt, Tt, Tt, Ff, Ff, Ff, Ff, Ff, Ff] ((88, .r 5 0) :: (94, .o 192) :: (95, I ((gBnd t (nth t.goal k)))) :: cp24E t k) ((5, .box [.o 191, .o 192, .o 193]) :: (191, .own 1 22 ((gRows t k).map fun r => [ints r])) :: (192, .own 1 3 ((gBnds t k).map fun n => [D.v (.int .i64 n)])) :: cp24M t k) ?_ (fun h_42 => ?_)
          ·refine .st [1, 2, 8] ⟨?_, ?_, ?_, trivial⟩
           ·refine ⟨_, rfl, ?_⟩
            refine .x (.l vs37) ?_; exact .j h_56
           ·refine ⟨_, rfl, ?_⟩
            refine .m ?_; exact .j h_61
           ·refine ⟨_, rfl, ?_⟩
            refine .x (.bs es22 ze22) ?_; exact .j h_63
          refine .share 10 [Tt, Ff, Ff, Ff, Ff, Tt, Ff, Tt, Tt, Ff, Ff, Ff, Ff, Ff] ((88, .r 5 0) :: (93, .r 5 1) :: (96, .d (.s 1 [[.v (.int .i64 (gBnd t (nth t.goal k)))]])) :: cp24E t k) ((5, .box [.o 191, .o 192, .o 193]) :: (191, .own 1 22 ((gRows t k).map fun r => [ints r])) :: (192, .own 1 3 ((gBnds t k).map fun n => [D.v (.int .i64 n)])) :: cp24M t k) ?_ (fun h_43 => ?_)
          ·refine .st [1, 2, 6] ⟨?_, ?_, ?_, trivial⟩
           ·refine ⟨_, rfl, ?_⟩
            refine .x (.l vs37) ?_; exact .j h_57
           ·refine ⟨_, rfl, ?_⟩
            refine .m ?_; exact .j h_62
           ·refine ⟨_, rfl, ?_⟩
            refine .x (.l vs22) ?_; exact .j h_63
          refine .share 10 [Ff, Ff, Tt, Tt, Ff, Tt, Tt, Ff, Ff, Ff, Ff, Ff, Ff, Ff] ((91, .d (.s 1 [[ints (gRow t (nth t.goal k))]])) :: (94, .o 192) :: cp24E t k) ((5, .box [.o 191, .o 192, .o 193]) :: (191, .own 1 22 ((gRows t k).map fun r => [ints r])) :: (192, .own 1 3 ((gBnds t k).map fun n => [D.v (.int .i64 n)])) :: cp24M t k) ?_ (fun h_44 => ?_)
          ·refine .st [0, 7] ⟨?_, ?_, trivial⟩
           ·refine ⟨_, rfl, ?_⟩
            refine .x (.f fo39_0) ?_; exact .j h_58
           ·refine ⟨_, rfl, ?_⟩
            refine .m ?_; exact .j h_64
          refine .share 10 [Ff, Ff, Tt, Tt, Ff, Tt, Ff, Tt, Ff, Ff, Ff, Ff, Ff, Ff] ((91, .d (.s 1 [[ints (gRow t (nth t.goal k))]])) :: (93, .r 5 1) :: (95, I ((gBnd t (nth t.goal k)))) :: cp24E t k) ((5, .box [.o 191, .o 192, .o 193]) :: (191, .own 1 22 ((gRows t k).map fun r => [ints r])) :: (192, .own 1 3 ((gBnds t k).map fun n => [D.v (.int .i64 n)])) :: cp24M t k) ?_ (fun h_45 => ?_)
          ·refine .st [0, 6, 8] ⟨?_, ?_, ?_, trivial⟩
           ·refine ⟨_, rfl, ?_⟩
            refine .x (.f fo39_0) ?_; exact .j h_59
           ·refine ⟨_, rfl, ?_⟩
            refine .x (.l vs22) ?_; exact .j h_64
           ·refine ⟨_, rfl, ?_⟩
            refine .x (.bs es22 ze22) ?_; exact .j h_65
          refine .share 10 [Ff, Ff, Tt, Tt, Ff, Ff, Ff, Tt, Tt, Ff, Ff, Ff, Ff, Ff] ((91, .d (.s 1 [[ints (gRow t (nth t.goal k))]])) :: (96, .d (.s 1 [[.v (.int .i64 (gBnd t (nth t.goal k)))]])) :: cp24E t k) ((5, .box [.o 191, .o 192, .o 193]) :: (191, .own 1 22 ((gRows t k).map fun r => [ints r])) :: (192, .own 1 3 ((gBnds t k).map fun n => [D.v (.int .i64 n)])) :: cp24M t k) ?_ (fun h_46 => ?_)
          ·refine .st [0, 5] ⟨?_, ?_, trivial⟩
           ·refine ⟨_, rfl, ?_⟩
            refine .x (.f fo39_0) ?_; exact .j h_60
           ·refine ⟨_, rfl, ?_⟩
            refine .x (.f fo39_1) ?_; exact .j h_65
          refine .share 10 [Ff, Ff, Tt, Ff, Ff, Tt, Tt, Tt, Ff, Ff, Ff, Ff, Ff, Ff] ((90, .d (ints (gRow t (nth t.goal k)))) :: (94, .o 192) :: (95, I ((gBnd t (nth t.goal k)))) :: cp24E t k) ((5, .box [.o 191, .o 192, .o 193]) :: (191, .own 1 22 ((gRows t k).map fun r => [ints r])) :: (192, .own 1 3 ((gBnds t k).map fun n => [D.v (.int .i64 n)])) :: cp24M t k) ?_ (fun h_47 => ?_)
          ·refine .st [0, 3, 8] ⟨?_, ?_, ?_, trivial⟩
           ·refine ⟨_, rfl, ?_⟩
            refine .x (.f fo39_0) ?_; exact .j h_61
           ·refine ⟨_, rfl, ?_⟩
            refine .x (.bs es37 ze37) ?_; exact .j h_64
           ·refine ⟨_, rfl, ?_⟩
            refine .x (.bs es22 ze22) ?_; exact .j h_66
          refine .share 10 [Ff, Ff, Tt, Ff, Ff, Tt, Ff, Tt, Tt, Ff, Ff, Ff, Ff, Ff] ((90, .d (ints (gRow t (nth t.goal k)))) :: (93, .r 5 1) :: (96, .d (.s 1 [[.v (.int .i64 (gBnd t (nth t.goal k)))]])) :: cp24E t k) ((5, .box [.o 191, .o 192, .o 193]) :: (191, .own 1 22 ((gRows t k).map fun r => [ints r])) :: (192, .own 1 3 ((gBnds t k).map fun n => [D.v (.int .i64 n)])) :: cp24M t k) ?_ (fun h_48 => ?_)
          ·refine .st [0, 3, 6] ⟨?_, ?_, ?_, trivial⟩
           ·refine ⟨_, rfl, ?_⟩
            refine .x (.f fo39_0) ?_; exact .j h_62
           ·refine ⟨_, rfl, ?_⟩
            refine .x (.bs es37 ze37) ?_; exact .j h_65
           ·refine ⟨_, rfl, ?_⟩
            refine .x (.l vs22) ?_; exact .j h_66
          refine .share 10 [Ff, Ff, Ff, Ff, Ff, Tt, Tt, Tt, Tt, Ff, Ff, Ff, Ff, Ff] ((94, .o 192) :: (96, .d (.s 1 [[.v (.int .i64 (gBnd t (nth t.goal k)))]])) :: cp24E t k) ((5, .box [.o 191, .o 192, .o 193]) :: (191, .own 1 22 ((gRows t k).map fun r => [ints r])) :: (192, .own 1 3 ((gBnds t k).map fun n => [D.v (.int .i64 n)])) :: cp24M t k) ?_ (fun h_49 => ?_)
          ·refine .st [0, 2] ⟨?_, ?_, trivial⟩
           ·refine ⟨_, rfl, ?_⟩
            refine .x (.f fo39_0) ?_; exact .j h_63
           ·refine ⟨_, rfl, ?_⟩
            refine .m ?_; exact .j h_66
          refine .share 11 [Tt, Tt, Tt, Ff, Ff, Ff, Ff, Ff, Ff, Ff, Ff, Ff, Ff, Ff] ((89, .o 191) :: (90, .d (ints (gRow t (nth t.goal k)))) :: cp24E t k) ((5, .box [.o 191, .o 192, .o 193]) :: (191, .own 1 22 ((gRows t k).map fun r => [ints r])) :: (192, .own 1 3 ((gBnds t k).map fun n => [D.v (.int .i64 n)])) :: cp24M t k) ?_ (fun h_15 => ?_)
          ·refine .st [3, 5, 7] ⟨?_, ?_, ?_, trivial⟩
           ·refine ⟨_, rfl, ?_⟩
            refine .x (.bs es37 ze37) ?_; exact .j h_31
           ·refine ⟨_, rfl, ?_⟩
            refine .x (.f fo39_1) ?_; exact .j h_32
           ·refine ⟨_, rfl, ?_⟩
            refine .m ?_; exact .j h_33
          refine .share 11 [Tt, Tt, Ff, Ff, Ff, Tt, Ff, Ff, Ff, Ff, Ff, Ff, Ff, Ff] ((89, .o 191) :: (93, .r 5 1) :: cp24E t k) ((5, .box [.o 191, .o 192, .o 193]) :: (191, .own 1 22 ((gRows t k).map fun r => [ints r])) :: (192, .own 1 3 ((gBnds t k).map fun n => [D.v (.int .i64 n)])) :: cp24M t k) ?_ (fun h_16 => ?_)
          ·refine .st [2, 6, 7] ⟨?_, ?_, ?_, trivial⟩
           ·refine ⟨_, rfl, ?_⟩
            refine .m ?_; exact .j h_32
           ·refine ⟨_, rfl, ?_⟩
            refine .x (.l vs22) ?_; exact .j h_34
           ·refine ⟨_, rfl, ?_⟩
            refine .m ?_; exact .j h_35
          refine .share 11 [Tt, Tt, Ff, Ff, Ff, Ff, Ff, Tt, Ff, Ff, Ff, Ff, Ff, Ff] ((89, .o 191) :: (95, I ((gBnd t (nth t.goal k)))) :: cp24E t k) ((5, .box [.o 191, .o 192, .o 193]) :: (191, .own 1 22 ((gRows t k).map fun r => [ints r])) :: (192, .own 1 3 ((gBnds t k).map fun n => [D.v (.int .i64 n)])) :: cp24M t k) ?_ (fun h_17 => ?_)
          ·refine .st [2, 5, 8] ⟨?_, ?_, ?_, trivial⟩
           ·refine ⟨_, rfl, ?_⟩
            refine .m ?_; exact .j h_33
           ·refine ⟨_, rfl, ?_⟩
            refine .x (.f fo39_1) ?_; exact .j h_35
           ·refine ⟨_, rfl, ?_⟩
            refine .x (.bs es22 ze22) ?_; exact .j h_36
          refine .share 11 [Tt, Ff, Tt, Tt, Ff, Ff, Ff, Ff, Ff, Ff, Ff, Ff, Ff, Ff] ((88, .r 5 0) :: (91, .d (.s 1 [[ints (gRow t (nth t.goal k))]])) :: cp24E t k) ((5, .box [.o 191, .o 192, .o 193]) :: (191, .own 1 22 ((gRows t k).map fun r => [ints r])) :: (192, .own 1 3 ((gBnds t k).map fun n => [D.v (.int .i64 n)])) :: cp24M t k) ?_ (fun h_18 => ?_)
          ·refine .st [1, 5, 7] ⟨?_, ?_, ?_, trivial⟩
           ·refine ⟨_, rfl, ?_⟩
            refine .x (.l vs37) ?_; exact .j h_31
           ·refine ⟨_, rfl, ?_⟩
            refine .x (.f fo39_1) ?_; exact .j h_37
           ·refine ⟨_, rfl, ?_⟩
            refine .m ?_; exact .j h_38
          refine .share 11 [Tt, Ff, Tt, Ff, Ff, Tt, Ff, Ff, Ff, Ff, Ff, Ff, Ff, Ff] ((88, .r 5 0) :: (90, .d (ints (gRow t (nth t.goal k)))) :: (93, .r 5 1) :: cp24E t k) ((5, .box [.o 191, .o 192, .o 193]) :: (191, .own 1 22 ((gRows t k).map fun r => [ints r])) :: (192, .own 1 3 ((gBnds t k).map fun n => [D.v (.int .i64 n)])) :: cp24M t k) ?_ (fun h_19 => ?_)
          ·refine .st [1, 3, 6, 7] ⟨?_, ?_, ?_, ?_, trivial⟩
           ·refine ⟨_, rfl, ?_⟩
            refine .x (.l vs37) ?_; exact .j h_32
           ·refine ⟨_, rfl, ?_⟩
            refine .x (.bs es37 ze37) ?_; exact .j h_37
           ·refine ⟨_, rfl, ?_⟩
            refine .x (.l vs22) ?_; exact .j h_39
           ·refine ⟨_, rfl, ?_⟩
            refine .m ?_; exact .j h_40
          refine .share 11 [Tt, Ff, Tt, Ff, Ff, Ff, Ff, Tt, Ff, Ff, Ff, Ff, Ff, Ff] ((88, .r 5 0) :: (90, .d (ints (gRow t (nth t.goal k)))) :: (95, I ((gBnd t (nth t.goal k)))) :: cp24E t k) ((5, .box [.o 191, .o 192, .o 193]) :: (191, .own 1 22 ((gRows t k).map fun r => [ints r])) :: (192, .own 1 3 ((gBnds t k).map fun n => [D.v (.int .i64 n)])) :: cp24M t k) ?_ (fun h_20 => ?_)
          ·refine .st [1, 3, 5, 8] ⟨?_, ?_, ?_, ?_, trivial⟩
           ·refine ⟨_, rfl, ?_⟩
            refine .x (.l vs37) ?_; exact .j h_33
           ·refine ⟨_, rfl, ?_⟩
            refine .x (.bs es37 ze37) ?_; exact .j h_38
           ·refine ⟨_, rfl, ?_⟩
            refine .x (.f fo39_1) ?_; exact .j h_40
           ·refine ⟨_, rfl, ?_⟩
            refine .x (.bs es22 ze22) ?_; exact .j h_41
          refine .share 11 [Tt, Ff, Ff, Ff, Ff, Tt, Tt, Ff, Ff, Ff, Ff, Ff, Ff, Ff] ((88, .r 5 0) :: (94, .o 192) :: cp24E t k) ((5, .box [.o 191, .o 192, .o 193]) :: (191, .own 1 22 ((gRows t k).map fun r => [ints r])) :: (192, .own 1 3 ((gBnds t k).map fun n => [D.v (.int .i64 n)])) :: cp24M t k) ?_ (fun h_21 => ?_)
          ·refine .st [1, 2, 7] ⟨?_, ?_, ?_, trivial⟩
           ·refine ⟨_, rfl, ?_⟩
            refine .x (.l vs37) ?_; exact .j h_34
           ·refine ⟨_, rfl, ?_⟩
            refine .m ?_; exact .j h_39
           ·refine ⟨_, rfl, ?_⟩
            refine .m ?_; exact .j h_42
          refine .share 11 [Tt, Ff, Ff, Ff, Ff, Tt, Ff, Tt, Ff, Ff, Ff, Ff, Ff, Ff] ((88, .r 5 0) :: (93, .r 5 1) :: (95, I ((gBnd t (nth t.goal k)))) :: cp24E t k) ((5, .box [.o 191, .o 192, .o 193]) :: (191, .own 1 22 ((gRows t k).map fun r => [ints r])) :: (192, .own 1 3 ((gBnds t k).map fun n => [D.v (.int .i64 n)])) :: cp24M t k) ?_ (fun h_22 => ?_)
          ·refine .st [1, 2, 6, 8] ⟨?_, ?_, ?_, ?_, trivial⟩
           ·refine ⟨_, rfl, ?_⟩
            refine .x (.l vs37) ?_; exact .j h_35
           ·refine ⟨_, rfl, ?_⟩
            refine .m ?_; exact .j h_40
           ·refine ⟨_, rfl, ?_⟩
            refine .x (.l vs22) ?_; exact .j h_42
           ·refine ⟨_, rfl, ?_⟩
            refine .x (.bs es22 ze22) ?_; exact .j h_43
          refine .share 11 [Tt, Ff, Ff, Ff, Ff, Ff, Ff, Tt, Tt, Ff, Ff, Ff, Ff, Ff] ((88, .r 5 0) :: (96, .d (.s 1 [[.v (.int .i64 (gBnd t (nth t.goal k)))]])) :: cp24E t k) ((5, .box [.o 191, .o 192, .o 193]) :: (191, .own 1 22 ((gRows t k).map fun r => [ints r])) :: (192, .own 1 3 ((gBnds t k).map fun n => [D.v (.int .i64 n)])) :: cp24M t k) ?_ (fun h_23 => ?_)
          ·refine .st [1, 2, 5] ⟨?_, ?_, ?_, trivial⟩
           ·refine ⟨_, rfl, ?_⟩
            refine .x (.l vs37) ?_; exact .j h_36
           ·refine ⟨_, rfl, ?_⟩
            refine .m ?_; exact .j h_41
           ·refine ⟨_, rfl, ?_⟩
            refine .x (.f fo39_1) ?_; exact .j h_43
          refine .share 11 [Ff, Ff, Tt, Tt, Ff, Tt, Ff, Ff, Ff, Ff, Ff, Ff, Ff, Ff] ((91, .d (.s 1 [[ints (gRow t (nth t.goal k))]])) :: (93, .r 5 1) :: cp24E t k) ((5, .box [.o 191, .o 192, .o 193]) :: (191, .own 1 22 ((gRows t k).map fun r => [ints r])) :: (192, .own 1 3 ((gBnds t k).map fun n => [D.v (.int .i64 n)])) :: cp24M t k) ?_ (fun h_24 => ?_)
          ·refine .st [0, 6, 7] ⟨?_, ?_, ?_, trivial⟩
           ·refine ⟨_, rfl, ?_⟩
            refine .x (.f fo39_0) ?_; exact .j h_37
           ·refine ⟨_, rfl, ?_⟩
            refine .x (.l vs22) ?_; exact .j h_44
           ·refine ⟨_, rfl, ?_⟩
            refine .m ?_; exact .j h_45
          refine .share 11 [Ff, Ff, Tt, Tt, Ff, Ff, Ff, Tt, Ff, Ff, Ff, Ff, Ff, Ff] ((91, .d (.s 1 [[ints (gRow t (nth t.goal k))]])) :: (95, I ((gBnd t (nth t.goal k)))) :: cp24E t k) ((5, .box [.o 191, .o 192, .o 193]) :: (191, .own 1 22 ((gRows t k).map fun r => [ints r])) :: (192, .own 1 3 ((gBnds t k).map fun n => [D.v (.int .i64 n)])) :: cp24M t k) ?_ (fun h_25 => ?_)
          ·refine .st [0, 5, 8] ⟨?_, ?_, ?_, trivial⟩
           ·refine ⟨_, rfl, ?_⟩
            refine .x (.f fo39_0) ?_; exact .j h_38
           ·refine ⟨_, rfl, ?_⟩
            refine .x (.f fo39_1) ?_; exact .j h_45
           ·refine ⟨_, rfl, ?_⟩
            refine .x (.bs es22 ze22) ?_; exact .j h_46
          refine .share 11 [Ff, Ff, Tt, Ff, Ff, Tt, Tt, Ff, Ff, Ff, Ff, Ff, Ff, Ff] ((90, .d (ints (gRow t (nth t.goal k)))) :: (94, .o 192) :: cp24E t k) ((5, .box [.o 191, .o 192, .o 193]) :: (191, .own 1 22 ((gRows t k).map fun r => [ints r])) :: (192, .own 1 3 ((gBnds t k).map fun n => [D.v (.int .i64 n)])) :: cp24M t k) ?_ (fun h_26 => ?_)
          ·refine .st [0, 3, 7] ⟨?_, ?_, ?_, trivial⟩
           ·refine ⟨_, rfl, ?_⟩
            refine .x (.f fo39_0) ?_; exact .j h_39
           ·refine ⟨_, rfl, ?_⟩
            refine .x (.bs es37 ze37) ?_; exact .j h_44
           ·refine ⟨_, rfl, ?_⟩
            refine .m ?_; exact .j h_47
          refine .share 11 [Ff, Ff, Tt, Ff, Ff, Tt, Ff, Tt, Ff, Ff, Ff, Ff, Ff, Ff] ((90, .d (ints (gRow t (nth t.goal k)))) :: (93, .r 5 1) :: (95, I ((gBnd t (nth t.goal k)))) :: cp24E t k) ((5, .box [.o 191, .o 192, .o 193]) :: (191, .own 1 22 ((gRows t k).map fun r => [ints r])) :: (192, .own 1 3 ((gBnds t k).map fun n => [D.v (.int .i64 n)])) :: cp24M t k) ?_ (fun h_27 => ?_)
          ·refine .st [0, 3, 6, 8] ⟨?_, ?_, ?_, ?_, trivial⟩
           ·refine ⟨_, rfl, ?_⟩
            refine .x (.f fo39_0) ?_; exact .j h_40
           ·refine ⟨_, rfl, ?_⟩
            refine .x (.bs es37 ze37) ?_; exact .j h_45
           ·refine ⟨_, rfl, ?_⟩
            refine .x (.l vs22) ?_; exact .j h_47
           ·refine ⟨_, rfl, ?_⟩
            refine .x (.bs es22 ze22) ?_; exact .j h_48
          refine .share 11 [Ff, Ff, Tt, Ff, Ff, Ff, Ff, Tt, Tt, Ff, Ff, Ff, Ff, Ff] ((90, .d (ints (gRow t (nth t.goal k)))) :: (96, .d (.s 1 [[.v (.int .i64 (gBnd t (nth t.goal k)))]])) :: cp24E t k) ((5, .box [.o 191, .o 192, .o 193]) :: (191, .own 1 22 ((gRows t k).map fun r => [ints r])) :: (192, .own 1 3 ((gBnds t k).map fun n => [D.v (.int .i64 n)])) :: cp24M t k) ?_ (fun h_28 => ?_)
          ·refine .st [0, 3, 5] ⟨?_, ?_, ?_, trivial⟩
           ·refine ⟨_, rfl, ?_⟩
            refine .x (.f fo39_0) ?_; exact .j h_41
           ·refine ⟨_, rfl, ?_⟩
            refine .x (.bs es37 ze37) ?_; exact .j h_46
           ·refine ⟨_, rfl, ?_⟩
            refine .x (.f fo39_1) ?_; exact .j h_48
          refine .share 11 [Ff, Ff, Ff, Ff, Ff, Tt, Tt, Tt, Ff, Ff, Ff, Ff, Ff, Ff] ((94, .o 192) :: (95, I ((gBnd t (nth t.goal k)))) :: cp24E t k) ((5, .box [.o 191, .o 192, .o 193]) :: (191, .own 1 22 ((gRows t k).map fun r => [ints r])) :: (192, .own 1 3 ((gBnds t k).map fun n => [D.v (.int .i64 n)])) :: cp24M t k) ?_ (fun h_29 => ?_)
          ·refine .st [0, 2, 8] ⟨?_, ?_, ?_, trivial⟩
           ·refine ⟨_, rfl, ?_⟩
            refine .x (.f fo39_0) ?_; exact .j h_42
           ·refine ⟨_, rfl, ?_⟩
            refine .m ?_; exact .j h_47
           ·refine ⟨_, rfl, ?_⟩
            refine .x (.bs es22 ze22) ?_; exact .j h_49
          refine .share 11 [Ff, Ff, Ff, Ff, Ff, Tt, Ff, Tt, Tt, Ff, Ff, Ff, Ff, Ff] ((93, .r 5 1) :: (96, .d (.s 1 [[.v (.int .i64 (gBnd t (nth t.goal k)))]])) :: cp24E t k) ((5, .box [.o 191, .o 192, .o 193]) :: (191, .own 1 22 ((gRows t k).map fun r => [ints r])) :: (192, .own 1 3 ((gBnds t k).map fun n => [D.v (.int .i64 n)])) :: cp24M t k) ?_ (fun h_30 => ?_)
          ·refine .st [0, 2, 6] ⟨?_, ?_, ?_, trivial⟩
           ·refine ⟨_, rfl, ?_⟩
            refine .x (.f fo39_0) ?_; exact .j h_43
           ·refine ⟨_, rfl, ?_⟩
            refine .m ?_; exact .j h_48
           ·refine ⟨_, rfl, ?_⟩
            refine .x (.l vs22) ?_; exact .j h_49
          refine .share 12 [Tt, Tt, Ff, Ff, Ff, Ff, Ff, Ff, Ff, Ff, Ff, Ff, Ff, Ff] ((89, .o 191) :: cp24E t k) ((5, .box [.o 191, .o 192, .o 193]) :: (191, .own 1 22 ((gRows t k).map fun r => [ints r])) :: (192, .own 1 3 ((gBnds t k).map fun n => [D.v (.int .i64 n)])) :: cp24M t k) ?_ (fun h_5 => ?_)
          ·refine .st [2, 5, 7] ⟨?_, ?_, ?_, trivial⟩
           ·refine ⟨_, rfl, ?_⟩
            refine .m ?_; exact .j h_15
           ·refine ⟨_, rfl, ?_⟩
            refine .x (.f fo39_1) ?_; exact .j h_16
           ·refine ⟨_, rfl, ?_⟩
            refine .m ?_; exact .j h_17
          refine .share 12 [Tt, Ff, Tt, Ff, Ff, Ff, Ff, Ff, Ff, Ff, Ff, Ff, Ff, Ff] ((88, .r 5 0) :: (90, .d (ints (gRow t (nth t.goal k)))) :: cp24E t k) ((5, .box [.o 191, .o 192, .o 193]) :: (191, .own 1 22 ((gRows t k).map fun r => [ints r])) :: (192, .own 1 3 ((gBnds t k).map fun n => [D.v (.int .i64 n)])) :: cp24M t k) ?_ (fun h_6 => ?_)
          ·refine .st [1, 3, 5, 7] ⟨?_, ?_, ?_, ?_, trivial⟩
           ·refine ⟨_, rfl, ?_⟩
            refine .x (.l vs37) ?_; exact .j h_15
           ·refine ⟨_, rfl, ?_⟩
            refine .x (.bs es37 ze37) ?_; exact .j h_18
           ·refine ⟨_, rfl, ?_⟩
            refine .x (.f fo39_1) ?_; exact .j h_19
           ·refine ⟨_, rfl, ?_⟩
            refine .m ?_; exact .j h_20
          refine .share 12 [Tt, Ff, Ff, Ff, Ff, Tt, Ff, Ff, Ff, Ff, Ff, Ff, Ff, Ff] ((88, .r 5 0) :: (93, .r 5 1) :: cp24E t k) ((5, .box [.o 191, .o 192, .o 193]) :: (191, .own 1 22 ((gRows t k).map fun r => [ints r])) :: (192, .own 1 3 ((gBnds t k).map fun n => [D.v (.int .i64 n)])) :: cp24M t k) ?_ (fun h_7 => ?_)
          ·refine .st [1, 2, 6, 7] ⟨?_, ?_, ?_, ?_, trivial⟩
           ·refine ⟨_, rfl, ?_⟩
            refine .x (.l vs37) ?_; exact .j h_16
           ·refine ⟨_, rfl, ?_⟩
            refine .m ?_; exact .j h_19
           ·refine ⟨_, rfl, ?_⟩
            refine .x (.l vs22) ?_; exact .j h_21
           ·refine ⟨_, rfl, ?_⟩
            refine .m ?_; exact .j h_22
          refine .share 12 [Tt, Ff, Ff, Ff, Ff, Ff, Ff, Tt, Ff, Ff, Ff, Ff, Ff, Ff] ((88, .r 5 0) :: (95, I ((gBnd t (nth t.goal k)))) :: cp24E t k) ((5, .box [.o 191, .o 192, .o 193]) :: (191, .own 1 22 ((gRows t k).map fun r => [ints r])) :: (192, .own 1 3 ((gBnds t k).map fun n => [D.v (.int .i64 n)])) :: cp24M t k) ?_ (fun h_8 => ?_)
          ·refine .st [1, 2, 5, 8] ⟨?_, ?_, ?_, ?_, trivial⟩
           ·refine ⟨_, rfl, ?_⟩
            refine .x (.l vs37) ?_; exact .j h_17
           ·refine ⟨_, rfl, ?_⟩
            refine .m ?_; exact .j h_20
           ·refine ⟨_, rfl, ?_⟩
            refine .x (.f fo39_1) ?_; exact .j h_22
           ·refine ⟨_, rfl, ?_⟩
            refine .x (.bs es22 ze22) ?_; exact .j h_23
          refine .share 12 [Ff, Ff, Tt, Tt, Ff, Ff, Ff, Ff, Ff, Ff, Ff, Ff, Ff, Ff] ((91, .d (.s 1 [[ints (gRow t (nth t.goal k))]])) :: cp24E t k) ((5, .box [.o 191, .o 192, .o 193]) :: (191, .own 1 22 ((gRows t k).map fun r => [ints r])) :: (192, .own 1 3 ((gBnds t k).map fun n => [D.v (.int .i64 n)])) :: cp24M t k) ?_ (fun h_9 => ?_)
          ·refine .st [0, 5, 7] ⟨?_, ?_, ?_, trivial⟩
           ·refine ⟨_, rfl, ?_⟩
            refine .x (.f fo39_0) ?_; exact .j h_18
           ·refine ⟨_, rfl, ?_⟩
            refine .x (.f fo39_1) ?_; exact .j h_24
           ·refine ⟨_, rfl, ?_⟩
            refine .m ?_; exact .j h_25
          refine .share 12 [Ff, Ff, Tt, Ff, Ff, Tt, Ff, Ff, Ff, Ff, Ff, Ff, Ff, Ff] ((90, .d (ints (gRow t (nth t.goal k)))) :: (93, .r 5 1) :: cp24E t k) ((5, .box [.o 191, .o 192, .o 193]) :: (191, .own 1 22 ((gRows t k).map fun r => [ints r])) :: (192, .own 1 3 ((gBnds t k).map fun n => [D.v (.int .i64 n)])) :: cp24M t k) ?_ (fun h_10 => ?_)
          ·refine .st [0, 3, 6, 7] ⟨?_, ?_, ?_, ?_, trivial⟩
           ·refine ⟨_, rfl, ?_⟩
            refine .x (.f fo39_0) ?_; exact .j h_19
           ·refine ⟨_, rfl, ?_⟩
            refine .x (.bs es37 ze37) ?_; exact .j h_24
           ·refine ⟨_, rfl, ?_⟩
            refine .x (.l vs22) ?_; exact .j h_26
           ·refine ⟨_, rfl, ?_⟩
            refine .m ?_; exact .j h_27
          refine .share 12 [Ff, Ff, Tt, Ff, Ff, Ff, Ff, Tt, Ff, Ff, Ff, Ff, Ff, Ff] ((90, .d (ints (gRow t (nth t.goal k)))) :: (95, I ((gBnd t (nth t.goal k)))) :: cp24E t k) ((5, .box [.o 191, .o 192, .o 193]) :: (191, .own 1 22 ((gRows t k).map fun r => [ints r])) :: (192, .own 1 3 ((gBnds t k).map fun n => [D.v (.int .i64 n)])) :: cp24M t k) ?_ (fun h_11 => ?_)
          ·refine .st [0, 3, 5, 8] ⟨?_, ?_, ?_, ?_, trivial⟩
           ·refine ⟨_, rfl, ?_⟩
            refine .x (.f fo39_0) ?_; exact .j h_20
           ·refine ⟨_, rfl, ?_⟩
            refine .x (.bs es37 ze37) ?_; exact .j h_25
           ·refine ⟨_, rfl, ?_⟩
            refine .x (.f fo39_1) ?_; exact .j h_27
           ·refine ⟨_, rfl, ?_⟩
            refine .x (.bs es22 ze22) ?_; exact .j h_28
          refine .share 12 [Ff, Ff, Ff, Ff, Ff, Tt, Tt, Ff, Ff, Ff, Ff, Ff, Ff, Ff] ((94, .o 192) :: cp24E t k) ((5, .box [.o 191, .o 192, .o 193]) :: (191, .own 1 22 ((gRows t k).map fun r => [ints r])) :: (192, .own 1 3 ((gBnds t k).map fun n => [D.v (.int .i64 n)])) :: cp24M t k) ?_ (fun h_12 => ?_)
          ·refine .st [0, 2, 7] ⟨?_, ?_, ?_, trivial⟩
           ·refine ⟨_, rfl, ?_⟩
            refine .x (.f fo39_0) ?_; exact .j h_21
           ·refine ⟨_, rfl, ?_⟩
            refine .m ?_; exact .j h_26
           ·refine ⟨_, rfl, ?_⟩
            refine .m ?_; exact .j h_29
          refine .share 12 [Ff, Ff, Ff, Ff, Ff, Tt, Ff, Tt, Ff, Ff, Ff, Ff, Ff, Ff] ((93, .r 5 1) :: (95, I ((gBnd t (nth t.goal k)))) :: cp24E t k) ((5, .box [.o 191, .o 192, .o 193]) :: (191, .own 1 22 ((gRows t k).map fun r => [ints r])) :: (192, .own 1 3 ((gBnds t k).map fun n => [D.v (.int .i64 n)])) :: cp24M t k) ?_ (fun h_13 => ?_)
          ·refine .st [0, 2, 6, 8] ⟨?_, ?_, ?_, ?_, trivial⟩
           ·refine ⟨_, rfl, ?_⟩
            refine .x (.f fo39_0) ?_; exact .j h_22
           ·refine ⟨_, rfl, ?_⟩
            refine .m ?_; exact .j h_27
           ·refine ⟨_, rfl, ?_⟩
            refine .x (.l vs22) ?_; exact .j h_29
           ·refine ⟨_, rfl, ?_⟩
            refine .x (.bs es22 ze22) ?_; exact .j h_30
          refine .share 12 [Ff, Ff, Ff, Ff, Ff, Ff, Ff, Tt, Tt, Ff, Ff, Ff, Ff, Ff] ((96, .d (.s 1 [[.v (.int .i64 (gBnd t (nth t.goal k)))]])) :: cp24E t k) ((5, .box [.o 191, .o 192, .o 193]) :: (191, .own 1 22 ((gRows t k).map fun r => [ints r])) :: (192, .own 1 3 ((gBnds t k).map fun n => [D.v (.int .i64 n)])) :: cp24M t k) ?_ (fun h_14 => ?_)
          ·refine .st [0, 2, 5] ⟨?_, ?_, ?_, trivial⟩
           ·refine ⟨_, rfl, ?_⟩
            refine .x (.f fo39_0) ?_; exact .j h_23
           ·refine ⟨_, rfl, ?_⟩
            refine .m ?_; exact .j h_28
           ·refine ⟨_, rfl, ?_⟩
            refine .x (.f fo39_1) ?_; exact .j h_30
          refine .share 13 [Tt, Ff, Ff, Ff, Ff, Ff, Ff, Ff, Ff, Ff, Ff, Ff, Ff, Ff] ((88, .r 5 0) :: cp24E t k) ((5, .box [.o 191, .o 192, .o 193]) :: (191, .own 1 22 ((gRows t k).map fun r => [ints r])) :: (192, .own 1 3 ((gBnds t k).map fun n => [D.v (.int .i64 n)])) :: cp24M t k) ?_ (fun h_1 => ?_)
          ·refine .st [1, 2, 5, 7] ⟨?_, ?_, ?_, ?_, trivial⟩
           ·refine ⟨_, rfl, ?_⟩
            refine .x (.l vs37) ?_; exact .j h_5
           ·refine ⟨_, rfl, ?_⟩
            refine .m ?_; exact .j h_6
           ·refine ⟨_, rfl, ?_⟩
            refine .x (.f fo39_1) ?_; exact .j h_7
           ·refine ⟨_, rfl, ?_⟩
            refine .m ?_; exact .j h_8
          refine .share 13 [Ff, Ff, Tt, Ff, Ff, Ff, Ff, Ff, Ff, Ff, Ff, Ff, Ff, Ff] ((90, .d (ints (gRow t (nth t.goal k)))) :: cp24E t k) ((5, .box [.o 191, .o 192, .o 193]) :: (191, .own 1 22 ((gRows t k).map fun r => [ints r])) :: (192, .own 1 3 ((gBnds t k).map fun n => [D.v (.int .i64 n)])) :: cp24M t k) ?_ (fun h_2 => ?_)
          ·refine .st [0, 3, 5, 7] ⟨?_, ?_, ?_, ?_, trivial⟩
           ·refine ⟨_, rfl, ?_⟩
            refine .x (.f fo39_0) ?_; exact .j h_6
           ·refine ⟨_, rfl, ?_⟩
            refine .x (.bs es37 ze37) ?_; exact .j h_9
           ·refine ⟨_, rfl, ?_⟩
            refine .x (.f fo39_1) ?_; exact .j h_10
           ·refine ⟨_, rfl, ?_⟩
            refine .m ?_; exact .j h_11
          refine .share 13 [Ff, Ff, Ff, Ff, Ff, Tt, Ff, Ff, Ff, Ff, Ff, Ff, Ff, Ff] ((93, .r 5 1) :: cp24E t k) ((5, .box [.o 191, .o 192, .o 193]) :: (191, .own 1 22 ((gRows t k).map fun r => [ints r])) :: (192, .own 1 3 ((gBnds t k).map fun n => [D.v (.int .i64 n)])) :: cp24M t k) ?_ (fun h_3 => ?_)
          ·refine .st [0, 2, 6, 7] ⟨?_, ?_, ?_, ?_, trivial⟩
           ·refine ⟨_, rfl, ?_⟩
            refine .x (.f fo39_0) ?_; exact .j h_7
           ·refine ⟨_, rfl, ?_⟩
            refine .m ?_; exact .j h_10
           ·refine ⟨_, rfl, ?_⟩
            refine .x (.l vs22) ?_; exact .j h_12
           ·refine ⟨_, rfl, ?_⟩
            refine .m ?_; exact .j h_13
          refine .share 13 [Ff, Ff, Ff, Ff, Ff, Ff, Ff, Tt, Ff, Ff, Ff, Ff, Ff, Ff] ((95, I ((gBnd t (nth t.goal k)))) :: cp24E t k) ((5, .box [.o 191, .o 192, .o 193]) :: (191, .own 1 22 ((gRows t k).map fun r => [ints r])) :: (192, .own 1 3 ((gBnds t k).map fun n => [D.v (.int .i64 n)])) :: cp24M t k) ?_ (fun h_4 => ?_)
          ·refine .st [0, 2, 5, 8] ⟨?_, ?_, ?_, ?_, trivial⟩
           ·refine ⟨_, rfl, ?_⟩
            refine .x (.f fo39_0) ?_; exact .j h_8
           ·refine ⟨_, rfl, ?_⟩
            refine .m ?_; exact .j h_11
           ·refine ⟨_, rfl, ?_⟩
            refine .x (.f fo39_1) ?_; exact .j h_13
           ·refine ⟨_, rfl, ?_⟩
            refine .x (.bs es22 ze22) ?_; exact .j h_14
          refine .st [0, 2, 5, 7] ⟨?_, ?_, ?_, ?_, trivial⟩
          ·refine ⟨_, rfl, ?_⟩
           refine .x (.f fo39_0) ?_; exact .j h_1
          ·refine ⟨_, rfl, ?_⟩
           refine .m ?_; exact .j h_2
          ·refine ⟨_, rfl, ?_⟩
           refine .x (.f fo39_1) ?_; exact .j h_3
          ·refine ⟨_, rfl, ?_⟩
           refine .m ?_; exact .j h_4
       ·have hk : k = t.goal.length := by simp at c61; omega
        subst hk
        refine .exit ?_; refine .pass_exit ?_; refine .pass_exit ?_; refine .block_same ?_; refine .z ?_; refine .x (OpSem.loadbN rfl rfl rfl vs25 (by first | decide | simp)) ?_; refine .x (OpSem.call0 (landmark_Facts_does t) rfl rfl rfl rfl (Les.refl _)) ?_; refine .m ?_; refine .x (OpSem.le (s' := .d (ints (lmL t))) (OpSem.extract rfl rfl rfl) (Le.of_eq (by rw [lmR_0 h0]))) ?_; refine .x (OpSem.extract rfl rfl rfl) ?_; refine .semM (OpSem.alloc 15 rfl zc30 rfl) rfl rfl (by decide) ?_; refine .a ?_; refine .sb vs30 ?_; refine .sq ?_; refine .seq ?_; refine .seq ?_; refine .region ?_; refine .x (OpSem.loadbN rfl rfl rfl vs30 (by first | decide | simp)) ?_; refine .x (OpSem.build rfl rfl pl30 zc30 rfl rfl) ?_; refine .x (OpSem.neS2 rfl rfl rfl io30) ?_; refine .sq ?_; refine .cond rfl (fun c108 => ?_) (fun c108 => ?_)
        ·exfalso; simp [h0] at c108
        ·refine .skip ?_; refine .z ?_; refine .x (OpSem.loadbN rfl rfl rfl vs25 (by first | decide | simp)) ?_; refine .x (OpSem.call0 (landmark_Achievers_does t) rfl rfl rfl rfl (Les.refl _)) ?_; refine .m ?_; refine .x (OpSem.le (s' := .d (rows (acsTo t (lmL t).length))) (OpSem.extract rfl rfl rfl) (Le.of_eq (by rw [acR_0 h0]))) ?_; refine .x (OpSem.extract rfl rfl rfl) ?_; refine .a ?_; refine .sb vs30 ?_; refine .sq ?_; refine .seq ?_; refine .seq ?_; refine .region ?_; refine .x (OpSem.loadbN rfl rfl rfl vs30 (by first | decide | simp)) ?_; refine .x (OpSem.build rfl rfl pl30 zc30 rfl rfl) ?_; refine .x (OpSem.neS2 rfl rfl rfl io30) ?_; refine .sq ?_; refine .cond rfl (fun c118 => ?_) (fun c118 => ?_)
         ·exfalso; simp [h0] at c118
         ·refine .skip ?_; refine .seq ?_; refine .seq ?_; refine .seq ?_; refine .region ?_; refine .m ?_; refine .x (OpSem.lenL rfl rfl es22) ?_; refine .m ?_; refine .sq ?_; refine .block ?_; refine .loop (X := Nat) (fun k => k ≤ (lmL t).length) (fun k => [(1, .r 1 0), (2, .r 2 0), (3, .r 3 0), (5, .r 5 0), (16, .d (rows (acsTo t (lmL t).length))), (121, .d (ints (lmL t))), (122, I ((lmL t).length)), (123, I (k))]) (fun k => [(191, .own 1 22 ((qR t k).map fun r => [ints r])), (192, .own 1 3 ((qB t k).map fun n => [D.v (.int .i64 n)])), (193, .own 1 3 ((obTo t t.ops.length).map fun n => [D.v (.int .i64 n)])), (1, .box [I (t.facts), .d (ints t.ini), .d (ints t.goal), .d (sopsD t.ops)]), (2, .box [.d (.v (.slice none 0 0)), .d (.v (.slice none 0 0)), .d (.v (.slice none 0 0))]), (3, .box [I (0), I (0)]), (5, .box [.o 191, .o 192, .o 193])]) (fun k => (lmL t).length - k) 0 (by omega) ?_ ?_
          ·exact .sl <| .sl <| .sl <| .sl <| .sl <| .sl <| .sl <| .slot rfl (Le.of_eq (by simp)) <| .memEq rfl (by rw [qr_0.1]; rfl) <| .memEq rfl (by rw [qr_0.2]; rfl) <| .mem rfl <| .mem rfl <| .mem rfl <| .mem rfl <| .mem rfl <| .nil
          ·rintro k hkl
           refine .seq ?_; refine .region ?_; refine .x (.b blss) ?_; refine .sq ?_; refine .seq ?_; refine .cond rfl (fun c124 => ?_) (fun c124 => ?_)
           ·have hk : k < (lmL t).length := by simpa using c124
            have hql := qr_le (t := t) (k := k)
            have hqb := qr_len (t := t) (k := k)
            have hac : nth (acsTo t (lmL t).length) k = acL t (nth (lmL t) k) := acs_at hk
            refine .skip ?_; refine .seq ?_; refine .seq ?_; refine .block ?_; refine .seq ?_; refine .region ?_; refine .m ?_; refine .x (OpSem.idxL rfl rfl rfl es22 (by omega) (by omega)) ?_; refine .x (OpSem.load1 rfl rfl vs3 rfl) ?_; refine .a ?_; refine .a ?_; refine .sq ?_; refine .seq ?_; refine .seq ?_; refine .region ?_; refine .x (.f fo25_1) ?_; refine .x (.l vs22) ?_; refine .m ?_; refine .x (OpSem.call0 (slices_Contains_int_int_does t.ini (nth (lmL t) k)) rfl rfl rfl rfl (Les.refl _)) ?_; refine .sq ?_; refine .cond rfl (fun c131 => ?_) (fun c131 => ?_)
            ·have hn := qr_f hk (by simpa using c131)
             refine .exit ?_; refine .pass_exit ?_; refine .block_same ?_; refine .y ?_; refine .x .ad ?_; refine .m ?_; refine .nil ?_; refine .again (k + 1) (by omega) ?_ (by omega); exact .sl <| .sl <| .sl <| .sl <| .sl <| .sl <| .sl <| .slot rfl (Le.of_eq (by simp)) <| .memEq rfl (by rw [hn.1]) <| .memEq rfl (by rw [hn.2]) <| .mem rfl <| .mem rfl <| .mem rfl <| .mem rfl <| .mem rfl <| .nil
            ·have hrt := qr_t hk (by simpa using c131)
             refine .skip ?_; refine .z ?_; refine .x (.f fo25_3) ?_; refine .x (.l vs23) ?_; refine .x (OpSem.lenL rfl rfl es23) ?_; refine .semM (OpSem.makeSlice 135 rfl rfl rfl es22 ze22 rfl rfl (by decide) bye22 (by omega) (by omega) (by omega)) rfl rfl (by decide) ?_; refine .a ?_; refine .sq ?_; refine .cut [(1, .r 1 0), (3, .r 3 0), (2, .r 2 0), (5, .r 5 0), (16, .d (rows (acsTo t (lmL t).length))), (19, .o 135), (121, .d (ints (lmL t))), (122, I ((lmL t).length)), (123, I (k))] [(1, .box [I (t.facts), .d (ints t.ini), .d (ints t.goal), .d (sopsD t.ops)]), (3, .box [I (0), I (0)]), (2, .box [.d (.v (.slice none 0 0)), .d (.v (.slice none 0 0)), .d (.v (.slice none 0 0))]), (5, .box [.o 191, .o 192, .o 193]), (135, .own 1 3 ((lRow t (nth (lmL t) k)).map fun n => [D.v (.int .i64 n)])), (191, .own 1 22 ((qR t k).map fun r => [ints r])), (192, .own 1 3 ((qB t k).map fun n => [D.v (.int .i64 n)])), (193, .own 1 3 ((obTo t t.ops.length).map fun n => [D.v (.int .i64 n)]))] ?_ ?_
             ·refine .seq ?_; refine .region ?_; refine .m ?_; refine .m ?_; refine .x (OpSem.idxL rfl rfl rfl es37 (by omega) (by simp [acsTo]; omega)) ?_; refine .x (OpSem.load1 rfl rfl vs22 rfl) ?_; refine .x (OpSem.lenL rfl rfl es22) ?_; refine .m ?_; refine .sq ?_; refine .block ?_; refine .loop (X := Nat) (fun j => j ≤ (acL t (nth (lmL t) k)).length) (fun j => [(1, .r 1 0), (2, .r 2 0), (3, .r 3 0), (5, .r 5 0), (16, .d (rows (acsTo t (lmL t).length))), (19, .o 135), (121, .d (ints (lmL t))), (122, I ((lmL t).length)), (123, I (k)), (139, .d (ints (acL t (nth (lmL t) k)))), (140, I ((acL t (nth (lmL t) k)).length)), (141, I (j))]) (fun j => [(191, .own 1 22 ((qR t k).map fun r => [ints r])), (192, .own 1 3 ((qB t k).map fun n => [D.v (.int .i64 n)])), (193, .own 1 3 ((obTo t t.ops.length).map fun n => [D.v (.int .i64 n)])), (135, .own 1 3 ((lRowS t (nth (lmL t) k) j).map fun n => [D.v (.int .i64 n)])), (1, .box [I (t.facts), .d (ints t.ini), .d (ints t.goal), .d (sopsD t.ops)]), (2, .box [.d (.v (.slice none 0 0)), .d (.v (.slice none 0 0)), .d (.v (.slice none 0 0))]), (3, .box [I (0), I (0)]), (5, .box [.o 191, .o 192, .o 193])]) (fun j => (acL t (nth (lmL t) k)).length - j) 0 (by omega) ?_ ?_
              ·exact .sl <| .sl <| .sl <| .sl <| .sl <| .sl <| .sl <| .sl <| .sl <| .slot rfl (Le.of_eq (by rw [hac])) <| .slot rfl (Le.of_eq (by rw [hac])) <| .slot rfl (Le.of_eq (by simp)) <| .mem rfl <| .mem rfl <| .mem rfl <| .memEq rfl (by rw [ls_0, el22]; first | (simp; done) | (simp; rfl)) <| .mem rfl <| .mem rfl <| .mem rfl <| .mem rfl <| .nil
              ·rintro j hjl
               refine .seq ?_; refine .region ?_; refine .x (.b blss) ?_; refine .sq ?_; refine .seq ?_; refine .cond rfl (fun c142 => ?_) (fun c142 => ?_)
               ·have hj : j < (acL t (nth (lmL t) k)).length := by simpa using c142
                have hr := acL_in hj
                have hal : (acL t (nth (lmL t) k)).length ≤ t.ops.length := acTo_len
                refine .skip ?_; refine .seq ?_; refine .seq ?_; refine .block ?_; refine .seq ?_; refine .region ?_; refine .x (OpSem.idxL rfl rfl rfl es22 (by omega) (by omega)) ?_; refine .x (OpSem.load1 rfl rfl vs3 rfl) ?_; refine .a ?_; refine .y ?_; refine .m ?_; refine .m ?_; refine .x (OpSem.idxo rfl rfl rfl rfl es22 (by omega) (by simp [ls_len]; omega)) ?_; refine .storeq rfl rfl rfl rfl rfl rfl rfl vs3 (rows_get (by omega) (by rw [ls_len]; omega)) (by simp) ?_; refine .nil ?_; refine .block_normal ?_; refine .y ?_; refine .x .ad ?_; refine .m ?_; refine .nil ?_; refine .again (j + 1) (by omega) ?_ (by omega); exact .sl <| .sl <| .sl <| .sl <| .sl <| .sl <| .sl <| .sl <| .sl <| .sl <| .sl <| .slot rfl (Le.of_eq (by simp)) <| .mem rfl <| .mem rfl <| .mem rfl <| .memEq rfl (by rw [← ls_s hj]; exact congrArg (Mo.own 1 3) (rows_set (f := fun n => [D.v (.int .i64 n)]))) <| .mem rfl <| .mem rfl <| .mem rfl <| .mem rfl <| .nil
               ·have hj : j = (acL t (nth (lmL t) k)).length := by simp at c142; omega
                subst hj
                refine .exit ?_; refine .pass_exit ?_; refine .pass_exit ?_; refine .block_same ?_; refine .meet ?_; exact .sl <| .sl <| .sl <| .sl <| .sl <| .sl <| .sl <| .sl <| .sl <| .mem rfl <| .mem rfl <| .mem rfl <| .mem rfl <| .memEq rfl (by rw [ls_end]) <| .mem rfl <| .mem rfl <| .mem rfl <| .nil
             ·refine .freeze 135 rfl ?_; refine .lattice 13 [Ff, Ff, Ff, Ff, Ff, Ff, Ff, Ff, Ff, Ff, Ff, Ff, Ff] mixed rfl rfl ?_; refine .share 0 [Tt, Tt, Tt, Tt, Tt, Tt, Tt, Tt, Tt, Tt, Tt, Tt, Tt] (cp42E t k) ((5, .box [.o 191, .o 192, .o 193]) :: (191, .own 1 22 ((qR t (k + 1)).map fun r => [ints r])) :: (192, .own 1 3 ((qB t (k + 1)).map fun n => [D.v (.int .i64 n)])) :: cp42M t k) ?_ (fun h_66 => ?_)
              ·refine .fin (by kernel_rfl) ?_; refine .block_normal ?_; refine .y ?_; refine .x .ad ?_; refine .m ?_; refine .nil ?_; refine .again (k + 1) (by omega) ?_ (by omega); exact .sl <| .sl <| .sl <| .sl <| .sl <| .sl <| .sl <| .slot rfl (Le.of_eq (by simp)) <| .mem rfl <| .mem rfl <| .mem rfl <| .mem rfl <| .mem rfl <| .mem rfl <| .mem rfl <| .nil
              refine .share 1 [Tt, Tt, Tt, Tt, Tt, Tt, Tt, Tt, Tt, Tt, Tt, Tt, Ff] ((157, .o 192) :: (159, .r 5 1) :: cp42E t k) ((5, .box [.o 191, .u, .o 193]) :: (191, .own 1 22 ((qR t (k + 1)).map fun r => [ints r])) :: (192, .own 1 3 ((qB t (k + 1)).map fun n => [D.v (.int .i64 n)])) :: cp42M t k) ?_ (fun h_65 => ?_)
              ·refine .st [12] ⟨?_, trivial⟩
               ·refine ⟨_, rfl, ?_⟩
                refine .sb vs22 ?_; exact .j h_66
              refine .share 2 [Tt, Tt, Tt, Tt, Tt, Tt, Tt, Tt, Tt, Tt, Tt, Ff, Ff] ((157, .o 192) :: cp42E t k) ((5, .box [.o 191, .u, .o 193]) :: (191, .own 1 22 ((qR t (k + 1)).map fun r => [ints r])) :: (192, .own 1 3 ((qB t (k + 1)).map fun n => [D.v (.int .i64 n)])) :: cp42M t k) ?_ (fun h_64 => ?_)
              ·refine .st [11] ⟨?_, trivial⟩
               ·refine ⟨_, rfl, ?_⟩
                refine .x (.f fo39_1) ?_; exact .j h_65
              refine .share 3 [Tt, Tt, Tt, Tt, Tt, Tt, Tt, Tt, Tt, Tt, Ff, Ff, Ff] ((153, .o 191) :: (157, .o 192) :: (158, .r 5 0) :: cp42E t k) ((5, .box [.u, .u, .o 193]) :: (191, .own 1 22 ((qR t (k + 1)).map fun r => [ints r])) :: (192, .own 1 3 ((qB t (k + 1)).map fun n => [D.v (.int .i64 n)])) :: cp42M t k) ?_ (fun h_63 => ?_)
              ·refine .st [10] ⟨?_, trivial⟩
               ·refine ⟨_, rfl, ?_⟩
                refine .sb vs37 ?_; exact .j h_64
              refine .share 4 [Tt, Tt, Tt, Tt, Tt, Tt, Tt, Tt, Tt, Ff, Ff, Ff, Ff] ((153, .o 191) :: (157, .o 192) :: cp42E t k) ((5, .box [.u, .u, .o 193]) :: (191, .own 1 22 ((qR t (k + 1)).map fun r => [ints r])) :: (192, .own 1 3 ((qB t (k + 1)).map fun n => [D.v (.int .i64 n)])) :: cp42M t k) ?_ (fun h_61 => ?_)
              ·refine .st [9] ⟨?_, trivial⟩
               ·refine ⟨_, rfl, ?_⟩
                refine .x (.f fo39_0) ?_; exact .j h_63
              refine .share 4 [Tt, Tt, Tt, Tt, Tt, Tt, Tt, Tt, Ff, Tt, Ff, Ff, Ff] ((153, .o 191) :: (155, .o 192) :: (156, .d (.s 1 [[.v (.int .i64 (-1))]])) :: (158, .r 5 0) :: cp42E t k) ((5, .box [.u, .o 192, .o 193]) :: (191, .own 1 22 ((qR t (k + 1)).map fun r => [ints r])) :: (192, .own 1 3 ((qB t k).map fun n => [D.v (.int .i64 n)])) :: cp42M t k) ?_ (fun h_62 => ?_)
              ·refine .st [8] ⟨?_, trivial⟩
               ·refine ⟨_, rfl, ?_⟩
                refine .ap es22 el22 zc3 by3 ?_; exact TrL.join h_63 rfl (.sl <| .sl <| .sl <| .sl <| .sl <| .sl <| .sl <| .sl <| .sl <| .sl <| .sl <| .sl <| .mem rfl <| .mem rfl <| .memEq rfl (by rw [hrt.2]; simp) <| .mem rfl <| .mem rfl <| .mem rfl <| .mem rfl <| .nil)
              refine .share 5 [Tt, Tt, Tt, Tt, Tt, Tt, Tt, Tt, Ff, Ff, Ff, Ff, Ff] ((153, .o 191) :: (155, .o 192) :: (156, .d (.s 1 [[.v (.int .i64 (-1))]])) :: cp42E t k) ((5, .box [.u, .o 192, .o 193]) :: (191, .own 1 22 ((qR t (k + 1)).map fun r => [ints r])) :: (192, .own 1 3 ((qB t k).map fun n => [D.v (.int .i64 n)])) :: cp42M t k) ?_ (fun h_59 => ?_)
              ·refine .st [8, 9] ⟨?_, ?_, trivial⟩
               ·refine ⟨_, rfl, ?_⟩
                refine .ap es22 el22 zc3 by3 ?_; exact TrL.join h_61 rfl (.sl <| .sl <| .sl <| .sl <| .sl <| .sl <| .sl <| .sl <| .sl <| .sl <| .sl <| .mem rfl <| .mem rfl <| .memEq rfl (by rw [hrt.2]; simp) <| .mem rfl <| .mem rfl <| .mem rfl <| .mem rfl <| .nil)
               ·refine ⟨_, rfl, ?_⟩
                refine .x (.f fo39_0) ?_; exact .j h_62
              refine .share 5 [Tt, Tt, Tt, Tt, Tt, Tt, Tt, Ff, Ff, Tt, Ff, Ff, Ff] ((153, .o 191) :: (155, .o 192) :: (158, .r 5 0) :: cp42E t k) ((5, .box [.u, .o 192, .o 193]) :: (191, .own 1 22 ((qR t (k + 1)).map fun r => [ints r])) :: (192, .own 1 3 ((qB t k).map fun n => [D.v (.int .i64 n)])) :: cp42M t k) ?_ (fun h_60 => ?_)
              ·refine .st [7] ⟨?_, trivial⟩
               ·refine ⟨_, rfl, ?_⟩
                refine .x (.bs es22 ze22) ?_; exact .j h_62
              refine .share 6 [Tt, Tt, Tt, Tt, Tt, Tt, Tt, Ff, Ff, Ff, Ff, Ff, Ff] ((153, .o 191) :: (155, .o 192) :: cp42E t k) ((5, .box [.u, .o 192, .o 193]) :: (191, .own 1 22 ((qR t (k + 1)).map fun r => [ints r])) :: (192, .own 1 3 ((qB t k).map fun n => [D.v (.int .i64 n)])) :: cp42M t k) ?_ (fun h_56 => ?_)
              ·refine .st [7, 9] ⟨?_, ?_, trivial⟩
               ·refine ⟨_, rfl, ?_⟩
                refine .x (.bs es22 ze22) ?_; exact .j h_59
               ·refine ⟨_, rfl, ?_⟩
                refine .x (.f fo39_0) ?_; exact .j h_60
              refine .share 6 [Tt, Tt, Tt, Tt, Tt, Tt, Ff, Tt, Ff, Ff, Ff, Ff, Ff] ((153, .o 191) :: (154, .r 5 1) :: (156, .d (.s 1 [[.v (.int .i64 (-1))]])) :: cp42E t k) ((5, .box [.u, .o 192, .o 193]) :: (191, .own 1 22 ((qR t (k + 1)).map fun r => [ints r])) :: (192, .own 1 3 ((qB t k).map fun n => [D.v (.int .i64 n)])) :: cp42M t k) ?_ (fun h_57 => ?_)
              ·refine .st [6] ⟨?_, trivial⟩
               ·refine ⟨_, rfl, ?_⟩
                refine .x (.l vs22) ?_; exact .j h_59
              refine .share 6 [Tt, Tt, Tt, Tt, Ff, Tt, Tt, Tt, Ff, Ff, Ff, Ff, Ff] ((150, .o 191) :: (152, .d (.s 1 [[ints (lRow t (nth (lmL t) k))]])) :: (155, .o 192) :: (156, .d (.s 1 [[.v (.int .i64 (-1))]])) :: cp42E t k) ((5, .box [.o 191, .o 192, .o 193]) :: (191, .own 1 22 ((qR t k).map fun r => [ints r])) :: (192, .own 1 3 ((qB t k).map fun n => [D.v (.int .i64 n)])) :: cp42M t k) ?_ (fun h_58 => ?_)
              ·refine .st [4] ⟨?_, trivial⟩
               ·refine ⟨_, rfl, ?_⟩
                refine .ap es37 el37 zc22 by22 ?_; exact TrL.join h_59 rfl (.sl <| .sl <| .sl <| .sl <| .sl <| .sl <| .sl <| .sl <| .sl <| .sl <| .sl <| .sl <| .mem rfl <| .memEq rfl (by rw [hrt.1, List.map_append]; rfl) <| .mem rfl <| .mem rfl <| .mem rfl <| .mem rfl <| .mem rfl <| .nil)
              refine .share 7 [Tt, Tt, Tt, Tt, Tt, Tt, Ff, Ff, Ff, Ff, Ff, Ff, Ff] ((153, .o 191) :: (154, .r 5 1) :: cp42E t k) ((5, .box [.u, .o 192, .o 193]) :: (191, .own 1 22 ((qR t (k + 1)).map fun r => [ints r])) :: (192, .own 1 3 ((qB t k).map fun n => [D.v (.int .i64 n)])) :: cp42M t k) ?_ (fun h_50 => ?_)
              ·refine .st [6, 7] ⟨?_, ?_, trivial⟩
               ·refine ⟨_, rfl, ?_⟩
                refine .x (.l vs22) ?_; exact .j h_56
               ·refine ⟨_, rfl, ?_⟩
                refine .x (.bs es22 ze22) ?_; exact .j h_57
              refine .share 7 [Tt, Tt, Tt, Tt, Tt, Ff, Ff, Tt, Ff, Ff, Ff, Ff, Ff] ((153, .o 191) :: (156, .d (.s 1 [[.v (.int .i64 (-1))]])) :: cp42E t k) ((5, .box [.u, .o 192, .o 193]) :: (191, .own 1 22 ((qR t (k + 1)).map fun r => [ints r])) :: (192, .own 1 3 ((qB t k).map fun n => [D.v (.int .i64 n)])) :: cp42M t k) ?_ (fun h_51 => ?_)
              ·refine .st [5] ⟨?_, trivial⟩
               ·refine ⟨_, rfl, ?_⟩
                refine .x (.f fo39_1) ?_; exact .j h_57
              refine .share 7 [Tt, Tt, Tt, Tt, Ff, Tt, Tt, Ff, Ff, Ff, Ff, Ff, Ff] ((150, .o 191) :: (152, .d (.s 1 [[ints (lRow t (nth (lmL t) k))]])) :: (155, .o 192) :: cp42E t k) ((5, .box [.o 191, .o 192, .o 193]) :: (191, .own 1 22 ((qR t k).map fun r => [ints r])) :: (192, .own 1 3 ((qB t k).map fun n => [D.v (.int .i64 n)])) :: cp42M t k) ?_ (fun h_52 => ?_)
              ·refine .st [4, 7] ⟨?_, ?_, trivial⟩
               ·refine ⟨_, rfl, ?_⟩
                refine .ap es37 el37 zc22 by22 ?_; exact TrL.join h_56 rfl (.sl <| .sl <| .sl <| .sl <| .sl <| .sl <| .sl <| .sl <| .sl <| .sl <| .sl <| .mem rfl <| .memEq rfl (by rw [hrt.1, List.map_append]; rfl) <| .mem rfl <| .mem rfl <| .mem rfl <| .mem rfl <| .mem rfl <| .nil)
               ·refine ⟨_, rfl, ?_⟩
                refine .x (.bs es22 ze22) ?_; exact .j h_58
              refine .share 7 [Tt, Tt, Tt, Tt, Ff, Tt, Ff, Tt, Ff, Ff, Ff, Ff, Ff] ((150, .o 191) :: (152, .d (.s 1 [[ints (lRow t (nth (lmL t) k))]])) :: (154, .r 5 1) :: (156, .d (.s 1 [[.v (.int .i64 (-1))]])) :: cp42E t k) ((5, .box [.o 191, .o 192, .o 193]) :: (191, .own 1 22 ((qR t k).map fun r => [ints r])) :: (192, .own 1 3 ((qB t k).map fun n => [D.v (.int .i64 n)])) :: cp42M t k) ?_ (fun h_53 => ?_)
              ·refine .st [4, 6] ⟨?_, ?_, trivial⟩
               ·refine ⟨_, rfl, ?_⟩
                refine .ap es37 el37 zc22 by22 ?_; exact TrL.join h_57 rfl (.sl <| .sl <| .sl <| .sl <| .sl <| .sl <| .sl <| .sl <| .sl <| .sl <| .sl <| .sl <| .mem rfl <| .memEq rfl (by rw [hrt.1, List.map_append]; rfl) <| .mem rfl <| .mem rfl <| .mem rfl <| .mem rfl <| .mem rfl <| .nil)
               ·refine ⟨_, rfl, ?_⟩
                refine .x (.l vs22) ?_; exact .j h_58
              refine .share 7 [Tt, Tt, Tt, Ff, Ff, Tt, Tt, Tt, Ff, Ff, Ff, Ff, Ff] ((150, .o 191) :: (151, .d (ints (lRow t (nth (lmL t) k)))) :: (155, .o 192) :: (156, .d (.s 1 [[.v (.int .i64 (-1))]])) :: cp42E t k) ((5, .box [.o 191, .o 192, .o 193]) :: (191, .own 1 22 ((qR t k).map fun r => [ints r])) :: (192, .own 1 3 ((qB t k).map fun n => [D.v (.int .i64 n)])) :: cp42M t k) ?_ (fun h_54 => ?_)
              ·refine .st [3] ⟨?_, trivial⟩
               ·refine ⟨_, rfl, ?_⟩
                refine .x (.bs es37 ze37) ?_; exact .j h_58
              refine .share 7 [Tt, Ff, Tt, Tt, Ff, Tt, Tt, Tt, Ff, Ff, Ff, Ff, Ff] ((149, .r 5 0) :: (152, .d (.s 1 [[ints (lRow t (nth (lmL t) k))]])) :: (155, .o 192) :: (156, .d (.s 1 [[.v (.int .i64 (-1))]])) :: cp42E t k) ((5, .box [.o 191, .o 192, .o 193]) :: (191, .own 1 22 ((qR t k).map fun r => [ints r])) :: (192, .own 1 3 ((qB t k).map fun n => [D.v (.int .i64 n)])) :: cp42M t k) ?_ (fun h_55 => ?_)
              ·refine .st [1] ⟨?_, trivial⟩
               ·refine ⟨_, rfl, ?_⟩
                refine .x (.l vs37) ?_; exact .j h_58
              refine .share 8 [Tt, Tt, Tt, Tt, Tt, Ff, Ff, Ff, Ff, Ff, Ff, Ff, Ff] ((153, .o 191) :: cp42E t k) ((5, .box [.u, .o 192, .o 193]) :: (191, .own 1 22 ((qR t (k + 1)).map fun r => [ints r])) :: (192, .own 1 3 ((qB t k).map fun n => [D.v (.int .i64 n)])) :: cp42M t k) ?_ (fun h_40 => ?_)
              ·refine .st [5, 7] ⟨?_, ?_, trivial⟩
               ·refine ⟨_, rfl, ?_⟩
                refine .x (.f fo39_1) ?_; exact .j h_50
               ·refine ⟨_, rfl, ?_⟩
                refine .x (.bs es22 ze22) ?_; exact .j h_51
              refine .share 8 [Tt, Tt, Tt, Tt, Ff, Tt, Ff, Ff, Ff, Ff, Ff, Ff, Ff] ((150, .o 191) :: (152, .d (.s 1 [[ints (lRow t (nth (lmL t) k))]])) :: (154, .r 5 1) :: cp42E t k) ((5, .box [.o 191, .o 192, .o 193]) :: (191, .own 1 22 ((qR t k).map fun r => [ints r])) :: (192, .own 1 3 ((qB t k).map fun n => [D.v (.int .i64 n)])) :: cp42M t k) ?_ (fun h_41 => ?_)
              ·refine .st [4, 6, 7] ⟨?_, ?_, ?_, trivial⟩
               ·refine ⟨_, rfl, ?_⟩
                refine .ap es37 el37 zc22 by22 ?_; exact TrL.join h_50 rfl (.sl <| .sl <| .sl <| .sl <| .sl <| .sl <| .sl <| .sl <| .sl <| .sl <| .sl <| .mem rfl <| .memEq rfl (by rw [hrt.1, List.map_append]; rfl) <| .mem rfl <| .mem rfl <| .mem rfl <| .mem rfl <| .mem rfl <| .nil)
               ·refine ⟨_, rfl, ?_⟩
                refine .x (.l vs22) ?_; exact .j h_52
               ·refine ⟨_, rfl, ?_⟩
                refine .x (.bs es22 ze22) ?_; exact .j h_53
              refine .share 8 [Tt, Tt, Tt, Tt, Ff, Ff, Ff, Tt, Ff, Ff, Ff, Ff, Ff] ((150, .o 191) :: (152, .d (.s 1 [[ints (lRow t (nth (lmL t) k))]])) :: (156, .d (.s 1 [[.v (.int .i64 (-1))]])) :: cp42E t k) ((5, .box [.o 191, .o 192, .o 193]) :: (191, .own 1 22 ((qR t k).map fun r => [ints r])) :: (192, .own 1 3 ((qB t k).map fun n => [D.v (.int .i64 n)])) :: cp42M t k) ?_ (fun h_42 => ?_)
              ·refine .st [4, 5] ⟨?_, ?_, trivial⟩
               ·refine ⟨_, rfl, ?_⟩
                refine .ap es37 el37 zc22 by22 ?_; exact TrL.join h_51 rfl (.sl <| .sl <| .sl <| .sl <| .sl <| .sl <| .sl <| .sl <| .sl <| .sl <| .sl <| .mem rfl <| .memEq rfl (by rw [hrt.1, List.map_append]; rfl) <| .mem rfl <| .mem rfl <| .mem rfl <| .mem rfl <| .mem rfl <| .nil)
               ·refine ⟨_, rfl, ?_⟩
                refine .x (.f fo39_1) ?_; exact .j h_53
              refine .share 8 [Tt, Tt, Tt, Ff, Ff, Tt, Tt, Ff, Ff, Ff, Ff, Ff, Ff] ((150, .o 191) :: (151, .d (ints (lRow t (nth (lmL t) k)))) :: (155, .o 192) :: cp42E t k) ((5, .box [.o 191, .o 192, .o 193]) :: (191, .own 1 22 ((qR t k).map fun r => [ints r])) :: (192, .own 1 3 ((qB t k).map fun n => [D.v (.int .i64 n)])) :: cp42M t k) ?_ (fun h_43 => ?_)
              ·refine .st [3, 7] ⟨?_, ?_, trivial⟩
               ·refine ⟨_, rfl, ?_⟩
                refine .x (.bs es37 ze37) ?_; exact .j h_52
               ·refine ⟨_, rfl, ?_⟩
                refine .x (.bs es22 ze22) ?_; exact .j h_54
              refine .share 8 [Tt, Tt, Tt, Ff, Ff, Tt, Ff, Tt, Ff, Ff, Ff, Ff, Ff] ((150, .o 191) :: (151, .d (ints (lRow t (nth (lmL t) k)))) :: (154, .r 5 1) :: (156, .d (.s 1 [[.v (.int .i64 (-1))]])) :: cp42E t k) ((5, .box [.o 191, .o 192, .o 193]) :: (191, .own 1 22 ((qR t k).map fun r => [ints r])) :: (192, .own 1 3 ((qB t k).map fun n => [D.v (.int .i64 n)])) :: cp42M t k) ?_ (fun h_44 => ?_)
              ·refine .st [3, 6] ⟨?_, ?_, trivial⟩
               ·refine ⟨_, rfl, ?_⟩
                refine .x (.bs es37 ze37) ?_; exact .j h_53
               ·refine ⟨_, rfl, ?_⟩
                refine .x (.l vs22) ?_; exact .j h_54
              refine .share 8 [Tt, Tt, Ff, Ff, Ff, Tt, Tt, Tt, Ff, Ff, Ff, Ff, Ff] ((150, .o 191) :: (155, .o 192) :: (156, .d (.s 1 [[.v (.int .i64 (-1))]])) :: cp42E t k) ((5, .box [.o 191, .o 192, .o 193]) :: (191, .own 1 22 ((qR t k).map fun r => [ints r])) :: (192, .own 1 3 ((qB t k).map fun n => [D.v (.int .i64 n)])) :: cp42M t k) ?_ (fun h_45 => ?_)
              ·refine .st [2] ⟨?_, trivial⟩
               ·refine ⟨_, rfl, ?_⟩
                refine .m ?_; exact .j h_54
              refine .share 8 [Tt, Ff, Tt, Tt, Ff, Tt, Tt, Ff, Ff, Ff, Ff, Ff, Ff] ((149, .r 5 0) :: (152, .d (.s 1 [[ints (lRow t (nth (lmL t) k))]])) :: (155, .o 192) :: cp42E t k) ((5, .box [.o 191, .o 192, .o 193]) :: (191, .own 1 22 ((qR t k).map fun r => [ints r])) :: (192, .own 1 3 ((qB t k).map fun n => [D.v (.int .i64 n)])) :: cp42M t k) ?_ (fun h_46 => ?_)
              ·refine .st [1, 7] ⟨?_, ?_, trivial⟩
               ·refine ⟨_, rfl, ?_⟩
                refine .x (.l vs37) ?_; exact .j h_52
               ·refine ⟨_, rfl, ?_⟩
                refine .x (.bs es22 ze22) ?_; exact .j h_55
              refine .share 8 [Tt, Ff, Tt, Tt, Ff, Tt, Ff, Tt, Ff, Ff, Ff, Ff, Ff] ((149, .r 5 0) :: (152, .d (.s 1 [[ints (lRow t (nth (lmL t) k))]])) :: (154, .r 5 1) :: (156, .d (.s 1 [[.v (.int .i64 (-1))]])) :: cp42E t k) ((5, .box [.o 191, .o 192, .o 193]) :: (191, .own 1 22 ((qR t k).map fun r => [ints r])) :: (192, .own 1 3 ((qB t k).map fun n => [D.v (.int .i64 n)])) :: cp42M t k) ?_ (fun h_47 => ?_)
              ·refine .st [1, 6] ⟨?_, ?_, trivial⟩
               ·refine ⟨_, rfl, ?_⟩
                refine .x (.l vs37) ?_; exact .j h_53
               ·refine ⟨_, rfl, ?_⟩
                refine .x (.l vs22) ?_; exact .j h_55
              refine .share 8 [Tt, Ff, Tt, Ff, Ff, Tt, Tt, Tt, Ff, Ff, Ff, Ff, Ff] ((149, .r 5 0) :: (151, .d (ints (lRow t (nth (lmL t) k)))) :: (155, .o 192) :: (156, .d (.s 1 [[.v (.int .i64 (-1))]])) :: cp42E t k) ((5, .box [.o 191, .o 192, .o 193]) :: (191, .own 1 22 ((qR t k).map fun r => [ints r])) :: (192, .own 1 3 ((qB t k).map fun n => [D.v (.int .i64 n)])) :: cp42M t k) ?_ (fun h_48 => ?_)
              ·refine .st [1, 3] ⟨?_, ?_, trivial⟩
               ·refine ⟨_, rfl, ?_⟩
                refine .x (.l vs37) ?_; exact .j h_54
               ·refine ⟨_, rfl, ?_⟩
                refine .x (.bs es37 ze37) ?_; exact .j h_55
              refine .share 8 [Ff, Ff, Tt, Tt, Ff, Tt, Tt, Tt, Ff, Ff, Ff, Ff, Ff] ((152, .d (.s 1 [[ints (lRow t (nth (lmL t) k))]])) :: (155, .o 192) :: (156, .d (.s 1 [[.v (.int .i64 (-1))]])) :: cp42E t k) ((5, .box [.o 191, .o 192, .o 193]) :: (191, .own 1 22 ((qR t k).map fun r => [ints r])) :: (192, .own 1 3 ((qB t k).map fun n => [D.v (.int .i64 n)])) :: cp42M t k) ?_ (fun h_49 => ?_)
              ·refine .st [0] ⟨?_, trivial⟩
               ·refine ⟨_, rfl, ?_⟩
                refine .x (.f fo39_0) ?_; exact .j h_55
              refine .share 9 [Tt, Tt, Tt, Tt, Ff, Ff, Ff, Ff, Ff, Ff, Ff, Ff, Ff] ((150, .o 191) :: (152, .d (.s 1 [[ints (lRow t (nth (lmL t) k))]])) :: cp42E t k) ((5, .box [.o 191, .o 192, .o 193]) :: (191, .own 1 22 ((qR t k).map fun r => [ints r])) :: (192, .own 1 3 ((qB t k).map fun n => [D.v (.int .i64 n)])) :: cp42M t k) ?_ (fun h_27 => ?_)
              ·refine .st [4, 5, 7] ⟨?_, ?_, ?_, trivial⟩
               ·refine ⟨_, rfl, ?_⟩
                refine .ap es37 el37 zc22 by22 ?_; exact TrL.join h_40 rfl (.sl <| .sl <| .sl <| .sl <| .sl <| .sl <| .sl <| .sl <| .sl <| .sl <| .mem rfl <| .memEq rfl (by rw [hrt.1, List.map_append]; rfl) <| .mem rfl <| .mem rfl <| .mem rfl <| .mem rfl <| .mem rfl <| .nil)
               ·refine ⟨_, rfl, ?_⟩
                refine .x (.f fo39_1) ?_; exact .j h_41
               ·refine ⟨_, rfl, ?_⟩
                refine .x (.bs es22 ze22) ?_; exact .j h_42
              refine .share 9 [Tt, Tt, Tt, Ff, Ff, Tt, Ff, Ff, Ff, Ff, Ff, Ff, Ff] ((150, .o 191) :: (151, .d (ints (lRow t (nth (lmL t) k)))) :: (154, .r 5 1) :: cp42E t k) ((5, .box [.o 191, .o 192, .o 193]) :: (191, .own 1 22 ((qR t k).map fun r => [ints r])) :: (192, .own 1 3 ((qB t k).map fun n => [D.v (.int .i64 n)])) :: cp42M t k) ?_ (fun h_28 => ?_)
              ·refine .st [3, 6, 7] ⟨?_, ?_, ?_, trivial⟩
               ·refine ⟨_, rfl, ?_⟩
                refine .x (.bs es37 ze37) ?_; exact .j h_41
               ·refine ⟨_, rfl, ?_⟩
                refine .x (.l vs22) ?_; exact .j h_43
               ·refine ⟨_, rfl, ?_⟩
                refine .x (.bs es22 ze22) ?_; exact .j h_44
              refine .share 9 [Tt, Tt, Tt, Ff, Ff, Ff, Ff, Tt, Ff, Ff, Ff, Ff, Ff] ((150, .o 191) :: (151, .d (ints (lRow t (nth (lmL t) k)))) :: (156, .d (.s 1 [[.v (.int .i64 (-1))]])) :: cp42E t k) ((5, .box [.o 191, .o 192, .o 193]) :: (191, .own 1 22 ((qR t k).map fun r => [ints r])) :: (192, .own 1 3 ((qB t k).map fun n => [D.v (.int .i64 n)])) :: cp42M t k) ?_ (fun h_29 => ?_)
              ·refine .st [3, 5] ⟨?_, ?_, trivial⟩
               ·refine ⟨_, rfl, ?_⟩
                refine .x (.bs es37 ze37) ?_; exact .j h_42
               ·refine ⟨_, rfl, ?_⟩
                refine .x (.f fo39_1) ?_; exact .j h_44
              refine .share 9 [Tt, Tt, Ff, Ff, Ff, Tt, Tt, Ff, Ff, Ff, Ff, Ff, Ff] ((150, .o 191) :: (155, .o 192) :: cp42E t k) ((5, .box [.o 191, .o 192, .o 193]) :: (191, .own 1 22 ((qR t k).map fun r => [ints r])) :: (192, .own 1 3 ((qB t k).map fun n => [D.v (.int .i64 n)])) :: cp42M t k) ?_ (fun h_30 => ?_)
              ·refine .st [2, 7] ⟨?_, ?_, trivial⟩
               ·refine ⟨_, rfl, ?_⟩
                refine .m ?_; exact .j h_43
               ·refine ⟨_, rfl, ?_⟩
                refine .x (.bs es22 ze22) ?_; exact .j h_45
              refine .share 9 [Tt, Tt, Ff, Ff, Ff, Tt, Ff, Tt, Ff, Ff, Ff, Ff, Ff] ((150, .o 191) :: (154, .r 5 1) :: (156, .d (.s 1 [[.v (.int .i64 (-1))]])) :: cp42E t k) ((5, .box [.o 191, .o 192, .o 193]) :: (191, .own 1 22 ((qR t k).map fun r => [ints r])) :: (192, .own 1 3 ((qB t k).map fun n => [D.v (.int .i64 n)])) :: cp42M t k) ?_ (fun h_31 => ?_)
              ·refine .st [2, 6] ⟨?_, ?_, trivial⟩
               ·refine ⟨_, rfl, ?_⟩
                refine .m ?_; exact .j h_44
               ·refine ⟨_, rfl, ?_⟩
                refine .x (.l vs22) ?_; exact .j h_45
              refine .share 9 [Tt, Ff, Tt, Tt, Ff, Tt, Ff, Ff, Ff, Ff, Ff, Ff, Ff] ((149, .r 5 0) :: (152, .d (.s 1 [[ints (lRow t (nth (lmL t) k))]])) :: (154, .r 5 1) :: cp42E t k) ((5, .box [.o 191, .o 192, .o 193]) :: (191, .own 1 22 ((qR t k).map fun r => [ints r])) :: (192, .own 1 3 ((qB t k).map fun n => [D.v (.int .i64 n)])) :: cp42M t k) ?_ (fun h_32 => ?_)
              ·refine .st [1, 6, 7] ⟨?_, ?_, ?_, trivial⟩
               ·refine ⟨_, rfl, ?_⟩
                refine .x (.l vs37) ?_; exact .j h_41
               ·refine ⟨_, rfl, ?_⟩
                refine .x (.l vs22) ?_; exact .j h_46
               ·refine ⟨_, rfl, ?_⟩
                refine .x (.bs es22 ze22) ?_; exact .j h_47
              refine .share 9 [Tt, Ff, Tt, Tt, Ff, Ff, Ff, Tt, Ff, Ff, Ff, Ff, Ff] ((149, .r 5 0) :: (152, .d (.s 1 [[ints (lRow t (nth (lmL t) k))]])) :: (156, .d (.s 1 [[.v (.int .i64 (-1))]])) :: cp42E t k) ((5, .box [.o 191, .o 192, .o 193]) :: (191, .own 1 22 ((qR t k).map fun r => [ints r])) :: (192, .own 1 3 ((qB t k).map fun n => [D.v (.int .i64 n)])) :: cp42M t k) ?_ (fun h_33 => ?_)
              ·refine .st [1, 5] ⟨?_, ?_, trivial⟩
               ·refine ⟨_, rfl, ?_⟩
                refine .x (.l vs37) ?_; exact .j h_42
               ·refine ⟨_, rfl, ?_⟩
                refine .x (.f fo39_1) ?_; exact .j h_47
              refine .share 9 [Tt, Ff, Tt, Ff, Ff, Tt, Tt, Ff, Ff, Ff, Ff, Ff, Ff] ((149, .r 5 0) :: (151, .d (ints (lRow t (nth (lmL t) k)))) :: (155, .o 192) :: cp42E t k) ((5, .box [.o 191, .o 192, .o 193]) :: (191, .own 1 22 ((qR t k).map fun r => [ints r])) :: (192, .own 1 3 ((qB t k).map fun n => [D.v (.int .i64 n)])) :: cp42M t k) ?_ (fun h_34 => ?_)
              ·refine .st [1, 3, 7] ⟨?_, ?_, ?_, trivial⟩
               ·refine ⟨_, rfl, ?_⟩
                refine .x (.l vs37) ?_; exact .j h_43
               ·refine ⟨_, rfl, ?_⟩
                refine .x (.bs es37 ze37) ?_; exact .j h_46
               ·refine ⟨_, rfl, ?_⟩
                refine .x (.bs es22 ze22) ?_; exact .j h_48
              refine .share 9 [Tt, Ff, Tt, Ff, Ff, Tt, Ff, Tt, Ff, Ff, Ff, Ff, Ff] ((149, .r 5 0) :: (151, .d (ints (lRow t (nth (lmL t) k)))) :: (154, .r 5 1) :: (156, .d (.s 1 [[.v (.int .i64 (-1))]])) :: cp42E t k) ((5, .box [.o 191, .o 192, .o 193]) :: (191, .own 1 22 ((qR t k).map fun r => [ints r])) :: (192, .own 1 3 ((qB t k).map fun n => [D.v (.int .i64 n)])) :: cp42M t k) ?_ (fun h_35 => ?_)
              ·refine .st [1, 3, 6] ⟨?_, ?_, ?_, trivial⟩
               ·refine ⟨_, rfl, ?_⟩
                refine .x (.l vs37) ?_; exact .j h_44
               ·refine ⟨_, rfl, ?_⟩
                refine .x (.bs es37 ze37) ?_; exact .j h_47
               ·refine ⟨_, rfl, ?_⟩
                refine .x (.l vs22) ?_; exact .j h_48
              refine .share 9 [Tt, Ff, Ff, Ff, Ff, Tt, Tt, Tt, Ff, Ff, Ff, Ff, Ff] ((149, .r 5 0) :: (155, .o 192) :: (156, .d (.s 1 [[.v (.int .i64 (-1))]])) :: cp42E t k) ((5, .box [.o 191, .o 192, .o 193]) :: (191, .own 1 22 ((qR t k).map fun r => [ints r])) :: (192, .own 1 3 ((qB t k).map fun n => [D.v (.int .i64 n)])) :: cp42M t k) ?_ (fun h_36 => ?_)
              ·refine .st [1, 2] ⟨?_, ?_, trivial⟩
               ·refine ⟨_, rfl, ?_⟩
                refine .x (.l vs37) ?_; exact .j h_45
               ·refine ⟨_, rfl, ?_⟩
                refine .m ?_; exact .j h_48
              refine .share 9 [Ff, Ff, Tt, Tt, Ff, Tt, Tt, Ff, Ff, Ff, Ff, Ff, Ff] ((152, .d (.s 1 [[ints (lRow t (nth (lmL t) k))]])) :: (155, .o 192) :: cp42E t k) ((5, .box [.o 191, .o 192, .o 193]) :: (191, .own 1 22 ((qR t k).map fun r => [ints r])) :: (192, .own 1 3 ((qB t k).map fun n => [D.v (.int .i64 n)])) :: cp42M t k) ?_ (fun h_37 => ?_)
              ·refine .st [0, 7] ⟨?_, ?_, trivial⟩
               ·refine ⟨_, rfl, ?_⟩
                refine .x (.f fo39_0) ?_; exact .j h_46
               ·refine ⟨_, rfl, ?_⟩
                refine .x (.bs es22 ze22) ?_; exact .j h_49
              refine .share 9 [Ff, Ff, Tt, Tt, Ff, Tt, Ff, Tt, Ff, Ff, Ff, Ff, Ff] ((152, .d (.s 1 [[ints (lRow t (nth (lmL t) k))]])) :: (154, .r 5 1) :: (156, .d (.s 1 [[.v (.int .i64 (-1))]])) :: cp42E t k) ((5, .box [.o 191, .o 192, .o 193]) :: (191, .own 1 22 ((qR t k).map fun r => [ints r])) :: (192, .own 1 3 ((qB t k).map fun n => [D.v (.int .i64 n)])) :: cp42M t k) ?_ (fun h_38 => ?_)
              ·refine .st [0, 6] ⟨?_, ?_, trivial⟩
               ·refine ⟨_, rfl, ?_⟩
                refine .x (.f fo39_0) ?_; exact .j h_47
               ·refine ⟨_, rfl, ?_⟩
                refine .x (.l vs22) ?_; exact .j h_49
              refine .share 9 [Ff, Ff, Tt, Ff, Ff, Tt, Tt, Tt, Ff, Ff, Ff, Ff, Ff] ((151, .d (ints (lRow t (nth (lmL t) k)))) :: (155, .o 192) :: (156, .d (.s 1 [[.v (.int .i64 (-1))]])) :: cp42E t k) ((5, .box [.o 191, .o 192, .o 193]) :: (191, .own 1 22 ((qR t k).map fun r => [ints r])) :: (192, .own 1 3 ((qB t k).map fun n => [D.v (.int .i64 n)])) :: cp42M t k) ?_ (fun h_39 => ?_)
              ·refine .st [0, 3] ⟨?_, ?_, trivial⟩
               ·refine ⟨_, rfl, ?_⟩
                refine .x (.f fo39_0) ?_; exact .j h_48
               ·refine ⟨_, rfl, ?_⟩
                refine .x (.bs es37 ze37) ?_; exact .j h_49
              refine .share 10 [Tt, Tt, Tt, Ff, Ff, Ff, Ff, Ff, Ff, Ff, Ff, Ff, Ff] ((150, .o 191) :: (151, .d (ints (lRow t (nth (lmL t) k)))) :: cp42E t k) ((5, .box [.o 191, .o 192, .o 193]) :: (191, .own 1 22 ((qR t k).map fun r => [ints r])) :: (192, .own 1 3 ((qB t k).map fun n => [D.v (.int .i64 n)])) :: cp42M t k) ?_ (fun h_14 => ?_)
              ·refine .st [3, 5, 7] ⟨?_, ?_, ?_, trivial⟩
               ·refine ⟨_, rfl, ?_⟩
                refine .x (.bs es37 ze37) ?_; exact .j h_27
               ·refine ⟨_, rfl, ?_⟩
                refine .x (.f fo39_1) ?_; exact .j h_28
               ·refine ⟨_, rfl, ?_⟩
                refine .x (.bs es22 ze22) ?_; exact .j h_29
              refine .share 10 [Tt, Tt, Ff, Ff, Ff, Tt, Ff, Ff, Ff, Ff, Ff, Ff, Ff] ((150, .o 191) :: (154, .r 5 1) :: cp42E t k) ((5, .box [.o 191, .o 192, .o 193]) :: (191, .own 1 22 ((qR t k).map fun r => [ints r])) :: (192, .own 1 3 ((qB t k).map fun n => [D.v (.int .i64 n)])) :: cp42M t k) ?_ (fun h_15 => ?_)
              ·refine .st [2, 6, 7] ⟨?_, ?_, ?_, trivial⟩
               ·refine ⟨_, rfl, ?_⟩
                refine .m ?_; exact .j h_28
               ·refine ⟨_, rfl, ?_⟩
                refine .x (.l vs22) ?_; exact .j h_30
               ·refine ⟨_, rfl, ?_⟩
                refine .x (.bs es22 ze22) ?_; exact .j h_31
              refine .share 10 [Tt, Tt, Ff, Ff, Ff, Ff, Ff, Tt, Ff, Ff, Ff, Ff, Ff] ((150, .o 191) :: (156, .d (.s 1 [[.v (.int .i64 (-1))]])) :: cp42E t k) ((5, .box [.o 191, .o 192, .o 193]) :: (191, .own 1 22 ((qR t k).map fun r => [ints r])) :: (192, .own 1 3 ((qB t k).map fun n => [D.v (.int .i64 n)])) :: cp42M t k) ?_ (fun h_16 => ?_)
              ·refine .st [2, 5] ⟨?_, ?_, trivial⟩
               ·refine ⟨_, rfl, ?_⟩
                refine .m ?_; exact .j h_29
               ·refine ⟨_, rfl, ?_⟩
                refine .x (.f fo39_1) ?_; exact .j h_31
              refine .share 10 [Tt, Ff, Tt, Tt, Ff, Ff, Ff, Ff, Ff, Ff, Ff, Ff, Ff] ((149, .r 5 0) :: (152, .d (.s 1 [[ints (lRow t (nth (lmL t) k))]])) :: cp42E t k) ((5, .box [.o 191, .o 192, .o 193]) :: (191, .own 1 22 ((qR t k).map fun r => [ints r])) :: (192, .own 1 3 ((qB t k).map fun n => [D.v (.int .i64 n)])) :: cp42M t k) ?_ (fun h_17 => ?_)
              ·refine .st [1, 5, 7] ⟨?_, ?_, ?_, trivial⟩
               ·refine ⟨_, rfl, ?_⟩
                refine .x (.l vs37) ?_; exact .j h_27
               ·refine ⟨_, rfl, ?_⟩
                refine .x (.f fo39_1) ?_; exact .j h_32
               ·refine ⟨_, rfl, ?_⟩
                refine .x (.bs es22 ze22) ?_; exact .j h_33
              refine .share 10 [Tt, Ff, Tt, Ff, Ff, Tt, Ff, Ff, Ff, Ff, Ff, Ff, Ff] ((149, .r 5 0) :: (151, .d (ints (lRow t (nth (lmL t) k)))) :: (154, .r 5 1) :: cp42E t k) ((5, .box [.o 191, .o 192, .o 193]) :: (191, .own 1 22 ((qR t k).map fun r => [ints r])) :: (192, .own 1 3 ((qB t k).map fun n => [D.v (.int .i64 n)])) :: cp42M t k) ?_ (fun h_18 => ?_)
              ·refine .st [1, 3, 6, 7] ⟨?_, ?_, ?_, ?_, trivial⟩
               ·refine ⟨_, rfl, ?_⟩
                refine .x (.l vs37) ?_; exact .j h_28
               ·refine ⟨_, rfl, ?_⟩
                refine .x (.bs es37 ze37) ?_; exact .j h_32
               ·refine ⟨_, rfl, ?_⟩
                refine .x (.l vs22) ?_; exact .j h_34
               ·refine ⟨_, rfl, ?_⟩
                refine .x (.bs es22 ze22) ?_; exact .j h_35
              refine .share 10 [Tt, Ff, Tt, Ff, Ff, Ff, Ff, Tt, Ff, Ff, Ff, Ff, Ff] ((149, .r 5 0) :: (151, .d (ints (lRow t (nth (lmL t) k)))) :: (156, .d (.s 1 [[.v (.int .i64 (-1))]])) :: cp42E t k) ((5, .box [.o 191, .o 192, .o 193]) :: (191, .own 1 22 ((qR t k).map fun r => [ints r])) :: (192, .own 1 3 ((qB t k).map fun n => [D.v (.int .i64 n)])) :: cp42M t k) ?_ (fun h_19 => ?_)
              ·refine .st [1, 3, 5] ⟨?_, ?_, ?_, trivial⟩
               ·refine ⟨_, rfl, ?_⟩
                refine .x (.l vs37) ?_; exact .j h_29
               ·refine ⟨_, rfl, ?_⟩
                refine .x (.bs es37 ze37) ?_; exact .j h_33
               ·refine ⟨_, rfl, ?_⟩
                refine .x (.f fo39_1) ?_; exact .j h_35
              refine .share 10 [Tt, Ff, Ff, Ff, Ff, Tt, Tt, Ff, Ff, Ff, Ff, Ff, Ff] ((149, .r 5 0) :: (155, .o 192) :: cp42E t k) ((5, .box [.o 191, .o 192, .o 193]) :: (191, .own 1 22 ((qR t k).map fun r => [ints r])) :: (192, .own 1 3 ((qB t k).map fun n => [D.v (.int .i64 n)])) :: cp42M t k) ?_ (fun h_20 => ?_)
              ·refine .st [1, 2, 7] ⟨?_, ?_, ?_, trivial⟩
               ·refine ⟨_, rfl, ?_⟩
                refine .x (.l vs37) ?_; exact .j h_30
               ·refine ⟨_, rfl, ?_⟩
                refine .m ?_; exact .j h_34
               ·refine ⟨_, rfl, ?_⟩
                refine .x (.bs es22 ze22) ?_; exact .j h_36
              refine .share 10 [Tt, Ff, Ff, Ff, Ff, Tt, Ff, Tt, Ff, Ff, Ff, Ff, Ff] ((149, .r 5 0) :: (154, .r 5 1) :: (156, .d (.s 1 [[.v (.int .i64 (-1))]])) :: cp42E t k) ((5, .box [.o 191, .o 192, .o 193]) :: (191, .own 1 22 ((qR t k).map fun r => [ints r])) :: (192, .own 1 3 ((qB t k).map fun n => [D.v (.int .i64 n)])) :: cp42M t k) ?_ (fun h_21 => ?_)
              ·refine .st [1, 2, 6] ⟨?_, ?_, ?_, trivial⟩
               ·refine ⟨_, rfl, ?_⟩
                refine .x (.l vs37) ?_; exact .j h_31
               ·refine ⟨_, rfl, ?_⟩
                refine .m ?_; exact .j h_35
               ·refine ⟨_, rfl, ?_⟩
                refine .x (.l vs22) ?_; exact .j h_36
              refine .share 10 [Ff, Ff, Tt, Tt, Ff, Tt, Ff, Ff, Ff, Ff, Ff, Ff, Ff] ((152, .d (.s 1 [[ints (lRow t (nth (lmL t) k))]])) :: (154, .r 5 1) :: cp42E t k) ((5, .box [.o 191, .o 192, .o 193]) :: (191, .own 1 22 ((qR t k).map fun r => [ints r])) :: (192, .own 1 3 ((qB t k).map fun n => [D.v (.int .i64 n)])) :: cp42M t k) ?_ (fun h_22 => ?_)
              ·refine .st [0, 6, 7] ⟨?_, ?_, ?_, trivial⟩
               ·refine ⟨_, rfl, ?_⟩
                refine .x (.f fo39_0) ?_; exact .j h_32
               ·refine ⟨_, rfl, ?_⟩
                refine .x (.l vs22) ?_; exact .j h_37
               ·refine ⟨_, rfl, ?_⟩
                refine .x (.bs es22 ze22) ?_; exact .j h_38
              refine .share 10 [Ff, Ff, Tt, Tt, Ff, Ff, Ff, Tt, Ff, Ff, Ff, Ff, Ff] ((152, .d (.s 1 [[ints (lRow t (nth (lmL t) k))]])) :: (156, .d (.s 1 [[.v (.int .i64 (-1))]])) :: cp42E t k) ((5, .box [.o 191, .o 192, .o 193]) :: (191, .own 1 22 ((qR t k).map fun r => [ints r])) :: (192, .own 1 3 ((qB t k).map fun n => [D.v (.int .i64 n)])) :: cp42M t k) ?_ (fun h_23 => ?_)
              ·refine .st [0, 5] ⟨?_, ?_, trivial⟩
               ·refine ⟨_, rfl, ?_⟩
                refine .x (.f fo39_0) ?_; exact .j h_33
               ·refine ⟨_, rfl, ?_⟩
                refine .x (.f fo39_1) ?_; exact .j h_38
              refine .share 10 [Ff, Ff, Tt, Ff, Ff, Tt, Tt, Ff, Ff, Ff, Ff, Ff, Ff] ((151, .d (ints (lRow t (nth (lmL t) k)))) :: (155, .o 192) :: cp42E t k) ((5, .box [.o 191, .o 192, .o 193]) :: (191, .own 1 22 ((qR t k).map fun r => [ints r])) :: (192, .own 1 3 ((qB t k).map fun n => [D.v (.int .i64 n)])) :: cp42M t k) ?_ (fun h_24 => ?_)
              ·refine .st [0, 3, 7] ⟨?_, ?_, ?_, trivial⟩
               ·refine ⟨_, rfl, ?_⟩
                refine .x (.f fo39_0) ?_; exact .j h_34
               ·refine ⟨_, rfl, ?_⟩
                refine .x (.bs es37 ze37) ?_; exact .j h_37
               ·refine ⟨_, rfl, ?_⟩
                refine .x (.bs es22 ze22) ?_; exact .j h_39
              refine .share 10 [Ff, Ff, Tt, Ff, Ff, Tt, Ff, Tt, Ff, Ff, Ff, Ff, Ff] ((151, .d (ints (lRow t (nth (lmL t) k)))) :: (154, .r 5 1) :: (156, .d (.s 1 [[.v (.int .i64 (-1))]])) :: cp42E t k) ((5, .box [.o 191, .o 192, .o 193]) :: (191, .own 1 22 ((qR t k).map fun r => [ints r])) :: (192, .own 1 3 ((qB t k).map fun n => [D.v (.int .i64 n)])) :: cp42M t k) ?_ (fun h_25 => ?_)
              ·refine .st [0, 3, 6] ⟨?_, ?_, ?_, trivial⟩
               ·refine ⟨_, rfl, ?_⟩
                refine .x (.f fo39_0) ?_; exact .j h_35
               ·refine ⟨_, rfl, ?_⟩
                refine .x (.bs es37 ze37) ?_; exact .j h_38
               ·refine ⟨_, rfl, ?_⟩
                refine .x (.l vs22) ?_; exact .j h_39
              refine .share 10 [Ff, Ff, Ff, Ff, Ff, Tt, Tt, Tt, Ff, Ff, Ff, Ff, Ff] ((155, .o 192) :: (156, .d (.s 1 [[.v (.int .i64 (-1))]])) :: cp42E t k) ((5, .box [.o 191, .o 192, .o 193]) :: (191, .own 1 22 ((qR t k).map fun r => [ints r])) :: (192, .own 1 3 ((qB t k).map fun n => [D.v (.int .i64 n)])) :: cp42M t k) ?_ (fun h_26 => ?_)
              ·refine .st [0, 2] ⟨?_, ?_, trivial⟩
               ·refine ⟨_, rfl, ?_⟩
                refine .x (.f fo39_0) ?_; exact .j h_36
               ·refine ⟨_, rfl, ?_⟩
                refine .m ?_; exact .j h_39
              refine .share 11 [Tt, Tt, Ff, Ff, Ff, Ff, Ff, Ff, Ff, Ff, Ff, Ff, Ff] ((150, .o 191) :: cp42E t k) ((5, .box [.o 191, .o 192, .o 193]) :: (191, .own 1 22 ((qR t k).map fun r => [ints r])) :: (192, .own 1 3 ((qB t k).map fun n => [D.v (.int .i64 n)])) :: cp42M t k) ?_ (fun h_5 => ?_)
              ·refine .st [2, 5, 7] ⟨?_, ?_, ?_, trivial⟩
               ·refine ⟨_, rfl, ?_⟩
                refine .m ?_; exact .j h_14
               ·refine ⟨_, rfl, ?_⟩
                refine .x (.f fo39_1) ?_; exact .j h_15
               ·refine ⟨_, rfl, ?_⟩
                refine .x (.bs es22 ze22) ?_; exact .j h_16
              refine .share 11 [Tt, Ff, Tt, Ff, Ff, Ff, Ff, Ff, Ff, Ff, Ff, Ff, Ff] ((149, .r 5 0) :: (151, .d (ints (lRow t (nth (lmL t) k)))) :: cp42E t k) ((5, .box [.o 191, .o 192, .o 193]) :: (191, .own 1 22 ((qR t k).map fun r => [ints r])) :: (192, .own 1 3 ((qB t k).map fun n => [D.v (.int .i64 n)])) :: cp42M t k) ?_ (fun h_6 => ?_)
              ·refine .st [1, 3, 5, 7] ⟨?_, ?_, ?_, ?_, trivial⟩
               ·refine ⟨_, rfl, ?_⟩
                refine .x (.l vs37) ?_; exact .j h_14
               ·refine ⟨_, rfl, ?_⟩
                refine .x (.bs es37 ze37) ?_; exact .j h_17
               ·refine ⟨_, rfl, ?_⟩
                refine .x (.f fo39_1) ?_; exact .j h_18
               ·refine ⟨_, rfl, ?_⟩
                refine .x (.bs es22 ze22) ?_; exact .j h_19
              refine .share 11 [Tt, Ff, Ff, Ff, Ff, Tt, Ff, Ff, Ff, Ff, Ff, Ff, Ff] ((149, .r 5 0) :: (154, .r 5 1) :: cp42E t k) ((5, .box [.o 191, .o 192, .o 193]) :: (191, .own 1 22 ((qR t k).map fun r => [ints r])) :: (192, .own 1 3 ((qB t k).map fun n => [D.v (.int .i64 n)])) :: cp42M t k) ?_ (fun h_7 => ?_)
              ·refine .st [1, 2, 6, 7] ⟨?_, ?_, ?_, ?_, trivial⟩
               ·refine ⟨_, rfl, ?_⟩
                refine .x (.l vs37) ?_; exact .j h_15
               ·refine ⟨_, rfl, ?_⟩
                refine .m ?_; exact .j h_18
               ·refine ⟨_, rfl, ?_⟩
                refine .x (.l vs22) ?_; exact .j h_20
               ·refine ⟨_, rfl, ?_⟩
                refine .x (.bs es22 ze22) ?_; exact .j h_21
              refine .share 11 [Tt, Ff, Ff, Ff, Ff, Ff, Ff, Tt, Ff, Ff, Ff, Ff, Ff] ((149, .r 5 0) :: (156, .d (.s 1 [[.v (.int .i64 (-1))]])) :: cp42E t k) ((5, .box [.o 191, .o 192, .o 193]) :: (191, .own 1 22 ((qR t k).map fun r => [ints r])) :: (192, .own 1 3 ((qB t k).map fun n => [D.v (.int .i64 n)])) :: cp42M t k) ?_ (fun h_8 => ?_)
              ·refine .st [1, 2, 5] ⟨?_, ?_, ?_, trivial⟩
               ·refine ⟨_, rfl, ?_⟩
                refine .x (.l vs37) ?_; exact .j h_16
               ·refine ⟨_, rfl, ?_⟩
                refine .m ?_; exact .j h_19
               ·refine ⟨_, rfl, ?_⟩
                refine .x (.f fo39_1) ?_; exact .j h_21
              refine .share 11 [Ff, Ff, Tt, Tt, Ff, Ff, Ff, Ff, Ff, Ff, Ff, Ff, Ff] ((152, .d (.s 1 [[ints (lRow t (nth (lmL t) k))]])) :: cp42E t k) ((5, .box [.o 191, .o 192, .o 193]) :: (191, .own 1 22 ((qR t k).map fun r => [ints r])) :: (192, .own 1 3 ((qB t k).map fun n => [D.v (.int .i64 n)])) :: cp42M t k) ?_ (fun h_9 => ?_)
              ·refine .st [0, 5, 7] ⟨?_, ?_, ?_, trivial⟩
               ·refine ⟨_, rfl, ?_⟩
                refine .x (.f fo39_0) ?_; exact .j h_17
               ·refine ⟨_, rfl, ?_⟩
                refine .x (.f fo39_1) ?_; exact .j h_22
               ·refine ⟨_, rfl, ?_⟩
                refine .x (.bs es22 ze22) ?_; exact .j h_23
              refine .share 11 [Ff, Ff, Tt, Ff, Ff, Tt, Ff, Ff, Ff, Ff, Ff, Ff, Ff] ((151, .d (ints (lRow t (nth (lmL t) k)))) :: (154, .r 5 1) :: cp42E t k) ((5, .box [.o 191, .o 192, .o 193]) :: (191, .own 1 22 ((qR t k).map fun r => [ints r])) :: (192, .own 1 3 ((qB t k).map fun n => [D.v (.int .i64 n)])) :: cp42M t k) ?_ (fun h_10 => ?_)
              ·refine .st [0, 3, 6, 7] ⟨?_, ?_, ?_, ?_, trivial⟩
               ·refine ⟨_, rfl, ?_⟩
                refine .x (.f fo39_0) ?_; exact .j h_18
               ·refine ⟨_, rfl, ?_⟩
                refine .x (.bs es37 ze37) ?_; exact .j h_22
               ·refine ⟨_, rfl, ?_⟩
                refine .x (.l vs22) ?_; exact .j h_24
               ·refine ⟨_, rfl, ?_⟩
                refine .x (.bs es22 ze22) ?_; exact .j h_25
              refine .share 11 [Ff, Ff, Tt, Ff, Ff, Ff, Ff, Tt, Ff, Ff, Ff, Ff, Ff] ((151, .d (ints (lRow t (nth (lmL t) k)))) :: (156, .d (.s 1 [[.v (.int .i64 (-1))]])) :: cp42E t k) ((5, .box [.o 191, .o 192, .o 193]) :: (191, .own 1 22 ((qR t k).map fun r => [ints r])) :: (192, .own 1 3 ((qB t k).map fun n => [D.v (.int .i64 n)])) :: cp42M t k) ?_ (fun h_11 => ?_)
              ·refine .st [0, 3, 5] ⟨?_, ?_, ?_, trivial⟩
               ·refine ⟨_, rfl, ?_⟩
                refine .x (.f fo39_0) ?_; exact .j h_19
               ·refine ⟨_, rfl, ?_⟩
                refine .x (.bs es37 ze37) ?_; exact .j h_23
               ·refine ⟨_, rfl, ?_⟩
                refine .x (.f fo39_1) ?_; exact .j h_25
              refine .share 11 [Ff, Ff, Ff, Ff, Ff, Tt, Tt, Ff, Ff, Ff, Ff, Ff, Ff] ((155, .o 192) :: cp42E t k) ((5, .box [.o 191, .o 192, .o 193]) :: (191, .own 1 22 ((qR t k).map fun r => [ints r])) :: (192, .own 1 3 ((qB t k).map fun n => [D.v (.int .i64 n)])) :: cp42M t k) ?_ (fun h_12 => ?_)
              ·refine .st [0, 2, 7] ⟨?_, ?_, ?_, trivial⟩
               ·refine ⟨_, rfl, ?_⟩
                refine .x (.f fo39_0) ?_; exact .j h_20
               ·refine ⟨_, rfl, ?_⟩
                refine .m ?_; exact .j h_24
               ·refine ⟨_, rfl, ?_⟩
                refine .x (.bs es22 ze22) ?_; exact .j h_26
              refine .share 11 [Ff, Ff, Ff, Ff, Ff, Tt, Ff, Tt, Ff, Ff, Ff, Ff, Ff] ((154, .r 5 1) :: (156, .d (.s 1 [[.v (.int .i64 (-1))]])) :: cp42E t k) ((5, .box [.o 191, .o 192, .o 193]) :: (191, .own 1 22 ((qR t k).map fun r => [ints r])) :: (192, .own 1 3 ((qB t k).map fun n => [D.v (.int .i64 n)])) :: cp42M t k) ?_ (fun h_13 => ?_)
              ·refine .st [0, 2, 6] ⟨?_, ?_, ?_, trivial⟩
               ·refine ⟨_, rfl, ?_⟩
                refine .x (.f fo39_0) ?_; exact .j h_21
               ·refine ⟨_, rfl, ?_⟩
                refine .m ?_; exact .j h_25
               ·refine ⟨_, rfl, ?_⟩
                refine .x (.l vs22) ?_; exact .j h_26
              refine .share 12 [Tt, Ff, Ff, Ff, Ff, Ff, Ff, Ff, Ff, Ff, Ff, Ff, Ff] ((149, .r 5 0) :: cp42E t k) ((5, .box [.o 191, .o 192, .o 193]) :: (191, .own 1 22 ((qR t k).map fun r => [ints r])) :: (192, .own 1 3 ((qB t k).map fun n => [D.v (.int .i64 n)])) :: cp42M t k) ?_ (fun h_1 => ?_)
              ·refine .st [1, 2, 5, 7] ⟨?_, ?_, ?_, ?_, trivial⟩
               ·refine ⟨_, rfl, ?_⟩
                refine .x (.l vs37) ?_; exact .j h_5
               ·refine ⟨_, rfl, ?_⟩
                refine .m ?_; exact .j h_6
               ·refine ⟨_, rfl, ?_⟩
                refine .x (.f fo39_1) ?_; exact .j h_7
               ·refine ⟨_, rfl, ?_⟩
                refine .x (.bs es22 ze22) ?_; exact .j h_8
              refine .share 12 [Ff, Ff, Tt, Ff, Ff, Ff, Ff, Ff, Ff, Ff, Ff, Ff, Ff] ((151, .d (ints (lRow t (nth (lmL t) k)))) :: cp42E t k) ((5, .box [.o 191, .o 192, .o 193]) :: (191, .own 1 22 ((qR t k).map fun r => [ints r])) :: (192, .own 1 3 ((qB t k).map fun n => [D.v (.int .i64 n)])) :: cp42M t k) ?_ (fun h_2 => ?_)
              ·refine .st [0, 3, 5, 7] ⟨?_, ?_, ?_, ?_, trivial⟩
               ·refine ⟨_, rfl, ?_⟩
                refine .x (.f fo39_0) ?_; exact .j h_6
               ·refine ⟨_, rfl, ?_⟩
                refine .x (.bs es37 ze37) ?_; exact .j h_9
               ·refine ⟨_, rfl, ?_⟩
                refine .x (.f fo39_1) ?_; exact .j h_10
               ·refine ⟨_, rfl, ?_⟩
                refine .x (.bs es22 ze22) ?_; exact .j h_11
              refine .share 12 [Ff, Ff, Ff, Ff, Ff, Tt, Ff, Ff, Ff, Ff, Ff, Ff, Ff] ((154, .r 5 1) :: cp42E t k) ((5, .box [.o 191, .o 192, .o 193]) :: (191, .own 1 22 ((qR t k).map fun r => [ints r])) :: (192, .own 1 3 ((qB t k).map fun n => [D.v (.int .i64 n)])) :: cp42M t k) ?_ (fun h_3 => ?_)
              ·refine .st [0, 2, 6, 7] ⟨?_, ?_, ?_, ?_, trivial⟩
               ·refine ⟨_, rfl, ?_⟩
                refine .x (.f fo39_0) ?_; exact .j h_7
               ·refine ⟨_, rfl, ?_⟩
                refine .m ?_; exact .j h_10
               ·refine ⟨_, rfl, ?_⟩
                refine .x (.l vs22) ?_; exact .j h_12
               ·refine ⟨_, rfl, ?_⟩
                refine .x (.bs es22 ze22) ?_; exact .j h_13
              refine .share 12 [Ff, Ff, Ff, Ff, Ff, Ff, Ff, Tt, Ff, Ff, Ff, Ff, Ff] ((156, .d (.s 1 [[.v (.int .i64 (-1))]])) :: cp42E t k) ((5, .box [.o 191, .o 192, .o 193]) :: (191, .own 1 22 ((qR t k).map fun r => [ints r])) :: (192, .own 1 3 ((qB t k).map fun n => [D.v (.int .i64 n)])) :: cp42M t k) ?_ (fun h_4 => ?_)
              ·refine .st [0, 2, 5] ⟨?_, ?_, ?_, trivial⟩
               ·refine ⟨_, rfl, ?_⟩
                refine .x (.f fo39_0) ?_; exact .j h_8
               ·refine ⟨_, rfl, ?_⟩
                refine .m ?_; exact .j h_11
               ·refine ⟨_, rfl, ?_⟩
                refine .x (.f fo39_1) ?_; exact .j h_13
              refine .st [0, 2, 5, 7] ⟨?_, ?_, ?_, ?_, trivial⟩
              ·refine ⟨_, rfl, ?_⟩
               refine .x (.f fo39_0) ?_; exact .j h_1
              ·refine ⟨_, rfl, ?_⟩
               refine .m ?_; exact .j h_2
              ·refine ⟨_, rfl, ?_⟩
               refine .x (.f fo39_1) ?_; exact .j h_3
              ·refine ⟨_, rfl, ?_⟩
               refine .x (.bs es22 ze22) ?_; exact .j h_4
           ·have hk : k = (lmL t).length := by simp at c124; omega
            subst hk
            refine .exit ?_; refine .pass_exit ?_; refine .pass_exit ?_; refine .block_same ?_; refine .z ?_; refine .x (.f fo39_0) ?_; refine .x (.l vs37) ?_; refine .x (OpSem.leno rfl rfl rfl es37) ?_; refine .x (OpSem.le (s' := I (min ((qR t (lmL t).length).length : Int) 6)) (OpSem.min2 rfl rfl rfl) (Le.i (by simp))) ?_; refine .a ?_; refine .sq ?_; refine .seq ?_; refine .freeze 191 rfl ?_; refine .freeze 192 rfl ?_; refine .freeze 193 rfl ?_; refine PC.start [] ?_; refine .x (.f fo39_0) ?_; refine .x (.l vs37) ?_; refine .m ?_; refine .x (OpSem.sliceH rfl rfl rfl es37 (by omega) (by omega)) ?_; refine .x (OpSem.call0 (slices_Clone_S_int_int_does ((qR t (lmL t).length).take (min ((qR t (lmL t).length).length : Int) 6).toNat) (by have := qr_le (t := t) (k := (lmL t).length); rw [List.length_take]; omega)) rfl rfl rfl rfl (Les.refl _)) ?_; refine .x (.f fo39_1) ?_; refine .x (.l vs22) ?_; refine .m ?_; refine .x (OpSem.sliceH rfl rfl rfl es22 (by omega) (by have := qr_len (t := t) (k := (lmL t).length); omega)) ?_; refine .x (OpSem.call0 (slices_Clone_int_int_does ((qB t (lmL t).length).take (min ((qR t (lmL t).length).length : Int) 6).toNat) (by have := qr_le (t := t) (k := (lmL t).length); have := qr_len (t := t) (k := (lmL t).length); rw [List.length_take]; omega)).fresh rfl rfl rfl rfl (Les.refl _)) ?_; refine .x (.f fo39_0) ?_; refine .d0 mixed ?_; refine .sb vs37 ?_; refine .x (.f fo39_1) ?_; refine .sb vs22 ?_; refine .z ?_; refine .x (OpSem.loadbN rfl rfl rfl vs39 (by first | decide | simp)) ?_; refine .x (OpSem.build rfl rfl pl30 zc30 rfl rfl) ?_; refine .sb vs39 ?_; refine .sb vs30 ?_; refine .sq ?_; refine .ret ?_; exact .ret rfl (.cellN rfl rfl vs39 <| .cellN rfl rfl vs30 <| .nil) rfl (Le.t (.cons (Le.of_eq (by rw [← cpR_0 (cpF_0 h0 hL).symm]; exact lp_end)) <| .cons (Le.flt (cpF_0 h0 hL)) <| .nil))

end Go.Proofs.Ytlidcpmdgceboaa
end
