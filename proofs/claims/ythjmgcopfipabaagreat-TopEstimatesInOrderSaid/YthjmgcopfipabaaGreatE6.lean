/- Part 6. -/
import Derived.Test.YthjmgcopfipabaaGreatE5
set_option linter.unusedSimpArgs false
set_option linter.unnecessarySimpa false
set_option linter.unusedVariables false
set_option linter.unusedSectionVars false
section
namespace Go.Proofs.YthjmgcopfipabaaGreat
open Go.Eng
set_option maxRecDepth 10000
set_option maxHeartbeats 1000000
theorem slices_Clone_S_int_int_does (l : List (List Int)) (hl : l.length ≤ 1000000) : Does Tryz.prog false 69 [.d (rows l)] (.d (rows l)) := by
 refine Does.of_body Tryz.func69 rfl rfl (by simp) Tryz.call69 (fun w0 O0 => ?_); refine .le 0 fun len0 => ?_; refine .g <| .r <| .a ?_; refine .sq <| .g <| .g <| .r <| .m ?_; refine .eqNil rfl rfl es58 rfl rfl (by decide) (fun b4 hb4 => ?_); refine .sq <| .cond rfl (fun c4 => ?_) (fun c4 => ?_)
 ·refine .g <| .r <| .a ?_; exact .sq <| .t <| .t <| .ret rfl (.tmp rfl <| .nil) rfl (by have h := hb4 c4; unfold rows; rw [h]; exact Le.nil 1)
 ·refine .p <| .z <| .semM (OpSem.buildO 5 rfl es58 (by decide)) rfl rfl (by decide) ?_; refine .m ?_; refine .ap es58 el58 zc22 by22 ?_; refine .freeze 5 rfl ?_; refine .a ?_; exact .sq <| .t <| .ret rfl (.tmp rfl <| .nil) rfl (Le.of_eq (by simp))
noncomputable abbrev cp24E (t : Tsk) (k : Nat) : Env := [(1, .r 1 0), (2, .r 2 0), (3, .r 3 0), (5, .r 5 0), (10, .d (ints (gRow t (nth t.goal k)))), (13, I ((gBnd t (nth t.goal k)))), (58, .d (ints t.goal)), (59, I (t.goal.length)), (60, I (k))]
noncomputable abbrev cp24M (t : Tsk) (k : Nat) : Mem := [(1, .box [I (t.facts), .d (ints t.ini), .d (ints t.goal), .d (sopsD t.ops)]), (2, .box [.d (.v (.slice none 0 0)), .d (.v (.slice none 0 0)), .d (.v (.slice none 0 0))]), (3, .box [I (0), I (0)]), (193, .own 1 3 ((obTo t t.ops.length).map fun n => [D.v (.int .i64 n)]))]
noncomputable abbrev cp24m0 (t : Tsk) (k : Nat) : Mem := (5, .box [.o 191, .o 192, .o 193]) :: (191, .own 1 22 ((gRows t k).map fun r => [ints r])) :: (192, .own 1 3 ((gBnds t k).map fun n => [D.v (.int .i64 n)])) :: cp24M t k
noncomputable abbrev cp24e1 (t : Tsk) (k : Nat) : Nat × S := (90, .d (ints (gRow t (nth t.goal k))))
noncomputable abbrev cp24e2 (t : Tsk) (k : Nat) : Nat × S := (91, .d (.s 1 [[ints (gRow t (nth t.goal k))]]))
noncomputable abbrev cp24e3 (t : Tsk) (k : Nat) : Nat × S := (96, .d (.s 1 [[.v (.int .i64 (gBnd t (nth t.goal k)))]]))
noncomputable abbrev cp24m4 (t : Tsk) (k : Nat) : Mem := (5, .box [.u, .o 192, .o 193]) :: (191, .own 1 22 ((gRows t (k + 1)).map fun r => [ints r])) :: (192, .own 1 3 ((gBnds t k).map fun n => [D.v (.int .i64 n)])) :: cp24M t k
noncomputable abbrev cp24m5 (t : Tsk) (k : Nat) : Mem := (5, .box [.u, .u, .o 193]) :: (191, .own 1 22 ((gRows t (k + 1)).map fun r => [ints r])) :: (192, .own 1 3 ((gBnds t (k + 1)).map fun n => [D.v (.int .i64 n)])) :: cp24M t k
noncomputable abbrev cp24m6 (t : Tsk) (k : Nat) : Mem := (5, .box [.o 191, .u, .o 193]) :: (191, .own 1 22 ((gRows t (k + 1)).map fun r => [ints r])) :: (192, .own 1 3 ((gBnds t (k + 1)).map fun n => [D.v (.int .i64 n)])) :: cp24M t k
noncomputable abbrev cp42E (t : Tsk) (k : Nat) : Env := [(1, .r 1 0), (2, .r 2 0), (3, .r 3 0), (5, .r 5 0), (16, .d (rows (acsTo t (lmL t).length))), (19, .d (ints (lRow t (nth (lmL t) k)))), (121, .d (ints (lmL t))), (122, I ((lmL t).length)), (123, I (k))]
noncomputable abbrev cp42M (t : Tsk) (k : Nat) : Mem := [(1, .box [I (t.facts), .d (ints t.ini), .d (ints t.goal), .d (sopsD t.ops)]), (2, .box [.d (.v (.slice none 0 0)), .d (.v (.slice none 0 0)), .d (.v (.slice none 0 0))]), (3, .box [I (0), I (0)]), (193, .own 1 3 ((obTo t t.ops.length).map fun n => [D.v (.int .i64 n)]))]
noncomputable abbrev cp42m0 (t : Tsk) (k : Nat) : Mem := (5, .box [.o 191, .o 192, .o 193]) :: (191, .own 1 22 ((qR t k).map fun r => [ints r])) :: (192, .own 1 3 ((qB t k).map fun n => [D.v (.int .i64 n)])) :: cp42M t k
noncomputable abbrev cp42e1 (t : Tsk) (k : Nat) : Nat × S := (151, .d (ints (lRow t (nth (lmL t) k))))
noncomputable abbrev cp42e2 (t : Tsk) (k : Nat) : Nat × S := (156, .d (.s 1 [[.v (.int .i64 (-1))]]))
noncomputable abbrev cp42e3 (t : Tsk) (k : Nat) : Nat × S := (152, .d (.s 1 [[ints (lRow t (nth (lmL t) k))]]))
noncomputable abbrev cp42m4 (t : Tsk) (k : Nat) : Mem := (5, .box [.u, .o 192, .o 193]) :: (191, .own 1 22 ((qR t (k + 1)).map fun r => [ints r])) :: (192, .own 1 3 ((qB t k).map fun n => [D.v (.int .i64 n)])) :: cp42M t k
noncomputable abbrev cp42m5 (t : Tsk) (k : Nat) : Mem := (5, .box [.u, .u, .o 193]) :: (191, .own 1 22 ((qR t (k + 1)).map fun r => [ints r])) :: (192, .own 1 3 ((qB t (k + 1)).map fun n => [D.v (.int .i64 n)])) :: cp42M t k
noncomputable abbrev cp42m6 (t : Tsk) (k : Nat) : Mem := (5, .box [.o 191, .u, .o 193]) :: (191, .own 1 22 ((qR t (k + 1)).map fun r => [ints r])) :: (192, .own 1 3 ((qB t (k + 1)).map fun n => [D.v (.int .i64 n)])) :: cp42M t k
theorem counting_Program_does (t : Tsk) : Does Tryz.prog false 40 [tskS t] (.t [lprS (cpR t), flt (cpF t)]) := by
 refine Does.of_body Tryz.func40 rfl rfl (by simp) Tryz.call40 (fun w0 O0 => ?_); refine .lg 0 1 fun len0_1 => ?_; refine .lg 0 2 fun len0_2 => ?_; refine .lg 0 3 fun len0_3 => ?_; refine .g <| .r <| .bx 1 ?_; refine .al 2 zc81 ?_; refine .al 3 zc28 ?_; refine .sq <| .g <| .g <| .r <| .x (.L vs25) ?_; refine .x (OpSem.call0 (strips_Validate_does t) rfl rfl rfl rfl (Les.refl _)) ?_; refine .al 4 zc28 ?_; refine .sb vs28 ?_; refine .z <| .x (.L vs28) ?_; refine .x (.bd pl28 zc28) ?_; refine .x (OpSem.neS2 rfl rfl rfl io28) ?_; refine .sq <| .cond rfl (fun c27 => ?_) (fun c27 => ?_)
 ·have hne : tskF t ≠ (0, 0) := fun h => by simp [h] at c27
  refine .g <| PC.start [2] ?_; refine .x (.bd pl81 zc81) ?_; refine .x (.L vs28) ?_; refine .storeb 100002 rfl rfl rfl rfl rfl rfl rfl vs81 (by first | decide | simp) ?_; refine .dn mixed ?_; refine .sb vs28 ?_; exact .sq <| .t <| .t <| .ret rfl (.cellN rfl rfl vs81 <| .cellN rfl rfl vs28 <| .nil) rfl (Le.t (.cons (by rw [← cpR_1 (cpF_ne hne)]; exact Le.lpz) <| .cons (Le.flt (cpF_1 hne)) <| .nil))
 ·have h0 : tskF t = (0, 0) := pair0 (by simpa using c27)
  have hV := tskF_v h0
  have hf0 := hV.facts.1
  have hf1 := hV.facts.2
  have hgl := setP_len hV.goal hf1
  have hgl2 := setP_len2 hV.goal hf1
  have hll : (lmL t).length ≤ t.facts.toNat := lmTo_len
  refine .p <| .g <| .g <| .g <| .r <| .x (.f fo25_3) ?_; refine .x (.l vs23) ?_; refine .x (.n es23) ?_; refine .x (.b bgtr) ?_; refine .m ?_; refine .split (n := 34) rfl (fun c34 => ?_) (fun c34 => ?_)
  ·have hcl : CLarge t := .inr (by simp at c34; omega)
   refine .hf c34 ?_; refine .hf c34 ?_; refine .hf c34 ?_; refine .x (OpSem.pickT rfl rfl c34 rfl) ?_; refine .sq <| .condT rfl rfl ?_; refine .g <| .r <| .x (.bd pl81 zc81) ?_; refine .x (.bd pl28 zc28) ?_; refine .sb vs81 ?_; refine .sb vs28 ?_; exact .sq <| .t <| .t <| .ret rfl (.cellN rfl rfl vs81 <| .cellN rfl rfl vs28 <| .nil) rfl (Le.t (.cons (by rw [← cpR_1 (fun h => by rw [← cpF_2 h0 hcl] at h; simp at h)]; exact Le.lpz) <| .cons (Le.flt (cpF_2 h0 hcl)) <| .nil))
  ·have h6 : ¬ 6 < t.ops.length := by simp at c34; omega
   refine .ht c34 ?_; refine .x (.f fo25_3) ?_; refine .ht c34 ?_; refine .x (.l vs23) ?_; refine .ht c34 ?_; refine .x (OpSem.call0 (slices_ContainsFunc_Operator_Operator_does t.ops 65 [] (fun o => decide (20 < o.cost)) (fun n hn => rfl) (fun x _ => counting_Program_1_does x)) rfl rfl rfl rfl (Les.refl _)) ?_; refine .x (OpSem.pickF rfl rfl c34 rfl) ?_; refine .sq <| .cond rfl (fun c38 => ?_) (fun c38 => ?_)
   ·have hcl : CLarge t := cl_any (by simpa using c38)
    refine .g <| .r <| .x (.bd pl81 zc81) ?_; refine .x (.bd pl28 zc28) ?_; refine .sb vs81 ?_; refine .sb vs28 ?_; exact .sq <| .t <| .t <| .ret rfl (.cellN rfl rfl vs81 <| .cellN rfl rfl vs28 <| .nil) rfl (Le.t (.cons (by rw [← cpR_1 (fun h => by rw [← cpF_2 h0 hcl] at h; simp at h)]; exact Le.lpz) <| .cons (Le.flt (cpF_2 h0 hcl)) <| .nil))
   ·have hL : ¬ CLarge t := cl_none (by simpa using c38) h6
    refine .p <| .z <| .al 5 zc81 ?_; refine .sq <| .g <| .g <| .ownNilBox 191 5 0 1 22 rfl rfl rfl ?_; refine .ownNilBox 192 5 1 1 3 rfl rfl rfl ?_; refine .ownNilBox 193 5 2 1 3 rfl rfl rfl ?_; refine .r <| .x (.f fo25_3) ?_; refine .x (.l vs23) ?_; refine .x (.n es23) ?_; refine .m ?_; refine .sq <| .k <| .loop (X := Nat) (fun i => i ≤ t.ops.length) (fun i => [(1, .r 1 0), (2, .r 2 0), (3, .r 3 0), (5, .r 5 0), (42, .d (sopsD t.ops)), (43, I (t.ops.length)), (44, I (i))]) (fun i => [(191, .own 1 22 (([] : List (List Int)).map fun r => [ints r])), (192, .own 1 3 (([] : List Int).map fun n => [D.v (.int .i64 n)])), (193, .own 1 3 ((obTo t i).map fun n => [D.v (.int .i64 n)])), (1, .box [I (t.facts), .d (ints t.ini), .d (ints t.goal), .d (sopsD t.ops)]), (2, .box [.d (.v (.slice none 0 0)), .d (.v (.slice none 0 0)), .d (.v (.slice none 0 0))]), (3, .box [I (0), I (0)]), (5, .box [.o 191, .o 192, .o 193])]) (fun i => t.ops.length - i) 0 (by omega) ?_ ?_
    ·exact .p5 <| .sl <| .slot rfl (Le.of_eq (by simp)) <| .mem rfl <| .mem rfl <| .memEq rfl (by simp [obTo]) <| .all
    ·rintro i hil
     refine .g <| .r <| .x (.b blss) ?_; refine .sq <| .g <| .cond rfl (fun c45 => ?_) (fun c45 => ?_)
     ·have hk : i < t.ops.length := by simpa using c45
      have hcs := (hV.op i hk).2
      have hobl := ob_len (t := t) (k := i) (by omega)
      refine .p <| .g <| .g <| .k <| .g <| .r <| .x (.i es23) ?_; refine .x (.lN vs41) ?_; refine .al 7 zc41 ?_; refine .sb vs41 ?_; refine .y <| .x (.f fo81_2) ?_; refine .x (.l vs22) ?_; refine .x (.f fo41_3) ?_; refine .x (.l vs3) ?_; refine .x (OpSem.neg rfl rfl (neg_in (by omega) (by omega))) ?_; refine .x (.bs es22 ze22) ?_; refine .ap es22 el22 zc3 by3 ?_; refine .x (.f fo81_2) ?_; refine .sb vs22 ?_; refine .n <| .n <| .y <| .x .ad ?_; refine .m ?_; refine .n <| .again (i + 1) (by omega) ?_ (by omega); exact .p5 <| .sl <| .slot rfl (Le.of_eq (by simp)) <| .mem rfl <| .mem rfl <| .memEq rfl (by rw [ob_s hk]; simp) <| .all
     ·have hk : i = t.ops.length := by simp at c45; omega
      subst hk
      refine .u <| .u <| .u <| .b <| .g <| .g <| .g <| .r <| .x (.f fo25_2) ?_; refine .x (.l vs22) ?_; refine .x (.n es22) ?_; refine .m ?_; refine .sq <| .k <| .loop (X := Nat) (fun k => k ≤ t.goal.length) (fun k => [(1, .r 1 0), (2, .r 2 0), (3, .r 3 0), (5, .r 5 0), (58, .d (ints t.goal)), (59, I (t.goal.length)), (60, I (k))]) (fun k => [(191, .own 1 22 ((gRows t k).map fun r => [ints r])), (192, .own 1 3 ((gBnds t k).map fun n => [D.v (.int .i64 n)])), (193, .own 1 3 ((obTo t t.ops.length).map fun n => [D.v (.int .i64 n)])), (1, .box [I (t.facts), .d (ints t.ini), .d (ints t.goal), .d (sopsD t.ops)]), (2, .box [.d (.v (.slice none 0 0)), .d (.v (.slice none 0 0)), .d (.v (.slice none 0 0))]), (3, .box [I (0), I (0)]), (5, .box [.o 191, .o 192, .o 193])]) (fun k => t.goal.length - k) 0 (by omega) ?_ ?_
      ·exact .p5 <| .sl <| .slot rfl (Le.of_eq (by simp)) <| .memEq rfl (by simp [gRows]) <| .memEq rfl (by simp [gBnds]) <| .all
      ·rintro k hkl
       refine .g <| .r <| .x (.b blss) ?_; refine .sq <| .g <| .cond rfl (fun c61 => ?_) (fun c61 => ?_)
       ·have hk : k < t.goal.length := by simpa using c61
        have hgr := grs_len (t := t) (k := k) (by omega)
        have hgb : (gBnds t k).length = k := by simp [gBnds]; omega
        refine .p <| .g <| .g <| .k <| .g <| .r <| .x (.i es22) ?_; refine .x (.l1 vs3) ?_; refine .a ?_; refine .z <| .x (.f fo25_3) ?_; refine .x (.l vs23) ?_; refine .x (.n es23) ?_; refine .mk 67 es22 ze22 bye22 ?_; refine .a ?_; refine .sq <| .cut [(1, .r 1 0), (3, .r 3 0), (2, .r 2 0), (5, .r 5 0), (9, I ((nth t.goal k))), (10, .o 67), (58, .d (ints t.goal)), (59, I (t.goal.length)), (60, I (k))] [(1, .box [I (t.facts), .d (ints t.ini), .d (ints t.goal), .d (sopsD t.ops)]), (3, .box [I (0), I (0)]), (2, .box [.d (.v (.slice none 0 0)), .d (.v (.slice none 0 0)), .d (.v (.slice none 0 0))]), (5, .box [.o 191, .o 192, .o 193]), (67, .own 1 3 ((gRow t (nth t.goal k)).map fun n => [D.v (.int .i64 n)])), (191, .own 1 22 ((gRows t k).map fun r => [ints r])), (192, .own 1 3 ((gBnds t k).map fun n => [D.v (.int .i64 n)])), (193, .own 1 3 ((obTo t t.ops.length).map fun n => [D.v (.int .i64 n)]))] ?_ ?_
        ·refine .g <| .r <| .x (.f fo25_3) ?_; refine .x (.l vs23) ?_; refine .x (.n es23) ?_; refine .m ?_; refine .sq <| .k <| .loop (X := Nat) (fun i => i ≤ t.ops.length) (fun i => [(1, .r 1 0), (2, .r 2 0), (3, .r 3 0), (5, .r 5 0), (9, I ((nth t.goal k))), (10, .o 67), (58, .d (ints t.goal)), (59, I (t.goal.length)), (60, I (k)), (69, .d (sopsD t.ops)), (70, I (t.ops.length)), (71, I (i))]) (fun i => [(191, .own 1 22 ((gRows t k).map fun r => [ints r])), (192, .own 1 3 ((gBnds t k).map fun n => [D.v (.int .i64 n)])), (193, .own 1 3 ((obTo t t.ops.length).map fun n => [D.v (.int .i64 n)])), (67, .own 1 3 ((gRowS t (nth t.goal k) i).map fun n => [D.v (.int .i64 n)])), (1, .box [I (t.facts), .d (ints t.ini), .d (ints t.goal), .d (sopsD t.ops)]), (2, .box [.d (.v (.slice none 0 0)), .d (.v (.slice none 0 0)), .d (.v (.slice none 0 0))]), (3, .box [I (0), I (0)]), (5, .box [.o 191, .o 192, .o 193])]) (fun i => t.ops.length - i) 0 (by omega) ?_ ?_
         ·exact .p5 <| .p5 <| .sl <| .slot rfl (Le.of_eq (by simp)) <| .mem rfl <| .mem rfl <| .mem rfl <| .memEq rfl (by rw [gs_0, el22]; first | (simp; done) | (simp; rfl)) <| .all
         ·rintro i hil
          refine .g <| .r <| .x (.b blss) ?_; refine .sq <| .g <| .cond rfl (fun c72 => ?_) (fun c72 => ?_)
          ·have hi : i < t.ops.length := by simpa using c72
           have hci := chg_in (o := (nth t.ops i)) (p := (nth t.goal k))
           refine .p <| .g <| .g <| .k <| .g <| .r <| .m ?_; refine .x (.i es23) ?_; refine .x (.lN vs41) ?_; refine .al 12 zc41 ?_; refine .a ?_; refine .sb vs41 ?_; refine .y <| .mm ?_; refine .x (.L vs41) ?_; refine .m ?_; refine .x (OpSem.call0 (counting_change_does (nth t.ops i) (nth t.goal k)) rfl rfl rfl rfl (Les.refl _)) ?_; refine .x (OpSem.neg rfl rfl (neg_in (by omega) (by omega))) ?_; refine .x (OpSem.idxo rfl rfl rfl rfl es22 (by omega) (by simp [gs_len]; omega)) ?_; refine .storeq rfl rfl rfl rfl rfl rfl rfl vs3 (rows_get (by omega) (by rw [gs_len]; omega)) (by simp) ?_; refine .n <| .n <| .y <| .x .ad ?_; refine .m ?_; refine .n <| .again (i + 1) (by omega) ?_ (by omega); exact .p5 <| .p5 <| .sl <| .slot rfl (Le.of_eq (by simp)) <| .mem rfl <| .mem rfl <| .mem rfl <| .memEq rfl (by rw [← gs_s hi]; exact congrArg (Mo.own 1 3) (rows_set (f := fun n => [D.v (.int .i64 n)]))) <| .all
          ·have hi : i = t.ops.length := by simp at c72; omega
           subst hi
           exact .u <| .u <| .u <| .b <| .meet <| .p5 <| .p3 <| .sl <| .mem rfl <| .mem rfl <| .mem rfl <| .mem rfl <| .memEq rfl (by rw [gs_end]) <| .all
        ·refine .g <| .freeze 67 rfl ?_; refine .r <| .a ?_; refine .sq <| .cut [(1, .r 1 0), (3, .r 3 0), (2, .r 2 0), (5, .r 5 0), (10, .d (ints (gRow t (nth t.goal k)))), (13, I ((gBnd t (nth t.goal k)))), (58, .d (ints t.goal)), (59, I (t.goal.length)), (60, I (k))] [(1, .box [I (t.facts), .d (ints t.ini), .d (ints t.goal), .d (sopsD t.ops)]), (3, .box [I (0), I (0)]), (2, .box [.d (.v (.slice none 0 0)), .d (.v (.slice none 0 0)), .d (.v (.slice none 0 0))]), (5, .box [.o 191, .o 192, .o 193]), (191, .own 1 22 ((gRows t k).map fun r => [ints r])), (192, .own 1 3 ((gBnds t k).map fun n => [D.v (.int .i64 n)])), (193, .own 1 3 ((obTo t t.ops.length).map fun n => [D.v (.int .i64 n)]))] ?_ ?_
         ·refine .g <| .r <| .x (.f fo25_1) ?_; refine .x (.l vs22) ?_; refine .m ?_; refine .x (OpSem.call0 (slices_Contains_int_int_does t.ini (nth t.goal k)) rfl rfl rfl rfl (Les.refl _)) ?_; refine .sq <| .cond rfl (fun c87 => ?_) (fun c87 => ?_)
          ·have hgin : gBnd t (nth t.goal k) = 0 := by unfold gBnd; rw [if_pos (by simpa using c87)]
           refine .r <| .a ?_; exact .n <| .meet <| .p5 <| .slot rfl (Le.i hgin.symm) <| .all
          ·have hgin : gBnd t (nth t.goal k) = -1 := by unfold gBnd; rw [if_neg (by simpa using c87)]
           exact .p <| .meet <| .p5 <| .slot rfl (Le.i hgin.symm) <| .all
         ·refine .lattice 14 [Ff, Ff, Ff, Ff, Ff, Ff, Ff, Ff, Ff, Ff, Ff, Ff, Ff, Ff] mixed rfl rfl ?_; refine .share 0 [Tt, Tt, Tt, Tt, Tt, Tt, Tt, Tt, Tt, Tt, Tt, Tt, Tt, Tt] (cp24E t k) ((5, .box [.o 191, .o 192, .o 193]) :: (191, .own 1 22 ((gRows t (k + 1)).map fun r => [ints r])) :: (192, .own 1 3 ((gBnds t (k + 1)).map fun n => [D.v (.int .i64 n)])) :: cp24M t k) ?_ (fun h_97 => ?_)
          ·refine .fin (by kernel_rfl) ?_; refine .n <| .y <| .x .ad ?_; refine .m ?_; refine .n <| .again (k + 1) (by omega) ?_ (by omega); exact .p5 <| .sl <| .slot rfl (Le.of_eq (by simp)) <| .all
          refine .share 1 [Tt, Tt, Tt, Tt, Tt, Tt, Tt, Tt, Tt, Tt, Tt, Tt, Tt, Ff] ((97, .o 192) :: (99, .r 5 1) :: cp24E t k) (cp24m6 t k) ?_ (fun h_96 => ?_)
          ·refine .st [13] ⟨?_, trivial⟩
           ·refine .v _ ?_; refine .sb vs22 ?_; exact .j h_97
          refine .share 2 [Tt, Tt, Tt, Tt, Tt, Tt, Tt, Tt, Tt, Tt, Tt, Tt, Ff, Ff] ((97, .o 192) :: cp24E t k) (cp24m6 t k) ?_ (fun h_95 => ?_)
          ·exact .st [12] ⟨.x rfl (.f fo81_1) h_96, trivial⟩
          refine .share 3 [Tt, Tt, Tt, Tt, Tt, Tt, Tt, Tt, Tt, Tt, Tt, Ff, Ff, Ff] ((92, .o 191) :: (97, .o 192) :: (98, .r 5 0) :: cp24E t k) (cp24m5 t k) ?_ (fun h_94 => ?_)
          ·refine .st [11] ⟨?_, trivial⟩
           ·refine .v _ ?_; refine .sb vs58 ?_; exact .j h_95
          refine .share 4 [Tt, Tt, Tt, Tt, Tt, Tt, Tt, Tt, Tt, Tt, Ff, Ff, Ff, Ff] ((92, .o 191) :: (97, .o 192) :: cp24E t k) (cp24m5 t k) ?_ (fun h_92 => ?_)
          ·exact .st [10] ⟨.x rfl (.f fo81_0) h_94, trivial⟩
          refine .share 4 [Tt, Tt, Tt, Tt, Tt, Tt, Tt, Tt, Tt, Ff, Tt, Ff, Ff, Ff] ((92, .o 191) :: (94, .o 192) :: cp24e3 t k :: (98, .r 5 0) :: cp24E t k) (cp24m4 t k) ?_ (fun h_93 => ?_)
          ·refine .st [9] ⟨?_, trivial⟩
           ·refine .v _ ?_; refine .ap es22 el22 zc3 by3 ?_; exact TrL.join h_94 rfl (.p5 <| .p5 <| .p2 <| .mem rfl <| .mem rfl <| .memEq rfl (by rw [gbs_s hk]; simp) <| .mem rfl <| .mem rfl <| .mem rfl <| .mem rfl <| .nil)
          refine .share 5 [Tt, Tt, Tt, Tt, Tt, Tt, Tt, Tt, Tt, Ff, Ff, Ff, Ff, Ff] ((92, .o 191) :: (94, .o 192) :: cp24e3 t k :: cp24E t k) (cp24m4 t k) ?_ (fun h_90 => ?_)
          ·refine .st [9, 10] ⟨?_, ?_, trivial⟩
           ·refine .v _ ?_; refine .ap es22 el22 zc3 by3 ?_; exact TrL.join h_92 rfl (.p5 <| .p5 <| .sl <| .mem rfl <| .mem rfl <| .memEq rfl (by rw [gbs_s hk]; simp) <| .mem rfl <| .mem rfl <| .mem rfl <| .mem rfl <| .nil)
           ·exact .x rfl (.f fo81_0) h_93
          refine .share 5 [Tt, Tt, Tt, Tt, Tt, Tt, Tt, Tt, Ff, Ff, Tt, Ff, Ff, Ff] ((92, .o 191) :: (94, .o 192) :: (95, I ((gBnd t (nth t.goal k)))) :: (98, .r 5 0) :: cp24E t k) (cp24m4 t k) ?_ (fun h_91 => ?_)
          ·exact .st [8] ⟨.x rfl (.bs es22 ze22) h_93, trivial⟩
          refine .share 6 [Tt, Tt, Tt, Tt, Tt, Tt, Tt, Tt, Ff, Ff, Ff, Ff, Ff, Ff] ((92, .o 191) :: (94, .o 192) :: (95, I ((gBnd t (nth t.goal k)))) :: cp24E t k) (cp24m4 t k) ?_ (fun h_86 => ?_)
          ·exact .st [8, 10] ⟨.x rfl (.bs es22 ze22) h_90, .x rfl (.f fo81_0) h_91, trivial⟩
          refine .share 6 [Tt, Tt, Tt, Tt, Tt, Tt, Tt, Ff, Ff, Ff, Tt, Ff, Ff, Ff] ((92, .o 191) :: (94, .o 192) :: (98, .r 5 0) :: cp24E t k) (cp24m4 t k) ?_ (fun h_87 => ?_)
          ·exact .st [7] ⟨.m h_91, trivial⟩
          refine .share 6 [Tt, Tt, Tt, Tt, Tt, Tt, Ff, Tt, Tt, Ff, Ff, Ff, Ff, Ff] ((92, .o 191) :: (93, .r 5 1) :: cp24e3 t k :: cp24E t k) (cp24m4 t k) ?_ (fun h_88 => ?_)
          ·exact .st [6] ⟨.x rfl (.l vs22) h_90, trivial⟩
          refine .share 6 [Tt, Tt, Tt, Tt, Ff, Tt, Tt, Tt, Tt, Ff, Ff, Ff, Ff, Ff] ((89, .o 191) :: cp24e2 t k :: (94, .o 192) :: cp24e3 t k :: cp24E t k) (cp24m0 t k) ?_ (fun h_89 => ?_)
          ·refine .st [4] ⟨?_, trivial⟩
           ·refine .v _ ?_; refine .ap es58 el58 zc22 by22 ?_; exact TrL.join h_90 rfl (.p5 <| .p5 <| .p2 <| .mem rfl <| .memEq rfl (by rw [grs_s hk, List.map_append]; rfl) <| .mem rfl <| .mem rfl <| .mem rfl <| .mem rfl <| .mem rfl <| .nil)
          refine .share 7 [Tt, Tt, Tt, Tt, Tt, Tt, Tt, Ff, Ff, Ff, Ff, Ff, Ff, Ff] ((92, .o 191) :: (94, .o 192) :: cp24E t k) (cp24m4 t k) ?_ (fun h_79 => ?_)
          ·exact .st [7, 10] ⟨.m h_86, .x rfl (.f fo81_0) h_87, trivial⟩
          refine .share 7 [Tt, Tt, Tt, Tt, Tt, Tt, Ff, Tt, Ff, Ff, Ff, Ff, Ff, Ff] ((92, .o 191) :: (93, .r 5 1) :: (95, I ((gBnd t (nth t.goal k)))) :: cp24E t k) (cp24m4 t k) ?_ (fun h_80 => ?_)
          ·exact .st [6, 8] ⟨.x rfl (.l vs22) h_86, .x rfl (.bs es22 ze22) h_88, trivial⟩
          refine .share 7 [Tt, Tt, Tt, Tt, Tt, Ff, Ff, Tt, Tt, Ff, Ff, Ff, Ff, Ff] ((92, .o 191) :: cp24e3 t k :: cp24E t k) (cp24m4 t k) ?_ (fun h_81 => ?_)
          ·exact .st [5] ⟨.x rfl (.f fo81_1) h_88, trivial⟩
          refine .share 7 [Tt, Tt, Tt, Tt, Ff, Tt, Tt, Tt, Ff, Ff, Ff, Ff, Ff, Ff] ((89, .o 191) :: cp24e2 t k :: (94, .o 192) :: (95, I ((gBnd t (nth t.goal k)))) :: cp24E t k) (cp24m0 t k) ?_ (fun h_82 => ?_)
          ·refine .st [4, 8] ⟨?_, ?_, trivial⟩
           ·refine .v _ ?_; refine .ap es58 el58 zc22 by22 ?_; exact TrL.join h_86 rfl (.p5 <| .p5 <| .p2 <| .mem rfl <| .memEq rfl (by rw [grs_s hk, List.map_append]; rfl) <| .mem rfl <| .mem rfl <| .mem rfl <| .mem rfl <| .mem rfl <| .nil)
           ·exact .x rfl (.bs es22 ze22) h_89
          refine .share 7 [Tt, Tt, Tt, Tt, Ff, Tt, Ff, Tt, Tt, Ff, Ff, Ff, Ff, Ff] ((89, .o 191) :: cp24e2 t k :: (93, .r 5 1) :: cp24e3 t k :: cp24E t k) (cp24m0 t k) ?_ (fun h_83 => ?_)
          ·refine .st [4, 6] ⟨?_, ?_, trivial⟩
           ·refine .v _ ?_; refine .ap es58 el58 zc22 by22 ?_; exact TrL.join h_88 rfl (.p5 <| .p5 <| .p2 <| .mem rfl <| .memEq rfl (by rw [grs_s hk, List.map_append]; rfl) <| .mem rfl <| .mem rfl <| .mem rfl <| .mem rfl <| .mem rfl <| .nil)
           ·exact .x rfl (.l vs22) h_89
          refine .share 7 [Tt, Tt, Tt, Ff, Ff, Tt, Tt, Tt, Tt, Ff, Ff, Ff, Ff, Ff] ((89, .o 191) :: cp24e1 t k :: (94, .o 192) :: cp24e3 t k :: cp24E t k) (cp24m0 t k) ?_ (fun h_84 => ?_)
          ·exact .st [3] ⟨.x rfl (.bs es58 ze58) h_89, trivial⟩
          refine .share 7 [Tt, Ff, Tt, Tt, Ff, Tt, Tt, Tt, Tt, Ff, Ff, Ff, Ff, Ff] ((88, .r 5 0) :: cp24e2 t k :: (94, .o 192) :: cp24e3 t k :: cp24E t k) (cp24m0 t k) ?_ (fun h_85 => ?_)
          ·exact .st [1] ⟨.x rfl (.l vs58) h_89, trivial⟩
          refine .share 8 [Tt, Tt, Tt, Tt, Tt, Tt, Ff, Ff, Ff, Ff, Ff, Ff, Ff, Ff] ((92, .o 191) :: (93, .r 5 1) :: cp24E t k) (cp24m4 t k) ?_ (fun h_67 => ?_)
          ·exact .st [6, 7] ⟨.x rfl (.l vs22) h_79, .m h_80, trivial⟩
          refine .share 8 [Tt, Tt, Tt, Tt, Tt, Ff, Ff, Tt, Ff, Ff, Ff, Ff, Ff, Ff] ((92, .o 191) :: (95, I ((gBnd t (nth t.goal k)))) :: cp24E t k) (cp24m4 t k) ?_ (fun h_68 => ?_)
          ·exact .st [5, 8] ⟨.x rfl (.f fo81_1) h_80, .x rfl (.bs es22 ze22) h_81, trivial⟩
          refine .share 8 [Tt, Tt, Tt, Tt, Ff, Tt, Tt, Ff, Ff, Ff, Ff, Ff, Ff, Ff] ((89, .o 191) :: cp24e2 t k :: (94, .o 192) :: cp24E t k) (cp24m0 t k) ?_ (fun h_69 => ?_)
          ·refine .st [4, 7] ⟨?_, ?_, trivial⟩
           ·refine .v _ ?_; refine .ap es58 el58 zc22 by22 ?_; exact TrL.join h_79 rfl (.p5 <| .p5 <| .sl <| .mem rfl <| .memEq rfl (by rw [grs_s hk, List.map_append]; rfl) <| .mem rfl <| .mem rfl <| .mem rfl <| .mem rfl <| .mem rfl <| .nil)
           ·exact .m h_82
          refine .share 8 [Tt, Tt, Tt, Tt, Ff, Tt, Ff, Tt, Ff, Ff, Ff, Ff, Ff, Ff] ((89, .o 191) :: cp24e2 t k :: (93, .r 5 1) :: (95, I ((gBnd t (nth t.goal k)))) :: cp24E t k) (cp24m0 t k) ?_ (fun h_70 => ?_)
          ·refine .st [4, 6, 8] ⟨?_, ?_, ?_, trivial⟩
           ·refine .v _ ?_; refine .ap es58 el58 zc22 by22 ?_; exact TrL.join h_80 rfl (.p5 <| .p5 <| .p2 <| .mem rfl <| .memEq rfl (by rw [grs_s hk, List.map_append]; rfl) <| .mem rfl <| .mem rfl <| .mem rfl <| .mem rfl <| .mem rfl <| .nil)
           ·exact .x rfl (.l vs22) h_82
           ·exact .x rfl (.bs es22 ze22) h_83
          refine .share 8 [Tt, Tt, Tt, Tt, Ff, Ff, Ff, Tt, Tt, Ff, Ff, Ff, Ff, Ff] ((89, .o 191) :: cp24e2 t k :: cp24e3 t k :: cp24E t k) (cp24m0 t k) ?_ (fun h_71 => ?_)
          ·refine .st [4, 5] ⟨?_, ?_, trivial⟩
           ·refine .v _ ?_; refine .ap es58 el58 zc22 by22 ?_; exact TrL.join h_81 rfl (.p5 <| .p5 <| .sl <| .mem rfl <| .memEq rfl (by rw [grs_s hk, List.map_append]; rfl) <| .mem rfl <| .mem rfl <| .mem rfl <| .mem rfl <| .mem rfl <| .nil)
           ·exact .x rfl (.f fo81_1) h_83
          refine .share 8 [Tt, Tt, Tt, Ff, Ff, Tt, Tt, Tt, Ff, Ff, Ff, Ff, Ff, Ff] ((89, .o 191) :: cp24e1 t k :: (94, .o 192) :: (95, I ((gBnd t (nth t.goal k)))) :: cp24E t k) (cp24m0 t k) ?_ (fun h_72 => ?_)
          ·exact .st [3, 8] ⟨.x rfl (.bs es58 ze58) h_82, .x rfl (.bs es22 ze22) h_84, trivial⟩
          refine .share 8 [Tt, Tt, Tt, Ff, Ff, Tt, Ff, Tt, Tt, Ff, Ff, Ff, Ff, Ff] ((89, .o 191) :: cp24e1 t k :: (93, .r 5 1) :: cp24e3 t k :: cp24E t k) (cp24m0 t k) ?_ (fun h_73 => ?_)
          ·exact .st [3, 6] ⟨.x rfl (.bs es58 ze58) h_83, .x rfl (.l vs22) h_84, trivial⟩
          refine .share 8 [Tt, Tt, Ff, Ff, Ff, Tt, Tt, Tt, Tt, Ff, Ff, Ff, Ff, Ff] ((89, .o 191) :: (94, .o 192) :: cp24e3 t k :: cp24E t k) (cp24m0 t k) ?_ (fun h_74 => ?_)
          ·exact .st [2] ⟨.m h_84, trivial⟩
          refine .share 8 [Tt, Ff, Tt, Tt, Ff, Tt, Tt, Tt, Ff, Ff, Ff, Ff, Ff, Ff] ((88, .r 5 0) :: cp24e2 t k :: (94, .o 192) :: (95, I ((gBnd t (nth t.goal k)))) :: cp24E t k) (cp24m0 t k) ?_ (fun h_75 => ?_)
          ·exact .st [1, 8] ⟨.x rfl (.l vs58) h_82, .x rfl (.bs es22 ze22) h_85, trivial⟩
          refine .share 8 [Tt, Ff, Tt, Tt, Ff, Tt, Ff, Tt, Tt, Ff, Ff, Ff, Ff, Ff] ((88, .r 5 0) :: cp24e2 t k :: (93, .r 5 1) :: cp24e3 t k :: cp24E t k) (cp24m0 t k) ?_ (fun h_76 => ?_)
          ·exact .st [1, 6] ⟨.x rfl (.l vs58) h_83, .x rfl (.l vs22) h_85, trivial⟩
          refine .share 8 [Tt, Ff, Tt, Ff, Ff, Tt, Tt, Tt, Tt, Ff, Ff, Ff, Ff, Ff] ((88, .r 5 0) :: cp24e1 t k :: (94, .o 192) :: cp24e3 t k :: cp24E t k) (cp24m0 t k) ?_ (fun h_77 => ?_)
          ·exact .st [1, 3] ⟨.x rfl (.l vs58) h_84, .x rfl (.bs es58 ze58) h_85, trivial⟩
          refine .share 8 [Ff, Ff, Tt, Tt, Ff, Tt, Tt, Tt, Tt, Ff, Ff, Ff, Ff, Ff] (cp24e2 t k :: (94, .o 192) :: cp24e3 t k :: cp24E t k) (cp24m0 t k) ?_ (fun h_78 => ?_)
          ·exact .st [0] ⟨.x rfl (.f fo81_0) h_85, trivial⟩
          refine .share 9 [Tt, Tt, Tt, Tt, Tt, Ff, Ff, Ff, Ff, Ff, Ff, Ff, Ff, Ff] ((92, .o 191) :: cp24E t k) (cp24m4 t k) ?_ (fun h_50 => ?_)
          ·exact .st [5, 7] ⟨.x rfl (.f fo81_1) h_67, .m h_68, trivial⟩
          refine .share 9 [Tt, Tt, Tt, Tt, Ff, Tt, Ff, Ff, Ff, Ff, Ff, Ff, Ff, Ff] ((89, .o 191) :: cp24e2 t k :: (93, .r 5 1) :: cp24E t k) (cp24m0 t k) ?_ (fun h_51 => ?_)
          ·refine .st [4, 6, 7] ⟨?_, ?_, ?_, trivial⟩
           ·refine .v _ ?_; refine .ap es58 el58 zc22 by22 ?_; exact TrL.join h_67 rfl (.p5 <| .p5 <| .sl <| .mem rfl <| .memEq rfl (by rw [grs_s hk, List.map_append]; rfl) <| .mem rfl <| .mem rfl <| .mem rfl <| .mem rfl <| .mem rfl <| .nil)
           ·exact .x rfl (.l vs22) h_69
           ·exact .m h_70
          refine .share 9 [Tt, Tt, Tt, Tt, Ff, Ff, Ff, Tt, Ff, Ff, Ff, Ff, Ff, Ff] ((89, .o 191) :: cp24e2 t k :: (95, I ((gBnd t (nth t.goal k)))) :: cp24E t k) (cp24m0 t k) ?_ (fun h_52 => ?_)
          ·refine .st [4, 5, 8] ⟨?_, ?_, ?_, trivial⟩
           ·refine .v _ ?_; refine .ap es58 el58 zc22 by22 ?_; exact TrL.join h_68 rfl (.p5 <| .p5 <| .sl <| .mem rfl <| .memEq rfl (by rw [grs_s hk, List.map_append]; rfl) <| .mem rfl <| .mem rfl <| .mem rfl <| .mem rfl <| .mem rfl <| .nil)
           ·exact .x rfl (.f fo81_1) h_70
           ·exact .x rfl (.bs es22 ze22) h_71
          refine .share 9 [Tt, Tt, Tt, Ff, Ff, Tt, Tt, Ff, Ff, Ff, Ff, Ff, Ff, Ff] ((89, .o 191) :: cp24e1 t k :: (94, .o 192) :: cp24E t k) (cp24m0 t k) ?_ (fun h_53 => ?_)
          ·exact .st [3, 7] ⟨.x rfl (.bs es58 ze58) h_69, .m h_72, trivial⟩
          refine .share 9 [Tt, Tt, Tt, Ff, Ff, Tt, Ff, Tt, Ff, Ff, Ff, Ff, Ff, Ff] ((89, .o 191) :: cp24e1 t k :: (93, .r 5 1) :: (95, I ((gBnd t (nth t.goal k)))) :: cp24E t k) (cp24m0 t k) ?_ (fun h_54 => ?_)
          ·exact .st [3, 6, 8] ⟨.x rfl (.bs es58 ze58) h_70, .x rfl (.l vs22) h_72, .x rfl (.bs es22 ze22) h_73, trivial⟩
          refine .share 9 [Tt, Tt, Tt, Ff, Ff, Ff, Ff, Tt, Tt, Ff, Ff, Ff, Ff, Ff] ((89, .o 191) :: cp24e1 t k :: cp24e3 t k :: cp24E t k) (cp24m0 t k) ?_ (fun h_55 => ?_)
          ·exact .st [3, 5] ⟨.x rfl (.bs es58 ze58) h_71, .x rfl (.f fo81_1) h_73, trivial⟩
          refine .share 9 [Tt, Tt, Ff, Ff, Ff, Tt, Tt, Tt, Ff, Ff, Ff, Ff, Ff, Ff] ((89, .o 191) :: (94, .o 192) :: (95, I ((gBnd t (nth t.goal k)))) :: cp24E t k) (cp24m0 t k) ?_ (fun h_56 => ?_)
          ·exact .st [2, 8] ⟨.m h_72, .x rfl (.bs es22 ze22) h_74, trivial⟩
          refine .share 9 [Tt, Tt, Ff, Ff, Ff, Tt, Ff, Tt, Tt, Ff, Ff, Ff, Ff, Ff] ((89, .o 191) :: (93, .r 5 1) :: cp24e3 t k :: cp24E t k) (cp24m0 t k) ?_ (fun h_57 => ?_)
          ·exact .st [2, 6] ⟨.m h_73, .x rfl (.l vs22) h_74, trivial⟩
          refine .share 9 [Tt, Ff, Tt, Tt, Ff, Tt, Tt, Ff, Ff, Ff, Ff, Ff, Ff, Ff] ((88, .r 5 0) :: cp24e2 t k :: (94, .o 192) :: cp24E t k) (cp24m0 t k) ?_ (fun h_58 => ?_)
          ·exact .st [1, 7] ⟨.x rfl (.l vs58) h_69, .m h_75, trivial⟩
          refine .share 9 [Tt, Ff, Tt, Tt, Ff, Tt, Ff, Tt, Ff, Ff, Ff, Ff, Ff, Ff] ((88, .r 5 0) :: cp24e2 t k :: (93, .r 5 1) :: (95, I ((gBnd t (nth t.goal k)))) :: cp24E t k) (cp24m0 t k) ?_ (fun h_59 => ?_)
          ·exact .st [1, 6, 8] ⟨.x rfl (.l vs58) h_70, .x rfl (.l vs22) h_75, .x rfl (.bs es22 ze22) h_76, trivial⟩
          refine .share 9 [Tt, Ff, Tt, Tt, Ff, Ff, Ff, Tt, Tt, Ff, Ff, Ff, Ff, Ff] ((88, .r 5 0) :: cp24e2 t k :: cp24e3 t k :: cp24E t k) (cp24m0 t k) ?_ (fun h_60 => ?_)
          ·exact .st [1, 5] ⟨.x rfl (.l vs58) h_71, .x rfl (.f fo81_1) h_76, trivial⟩
          refine .share 9 [Tt, Ff, Tt, Ff, Ff, Tt, Tt, Tt, Ff, Ff, Ff, Ff, Ff, Ff] ((88, .r 5 0) :: cp24e1 t k :: (94, .o 192) :: (95, I ((gBnd t (nth t.goal k)))) :: cp24E t k) (cp24m0 t k) ?_ (fun h_61 => ?_)
          ·exact .st [1, 3, 8] ⟨.x rfl (.l vs58) h_72, .x rfl (.bs es58 ze58) h_75, .x rfl (.bs es22 ze22) h_77, trivial⟩
          refine .share 9 [Tt, Ff, Tt, Ff, Ff, Tt, Ff, Tt, Tt, Ff, Ff, Ff, Ff, Ff] ((88, .r 5 0) :: cp24e1 t k :: (93, .r 5 1) :: cp24e3 t k :: cp24E t k) (cp24m0 t k) ?_ (fun h_62 => ?_)
          ·exact .st [1, 3, 6] ⟨.x rfl (.l vs58) h_73, .x rfl (.bs es58 ze58) h_76, .x rfl (.l vs22) h_77, trivial⟩
          refine .share 9 [Tt, Ff, Ff, Ff, Ff, Tt, Tt, Tt, Tt, Ff, Ff, Ff, Ff, Ff] ((88, .r 5 0) :: (94, .o 192) :: cp24e3 t k :: cp24E t k) (cp24m0 t k) ?_ (fun h_63 => ?_)
          ·exact .st [1, 2] ⟨.x rfl (.l vs58) h_74, .m h_77, trivial⟩
          refine .share 9 [Ff, Ff, Tt, Tt, Ff, Tt, Tt, Tt, Ff, Ff, Ff, Ff, Ff, Ff] (cp24e2 t k :: (94, .o 192) :: (95, I ((gBnd t (nth t.goal k)))) :: cp24E t k) (cp24m0 t k) ?_ (fun h_64 => ?_)
          ·exact .st [0, 8] ⟨.x rfl (.f fo81_0) h_75, .x rfl (.bs es22 ze22) h_78, trivial⟩
          refine .share 9 [Ff, Ff, Tt, Tt, Ff, Tt, Ff, Tt, Tt, Ff, Ff, Ff, Ff, Ff] (cp24e2 t k :: (93, .r 5 1) :: cp24e3 t k :: cp24E t k) (cp24m0 t k) ?_ (fun h_65 => ?_)
          ·exact .st [0, 6] ⟨.x rfl (.f fo81_0) h_76, .x rfl (.l vs22) h_78, trivial⟩
          refine .share 9 [Ff, Ff, Tt, Ff, Ff, Tt, Tt, Tt, Tt, Ff, Ff, Ff, Ff, Ff] (cp24e1 t k :: (94, .o 192) :: cp24e3 t k :: cp24E t k) (cp24m0 t k) ?_ (fun h_66 => ?_)
          ·exact .st [0, 3] ⟨.x rfl (.f fo81_0) h_77, .x rfl (.bs es58 ze58) h_78, trivial⟩
          refine .share 10 [Tt, Tt, Tt, Tt, Ff, Ff, Ff, Ff, Ff, Ff, Ff, Ff, Ff, Ff] ((89, .o 191) :: cp24e2 t k :: cp24E t k) (cp24m0 t k) ?_ (fun h_31 => ?_)
          ·refine .st [4, 5, 7] ⟨?_, ?_, ?_, trivial⟩
           ·refine .v _ ?_; refine .ap es58 el58 zc22 by22 ?_; exact TrL.join h_50 rfl (.p5 <| .p5 <| .mem rfl <| .memEq rfl (by rw [grs_s hk, List.map_append]; rfl) <| .mem rfl <| .mem rfl <| .mem rfl <| .mem rfl <| .mem rfl <| .nil)
           ·exact .x rfl (.f fo81_1) h_51
           ·exact .m h_52
          refine .share 10 [Tt, Tt, Tt, Ff, Ff, Tt, Ff, Ff, Ff, Ff, Ff, Ff, Ff, Ff] ((89, .o 191) :: cp24e1 t k :: (93, .r 5 1) :: cp24E t k) (cp24m0 t k) ?_ (fun h_32 => ?_)
          ·exact .st [3, 6, 7] ⟨.x rfl (.bs es58 ze58) h_51, .x rfl (.l vs22) h_53, .m h_54, trivial⟩
          refine .share 10 [Tt, Tt, Tt, Ff, Ff, Ff, Ff, Tt, Ff, Ff, Ff, Ff, Ff, Ff] ((89, .o 191) :: cp24e1 t k :: (95, I ((gBnd t (nth t.goal k)))) :: cp24E t k) (cp24m0 t k) ?_ (fun h_33 => ?_)
          ·exact .st [3, 5, 8] ⟨.x rfl (.bs es58 ze58) h_52, .x rfl (.f fo81_1) h_54, .x rfl (.bs es22 ze22) h_55, trivial⟩
          refine .share 10 [Tt, Tt, Ff, Ff, Ff, Tt, Tt, Ff, Ff, Ff, Ff, Ff, Ff, Ff] ((89, .o 191) :: (94, .o 192) :: cp24E t k) (cp24m0 t k) ?_ (fun h_34 => ?_)
          ·exact .st [2, 7] ⟨.m h_53, .m h_56, trivial⟩
          refine .share 10 [Tt, Tt, Ff, Ff, Ff, Tt, Ff, Tt, Ff, Ff, Ff, Ff, Ff, Ff] ((89, .o 191) :: (93, .r 5 1) :: (95, I ((gBnd t (nth t.goal k)))) :: cp24E t k) (cp24m0 t k) ?_ (fun h_35 => ?_)
          ·exact .st [2, 6, 8] ⟨.m h_54, .x rfl (.l vs22) h_56, .x rfl (.bs es22 ze22) h_57, trivial⟩
          refine .share 10 [Tt, Tt, Ff, Ff, Ff, Ff, Ff, Tt, Tt, Ff, Ff, Ff, Ff, Ff] ((89, .o 191) :: cp24e3 t k :: cp24E t k) (cp24m0 t k) ?_ (fun h_36 => ?_)
          ·exact .st [2, 5] ⟨.m h_55, .x rfl (.f fo81_1) h_57, trivial⟩
          refine .share 10 [Tt, Ff, Tt, Tt, Ff, Tt, Ff, Ff, Ff, Ff, Ff, Ff, Ff, Ff] ((88, .r 5 0) :: cp24e2 t k :: (93, .r 5 1) :: cp24E t k) (cp24m0 t k) ?_ (fun h_37 => ?_)
          ·exact .st [1, 6, 7] ⟨.x rfl (.l vs58) h_51, .x rfl (.l vs22) h_58, .m h_59, trivial⟩
          refine .share 10 [Tt, Ff, Tt, Tt, Ff, Ff, Ff, Tt, Ff, Ff, Ff, Ff, Ff, Ff] ((88, .r 5 0) :: cp24e2 t k :: (95, I ((gBnd t (nth t.goal k)))) :: cp24E t k) (cp24m0 t k) ?_ (fun h_38 => ?_)
          ·exact .st [1, 5, 8] ⟨.x rfl (.l vs58) h_52, .x rfl (.f fo81_1) h_59, .x rfl (.bs es22 ze22) h_60, trivial⟩
          refine .share 10 [Tt, Ff, Tt, Ff, Ff, Tt, Tt, Ff, Ff, Ff, Ff, Ff, Ff, Ff] ((88, .r 5 0) :: cp24e1 t k :: (94, .o 192) :: cp24E t k) (cp24m0 t k) ?_ (fun h_39 => ?_)
          ·exact .st [1, 3, 7] ⟨.x rfl (.l vs58) h_53, .x rfl (.bs es58 ze58) h_58, .m h_61, trivial⟩
          refine .share 10 [Tt, Ff, Tt, Ff, Ff, Tt, Ff, Tt, Ff, Ff, Ff, Ff, Ff, Ff] ((88, .r 5 0) :: cp24e1 t k :: (93, .r 5 1) :: (95, I ((gBnd t (nth t.goal k)))) :: cp24E t k) (cp24m0 t k) ?_ (fun h_40 => ?_)
          ·exact .st [1, 3, 6, 8] ⟨.x rfl (.l vs58) h_54, .x rfl (.bs es58 ze58) h_59, .x rfl (.l vs22) h_61, .x rfl (.bs es22 ze22) h_62, trivial⟩
          refine .share 10 [Tt, Ff, Tt, Ff, Ff, Ff, Ff, Tt, Tt, Ff, Ff, Ff, Ff, Ff] ((88, .r 5 0) :: cp24e1 t k :: cp24e3 t k :: cp24E t k) (cp24m0 t k) ?_ (fun h_41 => ?_)
          ·exact .st [1, 3, 5] ⟨.x rfl (.l vs58) h_55, .x rfl (.bs es58 ze58) h_60, .x rfl (.f fo81_1) h_62, trivial⟩
          refine .share 10 [Tt, Ff, Ff, Ff, Ff, Tt, Tt, Tt, Ff, Ff, Ff, Ff, Ff, Ff] ((88, .r 5 0) :: (94, .o 192) :: (95, I ((gBnd t (nth t.goal k)))) :: cp24E t k) (cp24m0 t k) ?_ (fun h_42 => ?_)
          ·exact .st [1, 2, 8] ⟨.x rfl (.l vs58) h_56, .m h_61, .x rfl (.bs es22 ze22) h_63, trivial⟩
          refine .share 10 [Tt, Ff, Ff, Ff, Ff, Tt, Ff, Tt, Tt, Ff, Ff, Ff, Ff, Ff] ((88, .r 5 0) :: (93, .r 5 1) :: cp24e3 t k :: cp24E t k) (cp24m0 t k) ?_ (fun h_43 => ?_)
          ·exact .st [1, 2, 6] ⟨.x rfl (.l vs58) h_57, .m h_62, .x rfl (.l vs22) h_63, trivial⟩
          refine .share 10 [Ff, Ff, Tt, Tt, Ff, Tt, Tt, Ff, Ff, Ff, Ff, Ff, Ff, Ff] (cp24e2 t k :: (94, .o 192) :: cp24E t k) (cp24m0 t k) ?_ (fun h_44 => ?_)
          ·exact .st [0, 7] ⟨.x rfl (.f fo81_0) h_58, .m h_64, trivial⟩
          refine .share 10 [Ff, Ff, Tt, Tt, Ff, Tt, Ff, Tt, Ff, Ff, Ff, Ff, Ff, Ff] (cp24e2 t k :: (93, .r 5 1) :: (95, I ((gBnd t (nth t.goal k)))) :: cp24E t k) (cp24m0 t k) ?_ (fun h_45 => ?_)
          ·exact .st [0, 6, 8] ⟨.x rfl (.f fo81_0) h_59, .x rfl (.l vs22) h_64, .x rfl (.bs es22 ze22) h_65, trivial⟩
          refine .share 10 [Ff, Ff, Tt, Tt, Ff, Ff, Ff, Tt, Tt, Ff, Ff, Ff, Ff, Ff] (cp24e2 t k :: cp24e3 t k :: cp24E t k) (cp24m0 t k) ?_ (fun h_46 => ?_)
          ·exact .st [0, 5] ⟨.x rfl (.f fo81_0) h_60, .x rfl (.f fo81_1) h_65, trivial⟩
          refine .share 10 [Ff, Ff, Tt, Ff, Ff, Tt, Tt, Tt, Ff, Ff, Ff, Ff, Ff, Ff] (cp24e1 t k :: (94, .o 192) :: (95, I ((gBnd t (nth t.goal k)))) :: cp24E t k) (cp24m0 t k) ?_ (fun h_47 => ?_)
          ·exact .st [0, 3, 8] ⟨.x rfl (.f fo81_0) h_61, .x rfl (.bs es58 ze58) h_64, .x rfl (.bs es22 ze22) h_66, trivial⟩
          refine .share 10 [Ff, Ff, Tt, Ff, Ff, Tt, Ff, Tt, Tt, Ff, Ff, Ff, Ff, Ff] (cp24e1 t k :: (93, .r 5 1) :: cp24e3 t k :: cp24E t k) (cp24m0 t k) ?_ (fun h_48 => ?_)
          ·exact .st [0, 3, 6] ⟨.x rfl (.f fo81_0) h_62, .x rfl (.bs es58 ze58) h_65, .x rfl (.l vs22) h_66, trivial⟩
          refine .share 10 [Ff, Ff, Ff, Ff, Ff, Tt, Tt, Tt, Tt, Ff, Ff, Ff, Ff, Ff] ((94, .o 192) :: cp24e3 t k :: cp24E t k) (cp24m0 t k) ?_ (fun h_49 => ?_)
          ·exact .st [0, 2] ⟨.x rfl (.f fo81_0) h_63, .m h_66, trivial⟩
          refine .share 11 [Tt, Tt, Tt, Ff, Ff, Ff, Ff, Ff, Ff, Ff, Ff, Ff, Ff, Ff] ((89, .o 191) :: cp24e1 t k :: cp24E t k) (cp24m0 t k) ?_ (fun h_15 => ?_)
          ·exact .st [3, 5, 7] ⟨.x rfl (.bs es58 ze58) h_31, .x rfl (.f fo81_1) h_32, .m h_33, trivial⟩
          refine .share 11 [Tt, Tt, Ff, Ff, Ff, Tt, Ff, Ff, Ff, Ff, Ff, Ff, Ff, Ff] ((89, .o 191) :: (93, .r 5 1) :: cp24E t k) (cp24m0 t k) ?_ (fun h_16 => ?_)
          ·exact .st [2, 6, 7] ⟨.m h_32, .x rfl (.l vs22) h_34, .m h_35, trivial⟩
          refine .share 11 [Tt, Tt, Ff, Ff, Ff, Ff, Ff, Tt, Ff, Ff, Ff, Ff, Ff, Ff] ((89, .o 191) :: (95, I ((gBnd t (nth t.goal k)))) :: cp24E t k) (cp24m0 t k) ?_ (fun h_17 => ?_)
          ·exact .st [2, 5, 8] ⟨.m h_33, .x rfl (.f fo81_1) h_35, .x rfl (.bs es22 ze22) h_36, trivial⟩
          refine .share 11 [Tt, Ff, Tt, Tt, Ff, Ff, Ff, Ff, Ff, Ff, Ff, Ff, Ff, Ff] ((88, .r 5 0) :: cp24e2 t k :: cp24E t k) (cp24m0 t k) ?_ (fun h_18 => ?_)
          ·exact .st [1, 5, 7] ⟨.x rfl (.l vs58) h_31, .x rfl (.f fo81_1) h_37, .m h_38, trivial⟩
          refine .share 11 [Tt, Ff, Tt, Ff, Ff, Tt, Ff, Ff, Ff, Ff, Ff, Ff, Ff, Ff] ((88, .r 5 0) :: cp24e1 t k :: (93, .r 5 1) :: cp24E t k) (cp24m0 t k) ?_ (fun h_19 => ?_)
          ·exact .st [1, 3, 6, 7] ⟨.x rfl (.l vs58) h_32, .x rfl (.bs es58 ze58) h_37, .x rfl (.l vs22) h_39, .m h_40, trivial⟩
          refine .share 11 [Tt, Ff, Tt, Ff, Ff, Ff, Ff, Tt, Ff, Ff, Ff, Ff, Ff, Ff] ((88, .r 5 0) :: cp24e1 t k :: (95, I ((gBnd t (nth t.goal k)))) :: cp24E t k) (cp24m0 t k) ?_ (fun h_20 => ?_)
          ·exact .st [1, 3, 5, 8] ⟨.x rfl (.l vs58) h_33, .x rfl (.bs es58 ze58) h_38, .x rfl (.f fo81_1) h_40, .x rfl (.bs es22 ze22) h_41, trivial⟩
          refine .share 11 [Tt, Ff, Ff, Ff, Ff, Tt, Tt, Ff, Ff, Ff, Ff, Ff, Ff, Ff] ((88, .r 5 0) :: (94, .o 192) :: cp24E t k) (cp24m0 t k) ?_ (fun h_21 => ?_)
          ·exact .st [1, 2, 7] ⟨.x rfl (.l vs58) h_34, .m h_39, .m h_42, trivial⟩
          refine .share 11 [Tt, Ff, Ff, Ff, Ff, Tt, Ff, Tt, Ff, Ff, Ff, Ff, Ff, Ff] ((88, .r 5 0) :: (93, .r 5 1) :: (95, I ((gBnd t (nth t.goal k)))) :: cp24E t k) (cp24m0 t k) ?_ (fun h_22 => ?_)
          ·exact .st [1, 2, 6, 8] ⟨.x rfl (.l vs58) h_35, .m h_40, .x rfl (.l vs22) h_42, .x rfl (.bs es22 ze22) h_43, trivial⟩
          refine .share 11 [Tt, Ff, Ff, Ff, Ff, Ff, Ff, Tt, Tt, Ff, Ff, Ff, Ff, Ff] ((88, .r 5 0) :: cp24e3 t k :: cp24E t k) (cp24m0 t k) ?_ (fun h_23 => ?_)
          ·exact .st [1, 2, 5] ⟨.x rfl (.l vs58) h_36, .m h_41, .x rfl (.f fo81_1) h_43, trivial⟩
          refine .share 11 [Ff, Ff, Tt, Tt, Ff, Tt, Ff, Ff, Ff, Ff, Ff, Ff, Ff, Ff] (cp24e2 t k :: (93, .r 5 1) :: cp24E t k) (cp24m0 t k) ?_ (fun h_24 => ?_)
          ·exact .st [0, 6, 7] ⟨.x rfl (.f fo81_0) h_37, .x rfl (.l vs22) h_44, .m h_45, trivial⟩
          refine .share 11 [Ff, Ff, Tt, Tt, Ff, Ff, Ff, Tt, Ff, Ff, Ff, Ff, Ff, Ff] (cp24e2 t k :: (95, I ((gBnd t (nth t.goal k)))) :: cp24E t k) (cp24m0 t k) ?_ (fun h_25 => ?_)
          ·exact .st [0, 5, 8] ⟨.x rfl (.f fo81_0) h_38, .x rfl (.f fo81_1) h_45, .x rfl (.bs es22 ze22) h_46, trivial⟩
          refine .share 11 [Ff, Ff, Tt, Ff, Ff, Tt, Tt, Ff, Ff, Ff, Ff, Ff, Ff, Ff] (cp24e1 t k :: (94, .o 192) :: cp24E t k) (cp24m0 t k) ?_ (fun h_26 => ?_)
          ·exact .st [0, 3, 7] ⟨.x rfl (.f fo81_0) h_39, .x rfl (.bs es58 ze58) h_44, .m h_47, trivial⟩
          refine .share 11 [Ff, Ff, Tt, Ff, Ff, Tt, Ff, Tt, Ff, Ff, Ff, Ff, Ff, Ff] (cp24e1 t k :: (93, .r 5 1) :: (95, I ((gBnd t (nth t.goal k)))) :: cp24E t k) (cp24m0 t k) ?_ (fun h_27 => ?_)
          ·exact .st [0, 3, 6, 8] ⟨.x rfl (.f fo81_0) h_40, .x rfl (.bs es58 ze58) h_45, .x rfl (.l vs22) h_47, .x rfl (.bs es22 ze22) h_48, trivial⟩
          refine .share 11 [Ff, Ff, Tt, Ff, Ff, Ff, Ff, Tt, Tt, Ff, Ff, Ff, Ff, Ff] (cp24e1 t k :: cp24e3 t k :: cp24E t k) (cp24m0 t k) ?_ (fun h_28 => ?_)
          ·exact .st [0, 3, 5] ⟨.x rfl (.f fo81_0) h_41, .x rfl (.bs es58 ze58) h_46, .x rfl (.f fo81_1) h_48, trivial⟩
          refine .share 11 [Ff, Ff, Ff, Ff, Ff, Tt, Tt, Tt, Ff, Ff, Ff, Ff, Ff, Ff] ((94, .o 192) :: (95, I ((gBnd t (nth t.goal k)))) :: cp24E t k) (cp24m0 t k) ?_ (fun h_29 => ?_)
          ·exact .st [0, 2, 8] ⟨.x rfl (.f fo81_0) h_42, .m h_47, .x rfl (.bs es22 ze22) h_49, trivial⟩
          refine .share 11 [Ff, Ff, Ff, Ff, Ff, Tt, Ff, Tt, Tt, Ff, Ff, Ff, Ff, Ff] ((93, .r 5 1) :: cp24e3 t k :: cp24E t k) (cp24m0 t k) ?_ (fun h_30 => ?_)
          ·exact .st [0, 2, 6] ⟨.x rfl (.f fo81_0) h_43, .m h_48, .x rfl (.l vs22) h_49, trivial⟩
          refine .share 12 [Tt, Tt, Ff, Ff, Ff, Ff, Ff, Ff, Ff, Ff, Ff, Ff, Ff, Ff] ((89, .o 191) :: cp24E t k) (cp24m0 t k) ?_ (fun h_5 => ?_)
          ·exact .st [2, 5, 7] ⟨.m h_15, .x rfl (.f fo81_1) h_16, .m h_17, trivial⟩
          refine .share 12 [Tt, Ff, Tt, Ff, Ff, Ff, Ff, Ff, Ff, Ff, Ff, Ff, Ff, Ff] ((88, .r 5 0) :: cp24e1 t k :: cp24E t k) (cp24m0 t k) ?_ (fun h_6 => ?_)
          ·exact .st [1, 3, 5, 7] ⟨.x rfl (.l vs58) h_15, .x rfl (.bs es58 ze58) h_18, .x rfl (.f fo81_1) h_19, .m h_20, trivial⟩
          refine .share 12 [Tt, Ff, Ff, Ff, Ff, Tt, Ff, Ff, Ff, Ff, Ff, Ff, Ff, Ff] ((88, .r 5 0) :: (93, .r 5 1) :: cp24E t k) (cp24m0 t k) ?_ (fun h_7 => ?_)
          ·exact .st [1, 2, 6, 7] ⟨.x rfl (.l vs58) h_16, .m h_19, .x rfl (.l vs22) h_21, .m h_22, trivial⟩
          refine .share 12 [Tt, Ff, Ff, Ff, Ff, Ff, Ff, Tt, Ff, Ff, Ff, Ff, Ff, Ff] ((88, .r 5 0) :: (95, I ((gBnd t (nth t.goal k)))) :: cp24E t k) (cp24m0 t k) ?_ (fun h_8 => ?_)
          ·exact .st [1, 2, 5, 8] ⟨.x rfl (.l vs58) h_17, .m h_20, .x rfl (.f fo81_1) h_22, .x rfl (.bs es22 ze22) h_23, trivial⟩
          refine .share 12 [Ff, Ff, Tt, Tt, Ff, Ff, Ff, Ff, Ff, Ff, Ff, Ff, Ff, Ff] (cp24e2 t k :: cp24E t k) (cp24m0 t k) ?_ (fun h_9 => ?_)
          ·exact .st [0, 5, 7] ⟨.x rfl (.f fo81_0) h_18, .x rfl (.f fo81_1) h_24, .m h_25, trivial⟩
          refine .share 12 [Ff, Ff, Tt, Ff, Ff, Tt, Ff, Ff, Ff, Ff, Ff, Ff, Ff, Ff] (cp24e1 t k :: (93, .r 5 1) :: cp24E t k) (cp24m0 t k) ?_ (fun h_10 => ?_)
          ·exact .st [0, 3, 6, 7] ⟨.x rfl (.f fo81_0) h_19, .x rfl (.bs es58 ze58) h_24, .x rfl (.l vs22) h_26, .m h_27, trivial⟩
          refine .share 12 [Ff, Ff, Tt, Ff, Ff, Ff, Ff, Tt, Ff, Ff, Ff, Ff, Ff, Ff] (cp24e1 t k :: (95, I ((gBnd t (nth t.goal k)))) :: cp24E t k) (cp24m0 t k) ?_ (fun h_11 => ?_)
          ·exact .st [0, 3, 5, 8] ⟨.x rfl (.f fo81_0) h_20, .x rfl (.bs es58 ze58) h_25, .x rfl (.f fo81_1) h_27, .x rfl (.bs es22 ze22) h_28, trivial⟩
          refine .share 12 [Ff, Ff, Ff, Ff, Ff, Tt, Tt, Ff, Ff, Ff, Ff, Ff, Ff, Ff] ((94, .o 192) :: cp24E t k) (cp24m0 t k) ?_ (fun h_12 => ?_)
          ·exact .st [0, 2, 7] ⟨.x rfl (.f fo81_0) h_21, .m h_26, .m h_29, trivial⟩
          refine .share 12 [Ff, Ff, Ff, Ff, Ff, Tt, Ff, Tt, Ff, Ff, Ff, Ff, Ff, Ff] ((93, .r 5 1) :: (95, I ((gBnd t (nth t.goal k)))) :: cp24E t k) (cp24m0 t k) ?_ (fun h_13 => ?_)
          ·exact .st [0, 2, 6, 8] ⟨.x rfl (.f fo81_0) h_22, .m h_27, .x rfl (.l vs22) h_29, .x rfl (.bs es22 ze22) h_30, trivial⟩
          refine .share 12 [Ff, Ff, Ff, Ff, Ff, Ff, Ff, Tt, Tt, Ff, Ff, Ff, Ff, Ff] (cp24e3 t k :: cp24E t k) (cp24m0 t k) ?_ (fun h_14 => ?_)
          ·exact .st [0, 2, 5] ⟨.x rfl (.f fo81_0) h_23, .m h_28, .x rfl (.f fo81_1) h_30, trivial⟩
          refine .share 13 [Tt, Ff, Ff, Ff, Ff, Ff, Ff, Ff, Ff, Ff, Ff, Ff, Ff, Ff] ((88, .r 5 0) :: cp24E t k) (cp24m0 t k) ?_ (fun h_1 => ?_)
          ·exact .st [1, 2, 5, 7] ⟨.x rfl (.l vs58) h_5, .m h_6, .x rfl (.f fo81_1) h_7, .m h_8, trivial⟩
          refine .share 13 [Ff, Ff, Tt, Ff, Ff, Ff, Ff, Ff, Ff, Ff, Ff, Ff, Ff, Ff] (cp24e1 t k :: cp24E t k) (cp24m0 t k) ?_ (fun h_2 => ?_)
          ·exact .st [0, 3, 5, 7] ⟨.x rfl (.f fo81_0) h_6, .x rfl (.bs es58 ze58) h_9, .x rfl (.f fo81_1) h_10, .m h_11, trivial⟩
          refine .share 13 [Ff, Ff, Ff, Ff, Ff, Tt, Ff, Ff, Ff, Ff, Ff, Ff, Ff, Ff] ((93, .r 5 1) :: cp24E t k) (cp24m0 t k) ?_ (fun h_3 => ?_)
          ·exact .st [0, 2, 6, 7] ⟨.x rfl (.f fo81_0) h_7, .m h_10, .x rfl (.l vs22) h_12, .m h_13, trivial⟩
          refine .share 13 [Ff, Ff, Ff, Ff, Ff, Ff, Ff, Tt, Ff, Ff, Ff, Ff, Ff, Ff] ((95, I ((gBnd t (nth t.goal k)))) :: cp24E t k) (cp24m0 t k) ?_ (fun h_4 => ?_)
          ·exact .st [0, 2, 5, 8] ⟨.x rfl (.f fo81_0) h_8, .m h_11, .x rfl (.f fo81_1) h_13, .x rfl (.bs es22 ze22) h_14, trivial⟩
          exact .st [0, 2, 5, 7] ⟨.x rfl (.f fo81_0) h_1, .m h_2, .x rfl (.f fo81_1) h_3, .m h_4, trivial⟩
       ·have hk : k = t.goal.length := by simp at c61; omega
        subst hk
        refine .u <| .u <| .u <| .b <| .z <| .x (.L vs25) ?_; refine .x (OpSem.call0 (landmark_Facts_does t) rfl rfl rfl rfl (Les.refl _)) ?_; refine .m ?_; refine .x (OpSem.le (s' := .d (ints (lmL t))) .xt (Le.of_eq (by rw [lmR_0 h0]))) ?_; refine .x .xt ?_; refine .al 15 zc28 ?_; refine .a ?_; refine .sb vs28 ?_; refine .sq <| .g <| .g <| .r <| .x (.L vs28) ?_; refine .x (.bd pl28 zc28) ?_; refine .x (OpSem.neS2 rfl rfl rfl io28) ?_; refine .sq <| .cond rfl (fun c108 => ?_) (fun c108 => ?_)
        ·exfalso; simp [h0] at c108
        ·refine .p <| .z <| .x (.L vs25) ?_; refine .x (OpSem.call0 (landmark_Achievers_does t) rfl rfl rfl rfl (Les.refl _)) ?_; refine .m ?_; refine .x (OpSem.le (s' := .d (rows (acsTo t (lmL t).length))) .xt (Le.of_eq (by rw [acR_0 h0]))) ?_; refine .x .xt ?_; refine .a ?_; refine .sb vs28 ?_; refine .sq <| .g <| .g <| .r <| .x (.L vs28) ?_; refine .x (.bd pl28 zc28) ?_; refine .x (OpSem.neS2 rfl rfl rfl io28) ?_; refine .sq <| .cond rfl (fun c118 => ?_) (fun c118 => ?_)
         ·exfalso; simp [h0] at c118
         ·refine .p <| .g <| .g <| .g <| .r <| .m ?_; refine .x (.n es22) ?_; refine .m ?_; refine .sq <| .k <| .loop (X := Nat) (fun k => k ≤ (lmL t).length) (fun k => [(1, .r 1 0), (2, .r 2 0), (3, .r 3 0), (5, .r 5 0), (16, .d (rows (acsTo t (lmL t).length))), (121, .d (ints (lmL t))), (122, I ((lmL t).length)), (123, I (k))]) (fun k => [(191, .own 1 22 ((qR t k).map fun r => [ints r])), (192, .own 1 3 ((qB t k).map fun n => [D.v (.int .i64 n)])), (193, .own 1 3 ((obTo t t.ops.length).map fun n => [D.v (.int .i64 n)])), (1, .box [I (t.facts), .d (ints t.ini), .d (ints t.goal), .d (sopsD t.ops)]), (2, .box [.d (.v (.slice none 0 0)), .d (.v (.slice none 0 0)), .d (.v (.slice none 0 0))]), (3, .box [I (0), I (0)]), (5, .box [.o 191, .o 192, .o 193])]) (fun k => (lmL t).length - k) 0 (by omega) ?_ ?_
          ·exact .p5 <| .p2 <| .slot rfl (Le.of_eq (by simp)) <| .memEq rfl (by rw [qr_0.1]; rfl) <| .memEq rfl (by rw [qr_0.2]; rfl) <| .all
          ·rintro k hkl
           refine .g <| .r <| .x (.b blss) ?_; refine .sq <| .g <| .cond rfl (fun c124 => ?_) (fun c124 => ?_)
           ·have hk : k < (lmL t).length := by simpa using c124
            have hql := qr_le (t := t) (k := k)
            have hqb := qr_len (t := t) (k := k)
            have hac : nth (acsTo t (lmL t).length) k = acL t (nth (lmL t) k) := acs_at hk
            refine .p <| .g <| .g <| .k <| .g <| .r <| .m ?_; refine .x (.i es22) ?_; refine .x (.l1 vs3) ?_; refine .a ?_; refine .a ?_; refine .sq <| .g <| .g <| .r <| .x (.f fo25_1) ?_; refine .x (.l vs22) ?_; refine .m ?_; refine .x (OpSem.call0 (slices_Contains_int_int_does t.ini (nth (lmL t) k)) rfl rfl rfl rfl (Les.refl _)) ?_; refine .sq <| .cond rfl (fun c131 => ?_) (fun c131 => ?_)
            ·have hn := qr_f hk (by simpa using c131)
             refine .u <| .u <| .b <| .y <| .x .ad ?_; refine .m ?_; refine .n <| .again (k + 1) (by omega) ?_ (by omega); exact .p5 <| .p2 <| .slot rfl (Le.of_eq (by simp)) <| .memEq rfl (by rw [hn.1]) <| .memEq rfl (by rw [hn.2]) <| .all
            ·have hrt := qr_t hk (by simpa using c131)
             refine .p <| .z <| .x (.f fo25_3) ?_; refine .x (.l vs23) ?_; refine .x (.n es23) ?_; refine .mk 135 es22 ze22 bye22 ?_; refine .a ?_; refine .sq <| .cut [(1, .r 1 0), (3, .r 3 0), (2, .r 2 0), (5, .r 5 0), (16, .d (rows (acsTo t (lmL t).length))), (19, .o 135), (121, .d (ints (lmL t))), (122, I ((lmL t).length)), (123, I (k))] [(1, .box [I (t.facts), .d (ints t.ini), .d (ints t.goal), .d (sopsD t.ops)]), (3, .box [I (0), I (0)]), (2, .box [.d (.v (.slice none 0 0)), .d (.v (.slice none 0 0)), .d (.v (.slice none 0 0))]), (5, .box [.o 191, .o 192, .o 193]), (135, .own 1 3 ((lRow t (nth (lmL t) k)).map fun n => [D.v (.int .i64 n)])), (191, .own 1 22 ((qR t k).map fun r => [ints r])), (192, .own 1 3 ((qB t k).map fun n => [D.v (.int .i64 n)])), (193, .own 1 3 ((obTo t t.ops.length).map fun n => [D.v (.int .i64 n)]))] ?_ ?_
             ·refine .g <| .r <| .mm ?_; refine .x (OpSem.idxL rfl rfl rfl es58 (by omega) (by simp [acsTo]; omega)) ?_; refine .x (.l1 vs22) ?_; refine .x (.n es22) ?_; refine .m ?_; refine .sq <| .k <| .loop (X := Nat) (fun j => j ≤ (acL t (nth (lmL t) k)).length) (fun j => [(1, .r 1 0), (2, .r 2 0), (3, .r 3 0), (5, .r 5 0), (16, .d (rows (acsTo t (lmL t).length))), (19, .o 135), (121, .d (ints (lmL t))), (122, I ((lmL t).length)), (123, I (k)), (139, .d (ints (acL t (nth (lmL t) k)))), (140, I ((acL t (nth (lmL t) k)).length)), (141, I (j))]) (fun j => [(191, .own 1 22 ((qR t k).map fun r => [ints r])), (192, .own 1 3 ((qB t k).map fun n => [D.v (.int .i64 n)])), (193, .own 1 3 ((obTo t t.ops.length).map fun n => [D.v (.int .i64 n)])), (135, .own 1 3 ((lRowS t (nth (lmL t) k) j).map fun n => [D.v (.int .i64 n)])), (1, .box [I (t.facts), .d (ints t.ini), .d (ints t.goal), .d (sopsD t.ops)]), (2, .box [.d (.v (.slice none 0 0)), .d (.v (.slice none 0 0)), .d (.v (.slice none 0 0))]), (3, .box [I (0), I (0)]), (5, .box [.o 191, .o 192, .o 193])]) (fun j => (acL t (nth (lmL t) k)).length - j) 0 (by omega) ?_ ?_
              ·exact .p5 <| .p3 <| .sl <| .slot rfl (Le.of_eq (by rw [hac])) <| .slot rfl (Le.of_eq (by rw [hac])) <| .slot rfl (Le.of_eq (by simp)) <| .mem rfl <| .mem rfl <| .mem rfl <| .memEq rfl (by rw [ls_0, el22]; first | (simp; done) | (simp; rfl)) <| .all
              ·rintro j hjl
               refine .g <| .r <| .x (.b blss) ?_; refine .sq <| .g <| .cond rfl (fun c142 => ?_) (fun c142 => ?_)
               ·have hj : j < (acL t (nth (lmL t) k)).length := by simpa using c142
                have hr := acL_in hj
                have hal : (acL t (nth (lmL t) k)).length ≤ t.ops.length := acTo_len
                refine .p <| .g <| .g <| .k <| .g <| .r <| .x (.i es22) ?_; refine .x (.l1 vs3) ?_; refine .a ?_; refine .y <| .mm ?_; refine .x (OpSem.idxo rfl rfl rfl rfl es22 (by omega) (by simp [ls_len]; omega)) ?_; refine .storeq rfl rfl rfl rfl rfl rfl rfl vs3 (rows_get (by omega) (by rw [ls_len]; omega)) (by simp) ?_; refine .n <| .n <| .y <| .x .ad ?_; refine .m ?_; refine .n <| .again (j + 1) (by omega) ?_ (by omega); exact .p5 <| .p5 <| .sl <| .slot rfl (Le.of_eq (by simp)) <| .mem rfl <| .mem rfl <| .mem rfl <| .memEq rfl (by rw [← ls_s hj]; exact congrArg (Mo.own 1 3) (rows_set (f := fun n => [D.v (.int .i64 n)]))) <| .all
               ·have hj : j = (acL t (nth (lmL t) k)).length := by simp at c142; omega
                subst hj
                exact .u <| .u <| .u <| .b <| .meet <| .p5 <| .p3 <| .sl <| .mem rfl <| .mem rfl <| .mem rfl <| .mem rfl <| .memEq rfl (by rw [ls_end]) <| .all
             ·refine .freeze 135 rfl ?_; refine .lattice 13 [Ff, Ff, Ff, Ff, Ff, Ff, Ff, Ff, Ff, Ff, Ff, Ff, Ff] mixed rfl rfl ?_; refine .share 0 [Tt, Tt, Tt, Tt, Tt, Tt, Tt, Tt, Tt, Tt, Tt, Tt, Tt] (cp42E t k) ((5, .box [.o 191, .o 192, .o 193]) :: (191, .own 1 22 ((qR t (k + 1)).map fun r => [ints r])) :: (192, .own 1 3 ((qB t (k + 1)).map fun n => [D.v (.int .i64 n)])) :: cp42M t k) ?_ (fun h_66 => ?_)
              ·refine .fin (by kernel_rfl) ?_; refine .n <| .y <| .x .ad ?_; refine .m ?_; refine .n <| .again (k + 1) (by omega) ?_ (by omega); exact .p5 <| .p2 <| .slot rfl (Le.of_eq (by simp)) <| .all
              refine .share 1 [Tt, Tt, Tt, Tt, Tt, Tt, Tt, Tt, Tt, Tt, Tt, Tt, Ff] ((157, .o 192) :: (159, .r 5 1) :: cp42E t k) (cp42m6 t k) ?_ (fun h_65 => ?_)
              ·refine .st [12] ⟨?_, trivial⟩
               ·refine .v _ ?_; refine .sb vs22 ?_; exact .j h_66
              refine .share 2 [Tt, Tt, Tt, Tt, Tt, Tt, Tt, Tt, Tt, Tt, Tt, Ff, Ff] ((157, .o 192) :: cp42E t k) (cp42m6 t k) ?_ (fun h_64 => ?_)
              ·exact .st [11] ⟨.x rfl (.f fo81_1) h_65, trivial⟩
              refine .share 3 [Tt, Tt, Tt, Tt, Tt, Tt, Tt, Tt, Tt, Tt, Ff, Ff, Ff] ((153, .o 191) :: (157, .o 192) :: (158, .r 5 0) :: cp42E t k) (cp42m5 t k) ?_ (fun h_63 => ?_)
              ·refine .st [10] ⟨?_, trivial⟩
               ·refine .v _ ?_; refine .sb vs58 ?_; exact .j h_64
              refine .share 4 [Tt, Tt, Tt, Tt, Tt, Tt, Tt, Tt, Tt, Ff, Ff, Ff, Ff] ((153, .o 191) :: (157, .o 192) :: cp42E t k) (cp42m5 t k) ?_ (fun h_61 => ?_)
              ·exact .st [9] ⟨.x rfl (.f fo81_0) h_63, trivial⟩
              refine .share 4 [Tt, Tt, Tt, Tt, Tt, Tt, Tt, Tt, Ff, Tt, Ff, Ff, Ff] ((153, .o 191) :: (155, .o 192) :: cp42e2 t k :: (158, .r 5 0) :: cp42E t k) (cp42m4 t k) ?_ (fun h_62 => ?_)
              ·refine .st [8] ⟨?_, trivial⟩
               ·refine .v _ ?_; refine .ap es22 el22 zc3 by3 ?_; exact TrL.join h_63 rfl (.p5 <| .p5 <| .p2 <| .mem rfl <| .mem rfl <| .memEq rfl (by rw [hrt.2]; simp) <| .mem rfl <| .mem rfl <| .mem rfl <| .mem rfl <| .nil)
              refine .share 5 [Tt, Tt, Tt, Tt, Tt, Tt, Tt, Tt, Ff, Ff, Ff, Ff, Ff] ((153, .o 191) :: (155, .o 192) :: cp42e2 t k :: cp42E t k) (cp42m4 t k) ?_ (fun h_59 => ?_)
              ·refine .st [8, 9] ⟨?_, ?_, trivial⟩
               ·refine .v _ ?_; refine .ap es22 el22 zc3 by3 ?_; exact TrL.join h_61 rfl (.p5 <| .p5 <| .sl <| .mem rfl <| .mem rfl <| .memEq rfl (by rw [hrt.2]; simp) <| .mem rfl <| .mem rfl <| .mem rfl <| .mem rfl <| .nil)
               ·exact .x rfl (.f fo81_0) h_62
              refine .share 5 [Tt, Tt, Tt, Tt, Tt, Tt, Tt, Ff, Ff, Tt, Ff, Ff, Ff] ((153, .o 191) :: (155, .o 192) :: (158, .r 5 0) :: cp42E t k) (cp42m4 t k) ?_ (fun h_60 => ?_)
              ·exact .st [7] ⟨.x rfl (.bs es22 ze22) h_62, trivial⟩
              refine .share 6 [Tt, Tt, Tt, Tt, Tt, Tt, Tt, Ff, Ff, Ff, Ff, Ff, Ff] ((153, .o 191) :: (155, .o 192) :: cp42E t k) (cp42m4 t k) ?_ (fun h_56 => ?_)
              ·exact .st [7, 9] ⟨.x rfl (.bs es22 ze22) h_59, .x rfl (.f fo81_0) h_60, trivial⟩
              refine .share 6 [Tt, Tt, Tt, Tt, Tt, Tt, Ff, Tt, Ff, Ff, Ff, Ff, Ff] ((153, .o 191) :: (154, .r 5 1) :: cp42e2 t k :: cp42E t k) (cp42m4 t k) ?_ (fun h_57 => ?_)
              ·exact .st [6] ⟨.x rfl (.l vs22) h_59, trivial⟩
              refine .share 6 [Tt, Tt, Tt, Tt, Ff, Tt, Tt, Tt, Ff, Ff, Ff, Ff, Ff] ((150, .o 191) :: cp42e3 t k :: (155, .o 192) :: cp42e2 t k :: cp42E t k) (cp42m0 t k) ?_ (fun h_58 => ?_)
              ·refine .st [4] ⟨?_, trivial⟩
               ·refine .v _ ?_; refine .ap es58 el58 zc22 by22 ?_; exact TrL.join h_59 rfl (.p5 <| .p5 <| .p2 <| .mem rfl <| .memEq rfl (by rw [hrt.1, List.map_append]; rfl) <| .mem rfl <| .mem rfl <| .mem rfl <| .mem rfl <| .mem rfl <| .nil)
              refine .share 7 [Tt, Tt, Tt, Tt, Tt, Tt, Ff, Ff, Ff, Ff, Ff, Ff, Ff] ((153, .o 191) :: (154, .r 5 1) :: cp42E t k) (cp42m4 t k) ?_ (fun h_50 => ?_)
              ·exact .st [6, 7] ⟨.x rfl (.l vs22) h_56, .x rfl (.bs es22 ze22) h_57, trivial⟩
              refine .share 7 [Tt, Tt, Tt, Tt, Tt, Ff, Ff, Tt, Ff, Ff, Ff, Ff, Ff] ((153, .o 191) :: cp42e2 t k :: cp42E t k) (cp42m4 t k) ?_ (fun h_51 => ?_)
              ·exact .st [5] ⟨.x rfl (.f fo81_1) h_57, trivial⟩
              refine .share 7 [Tt, Tt, Tt, Tt, Ff, Tt, Tt, Ff, Ff, Ff, Ff, Ff, Ff] ((150, .o 191) :: cp42e3 t k :: (155, .o 192) :: cp42E t k) (cp42m0 t k) ?_ (fun h_52 => ?_)
              ·refine .st [4, 7] ⟨?_, ?_, trivial⟩
               ·refine .v _ ?_; refine .ap es58 el58 zc22 by22 ?_; exact TrL.join h_56 rfl (.p5 <| .p5 <| .sl <| .mem rfl <| .memEq rfl (by rw [hrt.1, List.map_append]; rfl) <| .mem rfl <| .mem rfl <| .mem rfl <| .mem rfl <| .mem rfl <| .nil)
               ·exact .x rfl (.bs es22 ze22) h_58
              refine .share 7 [Tt, Tt, Tt, Tt, Ff, Tt, Ff, Tt, Ff, Ff, Ff, Ff, Ff] ((150, .o 191) :: cp42e3 t k :: (154, .r 5 1) :: cp42e2 t k :: cp42E t k) (cp42m0 t k) ?_ (fun h_53 => ?_)
              ·refine .st [4, 6] ⟨?_, ?_, trivial⟩
               ·refine .v _ ?_; refine .ap es58 el58 zc22 by22 ?_; exact TrL.join h_57 rfl (.p5 <| .p5 <| .p2 <| .mem rfl <| .memEq rfl (by rw [hrt.1, List.map_append]; rfl) <| .mem rfl <| .mem rfl <| .mem rfl <| .mem rfl <| .mem rfl <| .nil)
               ·exact .x rfl (.l vs22) h_58
              refine .share 7 [Tt, Tt, Tt, Ff, Ff, Tt, Tt, Tt, Ff, Ff, Ff, Ff, Ff] ((150, .o 191) :: cp42e1 t k :: (155, .o 192) :: cp42e2 t k :: cp42E t k) (cp42m0 t k) ?_ (fun h_54 => ?_)
              ·exact .st [3] ⟨.x rfl (.bs es58 ze58) h_58, trivial⟩
              refine .share 7 [Tt, Ff, Tt, Tt, Ff, Tt, Tt, Tt, Ff, Ff, Ff, Ff, Ff] ((149, .r 5 0) :: cp42e3 t k :: (155, .o 192) :: cp42e2 t k :: cp42E t k) (cp42m0 t k) ?_ (fun h_55 => ?_)
              ·exact .st [1] ⟨.x rfl (.l vs58) h_58, trivial⟩
              refine .share 8 [Tt, Tt, Tt, Tt, Tt, Ff, Ff, Ff, Ff, Ff, Ff, Ff, Ff] ((153, .o 191) :: cp42E t k) (cp42m4 t k) ?_ (fun h_40 => ?_)
              ·exact .st [5, 7] ⟨.x rfl (.f fo81_1) h_50, .x rfl (.bs es22 ze22) h_51, trivial⟩
              refine .share 8 [Tt, Tt, Tt, Tt, Ff, Tt, Ff, Ff, Ff, Ff, Ff, Ff, Ff] ((150, .o 191) :: cp42e3 t k :: (154, .r 5 1) :: cp42E t k) (cp42m0 t k) ?_ (fun h_41 => ?_)
              ·refine .st [4, 6, 7] ⟨?_, ?_, ?_, trivial⟩
               ·refine .v _ ?_; refine .ap es58 el58 zc22 by22 ?_; exact TrL.join h_50 rfl (.p5 <| .p5 <| .sl <| .mem rfl <| .memEq rfl (by rw [hrt.1, List.map_append]; rfl) <| .mem rfl <| .mem rfl <| .mem rfl <| .mem rfl <| .mem rfl <| .nil)
               ·exact .x rfl (.l vs22) h_52
               ·exact .x rfl (.bs es22 ze22) h_53
              refine .share 8 [Tt, Tt, Tt, Tt, Ff, Ff, Ff, Tt, Ff, Ff, Ff, Ff, Ff] ((150, .o 191) :: cp42e3 t k :: cp42e2 t k :: cp42E t k) (cp42m0 t k) ?_ (fun h_42 => ?_)
              ·refine .st [4, 5] ⟨?_, ?_, trivial⟩
               ·refine .v _ ?_; refine .ap es58 el58 zc22 by22 ?_; exact TrL.join h_51 rfl (.p5 <| .p5 <| .sl <| .mem rfl <| .memEq rfl (by rw [hrt.1, List.map_append]; rfl) <| .mem rfl <| .mem rfl <| .mem rfl <| .mem rfl <| .mem rfl <| .nil)
               ·exact .x rfl (.f fo81_1) h_53
              refine .share 8 [Tt, Tt, Tt, Ff, Ff, Tt, Tt, Ff, Ff, Ff, Ff, Ff, Ff] ((150, .o 191) :: cp42e1 t k :: (155, .o 192) :: cp42E t k) (cp42m0 t k) ?_ (fun h_43 => ?_)
              ·exact .st [3, 7] ⟨.x rfl (.bs es58 ze58) h_52, .x rfl (.bs es22 ze22) h_54, trivial⟩
              refine .share 8 [Tt, Tt, Tt, Ff, Ff, Tt, Ff, Tt, Ff, Ff, Ff, Ff, Ff] ((150, .o 191) :: cp42e1 t k :: (154, .r 5 1) :: cp42e2 t k :: cp42E t k) (cp42m0 t k) ?_ (fun h_44 => ?_)
              ·exact .st [3, 6] ⟨.x rfl (.bs es58 ze58) h_53, .x rfl (.l vs22) h_54, trivial⟩
              refine .share 8 [Tt, Tt, Ff, Ff, Ff, Tt, Tt, Tt, Ff, Ff, Ff, Ff, Ff] ((150, .o 191) :: (155, .o 192) :: cp42e2 t k :: cp42E t k) (cp42m0 t k) ?_ (fun h_45 => ?_)
              ·exact .st [2] ⟨.m h_54, trivial⟩
              refine .share 8 [Tt, Ff, Tt, Tt, Ff, Tt, Tt, Ff, Ff, Ff, Ff, Ff, Ff] ((149, .r 5 0) :: cp42e3 t k :: (155, .o 192) :: cp42E t k) (cp42m0 t k) ?_ (fun h_46 => ?_)
              ·exact .st [1, 7] ⟨.x rfl (.l vs58) h_52, .x rfl (.bs es22 ze22) h_55, trivial⟩
              refine .share 8 [Tt, Ff, Tt, Tt, Ff, Tt, Ff, Tt, Ff, Ff, Ff, Ff, Ff] ((149, .r 5 0) :: cp42e3 t k :: (154, .r 5 1) :: cp42e2 t k :: cp42E t k) (cp42m0 t k) ?_ (fun h_47 => ?_)
              ·exact .st [1, 6] ⟨.x rfl (.l vs58) h_53, .x rfl (.l vs22) h_55, trivial⟩
              refine .share 8 [Tt, Ff, Tt, Ff, Ff, Tt, Tt, Tt, Ff, Ff, Ff, Ff, Ff] ((149, .r 5 0) :: cp42e1 t k :: (155, .o 192) :: cp42e2 t k :: cp42E t k) (cp42m0 t k) ?_ (fun h_48 => ?_)
              ·exact .st [1, 3] ⟨.x rfl (.l vs58) h_54, .x rfl (.bs es58 ze58) h_55, trivial⟩
              refine .share 8 [Ff, Ff, Tt, Tt, Ff, Tt, Tt, Tt, Ff, Ff, Ff, Ff, Ff] (cp42e3 t k :: (155, .o 192) :: cp42e2 t k :: cp42E t k) (cp42m0 t k) ?_ (fun h_49 => ?_)
              ·exact .st [0] ⟨.x rfl (.f fo81_0) h_55, trivial⟩
              refine .share 9 [Tt, Tt, Tt, Tt, Ff, Ff, Ff, Ff, Ff, Ff, Ff, Ff, Ff] ((150, .o 191) :: cp42e3 t k :: cp42E t k) (cp42m0 t k) ?_ (fun h_27 => ?_)
              ·refine .st [4, 5, 7] ⟨?_, ?_, ?_, trivial⟩
               ·refine .v _ ?_; refine .ap es58 el58 zc22 by22 ?_; exact TrL.join h_40 rfl (.p5 <| .p5 <| .mem rfl <| .memEq rfl (by rw [hrt.1, List.map_append]; rfl) <| .mem rfl <| .mem rfl <| .mem rfl <| .mem rfl <| .mem rfl <| .nil)
               ·exact .x rfl (.f fo81_1) h_41
               ·exact .x rfl (.bs es22 ze22) h_42
              refine .share 9 [Tt, Tt, Tt, Ff, Ff, Tt, Ff, Ff, Ff, Ff, Ff, Ff, Ff] ((150, .o 191) :: cp42e1 t k :: (154, .r 5 1) :: cp42E t k) (cp42m0 t k) ?_ (fun h_28 => ?_)
              ·exact .st [3, 6, 7] ⟨.x rfl (.bs es58 ze58) h_41, .x rfl (.l vs22) h_43, .x rfl (.bs es22 ze22) h_44, trivial⟩
              refine .share 9 [Tt, Tt, Tt, Ff, Ff, Ff, Ff, Tt, Ff, Ff, Ff, Ff, Ff] ((150, .o 191) :: cp42e1 t k :: cp42e2 t k :: cp42E t k) (cp42m0 t k) ?_ (fun h_29 => ?_)
              ·exact .st [3, 5] ⟨.x rfl (.bs es58 ze58) h_42, .x rfl (.f fo81_1) h_44, trivial⟩
              refine .share 9 [Tt, Tt, Ff, Ff, Ff, Tt, Tt, Ff, Ff, Ff, Ff, Ff, Ff] ((150, .o 191) :: (155, .o 192) :: cp42E t k) (cp42m0 t k) ?_ (fun h_30 => ?_)
              ·exact .st [2, 7] ⟨.m h_43, .x rfl (.bs es22 ze22) h_45, trivial⟩
              refine .share 9 [Tt, Tt, Ff, Ff, Ff, Tt, Ff, Tt, Ff, Ff, Ff, Ff, Ff] ((150, .o 191) :: (154, .r 5 1) :: cp42e2 t k :: cp42E t k) (cp42m0 t k) ?_ (fun h_31 => ?_)
              ·exact .st [2, 6] ⟨.m h_44, .x rfl (.l vs22) h_45, trivial⟩
              refine .share 9 [Tt, Ff, Tt, Tt, Ff, Tt, Ff, Ff, Ff, Ff, Ff, Ff, Ff] ((149, .r 5 0) :: cp42e3 t k :: (154, .r 5 1) :: cp42E t k) (cp42m0 t k) ?_ (fun h_32 => ?_)
              ·exact .st [1, 6, 7] ⟨.x rfl (.l vs58) h_41, .x rfl (.l vs22) h_46, .x rfl (.bs es22 ze22) h_47, trivial⟩
              refine .share 9 [Tt, Ff, Tt, Tt, Ff, Ff, Ff, Tt, Ff, Ff, Ff, Ff, Ff] ((149, .r 5 0) :: cp42e3 t k :: cp42e2 t k :: cp42E t k) (cp42m0 t k) ?_ (fun h_33 => ?_)
              ·exact .st [1, 5] ⟨.x rfl (.l vs58) h_42, .x rfl (.f fo81_1) h_47, trivial⟩
              refine .share 9 [Tt, Ff, Tt, Ff, Ff, Tt, Tt, Ff, Ff, Ff, Ff, Ff, Ff] ((149, .r 5 0) :: cp42e1 t k :: (155, .o 192) :: cp42E t k) (cp42m0 t k) ?_ (fun h_34 => ?_)
              ·exact .st [1, 3, 7] ⟨.x rfl (.l vs58) h_43, .x rfl (.bs es58 ze58) h_46, .x rfl (.bs es22 ze22) h_48, trivial⟩
              refine .share 9 [Tt, Ff, Tt, Ff, Ff, Tt, Ff, Tt, Ff, Ff, Ff, Ff, Ff] ((149, .r 5 0) :: cp42e1 t k :: (154, .r 5 1) :: cp42e2 t k :: cp42E t k) (cp42m0 t k) ?_ (fun h_35 => ?_)
              ·exact .st [1, 3, 6] ⟨.x rfl (.l vs58) h_44, .x rfl (.bs es58 ze58) h_47, .x rfl (.l vs22) h_48, trivial⟩
              refine .share 9 [Tt, Ff, Ff, Ff, Ff, Tt, Tt, Tt, Ff, Ff, Ff, Ff, Ff] ((149, .r 5 0) :: (155, .o 192) :: cp42e2 t k :: cp42E t k) (cp42m0 t k) ?_ (fun h_36 => ?_)
              ·exact .st [1, 2] ⟨.x rfl (.l vs58) h_45, .m h_48, trivial⟩
              refine .share 9 [Ff, Ff, Tt, Tt, Ff, Tt, Tt, Ff, Ff, Ff, Ff, Ff, Ff] (cp42e3 t k :: (155, .o 192) :: cp42E t k) (cp42m0 t k) ?_ (fun h_37 => ?_)
              ·exact .st [0, 7] ⟨.x rfl (.f fo81_0) h_46, .x rfl (.bs es22 ze22) h_49, trivial⟩
              refine .share 9 [Ff, Ff, Tt, Tt, Ff, Tt, Ff, Tt, Ff, Ff, Ff, Ff, Ff] (cp42e3 t k :: (154, .r 5 1) :: cp42e2 t k :: cp42E t k) (cp42m0 t k) ?_ (fun h_38 => ?_)
              ·exact .st [0, 6] ⟨.x rfl (.f fo81_0) h_47, .x rfl (.l vs22) h_49, trivial⟩
              refine .share 9 [Ff, Ff, Tt, Ff, Ff, Tt, Tt, Tt, Ff, Ff, Ff, Ff, Ff] (cp42e1 t k :: (155, .o 192) :: cp42e2 t k :: cp42E t k) (cp42m0 t k) ?_ (fun h_39 => ?_)
              ·exact .st [0, 3] ⟨.x rfl (.f fo81_0) h_48, .x rfl (.bs es58 ze58) h_49, trivial⟩
              refine .share 10 [Tt, Tt, Tt, Ff, Ff, Ff, Ff, Ff, Ff, Ff, Ff, Ff, Ff] ((150, .o 191) :: cp42e1 t k :: cp42E t k) (cp42m0 t k) ?_ (fun h_14 => ?_)
              ·exact .st [3, 5, 7] ⟨.x rfl (.bs es58 ze58) h_27, .x rfl (.f fo81_1) h_28, .x rfl (.bs es22 ze22) h_29, trivial⟩
              refine .share 10 [Tt, Tt, Ff, Ff, Ff, Tt, Ff, Ff, Ff, Ff, Ff, Ff, Ff] ((150, .o 191) :: (154, .r 5 1) :: cp42E t k) (cp42m0 t k) ?_ (fun h_15 => ?_)
              ·exact .st [2, 6, 7] ⟨.m h_28, .x rfl (.l vs22) h_30, .x rfl (.bs es22 ze22) h_31, trivial⟩
              refine .share 10 [Tt, Tt, Ff, Ff, Ff, Ff, Ff, Tt, Ff, Ff, Ff, Ff, Ff] ((150, .o 191) :: cp42e2 t k :: cp42E t k) (cp42m0 t k) ?_ (fun h_16 => ?_)
              ·exact .st [2, 5] ⟨.m h_29, .x rfl (.f fo81_1) h_31, trivial⟩
              refine .share 10 [Tt, Ff, Tt, Tt, Ff, Ff, Ff, Ff, Ff, Ff, Ff, Ff, Ff] ((149, .r 5 0) :: cp42e3 t k :: cp42E t k) (cp42m0 t k) ?_ (fun h_17 => ?_)
              ·exact .st [1, 5, 7] ⟨.x rfl (.l vs58) h_27, .x rfl (.f fo81_1) h_32, .x rfl (.bs es22 ze22) h_33, trivial⟩
              refine .share 10 [Tt, Ff, Tt, Ff, Ff, Tt, Ff, Ff, Ff, Ff, Ff, Ff, Ff] ((149, .r 5 0) :: cp42e1 t k :: (154, .r 5 1) :: cp42E t k) (cp42m0 t k) ?_ (fun h_18 => ?_)
              ·exact .st [1, 3, 6, 7] ⟨.x rfl (.l vs58) h_28, .x rfl (.bs es58 ze58) h_32, .x rfl (.l vs22) h_34, .x rfl (.bs es22 ze22) h_35, trivial⟩
              refine .share 10 [Tt, Ff, Tt, Ff, Ff, Ff, Ff, Tt, Ff, Ff, Ff, Ff, Ff] ((149, .r 5 0) :: cp42e1 t k :: cp42e2 t k :: cp42E t k) (cp42m0 t k) ?_ (fun h_19 => ?_)
              ·exact .st [1, 3, 5] ⟨.x rfl (.l vs58) h_29, .x rfl (.bs es58 ze58) h_33, .x rfl (.f fo81_1) h_35, trivial⟩
              refine .share 10 [Tt, Ff, Ff, Ff, Ff, Tt, Tt, Ff, Ff, Ff, Ff, Ff, Ff] ((149, .r 5 0) :: (155, .o 192) :: cp42E t k) (cp42m0 t k) ?_ (fun h_20 => ?_)
              ·exact .st [1, 2, 7] ⟨.x rfl (.l vs58) h_30, .m h_34, .x rfl (.bs es22 ze22) h_36, trivial⟩
              refine .share 10 [Tt, Ff, Ff, Ff, Ff, Tt, Ff, Tt, Ff, Ff, Ff, Ff, Ff] ((149, .r 5 0) :: (154, .r 5 1) :: cp42e2 t k :: cp42E t k) (cp42m0 t k) ?_ (fun h_21 => ?_)
              ·exact .st [1, 2, 6] ⟨.x rfl (.l vs58) h_31, .m h_35, .x rfl (.l vs22) h_36, trivial⟩
              refine .share 10 [Ff, Ff, Tt, Tt, Ff, Tt, Ff, Ff, Ff, Ff, Ff, Ff, Ff] (cp42e3 t k :: (154, .r 5 1) :: cp42E t k) (cp42m0 t k) ?_ (fun h_22 => ?_)
              ·exact .st [0, 6, 7] ⟨.x rfl (.f fo81_0) h_32, .x rfl (.l vs22) h_37, .x rfl (.bs es22 ze22) h_38, trivial⟩
              refine .share 10 [Ff, Ff, Tt, Tt, Ff, Ff, Ff, Tt, Ff, Ff, Ff, Ff, Ff] (cp42e3 t k :: cp42e2 t k :: cp42E t k) (cp42m0 t k) ?_ (fun h_23 => ?_)
              ·exact .st [0, 5] ⟨.x rfl (.f fo81_0) h_33, .x rfl (.f fo81_1) h_38, trivial⟩
              refine .share 10 [Ff, Ff, Tt, Ff, Ff, Tt, Tt, Ff, Ff, Ff, Ff, Ff, Ff] (cp42e1 t k :: (155, .o 192) :: cp42E t k) (cp42m0 t k) ?_ (fun h_24 => ?_)
              ·exact .st [0, 3, 7] ⟨.x rfl (.f fo81_0) h_34, .x rfl (.bs es58 ze58) h_37, .x rfl (.bs es22 ze22) h_39, trivial⟩
              refine .share 10 [Ff, Ff, Tt, Ff, Ff, Tt, Ff, Tt, Ff, Ff, Ff, Ff, Ff] (cp42e1 t k :: (154, .r 5 1) :: cp42e2 t k :: cp42E t k) (cp42m0 t k) ?_ (fun h_25 => ?_)
              ·exact .st [0, 3, 6] ⟨.x rfl (.f fo81_0) h_35, .x rfl (.bs es58 ze58) h_38, .x rfl (.l vs22) h_39, trivial⟩
              refine .share 10 [Ff, Ff, Ff, Ff, Ff, Tt, Tt, Tt, Ff, Ff, Ff, Ff, Ff] ((155, .o 192) :: cp42e2 t k :: cp42E t k) (cp42m0 t k) ?_ (fun h_26 => ?_)
              ·exact .st [0, 2] ⟨.x rfl (.f fo81_0) h_36, .m h_39, trivial⟩
              refine .share 11 [Tt, Tt, Ff, Ff, Ff, Ff, Ff, Ff, Ff, Ff, Ff, Ff, Ff] ((150, .o 191) :: cp42E t k) (cp42m0 t k) ?_ (fun h_5 => ?_)
              ·exact .st [2, 5, 7] ⟨.m h_14, .x rfl (.f fo81_1) h_15, .x rfl (.bs es22 ze22) h_16, trivial⟩
              refine .share 11 [Tt, Ff, Tt, Ff, Ff, Ff, Ff, Ff, Ff, Ff, Ff, Ff, Ff] ((149, .r 5 0) :: cp42e1 t k :: cp42E t k) (cp42m0 t k) ?_ (fun h_6 => ?_)
              ·exact .st [1, 3, 5, 7] ⟨.x rfl (.l vs58) h_14, .x rfl (.bs es58 ze58) h_17, .x rfl (.f fo81_1) h_18, .x rfl (.bs es22 ze22) h_19, trivial⟩
              refine .share 11 [Tt, Ff, Ff, Ff, Ff, Tt, Ff, Ff, Ff, Ff, Ff, Ff, Ff] ((149, .r 5 0) :: (154, .r 5 1) :: cp42E t k) (cp42m0 t k) ?_ (fun h_7 => ?_)
              ·exact .st [1, 2, 6, 7] ⟨.x rfl (.l vs58) h_15, .m h_18, .x rfl (.l vs22) h_20, .x rfl (.bs es22 ze22) h_21, trivial⟩
              refine .share 11 [Tt, Ff, Ff, Ff, Ff, Ff, Ff, Tt, Ff, Ff, Ff, Ff, Ff] ((149, .r 5 0) :: cp42e2 t k :: cp42E t k) (cp42m0 t k) ?_ (fun h_8 => ?_)
              ·exact .st [1, 2, 5] ⟨.x rfl (.l vs58) h_16, .m h_19, .x rfl (.f fo81_1) h_21, trivial⟩
              refine .share 11 [Ff, Ff, Tt, Tt, Ff, Ff, Ff, Ff, Ff, Ff, Ff, Ff, Ff] (cp42e3 t k :: cp42E t k) (cp42m0 t k) ?_ (fun h_9 => ?_)
              ·exact .st [0, 5, 7] ⟨.x rfl (.f fo81_0) h_17, .x rfl (.f fo81_1) h_22, .x rfl (.bs es22 ze22) h_23, trivial⟩
              refine .share 11 [Ff, Ff, Tt, Ff, Ff, Tt, Ff, Ff, Ff, Ff, Ff, Ff, Ff] (cp42e1 t k :: (154, .r 5 1) :: cp42E t k) (cp42m0 t k) ?_ (fun h_10 => ?_)
              ·exact .st [0, 3, 6, 7] ⟨.x rfl (.f fo81_0) h_18, .x rfl (.bs es58 ze58) h_22, .x rfl (.l vs22) h_24, .x rfl (.bs es22 ze22) h_25, trivial⟩
              refine .share 11 [Ff, Ff, Tt, Ff, Ff, Ff, Ff, Tt, Ff, Ff, Ff, Ff, Ff] (cp42e1 t k :: cp42e2 t k :: cp42E t k) (cp42m0 t k) ?_ (fun h_11 => ?_)
              ·exact .st [0, 3, 5] ⟨.x rfl (.f fo81_0) h_19, .x rfl (.bs es58 ze58) h_23, .x rfl (.f fo81_1) h_25, trivial⟩
              refine .share 11 [Ff, Ff, Ff, Ff, Ff, Tt, Tt, Ff, Ff, Ff, Ff, Ff, Ff] ((155, .o 192) :: cp42E t k) (cp42m0 t k) ?_ (fun h_12 => ?_)
              ·exact .st [0, 2, 7] ⟨.x rfl (.f fo81_0) h_20, .m h_24, .x rfl (.bs es22 ze22) h_26, trivial⟩
              refine .share 11 [Ff, Ff, Ff, Ff, Ff, Tt, Ff, Tt, Ff, Ff, Ff, Ff, Ff] ((154, .r 5 1) :: cp42e2 t k :: cp42E t k) (cp42m0 t k) ?_ (fun h_13 => ?_)
              ·exact .st [0, 2, 6] ⟨.x rfl (.f fo81_0) h_21, .m h_25, .x rfl (.l vs22) h_26, trivial⟩
              refine .share 12 [Tt, Ff, Ff, Ff, Ff, Ff, Ff, Ff, Ff, Ff, Ff, Ff, Ff] ((149, .r 5 0) :: cp42E t k) (cp42m0 t k) ?_ (fun h_1 => ?_)
              ·exact .st [1, 2, 5, 7] ⟨.x rfl (.l vs58) h_5, .m h_6, .x rfl (.f fo81_1) h_7, .x rfl (.bs es22 ze22) h_8, trivial⟩
              refine .share 12 [Ff, Ff, Tt, Ff, Ff, Ff, Ff, Ff, Ff, Ff, Ff, Ff, Ff] (cp42e1 t k :: cp42E t k) (cp42m0 t k) ?_ (fun h_2 => ?_)
              ·exact .st [0, 3, 5, 7] ⟨.x rfl (.f fo81_0) h_6, .x rfl (.bs es58 ze58) h_9, .x rfl (.f fo81_1) h_10, .x rfl (.bs es22 ze22) h_11, trivial⟩
              refine .share 12 [Ff, Ff, Ff, Ff, Ff, Tt, Ff, Ff, Ff, Ff, Ff, Ff, Ff] ((154, .r 5 1) :: cp42E t k) (cp42m0 t k) ?_ (fun h_3 => ?_)
              ·exact .st [0, 2, 6, 7] ⟨.x rfl (.f fo81_0) h_7, .m h_10, .x rfl (.l vs22) h_12, .x rfl (.bs es22 ze22) h_13, trivial⟩
              refine .share 12 [Ff, Ff, Ff, Ff, Ff, Ff, Ff, Tt, Ff, Ff, Ff, Ff, Ff] (cp42e2 t k :: cp42E t k) (cp42m0 t k) ?_ (fun h_4 => ?_)
              ·exact .st [0, 2, 5] ⟨.x rfl (.f fo81_0) h_8, .m h_11, .x rfl (.f fo81_1) h_13, trivial⟩
              exact .st [0, 2, 5, 7] ⟨.x rfl (.f fo81_0) h_1, .m h_2, .x rfl (.f fo81_1) h_3, .x rfl (.bs es22 ze22) h_4, trivial⟩
           ·have hk : k = (lmL t).length := by simp at c124; omega
            subst hk
            refine .u <| .u <| .u <| .b <| .z <| .x (.f fo81_0) ?_; refine .x (.l vs58) ?_; refine .x (OpSem.leno rfl rfl rfl es58) ?_; refine .x (OpSem.le (s' := I (min ((qR t (lmL t).length).length : Int) 6)) (OpSem.min2 rfl rfl rfl) (Le.i (by simp))) ?_; refine .a ?_; refine .sq <| .g <| .freeze 191 rfl ?_; refine .freeze 192 rfl ?_; refine .freeze 193 rfl ?_; refine PC.start [] ?_; refine .x (.f fo81_0) ?_; refine .x (.l vs58) ?_; refine .m ?_; refine .x (OpSem.sliceH rfl rfl rfl es58 (by omega) (by omega)) ?_; refine .x (OpSem.call0 (slices_Clone_S_int_int_does ((qR t (lmL t).length).take (min ((qR t (lmL t).length).length : Int) 6).toNat) (by have := qr_le (t := t) (k := (lmL t).length); rw [List.length_take]; omega)) rfl rfl rfl rfl (Les.refl _)) ?_; refine .x (.f fo81_1) ?_; refine .x (.l vs22) ?_; refine .m ?_; refine .x (OpSem.sliceH rfl rfl rfl es22 (by omega) (by have := qr_len (t := t) (k := (lmL t).length); omega)) ?_; refine .x (OpSem.call0 (slices_Clone_int_int_does ((qB t (lmL t).length).take (min ((qR t (lmL t).length).length : Int) 6).toNat) (by have := qr_le (t := t) (k := (lmL t).length); have := qr_len (t := t) (k := (lmL t).length); rw [List.length_take]; omega)).fresh rfl rfl rfl rfl (Les.refl _)) ?_; refine .x (.f fo81_0) ?_; refine .d0 mixed ?_; refine .sb vs58 ?_; refine .x (.f fo81_1) ?_; refine .sb vs22 ?_; refine .z <| .x (.L vs81) ?_; refine .x (.bd pl28 zc28) ?_; refine .sb vs81 ?_; refine .sb vs28 ?_; exact .sq <| .t <| .ret rfl (.cellN rfl rfl vs81 <| .cellN rfl rfl vs28 <| .nil) rfl (Le.t (.cons (Le.of_eq (by rw [← cpR_0 (cpF_0 h0 hL).symm]; exact lp_end)) <| .cons (Le.flt (cpF_0 h0 hL)) <| .nil))
end Go.Proofs.YthjmgcopfipabaaGreat
end

section
namespace Go.Proofs.YthjmgcopfipabaaGreat
open Go.Eng
set_option maxRecDepth 10000
set_option maxHeartbeats 1000000
theorem linear_tableau_pivot_P (g : Ids) (t : Tb) (hk : TabOk g t) (hb : Bnd t) (r c : Int) (h0 : 0 ≤ r) (h1 : r < t.bs.length) (h2 : t.bs.length ≤ t.rs.length) (k0 : 0 ≤ c) (k1 : c < g.w) : DoesP Tryz.prog 111 [ptr g.s 0, .int .i64 r, .int .i64 c] (.tuple #[]) (tabF g t) (tabF g (pivF t r c)) := by
 have hrr : r < t.rs.length := by omega
 have hrm := hk.rm
 have hwm := hk.wm
 have hbm := hk.bm
 refine DoesP.of_body Tryz.func111 rfl rfl (by simp) Tryz.call111 (fun b => tab_dom b) (fun O0 Oc W => ?_); refine .g <| .r <| .m ?_; refine .x (OpSem.nilv rfl rfl) ?_; refine .x (OpSem.fieldv rfl rfl fo122_0) ?_; refine .x (OpSem.tb0 (h := 0) rfl rfl rfl vs58) ?_; refine .m ?_; refine .x (.ixv es58) ?_; refine .x (OpSem.tbR (h := 0) hk rfl rfl rfl vs22 (by omega) (by omega)) ?_; refine .m ?_; refine .x (.ixv es22) ?_; refine .x (OpSem.tbC (h := 0) hk rfl rfl rfl vs3 (by omega) (by omega) (by omega) (by omega)) ?_; refine .a ?_; refine .sq <| .g <| .g <| .r <| .m ?_; refine .x (OpSem.nilv rfl rfl) ?_; refine .x (OpSem.fieldv rfl rfl fo122_0) ?_; refine .x (OpSem.tb0 (h := 0) rfl rfl rfl vs58) ?_; refine .x (OpSem.lenv rfl rfl es58) ?_; refine .m ?_; refine .sq <| .k <| .loop (X := Nat) (fun k => k ≤ t.rs.length) (fun k => [(0, .d (.v (ptr g.s 0))), (1, I (r)), (2, I (c)), (6, I (cel t r c)), (27, .d (.v (slc g.r t.rs.length g.rc))), (28, I (t.rs.length)), (29, I (k))]) (fun k => [(0, tabM g (pvTo t r c k)), (1000, .fr (frK Oc W))]) (fun k => t.rs.length - k) 0 (by omega) ?_ ?_
 ·exact .p5 <| .sl <| .slot rfl (Le.of_eq (by simp)) <| .memEq rfl (by rw [← pv_0]) <| .mem rfl <| .nil
 ·rintro k hkl
  have hpk : (pvTo t r c k).rs.length = t.rs.length := pv_len
  refine .g <| .r <| .x (.b blss) ?_; refine .sq <| .g <| .cond rfl (fun c30 => ?_) (fun c30 => ?_)
  ·have hkl2 : k < t.rs.length := by simp at c30; omega
   have hwk := hk.w k hkl2
   refine .p <| .g <| .g <| .k <| .g <| .r <| .m ?_; refine .x (.ixv es58) ?_; refine .x (OpSem.tbR (h := 0) (pvTo_ok (r := r) (c := c) (k := k) hk) rfl rfl rfl vs22 (by omega) (by omega)) ?_; refine .a ?_; refine .a ?_; refine .sq <| .g <| .g <| .r <| .mm ?_; refine .x (.b beql) ?_; refine .sq <| .cond rfl (fun c36 => ?_) (fun c36 => ?_)
   ·have he : (k : Int) = r := by simpa using c36
    refine .u <| .u <| .b <| .y <| .x .ad ?_; refine .m ?_; refine .n <| .again (k + 1) (by omega) ?_ (by omega); exact .p5 <| .sl <| .slot rfl (Le.of_eq (by simp)) <| .memEq rfl (by rw [pv_skip he]) <| .mem rfl <| .nil
   ·have he : (k : Int) ≠ r := by simpa using c36
    refine .p <| .z <| .mm ?_; refine .x (.ixv es22) ?_; refine .x (OpSem.tbC (h := 0) (pvTo_ok (r := r) (c := c) (k := k) hk) rfl rfl rfl vs3 (by omega) (by omega) (by omega) (by omega)) ?_; refine .a ?_; refine .z <| .m ?_; refine .x (OpSem.lenv rfl rfl es22) ?_; refine .m ?_; refine .sq <| .k <| .loop (X := Nat) (fun l => l ≤ (nth t.rs k).length) (fun l => [(0, .d (.v (ptr g.s 0))), (1, I (r)), (2, I (c)), (6, I (cel t r c)), (8, .d (.v (slc (rbk g k) g.w (rck g k)))), (9, I (cel (pvTo t r c k) k c)), (27, .d (.v (slc g.r t.rs.length g.rc))), (28, I (t.rs.length)), (29, I (k)), (42, I (g.w)), (43, I (l))]) (fun l => [(0, tabM g (pvIn t r c k l)), (1000, .fr (frK Oc W))]) (fun l => (nth t.rs k).length - l) 0 (by omega) ?_ ?_
    ·exact .p5 <| .p5 <| .slot rfl (Le.of_eq (by simp)) <| .memEq rfl (by rw [← pvIn_0 hkl2]) <| .mem rfl <| .nil
    ·rintro l hll
     refine .g <| .r <| .x (.b blss) ?_; refine .sq <| .g <| .cond rfl (fun c44 => ?_) (fun c44 => ?_)
     ·have hl : l < (nth t.rs k).length := by simp at c44; omega
      have hlw : l < g.w := by omega
      have m1 := mul_inB (hb.cel (i := (k : Int)) (j := (l : Int))) (hb.cel (i := r) (j := c))
      have m2 := mul_inB (hb.cel (i := (k : Int)) (j := c)) (hb.cel (i := r) (j := (l : Int)))
      have hpl : (pvIn t r c k l).rs.length = t.rs.length := pvIn_len
      have e1 : cel (pvIn t r c k l) k l = cel t k l := pvIn_cel hkl2 hl
      have e2 : cel (pvIn t r c k l) r l = cel t r l := pvIn_r h0 hrr he
      refine .p <| .g <| .g <| .k <| .g <| .r <| .m ?_; refine .a ?_; refine .sq <| PC.start [] ?_; refine .mm ?_; refine .mm ?_; refine .x (.ixv es22) ?_; refine .x (OpSem.tbC (h := 0) (pvIn_ok (r := r) (c := c) (l := l) hkl2 hk) rfl rfl rfl vs3 (by omega) (by omega) (by omega) (by omega)) ?_; refine .m ?_; refine .x (OpSem.bin rfl rfl rfl (bmul (by rw [e1]; omega) (by rw [e1]; omega))) ?_; refine .mm ?_; refine .x (OpSem.nilv rfl rfl) ?_; refine .x (OpSem.fieldv rfl rfl fo122_0) ?_; refine .x (OpSem.tb0 (h := 0) rfl rfl rfl vs58) ?_; refine .m ?_; refine .x (.ixv es58) ?_; refine .x (OpSem.tbR (h := 0) (pvIn_ok (r := r) (c := c) (l := l) hkl2 hk) rfl rfl rfl vs22 (by omega) (by omega)) ?_; refine .m ?_; refine .x (.ixv es22) ?_; refine .x (OpSem.tbC (h := 0) (pvIn_ok (r := r) (c := c) (l := l) hkl2 hk) rfl rfl rfl vs3 (by omega) (by omega) (by omega) (by omega)) ?_; refine .x (OpSem.bin rfl rfl rfl (bmul (by rw [pvTo_k hkl2, e2]; omega) (by rw [pvTo_k hkl2, e2]; omega))) ?_; refine .x (OpSem.bin rfl rfl rfl (bsub (by rw [e1, pvTo_k hkl2, e2]; omega) (by rw [e1, pvTo_k hkl2, e2]; omega))) ?_; refine .m ?_; refine .x (OpSem.nilv rfl rfl) ?_; refine .x (OpSem.fieldv rfl rfl fo122_2) ?_; refine .x (OpSem.tb2 (h := 0) rfl rfl rfl vs3) ?_; refine .x (OpSem.bin rfl rfl rfl (bquoT (by rw [e1, pvTo_k hkl2, e2]; omega) (by rw [e1, pvTo_k hkl2, e2]; omega) hb.dn0)) ?_; refine .d0 mixed ?_; refine .x (.ixv es22) ?_; refine .ofSt0 (OpSt.tbC (h := 0) (pvIn_ok (r := r) (c := c) (l := l) hkl2 hk) rfl rfl rfl vs3 (by omega) (by omega) (by omega) (by omega)) rfl rfl rfl ?_; refine .n <| .n <| .y <| .x .ad ?_; refine .m ?_; refine .n <| .again (l + 1) (by omega) ?_ (by omega); exact .p5 <| .p5 <| .slot rfl (Le.of_eq (by simp)) <| .memEq rfl (by rw [e1, pvTo_k hkl2, e2, ← pvIn_s hkl2 hl]; rfl) <| .mem rfl <| .nil
     ·have hl : l = (nth t.rs k).length := by simp at c44; omega
      subst hl
      refine .u <| .u <| .u <| .b <| .n <| .y <| .x .ad ?_; refine .m ?_; refine .n <| .again (k + 1) (by omega) ?_ (by omega); exact .p5 <| .sl <| .slot rfl (Le.of_eq (by simp)) <| .memEq rfl (by rw [pvIn_end hkl2 he]) <| .mem rfl <| .nil
  ·have hkl2 : k = t.rs.length := by simp at c30; omega
   have hpb : (pvTo t r c k).bs.length = t.bs.length := rfl
   refine .u <| .u <| .u <| .b <| .g <| .cut [(0, .d (.v (ptr g.s 0))), (6, I (cel t r c))] [(0, tabM g (pivA t r c)), (1000, .fr (frK Oc W))] ?_ ?_
   ·refine .r <| .m ?_; refine .x (OpSem.nilv rfl rfl) ?_; refine .x (OpSem.fieldv rfl rfl fo122_1) ?_; refine .x (OpSem.tb1 (h := 0) rfl rfl rfl vs22) ?_; refine .mm ?_; refine .mm ?_; refine .x (OpSem.idxv rfl rfl rfl es22 ((pvTo_ok (r := r) (c := c) (k := k) hk).at (j := r) (by omega) (by omega)) (by omega) (by omega)) ?_; refine .ofSt0 (OpSt.tbB (h := 0) (pvTo_ok (r := r) (c := c) (k := k) hk) rfl rfl rfl vs3 (by omega) (by omega)) rfl rfl rfl ?_; refine .x (OpSem.nilv rfl rfl) ?_; refine .x (OpSem.fieldv rfl rfl fo122_2) ?_; refine .ofSt0 (OpSt.tbD (h := 0) rfl rfl rfl vs3) rfl rfl rfl ?_; exact .n <| .meet <| .p2 <| .memEq rfl (by rw [hkl2]; rfl) <| .mem rfl <| .nil
   ·refine .g <| .r <| .m ?_; refine .x (.b blss) ?_; refine .sq <| .cond rfl (fun c87 => ?_) (fun c87 => ?_)
    ·have hneg : cel t r c < 0 := by simpa using c87
     have hpc := hb.cel (i := r) (j := c)
     unfold inB at hpc
     have hpn := pivN_rl (t := t) (r := r) (c := c)
     refine .cut [(0, .d (.v (ptr g.s 0)))] [(0, tabM g (pivN t r c)), (1000, .fr (frK Oc W))] ?_ ?_
     ·refine .r <| .mm ?_; refine .x (OpSem.neg rfl rfl (neg_in (by omega) (by omega))) ?_; refine .x (OpSem.nilv rfl rfl) ?_; refine .x (OpSem.fieldv rfl rfl fo122_2) ?_; refine .ofSt0 (OpSt.tbD (h := 0) rfl rfl rfl vs3) rfl rfl rfl ?_; exact .n <| .meet <| .all
     ·refine .g <| .r <| .m ?_; refine .x (OpSem.nilv rfl rfl) ?_; refine .x (OpSem.fieldv rfl rfl fo122_0) ?_; refine .x (OpSem.tb0 (h := 0) rfl rfl rfl vs58) ?_; refine .x (OpSem.lenv rfl rfl es58) ?_; refine .m ?_; refine .sq <| .k <| .loop (X := Nat) (fun k => k ≤ t.rs.length) (fun k => [(96, .d (.v (slc g.r ((pivN t r c).rs.length) g.rc))), (97, I ((pivN t r c).rs.length)), (98, I (k))]) (fun k => [(0, tabM g (ngTo (pivN t r c) k)), (1000, .fr (frK Oc W))]) (fun k => t.rs.length - k) 0 (by omega) ?_ ?_
      ·exact .p2 <| .slot rfl (Le.of_eq (by simp)) <| .memEq rfl (by rw [← ng_0]) <| .mem rfl <| .nil
      ·rintro k hkl
       refine .g <| .r <| .x (.b blss) ?_; refine .sq <| .g <| .cond rfl (fun c99 => ?_) (fun c99 => ?_)
       ·have hkl2 : k < t.rs.length := by simp at c99; omega
        have hwk := hk.w k hkl2
        have hkA : k < (pivN t r c).rs.length := by omega
        have hwA := (pivN_ok (r := r) (c := c) hk).w k hkA
        have hngl : (ngTo (pivN t r c) k).rs.length = t.rs.length := ng_len.trans hpn
        refine .p <| .g <| .g <| .k <| .g <| .r <| .x (.ixv es58) ?_; refine .x (OpSem.tbR (h := 0) (ngTo_ok (k := k) (pivN_ok (r := r) (c := c) hk)) rfl rfl rfl vs22 (by omega) (by omega)) ?_; refine .a ?_; refine .z <| .m ?_; refine .x (OpSem.lenv rfl rfl es22) ?_; refine .m ?_; refine .sq <| .k <| .loop (X := Nat) (fun l => l ≤ g.w) (fun l => [(12, .d (.v (slc (rbk g k) g.w (rck g k)))), (96, .d (.v (slc g.r ((pivN t r c).rs.length) g.rc))), (97, I ((pivN t r c).rs.length)), (98, I (k)), (103, I (g.w)), (104, I (l))]) (fun l => [(0, tabM g (ngIn (pivN t r c) k l)), (1000, .fr (frK Oc W))]) (fun l => g.w - l) 0 (by omega) ?_ ?_
        ·exact .p5 <| .slot rfl (Le.of_eq (by simp)) <| .memEq rfl (by rw [← ngIn_0 hkA]) <| .mem rfl <| .nil
        ·rintro l hll
         refine .g <| .r <| .x (.b blss) ?_; refine .sq <| .g <| .cond rfl (fun c105 => ?_) (fun c105 => ?_)
         ·have hl : l < g.w := by simp at c105; omega
          have hc1 := ngIn_cel hkA (l := l) (by omega)
          have hc2 := pivN_in (r := r) (c := c) hb hkl2 (j := l) (by omega)
          have hnil : (ngIn (pivN t r c) k l).rs.length = t.rs.length := ngIn_len.trans hpn
          refine .p <| .g <| .g <| .k <| .g <| .r <| .m ?_; refine .a ?_; refine .y <| .mm ?_; refine .mm ?_; refine .x (.ixv es22) ?_; refine .x (OpSem.tbC (h := 0) (ngIn_ok (l := l) hkA (pivN_ok (r := r) (c := c) hk)) rfl rfl rfl vs3 (by omega) (by omega) (by omega) (by omega)) ?_; refine .x (OpSem.neg rfl rfl (neg_in (by rw [hc1]; omega) (by rw [hc1]; omega))) ?_; refine .x (.ixv es22) ?_; refine .ofSt0 (OpSt.tbC (h := 0) (ngIn_ok (l := l) hkA (pivN_ok (r := r) (c := c) hk)) rfl rfl rfl vs3 (by omega) (by omega) (by omega) (by omega)) rfl rfl rfl ?_; refine .n <| .n <| .y <| .x .ad ?_; refine .m ?_; refine .n <| .again (l + 1) (by omega) ?_ (by omega); exact .p5 <| .slot rfl (Le.of_eq (by simp)) <| .memEq rfl (by rw [hc1, ← ngIn_s hkA (by omega)]) <| .mem rfl <| .nil
         ·have hl : l = g.w := by simp at c105; omega
          subst hl
          refine .u <| .u <| .u <| .b <| .n <| .y <| .x .ad ?_; refine .m ?_; refine .n <| .again (k + 1) (by omega) ?_ (by omega); exact .p2 <| .slot rfl (Le.of_eq (by simp)) <| .memEq rfl (by rw [← hwA, ngIn_end hkA]) <| .mem rfl <| .nil
       ·have hkl2 : k = t.rs.length := by simp at c99; omega
        subst hkl2
        exact .u <| .u <| .u <| .b <| .retP (.inr rfl) rfl .nil rfl rfl (by first | rw [pivF_1 hneg] | rw [pivF_0 hneg]) (fun H => rfl)
    ·have hneg : ¬ cel t r c < 0 := by simpa using c87
     exact .p <| .retP (.inr rfl) rfl .nil rfl rfl (by first | rw [pivF_1 hneg] | rw [pivF_0 hneg]) (fun H => rfl)
end Go.Proofs.YthjmgcopfipabaaGreat
end
