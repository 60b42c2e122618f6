/- The engine and the walks that this claim uses, part 5. Written by prune.py out of our own texts. -/
import Derived.Test.YtlidcpmdgceboaaE4
set_option linter.unusedSimpArgs false
set_option linter.unnecessarySimpa false
set_option linter.unusedVariables false
set_option linter.unusedSectionVars false
section
/- Walks, written by gen.py out of hints. -/



namespace Go.Proofs.Ytlidcpmdgceboaa
open Go.Eng
set_option maxRecDepth 10000
set_option maxHeartbeats 1000000

theorem Q_CountingProgram_does (t : Tsk) (hV : TskV t) (hL : ¬ CLarge t) : Does Try.prog false 17 [tskS t] (lprS (cpA t)) := by
 have hol := cl_ops hL
 have hf0 := hV.facts.1
 have hf1 := hV.facts.2
 have hgl := setP_len hV.goal hf1
 refine Does.of_body Try.func17 rfl rfl (by simp) Try.call17 (fun w0 O0 => ?_); refine .lenG (n := 0) (i := 1) rfl rfl (fun len0_1 => ?_); refine .lenG (n := 0) (i := 2) rfl rfl (fun len0_2 => ?_); refine .lenG (n := 0) (i := 3) rfl rfl (fun len0_3 => ?_); refine .seq ?_; refine .region ?_; refine .semM (OpSem.box 1 rfl rfl rfl rfl) rfl rfl (by decide) ?_; refine .semM (OpSem.alloc 2 rfl zc39 rfl) rfl rfl (by decide) ?_; refine .z ?_; refine .semM (OpSem.alloc 3 rfl zc39 rfl) rfl rfl (by decide) ?_; refine .sq ?_; refine .seq ?_; refine .seq ?_; refine .ownNilBox 191 3 0 1 22 rfl rfl rfl ?_; refine .ownNilBox 192 3 1 1 3 rfl rfl rfl ?_; refine .ownNilBox 193 3 2 1 3 rfl rfl rfl ?_; refine .region ?_; refine .a ?_; refine .sq ?_; refine .block ?_; refine .loop (X := Nat) (fun i => i ≤ t.ops.length) (fun i => [(1, .r 1 0), (2, .r 2 0), (3, .r 3 0), (4, I (i))]) (fun i => [(191, .own 1 22 (([] : List (List Int)).map fun r => [ints r])), (192, .own 1 3 (([] : List Int).map fun n => [D.v (.int .i64 n)])), (193, .own 1 3 ((obTo t i).map fun n => [D.v (.int .i64 n)])), (1, .box [I (t.facts), .d (ints t.ini), .d (ints t.goal), .d (sopsD t.ops)]), (2, .box [.d (.v (.slice none 0 0)), .d (.v (.slice none 0 0)), .d (.v (.slice none 0 0))]), (3, .box [.o 191, .o 192, .o 193])]) (fun i => t.ops.length - i) 0 (by omega) ?_ ?_
 ·exact .sl <| .sl <| .sl <| .slot rfl (Le.of_eq (by simp)) <| .mem rfl <| .mem rfl <| .memEq rfl (by simp [obTo]) <| .mem rfl <| .mem rfl <| .mem rfl <| .nil
 ·rintro i hil
  refine .seq ?_; refine .seq ?_; refine .region ?_; refine .m ?_; refine .x (.f fo25_3) ?_; refine .x (.l vs23) ?_; refine .x (OpSem.lenL rfl rfl es23) ?_; refine .x (.b blss) ?_; refine .sq ?_; refine .cond rfl (fun c18 => ?_) (fun c18 => ?_)
  ·have hk : i < t.ops.length := by simpa using c18
   have hcs := (hV.op i hk).2
   have hobl := ob_len (t := t) (k := i) (by omega)
   refine .skip ?_; refine .seq ?_; refine .seq ?_; refine .block ?_; refine PC.start [] ?_; refine .x (.f fo39_2) ?_; refine .x (.l vs22) ?_; refine .x (.f fo25_3) ?_; refine .x (.l vs23) ?_; refine .m ?_; refine .x (OpSem.idxL rfl rfl rfl es23 (by omega) (by omega)) ?_; refine .x (OpSem.fieldp rfl rfl fo35_3) ?_; refine .x (OpSem.load1 rfl rfl vs3 rfl) ?_; refine .x (OpSem.neg rfl rfl (neg_in (by omega) (by omega))) ?_; refine .x (.bs es22 ze22) ?_; refine .d0 mixed ?_; refine .ap es22 el22 zc3 by3 ?_; refine .x (.f fo39_2) ?_; refine .sb vs22 ?_; refine .nil ?_; refine .block_normal ?_; refine .y ?_; refine .m ?_; refine .x .ad ?_; refine .a ?_; refine .nil ?_; refine .again (i + 1) (by omega) ?_ (by omega); exact .sl <| .sl <| .sl <| .slot rfl (Le.of_eq (by simp)) <| .mem rfl <| .mem rfl <| .memEq rfl (by rw [ob_s hk]; simp) <| .mem rfl <| .mem rfl <| .mem rfl <| .nil
  ·have hk : i = t.ops.length := by simp at c18; omega
   subst hk
   refine .exit ?_; refine .pass_exit ?_; refine .pass_exit ?_; refine .block_same ?_; refine .seq ?_; refine .cut [(1, .r 1 0), (3, .r 3 0), (2, .r 2 0)] [(1, .box [I (t.facts), .d (ints t.ini), .d (ints t.goal), .d (sopsD t.ops)]), (3, .box [.o 191, .o 192, .o 193]), (2, .box [.d (.v (.slice none 0 0)), .d (.v (.slice none 0 0)), .d (.v (.slice none 0 0))]), (191, .own 1 22 (((allR t 0).take 6).map fun r => [ints r])), (192, .own 1 3 (((allB t 0).take 6).map fun n => [D.v (.int .i64 n)])), (193, .own 1 3 ((obTo t t.ops.length).map fun n => [D.v (.int .i64 n)]))] ?_ ?_
   ·refine .seq ?_; refine .region ?_; refine .a ?_; refine .sq ?_; refine .block ?_; refine .loop (X := Nat) (fun k => k ≤ t.goal.length ∧ k ≤ 6) (fun k => [(1, .r 1 0), (2, .r 2 0), (3, .r 3 0), (5, I (k))]) (fun k => [(191, .own 1 22 ((gRows t k).map fun r => [ints r])), (192, .own 1 3 ((gBnds t k).map fun n => [D.v (.int .i64 n)])), (193, .own 1 3 ((obTo t t.ops.length).map fun n => [D.v (.int .i64 n)])), (1, .box [I (t.facts), .d (ints t.ini), .d (ints t.goal), .d (sopsD t.ops)]), (2, .box [.d (.v (.slice none 0 0)), .d (.v (.slice none 0 0)), .d (.v (.slice none 0 0))]), (3, .box [.o 191, .o 192, .o 193])]) (fun k => t.goal.length - k) 0 ⟨by omega, by omega⟩ ?_ ?_
    ·exact .sl <| .sl <| .sl <| .slot rfl (Le.of_eq (by simp)) <| .memEq rfl (by simp [gRows]) <| .memEq rfl (by simp [gBnds]) <| .mem rfl <| .mem rfl <| .mem rfl <| .mem rfl <| .nil
    ·rintro k hkl
     refine .seq ?_; refine .seq ?_; refine .region ?_; refine .m ?_; refine .x (.f fo25_2) ?_; refine .x (.l vs22) ?_; refine .x (OpSem.lenL rfl rfl es22) ?_; refine .x (.b blss) ?_; refine .m ?_; refine .split (n := 38) rfl (fun c38 => ?_) (fun c38 => ?_)
     ·have hk : k < t.goal.length := by simpa using c38
      refine .gt c38 ?_; refine .x (.f fo39_0) ?_; refine .gt c38 ?_; refine .x (.l vs37) ?_; refine .gt c38 ?_; refine .x (OpSem.leno rfl rfl rfl es37) ?_; refine .gt c38 ?_; refine .x (.b blss) ?_; refine .x (OpSem.pickT rfl rfl c38 rfl) ?_; refine .sq ?_; refine .cond rfl (fun c43 => ?_) (fun c43 => ?_)
      ·have h6 : k < 6 := by simp [grs_len (t := t) hkl.1] at c43; omega
       have hgr := grs_len (t := t) hkl.1
       have hgb : (gBnds t k).length = k := by simp [gBnds]; omega
       refine .skip ?_; refine .seq ?_; refine .seq ?_; refine .block ?_; refine .seq ?_; refine .region ?_; refine .a ?_; refine .sq ?_; refine .seq ?_; refine .seq ?_; refine .ownNil (n := 6) 6 1 3 rfl ?_; refine .region ?_; refine .a ?_; refine .sq ?_; refine .block ?_; refine .loop (X := Nat) (fun i => i ≤ t.ops.length) (fun i => [(1, .r 1 0), (2, .r 2 0), (3, .r 3 0), (5, I (k)), (6, .o 6), (7, I (i))]) (fun i => [(191, .own 1 22 ((gRows t k).map fun r => [ints r])), (192, .own 1 3 ((gBnds t k).map fun n => [D.v (.int .i64 n)])), (193, .own 1 3 ((obTo t t.ops.length).map fun n => [D.v (.int .i64 n)])), (6, .own 1 3 ((gRowTo t (nth t.goal k) i).map fun n => [D.v (.int .i64 n)])), (1, .box [I (t.facts), .d (ints t.ini), .d (ints t.goal), .d (sopsD t.ops)]), (2, .box [.d (.v (.slice none 0 0)), .d (.v (.slice none 0 0)), .d (.v (.slice none 0 0))]), (3, .box [.o 191, .o 192, .o 193])]) (fun i => t.ops.length - i) 0 (by omega) ?_ ?_
       ·exact .sl <| .sl <| .sl <| .sl <| .sl <| .slot rfl (Le.of_eq (by simp)) <| .mem rfl <| .mem rfl <| .mem rfl <| .memEq rfl (by simp [gRowTo]) <| .mem rfl <| .mem rfl <| .mem rfl <| .nil
       ·rintro i hil
        refine .seq ?_; refine .seq ?_; refine .region ?_; refine .m ?_; refine .x (.f fo25_3) ?_; refine .x (.l vs23) ?_; refine .x (OpSem.lenL rfl rfl es23) ?_; refine .x (.b blss) ?_; refine .sq ?_; refine .cond rfl (fun c50 => ?_) (fun c50 => ?_)
        ·have hi : i < t.ops.length := by simpa using c50
         have hgl2 := gr_len (t := t) (q := (nth t.goal k)) (k := i) (by omega)
         refine .skip ?_; refine .seq ?_; refine .seq ?_; refine .block ?_; refine .seq ?_; refine .region ?_; refine .x (.f fo25_3) ?_; refine .x (.l vs23) ?_; refine .m ?_; refine .x (OpSem.idxL rfl rfl rfl es23 (by omega) (by omega)) ?_; refine .x (OpSem.loadN rfl rfl vs35 (by first | decide | simp) rfl) ?_; refine .semM (OpSem.alloc 8 rfl zc35 rfl) rfl rfl (by decide) ?_; refine .sb vs35 ?_; refine .z ?_; refine .a ?_; refine .sq ?_; refine .cut [(1, .r 1 0), (3, .r 3 0), (2, .r 2 0), (5, I (k)), (6, .o 6), (7, I (i)), (8, .r 8 0), (9, I ((if (nth t.goal k) ∈ (nth t.ops i).add ∧ (nth t.goal k) ∉ (nth t.ops i).pre then -1 else 0)))] [(1, .box [I (t.facts), .d (ints t.ini), .d (ints t.goal), .d (sopsD t.ops)]), (3, .box [.o 191, .o 192, .o 193]), (2, .box [.d (.v (.slice none 0 0)), .d (.v (.slice none 0 0)), .d (.v (.slice none 0 0))]), (8, .box [.d (ints ((nth t.ops i).pre)), .d (ints ((nth t.ops i).add)), .d (ints ((nth t.ops i).del)), I ((nth t.ops i).cost)]), (6, .own 1 3 ((gRowTo t (nth t.goal k) i).map fun n => [D.v (.int .i64 n)])), (191, .own 1 22 ((gRows t k).map fun r => [ints r])), (192, .own 1 3 ((gBnds t k).map fun n => [D.v (.int .i64 n)])), (193, .own 1 3 ((obTo t t.ops.length).map fun n => [D.v (.int .i64 n)]))] ?_ ?_
         ·refine .seq ?_; refine PC.start [] ?_; refine .x (.f fo35_1) ?_; refine .x (.l vs22) ?_; refine .x (.f fo25_2) ?_; refine .x (.l vs22) ?_; refine .m ?_; refine .x (OpSem.idxL rfl rfl rfl es22 (by omega) (by omega)) ?_; refine .x (OpSem.load1 rfl rfl vs3 rfl) ?_; refine .x (OpSem.call0 (R_Has_does (nth t.ops i).add (nth t.goal k)) rfl rfl rfl rfl (Les.refl _)) ?_; refine .m ?_; refine .split (n := 66) rfl (fun c66 => ?_) (fun c66 => ?_)
          ·refine .gt (.f fo35_0) c66 ?_; refine .gt (.l vs22) c66 ?_; refine .gt (.f fo25_2) c66 ?_; refine .gt (.l vs22) c66 ?_; refine .gt (OpSem.move (.inl rfl) rfl) c66 ?_; refine .gt (OpSem.idxL rfl rfl rfl es22 (by omega) (by omega)) c66 ?_; refine .gt (OpSem.load1 rfl rfl vs3 rfl) c66 ?_; refine .d0 mixed ?_; refine .gt c66 ?_; refine .x (OpSem.call0 (R_Has_does (nth t.ops i).pre (nth t.goal k)) rfl rfl rfl rfl (Les.refl _)) ?_; refine .gt c66 ?_; refine .x (OpSem.not rfl rfl) ?_; refine .x (OpSem.pickT rfl rfl c66 rfl) ?_; refine .sq ?_; refine .cond rfl (fun c76 => ?_) (fun c76 => ?_)
           ·have q1 : (nth t.goal k) ∈ (nth t.ops i).add ∧ (nth t.goal k) ∉ (nth t.ops i).pre := ⟨by simpa using c66, by simpa using c76⟩
            refine .region ?_; refine .a ?_; refine .nil ?_; refine .meet ?_; exact .sl <| .sl <| .sl <| .sl <| .sl <| .sl <| .sl <| .slot rfl (Le.i (by rw [if_pos q1])) <| .mem rfl <| .mem rfl <| .mem rfl <| .mem rfl <| .mem rfl <| .mem rfl <| .mem rfl <| .mem rfl <| .nil
           ·have q1 : ¬ ((nth t.goal k) ∈ (nth t.ops i).add ∧ (nth t.goal k) ∉ (nth t.ops i).pre) := fun h => by simp [h.2] at c76
            refine .skip ?_; refine .meet ?_; exact .sl <| .sl <| .sl <| .sl <| .sl <| .sl <| .sl <| .slot rfl (Le.i (by rw [if_neg q1])) <| .mem rfl <| .mem rfl <| .mem rfl <| .mem rfl <| .mem rfl <| .mem rfl <| .mem rfl <| .mem rfl <| .nil
          ·have q1 : ¬ ((nth t.goal k) ∈ (nth t.ops i).add ∧ (nth t.goal k) ∉ (nth t.ops i).pre) := fun h => by simp [h.1] at c66
           refine .gf c66 ?_; refine .gf c66 ?_; refine .gf c66 ?_; refine .gf c66 ?_; refine .gf c66 ?_; refine .gf c66 ?_; refine .gf c66 ?_; refine .d0 mixed ?_; refine .gf c66 ?_; refine .gf c66 ?_; refine .x (OpSem.pickF rfl rfl c66 rfl) ?_; refine .sq ?_; refine .condF rfl rfl ?_; refine .skip ?_; refine .meet ?_; exact .sl <| .sl <| .sl <| .sl <| .sl <| .sl <| .sl <| .slot rfl (Le.i (by rw [if_neg q1])) <| .mem rfl <| .mem rfl <| .mem rfl <| .mem rfl <| .mem rfl <| .mem rfl <| .mem rfl <| .mem rfl <| .nil
         ·refine .cut [(1, .r 1 0), (3, .r 3 0), (2, .r 2 0), (5, I (k)), (6, .o 6), (7, I (i)), (8, .r 8 0), (9, I ((-(chgO (nth t.ops i) (nth t.goal k)))))] [(1, .box [I (t.facts), .d (ints t.ini), .d (ints t.goal), .d (sopsD t.ops)]), (3, .box [.o 191, .o 192, .o 193]), (2, .box [.d (.v (.slice none 0 0)), .d (.v (.slice none 0 0)), .d (.v (.slice none 0 0))]), (6, .own 1 3 ((gRowTo t (nth t.goal k) i).map fun n => [D.v (.int .i64 n)])), (191, .own 1 22 ((gRows t k).map fun r => [ints r])), (192, .own 1 3 ((gBnds t k).map fun n => [D.v (.int .i64 n)])), (193, .own 1 3 ((obTo t t.ops.length).map fun n => [D.v (.int .i64 n)]))] ?_ ?_
          ·refine .seq ?_; refine PC.start [] ?_; refine .x (.f fo35_0) ?_; refine .x (.l vs22) ?_; refine .x (.f fo25_2) ?_; refine .x (.l vs22) ?_; refine .m ?_; refine .x (OpSem.idxL rfl rfl rfl es22 (by omega) (by omega)) ?_; refine .x (OpSem.load1 rfl rfl vs3 rfl) ?_; refine .x (OpSem.call0 (R_Has_does (nth t.ops i).pre (nth t.goal k)) rfl rfl rfl rfl (Les.refl _)) ?_; refine .m ?_; refine .split (n := 85) rfl (fun c85 => ?_) (fun c85 => ?_)
           ·refine .gt (.f fo35_2) c85 ?_; refine .gt (.l vs22) c85 ?_; refine .gt (.f fo25_2) c85 ?_; refine .gt (.l vs22) c85 ?_; refine .gt (OpSem.move (.inl rfl) rfl) c85 ?_; refine .gt (OpSem.idxL rfl rfl rfl es22 (by omega) (by omega)) c85 ?_; refine .gt (OpSem.load1 rfl rfl vs3 rfl) c85 ?_; refine .d0 mixed ?_; refine .gt c85 ?_; refine .x (OpSem.call0 (R_Has_does (nth t.ops i).del (nth t.goal k)) rfl rfl rfl rfl (Les.refl _)) ?_; refine .x (OpSem.pickT rfl rfl c85 rfl) ?_; refine .sq ?_; refine .cond rfl (fun c94 => ?_) (fun c94 => ?_)
            ·have q2 : (nth t.goal k) ∈ (nth t.ops i).pre ∧ (nth t.goal k) ∈ (nth t.ops i).del := ⟨by simpa using c85, by simpa using c94⟩
             refine .region ?_; refine .a ?_; refine .nil ?_; refine .meet ?_; exact .sl <| .sl <| .sl <| .sl <| .sl <| .sl <| .sl <| .slot rfl (Le.i (chg_r1 q2)) <| .mem rfl <| .mem rfl <| .mem rfl <| .mem rfl <| .mem rfl <| .mem rfl <| .mem rfl <| .nil
            ·have q2 : ¬ ((nth t.goal k) ∈ (nth t.ops i).pre ∧ (nth t.goal k) ∈ (nth t.ops i).del) := fun h => by simp [h.2] at c94
             refine .skip ?_; refine .meet ?_; exact .sl <| .sl <| .sl <| .sl <| .sl <| .sl <| .sl <| .slot rfl (Le.i (chg_r2 q2)) <| .mem rfl <| .mem rfl <| .mem rfl <| .mem rfl <| .mem rfl <| .mem rfl <| .mem rfl <| .nil
           ·have q2 : ¬ ((nth t.goal k) ∈ (nth t.ops i).pre ∧ (nth t.goal k) ∈ (nth t.ops i).del) := fun h => by simp [h.1] at c85
            refine .gf c85 ?_; refine .gf c85 ?_; refine .gf c85 ?_; refine .gf c85 ?_; refine .gf c85 ?_; refine .gf c85 ?_; refine .gf c85 ?_; refine .d0 mixed ?_; refine .gf c85 ?_; refine .x (OpSem.pickF rfl rfl c85 rfl) ?_; refine .sq ?_; refine .condF rfl rfl ?_; refine .skip ?_; refine .meet ?_; exact .sl <| .sl <| .sl <| .sl <| .sl <| .sl <| .sl <| .slot rfl (Le.i (chg_r2 q2)) <| .mem rfl <| .mem rfl <| .mem rfl <| .mem rfl <| .mem rfl <| .mem rfl <| .mem rfl <| .nil
          ·refine .region ?_; refine .m ?_; refine .m ?_; refine .x (.bs es22 ze22) ?_; refine .ap es22 el22 zc3 by3 ?_; refine .a ?_; refine .nil ?_; refine .block_normal ?_; refine .y ?_; refine .m ?_; refine .x .ad ?_; refine .a ?_; refine .nil ?_; refine .again (i + 1) (by omega) ?_ (by omega); exact .sl <| .sl <| .sl <| .sl <| .sl <| .slot rfl (Le.of_eq (by simp)) <| .mem rfl <| .mem rfl <| .mem rfl <| .memEq rfl (by rw [gr_s hi]; simp) <| .mem rfl <| .mem rfl <| .mem rfl <| .nil
        ·have hi : i = t.ops.length := by simp at c50; omega
         subst hi
         refine .exit ?_; refine .pass_exit ?_; refine .pass_exit ?_; refine .block_same ?_; refine .seq ?_; refine .seq ?_; refine .freeze 6 rfl ?_; refine .region ?_; refine .x (.f fo39_0) ?_; refine .x (.l vs37) ?_; refine .m ?_; refine .x (.bs es37 ze37) ?_; refine .ap es37 el37 zc22 by22 ?_; refine .x (.f fo39_0) ?_; refine .sb vs37 ?_; refine .sq ?_; refine .seq ?_; refine PC.start [] ?_; refine .x (.f fo25_1) ?_; refine .x (.l vs22) ?_; refine .x (.f fo25_2) ?_; refine .x (.l vs22) ?_; refine .m ?_; refine .x (OpSem.idxL rfl rfl rfl es22 (by omega) (by omega)) ?_; refine .x (OpSem.load1 rfl rfl vs3 rfl) ?_; refine .d0 mixed ?_; refine .x (OpSem.call0 (R_Has_does t.ini (nth t.goal k)) rfl rfl rfl rfl (Les.refl _)) ?_; refine .sq ?_; refine .cond rfl (fun c112 => ?_) (fun c112 => ?_)
         ·have hgin : gBnd t (nth t.goal k) = 0 := by unfold gBnd; rw [if_pos (by simpa using c112)]
          refine .region ?_; refine .x (.f fo39_1) ?_; refine .x (.l vs22) ?_; refine .x (.bs es22 ze22) ?_; refine .ap es22 el22 zc3 by3 ?_; refine .x (.f fo39_1) ?_; refine .sb vs22 ?_; refine .nil ?_; refine .block_normal ?_; refine .y ?_; refine .m ?_; refine .x .ad ?_; refine .a ?_; refine .nil ?_; refine .again (k + 1) ⟨by omega, by omega⟩ ?_ (by omega); exact .sl <| .sl <| .sl <| .slot rfl (Le.of_eq (by simp)) <| .memEq rfl (by rw [grs_s hk, ← gr_end, List.map_append]; rfl) <| .memEq rfl (by rw [gbs_s hk, hgin]; simp) <| .mem rfl <| .mem rfl <| .mem rfl <| .mem rfl <| .nil
         ·have hgin : gBnd t (nth t.goal k) = -1 := by unfold gBnd; rw [if_neg (by simpa using c112)]
          refine .region ?_; refine .x (.f fo39_1) ?_; refine .x (.l vs22) ?_; refine .x (.bs es22 ze22) ?_; refine .ap es22 el22 zc3 by3 ?_; refine .x (.f fo39_1) ?_; refine .sb vs22 ?_; refine .nil ?_; refine .block_normal ?_; refine .y ?_; refine .m ?_; refine .x .ad ?_; refine .a ?_; refine .nil ?_; refine .again (k + 1) ⟨by omega, by omega⟩ ?_ (by omega); exact .sl <| .sl <| .sl <| .slot rfl (Le.of_eq (by simp)) <| .memEq rfl (by rw [grs_s hk, ← gr_end, List.map_append]; rfl) <| .memEq rfl (by rw [gbs_s hk, hgin]; simp) <| .mem rfl <| .mem rfl <| .mem rfl <| .mem rfl <| .nil
      ·have h6 : k = 6 := by simp [grs_len (t := t) hkl.1] at c43; omega
       refine .exit ?_; refine .pass_exit ?_; refine .pass_exit ?_; refine .block_same ?_; refine .meet ?_; exact .sl <| .sl <| .sl <| .mem rfl <| .mem rfl <| .mem rfl <| .memEq rfl (by rw [(ar_0 hkl.1 hkl.2 (.inr h6)).1]) <| .memEq rfl (by rw [(ar_0 hkl.1 hkl.2 (.inr h6)).2]) <| .mem rfl <| .nil
     ·have hk : k = t.goal.length := by simp at c38; omega
      refine .gf c38 ?_; refine .gf c38 ?_; refine .gf c38 ?_; refine .gf c38 ?_; refine .x (OpSem.pickF rfl rfl c38 rfl) ?_; refine .sq ?_; refine .condF rfl rfl ?_; refine .exit ?_; refine .pass_exit ?_; refine .pass_exit ?_; refine .block_same ?_; refine .meet ?_; exact .sl <| .sl <| .sl <| .mem rfl <| .mem rfl <| .mem rfl <| .memEq rfl (by rw [(ar_0 hkl.1 hkl.2 (.inl hk)).1]) <| .memEq rfl (by rw [(ar_0 hkl.1 hkl.2 (.inl hk)).2]) <| .mem rfl <| .nil
   ·refine .cut [(3, .r 3 0), (2, .r 2 0)] [(3, .box [.o 191, .o 192, .o 193]), (2, .box [.d (.v (.slice none 0 0)), .d (.v (.slice none 0 0)), .d (.v (.slice none 0 0))]), (191, .own 1 22 (((cpA t).rws).map fun r => [ints r])), (192, .own 1 3 (((cpA t).bnd).map fun n => [D.v (.int .i64 n)])), (193, .own 1 3 ((obTo t t.ops.length).map fun n => [D.v (.int .i64 n)]))] ?_ ?_
    ·refine .seq ?_; refine .region ?_; refine .a ?_; refine .sq ?_; refine .block ?_; refine .loop (X := Nat) (fun q => (q : Int) ≤ t.facts) (fun q => [(1, .r 1 0), (2, .r 2 0), (3, .r 3 0), (10, I (q))]) (fun q => [(191, .own 1 22 (((allR t q).take 6).map fun r => [ints r])), (192, .own 1 3 (((allB t q).take 6).map fun n => [D.v (.int .i64 n)])), (193, .own 1 3 ((obTo t t.ops.length).map fun n => [D.v (.int .i64 n)])), (1, .box [I (t.facts), .d (ints t.ini), .d (ints t.goal), .d (sopsD t.ops)]), (2, .box [.d (.v (.slice none 0 0)), .d (.v (.slice none 0 0)), .d (.v (.slice none 0 0))]), (3, .box [.o 191, .o 192, .o 193])]) (fun q => t.facts.toNat - q) 0 (by omega) ?_ ?_
     ·exact .sl <| .sl <| .sl <| .slot rfl (Le.of_eq (by simp)) <| .mem rfl <| .mem rfl <| .mem rfl <| .mem rfl <| .mem rfl <| .mem rfl <| .nil
     ·rintro q hql
      refine .seq ?_; refine .seq ?_; refine .region ?_; refine .m ?_; refine .x (.f fo25_0) ?_; refine .x (.l vs3) ?_; refine .x (.b blss) ?_; refine .m ?_; refine .split (n := 127) rfl (fun c127 => ?_) (fun c127 => ?_)
      ·refine .gt c127 ?_; refine .x (.f fo39_0) ?_; refine .gt c127 ?_; refine .x (.l vs37) ?_; refine .gt c127 ?_; refine .x (OpSem.leno rfl rfl rfl es37) ?_; refine .gt c127 ?_; refine .x (.b blss) ?_; refine .x (OpSem.pickT rfl rfl c127 rfl) ?_; refine .sq ?_; refine .cond rfl (fun c132 => ?_) (fun c132 => ?_)
       ·have hq : (q : Int) < t.facts := by simpa using c127
        have h6 : (((allR t q).take 6)).length < 6 := by simp at c132 ⊢; omega
        have h6b : (((allB t q).take 6)).length < 6 := by rw [List.length_take, all_len, ← List.length_take]; exact h6
        refine .skip ?_; refine .seq ?_; refine .seq ?_; refine .block ?_; refine .seq ?_; refine .seq ?_; refine .region ?_; refine .x (.f fo25_1) ?_; refine .x (.l vs22) ?_; refine .m ?_; refine .x (OpSem.call0 (R_Has_does t.ini (q : Int)) rfl rfl rfl rfl (Les.refl _)) ?_; refine .m ?_; refine .split (n := 139) rfl (fun c139 => ?_) (fun c139 => ?_)
        ·have hn : ¬ (lmP t q = true ∧ (q : Int) ∉ t.ini) := fun h => by simp [h.2] at c139
         refine .hf c139 ?_; refine .hf c139 ?_; refine .hf c139 ?_; refine .hf c139 ?_; refine .x (OpSem.pickT rfl rfl c139 rfl) ?_; refine .sq ?_; refine .condT rfl rfl ?_; refine .exit ?_; refine .pass_exit ?_; refine .block_same ?_; refine .y ?_; refine .m ?_; refine .x .ad ?_; refine .a ?_; refine .nil ?_; refine .again (q + 1) (by omega) ?_ (by omega); exact .sl <| .sl <| .sl <| .slot rfl (Le.of_eq (by simp)) <| .memEq rfl (by rw [(ar_f hn).1]) <| .memEq rfl (by rw [(ar_f hn).2]) <| .mem rfl <| .mem rfl <| .mem rfl <| .mem rfl <| .nil
        ·refine .ht c139 ?_; refine .x (OpSem.loadbN rfl rfl rfl vs25 (by first | decide | simp)) ?_; refine .ht c139 ?_; refine .m ?_; refine .ht c139 ?_; refine .x (OpSem.call0 (S3_IsLandmark_does t (q : Int) hV) rfl rfl rfl rfl (Les.refl _)) ?_; refine .ht c139 ?_; refine .x (OpSem.not rfl rfl) ?_; refine .x (OpSem.pickF rfl rfl c139 rfl) ?_; refine .sq ?_; refine .cond rfl (fun c144 => ?_) (fun c144 => ?_)
         ·have hn : ¬ (lmP t q = true ∧ (q : Int) ∉ t.ini) := fun h => by simp [h.1] at c144
          refine .exit ?_; refine .pass_exit ?_; refine .block_same ?_; refine .y ?_; refine .m ?_; refine .x .ad ?_; refine .a ?_; refine .nil ?_; refine .again (q + 1) (by omega) ?_ (by omega); exact .sl <| .sl <| .sl <| .slot rfl (Le.of_eq (by simp)) <| .memEq rfl (by rw [(ar_f hn).1]) <| .memEq rfl (by rw [(ar_f hn).2]) <| .mem rfl <| .mem rfl <| .mem rfl <| .mem rfl <| .nil
         ·have hl1 : lmP t q = true := by simpa using c144
          have hl2 : (q : Int) ∉ t.ini := by simpa using c139
          have hrt := ar_t hl1 hl2 h6
          refine .skip ?_; refine .z ?_; refine .x (OpSem.loadbN rfl rfl rfl vs25 (by first | decide | simp)) ?_; refine .m ?_; refine .x (OpSem.call0 (S3_FirstAchievers_does t (q : Int) hV).fresh rfl rfl rfl rfl (Les.refl _)) ?_; refine .a ?_; refine .z ?_; refine .a ?_; refine .sq ?_; refine .seq ?_; refine .seq ?_; refine .ownNil (n := 12) 12 1 3 rfl ?_; refine .region ?_; refine .a ?_; refine .sq ?_; refine .block ?_; refine .loop (X := Nat) (fun j => j ≤ t.ops.length) (fun j => [(1, .r 1 0), (2, .r 2 0), (3, .r 3 0), (10, I (q)), (11, .d (ints (acL t (q : Int)))), (12, .o 12), (13, I (j))]) (fun j => [(191, .own 1 22 (((allR t q).take 6).map fun r => [ints r])), (192, .own 1 3 (((allB t q).take 6).map fun n => [D.v (.int .i64 n)])), (193, .own 1 3 ((obTo t t.ops.length).map fun n => [D.v (.int .i64 n)])), (12, .own 1 3 ((lRowTo t (q : Int) j).map fun n => [D.v (.int .i64 n)])), (1, .box [I (t.facts), .d (ints t.ini), .d (ints t.goal), .d (sopsD t.ops)]), (2, .box [.d (.v (.slice none 0 0)), .d (.v (.slice none 0 0)), .d (.v (.slice none 0 0))]), (3, .box [.o 191, .o 192, .o 193])]) (fun j => t.ops.length - j) 0 (by omega) ?_ ?_
          ·exact .sl <| .sl <| .sl <| .sl <| .sl <| .sl <| .slot rfl (Le.of_eq (by simp)) <| .mem rfl <| .mem rfl <| .mem rfl <| .memEq rfl (by simp [lRowTo]) <| .mem rfl <| .mem rfl <| .mem rfl <| .nil
          ·rintro j hjl
           refine .seq ?_; refine .seq ?_; refine .region ?_; refine .m ?_; refine .x (.f fo25_3) ?_; refine .x (.l vs23) ?_; refine .x (OpSem.lenL rfl rfl es23) ?_; refine .x (.b blss) ?_; refine .sq ?_; refine .cond rfl (fun c152 => ?_) (fun c152 => ?_)
           ·have hj : j < t.ops.length := by simpa using c152
            have hlr := lr_len (t := t) (q := (q : Int)) (k := j)
            refine .skip ?_; refine .seq ?_; refine .seq ?_; refine .block ?_; refine .seq ?_; refine .region ?_; refine .m ?_; refine .m ?_; refine .x (OpSem.call0 (R_Has_does (acL t (q : Int)) (j : Int)) rfl rfl rfl rfl (Les.refl _)) ?_; refine .sq ?_; refine .cond rfl (fun c157 => ?_) (fun c157 => ?_)
            ·have hin : (j : Int) ∈ acL t (q : Int) := by simpa using c157
             refine .region ?_; refine .m ?_; refine .x (.bs es22 ze22) ?_; refine .ap es22 el22 zc3 by3 ?_; refine .a ?_; refine .nil ?_; refine .block_normal ?_; refine .y ?_; refine .m ?_; refine .x .ad ?_; refine .a ?_; refine .nil ?_; refine .again (j + 1) (by omega) ?_ (by omega); exact .sl <| .sl <| .sl <| .sl <| .sl <| .sl <| .slot rfl (Le.of_eq (by simp)) <| .mem rfl <| .mem rfl <| .mem rfl <| .memEq rfl (by rw [lr_s, if_pos hin]; simp) <| .mem rfl <| .mem rfl <| .mem rfl <| .nil
            ·have hin : (j : Int) ∉ acL t (q : Int) := by simpa using c157
             refine .region ?_; refine .m ?_; refine .x (.bs es22 ze22) ?_; refine .ap es22 el22 zc3 by3 ?_; refine .a ?_; refine .nil ?_; refine .block_normal ?_; refine .y ?_; refine .m ?_; refine .x .ad ?_; refine .a ?_; refine .nil ?_; refine .again (j + 1) (by omega) ?_ (by omega); exact .sl <| .sl <| .sl <| .sl <| .sl <| .sl <| .slot rfl (Le.of_eq (by simp)) <| .mem rfl <| .mem rfl <| .mem rfl <| .memEq rfl (by rw [lr_s, if_neg hin]; simp) <| .mem rfl <| .mem rfl <| .mem rfl <| .nil
           ·have hj : j = t.ops.length := by simp at c152; omega
            subst hj
            refine .exit ?_; refine .pass_exit ?_; refine .pass_exit ?_; refine .block_same ?_; refine .seq ?_; refine .seq ?_; refine .freeze 12 rfl ?_; refine .region ?_; refine .x (.f fo39_0) ?_; refine .x (.l vs37) ?_; refine .m ?_; refine .x (.bs es37 ze37) ?_; refine .ap es37 el37 zc22 by22 ?_; refine .x (.f fo39_0) ?_; refine .sb vs37 ?_; refine .y ?_; refine .x (.f fo39_1) ?_; refine .x (.l vs22) ?_; refine .x (.bs es22 ze22) ?_; refine .ap es22 el22 zc3 by3 ?_; refine .x (.f fo39_1) ?_; refine .sb vs22 ?_; refine .nil ?_; refine .block_normal ?_; refine .y ?_; refine .m ?_; refine .x .ad ?_; refine .a ?_; refine .nil ?_; refine .again (q + 1) (by omega) ?_ (by omega); exact .sl <| .sl <| .sl <| .slot rfl (Le.of_eq (by simp)) <| .memEq rfl (by rw [hrt.1, ← lr_end, List.map_append]; rfl) <| .memEq rfl (by rw [hrt.2]; simp) <| .mem rfl <| .mem rfl <| .mem rfl <| .mem rfl <| .nil
       ·have he := ar_end hql hf0 (.inr (by simp at c132 ⊢; omega))
        refine .exit ?_; refine .pass_exit ?_; refine .pass_exit ?_; refine .block_same ?_; refine .meet ?_; exact .sl <| .sl <| .mem rfl <| .mem rfl <| .memEq rfl (by rw [he.1]) <| .memEq rfl (by rw [he.2]) <| .mem rfl <| .nil
      ·have he := ar_end hql hf0 (.inl (by simp at c127; omega))
       refine .gf c127 ?_; refine .gf c127 ?_; refine .gf c127 ?_; refine .gf c127 ?_; refine .x (OpSem.pickF rfl rfl c127 rfl) ?_; refine .sq ?_; refine .condF rfl rfl ?_; refine .exit ?_; refine .pass_exit ?_; refine .pass_exit ?_; refine .block_same ?_; refine .meet ?_; exact .sl <| .sl <| .mem rfl <| .mem rfl <| .memEq rfl (by rw [he.1]) <| .memEq rfl (by rw [he.2]) <| .mem rfl <| .nil
    ·refine .seq ?_; refine .freeze 191 rfl ?_; refine .freeze 192 rfl ?_; refine .freeze 193 rfl ?_; refine .region ?_; refine .x (OpSem.loadbN rfl rfl rfl vs39 (by first | decide | simp)) ?_; refine .sb vs39 ?_; refine .sq ?_; refine .ret ?_; exact .ret rfl (.cellN rfl rfl vs39 <| .nil) rfl (Le.of_eq (by rw [← cpA_o]; rfl))

end Go.Proofs.Ytlidcpmdgceboaa
end

section
/- The program of counting, as the planner builds it. -/

namespace Go.Eng
open Go
def gRowS (t : Tsk) (q : Int) (i : Nat) : List Int := (List.range t.ops.length).map fun (j : Nat) => if j < i then -(chgO (nth t.ops j) q) else 0
theorem gs_len {t : Tsk} {q : Int} {i : Nat} : (gRowS t q i).length = t.ops.length := by simp [gRowS]
theorem gs_0 {t : Tsk} {q : Int} : gRowS t q 0 = List.replicate t.ops.length 0 := by
  apply List.ext_getElem (by simp [gRowS])
  intro i h1 h2; simp [gRowS]
theorem gs_s {t : Tsk} {q : Int} {i : Nat} (hi : i < t.ops.length) : (gRowS t q i).set i (-(chgO (nth t.ops i) q)) = gRowS t q (i + 1) := by
  apply List.ext_getElem (by simp [gRowS])
  intro j h1 h2
  rw [List.getElem_set]
  simp only [gRowS, List.getElem_map, List.getElem_range]
  by_cases hj : i = j
  · subst hj; simp
  · rw [if_neg hj]
    by_cases h : j < i
    · rw [if_pos h, if_pos (by omega)]
    · rw [if_neg h, if_neg (by omega)]
theorem gs_end {t : Tsk} {q : Int} : gRowS t q t.ops.length = gRow t q := by
  apply List.ext_getElem (by simp [gRowS, gRow])
  intro j h1 h2
  have hj : j < t.ops.length := by simpa [gRow] using h2
  simp only [gRowS, gRow, List.getElem_map, List.getElem_range]
  rw [if_pos hj, nth_eq hj]
noncomputable def lRowS (t : Tsk) (q : Int) (j : Nat) : List Int := (List.range t.ops.length).map fun (i : Nat) => if (i : Int) ∈ (acL t q).take j then -1 else 0
theorem ls_len {t : Tsk} {q : Int} {i : Nat} : (lRowS t q i).length = t.ops.length := by simp [lRowS]
theorem ls_0 {t : Tsk} {q : Int} : lRowS t q 0 = List.replicate t.ops.length 0 := by
  apply List.ext_getElem (by simp [lRowS])
  intro i h1 h2; simp [lRowS]
theorem ls_end {t : Tsk} {q : Int} : lRowS t q (acL t q).length = lRow t q := by unfold lRowS lRow; rw [List.take_length]
theorem acTo_in {t : Tsk} {p x : Int} : ∀ {k : Nat}, x ∈ acTo t p k → 0 ≤ x ∧ x < k
  | 0, h => by simp [acTo] at h
  | k + 1, h => by
    by_cases hl : acP t p k = true
    · rw [ac_t hl] at h
      rcases List.mem_append.1 h with h | h
      · have := acTo_in h; omega
      · simp at h; omega
    · rw [ac_f hl] at h; have := acTo_in h; omega
theorem acL_in {t : Tsk} {p : Int} {j : Nat} (hj : j < (acL t p).length) : 0 ≤ nth (acL t p) j ∧ nth (acL t p) j < t.ops.length := acTo_in (k := t.ops.length) (nth_mem (l := acL t p) (n := (j : Int)) (by omega) (by omega))
theorem ls_s {t : Tsk} {q : Int} {j : Nat} (hj : j < (acL t q).length) : (lRowS t q j).set (nth (acL t q) j).toNat (-1) = lRowS t q (j + 1) := by
  have hr := acL_in hj
  apply List.ext_getElem (by simp [lRowS])
  intro i h1 h2
  rw [List.getElem_set]
  simp only [lRowS, List.getElem_map, List.getElem_range]
  have hm : (i : Int) ∈ (acL t q).take (j + 1) ↔ (i : Int) ∈ (acL t q).take j ∨ nth (acL t q) j = i := by
    rw [tk_s hj]; simp only [List.mem_append, List.mem_singleton]; constructor <;> (rintro (h | h) <;> simp [h])
  by_cases he : (nth (acL t q) j).toNat = i
  · rw [if_pos he, if_pos (hm.2 (.inr (by omega)))]
  · rw [if_neg he]
    by_cases h : (i : Int) ∈ (acL t q).take j
    · rw [if_pos h, if_pos (hm.2 (.inl h))]
    · rw [if_neg h, if_neg (fun h' => (hm.1 h').elim h (fun e => he (by omega)))]
noncomputable def lmNK (t : Tsk) (k : Nat) : List Int := ((lmL t).take k).filter fun p => decide (p ∉ t.ini)
noncomputable def qR (t : Tsk) (k : Nat) : List (List Int) := t.goal.map (gRow t) ++ (lmNK t k).map (lRow t)
noncomputable def qB (t : Tsk) (k : Nat) : List Int := t.goal.map (gBnd t) ++ (lmNK t k).map fun _ => -1
theorem qr_0 {t : Tsk} : gRows t t.goal.length = qR t 0 ∧ gBnds t t.goal.length = qB t 0 := by
  unfold gRows gBnds qR qB lmNK
  rw [List.take_length]; simp
theorem qr_t {t : Tsk} {k : Nat} (hk : k < (lmL t).length) (h : nth (lmL t) k ∉ t.ini) : qR t (k + 1) = qR t k ++ [lRow t (nth (lmL t) k)] ∧ qB t (k + 1) = qB t k ++ [-1] := by
  unfold qR qB lmNK; rw [tk_s hk, List.filter_append]; simp [h]
theorem qr_f {t : Tsk} {k : Nat} (hk : k < (lmL t).length) (h : nth (lmL t) k ∈ t.ini) : qR t (k + 1) = qR t k ∧ qB t (k + 1) = qB t k := by
  unfold qR qB lmNK; rw [tk_s hk, List.filter_append]; simp [h]
theorem qr_len {t : Tsk} {k : Nat} : (qB t k).length = (qR t k).length := by simp [qR, qB]
theorem qr_le {t : Tsk} {k : Nat} : (qR t k).length ≤ t.goal.length + k := by
  unfold qR lmNK
  have := List.length_filter_le (fun p => decide (p ∉ t.ini)) ((lmL t).take k)
  simp only [List.length_append, List.length_map]
  rw [List.length_take] at this; omega
theorem qr_end {t : Tsk} : (qR t (lmL t).length).take 6 = (cpA t).rws ∧ (qB t (lmL t).length).take 6 = (cpA t).bnd := by
  have h : lmNK t (lmL t).length = lmNTo t t.facts.toNat := by unfold lmNK lmNTo; rw [List.take_length]; rfl
  rw [cpA_r, cpA_b]; unfold qR qB allR allB; rw [h]; exact ⟨rfl, rfl⟩
theorem tk_min {α : Type} {l : List α} {n : Int} (h : n = min (l.length : Int) 6) : l.take n.toNat = l.take 6 := by
  rcases Nat.lt_or_ge l.length 6 with h1 | h1
  · rw [List.take_of_length_le (by omega), List.take_of_length_le (by omega)]
  · congr 1; omega
theorem cpR_1 {t : Tsk} (h : cpF t ≠ (0, 0)) : lprZ = cpR t := by unfold cpR; rw [if_neg h]
theorem cpR_0 {t : Tsk} (h : cpF t = (0, 0)) : cpA t = cpR t := by unfold cpR; rw [if_pos h]
theorem cpF_1 {t : Tsk} (h : tskF t ≠ (0, 0)) : tskF t = cpF t := by unfold cpF; rw [if_pos h]
theorem cpF_2 {t : Tsk} (h : tskF t = (0, 0)) (h2 : CLarge t) : (10, -8) = cpF t := by unfold cpF; rw [if_neg (fun hn => hn h), if_pos h2]
theorem cpF_0 {t : Tsk} (h : tskF t = (0, 0)) (h2 : ¬ CLarge t) : (0, 0) = cpF t := by unfold cpF; rw [if_neg (fun hn => hn h), if_neg h2]
theorem cpF_ne {t : Tsk} (h : tskF t ≠ (0, 0)) : cpF t ≠ (0, 0) := by rw [← cpF_1 h]; exact h
theorem cl_any {t : Tsk} (h : (t.ops.any fun o => decide (20 < o.cost)) = true) : CLarge t := by
  obtain ⟨o, ho, hc⟩ := List.any_eq_true.1 h
  obtain ⟨i, hi, rfl⟩ := List.getElem_of_mem ho
  exact .inl ⟨i, hi, by rw [nth_eq hi]; simpa using hc⟩
theorem cl_none {t : Tsk} (h : ¬ (t.ops.any fun o => decide (20 < o.cost)) = true) (h6 : ¬ 6 < t.ops.length) : ¬ CLarge t := fun hc => by
  rcases hc with ⟨i, hi, hc⟩ | hc
  · exact h (List.any_eq_true.2 ⟨t.ops[i], List.getElem_mem hi, by rw [nth_eq hi] at hc; simpa using hc⟩)
  · exact h6 hc
theorem acs_at {t : Tsk} {k : Nat} (hk : k < (lmL t).length) : nth (acsTo t (lmL t).length) k = acL t (nth (lmL t) k) := by
  have h : k < (acsTo t (lmL t).length).length := by simp [acsTo]; omega
  rw [nth_eq h, nth_eq hk]; simp [acsTo]
theorem setP_len2 {n : Int} {l : List Int} (h : SetP n l) (hn : n ≤ 24) : l.length ≤ 24 := by
  have := pw_lt_len (n := n) (x := 0) (setP_sorted h) (fun y hy => setP_mem h hy)
  omega
theorem lp_end {t : Tsk} : (S.g [.d (rows ((qR t (lmL t).length).take (min ((qR t (lmL t).length).length : Int) 6).toNat)), .d (ints ((qB t (lmL t).length).take (min ((qR t (lmL t).length).length : Int) 6).toNat)), .d (ints (obTo t t.ops.length))]) = lprS (cpA t) := by
  have h := qr_end (t := t)
  rw [tk_min rfl, tk_min (by rw [qr_len]), h.1, h.2, ← cpA_o]
theorem Le.lpz : Le (.g [.d (.v (.slice none 0 0)), .d (.v (.slice none 0 0)), .d (.v (.slice none 0 0))]) (lprS lprZ) := Le.g (.cons (Le.nil 1) <| .cons (Le.nil 1) <| .cons (Le.nil 1) <| .nil)
end Go.Eng
end
