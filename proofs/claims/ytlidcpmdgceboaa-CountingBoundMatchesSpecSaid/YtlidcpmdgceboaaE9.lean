/- The engine and the walks that this claim uses, part 9. Written by prune.py out of our own texts. -/
import Derived.Test.YtlidcpmdgceboaaE8
set_option linter.unusedSimpArgs false
set_option linter.unnecessarySimpa false
set_option linter.unusedVariables false
set_option linter.unusedSectionVars false
section
/- Walks, written by gen.py out of hints. -/



namespace Go.Proofs.Ytlidcpmdgceboaa
open Go.Eng
set_option maxRecDepth 10000
set_option maxHeartbeats 1000000

theorem linear_newTableau_NP (p : LPr) (hp : LpOk p) : DoesNP Try.prog 55 [lprS p] (NewR p) := by
 have z1 := hp.r6
 have z2 := hp.o6
 have z3 := hp.b
 have hW : ntW p = p.obj.length + p.rws.length + 2 := rfl
 refine DoesNP.of_body Try.func55 rfl rfl (by simp) Try.call55 (fun w0 O0 => ?_); refine .seq ?_; refine .region ?_; refine .semM (OpSem.box 1 rfl rfl rfl rfl) rfl rfl (by decide) ?_; refine .a ?_; refine .sq ?_; refine .seq ?_; refine PC.start [] ?_; refine .x (.f fo39_2) ?_; refine .x (.l vs22) ?_; refine .x (OpSem.lenL rfl rfl es22) ?_; refine .x (.f fo39_0) ?_; refine .x (.l vs37) ?_; refine .x (OpSem.lenL rfl rfl es37) ?_; refine .x (OpSem.move (.inr rfl) rfl) ?_; refine .d0 mixed ?_; refine .a ?_; refine .z ?_; refine .x (OpSem.build rfl rfl pl99 zc99 rfl rfl) ?_; refine .semM (OpSem.box 20 rfl rfl rfl rfl) rfl rfl (by decide) ?_; refine .a ?_; refine .sq ?_; refine .seq ?_; refine .seq ?_; refine .pin0 200 ?_; refine .ownNilBox 191 20 0 1 22 rfl rfl rfl ?_; refine .ownNilBox 192 20 1 1 3 rfl rfl rfl ?_; refine .region ?_; refine .x (.f fo39_0) ?_; refine .x (.l vs37) ?_; refine .x (OpSem.lenL rfl rfl es37) ?_; refine .m ?_; refine .sq ?_; refine .block ?_; refine .loop (X := (Nat × List Blk)) (fun q => q.1 ≤ p.rws.length ∧ q.2.length = q.1 ∧ (q.2.map (·.1)).Nodup ∧ ∀ x, x ∈ q.2 → ntW p ≤ x.2.1 ∧ x.2.1 ≤ maxLen) (fun q => [(1, .r 1 0), (3, I (p.obj.length)), (4, I (p.rws.length)), (5, .r 20 0), (22, .d (rows p.rws)), (23, I (p.rws.length)), (24, I (q.1))]) (fun q => [(191, .own 1 22 ((rhd (ntW p) q.2).map fun v => [D.v v])), (192, .own 1 3 ((ntBs p q.1).map fun n => [D.v (.int .i64 n)])), (200, .any (pinK (rowF 3 (ntR p) q.2))), (1, .box [.d (rows p.rws), .d (ints p.bnd), .d (ints p.obj)]), (20, .box [.o 191, .o 192, I (1)])]) (fun q => p.rws.length - q.1) (0, []) ⟨by omega, rfl, by simp, by simp⟩ ?_ ?_
 ·exact .sl <| .sl <| .sl <| .sl <| .sl <| .sl <| .slot rfl (Le.of_eq (by simp)) <| .memEq rfl rfl <| .memEq rfl rfl <| .memEq rfl (by rw [rowF_0]; rfl) <| .mem rfl <| .mem rfl <| .nil
 ·rintro q ⟨hq1, hq2, hq3, hq4⟩
  refine .seq ?_; refine .region ?_; refine .x (.b blss) ?_; refine .sq ?_; refine .seq ?_; refine .cond rfl (fun c25 => ?_) (fun c25 => ?_)
  ·have hk : q.1 < p.rws.length := by simpa using c25
   have hrw := hp.w q.1 hk
   have hhl : (rhd (ntW p) q.2).length = q.1 := by simp [rhd, hq2]
   have hbl := ntBs_len (p := p) (k := q.1)
   refine .skip ?_; refine .seq ?_; refine .seq ?_; refine .block ?_; refine .seq ?_; refine .region ?_; refine .m ?_; refine .x (OpSem.idxL rfl rfl rfl es37 (by omega) (by omega)) ?_; refine .x (OpSem.load1 rfl rfl vs22 rfl) ?_; refine .a ?_; refine .a ?_; refine .z ?_; refine .m ?_; refine .m ?_; refine .x .ad ?_; refine .x .ad ?_; refine .semM (OpSem.makeSlice 33 rfl rfl rfl es22 ze22 rfl rfl (by decide) bye22 (by omega) (by omega) (by omega)) rfl rfl (by decide) ?_; refine .a ?_; refine .sq ?_; refine .cut [(1, .r 1 0), (3, I (p.obj.length)), (4, I (p.rws.length)), (5, .r 20 0), (6, I (q.1)), (8, .o 33), (22, .d (rows p.rws)), (23, I (p.rws.length)), (24, I (q.1))] [(1, .box [.d (rows p.rws), .d (ints p.bnd), .d (ints p.obj)]), (20, .box [.o 191, .o 192, I (1)]), (33, .own 1 3 ((nth p.rws q.1 ++ List.replicate (p.rws.length + 2) (0 : Int)).map fun n => [D.v (.int .i64 n)])), (191, .own 1 22 ((rhd (ntW p) q.2).map fun v => [D.v v])), (192, .own 1 3 ((ntBs p q.1).map fun n => [D.v (.int .i64 n)])), (200, .any (pinK (rowF 3 (ntR p) q.2)))] ?_ ?_
   ·refine .region ?_; refine .m ?_; refine .m ?_; refine .ofSt (OpSt.copyX rfl rfl rfl es22 (fun r hr => by obtain ⟨x, _, rfl⟩ := List.mem_map.1 hr; rfl) (by simp; omega) (by simp; omega)) rfl rfl rfl (by decide) ?_; refine .nil ?_; refine .meet ?_; exact .sl <| .sl <| .sl <| .sl <| .sl <| .sl <| .sl <| .sl <| .sl <| .mem rfl <| .mem rfl <| .memEq rfl (by rw [el22]; simp [hrw, nt_dr]) <| .mem rfl <| .mem rfl <| .mem rfl <| .nil
   ·refine .cut [(1, .r 1 0), (3, I (p.obj.length)), (4, I (p.rws.length)), (5, .r 20 0), (6, I (q.1)), (8, .o 33), (22, .d (rows p.rws)), (23, I (p.rws.length)), (24, I (q.1))] [(1, .box [.d (rows p.rws), .d (ints p.bnd), .d (ints p.obj)]), (20, .box [.o 191, .o 192, I (1)]), (33, .own 1 3 ((iv (ntRow p q.1)).map fun v => [D.v v])), (191, .own 1 22 ((rhd (ntW p) q.2).map fun v => [D.v v])), (192, .own 1 3 ((ntBs p q.1).map fun n => [D.v (.int .i64 n)])), (200, .any (pinK (rowF 3 (ntR p) q.2)))] ?_ ?_
    ·refine .region ?_; refine .m ?_; refine .m ?_; refine .m ?_; refine .x .ad ?_; refine .m ?_; refine .m ?_; refine .m ?_; refine .x .ad ?_; refine .m ?_; refine .m ?_; refine .m ?_; refine .x .ad ?_; refine .x .ad ?_; refine .x (.f fo39_1) ?_; refine .x (.l vs22) ?_; refine .m ?_; refine .x (OpSem.idxL rfl rfl rfl es22 (by omega) (by omega)) ?_; refine .x (OpSem.load1 rfl rfl vs3 rfl) ?_; refine .x (OpSem.idxo rfl rfl rfl rfl es22 (by omega) (by simp [hrw]; omega)) ?_; refine .storeq rfl rfl rfl rfl rfl rfl rfl vs3 (rows_get (by omega) (by simp [hrw]; omega)) (by simp) ?_; refine .memEq (h := 33) (m' := .own 1 3 (((nth p.rws q.1 ++ List.replicate (p.rws.length + 2) (0 : Int)).set ((p.obj.length : Int) + (q.1 : Int)).toNat 1).map fun n => [D.v (.int .i64 n)])) rfl (by exact congrArg (Mo.own 1 3) (rows_set (f := fun n => [D.v (.int .i64 n)]))) ?_; refine .x (OpSem.idxo rfl rfl rfl rfl es22 (by omega) (by simp [hrw]; omega)) ?_; refine .storeq rfl rfl rfl rfl rfl rfl rfl vs3 (rows_get (by omega) (by simp [hrw]; omega)) (by simp) ?_; refine .memEq (h := 33) (m' := .own 1 3 ((((nth p.rws q.1 ++ List.replicate (p.rws.length + 2) (0 : Int)).set ((p.obj.length : Int) + (q.1 : Int)).toNat 1).set ((p.obj.length : Int) + (p.rws.length : Int)).toNat (-1)).map fun n => [D.v (.int .i64 n)])) rfl (by exact congrArg (Mo.own 1 3) (rows_set (f := fun n => [D.v (.int .i64 n)]))) ?_; refine .x (OpSem.idxo rfl rfl rfl rfl es22 (by omega) (by simp [hrw]; omega)) ?_; refine .storeq rfl rfl rfl rfl rfl rfl rfl vs3 (rows_get (by omega) (by simp [hrw]; omega)) (by simp) ?_; refine .memEq (h := 33) (m' := .own 1 3 (((((nth p.rws q.1 ++ List.replicate (p.rws.length + 2) (0 : Int)).set ((p.obj.length : Int) + (q.1 : Int)).toNat 1).set ((p.obj.length : Int) + (p.rws.length : Int)).toNat (-1)).set ((p.obj.length : Int) + (p.rws.length : Int) + 1).toNat (nth p.bnd q.1)).map fun n => [D.v (.int .i64 n)])) rfl (by exact congrArg (Mo.own 1 3) (rows_set (f := fun n => [D.v (.int .i64 n)]))) ?_; refine .nil ?_; refine .meet ?_; exact .sl <| .sl <| .sl <| .sl <| .sl <| .sl <| .sl <| .sl <| .sl <| .mem rfl <| .mem rfl <| .memEq rfl (by rw [← ntRow_s hk hrw, nt_i1, nt_i1, nt_i3]; simp [iv, List.map_set]; rfl) <| .mem rfl <| .mem rfl <| .mem rfl <| .nil
    ·refine .seq ?_; refine .pinOwn 200 33 (T := 3) (l := iv (ntRow p q.1)) rfl rfl (by decide) (fun e => by have h := congrArg List.length e; simp [iv, ntRow_len, hW] at h) (fun b cap tl hF hcp hcm => ?_)
     have hil : (iv (ntRow p q.1)).length = ntW p := by simp [iv, ntRow_len]
     refine .region ?_; refine .m ?_; refine .m ?_; refine .x (OpSem.nilr rfl rfl) ?_; refine .x (.f fo99_0) ?_; refine .x (.l vs37) ?_; refine .m ?_; refine .x (.bs es37 ze37) ?_; refine .ap es37 el37 zc22 by22 ?_; refine .x (OpSem.nilr rfl rfl) ?_; refine .x (.f fo99_0) ?_; refine .sb vs37 ?_; refine .y ?_; refine .m ?_; refine .m ?_; refine .x (OpSem.nilr rfl rfl) ?_; refine .x (.f fo99_1) ?_; refine .x (.l vs22) ?_; refine .m ?_; refine .m ?_; refine .x .ad ?_; refine .x (.bs es22 ze22) ?_; refine .ap es22 el22 zc3 by3 ?_; refine .x (OpSem.nilr rfl rfl) ?_; refine .x (.f fo99_1) ?_; refine .sb vs22 ?_; refine .nil ?_; refine .block_normal ?_; refine .y ?_; refine .x .ad ?_; refine .m ?_; refine .nil ?_; refine .again (q.1 + 1, q.2 ++ [(b, cap, tl)]) ⟨by simp only []; omega, by simp [hq2], by simp only [List.map_append]; exact nd_snoc hq3 (rowF_none hF), nt_caps hq4 ntRow_len hcp hcm⟩ ?_ (by simp only []; omega)
     exact .sl <| .sl <| .sl <| .sl <| .sl <| .sl <| .slot rfl (Le.of_eq (by simp)) <| .memEq rfl (by rw [rhd_s, List.map_append, hil]; rfl) <| .memEq rfl (by rw [ntBs_s, List.map_append]; rfl) <| .memEq rfl (by rw [pin_r (cap := cap) hk hq2 hF]; rfl) <| .mem rfl <| .mem rfl <| .nil
  ·have hk : q.1 = p.rws.length := by simp at c25; omega
   have hL : q.2.length = p.rws.length := by omega
   have hhl : (rhd (ntW p) q.2).length = p.rws.length := by simp [rhd, hL]
   refine .exit ?_; refine .pass_exit ?_; refine .pass_exit ?_; refine .block_same ?_; refine .seq ?_; refine .seq ?_; refine .lattice 12 [Ff, Ff, Ff, Ff, Ff, Ff, Ff, Ff, Ff, Ff, Ff, Ff] mixed rfl rfl ?_; refine .share 0 [Tt, Tt, Tt, Tt, Tt, Tt, Tt, Tt, Tt, Tt, Tt, Tt] [(1, .r 1 0), (3, I (p.obj.length)), (4, I (p.rws.length)), (5, .r 20 0), (9, .o 85), (10, .o 90)] [(1, .box [.d (rows p.rws), .d (ints p.bnd), .d (ints p.obj)]), (20, .box [.o 191, .o 192, I (1)]), (191, .own 1 22 ((rhd (ntW p) q.2).map fun v => [D.v v])), (192, .own 1 3 ((ntBs p q.1).map fun n => [D.v (.int .i64 n)])), (200, .any (pinK (rowF 3 (ntR p) q.2))), (85, .own 1 3 ((List.replicate (ntW p) (0 : Int)).map fun n => [D.v (.int .i64 n)])), (90, .own 1 3 ((List.replicate (ntW p) (0 : Int)).map fun n => [D.v (.int .i64 n)]))] ?_ (fun h_56 => ?_)
   ·refine .fin (by kernel_rfl) ?_; refine .seq ?_; refine .seq ?_; refine .seq ?_; refine .region ?_; refine .x (.f fo39_2) ?_; refine .x (.l vs22) ?_; refine .x (OpSem.lenL rfl rfl es22) ?_; refine .m ?_; refine .sq ?_; refine .block ?_; refine .loop (X := Nat) (fun j => j ≤ p.obj.length) (fun j => [(3, I (p.obj.length)), (4, I (p.rws.length)), (5, .r 20 0), (9, .o 85), (10, .o 90), (92, .d (ints p.obj)), (93, I (p.obj.length)), (94, I (j))]) (fun j => [(191, .own 1 22 ((rhd (ntW p) q.2).map fun v => [D.v v])), (192, .own 1 3 ((ntBs p q.1).map fun n => [D.v (.int .i64 n)])), (200, .any (pinK (rowF 3 (ntR p) q.2))), (85, .own 1 3 ((ntGo p j).map fun n => [D.v (.int .i64 n)])), (90, .own 1 3 ((List.replicate (ntW p) (0 : Int)).map fun n => [D.v (.int .i64 n)])), (20, .box [.o 191, .o 192, I (1)])]) (fun j => p.obj.length - j) 0 (by omega) ?_ ?_
    ·exact .sl <| .sl <| .sl <| .sl <| .sl <| .sl <| .sl <| .slot rfl (Le.of_eq (by simp)) <| .mem rfl <| .mem rfl <| .mem rfl <| .memEq rfl (by rw [ntGo_0]) <| .mem rfl <| .mem rfl <| .nil
    ·rintro j hjl
     refine .seq ?_; refine .region ?_; refine .x (.b blss) ?_; refine .sq ?_; refine .seq ?_; refine .cond rfl (fun c95 => ?_) (fun c95 => ?_)
     ·have hk : j < p.obj.length := by simpa using c95
      have ho := hp.o j hk
      have hgl := ntGo_len (p := p) (k := j)
      refine .skip ?_; refine .seq ?_; refine .seq ?_; refine .block ?_; refine .seq ?_; refine .region ?_; refine .m ?_; refine .x (OpSem.idxL rfl rfl rfl es22 (by omega) (by omega)) ?_; refine .x (OpSem.load1 rfl rfl vs3 rfl) ?_; refine .a ?_; refine .a ?_; refine .y ?_; refine .m ?_; refine .m ?_; refine .m ?_; refine .x (OpSem.neg rfl rfl (neg_in (by omega) (by omega))) ?_; refine .x (OpSem.idxo rfl rfl rfl rfl es22 (by omega) (by simp; omega)) ?_; refine .storeq rfl rfl rfl rfl rfl rfl rfl vs3 (rows_get (by omega) (by omega)) (by simp) ?_; refine .nil ?_; refine .block_normal ?_; refine .y ?_; refine .x .ad ?_; refine .m ?_; refine .nil ?_; refine .again (j + 1) (by omega) ?_ (by omega); exact .sl <| .sl <| .sl <| .sl <| .sl <| .sl <| .sl <| .slot rfl (Le.of_eq (by simp)) <| .mem rfl <| .mem rfl <| .mem rfl <| .memEq rfl (by rw [← ntGo_s (by omega)]; exact congrArg (Mo.own 1 3) (rows_set (f := fun n => [D.v (.int .i64 n)]))) <| .mem rfl <| .mem rfl <| .nil
     ·have hk : j = p.obj.length := by simp at c95; omega
      subst hk
      refine .exit ?_; refine .pass_exit ?_; refine .pass_exit ?_; refine .block_same ?_; refine .seq ?_; refine .cut [(3, I (p.obj.length)), (4, I (p.rws.length)), (5, .r 20 0), (9, .o 85), (10, .o 90)] [(20, .box [.o 191, .o 192, I (1)]), (85, .own 1 3 ((iv (ntGoal p)).map fun v => [D.v v])), (90, .own 1 3 ((iv (ntArt p)).map fun v => [D.v v])), (191, .own 1 22 ((rhd (ntW p) q.2).map fun v => [D.v v])), (192, .own 1 3 ((ntBs p q.1).map fun n => [D.v (.int .i64 n)])), (200, .any (pinK (rowF 3 (ntR p) q.2)))] ?_ ?_
      ·refine .region ?_; refine .m ?_; refine .m ?_; refine .m ?_; refine .x .ad ?_; refine .x (OpSem.idxo rfl rfl rfl rfl es22 (by omega) (by simp; omega)) ?_; refine .storeq rfl rfl rfl rfl rfl rfl rfl vs3 (rows_get (by omega) (by simp; omega)) (by simp) ?_; refine .nil ?_; refine .meet ?_; exact .sl <| .sl <| .sl <| .sl <| .sl <| .mem rfl <| .memEq rfl (by simp [iv, ntGoal]) <| .memEq rfl (by rw [← ntArt_s, nt_i1]; simp [iv, List.map_set]) <| .mem rfl <| .mem rfl <| .mem rfl <| .nil
      ·refine .seq ?_; refine .pinOwn 200 85 (T := 3) (l := iv (ntGoal p)) rfl rfl (by decide) (fun e => by have h := congrArg List.length e; simp [iv, ntGoal, ntGo_len, hW] at h) (fun b1 cap1 tl1 hF1 hcp1 hcm1 => ?_); refine .pinEq (h := 200) rfl (pin_g (cap := cap1) hL hF1) ?_; refine .pinOwn 200 90 (T := 3) (l := iv (ntArt p)) rfl rfl (by decide) (fun e => by have h := congrArg List.length e; simp [iv, ntArt_len, hW] at h) (fun b2 cap2 tl2 hF2 hcp2 hcm2 => ?_); refine .pinEq (h := 200) rfl (pin_a (cap := cap2) (L := q.2 ++ [(b1, cap1, tl1)]) (by simp [hL]) hF2) ?_
       have hi1 : (iv (ntGoal p)).length = ntW p := by simp [iv, ntGoal, ntGo_len]
       have hi2 : (iv (ntArt p)).length = ntW p := by simp [iv, ntArt_len]
       refine .region ?_; refine .m ?_; refine .m ?_; refine .x (OpSem.nilr rfl rfl) ?_; refine .x (.f fo99_0) ?_; refine .x (.l vs37) ?_; refine .m ?_; refine .m ?_; refine .x (.bs es37 ze37) ?_; refine .ap es37 el37 zc22 by22 ?_; refine .x (OpSem.nilr rfl rfl) ?_; refine .x (.f fo99_0) ?_; refine .sb vs37 ?_; refine .sq ?_; refine .seq ?_
       have hL2 : (q.2 ++ [(b1, cap1, tl1)] ++ [(b2, cap2, tl2)]).length = p.rws.length + 2 := by simp [hL]
       have hnd2 : ((q.2 ++ [(b1, cap1, tl1)] ++ [(b2, cap2, tl2)]).map (·.1)).Nodup := by rw [List.map_append]; exact nd_snoc (by rw [List.map_append]; exact nd_snoc hq3 (rowF_none hF1)) (rowF_none hF2)
       have hcc2 := nt_caps (b := b2) (cap := cap2) (tl := tl2) (nt_caps (b := b1) (cap := cap1) (tl := tl1) hq4 (ntGo_len (k := p.obj.length)) hcp1 hcm1) ntArt_len hcp2 hcm2
       refine .memEq (h := 191) (m' := .own 1 22 ((rhd (ntW p) (q.2 ++ [(b1, cap1, tl1)] ++ [(b2, cap2, tl2)])).map fun v => [D.v v])) rfl (by rw [rhd_s, rhd_s, hi1, hi2, List.map_append, List.map_append]; simp) ?_; refine .memEq (h := 192) (m' := .own 1 3 ((iv (ntBs p p.rws.length)).map fun v => [D.v v])) rfl (by rw [hk]; simp [iv]; rfl) ?_; refine .pinOwn 200 191 (T := 22) (l := rhd (ntW p) (q.2 ++ [(b1, cap1, tl1)] ++ [(b2, cap2, tl2)])) rfl rfl (by decide) (fun e => by have h := congrArg List.length e; simp [rhd] at h) (fun r rc rt hr hrc1 hrc2 => ?_); refine .pinOwn0 200 192 (T := 3) (l := iv (ntBs p p.rws.length)) rfl rfl (by decide) (fun a bb bc bt F2 hb1 hb2 hb3 => ?_); refine .pinBox 200 20 (l := [slc r (rhd (ntW p) (q.2 ++ [(b1, cap1, tl1)] ++ [(b2, cap2, tl2)])).length rc, .slice a (iv (ntBs p p.rws.length)).length bc, .int .i64 1]) rfl rfl rfl (by decide) (fun s Tt hs => ?_); refine .region ?_; refine .m ?_; refine .a ?_; refine .sq ?_; refine .ret ?_; exact .retNP (h := 200) rfl rfl rfl (new_fin hp hL2 hnd2 hcc2 hr ⟨hrc1, hrc2⟩ rfl ⟨hb1, hb2⟩ hb3 hs rfl)
   refine .share 1 [Tt, Tt, Tt, Tt, Tt, Tt, Tt, Tt, Tt, Tt, Tt, Ff] [(1, .r 1 0), (3, I (p.obj.length)), (4, I (p.rws.length)), (5, .r 20 0), (9, .o 85), (90, .o 90)] [(1, .box [.d (rows p.rws), .d (ints p.bnd), .d (ints p.obj)]), (20, .box [.o 191, .o 192, I (1)]), (191, .own 1 22 ((rhd (ntW p) q.2).map fun v => [D.v v])), (192, .own 1 3 ((ntBs p q.1).map fun n => [D.v (.int .i64 n)])), (200, .any (pinK (rowF 3 (ntR p) q.2))), (85, .own 1 3 ((List.replicate (ntW p) (0 : Int)).map fun n => [D.v (.int .i64 n)])), (90, .own 1 3 ((List.replicate (ntW p) (0 : Int)).map fun n => [D.v (.int .i64 n)]))] ?_ (fun h_55 => ?_)
   ·refine .st [11] ⟨?_, trivial⟩
    ·refine ⟨_, rfl, ?_⟩
     refine .a ?_; exact .j h_56
   refine .share 2 [Tt, Tt, Tt, Tt, Tt, Tt, Tt, Tt, Tt, Tt, Ff, Ff] [(1, .r 1 0), (3, I (p.obj.length)), (4, I (p.rws.length)), (5, .r 20 0), (85, .o 85), (90, .o 90)] [(1, .box [.d (rows p.rws), .d (ints p.bnd), .d (ints p.obj)]), (20, .box [.o 191, .o 192, I (1)]), (191, .own 1 22 ((rhd (ntW p) q.2).map fun v => [D.v v])), (192, .own 1 3 ((ntBs p q.1).map fun n => [D.v (.int .i64 n)])), (200, .any (pinK (rowF 3 (ntR p) q.2))), (85, .own 1 3 ((List.replicate (ntW p) (0 : Int)).map fun n => [D.v (.int .i64 n)])), (90, .own 1 3 ((List.replicate (ntW p) (0 : Int)).map fun n => [D.v (.int .i64 n)]))] ?_ (fun h_53 => ?_)
   ·refine .st [10] ⟨?_, trivial⟩
    ·refine ⟨_, rfl, ?_⟩
     refine .a ?_; exact .j h_55
   refine .share 2 [Tt, Tt, Tt, Tt, Tt, Tt, Tt, Tt, Tt, Ff, Tt, Ff] [(1, .r 1 0), (3, I (p.obj.length)), (4, I (p.rws.length)), (5, .r 20 0), (9, .o 85), (89, I ((p.obj.length + p.rws.length) + 2))] [(1, .box [.d (rows p.rws), .d (ints p.bnd), .d (ints p.obj)]), (20, .box [.o 191, .o 192, I (1)]), (191, .own 1 22 ((rhd (ntW p) q.2).map fun v => [D.v v])), (192, .own 1 3 ((ntBs p q.1).map fun n => [D.v (.int .i64 n)])), (200, .any (pinK (rowF 3 (ntR p) q.2))), (85, .own 1 3 ((List.replicate (ntW p) (0 : Int)).map fun n => [D.v (.int .i64 n)]))] ?_ (fun h_54 => ?_)
   ·refine .st [9] ⟨?_, trivial⟩
    ·refine ⟨_, rfl, ?_⟩
     refine .semM (OpSem.makeSlice 90 rfl rfl rfl es22 ze22 rfl rfl (by decide) bye22 (by omega) (by omega) (by omega)) rfl rfl (by decide) ?_; exact TrL.join h_55 rfl (.sl <| .sl <| .sl <| .sl <| .sl <| .sl <| .mem rfl <| .mem rfl <| .mem rfl <| .mem rfl <| .mem rfl <| .mem rfl <| .memEq rfl (by rw [el22]; first | (simp; done) | (simp; rfl)) <| .nil)
   refine .share 3 [Tt, Tt, Tt, Tt, Tt, Tt, Tt, Tt, Tt, Ff, Ff, Ff] [(1, .r 1 0), (3, I (p.obj.length)), (4, I (p.rws.length)), (5, .r 20 0), (85, .o 85), (89, I ((p.obj.length + p.rws.length) + 2))] [(1, .box [.d (rows p.rws), .d (ints p.bnd), .d (ints p.obj)]), (20, .box [.o 191, .o 192, I (1)]), (191, .own 1 22 ((rhd (ntW p) q.2).map fun v => [D.v v])), (192, .own 1 3 ((ntBs p q.1).map fun n => [D.v (.int .i64 n)])), (200, .any (pinK (rowF 3 (ntR p) q.2))), (85, .own 1 3 ((List.replicate (ntW p) (0 : Int)).map fun n => [D.v (.int .i64 n)]))] ?_ (fun h_50 => ?_)
   ·refine .st [9, 10] ⟨?_, ?_, trivial⟩
    ·refine ⟨_, rfl, ?_⟩
     refine .semM (OpSem.makeSlice 90 rfl rfl rfl es22 ze22 rfl rfl (by decide) bye22 (by omega) (by omega) (by omega)) rfl rfl (by decide) ?_; exact TrL.join h_53 rfl (.sl <| .sl <| .sl <| .sl <| .sl <| .sl <| .mem rfl <| .mem rfl <| .mem rfl <| .mem rfl <| .mem rfl <| .mem rfl <| .memEq rfl (by rw [el22]; first | (simp; done) | (simp; rfl)) <| .nil)
    ·refine ⟨_, rfl, ?_⟩
     refine .a ?_; exact .j h_54
   refine .share 3 [Tt, Tt, Tt, Tt, Tt, Tt, Tt, Tt, Ff, Ff, Tt, Ff] [(1, .r 1 0), (3, I (p.obj.length)), (4, I (p.rws.length)), (5, .r 20 0), (9, .o 85), (88, I (p.obj.length + p.rws.length))] [(1, .box [.d (rows p.rws), .d (ints p.bnd), .d (ints p.obj)]), (20, .box [.o 191, .o 192, I (1)]), (191, .own 1 22 ((rhd (ntW p) q.2).map fun v => [D.v v])), (192, .own 1 3 ((ntBs p q.1).map fun n => [D.v (.int .i64 n)])), (200, .any (pinK (rowF 3 (ntR p) q.2))), (85, .own 1 3 ((List.replicate (ntW p) (0 : Int)).map fun n => [D.v (.int .i64 n)]))] ?_ (fun h_51 => ?_)
   ·refine .st [8] ⟨?_, trivial⟩
    ·refine ⟨_, rfl, ?_⟩
     refine .x .ad ?_; exact .j h_54
   refine .share 3 [Tt, Tt, Tt, Tt, Ff, Tt, Tt, Tt, Tt, Tt, Ff, Ff] [(1, .r 1 0), (3, I (p.obj.length)), (4, I (p.rws.length)), (5, .r 20 0), (84, I ((p.obj.length + p.rws.length) + 2)), (90, .o 90)] [(1, .box [.d (rows p.rws), .d (ints p.bnd), .d (ints p.obj)]), (20, .box [.o 191, .o 192, I (1)]), (191, .own 1 22 ((rhd (ntW p) q.2).map fun v => [D.v v])), (192, .own 1 3 ((ntBs p q.1).map fun n => [D.v (.int .i64 n)])), (200, .any (pinK (rowF 3 (ntR p) q.2))), (90, .own 1 3 ((List.replicate (ntW p) (0 : Int)).map fun n => [D.v (.int .i64 n)]))] ?_ (fun h_52 => ?_)
   ·refine .st [4] ⟨?_, trivial⟩
    ·refine ⟨_, rfl, ?_⟩
     refine .semM (OpSem.makeSlice 85 rfl rfl rfl es22 ze22 rfl rfl (by decide) bye22 (by omega) (by omega) (by omega)) rfl rfl (by decide) ?_; exact TrL.join h_53 rfl (.sl <| .sl <| .sl <| .sl <| .sl <| .sl <| .mem rfl <| .mem rfl <| .mem rfl <| .mem rfl <| .mem rfl <| .memEq rfl (by rw [el22]; first | (simp; done) | (simp; rfl)) <| .mem rfl <| .nil)
   refine .share 4 [Tt, Tt, Tt, Tt, Tt, Tt, Tt, Tt, Ff, Ff, Ff, Ff] [(1, .r 1 0), (3, I (p.obj.length)), (4, I (p.rws.length)), (5, .r 20 0), (85, .o 85), (88, I (p.obj.length + p.rws.length))] [(1, .box [.d (rows p.rws), .d (ints p.bnd), .d (ints p.obj)]), (20, .box [.o 191, .o 192, I (1)]), (191, .own 1 22 ((rhd (ntW p) q.2).map fun v => [D.v v])), (192, .own 1 3 ((ntBs p q.1).map fun n => [D.v (.int .i64 n)])), (200, .any (pinK (rowF 3 (ntR p) q.2))), (85, .own 1 3 ((List.replicate (ntW p) (0 : Int)).map fun n => [D.v (.int .i64 n)]))] ?_ (fun h_46 => ?_)
   ·refine .st [8, 10] ⟨?_, ?_, trivial⟩
    ·refine ⟨_, rfl, ?_⟩
     refine .x .ad ?_; exact .j h_50
    ·refine ⟨_, rfl, ?_⟩
     refine .a ?_; exact .j h_51
   refine .share 4 [Tt, Tt, Tt, Tt, Tt, Tt, Tt, Ff, Ff, Ff, Tt, Ff] [(1, .r 1 0), (3, I (p.obj.length)), (4, I (p.rws.length)), (5, .r 20 0), (9, .o 85), (86, I (p.obj.length)), (87, I (p.rws.length))] [(1, .box [.d (rows p.rws), .d (ints p.bnd), .d (ints p.obj)]), (20, .box [.o 191, .o 192, I (1)]), (191, .own 1 22 ((rhd (ntW p) q.2).map fun v => [D.v v])), (192, .own 1 3 ((ntBs p q.1).map fun n => [D.v (.int .i64 n)])), (200, .any (pinK (rowF 3 (ntR p) q.2))), (85, .own 1 3 ((List.replicate (ntW p) (0 : Int)).map fun n => [D.v (.int .i64 n)]))] ?_ (fun h_47 => ?_)
   ·refine .st [7] ⟨?_, trivial⟩
    ·refine ⟨_, rfl, ?_⟩
     refine .x .ad ?_; exact .j h_51
   refine .share 4 [Tt, Tt, Tt, Tt, Ff, Tt, Tt, Tt, Tt, Ff, Ff, Ff] [(1, .r 1 0), (3, I (p.obj.length)), (4, I (p.rws.length)), (5, .r 20 0), (84, I ((p.obj.length + p.rws.length) + 2)), (89, I ((p.obj.length + p.rws.length) + 2))] [(1, .box [.d (rows p.rws), .d (ints p.bnd), .d (ints p.obj)]), (20, .box [.o 191, .o 192, I (1)]), (191, .own 1 22 ((rhd (ntW p) q.2).map fun v => [D.v v])), (192, .own 1 3 ((ntBs p q.1).map fun n => [D.v (.int .i64 n)])), (200, .any (pinK (rowF 3 (ntR p) q.2)))] ?_ (fun h_48 => ?_)
   ·refine .st [4, 9] ⟨?_, ?_, trivial⟩
    ·refine ⟨_, rfl, ?_⟩
     refine .semM (OpSem.makeSlice 85 rfl rfl rfl es22 ze22 rfl rfl (by decide) bye22 (by omega) (by omega) (by omega)) rfl rfl (by decide) ?_; exact TrL.join h_50 rfl (.sl <| .sl <| .sl <| .sl <| .sl <| .sl <| .mem rfl <| .mem rfl <| .mem rfl <| .mem rfl <| .mem rfl <| .memEq rfl (by rw [el22]; first | (simp; done) | (simp; rfl)) <| .nil)
    ·refine ⟨_, rfl, ?_⟩
     refine .semM (OpSem.makeSlice 90 rfl rfl rfl es22 ze22 rfl rfl (by decide) bye22 (by omega) (by omega) (by omega)) rfl rfl (by decide) ?_; exact TrL.join h_52 rfl (.sl <| .sl <| .sl <| .sl <| .sl <| .sl <| .mem rfl <| .mem rfl <| .mem rfl <| .mem rfl <| .mem rfl <| .memEq rfl (by rw [el22]; first | (simp; done) | (simp; rfl)) <| .nil)
   refine .share 4 [Tt, Tt, Tt, Ff, Ff, Tt, Tt, Tt, Tt, Tt, Ff, Ff] [(1, .r 1 0), (3, I (p.obj.length)), (4, I (p.rws.length)), (5, .r 20 0), (83, I (p.obj.length + p.rws.length)), (90, .o 90)] [(1, .box [.d (rows p.rws), .d (ints p.bnd), .d (ints p.obj)]), (20, .box [.o 191, .o 192, I (1)]), (191, .own 1 22 ((rhd (ntW p) q.2).map fun v => [D.v v])), (192, .own 1 3 ((ntBs p q.1).map fun n => [D.v (.int .i64 n)])), (200, .any (pinK (rowF 3 (ntR p) q.2))), (90, .own 1 3 ((List.replicate (ntW p) (0 : Int)).map fun n => [D.v (.int .i64 n)]))] ?_ (fun h_49 => ?_)
   ·refine .st [3] ⟨?_, trivial⟩
    ·refine ⟨_, rfl, ?_⟩
     refine .x .ad ?_; exact .j h_52
   refine .share 5 [Tt, Tt, Tt, Tt, Tt, Tt, Tt, Ff, Ff, Ff, Ff, Ff] [(1, .r 1 0), (3, I (p.obj.length)), (4, I (p.rws.length)), (5, .r 20 0), (85, .o 85), (86, I (p.obj.length)), (87, I (p.rws.length))] [(1, .box [.d (rows p.rws), .d (ints p.bnd), .d (ints p.obj)]), (20, .box [.o 191, .o 192, I (1)]), (191, .own 1 22 ((rhd (ntW p) q.2).map fun v => [D.v v])), (192, .own 1 3 ((ntBs p q.1).map fun n => [D.v (.int .i64 n)])), (200, .any (pinK (rowF 3 (ntR p) q.2))), (85, .own 1 3 ((List.replicate (ntW p) (0 : Int)).map fun n => [D.v (.int .i64 n)]))] ?_ (fun h_40 => ?_)
   ·refine .st [7, 10] ⟨?_, ?_, trivial⟩
    ·refine ⟨_, rfl, ?_⟩
     refine .x .ad ?_; exact .j h_46
    ·refine ⟨_, rfl, ?_⟩
     refine .a ?_; exact .j h_47
   refine .share 5 [Tt, Tt, Tt, Tt, Tt, Tt, Ff, Ff, Ff, Ff, Tt, Ff] [(1, .r 1 0), (3, I (p.obj.length)), (4, I (p.rws.length)), (5, .r 20 0), (9, .o 85), (86, I (p.obj.length))] [(1, .box [.d (rows p.rws), .d (ints p.bnd), .d (ints p.obj)]), (20, .box [.o 191, .o 192, I (1)]), (191, .own 1 22 ((rhd (ntW p) q.2).map fun v => [D.v v])), (192, .own 1 3 ((ntBs p q.1).map fun n => [D.v (.int .i64 n)])), (200, .any (pinK (rowF 3 (ntR p) q.2))), (85, .own 1 3 ((List.replicate (ntW p) (0 : Int)).map fun n => [D.v (.int .i64 n)]))] ?_ (fun h_41 => ?_)
   ·refine .st [6] ⟨?_, trivial⟩
    ·refine ⟨_, rfl, ?_⟩
     refine .m ?_; exact .j h_47
   refine .share 5 [Tt, Tt, Tt, Tt, Tt, Ff, Tt, Ff, Ff, Ff, Tt, Ff] [(1, .r 1 0), (3, I (p.obj.length)), (4, I (p.rws.length)), (5, .r 20 0), (9, .o 85), (87, I (p.rws.length))] [(1, .box [.d (rows p.rws), .d (ints p.bnd), .d (ints p.obj)]), (20, .box [.o 191, .o 192, I (1)]), (191, .own 1 22 ((rhd (ntW p) q.2).map fun v => [D.v v])), (192, .own 1 3 ((ntBs p q.1).map fun n => [D.v (.int .i64 n)])), (200, .any (pinK (rowF 3 (ntR p) q.2))), (85, .own 1 3 ((List.replicate (ntW p) (0 : Int)).map fun n => [D.v (.int .i64 n)]))] ?_ (fun h_42 => ?_)
   ·refine .st [5] ⟨?_, trivial⟩
    ·refine ⟨_, rfl, ?_⟩
     refine .m ?_; exact .j h_47
   refine .share 5 [Tt, Tt, Tt, Tt, Ff, Tt, Tt, Tt, Ff, Ff, Ff, Ff] [(1, .r 1 0), (3, I (p.obj.length)), (4, I (p.rws.length)), (5, .r 20 0), (84, I ((p.obj.length + p.rws.length) + 2)), (88, I (p.obj.length + p.rws.length))] [(1, .box [.d (rows p.rws), .d (ints p.bnd), .d (ints p.obj)]), (20, .box [.o 191, .o 192, I (1)]), (191, .own 1 22 ((rhd (ntW p) q.2).map fun v => [D.v v])), (192, .own 1 3 ((ntBs p q.1).map fun n => [D.v (.int .i64 n)])), (200, .any (pinK (rowF 3 (ntR p) q.2)))] ?_ (fun h_43 => ?_)
   ·refine .st [4, 8] ⟨?_, ?_, trivial⟩
    ·refine ⟨_, rfl, ?_⟩
     refine .semM (OpSem.makeSlice 85 rfl rfl rfl es22 ze22 rfl rfl (by decide) bye22 (by omega) (by omega) (by omega)) rfl rfl (by decide) ?_; exact TrL.join h_46 rfl (.sl <| .sl <| .sl <| .sl <| .sl <| .sl <| .mem rfl <| .mem rfl <| .mem rfl <| .mem rfl <| .mem rfl <| .memEq rfl (by rw [el22]; first | (simp; done) | (simp; rfl)) <| .nil)
    ·refine ⟨_, rfl, ?_⟩
     refine .x .ad ?_; exact .j h_48
   refine .share 5 [Tt, Tt, Tt, Ff, Ff, Tt, Tt, Tt, Tt, Ff, Ff, Ff] [(1, .r 1 0), (3, I (p.obj.length)), (4, I (p.rws.length)), (5, .r 20 0), (83, I (p.obj.length + p.rws.length)), (89, I ((p.obj.length + p.rws.length) + 2))] [(1, .box [.d (rows p.rws), .d (ints p.bnd), .d (ints p.obj)]), (20, .box [.o 191, .o 192, I (1)]), (191, .own 1 22 ((rhd (ntW p) q.2).map fun v => [D.v v])), (192, .own 1 3 ((ntBs p q.1).map fun n => [D.v (.int .i64 n)])), (200, .any (pinK (rowF 3 (ntR p) q.2)))] ?_ (fun h_44 => ?_)
   ·refine .st [3, 9] ⟨?_, ?_, trivial⟩
    ·refine ⟨_, rfl, ?_⟩
     refine .x .ad ?_; exact .j h_48
    ·refine ⟨_, rfl, ?_⟩
     refine .semM (OpSem.makeSlice 90 rfl rfl rfl es22 ze22 rfl rfl (by decide) bye22 (by omega) (by omega) (by omega)) rfl rfl (by decide) ?_; exact TrL.join h_49 rfl (.sl <| .sl <| .sl <| .sl <| .sl <| .sl <| .mem rfl <| .mem rfl <| .mem rfl <| .mem rfl <| .mem rfl <| .memEq rfl (by rw [el22]; first | (simp; done) | (simp; rfl)) <| .nil)
   refine .share 5 [Tt, Tt, Ff, Ff, Ff, Tt, Tt, Tt, Tt, Tt, Ff, Ff] [(1, .r 1 0), (3, I (p.obj.length)), (4, I (p.rws.length)), (5, .r 20 0), (81, I (p.obj.length)), (82, I (p.rws.length)), (90, .o 90)] [(1, .box [.d (rows p.rws), .d (ints p.bnd), .d (ints p.obj)]), (20, .box [.o 191, .o 192, I (1)]), (191, .own 1 22 ((rhd (ntW p) q.2).map fun v => [D.v v])), (192, .own 1 3 ((ntBs p q.1).map fun n => [D.v (.int .i64 n)])), (200, .any (pinK (rowF 3 (ntR p) q.2))), (90, .own 1 3 ((List.replicate (ntW p) (0 : Int)).map fun n => [D.v (.int .i64 n)]))] ?_ (fun h_45 => ?_)
   ·refine .st [2] ⟨?_, trivial⟩
    ·refine ⟨_, rfl, ?_⟩
     refine .x .ad ?_; exact .j h_49
   refine .share 6 [Tt, Tt, Tt, Tt, Tt, Tt, Ff, Ff, Ff, Ff, Ff, Ff] [(1, .r 1 0), (3, I (p.obj.length)), (4, I (p.rws.length)), (5, .r 20 0), (85, .o 85), (86, I (p.obj.length))] [(1, .box [.d (rows p.rws), .d (ints p.bnd), .d (ints p.obj)]), (20, .box [.o 191, .o 192, I (1)]), (191, .own 1 22 ((rhd (ntW p) q.2).map fun v => [D.v v])), (192, .own 1 3 ((ntBs p q.1).map fun n => [D.v (.int .i64 n)])), (200, .any (pinK (rowF 3 (ntR p) q.2))), (85, .own 1 3 ((List.replicate (ntW p) (0 : Int)).map fun n => [D.v (.int .i64 n)]))] ?_ (fun h_32 => ?_)
   ·refine .st [6, 10] ⟨?_, ?_, trivial⟩
    ·refine ⟨_, rfl, ?_⟩
     refine .m ?_; exact .j h_40
    ·refine ⟨_, rfl, ?_⟩
     refine .a ?_; exact .j h_41
   refine .share 6 [Tt, Tt, Tt, Tt, Tt, Ff, Tt, Ff, Ff, Ff, Ff, Ff] [(1, .r 1 0), (3, I (p.obj.length)), (4, I (p.rws.length)), (5, .r 20 0), (85, .o 85), (87, I (p.rws.length))] [(1, .box [.d (rows p.rws), .d (ints p.bnd), .d (ints p.obj)]), (20, .box [.o 191, .o 192, I (1)]), (191, .own 1 22 ((rhd (ntW p) q.2).map fun v => [D.v v])), (192, .own 1 3 ((ntBs p q.1).map fun n => [D.v (.int .i64 n)])), (200, .any (pinK (rowF 3 (ntR p) q.2))), (85, .own 1 3 ((List.replicate (ntW p) (0 : Int)).map fun n => [D.v (.int .i64 n)]))] ?_ (fun h_33 => ?_)
   ·refine .st [5, 10] ⟨?_, ?_, trivial⟩
    ·refine ⟨_, rfl, ?_⟩
     refine .m ?_; exact .j h_40
    ·refine ⟨_, rfl, ?_⟩
     refine .a ?_; exact .j h_42
   refine .share 6 [Tt, Tt, Tt, Tt, Tt, Ff, Ff, Ff, Ff, Ff, Tt, Ff] [(1, .r 1 0), (3, I (p.obj.length)), (4, I (p.rws.length)), (5, .r 20 0), (9, .o 85)] [(1, .box [.d (rows p.rws), .d (ints p.bnd), .d (ints p.obj)]), (20, .box [.o 191, .o 192, I (1)]), (191, .own 1 22 ((rhd (ntW p) q.2).map fun v => [D.v v])), (192, .own 1 3 ((ntBs p q.1).map fun n => [D.v (.int .i64 n)])), (200, .any (pinK (rowF 3 (ntR p) q.2))), (85, .own 1 3 ((List.replicate (ntW p) (0 : Int)).map fun n => [D.v (.int .i64 n)]))] ?_ (fun h_34 => ?_)
   ·refine .st [5, 6] ⟨?_, ?_, trivial⟩
    ·refine ⟨_, rfl, ?_⟩
     refine .m ?_; exact .j h_41
    ·refine ⟨_, rfl, ?_⟩
     refine .m ?_; exact .j h_42
   refine .share 6 [Tt, Tt, Tt, Tt, Ff, Tt, Tt, Ff, Ff, Ff, Ff, Ff] [(1, .r 1 0), (3, I (p.obj.length)), (4, I (p.rws.length)), (5, .r 20 0), (84, I ((p.obj.length + p.rws.length) + 2)), (86, I (p.obj.length)), (87, I (p.rws.length))] [(1, .box [.d (rows p.rws), .d (ints p.bnd), .d (ints p.obj)]), (20, .box [.o 191, .o 192, I (1)]), (191, .own 1 22 ((rhd (ntW p) q.2).map fun v => [D.v v])), (192, .own 1 3 ((ntBs p q.1).map fun n => [D.v (.int .i64 n)])), (200, .any (pinK (rowF 3 (ntR p) q.2)))] ?_ (fun h_35 => ?_)
   ·refine .st [4, 7] ⟨?_, ?_, trivial⟩
    ·refine ⟨_, rfl, ?_⟩
     refine .semM (OpSem.makeSlice 85 rfl rfl rfl es22 ze22 rfl rfl (by decide) bye22 (by omega) (by omega) (by omega)) rfl rfl (by decide) ?_; exact TrL.join h_40 rfl (.sl <| .sl <| .sl <| .sl <| .sl <| .sl <| .sl <| .mem rfl <| .mem rfl <| .mem rfl <| .mem rfl <| .mem rfl <| .memEq rfl (by rw [el22]; first | (simp; done) | (simp; rfl)) <| .nil)
    ·refine ⟨_, rfl, ?_⟩
     refine .x .ad ?_; exact .j h_43
   refine .share 6 [Tt, Tt, Tt, Ff, Ff, Tt, Tt, Tt, Ff, Ff, Ff, Ff] [(1, .r 1 0), (3, I (p.obj.length)), (4, I (p.rws.length)), (5, .r 20 0), (83, I (p.obj.length + p.rws.length)), (88, I (p.obj.length + p.rws.length))] [(1, .box [.d (rows p.rws), .d (ints p.bnd), .d (ints p.obj)]), (20, .box [.o 191, .o 192, I (1)]), (191, .own 1 22 ((rhd (ntW p) q.2).map fun v => [D.v v])), (192, .own 1 3 ((ntBs p q.1).map fun n => [D.v (.int .i64 n)])), (200, .any (pinK (rowF 3 (ntR p) q.2)))] ?_ (fun h_36 => ?_)
   ·refine .st [3, 8] ⟨?_, ?_, trivial⟩
    ·refine ⟨_, rfl, ?_⟩
     refine .x .ad ?_; exact .j h_43
    ·refine ⟨_, rfl, ?_⟩
     refine .x .ad ?_; exact .j h_44
   refine .share 6 [Tt, Tt, Ff, Ff, Ff, Tt, Tt, Tt, Tt, Ff, Ff, Ff] [(1, .r 1 0), (3, I (p.obj.length)), (4, I (p.rws.length)), (5, .r 20 0), (81, I (p.obj.length)), (82, I (p.rws.length)), (89, I ((p.obj.length + p.rws.length) + 2))] [(1, .box [.d (rows p.rws), .d (ints p.bnd), .d (ints p.obj)]), (20, .box [.o 191, .o 192, I (1)]), (191, .own 1 22 ((rhd (ntW p) q.2).map fun v => [D.v v])), (192, .own 1 3 ((ntBs p q.1).map fun n => [D.v (.int .i64 n)])), (200, .any (pinK (rowF 3 (ntR p) q.2)))] ?_ (fun h_37 => ?_)
   ·refine .st [2, 9] ⟨?_, ?_, trivial⟩
    ·refine ⟨_, rfl, ?_⟩
     refine .x .ad ?_; exact .j h_44
    ·refine ⟨_, rfl, ?_⟩
     refine .semM (OpSem.makeSlice 90 rfl rfl rfl es22 ze22 rfl rfl (by decide) bye22 (by omega) (by omega) (by omega)) rfl rfl (by decide) ?_; exact TrL.join h_45 rfl (.sl <| .sl <| .sl <| .sl <| .sl <| .sl <| .sl <| .mem rfl <| .mem rfl <| .mem rfl <| .mem rfl <| .mem rfl <| .memEq rfl (by rw [el22]; first | (simp; done) | (simp; rfl)) <| .nil)
   refine .share 6 [Tt, Ff, Ff, Ff, Ff, Tt, Tt, Tt, Tt, Tt, Ff, Ff] [(1, .r 1 0), (3, I (p.obj.length)), (4, I (p.rws.length)), (5, .r 20 0), (81, I (p.obj.length)), (90, .o 90)] [(1, .box [.d (rows p.rws), .d (ints p.bnd), .d (ints p.obj)]), (20, .box [.o 191, .o 192, I (1)]), (191, .own 1 22 ((rhd (ntW p) q.2).map fun v => [D.v v])), (192, .own 1 3 ((ntBs p q.1).map fun n => [D.v (.int .i64 n)])), (200, .any (pinK (rowF 3 (ntR p) q.2))), (90, .own 1 3 ((List.replicate (ntW p) (0 : Int)).map fun n => [D.v (.int .i64 n)]))] ?_ (fun h_38 => ?_)
   ·refine .st [1] ⟨?_, trivial⟩
    ·refine ⟨_, rfl, ?_⟩
     refine .m ?_; exact .j h_45
   refine .share 6 [Ff, Tt, Ff, Ff, Ff, Tt, Tt, Tt, Tt, Tt, Ff, Ff] [(1, .r 1 0), (3, I (p.obj.length)), (4, I (p.rws.length)), (5, .r 20 0), (82, I (p.rws.length)), (90, .o 90)] [(1, .box [.d (rows p.rws), .d (ints p.bnd), .d (ints p.obj)]), (20, .box [.o 191, .o 192, I (1)]), (191, .own 1 22 ((rhd (ntW p) q.2).map fun v => [D.v v])), (192, .own 1 3 ((ntBs p q.1).map fun n => [D.v (.int .i64 n)])), (200, .any (pinK (rowF 3 (ntR p) q.2))), (90, .own 1 3 ((List.replicate (ntW p) (0 : Int)).map fun n => [D.v (.int .i64 n)]))] ?_ (fun h_39 => ?_)
   ·refine .st [0] ⟨?_, trivial⟩
    ·refine ⟨_, rfl, ?_⟩
     refine .m ?_; exact .j h_45
   refine .share 7 [Tt, Tt, Tt, Tt, Tt, Ff, Ff, Ff, Ff, Ff, Ff, Ff] [(1, .r 1 0), (3, I (p.obj.length)), (4, I (p.rws.length)), (5, .r 20 0), (85, .o 85)] [(1, .box [.d (rows p.rws), .d (ints p.bnd), .d (ints p.obj)]), (20, .box [.o 191, .o 192, I (1)]), (191, .own 1 22 ((rhd (ntW p) q.2).map fun v => [D.v v])), (192, .own 1 3 ((ntBs p q.1).map fun n => [D.v (.int .i64 n)])), (200, .any (pinK (rowF 3 (ntR p) q.2))), (85, .own 1 3 ((List.replicate (ntW p) (0 : Int)).map fun n => [D.v (.int .i64 n)]))] ?_ (fun h_24 => ?_)
   ·refine .st [5, 6, 10] ⟨?_, ?_, ?_, trivial⟩
    ·refine ⟨_, rfl, ?_⟩
     refine .m ?_; exact .j h_32
    ·refine ⟨_, rfl, ?_⟩
     refine .m ?_; exact .j h_33
    ·refine ⟨_, rfl, ?_⟩
     refine .a ?_; exact .j h_34
   refine .share 7 [Tt, Tt, Tt, Tt, Ff, Tt, Ff, Ff, Ff, Ff, Ff, Ff] [(1, .r 1 0), (3, I (p.obj.length)), (4, I (p.rws.length)), (5, .r 20 0), (84, I ((p.obj.length + p.rws.length) + 2)), (86, I (p.obj.length))] [(1, .box [.d (rows p.rws), .d (ints p.bnd), .d (ints p.obj)]), (20, .box [.o 191, .o 192, I (1)]), (191, .own 1 22 ((rhd (ntW p) q.2).map fun v => [D.v v])), (192, .own 1 3 ((ntBs p q.1).map fun n => [D.v (.int .i64 n)])), (200, .any (pinK (rowF 3 (ntR p) q.2)))] ?_ (fun h_25 => ?_)
   ·refine .st [4, 6] ⟨?_, ?_, trivial⟩
    ·refine ⟨_, rfl, ?_⟩
     refine .semM (OpSem.makeSlice 85 rfl rfl rfl es22 ze22 rfl rfl (by decide) bye22 (by omega) (by omega) (by omega)) rfl rfl (by decide) ?_; exact TrL.join h_32 rfl (.sl <| .sl <| .sl <| .sl <| .sl <| .sl <| .mem rfl <| .mem rfl <| .mem rfl <| .mem rfl <| .mem rfl <| .memEq rfl (by rw [el22]; first | (simp; done) | (simp; rfl)) <| .nil)
    ·refine ⟨_, rfl, ?_⟩
     refine .m ?_; exact .j h_35
   refine .share 7 [Tt, Tt, Tt, Tt, Ff, Ff, Tt, Ff, Ff, Ff, Ff, Ff] [(1, .r 1 0), (3, I (p.obj.length)), (4, I (p.rws.length)), (5, .r 20 0), (84, I ((p.obj.length + p.rws.length) + 2)), (87, I (p.rws.length))] [(1, .box [.d (rows p.rws), .d (ints p.bnd), .d (ints p.obj)]), (20, .box [.o 191, .o 192, I (1)]), (191, .own 1 22 ((rhd (ntW p) q.2).map fun v => [D.v v])), (192, .own 1 3 ((ntBs p q.1).map fun n => [D.v (.int .i64 n)])), (200, .any (pinK (rowF 3 (ntR p) q.2)))] ?_ (fun h_26 => ?_)
   ·refine .st [4, 5] ⟨?_, ?_, trivial⟩
    ·refine ⟨_, rfl, ?_⟩
     refine .semM (OpSem.makeSlice 85 rfl rfl rfl es22 ze22 rfl rfl (by decide) bye22 (by omega) (by omega) (by omega)) rfl rfl (by decide) ?_; exact TrL.join h_33 rfl (.sl <| .sl <| .sl <| .sl <| .sl <| .sl <| .mem rfl <| .mem rfl <| .mem rfl <| .mem rfl <| .mem rfl <| .memEq rfl (by rw [el22]; first | (simp; done) | (simp; rfl)) <| .nil)
    ·refine ⟨_, rfl, ?_⟩
     refine .m ?_; exact .j h_35
   refine .share 7 [Tt, Tt, Tt, Ff, Ff, Tt, Tt, Ff, Ff, Ff, Ff, Ff] [(1, .r 1 0), (3, I (p.obj.length)), (4, I (p.rws.length)), (5, .r 20 0), (83, I (p.obj.length + p.rws.length)), (86, I (p.obj.length)), (87, I (p.rws.length))] [(1, .box [.d (rows p.rws), .d (ints p.bnd), .d (ints p.obj)]), (20, .box [.o 191, .o 192, I (1)]), (191, .own 1 22 ((rhd (ntW p) q.2).map fun v => [D.v v])), (192, .own 1 3 ((ntBs p q.1).map fun n => [D.v (.int .i64 n)])), (200, .any (pinK (rowF 3 (ntR p) q.2)))] ?_ (fun h_27 => ?_)
   ·refine .st [3, 7] ⟨?_, ?_, trivial⟩
    ·refine ⟨_, rfl, ?_⟩
     refine .x .ad ?_; exact .j h_35
    ·refine ⟨_, rfl, ?_⟩
     refine .x .ad ?_; exact .j h_36
   refine .share 7 [Tt, Tt, Ff, Ff, Ff, Tt, Tt, Tt, Ff, Ff, Ff, Ff] [(1, .r 1 0), (3, I (p.obj.length)), (4, I (p.rws.length)), (5, .r 20 0), (81, I (p.obj.length)), (82, I (p.rws.length)), (88, I (p.obj.length + p.rws.length))] [(1, .box [.d (rows p.rws), .d (ints p.bnd), .d (ints p.obj)]), (20, .box [.o 191, .o 192, I (1)]), (191, .own 1 22 ((rhd (ntW p) q.2).map fun v => [D.v v])), (192, .own 1 3 ((ntBs p q.1).map fun n => [D.v (.int .i64 n)])), (200, .any (pinK (rowF 3 (ntR p) q.2)))] ?_ (fun h_28 => ?_)
   ·refine .st [2, 8] ⟨?_, ?_, trivial⟩
    ·refine ⟨_, rfl, ?_⟩
     refine .x .ad ?_; exact .j h_36
    ·refine ⟨_, rfl, ?_⟩
     refine .x .ad ?_; exact .j h_37
   refine .share 7 [Tt, Ff, Ff, Ff, Ff, Tt, Tt, Tt, Tt, Ff, Ff, Ff] [(1, .r 1 0), (3, I (p.obj.length)), (4, I (p.rws.length)), (5, .r 20 0), (81, I (p.obj.length)), (89, I ((p.obj.length + p.rws.length) + 2))] [(1, .box [.d (rows p.rws), .d (ints p.bnd), .d (ints p.obj)]), (20, .box [.o 191, .o 192, I (1)]), (191, .own 1 22 ((rhd (ntW p) q.2).map fun v => [D.v v])), (192, .own 1 3 ((ntBs p q.1).map fun n => [D.v (.int .i64 n)])), (200, .any (pinK (rowF 3 (ntR p) q.2)))] ?_ (fun h_29 => ?_)
   ·refine .st [1, 9] ⟨?_, ?_, trivial⟩
    ·refine ⟨_, rfl, ?_⟩
     refine .m ?_; exact .j h_37
    ·refine ⟨_, rfl, ?_⟩
     refine .semM (OpSem.makeSlice 90 rfl rfl rfl es22 ze22 rfl rfl (by decide) bye22 (by omega) (by omega) (by omega)) rfl rfl (by decide) ?_; exact TrL.join h_38 rfl (.sl <| .sl <| .sl <| .sl <| .sl <| .sl <| .mem rfl <| .mem rfl <| .mem rfl <| .mem rfl <| .mem rfl <| .memEq rfl (by rw [el22]; first | (simp; done) | (simp; rfl)) <| .nil)
   refine .share 7 [Ff, Tt, Ff, Ff, Ff, Tt, Tt, Tt, Tt, Ff, Ff, Ff] [(1, .r 1 0), (3, I (p.obj.length)), (4, I (p.rws.length)), (5, .r 20 0), (82, I (p.rws.length)), (89, I ((p.obj.length + p.rws.length) + 2))] [(1, .box [.d (rows p.rws), .d (ints p.bnd), .d (ints p.obj)]), (20, .box [.o 191, .o 192, I (1)]), (191, .own 1 22 ((rhd (ntW p) q.2).map fun v => [D.v v])), (192, .own 1 3 ((ntBs p q.1).map fun n => [D.v (.int .i64 n)])), (200, .any (pinK (rowF 3 (ntR p) q.2)))] ?_ (fun h_30 => ?_)
   ·refine .st [0, 9] ⟨?_, ?_, trivial⟩
    ·refine ⟨_, rfl, ?_⟩
     refine .m ?_; exact .j h_37
    ·refine ⟨_, rfl, ?_⟩
     refine .semM (OpSem.makeSlice 90 rfl rfl rfl es22 ze22 rfl rfl (by decide) bye22 (by omega) (by omega) (by omega)) rfl rfl (by decide) ?_; exact TrL.join h_39 rfl (.sl <| .sl <| .sl <| .sl <| .sl <| .sl <| .mem rfl <| .mem rfl <| .mem rfl <| .mem rfl <| .mem rfl <| .memEq rfl (by rw [el22]; first | (simp; done) | (simp; rfl)) <| .nil)
   refine .share 7 [Ff, Ff, Ff, Ff, Ff, Tt, Tt, Tt, Tt, Tt, Ff, Ff] [(1, .r 1 0), (3, I (p.obj.length)), (4, I (p.rws.length)), (5, .r 20 0), (90, .o 90)] [(1, .box [.d (rows p.rws), .d (ints p.bnd), .d (ints p.obj)]), (20, .box [.o 191, .o 192, I (1)]), (191, .own 1 22 ((rhd (ntW p) q.2).map fun v => [D.v v])), (192, .own 1 3 ((ntBs p q.1).map fun n => [D.v (.int .i64 n)])), (200, .any (pinK (rowF 3 (ntR p) q.2))), (90, .own 1 3 ((List.replicate (ntW p) (0 : Int)).map fun n => [D.v (.int .i64 n)]))] ?_ (fun h_31 => ?_)
   ·refine .st [0, 1] ⟨?_, ?_, trivial⟩
    ·refine ⟨_, rfl, ?_⟩
     refine .m ?_; exact .j h_38
    ·refine ⟨_, rfl, ?_⟩
     refine .m ?_; exact .j h_39
   refine .share 8 [Tt, Tt, Tt, Tt, Ff, Ff, Ff, Ff, Ff, Ff, Ff, Ff] [(1, .r 1 0), (3, I (p.obj.length)), (4, I (p.rws.length)), (5, .r 20 0), (84, I ((p.obj.length + p.rws.length) + 2))] [(1, .box [.d (rows p.rws), .d (ints p.bnd), .d (ints p.obj)]), (20, .box [.o 191, .o 192, I (1)]), (191, .own 1 22 ((rhd (ntW p) q.2).map fun v => [D.v v])), (192, .own 1 3 ((ntBs p q.1).map fun n => [D.v (.int .i64 n)])), (200, .any (pinK (rowF 3 (ntR p) q.2)))] ?_ (fun h_17 => ?_)
   ·refine .st [4, 5, 6] ⟨?_, ?_, ?_, trivial⟩
    ·refine ⟨_, rfl, ?_⟩
     refine .semM (OpSem.makeSlice 85 rfl rfl rfl es22 ze22 rfl rfl (by decide) bye22 (by omega) (by omega) (by omega)) rfl rfl (by decide) ?_; exact TrL.join h_24 rfl (.sl <| .sl <| .sl <| .sl <| .sl <| .mem rfl <| .mem rfl <| .mem rfl <| .mem rfl <| .mem rfl <| .memEq rfl (by rw [el22]; first | (simp; done) | (simp; rfl)) <| .nil)
    ·refine ⟨_, rfl, ?_⟩
     refine .m ?_; exact .j h_25
    ·refine ⟨_, rfl, ?_⟩
     refine .m ?_; exact .j h_26
   refine .share 8 [Tt, Tt, Tt, Ff, Ff, Tt, Ff, Ff, Ff, Ff, Ff, Ff] [(1, .r 1 0), (3, I (p.obj.length)), (4, I (p.rws.length)), (5, .r 20 0), (83, I (p.obj.length + p.rws.length)), (86, I (p.obj.length))] [(1, .box [.d (rows p.rws), .d (ints p.bnd), .d (ints p.obj)]), (20, .box [.o 191, .o 192, I (1)]), (191, .own 1 22 ((rhd (ntW p) q.2).map fun v => [D.v v])), (192, .own 1 3 ((ntBs p q.1).map fun n => [D.v (.int .i64 n)])), (200, .any (pinK (rowF 3 (ntR p) q.2)))] ?_ (fun h_18 => ?_)
   ·refine .st [3, 6] ⟨?_, ?_, trivial⟩
    ·refine ⟨_, rfl, ?_⟩
     refine .x .ad ?_; exact .j h_25
    ·refine ⟨_, rfl, ?_⟩
     refine .m ?_; exact .j h_27
   refine .share 8 [Tt, Tt, Tt, Ff, Ff, Ff, Tt, Ff, Ff, Ff, Ff, Ff] [(1, .r 1 0), (3, I (p.obj.length)), (4, I (p.rws.length)), (5, .r 20 0), (83, I (p.obj.length + p.rws.length)), (87, I (p.rws.length))] [(1, .box [.d (rows p.rws), .d (ints p.bnd), .d (ints p.obj)]), (20, .box [.o 191, .o 192, I (1)]), (191, .own 1 22 ((rhd (ntW p) q.2).map fun v => [D.v v])), (192, .own 1 3 ((ntBs p q.1).map fun n => [D.v (.int .i64 n)])), (200, .any (pinK (rowF 3 (ntR p) q.2)))] ?_ (fun h_19 => ?_)
   ·refine .st [3, 5] ⟨?_, ?_, trivial⟩
    ·refine ⟨_, rfl, ?_⟩
     refine .x .ad ?_; exact .j h_26
    ·refine ⟨_, rfl, ?_⟩
     refine .m ?_; exact .j h_27
   refine .share 8 [Tt, Tt, Ff, Ff, Ff, Tt, Tt, Ff, Ff, Ff, Ff, Ff] [(1, .r 1 0), (3, I (p.obj.length)), (4, I (p.rws.length)), (5, .r 20 0), (81, I (p.obj.length)), (82, I (p.rws.length)), (86, I (p.obj.length)), (87, I (p.rws.length))] [(1, .box [.d (rows p.rws), .d (ints p.bnd), .d (ints p.obj)]), (20, .box [.o 191, .o 192, I (1)]), (191, .own 1 22 ((rhd (ntW p) q.2).map fun v => [D.v v])), (192, .own 1 3 ((ntBs p q.1).map fun n => [D.v (.int .i64 n)])), (200, .any (pinK (rowF 3 (ntR p) q.2)))] ?_ (fun h_20 => ?_)
   ·refine .st [2, 7] ⟨?_, ?_, trivial⟩
    ·refine ⟨_, rfl, ?_⟩
     refine .x .ad ?_; exact .j h_27
    ·refine ⟨_, rfl, ?_⟩
     refine .x .ad ?_; exact .j h_28
   refine .share 8 [Tt, Ff, Ff, Ff, Ff, Tt, Tt, Tt, Ff, Ff, Ff, Ff] [(1, .r 1 0), (3, I (p.obj.length)), (4, I (p.rws.length)), (5, .r 20 0), (81, I (p.obj.length)), (88, I (p.obj.length + p.rws.length))] [(1, .box [.d (rows p.rws), .d (ints p.bnd), .d (ints p.obj)]), (20, .box [.o 191, .o 192, I (1)]), (191, .own 1 22 ((rhd (ntW p) q.2).map fun v => [D.v v])), (192, .own 1 3 ((ntBs p q.1).map fun n => [D.v (.int .i64 n)])), (200, .any (pinK (rowF 3 (ntR p) q.2)))] ?_ (fun h_21 => ?_)
   ·refine .st [1, 8] ⟨?_, ?_, trivial⟩
    ·refine ⟨_, rfl, ?_⟩
     refine .m ?_; exact .j h_28
    ·refine ⟨_, rfl, ?_⟩
     refine .x .ad ?_; exact .j h_29
   refine .share 8 [Ff, Tt, Ff, Ff, Ff, Tt, Tt, Tt, Ff, Ff, Ff, Ff] [(1, .r 1 0), (3, I (p.obj.length)), (4, I (p.rws.length)), (5, .r 20 0), (82, I (p.rws.length)), (88, I (p.obj.length + p.rws.length))] [(1, .box [.d (rows p.rws), .d (ints p.bnd), .d (ints p.obj)]), (20, .box [.o 191, .o 192, I (1)]), (191, .own 1 22 ((rhd (ntW p) q.2).map fun v => [D.v v])), (192, .own 1 3 ((ntBs p q.1).map fun n => [D.v (.int .i64 n)])), (200, .any (pinK (rowF 3 (ntR p) q.2)))] ?_ (fun h_22 => ?_)
   ·refine .st [0, 8] ⟨?_, ?_, trivial⟩
    ·refine ⟨_, rfl, ?_⟩
     refine .m ?_; exact .j h_28
    ·refine ⟨_, rfl, ?_⟩
     refine .x .ad ?_; exact .j h_30
   refine .share 8 [Ff, Ff, Ff, Ff, Ff, Tt, Tt, Tt, Tt, Ff, Ff, Ff] [(1, .r 1 0), (3, I (p.obj.length)), (4, I (p.rws.length)), (5, .r 20 0), (89, I ((p.obj.length + p.rws.length) + 2))] [(1, .box [.d (rows p.rws), .d (ints p.bnd), .d (ints p.obj)]), (20, .box [.o 191, .o 192, I (1)]), (191, .own 1 22 ((rhd (ntW p) q.2).map fun v => [D.v v])), (192, .own 1 3 ((ntBs p q.1).map fun n => [D.v (.int .i64 n)])), (200, .any (pinK (rowF 3 (ntR p) q.2)))] ?_ (fun h_23 => ?_)
   ·refine .st [0, 1, 9] ⟨?_, ?_, ?_, trivial⟩
    ·refine ⟨_, rfl, ?_⟩
     refine .m ?_; exact .j h_29
    ·refine ⟨_, rfl, ?_⟩
     refine .m ?_; exact .j h_30
    ·refine ⟨_, rfl, ?_⟩
     refine .semM (OpSem.makeSlice 90 rfl rfl rfl es22 ze22 rfl rfl (by decide) bye22 (by omega) (by omega) (by omega)) rfl rfl (by decide) ?_; exact TrL.join h_31 rfl (.sl <| .sl <| .sl <| .sl <| .sl <| .mem rfl <| .mem rfl <| .mem rfl <| .mem rfl <| .mem rfl <| .memEq rfl (by rw [el22]; first | (simp; done) | (simp; rfl)) <| .nil)
   refine .share 9 [Tt, Tt, Tt, Ff, Ff, Ff, Ff, Ff, Ff, Ff, Ff, Ff] [(1, .r 1 0), (3, I (p.obj.length)), (4, I (p.rws.length)), (5, .r 20 0), (83, I (p.obj.length + p.rws.length))] [(1, .box [.d (rows p.rws), .d (ints p.bnd), .d (ints p.obj)]), (20, .box [.o 191, .o 192, I (1)]), (191, .own 1 22 ((rhd (ntW p) q.2).map fun v => [D.v v])), (192, .own 1 3 ((ntBs p q.1).map fun n => [D.v (.int .i64 n)])), (200, .any (pinK (rowF 3 (ntR p) q.2)))] ?_ (fun h_11 => ?_)
   ·refine .st [3, 5, 6] ⟨?_, ?_, ?_, trivial⟩
    ·refine ⟨_, rfl, ?_⟩
     refine .x .ad ?_; exact .j h_17
    ·refine ⟨_, rfl, ?_⟩
     refine .m ?_; exact .j h_18
    ·refine ⟨_, rfl, ?_⟩
     refine .m ?_; exact .j h_19
   refine .share 9 [Tt, Tt, Ff, Ff, Ff, Tt, Ff, Ff, Ff, Ff, Ff, Ff] [(1, .r 1 0), (3, I (p.obj.length)), (4, I (p.rws.length)), (5, .r 20 0), (81, I (p.obj.length)), (82, I (p.rws.length)), (86, I (p.obj.length))] [(1, .box [.d (rows p.rws), .d (ints p.bnd), .d (ints p.obj)]), (20, .box [.o 191, .o 192, I (1)]), (191, .own 1 22 ((rhd (ntW p) q.2).map fun v => [D.v v])), (192, .own 1 3 ((ntBs p q.1).map fun n => [D.v (.int .i64 n)])), (200, .any (pinK (rowF 3 (ntR p) q.2)))] ?_ (fun h_12 => ?_)
   ·refine .st [2, 6] ⟨?_, ?_, trivial⟩
    ·refine ⟨_, rfl, ?_⟩
     refine .x .ad ?_; exact .j h_18
    ·refine ⟨_, rfl, ?_⟩
     refine .m ?_; exact .j h_20
   refine .share 9 [Tt, Tt, Ff, Ff, Ff, Ff, Tt, Ff, Ff, Ff, Ff, Ff] [(1, .r 1 0), (3, I (p.obj.length)), (4, I (p.rws.length)), (5, .r 20 0), (81, I (p.obj.length)), (82, I (p.rws.length)), (87, I (p.rws.length))] [(1, .box [.d (rows p.rws), .d (ints p.bnd), .d (ints p.obj)]), (20, .box [.o 191, .o 192, I (1)]), (191, .own 1 22 ((rhd (ntW p) q.2).map fun v => [D.v v])), (192, .own 1 3 ((ntBs p q.1).map fun n => [D.v (.int .i64 n)])), (200, .any (pinK (rowF 3 (ntR p) q.2)))] ?_ (fun h_13 => ?_)
   ·refine .st [2, 5] ⟨?_, ?_, trivial⟩
    ·refine ⟨_, rfl, ?_⟩
     refine .x .ad ?_; exact .j h_19
    ·refine ⟨_, rfl, ?_⟩
     refine .m ?_; exact .j h_20
   refine .share 9 [Tt, Ff, Ff, Ff, Ff, Tt, Tt, Ff, Ff, Ff, Ff, Ff] [(1, .r 1 0), (3, I (p.obj.length)), (4, I (p.rws.length)), (5, .r 20 0), (81, I (p.obj.length)), (86, I (p.obj.length)), (87, I (p.rws.length))] [(1, .box [.d (rows p.rws), .d (ints p.bnd), .d (ints p.obj)]), (20, .box [.o 191, .o 192, I (1)]), (191, .own 1 22 ((rhd (ntW p) q.2).map fun v => [D.v v])), (192, .own 1 3 ((ntBs p q.1).map fun n => [D.v (.int .i64 n)])), (200, .any (pinK (rowF 3 (ntR p) q.2)))] ?_ (fun h_14 => ?_)
   ·refine .st [1, 7] ⟨?_, ?_, trivial⟩
    ·refine ⟨_, rfl, ?_⟩
     refine .m ?_; exact .j h_20
    ·refine ⟨_, rfl, ?_⟩
     refine .x .ad ?_; exact .j h_21
   refine .share 9 [Ff, Tt, Ff, Ff, Ff, Tt, Tt, Ff, Ff, Ff, Ff, Ff] [(1, .r 1 0), (3, I (p.obj.length)), (4, I (p.rws.length)), (5, .r 20 0), (82, I (p.rws.length)), (86, I (p.obj.length)), (87, I (p.rws.length))] [(1, .box [.d (rows p.rws), .d (ints p.bnd), .d (ints p.obj)]), (20, .box [.o 191, .o 192, I (1)]), (191, .own 1 22 ((rhd (ntW p) q.2).map fun v => [D.v v])), (192, .own 1 3 ((ntBs p q.1).map fun n => [D.v (.int .i64 n)])), (200, .any (pinK (rowF 3 (ntR p) q.2)))] ?_ (fun h_15 => ?_)
   ·refine .st [0, 7] ⟨?_, ?_, trivial⟩
    ·refine ⟨_, rfl, ?_⟩
     refine .m ?_; exact .j h_20
    ·refine ⟨_, rfl, ?_⟩
     refine .x .ad ?_; exact .j h_22
   refine .share 9 [Ff, Ff, Ff, Ff, Ff, Tt, Tt, Tt, Ff, Ff, Ff, Ff] [(1, .r 1 0), (3, I (p.obj.length)), (4, I (p.rws.length)), (5, .r 20 0), (88, I (p.obj.length + p.rws.length))] [(1, .box [.d (rows p.rws), .d (ints p.bnd), .d (ints p.obj)]), (20, .box [.o 191, .o 192, I (1)]), (191, .own 1 22 ((rhd (ntW p) q.2).map fun v => [D.v v])), (192, .own 1 3 ((ntBs p q.1).map fun n => [D.v (.int .i64 n)])), (200, .any (pinK (rowF 3 (ntR p) q.2)))] ?_ (fun h_16 => ?_)
   ·refine .st [0, 1, 8] ⟨?_, ?_, ?_, trivial⟩
    ·refine ⟨_, rfl, ?_⟩
     refine .m ?_; exact .j h_21
    ·refine ⟨_, rfl, ?_⟩
     refine .m ?_; exact .j h_22
    ·refine ⟨_, rfl, ?_⟩
     refine .x .ad ?_; exact .j h_23
   refine .share 10 [Tt, Tt, Ff, Ff, Ff, Ff, Ff, Ff, Ff, Ff, Ff, Ff] [(1, .r 1 0), (3, I (p.obj.length)), (4, I (p.rws.length)), (5, .r 20 0), (81, I (p.obj.length)), (82, I (p.rws.length))] [(1, .box [.d (rows p.rws), .d (ints p.bnd), .d (ints p.obj)]), (20, .box [.o 191, .o 192, I (1)]), (191, .own 1 22 ((rhd (ntW p) q.2).map fun v => [D.v v])), (192, .own 1 3 ((ntBs p q.1).map fun n => [D.v (.int .i64 n)])), (200, .any (pinK (rowF 3 (ntR p) q.2)))] ?_ (fun h_5 => ?_)
   ·refine .st [2, 5, 6] ⟨?_, ?_, ?_, trivial⟩
    ·refine ⟨_, rfl, ?_⟩
     refine .x .ad ?_; exact .j h_11
    ·refine ⟨_, rfl, ?_⟩
     refine .m ?_; exact .j h_12
    ·refine ⟨_, rfl, ?_⟩
     refine .m ?_; exact .j h_13
   refine .share 10 [Tt, Ff, Ff, Ff, Ff, Tt, Ff, Ff, Ff, Ff, Ff, Ff] [(1, .r 1 0), (3, I (p.obj.length)), (4, I (p.rws.length)), (5, .r 20 0), (81, I (p.obj.length)), (86, I (p.obj.length))] [(1, .box [.d (rows p.rws), .d (ints p.bnd), .d (ints p.obj)]), (20, .box [.o 191, .o 192, I (1)]), (191, .own 1 22 ((rhd (ntW p) q.2).map fun v => [D.v v])), (192, .own 1 3 ((ntBs p q.1).map fun n => [D.v (.int .i64 n)])), (200, .any (pinK (rowF 3 (ntR p) q.2)))] ?_ (fun h_6 => ?_)
   ·refine .st [1, 6] ⟨?_, ?_, trivial⟩
    ·refine ⟨_, rfl, ?_⟩
     refine .m ?_; exact .j h_12
    ·refine ⟨_, rfl, ?_⟩
     refine .m ?_; exact .j h_14
   refine .share 10 [Tt, Ff, Ff, Ff, Ff, Ff, Tt, Ff, Ff, Ff, Ff, Ff] [(1, .r 1 0), (3, I (p.obj.length)), (4, I (p.rws.length)), (5, .r 20 0), (81, I (p.obj.length)), (87, I (p.rws.length))] [(1, .box [.d (rows p.rws), .d (ints p.bnd), .d (ints p.obj)]), (20, .box [.o 191, .o 192, I (1)]), (191, .own 1 22 ((rhd (ntW p) q.2).map fun v => [D.v v])), (192, .own 1 3 ((ntBs p q.1).map fun n => [D.v (.int .i64 n)])), (200, .any (pinK (rowF 3 (ntR p) q.2)))] ?_ (fun h_7 => ?_)
   ·refine .st [1, 5] ⟨?_, ?_, trivial⟩
    ·refine ⟨_, rfl, ?_⟩
     refine .m ?_; exact .j h_13
    ·refine ⟨_, rfl, ?_⟩
     refine .m ?_; exact .j h_14
   refine .share 10 [Ff, Tt, Ff, Ff, Ff, Tt, Ff, Ff, Ff, Ff, Ff, Ff] [(1, .r 1 0), (3, I (p.obj.length)), (4, I (p.rws.length)), (5, .r 20 0), (82, I (p.rws.length)), (86, I (p.obj.length))] [(1, .box [.d (rows p.rws), .d (ints p.bnd), .d (ints p.obj)]), (20, .box [.o 191, .o 192, I (1)]), (191, .own 1 22 ((rhd (ntW p) q.2).map fun v => [D.v v])), (192, .own 1 3 ((ntBs p q.1).map fun n => [D.v (.int .i64 n)])), (200, .any (pinK (rowF 3 (ntR p) q.2)))] ?_ (fun h_8 => ?_)
   ·refine .st [0, 6] ⟨?_, ?_, trivial⟩
    ·refine ⟨_, rfl, ?_⟩
     refine .m ?_; exact .j h_12
    ·refine ⟨_, rfl, ?_⟩
     refine .m ?_; exact .j h_15
   refine .share 10 [Ff, Tt, Ff, Ff, Ff, Ff, Tt, Ff, Ff, Ff, Ff, Ff] [(1, .r 1 0), (3, I (p.obj.length)), (4, I (p.rws.length)), (5, .r 20 0), (82, I (p.rws.length)), (87, I (p.rws.length))] [(1, .box [.d (rows p.rws), .d (ints p.bnd), .d (ints p.obj)]), (20, .box [.o 191, .o 192, I (1)]), (191, .own 1 22 ((rhd (ntW p) q.2).map fun v => [D.v v])), (192, .own 1 3 ((ntBs p q.1).map fun n => [D.v (.int .i64 n)])), (200, .any (pinK (rowF 3 (ntR p) q.2)))] ?_ (fun h_9 => ?_)
   ·refine .st [0, 5] ⟨?_, ?_, trivial⟩
    ·refine ⟨_, rfl, ?_⟩
     refine .m ?_; exact .j h_13
    ·refine ⟨_, rfl, ?_⟩
     refine .m ?_; exact .j h_15
   refine .share 10 [Ff, Ff, Ff, Ff, Ff, Tt, Tt, Ff, Ff, Ff, Ff, Ff] [(1, .r 1 0), (3, I (p.obj.length)), (4, I (p.rws.length)), (5, .r 20 0), (86, I (p.obj.length)), (87, I (p.rws.length))] [(1, .box [.d (rows p.rws), .d (ints p.bnd), .d (ints p.obj)]), (20, .box [.o 191, .o 192, I (1)]), (191, .own 1 22 ((rhd (ntW p) q.2).map fun v => [D.v v])), (192, .own 1 3 ((ntBs p q.1).map fun n => [D.v (.int .i64 n)])), (200, .any (pinK (rowF 3 (ntR p) q.2)))] ?_ (fun h_10 => ?_)
   ·refine .st [0, 1, 7] ⟨?_, ?_, ?_, trivial⟩
    ·refine ⟨_, rfl, ?_⟩
     refine .m ?_; exact .j h_14
    ·refine ⟨_, rfl, ?_⟩
     refine .m ?_; exact .j h_15
    ·refine ⟨_, rfl, ?_⟩
     refine .x .ad ?_; exact .j h_16
   refine .share 11 [Tt, Ff, Ff, Ff, Ff, Ff, Ff, Ff, Ff, Ff, Ff, Ff] [(1, .r 1 0), (3, I (p.obj.length)), (4, I (p.rws.length)), (5, .r 20 0), (81, I (p.obj.length))] [(1, .box [.d (rows p.rws), .d (ints p.bnd), .d (ints p.obj)]), (20, .box [.o 191, .o 192, I (1)]), (191, .own 1 22 ((rhd (ntW p) q.2).map fun v => [D.v v])), (192, .own 1 3 ((ntBs p q.1).map fun n => [D.v (.int .i64 n)])), (200, .any (pinK (rowF 3 (ntR p) q.2)))] ?_ (fun h_1 => ?_)
   ·refine .st [1, 5, 6] ⟨?_, ?_, ?_, trivial⟩
    ·refine ⟨_, rfl, ?_⟩
     refine .m ?_; exact .j h_5
    ·refine ⟨_, rfl, ?_⟩
     refine .m ?_; exact .j h_6
    ·refine ⟨_, rfl, ?_⟩
     refine .m ?_; exact .j h_7
   refine .share 11 [Ff, Tt, Ff, Ff, Ff, Ff, Ff, Ff, Ff, Ff, Ff, Ff] [(1, .r 1 0), (3, I (p.obj.length)), (4, I (p.rws.length)), (5, .r 20 0), (82, I (p.rws.length))] [(1, .box [.d (rows p.rws), .d (ints p.bnd), .d (ints p.obj)]), (20, .box [.o 191, .o 192, I (1)]), (191, .own 1 22 ((rhd (ntW p) q.2).map fun v => [D.v v])), (192, .own 1 3 ((ntBs p q.1).map fun n => [D.v (.int .i64 n)])), (200, .any (pinK (rowF 3 (ntR p) q.2)))] ?_ (fun h_2 => ?_)
   ·refine .st [0, 5, 6] ⟨?_, ?_, ?_, trivial⟩
    ·refine ⟨_, rfl, ?_⟩
     refine .m ?_; exact .j h_5
    ·refine ⟨_, rfl, ?_⟩
     refine .m ?_; exact .j h_8
    ·refine ⟨_, rfl, ?_⟩
     refine .m ?_; exact .j h_9
   refine .share 11 [Ff, Ff, Ff, Ff, Ff, Tt, Ff, Ff, Ff, Ff, Ff, Ff] [(1, .r 1 0), (3, I (p.obj.length)), (4, I (p.rws.length)), (5, .r 20 0), (86, I (p.obj.length))] [(1, .box [.d (rows p.rws), .d (ints p.bnd), .d (ints p.obj)]), (20, .box [.o 191, .o 192, I (1)]), (191, .own 1 22 ((rhd (ntW p) q.2).map fun v => [D.v v])), (192, .own 1 3 ((ntBs p q.1).map fun n => [D.v (.int .i64 n)])), (200, .any (pinK (rowF 3 (ntR p) q.2)))] ?_ (fun h_3 => ?_)
   ·refine .st [0, 1, 6] ⟨?_, ?_, ?_, trivial⟩
    ·refine ⟨_, rfl, ?_⟩
     refine .m ?_; exact .j h_6
    ·refine ⟨_, rfl, ?_⟩
     refine .m ?_; exact .j h_8
    ·refine ⟨_, rfl, ?_⟩
     refine .m ?_; exact .j h_10
   refine .share 11 [Ff, Ff, Ff, Ff, Ff, Ff, Tt, Ff, Ff, Ff, Ff, Ff] [(1, .r 1 0), (3, I (p.obj.length)), (4, I (p.rws.length)), (5, .r 20 0), (87, I (p.rws.length))] [(1, .box [.d (rows p.rws), .d (ints p.bnd), .d (ints p.obj)]), (20, .box [.o 191, .o 192, I (1)]), (191, .own 1 22 ((rhd (ntW p) q.2).map fun v => [D.v v])), (192, .own 1 3 ((ntBs p q.1).map fun n => [D.v (.int .i64 n)])), (200, .any (pinK (rowF 3 (ntR p) q.2)))] ?_ (fun h_4 => ?_)
   ·refine .st [0, 1, 5] ⟨?_, ?_, ?_, trivial⟩
    ·refine ⟨_, rfl, ?_⟩
     refine .m ?_; exact .j h_7
    ·refine ⟨_, rfl, ?_⟩
     refine .m ?_; exact .j h_9
    ·refine ⟨_, rfl, ?_⟩
     refine .m ?_; exact .j h_10
   refine .st [0, 1, 5, 6] ⟨?_, ?_, ?_, ?_, trivial⟩
   ·refine ⟨_, rfl, ?_⟩
    refine .m ?_; exact .j h_1
   ·refine ⟨_, rfl, ?_⟩
    refine .m ?_; exact .j h_2
   ·refine ⟨_, rfl, ?_⟩
    refine .m ?_; exact .j h_3
   ·refine ⟨_, rfl, ?_⟩
    refine .m ?_; exact .j h_4

end Go.Proofs.Ytlidcpmdgceboaa
end

section
/- What linear.Solve finds. -/

namespace Go.Eng
/-- The outcome of a linear program: nothing, or a value in lowest terms. -/
inductive SolR (p : LPr) : Option (Int × Int) → Prop
  | inf {t1 : Tb} (hs : StartN (ntW p) (newTab p) t1 false) (hb : Bnd t1) (hd : 0 < t1.dn) : SolR p none
  | opt {t1 t2 : Tb} {k : Nat} (hs : StartN (ntW p) (newTab p) t1 true) (hm : MaxN (ntW p) p.rws.length (p.obj.length + p.rws.length) k t1 t2 (-1)) (hd : 0 < t2.dn) (hbs : ∀ i : Nat, i < p.rws.length → 0 ≤ nth t2.bs i) :
      SolR p (some (lowF (cel t2 p.rws.length (p.obj.length + p.rws.length + 1)) t2.dn))
def solT : Option (Int × Int) → Int
  | none => 2
  | some _ => 1
def solV : Option (Int × Int) → Int × Int
  | none => (0, 0)
  | some x => x
abbrev solS (o : Option (Int × Int)) : S := .g [I (solT o), I (solV o).1, I (solV o).2, .u, .u, .u, .u, .u, .u]
theorem SolR.unp {p : LPr} {o : Option (Int × Int)} (h : SolR p o) : ∃ b t1, StartN (ntW p) (newTab p) t1 b ∧ (b = false → o = none ∧ Bnd t1 ∧ 0 < t1.dn) ∧
    (b = true → ∃ t2 k, MaxN (ntW p) p.rws.length (p.obj.length + p.rws.length) k t1 t2 (-1) ∧ 0 < t2.dn ∧ (∀ i : Nat, i < p.rws.length → 0 ≤ nth t2.bs i) ∧ o = some (lowF (cel t2 p.rws.length (p.obj.length + p.rws.length + 1)) t2.dn)) := by
  cases h with
  | inf hs hb hd => exact ⟨false, _, hs, fun _ => ⟨rfl, hb, hd⟩, (fun h => by cases h)⟩
  | opt hs hm hd hbs => exact ⟨true, _, hs, (fun h => by cases h), fun _ => ⟨_, _, hm, hd, hbs, rfl⟩⟩
theorem newTab_rl {p : LPr} : (newTab p).rs.length = p.rws.length + 2 := by simp [newTab]
theorem newTab_bl {p : LPr} : (newTab p).bs.length = p.rws.length := by simp [newTab, ntBs_len]
theorem row_inB {t : Tb} (hb : Bnd t) {i : Int} : ∀ x, x ∈ nth t.rs i → inB x := fun x hx => by
  rcases Nat.lt_or_ge i.toNat t.rs.length with h1 | h1
  · have e : nth t.rs i = t.rs[i.toNat] := by unfold nth; simp [h1]
    rw [e] at hx; exact hb.row _ (List.getElem_mem _) x hx
  · have e : nth t.rs i = [] := by unfold nth; simp [h1]; rfl
    rw [e] at hx; cases hx
theorem pt_inB {t : Tb} (hb : Bnd t) {n : Nat} {col : Int} : ∀ {k : Nat}, ∀ x, x ∈ ptTo t n col 1 k → inB x
  | 0, x, hx => by simp [ptTo] at hx; rw [hx.2]; unfold inB; omega
  | k + 1, x, hx => by
    simp only [ptTo] at hx
    split at hx
    · rcases List.mem_or_eq_of_mem_set hx with h | h
      · exact pt_inB hb x h
      · rw [h, Int.one_mul]; exact hb.cel
    · exact pt_inB hb x hx
end Go.Eng
end

section
/- Walks, written by gen.py out of hints. -/



namespace Go.Proofs.Ytlidcpmdgceboaa
open Go.Eng
set_option maxRecDepth 10000
set_option maxHeartbeats 8000000

theorem linear_Solve_does (p : LPr) (hp : LpOk p) (o : Option (Int × Int)) (hS : SolR p o) : Does Try.prog false 27 [lprS p] (.t [solS o, flt (0, 0)]) := by
 have z1 := hp.r6
 have z2 := hp.o6
 have z3 := hp.b
 have hW : ntW p = p.obj.length + p.rws.length + 2 := rfl
 obtain ⟨b, t1, hs, hS0, hS1⟩ := hS.unp
 have hnr := newTab_rl (p := p)
 have hnb := newTab_bl (p := p)
 refine Does.of_body Try.func27 rfl rfl (by simp) Try.call27 (fun w0 O0 => ?_); refine .lenG (n := 0) (i := 0) rfl rfl (fun len0_0 => ?_); refine .lenG (n := 0) (i := 1) rfl rfl (fun len0_1 => ?_); refine .lenG (n := 0) (i := 2) rfl rfl (fun len0_2 => ?_); refine .seq ?_; refine .region ?_; refine .semM (OpSem.box 1 rfl rfl rfl rfl) rfl rfl (by decide) ?_; refine .semM (OpSem.alloc 2 rfl zc64 rfl) rfl rfl (by decide) ?_; refine .semM (OpSem.alloc 3 rfl zc30 rfl) rfl rfl (by decide) ?_; refine .sq ?_; refine .seq ?_; refine .seq ?_; refine .region ?_; refine .x (OpSem.loadbN rfl rfl rfl vs39 (by first | decide | simp)) ?_; refine .x (OpSem.call0 (linear_Validate_does p hp) rfl rfl rfl rfl (Les.refl _)) ?_; refine .semM (OpSem.alloc 4 rfl zc30 rfl) rfl rfl (by decide) ?_; refine .sb vs30 ?_; refine .z ?_; refine .x (OpSem.loadbN rfl rfl rfl vs30 (by first | decide | simp)) ?_; refine .x (OpSem.build rfl rfl pl30 zc30 rfl rfl) ?_; refine .x (OpSem.neS2 rfl rfl rfl io30) ?_; refine .sq ?_; refine .cond rfl (fun c17 => ?_) (fun c17 => ?_)
 ·exfalso; simp at c17
 ·refine .skip ?_; refine .seq ?_; refine .seq ?_; refine PC.start [] ?_; refine .x (.f fo39_2) ?_; refine .x (.l vs22) ?_; refine .x (OpSem.lenL rfl rfl es22) ?_; refine .x (.f fo39_0) ?_; refine .x (.l vs37) ?_; refine .x (OpSem.lenL rfl rfl es37) ?_; refine .x (OpSem.move (.inr rfl) rfl) ?_; refine .d0 mixed ?_; refine .a ?_; refine .z ?_; refine .x (OpSem.loadbN rfl rfl rfl vs39 (by first | decide | simp)) ?_; refine .callNP (h := 200) (linear_newTableau_NP p hp) rfl rfl rfl (by decide) rfl rfl rfl (Les.refl _) (fun F_ v_ hR_ => ?_)
  obtain ⟨g, hk, hgw, rfl, rfl⟩ := hR_
  refine .a ?_; refine .sq ?_; refine .seq ?_; refine .seq ?_
  obtain ⟨hk1, k1b, k1r⟩ := hs.ok hk
  refine .region ?_; refine .m ?_; refine .ofSt (OpSt.callP (h := 200) (linear_tableau_start_P g (newTab p) hk (by omega) (by omega) b t1 (by rw [hgw]; exact hs)) rfl rfl rfl (fun H => rfl)) rfl rfl rfl (by decide) ?_; refine .x (OpSem.not rfl rfl) ?_; refine .sq ?_; refine .cond rfl (fun c30 => ?_) (fun c30 => ?_)
  ·have hb1 : b = false := by simpa using c30
   obtain ⟨ho, hb, hd⟩ := hS0 hb1
   refine .seq ?_; refine .freezeP 200 7 (s := tbS t1) rfl rfl (fun O w h H => tab_rep hk1 h H) ?_; refine PC.start [] ?_; refine .m ?_; refine .x (OpSem.nilp rfl rfl) ?_; refine .x (OpSem.fieldp rfl rfl fo99_0) ?_; refine .x (OpSem.load1 rfl rfl vs37 rfl) ?_; refine .m ?_; refine .x .ad ?_; refine .x (OpSem.idxL rfl rfl rfl es37 (by omega) (by omega)) ?_; refine .x (OpSem.load1 rfl rfl vs22 rfl) ?_; refine .m ?_; refine .m ?_; refine .m ?_; refine .x .ad ?_; refine .x (OpSem.sliceLH rfl rfl rfl rfl es22 (by omega) (by omega) (by have := hk1.w (p.rws.length + 1) (by omega); push_cast at this; omega)) ?_; refine .m ?_; refine .x (OpSem.nilp rfl rfl) ?_; refine .x (OpSem.fieldp rfl rfl fo99_2) ?_; refine .x (OpSem.load1 rfl rfl vs3 rfl) ?_; refine .x (OpSem.call0 (linear_vector_does (((nth t1.rs ((p.rws.length : Int) + 1)).take ((p.obj.length : Int) + (p.rws.length : Int)).toNat).drop ((p.obj.length : Int)).toNat) t1.dn (by simp; omega) hd hb.dn (fun x hx => row_inB hb x (List.mem_of_mem_take (List.mem_of_mem_drop hx)))) rfl rfl rfl rfl (Les.refl _)) ?_; refine .x (OpSem.build rfl rfl pl64 zc64 rfl rfl) ?_; refine .x (OpSem.build rfl rfl pl30 zc30 rfl rfl) ?_; refine .doneS [19] [[], [19]] mixed (by kernel_rfl) (by kernel_rfl) (by kernel_rfl) (by kernel_rfl) (by kernel_rfl) (by decide) rfl (by kernel_rfl) ⟨?_, ?_, trivial⟩
   ·refine ⟨[], _, by kernel_rfl, by repeat' (first | exact .nil | (apply DropRs.hit; rfl) | (apply DropRs.miss; rfl)), ?_⟩; refine .sb vs64 ?_; refine TrSet.start ?_; refine .zero ?_; refine .sb vs30 ?_; refine .sq ?_; refine .ret ?_; refine .pass_ret ?_; exact .ret rfl (.cellN rfl rfl vs64 <| .cellN rfl rfl vs30 <| .nil) rfl (Le.t (.cons (by rw [ho]; exact Le.g (.cons (.refl _) <| .cons (.refl _) <| .cons (.refl _) <| .cons (.u _) <| .cons (.u _) <| .cons (.u _) <| .cons (.u _) <| .cons (.u _) <| .cons (.u _) <| .nil)) <| .cons (.refl _) <| .nil))
   ·refine ⟨[50], _, by kernel_rfl, by repeat' (first | exact .nil | (apply DropRs.hit; rfl) | (apply DropRs.miss; rfl)), ?_⟩; refine .sb vs64 ?_; refine TrSet.start ?_; refine .succ ⟨?_, trivial⟩
    ·refine .inr (TrI.sem rfl (OpSem.build rfl rfl pl30 zc30 rfl rfl) rfl rfl (by decide) rfl ?_); refine .zero ?_; refine .sb vs30 ?_; refine .sq ?_; refine .ret ?_; refine .pass_ret ?_; exact .ret rfl (.cellN rfl rfl vs64 <| .cellN rfl rfl vs30 <| .nil) rfl (Le.t (.cons (by rw [ho]; exact Le.g (.cons (.refl _) <| .cons (.refl _) <| .cons (.refl _) <| .cons (.u _) <| .cons (.u _) <| .cons (.u _) <| .cons (.u _) <| .cons (.u _) <| .cons (.u _) <| .nil)) <| .cons (.refl _) <| .nil))
  ·have hb1 : b = true := by simpa using c30
   refine .skip ?_; refine .seq ?_; refine .seq ?_
   obtain ⟨t2, k, hm, hd, hbs, ho⟩ := hS1 hb1
   obtain ⟨hk2, k2b, k2r, hb2⟩ := hm.ok hk1
   refine .region ?_; refine .m ?_; refine .m ?_; refine .m ?_; refine .m ?_; refine .x (OpSem.le (s' := I ((p.obj.length + p.rws.length : Nat) : Int)) .ad (Le.i (by omega))) ?_; refine .ofSt (OpSt.callP (h := 200) (linear_tableau_maximize_P g t1 hk1 (by omega) k t2 (-1) (p.rws.length : Int) (p.obj.length + p.rws.length) (by omega) (by omega) (by omega) (by rw [hgw]; exact hm)) rfl rfl rfl (fun H => rfl)) rfl rfl rfl (by decide) ?_; refine .a ?_; refine .sq ?_; refine .seq ?_; refine .freezeP 200 7 (s := tbS t2) rfl rfl (fun O w h H => tab_rep hk2 h H) ?_; refine PC.start [] ?_; refine .m ?_; refine .m ?_; refine .m ?_; refine .m ?_; refine .x .ad ?_; refine .x .ad ?_; refine .x (OpSem.call0 (linear_tableau_point_does t2 p.obj.length ((p.obj.length : Int) + (p.rws.length : Int) + 1) (by omega) (by omega) (by omega) (fun k hk => ⟨hbs k (by omega), by omega, by have := hk2.w k (by omega); omega, hb2.cel⟩)).fresh rfl rfl rfl rfl (Les.refl _)) ?_; refine .m ?_; refine .x (OpSem.nilp rfl rfl) ?_; refine .x (OpSem.fieldp rfl rfl fo99_2) ?_; refine .x (OpSem.load1 rfl rfl vs3 rfl) ?_; refine .x (OpSem.call0 (linear_vector_does (ptF t2 p.obj.length ((p.obj.length : Int) + (p.rws.length : Int) + 1) 1) t2.dn (by have := pt_len (t := t2) (n := p.obj.length) (col := (p.obj.length : Int) + (p.rws.length : Int) + 1) (sign := 1) (k := t2.bs.length); unfold ptF; omega) hd hb2.dn (fun x hx => pt_inB hb2 x hx)) rfl rfl rfl rfl (Les.refl _)) ?_; refine .semM (OpSem.alloc 9 rfl zc59 rfl) rfl rfl ?_; refine .d1 9 (.box [.d (.v (.slice none 0 0)), I (0)]) mixed ?_; refine .sb vs59 ?_; refine .sq ?_; refine .seq ?_; refine .seq ?_; refine .region ?_; refine .m ?_; refine .x (.b bgeq) ?_; refine .sq ?_; refine .cond rfl (fun c70 => ?_) (fun c70 => ?_)
   ·exfalso; simp at c70
   ·refine .skip ?_; refine .seq ?_; refine .seq ?_
    have hcv := hb2.cel (i := (p.rws.length : Int)) (j := (p.obj.length : Int) + (p.rws.length : Int) + 1)
    have hdn := hb2.dn
    refine PC.start [] ?_; refine .m ?_; refine .x (OpSem.nilp rfl rfl) ?_; refine .x (OpSem.fieldp rfl rfl fo99_0) ?_; refine .x (OpSem.load1 rfl rfl vs37 rfl) ?_; refine .m ?_; refine .x (OpSem.idxL rfl rfl rfl es37 (by omega) (by omega)) ?_; refine .x (OpSem.load1 rfl rfl vs22 rfl) ?_; refine .m ?_; refine .m ?_; refine .x .ad ?_; refine .x .ad ?_; refine .x (OpSem.idxL rfl rfl rfl es22 (by omega) (by have := hk2.w p.rws.length (by omega); omega)) ?_; refine .x (OpSem.load1 rfl rfl vs3 rfl) ?_; refine .m ?_; refine .x (OpSem.nilp rfl rfl) ?_; refine .x (OpSem.fieldp rfl rfl fo99_2) ?_; refine .x (OpSem.load1 rfl rfl vs3 rfl) ?_; refine .x (OpSem.call0 (fraction_Make_does (cel t2 (p.rws.length : Int) ((p.obj.length : Int) + (p.rws.length : Int) + 1)) t2.dn (by unfold inB at hcv; omega) (by unfold inB at hcv; omega) hd (by unfold inB at hdn; omega)) rfl rfl rfl rfl (Les.refl _)) ?_; refine .m ?_; refine .x (OpSem.extract rfl rfl rfl) ?_; refine .x (OpSem.extract rfl rfl rfl) ?_; refine .semM (OpSem.alloc 11 rfl zc28 rfl) rfl rfl ?_; refine .semM (OpSem.alloc 12 rfl zc30 rfl) rfl rfl ?_; refine .doneLn (pf := ⟨114, flt ((0, 0)), none, none, true⟩) 23 20 11 (.box [I (0), I (0)]) 12 (.box [I (0), I (0)]) mixed (by kernel_rfl) (by kernel_rfl) (by kernel_rfl) (by kernel_rfl) (by kernel_rfl) (by kernel_rfl) rfl rfl rfl rfl (by repeat' (first | exact .nil | (apply DropR.hit; rfl) | (apply DropR.miss; rfl))) (by kernel_rfl) (by kernel_rfl) (by kernel_rfl) ?_ ?_
    ·refine .sb vs28 ?_; refine .sb vs30 ?_; refine .sq ?_; refine .seq ?_; refine PC.start [] ?_; refine .x (OpSem.loadbN rfl rfl rfl vs28 (by first | decide | simp)) ?_; refine .x (OpSem.loadbN rfl rfl rfl vs59 (by first | decide | simp)) ?_; refine .m ?_; refine .x (OpSem.nilp rfl rfl) ?_; refine .x (OpSem.fieldp rfl rfl fo99_0) ?_; refine .x (OpSem.load1 rfl rfl vs37 rfl) ?_; refine .m ?_; refine .x (OpSem.idxL rfl rfl rfl es37 (by omega) (by omega)) ?_; refine .x (OpSem.load1 rfl rfl vs22 rfl) ?_; refine .m ?_; refine .m ?_; refine .m ?_; refine .x .ad ?_; refine .x (OpSem.sliceLH rfl rfl rfl rfl es22 (by omega) (by omega) (by have := hk2.w p.rws.length (by omega); omega)) ?_; refine .m ?_; refine .x (OpSem.nilp rfl rfl) ?_; refine .x (OpSem.fieldp rfl rfl fo99_2) ?_; refine .x (OpSem.load1 rfl rfl vs3 rfl) ?_; refine .x (OpSem.call0 (linear_vector_does (((nth t2.rs ((p.rws.length : Int))).take ((p.obj.length : Int) + (p.rws.length : Int)).toNat).drop ((p.obj.length : Int)).toNat) t2.dn (by simp; omega) hd hb2.dn (fun x hx => row_inB hb2 x (List.mem_of_mem_take (List.mem_of_mem_drop hx)))) rfl rfl rfl rfl (Les.refl _)) ?_; refine .x (OpSem.build rfl rfl pl64 zc64 rfl rfl) ?_; refine .x (OpSem.loadbN rfl rfl rfl vs30 (by first | decide | simp)) ?_; refine .doneS [20] [[], [20]] mixed (by kernel_rfl) (by kernel_rfl) (by kernel_rfl) (by kernel_rfl) (by kernel_rfl) (by decide) rfl (by kernel_rfl) ⟨?_, ?_, trivial⟩
     ·refine ⟨[], _, by kernel_rfl, by repeat' (first | exact .nil | (apply DropRs.hit; rfl) | (apply DropRs.miss; rfl)), ?_⟩; refine .sb vs64 ?_; refine TrSet.start ?_; refine .zero ?_; refine .sb vs30 ?_; refine .sq ?_; refine .ret ?_; exact .ret rfl (.cellN rfl rfl vs64 <| .cellN rfl rfl vs30 <| .nil) rfl (Le.t (.cons (by rw [ho]; exact Le.g (.cons (.refl _) <| .cons (.refl _) <| .cons (.refl _) <| .cons (.u _) <| .cons (.u _) <| .cons (.u _) <| .cons (.u _) <| .cons (.u _) <| .cons (.u _) <| .nil)) <| .cons (.refl _) <| .nil))
     ·refine ⟨[135], _, by kernel_rfl, by repeat' (first | exact .nil | (apply DropRs.hit; rfl) | (apply DropRs.miss; rfl)), ?_⟩; refine .sb vs64 ?_; refine TrSet.start ?_; refine .succ ⟨?_, trivial⟩
      ·refine .inr (TrI.sem rfl (OpSem.loadbN rfl rfl rfl vs30 (by first | decide | simp)) rfl rfl (by decide) rfl ?_); refine .zero ?_; refine .sb vs30 ?_; refine .sq ?_; refine .ret ?_; exact .ret rfl (.cellN rfl rfl vs64 <| .cellN rfl rfl vs30 <| .nil) rfl (Le.t (.cons (by rw [ho]; exact Le.g (.cons (.refl _) <| .cons (.refl _) <| .cons (.refl _) <| .cons (.u _) <| .cons (.u _) <| .cons (.u _) <| .cons (.u _) <| .cons (.u _) <| .cons (.u _) <| .nil)) <| .cons (.refl _) <| .nil))
    ·refine .sb vs28 ?_; refine .x (OpSem.extract rfl rfl rfl) ?_; refine .sb vs30 ?_; refine .sq ?_; refine .seq ?_; refine PC.start [] ?_; refine .x (OpSem.loadbN rfl rfl rfl vs28 (by first | decide | simp)) ?_; refine .x (OpSem.loadbN rfl rfl rfl vs59 (by first | decide | simp)) ?_; refine .m ?_; refine .x (OpSem.nilp rfl rfl) ?_; refine .x (OpSem.fieldp rfl rfl fo99_0) ?_; refine .x (OpSem.load1 rfl rfl vs37 rfl) ?_; refine .m ?_; refine .x (OpSem.idxL rfl rfl rfl es37 (by omega) (by omega)) ?_; refine .x (OpSem.load1 rfl rfl vs22 rfl) ?_; refine .m ?_; refine .m ?_; refine .m ?_; refine .x .ad ?_; refine .x (OpSem.sliceLH rfl rfl rfl rfl es22 (by omega) (by omega) (by have := hk2.w p.rws.length (by omega); omega)) ?_; refine .m ?_; refine .x (OpSem.nilp rfl rfl) ?_; refine .x (OpSem.fieldp rfl rfl fo99_2) ?_; refine .x (OpSem.load1 rfl rfl vs3 rfl) ?_; refine .x (OpSem.call0 (linear_vector_does (((nth t2.rs ((p.rws.length : Int))).take ((p.obj.length : Int) + (p.rws.length : Int)).toNat).drop ((p.obj.length : Int)).toNat) t2.dn (by simp; omega) hd hb2.dn (fun x hx => row_inB hb2 x (List.mem_of_mem_take (List.mem_of_mem_drop hx)))) rfl rfl rfl rfl (Les.refl _)) ?_; refine .x (OpSem.build rfl rfl pl64 zc64 rfl rfl) ?_; refine .x (OpSem.loadbN rfl rfl rfl vs30 (by first | decide | simp)) ?_; refine .doneS [20] [[], [20]] mixed (by kernel_rfl) (by kernel_rfl) (by kernel_rfl) (by kernel_rfl) (by kernel_rfl) (by decide) rfl (by kernel_rfl) ⟨?_, ?_, trivial⟩
     ·refine ⟨[], _, by kernel_rfl, by repeat' (first | exact .nil | (apply DropRs.hit; rfl) | (apply DropRs.miss; rfl)), ?_⟩; refine .sb vs64 ?_; refine TrSet.start ?_; refine .zero ?_; refine .sb vs30 ?_; refine .sq ?_; refine .ret ?_; exact .ret rfl (.cellN rfl rfl vs64 <| .cellN rfl rfl vs30 <| .nil) rfl (Le.t (.cons (by rw [ho]; exact Le.g (.cons (.refl _) <| .cons (.refl _) <| .cons (.refl _) <| .cons (.u _) <| .cons (.u _) <| .cons (.u _) <| .cons (.u _) <| .cons (.u _) <| .cons (.u _) <| .nil)) <| .cons (.refl _) <| .nil))
     ·refine ⟨[135], _, by kernel_rfl, by repeat' (first | exact .nil | (apply DropRs.hit; rfl) | (apply DropRs.miss; rfl)), ?_⟩; refine .sb vs64 ?_; refine TrSet.start ?_; refine .succ ⟨?_, trivial⟩
      ·refine .inr (TrI.sem rfl (OpSem.loadbN rfl rfl rfl vs30 (by first | decide | simp)) rfl rfl (by decide) rfl ?_); refine .zero ?_; refine .sb vs30 ?_; refine .sq ?_; refine .ret ?_; exact .ret rfl (.cellN rfl rfl vs64 <| .cellN rfl rfl vs30 <| .nil) rfl (Le.t (.cons (by rw [ho]; exact Le.g (.cons (.refl _) <| .cons (.refl _) <| .cons (.refl _) <| .cons (.u _) <| .cons (.u _) <| .cons (.u _) <| .cons (.u _) <| .cons (.u _) <| .cons (.u _) <| .nil)) <| .cons (.refl _) <| .nil))

end Go.Proofs.Ytlidcpmdgceboaa
end

section
/- A run of the simplex method, computed; the bound of counting. -/

namespace Go.Eng
def entF (t : Tb) (ob : Int) (n : Nat) : Option Nat := (List.range n).find? fun (j : Nat) => decide (cel t ob j < 0)
theorem entF_some {t : Tb} {ob : Int} {n c : Nat} (h : entF t ob n = some c) : Ent t ob n c := by
  unfold entF at h
  rw [List.find?_range_eq_some] at h
  exact ⟨by simpa using h.2.1, fun j hj => by have := h.2.2 j hj; simp at this; omega, by simpa using h.1⟩
theorem entF_none {t : Tb} {ob : Int} {n : Nat} (h : entF t ob n = none) : ∀ j : Nat, j < n → 0 ≤ cel t ob j := fun j hj => by
  unfold entF at h
  rw [List.find?_range_eq_none] at h
  have := h j hj; simp at this; omega
def nzF (t : Tb) (r : Int) (w : Nat) : Option Nat := (List.range w).find? fun (j : Nat) => decide (cel t r j ≠ 0)
theorem nzF_some {t : Tb} {r : Int} {w c : Nat} (h : nzF t r w = some c) : Nzc t r w c := by
  unfold nzF at h
  rw [List.find?_range_eq_some] at h
  exact ⟨by simpa using h.2.1, fun j hj => by have := h.2.2 j hj; simpa using this, by simpa using h.1⟩
def maxF (w : Nat) (ob : Int) (n : Nat) : Nat → Tb → Option (Tb × Int)
  | 0, _ => none
  | f + 1, t => if bndB t then match entF t ob n with
    | none => some (t, -1)
    | some c => if lvF t c w < 0 then some (t, c) else maxF w ob n f (pivF t (lvF t c w) c)
    else none
theorem maxF_ok {w : Nat} {ob : Int} {n : Nat} : ∀ {f : Nat} {t t' : Tb} {x : Int}, maxF w ob n f t = some (t', x) → ∃ k, MaxN w ob n k t t' x
  | 0, _, _, _, h => by simp [maxF] at h
  | f + 1, t, t', x, h => by
    simp only [maxF] at h
    by_cases hb : bndB t = true
    · rw [if_pos hb] at h
      cases he : entF t ob n with
      | none => rw [he] at h; simp at h; obtain ⟨rfl, rfl⟩ := h; exact ⟨0, .opt (bndB_ok hb) (entF_none he)⟩
      | some c =>
        rw [he] at h
        simp only [] at h
        by_cases hl : lvF t c w < 0
        · rw [if_pos hl] at h; simp at h; obtain ⟨rfl, rfl⟩ := h; exact ⟨0, .unb (bndB_ok hb) (entF_some he) hl⟩
        · rw [if_neg hl] at h
          obtain ⟨k, hk⟩ := maxF_ok h
          exact ⟨k + 1, .step (bndB_ok hb) (entF_some he) hl hk⟩
    · rw [if_neg hb] at h; simp at h
def drvF (w : Nat) : Nat → Nat → Tb → Option Tb
  | 0, r, t => if r = t.bs.length then some t else none
  | f + 1, r, t => if r < t.bs.length then (if nth t.bs r = (w : Int) - 2 then (if bndB t then match nzF t r w with
      | some c => drvF w f (r + 1) (pivF t r c)
      | none => none else none) else drvF w f (r + 1) t) else if r = t.bs.length then some t else none
theorem drvF_ok {w : Nat} : ∀ {f r : Nat} {t t' : Tb}, drvF w f r t = some t' → DrvN w r t t'
  | 0, r, t, t', h => by
    simp only [drvF] at h
    split at h
    · cases h; exact .done ‹_›
    · cases h
  | f + 1, r, t, t', h => by
    simp only [drvF] at h
    split at h
    · rename_i hr
      split at h
      · rename_i hn
        split at h
        · rename_i hb
          cases hz : nzF t r w with
          | none => rw [hz] at h; cases h
          | some c => rw [hz] at h; exact .piv hr hn (bndB_ok hb) (nzF_some hz) (drvF_ok h)
        · cases h
      · rename_i hn; exact .skip hr hn (drvF_ok h)
    · split at h
      · cases h; exact .done ‹_›
      · cases h
def startF (w f : Nat) (t : Tb) : Option (Tb × Bool) :=
  if loF t w < 0 then some (t, true) else if bndB t then match maxF w (t.bs.length + 1) (w - 1) f (pivF t (loF t w) ((w : Int) - 2)) with
    | none => none
    | some (t2, _) => if cel t2 (t.bs.length + 1) ((w : Int) - 1) < 0 then some (t2, false) else (drvF w t2.bs.length 0 t2).map fun t3 => (t3, true)
  else none
theorem startF_ok {w f : Nat} {t t' : Tb} {b : Bool} (h : startF w f t = some (t', b)) : StartN w t t' b := by
  unfold startF at h
  split at h
  · simp at h; obtain ⟨rfl, rfl⟩ := h; exact .pos ‹_›
  · rename_i hl
    split at h
    · rename_i hb
      cases hm : maxF w (t.bs.length + 1) (w - 1) f (pivF t (loF t w) ((w : Int) - 2)) with
      | none => rw [hm] at h; cases h
      | some y =>
        obtain ⟨t2, x⟩ := y
        rw [hm] at h
        obtain ⟨k, hk⟩ := maxF_ok hm
        simp only [] at h
        split at h
        · simp at h; obtain ⟨rfl, rfl⟩ := h; exact .no (bndB_ok hb) hl hk ‹_›
        · rename_i hn
          rw [Option.map_eq_some_iff] at h
          obtain ⟨t3, h3, h4⟩ := h
          simp at h4; obtain ⟨rfl, rfl⟩ := h4
          exact .yes (bndB_ok hb) hl hk hn (drvF_ok h3)
    · cases h
def solF (p : LPr) (f : Nat) : Option (Option (Int × Int)) := match startF (ntW p) f (newTab p) with
  | none => none
  | some (t1, false) => if bndB t1 && decide (0 < t1.dn) then some none else none
  | some (t1, true) => match maxF (ntW p) p.rws.length (p.obj.length + p.rws.length) f t1 with
    | none => none
    | some (t2, x) => if x = -1 ∧ 0 < t2.dn ∧ (∀ i, i ∈ List.range p.rws.length → 0 ≤ nth t2.bs (i : Nat)) then some (some (lowF (cel t2 p.rws.length (p.obj.length + p.rws.length + 1)) t2.dn)) else none
theorem solF_ok {p : LPr} {f : Nat} {o : Option (Int × Int)} (h : solF p f = some o) : SolR p o := by
  unfold solF at h
  cases hs : startF (ntW p) f (newTab p) with
  | none => rw [hs] at h; cases h
  | some y =>
    obtain ⟨t1, b⟩ := y
    rw [hs] at h
    cases b with
    | false =>
      simp only [] at h
      split at h
      · rename_i hc
        simp at h; subst h
        simp only [Bool.and_eq_true, decide_eq_true_eq] at hc
        exact .inf (startF_ok hs) (bndB_ok hc.1) hc.2
      · cases h
    | true =>
      simp only [] at h
      cases hm : maxF (ntW p) p.rws.length (p.obj.length + p.rws.length) f t1 with
      | none => rw [hm] at h; cases h
      | some z =>
        obtain ⟨t2, x⟩ := z
        rw [hm] at h
        simp only [] at h
        split at h
        · rename_i hc
          simp at h; subst h
          obtain ⟨rfl, h2, h3⟩ := hc
          obtain ⟨k, hk⟩ := maxF_ok hm
          exact .opt (startF_ok hs) hk h2 (fun i hi => h3 i (List.mem_range.2 hi))
        · cases h
theorem MaxN.bnd {w : Nat} {ob : Int} {n k : Nat} {t t' : Tb} {x : Int} (h : MaxN w ob n k t t' x) : Bnd t' := by
  induction h with
  | opt hb _ => exact hb
  | unb hb _ _ => exact hb
  | step _ _ _ _ ih => exact ih
theorem SolR.in {p : LPr} {o : Option (Int × Int)} (h : SolR p o) : -1000000000 ≤ (solV o).1 ∧ (solV o).1 ≤ 1000000000 := by
  cases h with
  | inf _ _ _ => simp [solV]
  | opt _ hm hd _ =>
    have hb := hm.bnd
    have h1 := hb.cel (i := (p.rws.length : Int)) (j := (p.obj.length : Int) + (p.rws.length : Int) + 1)
    have h2 := hb.dn
    unfold inB at h1 h2
    have := low_ok h1.1 h1.2 hd h2.2
    exact ⟨this.1, this.2.1⟩
/-! ### the bound -/
def bdR (t : Tsk) (o : Option (Int × Int)) : Int × Int := if cpF t = (0, 0) then (if solT o = 1 then (-(solV o).1, (solV o).2) else (1000000000, 1)) else (0, 0)
theorem bd_1 {t : Tsk} {o : Option (Int × Int)} (h : cpF t ≠ (0, 0)) : (0, 0) = bdR t o := by unfold bdR; rw [if_neg h]
theorem bd_2 {t : Tsk} {o : Option (Int × Int)} (h : cpF t = (0, 0)) (h2 : solT o ≠ 1) : (1000000000, 1) = bdR t o := by unfold bdR; rw [if_pos h, if_neg h2]
theorem bd_0 {t : Tsk} {o : Option (Int × Int)} (h : cpF t = (0, 0)) (h2 : solT o = 1) : (-(solV o).1, (solV o).2) = bdR t o := by unfold bdR; rw [if_pos h, if_pos h2]
theorem cpF_inv {t : Tsk} (h : cpF t = (0, 0)) : tskF t = (0, 0) ∧ ¬ CLarge t := by
  by_cases h1 : tskF t = (0, 0)
  · by_cases h2 : CLarge t
    · rw [← cpF_2 h1 h2] at h; simp at h
    · exact ⟨h1, h2⟩
  · rw [← cpF_1 h1] at h; exact absurd h h1
theorem cpA_ok {t : Tsk} (h : cpF t = (0, 0)) : LpOk (cpA t) := by
  obtain ⟨h1, h2⟩ := cpF_inv h
  have hV := tskF_v h1
  have hol := cl_ops h2
  have hrow : ∀ r, r ∈ (cpA t).rws → r.length = t.ops.length ∧ ∀ x, x ∈ r → -1 ≤ x ∧ x ≤ 1 := fun r hr => by
    rw [cpA_r] at hr
    have hr := List.mem_of_mem_take hr
    unfold allR at hr
    rcases List.mem_append.1 hr with hr | hr
    · obtain ⟨q, _, rfl⟩ := List.mem_map.1 hr
      refine ⟨by simp [gRow], fun x hx => ?_⟩
      unfold gRow at hx
      obtain ⟨o, _, rfl⟩ := List.mem_map.1 hx
      have := chg_in (o := o) (p := q)
      omega
    · obtain ⟨q, _, rfl⟩ := List.mem_map.1 hr
      refine ⟨by simp [lRow], fun x hx => ?_⟩
      unfold lRow at hx
      obtain ⟨i, _, rfl⟩ := List.mem_map.1 hx
      split <;> omega
  have hbn : ∀ x, x ∈ (cpA t).bnd → -1 ≤ x ∧ x ≤ 0 := fun x hx => by
    rw [cpA_b] at hx
    have hx := List.mem_of_mem_take hx
    unfold allB at hx
    rcases List.mem_append.1 hx with hx | hx
    · obtain ⟨q, _, rfl⟩ := List.mem_map.1 hx
      unfold gBnd; split <;> omega
    · obtain ⟨q, _, rfl⟩ := List.mem_map.1 hx
      omega
  have hob : (cpA t).obj.length = t.ops.length := by simp [cpA]
  have hbl : (cpA t).bnd.length = (cpA t).rws.length := by rw [cpA_r, cpA_b, List.length_take, List.length_take, all_len]
  refine ⟨?_, by omega, hbl, fun j hj => ?_, fun i hi => ?_, fun i hi => ?_, fun i hi j hj => ?_⟩
  · rw [cpA_r, List.length_take]; omega
  · have hj' : j < t.ops.length := by omega
    have hc := (hV.op j hj').2
    have hc2 := cl_cost h2 hj'
    have e : nth (cpA t).obj j = -(nth t.ops j).cost := by
      rw [nth_eq hj, nth_eq hj']; simp [cpA]
    rw [e]; omega
  · have hm := nth_mem (l := (cpA t).rws) (n := (i : Int)) (by omega) (by omega)
    rw [(hrow _ hm).1, hob]
  · have hm := nth_mem (l := (cpA t).bnd) (n := (i : Int)) (by omega) (by omega)
    have := hbn _ hm
    omega
  · have hm := nth_mem (l := (cpA t).rws) (n := (i : Int)) (by omega) (by omega)
    obtain ⟨e1, e2⟩ := hrow _ hm
    have := e2 _ (nth_mem (l := nth (cpA t).rws i) (n := (j : Int)) (by omega) (by omega))
    omega
/-! ### the example -/
abbrev exT : Tsk := ⟨1, [], [0], [⟨[], [0], [], 2⟩]⟩
theorem exT_f : tskF exT = (0, 0) := by decide +kernel
theorem exT_l : ¬ CLarge exT := by
  unfold CLarge
  rintro (⟨i, hi, hc⟩ | hc)
  · have : i = 0 := by simp at hi; omega
    subst this; revert hc; decide
  · simp at hc
theorem exT_c : cpF exT = (0, 0) := (cpF_0 exT_f exT_l).symm
theorem exT_rch {q : Int} (h : Rch exT [] (useP exT 0) q) : False := by
  cases h with
  | base h => cases h
  | @op i _ hi hu _ _ =>
    have : i = 0 := by simp at hi; omega
    subst this; revert hu; decide
theorem exT_lm : lmP exT 0 = true := by
  unfold lmP
  have : ¬ AllP (wtoL exT 0) exT.goal := fun h => by
    have := h 0 (by simp)
    have h2 := (cloL_at (t := exT) (s := exT.ini) (use := useP exT 0) (p := 0) (by omega) (by decide)).1 this
    exact exT_rch h2
  simp [this]
theorem exT_ac : acL exT 0 = [0] := by
  have : acP exT 0 0 = true := by
    unfold acP
    have : AllP (wtoL exT 0) (nth exT.ops 0).pre := fun k hk => by simp [nth] at hk
    simp [this]
    decide
  show acTo exT 0 (0 + 1) = [0]
  rw [ac_t this]; rfl
theorem exT_p : cpA exT = ⟨[[-1], [-1]], [-1, -1], [-2]⟩ := by
  have hl : lmNTo exT 1 = [0] := by
    rw [show (1 : Nat) = 0 + 1 from rfl, lmN_t exT_lm (by simp)]; rfl
  have hr : lRow exT 0 = [-1] := by unfold lRow; rw [exT_ac]; rfl
  have h1 : allR exT 1 = [[-1], [-1]] := by unfold allR; rw [hl]; simp [hr]; decide
  have h2 : allB exT 1 = [-1, -1] := by unfold allB; rw [hl]; rfl
  have e1 := cpA_r exT
  have e2 := cpA_b exT
  have e3 : (cpA exT).obj = [-2] := rfl
  have e0 : exT.facts.toNat = 1 := rfl
  rw [e0, h1] at e1
  rw [e0, h2] at e2
  cases hc : cpA exT with
  | mk a b c => rw [hc] at e1 e2 e3; simp at e1 e2 e3; rw [e1, e2, e3]
theorem exT_s : SolR (cpA exT) (some (-2, 1)) := by
  rw [exT_p]
  exact solF_ok (f := 9) (by decide +kernel)
theorem exT_n : cntR exT [0, 0] = [2] ∧ planF2 exT [0, 0] = (0, 0) := by decide +kernel
theorem exT_r : cpR exT = ⟨[[-1], [-1]], [-1, -1], [-2]⟩ := by rw [← cpR_0 exT_c, exT_p]
theorem exT_bd : bdR exT (some (-2, 1)) = (2, 1) := by rw [← bd_0 exT_c rfl]; rfl
theorem cpF_code {t : Tsk} (h : (cpF t).1 = 0) : cpF t = (0, 0) := by
  by_cases h1 : tskF t = (0, 0)
  · by_cases h2 : CLarge t
    · rw [← cpF_2 h1 h2] at h; simp at h
    · exact (cpF_0 h1 h2).symm
  · rw [← cpF_1 h1] at h; exact absurd (tskF_code h) h1
def cnI (l : List Int) (x k : Nat) : Int := (((l.take k).filter fun y => decide (y = (x : Int))).length : Int)
theorem cnI_0 {l : List Int} {x : Nat} : cnI l x 0 = 0 := by simp [cnI]
theorem cnI_t {l : List Int} {x k : Nat} (hk : k < l.length) (h : nth l k = x) : cnI l x (k + 1) = cnI l x k + 1 := by unfold cnI; rw [tk_s hk, List.filter_append]; simp [h]
theorem cnI_f {l : List Int} {x k : Nat} (hk : k < l.length) (h : nth l k ≠ x) : cnI l x (k + 1) = cnI l x k := by unfold cnI; rw [tk_s hk, List.filter_append]; simp [h]
theorem cnI_le {l : List Int} {x k : Nat} : 0 ≤ cnI l x k ∧ cnI l x k ≤ k := by
  unfold cnI
  have := List.length_filter_le (fun y => decide (y = (x : Int))) (l.take k)
  rw [List.length_take] at this; omega
end Go.Eng
end

section
/- Walks, written by gen.py out of hints. -/





namespace Go.Proofs.Ytlidcpmdgceboaa
open Go.Eng
set_option maxRecDepth 10000
set_option maxHeartbeats 1000000

theorem counting_Bound_does (t : Tsk) (o : Option (Int × Int)) (hS : cpF t = (0, 0) → SolR (cpA t) o) : Does Try.prog false 10 [tskS t] (.t [flt (bdR t o), flt (cpF t)]) := by
 refine Does.of_body Try.func10 rfl rfl (by simp) Try.call10 (fun w0 O0 => ?_); refine .lenG (n := 0) (i := 1) rfl rfl (fun len0_1 => ?_); refine .lenG (n := 0) (i := 2) rfl rfl (fun len0_2 => ?_); refine .lenG (n := 0) (i := 3) rfl rfl (fun len0_3 => ?_); refine .seq ?_; refine .region ?_; refine .semM (OpSem.box 1 rfl rfl rfl rfl) rfl rfl (by decide) ?_; refine .semM (OpSem.alloc 2 rfl zc28 rfl) rfl rfl (by decide) ?_; refine .semM (OpSem.alloc 3 rfl zc30 rfl) rfl rfl (by decide) ?_; refine .z ?_; refine .x (OpSem.loadbN rfl rfl rfl vs25 (by first | decide | simp)) ?_; refine .x (OpSem.call0 (counting_Program_does t) rfl rfl rfl rfl (Les.refl _)) ?_; refine .m ?_; refine .x (OpSem.extract rfl rfl rfl) ?_; refine .x (OpSem.extract rfl rfl rfl) ?_; refine .semM (OpSem.alloc 4 rfl zc39 rfl) rfl rfl (by decide) ?_; refine .semM (OpSem.alloc 5 rfl zc30 rfl) rfl rfl (by decide) ?_; refine .sb vs39 ?_; refine .sb vs30 ?_; refine .sq ?_; refine .seq ?_; refine .seq ?_; refine .region ?_; refine .x (OpSem.loadbN rfl rfl rfl vs30 (by first | decide | simp)) ?_; refine .x (OpSem.build rfl rfl pl30 zc30 rfl rfl) ?_; refine .x (OpSem.neS2 rfl rfl rfl io30) ?_; refine .sq ?_; refine .cond rfl (fun c14 => ?_) (fun c14 => ?_)
 ·have hne : cpF t ≠ (0, 0) := fun h => by simp [h] at c14
  refine .seq ?_; refine PC.start [2] ?_; refine .x (OpSem.build rfl rfl pl28 zc28 rfl rfl) ?_; refine .x (OpSem.loadbN rfl rfl rfl vs30 (by first | decide | simp)) ?_; refine .storeb 100002 rfl rfl rfl rfl rfl rfl rfl vs28 (by first | decide | simp) ?_; refine .dn mixed ?_; refine .sb vs30 ?_; refine .sq ?_; refine .ret ?_; refine .pass_ret ?_; exact .ret rfl (.cellN rfl rfl vs28 <| .cellN rfl rfl vs30 <| .nil) rfl (Le.t (.cons (Le.flt (bd_1 hne)) <| .cons (.refl _) <| .nil))
 ·have h0 : cpF t = (0, 0) := pair0 (by simpa using c14)
  have hin := (hS h0).in
  refine .skip ?_; refine .z ?_; refine .x (OpSem.loadbN rfl rfl rfl vs39 (by first | decide | simp)) ?_; refine .x (OpSem.call0 (linear_Solve_does (cpR t) (by rw [← cpR_0 h0]; exact cpA_ok h0) o (by rw [← cpR_0 h0]; exact hS h0)) rfl rfl rfl rfl (Les.refl _)) ?_; refine .m ?_; refine .x (OpSem.extract rfl rfl rfl) ?_; refine .x (OpSem.extract rfl rfl rfl) ?_; refine .semM (OpSem.alloc 6 rfl zc64 rfl) rfl rfl (by decide) ?_; refine .sb vs64 ?_; refine .sb vs30 ?_; refine .sq ?_; refine .seq ?_; refine .block ?_; refine .seq ?_; refine .region ?_; refine .x (OpSem.loadbN rfl rfl rfl vs30 (by first | decide | simp)) ?_; refine .x (OpSem.build rfl rfl pl30 zc30 rfl rfl) ?_; refine .x (OpSem.neS2 rfl rfl rfl io30) ?_; refine .a ?_; refine .sq ?_; refine .cond rfl (fun c22 => ?_) (fun c22 => ?_)
  ·exfalso; simp at c22
  ·refine .seq ?_; refine .region ?_; refine .x (.f fo64_0) ?_; refine .x (.l vs3) ?_; refine .x (.b bneq) ?_; refine .a ?_; refine .sq ?_; refine .cond rfl (fun c28 => ?_) (fun c28 => ?_)
   ·have h2 : solT o ≠ 1 := by simpa using c28
    refine .seq ?_; refine PC.start [2] ?_; refine .x (OpSem.build rfl rfl pl28 zc28 rfl rfl) ?_; refine .x (OpSem.loadbN rfl rfl rfl vs30 (by first | decide | simp)) ?_; refine .storeb 100002 rfl rfl rfl rfl rfl rfl rfl vs28 (by first | decide | simp) ?_; refine .dn mixed ?_; refine .sb vs30 ?_; refine .sq ?_; refine .ret ?_; refine .block_ret ?_; refine .pass_ret ?_; exact .ret rfl (.cellN rfl rfl vs28 <| .cellN rfl rfl vs30 <| .nil) rfl (Le.t (.cons (Le.flt (bd_2 h0 h2)) <| .cons (Le.flt h0.symm) <| .nil))
   ·have h2 : solT o = 1 := by simpa using c28
    refine .skip ?_; refine .block_normal ?_; refine .seq ?_; refine .seq ?_; refine PC.start [2] ?_; refine .x (.f fo64_1) ?_; refine .x (.f fo28_0) ?_; refine .x (.l vs3) ?_; refine .x (OpSem.neg rfl rfl (neg_in (by omega) (by omega))) ?_; refine .x (.f fo64_1) ?_; refine .x (.f fo28_1) ?_; refine .x (.l vs3) ?_; refine .x (OpSem.build rfl rfl pl28 zc28 rfl rfl) ?_; refine .x (OpSem.loadbN rfl rfl rfl vs30 (by first | decide | simp)) ?_; refine .storeb 100009 rfl rfl rfl rfl rfl rfl rfl vs28 (by first | decide | simp) ?_; refine .dn mixed ?_; refine .sb vs30 ?_; refine .sq ?_; refine .ret ?_; exact .ret rfl (.cellN rfl rfl vs28 <| .cellN rfl rfl vs30 <| .nil) rfl (Le.t (.cons (Le.flt (bd_0 h0 h2)) <| .cons (Le.flt h0.symm) <| .nil))

theorem law_countingExample_does  : Does Try.prog false 9 [] (Bo true) := by
 refine Does.of_body Try.func9 rfl rfl (by simp) Try.call9 (fun w0 O0 => ?_); refine .seq ?_; refine .region ?_; refine .a ?_; refine .z ?_; refine .x (OpSem.le (s' := .d (ints [0])) (.bs es22 ze22) (Le.of_eq rfl)) ?_; refine .x (OpSem.le (s' := .d (ints [0])) (.bs es22 ze22) (Le.of_eq rfl)) ?_; refine .x (OpSem.le (s' := sopS ⟨[], [0], [], 2⟩) (OpSem.build rfl rfl pl35 zc35 rfl rfl) (Le.g (.cons (Le.nil 1) <| .cons (.refl _) <| .cons (Le.nil 1) <| .cons (.refl _) <| .nil))) ?_; refine .x (OpSem.le (s' := .d (sopsD exT.ops)) (.bs es23 ze23) (Le.of_eq rfl)) ?_; refine .x (OpSem.le (s' := tskS exT) (OpSem.build rfl rfl pl25 zc25 rfl rfl) (Le.g (.cons (.refl _) <| .cons (Le.nil 1) <| .cons (.refl _) <| .cons (.refl _) <| .nil))) ?_; refine .semM (OpSem.alloc 1 rfl zc25 rfl) rfl rfl (by decide) ?_; refine .sb vs25 ?_; refine .z ?_; refine .x (OpSem.loadbN rfl rfl rfl vs25 (by first | decide | simp)) ?_; refine .x (OpSem.call0 (counting_Program_does exT) rfl rfl rfl rfl (Les.refl _)) ?_; refine .m ?_; refine .x (OpSem.extract rfl rfl rfl) ?_; refine .x (OpSem.extract rfl rfl rfl) ?_; refine .semM (OpSem.alloc 2 rfl zc39 rfl) rfl rfl (by decide) ?_; refine .semM (OpSem.alloc 3 rfl zc30 rfl) rfl rfl (by decide) ?_; refine .sb vs39 ?_; refine .sb vs30 ?_; refine .z ?_; refine .x (OpSem.loadbN rfl rfl rfl vs25 (by first | decide | simp)) ?_; refine .x (OpSem.call0 (counting_Bound_does exT (some (-2, 1)) (fun _ => exT_s)) rfl rfl rfl rfl (Les.refl _)) ?_; refine .m ?_; refine .x (OpSem.extract rfl rfl rfl) ?_; refine .x (OpSem.extract rfl rfl rfl) ?_; refine .semM (OpSem.alloc 4 rfl zc28 rfl) rfl rfl (by decide) ?_; refine .semM (OpSem.alloc 5 rfl zc30 rfl) rfl rfl (by decide) ?_; refine .sb vs28 ?_; refine .sb vs30 ?_; refine .z ?_; refine .x (OpSem.loadbN rfl rfl rfl vs25 (by first | decide | simp)) ?_; refine .x (OpSem.le (s' := .d (ints [0, 0])) (.bs es22 ze22) (Le.of_eq rfl)) ?_; refine .x (OpSem.call0 (counting_Counts_does exT [0, 0]) rfl rfl rfl rfl (Les.refl _)) ?_; refine .m ?_; refine .x (OpSem.extract rfl rfl rfl) ?_; refine .x (OpSem.extract rfl rfl rfl) ?_; refine .semM (OpSem.alloc 7 rfl zc30 rfl) rfl rfl (by decide) ?_; refine .a ?_; refine .sb vs30 ?_; refine .z ?_; refine .x (.f fo30_0) ?_; refine .x (.l vs3) ?_; refine .x (.b beql) ?_; refine .m ?_; refine .gT rfl rfl rfl rfl (by rw [exT_c]; rfl) ?_; refine .x (.f fo30_0) ?_; refine .gT rfl rfl rfl rfl (by rw [exT_c]; rfl) ?_; refine .x (.l vs3) ?_; refine .gT rfl rfl rfl rfl (by rw [exT_c]; rfl) ?_; refine .x (.b beql) ?_; refine .x (OpSem.pickT rfl rfl (by rw [exT_c]; rfl) rfl) ?_; refine .m ?_; refine .gT rfl rfl rfl rfl (by rw [exT_c]; rfl) ?_; refine .x (.f fo30_0) ?_; refine .gT rfl rfl rfl rfl (by rw [exT_c]; rfl) ?_; refine .x (.l vs3) ?_; refine .gT rfl rfl rfl rfl (by rw [exT_c]; rfl) ?_; refine .x (.b beql) ?_; refine .x (OpSem.pickT rfl rfl (by rw [exT_c]; rfl) rfl) ?_; refine .m ?_; refine .gT rfl rfl rfl rfl (by rw [exT_n.2]; rfl) ?_; refine .x (.f fo39_0) ?_; refine .gT rfl rfl rfl rfl (by rw [exT_n.2]; rfl) ?_
 refine .x (.l vs37) ?_; refine .gT rfl rfl rfl rfl (by rw [exT_n.2]; rfl) ?_; refine .x (OpSem.lenL rfl rfl es37) ?_; refine .gT rfl rfl rfl rfl (by rw [exT_n.2]; rfl) ?_; refine .x (.b beql) ?_; refine .x (OpSem.pickT rfl rfl (by rw [exT_n.2]; rfl) rfl) ?_; refine .m ?_; refine .gT rfl rfl rfl rfl (by rw [exT_r]; rfl) ?_; refine .x (.f fo39_2) ?_; refine .gT rfl rfl rfl rfl (by rw [exT_r]; rfl) ?_; refine .x (.l vs22) ?_; refine .gT rfl rfl rfl rfl (by rw [exT_r]; rfl) ?_; refine .x (OpSem.le (s' := .d (ints [-2])) (.bs es22 ze22) (Le.of_eq rfl)) ?_; refine .gT rfl rfl rfl rfl (by rw [exT_r]; rfl) ?_; refine .x (OpSem.call0 (R_Ints_does (cpR exT).obj [-2]) rfl rfl rfl rfl (Les.refl _)) ?_; refine .x (OpSem.pickT rfl rfl (by rw [exT_r]; rfl) rfl) ?_; refine .m ?_; refine .gT rfl rfl rfl rfl (by rw [exT_r]; rfl) ?_; refine .x (OpSem.loadbN rfl rfl rfl vs28 (by first | decide | simp)) ?_; refine .gT rfl rfl rfl rfl (by rw [exT_r]; rfl) ?_; refine .x (OpSem.build rfl rfl pl28 zc28 rfl rfl) ?_; refine .gT rfl rfl rfl rfl (by rw [exT_r]; rfl) ?_; refine .x (OpSem.eqS2 rfl rfl rfl io28) ?_; refine .x (OpSem.pickT rfl rfl (by rw [exT_r]; rfl) rfl) ?_; refine .m ?_; refine .gT rfl rfl rfl rfl (by rw [exT_bd]; rfl) ?_; refine .m ?_; refine .gT rfl rfl rfl rfl (by rw [exT_bd]; rfl) ?_; refine .x (OpSem.le (s' := .d (ints [2])) (.bs es22 ze22) (Le.of_eq rfl)) ?_; refine .gT rfl rfl rfl rfl (by rw [exT_bd]; rfl) ?_; refine .x (OpSem.call0 (R_Ints_does (cntR exT [0, 0]) [2]) rfl rfl rfl rfl (Les.refl _)) ?_; refine .x (OpSem.pickT rfl rfl (by rw [exT_bd]; rfl) rfl) ?_; refine .a ?_; refine .sq ?_; refine .ret ?_; exact .ret rfl (.tmp rfl <| .nil) rfl (Le.bo (by rw [exT_n.1]; rfl))

end Go.Proofs.Ytlidcpmdgceboaa
end
