/- Part 8. -/
import Derived.Test.YthjmgcopfipabaaGreatE7
import Derived.Shelf.Lay
import Derived.Ground.SlgmProg
set_option linter.unusedSimpArgs false
set_option linter.unnecessarySimpa false
set_option linter.unusedVariables false
set_option linter.unusedSectionVars false
section
namespace Go.Proofs.YthjmgcopfipabaaGreat
open Go.Eng
set_option maxRecDepth 10000
set_option maxHeartbeats 1000000
theorem linear_newTableau_NP (p : LPr) (hp : LpOk p) : DoesNP Tryz.prog 72 [lprS p] (NewR p) := by
 have z1 := hp.r6
 have z2 := hp.o6
 have z3 := hp.b
 have hW : ntW p = p.obj.length + p.rws.length + 2 := rfl
 refine DoesNP.of_body Tryz.func72 rfl rfl (by simp) Tryz.call72 (fun w0 O0 => ?_); refine .g <| .r <| .bx 1 ?_; refine .a ?_; refine .sq <| .g <| PC.start [] ?_; refine .x (.f fo81_2) ?_; refine .x (.l vs22) ?_; refine .x (.n es22) ?_; refine .x (.f fo81_0) ?_; refine .x (.l vs58) ?_; refine .x (.n es58) ?_; refine .x (OpSem.move (.inr rfl) rfl) ?_; refine .d0 mixed ?_; refine .a ?_; refine .z <| .x (.bd pl122 zc122) ?_; refine .bx 20 ?_; refine .a ?_; refine .sq <| .g <| .g <| .pin0 200 ?_; refine .ownNilBox 191 20 0 1 22 rfl rfl rfl ?_; refine .ownNilBox 192 20 1 1 3 rfl rfl rfl ?_; refine .r <| .x (.f fo81_0) ?_; refine .x (.l vs58) ?_; refine .x (.n es58) ?_; refine .m ?_; refine .sq <| .k <| .loop (X := (Nat × List Blk)) (fun q => q.1 ≤ p.rws.length ∧ q.2.length = q.1 ∧ (q.2.map (·.1)).Nodup ∧ ∀ x, x ∈ q.2 → ntW p ≤ x.2.1 ∧ x.2.1 ≤ maxLen) (fun q => [(1, .r 1 0), (3, I (p.obj.length)), (4, I (p.rws.length)), (5, .r 20 0), (22, .d (rows p.rws)), (23, I (p.rws.length)), (24, I (q.1))]) (fun q => [(191, .own 1 22 ((rhd (ntW p) q.2).map fun v => [D.v v])), (192, .own 1 3 ((ntBs p q.1).map fun n => [D.v (.int .i64 n)])), (200, .any (pinK (rowF 3 (ntR p) q.2))), (1, .box [.d (rows p.rws), .d (ints p.bnd), .d (ints p.obj)]), (20, .box [.o 191, .o 192, I (1)])]) (fun q => p.rws.length - q.1) (0, []) ⟨by omega, rfl, by simp, by simp⟩ ?_ ?_
 ·exact .p5 <| .sl <| .slot rfl (Le.of_eq (by simp)) <| .memEq rfl rfl <| .memEq rfl rfl <| .memEq rfl (by rw [rowF_0]; rfl) <| .all
 ·rintro q ⟨hq1, hq2, hq3, hq4⟩
  refine .g <| .r <| .x (.b blss) ?_; refine .sq <| .g <| .cond rfl (fun c25 => ?_) (fun c25 => ?_)
  ·have hk : q.1 < p.rws.length := by simpa using c25
   have hrw := hp.w q.1 hk
   have hhl : (rhd (ntW p) q.2).length = q.1 := by simp [rhd, hq2]
   have hbl := ntBs_len (p := p) (k := q.1)
   refine .p <| .g <| .g <| .k <| .g <| .r <| .m ?_; refine .x (.i es58) ?_; refine .x (.l1 vs22) ?_; refine .a ?_; refine .a ?_; refine .z <| .mm ?_; refine .x .ad ?_; refine .x .ad ?_; refine .mk 33 es22 ze22 bye22 ?_; refine .a ?_; refine .sq <| .cut [(1, .r 1 0), (3, I (p.obj.length)), (4, I (p.rws.length)), (5, .r 20 0), (6, I (q.1)), (8, .o 33), (22, .d (rows p.rws)), (23, I (p.rws.length)), (24, I (q.1))] [(1, .box [.d (rows p.rws), .d (ints p.bnd), .d (ints p.obj)]), (20, .box [.o 191, .o 192, I (1)]), (33, .own 1 3 ((nth p.rws q.1 ++ List.replicate (p.rws.length + 2) (0 : Int)).map fun n => [D.v (.int .i64 n)])), (191, .own 1 22 ((rhd (ntW p) q.2).map fun v => [D.v v])), (192, .own 1 3 ((ntBs p q.1).map fun n => [D.v (.int .i64 n)])), (200, .any (pinK (rowF 3 (ntR p) q.2)))] ?_ ?_
   ·refine .r <| .mm ?_; refine .ofSt (OpSt.copyX rfl rfl rfl es22 (fun r hr => by obtain ⟨x, _, rfl⟩ := List.mem_map.1 hr; rfl) (by simp; omega) (by simp; omega)) rfl rfl rfl (by decide) ?_; exact .n <| .meet <| .p5 <| .p3 <| .sl <| .mem rfl <| .mem rfl <| .memEq rfl (by rw [el22]; simp [hrw, nt_dr]) <| .all
   ·refine .cut [(1, .r 1 0), (3, I (p.obj.length)), (4, I (p.rws.length)), (5, .r 20 0), (6, I (q.1)), (8, .o 33), (22, .d (rows p.rws)), (23, I (p.rws.length)), (24, I (q.1))] [(1, .box [.d (rows p.rws), .d (ints p.bnd), .d (ints p.obj)]), (20, .box [.o 191, .o 192, I (1)]), (33, .own 1 3 ((iv (ntRow p q.1)).map fun v => [D.v v])), (191, .own 1 22 ((rhd (ntW p) q.2).map fun v => [D.v v])), (192, .own 1 3 ((ntBs p q.1).map fun n => [D.v (.int .i64 n)])), (200, .any (pinK (rowF 3 (ntR p) q.2)))] ?_ ?_
    ·refine .r <| .mm ?_; refine .m ?_; refine .x .ad ?_; refine .mm ?_; refine .m ?_; refine .x .ad ?_; refine .mm ?_; refine .m ?_; refine .x .ad ?_; refine .x .ad ?_; refine .x (.f fo81_1) ?_; refine .x (.l vs22) ?_; refine .m ?_; refine .x (.i es22) ?_; refine .x (.l1 vs3) ?_; refine .x (OpSem.idxo rfl rfl rfl rfl es22 (by omega) (by simp [hrw]; omega)) ?_; refine .storeq rfl rfl rfl rfl rfl rfl rfl vs3 (rows_get (by omega) (by simp [hrw]; omega)) (by simp) ?_; refine .memEq (h := 33) (m' := .own 1 3 (((nth p.rws q.1 ++ List.replicate (p.rws.length + 2) (0 : Int)).set ((p.obj.length : Int) + (q.1 : Int)).toNat 1).map fun n => [D.v (.int .i64 n)])) rfl (by exact congrArg (Mo.own 1 3) (rows_set (f := fun n => [D.v (.int .i64 n)]))) ?_; refine .x (OpSem.idxo rfl rfl rfl rfl es22 (by omega) (by simp [hrw]; omega)) ?_; refine .storeq rfl rfl rfl rfl rfl rfl rfl vs3 (rows_get (by omega) (by simp [hrw]; omega)) (by simp) ?_; refine .memEq (h := 33) (m' := .own 1 3 ((((nth p.rws q.1 ++ List.replicate (p.rws.length + 2) (0 : Int)).set ((p.obj.length : Int) + (q.1 : Int)).toNat 1).set ((p.obj.length : Int) + (p.rws.length : Int)).toNat (-1)).map fun n => [D.v (.int .i64 n)])) rfl (by exact congrArg (Mo.own 1 3) (rows_set (f := fun n => [D.v (.int .i64 n)]))) ?_; refine .x (OpSem.idxo rfl rfl rfl rfl es22 (by omega) (by simp [hrw]; omega)) ?_; refine .storeq rfl rfl rfl rfl rfl rfl rfl vs3 (rows_get (by omega) (by simp [hrw]; omega)) (by simp) ?_; refine .memEq (h := 33) (m' := .own 1 3 (((((nth p.rws q.1 ++ List.replicate (p.rws.length + 2) (0 : Int)).set ((p.obj.length : Int) + (q.1 : Int)).toNat 1).set ((p.obj.length : Int) + (p.rws.length : Int)).toNat (-1)).set ((p.obj.length : Int) + (p.rws.length : Int) + 1).toNat (nth p.bnd q.1)).map fun n => [D.v (.int .i64 n)])) rfl (by exact congrArg (Mo.own 1 3) (rows_set (f := fun n => [D.v (.int .i64 n)]))) ?_; exact .n <| .meet <| .p5 <| .p3 <| .sl <| .mem rfl <| .mem rfl <| .memEq rfl (by rw [← ntRow_s hk hrw, nt_i1, nt_i1, nt_i3]; simp [iv, List.map_set]; rfl) <| .all
    ·refine .g <| .pinOwn 200 33 (T := 3) (l := iv (ntRow p q.1)) rfl rfl (by decide) (fun e => by have h := congrArg List.length e; simp [iv, ntRow_len, hW] at h) (fun b cap tl hF hcp hcm => ?_)
     have hil : (iv (ntRow p q.1)).length = ntW p := by simp [iv, ntRow_len]
     refine .r <| .mm ?_; refine .x (OpSem.nilr rfl rfl) ?_; refine .x (.f fo122_0) ?_; refine .x (.l vs58) ?_; refine .m ?_; refine .x (.bs es58 ze58) ?_; refine .ap es58 el58 zc22 by22 ?_; refine .x (OpSem.nilr rfl rfl) ?_; refine .x (.f fo122_0) ?_; refine .sb vs58 ?_; refine .y <| .mm ?_; refine .x (OpSem.nilr rfl rfl) ?_; refine .x (.f fo122_1) ?_; refine .x (.l vs22) ?_; refine .mm ?_; refine .x .ad ?_; refine .x (.bs es22 ze22) ?_; refine .ap es22 el22 zc3 by3 ?_; refine .x (OpSem.nilr rfl rfl) ?_; refine .x (.f fo122_1) ?_; refine .sb vs22 ?_; refine .n <| .n <| .y <| .x .ad ?_; refine .m ?_; refine .n <| .again (q.1 + 1, q.2 ++ [(b, cap, tl)]) ⟨by simp only []; omega, by simp [hq2], by simp only [List.map_append]; exact nd_snoc hq3 (rowF_none hF), nt_caps hq4 ntRow_len hcp hcm⟩ ?_ (by simp only []; omega)
     exact .p5 <| .sl <| .slot rfl (Le.of_eq (by simp)) <| .memEq rfl (by rw [rhd_s, List.map_append, hil]; rfl) <| .memEq rfl (by rw [ntBs_s, List.map_append]; rfl) <| .memEq rfl (by rw [pin_r (cap := cap) hk hq2 hF]; rfl) <| .all
  ·have hk : q.1 = p.rws.length := by simp at c25; omega
   have hL : q.2.length = p.rws.length := by omega
   have hhl : (rhd (ntW p) q.2).length = p.rws.length := by simp [rhd, hL]
   refine .u <| .u <| .u <| .b <| .g <| .g <| .lattice 12 [Ff, Ff, Ff, Ff, Ff, Ff, Ff, Ff, Ff, Ff, Ff, Ff] mixed rfl rfl ?_; refine .share 0 [Tt, Tt, Tt, Tt, Tt, Tt, Tt, Tt, Tt, Tt, Tt, Tt] [(1, .r 1 0), (3, I (p.obj.length)), (4, I (p.rws.length)), (5, .r 20 0), (9, .o 85), (10, .o 90)] [(1, .box [.d (rows p.rws), .d (ints p.bnd), .d (ints p.obj)]), (20, .box [.o 191, .o 192, I (1)]), (191, .own 1 22 ((rhd (ntW p) q.2).map fun v => [D.v v])), (192, .own 1 3 ((ntBs p q.1).map fun n => [D.v (.int .i64 n)])), (200, .any (pinK (rowF 3 (ntR p) q.2))), (85, .own 1 3 ((List.replicate (ntW p) (0 : Int)).map fun n => [D.v (.int .i64 n)])), (90, .own 1 3 ((List.replicate (ntW p) (0 : Int)).map fun n => [D.v (.int .i64 n)]))] ?_ (fun h_56 => ?_)
   ·refine .fin (by kernel_rfl) ?_; refine .g <| .g <| .g <| .r <| .x (.f fo81_2) ?_; refine .x (.l vs22) ?_; refine .x (.n es22) ?_; refine .m ?_; refine .sq <| .k <| .loop (X := Nat) (fun j => j ≤ p.obj.length) (fun j => [(3, I (p.obj.length)), (4, I (p.rws.length)), (5, .r 20 0), (9, .o 85), (10, .o 90), (92, .d (ints p.obj)), (93, I (p.obj.length)), (94, I (j))]) (fun j => [(191, .own 1 22 ((rhd (ntW p) q.2).map fun v => [D.v v])), (192, .own 1 3 ((ntBs p q.1).map fun n => [D.v (.int .i64 n)])), (200, .any (pinK (rowF 3 (ntR p) q.2))), (85, .own 1 3 ((ntGo p j).map fun n => [D.v (.int .i64 n)])), (90, .own 1 3 ((List.replicate (ntW p) (0 : Int)).map fun n => [D.v (.int .i64 n)])), (20, .box [.o 191, .o 192, I (1)])]) (fun j => p.obj.length - j) 0 (by omega) ?_ ?_
    ·exact .p5 <| .p2 <| .slot rfl (Le.of_eq (by simp)) <| .mem rfl <| .mem rfl <| .mem rfl <| .memEq rfl (by rw [ntGo_0]) <| .all
    ·rintro j hjl
     refine .g <| .r <| .x (.b blss) ?_; refine .sq <| .g <| .cond rfl (fun c95 => ?_) (fun c95 => ?_)
     ·have hk : j < p.obj.length := by simpa using c95
      have ho := hp.o j hk
      have hgl := ntGo_len (p := p) (k := j)
      refine .p <| .g <| .g <| .k <| .g <| .r <| .m ?_; refine .x (.i es22) ?_; refine .x (.l1 vs3) ?_; refine .a ?_; refine .a ?_; refine .y <| .mm ?_; refine .m ?_; refine .x (OpSem.neg rfl rfl (neg_in (by omega) (by omega))) ?_; refine .x (OpSem.idxo rfl rfl rfl rfl es22 (by omega) (by simp; omega)) ?_; refine .storeq rfl rfl rfl rfl rfl rfl rfl vs3 (rows_get (by omega) (by omega)) (by simp) ?_; refine .n <| .n <| .y <| .x .ad ?_; refine .m ?_; refine .n <| .again (j + 1) (by omega) ?_ (by omega); exact .p5 <| .p2 <| .slot rfl (Le.of_eq (by simp)) <| .mem rfl <| .mem rfl <| .mem rfl <| .memEq rfl (by rw [← ntGo_s (by omega)]; exact congrArg (Mo.own 1 3) (rows_set (f := fun n => [D.v (.int .i64 n)]))) <| .all
     ·have hk : j = p.obj.length := by simp at c95; omega
      subst hk
      refine .u <| .u <| .u <| .b <| .g <| .cut [(3, I (p.obj.length)), (4, I (p.rws.length)), (5, .r 20 0), (9, .o 85), (10, .o 90)] [(20, .box [.o 191, .o 192, I (1)]), (85, .own 1 3 ((iv (ntGoal p)).map fun v => [D.v v])), (90, .own 1 3 ((iv (ntArt p)).map fun v => [D.v v])), (191, .own 1 22 ((rhd (ntW p) q.2).map fun v => [D.v v])), (192, .own 1 3 ((ntBs p q.1).map fun n => [D.v (.int .i64 n)])), (200, .any (pinK (rowF 3 (ntR p) q.2)))] ?_ ?_
      ·refine .r <| .mm ?_; refine .m ?_; refine .x .ad ?_; refine .x (OpSem.idxo rfl rfl rfl rfl es22 (by omega) (by simp; omega)) ?_; refine .storeq rfl rfl rfl rfl rfl rfl rfl vs3 (rows_get (by omega) (by simp; omega)) (by simp) ?_; exact .n <| .meet <| .p5 <| .mem rfl <| .memEq rfl (by simp [iv, ntGoal]) <| .memEq rfl (by rw [← ntArt_s, nt_i1]; simp [iv, List.map_set]) <| .all
      ·refine .g <| .pinOwn 200 85 (T := 3) (l := iv (ntGoal p)) rfl rfl (by decide) (fun e => by have h := congrArg List.length e; simp [iv, ntGoal, ntGo_len, hW] at h) (fun b1 cap1 tl1 hF1 hcp1 hcm1 => ?_); refine .pinEq (h := 200) rfl (pin_g (cap := cap1) hL hF1) ?_; refine .pinOwn 200 90 (T := 3) (l := iv (ntArt p)) rfl rfl (by decide) (fun e => by have h := congrArg List.length e; simp [iv, ntArt_len, hW] at h) (fun b2 cap2 tl2 hF2 hcp2 hcm2 => ?_); refine .pinEq (h := 200) rfl (pin_a (cap := cap2) (L := q.2 ++ [(b1, cap1, tl1)]) (by simp [hL]) hF2) ?_
       have hi1 : (iv (ntGoal p)).length = ntW p := by simp [iv, ntGoal, ntGo_len]
       have hi2 : (iv (ntArt p)).length = ntW p := by simp [iv, ntArt_len]
       refine .r <| .mm ?_; refine .x (OpSem.nilr rfl rfl) ?_; refine .x (.f fo122_0) ?_; refine .x (.l vs58) ?_; refine .mm ?_; refine .x (.bs es58 ze58) ?_; refine .ap es58 el58 zc22 by22 ?_; refine .x (OpSem.nilr rfl rfl) ?_; refine .x (.f fo122_0) ?_; refine .sb vs58 ?_; refine .sq <| .g ?_
       have hL2 : (q.2 ++ [(b1, cap1, tl1)] ++ [(b2, cap2, tl2)]).length = p.rws.length + 2 := by simp [hL]
       have hnd2 : ((q.2 ++ [(b1, cap1, tl1)] ++ [(b2, cap2, tl2)]).map (·.1)).Nodup := by rw [List.map_append]; exact nd_snoc (by rw [List.map_append]; exact nd_snoc hq3 (rowF_none hF1)) (rowF_none hF2)
       have hcc2 := nt_caps (b := b2) (cap := cap2) (tl := tl2) (nt_caps (b := b1) (cap := cap1) (tl := tl1) hq4 (ntGo_len (k := p.obj.length)) hcp1 hcm1) ntArt_len hcp2 hcm2
       refine .memEq (h := 191) (m' := .own 1 22 ((rhd (ntW p) (q.2 ++ [(b1, cap1, tl1)] ++ [(b2, cap2, tl2)])).map fun v => [D.v v])) rfl (by rw [rhd_s, rhd_s, hi1, hi2, List.map_append, List.map_append]; simp) ?_; refine .memEq (h := 192) (m' := .own 1 3 ((iv (ntBs p p.rws.length)).map fun v => [D.v v])) rfl (by rw [hk]; simp [iv]; rfl) ?_; refine .pinOwn 200 191 (T := 22) (l := rhd (ntW p) (q.2 ++ [(b1, cap1, tl1)] ++ [(b2, cap2, tl2)])) rfl rfl (by decide) (fun e => by have h := congrArg List.length e; simp [rhd] at h) (fun r rc rt hr hrc1 hrc2 => ?_); refine .pinOwn0 200 192 (T := 3) (l := iv (ntBs p p.rws.length)) rfl rfl (by decide) (fun a bb bc bt F2 hb1 hb2 hb3 => ?_); refine .pinBox 200 20 (l := [slc r (rhd (ntW p) (q.2 ++ [(b1, cap1, tl1)] ++ [(b2, cap2, tl2)])).length rc, .slice a (iv (ntBs p p.rws.length)).length bc, .int .i64 1]) rfl rfl rfl (by decide) (fun s Tt hs => ?_); refine .r <| .m ?_; refine .a ?_; exact .sq <| .t <| .retNP (h := 200) rfl rfl rfl (new_fin hp hL2 hnd2 hcc2 hr ⟨hrc1, hrc2⟩ rfl ⟨hb1, hb2⟩ hb3 hs rfl)
   refine .share 1 [Tt, Tt, Tt, Tt, Tt, Tt, Tt, Tt, Tt, Tt, Tt, Ff] [(1, .r 1 0), (3, I (p.obj.length)), (4, I (p.rws.length)), (5, .r 20 0), (9, .o 85), (90, .o 90)] [(1, .box [.d (rows p.rws), .d (ints p.bnd), .d (ints p.obj)]), (20, .box [.o 191, .o 192, I (1)]), (191, .own 1 22 ((rhd (ntW p) q.2).map fun v => [D.v v])), (192, .own 1 3 ((ntBs p q.1).map fun n => [D.v (.int .i64 n)])), (200, .any (pinK (rowF 3 (ntR p) q.2))), (85, .own 1 3 ((List.replicate (ntW p) (0 : Int)).map fun n => [D.v (.int .i64 n)])), (90, .own 1 3 ((List.replicate (ntW p) (0 : Int)).map fun n => [D.v (.int .i64 n)]))] ?_ (fun h_55 => ?_)
   ·refine .st [11] ⟨?_, trivial⟩
    ·refine .v _ ?_; refine .a ?_; exact .j h_56
   refine .share 2 [Tt, Tt, Tt, Tt, Tt, Tt, Tt, Tt, Tt, Tt, Ff, Ff] [(1, .r 1 0), (3, I (p.obj.length)), (4, I (p.rws.length)), (5, .r 20 0), (85, .o 85), (90, .o 90)] [(1, .box [.d (rows p.rws), .d (ints p.bnd), .d (ints p.obj)]), (20, .box [.o 191, .o 192, I (1)]), (191, .own 1 22 ((rhd (ntW p) q.2).map fun v => [D.v v])), (192, .own 1 3 ((ntBs p q.1).map fun n => [D.v (.int .i64 n)])), (200, .any (pinK (rowF 3 (ntR p) q.2))), (85, .own 1 3 ((List.replicate (ntW p) (0 : Int)).map fun n => [D.v (.int .i64 n)])), (90, .own 1 3 ((List.replicate (ntW p) (0 : Int)).map fun n => [D.v (.int .i64 n)]))] ?_ (fun h_53 => ?_)
   ·refine .st [10] ⟨?_, trivial⟩
    ·refine .v _ ?_; refine .a ?_; exact .j h_55
   refine .share 2 [Tt, Tt, Tt, Tt, Tt, Tt, Tt, Tt, Tt, Ff, Tt, Ff] [(1, .r 1 0), (3, I (p.obj.length)), (4, I (p.rws.length)), (5, .r 20 0), (9, .o 85), (89, I ((p.obj.length + p.rws.length) + 2))] [(1, .box [.d (rows p.rws), .d (ints p.bnd), .d (ints p.obj)]), (20, .box [.o 191, .o 192, I (1)]), (191, .own 1 22 ((rhd (ntW p) q.2).map fun v => [D.v v])), (192, .own 1 3 ((ntBs p q.1).map fun n => [D.v (.int .i64 n)])), (200, .any (pinK (rowF 3 (ntR p) q.2))), (85, .own 1 3 ((List.replicate (ntW p) (0 : Int)).map fun n => [D.v (.int .i64 n)]))] ?_ (fun h_54 => ?_)
   ·refine .st [9] ⟨?_, trivial⟩
    ·refine .v _ ?_; refine .mk 90 es22 ze22 bye22 ?_; exact TrL.join h_55 rfl (.p5 <| .sl <| .mem rfl <| .mem rfl <| .mem rfl <| .mem rfl <| .mem rfl <| .mem rfl <| .memEq rfl (by rw [el22]; first | (simp; done) | (simp; rfl)) <| .nil)
   refine .share 3 [Tt, Tt, Tt, Tt, Tt, Tt, Tt, Tt, Tt, Ff, Ff, Ff] [(1, .r 1 0), (3, I (p.obj.length)), (4, I (p.rws.length)), (5, .r 20 0), (85, .o 85), (89, I ((p.obj.length + p.rws.length) + 2))] [(1, .box [.d (rows p.rws), .d (ints p.bnd), .d (ints p.obj)]), (20, .box [.o 191, .o 192, I (1)]), (191, .own 1 22 ((rhd (ntW p) q.2).map fun v => [D.v v])), (192, .own 1 3 ((ntBs p q.1).map fun n => [D.v (.int .i64 n)])), (200, .any (pinK (rowF 3 (ntR p) q.2))), (85, .own 1 3 ((List.replicate (ntW p) (0 : Int)).map fun n => [D.v (.int .i64 n)]))] ?_ (fun h_50 => ?_)
   ·refine .st [9, 10] ⟨?_, ?_, trivial⟩
    ·refine .v _ ?_; refine .mk 90 es22 ze22 bye22 ?_; exact TrL.join h_53 rfl (.p5 <| .sl <| .mem rfl <| .mem rfl <| .mem rfl <| .mem rfl <| .mem rfl <| .mem rfl <| .memEq rfl (by rw [el22]; first | (simp; done) | (simp; rfl)) <| .nil)
    ·refine .v _ ?_; refine .a ?_; exact .j h_54
   refine .share 3 [Tt, Tt, Tt, Tt, Tt, Tt, Tt, Tt, Ff, Ff, Tt, Ff] [(1, .r 1 0), (3, I (p.obj.length)), (4, I (p.rws.length)), (5, .r 20 0), (9, .o 85), (88, I (p.obj.length + p.rws.length))] [(1, .box [.d (rows p.rws), .d (ints p.bnd), .d (ints p.obj)]), (20, .box [.o 191, .o 192, I (1)]), (191, .own 1 22 ((rhd (ntW p) q.2).map fun v => [D.v v])), (192, .own 1 3 ((ntBs p q.1).map fun n => [D.v (.int .i64 n)])), (200, .any (pinK (rowF 3 (ntR p) q.2))), (85, .own 1 3 ((List.replicate (ntW p) (0 : Int)).map fun n => [D.v (.int .i64 n)]))] ?_ (fun h_51 => ?_)
   ·exact .st [8] ⟨.x rfl .ad h_54, trivial⟩
   refine .share 3 [Tt, Tt, Tt, Tt, Ff, Tt, Tt, Tt, Tt, Tt, Ff, Ff] [(1, .r 1 0), (3, I (p.obj.length)), (4, I (p.rws.length)), (5, .r 20 0), (84, I ((p.obj.length + p.rws.length) + 2)), (90, .o 90)] [(1, .box [.d (rows p.rws), .d (ints p.bnd), .d (ints p.obj)]), (20, .box [.o 191, .o 192, I (1)]), (191, .own 1 22 ((rhd (ntW p) q.2).map fun v => [D.v v])), (192, .own 1 3 ((ntBs p q.1).map fun n => [D.v (.int .i64 n)])), (200, .any (pinK (rowF 3 (ntR p) q.2))), (90, .own 1 3 ((List.replicate (ntW p) (0 : Int)).map fun n => [D.v (.int .i64 n)]))] ?_ (fun h_52 => ?_)
   ·refine .st [4] ⟨?_, trivial⟩
    ·refine .v _ ?_; refine .mk 85 es22 ze22 bye22 ?_; exact TrL.join h_53 rfl (.p5 <| .sl <| .mem rfl <| .mem rfl <| .mem rfl <| .mem rfl <| .mem rfl <| .memEq rfl (by rw [el22]; first | (simp; done) | (simp; rfl)) <| .mem rfl <| .nil)
   refine .share 4 [Tt, Tt, Tt, Tt, Tt, Tt, Tt, Tt, Ff, Ff, Ff, Ff] [(1, .r 1 0), (3, I (p.obj.length)), (4, I (p.rws.length)), (5, .r 20 0), (85, .o 85), (88, I (p.obj.length + p.rws.length))] [(1, .box [.d (rows p.rws), .d (ints p.bnd), .d (ints p.obj)]), (20, .box [.o 191, .o 192, I (1)]), (191, .own 1 22 ((rhd (ntW p) q.2).map fun v => [D.v v])), (192, .own 1 3 ((ntBs p q.1).map fun n => [D.v (.int .i64 n)])), (200, .any (pinK (rowF 3 (ntR p) q.2))), (85, .own 1 3 ((List.replicate (ntW p) (0 : Int)).map fun n => [D.v (.int .i64 n)]))] ?_ (fun h_46 => ?_)
   ·refine .st [8, 10] ⟨?_, ?_, trivial⟩
    ·exact .x rfl .ad h_50
    ·refine .v _ ?_; refine .a ?_; exact .j h_51
   refine .share 4 [Tt, Tt, Tt, Tt, Tt, Tt, Tt, Ff, Ff, Ff, Tt, Ff] [(1, .r 1 0), (3, I (p.obj.length)), (4, I (p.rws.length)), (5, .r 20 0), (9, .o 85), (86, I (p.obj.length)), (87, I (p.rws.length))] [(1, .box [.d (rows p.rws), .d (ints p.bnd), .d (ints p.obj)]), (20, .box [.o 191, .o 192, I (1)]), (191, .own 1 22 ((rhd (ntW p) q.2).map fun v => [D.v v])), (192, .own 1 3 ((ntBs p q.1).map fun n => [D.v (.int .i64 n)])), (200, .any (pinK (rowF 3 (ntR p) q.2))), (85, .own 1 3 ((List.replicate (ntW p) (0 : Int)).map fun n => [D.v (.int .i64 n)]))] ?_ (fun h_47 => ?_)
   ·exact .st [7] ⟨.x rfl .ad h_51, trivial⟩
   refine .share 4 [Tt, Tt, Tt, Tt, Ff, Tt, Tt, Tt, Tt, Ff, Ff, Ff] [(1, .r 1 0), (3, I (p.obj.length)), (4, I (p.rws.length)), (5, .r 20 0), (84, I ((p.obj.length + p.rws.length) + 2)), (89, I ((p.obj.length + p.rws.length) + 2))] [(1, .box [.d (rows p.rws), .d (ints p.bnd), .d (ints p.obj)]), (20, .box [.o 191, .o 192, I (1)]), (191, .own 1 22 ((rhd (ntW p) q.2).map fun v => [D.v v])), (192, .own 1 3 ((ntBs p q.1).map fun n => [D.v (.int .i64 n)])), (200, .any (pinK (rowF 3 (ntR p) q.2)))] ?_ (fun h_48 => ?_)
   ·refine .st [4, 9] ⟨?_, ?_, trivial⟩
    ·refine .v _ ?_; refine .mk 85 es22 ze22 bye22 ?_; exact TrL.join h_50 rfl (.p5 <| .sl <| .mem rfl <| .mem rfl <| .mem rfl <| .mem rfl <| .mem rfl <| .memEq rfl (by rw [el22]; first | (simp; done) | (simp; rfl)) <| .nil)
    ·refine .v _ ?_; refine .mk 90 es22 ze22 bye22 ?_; exact TrL.join h_52 rfl (.p5 <| .sl <| .mem rfl <| .mem rfl <| .mem rfl <| .mem rfl <| .mem rfl <| .memEq rfl (by rw [el22]; first | (simp; done) | (simp; rfl)) <| .nil)
   refine .share 4 [Tt, Tt, Tt, Ff, Ff, Tt, Tt, Tt, Tt, Tt, Ff, Ff] [(1, .r 1 0), (3, I (p.obj.length)), (4, I (p.rws.length)), (5, .r 20 0), (83, I (p.obj.length + p.rws.length)), (90, .o 90)] [(1, .box [.d (rows p.rws), .d (ints p.bnd), .d (ints p.obj)]), (20, .box [.o 191, .o 192, I (1)]), (191, .own 1 22 ((rhd (ntW p) q.2).map fun v => [D.v v])), (192, .own 1 3 ((ntBs p q.1).map fun n => [D.v (.int .i64 n)])), (200, .any (pinK (rowF 3 (ntR p) q.2))), (90, .own 1 3 ((List.replicate (ntW p) (0 : Int)).map fun n => [D.v (.int .i64 n)]))] ?_ (fun h_49 => ?_)
   ·exact .st [3] ⟨.x rfl .ad h_52, trivial⟩
   refine .share 5 [Tt, Tt, Tt, Tt, Tt, Tt, Tt, Ff, Ff, Ff, Ff, Ff] [(1, .r 1 0), (3, I (p.obj.length)), (4, I (p.rws.length)), (5, .r 20 0), (85, .o 85), (86, I (p.obj.length)), (87, I (p.rws.length))] [(1, .box [.d (rows p.rws), .d (ints p.bnd), .d (ints p.obj)]), (20, .box [.o 191, .o 192, I (1)]), (191, .own 1 22 ((rhd (ntW p) q.2).map fun v => [D.v v])), (192, .own 1 3 ((ntBs p q.1).map fun n => [D.v (.int .i64 n)])), (200, .any (pinK (rowF 3 (ntR p) q.2))), (85, .own 1 3 ((List.replicate (ntW p) (0 : Int)).map fun n => [D.v (.int .i64 n)]))] ?_ (fun h_40 => ?_)
   ·refine .st [7, 10] ⟨?_, ?_, trivial⟩
    ·exact .x rfl .ad h_46
    ·refine .v _ ?_; refine .a ?_; exact .j h_47
   refine .share 5 [Tt, Tt, Tt, Tt, Tt, Tt, Ff, Ff, Ff, Ff, Tt, Ff] [(1, .r 1 0), (3, I (p.obj.length)), (4, I (p.rws.length)), (5, .r 20 0), (9, .o 85), (86, I (p.obj.length))] [(1, .box [.d (rows p.rws), .d (ints p.bnd), .d (ints p.obj)]), (20, .box [.o 191, .o 192, I (1)]), (191, .own 1 22 ((rhd (ntW p) q.2).map fun v => [D.v v])), (192, .own 1 3 ((ntBs p q.1).map fun n => [D.v (.int .i64 n)])), (200, .any (pinK (rowF 3 (ntR p) q.2))), (85, .own 1 3 ((List.replicate (ntW p) (0 : Int)).map fun n => [D.v (.int .i64 n)]))] ?_ (fun h_41 => ?_)
   ·exact .st [6] ⟨.m h_47, trivial⟩
   refine .share 5 [Tt, Tt, Tt, Tt, Tt, Ff, Tt, Ff, Ff, Ff, Tt, Ff] [(1, .r 1 0), (3, I (p.obj.length)), (4, I (p.rws.length)), (5, .r 20 0), (9, .o 85), (87, I (p.rws.length))] [(1, .box [.d (rows p.rws), .d (ints p.bnd), .d (ints p.obj)]), (20, .box [.o 191, .o 192, I (1)]), (191, .own 1 22 ((rhd (ntW p) q.2).map fun v => [D.v v])), (192, .own 1 3 ((ntBs p q.1).map fun n => [D.v (.int .i64 n)])), (200, .any (pinK (rowF 3 (ntR p) q.2))), (85, .own 1 3 ((List.replicate (ntW p) (0 : Int)).map fun n => [D.v (.int .i64 n)]))] ?_ (fun h_42 => ?_)
   ·exact .st [5] ⟨.m h_47, trivial⟩
   refine .share 5 [Tt, Tt, Tt, Tt, Ff, Tt, Tt, Tt, Ff, Ff, Ff, Ff] [(1, .r 1 0), (3, I (p.obj.length)), (4, I (p.rws.length)), (5, .r 20 0), (84, I ((p.obj.length + p.rws.length) + 2)), (88, I (p.obj.length + p.rws.length))] [(1, .box [.d (rows p.rws), .d (ints p.bnd), .d (ints p.obj)]), (20, .box [.o 191, .o 192, I (1)]), (191, .own 1 22 ((rhd (ntW p) q.2).map fun v => [D.v v])), (192, .own 1 3 ((ntBs p q.1).map fun n => [D.v (.int .i64 n)])), (200, .any (pinK (rowF 3 (ntR p) q.2)))] ?_ (fun h_43 => ?_)
   ·refine .st [4, 8] ⟨?_, ?_, trivial⟩
    ·refine .v _ ?_; refine .mk 85 es22 ze22 bye22 ?_; exact TrL.join h_46 rfl (.p5 <| .sl <| .mem rfl <| .mem rfl <| .mem rfl <| .mem rfl <| .mem rfl <| .memEq rfl (by rw [el22]; first | (simp; done) | (simp; rfl)) <| .nil)
    ·exact .x rfl .ad h_48
   refine .share 5 [Tt, Tt, Tt, Ff, Ff, Tt, Tt, Tt, Tt, Ff, Ff, Ff] [(1, .r 1 0), (3, I (p.obj.length)), (4, I (p.rws.length)), (5, .r 20 0), (83, I (p.obj.length + p.rws.length)), (89, I ((p.obj.length + p.rws.length) + 2))] [(1, .box [.d (rows p.rws), .d (ints p.bnd), .d (ints p.obj)]), (20, .box [.o 191, .o 192, I (1)]), (191, .own 1 22 ((rhd (ntW p) q.2).map fun v => [D.v v])), (192, .own 1 3 ((ntBs p q.1).map fun n => [D.v (.int .i64 n)])), (200, .any (pinK (rowF 3 (ntR p) q.2)))] ?_ (fun h_44 => ?_)
   ·refine .st [3, 9] ⟨?_, ?_, trivial⟩
    ·exact .x rfl .ad h_48
    ·refine .v _ ?_; refine .mk 90 es22 ze22 bye22 ?_; exact TrL.join h_49 rfl (.p5 <| .sl <| .mem rfl <| .mem rfl <| .mem rfl <| .mem rfl <| .mem rfl <| .memEq rfl (by rw [el22]; first | (simp; done) | (simp; rfl)) <| .nil)
   refine .share 5 [Tt, Tt, Ff, Ff, Ff, Tt, Tt, Tt, Tt, Tt, Ff, Ff] [(1, .r 1 0), (3, I (p.obj.length)), (4, I (p.rws.length)), (5, .r 20 0), (81, I (p.obj.length)), (82, I (p.rws.length)), (90, .o 90)] [(1, .box [.d (rows p.rws), .d (ints p.bnd), .d (ints p.obj)]), (20, .box [.o 191, .o 192, I (1)]), (191, .own 1 22 ((rhd (ntW p) q.2).map fun v => [D.v v])), (192, .own 1 3 ((ntBs p q.1).map fun n => [D.v (.int .i64 n)])), (200, .any (pinK (rowF 3 (ntR p) q.2))), (90, .own 1 3 ((List.replicate (ntW p) (0 : Int)).map fun n => [D.v (.int .i64 n)]))] ?_ (fun h_45 => ?_)
   ·exact .st [2] ⟨.x rfl .ad h_49, trivial⟩
   refine .share 6 [Tt, Tt, Tt, Tt, Tt, Tt, Ff, Ff, Ff, Ff, Ff, Ff] [(1, .r 1 0), (3, I (p.obj.length)), (4, I (p.rws.length)), (5, .r 20 0), (85, .o 85), (86, I (p.obj.length))] [(1, .box [.d (rows p.rws), .d (ints p.bnd), .d (ints p.obj)]), (20, .box [.o 191, .o 192, I (1)]), (191, .own 1 22 ((rhd (ntW p) q.2).map fun v => [D.v v])), (192, .own 1 3 ((ntBs p q.1).map fun n => [D.v (.int .i64 n)])), (200, .any (pinK (rowF 3 (ntR p) q.2))), (85, .own 1 3 ((List.replicate (ntW p) (0 : Int)).map fun n => [D.v (.int .i64 n)]))] ?_ (fun h_32 => ?_)
   ·refine .st [6, 10] ⟨?_, ?_, trivial⟩
    ·exact .m h_40
    ·refine .v _ ?_; refine .a ?_; exact .j h_41
   refine .share 6 [Tt, Tt, Tt, Tt, Tt, Ff, Tt, Ff, Ff, Ff, Ff, Ff] [(1, .r 1 0), (3, I (p.obj.length)), (4, I (p.rws.length)), (5, .r 20 0), (85, .o 85), (87, I (p.rws.length))] [(1, .box [.d (rows p.rws), .d (ints p.bnd), .d (ints p.obj)]), (20, .box [.o 191, .o 192, I (1)]), (191, .own 1 22 ((rhd (ntW p) q.2).map fun v => [D.v v])), (192, .own 1 3 ((ntBs p q.1).map fun n => [D.v (.int .i64 n)])), (200, .any (pinK (rowF 3 (ntR p) q.2))), (85, .own 1 3 ((List.replicate (ntW p) (0 : Int)).map fun n => [D.v (.int .i64 n)]))] ?_ (fun h_33 => ?_)
   ·refine .st [5, 10] ⟨?_, ?_, trivial⟩
    ·exact .m h_40
    ·refine .v _ ?_; refine .a ?_; exact .j h_42
   refine .share 6 [Tt, Tt, Tt, Tt, Tt, Ff, Ff, Ff, Ff, Ff, Tt, Ff] [(1, .r 1 0), (3, I (p.obj.length)), (4, I (p.rws.length)), (5, .r 20 0), (9, .o 85)] [(1, .box [.d (rows p.rws), .d (ints p.bnd), .d (ints p.obj)]), (20, .box [.o 191, .o 192, I (1)]), (191, .own 1 22 ((rhd (ntW p) q.2).map fun v => [D.v v])), (192, .own 1 3 ((ntBs p q.1).map fun n => [D.v (.int .i64 n)])), (200, .any (pinK (rowF 3 (ntR p) q.2))), (85, .own 1 3 ((List.replicate (ntW p) (0 : Int)).map fun n => [D.v (.int .i64 n)]))] ?_ (fun h_34 => ?_)
   ·exact .st [5, 6] ⟨.m h_41, .m h_42, trivial⟩
   refine .share 6 [Tt, Tt, Tt, Tt, Ff, Tt, Tt, Ff, Ff, Ff, Ff, Ff] [(1, .r 1 0), (3, I (p.obj.length)), (4, I (p.rws.length)), (5, .r 20 0), (84, I ((p.obj.length + p.rws.length) + 2)), (86, I (p.obj.length)), (87, I (p.rws.length))] [(1, .box [.d (rows p.rws), .d (ints p.bnd), .d (ints p.obj)]), (20, .box [.o 191, .o 192, I (1)]), (191, .own 1 22 ((rhd (ntW p) q.2).map fun v => [D.v v])), (192, .own 1 3 ((ntBs p q.1).map fun n => [D.v (.int .i64 n)])), (200, .any (pinK (rowF 3 (ntR p) q.2)))] ?_ (fun h_35 => ?_)
   ·refine .st [4, 7] ⟨?_, ?_, trivial⟩
    ·refine .v _ ?_; refine .mk 85 es22 ze22 bye22 ?_; exact TrL.join h_40 rfl (.p5 <| .p2 <| .mem rfl <| .mem rfl <| .mem rfl <| .mem rfl <| .mem rfl <| .memEq rfl (by rw [el22]; first | (simp; done) | (simp; rfl)) <| .nil)
    ·exact .x rfl .ad h_43
   refine .share 6 [Tt, Tt, Tt, Ff, Ff, Tt, Tt, Tt, Ff, Ff, Ff, Ff] [(1, .r 1 0), (3, I (p.obj.length)), (4, I (p.rws.length)), (5, .r 20 0), (83, I (p.obj.length + p.rws.length)), (88, I (p.obj.length + p.rws.length))] [(1, .box [.d (rows p.rws), .d (ints p.bnd), .d (ints p.obj)]), (20, .box [.o 191, .o 192, I (1)]), (191, .own 1 22 ((rhd (ntW p) q.2).map fun v => [D.v v])), (192, .own 1 3 ((ntBs p q.1).map fun n => [D.v (.int .i64 n)])), (200, .any (pinK (rowF 3 (ntR p) q.2)))] ?_ (fun h_36 => ?_)
   ·exact .st [3, 8] ⟨.x rfl .ad h_43, .x rfl .ad h_44, trivial⟩
   refine .share 6 [Tt, Tt, Ff, Ff, Ff, Tt, Tt, Tt, Tt, Ff, Ff, Ff] [(1, .r 1 0), (3, I (p.obj.length)), (4, I (p.rws.length)), (5, .r 20 0), (81, I (p.obj.length)), (82, I (p.rws.length)), (89, I ((p.obj.length + p.rws.length) + 2))] [(1, .box [.d (rows p.rws), .d (ints p.bnd), .d (ints p.obj)]), (20, .box [.o 191, .o 192, I (1)]), (191, .own 1 22 ((rhd (ntW p) q.2).map fun v => [D.v v])), (192, .own 1 3 ((ntBs p q.1).map fun n => [D.v (.int .i64 n)])), (200, .any (pinK (rowF 3 (ntR p) q.2)))] ?_ (fun h_37 => ?_)
   ·refine .st [2, 9] ⟨?_, ?_, trivial⟩
    ·exact .x rfl .ad h_44
    ·refine .v _ ?_; refine .mk 90 es22 ze22 bye22 ?_; exact TrL.join h_45 rfl (.p5 <| .p2 <| .mem rfl <| .mem rfl <| .mem rfl <| .mem rfl <| .mem rfl <| .memEq rfl (by rw [el22]; first | (simp; done) | (simp; rfl)) <| .nil)
   refine .share 6 [Tt, Ff, Ff, Ff, Ff, Tt, Tt, Tt, Tt, Tt, Ff, Ff] [(1, .r 1 0), (3, I (p.obj.length)), (4, I (p.rws.length)), (5, .r 20 0), (81, I (p.obj.length)), (90, .o 90)] [(1, .box [.d (rows p.rws), .d (ints p.bnd), .d (ints p.obj)]), (20, .box [.o 191, .o 192, I (1)]), (191, .own 1 22 ((rhd (ntW p) q.2).map fun v => [D.v v])), (192, .own 1 3 ((ntBs p q.1).map fun n => [D.v (.int .i64 n)])), (200, .any (pinK (rowF 3 (ntR p) q.2))), (90, .own 1 3 ((List.replicate (ntW p) (0 : Int)).map fun n => [D.v (.int .i64 n)]))] ?_ (fun h_38 => ?_)
   ·exact .st [1] ⟨.m h_45, trivial⟩
   refine .share 6 [Ff, Tt, Ff, Ff, Ff, Tt, Tt, Tt, Tt, Tt, Ff, Ff] [(1, .r 1 0), (3, I (p.obj.length)), (4, I (p.rws.length)), (5, .r 20 0), (82, I (p.rws.length)), (90, .o 90)] [(1, .box [.d (rows p.rws), .d (ints p.bnd), .d (ints p.obj)]), (20, .box [.o 191, .o 192, I (1)]), (191, .own 1 22 ((rhd (ntW p) q.2).map fun v => [D.v v])), (192, .own 1 3 ((ntBs p q.1).map fun n => [D.v (.int .i64 n)])), (200, .any (pinK (rowF 3 (ntR p) q.2))), (90, .own 1 3 ((List.replicate (ntW p) (0 : Int)).map fun n => [D.v (.int .i64 n)]))] ?_ (fun h_39 => ?_)
   ·exact .st [0] ⟨.m h_45, trivial⟩
   refine .share 7 [Tt, Tt, Tt, Tt, Tt, Ff, Ff, Ff, Ff, Ff, Ff, Ff] [(1, .r 1 0), (3, I (p.obj.length)), (4, I (p.rws.length)), (5, .r 20 0), (85, .o 85)] [(1, .box [.d (rows p.rws), .d (ints p.bnd), .d (ints p.obj)]), (20, .box [.o 191, .o 192, I (1)]), (191, .own 1 22 ((rhd (ntW p) q.2).map fun v => [D.v v])), (192, .own 1 3 ((ntBs p q.1).map fun n => [D.v (.int .i64 n)])), (200, .any (pinK (rowF 3 (ntR p) q.2))), (85, .own 1 3 ((List.replicate (ntW p) (0 : Int)).map fun n => [D.v (.int .i64 n)]))] ?_ (fun h_24 => ?_)
   ·refine .st [5, 6, 10] ⟨?_, ?_, ?_, trivial⟩
    ·exact .m h_32
    ·exact .m h_33
    ·refine .v _ ?_; refine .a ?_; exact .j h_34
   refine .share 7 [Tt, Tt, Tt, Tt, Ff, Tt, Ff, Ff, Ff, Ff, Ff, Ff] [(1, .r 1 0), (3, I (p.obj.length)), (4, I (p.rws.length)), (5, .r 20 0), (84, I ((p.obj.length + p.rws.length) + 2)), (86, I (p.obj.length))] [(1, .box [.d (rows p.rws), .d (ints p.bnd), .d (ints p.obj)]), (20, .box [.o 191, .o 192, I (1)]), (191, .own 1 22 ((rhd (ntW p) q.2).map fun v => [D.v v])), (192, .own 1 3 ((ntBs p q.1).map fun n => [D.v (.int .i64 n)])), (200, .any (pinK (rowF 3 (ntR p) q.2)))] ?_ (fun h_25 => ?_)
   ·refine .st [4, 6] ⟨?_, ?_, trivial⟩
    ·refine .v _ ?_; refine .mk 85 es22 ze22 bye22 ?_; exact TrL.join h_32 rfl (.p5 <| .sl <| .mem rfl <| .mem rfl <| .mem rfl <| .mem rfl <| .mem rfl <| .memEq rfl (by rw [el22]; first | (simp; done) | (simp; rfl)) <| .nil)
    ·exact .m h_35
   refine .share 7 [Tt, Tt, Tt, Tt, Ff, Ff, Tt, Ff, Ff, Ff, Ff, Ff] [(1, .r 1 0), (3, I (p.obj.length)), (4, I (p.rws.length)), (5, .r 20 0), (84, I ((p.obj.length + p.rws.length) + 2)), (87, I (p.rws.length))] [(1, .box [.d (rows p.rws), .d (ints p.bnd), .d (ints p.obj)]), (20, .box [.o 191, .o 192, I (1)]), (191, .own 1 22 ((rhd (ntW p) q.2).map fun v => [D.v v])), (192, .own 1 3 ((ntBs p q.1).map fun n => [D.v (.int .i64 n)])), (200, .any (pinK (rowF 3 (ntR p) q.2)))] ?_ (fun h_26 => ?_)
   ·refine .st [4, 5] ⟨?_, ?_, trivial⟩
    ·refine .v _ ?_; refine .mk 85 es22 ze22 bye22 ?_; exact TrL.join h_33 rfl (.p5 <| .sl <| .mem rfl <| .mem rfl <| .mem rfl <| .mem rfl <| .mem rfl <| .memEq rfl (by rw [el22]; first | (simp; done) | (simp; rfl)) <| .nil)
    ·exact .m h_35
   refine .share 7 [Tt, Tt, Tt, Ff, Ff, Tt, Tt, Ff, Ff, Ff, Ff, Ff] [(1, .r 1 0), (3, I (p.obj.length)), (4, I (p.rws.length)), (5, .r 20 0), (83, I (p.obj.length + p.rws.length)), (86, I (p.obj.length)), (87, I (p.rws.length))] [(1, .box [.d (rows p.rws), .d (ints p.bnd), .d (ints p.obj)]), (20, .box [.o 191, .o 192, I (1)]), (191, .own 1 22 ((rhd (ntW p) q.2).map fun v => [D.v v])), (192, .own 1 3 ((ntBs p q.1).map fun n => [D.v (.int .i64 n)])), (200, .any (pinK (rowF 3 (ntR p) q.2)))] ?_ (fun h_27 => ?_)
   ·exact .st [3, 7] ⟨.x rfl .ad h_35, .x rfl .ad h_36, trivial⟩
   refine .share 7 [Tt, Tt, Ff, Ff, Ff, Tt, Tt, Tt, Ff, Ff, Ff, Ff] [(1, .r 1 0), (3, I (p.obj.length)), (4, I (p.rws.length)), (5, .r 20 0), (81, I (p.obj.length)), (82, I (p.rws.length)), (88, I (p.obj.length + p.rws.length))] [(1, .box [.d (rows p.rws), .d (ints p.bnd), .d (ints p.obj)]), (20, .box [.o 191, .o 192, I (1)]), (191, .own 1 22 ((rhd (ntW p) q.2).map fun v => [D.v v])), (192, .own 1 3 ((ntBs p q.1).map fun n => [D.v (.int .i64 n)])), (200, .any (pinK (rowF 3 (ntR p) q.2)))] ?_ (fun h_28 => ?_)
   ·exact .st [2, 8] ⟨.x rfl .ad h_36, .x rfl .ad h_37, trivial⟩
   refine .share 7 [Tt, Ff, Ff, Ff, Ff, Tt, Tt, Tt, Tt, Ff, Ff, Ff] [(1, .r 1 0), (3, I (p.obj.length)), (4, I (p.rws.length)), (5, .r 20 0), (81, I (p.obj.length)), (89, I ((p.obj.length + p.rws.length) + 2))] [(1, .box [.d (rows p.rws), .d (ints p.bnd), .d (ints p.obj)]), (20, .box [.o 191, .o 192, I (1)]), (191, .own 1 22 ((rhd (ntW p) q.2).map fun v => [D.v v])), (192, .own 1 3 ((ntBs p q.1).map fun n => [D.v (.int .i64 n)])), (200, .any (pinK (rowF 3 (ntR p) q.2)))] ?_ (fun h_29 => ?_)
   ·refine .st [1, 9] ⟨?_, ?_, trivial⟩
    ·exact .m h_37
    ·refine .v _ ?_; refine .mk 90 es22 ze22 bye22 ?_; exact TrL.join h_38 rfl (.p5 <| .sl <| .mem rfl <| .mem rfl <| .mem rfl <| .mem rfl <| .mem rfl <| .memEq rfl (by rw [el22]; first | (simp; done) | (simp; rfl)) <| .nil)
   refine .share 7 [Ff, Tt, Ff, Ff, Ff, Tt, Tt, Tt, Tt, Ff, Ff, Ff] [(1, .r 1 0), (3, I (p.obj.length)), (4, I (p.rws.length)), (5, .r 20 0), (82, I (p.rws.length)), (89, I ((p.obj.length + p.rws.length) + 2))] [(1, .box [.d (rows p.rws), .d (ints p.bnd), .d (ints p.obj)]), (20, .box [.o 191, .o 192, I (1)]), (191, .own 1 22 ((rhd (ntW p) q.2).map fun v => [D.v v])), (192, .own 1 3 ((ntBs p q.1).map fun n => [D.v (.int .i64 n)])), (200, .any (pinK (rowF 3 (ntR p) q.2)))] ?_ (fun h_30 => ?_)
   ·refine .st [0, 9] ⟨?_, ?_, trivial⟩
    ·exact .m h_37
    ·refine .v _ ?_; refine .mk 90 es22 ze22 bye22 ?_; exact TrL.join h_39 rfl (.p5 <| .sl <| .mem rfl <| .mem rfl <| .mem rfl <| .mem rfl <| .mem rfl <| .memEq rfl (by rw [el22]; first | (simp; done) | (simp; rfl)) <| .nil)
   refine .share 7 [Ff, Ff, Ff, Ff, Ff, Tt, Tt, Tt, Tt, Tt, Ff, Ff] [(1, .r 1 0), (3, I (p.obj.length)), (4, I (p.rws.length)), (5, .r 20 0), (90, .o 90)] [(1, .box [.d (rows p.rws), .d (ints p.bnd), .d (ints p.obj)]), (20, .box [.o 191, .o 192, I (1)]), (191, .own 1 22 ((rhd (ntW p) q.2).map fun v => [D.v v])), (192, .own 1 3 ((ntBs p q.1).map fun n => [D.v (.int .i64 n)])), (200, .any (pinK (rowF 3 (ntR p) q.2))), (90, .own 1 3 ((List.replicate (ntW p) (0 : Int)).map fun n => [D.v (.int .i64 n)]))] ?_ (fun h_31 => ?_)
   ·exact .st [0, 1] ⟨.m h_38, .m h_39, trivial⟩
   refine .share 8 [Tt, Tt, Tt, Tt, Ff, Ff, Ff, Ff, Ff, Ff, Ff, Ff] [(1, .r 1 0), (3, I (p.obj.length)), (4, I (p.rws.length)), (5, .r 20 0), (84, I ((p.obj.length + p.rws.length) + 2))] [(1, .box [.d (rows p.rws), .d (ints p.bnd), .d (ints p.obj)]), (20, .box [.o 191, .o 192, I (1)]), (191, .own 1 22 ((rhd (ntW p) q.2).map fun v => [D.v v])), (192, .own 1 3 ((ntBs p q.1).map fun n => [D.v (.int .i64 n)])), (200, .any (pinK (rowF 3 (ntR p) q.2)))] ?_ (fun h_17 => ?_)
   ·refine .st [4, 5, 6] ⟨?_, ?_, ?_, trivial⟩
    ·refine .v _ ?_; refine .mk 85 es22 ze22 bye22 ?_; exact TrL.join h_24 rfl (.p5 <| .mem rfl <| .mem rfl <| .mem rfl <| .mem rfl <| .mem rfl <| .memEq rfl (by rw [el22]; first | (simp; done) | (simp; rfl)) <| .nil)
    ·exact .m h_25
    ·exact .m h_26
   refine .share 8 [Tt, Tt, Tt, Ff, Ff, Tt, Ff, Ff, Ff, Ff, Ff, Ff] [(1, .r 1 0), (3, I (p.obj.length)), (4, I (p.rws.length)), (5, .r 20 0), (83, I (p.obj.length + p.rws.length)), (86, I (p.obj.length))] [(1, .box [.d (rows p.rws), .d (ints p.bnd), .d (ints p.obj)]), (20, .box [.o 191, .o 192, I (1)]), (191, .own 1 22 ((rhd (ntW p) q.2).map fun v => [D.v v])), (192, .own 1 3 ((ntBs p q.1).map fun n => [D.v (.int .i64 n)])), (200, .any (pinK (rowF 3 (ntR p) q.2)))] ?_ (fun h_18 => ?_)
   ·exact .st [3, 6] ⟨.x rfl .ad h_25, .m h_27, trivial⟩
   refine .share 8 [Tt, Tt, Tt, Ff, Ff, Ff, Tt, Ff, Ff, Ff, Ff, Ff] [(1, .r 1 0), (3, I (p.obj.length)), (4, I (p.rws.length)), (5, .r 20 0), (83, I (p.obj.length + p.rws.length)), (87, I (p.rws.length))] [(1, .box [.d (rows p.rws), .d (ints p.bnd), .d (ints p.obj)]), (20, .box [.o 191, .o 192, I (1)]), (191, .own 1 22 ((rhd (ntW p) q.2).map fun v => [D.v v])), (192, .own 1 3 ((ntBs p q.1).map fun n => [D.v (.int .i64 n)])), (200, .any (pinK (rowF 3 (ntR p) q.2)))] ?_ (fun h_19 => ?_)
   ·exact .st [3, 5] ⟨.x rfl .ad h_26, .m h_27, trivial⟩
   refine .share 8 [Tt, Tt, Ff, Ff, Ff, Tt, Tt, Ff, Ff, Ff, Ff, Ff] [(1, .r 1 0), (3, I (p.obj.length)), (4, I (p.rws.length)), (5, .r 20 0), (81, I (p.obj.length)), (82, I (p.rws.length)), (86, I (p.obj.length)), (87, I (p.rws.length))] [(1, .box [.d (rows p.rws), .d (ints p.bnd), .d (ints p.obj)]), (20, .box [.o 191, .o 192, I (1)]), (191, .own 1 22 ((rhd (ntW p) q.2).map fun v => [D.v v])), (192, .own 1 3 ((ntBs p q.1).map fun n => [D.v (.int .i64 n)])), (200, .any (pinK (rowF 3 (ntR p) q.2)))] ?_ (fun h_20 => ?_)
   ·exact .st [2, 7] ⟨.x rfl .ad h_27, .x rfl .ad h_28, trivial⟩
   refine .share 8 [Tt, Ff, Ff, Ff, Ff, Tt, Tt, Tt, Ff, Ff, Ff, Ff] [(1, .r 1 0), (3, I (p.obj.length)), (4, I (p.rws.length)), (5, .r 20 0), (81, I (p.obj.length)), (88, I (p.obj.length + p.rws.length))] [(1, .box [.d (rows p.rws), .d (ints p.bnd), .d (ints p.obj)]), (20, .box [.o 191, .o 192, I (1)]), (191, .own 1 22 ((rhd (ntW p) q.2).map fun v => [D.v v])), (192, .own 1 3 ((ntBs p q.1).map fun n => [D.v (.int .i64 n)])), (200, .any (pinK (rowF 3 (ntR p) q.2)))] ?_ (fun h_21 => ?_)
   ·exact .st [1, 8] ⟨.m h_28, .x rfl .ad h_29, trivial⟩
   refine .share 8 [Ff, Tt, Ff, Ff, Ff, Tt, Tt, Tt, Ff, Ff, Ff, Ff] [(1, .r 1 0), (3, I (p.obj.length)), (4, I (p.rws.length)), (5, .r 20 0), (82, I (p.rws.length)), (88, I (p.obj.length + p.rws.length))] [(1, .box [.d (rows p.rws), .d (ints p.bnd), .d (ints p.obj)]), (20, .box [.o 191, .o 192, I (1)]), (191, .own 1 22 ((rhd (ntW p) q.2).map fun v => [D.v v])), (192, .own 1 3 ((ntBs p q.1).map fun n => [D.v (.int .i64 n)])), (200, .any (pinK (rowF 3 (ntR p) q.2)))] ?_ (fun h_22 => ?_)
   ·exact .st [0, 8] ⟨.m h_28, .x rfl .ad h_30, trivial⟩
   refine .share 8 [Ff, Ff, Ff, Ff, Ff, Tt, Tt, Tt, Tt, Ff, Ff, Ff] [(1, .r 1 0), (3, I (p.obj.length)), (4, I (p.rws.length)), (5, .r 20 0), (89, I ((p.obj.length + p.rws.length) + 2))] [(1, .box [.d (rows p.rws), .d (ints p.bnd), .d (ints p.obj)]), (20, .box [.o 191, .o 192, I (1)]), (191, .own 1 22 ((rhd (ntW p) q.2).map fun v => [D.v v])), (192, .own 1 3 ((ntBs p q.1).map fun n => [D.v (.int .i64 n)])), (200, .any (pinK (rowF 3 (ntR p) q.2)))] ?_ (fun h_23 => ?_)
   ·refine .st [0, 1, 9] ⟨?_, ?_, ?_, trivial⟩
    ·exact .m h_29
    ·exact .m h_30
    ·refine .v _ ?_; refine .mk 90 es22 ze22 bye22 ?_; exact TrL.join h_31 rfl (.p5 <| .mem rfl <| .mem rfl <| .mem rfl <| .mem rfl <| .mem rfl <| .memEq rfl (by rw [el22]; first | (simp; done) | (simp; rfl)) <| .nil)
   refine .share 9 [Tt, Tt, Tt, Ff, Ff, Ff, Ff, Ff, Ff, Ff, Ff, Ff] [(1, .r 1 0), (3, I (p.obj.length)), (4, I (p.rws.length)), (5, .r 20 0), (83, I (p.obj.length + p.rws.length))] [(1, .box [.d (rows p.rws), .d (ints p.bnd), .d (ints p.obj)]), (20, .box [.o 191, .o 192, I (1)]), (191, .own 1 22 ((rhd (ntW p) q.2).map fun v => [D.v v])), (192, .own 1 3 ((ntBs p q.1).map fun n => [D.v (.int .i64 n)])), (200, .any (pinK (rowF 3 (ntR p) q.2)))] ?_ (fun h_11 => ?_)
   ·exact .st [3, 5, 6] ⟨.x rfl .ad h_17, .m h_18, .m h_19, trivial⟩
   refine .share 9 [Tt, Tt, Ff, Ff, Ff, Tt, Ff, Ff, Ff, Ff, Ff, Ff] [(1, .r 1 0), (3, I (p.obj.length)), (4, I (p.rws.length)), (5, .r 20 0), (81, I (p.obj.length)), (82, I (p.rws.length)), (86, I (p.obj.length))] [(1, .box [.d (rows p.rws), .d (ints p.bnd), .d (ints p.obj)]), (20, .box [.o 191, .o 192, I (1)]), (191, .own 1 22 ((rhd (ntW p) q.2).map fun v => [D.v v])), (192, .own 1 3 ((ntBs p q.1).map fun n => [D.v (.int .i64 n)])), (200, .any (pinK (rowF 3 (ntR p) q.2)))] ?_ (fun h_12 => ?_)
   ·exact .st [2, 6] ⟨.x rfl .ad h_18, .m h_20, trivial⟩
   refine .share 9 [Tt, Tt, Ff, Ff, Ff, Ff, Tt, Ff, Ff, Ff, Ff, Ff] [(1, .r 1 0), (3, I (p.obj.length)), (4, I (p.rws.length)), (5, .r 20 0), (81, I (p.obj.length)), (82, I (p.rws.length)), (87, I (p.rws.length))] [(1, .box [.d (rows p.rws), .d (ints p.bnd), .d (ints p.obj)]), (20, .box [.o 191, .o 192, I (1)]), (191, .own 1 22 ((rhd (ntW p) q.2).map fun v => [D.v v])), (192, .own 1 3 ((ntBs p q.1).map fun n => [D.v (.int .i64 n)])), (200, .any (pinK (rowF 3 (ntR p) q.2)))] ?_ (fun h_13 => ?_)
   ·exact .st [2, 5] ⟨.x rfl .ad h_19, .m h_20, trivial⟩
   refine .share 9 [Tt, Ff, Ff, Ff, Ff, Tt, Tt, Ff, Ff, Ff, Ff, Ff] [(1, .r 1 0), (3, I (p.obj.length)), (4, I (p.rws.length)), (5, .r 20 0), (81, I (p.obj.length)), (86, I (p.obj.length)), (87, I (p.rws.length))] [(1, .box [.d (rows p.rws), .d (ints p.bnd), .d (ints p.obj)]), (20, .box [.o 191, .o 192, I (1)]), (191, .own 1 22 ((rhd (ntW p) q.2).map fun v => [D.v v])), (192, .own 1 3 ((ntBs p q.1).map fun n => [D.v (.int .i64 n)])), (200, .any (pinK (rowF 3 (ntR p) q.2)))] ?_ (fun h_14 => ?_)
   ·exact .st [1, 7] ⟨.m h_20, .x rfl .ad h_21, trivial⟩
   refine .share 9 [Ff, Tt, Ff, Ff, Ff, Tt, Tt, Ff, Ff, Ff, Ff, Ff] [(1, .r 1 0), (3, I (p.obj.length)), (4, I (p.rws.length)), (5, .r 20 0), (82, I (p.rws.length)), (86, I (p.obj.length)), (87, I (p.rws.length))] [(1, .box [.d (rows p.rws), .d (ints p.bnd), .d (ints p.obj)]), (20, .box [.o 191, .o 192, I (1)]), (191, .own 1 22 ((rhd (ntW p) q.2).map fun v => [D.v v])), (192, .own 1 3 ((ntBs p q.1).map fun n => [D.v (.int .i64 n)])), (200, .any (pinK (rowF 3 (ntR p) q.2)))] ?_ (fun h_15 => ?_)
   ·exact .st [0, 7] ⟨.m h_20, .x rfl .ad h_22, trivial⟩
   refine .share 9 [Ff, Ff, Ff, Ff, Ff, Tt, Tt, Tt, Ff, Ff, Ff, Ff] [(1, .r 1 0), (3, I (p.obj.length)), (4, I (p.rws.length)), (5, .r 20 0), (88, I (p.obj.length + p.rws.length))] [(1, .box [.d (rows p.rws), .d (ints p.bnd), .d (ints p.obj)]), (20, .box [.o 191, .o 192, I (1)]), (191, .own 1 22 ((rhd (ntW p) q.2).map fun v => [D.v v])), (192, .own 1 3 ((ntBs p q.1).map fun n => [D.v (.int .i64 n)])), (200, .any (pinK (rowF 3 (ntR p) q.2)))] ?_ (fun h_16 => ?_)
   ·exact .st [0, 1, 8] ⟨.m h_21, .m h_22, .x rfl .ad h_23, trivial⟩
   refine .share 10 [Tt, Tt, Ff, Ff, Ff, Ff, Ff, Ff, Ff, Ff, Ff, Ff] [(1, .r 1 0), (3, I (p.obj.length)), (4, I (p.rws.length)), (5, .r 20 0), (81, I (p.obj.length)), (82, I (p.rws.length))] [(1, .box [.d (rows p.rws), .d (ints p.bnd), .d (ints p.obj)]), (20, .box [.o 191, .o 192, I (1)]), (191, .own 1 22 ((rhd (ntW p) q.2).map fun v => [D.v v])), (192, .own 1 3 ((ntBs p q.1).map fun n => [D.v (.int .i64 n)])), (200, .any (pinK (rowF 3 (ntR p) q.2)))] ?_ (fun h_5 => ?_)
   ·exact .st [2, 5, 6] ⟨.x rfl .ad h_11, .m h_12, .m h_13, trivial⟩
   refine .share 10 [Tt, Ff, Ff, Ff, Ff, Tt, Ff, Ff, Ff, Ff, Ff, Ff] [(1, .r 1 0), (3, I (p.obj.length)), (4, I (p.rws.length)), (5, .r 20 0), (81, I (p.obj.length)), (86, I (p.obj.length))] [(1, .box [.d (rows p.rws), .d (ints p.bnd), .d (ints p.obj)]), (20, .box [.o 191, .o 192, I (1)]), (191, .own 1 22 ((rhd (ntW p) q.2).map fun v => [D.v v])), (192, .own 1 3 ((ntBs p q.1).map fun n => [D.v (.int .i64 n)])), (200, .any (pinK (rowF 3 (ntR p) q.2)))] ?_ (fun h_6 => ?_)
   ·exact .st [1, 6] ⟨.m h_12, .m h_14, trivial⟩
   refine .share 10 [Tt, Ff, Ff, Ff, Ff, Ff, Tt, Ff, Ff, Ff, Ff, Ff] [(1, .r 1 0), (3, I (p.obj.length)), (4, I (p.rws.length)), (5, .r 20 0), (81, I (p.obj.length)), (87, I (p.rws.length))] [(1, .box [.d (rows p.rws), .d (ints p.bnd), .d (ints p.obj)]), (20, .box [.o 191, .o 192, I (1)]), (191, .own 1 22 ((rhd (ntW p) q.2).map fun v => [D.v v])), (192, .own 1 3 ((ntBs p q.1).map fun n => [D.v (.int .i64 n)])), (200, .any (pinK (rowF 3 (ntR p) q.2)))] ?_ (fun h_7 => ?_)
   ·exact .st [1, 5] ⟨.m h_13, .m h_14, trivial⟩
   refine .share 10 [Ff, Tt, Ff, Ff, Ff, Tt, Ff, Ff, Ff, Ff, Ff, Ff] [(1, .r 1 0), (3, I (p.obj.length)), (4, I (p.rws.length)), (5, .r 20 0), (82, I (p.rws.length)), (86, I (p.obj.length))] [(1, .box [.d (rows p.rws), .d (ints p.bnd), .d (ints p.obj)]), (20, .box [.o 191, .o 192, I (1)]), (191, .own 1 22 ((rhd (ntW p) q.2).map fun v => [D.v v])), (192, .own 1 3 ((ntBs p q.1).map fun n => [D.v (.int .i64 n)])), (200, .any (pinK (rowF 3 (ntR p) q.2)))] ?_ (fun h_8 => ?_)
   ·exact .st [0, 6] ⟨.m h_12, .m h_15, trivial⟩
   refine .share 10 [Ff, Tt, Ff, Ff, Ff, Ff, Tt, Ff, Ff, Ff, Ff, Ff] [(1, .r 1 0), (3, I (p.obj.length)), (4, I (p.rws.length)), (5, .r 20 0), (82, I (p.rws.length)), (87, I (p.rws.length))] [(1, .box [.d (rows p.rws), .d (ints p.bnd), .d (ints p.obj)]), (20, .box [.o 191, .o 192, I (1)]), (191, .own 1 22 ((rhd (ntW p) q.2).map fun v => [D.v v])), (192, .own 1 3 ((ntBs p q.1).map fun n => [D.v (.int .i64 n)])), (200, .any (pinK (rowF 3 (ntR p) q.2)))] ?_ (fun h_9 => ?_)
   ·exact .st [0, 5] ⟨.m h_13, .m h_15, trivial⟩
   refine .share 10 [Ff, Ff, Ff, Ff, Ff, Tt, Tt, Ff, Ff, Ff, Ff, Ff] [(1, .r 1 0), (3, I (p.obj.length)), (4, I (p.rws.length)), (5, .r 20 0), (86, I (p.obj.length)), (87, I (p.rws.length))] [(1, .box [.d (rows p.rws), .d (ints p.bnd), .d (ints p.obj)]), (20, .box [.o 191, .o 192, I (1)]), (191, .own 1 22 ((rhd (ntW p) q.2).map fun v => [D.v v])), (192, .own 1 3 ((ntBs p q.1).map fun n => [D.v (.int .i64 n)])), (200, .any (pinK (rowF 3 (ntR p) q.2)))] ?_ (fun h_10 => ?_)
   ·exact .st [0, 1, 7] ⟨.m h_14, .m h_15, .x rfl .ad h_16, trivial⟩
   refine .share 11 [Tt, Ff, Ff, Ff, Ff, Ff, Ff, Ff, Ff, Ff, Ff, Ff] [(1, .r 1 0), (3, I (p.obj.length)), (4, I (p.rws.length)), (5, .r 20 0), (81, I (p.obj.length))] [(1, .box [.d (rows p.rws), .d (ints p.bnd), .d (ints p.obj)]), (20, .box [.o 191, .o 192, I (1)]), (191, .own 1 22 ((rhd (ntW p) q.2).map fun v => [D.v v])), (192, .own 1 3 ((ntBs p q.1).map fun n => [D.v (.int .i64 n)])), (200, .any (pinK (rowF 3 (ntR p) q.2)))] ?_ (fun h_1 => ?_)
   ·exact .st [1, 5, 6] ⟨.m h_5, .m h_6, .m h_7, trivial⟩
   refine .share 11 [Ff, Tt, Ff, Ff, Ff, Ff, Ff, Ff, Ff, Ff, Ff, Ff] [(1, .r 1 0), (3, I (p.obj.length)), (4, I (p.rws.length)), (5, .r 20 0), (82, I (p.rws.length))] [(1, .box [.d (rows p.rws), .d (ints p.bnd), .d (ints p.obj)]), (20, .box [.o 191, .o 192, I (1)]), (191, .own 1 22 ((rhd (ntW p) q.2).map fun v => [D.v v])), (192, .own 1 3 ((ntBs p q.1).map fun n => [D.v (.int .i64 n)])), (200, .any (pinK (rowF 3 (ntR p) q.2)))] ?_ (fun h_2 => ?_)
   ·exact .st [0, 5, 6] ⟨.m h_5, .m h_8, .m h_9, trivial⟩
   refine .share 11 [Ff, Ff, Ff, Ff, Ff, Tt, Ff, Ff, Ff, Ff, Ff, Ff] [(1, .r 1 0), (3, I (p.obj.length)), (4, I (p.rws.length)), (5, .r 20 0), (86, I (p.obj.length))] [(1, .box [.d (rows p.rws), .d (ints p.bnd), .d (ints p.obj)]), (20, .box [.o 191, .o 192, I (1)]), (191, .own 1 22 ((rhd (ntW p) q.2).map fun v => [D.v v])), (192, .own 1 3 ((ntBs p q.1).map fun n => [D.v (.int .i64 n)])), (200, .any (pinK (rowF 3 (ntR p) q.2)))] ?_ (fun h_3 => ?_)
   ·exact .st [0, 1, 6] ⟨.m h_6, .m h_8, .m h_10, trivial⟩
   refine .share 11 [Ff, Ff, Ff, Ff, Ff, Ff, Tt, Ff, Ff, Ff, Ff, Ff] [(1, .r 1 0), (3, I (p.obj.length)), (4, I (p.rws.length)), (5, .r 20 0), (87, I (p.rws.length))] [(1, .box [.d (rows p.rws), .d (ints p.bnd), .d (ints p.obj)]), (20, .box [.o 191, .o 192, I (1)]), (191, .own 1 22 ((rhd (ntW p) q.2).map fun v => [D.v v])), (192, .own 1 3 ((ntBs p q.1).map fun n => [D.v (.int .i64 n)])), (200, .any (pinK (rowF 3 (ntR p) q.2)))] ?_ (fun h_4 => ?_)
   ·exact .st [0, 1, 5] ⟨.m h_7, .m h_9, .m h_10, trivial⟩
   exact .st [0, 1, 5, 6] ⟨.m h_1, .m h_2, .m h_3, .m h_4, trivial⟩
end Go.Proofs.YthjmgcopfipabaaGreat
end

section
namespace Go.Proofs.YthjmgcopfipabaaGreat
open Go.Eng
set_option maxRecDepth 10000
set_option maxHeartbeats 8000000
theorem linear_Solve_does (p : LPr) (hp : LpOk p) (o : Option (Int × Int)) (hS : SolR p o) : Does Tryz.prog false 41 [lprS p] (.t [solS o, flt (0, 0)]) := by
 have z1 := hp.r6
 have z2 := hp.o6
 have z3 := hp.b
 have hW : ntW p = p.obj.length + p.rws.length + 2 := rfl
 obtain ⟨b, t1, hs, hS0, hS1⟩ := hS.unp
 have hnr := newTab_rl (p := p)
 have hnb := newTab_bl (p := p)
 refine Does.of_body Tryz.func41 rfl rfl (by simp) Tryz.call41 (fun w0 O0 => ?_); refine .lg 0 0 fun len0_0 => ?_; refine .lg 0 1 fun len0_1 => ?_; refine .lg 0 2 fun len0_2 => ?_; refine .g <| .r <| .bx 1 ?_; refine .al 2 zc87 ?_; refine .al 3 zc28 ?_; refine .sq <| .g <| .g <| .r <| .x (.L vs81) ?_; refine .x (OpSem.call0 (linear_Validate_does p hp) rfl rfl rfl rfl (Les.refl _)) ?_; refine .al 4 zc28 ?_; refine .sb vs28 ?_; refine .z <| .x (.L vs28) ?_; refine .x (.bd pl28 zc28) ?_; refine .x (OpSem.neS2 rfl rfl rfl io28) ?_; refine .sq <| .cond rfl (fun c17 => ?_) (fun c17 => ?_)
 ·exfalso; simp at c17
 ·refine .p <| .g <| .g <| PC.start [] ?_; refine .x (.f fo81_2) ?_; refine .x (.l vs22) ?_; refine .x (.n es22) ?_; refine .x (.f fo81_0) ?_; refine .x (.l vs58) ?_; refine .x (.n es58) ?_; refine .x (OpSem.move (.inr rfl) rfl) ?_; refine .d0 mixed ?_; refine .a ?_; refine .z <| .x (.L vs81) ?_; refine .callNP (h := 200) (linear_newTableau_NP p hp) rfl rfl rfl (by decide) rfl rfl rfl (Les.refl _) (fun F_ v_ hR_ => ?_)
  obtain ⟨g, hk, hgw, rfl, rfl⟩ := hR_
  refine .a ?_; refine .sq <| .g <| .g ?_
  obtain ⟨hk1, k1b, k1r⟩ := hs.ok hk
  refine .r <| .m ?_; refine .ofSt (OpSt.callP (h := 200) (linear_tableau_start_P g (newTab p) hk (by omega) (by omega) b t1 (by rw [hgw]; exact hs)) rfl rfl rfl (fun H => rfl)) rfl rfl rfl (by decide) ?_; refine .x .nt ?_; refine .sq <| .cond rfl (fun c30 => ?_) (fun c30 => ?_)
  ·have hb1 : b = false := by simpa using c30
   obtain ⟨ho, hb, hd⟩ := hS0 hb1
   refine .g <| .freezeP 200 7 (s := tbS t1) rfl rfl (fun O w h H => tab_rep hk1 h H) ?_; refine PC.start [] ?_; refine .m ?_; refine .x (OpSem.nilp rfl rfl) ?_; refine .x (OpSem.fieldp rfl rfl fo122_0) ?_; refine .x (.l1 vs58) ?_; refine .m ?_; refine .x .ad ?_; refine .x (.i es58) ?_; refine .x (.l1 vs22) ?_; refine .mm ?_; refine .m ?_; refine .x .ad ?_; refine .x (OpSem.sliceLH rfl rfl rfl rfl es22 (by omega) (by omega) (by have := hk1.w (p.rws.length + 1) (by omega); push_cast at this; omega)) ?_; refine .m ?_; refine .x (OpSem.nilp rfl rfl) ?_; refine .x (OpSem.fieldp rfl rfl fo122_2) ?_; refine .x (.l1 vs3) ?_; refine .x (OpSem.call0 (linear_vector_does (((nth t1.rs ((p.rws.length : Int) + 1)).take ((p.obj.length : Int) + (p.rws.length : Int)).toNat).drop ((p.obj.length : Int)).toNat) t1.dn (by simp; omega) hd hb.dn (fun x hx => row_inB hb x (List.mem_of_mem_take (List.mem_of_mem_drop hx)))) rfl rfl rfl rfl (Les.refl _)) ?_; refine .x (.bd pl87 zc87) ?_; refine .x (.bd pl28 zc28) ?_; refine .doneS [19] [[], [19]] mixed (by kernel_rfl) (by kernel_rfl) (by kernel_rfl) (by kernel_rfl) (by kernel_rfl) (by decide) rfl (by kernel_rfl) ⟨?_, ?_, trivial⟩
   ·refine ⟨[], _, by kernel_rfl, by repeat' (first | exact .nil | (apply DropRs.hit; rfl) | (apply DropRs.miss; rfl)), ?_⟩; refine .sb vs87 ?_; refine TrSet.start ?_; refine .zero ?_; refine .sb vs28 ?_; exact .sq <| .t <| .t <| .ret rfl (.cellN rfl rfl vs87 <| .cellN rfl rfl vs28 <| .nil) rfl (Le.t (.cons (by rw [ho]; exact Le.g (.cons (.refl _) <| .cons (.refl _) <| .cons (.refl _) <| .cons (.u _) <| .cons (.u _) <| .cons (.u _) <| .cons (.u _) <| .cons (.u _) <| .cons (.u _) <| .nil)) <| .cons (.refl _) <| .nil))
   ·refine ⟨[50], _, by kernel_rfl, by repeat' (first | exact .nil | (apply DropRs.hit; rfl) | (apply DropRs.miss; rfl)), ?_⟩; refine .sb vs87 ?_; refine TrSet.start ?_; refine .succ ⟨?_, trivial⟩
    ·refine .inr (TrI.sem rfl (.bd pl28 zc28) rfl rfl (by decide) rfl ?_); refine .zero ?_; refine .sb vs28 ?_; exact .sq <| .t <| .t <| .ret rfl (.cellN rfl rfl vs87 <| .cellN rfl rfl vs28 <| .nil) rfl (Le.t (.cons (by rw [ho]; exact Le.g (.cons (.refl _) <| .cons (.refl _) <| .cons (.refl _) <| .cons (.u _) <| .cons (.u _) <| .cons (.u _) <| .cons (.u _) <| .cons (.u _) <| .cons (.u _) <| .nil)) <| .cons (.refl _) <| .nil))
  ·have hb1 : b = true := by simpa using c30
   refine .p <| .g <| .g ?_
   obtain ⟨t2, k, hm, hd, hbs, ho⟩ := hS1 hb1
   obtain ⟨hk2, k2b, k2r, hb2⟩ := hm.ok hk1
   refine .r <| .mm ?_; refine .mm ?_; refine .x (OpSem.le (s' := I ((p.obj.length + p.rws.length : Nat) : Int)) .ad (Le.i (by omega))) ?_; refine .ofSt (OpSt.callP (h := 200) (linear_tableau_maximize_P g t1 hk1 (by omega) k t2 (-1) (p.rws.length : Int) (p.obj.length + p.rws.length) (by omega) (by omega) (by omega) (by rw [hgw]; exact hm)) rfl rfl rfl (fun H => rfl)) rfl rfl rfl (by decide) ?_; refine .a ?_; refine .sq <| .g <| .freezeP 200 7 (s := tbS t2) rfl rfl (fun O w h H => tab_rep hk2 h H) ?_; refine PC.start [] ?_; refine .mm ?_; refine .mm ?_; refine .x .ad ?_; refine .x .ad ?_; refine .x (OpSem.call0 (linear_tableau_point_does t2 p.obj.length ((p.obj.length : Int) + (p.rws.length : Int) + 1) (by omega) (by omega) (by omega) (fun k hk => ⟨hbs k (by omega), by omega, by have := hk2.w k (by omega); omega, hb2.cel⟩)).fresh rfl rfl rfl rfl (Les.refl _)) ?_; refine .m ?_; refine .x (OpSem.nilp rfl rfl) ?_; refine .x (OpSem.fieldp rfl rfl fo122_2) ?_; refine .x (.l1 vs3) ?_; refine .x (OpSem.call0 (linear_vector_does (ptF t2 p.obj.length ((p.obj.length : Int) + (p.rws.length : Int) + 1) 1) t2.dn (by have := pt_len (t := t2) (n := p.obj.length) (col := (p.obj.length : Int) + (p.rws.length : Int) + 1) (sign := 1) (k := t2.bs.length); unfold ptF; omega) hd hb2.dn (fun x hx => pt_inB hb2 x hx)) rfl rfl rfl rfl (Les.refl _)) ?_; refine .semM (OpSem.alloc 9 rfl zc85 rfl) rfl rfl ?_; refine .d1 9 (.box [.d (.v (.slice none 0 0)), I (0)]) mixed ?_; refine .sb vs85 ?_; refine .sq <| .g <| .g <| .r <| .m ?_; refine .x (.b bgeq) ?_; refine .sq <| .cond rfl (fun c70 => ?_) (fun c70 => ?_)
   ·exfalso; simp at c70
   ·refine .p <| .g <| .g ?_
    have hcv := hb2.cel (i := (p.rws.length : Int)) (j := (p.obj.length : Int) + (p.rws.length : Int) + 1)
    have hdn := hb2.dn
    refine PC.start [] ?_; refine .m ?_; refine .x (OpSem.nilp rfl rfl) ?_; refine .x (OpSem.fieldp rfl rfl fo122_0) ?_; refine .x (.l1 vs58) ?_; refine .m ?_; refine .x (.i es58) ?_; refine .x (.l1 vs22) ?_; refine .mm ?_; refine .x .ad ?_; refine .x .ad ?_; refine .x (OpSem.idxL rfl rfl rfl es22 (by omega) (by have := hk2.w p.rws.length (by omega); omega)) ?_; refine .x (.l1 vs3) ?_; refine .m ?_; refine .x (OpSem.nilp rfl rfl) ?_; refine .x (OpSem.fieldp rfl rfl fo122_2) ?_; refine .x (.l1 vs3) ?_; refine .x (OpSem.call0 (fraction_Make_does (cel t2 (p.rws.length : Int) ((p.obj.length : Int) + (p.rws.length : Int) + 1)) t2.dn (by unfold inB at hcv; omega) (by unfold inB at hcv; omega) hd (by unfold inB at hdn; omega)) rfl rfl rfl rfl (Les.refl _)) ?_; refine .m ?_; refine .x .xt ?_; refine .x .xt ?_; refine .semM (OpSem.alloc 11 rfl zc45 rfl) rfl rfl ?_; refine .semM (OpSem.alloc 12 rfl zc28 rfl) rfl rfl ?_; refine .doneLn (pf := ⟨114, flt ((0, 0)), none, none, true⟩) 23 20 11 (.box [I (0), I (0)]) 12 (.box [I (0), I (0)]) mixed (by kernel_rfl) (by kernel_rfl) (by kernel_rfl) (by kernel_rfl) (by kernel_rfl) (by kernel_rfl) rfl rfl rfl rfl (by repeat' (first | exact .nil | (apply DropR.hit; rfl) | (apply DropR.miss; rfl))) (by kernel_rfl) (by kernel_rfl) (by kernel_rfl) ?_ ?_
    ·refine .sb vs45 ?_; refine .sb vs28 ?_; refine .sq <| .g <| PC.start [] ?_; refine .x (.L vs45) ?_; refine .x (.L vs85) ?_; refine .m ?_; refine .x (OpSem.nilp rfl rfl) ?_; refine .x (OpSem.fieldp rfl rfl fo122_0) ?_; refine .x (.l1 vs58) ?_; refine .m ?_; refine .x (.i es58) ?_; refine .x (.l1 vs22) ?_; refine .mm ?_; refine .m ?_; refine .x .ad ?_; refine .x (OpSem.sliceLH rfl rfl rfl rfl es22 (by omega) (by omega) (by have := hk2.w p.rws.length (by omega); omega)) ?_; refine .m ?_; refine .x (OpSem.nilp rfl rfl) ?_; refine .x (OpSem.fieldp rfl rfl fo122_2) ?_; refine .x (.l1 vs3) ?_; refine .x (OpSem.call0 (linear_vector_does (((nth t2.rs ((p.rws.length : Int))).take ((p.obj.length : Int) + (p.rws.length : Int)).toNat).drop ((p.obj.length : Int)).toNat) t2.dn (by simp; omega) hd hb2.dn (fun x hx => row_inB hb2 x (List.mem_of_mem_take (List.mem_of_mem_drop hx)))) rfl rfl rfl rfl (Les.refl _)) ?_; refine .x (.bd pl87 zc87) ?_; refine .x (.L vs28) ?_; refine .doneS [20] [[], [20]] mixed (by kernel_rfl) (by kernel_rfl) (by kernel_rfl) (by kernel_rfl) (by kernel_rfl) (by decide) rfl (by kernel_rfl) ⟨?_, ?_, trivial⟩
     ·refine ⟨[], _, by kernel_rfl, by repeat' (first | exact .nil | (apply DropRs.hit; rfl) | (apply DropRs.miss; rfl)), ?_⟩; refine .sb vs87 ?_; refine TrSet.start ?_; refine .zero ?_; refine .sb vs28 ?_; exact .sq <| .t <| .ret rfl (.cellN rfl rfl vs87 <| .cellN rfl rfl vs28 <| .nil) rfl (Le.t (.cons (by rw [ho]; exact Le.g (.cons (.refl _) <| .cons (.refl _) <| .cons (.refl _) <| .cons (.u _) <| .cons (.u _) <| .cons (.u _) <| .cons (.u _) <| .cons (.u _) <| .cons (.u _) <| .nil)) <| .cons (.refl _) <| .nil))
     ·refine ⟨[135], _, by kernel_rfl, by repeat' (first | exact .nil | (apply DropRs.hit; rfl) | (apply DropRs.miss; rfl)), ?_⟩; refine .sb vs87 ?_; refine TrSet.start ?_; refine .succ ⟨?_, trivial⟩
      ·refine .inr (TrI.sem rfl (.L vs28) rfl rfl (by decide) rfl ?_); refine .zero ?_; refine .sb vs28 ?_; exact .sq <| .t <| .ret rfl (.cellN rfl rfl vs87 <| .cellN rfl rfl vs28 <| .nil) rfl (Le.t (.cons (by rw [ho]; exact Le.g (.cons (.refl _) <| .cons (.refl _) <| .cons (.refl _) <| .cons (.u _) <| .cons (.u _) <| .cons (.u _) <| .cons (.u _) <| .cons (.u _) <| .cons (.u _) <| .nil)) <| .cons (.refl _) <| .nil))
    ·refine .sb vs45 ?_; refine .x .xt ?_; refine .sb vs28 ?_; refine .sq <| .g <| PC.start [] ?_; refine .x (.L vs45) ?_; refine .x (.L vs85) ?_; refine .m ?_; refine .x (OpSem.nilp rfl rfl) ?_; refine .x (OpSem.fieldp rfl rfl fo122_0) ?_; refine .x (.l1 vs58) ?_; refine .m ?_; refine .x (.i es58) ?_; refine .x (.l1 vs22) ?_; refine .mm ?_; refine .m ?_; refine .x .ad ?_; refine .x (OpSem.sliceLH rfl rfl rfl rfl es22 (by omega) (by omega) (by have := hk2.w p.rws.length (by omega); omega)) ?_; refine .m ?_; refine .x (OpSem.nilp rfl rfl) ?_; refine .x (OpSem.fieldp rfl rfl fo122_2) ?_; refine .x (.l1 vs3) ?_; refine .x (OpSem.call0 (linear_vector_does (((nth t2.rs ((p.rws.length : Int))).take ((p.obj.length : Int) + (p.rws.length : Int)).toNat).drop ((p.obj.length : Int)).toNat) t2.dn (by simp; omega) hd hb2.dn (fun x hx => row_inB hb2 x (List.mem_of_mem_take (List.mem_of_mem_drop hx)))) rfl rfl rfl rfl (Les.refl _)) ?_; refine .x (.bd pl87 zc87) ?_; refine .x (.L vs28) ?_; refine .doneS [20] [[], [20]] mixed (by kernel_rfl) (by kernel_rfl) (by kernel_rfl) (by kernel_rfl) (by kernel_rfl) (by decide) rfl (by kernel_rfl) ⟨?_, ?_, trivial⟩
     ·refine ⟨[], _, by kernel_rfl, by repeat' (first | exact .nil | (apply DropRs.hit; rfl) | (apply DropRs.miss; rfl)), ?_⟩; refine .sb vs87 ?_; refine TrSet.start ?_; refine .zero ?_; refine .sb vs28 ?_; exact .sq <| .t <| .ret rfl (.cellN rfl rfl vs87 <| .cellN rfl rfl vs28 <| .nil) rfl (Le.t (.cons (by rw [ho]; exact Le.g (.cons (.refl _) <| .cons (.refl _) <| .cons (.refl _) <| .cons (.u _) <| .cons (.u _) <| .cons (.u _) <| .cons (.u _) <| .cons (.u _) <| .cons (.u _) <| .nil)) <| .cons (.refl _) <| .nil))
     ·refine ⟨[135], _, by kernel_rfl, by repeat' (first | exact .nil | (apply DropRs.hit; rfl) | (apply DropRs.miss; rfl)), ?_⟩; refine .sb vs87 ?_; refine TrSet.start ?_; refine .succ ⟨?_, trivial⟩
      ·refine .inr (TrI.sem rfl (.L vs28) rfl rfl (by decide) rfl ?_); refine .zero ?_; refine .sb vs28 ?_; exact .sq <| .t <| .ret rfl (.cellN rfl rfl vs87 <| .cellN rfl rfl vs28 <| .nil) rfl (Le.t (.cons (by rw [ho]; exact Le.g (.cons (.refl _) <| .cons (.refl _) <| .cons (.refl _) <| .cons (.u _) <| .cons (.u _) <| .cons (.u _) <| .cons (.u _) <| .cons (.u _) <| .cons (.u _) <| .nil)) <| .cons (.refl _) <| .nil))
end Go.Proofs.YthjmgcopfipabaaGreat
end

section
namespace Go.Proofs.YthjmgcopfipabaaGreat
open Go.Eng
set_option maxRecDepth 10000
set_option maxHeartbeats 1000000
end Go.Proofs.YthjmgcopfipabaaGreat
end

section
namespace Go.Proofs.YthjmgcopfipabaaGreat
open Go.Eng
set_option maxRecDepth 10000
set_option maxHeartbeats 1000000
theorem slices_Compact_int_int_W (l : List Int) (hne : l ≠ []) (hml : (l.length : Int) ≤ 9223372036854775807) : DoesW Tryz.prog 24 (fun v => [v]) (fun v => v) 1 3 (l.map fun n => [D.v (.int .i64 n)]) ((dd l).map fun n => [D.v (.int .i64 n)]) := by
 have hpos : 0 < l.length := List.length_pos_iff.2 hne
 refine DoesW.of_body (as_ := [.o 0]) Tryz.func24 rfl rfl (by simp) Tryz.call24 (fun _ => rfl) (by intro O H w h1 i x s hx hs; rcases i with _ | i <;> simp at hx hs; subst hx; subst hs; exact .o 0 h1) (by simpa using hne) (by simpa using dd_ne hne) (fun O0 Oc W => ?_); refine .g <| .r <| .a ?_; refine .sq <| .g <| .g <| .r <| .m ?_; refine .x (OpSem.leno rfl rfl rfl es22) ?_; refine .x (.b blss) ?_; refine .sq <| .cond rfl (fun c8 => ?_) (fun c8 => ?_)
 ·have hlt : l.length < 2 := by simp at c8; omega
  refine .g <| .r <| .m ?_; refine .a ?_; exact .sq <| .t <| .t <| .retW rfl (.tmp rfl <| .nil) rfl rfl (by simp [plainB]) (by rw [dd_one hlt]) (fun H => rfl)
 ·have hge : 2 ≤ l.length := by simp at c8; omega
  refine .p <| .g <| .g <| .g <| .r <| .a ?_; refine .sq <| .k <| .loop (X := Nat) (fun k => 1 ≤ k ∧ k ≤ l.length ∧ ∀ i : Nat, 0 < i → i < k → nth l i ≠ nth l (i - 1 : Int)) (fun k => [(0, .o 0), (3, I (k))]) (fun k => [(0, .own 1 3 (l.map fun n => [D.v (.int .i64 n)])), (1000, .fr (frK Oc W))]) (fun k => l.length - k) 1 ⟨by omega, by omega, fun i h0 h1 => by omega⟩ ?_ ?_
  ·exact .all
  ·rintro k ⟨hk1, hkl, hinv⟩
   refine .g <| .g <| .r <| .mm ?_; refine .x (OpSem.leno rfl rfl rfl es22) ?_; refine .x (.b blss) ?_; refine .sq <| .cond rfl (fun c13 => ?_) (fun c13 => ?_)
   ·have hk : k < l.length := by simpa using c13
    refine .p <| .g <| .g <| .k <| .g <| PC.start [] ?_; refine .mm ?_; refine .x (OpSem.idxo rfl rfl rfl rfl es22 (by omega) (by simp; omega)) ?_; refine .x (OpSem.loadq rfl rfl rfl vs3 (rows_get (by omega) (by omega)) rfl) ?_; refine .mm ?_; refine .x .su ?_; refine .x (OpSem.idxo rfl rfl rfl rfl es22 (by omega) (by simp; omega)) ?_; refine .x (OpSem.loadq rfl rfl rfl vs3 (rows_get (by omega) (by omega)) rfl) ?_; refine .d0 mixed ?_; refine .x (.b beql) ?_; refine .sq <| .cond rfl (fun c25 => ?_) (fun c25 => ?_)
    ·have hdu : nth l k = nth l (k - 1 : Int) := by simpa using c25
     have hk0 : (ddTo l (k + 1)).length = k := by rw [show ddTo l (k + 1) = ddTo l k from if_pos ⟨by omega, hdu⟩, ddTo_take (by omega) hinv]; simp; omega
     refine .g <| .r <| .mm ?_; refine .x (OpSem.sliceoL rfl rfl rfl rfl es22 (by omega) (by simp; omega)) ?_; refine .a ?_; refine .sq <| .g <| .g <| .r <| .a ?_; refine .sq <| .k <| .loop (X := Nat) (fun j => k + j + 1 ≤ l.length) (fun j => [(0, .o 0), (3, I (((ddTo l (k + j + 1)).length : Int))), (4, .w 0 1 k (l.length - k)), (5, I (((j + 1 : Nat) : Int)))]) (fun j => [(0, .own 1 3 ((dmTo l k j).map fun n => [D.v (.int .i64 n)])), (1000, .fr (frK Oc W))]) (fun j => l.length - (k + j + 1)) 0 (by omega) ?_ ?_
     ·exact .sl <| .slot rfl (Le.i (by rw [Nat.add_zero, hk0])) <| .slot rfl (Le.of_eq (by simp)) <| .slot rfl (Le.of_eq (by simp)) <| .memEq rfl (by simp [dmTo]) <| .mem rfl <| .nil
     ·rintro j hjl
      refine .g <| .g <| .r <| .mm ?_; refine .x (OpSem.lenw rfl rfl es22) ?_; refine .x (.b blss) ?_; refine .sq <| .cond rfl (fun c32 => ?_) (fun c32 => ?_)
      ·have hj : k + j + 1 < l.length := by simp at c32; omega
       have hdl := dk_len (by omega) hdu (j := j)
       have a1 := dmTo_at (by omega) hdu (i := k + j + 1) (j := j) (by omega)
       have a2 := dmTo_at (by omega) hdu (i := k + j) (j := j) (by omega)
       refine .p <| .g <| .g <| .k <| .g <| PC.start [] ?_; refine .mm ?_; refine .x (OpSem.idxw rfl rfl rfl es22 (by omega) (by omega)) ?_; refine .x (OpSem.loadq rfl rfl rfl vs3 (ints_dm a1 (by rw [dmTo_len]; omega) (by omega)) rfl) ?_; refine .mm ?_; refine .x .su ?_; refine .x (OpSem.idxw rfl rfl rfl es22 (by omega) (by omega)) ?_; refine .x (OpSem.loadq rfl rfl rfl vs3 (ints_dm a2 (by rw [dmTo_len]; omega) (by omega)) rfl) ?_; refine .d0 mixed ?_; refine .x (.b bneq) ?_; refine .sq <| .cond rfl (fun c44 => ?_) (fun c44 => ?_)
       ·have hnq : nth l (k + j + 1 : Nat) ≠ nth l (k + j : Nat) := fun h => by rw [h] at c44; simp at c44
        refine .g <| .r <| .mm ?_; refine .mm ?_; refine .x (OpSem.idxw rfl rfl rfl es22 (by omega) (by omega)) ?_; refine .x (OpSem.loadq rfl rfl rfl vs3 (ints_dm a1 (by rw [dmTo_len]; omega) (by omega)) rfl) ?_; refine .x (OpSem.idxo rfl rfl rfl rfl es22 (by omega) (by simp [dmTo_len]; omega)) ?_; refine .storeq rfl rfl rfl rfl rfl rfl rfl vs3 (rows_get (by omega) (by simp [dmTo_len]; omega)) (by simp) ?_; refine .y <| .m ?_; refine .x .ad ?_; refine .a ?_; refine .n <| .n <| .y <| .m ?_; refine .x .ad ?_; refine .a ?_; refine .n <| .again (j + 1) (by omega) ?_ (by omega); exact .sl <| .slot rfl (Le.i (by rw [ddTo_step (by omega) hdu, if_neg hnq]; simp)) <| .sl <| .slot rfl (Le.i (by omega)) <| .memEq rfl (by rw [dmTo_sI (k := k) (j := j) hnq, List.map_set]; rfl) <| .mem rfl <| .nil
       ·have hq : nth l (k + j + 1 : Nat) = nth l (k + j : Nat) := by simpa using c44
        refine .p <| .n <| .y <| .m ?_; refine .x .ad ?_; refine .a ?_; refine .n <| .again (j + 1) (by omega) ?_ (by omega); exact .sl <| .slot rfl (Le.i (by rw [ddTo_step (by omega) hdu, if_pos hq])) <| .sl <| .slot rfl (Le.i (by omega)) <| .memEq rfl (by rw [dmTo_eI (k := k) (j := j) hq]) <| .mem rfl <| .nil
      ·have hj : k + j + 1 = l.length := by simp at c32; omega
       have hdl := dk_len (by omega) hdu (j := j)
       refine .u <| .u <| .u <| .b <| .z <| .mm ?_; refine .x (OpSem.sliceoL rfl rfl rfl rfl es22 (by omega) (by simp [dmTo_len]; omega)) ?_; refine .ofSt0 (OpSt.clearW rfl rfl es22 ze22 rfl rfl (by decide) (by simp [dmTo_len]; omega)) rfl rfl rfl ?_; refine .z <| .mm ?_; refine .semM (OpSem.cutO rfl rfl rfl rfl es22 (by omega) (by simp [dmTo_len]; omega) (by simp [dmTo_len]; omega)) rfl rfl (by decide) ?_; refine .a ?_; exact .sq <| .t <| .k <| .t <| .t <| .k <| .t <| .retW rfl (.tmp rfl <| .nil) rfl rfl (by rw [cut_ddI (by omega) hdu hk hinv hj]; exact plain_ints _) (cut_ddI (by omega) hdu hk hinv hj) (fun H => rfl)
    ·have hdu : nth l k ≠ nth l (k - 1 : Int) := fun h => by rw [h] at c25; simp at c25
     refine .p <| .n <| .y <| .m ?_; refine .x .ad ?_; refine .a ?_; refine .n <| .again (k + 1) ⟨by omega, by omega, fun i h0 hi => by by_cases h : i = k; (subst h; exact hdu); exact hinv i h0 (by omega)⟩ ?_ (by omega); exact .sl <| .slot rfl (Le.i (by omega)) <| .all
   ·have hk : k = l.length := by simp at c13; omega
    refine .u <| .u <| .u <| .b <| .z <| .m ?_; refine .a ?_; exact .sq <| .t <| .retW rfl (.tmp rfl <| .nil) rfl rfl (by simp [plainB]) (by rw [dd_all (by rw [← hk]; exact hinv)]) (fun H => rfl)
open Go.Shelf Go.RowKit Go.Lib
theorem compact_nilI (p : Option Addr) (cap : Nat) (w : World) : Calls Tryz.prog 24 #[.slice p 0 cap] w fun e w' => e = .returned (.slice p 0 cap) ∧ w' = w := by
  go_enter Tryz.func24, Tryz.ntmps24
  go_wp2
  go_ret
  exact ⟨by simp, rfl⟩
theorem compact_allI (l : List Int) (hml : (l.length : Int) ≤ 9223372036854775807) : DoesW Tryz.prog 24 (fun v => [v]) (fun v => v) 1 3 (l.map fun n => [D.v (.int .i64 n)]) ((dd l).map fun n => [D.v (.int .i64 n)]) := by
  by_cases hne : l = []
  · subst hne
    refine ⟨Tryz.call24, fun w v hv => ?_⟩
    have he : ∃ p cap, v = .slice p 0 cap := by
      rcases hv with ⟨rfl, _⟩ | ⟨b, cap, xs, rfl, _⟩
      · exact ⟨_, _, rfl⟩
      · exact ⟨_, _, rfl⟩
    obtain ⟨p, cap, rfl⟩ := he
    refine (compact_nilI p cap w).mono ?_
    rintro e w' ⟨rfl, rfl⟩
    refine ⟨_, rfl, ⟨rfl, rfl, rfl, Nat.le_refl _, fun b hb _ => rfl⟩, ?_, .inr (.inl rfl)⟩
    have e0 : dd ([] : List Int) = [] := by simp [dd, ddTo]
    rw [e0]
    rcases hv with h | ⟨b, cap', xs, h1, h2, h3, h4⟩
    · exact .inl h
    · exact .inr ⟨b, cap', xs, h1, h2, h3, h4⟩
  · exact slices_Compact_int_int_W l hne hml
theorem shTq {α : Type} {x : Option α} {a b : α} (h : x = some a) (e : a = b) : x = some b := h.trans (congrArg some e)
def Tryz.sortInts_ren : Go.Shelf.Ren := ⟨fun | 5 => 23 | 8 => 50 | 7 => 49 | 19 => 91 | 20 => 92 | 10 => 83 | 11 => 84 | 12 => 85 | 13 => 86 | 14 => 87 | 15 => 88 | 16 => 51 | 17 => 89 | 18 => 90 | 30 => 116 | 31 => 117 | 32 => 118 | 33 => 119 | 34 => 120 | 35 => 58 | 40 => 132 | n => n, fun | 23 => 22 | 25 => 3 | 3 => 3 | 32 => 101 | 22 => 22 | 0 => 0 | 44 => 64 | 46 => 135 | 4 => 4 | 36 => 129 | 35 => 128 | 41 => 59 | 5 => 5 | 9 => 9 | 53 => 150 | 57 => 154 | 63 => 165 | 64 => 166 | n => n, fun | n => n⟩
theorem Tryz.sortInts : Go.Proofs.SlLaysM.n5 Tryz.prog Tryz.sortInts_ren := {
 mixed := by kernel_rfl
 f5 := ⟨Tryz.f23.name, by decide, shTq Tryz.func23 (by kernel_rfl)⟩
 f7 := ⟨Tryz.f49.name, by decide, shTq Tryz.func49 (by kernel_rfl)⟩
 f8 := shTq Tryz.func50 (by kernel_rfl)
 f10 := ⟨Tryz.f83.name, by decide, shTq Tryz.func83 (by kernel_rfl)⟩
 f11 := ⟨Tryz.f84.name, by decide, shTq Tryz.func84 (by kernel_rfl)⟩
 f12 := ⟨Tryz.f85.name, by decide, shTq Tryz.func85 (by kernel_rfl)⟩
 f13 := ⟨Tryz.f86.name, by decide, shTq Tryz.func86 (by kernel_rfl)⟩
 f14 := ⟨Tryz.f87.name, by decide, shTq Tryz.func87 (by kernel_rfl)⟩
 f15 := ⟨Tryz.f88.name, by decide, shTq Tryz.func88 (by kernel_rfl)⟩
 f16 := ⟨Tryz.f51.name, by decide, shTq Tryz.func51 (by kernel_rfl)⟩
 f17 := ⟨Tryz.f89.name, by decide, shTq Tryz.func89 (by kernel_rfl)⟩
 f18 := ⟨Tryz.f90.name, by decide, shTq Tryz.func90 (by kernel_rfl)⟩
 f19 := shTq Tryz.func91 (by kernel_rfl)
 f20 := shTq Tryz.func92 (by kernel_rfl)
 f30 := ⟨Tryz.f116.name, by decide, shTq Tryz.func116 (by kernel_rfl)⟩
 f31 := shTq Tryz.func117 (by kernel_rfl)
 f32 := shTq Tryz.func118 (by kernel_rfl)
 f33 := ⟨Tryz.f119.name, by decide, shTq Tryz.func119 (by kernel_rfl)⟩
 f34 := ⟨Tryz.f120.name, by decide, shTq Tryz.func120 (by kernel_rfl)⟩
 f35 := ⟨Tryz.f58.name, by decide, shTq Tryz.func58 (by kernel_rfl)⟩
 f40 := ⟨Tryz.f132.name, by decide, shTq Tryz.func132 (by kernel_rfl)⟩
 t0 := Tryz.underlying0
 a0 := Tryz.isAgg0
 z0 := Tryz.sizeOf0
 v0 := Tryz.zeroValue0
 t3 := Tryz.underlying3
 a3 := Tryz.isAgg3
 z3 := Tryz.sizeOf3
 v3 := Tryz.zeroValue3
 t4 := Tryz.underlying4
 a4 := Tryz.isAgg4
 z4 := Tryz.sizeOf4
 v4 := Tryz.zeroValue4
 t5 := Tryz.underlying5
 a5 := Tryz.isAgg5
 z5 := Tryz.sizeOf5
 v5 := Tryz.zeroValue5
 t9 := Tryz.underlying9
 a9 := Tryz.isAgg9
 z9 := Tryz.sizeOf9
 v9 := Tryz.zeroValue9
 t22 := Tryz.underlying22
 a22 := Tryz.isAgg22
 z22 := Tryz.sizeOf22
 v22 := Tryz.zeroValue22
 t23 := Tryz.underlying22
 a23 := Tryz.isAgg22
 z23 := Tryz.sizeOf22
 v23 := Tryz.zeroValue22
 t25 := Tryz.underlying3
 a25 := Tryz.isAgg3
 z25 := Tryz.sizeOf3
 v25 := Tryz.zeroValue3
 t32 := Tryz.underlying101
 a32 := Tryz.isAgg101
 z32 := Tryz.sizeOf101
 v32 := Tryz.zeroValue101
 t35 := Tryz.underlying128
 a35 := Tryz.isAgg128
 z35 := Tryz.sizeOf128
 v35 := Tryz.zeroValue128
 t36 := Tryz.underlying129
 a36 := Tryz.isAgg129
 z36 := Tryz.sizeOf129
 v36 := Tryz.zeroValue129
 t41 := Tryz.underlying59
 a41 := Tryz.isAgg59
 z41 := Tryz.sizeOf59
 v41 := Tryz.zeroValue59
 t44 := Tryz.underlying64
 a44 := Tryz.isAgg64
 z44 := Tryz.sizeOf64
 v44 := Tryz.zeroValue64
 t46 := Tryz.underlying135
 a46 := Tryz.isAgg135
 z46 := Tryz.sizeOf135
 v46 := Tryz.zeroValue135
 t53 := Tryz.underlying150
 a53 := Tryz.isAgg150
 z53 := Tryz.sizeOf150
 v53 := Tryz.zeroValue150
 t57 := Tryz.underlying154
 a57 := Tryz.isAgg154
 z57 := Tryz.sizeOf154
 v57 := Tryz.zeroValue154
 t63 := Tryz.underlying165
 a63 := Tryz.isAgg165
 z63 := Tryz.sizeOf165
 v63 := Tryz.zeroValue165
 t64 := Tryz.underlying166
 a64 := Tryz.isAgg166
 z64 := Tryz.sizeOf166
 v64 := Tryz.zeroValue166 }
theorem sortI_W (l : List Int) (hl : l.length < 4611686018427387904) : DoesWS Tryz.prog 23 (fun v => [v]) (.tuple #[]) 1 3 (l.map fun n => [D.v (.int .i64 n)]) ((sortI l).map fun n => [D.v (.int .i64 n)]) :=
  sortInts_W Tryz.sortInts 3 Tryz.call23 l hl
end Go.Proofs.YthjmgcopfipabaaGreat
end

section
namespace Go.Proofs.YthjmgcopfipabaaGreat
open Go.Eng
set_option maxRecDepth 10000
set_option maxHeartbeats 1000000
theorem strips_Update_does (s a d : List Int) (hd : d.Pairwise (· < ·)) (hs : s.length ≤ 1000) (ha : a.length ≤ 1000) (hl : d.length ≤ 1000) : DoesO Tryz.prog 126 [.d (ints s), .d (ints a), .d (ints d)] 1 3 (((upS s a d).map fun n => [D.v (.int .i64 n)])) := by
 refine DoesO.of_body Tryz.func126 rfl rfl (by simp) Tryz.call126 (fun w0 O0 => ?_); refine .le 0 fun len0 => ?_; refine .le 1 fun len1 => ?_; refine .le 2 fun len2 => ?_; refine .g <| .r <| .a ?_; refine .z <| .a ?_; refine .sq <| .g <| .g <| .ownNil (n := 7) 7 1 3 rfl ?_; refine .r <| .m ?_; refine .x (.n es22) ?_; refine .m ?_; refine .sq <| .k <| .loop (X := Nat) (fun k => k ≤ s.length) (fun k => [(1, .d (ints a)), (2, .d (ints d)), (7, .o 7), (12, .d (ints s)), (13, I (s.length)), (14, I (k))]) (fun k => [(7, .own 1 3 ((keepTo s d k).map fun n => [D.v (.int .i64 n)]))]) (fun k => s.length - k) 0 (by omega) ?_ ?_
 ·exact .p5 <| .slot rfl (Le.of_eq (by simp)) <| .memEq rfl (by rw [keep_0]; rfl) <| .nil
 ·rintro k hkl
  refine .g <| .r <| .x (.b blss) ?_; refine .sq <| .g <| .cond rfl (fun c15 => ?_) (fun c15 => ?_)
  ·have hk : k < s.length := by simpa using c15
   have hkl2 := keep_len (s := s) (d := d) (k := k)
   refine .p <| .g <| .g <| .k <| .g <| .r <| .x (.i es22) ?_; refine .x (.l1 vs3) ?_; refine .a ?_; refine .z <| .mm ?_; refine .x (OpSem.call0 (slices_BinarySearch_int_int_does d (nth s k) hd (by omega)) rfl rfl rfl rfl (Les.refl _)) ?_; refine .m ?_; refine .x .xt ?_; refine .x .xt ?_; refine .a ?_; refine .a ?_; refine .z <| .m ?_; refine .x .nt ?_; refine .sq <| .cond rfl (fun c25 => ?_) (fun c25 => ?_)
   ·have hb : nth s k ∉ d := by simpa using c25
    refine .r <| .mm ?_; refine .x (.bs es22 ze22) ?_; refine .ap es22 el22 zc3 by3 ?_; refine .a ?_; refine .n <| .n <| .y <| .x .ad ?_; refine .m ?_; refine .n <| .again (k + 1) (by omega) ?_ (by omega); exact .p5 <| .slot rfl (Le.of_eq (by simp)) <| .memEq rfl (by rw [keep_t hk hb]; simp) <| .nil
   ·have hb : nth s k ∈ d := by simpa using c25
    refine .p <| .n <| .y <| .x .ad ?_; refine .m ?_; refine .n <| .again (k + 1) (by omega) ?_ (by omega); exact .p5 <| .slot rfl (Le.of_eq (by simp)) <| .memEq rfl (by rw [keep_f hk hb]) <| .nil
  ·have hk : k = s.length := by simp at c15; omega
   subst hk
   have hkl2 := keep_len (s := s) (d := d) (k := s.length)
   refine .u <| .u <| .u <| .b <| .z <| .mm ?_; refine .ap es22 el22 zc3 by3 ?_; refine .a ?_; refine .z <| .m ?_
   rw [← List.map_append]
   refine .ofSt (OpSt.callWS (s := .t []) (sortI_W (keepTo s d s.length ++ a) (by simp; omega)) rfl rfl rfl (fun H => rfl) (plain_ints _) (fun O H w => .t [] [] rfl (fun i x s h => by simp at h))) rfl rfl rfl (by decide) ?_; refine .z <| .m ?_; refine .callW (s := .o 7) (compact_allI (sortI (keepTo s d s.length ++ a)) (by rw [sortI_len]; simp; omega)) rfl rfl rfl (by decide) rfl rfl rfl (fun H => rfl) (plain_ints _) (fun O H w h1 => .o 7 h1) ?_; refine .a ?_; exact .sq <| .t <| .retO2 rfl rfl rfl (by simp) (rfl)
theorem strips_Contains_does (s part : List Int) (hs : s.Pairwise (· < ·)) (hp : part.Pairwise (· < ·)) (h1 : s.length ≤ 1000) (h2 : part.length ≤ 1000) : Does Tryz.prog false 62 [.d (ints s), .d (ints part)] (Bo (decide (SubP part s))) := by
 refine Does.of_body Tryz.func62 rfl rfl (by simp) Tryz.call62 (fun w0 O0 => ?_); refine .le 0 fun len0 => ?_; refine .le 1 fun len1 => ?_; refine .g <| .r <| .a ?_; refine .z <| .a ?_; refine .sq <| .g <| .g <| .r <| .m ?_; refine .x (.n es22) ?_; refine .m ?_; refine .sq <| .k <| .loop (X := (Nat × Nat)) (fun q => MgP s part q.1 q.2) (fun q => [(0, .d (ints s)), (5, I (q.2)), (8, .d (ints part)), (9, I (part.length)), (10, I (q.1))]) (fun q => []) (fun q => part.length - q.1) (0, 0) mg_0 ?_ ?_
 ·exact .sl <| .slot rfl (Le.of_eq (by simp)) <| .p2 <| .slot rfl (Le.of_eq (by simp)) <| .nil
 ·rintro q hm
  refine .g <| .r <| .x (.b blss) ?_; refine .sq <| .g <| .cond rfl (fun c11 => ?_) (fun c11 => ?_)
  ·have hk : q.1 < part.length := by simpa using c11
   refine .p <| .g <| .g <| .k <| .g <| .r <| .x (.i es22) ?_; refine .x (.l1 vs3) ?_; refine .a ?_; refine .sq <| .g <| .k <| .loop (X := Nat) (fun j => MgQ s part q.1 j) (fun j => [(0, .d (ints s)), (5, I (j)), (7, I ((nth part q.1))), (8, .d (ints part)), (9, I (part.length)), (10, I (q.1))]) (fun j => []) (fun j => s.length - j) q.2 (mg_q hp hm) ?_ ?_
   ·exact .sl <| .slot rfl (Le.of_eq (by simp)) <| .all
   ·rintro j hm2
    refine .g <| .g <| .r <| .mm ?_; refine .x (.n es22) ?_; refine .x (.b blss) ?_; refine .m ?_; refine .split (n := 18) rfl (fun c18 => ?_) (fun c18 => ?_)
    ·have hj : j < s.length := by simpa using c18
     refine .gt c18 ?_; refine .m ?_; refine .gt c18 ?_; refine .m ?_; refine .gt c18 ?_; refine .x (.i es22) ?_; refine .gt c18 ?_; refine .x (.l1 vs3) ?_; refine .gt c18 ?_; refine .m ?_; refine .gt c18 ?_; refine .x (.b blss) ?_; refine .x (OpSem.pickT rfl rfl c18 rfl) ?_; refine .sq <| .cond rfl (fun c25 => ?_) (fun c25 => ?_)
     ·have hlt : nth s j < nth part q.1 := by simpa using c25
      refine .p <| .g <| .k <| .r <| .m ?_; refine .x .ad ?_; refine .a ?_; refine .n <| .n <| .again (j + 1) (mg_j hm2 hj hlt) ?_ (by omega); exact .sl <| .slot rfl (Le.of_eq (by simp)) <| .all
     ·have hge : j < s.length → nth part q.1 ≤ nth s j := fun hj => by simp at c25; omega
      refine .u <| .u <| .u <| .b <| .z <| .mm ?_; refine .x (.n es22) ?_; refine .x (.b beql) ?_; refine .m ?_; refine .split (n := 32) rfl (fun c32 => ?_) (fun c32 => ?_)
      ·have hne : ∀ hj : j < s.length, nth s j ≠ nth part q.1 := fun hj => by simp at c32; omega
       refine .hf c32 ?_; refine .hf c32 ?_; refine .hf c32 ?_; refine .hf c32 ?_; refine .hf c32 ?_; refine .hf c32 ?_; refine .x (OpSem.pickT rfl rfl c32 rfl) ?_; refine .sq <| .condT rfl rfl ?_; refine .g <| .r <| .a ?_; exact .sq <| .t <| .k <| .t <| .t <| .k <| .t <| .ret rfl (.tmp rfl <| .nil) rfl (Le.bo (by first | exact (decide_eq_false (mg_no hs hm2 hk hge hne)).symm | exact (decide_eq_true (mg_yes hk hm)).symm))
      ·refine .ht c32 ?_; refine .m ?_; refine .ht c32 ?_; refine .m ?_; refine .ht c32 ?_; refine .x (OpSem.idxL rfl rfl rfl es22 (by omega) (by have := hm2.jj; simp at c32; omega)) ?_; refine .ht c32 ?_; refine .x (.l1 vs3) ?_; refine .ht c32 ?_; refine .m ?_; refine .ht c32 ?_; refine .x (.b bneq) ?_; refine .x (OpSem.pickF rfl rfl c32 rfl) ?_; refine .sq <| .cond rfl (fun c39 => ?_) (fun c39 => ?_)
       ·have hne : ∀ hj : j < s.length, nth s j ≠ nth part q.1 := fun hj => by simpa using c39
        refine .g <| .r <| .a ?_; exact .sq <| .t <| .k <| .t <| .t <| .k <| .t <| .ret rfl (.tmp rfl <| .nil) rfl (Le.bo (by first | exact (decide_eq_false (mg_no hs hm2 hk hge hne)).symm | exact (decide_eq_true (mg_yes hk hm)).symm))
       ·have hje : j < s.length ∧ nth s j = nth part q.1 := ⟨by have := hm2.jj; simp at c32; omega, by simpa using c39⟩
        refine .p <| .n <| .y <| .x .ad ?_; refine .m ?_; refine .n <| .again (q.1 + 1, j) (mg_s hs hp hm2 hk hje) ?_ (by simp only []; omega)
        exact .p3 <| .sl <| .slot rfl (Le.of_eq (by simp)) <| .nil
    ·have hj : ¬ j < s.length := by simpa using c18
     have hge : j < s.length → nth part q.1 ≤ nth s j := fun h => absurd h hj
     refine .gf c18 ?_; refine .gf c18 ?_; refine .gf c18 ?_; refine .gf c18 ?_; refine .gf c18 ?_; refine .gf c18 ?_; refine .x (OpSem.pickF rfl rfl c18 rfl) ?_; refine .sq <| .condF rfl rfl ?_; refine .u <| .u <| .u <| .b <| .z <| .mm ?_; refine .x (.n es22) ?_; refine .x (.b beql) ?_; refine .m ?_; refine .split (n := 32) rfl (fun c32 => ?_) (fun c32 => ?_)
     ·have hne : ∀ hj : j < s.length, nth s j ≠ nth part q.1 := fun hj => by simp at c32; omega
      refine .hf c32 ?_; refine .hf c32 ?_; refine .hf c32 ?_; refine .hf c32 ?_; refine .hf c32 ?_; refine .hf c32 ?_; refine .x (OpSem.pickT rfl rfl c32 rfl) ?_; refine .sq <| .condT rfl rfl ?_; refine .g <| .r <| .a ?_; exact .sq <| .t <| .k <| .t <| .t <| .k <| .t <| .ret rfl (.tmp rfl <| .nil) rfl (Le.bo (by first | exact (decide_eq_false (mg_no hs hm2 hk hge hne)).symm | exact (decide_eq_true (mg_yes hk hm)).symm))
     ·refine .ht c32 ?_; refine .m ?_; refine .ht c32 ?_; refine .m ?_; refine .ht c32 ?_; refine .x (OpSem.idxL rfl rfl rfl es22 (by omega) (by have := hm2.jj; simp at c32; omega)) ?_; refine .ht c32 ?_; refine .x (.l1 vs3) ?_; refine .ht c32 ?_; refine .m ?_; refine .ht c32 ?_; refine .x (.b bneq) ?_; refine .x (OpSem.pickF rfl rfl c32 rfl) ?_; refine .sq <| .cond rfl (fun c39 => ?_) (fun c39 => ?_)
      ·have hne : ∀ hj : j < s.length, nth s j ≠ nth part q.1 := fun hj => by simpa using c39
       refine .g <| .r <| .a ?_; exact .sq <| .t <| .k <| .t <| .t <| .k <| .t <| .ret rfl (.tmp rfl <| .nil) rfl (Le.bo (by first | exact (decide_eq_false (mg_no hs hm2 hk hge hne)).symm | exact (decide_eq_true (mg_yes hk hm)).symm))
      ·have hje : j < s.length ∧ nth s j = nth part q.1 := ⟨by have := hm2.jj; simp at c32; omega, by simpa using c39⟩
       refine .p <| .n <| .y <| .x .ad ?_; refine .m ?_; refine .n <| .again (q.1 + 1, j) (mg_s hs hp hm2 hk hje) ?_ (by simp only []; omega)
       exact .p3 <| .sl <| .slot rfl (Le.of_eq (by simp)) <| .nil
  ·have hk : q.1 = part.length := by have := hm.kk; simp at c11; omega
   refine .u <| .u <| .u <| .b <| .z <| .a ?_; exact .sq <| .t <| .ret rfl (.tmp rfl <| .nil) rfl (Le.bo (by first | exact (decide_eq_false (mg_no hs hm2 hk hge hne)).symm | exact (decide_eq_true (mg_yes hk hm)).symm))
end Go.Proofs.YthjmgcopfipabaaGreat
end

section
namespace Go.Eng
theorem wrap_u32 {n : Int} (h0 : 0 ≤ n) (h1 : n ≤ 4294967295) : IntKind.u32.wrap n = n := IntWalk.u32_in n ⟨h0, h1⟩
theorem bor {t : TypeId} {a b : Nat} (ha : a < 2 ^ 62) (hb : b < 2 ^ 62) : binOp .or t (.int .i64 (a : Int)) (.int .i64 (b : Int)) = pure (.int .i64 ((a ||| b : Nat) : Int)) := by
 have h : a ||| b < 2 ^ 62 := Nat.or_lt_two_pow ha hb
 rw [binOp_or, intBits_or]
 congr 2
 unfold bits
 have hb : (BitVec.ofInt 64 (a : Int) ||| BitVec.ofInt 64 (b : Int)).toNat = a ||| b := by
  have e1 : BitVec.ofInt 64 (a : Int) = BitVec.ofNat 64 a := by simp
  have e2 : BitVec.ofInt 64 (b : Int) = BitVec.ofNat 64 b := by simp
  rw [e1, e2, BitVec.toNat_or, BitVec.toNat_ofNat, BitVec.toNat_ofNat, Nat.mod_eq_of_lt (by omega), Nat.mod_eq_of_lt (by omega)]
 have hb' : ((BitVec.ofInt IntKind.i64.bits (a : Int) ||| BitVec.ofInt IntKind.i64.bits (b : Int)).toNat : Int) = ((a ||| b : Nat) : Int) := congrArg Int.ofNat hb
 generalize a ||| b = z at h hb'
 exact (congrArg IntKind.i64.wrap hb').trans (wrap_i64 (by omega) (by omega))
theorem bor32 {t : TypeId} {a b : Nat} (ha : a < 2 ^ 32) (hb : b < 2 ^ 32) : binOp .or t (.int .u32 (a : Int)) (.int .u32 (b : Int)) = pure (.int .u32 ((a ||| b : Nat) : Int)) := by
 have h : a ||| b < 2 ^ 32 := Nat.or_lt_two_pow ha hb
 rw [binOp_or, intBits_or]
 congr 2
 unfold bits
 have hb : (BitVec.ofInt 32 (a : Int) ||| BitVec.ofInt 32 (b : Int)).toNat = a ||| b := by
  have e1 : BitVec.ofInt 32 (a : Int) = BitVec.ofNat 32 a := by simp
  have e2 : BitVec.ofInt 32 (b : Int) = BitVec.ofNat 32 b := by simp
  rw [e1, e2, BitVec.toNat_or, BitVec.toNat_ofNat, BitVec.toNat_ofNat, Nat.mod_eq_of_lt (by omega), Nat.mod_eq_of_lt (by omega)]
 have hb' : ((BitVec.ofInt IntKind.u32.bits (a : Int) ||| BitVec.ofInt IntKind.u32.bits (b : Int)).toNat : Int) = ((a ||| b : Nat) : Int) := congrArg Int.ofNat hb
 generalize a ||| b = z at h hb'
 exact (congrArg IntKind.u32.wrap hb').trans (wrap_u32 (by omega) (by omega))
theorem andNot_lt {a b : Nat} (ha : a < 2 ^ 32) : a &&& (2 ^ 32 - 1 - b) < 2 ^ 32 := Nat.lt_of_le_of_lt Nat.and_le_left ha
theorem bandn32 {t : TypeId} {a b : Nat} (ha : a < 2 ^ 32) (hb : b < 2 ^ 32) : binOp .andNot t (.int .u32 (a : Int)) (.int .u32 (b : Int)) = pure (.int .u32 ((a &&& (2 ^ 32 - 1 - b) : Nat) : Int)) := by
 have h : a &&& (2 ^ 32 - 1 - b) < 2 ^ 32 := andNot_lt ha
 rw [binOp_andNot, intBits_andNot]
 congr 2
 unfold bits
 have hb : (BitVec.ofInt 32 (a : Int) &&& ~~~ BitVec.ofInt 32 (b : Int)).toNat = a &&& (2 ^ 32 - 1 - b) := by
  have e1 : BitVec.ofInt 32 (a : Int) = BitVec.ofNat 32 a := by simp
  have e2 : BitVec.ofInt 32 (b : Int) = BitVec.ofNat 32 b := by simp
  rw [e1, e2, BitVec.toNat_and, BitVec.toNat_not, BitVec.toNat_ofNat, BitVec.toNat_ofNat, Nat.mod_eq_of_lt (by omega), Nat.mod_eq_of_lt (by omega)]
 have hb' : ((BitVec.ofInt IntKind.u32.bits (a : Int) &&& ~~~ BitVec.ofInt IntKind.u32.bits (b : Int)).toNat : Int) = ((a &&& (2 ^ 32 - 1 - b) : Nat) : Int) := congrArg Int.ofNat hb
 generalize a &&& (2 ^ 32 - 1 - b) = z at h hb'
 exact (congrArg IntKind.u32.wrap hb').trans (wrap_u32 (by omega) (by omega))
abbrev noCh : Int × Nat := (1000000000, 0)
def chLess (a b : Int × Nat) : Prop := a.1 < b.1 ∨ (a.1 = b.1 ∧ a.2 < b.2)
instance {a b : Int × Nat} : Decidable (chLess a b) := by unfold chLess; exact inferInstance
def htN (sets : List (List Int)) (e : Nat) : Nat → Nat
 | 0 => 0
 | i + 1 => if (e : Int) ∈ nth sets i then htN sets e i ||| 2 ^ i else htN sets e i
def htF (sets : List (List Int)) (e : Nat) : Nat := htN sets e sets.length
def chY (x : Int × Nat) (c : Int) (e : Nat) : Int × Nat := (x.1 + c, x.2 ||| 2 ^ e)
def hbN (tab : List (Int × Nat)) (c : Int) (e h : Nat) : Nat → List (Int × Nat)
 | 0 => tab
 | j + 1 => if nth tab j ≠ noCh ∧ chLess (chY (nth tab j) c e) (nth (hbN tab c e h j) (j ||| h : Nat)) then (hbN tab c e h j).set (j ||| h) (chY (nth tab j) c e) else hbN tab c e h j
def hb0 (n : Nat) : List (Int × Nat) := (List.replicate (2 ^ n) noCh).set 0 (0, 0)
def hbO (sets : List (List Int)) (cs : List Int) : Nat → List (Int × Nat)
 | 0 => hb0 sets.length
 | k + 1 => hbN (hbO sets cs k) (nth cs k) k (htF sets k) (2 ^ sets.length)
def hbF (sets : List (List Int)) (cs : List Int) : Int × Nat := nth (hbO sets cs cs.length) ((2 ^ sets.length : Nat) - 1 : Int)
def orL (sets : List (List Int)) : List Nat → Nat
 | [] => 0
 | e :: l => htF sets e ||| orL sets l
def coL (cs : List Int) : List Nat → Int
 | [] => 0
 | e :: l => nth cs e + coL cs l
section
variable {sets : List (List Int)} {cs : List Int} {tab : List (Int × Nat)} {c : Int} {e h n : Nat}
theorem htN_bit {b : Nat} : ∀ {i : Nat}, (htN sets e i).testBit b = decide (b < i ∧ (e : Int) ∈ nth sets b)
 | 0 => by simp [htN]
 | i + 1 => by
  have ih := htN_bit (b := b) (i := i)
  simp only [htN]
  by_cases hm : (e : Int) ∈ nth sets i
  ·rw [if_pos hm, Nat.testBit_or, ih, Nat.testBit_two_pow]
   by_cases hb : i = b
   ·subst hb; simp [hm]
   ·have : b < i + 1 ↔ b < i := by omega
    simp [hb, this]
  ·rw [if_neg hm, ih]
   by_cases hb : b = i
   ·subst hb; simp [hm]
   ·have : b < i + 1 ↔ b < i := by omega
    simp [this]
theorem htN_lt : ∀ {i : Nat}, htN sets e i < 2 ^ i
 | 0 => by simp [htN]
 | i + 1 => by
  have ih := htN_lt (i := i)
  have h2 : (2 : Nat) ^ (i + 1) = 2 ^ i + 2 ^ i := by rw [Nat.pow_succ]; omega
  have hp : 0 < (2 : Nat) ^ i := Nat.pow_pos (by omega)
  simp only [htN]
  split
  ·exact Nat.or_lt_two_pow (by omega) (by omega)
  ·omega
theorem htF_lt : htF sets e < 2 ^ sets.length := htN_lt
theorem orL_lt : ∀ {l : List Nat}, orL sets l < 2 ^ sets.length
 | [] => Nat.pow_pos (by omega)
 | _ :: _ => Nat.or_lt_two_pow htF_lt orL_lt
theorem orL_app : ∀ {l m : List Nat}, orL sets (l ++ m) = orL sets l ||| orL sets m
 | [], m => by simp [orL]
 | e :: l, m => by simp only [List.cons_append, orL]; rw [orL_app (l := l), Nat.or_assoc]
theorem coL_app : ∀ {l m : List Nat}, coL cs (l ++ m) = coL cs l + coL cs m
 | [], m => by simp [coL]
 | e :: l, m => by simp only [List.cons_append, coL]; rw [coL_app (l := l)]; omega
theorem orL_bit {b : Nat} : ∀ {l : List Nat}, (orL sets l).testBit b = decide (b < sets.length ∧ ∃ e, e ∈ l ∧ (e : Int) ∈ nth sets b)
 | [] => by simp [orL]
 | e :: l => by
  have ih := orL_bit (b := b) (l := l)
  simp only [orL]
  rw [Nat.testBit_or, ih]
  unfold htF
  rw [htN_bit]
  by_cases hb : b < sets.length <;> simp [hb]
theorem orL_all {l : List Nat} (h : ∀ b : Nat, b < sets.length → ∃ e, e ∈ l ∧ (e : Int) ∈ nth sets b) : orL sets l = 2 ^ sets.length - 1 := by
 refine Nat.eq_of_testBit_eq fun b => ?_
 rw [orL_bit, Nat.testBit_two_pow_sub_one]
 by_cases hb : b < sets.length
 ·rw [decide_eq_true ⟨hb, h b hb⟩, decide_eq_true hb]
 ·rw [decide_eq_false (fun q => hb q.1), decide_eq_false hb]
theorem orL_hit {l : List Nat} (h : orL sets l = 2 ^ sets.length - 1) {b : Nat} (hb : b < sets.length) : ∃ e, e ∈ l ∧ (e : Int) ∈ nth sets b := by
 have h1 := orL_bit (sets := sets) (l := l) (b := b)
 rw [h, Nat.testBit_two_pow_sub_one, decide_eq_true hb] at h1
 exact (of_decide_eq_true h1.symm).2
structure HbP (sets : List (List Int)) (cs : List Int) (k : Nat) (tab : List (Int × Nat)) : Prop where
 l : tab.length = 2 ^ sets.length
 s : ∀ m : Nat, m < 2 ^ sets.length → nth tab m = noCh ∨ ((nth tab m).2 < 2 ^ k ∧ ∃ H : List Nat, H.Pairwise (· < ·) ∧ (∀ e, e ∈ H → e < k) ∧ orL sets H = m ∧ (nth tab m).1 = coL cs H)
 c : ∀ H : List Nat, H.Pairwise (· < ·) → (∀ e, e ∈ H → e < k) → (nth tab (orL sets H : Nat)).1 ≤ coL cs H
theorem coL_rng (hc : ∀ i : Nat, i < cs.length → 0 ≤ nth cs i ∧ nth cs i ≤ 100) : ∀ {H : List Nat}, (∀ e, e ∈ H → e < cs.length) → 0 ≤ coL cs H ∧ coL cs H ≤ 100 * H.length
 | [], _ => by simp [coL]
 | e :: H, h => by
  have h1 := hc e (h e (by simp))
  have h2 := coL_rng hc (H := H) fun x hx => h x (by simp [hx])
  simp only [coL, List.length_cons]; omega
theorem pwN_len {H : List Nat} {a k : Nat} (hp : H.Pairwise (· < ·)) (hr : ∀ e, e ∈ H → a ≤ e ∧ e < k) : H.length ≤ k - a := by
 induction H generalizing a with
 | nil => simp
 | cons e H ih =>
  rw [List.pairwise_cons] at hp
  have h1 := hr e (by simp)
  have h2 := ih (a := e + 1) hp.2 fun x hx => ⟨hp.1 x hx, (hr x (by simp [hx])).2⟩
  simp only [List.length_cons]; omega
theorem nth_sN {α : Type} [Inhabited α] {l : List α} {i j : Nat} {v : α} (hj : j < l.length) : nth (l.set i v) (j : Int) = if i = j then v else nth l j := by
 rw [nth_set (by omega) (by omega)]
 by_cases h : i = j
 ·rw [if_pos (by omega), if_pos h]
 ·rw [if_neg (by omega), if_neg h]
theorem hbN_p (hl : tab.length = 2 ^ n) (hh : h < 2 ^ n) : ∀ {j : Nat}, j ≤ 2 ^ n → (hbN tab c e h j).length = 2 ^ n ∧ (∀ m : Nat, m < 2 ^ n → nth (hbN tab c e h j) m = nth tab m ∨ ∃ i : Nat, i < j ∧ i ||| h = m ∧ nth tab i ≠ noCh ∧ nth (hbN tab c e h j) m = chY (nth tab i) c e) ∧
  (∀ m : Nat, m < 2 ^ n → (nth (hbN tab c e h j) m).1 ≤ (nth tab m).1) ∧ ∀ i : Nat, i < j → nth tab i ≠ noCh → (nth (hbN tab c e h j) (i ||| h : Nat)).1 ≤ (nth tab i).1 + c
 | 0, _ => ⟨hl, fun m _ => .inl rfl, fun m _ => Int.le_refl _, fun i hi => by omega⟩
 | j + 1, hj => by
  obtain ⟨h1, h2, h3, h4⟩ := hbN_p hl hh (j := j) (by omega)
  have hm := Nat.or_lt_two_pow (show j < 2 ^ n by omega) hh
  simp only [hbN]
  by_cases hc : nth tab j ≠ noCh ∧ chLess (chY (nth tab j) c e) (nth (hbN tab c e h j) (j ||| h : Nat))
  ·rw [if_pos hc]
   have hle : (chY (nth tab j) c e).1 ≤ (nth (hbN tab c e h j) (j ||| h : Nat)).1 := by
    rcases hc.2 with q | ⟨q, _⟩ <;> omega
   refine ⟨by simpa using h1, fun m hm2 => ?_, fun m hm2 => ?_, fun i hi hne => ?_⟩
   ·rw [nth_sN (by omega)]
    by_cases he : j ||| h = m
    ·rw [if_pos he]; exact .inr ⟨j, by omega, he, hc.1, rfl⟩
    ·rw [if_neg he]
     rcases h2 m hm2 with q | ⟨i, a1, a2⟩
     ·exact .inl q
     ·exact .inr ⟨i, by omega, a2⟩
   ·rw [nth_sN (by omega)]
    have := h3 m hm2
    by_cases he : j ||| h = m
    ·rw [if_pos he]; rw [he] at hle; omega
    ·rw [if_neg he]; exact this
   ·have hi2 := Nat.or_lt_two_pow (show i < 2 ^ n by omega) hh
    rw [nth_sN (by omega)]
    by_cases he : j ||| h = i ||| h
    ·rw [if_pos he]
     by_cases hij : i = j
     ·subst hij; exact Int.le_refl _
     ·have := h4 i (by omega) hne
      rw [he] at hle; omega
    ·rw [if_neg he]
     by_cases hij : i = j
     ·exact absurd (by rw [hij]) he
     ·exact h4 i (by omega) hne
  ·rw [if_neg hc]
   refine ⟨h1, fun m hm2 => ?_, h3, fun i hi hne => ?_⟩
   ·rcases h2 m hm2 with q | ⟨i, a1, a2⟩
    ·exact .inl q
    ·exact .inr ⟨i, by omega, a2⟩
   ·by_cases hij : i = j
    ·subst hij
     have : ¬ chLess (chY (nth tab i) c e) (nth (hbN tab c e h i) (i ||| h : Nat)) := fun q => hc ⟨hne, q⟩
     have h5 : ¬ (chY (nth tab i) c e).1 < (nth (hbN tab c e h i) (i ||| h : Nat)).1 := fun q => this (.inl q)
     have h6 : (chY (nth tab i) c e).1 = (nth tab i).1 + c := rfl
     omega
    ·exact h4 i (by omega) hne
theorem pw_snoc {H : List Nat} {k : Nat} (hp : H.Pairwise (· < ·)) (hr : ∀ e, e ∈ H → e < k) : (H ++ [k]).Pairwise (· < ·) := by
 rw [List.pairwise_append]
 exact ⟨hp, by simp, fun x hx y hy => by rw [List.mem_singleton] at hy; have := hr x hx; omega⟩
theorem pw_last {H : List Nat} {k : Nat} (hp : H.Pairwise (· < ·)) (hr : ∀ e, e ∈ H → e < k + 1) : (∀ e, e ∈ H → e < k) ∨ ∃ H', H = H' ++ [k] ∧ H'.Pairwise (· < ·) ∧ ∀ e, e ∈ H' → e < k := by
 rcases List.eq_nil_or_concat H with rfl | ⟨H', x, rfl⟩
 ·exact .inl (by simp)
 ·rw [List.concat_eq_append, List.pairwise_append] at hp
  have hx := hr x (by simp)
  have hlt : ∀ e, e ∈ H' → e < x := fun e he => hp.2.2 e he x (by simp)
  by_cases h : x = k
  ·subst h; exact .inr ⟨H', by simp, hp.1, hlt⟩
  ·refine .inl fun e he => ?_
   rw [List.concat_eq_append, List.mem_append, List.mem_singleton] at he
   rcases he with he | rfl
   ·have := hlt e he; omega
   ·omega
theorem HbP.step {k : Nat} (hP : HbP sets cs k tab) (hk : k < cs.length) (hk16 : cs.length ≤ 16) (hc : ∀ i : Nat, i < cs.length → 0 ≤ nth cs i ∧ nth cs i ≤ 100) : HbP sets cs (k + 1) (hbN tab (nth cs k) k (htF sets k) (2 ^ sets.length)) := by
 obtain ⟨h1, h2, h3, h4⟩ := hbN_p (tab := tab) (c := nth cs k) (e := k) (h := htF sets k) hP.l htF_lt (Nat.le_refl _)
 have h2k : (2 : Nat) ^ k ≤ 2 ^ (k + 1) := Nat.pow_le_pow_right (by omega) (by omega)
 have hkk : (2 : Nat) ^ k < 2 ^ (k + 1) := Nat.pow_lt_pow_right (by omega) (by omega)
 refine ⟨h1, fun m hm => ?_, fun H hp hr => ?_⟩
 ·rcases h2 m hm with q | ⟨i, a1, a2, a3, a4⟩
  ·rw [q]
   rcases hP.s m hm with q | ⟨q1, H, b1, b2, b3, b4⟩
   ·exact .inl q
   ·exact .inr ⟨by omega, H, b1, fun e he => by have := b2 e he; omega, b3, b4⟩
  ·rw [a4]
   rcases hP.s i a1 with q | ⟨q1, H, b1, b2, b3, b4⟩
   ·exact absurd q a3
   ·refine .inr ⟨Nat.or_lt_two_pow (by omega) hkk, H ++ [k], pw_snoc b1 b2, fun e he => ?_, ?_, ?_⟩
    ·rw [List.mem_append, List.mem_singleton] at he
     rcases he with he | rfl
     ·have := b2 e he; omega
     ·omega
    ·rw [orL_app, b3, ← a2]; simp [orL]
    ·rw [coL_app, ← b4]; simp [coL, chY]
 ·rcases pw_last hp hr with hr | ⟨H', rfl, hp', hr'⟩
  ·exact Int.le_trans (h3 _ orL_lt) (hP.c H hp hr)
  ·have h5 := hP.c H' hp' hr'
   have h6 := coL_rng hc (H := H') fun e he => by have := hr' e he; omega
   have h7 := pwN_len (a := 0) hp' fun e he => ⟨by omega, hr' e he⟩
   have h8 := h4 (orL sets H') orL_lt fun q => by rw [q] at h5; simp only [noCh] at h5; omega
   rw [coL_app, orL_app]
   have e1 : orL sets [k] = htF sets k := by simp [orL]
   have e2 : coL cs [k] = nth cs k := by simp [coL]
   rw [e1, e2]; omega
theorem hb0_p : HbP sets cs 0 (hb0 sets.length) := by
 have hp : 0 < (2 : Nat) ^ sets.length := Nat.pow_pos (by omega)
 have ha : ∀ m : Nat, m < 2 ^ sets.length → nth (hb0 sets.length) m = if m = 0 then (0, 0) else noCh := fun m hm => by
  unfold hb0
  rw [nth_sN (by simpa using hm)]
  by_cases h : m = 0
  ·rw [if_pos h.symm, if_pos h]
  ·rw [if_neg (fun e => h e.symm), if_neg h, nth_eq (by simpa using hm), List.getElem_replicate]
 refine ⟨by simp [hb0], fun m hm => ?_, fun H hp2 hr => ?_⟩
 ·rw [ha m hm]
  by_cases h : m = 0
  ·rw [if_pos h]; exact .inr ⟨by simp, [], by simp, by simp, by simp [orL, h], by simp [coL]⟩
  ·rw [if_neg h]; exact .inl rfl
 ·cases H with
  | nil => rw [ha _ orL_lt]; simp [orL, coL]
  | cons e H => have := hr e (by simp); omega
theorem hbO_p (hk16 : cs.length ≤ 16) (hc : ∀ i : Nat, i < cs.length → 0 ≤ nth cs i ∧ nth cs i ≤ 100) : ∀ {k : Nat}, k ≤ cs.length → HbP sets cs k (hbO sets cs k)
 | 0, _ => hb0_p
 | k + 1, hk => (hbO_p hk16 hc (k := k) (by omega)).step (by omega) hk16 hc
end
end Go.Eng
end
