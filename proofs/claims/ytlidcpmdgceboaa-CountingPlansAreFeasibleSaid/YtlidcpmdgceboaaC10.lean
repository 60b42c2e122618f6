/- The engine and the walks that this claim uses, part 10. Written by prune.py out of our own texts. -/
import Derived.Test.YtlidcpmdgceboaaC9
import Derived.ProofKit
import Derived.OpenShut
import Derived.ChangeOld
import Derived.Below
import Derived.Deep.Slices
section
/- Walks, written by gen.py out of hints. -/





set_option linter.unusedVariables false
set_option linter.unusedSimpArgs false
namespace Go.Proofs.Ytlidcpmdgceboaa
open Go.Eng
set_option maxRecDepth 10000
set_option maxHeartbeats 1000000

theorem strips_Update_does (s a d : List Int) (hd : d.Pairwise (· < ·)) (hs : s.length ≤ 1000) (ha : a.length ≤ 1000) (hl : d.length ≤ 1000) : DoesO Try.prog 100 [.d (ints s), .d (ints a), .d (ints d)] 1 3 (((upS s a d).map fun n => [D.v (.int .i64 n)])) := by
 refine DoesO.of_body Try.func100 rfl rfl (by simp) Try.call100 (fun w0 O0 => ?_); refine .lenLe (n := 0) rfl (fun len0 => ?_); refine .lenLe (n := 1) rfl (fun len1 => ?_); refine .lenLe (n := 2) rfl (fun len2 => ?_); refine .seq ?_; refine .region ?_; refine .a ?_; refine .z ?_; refine .a ?_; refine .sq ?_; refine .seq ?_; refine .seq ?_; refine .ownNil (n := 7) 7 1 3 rfl ?_; refine .region ?_; refine .m ?_; refine .x (OpSem.lenL rfl rfl es22) ?_; refine .m ?_; refine .sq ?_; refine .block ?_; refine .loop (X := Nat) (fun k => k ≤ s.length) (fun k => [(1, .d (ints a)), (2, .d (ints d)), (7, .o 7), (12, .d (ints s)), (13, I (s.length)), (14, I (k))]) (fun k => [(7, .own 1 3 ((keepTo s d k).map fun n => [D.v (.int .i64 n)]))]) (fun k => s.length - k) 0 (by omega) ?_ ?_
 ·exact .slot rfl (.refl _) <| .slot rfl (.refl _) <| .slot rfl (.refl _) <| .slot rfl (.refl _) <| .slot rfl (.refl _) <| .slot rfl (Le.of_eq (by simp)) <| .memEq rfl (by rw [keep_0]; rfl) <| .nil
 ·rintro k hkl
  refine .seq ?_; refine .region ?_; refine .x (.b blss) ?_; refine .sq ?_; refine .seq ?_; refine .cond rfl (fun c15 => ?_) (fun c15 => ?_)
  ·have hk : k < s.length := by simpa using c15
   have hkl2 := keep_len (s := s) (d := d) (k := k)
   refine .skip ?_; refine .seq ?_; refine .seq ?_; refine .block ?_; refine .seq ?_; refine .region ?_; refine .x (OpSem.idxL rfl rfl rfl es22 (by omega) (by omega)) ?_; refine .x (OpSem.load1 rfl rfl vs3 rfl) ?_; refine .a ?_; refine .z ?_; refine .m ?_; refine .m ?_; refine .x (OpSem.call0 (slices_BinarySearch_int_int_does d (nth s k) hd (by omega)) rfl rfl rfl rfl (Les.refl _)) ?_; refine .m ?_; refine .x (OpSem.extract rfl rfl rfl) ?_; refine .x (OpSem.extract rfl rfl rfl) ?_; refine .a ?_; refine .a ?_; refine .z ?_; refine .m ?_; refine .x (OpSem.not rfl rfl) ?_; refine .sq ?_; refine .cond rfl (fun c25 => ?_) (fun c25 => ?_)
   ·have hb : nth s k ∉ d := by simpa using c25
    refine .region ?_; refine .m ?_; refine .m ?_; refine .x (.bs es22 ze22) ?_; refine .ap es22 el22 zc3 by3 ?_; refine .a ?_; refine .nil ?_; refine .block_normal ?_; refine .y ?_; refine .x .ad ?_; refine .m ?_; refine .nil ?_; refine .again (k + 1) (by omega) ?_ (by omega); exact .slot rfl (.refl _) <| .slot rfl (.refl _) <| .slot rfl (.refl _) <| .slot rfl (.refl _) <| .slot rfl (.refl _) <| .slot rfl (Le.of_eq (by simp)) <| .memEq rfl (by rw [keep_t hk hb]; simp) <| .nil
   ·have hb : nth s k ∈ d := by simpa using c25
    refine .skip ?_; refine .block_normal ?_; refine .y ?_; refine .x .ad ?_; refine .m ?_; refine .nil ?_; refine .again (k + 1) (by omega) ?_ (by omega); exact .slot rfl (.refl _) <| .slot rfl (.refl _) <| .slot rfl (.refl _) <| .slot rfl (.refl _) <| .slot rfl (.refl _) <| .slot rfl (Le.of_eq (by simp)) <| .memEq rfl (by rw [keep_f hk hb]) <| .nil
  ·have hk : k = s.length := by simp at c15; omega
   subst hk
   have hkl2 := keep_len (s := s) (d := d) (k := s.length)
   refine .exit ?_; refine .pass_exit ?_; refine .pass_exit ?_; refine .block_same ?_; refine .z ?_; refine .m ?_; refine .m ?_; refine .ap es22 el22 zc3 by3 ?_; refine .a ?_; refine .z ?_; refine .m ?_
   rw [← List.map_append]
   refine .ofSt (OpSt.callWS (s := .t []) (sortI_W (keepTo s d s.length ++ a) (by simp; omega)) rfl rfl rfl (fun H => rfl) (plain_ints _) (fun O H w => .t [] [] rfl (fun i x s h => by simp at h))) rfl rfl rfl (by decide) ?_; refine .z ?_; refine .m ?_; refine .callW (s := .o 7) (compact_allI (sortI (keepTo s d s.length ++ a)) (by rw [sortI_len]; simp; omega)) rfl rfl rfl (by decide) rfl rfl rfl (fun H => rfl) (plain_ints _) (fun O H w h1 => .o 7 h1) ?_; refine .a ?_; refine .sq ?_; refine .ret ?_; exact .retO2 rfl rfl rfl (by simp) (rfl)

theorem strips_Next_does (t : Tsk) (s : List Int) (i : Int) (hV : TskV t) (hi : 0 ≤ i ∧ i < t.ops.length) (hs : s.length ≤ 1000) : Does Try.prog false 94 [tskS t, .d (ints s), I (i)] (.d (ints (upS s (nth t.ops i).add (nth t.ops i).del))) := by
 have hol := hV.ops
 obtain ⟨n, rfl⟩ := Int.eq_ofNat_of_zero_le hi.1
 have hoi := (hV.op n (by omega)).1
 have hf1 := hV.facts.2
 have y1 := setP_len2 hoi.1 hf1
 have y2 := setP_len2 hoi.2.1 hf1
 have y3 := setP_len2 hoi.2.2.1 hf1
 refine Does.of_body Try.func94 rfl rfl (by simp) Try.call94 (fun w0 O0 => ?_); refine .lenG (n := 0) (i := 1) rfl rfl (fun len0_1 => ?_); refine .lenG (n := 0) (i := 2) rfl rfl (fun len0_2 => ?_); refine .lenG (n := 0) (i := 3) rfl rfl (fun len0_3 => ?_); refine .lenLe (n := 1) rfl (fun len1 => ?_); refine .seq ?_; refine .region ?_; refine .semM (OpSem.box 3 rfl rfl rfl rfl) rfl rfl (by decide) ?_; refine .a ?_; refine .z ?_; refine .x (.f fo25_3) ?_; refine .x (.l vs23) ?_; refine .m ?_; refine .x (OpSem.idxL rfl rfl rfl es23 (by omega) (by omega)) ?_; refine .x (OpSem.loadN rfl rfl vs35 (by first | decide | simp) rfl) ?_; refine .semM (OpSem.alloc 7 rfl zc35 rfl) rfl rfl (by decide) ?_; refine .sb vs35 ?_; refine .z ?_; refine .m ?_; refine .x (.f fo35_1) ?_; refine .x (.l vs22) ?_; refine .x (.f fo35_2) ?_; refine .x (.l vs22) ?_; refine .x (OpSem.call0 (strips_Update_does s (nth t.ops (n : Int)).add (nth t.ops (n : Int)).del (setP_sorted hoi.2.2.1) hs (by omega) (by omega)).fresh rfl rfl rfl rfl (Les.refl _)) ?_; refine .a ?_; refine .sq ?_; refine .ret ?_; exact .ret rfl (.tmp rfl <| .nil) rfl (.refl _)

theorem strips_Contains_does (s part : List Int) (hs : s.Pairwise (· < ·)) (hp : part.Pairwise (· < ·)) (h1 : s.length ≤ 1000) (h2 : part.length ≤ 1000) : Does Try.prog false 78 [.d (ints s), .d (ints part)] (Bo (decide (SubP part s))) := by
 refine Does.of_body Try.func78 rfl rfl (by simp) Try.call78 (fun w0 O0 => ?_); refine .lenLe (n := 0) rfl (fun len0 => ?_); refine .lenLe (n := 1) rfl (fun len1 => ?_); refine .seq ?_; refine .region ?_; refine .a ?_; refine .z ?_; refine .a ?_; refine .sq ?_; refine .seq ?_; refine .seq ?_; refine .region ?_; refine .m ?_; refine .x (OpSem.lenL rfl rfl es22) ?_; refine .m ?_; refine .sq ?_; refine .block ?_; refine .loop (X := (Nat × Nat)) (fun q => MgP s part q.1 q.2) (fun q => [(0, .d (ints s)), (5, I (q.2)), (8, .d (ints part)), (9, I (part.length)), (10, I (q.1))]) (fun q => []) (fun q => part.length - q.1) (0, 0) mg_0 ?_ ?_
 ·exact .slot rfl (.refl _) <| .slot rfl (Le.of_eq (by simp)) <| .slot rfl (.refl _) <| .slot rfl (.refl _) <| .slot rfl (Le.of_eq (by simp)) <| .nil
 ·rintro q hm
  refine .seq ?_; refine .region ?_; refine .x (.b blss) ?_; refine .sq ?_; refine .seq ?_; refine .cond rfl (fun c11 => ?_) (fun c11 => ?_)
  ·have hk : q.1 < part.length := by simpa using c11
   refine .skip ?_; refine .seq ?_; refine .seq ?_; refine .block ?_; refine .seq ?_; refine .region ?_; refine .x (OpSem.idxL rfl rfl rfl es22 (by omega) (by omega)) ?_; refine .x (OpSem.load1 rfl rfl vs3 rfl) ?_; refine .a ?_; refine .sq ?_; refine .seq ?_; refine .block ?_; refine .loop (X := Nat) (fun j => MgQ s part q.1 j) (fun j => [(0, .d (ints s)), (5, I (j)), (7, I ((nth part q.1))), (8, .d (ints part)), (9, I (part.length)), (10, I (q.1))]) (fun j => []) (fun j => s.length - j) q.2 (mg_q hp hm) ?_ ?_
   ·exact .slot rfl (.refl _) <| .slot rfl (Le.of_eq (by simp)) <| .slot rfl (.refl _) <| .slot rfl (.refl _) <| .slot rfl (.refl _) <| .slot rfl (.refl _) <| .nil
   ·rintro j hm2
    refine .seq ?_; refine .seq ?_; refine .region ?_; refine .m ?_; refine .m ?_; refine .x (OpSem.lenL rfl rfl es22) ?_; refine .x (.b blss) ?_; refine .m ?_; refine .split (n := 18) rfl (fun c18 => ?_) (fun c18 => ?_)
    ·have hj : j < s.length := by simpa using c18
     refine .gt c18 ?_; refine .m ?_; refine .gt c18 ?_; refine .m ?_; refine .gt c18 ?_; refine .x (OpSem.idxL rfl rfl rfl es22 (by omega) (by omega)) ?_; refine .gt c18 ?_; refine .x (OpSem.load1 rfl rfl vs3 rfl) ?_; refine .gt c18 ?_; refine .m ?_; refine .gt c18 ?_; refine .x (.b blss) ?_; refine .x (OpSem.pickT rfl rfl c18 rfl) ?_; refine .sq ?_; refine .cond rfl (fun c25 => ?_) (fun c25 => ?_)
     ·have hlt : nth s j < nth part q.1 := by simpa using c25
      refine .skip ?_; refine .seq ?_; refine .block ?_; refine .region ?_; refine .m ?_; refine .x .ad ?_; refine .a ?_; refine .nil ?_; refine .block_normal ?_; refine .again (j + 1) (mg_j hm2 hj hlt) ?_ (by omega); exact .slot rfl (.refl _) <| .slot rfl (Le.of_eq (by simp)) <| .slot rfl (.refl _) <| .slot rfl (.refl _) <| .slot rfl (.refl _) <| .slot rfl (.refl _) <| .nil
     ·have hge : j < s.length → nth part q.1 ≤ nth s j := fun hj => by simp at c25; omega
      refine .exit ?_; refine .pass_exit ?_; refine .pass_exit ?_; refine .block_same ?_; refine .z ?_; refine .m ?_; refine .m ?_; refine .x (OpSem.lenL rfl rfl es22) ?_; refine .x (.b beql) ?_; refine .m ?_; refine .split (n := 32) rfl (fun c32 => ?_) (fun c32 => ?_)
      ·have hne : ∀ hj : j < s.length, nth s j ≠ nth part q.1 := fun hj => by simp at c32; omega
       refine .hf c32 ?_; refine .hf c32 ?_; refine .hf c32 ?_; refine .hf c32 ?_; refine .hf c32 ?_; refine .hf c32 ?_; refine .x (OpSem.pickT rfl rfl c32 rfl) ?_; refine .sq ?_; refine .condT rfl rfl ?_; refine .seq ?_; refine .region ?_; refine .a ?_; refine .sq ?_; refine .ret ?_; refine .block_ret ?_; refine .pass_ret ?_; refine .pass_ret ?_; refine .block_ret ?_; refine .pass_ret ?_; exact .ret rfl (.tmp rfl <| .nil) rfl (Le.bo (by first | exact (decide_eq_false (mg_no hs hm2 hk hge hne)).symm | exact (decide_eq_true (mg_yes hk hm)).symm))
      ·refine .ht c32 ?_; refine .m ?_; refine .ht c32 ?_; refine .m ?_; refine .ht c32 ?_; refine .x (OpSem.idxL rfl rfl rfl es22 (by omega) (by have := hm2.jj; simp at c32; omega)) ?_; refine .ht c32 ?_; refine .x (OpSem.load1 rfl rfl vs3 rfl) ?_; refine .ht c32 ?_; refine .m ?_; refine .ht c32 ?_; refine .x (.b bneq) ?_; refine .x (OpSem.pickF rfl rfl c32 rfl) ?_; refine .sq ?_; refine .cond rfl (fun c39 => ?_) (fun c39 => ?_)
       ·have hne : ∀ hj : j < s.length, nth s j ≠ nth part q.1 := fun hj => by simpa using c39
        refine .seq ?_; refine .region ?_; refine .a ?_; refine .sq ?_; refine .ret ?_; refine .block_ret ?_; refine .pass_ret ?_; refine .pass_ret ?_; refine .block_ret ?_; refine .pass_ret ?_; exact .ret rfl (.tmp rfl <| .nil) rfl (Le.bo (by first | exact (decide_eq_false (mg_no hs hm2 hk hge hne)).symm | exact (decide_eq_true (mg_yes hk hm)).symm))
       ·have hje : j < s.length ∧ nth s j = nth part q.1 := ⟨by have := hm2.jj; simp at c32; omega, by simpa using c39⟩
        refine .skip ?_; refine .block_normal ?_; refine .y ?_; refine .x .ad ?_; refine .m ?_; refine .nil ?_; refine .again (q.1 + 1, j) (mg_s hs hp hm2 hk hje) ?_ (by simp only []; omega)
        exact .slot rfl (.refl _) <| .slot rfl (.refl _) <| .slot rfl (.refl _) <| .slot rfl (.refl _) <| .slot rfl (Le.of_eq (by simp)) <| .nil
    ·have hj : ¬ j < s.length := by simpa using c18
     have hge : j < s.length → nth part q.1 ≤ nth s j := fun h => absurd h hj
     refine .gf c18 ?_; refine .gf c18 ?_; refine .gf c18 ?_; refine .gf c18 ?_; refine .gf c18 ?_; refine .gf c18 ?_; refine .x (OpSem.pickF rfl rfl c18 rfl) ?_; refine .sq ?_; refine .condF rfl rfl ?_; refine .exit ?_; refine .pass_exit ?_; refine .pass_exit ?_; refine .block_same ?_; refine .z ?_; refine .m ?_; refine .m ?_; refine .x (OpSem.lenL rfl rfl es22) ?_; refine .x (.b beql) ?_; refine .m ?_; refine .split (n := 32) rfl (fun c32 => ?_) (fun c32 => ?_)
     ·have hne : ∀ hj : j < s.length, nth s j ≠ nth part q.1 := fun hj => by simp at c32; omega
      refine .hf c32 ?_; refine .hf c32 ?_; refine .hf c32 ?_; refine .hf c32 ?_; refine .hf c32 ?_; refine .hf c32 ?_; refine .x (OpSem.pickT rfl rfl c32 rfl) ?_; refine .sq ?_; refine .condT rfl rfl ?_; refine .seq ?_; refine .region ?_; refine .a ?_; refine .sq ?_; refine .ret ?_; refine .block_ret ?_; refine .pass_ret ?_; refine .pass_ret ?_; refine .block_ret ?_; refine .pass_ret ?_; exact .ret rfl (.tmp rfl <| .nil) rfl (Le.bo (by first | exact (decide_eq_false (mg_no hs hm2 hk hge hne)).symm | exact (decide_eq_true (mg_yes hk hm)).symm))
     ·refine .ht c32 ?_; refine .m ?_; refine .ht c32 ?_; refine .m ?_; refine .ht c32 ?_; refine .x (OpSem.idxL rfl rfl rfl es22 (by omega) (by have := hm2.jj; simp at c32; omega)) ?_; refine .ht c32 ?_; refine .x (OpSem.load1 rfl rfl vs3 rfl) ?_; refine .ht c32 ?_; refine .m ?_; refine .ht c32 ?_; refine .x (.b bneq) ?_; refine .x (OpSem.pickF rfl rfl c32 rfl) ?_; refine .sq ?_; refine .cond rfl (fun c39 => ?_) (fun c39 => ?_)
      ·have hne : ∀ hj : j < s.length, nth s j ≠ nth part q.1 := fun hj => by simpa using c39
       refine .seq ?_; refine .region ?_; refine .a ?_; refine .sq ?_; refine .ret ?_; refine .block_ret ?_; refine .pass_ret ?_; refine .pass_ret ?_; refine .block_ret ?_; refine .pass_ret ?_; exact .ret rfl (.tmp rfl <| .nil) rfl (Le.bo (by first | exact (decide_eq_false (mg_no hs hm2 hk hge hne)).symm | exact (decide_eq_true (mg_yes hk hm)).symm))
      ·have hje : j < s.length ∧ nth s j = nth part q.1 := ⟨by have := hm2.jj; simp at c32; omega, by simpa using c39⟩
       refine .skip ?_; refine .block_normal ?_; refine .y ?_; refine .x .ad ?_; refine .m ?_; refine .nil ?_; refine .again (q.1 + 1, j) (mg_s hs hp hm2 hk hje) ?_ (by simp only []; omega)
       exact .slot rfl (.refl _) <| .slot rfl (.refl _) <| .slot rfl (.refl _) <| .slot rfl (.refl _) <| .slot rfl (Le.of_eq (by simp)) <| .nil
  ·have hk : q.1 = part.length := by have := hm.kk; simp at c11; omega
   refine .exit ?_; refine .pass_exit ?_; refine .pass_exit ?_; refine .block_same ?_; refine .z ?_; refine .a ?_; refine .sq ?_; refine .ret ?_; exact .ret rfl (.tmp rfl <| .nil) rfl (Le.bo (by first | exact (decide_eq_false (mg_no hs hm2 hk hge hne)).symm | exact (decide_eq_true (mg_yes hk hm)).symm))

theorem strips_Can_does (t : Tsk) (s : List Int) (i : Int) (hV : TskV t) (hi : 0 ≤ i ∧ i < t.ops.length) (hs : s.Pairwise (· < ·)) (hl : s.length ≤ 1000) : Does Try.prog false 93 [tskS t, .d (ints s), I (i)] (Bo (decide (canS t s i))) := by
 have hol := hV.ops
 obtain ⟨n, rfl⟩ := Int.eq_ofNat_of_zero_le hi.1
 have hoi := (hV.op n (by omega)).1
 have hf1 := hV.facts.2
 have y1 := setP_len2 hoi.1 hf1
 have y2 := setP_len2 hoi.2.1 hf1
 have y3 := setP_len2 hoi.2.2.1 hf1
 refine Does.of_body Try.func93 rfl rfl (by simp) Try.call93 (fun w0 O0 => ?_); refine .lenG (n := 0) (i := 1) rfl rfl (fun len0_1 => ?_); refine .lenG (n := 0) (i := 2) rfl rfl (fun len0_2 => ?_); refine .lenG (n := 0) (i := 3) rfl rfl (fun len0_3 => ?_); refine .lenLe (n := 1) rfl (fun len1 => ?_); refine .seq ?_; refine .region ?_; refine .semM (OpSem.box 3 rfl rfl rfl rfl) rfl rfl (by decide) ?_; refine .a ?_; refine .z ?_; refine .m ?_; refine .x (.f fo25_3) ?_; refine .x (.l vs23) ?_; refine .m ?_; refine .x (OpSem.idxL rfl rfl rfl es23 (by omega) (by omega)) ?_; refine .x (OpSem.fieldp rfl rfl fo35_0) ?_; refine .x (OpSem.load1 rfl rfl vs22 rfl) ?_; refine .x (OpSem.call0 (strips_Contains_does s (nth t.ops (n : Int)).pre hs (setP_sorted hoi.1) hl (by omega)) rfl rfl rfl rfl (Les.refl _)) ?_; refine .a ?_; refine .sq ?_; refine .ret ?_; exact .ret rfl (.tmp rfl <| .nil) rfl (Le.refl _)

theorem strips_Run_does (t : Tsk) (s l : List Int) (hV : TskV t) (hs : StP t s) (hl : PlanP t.ops.length l) (h60 : l.length ≤ 60) : Does Try.prog false 77 [tskS t, .d (ints s), .d (ints l)] (.d (rows (runL t s l (runK t s l l.length)))) := by
 refine Does.of_body Try.func77 rfl rfl (by simp) Try.call77 (fun w0 O0 => ?_); refine .lenG (n := 0) (i := 1) rfl rfl (fun len0_1 => ?_); refine .lenG (n := 0) (i := 2) rfl rfl (fun len0_2 => ?_); refine .lenG (n := 0) (i := 3) rfl rfl (fun len0_3 => ?_); refine .lenLe (n := 1) rfl (fun len1 => ?_); refine .lenLe (n := 2) rfl (fun len2 => ?_); refine .seq ?_; refine .region ?_; refine .semM (OpSem.box 3 rfl rfl rfl rfl) rfl rfl (by decide) ?_; refine .a ?_; refine .z ?_; refine .m ?_; refine .x (OpSem.call0 (slices_Clone_int_int_does s (by have := hs.len hV; omega)).fresh rfl rfl rfl rfl (Les.refl _)) ?_; refine .semM (OpSem.buildS 12 rfl rfl es37 ze37 rfl rfl (by decide) (by decide) rfl rfl) rfl rfl (by decide) ?_; refine .a ?_; refine .sq ?_; refine .seq ?_; refine .seq ?_; refine .region ?_; refine .m ?_; refine .x (OpSem.lenL rfl rfl es22) ?_; refine .m ?_; refine .sq ?_; refine .block ?_; refine .loop (X := Nat) (fun k => k ≤ l.length ∧ runK t s l k = k) (fun k => [(1, .d (ints (stS t s l k))), (3, .r 3 0), (7, .o 12), (13, .d (ints l)), (14, I (l.length)), (15, I (k))]) (fun k => [(12, .own 1 22 ((runL t s l k).map fun r => [ints r])), (3, .box [I (t.facts), .d (ints t.ini), .d (ints t.goal), .d (sopsD t.ops)])]) (fun k => l.length - k) 0 ⟨by omega, rfl⟩ ?_ ?_
 ·exact .slot rfl (Le.of_eq rfl) <| .slot rfl (.refl _) <| .slot rfl (.refl _) <| .slot rfl (.refl _) <| .slot rfl (.refl _) <| .slot rfl (Le.of_eq (by simp)) <| .memEq rfl rfl <| .mem rfl <| .nil
 ·rintro k ⟨hkl, hr⟩
  refine .seq ?_; refine .region ?_; refine .x (.b blss) ?_; refine .sq ?_; refine .seq ?_; refine .cond rfl (fun c16 => ?_) (fun c16 => ?_)
  ·have hk : k < l.length := by simpa using c16
   have hrl := runL_len (t := t) (s := s) (l := l) (k := k)
   have hSt := st_ok hV hs hl hkl
   have hSl := hSt.len hV
   refine .skip ?_; refine .seq ?_; refine .seq ?_; refine .block ?_; refine .seq ?_; refine .region ?_; refine .x (OpSem.idxL rfl rfl rfl es22 (by omega) (by omega)) ?_; refine .x (OpSem.load1 rfl rfl vs3 rfl) ?_; refine .a ?_; refine .sq ?_; refine .seq ?_; refine .seq ?_; refine .region ?_; refine .x (OpSem.loadbN rfl rfl rfl vs25 (by first | decide | simp)) ?_; refine .m ?_; refine .m ?_; refine .x (OpSem.call0 (strips_Can_does t (stS t s l k) (nth l k) hV (hl k hk) hSt.so (by omega)) rfl rfl rfl rfl (Les.refl _)) ?_; refine .x (OpSem.not rfl rfl) ?_; refine .sq ?_; refine .cond rfl (fun c23 => ?_) (fun c23 => ?_)
   ·have hb : ¬ canS t (stS t s l k) (nth l k) := by simpa using c23
    have hrn := runK_brk hk hr hb
    refine .exit ?_; refine .pass_exit ?_; refine .block_other (by decide) ?_; refine .pass_exit ?_; refine .pass_exit ?_; refine .block_same ?_; refine .z ?_; refine .m ?_; refine .freeze 12 rfl ?_; refine .a ?_; refine .sq ?_; refine .ret ?_; exact .ret rfl (.tmp rfl <| .nil) rfl (Le.of_eq (by rw [hrn]))
   ·have hb : canS t (stS t s l k) (nth l k) := by simpa using c23
    refine .skip ?_; refine .z ?_; refine .x (OpSem.loadbN rfl rfl rfl vs25 (by first | decide | simp)) ?_; refine .m ?_; refine .m ?_; refine .x (OpSem.call0 (strips_Next_does t (stS t s l k) (nth l k) hV (hl k hk) (by omega)) rfl rfl rfl rfl (Les.refl _)) ?_; refine .a ?_; refine .y ?_; refine .m ?_; refine .m ?_; refine .x (.bs es37 ze37) ?_; refine .ap es37 el37 zc22 by22 ?_; refine .a ?_; refine .nil ?_; refine .block_normal ?_; refine .y ?_; refine .x .ad ?_; refine .m ?_; refine .nil ?_; refine .again (k + 1) ⟨by omega, runK_t hr hb⟩ ?_ (by omega); exact .slot rfl (.refl _) <| .slot rfl (.refl _) <| .slot rfl (.refl _) <| .slot rfl (.refl _) <| .slot rfl (.refl _) <| .slot rfl (Le.of_eq (by simp)) <| .memEq rfl (by rw [runL_s, List.map_append]; rfl) <| .mem rfl <| .nil
  ·have hk : k = l.length := by simp at c16; omega
   subst hk
   have hrn := hr
   refine .exit ?_; refine .pass_exit ?_; refine .pass_exit ?_; refine .block_same ?_; refine .z ?_; refine .m ?_; refine .freeze 12 rfl ?_; refine .a ?_; refine .sq ?_; refine .ret ?_; exact .ret rfl (.tmp rfl <| .nil) rfl (Le.of_eq (by rw [hrn]))

theorem strips_Works_does (t : Tsk) (s l : List Int) (hV : TskV t) (hs : StP t s) (hl : PlanP t.ops.length l) (h60 : l.length ≤ 60) : Does Try.prog false 51 [tskS t, .d (ints s), .d (ints l)] (Bo (wrkB t s l)) := by
 have hrl := runL_len (t := t) (s := s) (l := l) (k := runK t s l l.length)
 have hrk := runK_le (t := t) (s := s) (l := l) (k := l.length)
 have hSt := st_ok hV hs hl (Nat.le_refl _)
 have hSl := hSt.len hV
 have hf1 := hV.facts.2
 have y1 := setP_len2 hV.goal hf1
 refine Does.of_body Try.func51 rfl rfl (by simp) Try.call51 (fun w0 O0 => ?_); refine .lenG (n := 0) (i := 1) rfl rfl (fun len0_1 => ?_); refine .lenG (n := 0) (i := 2) rfl rfl (fun len0_2 => ?_); refine .lenG (n := 0) (i := 3) rfl rfl (fun len0_3 => ?_); refine .lenLe (n := 1) rfl (fun len1 => ?_); refine .lenLe (n := 2) rfl (fun len2 => ?_); refine .seq ?_; refine .region ?_; refine .semM (OpSem.box 3 rfl rfl rfl rfl) rfl rfl (by decide) ?_; refine .a ?_; refine .z ?_; refine .x (OpSem.loadbN rfl rfl rfl vs25 (by first | decide | simp)) ?_; refine .m ?_; refine .m ?_; refine .x (OpSem.call0 (strips_Run_does t s l hV hs hl h60) rfl rfl rfl rfl (Les.refl _)) ?_; refine .a ?_; refine .sq ?_; refine .seq ?_; refine PC.start [] ?_; refine .m ?_; refine .x (OpSem.lenL rfl rfl es37) ?_; refine .m ?_; refine .x (OpSem.lenL rfl rfl es22) ?_; refine .x .ad ?_; refine .x (.b beql) ?_; refine .m ?_; refine .split (n := 18) rfl (fun c18 => ?_) (fun c18 => ?_)
 ·have hr : runK t s l l.length = l.length := by simp at c18; omega
  have hat : nth (runL t s l (runK t s l l.length)) l.length = stS t s l l.length := runL_at (by omega)
  refine .gt (OpSem.move (.inl rfl) rfl) c18 ?_; refine .gt (OpSem.move (.inl rfl) rfl) c18 ?_; refine .gt (OpSem.lenL rfl rfl es22) c18 ?_; refine .gt (OpSem.idxL rfl rfl rfl es37 (by omega) (by omega)) c18 ?_; refine .gt (OpSem.load1 rfl rfl vs22 rfl) c18 ?_; refine .gt (.f fo25_2) c18 ?_; refine .gt (.l vs22) c18 ?_; refine .d0 mixed ?_; refine .gt c18 ?_; refine .x (OpSem.call0 (strips_Contains_does (nth (runL t s l (runK t s l l.length)) l.length) t.goal (by rw [hat]; exact hSt.so) (setP_sorted hV.goal) (by rw [hat]; omega) (by omega)) rfl rfl rfl rfl (Les.refl _)) ?_; refine .x (OpSem.pickT rfl rfl c18 rfl) ?_; refine .a ?_; refine .sq ?_; refine .ret ?_; exact .ret rfl (.tmp rfl <| .nil) rfl (Le.bo (by rw [wrk_t hr, hat]))
 ·have hr : runK t s l l.length ≠ l.length := fun h => by rw [hrl] at c18; simp at c18; omega
  refine .gf c18 ?_; refine .gf c18 ?_; refine .gf c18 ?_; refine .gf c18 ?_; refine .gf c18 ?_; refine .gf c18 ?_; refine .gf c18 ?_; refine .d0 mixed ?_; refine .gf c18 ?_; refine .x (OpSem.pickF rfl rfl c18 rfl) ?_; refine .a ?_; refine .sq ?_; refine .ret ?_; exact .ret rfl (.tmp rfl <| .nil) rfl (Le.bo (by rw [wrk_f hr]))

theorem strips_Solves_does (t : Tsk) (l : List Int) : Does Try.prog false 23 [tskS t, .d (ints l)] (.t [Bo (slvB t l), flt (planF2 t l)]) := by
 refine Does.of_body Try.func23 rfl rfl (by simp) Try.call23 (fun w0 O0 => ?_); refine .lenG (n := 0) (i := 1) rfl rfl (fun len0_1 => ?_); refine .lenG (n := 0) (i := 2) rfl rfl (fun len0_2 => ?_); refine .lenG (n := 0) (i := 3) rfl rfl (fun len0_3 => ?_); refine .lenLe (n := 1) rfl (fun len1 => ?_); refine .seq ?_; refine .region ?_; refine .semM (OpSem.box 2 rfl rfl rfl rfl) rfl rfl (by decide) ?_; refine .a ?_; refine .semM (OpSem.alloc 5 rfl zc30 rfl) rfl rfl (by decide) ?_; refine .sq ?_; refine .seq ?_; refine .seq ?_; refine .region ?_; refine .x (OpSem.loadbN rfl rfl rfl vs25 (by first | decide | simp)) ?_; refine .m ?_; refine .x (OpSem.call0 (strips_PlanFault_does t l) rfl rfl rfl rfl (Les.refl _)) ?_; refine .semM (OpSem.alloc 6 rfl zc30 rfl) rfl rfl (by decide) ?_; refine .sb vs30 ?_; refine .z ?_; refine .x (OpSem.loadbN rfl rfl rfl vs30 (by first | decide | simp)) ?_; refine .x (OpSem.build rfl rfl pl30 zc30 rfl rfl) ?_; refine .x (OpSem.neS2 rfl rfl rfl io30) ?_; refine .sq ?_; refine .cond rfl (fun c12 => ?_) (fun c12 => ?_)
 ·have hne : planF2 t l ≠ (0, 0) := fun h => by simp [h] at c12
  refine .seq ?_; refine PC.start [] ?_; refine .x (OpSem.loadbN rfl rfl rfl vs30 (by first | decide | simp)) ?_; refine .x (OpSem.move (.inr rfl) rfl) ?_; refine .d0 mixed ?_; refine .sb vs30 ?_; refine .sq ?_; refine .ret ?_; refine .pass_ret ?_; exact .ret rfl (.tmp rfl <| .cellN rfl rfl vs30 <| .nil) rfl (Le.t (.cons (Le.bo (slv_1 hne).symm) <| .cons (.refl _) <| .nil))
 ·have h0 : planF2 t l = (0, 0) := pair0 (by simpa using c12)
  obtain ⟨q0, q1, q2⟩ := planF2_ok h0
  have hV := tskF_v q0
  refine .skip ?_; refine .z ?_; refine .x (OpSem.loadbN rfl rfl rfl vs25 (by first | decide | simp)) ?_; refine .x (.f fo25_1) ?_; refine .x (.l vs22) ?_; refine .m ?_; refine .x (OpSem.call0 (strips_Works_does t t.ini l hV (st_ini hV) q2 q1) rfl rfl rfl rfl (Les.refl _)) ?_; refine .x (OpSem.build rfl rfl pl30 zc30 rfl rfl) ?_; refine .a ?_; refine .sb vs30 ?_; refine .sq ?_; refine .ret ?_; exact .ret rfl (.tmp rfl <| .cellN rfl rfl vs30 <| .nil) rfl (Le.t (.cons (Le.bo (slv_0 h0).symm) <| .cons (Le.flt h0.symm) <| .nil))

theorem strips_Cost_does (t : Tsk) (l : List Int) : Does Try.prog false 25 [tskS t, .d (ints l)] (.t [I (cstR t l), flt (planF2 t l)]) := by
 refine Does.of_body Try.func25 rfl rfl (by simp) Try.call25 (fun w0 O0 => ?_); refine .lenG (n := 0) (i := 1) rfl rfl (fun len0_1 => ?_); refine .lenG (n := 0) (i := 2) rfl rfl (fun len0_2 => ?_); refine .lenG (n := 0) (i := 3) rfl rfl (fun len0_3 => ?_); refine .lenLe (n := 1) rfl (fun len1 => ?_); refine .seq ?_; refine .region ?_; refine .semM (OpSem.box 2 rfl rfl rfl rfl) rfl rfl (by decide) ?_; refine .a ?_; refine .semM (OpSem.alloc 5 rfl zc30 rfl) rfl rfl (by decide) ?_; refine .sq ?_; refine .seq ?_; refine .seq ?_; refine .region ?_; refine .x (OpSem.loadbN rfl rfl rfl vs25 (by first | decide | simp)) ?_; refine .m ?_; refine .x (OpSem.call0 (strips_PlanFault_does t l) rfl rfl rfl rfl (Les.refl _)) ?_; refine .semM (OpSem.alloc 6 rfl zc30 rfl) rfl rfl (by decide) ?_; refine .sb vs30 ?_; refine .z ?_; refine .x (OpSem.loadbN rfl rfl rfl vs30 (by first | decide | simp)) ?_; refine .x (OpSem.build rfl rfl pl30 zc30 rfl rfl) ?_; refine .x (OpSem.neS2 rfl rfl rfl io30) ?_; refine .sq ?_; refine .cond rfl (fun c15 => ?_) (fun c15 => ?_)
 ·have hne : planF2 t l ≠ (0, 0) := fun h => by simp [h] at c15
  refine .seq ?_; refine PC.start [] ?_; refine .x (OpSem.loadbN rfl rfl rfl vs30 (by first | decide | simp)) ?_; refine .x (OpSem.move (.inr rfl) rfl) ?_; refine .d0 mixed ?_; refine .sb vs30 ?_; refine .sq ?_; refine .ret ?_; refine .pass_ret ?_; exact .ret rfl (.tmp rfl <| .cellN rfl rfl vs30 <| .nil) rfl (Le.t (.cons (Le.i (cstR_1 hne).symm) <| .cons (.refl _) <| .nil))
 ·have h0 : planF2 t l = (0, 0) := pair0 (by simpa using c15)
  obtain ⟨q0, q1, q2⟩ := planF2_ok h0
  have hV := tskF_v q0
  refine .skip ?_; refine .z ?_; refine .a ?_; refine .sq ?_; refine .seq ?_; refine .seq ?_; refine .region ?_; refine .m ?_; refine .x (OpSem.lenL rfl rfl es22) ?_; refine .m ?_; refine .sq ?_; refine .block ?_; refine .loop (X := Nat) (fun k => k ≤ l.length) (fun k => [(2, .r 2 0), (5, .r 5 0), (7, I (cstTo t l k)), (17, .d (ints l)), (18, I (l.length)), (19, I (k))]) (fun k => [(2, .box [I (t.facts), .d (ints t.ini), .d (ints t.goal), .d (sopsD t.ops)]), (5, .box [I (0), I (0)])]) (fun k => l.length - k) 0 (by omega) ?_ ?_
  ·exact .slot rfl (.refl _) <| .slot rfl (.refl _) <| .slot rfl (Le.of_eq rfl) <| .slot rfl (.refl _) <| .slot rfl (.refl _) <| .slot rfl (Le.of_eq (by simp)) <| .mem rfl <| .mem rfl <| .nil
  ·rintro k hkl
   refine .seq ?_; refine .region ?_; refine .x (.b blss) ?_; refine .sq ?_; refine .seq ?_; refine .cond rfl (fun c20 => ?_) (fun c20 => ?_)
   ·have hk : k < l.length := by simpa using c20
    have hq := q2 k hk
    have hcl := cst_le hV q2 (Nat.le_of_lt hk)
    have hci := cst_in hV q2 hk
    have hol := hV.ops
    refine .skip ?_; refine .seq ?_; refine .seq ?_; refine .block ?_; refine .seq ?_; refine .region ?_; refine .x (OpSem.idxL rfl rfl rfl es22 (by omega) (by omega)) ?_; refine .x (OpSem.load1 rfl rfl vs3 rfl) ?_; refine .a ?_; refine .y ?_; refine .m ?_; refine .x (.f fo25_3) ?_; refine .x (.l vs23) ?_; refine .m ?_; refine .x (OpSem.idxL rfl rfl rfl es23 (by omega) (by omega)) ?_; refine .x (OpSem.fieldp rfl rfl fo35_3) ?_; refine .x (OpSem.load1 rfl rfl vs3 rfl) ?_; refine .x .ad ?_; refine .a ?_; refine .nil ?_; refine .block_normal ?_; refine .y ?_; refine .x .ad ?_; refine .m ?_; refine .nil ?_; refine .again (k + 1) (by omega) ?_ (by omega); exact .slot rfl (.refl _) <| .slot rfl (.refl _) <| .slot rfl (Le.of_eq rfl) <| .slot rfl (.refl _) <| .slot rfl (.refl _) <| .slot rfl (Le.of_eq (by simp)) <| .mem rfl <| .mem rfl <| .nil
   ·have hk : k = l.length := by simp at c20; omega
    subst hk
    refine .exit ?_; refine .pass_exit ?_; refine .pass_exit ?_; refine .block_same ?_; refine .z ?_; refine .m ?_; refine .x (OpSem.build rfl rfl pl30 zc30 rfl rfl) ?_; refine .a ?_; refine .sb vs30 ?_; refine .sq ?_; refine .ret ?_; exact .ret rfl (.tmp rfl <| .cellN rfl rfl vs30 <| .nil) rfl (Le.t (.cons (Le.i (cstR_0 h0).symm) <| .cons (Le.flt h0.symm) <| .nil))

end Go.Proofs.Ytlidcpmdgceboaa
end

section
/- Walks, written by gen.py out of hints. -/




set_option linter.unusedVariables false
set_option linter.unusedSimpArgs false
namespace Go.Proofs.Ytlidcpmdgceboaa
open Go.Eng
set_option maxRecDepth 10000
set_option maxHeartbeats 1000000

theorem law_CountingPlansAreFeasible_does (t : Tsk) (l : List Int) : Does Try.prog false 8 [tskS t, .d (ints l)] (Bo true) := by
 obtain ⟨o, hS, hB⟩ := cp_good t
 refine Does.of_body Try.func8 rfl rfl (by simp) Try.call8 (fun w0 O0 => ?_); refine .lenG (n := 0) (i := 1) rfl rfl (fun len0_1 => ?_); refine .lenG (n := 0) (i := 2) rfl rfl (fun len0_2 => ?_); refine .lenG (n := 0) (i := 3) rfl rfl (fun len0_3 => ?_); refine .lenLe (n := 1) rfl (fun len1 => ?_); refine .seq ?_; refine .region ?_; refine .semM (OpSem.box 2 rfl rfl rfl rfl) rfl rfl (by decide) ?_; refine .a ?_; refine .sq ?_; refine .seq ?_; refine .seq ?_; refine .region ?_; refine .x (OpSem.call0 (law_countingExample_does) rfl rfl rfl rfl (Les.refl _)) ?_; refine .x (OpSem.not rfl rfl) ?_; refine .sq ?_; refine .condF rfl rfl ?_; refine .skip ?_; refine .z ?_; refine .x (OpSem.loadbN rfl rfl rfl vs25 (by first | decide | simp)) ?_; refine .m ?_; refine .x (OpSem.call0 (strips_Solves_does t l) rfl rfl rfl rfl (Les.refl _)) ?_; refine .m ?_; refine .x (OpSem.extract rfl rfl rfl) ?_; refine .x (OpSem.extract rfl rfl rfl) ?_; refine .semM (OpSem.alloc 6 rfl zc30 rfl) rfl rfl (by decide) ?_; refine .a ?_; refine .sb vs30 ?_; refine .z ?_; refine .x (OpSem.loadbN rfl rfl rfl vs25 (by first | decide | simp)) ?_; refine .x (OpSem.call0 (counting_Program_does t) rfl rfl rfl rfl (Les.refl _)) ?_; refine .m ?_; refine .x (OpSem.extract rfl rfl rfl) ?_; refine .x (OpSem.extract rfl rfl rfl) ?_; refine .semM (OpSem.alloc 7 rfl zc39 rfl) rfl rfl (by decide) ?_; refine .semM (OpSem.alloc 8 rfl zc30 rfl) rfl rfl (by decide) ?_; refine .sb vs39 ?_; refine .sb vs30 ?_; refine .sq ?_; refine .seq ?_; refine .seq ?_; refine .region ?_; refine .x (.f fo30_0) ?_; refine .x (.l vs3) ?_; refine .x (.b bneq) ?_; refine .m ?_; refine .split (n := 33) rfl (fun c33 => ?_) (fun c33 => ?_)
 ·have hne : planF2 t l ≠ (0, 0) := fun h => by simp [h] at c33
  have hR6 : slvB t l = false ∨ cpF t ≠ (0, 0) := .inl (slv_1 hne)
  refine .hf c33 ?_; refine .hf c33 ?_; refine .hf c33 ?_; refine .x (OpSem.pickT rfl rfl c33 rfl) ?_; refine .m ?_; refine .hf rfl ?_; refine .hf rfl ?_; refine .x (OpSem.pickT rfl rfl rfl rfl) ?_; refine .sq ?_; refine .condT rfl rfl ?_; refine .seq ?_; refine .region ?_; refine .m ?_; refine .x (OpSem.not rfl rfl) ?_; refine .m ?_; refine .split (n := 44) rfl (fun c44 => ?_) (fun c44 => ?_)
  ·refine .hf c44 ?_; refine .hf c44 ?_; refine .hf c44 ?_; refine .hf c44 ?_; refine .gu ?_; refine .gu ?_; refine .gu ?_; refine .gu ?_; refine .hf c44 ?_; refine .x (OpSem.pickT rfl rfl c44 rfl) ?_; refine .a ?_; refine .sq ?_; refine .ret ?_; refine .pass_ret ?_; exact .ret rfl (.tmp rfl <| .nil) rfl (Le.bo (by first | rfl | (simp; done) | (rw [← cpR_1 hne2]; rfl) | (rw [hce]; exact decide_eq_true hle)))
  ·have hne2 : cpF t ≠ (0, 0) := hR6.resolve_left (fun h => by simp [h] at c44)
   refine .ht c44 ?_; refine .x (.f fo30_0) ?_; refine .ht c44 ?_; refine .x (.l vs3) ?_; refine .ht c44 ?_; refine .x (.b bneq) ?_; refine .ht c44 ?_; refine .m ?_; refine .gT rfl rfl rfl rfl (by have := fun h => hne2 (cpF_code h); simpa using this) ?_; refine .x (.f fo39_0) ?_; refine .gT rfl rfl rfl rfl (by have := fun h => hne2 (cpF_code h); simpa using this) ?_; refine .x (.l vs37) ?_; refine .gT rfl rfl rfl rfl (by have := fun h => hne2 (cpF_code h); simpa using this) ?_; refine .x (OpSem.lenL rfl rfl es37) ?_; refine .gT rfl rfl rfl rfl (by have := fun h => hne2 (cpF_code h); simpa using this) ?_; refine .x (.b beql) ?_; refine .ht c44 ?_; refine .x (OpSem.pickT rfl rfl (by have := fun h => hne2 (cpF_code h); simpa using this) rfl) ?_; refine .x (OpSem.pickF rfl rfl c44 rfl) ?_; refine .a ?_; refine .sq ?_; refine .ret ?_; refine .pass_ret ?_; exact .ret rfl (.tmp rfl <| .nil) rfl (Le.bo (by first | rfl | (simp; done) | (rw [← cpR_1 hne2]; rfl) | (rw [hce]; exact decide_eq_true hle)))
 ·have h1 : planF2 t l = (0, 0) := planF2_code (by simpa using c33)
  refine .ht c33 ?_; refine .x (.f fo30_0) ?_; refine .ht c33 ?_; refine .x (.l vs3) ?_; refine .ht c33 ?_; refine .x (.b bneq) ?_; refine .x (OpSem.pickF rfl rfl c33 rfl) ?_; refine .m ?_; refine .split (n := 38) rfl (fun c38 => ?_) (fun c38 => ?_)
  ·have hR6 : slvB t l = false ∨ cpF t ≠ (0, 0) := .inr (fun h => by simp [h] at c38)
   refine .hf c38 ?_; refine .hf c38 ?_; refine .x (OpSem.pickT rfl rfl c38 rfl) ?_; refine .sq ?_; refine .condT rfl rfl ?_; refine .seq ?_; refine .region ?_; refine .m ?_; refine .x (OpSem.not rfl rfl) ?_; refine .m ?_; refine .split (n := 44) rfl (fun c44 => ?_) (fun c44 => ?_)
   ·refine .hf c44 ?_; refine .hf c44 ?_; refine .hf c44 ?_; refine .hf c44 ?_; refine .gu ?_; refine .gu ?_; refine .gu ?_; refine .gu ?_; refine .hf c44 ?_; refine .x (OpSem.pickT rfl rfl c44 rfl) ?_; refine .a ?_; refine .sq ?_; refine .ret ?_; refine .pass_ret ?_; exact .ret rfl (.tmp rfl <| .nil) rfl (Le.bo (by first | rfl | (simp; done) | (rw [← cpR_1 hne2]; rfl) | (rw [hce]; exact decide_eq_true hle)))
   ·have hne2 : cpF t ≠ (0, 0) := hR6.resolve_left (fun h => by simp [h] at c44)
    refine .ht c44 ?_; refine .x (.f fo30_0) ?_; refine .ht c44 ?_; refine .x (.l vs3) ?_; refine .ht c44 ?_; refine .x (.b bneq) ?_; refine .ht c44 ?_; refine .m ?_; refine .gT rfl rfl rfl rfl (by have := fun h => hne2 (cpF_code h); simpa using this) ?_; refine .x (.f fo39_0) ?_; refine .gT rfl rfl rfl rfl (by have := fun h => hne2 (cpF_code h); simpa using this) ?_; refine .x (.l vs37) ?_; refine .gT rfl rfl rfl rfl (by have := fun h => hne2 (cpF_code h); simpa using this) ?_; refine .x (OpSem.lenL rfl rfl es37) ?_; refine .gT rfl rfl rfl rfl (by have := fun h => hne2 (cpF_code h); simpa using this) ?_; refine .x (.b beql) ?_; refine .ht c44 ?_; refine .x (OpSem.pickT rfl rfl (by have := fun h => hne2 (cpF_code h); simpa using this) rfl) ?_; refine .x (OpSem.pickF rfl rfl c44 rfl) ?_; refine .a ?_; refine .sq ?_; refine .ret ?_; refine .pass_ret ?_; exact .ret rfl (.tmp rfl <| .nil) rfl (Le.bo (by first | rfl | (simp; done) | (rw [← cpR_1 hne2]; rfl) | (rw [hce]; exact decide_eq_true hle)))
  ·have h0 : cpF t = (0, 0) := cpF_code (by simpa using c38)
   refine .ht c38 ?_; refine .m ?_; refine .ht c38 ?_; refine .x (OpSem.not rfl rfl) ?_; refine .x (OpSem.pickF rfl rfl c38 rfl) ?_; refine .sq ?_; refine .cond rfl (fun c41 => ?_) (fun c41 => ?_)
   ·have hR6 : slvB t l = false ∨ cpF t ≠ (0, 0) := .inl (by simpa using c41)
    refine .seq ?_; refine .region ?_; refine .m ?_; refine .x (OpSem.not rfl rfl) ?_; refine .m ?_; refine .split (n := 44) rfl (fun c44 => ?_) (fun c44 => ?_)
    ·refine .hf c44 ?_; refine .hf c44 ?_; refine .hf c44 ?_; refine .hf c44 ?_; refine .gu ?_; refine .gu ?_; refine .gu ?_; refine .gu ?_; refine .hf c44 ?_; refine .x (OpSem.pickT rfl rfl c44 rfl) ?_; refine .a ?_; refine .sq ?_; refine .ret ?_; refine .pass_ret ?_; exact .ret rfl (.tmp rfl <| .nil) rfl (Le.bo (by first | rfl | (simp; done) | (rw [← cpR_1 hne2]; rfl) | (rw [hce]; exact decide_eq_true hle)))
    ·have hne2 : cpF t ≠ (0, 0) := hR6.resolve_left (fun h => by simp [h] at c44)
     refine .ht c44 ?_; refine .x (.f fo30_0) ?_; refine .ht c44 ?_; refine .x (.l vs3) ?_; refine .ht c44 ?_; refine .x (.b bneq) ?_; refine .ht c44 ?_; refine .m ?_; refine .gT rfl rfl rfl rfl (by have := fun h => hne2 (cpF_code h); simpa using this) ?_; refine .x (.f fo39_0) ?_; refine .gT rfl rfl rfl rfl (by have := fun h => hne2 (cpF_code h); simpa using this) ?_; refine .x (.l vs37) ?_; refine .gT rfl rfl rfl rfl (by have := fun h => hne2 (cpF_code h); simpa using this) ?_; refine .x (OpSem.lenL rfl rfl es37) ?_; refine .gT rfl rfl rfl rfl (by have := fun h => hne2 (cpF_code h); simpa using this) ?_; refine .x (.b beql) ?_; refine .ht c44 ?_; refine .x (OpSem.pickT rfl rfl (by have := fun h => hne2 (cpF_code h); simpa using this) rfl) ?_; refine .x (OpSem.pickF rfl rfl c44 rfl) ?_; refine .a ?_; refine .sq ?_; refine .ret ?_; refine .pass_ret ?_; exact .ret rfl (.tmp rfl <| .nil) rfl (Le.bo (by first | rfl | (simp; done) | (rw [← cpR_1 hne2]; rfl) | (rw [hce]; exact decide_eq_true hle)))
   ·obtain ⟨q0, q1, q2⟩ := planF2_ok h1
    have hW := wrk_of (tskF_v q0) q2 ((slv_0 h1).symm.trans (by simpa using c41))
    obtain ⟨f1, f2, f3, f4⟩ := cp_feas h0 h1 hW
    have hBB := hB h0
    have hR := hBB.1
    have hcs := cst_le (tskF_v q0) q2 (Nat.le_refl _)
    have hce := cstR_0 h1
    have hmB := mul_inB (a := cstR t l) (b := (bdR t o).2) (by unfold inB; omega) (by unfold inB; omega)
    have hle := hW.bnd hBB
    refine .skip ?_; refine .z ?_; refine .x (OpSem.loadbN rfl rfl rfl vs25 (by first | decide | simp)) ?_; refine .m ?_; refine .x (OpSem.call0 (counting_Counts_does t l) rfl rfl rfl rfl (Les.refl _)) ?_; refine .m ?_; refine .x (OpSem.extract rfl rfl rfl) ?_; refine .x (OpSem.extract rfl rfl rfl) ?_; refine .semM (OpSem.alloc 10 rfl zc30 rfl) rfl rfl (by decide) ?_; refine .a ?_; refine .sb vs30 ?_; refine .z ?_; refine .x (OpSem.loadbN rfl rfl rfl vs39 (by first | decide | simp)) ?_; refine .m ?_; refine .x (OpSem.build rfl rfl pl59 zc59 rfl rfl) ?_; refine .x (OpSem.call0 (linear_Feasible_does (cpR t) (cntR t l) f1 f2 f3 f4) rfl rfl rfl rfl (Les.refl _)) ?_; refine .m ?_; refine .x (OpSem.extract rfl rfl rfl) ?_; refine .x (OpSem.extract rfl rfl rfl) ?_; refine .semM (OpSem.alloc 12 rfl zc30 rfl) rfl rfl (by decide) ?_; refine .a ?_; refine .sb vs30 ?_; refine .z ?_; refine .x (OpSem.loadbN rfl rfl rfl vs25 (by first | decide | simp)) ?_; refine .x (OpSem.call0 (counting_Bound_does t o hS) rfl rfl rfl rfl (Les.refl _)) ?_; refine .m ?_; refine .x (OpSem.extract rfl rfl rfl) ?_; refine .x (OpSem.extract rfl rfl rfl) ?_; refine .semM (OpSem.alloc 13 rfl zc28 rfl) rfl rfl (by decide) ?_; refine .semM (OpSem.alloc 14 rfl zc30 rfl) rfl rfl (by decide) ?_; refine .sb vs28 ?_; refine .sb vs30 ?_; refine .z ?_; refine .x (OpSem.loadbN rfl rfl rfl vs25 (by first | decide | simp)) ?_; refine .m ?_; refine .x (OpSem.call0 (strips_Cost_does t l) rfl rfl rfl rfl (Les.refl _)) ?_; refine .m ?_; refine .x (OpSem.extract rfl rfl rfl) ?_; refine .x (OpSem.extract rfl rfl rfl) ?_; refine .semM (OpSem.alloc 16 rfl zc30 rfl) rfl rfl (by decide) ?_; refine .a ?_; refine .sb vs30 ?_; refine .z ?_; refine .x (.f fo30_0) ?_; refine .x (.l vs3) ?_; refine .x (.f fo30_0) ?_; refine .x (.l vs3) ?_; refine .x (OpSem.bin rfl rfl rfl (badd (by simp [h1]) (by simp [h1]))) ?_; refine .x (.f fo30_0) ?_; refine .x (.l vs3) ?_; refine .x (OpSem.bin rfl rfl rfl (badd (by simp [h1, h0]) (by simp [h1, h0]))) ?_; refine .x (.f fo30_0) ?_; refine .x (.l vs3) ?_; refine .x (OpSem.bin rfl rfl rfl (badd (by simp [h1, h0]) (by simp [h1, h0]))) ?_; refine .x (.b beql) ?_; refine .m ?_; refine .gT rfl rfl rfl rfl (by simp [h1, h0]) ?_; refine .m ?_; refine .x (OpSem.pickT rfl rfl (by simp [h1, h0]) rfl) ?_; refine .m ?_; refine .gt rfl ?_; refine .x (.f fo28_0) ?_; refine .gt rfl ?_; refine .x (.l vs3) ?_; refine .gt rfl ?_; refine .m ?_; refine .gt rfl ?_; refine .x (.f fo28_1) ?_; refine .gt rfl ?_; refine .x (.l vs3) ?_; refine .gt rfl ?_; refine .x (OpSem.bin rfl rfl rfl (bmul (by omega) (by omega))) ?_; refine .gt rfl ?_; refine .x (.b bleq) ?_; refine .x (OpSem.pickT rfl rfl rfl rfl) ?_; refine .a ?_; refine .sq ?_; refine .ret ?_; exact .ret rfl (.tmp rfl <| .nil) rfl (Le.bo (by first | rfl | (simp; done) | (rw [← cpR_1 hne2]; rfl) | (rw [hce]; exact decide_eq_true hle)))

end Go.Proofs.Ytlidcpmdgceboaa
end

section
/- The frame: what an argument that reads is, as data; and how a proved contract becomes the row's step. -/







set_option linter.unusedVariables false
set_option linter.unusedSimpArgs false
namespace Go.Eng
open Go Go.RowKit

/-- A row of cells holds these data. -/
def CellsD (W : World) (cs : List Value) (ds : List D) : Prop := cs.length = ds.length ∧ ∀ (i : Nat) (x : Value) (d : D), cs[i]? = some x → ds[i]? = some d → RepD zO W x d
theorem CellsD.app {W : World} {a b : List Value} {c d : List D} (h : CellsD W a c) (k : CellsD W b d) : CellsD W (a ++ b) (c ++ d) := by
  refine ⟨by simp [h.1, k.1], fun i x y hx hy => ?_⟩
  by_cases hi : i < a.length
  · rw [List.getElem?_append_left hi] at hx
    rw [List.getElem?_append_left (by rw [← h.1]; exact hi)] at hy
    exact h.2 i x y hx hy
  · rw [List.getElem?_append_right (by omega)] at hx
    rw [List.getElem?_append_right (by rw [← h.1]; omega), ← h.1] at hy
    exact k.2 _ x y hx hy

/-- Whatever reads at the type is data of this form. -/
abbrev in64 (n : Int) : Prop := -9223372036854775808 ≤ n ∧ n ≤ 9223372036854775807
def Dec (P : Program) (t : TypeId) {β : Type} (k : Nat) (f : β → List D) (R : β → Prop) : Prop :=
  P.cellsOf t = k ∧ (∀ b, (f b).length = k) ∧
    ∀ (H : Type) (enc : TypeId × Value → H) (W : World) (fuel : Nat) (cs : List Value) (x : DataW H × List MemPlace), DataW.trod enc P W 0 (fun _ => true) true fuel t cs = some x → ∃ b, R b ∧ CellsD W cs (f b)
theorem Dec.map {P : Program} {t : TypeId} {β γ : Type} {k : Nat} {f : β → List D} {f' : γ → List D} {R : β → Prop} {R' : γ → Prop} (h : Dec P t k f R) (g : β → γ) (g' : γ → β) (hg : ∀ b, f' (g b) = f b) (hg' : ∀ c, f' c = f (g' c)) (hR : ∀ b, R b → R' (g b)) : Dec P t k f' R' :=
  ⟨h.1, fun c => by rw [hg', h.2.1], fun H enc W fuel cs x hx => let ⟨b, hr, hb⟩ := h.2.2 H enc W fuel cs x hx; ⟨g b, hR b hr, by rw [hg]; exact hb⟩⟩
theorem Dec.int {P : Program} {t : TypeId} (ht : P.underlying t = some (.int .i64)) (hc : P.cellsOf t = 1) : Dec P t 1 (fun n : Int => [D.v (.int .i64 n)]) in64 :=
  ⟨hc, fun _ => rfl, fun H enc W fuel cs x hx => by
    obtain ⟨n, rfl, _, hw⟩ := DataW.trod_int ht hx
    refine ⟨n, ?_, rfl, fun i x d hx hd => ?_⟩
    · simp only [Lit.wf, Bool.and_eq_true, decide_eq_true_eq] at hw
      have h1 := hw.1
      have h2 := hw.2
      have e1 : IntKind.i64.min = -9223372036854775808 := by decide
      have e2 : IntKind.i64.max = 9223372036854775807 := by decide
      unfold in64
      omega
    · cases i with
      | zero => simp at hx hd; subst hx; subst hd; exact .v _
      | succ i => simp at hx⟩
theorem Dec.bool {P : Program} {t : TypeId} (ht : P.underlying t = some .bool) (hc : P.cellsOf t = 1) : Dec P t 1 (fun n : Bool => [D.v (.bool n)]) (fun _ => True) :=
  ⟨hc, fun _ => rfl, fun H enc W fuel cs x hx => by
    have key : ∃ b, cs = [.bool b] := by
      cases fuel with
      | zero => simp [DataW.trod] at hx
      | succ m =>
        unfold DataW.trod at hx
        rw [ht] at hx
        split at hx <;> simp_all
    obtain ⟨b, rfl⟩ := key
    refine ⟨b, trivial, rfl, fun i x d hx hd => ?_⟩
    cases i with
    | zero => simp at hx hd; subst hx; subst hd; exact .v _
    | succ i => simp at hx⟩
theorem choose_list {β : Type} {p : Nat → β → Prop} : ∀ (n : Nat), (∀ i, i < n → ∃ b, p i b) → ∃ l : List β, l.length = n ∧ ∀ i b, l[i]? = some b → p i b
  | 0, _ => ⟨[], rfl, fun i b h => by simp at h⟩
  | n + 1, h => by
    obtain ⟨l, h1, h2⟩ := choose_list n fun i hi => h i (by omega)
    obtain ⟨b, hb⟩ := h n (by omega)
    refine ⟨l ++ [b], by simp [h1], fun i c hc => ?_⟩
    by_cases hi : i < n
    · rw [List.getElem?_append_left (by omega)] at hc; exact h2 i c hc
    · rw [List.getElem?_append_right (by omega)] at hc
      cases hz : i - l.length with
      | zero =>
        rw [hz] at hc; simp at hc; subst hc
        have : i = n := by omega
        rw [this]; exact hb
      | succ j => rw [hz] at hc; simp at hc
theorem Dec.slice {P : Program} {t e : TypeId} {β : Type} {k : Nat} {f : β → List D} {R : β → Prop} (ht : P.underlying t = some (.slice e)) (hc : P.cellsOf t = 1) (he : Dec P e k f R) (hk0 : 0 < k) : Dec P t 1 (fun l : List β => [D.s k (l.map f)]) (fun l => ∀ b, b ∈ l → R b) := by
  refine ⟨hc, fun _ => rfl, fun H enc W fuel cs x hx => ?_⟩
  have one : ∀ (v : Value) (d : D), RepD zO W v d → CellsD W [v] [d] := fun v d h => ⟨rfl, fun i x d' hx hd => by
    cases i with
    | zero => simp at hx hd; subst hx; subst hd; exact h
    | succ i => simp at hx⟩
  rcases Go.Deep.open_slice ht hx with ⟨rfl, _⟩ | ⟨a, len, cap, m, n, Dx, Pl, rfl, _, hl, hm, hmm, _, hel⟩
  · exact ⟨[], fun b hb => by simp at hb, one _ _ (.e none 0 k (by simp [maxLen]))⟩
  · have hmc : len ≤ m := by rw [hmm]; split <;> omega
    obtain ⟨l, hll, hlp⟩ := choose_list (β := β) (p := fun i b => R b ∧ ∃ cs', W.cells? 0 (a.add (i * P.cellsOf e)) (P.cellsOf e) = some cs' ∧ CellsD W cs' (f b)) len (fun i hi => by
      obtain ⟨cs', h1, h2⟩ := hel i (by omega)
      obtain ⟨b, hr, hb⟩ := he.2.2 H enc W n cs' _ h2
      exact ⟨b, hr, cs', h1, hb⟩)
    refine ⟨l, fun b hb => by obtain ⟨i, hi⟩ := List.getElem?_of_mem hb; exact (hlp i b hi).1, one _ _ ?_⟩
    have hlp := fun i b h => (hlp i b h).2
    cases l with
    | nil =>
      simp at hll
      subst hll
      exact .e _ cap k hm
    | cons b0 l0 =>
      generalize hL : b0 :: l0 = l at hll hlp
      obtain ⟨ab, ao, asp⟩ := a
      have hsp : asp = none := by
        obtain ⟨cs', h1, h2⟩ := hlp 0 b0 (by rw [← hL]; rfl)
        obtain ⟨_, g1, g2⟩ := World.cells?_some h1
        have hj : 0 < cs'.length := by rw [g1, he.1]; exact hk0
        have := g2 0 (by rw [he.1]; exact hk0)
        rw [List.getElem?_eq_getElem hj, Nat.zero_mul] at this
        exact World.cell?_spot (by simpa [Addr.add] using this)
      subst hsp
      have hadd : ∀ p q : Nat, ((⟨ab, ao, none⟩ : Addr).add p).add q = ⟨ab, ao + (p + q), none⟩ := by
        intro p q
        unfold Addr.add
        split <;> split <;> simp <;> omega
      have hcell : ∀ (i : Nat) (b : β), l[i]? = some b → ∀ (j : Nat) (d : D), (f b)[j]? = some d → ∃ x, W.cell? ⟨ab, ao + (i * k + j), none⟩ = some x ∧ RepD zO W x d := by
        intro i b hb j d hd
        obtain ⟨cs', h1, h2⟩ := hlp i b hb
        obtain ⟨_, g1, g2⟩ := World.cells?_some h1
        have hj : j < P.cellsOf e := by rw [he.1, ← he.2.1 b]; exact (List.getElem?_eq_some_iff.1 hd).1
        have hj' : j < cs'.length := by omega
        have := g2 j hj
        rw [List.getElem?_eq_getElem hj', hadd, he.1] at this
        exact ⟨cs'[j], this, h2.2 j _ d (List.getElem?_eq_getElem hj') hd⟩
      have hrow : ∀ (i : Nat) (r : List D), (l.map f)[i]? = some r → ∃ b, l[i]? = some b ∧ r = f b := by
        intro i r hr
        simp only [List.getElem?_map, Option.map_eq_some_iff] at hr
        obtain ⟨b, h1, h2⟩ := hr
        exact ⟨b, h1, h2.symm⟩
      have hlen : len = (l.map f).length := by simp [hll]
      rw [hlen]
      refine .s ab ao cap k (l.map f) (fun q => (W.cell? ⟨ab, ao + q, none⟩).getD undef) (by omega) hm (fun r hr => ?_) (fun _ _ _ _ _ _ => rfl) (fun i r j d hi hj => ?_) (fun i r j d hi hj => ?_)
      · obtain ⟨b, _, rfl⟩ := List.mem_map.1 hr; exact he.2.1 b
      · obtain ⟨b, hb, rfl⟩ := hrow i r hi
        obtain ⟨x, hx, _⟩ := hcell i b hb j d hj
        rw [hx]; rfl
      · obtain ⟨b, hb, rfl⟩ := hrow i r hi
        obtain ⟨x, hx, hr⟩ := hcell i b hb j d hj
        simp only [hx, Option.getD_some]; exact hr

/-! ### Structs -/
theorem drop_take_app {α : Type} (l : List α) (a b : Nat) : (l.drop 0).take (a + b) = (l.drop 0).take a ++ (l.drop a).take b := by
  simp [List.take_add]
theorem Dec.struct4 {P : Program} {t : TypeId} {f0 f1 f2 f3 : Field} {β0 β1 β2 β3 : Type} {k0 k1 k2 k3 : Nat} {e0 : β0 → List D} {e1 : β1 → List D} {e2 : β2 → List D} {e3 : β3 → List D} {R0 : β0 → Prop} {R1 : β1 → Prop} {R2 : β2 → Prop} {R3 : β3 → Prop} (ht : P.underlying t = some (.struct #[f0, f1, f2, f3])) (hc : P.cellsOf t = k0 + k1 + k2 + k3)
    (o0 : f0.offset = 0) (o1 : f1.offset = k0) (o2 : f2.offset = k0 + k1) (o3 : f3.offset = k0 + k1 + k2) (h0 : Dec P f0.type k0 e0 R0) (h1 : Dec P f1.type k1 e1 R1) (h2 : Dec P f2.type k2 e2 R2) (h3 : Dec P f3.type k3 e3 R3) :
    Dec P t (k0 + k1 + k2 + k3) (fun b : β0 × β1 × β2 × β3 => e0 b.1 ++ e1 b.2.1 ++ e2 b.2.2.1 ++ e3 b.2.2.2) (fun b => R0 b.1 ∧ R1 b.2.1 ∧ R2 b.2.2.1 ∧ R3 b.2.2.2) := by
  refine ⟨hc, fun b => by simp [h0.2.1, h1.2.1, h2.2.1, h3.2.1]; omega, fun H enc W fuel cs x hx => ?_⟩
  obtain ⟨xs, n, _, _, hl, hn, hf⟩ := DataW.trod_struct ht hx
  have g0 := hf 0 f0 rfl
  have g1 := hf 1 f1 rfl
  have g2 := hf 2 f2 rfl
  have g3 := hf 3 f3 rfl
  rw [o0, h0.1, List.getElem?_eq_getElem (by rw [hn]; simp)] at g0
  rw [o1, h1.1, List.getElem?_eq_getElem (by rw [hn]; simp)] at g1
  rw [o2, h2.1, List.getElem?_eq_getElem (by rw [hn]; simp)] at g2
  rw [o3, h3.1, List.getElem?_eq_getElem (by rw [hn]; simp)] at g3
  obtain ⟨b0, r0, c0⟩ := h0.2.2 H enc W n _ _ g0
  obtain ⟨b1, r1, c1⟩ := h1.2.2 H enc W n _ _ g1
  obtain ⟨b2, r2, c2⟩ := h2.2.2 H enc W n _ _ g2
  obtain ⟨b3, r3, c3⟩ := h3.2.2 H enc W n _ _ g3
  refine ⟨(b0, b1, b2, b3), ⟨r0, r1, r2, r3⟩, ?_⟩
  have := ((c0.app c1).app c2).app c3
  rwa [← drop_take_app, ← drop_take_app, ← drop_take_app, List.drop_zero, List.take_of_length_le (by omega)] at this

/-! ### Arguments -/
/-- One cell. -/
theorem Dec.arg {P : Program} {t : TypeId} {β : Type} {f : β → D} {R : β → Prop} (h : Dec P t 1 (fun b => [f b]) R) {H : Type} {enc : TypeId × Value → H} {W : World} {v : Value} {d : DataW H} {ps : List MemPlace} (hv : v.cells.toList = [v]) (hx : DataW.Trod enc P W 0 (fun _ => true) true t v d ps) : ∃ b, R b ∧ RepS zO zH W v (.d (f b)) := by
  obtain ⟨fuel, hf⟩ := hx
  obtain ⟨b, hr, hb⟩ := h.2.2 H enc W fuel _ _ hf
  rw [hv] at hb
  exact ⟨b, hr, .d _ _ (hb.2 0 v _ rfl rfl)⟩
/-- A struct. -/
theorem Dec.argG {P : Program} {t : TypeId} {β : Type} {k : Nat} {f : β → List D} {R : β → Prop} (h : Dec P t k f R) (h1 : ∀ b, (f b).all D.one = true) {H : Type} {enc : TypeId × Value → H} {W : World} {cs : Array Value} {d : DataW H} {ps : List MemPlace} (hx : DataW.Trod enc P W 0 (fun _ => true) true t (.agg cs) d ps) :
    ∃ b, R b ∧ RepS zO zH W (.agg cs) (.g ((f b).map .d)) := by
  obtain ⟨fuel, hf⟩ := hx
  obtain ⟨b, hr, hb⟩ := h.2.2 H enc W fuel _ _ hf
  simp only [Value.cells] at hb
  refine ⟨b, hr, ?_⟩
  have := RepS.g (O := zO) (H := zH) (w := W) cs.toList ((f b).map .d) (by simp [hb.1]) (fun x hx => ?_) (fun i x s hx hs => ?_)
  · simpa using this
  · obtain ⟨i, hi⟩ := List.getElem?_of_mem hx
    have hlt : i < (f b).length := by rw [← hb.1]; exact (List.getElem?_eq_some_iff.1 hi).1
    exact (hb.2 i x _ hi (List.getElem?_eq_getElem hlt)).one' (List.all_eq_true.1 (h1 b) _ (List.getElem_mem hlt))
  · simp only [List.getElem?_map, Option.map_eq_some_iff] at hs
    obtain ⟨y, hy, rfl⟩ := hs
    exact .d _ _ (hb.2 i x y hx hy)
theorem reps_nil {O : Nat → Nat} {H : Nat → Value} {w : World} : ∀ (i : Nat) (x : Value) (s : S), ([] : List Value)[i]? = some x → ([] : List S)[i]? = some s → RepS O H w x s := fun i x s h => by simp at h
theorem reps_cons {O : Nat → Nat} {H : Nat → Value} {w : World} {v : Value} {t : S} {vs : List Value} {ts : List S} (h : RepS O H w v t) (k : ∀ (i : Nat) (x : Value) (s : S), vs[i]? = some x → ts[i]? = some s → RepS O H w x s) :
    ∀ (i : Nat) (x : Value) (s : S), (v :: vs)[i]? = some x → (t :: ts)[i]? = some s → RepS O H w x s := fun i x s hx hs => by
  cases i with
  | zero => simp at hx hs; subst hx; subst hs; exact h
  | succ i => exact k i x s (by simpa using hx) (by simpa using hs)
theorem RepS.isB {O : Nat → Nat} {H : Nat → Value} {w : World} {x : Value} {b : Bool} (h : RepS O H w x (Bo b)) : x = .bool b := by
  cases h with
  | d _ _ q => cases q with
    | v _ => rfl
end Go.Eng
end
