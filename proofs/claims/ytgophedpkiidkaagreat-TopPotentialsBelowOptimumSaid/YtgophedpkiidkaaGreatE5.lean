/- Part 5. -/
import Derived.Test.YtgophedpkiidkaaGreatE4
import Derived.Laws.IdiomCopy
set_option linter.unusedSimpArgs false
set_option linter.unnecessarySimpa false
set_option linter.unusedVariables false
set_option linter.unusedSectionVars false
section
namespace Go.Proofs.YtgophedpkiidkaaGreat
open Go.Eng
set_option maxRecDepth 10000
set_option maxHeartbeats 1000000
theorem slices_isNaN_int_does (x : Int) : Does Tryz.prog false 140 [I (x)] (Bo false) := by
 refine Does.of_body Tryz.func140 rfl rfl (by simp) Tryz.call140 (fun w0 O0 => ?_); refine .g <| .r <| .a ?_; refine .z <| .mm ?_; refine .x (.b bneq) ?_; refine .a ?_; exact .sq <| .t <| .ret rfl (.tmp rfl <| .nil) rfl (Le.bo (by simp))
theorem cmp_Less_int_does (x y : Int) : Does Tryz.prog false 139 [I (x), I (y)] (Bo (decide (x < y))) := by
 refine Does.of_body Tryz.func139 rfl rfl (by simp) Tryz.call139 (fun w0 O0 => ?_); refine .g <| .r <| .a ?_; refine .z <| .m ?_; refine .x (OpSem.call0 (cmp_isNaN_int_does x) rfl rfl rfl rfl (Les.refl _)) ?_; refine .m ?_; refine .gf rfl ?_; refine .gf rfl ?_; refine .gf rfl ?_; refine .x (OpSem.pickF rfl rfl rfl rfl) ?_; refine .m ?_; refine .ht rfl ?_; refine .m ?_; refine .ht rfl ?_; refine .m ?_; refine .ht rfl ?_; refine .x (.b blss) ?_; refine .x (OpSem.pickF rfl rfl rfl rfl) ?_; refine .a ?_; exact .sq <| .t <| .ret rfl (.tmp rfl <| .nil) rfl (.refl _)
theorem slices_BinarySearch_int_int_does (l : List Int) (x : Int) (hp : l.Pairwise (· < ·)) (hl : l.length ≤ 1000000) : Does Tryz.prog false 127 [.d (ints l), I (x)] (.t [I (lbd l x : Int), Bo (decide (x ∈ l))]) := by
 have hmem := lbd_mem (x := x) hp
 have hle := lbd_le (l := l) (x := x)
 refine Does.of_body Tryz.func127 rfl rfl (by simp) Tryz.call127 (fun w0 O0 => ?_); refine .le 0 fun len0 => ?_; refine .g <| .r <| .a ?_; refine .a ?_; refine .z <| .m ?_; refine .x (.n es22) ?_; refine .a ?_; refine .z <| .m ?_; refine .a ?_; refine .a ?_; refine .sq <| .g <| .k <| .loop (X := (Nat × Nat)) (fun q => q.1 ≤ lbd l x ∧ lbd l x ≤ q.2 ∧ q.2 ≤ l.length) (fun q => [(0, .d (ints l)), (1, I (x)), (6, I (l.length)), (7, I (q.1)), (8, I (q.2))]) (fun q => []) (fun q => q.2 - q.1) (0, l.length) ⟨by omega, lbd_le, Nat.le_refl _⟩ ?_ ?_
 ·exact .p3 <| .slot rfl (Le.of_eq (by simp)) <| .slot rfl (Le.of_eq (by simp)) <| .nil
 ·rintro q ⟨h1, h2, h3⟩
  refine .g <| .g <| .r <| .mm ?_; refine .x (.b blss) ?_; refine .sq <| .cond rfl (fun c15 => ?_) (fun c15 => ?_)
  ·have hq : q.1 < q.2 := by simp at c15; omega
   have hm : ((q.1 : Int) + (q.2 : Int)) / 2 ^ (1 : Int).toNat = ((((q.1 + q.2) / 2) : Nat) : Int) := by first | (simp; done) | (simp; omega) | omega
   have hi := lbd_iff (x := x) hp (i := ((q.1 + q.2) / 2)) (by omega)
   refine .p <| .g <| .k <| .g <| .r <| .mm ?_; refine .x .ad ?_; refine .x (OpSem.conv rfl rfl cv3_154 (wrap_u64 (by omega) (by omega))) ?_; refine .x (OpSem.bin rfl rfl rfl (bshrK (by decide) (by decide))) ?_; refine .x (OpSem.conv rfl rfl cv154_3 (wrap_i64 (by rw [hm]; omega) (by rw [hm]; omega))) ?_; refine .a ?_; refine .z <| .mm ?_; refine .x (OpSem.idxL rfl rfl rfl es22 (by rw [hm]; omega) (by rw [hm]; omega)) ?_; refine .x (.l1 vs3) ?_; refine .m ?_; refine .x (OpSem.call0 (cmp_Less_int_does ..) rfl rfl rfl rfl (Les.refl _)) ?_; refine .sq <| .cond rfl (fun c27 => ?_) (fun c27 => ?_)
   ·have h4 : ((q.1 + q.2) / 2) < lbd l x := hi.1 (by rw [← hm]; simpa using c27)
    refine .r <| .m ?_; refine .x (OpSem.bin rfl rfl rfl (badd (by rw [hm]; omega) (by rw [hm]; omega))) ?_; refine .a ?_; refine .n <| .n <| .again (((q.1 + q.2) / 2) + 1, q.2) ⟨by omega, by omega, by omega⟩ ?_ (by simp only []; omega)
    exact .p3 <| .slot rfl (Le.i (by rw [hm]; simp)) <| .sl <| .nil
   ·have h4 : ¬ ((q.1 + q.2) / 2) < lbd l x := fun h => by have h6 := hi.2 h; rw [← hm] at h6; exact (of_decide_eq_false c27) h6
    refine .r <| .m ?_; refine .a ?_; refine .n <| .n <| .again (q.1, ((q.1 + q.2) / 2)) ⟨by omega, by omega, by omega⟩ ?_ (by simp only []; omega)
    exact .p3 <| .sl <| .slot rfl (Le.i hm) <| .nil
  ·have hq : q.1 = lbd l x := by simp at c15; omega
   refine .u <| .u <| .u <| .b <| .z <| .mm ?_; refine .m ?_; refine .x (.b blss) ?_; refine .m ?_; refine .split (n := 35) rfl (fun c35 => ?_) (fun c35 => ?_)
   ·refine .gt c35 ?_; refine .m ?_; refine .gt c35 ?_; refine .m ?_; refine .gt c35 ?_; refine .x (OpSem.idxL rfl rfl rfl es22 (by omega) (by simp at c35; omega)) ?_; refine .gt c35 ?_; refine .x (.l1 vs3) ?_; refine .gt c35 ?_; refine .m ?_; refine .gt c35 ?_; refine .x (.b beql) ?_; refine .gt c35 ?_; refine .m ?_; refine .split (n := 42) rfl (fun c42 => ?_) (fun c42 => ?_)
    ·refine .hf c42 ?_; refine .hf c42 ?_; refine .hf c42 ?_; refine .hf c42 ?_; refine .hf c42 ?_; refine .hf c42 ?_; refine .gu ?_; refine .gu ?_; refine .hf c42 ?_; refine .gt c35 ?_; refine .x (OpSem.pickT rfl rfl c42 rfl) ?_; refine .x (OpSem.pickT rfl rfl c35 rfl) ?_; refine .a ?_; refine .a ?_; exact .sq <| .t <| .ret rfl (.tmp rfl <| .tmp rfl <| .nil) rfl (Le.t (.cons (Le.i (by rw [hq])) <| .cons (Le.bo (by first | exact (decide_eq_true (hmem.2 ⟨by simp at c35; omega, by rw [← hq]; simpa using c42⟩)).symm | exact (decide_eq_false (fun h => by have h5 := hmem.1 h; rw [← hq] at h5; simp [h5.2] at c42)).symm | exact (decide_eq_false (fun h => by have h5 := hmem.1 h; simp at c35; omega)).symm)) <| .nil))
    ·refine .ht c42 ?_; refine .m ?_; refine .ht c42 ?_; refine .m ?_; refine .ht c42 ?_; refine .x (OpSem.idxL rfl rfl rfl es22 (by omega) (by simp at c35; omega)) ?_; refine .ht c42 ?_; refine .x (.l1 vs3) ?_; refine .ht c42 ?_; refine .x (OpSem.call0 (slices_isNaN_int_does ..) rfl rfl rfl rfl (Les.refl _)) ?_; refine .ht c42 ?_; refine .m ?_; refine .gf rfl ?_; refine .gf rfl ?_; refine .ht c42 ?_; refine .x (OpSem.pickF rfl rfl rfl rfl) ?_; refine .gt c35 ?_; refine .x (OpSem.pickF rfl rfl c42 rfl) ?_; refine .x (OpSem.pickT rfl rfl c35 rfl) ?_; refine .a ?_; refine .a ?_; exact .sq <| .t <| .ret rfl (.tmp rfl <| .tmp rfl <| .nil) rfl (Le.t (.cons (Le.i (by rw [hq])) <| .cons (Le.bo (by first | exact (decide_eq_true (hmem.2 ⟨by simp at c35; omega, by rw [← hq]; simpa using c42⟩)).symm | exact (decide_eq_false (fun h => by have h5 := hmem.1 h; rw [← hq] at h5; simp [h5.2] at c42)).symm | exact (decide_eq_false (fun h => by have h5 := hmem.1 h; simp at c35; omega)).symm)) <| .nil))
   ·refine .gf c35 ?_; refine .gf c35 ?_; refine .gf c35 ?_; refine .gf c35 ?_; refine .gf c35 ?_; refine .gf c35 ?_; refine .gf c35 ?_; refine .gu ?_; refine .gu ?_; refine .gu ?_; refine .gu ?_; refine .gu ?_; refine .gu ?_; refine .gu ?_; refine .gu ?_; refine .gu ?_; refine .gf c35 ?_; refine .x (OpSem.pickF rfl rfl c35 rfl) ?_; refine .a ?_; refine .a ?_; exact .sq <| .t <| .ret rfl (.tmp rfl <| .tmp rfl <| .nil) rfl (Le.t (.cons (Le.i (by rw [hq])) <| .cons (Le.bo (by first | exact (decide_eq_true (hmem.2 ⟨by simp at c35; omega, by rw [← hq]; simpa using c42⟩)).symm | exact (decide_eq_false (fun h => by have h5 := hmem.1 h; rw [← hq] at h5; simp [h5.2] at c42)).symm | exact (decide_eq_false (fun h => by have h5 := hmem.1 h; simp at c35; omega)).symm)) <| .nil))
theorem strips_Meets_1_does (x : Int) (b : List Int) (hp : b.Pairwise (· < ·)) (hl : b.length ≤ 1000000) : Does Tryz.prog false 126 [I (x), .p [ints b]] (Bo (decide (x ∈ b))) := by
 refine Does.of_body Tryz.func126 rfl rfl (by simp) Tryz.call126 (fun w0 O0 => ?_); refine .g <| .r <| .a ?_; refine .z <| .x (.l1 vs22) ?_; refine .m ?_; refine .x (OpSem.call0 (slices_BinarySearch_int_int_does b x hp hl) rfl rfl rfl rfl (Les.refl _)) ?_; refine .m ?_; refine .x .xt ?_; refine .x .xt ?_; refine .a ?_; refine .a ?_; refine .z <| .m ?_; refine .a ?_; exact .sq <| .t <| .ret rfl (.tmp rfl <| .nil) rfl (.refl _)
theorem strips_Meets_does (a b : List Int) (hp : b.Pairwise (· < ·)) (hl : b.length ≤ 1000000) : Does Tryz.prog false 97 [.d (ints a), .d (ints b)] (Bo (a.any fun x => decide (x ∈ b))) := by
 refine Does.of_body Tryz.func97 rfl rfl (by simp) Tryz.call97 (fun w0 O0 => ?_); refine .le 0 fun len0 => ?_; refine .le 1 fun len1 => ?_; refine .g <| .r <| .bx 3 ?_; refine .a ?_; refine .sq <| .g <| .freezeR 3 rfl rfl ?_; refine .r <| .m ?_; refine .x (OpSem.makeFunc rfl rfl rfl) ?_; refine .x (OpSem.call (slices_ContainsFunc_int_int_does a 126 [.p [ints b]] (fun x => decide (x ∈ b)) (caught_p _) (fun x _ => strips_Meets_1_does x b hp hl)) (.inr rfl) rfl rfl rfl rfl (Les.refl _)) ?_; refine .a ?_; exact .sq <| .t <| .ret rfl (.tmp rfl <| .nil) rfl (.refl _)
theorem strips_operator_does (o : SOp) (n : Int) (h0 : 0 ≤ n) (hn : n ≤ 24) : Does Tryz.prog false 74 [sopS o, I (n)] (I (opCode n o)) := by
 refine Does.of_body Tryz.func74 rfl rfl (by simp) Tryz.call74 (fun w0 O0 => ?_); refine .lg 0 0 fun len0_0 => ?_; refine .lg 0 1 fun len0_1 => ?_; refine .lg 0 2 fun len0_2 => ?_; refine .g <| .r <| .bx 2 ?_; refine .a ?_; refine .sq <| .g <| .k <| .g <| .r <| .x (.f fo75_0) ?_; refine .x (.l vs22) ?_; refine .m ?_; refine .x (OpSem.call0 (strips_IsSet_does o.pre n) rfl rfl rfl rfl (Les.refl _)) ?_; refine .x .nt ?_; refine .m ?_; refine .split (n := 11) rfl (fun c11 => ?_) (fun c11 => ?_)
 ·refine .hf c11 ?_; refine .hf c11 ?_; refine .hf c11 ?_; refine .hf c11 ?_; refine .hf c11 ?_; refine .x (OpSem.pickT rfl rfl c11 rfl) ?_; refine .m ?_; refine .hf rfl ?_; refine .hf rfl ?_; refine .hf rfl ?_; refine .hf rfl ?_; refine .hf rfl ?_; refine .x (OpSem.pickT rfl rfl rfl rfl) ?_; refine .m ?_; refine .hf rfl ?_; refine .hf rfl ?_; refine .hf rfl ?_; refine .hf rfl ?_; refine .hf rfl ?_; refine .x (OpSem.pickT rfl rfl rfl rfl) ?_; refine .a ?_; refine .sq <| .condT rfl rfl ?_; refine .g <| .r <| .a ?_; exact .sq <| .t <| .k <| .t <| .ret rfl (.tmp rfl <| .nil) rfl (Le.i (opCode_5 (fun h => by have := h.1; rw [decide_eq_true this] at c11; simp at c11)).symm)
 ·have s1 : SetP n o.pre := by simpa using c11
  refine .ht c11 ?_; refine .x (.f fo75_1) ?_; refine .ht c11 ?_; refine .x (.l vs22) ?_; refine .ht c11 ?_; refine .m ?_; refine .ht c11 ?_; refine .x (OpSem.call0 (strips_IsSet_does o.add n) rfl rfl rfl rfl (Les.refl _)) ?_; refine .ht c11 ?_; refine .x .nt ?_; refine .x (OpSem.pickF rfl rfl c11 rfl) ?_; refine .m ?_; refine .split (n := 18) rfl (fun c18 => ?_) (fun c18 => ?_)
  ·refine .hf c18 ?_; refine .hf c18 ?_; refine .hf c18 ?_; refine .hf c18 ?_; refine .hf c18 ?_; refine .x (OpSem.pickT rfl rfl c18 rfl) ?_; refine .m ?_; refine .hf rfl ?_; refine .hf rfl ?_; refine .hf rfl ?_; refine .hf rfl ?_; refine .hf rfl ?_; refine .x (OpSem.pickT rfl rfl rfl rfl) ?_; refine .a ?_; refine .sq <| .condT rfl rfl ?_; refine .g <| .r <| .a ?_; exact .sq <| .t <| .k <| .t <| .ret rfl (.tmp rfl <| .nil) rfl (Le.i (opCode_5 (fun h => by have := h.2.1; rw [decide_eq_true this] at c18; simp at c18)).symm)
  ·have s2 : SetP n o.add := by simpa using c18
   refine .ht c18 ?_; refine .x (.f fo75_2) ?_; refine .ht c18 ?_; refine .x (.l vs22) ?_; refine .ht c18 ?_; refine .m ?_; refine .ht c18 ?_; refine .x (OpSem.call0 (strips_IsSet_does o.del n) rfl rfl rfl rfl (Les.refl _)) ?_; refine .ht c18 ?_; refine .x .nt ?_; refine .x (OpSem.pickF rfl rfl c18 rfl) ?_; refine .m ?_; refine .split (n := 25) rfl (fun c25 => ?_) (fun c25 => ?_)
   ·refine .hf c25 ?_; refine .hf c25 ?_; refine .hf c25 ?_; refine .hf c25 ?_; refine .hf c25 ?_; refine .x (OpSem.pickT rfl rfl c25 rfl) ?_; refine .a ?_; refine .sq <| .condT rfl rfl ?_; refine .g <| .r <| .a ?_; exact .sq <| .t <| .k <| .t <| .ret rfl (.tmp rfl <| .nil) rfl (Le.i (opCode_5 (fun h => by have := h.2.2.1; rw [decide_eq_true this] at c25; simp at c25)).symm)
   ·have s3 : SetP n o.del := by simpa using c25
    refine .ht c25 ?_; refine .x (.f fo75_1) ?_; refine .ht c25 ?_; refine .x (.l vs22) ?_; refine .ht c25 ?_; refine .x (.f fo75_2) ?_; refine .ht c25 ?_; refine .x (.l vs22) ?_; refine .ht c25 ?_; refine .x (OpSem.call0 (strips_Meets_does o.add o.del (setP_sorted s3) (setP_len s3 hn)) rfl rfl rfl rfl (Les.refl _)) ?_; refine .x (OpSem.pickF rfl rfl c25 rfl) ?_; refine .a ?_; refine .sq <| .cond rfl (fun c5 => ?_) (fun c5 => ?_)
    ·refine .g <| .r <| .a ?_; exact .sq <| .t <| .k <| .t <| .ret rfl (.tmp rfl <| .nil) rfl (Le.i (opCode_5 (fun h => any_disj c5 h.2.2.2)).symm)
    ·have s4 : DisjP o.add o.del := disj_any (by simpa using c5)
     have sA := And.intro s1 (And.intro s2 (And.intro s3 s4))
     refine .g <| .r <| .x (.f fo75_3) ?_; refine .x (.l vs3) ?_; refine .x (.b blss) ?_; refine .m ?_; refine .split (n := 36) rfl (fun c36 => ?_) (fun c36 => ?_)
     ·refine .hf c36 ?_; refine .hf c36 ?_; refine .hf c36 ?_; refine .x (OpSem.pickT rfl rfl c36 rfl) ?_; refine .a ?_; refine .sq <| .condT rfl rfl ?_; refine .g <| .r <| .a ?_; exact .sq <| .t <| .k <| .t <| .ret rfl (.tmp rfl <| .nil) rfl (Le.i (opCode_3 sA (by simp at c36; omega)).symm)
     ·refine .ht c36 ?_; refine .x (.f fo75_3) ?_; refine .ht c36 ?_; refine .x (.l vs3) ?_; refine .ht c36 ?_; refine .x (.b bgtr) ?_; refine .x (OpSem.pickF rfl rfl c36 rfl) ?_; refine .a ?_; refine .sq <| .cond rfl (fun c32 => ?_) (fun c32 => ?_)
      ·refine .g <| .r <| .a ?_; exact .sq <| .t <| .k <| .t <| .ret rfl (.tmp rfl <| .nil) rfl (Le.i (opCode_3 sA (by simp at c32; omega)).symm)
      ·refine .p <| .n <| .z <| .a ?_; exact .sq <| .t <| .ret rfl (.tmp rfl <| .nil) rfl (Le.i (opCode_0 sA (by simp at c36 c32; omega)).symm)
theorem strips_Validate_does (t : Tsk) : Does Tryz.prog false 44 [tskS t] (flt (tskF t)) := by
 refine Does.of_body Tryz.func44 rfl rfl (by simp) Tryz.call44 (fun w0 O0 => ?_); refine .lg 0 1 fun len0_1 => ?_; refine .lg 0 2 fun len0_2 => ?_; refine .lg 0 3 fun len0_3 => ?_; refine .g <| .r <| .bx 1 ?_; refine .al 2 zc32 ?_; refine .sq <| .g <| .k <| .g <| .r <| .x (.f fo43_0) ?_; refine .x (.l vs3) ?_; refine .x (.b blss) ?_; refine .m ?_; refine .split (n := 10) rfl (fun c10 => ?_) (fun c10 => ?_)
 ·refine .hf c10 ?_; refine .hf c10 ?_; refine .hf c10 ?_; refine .x (OpSem.pickT rfl rfl c10 rfl) ?_; refine .a ?_; refine .sq <| .condT rfl rfl ?_; refine .g <| .r <| .x (.bd pl32 zc32) ?_; refine .sb vs32 ?_; exact .sq <| .t <| .k <| .t <| .ret rfl (.cellN rfl rfl vs32 <| .nil) rfl (Le.flt (tskF_1 (by simp at c10; omega)))
 ·refine .ht c10 ?_; refine .x (.f fo43_0) ?_; refine .ht c10 ?_; refine .x (.l vs3) ?_; refine .ht c10 ?_; refine .x (.b bgtr) ?_; refine .x (OpSem.pickF rfl rfl c10 rfl) ?_; refine .a ?_; refine .sq <| .cond rfl (fun c6 => ?_) (fun c6 => ?_)
  ·refine .g <| .r <| .x (.bd pl32 zc32) ?_; refine .sb vs32 ?_; exact .sq <| .t <| .k <| .t <| .ret rfl (.cellN rfl rfl vs32 <| .nil) rfl (Le.flt (tskF_1 (by simp at c6; omega)))
  ·have s1 : ¬ (t.facts < 0 ∨ 24 < t.facts) := by simp at c10 c6; omega
   refine .g <| .r <| .x (.f fo43_1) ?_; refine .x (.l vs22) ?_; refine .x (.f fo43_0) ?_; refine .x (.l vs3) ?_; refine .x (OpSem.call0 (strips_IsSet_does t.ini t.facts) rfl rfl rfl rfl (Les.refl _)) ?_; refine .x .nt ?_; refine .a ?_; refine .sq <| .cond rfl (fun c16 => ?_) (fun c16 => ?_)
   ·refine .g <| .r <| .x (.bd pl32 zc32) ?_; refine .sb vs32 ?_; exact .sq <| .t <| .k <| .t <| .ret rfl (.cellN rfl rfl vs32 <| .nil) rfl (Le.flt (tskF_2 s1 (by simpa using c16)))
   ·have s2 : SetP t.facts t.ini := by simpa using c16
    refine .g <| .r <| .x (.f fo43_2) ?_; refine .x (.l vs22) ?_; refine .x (.f fo43_0) ?_; refine .x (.l vs3) ?_; refine .x (OpSem.call0 (strips_IsSet_does t.goal t.facts) rfl rfl rfl rfl (Les.refl _)) ?_; refine .x .nt ?_; refine .a ?_; refine .sq <| .cond rfl (fun c24 => ?_) (fun c24 => ?_)
    ·refine .g <| .r <| .x (.bd pl32 zc32) ?_; refine .sb vs32 ?_; exact .sq <| .t <| .k <| .t <| .ret rfl (.cellN rfl rfl vs32 <| .nil) rfl (Le.flt (tskF_3 s1 s2 (by simpa using c24)))
    ·have s3 : SetP t.facts t.goal := by simpa using c24
     refine .g <| .r <| .x (.f fo43_3) ?_; refine .x (.l vs41) ?_; refine .x (.n es41) ?_; refine .x (.b bgtr) ?_; refine .a ?_; refine .sq <| .cond rfl (fun c32 => ?_) (fun c32 => ?_)
     ·refine .g <| .r <| .x (.bd pl32 zc32) ?_; refine .sb vs32 ?_; exact .sq <| .t <| .k <| .t <| .ret rfl (.cellN rfl rfl vs32 <| .nil) rfl (Le.flt (tskF_4 s1 s2 s3 (by simp at c32; omega)))
     ·have s4 : ¬ 40 < t.ops.length := by simp at c32; omega
      refine .p <| .n <| .g <| .g <| .g <| .r <| .x (.f fo43_3) ?_; refine .x (.l vs41) ?_; refine .x (.n es41) ?_; refine .m ?_; refine .sq <| .k <| .loop (X := Nat) (fun k => k ≤ t.ops.length ∧ ∀ i : Nat, i < k → opCode t.facts (nth t.ops i) = 0) (fun k => [(1, .r 1 0), (2, .r 2 0), (39, .d (sopsD t.ops)), (40, I (t.ops.length)), (41, I (k))]) (fun k => [(1, .box [I (t.facts), .d (ints t.ini), .d (ints t.goal), .d (sopsD t.ops)]), (2, .box [I (0), I (0)])]) (fun k => t.ops.length - k) 0 ⟨by omega, by simp⟩ ?_ ?_
      ·exact .p3 <| .sl <| .slot rfl (Le.of_eq (by simp)) <| .all
      ·rintro k ⟨hkl, hinv⟩
       refine .g <| .r <| .x (.b blss) ?_; refine .sq <| .g <| .cond rfl (fun c42 => ?_) (fun c42 => ?_)
       ·have hk : k < t.ops.length := by simpa using c42
        refine .p <| .g <| .g <| .k <| .g <| .r <| .m ?_; refine .x (.i es41) ?_; refine .x (.lN vs75) ?_; refine .al 4 zc75 ?_; refine .a ?_; refine .sb vs75 ?_; refine .z <| .x (.L vs75) ?_; refine .x (.f fo43_0) ?_; refine .x (.l vs3) ?_; refine .x (OpSem.call0 (strips_operator_does (nth t.ops k) t.facts (by omega) (by omega)) rfl rfl rfl rfl (Les.refl _)) ?_; refine .a ?_; refine .z <| .m ?_; refine .x (.b bneq) ?_; refine .sq <| .cond rfl (fun c51 => ?_) (fun c51 => ?_)
        ·have hb0 : opCode t.facts (nth t.ops k) ≠ 0 := by simpa using c51
         refine .g <| .r <| .mm ?_; refine .x (.bd pl32 zc32) ?_; refine .sb vs32 ?_; exact .sq <| .t <| .k <| .t <| .t <| .k <| .t <| .ret rfl (.cellN rfl rfl vs32 <| .nil) rfl (Le.flt (by rw [tskF_5 s1 s2 s3 s4]; exact sops_bad hk hinv hb0))
        ·have hb : opCode t.facts (nth t.ops k) = 0 := by simpa using c51
         refine .p <| .n <| .y <| .x .ad ?_; refine .m ?_; refine .n <| .again (k + 1) ⟨by omega, all_succ hinv hb⟩ ?_ (by omega); exact .p3 <| .sl <| .slot rfl (Le.of_eq (by simp)) <| .all
       ·have hk : k = t.ops.length := by simp at c42; omega
        refine .u <| .u <| .u <| .b <| .z <| .x (.bd pl32 zc32) ?_; refine .sb vs32 ?_; exact .sq <| .t <| .ret rfl (.cellN rfl rfl vs32 <| .nil) rfl (Le.flt (by rw [tskF_5 s1 s2 s3 s4]; subst hk; exact (sops_all hinv).symm))
end Go.Proofs.YtgophedpkiidkaaGreat
end

section
namespace Go.Eng
open Go
section
variable {a b : Abs} {c : List Int}
end
end Go.Eng
end

section
namespace Go.Eng
open Go
def dt (a : Abs) (d : List Bool) (u v : Int) : Bool := nth d (u * a.states + v)
def mark (a : Abs) (d : List Bool) (x y : Int) : List Bool := setI (setI d (x * a.states + y) true) (y * a.states + x) true
section
variable {a : Abs} (ha : AbsOk a)
include ha
omit ha in
theorem set2_get {l : List Bool} {i j : Int} {c v : Bool} (h0 : 0 ≤ j) (h1 : j < l.length) : ((l.map fun b => [D.v (.bool b)]).set i.toNat ([D.v (.bool c)].set 0 (D.v (.bool v))))[j.toNat]? = some [D.v (.bool (nth (setI l i v) j))] := by
 have : ((l.map fun b => [D.v (.bool b)]).set i.toNat ([D.v (.bool c)].set 0 (D.v (.bool v)))) = (setI l i v).map fun b => [D.v (.bool b)] := by simp [setI, List.map_set]
 rw [this]
 exact rows_get h0 (by rw [setI_len]; exact h1)
omit ha in
theorem mark_rows {d : List Bool} {x y : Int} {c c' : Bool} : (((d.map fun b => [D.v (.bool b)]).set (x * a.states + y).toNat ([D.v (.bool c)].set 0 (D.v (.bool true)))).set (y * a.states + x).toNat ([D.v (.bool c')].set 0 (D.v (.bool true)))) = (mark a d x y).map fun b => [D.v (.bool b)] := by
 unfold mark setI; simp [List.map_set]
def gdf (a : Abs) (u v : Int) : Bool := !(decide (u ∈ a.goals) == decide (v ∈ a.goals))
def dfTo (a : Abs) (m : Nat) : List Bool := (List.range (nS a * nS a)).map fun (i : Nat) => decide (i < m) && gdf a ((i : Int) / a.states) ((i : Int) % a.states)
omit ha in
theorem dfTo_len {m : Nat} : (dfTo a m).length = nS a * nS a := by simp [dfTo]
omit ha in
theorem dfTo_0 : dfTo a 0 = List.replicate (nS a * nS a) false := by
 apply List.ext_getElem (by simp [dfTo])
 intro i h1 h2; simp [dfTo]
end
end Go.Eng
end

section
namespace Go.Eng
open Go
inductive Rch (t : Tsk) (s : List Int) (use : Nat → Bool) : Int → Prop
 | base {p : Int} : p ∈ s → Rch t s use p
 | op {i : Nat} {p : Int} : i < t.ops.length → use i = true → (∀ q, q ∈ (nth t.ops i).pre → Rch t s use q) → p ∈ (nth t.ops i).add → Rch t s use p
open Classical in
noncomputable def cloL (t : Tsk) (s : List Int) (use : Nat → Bool) : List Bool := (List.range t.facts.toNat).map fun (p : Nat) => decide (Rch t s use p)
theorem cloL_len {t : Tsk} {s : List Int} {use : Nat → Bool} : (cloL t s use).length = t.facts.toNat := by simp [cloL]
open Classical in
theorem cloL_at {t : Tsk} {s : List Int} {use : Nat → Bool} {p : Int} (h0 : 0 ≤ p) (h1 : p < t.facts) : nth (cloL t s use) p = true ↔ Rch t s use p := by
 obtain ⟨n, rfl⟩ := Int.eq_ofNat_of_zero_le h0
 rw [nth_eq (by rw [cloL_len]; omega)]
 simp [cloL]
section
variable {t : Tsk} {s : List Int} {use : Nat → Bool}
theorem set_rng {n : Int} {l : List Int} (h : SetP n l) : ∀ k : Nat, k < l.length → 0 ≤ nth l k ∧ nth l k < n := fun k hk => ⟨(h k hk).1, (h k hk).2.1⟩
end
end Go.Eng
end

section
namespace Go.Eng
open Go
structure TskV (t : Tsk) : Prop where
 facts : 0 ≤ t.facts ∧ t.facts ≤ 24
 ini : SetP t.facts t.ini
 goal : SetP t.facts t.goal
 ops : t.ops.length ≤ 40
 op : ∀ i : Nat, i < t.ops.length → (SetP t.facts (nth t.ops i).pre ∧ SetP t.facts (nth t.ops i).add ∧ SetP t.facts (nth t.ops i).del ∧ DisjP (nth t.ops i).add (nth t.ops i).del) ∧ 0 ≤ (nth t.ops i).cost ∧ (nth t.ops i).cost ≤ 100
theorem opCode_ok {n : Int} {o : SOp} (h : opCode n o = 0) : (SetP n o.pre ∧ SetP n o.add ∧ SetP n o.del ∧ DisjP o.add o.del) ∧ 0 ≤ o.cost ∧ o.cost ≤ 100 := by
 by_cases h1 : SetP n o.pre ∧ SetP n o.add ∧ SetP n o.del ∧ DisjP o.add o.del
 ·by_cases h2 : o.cost < 0 ∨ 100 < o.cost
  ·rw [opCode_3 h1 h2] at h; cases h
  ·exact ⟨h1, by omega, by omega⟩
 ·rw [opCode_5 h1] at h; cases h
theorem tskF_v {t : Tsk} (h : tskF t = (0, 0)) : TskV t := by
 obtain ⟨h1, h2, h3, h4, h5, _⟩ := tskF_inv (congrArg Prod.fst h)
 refine ⟨h1, h2, h3, h4, fun i hi => opCode_ok ?_⟩
 have := firstF_all h5 i hi
 by_cases c : opCode t.facts (nth t.ops i) = 0
 ·exact c
 ·rw [if_neg c] at this; exact absurd (congrArg Prod.fst this) c
end Go.Eng
end

section
namespace Go.Eng
open Go
def SubP (a l : List Int) : Prop := ∀ k : Nat, k < a.length → nth a k ∈ l
instance {a l : List Int} : Decidable (SubP a l) := by unfold SubP; exact inferInstance
end Go.Eng
end

section
namespace Go.Eng
open Go
section
variable {t : Tsk} {s : List Int} {use : Nat → Bool} {drop : List Bool}
end
end Go.Eng
end

section
namespace Go.Eng
open Go
end Go.Eng
end

section
namespace Go.Eng
open Go
structure LPr where
 rws : List (List Int)
 bnd : List Int
 obj : List Int
deriving DecidableEq
instance : Inhabited LPr := ⟨⟨[], [], []⟩⟩
end Go.Eng
end

section
namespace Go.Eng
open Go
end Go.Eng
end

section
namespace Go.Eng
structure Tb where
 rs : List (List Int)
 bs : List Int
 dn : Int
structure Ids where
 s : Nat
 r : Nat
 rc : Nat
 rt : List Value
 ba : Option Addr
 bb : Nat
 bc : Nat
 bt : List Value
 rb : List Nat
 cs : List Nat
 ts : List (List Value)
 w : Nat
 Tt : Nat
 TR : Nat
 TI : Nat
def cel (t : Tb) (i j : Int) : Int := nth (nth t.rs i) j
section
variable {g : Ids} {t t' : Tb}
theorem nth_set {α : Type} [Inhabited α] {l : List α} {i : Nat} {v : α} {n : Int} (h0 : 0 ≤ n) (h1 : n < l.length) : nth (l.set i v) n = if n.toNat = i then v else nth l n := by
 have h2 : n.toNat < l.length := by omega
 unfold nth
 simp only [List.getD_eq_getElem?_getD, List.getElem?_set]
 by_cases h : i = n.toNat
 ·subst h; simp [h2]
 ·rw [if_neg h, if_neg (fun e => h e.symm)]
end
section
variable {P : Program} {N : Nat} {w0 : World} {O0 : Nat → Nat} {B : Nat} {o : Oper} {e : Env} {M : Mem} {s : S} {g : Ids} {t : Tb} {h : Nat}
end
theorem bquoT {t : TypeId} {m n : Int} (h0 : -4611686018427387904 ≤ m) (h1 : m ≤ 4611686018427387904) (hn : n ≠ 0) : binOp .quo t (.int .i64 m) (.int .i64 n) = pure (.int .i64 (m.tdiv n)) := by
 rw [binOp_quo]; simp only [Op.intDiv]; rw [if_neg hn, IntWalk.i64_in]
 have h2 : (m.tdiv n).natAbs ≤ m.natAbs := by rw [Int.natAbs_tdiv]; exact Nat.div_le_self _ _
 omega
end Go.Eng
end

section
namespace Go.Eng
instance : Inhabited Tb := ⟨⟨[], [], 0⟩⟩
section
variable {t : Tb} {r c : Int} {k l : Nat}
theorem nth_rangeMap {α : Type} [Inhabited α] {n : Nat} {f : Nat → α} {i : Nat} (h : i < n) : nth ((List.range n).map f) i = f i := by
 rw [nth_eq (by simpa using h)]; simp
end
end Go.Eng
end

section
namespace Go.Eng
section
variable {t t' t2 t3 : Tb} {c x : Int} {w k : Nat}
end
end Go.Eng
end

section
namespace Go.Eng
abbrev Vc := Nat → Int
def alt {α β : Type} (f : α → List α → Int) : List α → Int
 | [] => 0
 | x :: l => f x l - alt (β := β) (fun y l' => f y (x :: l')) l
abbrev al (f : Vc → List Vc → Int) (l : List Vc) : Int := alt (β := Unit) f l
def lc (a b : Int) (x y : Vc) : Vc := fun r => a * x r + b * y r
def up (B : Nat → Vc) (k : Nat) (v : Vc) : Nat → Vc := fun i => if i = k then v else B i
section
variable {M : Nat} {B : Nat → Vc} {k l : Nat} {x y : Vc}
def sm : Nat → (Nat → Int) → Int
 | 0, _ => 0
 | n + 1, f => sm n f + f n
def sv (n : Nat) (c : Nat → Int) (B : Nat → Vc) : Vc := fun q => sm n fun k => c k * B k q
def un (k : Nat) : Vc := fun q => if q = k then 1 else 0
end
end Go.Eng
end

section
namespace Go.Eng
section
variable {P : Program} {N : Nat} {w0 : World} {O0 : Nat → Nat} {ops : Array Oper} {Q : Post} {e : Env} {M : Mem} {rest : List Oper} {o : Oper} {s : S} {B : Nat} {c : Code}
end
end Go.Eng
end

section
namespace Go.Eng
end Go.Eng
end

section
namespace Go.Eng
section
variable {P : Program} {B : Nat} {o : Oper} {e : Env} {M : Mem}
end
def ntW (p : LPr) : Nat := p.obj.length + p.rws.length + 2
def ntRow (p : LPr) (i : Nat) : List Int := (List.range (ntW p)).map fun (j : Nat) => if j < p.obj.length then nth (nth p.rws i) j else if j = p.obj.length + i then 1 else if j = p.obj.length + p.rws.length then -1 else if j = p.obj.length + p.rws.length + 1 then nth p.bnd i else 0
def ntGo (p : LPr) (k : Nat) : List Int := (List.range (ntW p)).map fun (j : Nat) => if j < k then -(nth p.obj j) else 0
def ntGoal (p : LPr) : List Int := ntGo p p.obj.length
def ntArt (p : LPr) : List Int := (List.range (ntW p)).map fun (j : Nat) => if j = p.obj.length + p.rws.length then 1 else 0
def ntR (p : LPr) (i : Nat) : List Int := if i < p.rws.length then ntRow p i else if i = p.rws.length then ntGoal p else ntArt p
def ntBs (p : LPr) (k : Nat) : List Int := (List.range k).map fun (i : Nat) => ((p.obj.length + i : Nat) : Int)
def newTab (p : LPr) : Tb := ⟨(List.range (p.rws.length + 2)).map (ntR p), ntBs p p.rws.length, 1⟩
section
variable {p : LPr} {i k : Nat}
end
section
variable {P : Program} {N : Nat} {w0 : World} {O0 : Nat → Nat} {ops : Array Oper} {Q : Post} {e : Env} {M : Mem} {rest : List Oper}
theorem TrOps.memEq {h : Nat} {m m' : Mo} (hM : look M h = some m) (he : m = m') (hn : TrOps P N w0 O0 ops Q e ((h, m') :: M) rest) : TrOps P N w0 O0 ops Q e M rest := by
 subst he
 exact fun O H a w hst => hn O H a w (hst.memSet (hst.mem _ _ hM))
theorem Tr.memEq {c : Code} {h : Nat} {m m' : Mo} (hM : look M h = some m) (he : m = m') (hn : Tr P N w0 O0 e ((h, m') :: M) c Q) : Tr P N w0 O0 e M c Q := by
 subst he
 exact fun O H a w hst => hn O H a w (hst.memSet (hst.mem _ _ hM))
end
end Go.Eng
end

section
namespace Go.Eng
end Go.Eng
end

section
namespace Go.Eng
end Go.Eng
end

section
namespace Go.Eng
section
variable {p : LPr}
def A0 (p : LPr) (j : Int) : Vc := fun i => cel (newTab p) i j
def bc (p : LPr) (bs : List Int) : Nat → Vc := fun k => if k < p.rws.length then A0 p (nth bs k) else un k
variable {t : Tb} {r : Nat} {c : Nat}
end
end Go.Eng
end

section
namespace Go.Eng
section
variable {t : Tb} {c : Int} {w : Nat}
end
section
variable {p : LPr} {t : Tb} {ob n : Nat}
end
end Go.Eng
end

section
namespace Go.Eng
section
variable {p : LPr} {t : Tb} {ob n : Nat}
end
end Go.Eng
end

section
namespace Go.Eng
section
variable {p : LPr} {t : Tb}
end
end Go.Eng
end

section
namespace Go.Eng
section
variable {t : Tsk}
end
end Go.Eng
end

section
namespace Go.Eng
abbrev vecC (v : List Int × Int) : List D := [ints v.1, .v (.int .i64 v.2)]
abbrev vecS (v : List Int × Int) : S := .g [.d (ints v.1), I v.2]
abbrev vecsD (l : List (List Int × Int)) : D := .s 2 (l.map vecC)
end Go.Eng
end

section
namespace Go.Eng
section
variable {P : Program} {B : Nat} {o : Oper} {e : Env} {M : Mem}
theorem OpSem.buildS (h : Nat) {t k len : Nat} {ps : Array (Nat × Operand)} {l : List (Nat × S)} {zs : List Value} {ss : List S} {rows : List (List D)} (ho : o.op = .buildSlice t len ps) (hp : partsS e ps.toList = some l) (hk : esz P t = some k)
  (hz : zcells P (P.elem t) = some zs) (h1 : zs.all Value.oneCell' = true) (hzk : zs.length = k) (hk0 : 0 < k) (hlen : len * k ≤ 2 ^ 24)
  (hf : fillS (fun i => some (i * k, k)) ((List.replicate len zs).flatten.map fun z => .d (.v z)) l = some ss) (hr : rowsOf k len ss = some rows) : OpSem P B o e M (.o h) (some (h, .own k (P.elem t) rows)) := by
 intro O H a w hB hs hm K hK
 obtain ⟨q1, q2⟩ := partsS_rep (O := O) (H := H) (w := w) (a := a) ps.toList l hp (fun p hp s hs' => hs p.2 (by simp only [ho, Op.operands]; simpa using ⟨p.1, by simpa using hp⟩) s hs')
 have hzz : ∀ (n : Nat), (List.replicate n zs).flatten.all Value.oneCell' = true := by
  intro n
  rw [List.all_eq_true] at h1 ⊢
  intro x hx
  rw [List.mem_flatten] at hx
  obtain ⟨r, hr, hx⟩ := hx
  rw [List.mem_replicate] at hr
  exact h1 x (hr.2 ▸ hx)
 have hz' := RepC.zero (O := O) (H := H) (w := w) ((List.replicate len zs).flatten) (hzz len)
 obtain ⟨cs', hcs, hrep⟩ := fill_rep (places := fun i => some (i * k, k)) _ l _ _ ss q1 q2 hz' hf
 obtain ⟨z, hz1, hz2⟩ := run_zero hz w
 have harr : (Array.range (len * k)).map (fun i => zs.toArray[i % zs.toArray.size]!) = ((List.replicate len zs).flatten).toArray := by
  apply Array.ext'
  simp only [Array.toList_map, Array.toList_range]
  clear hf hz' hcs hrep hlen ho hr
  induction len with
  | zero => simp
  | succ n ih =>
   rw [List.replicate_succ, List.flatten_cons]
   rw [Nat.succ_mul, Nat.add_comm, List.range_add, List.map_append, List.map_map]
   congr 1
   ·apply List.ext_getElem?
    intro i
    by_cases hi : i < k
    ·simp [hi, Nat.mod_eq_of_lt (by omega : i < zs.length), hzk, getElem!_def, List.getElem?_eq_getElem (by omega : i < zs.length), Nat.mod_eq_of_lt hi]
    ·rw [List.getElem?_eq_none (by simp; omega), List.getElem?_eq_none (by omega)]
   ·rw [← ih]
    apply List.map_congr_left
    intro i _
    simp [hzk]
 have hfill : Instr.fill (fun i => some (i * k, k)) ((Array.range (len * k)).map (fun i => zs.toArray[i % zs.toArray.size]!)) (ps.toList.map fun p => (p.1, a.eval p.2)) = some cs' := by rw [harr]; exact hcs
 have hfill' : Instr.fill (fun i => some (i * k, k)) ((Array.range (len * k)).map (fun i => z.cells[i % z.cells.size]!)) (ps.toList.map fun p => (p.1, a.eval p.2)) = some cs' := by rw [hz2]; exact hfill
 have hu := (esz_spec hk).1
 have hrun : (execOp a.eval o).run P w = .ok (.value (.slice (some ⟨w.heap.size, 0, none⟩) len len)) (w.alloc (.cells cs' (P.elem t))) := by
  by_cases hl0 : len * k = 0
  ·have hl : len = 0 := by rcases Nat.mul_eq_zero.1 hl0 with h | h; exact h; omega
   subst hl
   simp only [Nat.zero_mul, Array.range_zero', Array.map_empty] at hfill
   simp [execOp, ho, Instr.buildSlice, run_underlying hu, run_sizeElem hk, hl0, newRow, hfill, Array.range_zero']
  ·skip
   have h24 : ¬ 16777216 < len * k := by simpa using hlen
   simp [execOp, ho, Instr.buildSlice, run_underlying hu, run_sizeElem hk, hl0, hz1, newRow, hfill', h24]
 have hsz0 : cs'.size = len * k := by
  have : cs'.size = ((List.replicate len zs).flatten.map fun z => S.d (.v z)).length := by
   have hfs : ∀ (l : List (Nat × S)) (c o : List S), fillS (fun i => some (i * k, k)) c l = some o → o.length = c.length := by
    intro l
    induction l with
    | nil => intro c o h; simp only [fillS, Option.some.injEq] at h; rw [h]
    | cons p l ih =>
     intro c o h
     obtain ⟨i, s⟩ := p
     simp only [fillS] at h
     split at h
     ·split at h
      ·rename_i hq _ hcond
       simp only [Option.some.injEq, Prod.mk.injEq] at hq
       obtain ⟨rfl, rfl⟩ := hq
       rw [ih _ _ h]; simp; omega
      ·cases h
     ·cases h
   rw [hrep.1]; exact hfs _ _ _ hf
  rw [this]; simp [hzk]
 have hss : len * k ≤ ss.length := by rw [← hrep.1, hsz0]; exact Nat.le_refl _
 obtain ⟨r1, r2, r3⟩ := rowsOf_spec k len ss rows hss hr
 have hcell : ∀ (i : Nat) (r : List D) (j : Nat) (d : D), rows[i]? = some r → r[j]? = some d → ∃ y, cs'[i * k + j]? = some y ∧ RepD O w y d ∧ y.oneCell' = true := by
  intro i r j d hi hj
  obtain ⟨y, hy, hr', h1⟩ := hrep.2 _ _ (r3 i r j d hi hj)
  cases hr' with
  | d _ _ hd => exact ⟨y, hy, hd, h1⟩
 have hkeep := Keep.alloc (O := O) (H := H) (w := w) (.cells cs' (P.elem t)) h (.slice (some ⟨w.heap.size, 0, none⟩) len len)
 unfold Oper.wp
 rw [hrun]
 obtain ⟨H', hH'⟩ : ∃ H' : Nat → Value, H' = fun m => if m = h then (.slice (some ⟨w.heap.size, 0, none⟩) len len : Value) else H m := ⟨_, rfl⟩
 have hH : H' h = .slice (some ⟨w.heap.size, 0, none⟩) len len := by rw [hH']; simp
 rw [← hH'] at hkeep
 have ho' := RepS.o (O := fun b => if b = w.heap.size then h + 1 else O b) (w := w.alloc (.cells cs' (P.elem t))) (H := H') h (by rw [hH]; rfl)
 rw [hH] at ho'
 refine hK _ _ _ _ hkeep ((Below.refl _ _).alloc (Nat.le_refl _) _) ho' (fun h' m he => ?_)
 simp only [Option.some.injEq, Prod.mk.injEq] at he
 obtain ⟨rfl, rfl⟩ := he
 refine .inr ⟨w.heap.size, len, cs', by rw [hH, r1], hB, by simp, heap_new w _, by omega, by simp only [maxLen]; have := Nat.le_mul_of_pos_right len hk0; omega, hsz0, r2, fun i r j d hi hj => ?_⟩
 obtain ⟨y, hy, hr', h1⟩ := hcell i r j d hi hj
 exact ⟨y, hy, hr'.mono hkeep.keeps, h1⟩
end
end Go.Eng
end

section
namespace Go.Eng
section
variable {t : Tsk} {s l : List Int}
end
end Go.Eng
end

section
namespace Go.Eng
def gmT (v f : List Int) : Nat → Int
 | 0 => 0
 | k + 1 => max (gmT v f k) (nth v (nth f k))
def gmF (v f : List Int) : Int := gmT v f f.length
abbrev Cmb := List Int → List Int → Int
def vlA (w : Int) (add : List Int) (x : List Int × Bool) : Nat → List Int × Bool
 | 0 => x
 | j + 1 => if w < nth (vlA w add x j).1 (nth add j) then ((vlA w add x j).1.set (nth add j).toNat w, true) else vlA w add x j
def vlV (t : Tsk) (cs : List Int) (cmb : Cmb) (v : List Int) (i : Nat) : Int := plusI (cmb v (nth t.ops i).pre) (nth cs i)
def vlO (t : Tsk) (cs : List Int) (cmb : Cmb) (x : List Int × Bool) (i : Nat) : List Int × Bool := vlA (vlV t cs cmb x.1 i) (nth t.ops i).add x (nth t.ops i).add.length
def vlP (t : Tsk) (cs : List Int) (cmb : Cmb) (v : List Int) : Nat → List Int × Bool
 | 0 => (v, false)
 | i + 1 => vlO t cs cmb (vlP t cs cmb v i) i
inductive VlR (t : Tsk) (cs : List Int) (cmb : Cmb) : List Int → List Int → Prop
 | done {v : List Int} : (vlP t cs cmb v t.ops.length).2 = false → VlR t cs cmb v (vlP t cs cmb v t.ops.length).1
 | step {v w : List Int} : (vlP t cs cmb v t.ops.length).2 = true → VlR t cs cmb (vlP t cs cmb v t.ops.length).1 w → VlR t cs cmb v w
def vlI (n : Nat) (s : List Int) : Nat → List Int
 | 0 => List.replicate n 1000000000
 | k + 1 => (vlI n s k).set (nth s k).toNat 0
def vl0 (t : Tsk) (s : List Int) : List Int := vlI t.facts.toNat s s.length
structure VlP (n : Int) (v : List Int) : Prop where
 l : (v.length : Int) = n
 r : ∀ p : Int, 0 ≤ p → p < n → 0 ≤ nth v p ∧ nth v p ≤ 1000000000
def CmbP (n : Int) (cmb : Cmb) : Prop := ∀ v f, VlP n v → SetP n f → 0 ≤ cmb v f ∧ cmb v f ≤ 1000000000
structure CsV (t : Tsk) (cs : List Int) : Prop where
 l : cs.length = t.ops.length
 r : ∀ i : Nat, i < t.ops.length → 0 ≤ nth cs i ∧ nth cs i ≤ 100
theorem nth_sI {l : List Int} {p q v : Int} (h0 : 0 ≤ p) (h1 : p < l.length) (h2 : 0 ≤ q) (h3 : q < l.length) : nth (l.set p.toNat v) q = if q = p then v else nth l q := by
 rw [nth_set h2 h3]
 by_cases h : q = p
 ·rw [if_pos (by omega), if_pos h]
 ·rw [if_neg (by omega), if_neg h]
section
variable {n : Int} {v f : List Int}
theorem VlP.set (h : VlP n v) {p w : Int} (h0 : 0 ≤ p) (h1 : p < n) (hw : 0 ≤ w ∧ w ≤ 1000000000) : VlP n (v.set p.toNat w) := by
 have hl := h.l
 refine ⟨by rw [List.length_set]; exact hl, fun q q0 q1 => ?_⟩
 rw [nth_sI h0 (by omega) q0 (by omega)]
 split
 ·exact hw
 ·exact h.r q q0 q1
theorem gmT_in (h : VlP n v) (hf : ∀ k : Nat, k < f.length → 0 ≤ nth f k ∧ nth f k < n) : ∀ {k : Nat}, k ≤ f.length → 0 ≤ gmT v f k ∧ gmT v f k ≤ 1000000000
 | 0, _ => by simp [gmT]
 | k + 1, hk => by
  have ih := gmT_in h hf (k := k) (by omega)
  have hr := h.r _ (hf k (by omega)).1 (hf k (by omega)).2
  simp only [gmT]; omega
theorem gm_cmb : CmbP n gmF := fun v f hv hf => gmT_in hv (set_rng hf) (Nat.le_refl _)
theorem gmT_ge : ∀ {k i : Nat}, i < k → nth v (nth f i) ≤ gmT v f k
 | 0, i, h => by omega
 | k + 1, i, h => by
  simp only [gmT]
  by_cases hik : i = k
  ·subst hik; omega
  ·have := gmT_ge (k := k) (i := i) (by omega); omega
theorem gm_ge {p : Int} (h : p ∈ f) : nth v p ≤ gmF v f := by
 obtain ⟨i, hi, rfl⟩ := List.getElem_of_mem h
 have := gmT_ge (v := v) (f := f) hi
 rw [nth_eq hi] at this; exact this
theorem gmT_le {b : Int} (h0 : 0 ≤ b) (h : ∀ i : Nat, i < f.length → nth v (nth f i) ≤ b) : ∀ {k : Nat}, k ≤ f.length → gmT v f k ≤ b
 | 0, _ => by simpa [gmT] using h0
 | k + 1, hk => by
  have ih := gmT_le h0 h (k := k) (by omega)
  have := h k (by omega)
  simp only [gmT]; omega
theorem gm_le {b : Int} (h0 : 0 ≤ b) (h : ∀ p, p ∈ f → nth v p ≤ b) : gmF v f ≤ b := gmT_le h0 (fun i hi => h _ (nth_mem (by omega) (by omega))) (Nat.le_refl _)
end
section
variable {t : Tsk} {cs : List Int} {cmb : Cmb} {s v w : List Int}
theorem vlV_in (hV : TskV t) (hc : CsV t cs) (hm : CmbP t.facts cmb) (h : VlP t.facts v) {i : Nat} (hi : i < t.ops.length) : 0 ≤ vlV t cs cmb v i ∧ vlV t cs cmb v i ≤ 1000000000 := by
 have h1 := hm v _ h (hV.op i hi).1.1
 have h2 := hc.r i hi
 exact plusI_in h1 (by omega)
theorem vlA_keep {I : List Int → Prop} {w : Int} {add : List Int} (h : ∀ y (p : Int), I y → p ∈ add → w < nth y p → I (y.set p.toNat w)) {x : List Int × Bool} (hx : I x.1) : ∀ {j : Nat}, j ≤ add.length → I (vlA w add x j).1
 | 0, _ => hx
 | j + 1, hj => by
  have ih := vlA_keep h hx (j := j) (by omega)
  simp only [vlA]
  split
  ·rename_i hlt
   exact h _ _ ih (nth_mem (by omega) (by omega)) hlt
  ·exact ih
theorem vlP_keep {I : List Int → Prop} (h : ∀ x y (i : Nat) (p : Int), I x → I y → i < t.ops.length → p ∈ (nth t.ops i).add → vlV t cs cmb x i < nth y p → I (y.set p.toNat (vlV t cs cmb x i))) (hv : I v) : ∀ {i : Nat}, i ≤ t.ops.length → I (vlP t cs cmb v i).1
 | 0, _ => hv
 | i + 1, hi => by
  have ih := vlP_keep h hv (i := i) (by omega)
  exact vlA_keep (I := I) (fun y p hy hp hlt => h _ y i p ih hy (by omega) hp hlt) ih (Nat.le_refl _)
theorem VlR.keep {I : List Int → Prop} (h : ∀ x y (i : Nat) (p : Int), I x → I y → i < t.ops.length → p ∈ (nth t.ops i).add → vlV t cs cmb x i < nth y p → I (y.set p.toNat (vlV t cs cmb x i))) (hr : VlR t cs cmb v w) (hv : I v) : I w := by
 induction hr with
 | done _ => exact vlP_keep h hv (Nat.le_refl _)
 | step _ _ ih => exact ih (vlP_keep h hv (Nat.le_refl _))
theorem vlP_v (hV : TskV t) (hc : CsV t cs) (hm : CmbP t.facts cmb) (x y : List Int) (i : Nat) (p : Int) (hx : VlP t.facts x) (hy : VlP t.facts y) (hi : i < t.ops.length) (hp : p ∈ (nth t.ops i).add) : VlP t.facts (y.set p.toNat (vlV t cs cmb x i)) := by
 have hr := setP_mem (hV.op i hi).1.2.1 hp
 exact hy.set hr.1 hr.2 (vlV_in hV hc hm hx hi)
theorem VlR.vv (hV : TskV t) (hc : CsV t cs) (hm : CmbP t.facts cmb) (hr : VlR t cs cmb v w) (hv : VlP t.facts v) : VlP t.facts w := hr.keep (fun x y i p hx hy hi hp _ => vlP_v hV hc hm x y i p hx hy hi hp) hv
theorem vlA_flag {w : Int} {add : List Int} {x : List Int × Bool} : ∀ {j : Nat}, (vlA w add x j).2 = false → vlA w add x j = x ∧ ∀ k : Nat, k < j → ¬ w < nth x.1 (nth add k)
 | 0, _ => ⟨rfl, fun k hk => by omega⟩
 | j + 1, h => by
  simp only [vlA] at h ⊢
  split at h
  ·simp at h
  ·rename_i hn
   obtain ⟨h1, h2⟩ := vlA_flag h
   rw [if_neg hn]
   refine ⟨h1, fun k hk => ?_⟩
   by_cases hkj : k = j
   ·subst hkj; rw [h1] at hn; exact hn
   ·exact h2 k (by omega)
theorem vlP_flag : ∀ {i : Nat}, (vlP t cs cmb v i).2 = false → vlP t cs cmb v i = (v, false) ∧ ∀ k : Nat, k < i → ∀ p, p ∈ (nth t.ops k).add → nth v p ≤ vlV t cs cmb v k
 | 0, _ => ⟨rfl, fun k hk => by omega⟩
 | i + 1, h => by
  have h : (vlO t cs cmb (vlP t cs cmb v i) i).2 = false := h
  unfold vlO at h
  obtain ⟨h1, h2⟩ := vlA_flag h
  have h3 : (vlP t cs cmb v i).2 = false := by rw [← h1]; exact h
  obtain ⟨h4, h5⟩ := vlP_flag h3
  refine ⟨h1.trans h4, fun k hk p hp => ?_⟩
  by_cases hki : k = i
  ·subst hki
   obtain ⟨j, hj, rfl⟩ := List.getElem_of_mem hp
   have := h2 j hj
   rw [h4, nth_eq hj] at this
   exact Int.not_lt.1 this
  ·exact h5 k (by omega) p hp
theorem VlR.fix (hr : VlR t cs cmb v w) : ∀ i : Nat, i < t.ops.length → ∀ p, p ∈ (nth t.ops i).add → nth w p ≤ vlV t cs cmb w i := by
 induction hr with
 | done h =>
  obtain ⟨h1, h2⟩ := vlP_flag h
  rw [h1]; exact h2
 | step _ _ ih => exact ih
theorem smL_setI {y : List Int} {p w : Int} (h0 : 0 ≤ p) (h1 : p < y.length) : (y.set p.toNat w).sum = y.sum + (w - nth y p) := by
 obtain ⟨k, rfl⟩ := Int.eq_ofNat_of_zero_le h0
 have hk : k < y.length := by omega
 rw [Int.toNat_natCast, nth_eq hk]
 induction y generalizing k with
 | nil => simp at hk
 | cons a y ih =>
  cases k with
  | zero => simp; omega
  | succ k =>
   have := ih (k := k) (by omega) (by simp at hk; omega) (by simpa using hk)
   simp only [List.set_cons_succ, List.sum_cons, List.getElem_cons_succ]
   rw [this]; omega
theorem vlA_dec {n : Int} {w : Int} {add : List Int} (hadd : ∀ p, p ∈ add → 0 ≤ p ∧ p < n) (hw : 0 ≤ w ∧ w ≤ 1000000000) {x : List Int × Bool} (hx : VlP n x.1) : ∀ {j : Nat}, j ≤ add.length → VlP n (vlA w add x j).1 ∧ (vlA w add x j = x ∨ ((vlA w add x j).2 = true ∧ (vlA w add x j).1.sum < x.1.sum))
 | 0, _ => ⟨hx, .inl rfl⟩
 | j + 1, hj => by
  obtain ⟨h1, h2⟩ := vlA_dec hadd hw hx (j := j) (by omega)
  simp only [vlA]
  split
  ·rename_i hlt
   have hp := hadd (nth add j) (nth_mem (by omega) (by omega))
   have hl := h1.l
   refine ⟨h1.set hp.1 hp.2 hw, .inr ⟨rfl, ?_⟩⟩
   show ((vlA w add x j).1.set _ w).sum < _
   rw [smL_setI hp.1 (by omega)]
   rcases h2 with h2 | h2
   ·rw [h2] at hlt ⊢; omega
   ·omega
  ·exact ⟨h1, h2⟩
theorem vlP_dec (hV : TskV t) (hc : CsV t cs) (hm : CmbP t.facts cmb) (hv : VlP t.facts v) : ∀ {i : Nat}, i ≤ t.ops.length → VlP t.facts (vlP t cs cmb v i).1 ∧ (vlP t cs cmb v i = (v, false) ∨ ((vlP t cs cmb v i).2 = true ∧ (vlP t cs cmb v i).1.sum < v.sum))
 | 0, _ => ⟨hv, .inl rfl⟩
 | i + 1, hi => by
  obtain ⟨h1, h2⟩ := vlP_dec hV hc hm hv (i := i) (by omega)
  obtain ⟨h3, h4⟩ := vlA_dec (add := (nth t.ops i).add) (fun p hp => setP_mem (hV.op i (by omega)).1.2.1 hp) (vlV_in hV hc hm h1 (i := i) (by omega)) h1 (Nat.le_refl _)
  refine ⟨h3, ?_⟩
  show vlO t cs cmb (vlP t cs cmb v i) i = _ ∨ ((vlO t cs cmb (vlP t cs cmb v i) i).2 = true ∧ (vlO t cs cmb (vlP t cs cmb v i) i).1.sum < _)
  unfold vlO
  rcases h4 with h4 | ⟨h4, h5⟩
  ·rw [h4]; exact h2
  ·refine .inr ⟨h4, Int.lt_of_lt_of_le h5 ?_⟩
   rcases h2 with h2 | h2
   ·rw [h2]; exact Int.le_refl _
   ·omega
theorem VlP.sum (h : VlP t.facts v) : 0 ≤ v.sum := by
 have : ∀ l : List Int, (∀ x, x ∈ l → 0 ≤ x) → 0 ≤ l.sum := fun l => by
  induction l with
  | nil => simp
  | cons a l ih =>
   intro hl
   have h1 := hl a (by simp)
   have h2 := ih fun x hx => hl x (by simp [hx])
   simp only [List.sum_cons]; omega
 refine this v fun x hx => ?_
 obtain ⟨i, hi, rfl⟩ := List.getElem_of_mem hx
 have := (h.r i (by omega) (by have := h.l; omega)).1
 rw [nth_eq hi] at this; exact this
def vl_mu (x : List Int × Bool) : Nat := 2 * x.1.sum.toNat + (if x.2 = true then 1 else 0)
theorem vl_lt (hV : TskV t) (hc : CsV t cs) (hm : CmbP t.facts cmb) {x : List Int × Bool} (hv : VlP t.facts x.1) (hx : x.2 = true) : vl_mu (vlP t cs cmb x.1 t.ops.length) < vl_mu x := by
 obtain ⟨h1, h2⟩ := vlP_dec hV hc hm hv (Nat.le_refl _)
 have h0 := h1.sum
 unfold vl_mu
 rw [if_pos hx]
 rcases h2 with h2 | ⟨h2, h3⟩
 ·rw [h2]; simp
 ·rw [if_pos h2]; omega
theorem VlR.inv (h : VlR t cs cmb v w) : ((vlP t cs cmb v t.ops.length).2 = true → VlR t cs cmb (vlP t cs cmb v t.ops.length).1 w) ∧ ((vlP t cs cmb v t.ops.length).2 = false → (vlP t cs cmb v t.ops.length).1 = w) := by
 cases h with
 | done h => exact ⟨fun h2 => (by rw [h] at h2; cases h2), fun _ => rfl⟩
 | step h hr => exact ⟨fun _ => hr, fun h2 => (by rw [h] at h2; cases h2)⟩
theorem vl_ends (hV : TskV t) (hc : CsV t cs) (hm : CmbP t.facts cmb) : ∀ (d : Nat) {v : List Int}, v.sum.toNat < d → VlP t.facts v → ∃ w, VlR t cs cmb v w
 | 0, _, hd, _ => by omega
 | d + 1, v, hd, hv => by
  obtain ⟨h1, h2⟩ := vlP_dec hV hc hm hv (Nat.le_refl _)
  cases hb : (vlP t cs cmb v t.ops.length).2 with
  | false => exact ⟨_, .done hb⟩
  | true =>
   rcases h2 with h2 | ⟨_, h3⟩
   ·rw [h2] at hb; cases hb
   ·obtain ⟨w, hw⟩ := vl_ends hV hc hm d (v := (vlP t cs cmb v t.ops.length).1) (by have := h1.sum; omega) h1
    exact ⟨w, .step hb hw⟩
theorem vlI_v (hf : 0 ≤ t.facts) (hs : ∀ p, p ∈ s → 0 ≤ p ∧ p < t.facts) : ∀ {k : Nat}, k ≤ s.length → VlP t.facts (vlI t.facts.toNat s k) ∧ ∀ p : Int, 0 ≤ p → p < t.facts → nth (vlI t.facts.toNat s k) p = if p ∈ s.take k then 0 else 1000000000
 | 0, _ => by
  have hl : ((List.replicate t.facts.toNat (1000000000 : Int)).length : Int) = t.facts := by simp; omega
  have hr : ∀ p : Int, 0 ≤ p → p < t.facts → nth (List.replicate t.facts.toNat (1000000000 : Int)) p = 1000000000 := fun p p0 p1 => by
   obtain ⟨i, rfl⟩ := Int.eq_ofNat_of_zero_le p0
   rw [nth_eq (by simp; omega), List.getElem_replicate]
  exact ⟨⟨hl, fun p p0 p1 => by show 0 ≤ nth (List.replicate _ _) p ∧ nth (List.replicate _ _) p ≤ _; rw [hr p p0 p1]; omega⟩, fun p p0 p1 => by simpa [vlI] using hr p p0 p1⟩
 | k + 1, hk => by
  obtain ⟨h1, h2⟩ := vlI_v hf hs (k := k) (by omega)
  have hp := hs (nth s k) (nth_mem (by omega) (by omega))
  have hl := h1.l
  refine ⟨h1.set hp.1 hp.2 (by omega), fun p p0 p1 => ?_⟩
  show nth ((vlI t.facts.toNat s k).set (nth s k).toNat 0) p = _
  rw [nth_sI hp.1 (by omega) p0 (by omega), h2 p p0 p1, tk_s (by omega)]
  by_cases hpk : p = nth s k
  ·rw [if_pos hpk, if_pos (by rw [hpk]; simp)]
  ·rw [if_neg hpk]
   by_cases hm : p ∈ s.take k
   ·rw [if_pos hm, if_pos (by simp [hm])]
   ·rw [if_neg hm, if_neg (by simp [hm, hpk])]
theorem vl0_at (hf : 0 ≤ t.facts) (hs : ∀ p, p ∈ s → 0 ≤ p ∧ p < t.facts) {p : Int} (p0 : 0 ≤ p) (p1 : p < t.facts) : nth (vl0 t s) p = if p ∈ s then 0 else 1000000000 := by
 unfold vl0
 rw [(vlI_v hf hs (Nat.le_refl _)).2 p p0 p1, List.take_length]
theorem vl0_v (hf : 0 ≤ t.facts) (hs : ∀ p, p ∈ s → 0 ≤ p ∧ p < t.facts) : VlP t.facts (vl0 t s) := (vlI_v hf hs (Nat.le_refl _)).1
noncomputable def vlW (t : Tsk) (s cs : List Int) (cmb : Cmb) : List Int := open Classical in if h : ∃ w, VlR t cs cmb (vl0 t s) w then h.choose else []
theorem vlW_ok (hV : TskV t) (hc : CsV t cs) (hm : CmbP t.facts cmb) (hs : ∀ p, p ∈ s → 0 ≤ p ∧ p < t.facts) : VlR t cs cmb (vl0 t s) (vlW t s cs cmb) := by
 have h : ∃ w, VlR t cs cmb (vl0 t s) w := vl_ends hV hc hm _ (Nat.lt_succ_self _) (vl0_v hV.facts.1 hs)
 unfold vlW
 rw [dif_pos h]
 exact h.choose_spec
end
section
variable {t : Tsk} {s cs v w : List Int}
def Fea (t : Tsk) (s cs : List Int) (f : Int → Int) : Prop := (∀ p, p ∈ s → f p ≤ 0) ∧ (∀ p : Int, 0 ≤ p → p < t.facts → f p ≤ 1000000000) ∧
 ∀ i : Nat, i < t.ops.length → ∀ p, p ∈ (nth t.ops i).add → ∀ b : Int, 0 ≤ b → b ≤ 1000000000 → (∀ q, q ∈ (nth t.ops i).pre → f q ≤ b) → f p ≤ plusI b (nth cs i)
theorem fea_le (hV : TskV t) (hc : CsV t cs) (hs : ∀ p, p ∈ s → 0 ≤ p ∧ p < t.facts) {f : Int → Int} (hf : Fea t s cs f) : ∀ p : Int, 0 ≤ p → p < t.facts → f p ≤ nth (vlW t s cs gmF) p := by
 have key := (vlW_ok hV hc gm_cmb hs).keep (I := fun y => VlP t.facts y ∧ ∀ p : Int, 0 ≤ p → p < t.facts → f p ≤ nth y p) (fun x y i p hx hy hi hp hlt => ?_) ⟨vl0_v hV.facts.1 hs, fun p p0 p1 => ?_⟩
 ·exact key.2
 ·have hr := setP_mem (hV.op i hi).1.2.1 hp
  refine ⟨vlP_v hV hc gm_cmb x y i p hx.1 hy.1 hi hp, fun q q0 q1 => ?_⟩
  have hl := hy.1.l
  rw [nth_sI hr.1 (by omega) q0 (by omega)]
  split
  ·rename_i hqp
   subst hqp
   have hg := gm_cmb x _ hx.1 (hV.op i hi).1.1
   exact hf.2.2 i hi q hp _ hg.1 hg.2 fun r hrm => by
    have hrr := setP_mem (hV.op i hi).1.1 hrm
    exact Int.le_trans (hx.2 r hrr.1 hrr.2) (gm_ge hrm)
  ·exact hy.2 q q0 q1
 ·rw [vl0_at hV.facts.1 hs p0 p1]
  split
  ·rename_i hm; exact hf.1 p hm
  ·exact hf.2.1 p p0 p1
structure HmP (t : Tsk) (s cs v : List Int) : Prop where
 vp : VlP t.facts v
 s : ∀ p, p ∈ s → nth v p = 0
 fix : ∀ i : Nat, i < t.ops.length → ∀ p, p ∈ (nth t.ops i).add → nth v p ≤ plusI (gmF v (nth t.ops i).pre) (nth cs i)
theorem hm_p (hV : TskV t) (hc : CsV t cs) (hs : ∀ p, p ∈ s → 0 ≤ p ∧ p < t.facts) : HmP t s cs (vlW t s cs gmF) := by
 have hr := vlW_ok hV hc gm_cmb hs
 have hv := hr.vv hV hc gm_cmb (vl0_v hV.facts.1 hs)
 refine ⟨hv, fun p hp => ?_, hr.fix⟩
 have hps := hs p hp
 have key := hr.keep (I := fun y => VlP t.facts y ∧ nth y p = 0) (fun x y i q hx hy hi hq hlt => by
  have hqr := setP_mem (hV.op i hi).1.2.1 hq
  have hl := hy.1.l
  refine ⟨vlP_v hV hc gm_cmb x y i q hx.1 hy.1 hi hq, ?_⟩
  rw [nth_sI hqr.1 (by omega) hps.1 (by omega)]
  split
  ·rename_i hpq
   subst hpq
   have := (vlV_in hV hc gm_cmb hx.1 hi).1
   rw [hy.2] at hlt; omega
  ·exact hy.2) ⟨vl0_v hV.facts.1 hs, by rw [vl0_at hV.facts.1 hs hps.1 hps.2, if_pos hp]⟩
 exact key.2
end
end Go.Eng
end

section
namespace Go.Eng
def hdT (n : Int) (u f : List Int) : Nat → Int
 | 0 => n
 | k + 1 => if hdT n u f k = n ∨ nth u (hdT n u f k) < nth u (nth f k) then nth f k else hdT n u f k
def hdF (n : Int) (u f : List Int) : Int := hdT n u f f.length
theorem hdT_spec {n : Int} {u f : List Int} (hf : ∀ k : Nat, k < f.length → 0 ≤ nth f k ∧ nth f k < n) : ∀ {k : Nat}, k ≤ f.length → (k = 0 ∧ hdT n u f k = n) ∨ (0 < k ∧ hdT n u f k ∈ f ∧ ∀ i : Nat, i < k → nth u (nth f i) ≤ nth u (hdT n u f k))
 | 0, _ => .inl ⟨rfl, rfl⟩
 | k + 1, hk => by
  have ih := hdT_spec (u := u) hf (k := k) (by omega)
  have hfk := hf k (by omega)
  have hmk : nth f k ∈ f := nth_mem (by omega) (by omega)
  refine .inr ⟨by omega, ?_⟩
  simp only [hdT]
  rcases ih with ⟨h1, h2⟩ | ⟨h1, h2, h3⟩
  ·rw [if_pos (.inl h2)]
   refine ⟨hmk, fun i hi => ?_⟩
   obtain rfl : i = k := by omega
   exact Int.le_refl _
  ·have hne : hdT n u f k ≠ n := fun e => by
    obtain ⟨i, hi, he⟩ := List.getElem_of_mem h2
    have := hf i hi
    rw [nth_eq hi, he] at this; omega
   by_cases hlt : nth u (hdT n u f k) < nth u (nth f k)
   ·rw [if_pos (.inr hlt)]
    refine ⟨hmk, fun i hi => ?_⟩
    by_cases hik : i = k
    ·subst hik; exact Int.le_refl _
    ·have := h3 i (by omega); omega
   ·rw [if_neg (fun h => h.elim hne hlt)]
    refine ⟨h2, fun i hi => ?_⟩
    by_cases hik : i = k
    ·subst hik; omega
    ·exact h3 i (by omega)
theorem hdT_in {n : Int} {u f : List Int} (hf : ∀ k : Nat, k < f.length → 0 ≤ nth f k ∧ nth f k < n) (hn : 0 ≤ n) {k : Nat} (hk : k ≤ f.length) : 0 ≤ hdT n u f k ∧ hdT n u f k ≤ n := by
 rcases hdT_spec (u := u) hf hk with ⟨_, h⟩ | ⟨_, h, _⟩
 ·rw [h]; omega
 ·obtain ⟨i, hi, he⟩ := List.getElem_of_mem h
  have := hf i hi
  rw [nth_eq hi, he] at this; omega
theorem hd_spec {n : Int} {u f : List Int} (hf : SetP n f) : (f = [] ∧ hdF n u f = n) ∨ (hdF n u f ∈ f ∧ ∀ q, q ∈ f → nth u q ≤ nth u (hdF n u f)) := by
 rcases hdT_spec (u := u) (set_rng hf) (Nat.le_refl _) with ⟨h1, h2⟩ | ⟨_, h2, h3⟩
 ·exact .inl ⟨List.eq_nil_of_length_eq_zero h1, h2⟩
 ·refine .inr ⟨h2, fun q hq => ?_⟩
  obtain ⟨i, hi, rfl⟩ := List.getElem_of_mem hq
  have := h3 i hi
  rw [nth_eq hi] at this; exact this
abbrev exV (v : List Int) : List Int := v ++ [0]
theorem exV_at {n : Int} {v : List Int} (hl : (v.length : Int) = n) {p : Int} (p0 : 0 ≤ p) (p1 : p < n) : nth (exV v) p = nth v p := by
 obtain ⟨i, rfl⟩ := Int.eq_ofNat_of_zero_le p0
 exact nth_app1 (by omega)
theorem exV_n {n : Int} {v : List Int} (hl : (v.length : Int) = n) : nth (exV v) n = 0 := by rw [← hl]; exact nth_app2
def znA (fr : Int) (add : List Int) (x : List Bool × Bool) : Nat → List Bool × Bool
 | 0 => x
 | j + 1 => if nth (znA fr add x j).1 (nth add j) = true then ((znA fr add x j).1.set fr.toNat true, true) else znA fr add x j
def znO (t : Tsk) (cs u : List Int) (x : List Bool × Bool) (i : Nat) : List Bool × Bool :=
 if 0 < nth cs i ∨ nth x.1 (hdF t.facts u (nth t.ops i).pre) = true then x else znA (hdF t.facts u (nth t.ops i).pre) (nth t.ops i).add x (nth t.ops i).add.length
def znP (t : Tsk) (cs u : List Int) (z : List Bool) : Nat → List Bool × Bool
 | 0 => (z, false)
 | i + 1 => znO t cs u (znP t cs u z i) i
def bfA (add : List Int) (z : List Bool) (x : List Bool × Bool) : Nat → List Bool × Bool
 | 0 => x
 | j + 1 => if nth (bfA add z x j).1 (nth add j) = false ∧ nth z (nth add j) = false then ((bfA add z x j).1.set (nth add j).toNat true, true) else bfA add z x j
def bfO (t : Tsk) (u : List Int) (z : List Bool) (x : List Bool × Bool) (i : Nat) : List Bool × Bool :=
 if nth x.1 (hdF t.facts u (nth t.ops i).pre) = false then x else bfA (nth t.ops i).add z x (nth t.ops i).add.length
def bfP (t : Tsk) (u : List Int) (z : List Bool) (b : List Bool) : Nat → List Bool × Bool
 | 0 => (b, false)
 | i + 1 => bfO t u z (bfP t u z b i) i
inductive PsR (ps : List Bool → List Bool × Bool) : List Bool → List Bool → Prop
 | done {v : List Bool} : (ps v).2 = false → PsR ps v (ps v).1
 | step {v w : List Bool} : (ps v).2 = true → PsR ps (ps v).1 w → PsR ps v w
def cntF (v : List Bool) : Nat := v.countP fun b => !b
theorem cntF_set {v : List Bool} {p : Int} (p0 : 0 ≤ p) (p1 : p < v.length) (h : nth v p = false) : cntF (v.set p.toNat true) + 1 = cntF v := by
 obtain ⟨k, rfl⟩ := Int.eq_ofNat_of_zero_le p0
 have hk : k < v.length := by omega
 rw [nth_eq hk] at h
 rw [Int.toNat_natCast]
 unfold cntF
 induction v generalizing k with
 | nil => simp at hk
 | cons a v ih =>
  cases k with
  | zero => simp at h; subst h; simp
  | succ k =>
   have := ih k (by simp at hk; omega) (by simp at hk; omega) (by simp at hk; omega) (by simpa using h)
   simp only [List.set_cons_succ, List.countP_cons]
   omega
theorem nth_sB {l : List Bool} {p q : Int} {v : Bool} (h0 : 0 ≤ p) (h1 : p < l.length) (h2 : 0 ≤ q) (h3 : q < l.length) : nth (l.set p.toNat v) q = if q = p then v else nth l q := by
 rw [nth_set h2 h3]
 by_cases h : q = p
 ·rw [if_pos (by omega), if_pos h]
 ·rw [if_neg (by omega), if_neg h]
structure PsP (n : Nat) (x y : List Bool × Bool) : Prop where
 l : x.1.length = n → y.1.length = n
 d : y = x ∨ (y.2 = true ∧ cntF y.1 < cntF x.1)
theorem PsP.refl {n : Nat} {x : List Bool × Bool} : PsP n x x := ⟨id, .inl rfl⟩
theorem PsP.trans {n : Nat} {x y z : List Bool × Bool} (h : PsP n x y) (k : PsP n y z) : PsP n x z := ⟨fun e => k.l (h.l e), by
 rcases k.d with k1 | ⟨k1, k2⟩
 ·rw [k1]; exact h.d
 ·rcases h.d with h1 | ⟨_, h2⟩
  ·rw [h1] at k2; exact .inr ⟨k1, k2⟩
  ·exact .inr ⟨k1, by omega⟩⟩
theorem PsP.set {n : Nat} {x : List Bool × Bool} (hl : x.1.length = n) {p : Int} (p0 : 0 ≤ p) (p1 : p < n) (h : nth x.1 p = false) : PsP n x (x.1.set p.toNat true, true) := ⟨fun e => by simpa using e, .inr ⟨rfl, by have := cntF_set (v := x.1) p0 (by omega) h; show cntF (x.1.set _ true) < _; omega⟩⟩
theorem ps_ends {ps : List Bool → List Bool × Bool} {n : Nat} (h : ∀ v, v.length = n → PsP n (v, false) (ps v)) : ∀ (d : Nat) {v : List Bool}, v.length = n → cntF v < d → ∃ w, PsR ps v w
 | 0, _, _, hd => by omega
 | d + 1, v, hl, hd => by
  have hp := h v hl
  cases hb : (ps v).2 with
  | false => exact ⟨_, .done hb⟩
  | true =>
   rcases hp.d with e | ⟨_, e⟩
   ·rw [e] at hb; cases hb
   ·obtain ⟨w, hw⟩ := ps_ends h d (v := (ps v).1) (hp.l hl) (by have e : cntF (ps v).1 < cntF v := e; omega)
    exact ⟨w, .step hb hw⟩
theorem PsR.keep {ps : List Bool → List Bool × Bool} {I : List Bool → Prop} (h : ∀ v, I v → I (ps v).1) {v w : List Bool} (hr : PsR ps v w) (hv : I v) : I w := by
 induction hr with
 | done _ => exact h _ hv
 | step _ _ ih => exact ih (h _ hv)
theorem PsR.fix {ps : List Bool → List Bool × Bool} (hp : ∀ v, (ps v).2 = false → ps v = (v, false)) {v w : List Bool} (hr : PsR ps v w) : ps w = (w, false) := by
 induction hr with
 | @done v h => have := hp v h; rw [this]; exact this
 | step _ _ ih => exact ih
theorem PsR.inv {ps : List Bool → List Bool × Bool} {v w : List Bool} (h : PsR ps v w) : ((ps v).2 = true → PsR ps (ps v).1 w) ∧ ((ps v).2 = false → (ps v).1 = w) := by
 cases h with
 | done h => exact ⟨fun h2 => (by rw [h] at h2; cases h2), fun _ => rfl⟩
 | step h hr => exact ⟨fun _ => hr, fun h2 => (by rw [h] at h2; cases h2)⟩
def ps_mu (x : List Bool × Bool) : Nat := 2 * cntF x.1 + (if x.2 = true then 1 else 0)
theorem ps_lt {ps : List Bool → List Bool × Bool} {n : Nat} (h : ∀ v, v.length = n → PsP n (v, false) (ps v)) {x : List Bool × Bool} (hl : x.1.length = n) (hx : x.2 = true) : ps_mu (ps x.1) < ps_mu x := by
 unfold ps_mu
 rw [if_pos hx]
 rcases (h x.1 hl).d with e | ⟨e, e2⟩
 ·rw [e]; simp
 ·rw [if_pos e]
  have e2 : cntF (ps x.1).1 < cntF x.1 := e2
  omega
noncomputable def psW (ps : List Bool → List Bool × Bool) (v : List Bool) : List Bool := open Classical in if h : ∃ w, PsR ps v w then h.choose else []
theorem psW_ok {ps : List Bool → List Bool × Bool} {n : Nat} (h : ∀ v, v.length = n → PsP n (v, false) (ps v)) {v : List Bool} (hl : v.length = n) : PsR ps v (psW ps v) := by
 have he : ∃ w, PsR ps v w := ps_ends h _ hl (Nat.lt_succ_self _)
 unfold psW
 rw [dif_pos he]
 exact he.choose_spec
end Go.Eng
end

section
namespace Go.Eng
def cssT (t : Tsk) (k : Nat) : List Int := (List.range k).map fun (i : Nat) => (nth t.ops i).cost
def cssF (t : Tsk) : List Int := cssT t t.ops.length
theorem cssT_s {t : Tsk} {k : Nat} : cssT t (k + 1) = cssT t k ++ [(nth t.ops k).cost] := by simp [cssT, List.range_succ]
theorem cssT_len {t : Tsk} {k : Nat} : (cssT t k).length = k := by simp [cssT]
theorem css_at {t : Tsk} {i : Nat} (hi : i < t.ops.length) : nth (cssF t) i = (nth t.ops i).cost := by unfold cssF cssT; rw [nth_rangeMap hi]
theorem css_v {t : Tsk} (hV : TskV t) : CsV t (cssF t) := ⟨cssT_len, fun i hi => by rw [css_at hi]; exact (hV.op i hi).2⟩
def sttF (t : Tsk) (s : List Int) : Int × Int := if tskF t ≠ (0, 0) then tskF t else if SetP t.facts s then (0, 0) else (5, -4)
section
variable {t : Tsk} {s : List Int} {cmb : Cmb}
theorem sttF_1 (h : tskF t ≠ (0, 0)) : tskF t = sttF t s := by unfold sttF; rw [if_pos h]
theorem sttF_2 (h : tskF t = (0, 0)) (h2 : ¬ SetP t.facts s) : (5, -4) = sttF t s := by unfold sttF; rw [if_neg (fun hn => hn h), if_neg h2]
theorem sttF_0 (h : tskF t = (0, 0)) (h2 : SetP t.facts s) : (0, 0) = sttF t s := by unfold sttF; rw [if_neg (fun hn => hn h), if_pos h2]
theorem sttF_ok (h : sttF t s = (0, 0)) : TskV t ∧ SetP t.facts s := by
 by_cases h1 : tskF t = (0, 0)
 ·by_cases h2 : SetP t.facts s
  ·exact ⟨tskF_v h1, h2⟩
  ·rw [← sttF_2 h1 h2] at h; simp at h
 ·rw [← sttF_1 h1] at h; exact absurd h h1
end
def inT (n k : Nat) : List Int := (List.range n).map fun (i : Nat) => if i < k then 1000000000 else 0
theorem inT_len {n k : Nat} : (inT n k).length = n := by simp [inT]
theorem inT_0 {n : Nat} : inT n 0 = List.replicate n 0 := by
 apply List.ext_getElem (by simp [inT])
 intro i h1 h2; simp [inT]
theorem inT_s {n k : Nat} (hk : k < n) : (inT n k).set k 1000000000 = inT n (k + 1) := by
 apply List.ext_getElem (by simp [inT])
 intro i h1 h2
 rw [List.getElem_set]
 simp only [inT, List.getElem_map, List.getElem_range]
 by_cases h : k = i
 ·subst h; simp
 ·rw [if_neg h]
  by_cases h3 : i < k
  ·rw [if_pos h3, if_pos (by omega)]
  ·rw [if_neg h3, if_neg (by omega)]
theorem inT_end {n : Nat} : inT n n = List.replicate n 1000000000 := by
 apply List.ext_getElem (by simp [inT])
 intro i h1 h2
 simp only [inT, List.length_map, List.length_range] at h1
 simp [inT, h1]
end Go.Eng
end

section
namespace Go.Eng
section
variable {t : Tsk} {s cs u v : List Int} {z b : List Bool}
abbrev nF (t : Tsk) : Nat := t.facts.toNat + 1
theorem hd_in (hV : TskV t) {f : List Int} (hf : SetP t.facts f) : 0 ≤ hdF t.facts u f ∧ hdF t.facts u f ≤ t.facts := hdT_in (set_rng hf) hV.facts.1 (Nat.le_refl _)
theorem znA_p {n : Nat} {fr : Int} {add : List Int} (f0 : 0 ≤ fr) (f1 : fr < n) {x : List Bool × Bool} (hl : x.1.length = n) (hx : nth x.1 fr = false) : ∀ {j : Nat}, (znA fr add x j = x ∨ znA fr add x j = (x.1.set fr.toNat true, true))
 | 0 => .inl rfl
 | j + 1 => by
  have ih := znA_p (add := add) f0 f1 hl hx (j := j)
  simp only [znA]
  split
  ·rcases ih with ih | ih
   ·rw [ih]; exact .inr rfl
   ·rw [ih]; exact .inr (by simp [List.set_set])
  ·exact ih
theorem znO_p (hV : TskV t) {x : List Bool × Bool} {i : Nat} (hi : i < t.ops.length) (hl : x.1.length = nF t) : PsP (nF t) x (znO t cs u x i) := by
 have hh := hd_in (u := u) hV (hV.op i hi).1.1
 unfold znO
 split
 ·exact .refl
 ·rename_i hc
  have hx : nth x.1 (hdF t.facts u (nth t.ops i).pre) = false := by
   cases h : nth x.1 (hdF t.facts u (nth t.ops i).pre) with
   | false => rfl
   | true => exact absurd (.inr h) hc
  have hf := hV.facts
  rcases znA_p (add := (nth t.ops i).add) (n := nF t) hh.1 (by unfold nF; omega) hl hx (j := (nth t.ops i).add.length) with e | e
  ·rw [e]; exact .refl
  ·rw [e]; exact .set hl hh.1 (by unfold nF; omega) hx
theorem znP_p (hV : TskV t) (hl : z.length = nF t) : ∀ {i : Nat}, i ≤ t.ops.length → (znP t cs u z i).1.length = nF t ∧ PsP (nF t) (z, false) (znP t cs u z i)
 | 0, _ => ⟨hl, .refl⟩
 | i + 1, hi => by
  obtain ⟨h1, h2⟩ := znP_p hV hl (i := i) (by omega)
  have h3 := znO_p (cs := cs) (u := u) hV (x := znP t cs u z i) (i := i) (by omega) h1
  exact ⟨h3.l h1, h2.trans h3⟩
theorem znA_flag {fr : Int} {add : List Int} {x : List Bool × Bool} : ∀ {j : Nat}, (znA fr add x j).2 = false → znA fr add x j = x ∧ ∀ k : Nat, k < j → nth x.1 (nth add k) = false
 | 0, _ => ⟨rfl, fun k hk => by omega⟩
 | j + 1, h => by
  simp only [znA] at h ⊢
  split at h
  ·simp at h
  ·rename_i hn
   obtain ⟨h1, h2⟩ := znA_flag h
   rw [if_neg hn]
   refine ⟨h1, fun k hk => ?_⟩
   by_cases hkj : k = j
   ·subst hkj; rw [h1] at hn; simpa using hn
   ·exact h2 k (by omega)
theorem znP_flag : ∀ {i : Nat}, (znP t cs u z i).2 = false → znP t cs u z i = (z, false) ∧ ∀ k : Nat, k < i → nth cs k ≤ 0 → ∀ p, p ∈ (nth t.ops k).add → nth z p = true → nth z (hdF t.facts u (nth t.ops k).pre) = true
 | 0, _ => ⟨rfl, fun k hk => by omega⟩
 | i + 1, h => by
  have h : (znO t cs u (znP t cs u z i) i).2 = false := h
  show znO t cs u (znP t cs u z i) i = _ ∧ _
  unfold znO at h ⊢
  split at h
  ·rename_i hc
   obtain ⟨h1, h2⟩ := znP_flag h
   rw [if_pos hc]
   refine ⟨h1, fun k hk hc0 p hp hz => ?_⟩
   by_cases hki : k = i
   ·subst hki
    rw [h1] at hc
    exact hc.resolve_left (by omega)
   ·exact h2 k (by omega) hc0 p hp hz
  ·rename_i hc
   obtain ⟨h3, h4⟩ := znA_flag h
   have h5 : (znP t cs u z i).2 = false := by rw [← h3]; exact h
   obtain ⟨h1, h2⟩ := znP_flag h5
   rw [if_neg hc]
   refine ⟨h3.trans h1, fun k hk hc0 p hp hz => ?_⟩
   by_cases hki : k = i
   ·subst hki
    obtain ⟨j, hj, rfl⟩ := List.getElem_of_mem hp
    have := h4 j hj
    rw [h1, nth_eq hj] at this
    rw [hz] at this; cases this
   ·exact h2 k (by omega) hc0 p hp hz
def zn0 (t : Tsk) (u : List Int) : List Bool := (List.replicate (nF t) false).set (hdF t.facts u t.goal).toNat true
noncomputable def znW (t : Tsk) (cs u : List Int) : List Bool := psW (fun z => znP t cs u z t.ops.length) (zn0 t u)
theorem znW_ok (hV : TskV t) : PsR (fun z => znP t cs u z t.ops.length) (zn0 t u) (znW t cs u) := psW_ok (n := nF t) (fun z hz => (znP_p hV hz (Nat.le_refl _)).2) (by simp [zn0])
structure ZnP (t : Tsk) (cs u : List Int) (z : List Bool) : Prop where
 l : z.length = nF t
 g : nth z (hdF t.facts u t.goal) = true
 c : ∀ i : Nat, i < t.ops.length → nth cs i ≤ 0 → ∀ p, p ∈ (nth t.ops i).add → nth z p = true → nth z (hdF t.facts u (nth t.ops i).pre) = true
 i : ∀ I : Int → Prop, I (hdF t.facts u t.goal) → (∀ i : Nat, i < t.ops.length → nth cs i ≤ 0 → ∀ p, p ∈ (nth t.ops i).add → I p → I (hdF t.facts u (nth t.ops i).pre)) → ∀ q : Int, 0 ≤ q → q ≤ t.facts → nth z q = true → I q
theorem zn0_at (hV : TskV t) {q : Int} (q0 : 0 ≤ q) (q1 : q ≤ t.facts) : nth (zn0 t u) q = decide (q = hdF t.facts u t.goal) := by
 have hh := hd_in (u := u) hV hV.goal
 have hf := hV.facts
 unfold zn0
 rw [nth_sB hh.1 (by simp; omega) q0 (by simp; omega)]
 split
 ·rename_i h; rw [decide_eq_true h]
 ·rename_i h
  rw [decide_eq_false h]
  obtain ⟨k, rfl⟩ := Int.eq_ofNat_of_zero_le q0
  rw [nth_eq (by rw [List.length_replicate]; show k < t.facts.toNat + 1; omega), List.getElem_replicate]
theorem zn_p (hV : TskV t) : ZnP t cs u (znW t cs u) := by
 have hr := znW_ok (cs := cs) (u := u) hV
 have hf := hV.facts
 have hh := hd_in (u := u) hV hV.goal
 have hfix := hr.fix (fun z h => (znP_flag h).1)
 have hlen : (znW t cs u).length = nF t := hr.keep (I := fun z => z.length = nF t) (fun z hz => (znP_p hV hz (Nat.le_refl _)).1) (by simp [zn0])
 have hkeep : ∀ J : List Bool → Prop, (∀ y (i : Nat) p, J y → y.length = nF t → i < t.ops.length → nth cs i ≤ 0 → p ∈ (nth t.ops i).add → nth y p = true → J (y.set (hdF t.facts u (nth t.ops i).pre).toNat true)) → J (zn0 t u) → J (znW t cs u) := fun J hJ h0 => by
  have key := hr.keep (I := fun z => z.length = nF t ∧ J z) (fun z hz => ?_) ⟨by simp [zn0], h0⟩
  ·exact key.2
  ·have : ∀ i : Nat, i ≤ t.ops.length → (znP t cs u z i).1.length = nF t ∧ J (znP t cs u z i).1 := fun i => by
    induction i with
    | zero => exact fun _ => hz
    | succ i ih =>
     intro hi
     obtain ⟨g1, g2⟩ := ih (by omega)
     refine ⟨(znP_p hV hz.1 hi).1, ?_⟩
     show J (znO t cs u (znP t cs u z i) i).1
     unfold znO
     split
     ·exact g2
     ·rename_i hc
      have hc0 : nth cs i ≤ 0 := Int.not_lt.1 fun h => hc (.inl h)
      have : ∀ j : Nat, j ≤ (nth t.ops i).add.length → (znA (hdF t.facts u (nth t.ops i).pre) (nth t.ops i).add (znP t cs u z i) j).1.length = nF t ∧ J (znA (hdF t.facts u (nth t.ops i).pre) (nth t.ops i).add (znP t cs u z i) j).1 := fun j => by
       induction j with
       | zero => exact fun _ => ⟨g1, g2⟩
       | succ j ihj =>
        intro hj
        obtain ⟨k1, k2⟩ := ihj (by omega)
        simp only [znA]
        split
        ·rename_i hz
         exact ⟨by simpa using k1, hJ _ i _ k2 k1 (by omega) hc0 (nth_mem (l := (nth t.ops i).add) (n := (j : Int)) (by omega) (by omega)) hz⟩
        ·exact ⟨k1, k2⟩
      exact (this _ (Nat.le_refl _)).2
   exact this _ (Nat.le_refl _)
 refine ⟨hlen, ?_, ?_, fun I h0 hI => ?_⟩
 ·refine hkeep (fun y => nth y (hdF t.facts u t.goal) = true) (fun y i p hy hl hi _ _ _ => ?_) (by rw [zn0_at hV hh.1 hh.2]; simp)
  have hp := hd_in (u := u) hV (hV.op i hi).1.1
  rw [nth_sB hp.1 (by rw [hl]; unfold nF; omega) hh.1 (by rw [hl]; unfold nF; omega)]
  split
  ·rfl
  ·exact hy
 ·have h := (znP_flag (t := t) (cs := cs) (u := u) (z := znW t cs u) (i := t.ops.length) (by rw [hfix])).2
  exact h
 ·refine hkeep (fun y => ∀ q : Int, 0 ≤ q → q ≤ t.facts → nth y q = true → I q) (fun y i p hy hl hi hc0 hp hyp q q0 q1 hq => ?_) (fun q q0 q1 hq => ?_)
  ·have hpr := hd_in (u := u) hV (hV.op i hi).1.1
   rw [nth_sB hpr.1 (by rw [hl]; unfold nF; omega) q0 (by rw [hl]; unfold nF; omega)] at hq
   split at hq
   ·rename_i hqe
    have hpf := setP_mem (hV.op i hi).1.2.1 hp
    rw [hqe]
    exact hI i hi hc0 p hp (hy p hpf.1 (by omega) hyp)
   ·exact hy q q0 q1 hq
  ·rw [zn0_at hV q0 q1] at hq
   rw [of_decide_eq_true hq]; exact h0
end
end Go.Eng
end

section
namespace Go.Eng
section
variable {t : Tsk} {s cs u v : List Int} {z b : List Bool}
theorem nF_eq (t : Tsk) : nF t = t.facts.toNat + 1 := rfl
theorem bfA_p {n : Nat} {add : List Int} (ha : ∀ p, p ∈ add → 0 ≤ p ∧ p < n) {x : List Bool × Bool} (hl : x.1.length = n) : ∀ {j : Nat}, j ≤ add.length → (bfA add z x j).1.length = n ∧ PsP n x (bfA add z x j)
 | 0, _ => ⟨hl, .refl⟩
 | j + 1, hj => by
  obtain ⟨h1, h2⟩ := bfA_p ha hl (j := j) (by omega)
  simp only [bfA]
  split
  ·rename_i hc
   have hp := ha _ (nth_mem (l := add) (n := (j : Int)) (by omega) (by omega))
   exact ⟨by simpa using h1, h2.trans (.set h1 hp.1 hp.2 hc.1)⟩
  ·exact ⟨h1, h2⟩
theorem bf_add (hV : TskV t) {i : Nat} (hi : i < t.ops.length) : ∀ p, p ∈ (nth t.ops i).add → 0 ≤ p ∧ p < nF t := fun p hp => by
 have := setP_mem (hV.op i hi).1.2.1 hp
 have := hV.facts
 rw [nF_eq]; omega
theorem bfO_p (hV : TskV t) {x : List Bool × Bool} {i : Nat} (hi : i < t.ops.length) (hl : x.1.length = nF t) : (bfO t u z x i).1.length = nF t ∧ PsP (nF t) x (bfO t u z x i) := by
 unfold bfO
 split
 ·exact ⟨hl, .refl⟩
 ·exact bfA_p (bf_add hV hi) hl (Nat.le_refl _)
theorem bfP_p (hV : TskV t) (hl : b.length = nF t) : ∀ {i : Nat}, i ≤ t.ops.length → (bfP t u z b i).1.length = nF t ∧ PsP (nF t) (b, false) (bfP t u z b i)
 | 0, _ => ⟨hl, .refl⟩
 | i + 1, hi => by
  obtain ⟨h1, h2⟩ := bfP_p hV hl (i := i) (by omega)
  have h3 := bfO_p (u := u) (z := z) hV (x := bfP t u z b i) (i := i) (by omega) h1
  exact ⟨h3.1, h2.trans h3.2⟩
theorem bfA_flag {add : List Int} {x : List Bool × Bool} : ∀ {j : Nat}, (bfA add z x j).2 = false → bfA add z x j = x ∧ ∀ k : Nat, k < j → ¬ (nth x.1 (nth add k) = false ∧ nth z (nth add k) = false)
 | 0, _ => ⟨rfl, fun k hk => by omega⟩
 | j + 1, h => by
  simp only [bfA] at h ⊢
  split at h
  ·simp at h
  ·rename_i hn
   obtain ⟨h1, h2⟩ := bfA_flag h
   rw [if_neg hn]
   refine ⟨h1, fun k hk => ?_⟩
   by_cases hkj : k = j
   ·subst hkj; rw [h1] at hn; exact hn
   ·exact h2 k (by omega)
theorem bfP_flag : ∀ {i : Nat}, (bfP t u z b i).2 = false → bfP t u z b i = (b, false) ∧ ∀ k : Nat, k < i → nth b (hdF t.facts u (nth t.ops k).pre) = true → ∀ p, p ∈ (nth t.ops k).add → nth z p = false → nth b p = true
 | 0, _ => ⟨rfl, fun k hk => by omega⟩
 | i + 1, h => by
  have h : (bfO t u z (bfP t u z b i) i).2 = false := h
  show bfO t u z (bfP t u z b i) i = _ ∧ _
  unfold bfO at h ⊢
  split at h
  ·rename_i hc
   obtain ⟨h1, h2⟩ := bfP_flag h
   rw [if_pos hc]
   refine ⟨h1, fun k hk hb p hp hz => ?_⟩
   by_cases hki : k = i
   ·subst hki
    rw [h1] at hc
    rw [hb] at hc; cases hc
   ·exact h2 k (by omega) hb p hp hz
  ·rename_i hc
   obtain ⟨h3, h4⟩ := bfA_flag h
   have h5 : (bfP t u z b i).2 = false := by rw [← h3]; exact h
   obtain ⟨h1, h2⟩ := bfP_flag h5
   rw [if_neg hc]
   refine ⟨h3.trans h1, fun k hk hb p hp hz => ?_⟩
   by_cases hki : k = i
   ·subst hki
    obtain ⟨j, hj, rfl⟩ := List.getElem_of_mem hp
    have := h4 j hj
    rw [h1, nth_eq hj] at this
    cases hbp : nth b (nth t.ops k).add[j] with
    | true => rfl
    | false => exact absurd ⟨hbp, hz⟩ this
   ·exact h2 k (by omega) hb p hp hz
def bfI (t : Tsk) (s : List Int) : Nat → List Bool
 | 0 => (List.replicate (nF t) false).set t.facts.toNat true
 | k + 1 => (bfI t s k).set (nth s k).toNat true
def bf0 (t : Tsk) (s : List Int) : List Bool := bfI t s s.length
theorem bfI_at (hV : TskV t) (hs : ∀ p, p ∈ s → 0 ≤ p ∧ p < t.facts) : ∀ {k : Nat}, k ≤ s.length → (bfI t s k).length = nF t ∧ ∀ q : Int, 0 ≤ q → q ≤ t.facts → nth (bfI t s k) q = decide (q = t.facts ∨ q ∈ s.take k)
 | 0, _ => by
  have hf := hV.facts
  refine ⟨by simp [bfI], fun q q0 q1 => ?_⟩
  unfold bfI
  rw [nth_sB hf.1 (by rw [List.length_replicate, nF_eq]; omega) q0 (by rw [List.length_replicate, nF_eq]; omega)]
  by_cases h : q = t.facts
  ·rw [if_pos h, decide_eq_true (.inl h)]
  ·rw [if_neg h, decide_eq_false (by simp [h])]
   obtain ⟨k, rfl⟩ := Int.eq_ofNat_of_zero_le q0
   rw [nth_eq (by rw [List.length_replicate, nF_eq]; omega), List.getElem_replicate]
 | k + 1, hk => by
  obtain ⟨h1, h2⟩ := bfI_at hV hs (k := k) (by omega)
  have hf := hV.facts
  have hp := hs (nth s k) (nth_mem (by omega) (by omega))
  refine ⟨by simpa [bfI] using h1, fun q q0 q1 => ?_⟩
  show nth ((bfI t s k).set (nth s k).toNat true) q = _
  rw [nth_sB hp.1 (by rw [h1, nF_eq]; omega) q0 (by rw [h1, nF_eq]; omega), h2 q q0 q1, tk_s (by omega)]
  by_cases h : q = nth s k
  ·rw [if_pos h]; symm; exact decide_eq_true (.inr (by rw [h]; simp))
  ·rw [if_neg h]; congr 1; simp [h]
theorem bf0_at (hV : TskV t) (hs : ∀ p, p ∈ s → 0 ≤ p ∧ p < t.facts) : (bf0 t s).length = nF t ∧ ∀ q : Int, 0 ≤ q → q ≤ t.facts → nth (bf0 t s) q = decide (q = t.facts ∨ q ∈ s) := by
 have h := bfI_at hV hs (Nat.le_refl _)
 rw [List.take_length] at h
 exact h
noncomputable def bfW (t : Tsk) (s u : List Int) (z : List Bool) : List Bool := psW (fun b => bfP t u z b t.ops.length) (bf0 t s)
theorem bfW_ok (hV : TskV t) (hs : ∀ p, p ∈ s → 0 ≤ p ∧ p < t.facts) : PsR (fun b => bfP t u z b t.ops.length) (bf0 t s) (bfW t s u z) := psW_ok (n := nF t) (fun b hb => (bfP_p hV hb (Nat.le_refl _)).2) (bf0_at hV hs).1
structure BfP (t : Tsk) (s u : List Int) (z b : List Bool) : Prop where
 l : b.length = nF t
 n : nth b t.facts = true
 st : ∀ p, p ∈ s → nth b p = true
 c : ∀ i : Nat, i < t.ops.length → nth b (hdF t.facts u (nth t.ops i).pre) = true → ∀ p, p ∈ (nth t.ops i).add → nth z p = false → nth b p = true
 i : (∀ q : Int, 0 ≤ q → q ≤ t.facts → q = t.facts ∨ q ∈ s → nth z q = false) → ∀ q : Int, 0 ≤ q → q ≤ t.facts → nth b q = true → nth z q = false
theorem bf_p (hV : TskV t) (hs : ∀ p, p ∈ s → 0 ≤ p ∧ p < t.facts) : BfP t s u z (bfW t s u z) := by
 have hr := bfW_ok (u := u) (z := z) hV hs
 have hf := hV.facts
 obtain ⟨hl0, ha0⟩ := bf0_at hV hs
 have hfix := hr.fix (fun b h => (bfP_flag h).1)
 have hlen : (bfW t s u z).length = nF t := hr.keep (I := fun b => b.length = nF t) (fun b hb => (bfP_p hV hb (Nat.le_refl _)).1) hl0
 have hkeep : ∀ J : List Bool → Prop, (∀ y (p : Int), J y → y.length = nF t → 0 ≤ p → p < nF t → nth z p = false → J (y.set (Int.toNat p) true)) → J (bf0 t s) → J (bfW t s u z) := fun J hJ h0 => by
  have key := hr.keep (I := fun b => b.length = nF t ∧ J b) (fun b hb => ?_) ⟨hl0, h0⟩
  ·exact key.2
  ·have : ∀ i : Nat, i ≤ t.ops.length → (bfP t u z b i).1.length = nF t ∧ J (bfP t u z b i).1 := fun i => by
    induction i with
    | zero => exact fun _ => hb
    | succ i ih =>
     intro hi
     obtain ⟨g1, g2⟩ := ih (by omega)
     refine ⟨(bfP_p hV hb.1 hi).1, ?_⟩
     show J (bfO t u z (bfP t u z b i) i).1
     unfold bfO
     split
     ·exact g2
     ·have : ∀ j : Nat, j ≤ (nth t.ops i).add.length → (bfA (nth t.ops i).add z (bfP t u z b i) j).1.length = nF t ∧ J (bfA (nth t.ops i).add z (bfP t u z b i) j).1 := fun j => by
       induction j with
       | zero => exact fun _ => ⟨g1, g2⟩
       | succ j ihj =>
        intro hj
        obtain ⟨k1, k2⟩ := ihj (by omega)
        simp only [bfA]
        split
        ·rename_i hz
         have hp := bf_add hV (i := i) (by omega) _ (nth_mem (l := (nth t.ops i).add) (n := (j : Int)) (by omega) (by omega))
         exact ⟨by simpa using k1, hJ _ _ k2 k1 hp.1 hp.2 hz.2⟩
        ·exact ⟨k1, k2⟩
      exact (this _ (Nat.le_refl _)).2
   exact this _ (Nat.le_refl _)
 have hmono : ∀ q : Int, 0 ≤ q → q ≤ t.facts → nth (bf0 t s) q = true → nth (bfW t s u z) q = true := fun q q0 q1 hq => hkeep (fun y => nth y q = true) (fun y (p : Int) hy hl p0 p1 _ => by
  rw [nth_sB p0 (by omega) q0 (by rw [hl, nF_eq]; omega)]
  split
  ·rfl
  ·exact hy) hq
 refine ⟨hlen, hmono _ hf.1 (Int.le_refl _) (by rw [ha0 _ hf.1 (Int.le_refl _)]; simp), fun p hp => ?_, ?_, fun hz => ?_⟩
 ·have := hs p hp
  exact hmono p this.1 (by omega) (by rw [ha0 p this.1 (by omega)]; simp [hp])
 ·exact (bfP_flag (t := t) (u := u) (z := z) (b := bfW t s u z) (i := t.ops.length) (by rw [hfix])).2
 ·refine hkeep (fun y => ∀ q : Int, 0 ≤ q → q ≤ t.facts → nth y q = true → nth z q = false) (fun y p hy hl p0 p1 hzp q q0 q1 hq => ?_) (fun q q0 q1 hq => ?_)
  ·rw [nth_sB p0 (by omega) q0 (by rw [hl, nF_eq]; omega)] at hq
   split at hq
   ·rename_i e; rw [e]; exact hzp
   ·exact hy q q0 q1 hq
  ·rw [ha0 q q0 q1] at hq
   exact hz q q0 q1 (of_decide_eq_true hq)
def inCut (t : Tsk) (u : List Int) (z b : List Bool) (i : Nat) : Prop := nth b (hdF t.facts u (nth t.ops i).pre) = true ∧ ∃ p, p ∈ (nth t.ops i).add ∧ nth z p = true
instance {i : Nat} : Decidable (inCut t u z b i) := by unfold inCut; exact inferInstance
def cutT (t : Tsk) (cs u : List Int) (z b : List Bool) : Nat → List Int × Int
 | 0 => ([], 1000000000)
 | i + 1 => if inCut t u z b i then ((cutT t cs u z b i).1 ++ [(i : Int)], min (cutT t cs u z b i).2 (nth cs i)) else cutT t cs u z b i
def cutF (t : Tsk) (cs u : List Int) (z b : List Bool) : List Int × Int := cutT t cs u z b t.ops.length
theorem cutT_mem : ∀ {k : Nat} {x : Int}, x ∈ (cutT t cs u z b k).1 ↔ ∃ i : Nat, i < k ∧ inCut t u z b i ∧ x = i
 | 0, x => by simp [cutT]
 | k + 1, x => by
  have ih := cutT_mem (k := k) (x := x)
  simp only [cutT]
  split
  ·rename_i hc
   rw [List.mem_append, List.mem_singleton, ih]
   constructor
   ·rintro (⟨i, h1, h2⟩ | rfl)
    ·exact ⟨i, by omega, h2⟩
    ·exact ⟨k, by omega, hc, rfl⟩
   ·rintro ⟨i, h1, h2, h3⟩
    by_cases hik : i = k
    ·subst hik; exact .inr h3
    ·exact .inl ⟨i, by omega, h2, h3⟩
  ·rename_i hc
   rw [ih]
   constructor
   ·rintro ⟨i, h1, h2⟩; exact ⟨i, by omega, h2⟩
   ·rintro ⟨i, h1, h2, h3⟩
    by_cases hik : i = k
    ·subst hik; exact absurd h2 hc
    ·exact ⟨i, by omega, h2, h3⟩
theorem cutT_lt : ∀ {k : Nat}, (cutT t cs u z b k).1.Pairwise (· < ·)
 | 0 => by simp [cutT]
 | k + 1 => by
  have ih := cutT_lt (k := k)
  simp only [cutT]
  split
  ·rw [List.pairwise_append]
   refine ⟨ih, by simp, fun x hx y hy => ?_⟩
   obtain ⟨i, h1, _, rfl⟩ := cutT_mem.1 hx
   rw [List.mem_singleton] at hy
   omega
  ·exact ih
theorem cutT_c : ∀ {k : Nat}, ((cutT t cs u z b k).2 = 1000000000 ∨ ∃ i : Nat, i < k ∧ inCut t u z b i ∧ (cutT t cs u z b k).2 = nth cs i) ∧ (cutT t cs u z b k).2 ≤ 1000000000 ∧ ∀ i : Nat, i < k → inCut t u z b i → (cutT t cs u z b k).2 ≤ nth cs i
 | 0 => ⟨.inl rfl, Int.le_refl _, fun i hi => by omega⟩
 | k + 1 => by
  obtain ⟨h1, h2, h3⟩ := cutT_c (k := k)
  simp only [cutT]
  split
  ·rename_i hc
   refine ⟨?_, by show min _ _ ≤ _; omega, fun i hi hi2 => ?_⟩
   ·show min _ _ = _ ∨ ∃ i, _ ∧ _ ∧ min _ _ = _
    by_cases hle : (cutT t cs u z b k).2 ≤ nth cs k
    ·rw [Int.min_eq_left hle]
     rcases h1 with h1 | ⟨i, a1, a2, a3⟩
     ·exact .inl h1
     ·exact .inr ⟨i, by omega, a2, a3⟩
    ·rw [Int.min_eq_right (by omega)]
     exact .inr ⟨k, by omega, hc, rfl⟩
   ·show min _ _ ≤ _
    by_cases hik : i = k
    ·subst hik; omega
    ·have := h3 i (by omega) hi2; omega
  ·rename_i hc
   refine ⟨?_, h2, fun i hi hi2 => ?_⟩
   ·rcases h1 with h1 | ⟨i, a1, a2, a3⟩
    ·exact .inl h1
    ·exact .inr ⟨i, by omega, a2, a3⟩
   ·by_cases hik : i = k
    ·subst hik; exact absurd hi2 hc
    ·exact h3 i (by omega) hi2
end
end Go.Eng
end

section
namespace Go.Proofs.YtgophedpkiidkaaGreat
open Go.Eng
set_option maxRecDepth 10000
set_option maxHeartbeats 1000000
theorem relaxed_Plus_does (a b : Int) (ha : 0 ≤ a ∧ a ≤ 1000000000) (hb : 0 ≤ b ∧ b ≤ 1000000000) : Does Tryz.prog false 35 [I (a), I (b)] (I (plusI a b)) := by
 refine Does.of_body Tryz.func35 rfl rfl (by simp) Tryz.call35 (fun w0 O0 => ?_); refine .g <| .r <| .a ?_; refine .sq <| .g <| .g <| .r <| .m ?_; refine .x (.b beql) ?_; refine .m ?_; refine .split (n := 7) rfl (fun c7 => ?_) (fun c7 => ?_)
 ·refine .hf c7 ?_; refine .hf c7 ?_; refine .x (OpSem.pickT rfl rfl c7 rfl) ?_; refine .sq <| .condT rfl rfl ?_; refine .g <| .r <| .a ?_; exact .sq <| .t <| .t <| .ret rfl (.tmp rfl <| .nil) rfl (Le.i (plusI_1 (.inl (by simpa using c7))))
 ·refine .ht c7 ?_; refine .m ?_; refine .ht c7 ?_; refine .x (.b beql) ?_; refine .x (OpSem.pickF rfl rfl c7 rfl) ?_; refine .sq <| .cond rfl (fun c10 => ?_) (fun c10 => ?_)
  ·refine .g <| .r <| .a ?_; exact .sq <| .t <| .t <| .ret rfl (.tmp rfl <| .nil) rfl (Le.i (plusI_1 (.inr (by simpa using c10))))
  ·refine .p <| .z <| .mm ?_; refine .x .ad ?_; refine .x (OpSem.min2 rfl rfl rfl) ?_; refine .a ?_; exact .sq <| .t <| .ret rfl (.tmp rfl <| .nil) rfl (Le.i (plusI_0 (by simp at c7 c10; omega)))
theorem relaxed_Greatest_does (v f : List Int) (hf : ∀ k : Nat, k < f.length → 0 ≤ nth f k ∧ nth f k < v.length) : Does Tryz.prog false 112 [.d (ints v), .d (ints f)] (I (gmF v f)) := by
 refine Does.of_body Tryz.func112 rfl rfl (by simp) Tryz.call112 (fun w0 O0 => ?_); refine .le 0 fun len0 => ?_; refine .le 1 fun len1 => ?_; refine .g <| .r <| .a ?_; refine .z <| .a ?_; refine .sq <| .g <| .g <| .r <| .m ?_; refine .x (.n es22) ?_; refine .m ?_; refine .sq <| .k <| .loop (X := Nat) (fun k => k ≤ f.length) (fun k => [(0, .d (ints v)), (5, I (gmT v f k)), (8, .d (ints f)), (9, I (f.length)), (10, I (k))]) (fun k => []) (fun k => f.length - k) 0 (by omega) ?_ ?_
 ·exact .sl <| .slot rfl (Le.of_eq rfl) <| .p2 <| .slot rfl (Le.of_eq (by simp)) <| .nil
 ·rintro k hkl
  refine .g <| .r <| .x (.b blss) ?_; refine .sq <| .g <| .cond rfl (fun c11 => ?_) (fun c11 => ?_)
  ·have hk : k < f.length := by simpa using c11
   have hfk := hf k hk
   refine .p <| .g <| .g <| .k <| .g <| .r <| .x (.i es22) ?_; refine .x (.l1 vs3) ?_; refine .a ?_; refine .y <| .mm ?_; refine .m ?_; refine .x (.i es22) ?_; refine .x (.l1 vs3) ?_; refine .x (OpSem.max2 rfl rfl rfl) ?_; refine .a ?_; refine .n <| .n <| .y <| .x .ad ?_; refine .m ?_; refine .n <| .again (k + 1) (by omega) ?_ (by omega); exact .sl <| .slot rfl (Le.of_eq rfl) <| .p2 <| .slot rfl (Le.of_eq (by simp)) <| .nil
  ·have hk : k = f.length := by simp at c11; omega
   refine .u <| .u <| .u <| .b <| .z <| .m ?_; refine .a ?_; exact .sq <| .t <| .ret rfl (.tmp rfl <| .nil) rfl (Le.i (by subst hk; rfl))
theorem relaxed_Costs_does (t : Tsk) (hol : t.ops.length ≤ 1000000) : DoesO Tryz.prog 134 [tskS t] 1 3 (((cssF t).map fun n => [D.v (.int .i64 n)])) := by
 refine DoesO.of_body Tryz.func134 rfl rfl (by simp) Tryz.call134 (fun w0 O0 => ?_); refine .lg 0 1 fun len0_1 => ?_; refine .lg 0 2 fun len0_2 => ?_; refine .lg 0 3 fun len0_3 => ?_; refine .g <| .r <| .bx 1 ?_; refine .a ?_; refine .z <| .a ?_; refine .sq <| .g <| .g <| .ownNil (n := 3) 3 1 3 rfl ?_; refine .r <| .x (.f fo43_3) ?_; refine .x (.l vs41) ?_; refine .x (.n es41) ?_; refine .m ?_; refine .sq <| .k <| .loop (X := Nat) (fun k => k ≤ t.ops.length) (fun k => [(3, .o 3), (7, .d (sopsD t.ops)), (8, I (t.ops.length)), (9, I (k))]) (fun k => [(3, .own 1 3 ((cssT t k).map fun n => [D.v (.int .i64 n)]))]) (fun k => t.ops.length - k) 0 (by omega) ?_ ?_
 ·exact .p3 <| .slot rfl (Le.of_eq (by simp)) <| .memEq rfl (by simp [cssT]) <| .nil
 ·rintro k hkl
  refine .g <| .r <| .x (.b blss) ?_; refine .sq <| .g <| .cond rfl (fun c10 => ?_) (fun c10 => ?_)
  ·have hk : k < t.ops.length := by simpa using c10
   have hcl := cssT_len (t := t) (k := k)
   refine .p <| .g <| .g <| .k <| .g <| .r <| .x (.i es41) ?_; refine .x (.lN vs75) ?_; refine .al 5 zc75 ?_; refine .sb vs75 ?_; refine .y <| .m ?_; refine .x (.f fo75_3) ?_; refine .x (.l vs3) ?_; refine .x (.bs es22 ze22) ?_; refine .ap es22 el22 zc3 by3 ?_; refine .a ?_; refine .n <| .n <| .y <| .x .ad ?_; refine .m ?_; refine .n <| .again (k + 1) (by omega) ?_ (by omega); exact .p3 <| .slot rfl (Le.of_eq (by simp)) <| .memEq rfl (by rw [cssT_s]; simp) <| .nil
  ·have hk : k = t.ops.length := by simp at c10; omega
   subst hk
   refine .u <| .u <| .u <| .b <| .z <| .m ?_; refine .a ?_; exact .sq <| .t <| .retO2 rfl rfl rfl (by simp) (rfl)
theorem relaxed_Values_does (t : Tsk) (s cs : List Int) (fn : Nat) (cmb : Cmb) (w : List Int) (hV : TskV t) (hc : CsV t cs) (hm : CmbP t.facts cmb) (hs : ∀ p, p ∈ s → 0 ≤ p ∧ p < t.facts) (hf : ∀ v f, VlP t.facts v → SetP t.facts f → Does Tryz.prog false fn [.d (ints v), .d (ints f)] (I (cmb v f))) (hr : VlR t cs cmb (vl0 t s) w) : DoesO Tryz.prog 133 [tskS t, .d (ints s), .d (ints cs), .f fn [] []] 1 3 ((w.map fun n => [D.v (.int .i64 n)])) := by
 have hf0 := hV.facts
 refine DoesO.of_body Tryz.func133 rfl rfl (by simp) Tryz.call133 (fun w0 O0 => ?_); refine .lg 0 1 fun len0_1 => ?_; refine .lg 0 2 fun len0_2 => ?_; refine .lg 0 3 fun len0_3 => ?_; refine .le 1 fun len1 => ?_; refine .le 2 fun len2 => ?_; refine .g <| .r <| .bx 4 ?_; refine .a ?_; refine .z <| .x (.f fo43_0) ?_; refine .x (.l vs3) ?_; refine .mk 21 es22 ze22 bye22 ?_; refine .a ?_; refine .sq <| .g <| .g <| .r <| .m ?_; refine .x (OpSem.leno rfl rfl rfl es22) ?_; refine .m ?_; refine .sq <| .k <| .loop (X := Nat) (fun k => k ≤ t.facts.toNat) (fun k => [(1, .d (ints s)), (2, .d (ints cs)), (3, .f fn [] []), (4, .r 4 0), (9, .o 21), (23, I (t.facts)), (24, I (k))]) (fun k => [(21, .own 1 3 ((inT t.facts.toNat k).map fun n => [D.v (.int .i64 n)])), (4, .box [I (t.facts), .d (ints t.ini), .d (ints t.goal), .d (sopsD t.ops)])]) (fun k => t.facts.toNat - k) 0 (by omega) ?_ ?_
 ·exact .p5 <| .slot rfl (Le.i (by simp; omega)) <| .slot rfl (Le.of_eq (by simp)) <| .memEq rfl (by rw [el22, inT_0]; first | (simp; done) | (simp; rfl)) <| .mem rfl <| .nil
 ·rintro k hkl
  refine .g <| .r <| .x (.b blss) ?_; refine .sq <| .g <| .cond rfl (fun c25 => ?_) (fun c25 => ?_)
  ·have hk : k < t.facts.toNat := by simp at c25; omega
   refine .p <| .g <| .g <| .k <| .g <| .r <| .m ?_; refine .a ?_; refine .y <| .mm ?_; refine .x (OpSem.idxo rfl rfl rfl rfl es22 (by omega) (by simp [inT_len]; omega)) ?_; refine .storeq rfl rfl rfl rfl rfl rfl rfl vs3 (rows_get (by omega) (by rw [inT_len]; omega)) (by simp) ?_; refine .n <| .n <| .y <| .x .ad ?_; refine .m ?_; refine .n <| .again (k + 1) (by omega) ?_ (by omega); exact .p5 <| .sl <| .slot rfl (Le.of_eq (by simp)) <| .memEq rfl (by rw [← inT_s hk]; exact congrArg (Mo.own 1 3) (rows_set (f := fun n => [D.v (.int .i64 n)]))) <| .mem rfl <| .nil
  ·have hk : k = t.facts.toNat := by simp at c25; omega
   subst hk
   refine .u <| .u <| .u <| .b <| .g <| .g <| .g <| .r <| .m ?_; refine .x (.n es22) ?_; refine .m ?_; refine .sq <| .k <| .loop (X := Nat) (fun k => k ≤ s.length) (fun k => [(2, .d (ints cs)), (3, .f fn [] []), (4, .r 4 0), (9, .o 21), (31, .d (ints s)), (32, I (s.length)), (33, I (k))]) (fun k => [(21, .own 1 3 ((vlI t.facts.toNat s k).map fun n => [D.v (.int .i64 n)])), (4, .box [I (t.facts), .d (ints t.ini), .d (ints t.goal), .d (sopsD t.ops)])]) (fun k => s.length - k) 0 (by omega) ?_ ?_
   ·exact .p5 <| .sl <| .slot rfl (Le.of_eq (by simp)) <| .memEq rfl (by rw [inT_end]; rfl) <| .mem rfl <| .nil
   ·rintro k hkl
    refine .g <| .r <| .x (.b blss) ?_; refine .sq <| .g <| .cond rfl (fun c34 => ?_) (fun c34 => ?_)
    ·have hk : k < s.length := by simpa using c34
     have hsk := hs _ (nth_mem (l := s) (n := k) (by omega) (by omega))
     have hvl := (vlI_v (t := t) hf0.1 hs (k := k) (by omega)).1.l
     refine .p <| .g <| .g <| .k <| .g <| .r <| .x (.i es22) ?_; refine .x (.l1 vs3) ?_; refine .a ?_; refine .y <| .mm ?_; refine .x (OpSem.idxo rfl rfl rfl rfl es22 (by omega) (by simp; omega)) ?_; refine .storeq rfl rfl rfl rfl rfl rfl rfl vs3 (rows_get (by omega) (by omega)) (by simp) ?_; refine .n <| .n <| .y <| .x .ad ?_; refine .m ?_; refine .n <| .again (k + 1) (by omega) ?_ (by omega); exact .p5 <| .sl <| .slot rfl (Le.of_eq (by simp)) <| .memEq rfl (by exact congrArg (Mo.own 1 3) (rows_set (f := fun n => [D.v (.int .i64 n)]))) <| .mem rfl <| .nil
    ·have hk : k = s.length := by simp at c34; omega
     subst hk
     refine .u <| .u <| .u <| .b <| .g <| .g <| .g <| .r <| .a ?_; refine .sq <| .k <| .loop (X := (List Int × Bool)) (fun x => VlP t.facts x.1 ∧ (x.2 = true → VlR t cs cmb x.1 w) ∧ (x.2 = false → x.1 = w)) (fun x => [(2, .d (ints cs)), (3, .f fn [] []), (4, .r 4 0), (9, .o 21), (13, Bo (x.2))]) (fun x => [(21, .own 1 3 (x.1.map fun n => [D.v (.int .i64 n)])), (4, .box [I (t.facts), .d (ints t.ini), .d (ints t.goal), .d (sopsD t.ops)])]) (fun x => vl_mu x) (vl0 t s, true) ⟨vl0_v hf0.1 hs, fun _ => hr, fun h => by cases h⟩ ?_ ?_
     ·exact .p5 <| .memEq rfl rfl <| .mem rfl <| .nil
     ·rintro x ⟨hC, hT, hF⟩
      refine .g <| .g <| .r <| .m ?_; refine .sq <| .cond rfl (fun c41 => ?_) (fun c41 => ?_)
      ·obtain ⟨hI1, hI2⟩ := (hT c41).inv
       refine .p <| .g <| .k <| .g <| .r <| .a ?_; refine .z <| .x (.f fo43_3) ?_; refine .x (.l vs41) ?_; refine .x (.n es41) ?_; refine .m ?_; refine .sq <| .k <| .loop (X := Nat) (fun i => i ≤ t.ops.length) (fun i => [(2, .d (ints cs)), (3, .f fn [] []), (4, .r 4 0), (9, .o 21), (13, Bo ((vlP t cs cmb x.1 i).2)), (43, .d (sopsD t.ops)), (44, I (t.ops.length)), (45, I (i))]) (fun i => [(21, .own 1 3 (((vlP t cs cmb x.1 i).1).map fun n => [D.v (.int .i64 n)])), (4, .box [I (t.facts), .d (ints t.ini), .d (ints t.goal), .d (sopsD t.ops)])]) (fun i => t.ops.length - i) 0 (by omega) ?_ ?_
       ·exact .p3 <| .sl <| .slot rfl (Le.bo rfl) <| .p2 <| .slot rfl (Le.of_eq (by simp)) <| .memEq rfl rfl <| .mem rfl <| .nil
       ·rintro i hil
        refine .g <| .r <| .x (.b blss) ?_; refine .sq <| .g <| .cond rfl (fun c46 => ?_) (fun c46 => ?_)
        ·have hi : i < t.ops.length := by simpa using c46
         have hP := (vlP_dec hV hc hm hC (i := i) (by omega)).1
         have hpre := (hV.op i hi).1.1
         have hadd := set_rng (hV.op i hi).1.2.1
         have hadl := setP_len (hV.op i hi).1.2.1 hf0.2
         have hci := hc.r i hi
         have hcv := hm _ _ hP hpre
         have hcl := hc.l
         have hvv := vlV_in hV hc hm hP hi
         refine .p <| .g <| .g <| .k <| .g <| .r <| .m ?_; refine .x (.i es41) ?_; refine .x (.lN vs75) ?_; refine .al 15 zc75 ?_; refine .a ?_; refine .sb vs75 ?_; refine .sq <| .g <| PC.start [] ?_; refine .mm ?_; refine .x (.f fo75_0) ?_; refine .x (.l vs22) ?_; refine .x (OpSem.call (hf _ _ hP hpre) (.inr rfl) rfl rfl rfl rfl (Les.refl _)) ?_; refine .mm ?_; refine .x (.i es22) ?_; refine .x (.l1 vs3) ?_; refine .d0 mixed ?_; refine .x (OpSem.call0 (relaxed_Plus_does _ _ hcv ⟨hci.1, by omega⟩) rfl rfl rfl rfl (Les.refl _)) ?_; refine .a ?_; refine .z <| .x (.f fo75_1) ?_; refine .x (.l vs22) ?_; refine .x (.n es22) ?_; refine .m ?_; refine .sq <| .k <| .loop (X := Nat) (fun j => j ≤ (nth t.ops i).add.length) (fun j => [(2, .d (ints cs)), (3, .f fn [] []), (4, .r 4 0), (9, .o 21), (13, Bo ((vlA (vlV t cs cmb (vlP t cs cmb x.1 i).1 i) (nth t.ops i).add (vlP t cs cmb x.1 i) j).2)), (16, I ((vlV t cs cmb (vlP t cs cmb x.1 i).1 i))), (43, .d (sopsD t.ops)), (44, I (t.ops.length)), (45, I (i)), (61, .d (ints ((nth t.ops i).add))), (62, I (((nth t.ops i).add).length)), (63, I (j))]) (fun j => [(21, .own 1 3 (((vlA (vlV t cs cmb (vlP t cs cmb x.1 i).1 i) (nth t.ops i).add (vlP t cs cmb x.1 i) j).1).map fun n => [D.v (.int .i64 n)])), (4, .box [I (t.facts), .d (ints t.ini), .d (ints t.goal), .d (sopsD t.ops)])]) (fun j => (nth t.ops i).add.length - j) 0 (by omega) ?_ ?_
         ·exact .p3 <| .sl <| .slot rfl (Le.bo rfl) <| .p5 <| .sl <| .slot rfl (Le.of_eq (by simp)) <| .memEq rfl rfl <| .mem rfl <| .nil
         ·rintro j hjl
          refine .g <| .r <| .x (.b blss) ?_; refine .sq <| .g <| .cond rfl (fun c64 => ?_) (fun c64 => ?_)
          ·have hj : j < (nth t.ops i).add.length := by simpa using c64
           have hAJ := (vlA_dec (fun p hp => setP_mem (hV.op i hi).1.2.1 hp) hvv hP (j := j) (by omega)).1
           have hal := hAJ.l
           have hpj := hadd j hj
           refine .p <| .g <| .g <| .k <| .g <| .r <| .x (.i es22) ?_; refine .x (.l1 vs3) ?_; refine .a ?_; refine .z <| .mm ?_; refine .m ?_; refine .x (OpSem.idxo rfl rfl rfl rfl es22 (by omega) (by simp; omega)) ?_; refine .x (OpSem.loadq rfl rfl rfl vs3 (rows_get (by omega) (by omega)) rfl) ?_; refine .x (.b blss) ?_; refine .sq <| .cond rfl (fun c72 => ?_) (fun c72 => ?_)
           ·have hst : vlA (vlV t cs cmb (vlP t cs cmb x.1 i).1 i) (nth t.ops i).add (vlP t cs cmb x.1 i) (j + 1) = ((vlA (vlV t cs cmb (vlP t cs cmb x.1 i).1 i) (nth t.ops i).add (vlP t cs cmb x.1 i) j).1.set (nth (nth t.ops i).add j).toNat (vlV t cs cmb (vlP t cs cmb x.1 i).1 i), true) := by simp only [vlA]; rw [if_pos (by simpa using c72)]
            refine .r <| .mm ?_; refine .m ?_; refine .x (OpSem.idxo rfl rfl rfl rfl es22 (by omega) (by simp; omega)) ?_; refine .storeq rfl rfl rfl rfl rfl rfl rfl vs3 (rows_get (by omega) (by omega)) (by simp) ?_; refine .a ?_; refine .n <| .n <| .y <| .x .ad ?_; refine .m ?_; refine .n <| .again (j + 1) (by omega) ?_ (by omega); exact .p3 <| .sl <| .slot rfl (Le.bo (by rw [hst])) <| .p5 <| .sl <| .slot rfl (Le.of_eq (by simp)) <| .memEq rfl (by rw [hst]; exact congrArg (Mo.own 1 3) (rows_set (f := fun n => [D.v (.int .i64 n)]))) <| .mem rfl <| .nil
           ·have hst : vlA (vlV t cs cmb (vlP t cs cmb x.1 i).1 i) (nth t.ops i).add (vlP t cs cmb x.1 i) (j + 1) = (vlA (vlV t cs cmb (vlP t cs cmb x.1 i).1 i) (nth t.ops i).add (vlP t cs cmb x.1 i) j) := by simp only [vlA]; rw [if_neg (by simpa using c72)]
            refine .p <| .n <| .y <| .x .ad ?_; refine .m ?_; refine .n <| .again (j + 1) (by omega) ?_ (by omega); exact .p3 <| .sl <| .slot rfl (Le.bo (by rw [hst])) <| .p5 <| .sl <| .slot rfl (Le.of_eq (by simp)) <| .memEq rfl (by rw [hst]) <| .mem rfl <| .nil
          ·have hj : j = (nth t.ops i).add.length := by simp at c64; omega
           subst hj
           refine .u <| .u <| .u <| .b <| .n <| .y <| .x .ad ?_; refine .m ?_; refine .n <| .again (i + 1) (by omega) ?_ (by omega); exact .p3 <| .sl <| .slot rfl (Le.bo rfl) <| .p2 <| .slot rfl (Le.of_eq (by simp)) <| .memEq rfl rfl <| .mem rfl <| .nil
        ·have hi : i = t.ops.length := by simp at c46; omega
         subst hi
         refine .u <| .u <| .u <| .b <| .n <| .again (vlP t cs cmb x.1 t.ops.length) ⟨(vlP_dec hV hc hm hC (Nat.le_refl _)).1, hI1, hI2⟩ ?_ (vl_lt hV hc hm hC c41); exact .p5 <| .memEq rfl rfl <| .mem rfl <| .nil
      ·have hW := hF c41
       refine .u <| .u <| .u <| .b <| .z <| .m ?_; refine .a ?_; exact .sq <| .t <| .retO2 rfl rfl rfl (by simp) (by rw [hW])
theorem strips_StateFault_does (t : Tsk) (s : List Int) : Does Tryz.prog false 114 [tskS t, .d (ints s)] (flt (sttF t s)) := by
 refine Does.of_body Tryz.func114 rfl rfl (by simp) Tryz.call114 (fun w0 O0 => ?_); refine .lg 0 1 fun len0_1 => ?_; refine .lg 0 2 fun len0_2 => ?_; refine .lg 0 3 fun len0_3 => ?_; refine .le 1 fun len1 => ?_; refine .g <| .r <| .bx 2 ?_; refine .al 4 zc32 ?_; refine .sq <| .g <| .g <| .r <| .x (.L vs43) ?_; refine .x (OpSem.call0 (strips_Validate_does t) rfl rfl rfl rfl (Les.refl _)) ?_; refine .al 5 zc32 ?_; refine .sb vs32 ?_; refine .z <| .x (.L vs32) ?_; refine .x (.bd pl32 zc32) ?_; refine .x (OpSem.neS2 rfl rfl rfl io32) ?_; refine .sq <| .cond rfl (fun c10 => ?_) (fun c10 => ?_)
 ·have hne : tskF t ≠ (0, 0) := fun h => by simp [h] at c10
  refine .g <| .r <| .x (.L vs32) ?_; refine .sb vs32 ?_; exact .sq <| .t <| .t <| .ret rfl (.cellN rfl rfl vs32 <| .nil) rfl (Le.flt (sttF_1 hne))
 ·have h0 : tskF t = (0, 0) := pair0 (by simpa using c10)
  refine .p <| .g <| .g <| .g <| .r <| .m ?_; refine .x (.f fo43_0) ?_; refine .x (.l vs3) ?_; refine .x (OpSem.call0 (strips_IsSet_does s t.facts) rfl rfl rfl rfl (Les.refl _)) ?_; refine .x .nt ?_; refine .sq <| .cond rfl (fun c16 => ?_) (fun c16 => ?_)
  ·refine .g <| .r <| .x (.bd pl32 zc32) ?_; refine .sb vs32 ?_; exact .sq <| .t <| .t <| .ret rfl (.cellN rfl rfl vs32 <| .nil) rfl (Le.flt (sttF_2 h0 (by simpa using c16)))
  ·refine .p <| .z <| .x (.bd pl32 zc32) ?_; refine .sb vs32 ?_; exact .sq <| .t <| .ret rfl (.cellN rfl rfl vs32 <| .nil) rfl (Le.flt (sttF_0 h0 (by simpa using c16)))
end Go.Proofs.YtgophedpkiidkaaGreat
end

section
namespace Go.Eng
def rxS (t : Tsk) (X : Int → Prop) (i : Nat) : Int → Prop := fun p => X p ∨ ((∀ q, q ∈ (nth t.ops i).pre → X q) ∧ p ∈ (nth t.ops i).add)
def rxF (t : Tsk) (X : Int → Prop) : List Nat → Int → Prop
 | [] => X
 | i :: l => rxF t (rxS t X i) l
structure Rx (t : Tsk) (s f : List Int) (l : List Nat) : Prop where
 i : ∀ i, i ∈ l → i < t.ops.length
 g : ∀ p, p ∈ f → rxF t (· ∈ s) l p
section
variable {t : Tsk} {X Y : Int → Prop} {l m : List Nat}
theorem rxF_inv {I : Int → Prop} (h0 : ∀ p, X p → I p) (hs : ∀ i, i ∈ l → (∀ q, q ∈ (nth t.ops i).pre → I q) → ∀ p, p ∈ (nth t.ops i).add → I p) : ∀ p, rxF t X l p → I p := by
 induction l generalizing X with
 | nil => exact h0
 | cons i l ih => exact ih (fun p hp => hp.elim (h0 p) (fun ⟨h1, h2⟩ => hs i (by simp) (fun q hq => h0 q (h1 q hq)) p h2)) (fun j hj => hs j (by simp [hj]))
end
section
variable {t : Tsk} {s cs v : List Int}
theorem hd_gm (hv : VlP t.facts v) {f : List Int} (hf : SetP t.facts f) : nth (exV v) (hdF t.facts (exV v) f) = gmF v f := by
 rcases hd_spec (u := exV v) hf with ⟨h1, h2⟩ | ⟨h1, h2⟩
 ·rw [h2, exV_n hv.l, h1]; rfl
 ·have hr := setP_mem hf h1
  rw [exV_at hv.l hr.1 hr.2]
  have h3 := gm_ge (v := v) h1
  have h4 : gmF v f ≤ nth v (hdF t.facts (exV v) f) := gm_le (hv.r _ hr.1 hr.2).1 fun q hq => by
   have hq2 := setP_mem hf hq
   have := h2 q hq
   rwa [exV_at hv.l hr.1 hr.2, exV_at hv.l hq2.1 hq2.2] at this
  omega
noncomputable def vM (t : Tsk) (s cs : List Int) : List Int := vlW t s cs gmF
noncomputable def gM (t : Tsk) (s cs : List Int) : Int := gmF (vM t s cs) t.goal
noncomputable def uM (t : Tsk) (s cs : List Int) : List Int := exV (vM t s cs)
noncomputable def zM (t : Tsk) (s cs : List Int) : List Bool := znW t cs (uM t s cs)
noncomputable def bM (t : Tsk) (s cs : List Int) : List Bool := bfW t s (uM t s cs) (zM t s cs)
noncomputable def cM (t : Tsk) (s cs : List Int) : List Int × Int := cutF t cs (uM t s cs) (zM t s cs) (bM t s cs)
abbrev inM (t : Tsk) (s cs : List Int) (i : Nat) : Prop := inCut t (uM t s cs) (zM t s cs) (bM t s cs) i
structure CtV (t : Tsk) (s cs : List Int) : Prop where
 tk : TskV t
 sr : ∀ p, p ∈ s → 0 ≤ p ∧ p < t.facts
 cv : CsV t cs
theorem CtV.zp (h : CtV t s cs) : ZnP t cs (uM t s cs) (zM t s cs) := zn_p h.tk
theorem CtV.bf (h : CtV t s cs) : BfP t s (uM t s cs) (zM t s cs) (bM t s cs) := bf_p h.tk h.sr
theorem CtV.hm (h : CtV t s cs) : HmP t s cs (vM t s cs) := hm_p h.tk h.cv h.sr
theorem CtV.gr (h : CtV t s cs) : 0 ≤ gM t s cs ∧ gM t s cs ≤ 1000000000 := gm_cmb _ _ h.hm.vp h.tk.goal
theorem plusI_0le {a c : Int} (h1 : a ≤ 1000000000) (hc : c ≤ 0) : plusI a c ≤ a := by unfold plusI; split <;> omega
theorem CtV.zn (h : CtV t s cs) (g0 : 0 < gM t s cs) : ∀ q : Int, 0 ≤ q → q ≤ t.facts → nth (zM t s cs) q = true → gM t s cs ≤ nth (uM t s cs) q := by
 have hm := h.hm
 refine h.zp.i (fun q => gM t s cs ≤ nth (uM t s cs) q) ?_ fun i hi hc p hp hg => ?_
 ·show _ ≤ nth (exV _) (hdF _ (exV _) _)
  rw [hd_gm hm.vp h.tk.goal]; exact Int.le_refl _
 ·have hp2 := setP_mem (h.tk.op i hi).1.2.1 hp
  have h1 : nth (uM t s cs) p = nth (vM t s cs) p := exV_at hm.vp.l hp2.1 hp2.2
  have h2 := hm.fix i hi p hp
  have h3 := gm_cmb _ _ hm.vp (h.tk.op i hi).1.1
  have h4 := plusI_0le h3.2 hc
  show _ ≤ nth (exV _) (hdF _ (exV _) _)
  rw [hd_gm hm.vp (h.tk.op i hi).1.1]
  rw [h1] at hg; omega
theorem CtV.bz (h : CtV t s cs) (g0 : 0 < gM t s cs) : ∀ q : Int, 0 ≤ q → q ≤ t.facts → nth (bM t s cs) q = true → nth (zM t s cs) q = false := by
 refine h.bf.i fun q q0 q1 hq => ?_
 cases hz : nth (zM t s cs) q with
 | false => rfl
 | true =>
  have h1 := h.zn g0 q q0 q1 hz
  have hm := h.hm
  rcases hq with hq | hq
  ·have : nth (uM t s cs) q = 0 := by rw [hq]; exact exV_n hm.vp.l
   omega
  ·have h2 := h.sr q hq
   have : nth (uM t s cs) q = nth (vM t s cs) q := exV_at hm.vp.l h2.1 h2.2
   have := hm.s q hq
   omega
theorem CtV.hin (h : CtV t s cs) {f : List Int} (hf : SetP t.facts f) : 0 ≤ hdF t.facts (uM t s cs) f ∧ hdF t.facts (uM t s cs) f ≤ t.facts := hd_in h.tk hf
theorem CtV.pos (h : CtV t s cs) (g0 : 0 < gM t s cs) {i : Nat} (hi : i < t.ops.length) (hc : inM t s cs i) : 0 < nth cs i := by
 refine Classical.byContradiction fun hn => ?_
 obtain ⟨h1, p, hp, hz⟩ := hc
 have h2 := h.zp.c i hi (by omega) p hp hz
 have h3 := h.hin (h.tk.op i hi).1.1
 have h4 := h.bz g0 _ h3.1 h3.2 h1
 have h2 : nth (zM t s cs) (hdF t.facts (uM t s cs) (nth t.ops i).pre) = true := h2
 rw [h4] at h2; cases h2
theorem CtV.top (h : CtV t s cs) (g0 : 0 < gM t s cs) : ∃ p, p ∈ t.goal ∧ nth (bM t s cs) p = false ∧ nth (vM t s cs) p = gM t s cs := by
 have hm := h.hm
 have hz := h.zp.g
 have hr := h.hin h.tk.goal
 rcases hd_spec (u := uM t s cs) h.tk.goal with ⟨h1, _⟩ | ⟨h1, _⟩
 ·have : gM t s cs = 0 := by unfold gM; rw [h1]; rfl
  omega
 ·have hp := setP_mem h.tk.goal h1
  refine ⟨_, h1, ?_, ?_⟩
  ·cases hb : nth (bM t s cs) (hdF t.facts (uM t s cs) t.goal) with
   | false => rfl
   | true =>
    have := h.bz g0 _ hr.1 hr.2 hb
    have hz : nth (zM t s cs) (hdF t.facts (uM t s cs) t.goal) = true := hz
    rw [this] at hz; cases hz
  ·have h3 : nth (uM t s cs) (hdF t.facts (uM t s cs) t.goal) = _ := hd_gm hm.vp h.tk.goal
   have h4 : nth (uM t s cs) (hdF t.facts (uM t s cs) t.goal) = nth (vM t s cs) _ := exV_at hm.vp.l hp.1 hp.2
   rw [← h4]; exact h3
theorem CtV.bpre (h : CtV t s cs) {i : Nat} (hi : i < t.ops.length) (hq : ∀ q, q ∈ (nth t.ops i).pre → nth (bM t s cs) q = true) : nth (bM t s cs) (hdF t.facts (uM t s cs) (nth t.ops i).pre) = true := by
 rcases hd_spec (u := uM t s cs) (h.tk.op i hi).1.1 with ⟨_, h2⟩ | ⟨h1, _⟩
 ·rw [h2]; exact h.bf.n
 ·exact hq _ h1
theorem CtV.out (h : CtV t s cs) {i : Nat} (hi : i < t.ops.length) (hq : ∀ q, q ∈ (nth t.ops i).pre → nth (bM t s cs) q = true) (hn : ¬ inM t s cs i) : ∀ p, p ∈ (nth t.ops i).add → nth (bM t s cs) p = true := fun p hp => by
 have hb := h.bpre hi hq
 refine h.bf.c i hi hb p hp ?_
 cases hz : nth (zM t s cs) p with
 | false => rfl
 | true => exact absurd ⟨hb, p, hp, hz⟩ hn
theorem CtV.ex (h : CtV t s cs) (g0 : 0 < gM t s cs) (g1 : gM t s cs < 1000000000) : ∃ i : Nat, i < t.ops.length ∧ inM t s cs i := by
 refine Classical.byContradiction fun hn => ?_
 have hn : ∀ i : Nat, i < t.ops.length → ¬ inM t s cs i := fun i hi hc => hn ⟨i, hi, hc⟩
 have hf : Fea t s cs fun p => if nth (bM t s cs) p = true then 0 else 1000000000 := by
  refine ⟨fun p hp => ?_, fun p _ _ => ?_, fun i hi p hp b b0 b1 hq => ?_⟩
  ·show (if _ then (0 : Int) else _) ≤ 0
   rw [if_pos (h.bf.st p hp)]; exact Int.le_refl _
  ·show (if _ then (0 : Int) else _) ≤ _
   split <;> omega
  ·have hc := h.cv.r i hi
   have hin := plusI_in (a := b) (b := nth cs i) ⟨b0, b1⟩ (by omega)
   by_cases hb : b = 1000000000
   ·rw [← plusI_1 (.inl hb)]
    show (if _ then (0 : Int) else _) ≤ _
    split <;> omega
   ·have hpre : ∀ q, q ∈ (nth t.ops i).pre → nth (bM t s cs) q = true := fun q hq2 => by
     have := hq q hq2
     cases hx : nth (bM t s cs) q with
     | true => rfl
     | false => simp [hx] at this; omega
    show (if _ then (0 : Int) else _) ≤ _
    rw [if_pos (h.out hi hpre (hn i hi) p hp)]; exact hin.1
 obtain ⟨p, hp, hb, hg⟩ := h.top g0
 have hr := setP_mem h.tk.goal hp
 have := fea_le h.tk h.cv h.sr hf p hr.1 hr.2
 simp only [hb] at this
 have hvm : nth (vM t s cs) p = nth (vlW t s cs gmF) p := rfl
 simp at this; omega
theorem CtV.cost (h : CtV t s cs) (g0 : 0 < gM t s cs) (g1 : gM t s cs < 1000000000) : 0 < (cM t s cs).2 ∧ (cM t s cs).2 ≤ 100 ∧ ∀ i : Nat, i < t.ops.length → inM t s cs i → (cM t s cs).2 ≤ nth cs i := by
 obtain ⟨h1, h2, h3⟩ := cutT_c (t := t) (cs := cs) (u := uM t s cs) (z := zM t s cs) (b := bM t s cs) (k := t.ops.length)
 obtain ⟨j, hj, hc⟩ := h.ex g0 g1
 have h4 := h3 j hj hc
 have h5 := h.cv.r j hj
 have e : cutT t cs (uM t s cs) (zM t s cs) (bM t s cs) t.ops.length = cM t s cs := rfl
 rw [e] at h1 h2 h3 h4
 refine ⟨?_, by omega, h3⟩
 rcases h1 with h1 | ⟨i, hi, hc, he⟩
 ·omega
 ·rw [he]; exact h.pos g0 hi hc
theorem CtV.mem {x : Int} : x ∈ (cM t s cs).1 ↔ ∃ i : Nat, i < t.ops.length ∧ inM t s cs i ∧ x = i := cutT_mem
theorem CtV.hit (h : CtV t s cs) (g0 : 0 < gM t s cs) {l : List Nat} (hl : Rx t s t.goal l) : ∃ i, i ∈ l ∧ (i : Int) ∈ (cM t s cs).1 := by
 refine Classical.byContradiction fun hn => ?_
 have hn : ∀ i, i ∈ l → ¬ inM t s cs i := fun i hi hc => hn ⟨i, hi, CtV.mem.2 ⟨i, hl.i i hi, hc, rfl⟩⟩
 obtain ⟨p, hp, hb, _⟩ := h.top g0
 have := rxF_inv (I := fun p => nth (bM t s cs) p = true) (fun p hp => h.bf.st p hp) (fun i hi hq p hp => h.out (hl.i i hi) hq (hn i hi) p hp) p (hl.g p hp)
 rw [hb] at this; cases this
theorem CtV.fin (h : CtV t s cs) {l : List Nat} (hl : Rx t s t.goal l) : gM t s cs < 1000000000 := by
 have hm := h.hm
 have key := rxF_inv (t := t) (l := l) (X := (· ∈ s)) (I := fun p => 0 ≤ p ∧ p < t.facts ∧ nth (vM t s cs) p < 1000000000) (fun p hp => ⟨(h.sr p hp).1, (h.sr p hp).2, by rw [hm.s p hp]; omega⟩) (fun i hi hq p hp => by
  have hp2 := setP_mem (h.tk.op i (hl.i i hi)).1.2.1 hp
  have h1 := hm.fix i (hl.i i hi) p hp
  have h2 : gmF (vM t s cs) (nth t.ops i).pre ≤ 999999999 := gm_le (by omega) fun q hq2 => by have := hq q hq2; omega
  have h3 := h.cv.r i (hl.i i hi)
  refine ⟨hp2.1, hp2.2, ?_⟩
  rw [← plusI_0 (by omega)] at h1
  omega)
 have : gM t s cs ≤ 999999999 := gm_le (by omega) fun p hp => by have := key p (hl.g p hp); omega
 omega
end
def csC (cs l : List Int) (c : Int) : Nat → List Int
 | 0 => cs
 | k + 1 => (csC cs l c k).set (nth l k).toNat (nth (csC cs l c k) (nth l k) - c)
theorem csC_len {cs l : List Int} {c : Int} : ∀ {k : Nat}, (csC cs l c k).length = cs.length
 | 0 => rfl
 | k + 1 => by simp only [csC, List.length_set]; exact csC_len
theorem csC_at {cs l : List Int} {c : Int} (hp : l.Pairwise (· < ·)) (hr : ∀ x, x ∈ l → 0 ≤ x ∧ x < cs.length) {q : Int} (q0 : 0 ≤ q) (q1 : q < cs.length) : ∀ {k : Nat}, k ≤ l.length → nth (csC cs l c k) q = if q ∈ l.take k then nth cs q - c else nth cs q
 | 0, _ => by simp [csC]
 | k + 1, hk => by
  have ih := fun {q : Int} (q0 : 0 ≤ q) (q1 : q < cs.length) => csC_at (c := c) hp hr q0 q1 (k := k) (by omega)
  have hx := hr (nth l k) (nth_mem (by omega) (by omega))
  have hn : nth l k ∉ l.take k := fun hm => by
   obtain ⟨i, hi, he⟩ := List.getElem_of_mem hm
   rw [List.getElem_take] at he
   simp only [List.length_take] at hi
   have := List.pairwise_iff_getElem.1 hp i k (by omega) (by omega) (by omega)
   rw [he, nth_eq (by omega)] at this; omega
  simp only [csC]
  rw [nth_sI hx.1 (by rw [csC_len]; omega) q0 (by rw [csC_len]; omega), tk_s (by omega)]
  by_cases h : q = nth l k
  ·rw [if_pos h, if_pos (by rw [h]; simp), ih hx.1 hx.2, if_neg hn, h]
  ·rw [if_neg h, ih q0 q1]
   by_cases h2 : q ∈ l.take k
   ·rw [if_pos h2, if_pos (by simp [h2])]
   ·rw [if_neg h2, if_neg (by simp [h, h2])]
end Go.Eng
end

section
namespace Go.Eng
theorem znA_len {fr : Int} {add : List Int} {x : List Bool × Bool} : ∀ {j : Nat}, (znA fr add x j).1.length = x.1.length
 | 0 => rfl
 | j + 1 => by
  have ih := znA_len (fr := fr) (add := add) (x := x) (j := j)
  simp only [znA]
  split
  ·simpa using ih
  ·exact ih
noncomputable def csM (t : Tsk) (s cs : List Int) : List Int := csC cs (cM t s cs).1 (cM t s cs).2 (cM t s cs).1.length
inductive FnR (t : Tsk) (s : List Int) : List Int → List (List Int × Int) → Int → List (List Int × Int) × Int → Prop
 | zero {cs : List Int} {l : List (List Int × Int)} {T : Int} : gM t s cs = 0 → FnR t s cs l T (l, T)
 | inf {cs : List Int} {l : List (List Int × Int)} {T : Int} : gM t s cs = 1000000000 → FnR t s cs l T ([], 1000000000)
 | step {cs : List Int} {l : List (List Int × Int)} {T : Int} {r : List (List Int × Int) × Int} : gM t s cs ≠ 0 → gM t s cs ≠ 1000000000 → FnR t s (csM t s cs) (l ++ [cM t s cs]) (T + (cM t s cs).2) r → FnR t s cs l T r
section
variable {t : Tsk} {s cs v : List Int} {l : List (List Int × Int)} {T : Int} {r : List (List Int × Int) × Int}
theorem FnR.inv (h : FnR t s cs l T r) : (gM t s cs = 0 → r = (l, T)) ∧ (gM t s cs = 1000000000 → r = ([], 1000000000)) ∧ (gM t s cs ≠ 0 → gM t s cs ≠ 1000000000 → FnR t s (csM t s cs) (l ++ [cM t s cs]) (T + (cM t s cs).2) r) := by
 cases h with
 | zero h => exact ⟨fun _ => rfl, fun h2 => by omega, fun h2 => absurd h h2⟩
 | inf h => exact ⟨fun h2 => by omega, fun _ => rfl, fun _ h2 => absurd h h2⟩
 | step h1 h2 h3 => exact ⟨fun h => absurd h h1, fun h => absurd h h2, fun _ _ => h3⟩
theorem CtV.crg (h : CtV t s cs) : ∀ x, x ∈ (cM t s cs).1 → 0 ≤ x ∧ x < t.ops.length := fun x hx => by
 obtain ⟨i, hi, _, rfl⟩ := CtV.mem.1 hx; omega
theorem CtV.lt : (cM t s cs).1.Pairwise (· < ·) := cutT_lt
theorem CtV.at (h : CtV t s cs) {i : Nat} (hi : i < t.ops.length) : nth (csM t s cs) i = if inM t s cs i then nth cs i - (cM t s cs).2 else nth cs i := by
 have hl := h.cv.l
 unfold csM
 rw [csC_at CtV.lt (fun x hx => by have := h.crg x hx; omega) (by omega) (by omega) (Nat.le_refl _), List.take_length]
 by_cases hc : inM t s cs i
 ·rw [if_pos hc, if_pos (CtV.mem.2 ⟨i, hi, hc, rfl⟩)]
 ·rw [if_neg hc, if_neg fun hm => by
   obtain ⟨j, _, hj, e⟩ := CtV.mem.1 hm
   obtain rfl : i = j := by omega
   exact hc hj]
theorem csC_sum {cs l : List Int} {c : Int} (hr : ∀ x, x ∈ l → 0 ≤ x ∧ x < cs.length) : ∀ {k : Nat}, k ≤ l.length → (csC cs l c k).sum = cs.sum - k * c
 | 0, _ => by simp [csC]
 | k + 1, hk => by
  have ih := csC_sum (c := c) hr (k := k) (by omega)
  have hx := hr (nth l k) (nth_mem (by omega) (by omega))
  simp only [csC]
  rw [smL_setI hx.1 (by rw [csC_len]; omega), ih]
  have : ((k + 1 : Nat) : Int) * c = k * c + c := by rw [Int.natCast_add, Int.add_mul]; simp
  omega
theorem CtV.next (h : CtV t s cs) (g0 : 0 < gM t s cs) (g1 : gM t s cs < 1000000000) : CtV t s (csM t s cs) ∧ (csM t s cs).sum + (cM t s cs).2 ≤ cs.sum := by
 have hl := h.cv.l
 obtain ⟨c0, c1, c2⟩ := h.cost g0 g1
 refine ⟨⟨h.tk, h.sr, by unfold csM; rw [csC_len]; exact hl, fun i hi => ?_⟩, ?_⟩
 ·rw [h.at hi]
  have h1 := h.cv.r i hi
  split
  ·rename_i hc
   have := c2 i hi hc; omega
  ·exact h1
 ·unfold csM
  rw [csC_sum (fun x hx => by have := h.crg x hx; omega) (Nat.le_refl _)]
  obtain ⟨i, hi, hc⟩ := h.ex g0 g1
  have h1 : 0 < (cM t s cs).1.length := List.length_pos_iff.2 fun e => by
   have := CtV.mem.2 ⟨i, hi, hc, rfl⟩
   rw [e] at this; simp at this
  have h2 : 1 * (cM t s cs).2 ≤ ((cM t s cs).1.length : Int) * (cM t s cs).2 := Int.mul_le_mul_of_nonneg_right (by omega) (by omega)
  omega
theorem CtV.step (h : CtV t s cs) (g0 : 0 < gM t s cs) (g1 : gM t s cs < 1000000000) : gM t s cs ≤ (cM t s cs).2 + gM t s (csM t s cs) := by
 have hm := h.hm
 obtain ⟨c0, c1, c2⟩ := h.cost g0 g1
 have hN := (h.next g0 g1).1
 have hf : Fea t s (csM t s cs) fun p => min (nth (vM t s cs) p) (gM t s cs - (cM t s cs).2) := by
  refine ⟨fun p hp => ?_, fun p p0 p1 => ?_, fun i hi p hp b b0 b1 hq => ?_⟩
  ·show min _ _ ≤ _
   rw [hm.s p hp]; omega
  ·show min _ _ ≤ _
   have := hm.vp.r p p0 p1; omega
  ·show min _ _ ≤ _
   have h1 := h.cv.r i hi
   have h2 := hN.cv.r i hi
   by_cases hb : gM t s cs - (cM t s cs).2 ≤ b
   ·unfold plusI; split <;> omega
   ·have hg : gmF (vM t s cs) (nth t.ops i).pre ≤ b := gm_le b0 fun q hq2 => by
     have h6 : min (nth (vM t s cs) q) (gM t s cs - (cM t s cs).2) ≤ b := hq q hq2
     omega
    have hg0 := (gm_cmb _ _ hm.vp (h.tk.op i hi).1.1).1
    rw [← plusI_0 (a := b) (by omega)]
    by_cases hc : inM t s cs i
    ·have e := h.at hi
     rw [if_pos hc] at e
     obtain ⟨_, p', hp', hz⟩ := hc
     have hp2 := setP_mem (h.tk.op i hi).1.2.1 hp'
     have h3 := h.zn g0 p' hp2.1 (by omega) hz
     have h4 : nth (uM t s cs) p' = nth (vM t s cs) p' := exV_at hm.vp.l hp2.1 hp2.2
     have h5 := hm.fix i hi p' hp'
     rw [← plusI_0 (by omega)] at h5
     omega
    ·have e := h.at hi
     rw [if_neg hc] at e
     have h5 := hm.fix i hi p hp
     rw [← plusI_0 (by omega)] at h5
     omega
 obtain ⟨p, hp, _, hg⟩ := h.top g0
 have hr := setP_mem h.tk.goal hp
 have h1 := fea_le hN.tk hN.cv hN.sr hf p hr.1 hr.2
 have h2 : nth (vM t s (csM t s cs)) p ≤ gM t s (csM t s cs) := gm_ge hp
 have h3 : nth (vlW t s (csM t s cs) gmF) p = nth (vM t s (csM t s cs)) p := rfl
 rw [h3] at h1
 simp only [hg] at h1
 omega
def sumC (l : List (List Int × Int)) : Int := (l.map (·.2)).sum
def chgC (l : List (List Int × Int)) (i : Nat) : Int := (l.map fun c => if (i : Int) ∈ c.1 then c.2 else 0).sum
structure CutsP (t : Tsk) (s cs : List Int) (l : List (List Int × Int)) : Prop where
 g : gM t s cs ≤ sumC l
 c : ∀ i : Nat, i < t.ops.length → chgC l i ≤ nth cs i
 n : (l.length : Int) ≤ sumC l
 m : sumC l ≤ cs.sum
 e : ∀ c, c ∈ l → 0 ≤ c.2 ∧ c.1 ≠ [] ∧ c.1.Pairwise (· < ·) ∧ (∀ x, x ∈ c.1 → 0 ≤ x ∧ x < t.ops.length) ∧ ∀ l, Rx t s t.goal l → ∃ i, i ∈ l ∧ (i : Int) ∈ c.1
theorem CsV.sum {cs : List Int} (h : CsV t cs) : 0 ≤ cs.sum ∧ cs.sum ≤ 100 * t.ops.length := by
 have : ∀ l : List Int, (∀ x, x ∈ l → 0 ≤ x ∧ x ≤ 100) → 0 ≤ l.sum ∧ l.sum ≤ 100 * l.length := fun l => by
  induction l with
  | nil => simp
  | cons a l ih =>
   intro hl
   have h1 := hl a (by simp)
   have h2 := ih fun x hx => hl x (by simp [hx])
   simp only [List.sum_cons, List.length_cons]; omega
 rw [← h.l]
 refine this cs fun x hx => ?_
 obtain ⟨i, hi, rfl⟩ := List.getElem_of_mem hx
 have := h.r i (by have := h.l; omega)
 rw [nth_eq hi] at this; exact this
theorem fn_spec (hr : FnR t s cs l T r) (h : CtV t s cs) : (r = ([], 1000000000) ∧ ∀ m, ¬ Rx t s t.goal m) ∨ ∃ m, r = (l ++ m, T + sumC m) ∧ CutsP t s cs m := by
 induction hr with
 | zero hg => exact .inr ⟨[], by simp [sumC], by rw [hg]; simp [sumC], fun i hi => by have := h.cv.r i hi; simp [chgC]; omega, by simp [sumC], by simp [sumC]; exact h.cv.sum.1, fun c hc => by simp at hc⟩
 | inf hg => exact .inl ⟨rfl, fun m hm => by have := h.fin hm; omega⟩
 | @step cs l T r hg0 hg1 hr ih =>
  have hgr := h.gr
  have g0 : 0 < gM t s cs := by omega
  have g1 : gM t s cs < 1000000000 := by omega
  obtain ⟨hN, hsum⟩ := h.next g0 g1
  obtain ⟨c0, c1, c2⟩ := h.cost g0 g1
  rcases ih hN with h1 | ⟨m, h1, h2⟩
  ·exact .inl h1
  ·have hst := h.step g0 g1
   have e1 : sumC (cM t s cs :: m) = (cM t s cs).2 + sumC m := by simp [sumC]
   refine .inr ⟨cM t s cs :: m, by rw [h1, e1]; simp; omega, ?_, fun i hi => ?_, ?_, ?_, fun c hc => ?_⟩
   ·rw [e1]; have := h2.g; omega
   ·have h3 := h2.c i hi
    rw [h.at hi] at h3
    have e2 : chgC (cM t s cs :: m) i = (if (i : Int) ∈ (cM t s cs).1 then (cM t s cs).2 else 0) + chgC m i := by simp [chgC]
    rw [e2]
    by_cases hc : inM t s cs i
    ·rw [if_pos hc] at h3
     rw [if_pos (CtV.mem.2 ⟨i, hi, hc, rfl⟩)]; omega
    ·rw [if_neg hc] at h3
     rw [if_neg fun hm => by
      obtain ⟨j, _, hj, e⟩ := CtV.mem.1 hm
      obtain rfl : i = j := by omega
      exact hc hj]
     omega
   ·rw [e1]; have := h2.n; simp only [List.length_cons]; omega
   ·rw [e1]; have := h2.m; omega
   ·rcases List.mem_cons.1 hc with rfl | hc
    ·obtain ⟨i, hi, hin⟩ := h.ex g0 g1
     exact ⟨by omega, fun e => by have := CtV.mem.2 ⟨i, hi, hin, rfl⟩; rw [e] at this; simp at this, CtV.lt, h.crg, fun l hl => h.hit g0 hl⟩
    ·exact h2.e c hc
structure FnI (t : Tsk) (s : List Int) (x : List Int × List (List Int × Int) × Int) : Prop where
 c : CtV t s x.1
 T : 0 ≤ x.2.2 ∧ x.2.2 + x.1.sum ≤ 4000
 n : (x.2.1.length : Int) ≤ x.2.2
theorem FnI.next {x : List Int × List (List Int × Int) × Int} (h : FnI t s x) (g0 : gM t s x.1 ≠ 0) (g1 : gM t s x.1 ≠ 1000000000) : FnI t s (csM t s x.1, x.2.1 ++ [cM t s x.1], x.2.2 + (cM t s x.1).2) ∧ (csM t s x.1).sum.toNat < x.1.sum.toNat ∧ 0 < (cM t s x.1).2 ∧ (cM t s x.1).2 ≤ 100 := by
 have hgr := h.c.gr
 obtain ⟨hN, hsum⟩ := h.c.next (by omega) (by omega)
 obtain ⟨c0, c1, c2⟩ := h.c.cost (by omega) (by omega)
 have h1 := h.T
 have h2 := h.n
 have h3 := hN.cv.sum
 exact ⟨⟨hN, ⟨by simp only []; omega, by simp only []; omega⟩, by simp only [List.length_append, List.length_singleton]; omega⟩, by omega, c0, c1⟩
theorem fn_ends : ∀ (d : Nat) {x : List Int × List (List Int × Int) × Int}, x.1.sum.toNat < d → FnI t s x → ∃ r, FnR t s x.1 x.2.1 x.2.2 r
 | 0, _, hd, _ => by omega
 | d + 1, x, hd, h => by
  by_cases g0 : gM t s x.1 = 0
  ·exact ⟨_, .zero g0⟩
  ·by_cases g1 : gM t s x.1 = 1000000000
   ·exact ⟨_, .inf g1⟩
   ·obtain ⟨h1, h2, _⟩ := h.next g0 g1
    obtain ⟨r, hr⟩ := fn_ends d (by simp only []; omega) h1
    exact ⟨r, .step g0 g1 hr⟩
theorem fn_0 (hV : TskV t) (hs : ∀ p, p ∈ s → 0 ≤ p ∧ p < t.facts) : FnI t s (cssF t, [], 0) := by
 have h := css_v hV
 have h1 := h.sum
 have h2 := hV.ops
 exact ⟨⟨hV, hs, h⟩, ⟨by simp, by simp; omega⟩, by simp⟩
noncomputable def fnW (t : Tsk) (s : List Int) : List (List Int × Int) × Int := open Classical in if h : ∃ r, FnR t s (cssF t) [] 0 r then h.choose else ([], 0)
theorem fnW_ok (hV : TskV t) (hs : ∀ p, p ∈ s → 0 ≤ p ∧ p < t.facts) : FnR t s (cssF t) [] 0 (fnW t s) := by
 have h : ∃ r, FnR t s (cssF t) [] 0 r := fn_ends _ (Nat.lt_succ_self _) (fn_0 hV hs)
 unfold fnW
 rw [dif_pos h]
 exact h.choose_spec
noncomputable def cutW (t : Tsk) (s : List Int) : List (List Int × Int) × Int := if sttF t s = (0, 0) then fnW t s else ([], 0)
theorem cutW_1 (h : sttF t s ≠ (0, 0)) : cutW t s = ([], 0) := by unfold cutW; rw [if_neg h]
theorem cutW_0 (h : sttF t s = (0, 0)) : cutW t s = fnW t s := by unfold cutW; rw [if_pos h]
end
section
variable {t : Tsk} {s cs u v : List Int} {z b : List Bool}
theorem cutT_le : ∀ {k : Nat}, (cutT t cs u z b k).1.length ≤ k
 | 0 => by simp [cutT]
 | k + 1 => by
  have ih := cutT_le (k := k)
  simp only [cutT]
  split
  ·simp; omega
  ·omega
theorem cut_f {i : Nat} (h : ¬ inCut t u z b i) : cutT t cs u z b (i + 1) = cutT t cs u z b i := by simp only [cutT]; rw [if_neg h]
theorem cut_t {i : Nat} (h : inCut t u z b i) : cutT t cs u z b (i + 1) = ((cutT t cs u z b i).1 ++ [(i : Int)], min (cutT t cs u z b i).2 (nth cs i)) := by simp only [cutT]; rw [if_pos h]
theorem cut_no {l : List Int} (h : ∀ k : Nat, k < l.length → nth z (nth l k) = false) : ¬ ∃ p, p ∈ l ∧ nth z p = true := by
 rintro ⟨p, hp, hz⟩
 obtain ⟨i, hi, rfl⟩ := List.getElem_of_mem hp
 have := h i hi
 rw [nth_eq hi, hz] at this; cases this
theorem gm_ex {n : Int} (hl : (v.length : Int) = n) {f : List Int} (hf : SetP n f) : gmF (exV v) f = gmF v f := by
 have : ∀ k : Nat, k ≤ f.length → gmT (exV v) f k = gmT v f k := fun k => by
  induction k with
  | zero => exact fun _ => rfl
  | succ k ih =>
   intro hk
   have hr := set_rng hf k (by omega)
   simp only [gmT]
   rw [ih (by omega), exV_at hl hr.1 hr.2]
 exact this _ (Nat.le_refl _)
theorem csC_rng (h : CtV t s cs) (g0 : gM t s cs ≠ 0) (g1 : gM t s cs ≠ 1000000000) {k : Nat} (hk : k ≤ (cM t s cs).1.length) {q : Int} (q0 : 0 ≤ q) (q1 : q < t.ops.length) : -100 ≤ nth (csC cs (cM t s cs).1 (cM t s cs).2 k) q ∧ nth (csC cs (cM t s cs).1 (cM t s cs).2 k) q ≤ 100 := by
 have hgr := h.gr
 obtain ⟨c0, c1, _⟩ := h.cost (by omega) (by omega)
 have hl := h.cv.l
 obtain ⟨i, rfl⟩ := Int.eq_ofNat_of_zero_le q0
 have hr := h.cv.r i (by omega)
 rw [csC_at CtV.lt (fun x hx => by have := h.crg x hx; omega) q0 (by omega) hk]
 split <;> omega
end
end Go.Eng
end

section
namespace Go.Eng
section
variable {P : Program} {N : Nat} {w0 : World} {O0 : Nat → Nat} {Q : Post} {hs : List Nat} {e0 : Env} {M0 : Mem} {ops : Array Oper}
theorem PC.doneL1 {id : Nat} {ps : List PO} {e : Env} {rest : List Oper} (k f h1 : Nat) (m1 : Mo) {pf : PO} {ok of : Oper} {e2 : Env} (hm : P.follows .mixedOrders = true) (hkl : ps.length = k) (hok : parOkL ops k f = true) (hh : handOk e0 M0 ps = true) (hso : stOk hs ps = true) (hN : ps.all (fun p => !p.ds || decide (p.d < N)) = true)
  (hpf : ps[f]? = some pf) (hpfs : pf.st = none) (hpfm : pf.mo = none) (hpfd : pf.ds = true) (hof : ops[f]? = some of) (_hd2 : DropR pf.d e e2) (he2 : finE (dropE pf.d e0) (ps.eraseIdx f) = e2) (hM1 : finM M0 ps = (h1, m1) :: M0) (hM2 : finM M0 (ps.eraseIdx f) = (h1, m1) :: M0)
  (ht : TrOps P N w0 O0 ops Q e ((h1, m1) :: M0) (ok :: rest)) (htl : TrOps P N w0 O0 ops Q e2 ((h1, m1) :: M0) (ok :: of :: rest)) : PC P N w0 O0 id ops Q hs e0 M0 ps e (ok :: rest) := by
 subst he2
 exact PC.doneL k f hm hkl hok hh hso hN hpf hpfs hpfm hpfd hof (by rw [hM1]; exact ht) (by rw [hM2]; exact htl)
end
section
variable {P : Program} {N : Nat} {w0 : World} {O0 : Nat → Nat} {e : Env} {M : Mem}
theorem At.retG {fn : Func} {c t hb h k T : Nat} {rows rows' : List (List D)} {v v' : Value} (hres : fn.results.toList = [.cell c t]) (hc : look e c = some (.r hb 0)) (hMb : look M hb = some (.box [.o h, .d (.v v)])) (ht : vsz P t = some (true, 2)) (hM : look M h = some (.own k T rows))
  (hf : ∀ r, r ∈ rows → ∀ d, d ∈ r → ∃ v, d = .v v) (hr : rows = rows') (hv : v = v') : At N w0 O0 e M .ret (bodyPost P fn (Ret true w0 O0 (.g [.d (.s k rows'), .d (.v v')]))) := by
 subst hr; subst hv
 intro O H a w hst
 obtain ⟨vs, h1, h2, h3⟩ := (RetL.cellN (P := P) (rs := []) hc hMb ht .nil).run hst
 obtain ⟨x, rfl⟩ : ∃ x, vs = [x] := by
  rcases vs with _ | ⟨x, _ | ⟨y, vs⟩⟩ <;> simp at h2
  exact ⟨x, rfl⟩
 have hrun : (results fn a.tmps).run P w = .ok x w := by
  rw [results_rv, Array.mapM_eq_mapM_toList, hres]
  simp only [Sem.run_bind, Sem.run_map, h1, Result.andThen_ok, Sem.run_pure]
  simp
 refine ⟨hst.df, _, hrun, _, rfl, hst.bl, ?_⟩
 have hx := h3 0 x _ rfl rfl
 have hB := hst.size
 clear hrun h1 h3 h2
 cases hx with
 | g xs ss hl h1 hg =>
  refine .g xs _ (by rw [hl]; rfl) h1 fun i y s hy hs => ?_
  rcases i with _ | _ | i
  ·simp only [List.getElem?_cons_zero, Option.some.injEq] at hs
   subst hs
   have hy2 := hg 0 y _ hy rfl
   cases hy2 with
   | o h h1' =>
    rcases hst.mem h _ hM with ⟨hn, hr0⟩ | ⟨b, cap, xs', hH, hB', hO', hbb, hlc, hcm, hsz, hw, hcc⟩
    ·subst hr0; rw [hn]; exact .d _ _ (.e none 0 k (by simp [maxLen]))
    ·rw [hH]
     refine .d _ _ (.s b 0 cap k rows (fun n => (xs'[n]?).getD undef) hlc hcm hw (fun _ _ _ _ _ _ => by simp [freshO, Fr, hB']) (fun i r j d hi hj => ?_) (fun i r j d hi hj => ?_))
     ·obtain ⟨y, hy, _⟩ := hcc i r j d hi hj
      rw [cellOf hbb (by rw [Nat.zero_add]; exact hy), hy]; rfl
     ·obtain ⟨y, hy, hr, _⟩ := hcc i r j d hi hj
      obtain ⟨z, rfl⟩ := hf r (List.mem_of_getElem? hi) d (List.mem_of_getElem? hj)
      simp only [hy, Option.getD_some]
      cases hr with
      | v _ => exact .v _
  ·simp only [List.getElem?_cons_succ, List.getElem?_cons_zero, Option.some.injEq] at hs
   subst hs
   have hy2 := hg 1 y _ hy rfl
   cases hy2 with
   | d _ _ q => cases q with
    | v _ => exact .d _ _ (.v _)
  ·simp at hs
end
end Go.Eng
end
