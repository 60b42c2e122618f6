/- Part 4. -/
import Derived.Test.YtgophedpkiidkaaGreatE3
import Derived.Shelf.SlSortCmp.NoneTotal
import Derived.Shelf.SortM.Plain
import Derived.Shelf.SortM.SortNone
set_option linter.unusedSimpArgs false
set_option linter.unnecessarySimpa false
set_option linter.unusedVariables false
set_option linter.unusedSectionVars false
section
namespace Go.Proofs.YtgophedpkiidkaaGreat
open Go.Eng
set_option maxRecDepth 10000
set_option maxHeartbeats 1000000
theorem project_Check_does (m : Multi) (vars : List Int) (i : Int) : Does Tryz.prog false 61 [multi m, .d (ints vars), I (i)] (flt (patFault m.sizes vars i)) := by
 refine Does.of_body Tryz.func61 rfl rfl (by simp) Tryz.call61 (fun w0 O0 => ?_); refine .lg 0 0 fun len0_0 => ?_; refine .lg 0 1 fun len0_1 => ?_; refine .lg 0 2 fun len0_2 => ?_; refine .lg 0 3 fun len0_3 => ?_; refine .le 1 fun len1 => ?_; refine .g <| .r <| .bx 3 ?_; refine .al 6 zc32 ?_; refine .sq <| .g <| .g <| .r <| .m ?_; refine .x (.n es22) ?_; refine .x (.b beql) ?_; refine .sq <| .cond rfl (fun c11 => ?_) (fun c11 => ?_)
 ·refine .g <| .r <| .m ?_; refine .x (.bd pl32 zc32) ?_; refine .sb vs32 ?_; exact .sq <| .t <| .t <| .ret rfl (.cellN rfl rfl vs32 <| .nil) rfl (Le.flt (patFault_bad (patCode_9 (by simp only [decide_eq_true_eq] at c11; omega)) (by decide)))
 ·have h0 : vars.length ≠ 0 := by simp only [decide_eq_false_iff_not] at c11; omega
  refine .p <| .g <| .g <| .g <| .r <| .m ?_; refine .x (.n es22) ?_; refine .m ?_; refine .sq <| .k <| .loop (X := Nat) (fun k => k ≤ vars.length ∧ ∀ j : Nat, j < k → PatOk m.sizes vars j) (fun k => [(1, .d (ints vars)), (2, I (i)), (3, .r 3 0), (6, .r 6 0), (14, .d (ints vars)), (15, I (vars.length)), (16, I (k))]) (fun k => [(3, .box [.d (ints m.sizes), .d (ints m.init), .d (asgs m.goal), .d (opsD m.ops)]), (6, .box [I (0), I (0)])]) (fun k => vars.length - k) 0 ⟨by omega, by simp⟩ ?_ ?_
  ·exact .p5 <| .sl <| .slot rfl (Le.of_eq (by simp)) <| .all
  ·rintro k ⟨hkl, hinv⟩
   refine .g <| .r <| .x (.b blss) ?_; refine .sq <| .g <| .cond rfl (fun c17 => ?_) (fun c17 => ?_)
   ·have hk : k < vars.length := by simpa using c17
    refine .p <| .g <| .g <| .k <| .g <| .r <| .m ?_; refine .x (.i es22) ?_; refine .x (.l1 vs3) ?_; refine .a ?_; refine .a ?_; refine .z <| .m ?_; refine .x (.b blss) ?_; refine .m ?_; refine .split (n := 23) rfl (fun c23 => ?_) (fun c23 => ?_)
    ·refine .hf c23 ?_; refine .hf c23 ?_; refine .hf c23 ?_; refine .hf c23 ?_; refine .hf c23 ?_; refine .x (OpSem.pickT rfl rfl c23 rfl) ?_; refine .m ?_; refine .hf rfl ?_; refine .hf rfl ?_; refine .hf rfl ?_; refine .gu ?_; refine .gu ?_; refine .gu ?_; refine .gu ?_; refine .gu ?_; refine .gu ?_; refine .gu ?_; refine .hf rfl ?_; refine .x (OpSem.pickT rfl rfl rfl rfl) ?_; refine .sq <| .condT rfl rfl ?_; refine .g <| .r <| .m ?_; refine .x (.bd pl32 zc32) ?_; refine .sb vs32 ?_; exact .sq <| .t <| .k <| .t <| .t <| .k <| .t <| .ret rfl (.cellN rfl rfl vs32 <| .nil) rfl (Le.flt (patFault_bad (patCode_5 h0 k hk (fun hb => by have h3 := hb.2.2; have h1 := hb.1; have h2 := hb.2.1; first | (simp only [decide_eq_true_eq] at c23; omega) | (simp only [decide_eq_true_eq] at c30; omega) | (simp only [decide_eq_true_eq] at c33 c42; omega))) (by decide)))
    ·refine .ht c23 ?_; refine .m ?_; refine .ht c23 ?_; refine .x (.f fo26_0) ?_; refine .ht c23 ?_; refine .x (.l vs22) ?_; refine .ht c23 ?_; refine .x (.n es22) ?_; refine .ht c23 ?_; refine .x (.b bgeq) ?_; refine .x (OpSem.pickF rfl rfl c23 rfl) ?_; refine .m ?_; refine .split (n := 30) rfl (fun c30 => ?_) (fun c30 => ?_)
     ·refine .hf c30 ?_; refine .hf c30 ?_; refine .hf c30 ?_; refine .gu ?_; refine .gu ?_; refine .gu ?_; refine .gu ?_; refine .gu ?_; refine .gu ?_; refine .gu ?_; refine .hf c30 ?_; refine .x (OpSem.pickT rfl rfl c30 rfl) ?_; refine .sq <| .condT rfl rfl ?_; refine .g <| .r <| .m ?_; refine .x (.bd pl32 zc32) ?_; refine .sb vs32 ?_; exact .sq <| .t <| .k <| .t <| .t <| .k <| .t <| .ret rfl (.cellN rfl rfl vs32 <| .nil) rfl (Le.flt (patFault_bad (patCode_5 h0 k hk (fun hb => by have h3 := hb.2.2; have h1 := hb.1; have h2 := hb.2.1; first | (simp only [decide_eq_true_eq] at c23; omega) | (simp only [decide_eq_true_eq] at c30; omega) | (simp only [decide_eq_true_eq] at c33 c42; omega))) (by decide)))
     ·refine .ht c30 ?_; refine .m ?_; refine .ht c30 ?_; refine .x (.b bgtr) ?_; refine .ht c30 ?_; refine .m ?_; refine .split (n := 33) rfl (fun c33 => ?_) (fun c33 => ?_)
      ·refine .gt c33 ?_; refine .m ?_; refine .gt c33 ?_; refine .m ?_; refine .gt c33 ?_; refine .m ?_; refine .gt c33 ?_; refine .x .su ?_; refine .gt c33 ?_; refine .x (OpSem.idxL rfl rfl rfl es22 (by simp only [decide_eq_true_eq] at c33; omega) (by omega)) ?_; refine .gt c33 ?_; refine .x (.l1 vs3) ?_; refine .gt c33 ?_; refine .x (.b bleq) ?_; refine .ht c30 ?_; refine .x (OpSem.pickT rfl rfl c33 rfl) ?_; refine .x (OpSem.pickF rfl rfl c30 rfl) ?_; refine .sq <| .cond rfl (fun c42 => ?_) (fun c42 => ?_)
       ·refine .g <| .r <| .m ?_; refine .x (.bd pl32 zc32) ?_; refine .sb vs32 ?_; exact .sq <| .t <| .k <| .t <| .t <| .k <| .t <| .ret rfl (.cellN rfl rfl vs32 <| .nil) rfl (Le.flt (patFault_bad (patCode_5 h0 k hk (fun hb => by have h3 := hb.2.2; have h1 := hb.1; have h2 := hb.2.1; first | (simp only [decide_eq_true_eq] at c23; omega) | (simp only [decide_eq_true_eq] at c30; omega) | (simp only [decide_eq_true_eq] at c33 c42; omega))) (by decide)))
       ·refine .p <| .n <| .y <| .x .ad ?_; refine .m ?_; refine .n ?_
        have hb : PatOk m.sizes vars k := by first | (simp only [decide_eq_true_eq, decide_eq_false_iff_not] at c23 c30 c33 c42; exact ⟨by omega, by omega, fun _ => by omega⟩) | (simp only [decide_eq_true_eq, decide_eq_false_iff_not] at c23 c30 c33; exact ⟨by omega, by omega, fun hp => by omega⟩)
        refine .again (k + 1) ⟨by omega, all_succ hinv hb⟩ ?_ (by omega); exact .p5 <| .sl <| .slot rfl (Le.of_eq (by simp)) <| .all
      ·refine .gf c33 ?_; refine .gf c33 ?_; refine .gf c33 ?_; refine .gf c33 ?_; refine .gf c33 ?_; refine .gf c33 ?_; refine .gf c33 ?_; refine .ht c30 ?_; refine .x (OpSem.pickF rfl rfl c33 rfl) ?_; refine .x (OpSem.pickF rfl rfl c30 rfl) ?_; refine .sq <| .condF rfl rfl ?_; refine .p <| .n <| .y <| .x .ad ?_; refine .m ?_; refine .n ?_
       have hb : PatOk m.sizes vars k := by first | (simp only [decide_eq_true_eq, decide_eq_false_iff_not] at c23 c30 c33 c42; exact ⟨by omega, by omega, fun _ => by omega⟩) | (simp only [decide_eq_true_eq, decide_eq_false_iff_not] at c23 c30 c33; exact ⟨by omega, by omega, fun hp => by omega⟩)
       refine .again (k + 1) ⟨by omega, all_succ hinv hb⟩ ?_ (by omega); exact .p5 <| .sl <| .slot rfl (Le.of_eq (by simp)) <| .all
   ·have hk : k = vars.length := by simp at c17; omega
    refine .u <| .u <| .u <| .b <| .z <| .x (.bd pl32 zc32) ?_; refine .sb vs32 ?_; exact .sq <| .t <| .ret rfl (.cellN rfl rfl vs32 <| .nil) rfl (Le.flt (patFault_ok (by subst hk; exact patCode_0 h0 hinv)))
theorem project_Select_does (s vars : List Int) (hv : ∀ i : Nat, i < vars.length → 0 ≤ nth vars i ∧ nth vars i < s.length) (hl : vars.length ≤ 1000) : DoesO Tryz.prog 66 [.d (ints s), .d (ints vars)] 1 3 (((selTo s vars vars.length).map fun n => [D.v (.int .i64 n)])) := by
 refine DoesO.of_body Tryz.func66 rfl rfl (by simp) Tryz.call66 (fun w0 O0 => ?_); refine .le 0 fun len0 => ?_; refine .le 1 fun len1 => ?_; refine .g <| .r <| .a ?_; refine .z <| .a ?_; refine .sq <| .g <| .g <| .ownNil (n := 5) 5 1 3 rfl ?_; refine .r <| .m ?_; refine .x (.n es22) ?_; refine .m ?_; refine .sq <| .k <| .loop (X := Nat) (fun k => k ≤ vars.length) (fun k => [(0, .d (ints s)), (5, .o 5), (8, .d (ints vars)), (9, I (vars.length)), (10, I (k))]) (fun k => [(5, .own 1 3 ((selTo s vars k).map fun n => [D.v (.int .i64 n)]))]) (fun k => vars.length - k) 0 (by omega) ?_ ?_
 ·exact .p3 <| .sl <| .slot rfl (Le.of_eq (by simp)) <| .memEq rfl (by simp [selTo]) <| .nil
 ·rintro k hkl
  refine .g <| .r <| .x (.b blss) ?_; refine .sq <| .g <| .cond rfl (fun c11 => ?_) (fun c11 => ?_)
  ·have hk : k < vars.length := by simpa using c11
   have hvk := hv k hk
   have hsl := selTo_len (s := s) (vars := vars) (k := k)
   refine .p <| .g <| .g <| .k <| .g <| .r <| .x (.i es22) ?_; refine .x (.l1 vs3) ?_; refine .a ?_; refine .y <| .mm ?_; refine .m ?_; refine .x (.i es22) ?_; refine .x (.l1 vs3) ?_; refine .x (.bs es22 ze22) ?_; refine .append rfl rfl rfl (by decide) rfl rfl rfl es22 el22 zc3 rfl by3 (by simp [D.one, Value.oneCell']) (by simp [maxLen, hsl]; omega) (by simp [hsl]; omega) ?_; refine .a ?_; refine .n <| .n <| .y <| .x .ad ?_; refine .m ?_; refine .n <| .again (k + 1) (by omega) ?_ (by omega); exact .p3 <| .sl <| .slot rfl (Le.of_eq (by simp)) <| .memEq rfl (by rw [selTo_s]; simp) <| .nil
  ·have hk : k = vars.length := by simp at c11; omega
   refine .u <| .u <| .u <| .b <| .z <| .m ?_; refine .a ?_; exact .sq <| .t <| .retO2 rfl rfl rfl (by simp) (by rw [hk])
theorem project_large_does (m : Multi) (vars : List Int) (hv : Valid m) (hp : PatP m.sizes vars) : Does Tryz.prog false 62 [multi m, .d (ints vars)] (Bo (decide (2000 < prodTo m.sizes vars vars.length))) := by
 have hl := hv.len
 have hpl := pat_len hp
 refine Does.of_body Tryz.func62 rfl rfl (by simp) Tryz.call62 (fun w0 O0 => ?_); refine .lg 0 0 fun len0_0 => ?_; refine .lg 0 1 fun len0_1 => ?_; refine .lg 0 2 fun len0_2 => ?_; refine .lg 0 3 fun len0_3 => ?_; refine .le 1 fun len1 => ?_; refine .g <| .r <| .bx 2 ?_; refine .a ?_; refine .z <| .a ?_; refine .sq <| .g <| .g <| .r <| .m ?_; refine .x (.n es22) ?_; refine .m ?_; refine .sq <| .k <| .loop (X := Nat) (fun k => k ≤ vars.length) (fun k => [(2, .r 2 0), (5, I (prodTo m.sizes vars k)), (8, .d (ints vars)), (9, I (vars.length)), (10, I (k))]) (fun k => [(2, .box [.d (ints m.sizes), .d (ints m.init), .d (asgs m.goal), .d (opsD m.ops)])]) (fun k => vars.length - k) 0 (by omega) ?_ ?_
 ·exact .p3 <| .sl <| .slot rfl (Le.of_eq (by simp)) <| .mem rfl <| .nil
 ·rintro k hkl
  refine .g <| .r <| .x (.b blss) ?_; refine .sq <| .g <| .cond rfl (fun c11 => ?_) (fun c11 => ?_)
  ·have hk : k < vars.length := by simpa using c11
   have h1 := prodTo_in hv.sizes hp (k := k + 1) (by omega)
   have h2 := pow6_le (k := k + 1) (by omega)
   simp only [prodTo] at h1
   have hpk := hp k hk
   refine .p <| .g <| .g <| .k <| .g <| .r <| .x (.i es22) ?_; refine .x (.l1 vs3) ?_; refine .a ?_; refine .y <| .m ?_; refine .x (.f fo26_0) ?_; refine .x (.l vs22) ?_; refine .m ?_; refine .x (.i es22) ?_; refine .x (.l1 vs3) ?_; refine .x (OpSem.bin rfl rfl rfl (bmul (by omega) (by omega))) ?_; refine .a ?_; refine .n <| .n <| .y <| .x .ad ?_; refine .m ?_; refine .n <| .again (k + 1) (by omega) ?_ (by omega); exact .p3 <| .sl <| .slot rfl (Le.of_eq (by simp)) <| .mem rfl <| .nil
  ·have hk : k = vars.length := by simp at c11; omega
   refine .u <| .u <| .u <| .b <| .z <| .m ?_; refine .x (.b bgtr) ?_; refine .a ?_; exact .sq <| .t <| .ret rfl (.tmp rfl <| .nil) rfl (Le.bo (by rw [hk]))
theorem project_restrict_does (l : List Asg) (vars : List Int) (hl : l.length ≤ 100) (hv : vars.length ≤ 100) : Does Tryz.prog false 89 [.d (asgs l), .d (ints vars)] (.d (asgs (restrictTo l vars l.length))) := by
 refine Does.of_body Tryz.func89 rfl rfl (by simp) Tryz.call89 (fun w0 O0 => ?_); refine .le 0 fun len0 => ?_; refine .le 1 fun len1 => ?_; refine .g <| .r <| .a ?_; refine .z <| .a ?_; refine .sq <| .g <| .g <| .ownNil (n := 5) 5 2 87 rfl ?_; refine .r <| .m ?_; refine .x (.n es23) ?_; refine .m ?_; refine .sq <| .k <| .loop (X := Nat) (fun k => k ≤ l.length) (fun k => [(1, .d (ints vars)), (5, .o 5), (10, .d (asgs l)), (11, I (l.length)), (12, I (k))]) (fun k => [(5, .own 2 87 ((restrictTo l vars k).map asg))]) (fun k => l.length - k) 0 (by omega) ?_ ?_
 ·exact .p3 <| .sl <| .slot rfl (Le.of_eq (by simp)) <| .memEq rfl (by simp [restrictTo]) <| .nil
 ·rintro k hkl
  refine .g <| .r <| .x (.b blss) ?_; refine .sq <| .g <| .cond rfl (fun c13 => ?_) (fun c13 => ?_)
  ·have hk : k < l.length := by simpa using c13
   have hrl := restrictTo_len (l := l) (vars := vars) (k := k)
   have hkv : k * vars.length ≤ 100 * 100 := Nat.mul_le_mul (by omega) hv
   refine .p <| .g <| .g <| .k <| .g <| .r <| .x (.i es23) ?_; refine .x (.lN vs87) ?_; refine .al 7 zc87 ?_; refine .sb vs87 ?_; refine .z <| .m ?_; refine .x (.n es22) ?_; refine .m ?_; refine .sq <| .k <| .loop (X := Nat) (fun j => j ≤ vars.length) (fun j => [(1, .d (ints vars)), (5, .o 5), (7, .r 7 0), (10, .d (asgs l)), (11, I (l.length)), (12, I (k)), (16, .d (ints vars)), (17, I (vars.length)), (18, I (j))]) (fun j => [(5, .own 2 87 ((restrictTo l vars k ++ matchR (nth l k) vars j).map asg)), (7, .box [I ((nth l k).1), I ((nth l k).2)])]) (fun j => vars.length - j) 0 (by omega) ?_ ?_
   ·exact .p5 <| .p3 <| .slot rfl (Le.of_eq (by simp)) <| .memEq rfl (by simp only [matchR, List.append_nil]; rfl) <| .mem rfl <| .nil
   ·rintro j hjl
    refine .g <| .r <| .x (.b blss) ?_; refine .sq <| .g <| .cond rfl (fun c19 => ?_) (fun c19 => ?_)
    ·have hj : j < vars.length := by simpa using c19
     have hml := matchR_len (a := nth l k) (vars := vars) (j := j)
     refine .p <| .g <| .g <| .k <| .g <| .r <| .m ?_; refine .x (.i es22) ?_; refine .x (.l1 vs3) ?_; refine .a ?_; refine .a ?_; refine .z <| .x (.f fo87_0) ?_; refine .x (.l vs3) ?_; refine .m ?_; refine .x (.b beql) ?_; refine .sq <| .cond rfl (fun c26 => ?_) (fun c26 => ?_)
     ·refine .r <| .mm ?_; refine .x (.f fo87_1) ?_; refine .x (.l vs3) ?_; refine .x (.bd pl87 zc87) ?_; refine .x (.bs es23 ze23) ?_; refine .ap es23 el23 zc87 by87 ?_; refine .a ?_; refine .n <| .n <| .y <| .x .ad ?_; refine .m ?_; refine .n <| .again (j + 1) (by omega) ?_ (by omega); exact .p5 <| .p3 <| .slot rfl (Le.of_eq (by simp)) <| .memEq rfl (by simp only [matchR]; rw [if_pos (by simpa using c26)]; simp) <| .mem rfl <| .nil
     ·refine .p <| .n <| .y <| .x .ad ?_; refine .m ?_; refine .n <| .again (j + 1) (by omega) ?_ (by omega); exact .p5 <| .p3 <| .slot rfl (Le.of_eq (by simp)) <| .memEq rfl (by simp only [matchR]; rw [if_neg (by simpa using c26)]) <| .mem rfl <| .nil
    ·have hj : j = vars.length := by simp at c19; omega
     refine .u <| .u <| .u <| .b <| .n <| .y <| .x .ad ?_; refine .m ?_; refine .n ?_
     subst hj
     refine .again (k + 1) (by omega) ?_ (by omega); exact .p3 <| .sl <| .slot rfl (Le.of_eq (by simp)) <| .memEq rfl rfl <| .nil
  ·have hk : k = l.length := by simp at c13; omega
   refine .u <| .u <| .u <| .b <| .g <| .g <| .freeze 5 rfl ?_; refine .r <| .m ?_; refine .a ?_; exact .sq <| .t <| .ret rfl (.tmp rfl <| .nil) rfl (Le.d (by rw [hk]))
theorem project_Rank_does (sizes s : List Int) (hz : SizesP sizes) (hs : StateP sizes s) (hl : sizes.length ≤ 8) : Does Tryz.prog false 65 [.d (ints sizes), .d (ints s)] (I (rank sizes s)) := by
 have hsl := hs.1
 refine Does.of_body Tryz.func65 rfl rfl (by simp) Tryz.call65 (fun w0 O0 => ?_); refine .le 0 fun len0 => ?_; refine .le 1 fun len1 => ?_; refine .g <| .r <| .a ?_; refine .z <| .a ?_; refine .sq <| .g <| .g <| .r <| .m ?_; refine .x (.n es22) ?_; refine .m ?_; refine .sq <| .k <| .loop (X := Nat) (fun k => k ≤ s.length) (fun k => [(0, .d (ints sizes)), (5, I (rankTo sizes s k)), (8, .d (ints s)), (9, I (s.length)), (10, I (k))]) (fun k => []) (fun k => s.length - k) 0 (by omega) ?_ ?_
 ·exact .p3 <| .sl <| .slot rfl (Le.of_eq (by simp)) <| .nil
 ·rintro k hkl
  refine .g <| .r <| .x (.b blss) ?_; refine .sq <| .g <| .cond rfl (fun c11 => ?_) (fun c11 => ?_)
  ·have hk : k < s.length := by simpa using c11
   have h0 := rankTo_in hz hs (k := k) (by omega)
   have h1 := rankTo_in hz hs (k := k + 1) (by omega)
   have h2 := pow6_le (k := k + 1) (by omega)
   have h3 := ranksTo_in hz (k := k + 1) (by omega)
   simp only [rankTo] at h1
   have hzk := hz k (by omega)
   have h4 := Int.mul_nonneg h0.1 (show 0 ≤ nth sizes k by omega)
   have hx := hs.2 k (by omega)
   refine .p <| .g <| .g <| .k <| .g <| .r <| .m ?_; refine .x (.i es22) ?_; refine .x (.l1 vs3) ?_; refine .a ?_; refine .a ?_; refine .y <| .mm ?_; refine .m ?_; refine .x (.i es22) ?_; refine .x (.l1 vs3) ?_; refine .x (OpSem.bin rfl rfl rfl (bmul (by omega) (by omega))) ?_; refine .m ?_; refine .x .ad ?_; refine .a ?_; refine .n <| .n <| .y <| .x .ad ?_; refine .m ?_; refine .n <| .again (k + 1) (by omega) ?_ (by omega); exact .p3 <| .sl <| .slot rfl (Le.of_eq (by simp)) <| .nil
  ·have hk : k = s.length := by simp at c11; omega
   refine .u <| .u <| .u <| .b <| .z <| .m ?_; refine .a ?_; exact .sq <| .t <| .ret rfl (.tmp rfl <| .nil) rfl (Le.i (by rw [hk]; rfl))
theorem project_States_does (sizes : List Int) (hz : SizesP sizes) (hl : sizes.length ≤ 8) : Does Tryz.prog false 90 [.d (ints sizes)] (.d (rows (statesL sizes))) := by
 refine Does.of_body Tryz.func90 rfl rfl (by simp) Tryz.call90 (fun w0 O0 => ?_); refine .le 0 fun len0 => ?_; refine .g <| .r <| .a ?_; refine .z <| .x (OpSem.le (s' := .d (rows [[]])) (.bs es37 ze37) (Le.ofD (.rows (.cons (.cons (.nil 1) .nil) .nil)))) ?_; refine .a ?_; refine .sq <| .g <| .g <| .r <| .m ?_; refine .x (.n es22) ?_; refine .m ?_; refine .sq <| .k <| .loop (X := Nat) (fun k => k ≤ sizes.length) (fun k => [(3, .d (rows (statesTo sizes k))), (11, .d (ints sizes)), (12, I (sizes.length)), (13, I (k))]) (fun k => []) (fun k => sizes.length - k) 0 (by omega) ?_ ?_
 ·exact .slot rfl (Le.of_eq rfl) <| .p2 <| .slot rfl (Le.of_eq (by simp)) <| .nil
 ·rintro k hkl
  refine .g <| .r <| .x (.b blss) ?_; refine .sq <| .g <| .cond rfl (fun c14 => ?_) (fun c14 => ?_)
  ·have hk : k < sizes.length := by simpa using c14
   have hzk := hz k hk
   have hb2 : (statesTo sizes k).length * (nth sizes k).toNat ≤ 1679616 := by have h1 := statesTo_len hz (k := k + 1) (by omega); have h2 := ranksTo_in hz (k := k + 1) (by omega); have h3 := pow6_le (k := k + 1) (by omega); simp only [statesTo, expTo_len] at h1; omega
   have hb3 : (statesTo sizes k).length ≤ 1679616 := by have := Nat.le_mul_of_pos_right (statesTo sizes k).length (show 0 < (nth sizes k).toNat by omega); omega
   refine .p <| .g <| .g <| .k <| .g <| .r <| .x (.i es22) ?_; refine .x (.l1 vs3) ?_; refine .a ?_; refine .z <| .a ?_; refine .sq <| .g <| .g <| .ownNil (n := 6) 6 1 22 rfl ?_; refine .r <| .m ?_; refine .x (.n es37) ?_; refine .m ?_; refine .sq <| .k <| .loop (X := Nat) (fun i => i ≤ (statesTo sizes k).length) (fun i => [(3, .d (rows (statesTo sizes k))), (5, I ((nth sizes k))), (6, .o 6), (11, .d (ints sizes)), (12, I (sizes.length)), (13, I (k)), (17, .d (rows (statesTo sizes k))), (18, I ((statesTo sizes k).length)), (19, I (i))]) (fun i => [(6, .own 1 22 ((expTo (statesTo sizes k) (nth sizes k).toNat i).map fun r => [ints r]))]) (fun i => (statesTo sizes k).length - i) 0 (by omega) ?_ ?_
   ·exact .p5 <| .p3 <| .slot rfl (Le.of_eq (by simp)) <| .memEq rfl rfl <| .nil
   ·rintro i hil
    refine .g <| .r <| .x (.b blss) ?_; refine .sq <| .g <| .cond rfl (fun c20 => ?_) (fun c20 => ?_)
    ·have hi : i < (statesTo sizes k).length := by simpa using c20
     have hpre := (statesTo_at hz (k := k) (by omega) i hi).1.1
     have hb1 : (i + 1) * (nth sizes k).toNat ≤ (statesTo sizes k).length * (nth sizes k).toNat := Nat.mul_le_mul_right _ (by omega)
     rw [Nat.succ_mul] at hb1
     refine .p <| .g <| .g <| .k <| .g <| .r <| .x (.i es37) ?_; refine .x (.l1 vs22) ?_; refine .a ?_; refine .z <| .mm ?_; refine .sq <| .k <| .loop (X := Nat) (fun v => v ≤ (nth sizes k).toNat) (fun v => [(3, .d (rows (statesTo sizes k))), (5, I ((nth sizes k))), (6, .o 6), (8, .d (ints (nth (statesTo sizes k) i))), (11, .d (ints sizes)), (12, I (sizes.length)), (13, I (k)), (17, .d (rows (statesTo sizes k))), (18, I ((statesTo sizes k).length)), (19, I (i)), (23, I ((nth sizes k))), (24, I (v))]) (fun v => [(6, .own 1 22 (((expTo (statesTo sizes k) (nth sizes k).toNat i) ++ expR (nth (statesTo sizes k) i) v).map fun r => [ints r]))]) (fun v => (nth sizes k).toNat - v) 0 (by omega) ?_ ?_
     ·exact .p5 <| .p5 <| .sl <| .slot rfl (Le.of_eq (by simp)) <| .memEq rfl (by simp [expR]) <| .nil
     ·rintro v hvl
      refine .g <| .r <| .x (.b blss) ?_; refine .sq <| .g <| .cond rfl (fun c25 => ?_) (fun c25 => ?_)
      ·have hv : v < (nth sizes k).toNat := by simp at c25; omega
       refine .p <| .g <| .g <| .k <| .g <| .r <| .m ?_; refine .a ?_; refine .y <| .mm ?_; refine .m ?_; refine .x (.n es22) ?_; refine .m ?_; refine .x (.n es22) ?_; refine .x (OpSem.clipL rfl rfl rfl rfl es22) ?_; refine .m ?_; refine .x (.bs es22 ze22) ?_; refine .semM (OpSem.appendC 36 rfl rfl rfl es22 el22 zc3 rfl (by decide) by3 (by intro r hr; simp at hr; rcases hr with ⟨a, _, rfl⟩ | rfl <;> simp [D.one, Value.oneCell']) (by simp) (by simp [maxLen]; omega) (by simp; omega)) rfl rfl (by decide) ?_; refine .freeze 36 rfl ?_; refine .x (.bs es37 ze37) ?_; refine .append rfl rfl rfl (by decide) rfl rfl rfl es37 el37 zc22 rfl by22 (by simp [D.one]) (by simp [maxLen, expTo_len, expR_len]; omega) (by simp [expTo_len, expR_len]; omega) ?_; refine .a ?_; refine .n <| .n <| .y <| .x .ad ?_; refine .m ?_; refine .n <| .again (v + 1) (by omega) ?_ (by omega); exact .p5 <| .p5 <| .sl <| .slot rfl (Le.of_eq (by simp)) <| .memEq rfl (by rw [expR_s]; simp) <| .nil
      ·have hv : v = (nth sizes k).toNat := by simp at c25; omega
       refine .u <| .u <| .u <| .b <| .n <| .y <| .x .ad ?_; refine .m ?_; refine .n ?_
       subst hv
       refine .again (i + 1) (by omega) ?_ (by omega); exact .p5 <| .p3 <| .slot rfl (Le.of_eq (by simp)) <| .memEq rfl rfl <| .nil
    ·have hi : i = (statesTo sizes k).length := by simp at c20; omega
     refine .u <| .u <| .u <| .b <| .g <| .freeze 6 rfl ?_; refine .r <| .m ?_; refine .a ?_; refine .n <| .n <| .y <| .x .ad ?_; refine .m ?_; refine .n <| .again (k + 1) (by omega) ?_ (by omega); exact .slot rfl (Le.d (by rw [hi]; rfl)) <| .p2 <| .slot rfl (Le.of_eq (by simp)) <| .nil
  ·have hk : k = sizes.length := by simp at c14; omega
   refine .u <| .u <| .u <| .b <| .z <| .m ?_; refine .a ?_; exact .sq <| .t <| .ret rfl (.tmp rfl <| .nil) rfl (Le.d (by rw [hk]; rfl))
theorem project_To_does (m : Multi) (vars : List Int) (hv : Valid m) (hp : PatP m.sizes vars) : Does Tryz.prog false 63 [multi m, .d (ints vars)] (multi (projM m vars)) := by
 have hl := hv.len
 have hpl := pat_len hp
 have hol := hv.opsLen
 have hgl := asgs_len hv.goal
 have hin1 : ∀ i : Nat, i < vars.length → 0 ≤ nth vars i ∧ nth vars i < m.sizes.length := fun i hi => ⟨(hp i hi).1, (hp i hi).2.1⟩
 have hin2 : ∀ i : Nat, i < vars.length → 0 ≤ nth vars i ∧ nth vars i < m.init.length := by rw [hv.init.1]; exact hin1
 refine Does.of_body Tryz.func63 rfl rfl (by simp) Tryz.call63 (fun w0 O0 => ?_); refine .lg 0 0 fun len0_0 => ?_; refine .lg 0 1 fun len0_1 => ?_; refine .lg 0 2 fun len0_2 => ?_; refine .lg 0 3 fun len0_3 => ?_; refine .le 1 fun len1 => ?_; refine .g <| .r <| .bx 2 ?_; refine .al 4 zc26 ?_; refine .sq <| .g <| PC.start [] ?_; refine .x (.f fo26_0) ?_; refine .x (.l vs22) ?_; refine .m ?_; refine .x (OpSem.call0 (project_Select_does m.sizes vars hin1 (by omega)).fresh rfl rfl rfl rfl (Les.refl _)) ?_; refine .x (.f fo26_1) ?_; refine .x (.l vs22) ?_; refine .m ?_; refine .x (OpSem.call0 (project_Select_does m.init vars hin2 (by omega)).fresh rfl rfl rfl rfl (Les.refl _)) ?_; refine .x (.f fo26_2) ?_; refine .x (.l vs23) ?_; refine .m ?_; refine .x (OpSem.call0 (project_restrict_does m.goal vars (by omega) (by omega)) rfl rfl rfl rfl (Les.refl _)) ?_; refine .x (.bd pl26 zc26) ?_; refine .semM (OpSem.alloc 5 rfl zc26 rfl) rfl rfl ?_; refine .d1 5 (.box [.d (.v (.slice none 0 0)), .d (.v (.slice none 0 0)), .d (.v (.slice none 0 0)), .d (.v (.slice none 0 0))]) mixed ?_; refine .sb vs26 ?_; refine .sq <| .g <| .g <| .ownNilBox 90 5 3 3 89 rfl rfl rfl ?_; refine .r <| .x (.f fo26_3) ?_; refine .x (.l vs24) ?_; refine .x (.n es24) ?_; refine .m ?_; refine .sq <| .k <| .loop (X := Nat) (fun k => k ≤ m.ops.length) (fun k => [(1, .d (ints vars)), (4, .r 4 0), (5, .r 5 0), (22, .d (opsD m.ops)), (23, I (m.ops.length)), (24, I (k))]) (fun k => [(5, .box [.d (ints (selTo m.sizes vars vars.length)), .d (ints (selTo m.init vars vars.length)), .d (asgs (restrictTo m.goal vars m.goal.length)), .o 90]), (90, .own 3 89 ((opTo m vars k).map opC)), (4, .box [.d (.v (.slice none 0 0)), .d (.v (.slice none 0 0)), .d (.v (.slice none 0 0)), .d (.v (.slice none 0 0))])]) (fun k => m.ops.length - k) 0 (by omega) ?_ ?_
 ·exact .p5 <| .slot rfl (Le.of_eq (by simp)) <| .mem rfl <| .memEq rfl rfl <| .mem rfl <| .nil
 ·rintro k hkl
  refine .g <| .r <| .x (.b blss) ?_; refine .sq <| .g <| .cond rfl (fun c25 => ?_) (fun c25 => ?_)
  ·have hk : k < m.ops.length := by simpa using c25
   have ho := hv.op k hk
   have hl1 := asgs_len ho.1
   have hl2 := asgs_len ho.2.1
   refine .p <| .g <| .g <| .k <| .g <| .r <| .x (.i es24) ?_; refine .x (.lN vs89) ?_; refine .al 7 zc89 ?_; refine .sb vs89 ?_; refine .sq <| PC.start [] ?_; refine .x (.f fo26_3) ?_; refine .x (.l vs24) ?_; refine .x (.f fo89_0) ?_; refine .x (.l vs23) ?_; refine .m ?_; refine .x (OpSem.call0 (project_restrict_does (nth m.ops k).pre vars (by omega) (by omega)) rfl rfl rfl rfl (Les.refl _)) ?_; refine .x (.f fo89_1) ?_; refine .x (.l vs23) ?_; refine .m ?_; refine .x (OpSem.call0 (project_restrict_does (nth m.ops k).post vars (by omega) (by omega)) rfl rfl rfl rfl (Les.refl _)) ?_; refine .x (.f fo89_2) ?_; refine .x (.l vs3) ?_; refine .x (.bd pl89 zc89) ?_; refine .x (.bs es24 ze24) ?_; refine .d0 mixed ?_; refine .append rfl rfl rfl (by decide) rfl rfl rfl es24 el24 zc89 rfl by89 (by simp [D.one, Value.oneCell']) (by simp [maxLen, opTo_len]; omega) (by simp [opTo_len]; omega) ?_; refine .x (.f fo26_3) ?_; refine .sb vs24 ?_; refine .n <| .n <| .y <| .x .ad ?_; refine .m ?_; refine .n <| .again (k + 1) (by omega) ?_ (by omega); exact .p5 <| .slot rfl (Le.of_eq (by simp)) <| .mem rfl <| .memEq rfl (by rw [opTo_s]; simp [restr]) <| .mem rfl <| .nil
  ·have hk : k = m.ops.length := by simp at c25; omega
   refine .u <| .u <| .u <| .b <| .z <| .x (.L vs26) ?_; refine .sb vs26 ?_; exact .sq <| .t <| .ret rfl (.cellN rfl rfl vs26 <| .nil) rfl (Le.g (.cons (Le.d (by rw [selTo_end]; rfl)) <| .cons (Le.d (by rw [selTo_end]; rfl)) <| .cons (Le.d (by rfl)) <| .cons (Le.d (by rw [hk, opTo_end])) <| .nil))
theorem project_distances_does (m : Multi) (hv : Valid m) (hN2 : nR m ≤ 2000) : DoesO Tryz.prog 64 [multi m] 1 3 (((costs m).map fun n => [D.v (.int .i64 n)])) := by
 have hN := nR_in hv
 have hol := hv.opsLen
 have hl := hv.len
 have hsl := statesL_len hv
 refine DoesO.of_body Tryz.func64 rfl rfl (by simp) Tryz.call64 (fun w0 O0 => ?_); refine .lg 0 0 fun len0_0 => ?_; refine .lg 0 1 fun len0_1 => ?_; refine .lg 0 2 fun len0_2 => ?_; refine .lg 0 3 fun len0_3 => ?_; refine .g <| .r <| .bx 1 ?_; refine .a ?_; refine .z <| .x (.f fo26_0) ?_; refine .x (.l vs22) ?_; refine .x (OpSem.call0 (project_States_does m.sizes hv.sizes hl.2) rfl rfl rfl rfl (Les.refl _)) ?_; refine .a ?_; refine .z <| .m ?_; refine .x (.n es37) ?_; refine .semM (OpSem.makeSlice 18 rfl rfl rfl es22 ze22 rfl rfl (by decide) bye22 (by omega) (by simp; omega) (by simp; omega)) rfl rfl (by decide) ?_; refine .a ?_; refine .sq <| .g <| .g <| .r <| .m ?_; refine .x (.n es37) ?_; refine .m ?_; refine .sq <| .k <| .loop (X := Nat) (fun k => k ≤ nR m) (fun k => [(1, .r 1 0), (3, .d (rows (statesL m.sizes))), (4, .o 18), (19, .d (rows (statesL m.sizes))), (20, I ((statesL m.sizes).length)), (21, I (k))]) (fun k => [(18, .own 1 3 ((fillTo m k).map fun n => [D.v (.int .i64 n)])), (1, .box [.d (ints m.sizes), .d (ints m.init), .d (asgs m.goal), .d (opsD m.ops)])]) (fun k => nR m - k) 0 (by omega) ?_ ?_
 ·exact .p5 <| .slot rfl (Le.of_eq (by simp)) <| .memEq rfl (by rw [fillTo_0]; simp [hsl]; rfl) <| .mem rfl <| .nil
 ·rintro k hkl
  refine .g <| .r <| .x (.b blss) ?_; refine .sq <| .g <| .cond rfl (fun c22 => ?_) (fun c22 => ?_)
  ·have hk : k < nR m := by simp at c22; omega
   have hst := unrank_state (n := k) hv.sizes
   have hin : ∀ l : List Asg, AsgsP m.sizes l → ∀ x, x ∈ l → 0 ≤ x.1 ∧ x.1 < (unrank m.sizes k).length := fun l hl x hx => by have h1 := asgsP_mem hl hx; rw [hst.1]; exact ⟨h1.1, h1.2.1⟩
   refine .p <| .g <| .g <| .k <| .g <| .r <| .m ?_; refine .x (.i es37) ?_; refine .x (OpSem.le (s' := .d (ints (unrank m.sizes k))) (.l1 vs22) (Le.d (by rw [statesL_at hv (by omega)]))) ?_; refine .a ?_; refine .a ?_; refine .z <| .m ?_; refine .x (.f fo26_2) ?_; refine .x (.l vs23) ?_; refine .x (OpSem.call0 (multi_Holds_does (unrank m.sizes k) _ (hin _ hv.goal)) rfl rfl rfl rfl (Les.refl _)) ?_; refine .x .nt ?_; refine .sq <| .cond rfl (fun c30 => ?_) (fun c30 => ?_)
   ·refine .r <| .mm ?_; refine .x (OpSem.idxo rfl rfl rfl rfl es22 (by omega) (by simp [fillTo_len]; omega)) ?_; refine .storeq rfl rfl rfl rfl rfl rfl rfl vs3 (rows_get (by omega) (by rw [fillTo_len]; omega)) (by simp) ?_; refine .n <| .n <| .y <| .x .ad ?_; refine .m ?_; refine .n ?_
    have hS := fillTo_f hk (by simpa using c30)
    refine .again (k + 1) (by omega) ?_ (by omega); exact .p5 <| .slot rfl (Le.of_eq (by simp)) <| .memEq rfl (by rw [hS]; exact congrArg (Mo.own 1 3) (rows_set (f := fun n => [D.v (.int .i64 n)]))) <| .mem rfl <| .nil
   ·refine .p <| .n <| .y <| .x .ad ?_; refine .m ?_; refine .n ?_
    have hS := fillTo_t (m := m) (k := k) (by simpa using c30)
    refine .again (k + 1) (by omega) ?_ (by omega); exact .p5 <| .slot rfl (Le.of_eq (by simp)) <| .memEq rfl (by rw [hS] <;> rfl) <| .mem rfl <| .nil
  ·have hk : k = nR m := by simp at c22; omega
   subst hk
   refine .u <| .u <| .u <| .b <| .g <| .g <| .g <| .r <| .a ?_; refine .sq <| .k <| .loop (X := Nat) (fun j => True) (fun j => [(1, .r 1 0), (3, .d (rows (statesL m.sizes))), (4, .o 18), (7, Bo (flagC m j))]) (fun j => [(18, .own 1 3 ((itC m j).map fun n => [D.v (.int .i64 n)])), (1, .box [.d (ints m.sizes), .d (ints m.init), .d (asgs m.goal), .d (opsD m.ops)])]) (fun j => (itC m j).sum.toNat + (if flagC m j = true then 1 else 0)) 0 trivial ?_ ?_
   ·exact .p3 <| .sl <| .memEq rfl (by rw [fillTo_end]; rfl) <| .mem rfl <| .nil
   ·rintro j _
    refine .g <| .g <| .r <| .m ?_; refine .sq <| .cond rfl (fun c35 => ?_) (fun c35 => ?_)
    ·refine .p <| .g <| .k <| .g <| .r <| .a ?_; refine .z <| .m ?_; refine .x (.n es37) ?_; refine .m ?_; refine .sq <| .k <| .loop (X := Nat) (fun n => n ≤ nR m) (fun n => [(1, .r 1 0), (3, .d (rows (statesL m.sizes))), (4, .o 18), (7, Bo ((sweepTo m (itC m j) n).2)), (36, .d (rows (statesL m.sizes))), (37, I ((statesL m.sizes).length)), (38, I (n))]) (fun n => [(18, .own 1 3 (((sweepTo m (itC m j) n).1).map fun n => [D.v (.int .i64 n)])), (1, .box [.d (ints m.sizes), .d (ints m.init), .d (asgs m.goal), .d (opsD m.ops)])]) (fun n => nR m - n) 0 (by omega) ?_ ?_
     ·exact .p5 <| .sl <| .slot rfl (Le.of_eq (by simp)) <| .memEq rfl rfl <| .mem rfl <| .nil
     ·rintro n hnl
      refine .g <| .r <| .x (.b blss) ?_; refine .sq <| .g <| .cond rfl (fun c39 => ?_) (fun c39 => ?_)
      ·have hn : n < nR m := by simp at c39; omega
       have hst := unrank_state (n := n) hv.sizes
       have hin : ∀ l : List Asg, AsgsP m.sizes l → ∀ x, x ∈ l → 0 ≤ x.1 ∧ x.1 < (unrank m.sizes n).length := fun l hl x hx => by have h1 := asgsP_mem hl hx; rw [hst.1]; exact ⟨h1.1, h1.2.1⟩
       have hg := sweepTo_good hv (itC_good hv j) hnl
       refine .p <| .g <| .g <| .k <| .g <| .r <| .m ?_; refine .x (.i es37) ?_; refine .x (OpSem.le (s' := .d (ints (unrank m.sizes n))) (.l1 vs22) (Le.d (by rw [statesL_at hv (by omega)]))) ?_; refine .a ?_; refine .a ?_; refine .z <| .x (.f fo26_3) ?_; refine .x (.l vs24) ?_; refine .x (.n es24) ?_; refine .m ?_; refine .sq <| .k <| .loop (X := Nat) (fun i => i ≤ m.ops.length) (fun i => [(1, .r 1 0), (3, .d (rows (statesL m.sizes))), (4, .o 18), (7, Bo ((opsTo m (sweepTo m (itC m j) n) n i).2)), (8, I (n)), (9, .d (ints (unrank m.sizes n))), (36, .d (rows (statesL m.sizes))), (37, I ((statesL m.sizes).length)), (38, I (n)), (44, .d (opsD m.ops)), (45, I (m.ops.length)), (46, I (i))]) (fun i => [(18, .own 1 3 (((opsTo m (sweepTo m (itC m j) n) n i).1).map fun n => [D.v (.int .i64 n)])), (1, .box [.d (ints m.sizes), .d (ints m.init), .d (asgs m.goal), .d (opsD m.ops)])]) (fun i => m.ops.length - i) 0 (by omega) ?_ ?_
       ·exact .p5 <| .p5 <| .sl <| .slot rfl (Le.of_eq (by simp)) <| .memEq rfl rfl <| .mem rfl <| .nil
       ·rintro i hil
        have hgo := opsTo_good hv hg hn hil
        refine .g <| .r <| .x (.b blss) ?_; refine .sq <| .g <| .cond rfl (fun c47 => ?_) (fun c47 => ?_)
        ·have hi : i < m.ops.length := by simpa using c47
         have ho := hv.op i hi
         have hns := nextS_in hst ho.2.1
         have hr := rkAt_in hv (n := n) hi
         have hc1 := hgo.2 _ hr.1 hr.2
         have hc2 := hgo.2 n (by omega) (by omega)
         have hlen := hgo.1
         refine .p <| .g <| .g <| .k <| .g <| .r <| .m ?_; refine .x (.i es24) ?_; refine .x (.lN vs89) ?_; refine .al 11 zc89 ?_; refine .a ?_; refine .sb vs89 ?_; refine .sq <| .g <| .g <| .r <| .m ?_; refine .x (.f fo89_0) ?_; refine .x (.l vs23) ?_; refine .x (OpSem.call0 (multi_Holds_does (unrank m.sizes n) _ (hin _ ho.1)) rfl rfl rfl rfl (Les.refl _)) ?_; refine .x .nt ?_; refine .sq <| .cond rfl (fun c55 => ?_) (fun c55 => ?_)
         ·refine .u <| .u <| .b <| .y <| .x .ad ?_; refine .m ?_; refine .n ?_
          have hS : opsTo m (sweepTo m (itC m j) n) n (i + 1) = _ := stepC_0 (by simpa using c55)
          refine .again (i + 1) (by omega) ?_ (by omega); exact .p3 <| .slot rfl (Le.bo (by rw [hS])) <| .p5 <| .p2 <| .slot rfl (Le.of_eq (by simp)) <| .memEq rfl (by rw [hS] <;> rfl) <| .mem rfl <| .nil
         ·refine .p <| .g <| .g <| PC.start [] ?_; refine .m ?_; refine .x (.f fo26_0) ?_; refine .x (.l vs22) ?_; refine .x (.L vs26) ?_; refine .mm ?_; refine .x (OpSem.call0 (multi_Next_does m (unrank m.sizes n) i hv hst (by omega) (by omega)).fresh rfl rfl rfl rfl (Les.refl _)) ?_; refine .x (OpSem.call0 (show Does Tryz.prog false 65 [.d (ints m.sizes), .d (ints (nextS (unrank m.sizes n) (nth m.ops i).post))] (I (rkAt m n i)) from project_Rank_does m.sizes _ hv.sizes hns hl.2) rfl rfl rfl rfl (Les.refl _)) ?_; refine .d0 mixed ?_; refine .x (OpSem.idxo rfl rfl rfl rfl es22 (by omega) (by simp; omega)) ?_; refine .x (OpSem.loadq rfl rfl rfl vs3 (rows_get (by omega) (by omega)) rfl) ?_; refine .a ?_; refine .sq <| .g <| PC.start [] ?_; refine .m ?_; refine .x (.b bneq) ?_; refine .m ?_; refine .split (n := 68) rfl (fun c68 => ?_) (fun c68 => ?_)
          ·refine .gt (OpSem.move (.inl rfl) rfl) c68 ?_; refine .gt (.f fo89_2) c68 ?_; refine .gt (.l vs3) c68 ?_; refine .gt .ad c68 ?_; refine .gt (OpSem.move (.inl rfl) rfl) c68 ?_; refine .gt (OpSem.move (.inl rfl) rfl) c68 ?_; refine .gt (OpSem.idxo rfl rfl rfl rfl es22 (by omega) (by simp; omega)) c68 ?_; refine .gt (OpSem.loadq rfl rfl rfl vs3 (rows_get (by omega) (by omega)) rfl) c68 ?_; refine .d0 mixed ?_; refine .gt c68 ?_; refine .x (.b blss) ?_; refine .x (OpSem.pickT rfl rfl c68 rfl) ?_; refine .sq <| .cond rfl (fun c78 => ?_) (fun c78 => ?_)
           ·refine .r <| .mm ?_; refine .m ?_; refine .x (.f fo89_2) ?_; refine .x (.l vs3) ?_; refine .x .ad ?_; refine .x (OpSem.idxo rfl rfl rfl rfl es22 (by omega) (by simp; omega)) ?_; refine .storeq rfl rfl rfl rfl rfl rfl rfl vs3 (rows_get (by omega) (by omega)) (by simp) ?_; refine .a ?_; refine .n <| .n <| .y <| .x .ad ?_; refine .m ?_; refine .n ?_
            have hS : opsTo m (sweepTo m (itC m j) n) n (i + 1) = _ := stepC_1 (by simpa using c55) (by simp at c68; omega) (by simpa using c78)
            refine .again (i + 1) (by omega) ?_ (by omega); exact .p3 <| .slot rfl (Le.bo (by rw [hS])) <| .p5 <| .p2 <| .slot rfl (Le.of_eq (by simp)) <| .memEq rfl (by rw [hS]; exact congrArg (Mo.own 1 3) (rows_set (f := fun n => [D.v (.int .i64 n)]))) <| .mem rfl <| .nil
           ·refine .p <| .n <| .y <| .x .ad ?_; refine .m ?_; refine .n ?_
            have hS : opsTo m (sweepTo m (itC m j) n) n (i + 1) = _ := stepC_2 (fun h => by have := h.2; simp at c78; omega)
            refine .again (i + 1) (by omega) ?_ (by omega); exact .p3 <| .slot rfl (Le.bo (by rw [hS])) <| .p5 <| .p2 <| .slot rfl (Le.of_eq (by simp)) <| .memEq rfl (by rw [hS] <;> rfl) <| .mem rfl <| .nil
          ·refine .gf c68 ?_; refine .gf c68 ?_; refine .gf c68 ?_; refine .gf c68 ?_; refine .gf c68 ?_; refine .gf c68 ?_; refine .gf c68 ?_; refine .gf c68 ?_; refine .d0 mixed ?_; refine .gf c68 ?_; refine .x (OpSem.pickF rfl rfl c68 rfl) ?_; refine .sq <| .condF rfl rfl ?_; refine .p <| .n <| .y <| .x .ad ?_; refine .m ?_; refine .n ?_
           have hS : opsTo m (sweepTo m (itC m j) n) n (i + 1) = _ := stepC_2 (fun h => by have := h.1; simp at c68; omega)
           refine .again (i + 1) (by omega) ?_ (by omega); exact .p3 <| .slot rfl (Le.bo (by rw [hS])) <| .p5 <| .p2 <| .slot rfl (Le.of_eq (by simp)) <| .memEq rfl (by rw [hS] <;> rfl) <| .mem rfl <| .nil
        ·have hi : i = m.ops.length := by simp at c47; omega
         subst hi
         refine .u <| .u <| .u <| .b <| .n <| .y <| .x .ad ?_; refine .m ?_; refine .n <| .again (n + 1) (by omega) ?_ (by omega); exact .p5 <| .sl <| .slot rfl (Le.of_eq (by simp)) <| .memEq rfl rfl <| .mem rfl <| .nil
      ·have hn : n = nR m := by simp at c39; omega
       subst hn
       refine .u <| .u <| .u <| .b <| .n <| .again (j + 1) trivial ?_ (flag_lt hv c35); exact .all
    ·refine .u <| .u <| .u <| .b <| .z <| .m ?_; refine .a ?_; exact .sq <| .t <| .retO2 rfl rfl rfl (by simp) (by rw [flag_end hv c35])
theorem project_Value_does (m : Multi) (vars s : List Int) : Does Tryz.prog false 31 [multi m, .d (ints vars), .d (ints s)] (.t [I (valR m vars s), flt (valF m vars s)]) := by
 refine Does.of_body Tryz.func31 rfl rfl (by simp) Tryz.call31 (fun w0 O0 => ?_); refine .lg 0 0 fun len0_0 => ?_; refine .lg 0 1 fun len0_1 => ?_; refine .lg 0 2 fun len0_2 => ?_; refine .lg 0 3 fun len0_3 => ?_; refine .le 1 fun len1 => ?_; refine .le 2 fun len2 => ?_; refine .g <| .r <| .bx 3 ?_; refine .a ?_; refine .al 7 zc32 ?_; refine .z <| .x (.L vs26) ?_; refine .m ?_; refine .x (OpSem.call0 (multi_StateFault_does ..) rfl rfl rfl rfl (Les.refl _)) ?_; refine .al 8 zc32 ?_; refine .sb vs32 ?_; refine .sq <| .cut [(1, .d (ints vars)), (2, .d (ints s)), (3, .r 3 0), (6, I (0)), (7, .r 7 0), (8, .r 8 0)] [(3, .box [.d (ints m.sizes), .d (ints m.init), .d (asgs m.goal), .d (opsD m.ops)]), (7, .box [I (0), I (0)]), (8, .box [I ((stpF m vars s).1), I ((stpF m vars s).2)])] ?_ ?_
 ·refine .g <| .r <| .x (.L vs32) ?_; refine .x (.bd pl32 zc32) ?_; refine .x (OpSem.eqS2 rfl rfl rfl io32) ?_; refine .sq <| .cond rfl (fun c15 => ?_) (fun c15 => ?_)
  ·refine .r <| .x (.L vs26) ?_; refine .m ?_; refine .x (OpSem.call0 (project_Check_does ..) rfl rfl rfl rfl (Les.refl _)) ?_; refine .sb vs32 ?_; refine .n ?_
   have he := stpF_1 (vars := vars) (pair0 (f := stateFault m s) (by simpa using c15))
   exact .meet <| .p5 <| .sl <| .mem rfl <| .mem rfl <| .boxLe rfl (.cons (Le.i (congrArg Prod.fst (he))) <| .cons (Le.i (congrArg Prod.snd (he))) <| .nil) <| .nil
  ·refine .p ?_
   have he := stpF_2 (m := m) (vars := vars) (s := s) (fun h => by simp [h] at c15)
   exact .meet <| .p5 <| .sl <| .mem rfl <| .mem rfl <| .boxLe rfl (.cons (Le.i (congrArg Prod.fst (he))) <| .cons (Le.i (congrArg Prod.snd (he))) <| .nil) <| .nil
 ·refine .cut [(1, .d (ints vars)), (2, .d (ints s)), (3, .r 3 0), (6, I (0)), (7, .r 7 0), (8, .r 8 0)] [(3, .box [.d (ints m.sizes), .d (ints m.init), .d (asgs m.goal), .d (opsD m.ops)]), (7, .box [I (0), I (0)]), (8, .box [I ((valF m vars s).1), I ((valF m vars s).2)])] ?_ ?_
  ·refine .g <| .r <| .x (.L vs32) ?_; refine .x (.bd pl32 zc32) ?_; refine .x (OpSem.eqS2 rfl rfl rfl io32) ?_; refine .m ?_; refine .split (n := 22) rfl (fun c22 => ?_) (fun c22 => ?_)
   ·have h1 : stpF m vars s = (0, 0) := pair0 (by simpa using c22)
    obtain ⟨hv, hst, hne, hp⟩ := stpF_ok h1
    refine .gt c22 ?_; refine .x (.L vs26) ?_; refine .gt c22 ?_; refine .m ?_; refine .gt c22 ?_; refine .x (OpSem.call0 (project_large_does m vars hv hp) rfl rfl rfl rfl (Les.refl _)) ?_; refine .x (OpSem.pickT rfl rfl c22 rfl) ?_; refine .sq <| .cond rfl (fun c26 => ?_) (fun c26 => ?_)
    ·refine .r <| .x (.bd pl32 zc32) ?_; refine .sb vs32 ?_; refine .n ?_
     have he := bigF_1 h1 (by simpa using c26)
     exact .meet <| .p5 <| .sl <| .mem rfl <| .mem rfl <| .boxLe rfl (.cons (Le.i (congrArg Prod.fst (he))) <| .cons (Le.i (congrArg Prod.snd (he))) <| .nil) <| .nil
    ·refine .p ?_
     have he := bigF_2 (m := m) (vars := vars) (f := stpF m vars s) (fun h => by simp at c26; omega)
     exact .meet <| .p5 <| .sl <| .mem rfl <| .mem rfl <| .boxLe rfl (.cons (Le.i (congrArg Prod.fst (he))) <| .cons (Le.i (congrArg Prod.snd (he))) <| .nil) <| .nil
   ·refine .gf c22 ?_; refine .gf c22 ?_; refine .gf c22 ?_; refine .x (OpSem.pickF rfl rfl c22 rfl) ?_; refine .sq <| .condF rfl rfl ?_; refine .p ?_
    have he := bigF_2 (m := m) (vars := vars) (f := stpF m vars s) (fun h => by simp [h.1] at c22)
    exact .meet <| .p5 <| .sl <| .mem rfl <| .mem rfl <| .boxLe rfl (.cons (Le.i (congrArg Prod.fst (he))) <| .cons (Le.i (congrArg Prod.snd (he))) <| .nil) <| .nil
  ·refine .g <| .g <| .r <| .x (.L vs32) ?_; refine .x (.bd pl32 zc32) ?_; refine .x (OpSem.neS2 rfl rfl rfl io32) ?_; refine .sq <| .cond rfl (fun c30 => ?_) (fun c30 => ?_)
   ·have h1 : valF m vars s ≠ (0, 0) := fun h => by simp [h] at c30
    refine .g <| PC.start [] ?_; refine .x (.L vs32) ?_; refine .x (OpSem.move (.inr rfl) rfl) ?_; refine .d0 mixed ?_; refine .sb vs32 ?_; exact .sq <| .t <| .t <| .ret rfl (.tmp rfl <| .cellN rfl rfl vs32 <| .nil) rfl (Le.t (.cons (Le.i (by rw [valR_1 h1])) <| .cons (.refl _) <| .nil))
   ·have h1 : valF m vars s = (0, 0) := pair0 (by simpa using c30)
    obtain ⟨hv, hst, hne, hp, hb⟩ := valF_ok h1
    have hv2 := valid_proj hv hne hp
    have hpl := pat_len hp
    have hl := hv.len
    have hrk := rank_in hv2.sizes (sel_state hp hst)
    have hcl := (costs_good hv2).1
    have hN := nR_in hv2
    refine .p <| .z <| .x (.L vs26) ?_; refine .m ?_; refine .x (OpSem.call0 (project_To_does m vars hv hp) rfl rfl rfl rfl (Les.refl _)) ?_; refine .al 9 zc26 ?_; refine .sb vs26 ?_; refine .sq <| .g <| PC.start [] ?_; refine .x (.L vs26) ?_; refine .x (OpSem.call0 (project_distances_does (projM m vars) hv2 (nR_proj hv hne hp hb)).fresh rfl rfl rfl rfl (Les.refl _)) ?_; refine .x (.f fo26_0) ?_; refine .x (.l vs22) ?_; refine .mm ?_; refine .x (OpSem.call0 (project_Select_does s vars (fun i hi => ⟨(hp i hi).1, by rw [hst.1]; exact (hp i hi).2.1⟩) (by omega)).fresh rfl rfl rfl rfl (Les.refl _)) ?_; refine .x (OpSem.call0 (show Does Tryz.prog false 65 [.d (ints (projM m vars).sizes), .d (ints (selTo s vars vars.length))] (I (rank (projM m vars).sizes (sel s vars))) from by rw [selTo_end]; exact project_Rank_does (projM m vars).sizes _ hv2.sizes (sel_state hp hst) hv2.len.2) rfl rfl rfl rfl (Les.refl _)) ?_; refine .x (OpSem.idxL rfl rfl rfl es22 (by exact hrk.1) (by rw [hcl]; exact Int.lt_of_lt_of_le hrk.2 (by rw [hN.2.2]; exact Int.le_refl _))) ?_; refine .x (.l1 vs3) ?_; refine .x (.L vs32) ?_; refine .x (OpSem.move (.inr rfl) rfl) ?_; refine .d0 mixed ?_; refine .sb vs32 ?_; exact .sq <| .t <| .ret rfl (.tmp rfl <| .cellN rfl rfl vs32 <| .nil) rfl (Le.t (.cons (Le.i (by rw [valR_0 h1]; rfl)) <| .cons (.refl _) <| .nil))
end Go.Proofs.YtgophedpkiidkaaGreat
end

section
namespace Go.Eng
open Go
structure Arc where
 fr : Int
 lab : Int
 to : Int
deriving DecidableEq
instance : Inhabited Arc := ⟨⟨0, 0, 0⟩⟩
structure Abs where
 states : Int
 labels : Int
 arcs : List Arc
 init : Int
 goals : List Int
deriving DecidableEq
instance : Inhabited Abs := ⟨⟨0, 0, [], 0, []⟩⟩
abbrev arcC (x : Arc) : List D := [.v (.int .i64 x.fr), .v (.int .i64 x.lab), .v (.int .i64 x.to)]
abbrev arcsD (l : List Arc) : D := .s 3 (l.map arcC)
abbrev absS (a : Abs) : S := .g [I a.states, I a.labels, .d (arcsD a.arcs), I a.init, .d (ints a.goals)]
abbrev arcLt (x y : Arc) : Prop := x.fr < y.fr ∨ (x.fr = y.fr ∧ (x.lab < y.lab ∨ (x.lab = y.lab ∧ x.to < y.to)))
def cmpI (x y : Int) : Int := if x < y then -1 else if y < x then 1 else 0
theorem cmpI_1 {x y : Int} (h : x < y) : -1 = cmpI x y := by unfold cmpI; rw [if_pos h]
theorem cmpI_2 {x y : Int} (h : ¬ x < y) (h' : y < x) : 1 = cmpI x y := by unfold cmpI; rw [if_neg h, if_pos h']
theorem cmpI_3 {x y : Int} (h : ¬ x < y) (h' : ¬ y < x) : 0 = cmpI x y := by unfold cmpI; rw [if_neg h, if_neg h']
abbrev arcIn (a : Abs) (x : Arc) : Prop := (0 ≤ x.fr ∧ x.fr < a.states) ∧ (0 ≤ x.lab ∧ x.lab < a.labels) ∧ (0 ≤ x.to ∧ x.to < a.states)
abbrev headOk (a : Abs) : Prop := (1 ≤ a.states ∧ a.states ≤ 60) ∧ (0 ≤ a.labels ∧ a.labels ≤ 40) ∧ (0 ≤ a.init ∧ a.init < a.states)
section
variable {a : Abs}
structure AbsOk (a : Abs) : Prop where
 head : headOk a
 goals : SetP a.states a.goals
 len : a.arcs.length ≤ 400
 arc : ∀ i : Nat, i < a.arcs.length → arcIn a (nth a.arcs i)
 ord : ∀ i : Nat, 0 < i → i < a.arcs.length → arcLt (nth a.arcs (i - 1 : Int)) (nth a.arcs i)
end
structure Edge where
 fr : Int
 to : Int
 w : Int
instance : Inhabited Edge := ⟨⟨0, 0, 0⟩⟩
def stepE (d : List Int × Bool) (e : Edge) : List Int × Bool :=
 if nth d.1 e.to < 1000000000 ∧ nth d.1 e.to + e.w < nth d.1 e.fr then (setI d.1 e.fr (nth d.1 e.to + e.w), true) else d
def roundTo (E : List Edge) (d : List Int) : Nat → List Int × Bool
 | 0 => (d, false)
 | k + 1 => stepE (roundTo E d k) (nth E k)
def roundE (E : List Edge) (d : List Int) : List Int × Bool := roundTo E d E.length
def itE (E : List Edge) (d : List Int) : Nat → List Int
 | 0 => d
 | j + 1 => (roundE E (itE E d j)).1
open Classical in
noncomputable def fixE (E : List Edge) (d : List Int) : List Int := if h : ∃ j, (roundE E (itE E d j)).2 = false then itE E d (Classical.choose h) else d
abbrev EdgeOk (n : Nat) (E : List Edge) : Prop := ∀ i : Nat, i < E.length → (0 ≤ (nth E i).fr ∧ (nth E i).fr < n) ∧ (0 ≤ (nth E i).to ∧ (nth E i).to < n) ∧ 0 ≤ (nth E i).w
def GoodD (n : Nat) (d : List Int) : Prop := d.length = n ∧ ∀ x : Int, 0 ≤ x → x < n → 0 ≤ nth d x ∧ nth d x ≤ 1000000000
section
variable {n : Nat} {E : List Edge} (hE : EdgeOk n E)
include hE
omit hE in
theorem sum_goodD {d : List Int} (hg : GoodD n d) : 0 ≤ d.sum := sum_nn fun x hx => by
 obtain ⟨i, hi, rfl⟩ := List.getElem_of_mem hx
 have := (hg.2 i (by omega) (by rw [← hg.1]; omega)).1
 rwa [nth_eq hi] at this
omit hE in
theorem itE_stay {d : List Int} {j : Nat} (he : itE E d (j + 1) = itE E d j) : ∀ i, itE E d (j + i) = itE E d j
 | 0 => rfl
 | i + 1 => by
  have ih := itE_stay he i
  show (roundE E (itE E d (j + i))).1 = _
  rw [ih]; exact he
omit hE in
theorem stepE_true {d : List Int × Bool} {e : Edge} (h : d.2 = true) : (stepE d e).2 = true := by
 unfold stepE; split
 ·rfl
 ·exact h
omit hE in
theorem roundTo_flag {d : List Int} : ∀ {k : Nat}, (roundTo E d k).2 = false → roundTo E d k = (d, false) ∧ ∀ i : Nat, i < k → ¬ (nth d (nth E i).to < 1000000000 ∧ nth d (nth E i).to + (nth E i).w < nth d (nth E i).fr)
 | 0, h => ⟨rfl, fun i hi => by omega⟩
 | k + 1, h => by
  have h1 : (roundTo E d k).2 = false := by
   cases hf : (roundTo E d k).2 with
   | false => rfl
   | true => have := stepE_true (e := nth E k) hf; have h' : (stepE (roundTo E d k) (nth E k)).2 = false := h; rw [this] at h'; cases h'
  obtain ⟨a, b⟩ := roundTo_flag h1
  have h2 : (stepE (roundTo E d k) (nth E k)).2 = false := h
  have h3 : ¬ (nth d (nth E k).to < 1000000000 ∧ nth d (nth E k).to + (nth E k).w < nth d (nth E k).fr) := fun hc => by
   rw [a] at h2
   unfold stepE at h2
   rw [if_pos hc] at h2
   cases h2
  refine ⟨?_, fun i hi => ?_⟩
  ·show stepE (roundTo E d k) (nth E k) = (d, false)
   rw [a]; unfold stepE; rw [if_neg h3]
  ·by_cases hik : i = k
   ·subst hik; exact h3
   ·exact b i (by omega)
end
end Go.Eng
end

section
namespace Go.Eng
open Go
def nS (a : Abs) : Nat := a.states.toNat
def edgesOf (a : Abs) (c : List Int) : List Edge := a.arcs.map fun r => ⟨r.fr, r.to, nth c r.lab⟩
abbrev CostFor (a : Abs) (c : List Int) : Prop := (c.length : Int) = a.labels ∧ ∀ i : Nat, i < c.length → 0 ≤ nth c i ∧ nth c i ≤ 1000000
def initG (a : Abs) : List Int := (List.range (nS a)).map fun (x : Nat) => if (x : Int) ∈ a.goals then 0 else 1000000000
noncomputable def distL (a : Abs) (c : List Int) : List Int := fixE (edgesOf a c) (initG a)
section
variable {a : Abs} {c : List Int} (ha : AbsOk a) (hc : CostFor a c)
include ha hc
end
section
variable {a : Abs} {c : List Int} (ha : AbsOk a) (hc : CostFor a c)
include ha hc
end
end Go.Eng
end

section
namespace Go.Eng
open Go
def findA (l : List Asg) (v other : Int) : Int := ((l.find? fun x => decide (x.1 = v)).map (·.2)).getD other
theorem findA_some {l : List Asg} {v other : Int} {k : Nat} (hk : k < l.length) (h : ∀ j : Nat, j < k → (nth l j).1 ≠ v) (hp : (nth l k).1 = v) : (nth l k).2 = findA l v other := by
 unfold findA
 have h1 : l.find? (fun x => decide (x.1 = v)) = some l[k] := by
  rw [List.find?_eq_some_iff_getElem]
  refine ⟨by rw [← nth_eq hk]; simpa using hp, k, hk, rfl, fun j hj => ?_⟩
  have := h j hj
  rw [nth_eq (by omega)] at this
  simp [this]
 rw [h1, nth_eq hk]; rfl
theorem findA_none {l : List Asg} {v other : Int} (h : ∀ j : Nat, j < l.length → (nth l j).1 ≠ v) : other = findA l v other := by
 unfold findA
 have h1 : l.find? (fun x => decide (x.1 = v)) = none := by
  rw [List.find?_eq_none]
  intro x hx
  obtain ⟨i, hi, rfl⟩ := List.getElem_of_mem hx
  have := h i hi
  rw [nth_eq hi] at this
  simp [this]
 rw [h1]; rfl
def goalsTo (m : Multi) (v : Int) : Nat → List Int
 | 0 => []
 | k + 1 => if findA m.goal v k = k then goalsTo m v k ++ [(k : Int)] else goalsTo m v k
def arcsIn (m : Multi) (v x : Int) : Nat → List Arc
 | 0 => []
 | j + 1 => if findA (nth m.ops j).pre v x = x then arcsIn m v x j ++ [⟨x, j, findA (nth m.ops j).post v x⟩] else arcsIn m v x j
def arcsTo (m : Multi) (v : Int) : Nat → List Arc
 | 0 => []
 | k + 1 => arcsTo m v k ++ arcsIn m v k m.ops.length
theorem goalsTo_t {m : Multi} {v : Int} {k : Nat} (h : findA m.goal v k = k) : goalsTo m v (k + 1) = goalsTo m v k ++ [(k : Int)] := by simp only [goalsTo]; rw [if_pos h]
theorem goalsTo_f {m : Multi} {v : Int} {k : Nat} (h : ¬ findA m.goal v k = k) : goalsTo m v (k + 1) = goalsTo m v k := by simp only [goalsTo]; rw [if_neg h]
theorem goalsTo_len {m : Multi} {v : Int} : ∀ {k : Nat}, (goalsTo m v k).length ≤ k
 | 0 => by simp [goalsTo]
 | k + 1 => by
  have := goalsTo_len (m := m) (v := v) (k := k)
  simp only [goalsTo]; split
  ·simp; omega
  ·omega
theorem arcsIn_t {m : Multi} {v x : Int} {j : Nat} (h : findA (nth m.ops j).pre v x = x) : arcsIn m v x (j + 1) = arcsIn m v x j ++ [⟨x, j, findA (nth m.ops j).post v x⟩] := by simp only [arcsIn]; rw [if_pos h]
theorem arcsIn_f {m : Multi} {v x : Int} {j : Nat} (h : ¬ findA (nth m.ops j).pre v x = x) : arcsIn m v x (j + 1) = arcsIn m v x j := by simp only [arcsIn]; rw [if_neg h]
theorem arcsIn_len {m : Multi} {v x : Int} : ∀ {j : Nat}, (arcsIn m v x j).length ≤ j
 | 0 => by simp [arcsIn]
 | j + 1 => by
  have := arcsIn_len (m := m) (v := v) (x := x) (j := j)
  simp only [arcsIn]; split
  ·simp; omega
  ·omega
theorem arcsTo_len {m : Multi} {v : Int} : ∀ {k : Nat}, (arcsTo m v k).length ≤ k * m.ops.length
 | 0 => by simp [arcsTo]
 | k + 1 => by
  have := arcsTo_len (m := m) (v := v) (k := k)
  have := arcsIn_len (m := m) (v := v) (x := k) (j := m.ops.length)
  simp only [arcsTo, List.length_append, Nat.succ_mul]; omega
def atomA (m : Multi) (v : Int) : Abs := ⟨nth m.sizes v, m.ops.length, arcsTo m v (nth m.sizes v).toNat, nth m.init v, goalsTo m v (nth m.sizes v).toNat⟩
def atomF (m : Multi) (v : Int) : Int × Int := if validate m = (0, 0) then (if v < 0 ∨ m.sizes.length ≤ v then (3, -8) else (0, 0)) else validate m
def absZ : Abs := ⟨0, 0, [], 0, []⟩
def atomR (m : Multi) (v : Int) : Abs := if atomF m v = (0, 0) then atomA m v else absZ
theorem atomF_1 {m : Multi} {v : Int} (h : validate m ≠ (0, 0)) : atomF m v = validate m ∧ atomR m v = absZ := by
 have h1 : atomF m v = validate m := by unfold atomF; rw [if_neg h]
 exact ⟨h1, by unfold atomR; rw [h1, if_neg h]⟩
theorem atomF_2 {m : Multi} {v : Int} (h : validate m = (0, 0)) (h1 : v < 0 ∨ m.sizes.length ≤ v) : atomF m v = (3, -8) ∧ atomR m v = absZ := by
 have h2 : atomF m v = (3, -8) := by unfold atomF; rw [if_pos h, if_pos h1]
 exact ⟨h2, by unfold atomR; rw [h2, if_neg (by decide)]⟩
theorem atomF_0 {m : Multi} {v : Int} (h : validate m = (0, 0)) (h1 : ¬ (v < 0 ∨ m.sizes.length ≤ v)) : atomF m v = (0, 0) ∧ atomR m v = atomA m v := by
 have h2 : atomF m v = (0, 0) := by unfold atomF; rw [if_pos h, if_neg h1]
 exact ⟨h2, by unfold atomR; rw [if_pos h2]⟩
open Classical in
noncomputable def tightTo (a : Abs) (c : List Int) (x : Int) (i : Nat) : Bool := decide (∃ j : Nat, j < i ∧ (nth a.arcs j).fr = x ∧ nth (distL a c) (nth a.arcs j).to < 1000000000 ∧ nth (distL a c) x = nth (distL a c) (nth a.arcs j).to + nth c (nth a.arcs j).lab)
end Go.Eng
end

section
namespace Go.Proofs.YtgophedpkiidkaaGreat
open Go.Eng
set_option maxRecDepth 10000
set_option maxHeartbeats 1000000
theorem cmp_isNaN_int_does (x : Int) : Does Tryz.prog false 108 [I (x)] (Bo false) := by
 refine Does.of_body Tryz.func108 rfl rfl (by simp) Tryz.call108 (fun w0 O0 => ?_); refine .g <| .r <| .a ?_; refine .z <| .mm ?_; refine .x (.b bneq) ?_; refine .a ?_; exact .sq <| .t <| .ret rfl (.tmp rfl <| .nil) rfl (Le.bo (by simp))
theorem cmp_Compare_int_does (x y : Int) : Does Tryz.prog false 78 [I (x), I (y)] (I (cmpI x y)) := by
 refine Does.of_body Tryz.func78 rfl rfl (by simp) Tryz.call78 (fun w0 O0 => ?_); refine .g <| .r <| .a ?_; refine .z <| .m ?_; refine .x (OpSem.call0 (cmp_isNaN_int_does x) rfl rfl rfl rfl (Les.refl _)) ?_; refine .a ?_; refine .z <| .m ?_; refine .x (OpSem.call0 (cmp_isNaN_int_does y) rfl rfl rfl rfl (Les.refl _)) ?_; refine .a ?_; refine .sq <| .g <| .g <| .r <| .m ?_; refine .sq <| .condF rfl rfl ?_; refine .p <| .g <| .g <| .g <| .r <| .m ?_; refine .sq <| .condF rfl rfl ?_; refine .p <| .g <| .g <| .g <| .r <| .mm ?_; refine .x (.b blss) ?_; refine .sq <| .cond rfl (fun c16 => ?_) (fun c16 => ?_)
 ·refine .g <| .r <| .a ?_; exact .sq <| .t <| .t <| .ret rfl (.tmp rfl <| .nil) rfl (Le.i (cmpI_1 (by simpa using c16)))
 ·refine .p <| .g <| .g <| .g <| .r <| .mm ?_; refine .x (.b bgtr) ?_; refine .sq <| .cond rfl (fun c19 => ?_) (fun c19 => ?_)
  ·refine .g <| .r <| .a ?_; exact .sq <| .t <| .t <| .ret rfl (.tmp rfl <| .nil) rfl (Le.i (cmpI_2 (by simpa using c16) (by simpa using c19)))
  ·refine .p <| .z <| .a ?_; exact .sq <| .t <| .ret rfl (.tmp rfl <| .nil) rfl (Le.i (cmpI_3 (by simpa using c16) (by simpa using c19)))
theorem strips_IsSet_does (l : List Int) (n : Int) : Does Tryz.prog false 73 [.d (ints l), I (n)] (Bo (decide (SetP n l))) := by
 refine Does.of_body Tryz.func73 rfl rfl (by simp) Tryz.call73 (fun w0 O0 => ?_); refine .le 0 fun len0 => ?_; refine .g <| .r <| .a ?_; refine .sq <| .g <| .g <| .r <| .m ?_; refine .x (.n es22) ?_; refine .m ?_; refine .sq <| .k <| .loop (X := Nat) (fun k => k ≤ l.length ∧ ∀ i : Nat, i < k → SetOk n l i) (fun k => [(0, .d (ints l)), (1, I (n)), (7, .d (ints l)), (8, I (l.length)), (9, I (k))]) (fun k => []) (fun k => l.length - k) 0 ⟨by omega, by simp⟩ ?_ ?_
 ·exact .p3 <| .sl <| .slot rfl (Le.of_eq (by simp)) <| .nil
 ·rintro k ⟨hkl, hinv⟩
  refine .g <| .r <| .x (.b blss) ?_; refine .sq <| .g <| .cond rfl (fun c10 => ?_) (fun c10 => ?_)
  ·have hk : k < l.length := by simpa using c10
   refine .p <| .g <| .g <| .k <| .g <| .r <| .m ?_; refine .x (.i es22) ?_; refine .x (.l1 vs3) ?_; refine .a ?_; refine .a ?_; refine .z <| .m ?_; refine .x (.b blss) ?_; refine .m ?_; refine .split (n := 16) rfl (fun c16 => ?_) (fun c16 => ?_)
   ·refine .hf c16 ?_; refine .hf c16 ?_; refine .hf c16 ?_; refine .x (OpSem.pickT rfl rfl c16 rfl) ?_; refine .m ?_; refine .hf rfl ?_; refine .hf rfl ?_; refine .hf rfl ?_; refine .gu ?_; refine .gu ?_; refine .gu ?_; refine .gu ?_; refine .gu ?_; refine .gu ?_; refine .gu ?_; refine .hf rfl ?_; refine .x (OpSem.pickT rfl rfl rfl rfl) ?_; refine .sq <| .condT rfl rfl ?_; refine .g <| .r <| .a ?_; exact .sq <| .t <| .k <| .t <| .t <| .k <| .t <| .ret rfl (.tmp rfl <| .nil) rfl (Le.bo (by first | exact (decide_eq_true (by subst hk; exact hinv)).symm | exact (decide_eq_false (fun h => by have h1 := (h k hk).2.2 hkp; simp at c33; omega)).symm | exact (decide_eq_false (fun h => by have := h k hk; simp at c21; omega)).symm | exact (decide_eq_false (fun h => by have := h k hk; simp at c16; omega)).symm))
   ·refine .ht c16 ?_; refine .m ?_; refine .ht c16 ?_; refine .m ?_; refine .ht c16 ?_; refine .x (.b bgeq) ?_; refine .x (OpSem.pickF rfl rfl c16 rfl) ?_; refine .m ?_; refine .split (n := 21) rfl (fun c21 => ?_) (fun c21 => ?_)
    ·refine .hf c21 ?_; refine .hf c21 ?_; refine .hf c21 ?_; refine .gu ?_; refine .gu ?_; refine .gu ?_; refine .gu ?_; refine .gu ?_; refine .gu ?_; refine .gu ?_; refine .hf c21 ?_; refine .x (OpSem.pickT rfl rfl c21 rfl) ?_; refine .sq <| .condT rfl rfl ?_; refine .g <| .r <| .a ?_; exact .sq <| .t <| .k <| .t <| .t <| .k <| .t <| .ret rfl (.tmp rfl <| .nil) rfl (Le.bo (by first | exact (decide_eq_true (by subst hk; exact hinv)).symm | exact (decide_eq_false (fun h => by have h1 := (h k hk).2.2 hkp; simp at c33; omega)).symm | exact (decide_eq_false (fun h => by have := h k hk; simp at c21; omega)).symm | exact (decide_eq_false (fun h => by have := h k hk; simp at c16; omega)).symm))
    ·refine .ht c21 ?_; refine .m ?_; refine .ht c21 ?_; refine .x (.b bgtr) ?_; refine .ht c21 ?_; refine .m ?_; refine .split (n := 24) rfl (fun c24 => ?_) (fun c24 => ?_)
     ·have hkp : 0 < k := by simp at c24; omega
      refine .gt c24 ?_; refine .m ?_; refine .gt c24 ?_; refine .m ?_; refine .gt c24 ?_; refine .m ?_; refine .gt c24 ?_; refine .x .su ?_; refine .gt c24 ?_; refine .x (.i es22) ?_; refine .gt c24 ?_; refine .x (.l1 vs3) ?_; refine .gt c24 ?_; refine .x (.b bleq) ?_; refine .ht c21 ?_; refine .x (OpSem.pickT rfl rfl c24 rfl) ?_; refine .x (OpSem.pickF rfl rfl c21 rfl) ?_; refine .sq <| .cond rfl (fun c33 => ?_) (fun c33 => ?_)
      ·refine .g <| .r <| .a ?_; exact .sq <| .t <| .k <| .t <| .t <| .k <| .t <| .ret rfl (.tmp rfl <| .nil) rfl (Le.bo (by first | exact (decide_eq_true (by subst hk; exact hinv)).symm | exact (decide_eq_false (fun h => by have h1 := (h k hk).2.2 hkp; simp at c33; omega)).symm | exact (decide_eq_false (fun h => by have := h k hk; simp at c21; omega)).symm | exact (decide_eq_false (fun h => by have := h k hk; simp at c16; omega)).symm))
      ·refine .p <| .n <| .y <| .x .ad ?_; refine .m ?_; refine .n ?_
       have hb : SetOk n l k := by first | (simp at c16 c21 c33; exact ⟨by omega, by omega, fun h => by omega⟩) | (simp at c16 c21 c24; exact ⟨by omega, by omega, fun h => by omega⟩)
       refine .again (k + 1) ⟨by omega, all_succ hinv hb⟩ ?_ (by omega); exact .p3 <| .sl <| .slot rfl (Le.of_eq (by simp)) <| .nil
     ·refine .gf c24 ?_; refine .gf c24 ?_; refine .gf c24 ?_; refine .gf c24 ?_; refine .gf c24 ?_; refine .gf c24 ?_; refine .gf c24 ?_; refine .ht c21 ?_; refine .x (OpSem.pickF rfl rfl c24 rfl) ?_; refine .x (OpSem.pickF rfl rfl c21 rfl) ?_; refine .sq <| .condF rfl rfl ?_; refine .p <| .n <| .y <| .x .ad ?_; refine .m ?_; refine .n ?_
      have hb : SetOk n l k := by first | (simp at c16 c21 c33; exact ⟨by omega, by omega, fun h => by omega⟩) | (simp at c16 c21 c24; exact ⟨by omega, by omega, fun h => by omega⟩)
      refine .again (k + 1) ⟨by omega, all_succ hinv hb⟩ ?_ (by omega); exact .p3 <| .sl <| .slot rfl (Le.of_eq (by simp)) <| .nil
  ·have hk : k = l.length := by simp at c10; omega
   refine .u <| .u <| .u <| .b <| .z <| .a ?_; exact .sq <| .t <| .ret rfl (.tmp rfl <| .nil) rfl (Le.bo (by first | exact (decide_eq_true (by subst hk; exact hinv)).symm | exact (decide_eq_false (fun h => by have h1 := (h k hk).2.2 hkp; simp at c33; omega)).symm | exact (decide_eq_false (fun h => by have := h k hk; simp at c21; omega)).symm | exact (decide_eq_false (fun h => by have := h k hk; simp at c16; omega)).symm))
theorem abstraction_Atomic_1_does (l : List Asg) (o v : Int) : Does Tryz.prog false 37 [.d (asgs l), I (o), .p [.v (.int .i64 v)]] (I (findA l v o)) := by
 refine Does.of_body Tryz.func37 rfl rfl (by simp) Tryz.call37 (fun w0 O0 => ?_); refine .le 0 fun len0 => ?_; refine .g <| .r <| .a ?_; refine .sq <| .g <| .g <| .r <| .m ?_; refine .x (.n es23) ?_; refine .m ?_; refine .sq <| .k <| .loop (X := Nat) (fun k => k ≤ l.length ∧ ∀ i : Nat, i < k → (nth l i).1 ≠ v) (fun k => [(1, I (o)), (2, .p [.v (.int .i64 v)]), (8, .d (asgs l)), (9, I (l.length)), (10, I (k))]) (fun k => []) (fun k => l.length - k) 0 ⟨by omega, by simp⟩ ?_ ?_
 ·exact .p3 <| .sl <| .slot rfl (Le.of_eq (by simp)) <| .nil
 ·rintro k ⟨hkl, hinv⟩
  refine .g <| .r <| .x (.b blss) ?_; refine .sq <| .g <| .cond rfl (fun c11 => ?_) (fun c11 => ?_)
  ·have hk : k < l.length := by simpa using c11
   refine .p <| .g <| .g <| .k <| .g <| .r <| .x (.i es23) ?_; refine .x (.lN vs87) ?_; refine .al 7 zc87 ?_; refine .sb vs87 ?_; refine .z <| .x (.f fo87_0) ?_; refine .x (.l vs3) ?_; refine .x (.l1 vs3) ?_; refine .x (.b beql) ?_; refine .sq <| .cond rfl (fun c17 => ?_) (fun c17 => ?_)
   ·refine .g <| .r <| .x (.f fo87_1) ?_; refine .x (.l vs3) ?_; refine .a ?_; exact .sq <| .t <| .k <| .t <| .t <| .k <| .t <| .ret rfl (.tmp rfl <| .nil) rfl (Le.i (findA_some hk hinv (by simpa using c17)))
   ·have hb : (nth l k).1 ≠ v := by simpa using c17
    refine .p <| .n <| .y <| .x .ad ?_; refine .m ?_; refine .n <| .again (k + 1) ⟨by omega, all_succ hinv hb⟩ ?_ (by omega); exact .p3 <| .sl <| .slot rfl (Le.of_eq (by simp)) <| .nil
  ·have hk : k = l.length := by simp at c11; omega
   refine .u <| .u <| .u <| .b <| .z <| .m ?_; refine .a ?_; exact .sq <| .t <| .ret rfl (.tmp rfl <| .nil) rfl (Le.i (by subst hk; exact findA_none hinv))
theorem abstraction_Atomic_does (m : Multi) (v : Int) : Does Tryz.prog false 15 [multi m, I (v)] (.t [absS (atomR m v), flt (atomF m v)]) := by
 refine Does.of_body Tryz.func15 rfl rfl (by simp) Tryz.call15 (fun w0 O0 => ?_); refine .lg 0 0 fun len0_0 => ?_; refine .lg 0 1 fun len0_1 => ?_; refine .lg 0 2 fun len0_2 => ?_; refine .lg 0 3 fun len0_3 => ?_; refine .g <| .r <| .bx 2 ?_; refine .bx 3 ?_; refine .al 4 zc54 ?_; refine .al 5 zc32 ?_; refine .sq <| .g <| .g <| .r <| .x (.L vs26) ?_; refine .x (OpSem.call0 (multi_Validate_does ..) rfl rfl rfl rfl (Les.refl _)) ?_; refine .al 6 zc32 ?_; refine .sb vs32 ?_; refine .z <| .x (.L vs32) ?_; refine .x (.bd pl32 zc32) ?_; refine .x (OpSem.neS2 rfl rfl rfl io32) ?_; refine .sq <| .cond rfl (fun c16 => ?_) (fun c16 => ?_)
 ·have h0 : validate m ≠ (0, 0) := fun h => by simp [h] at c16
  have hz := atomF_1 (v := v) h0
  refine .g <| PC.start [4] ?_; refine .x (.bd pl54 zc54) ?_; refine .x (.L vs32) ?_; refine .storeb 100002 rfl rfl rfl rfl rfl rfl rfl vs54 (by first | decide | simp) ?_; refine .dn mixed ?_; refine .sb vs32 ?_; exact .sq <| .t <| .t <| .ret rfl (.cellN rfl rfl vs54 <| .cellN rfl rfl vs32 <| .nil) rfl (Le.t (.cons (by rw [hz.2]; exact Le.g (.cons (.refl _) <| .cons (.refl _) <| .cons (Le.nil 3) <| .cons (.refl _) <| .cons (Le.nil 1) <| .nil)) <| .cons (Le.flt (by rw [hz.1])) <| .nil))
 ·have h0 : validate m = (0, 0) := pair0 (by simpa using c16)
  have hv := valid_of h0
  have hol := hv.opsLen
  have hil := hv.init.1
  refine .p <| .g <| .g <| .g <| .r <| .x (.l vs3) ?_; refine .x (.b blss) ?_; refine .m ?_; refine .split (n := 21) rfl (fun c21 => ?_) (fun c21 => ?_)
  ·have hin : v < 0 ∨ m.sizes.length ≤ v := .inl (by simpa using c21)
   have hz := atomF_2 h0 hin
   refine .hf c21 ?_; refine .hf c21 ?_; refine .hf c21 ?_; refine .hf c21 ?_; refine .hf c21 ?_; refine .x (OpSem.pickT rfl rfl c21 rfl) ?_; refine .sq <| .condT rfl rfl ?_; refine .g <| .r <| .x (.bd pl54 zc54) ?_; refine .x (.bd pl32 zc32) ?_; refine .sb vs54 ?_; refine .sb vs32 ?_; exact .sq <| .t <| .t <| .ret rfl (.cellN rfl rfl vs54 <| .cellN rfl rfl vs32 <| .nil) rfl (Le.t (.cons (by rw [hz.2]; exact Le.g (.cons (.refl _) <| .cons (.refl _) <| .cons (Le.nil 3) <| .cons (.refl _) <| .cons (Le.nil 1) <| .nil)) <| .cons (Le.flt (by rw [hz.1])) <| .nil))
  ·refine .ht c21 ?_; refine .x (.l vs3) ?_; refine .ht c21 ?_; refine .x (.f fo26_0) ?_; refine .ht c21 ?_; refine .x (.l vs22) ?_; refine .ht c21 ?_; refine .x (.n es22) ?_; refine .ht c21 ?_; refine .x (.b bgeq) ?_; refine .x (OpSem.pickF rfl rfl c21 rfl) ?_; refine .sq <| .cond rfl (fun c27 => ?_) (fun c27 => ?_)
   ·refine .g <| .r <| .x (.bd pl54 zc54) ?_; refine .x (.bd pl32 zc32) ?_; refine .sb vs54 ?_; refine .sb vs32 ?_; refine .sq <| .t <| .t ?_
    have hz := atomF_2 h0 (.inr (by simpa using c27))
    exact .ret rfl (.cellN rfl rfl vs54 <| .cellN rfl rfl vs32 <| .nil) rfl (Le.t (.cons (by rw [hz.2]; exact Le.g (.cons (.refl _) <| .cons (.refl _) <| .cons (Le.nil 3) <| .cons (.refl _) <| .cons (Le.nil 1) <| .nil)) <| .cons (Le.flt (by rw [hz.1])) <| .nil))
   ·have hin : ¬ (v < 0 ∨ m.sizes.length ≤ v) := by simp at c21 c27; omega
    have hz := atomF_0 h0 hin
    have hsz := nth_size hv.sizes (n := v) (by omega) (by omega)
    refine .p <| .g <| .g <| PC.start [] ?_; refine .x (.f fo26_0) ?_; refine .x (.l vs22) ?_; refine .x (.l vs3) ?_; refine .x (.i es22) ?_; refine .x (.l1 vs3) ?_; refine .x (.f fo26_3) ?_; refine .x (.l vs24) ?_; refine .x (.n es24) ?_; refine .x (.f fo26_1) ?_; refine .x (.l vs22) ?_; refine .x (.l vs3) ?_; refine .x (.i es22) ?_; refine .x (.l1 vs3) ?_; refine .x (.bd pl54 zc54) ?_; refine .semM (OpSem.alloc 7 rfl zc54 rfl) rfl rfl ?_; refine .d1 7 (.box [I (0), I (0), .d (.v (.slice none 0 0)), I (0), .d (.v (.slice none 0 0))]) mixed ?_; refine .sb vs54 ?_; refine .z <| .x (OpSem.makeFunc rfl rfl rfl) ?_; refine .a ?_; refine .sq <| .g <| .g <| .ownNilBox 91 7 4 1 3 rfl rfl rfl ?_; refine .ownNilBox 92 7 2 3 93 rfl rfl rfl ?_; refine .r <| .x (.f fo54_0) ?_; refine .x (.l vs3) ?_; refine .m ?_; refine .sq <| .k <| .loop (X := Nat) (fun k => k ≤ (nth m.sizes v).toNat) (fun k => [(2, .r 2 0), (4, .r 4 0), (5, .r 5 0), (7, .r 7 0), (8, .f 37 [] [.r 3 0]), (46, I ((nth m.sizes v))), (47, I (k))]) (fun k => [(7, .box [I (nth m.sizes v), I (m.ops.length), .o 92, I (nth m.init v), .o 91]), (91, .own 1 3 ((goalsTo m v k).map fun n => [D.v (.int .i64 n)])), (92, .own 3 93 ((arcsTo m v k).map arcC)), (2, .box [.d (ints m.sizes), .d (ints m.init), .d (asgs m.goal), .d (opsD m.ops)]), (3, .box [I (v)]), (4, .box [I (0), I (0), .d (.v (.slice none 0 0)), I (0), .d (.v (.slice none 0 0))]), (5, .box [I (0), I (0)])]) (fun k => (nth m.sizes v).toNat - k) 0 (by omega) ?_ ?_
    ·exact .p5 <| .sl <| .slot rfl (Le.of_eq (by simp)) <| .mem rfl <| .memEq rfl rfl <| .memEq rfl rfl <| .all
    ·rintro k hkl
     refine .g <| .r <| .x (.b blss) ?_; refine .sq <| .g <| .cond rfl (fun c48 => ?_) (fun c48 => ?_)
     ·have hk : k < (nth m.sizes v).toNat := by simp at c48; omega
      have hgl := goalsTo_len (m := m) (v := v) (k := k)
      have hal := arcsTo_len (m := m) (v := v) (k := k)
      have hkm : k * m.ops.length ≤ 6 * 40 := Nat.mul_le_mul (by omega) hol
      refine .p <| .g <| .g <| .k <| .g <| .r <| .m ?_; refine .a ?_; refine .sq <| .cut [(2, .r 2 0), (4, .r 4 0), (5, .r 5 0), (7, .r 7 0), (8, .f 37 [] [.r 3 0]), (9, I (k)), (46, I ((nth m.sizes v))), (47, I (k))] [(2, .box [.d (ints m.sizes), .d (ints m.init), .d (asgs m.goal), .d (opsD m.ops)]), (3, .box [I (v)]), (4, .box [I (0), I (0), .d (.v (.slice none 0 0)), I (0), .d (.v (.slice none 0 0))]), (5, .box [I (0), I (0)]), (7, .box [I (nth m.sizes v), I (m.ops.length), .o 92, I (nth m.init v), .o 91]), (91, .own 1 3 ((goalsTo m v (k + 1)).map fun n => [D.v (.int .i64 n)])), (92, .own 3 93 ((arcsTo m v k).map arcC))] ?_ ?_
      ·refine .g <| .r <| .m ?_; refine .x (.f fo26_2) ?_; refine .x (.l vs23) ?_; refine .m ?_; refine .x (OpSem.call (abstraction_Atomic_1_does m.goal k v) (.inr rfl) rfl rfl rfl rfl (Les.refl _)) ?_; refine .m ?_; refine .x (.b beql) ?_; refine .sq <| .cond rfl (fun c56 => ?_) (fun c56 => ?_)
       ·refine .r <| .x (.f fo54_4) ?_; refine .x (.l vs22) ?_; refine .m ?_; refine .x (.bs es22 ze22) ?_; refine .ap es22 el22 zc3 by3 ?_; refine .x (.f fo54_4) ?_; refine .sb vs22 ?_; exact .n <| .meet <| .p5 <| .p3 <| .mem rfl <| .mem rfl <| .mem rfl <| .mem rfl <| .mem rfl <| .memEq rfl (by rw [goalsTo_t (by simpa using c56)]; simp) <| .memEq rfl rfl <| .nil
       ·exact .p <| .meet <| .p5 <| .p3 <| .mem rfl <| .mem rfl <| .mem rfl <| .mem rfl <| .mem rfl <| .memEq rfl (by rw [goalsTo_f (by simpa using c56)]) <| .memEq rfl rfl <| .nil
      ·refine .g <| .r <| .x (.f fo26_3) ?_; refine .x (.l vs24) ?_; refine .x (.n es24) ?_; refine .m ?_; refine .sq <| .k <| .loop (X := Nat) (fun j => j ≤ m.ops.length) (fun j => [(2, .r 2 0), (4, .r 4 0), (5, .r 5 0), (7, .r 7 0), (8, .f 37 [] [.r 3 0]), (9, I (k)), (46, I ((nth m.sizes v))), (47, I (k)), (64, .d (opsD m.ops)), (65, I (m.ops.length)), (66, I (j))]) (fun j => [(7, .box [I (nth m.sizes v), I (m.ops.length), .o 92, I (nth m.init v), .o 91]), (91, .own 1 3 ((goalsTo m v (k + 1)).map fun n => [D.v (.int .i64 n)])), (92, .own 3 93 ((arcsTo m v k ++ arcsIn m v k j).map arcC)), (2, .box [.d (ints m.sizes), .d (ints m.init), .d (asgs m.goal), .d (opsD m.ops)]), (3, .box [I (v)]), (4, .box [I (0), I (0), .d (.v (.slice none 0 0)), I (0), .d (.v (.slice none 0 0))]), (5, .box [I (0), I (0)])]) (fun j => m.ops.length - j) 0 (by omega) ?_ ?_
       ·exact .p5 <| .p5 <| .slot rfl (Le.of_eq (by simp)) <| .mem rfl <| .memEq rfl rfl <| .memEq rfl (by simp [arcsIn]) <| .all
       ·rintro j hjl
        refine .g <| .r <| .x (.b blss) ?_; refine .sq <| .g <| .cond rfl (fun c67 => ?_) (fun c67 => ?_)
        ·have hj : j < m.ops.length := by simpa using c67
         have hil2 := arcsIn_len (m := m) (v := v) (x := k) (j := j)
         refine .p <| .g <| .g <| .k <| .g <| .r <| .m ?_; refine .x (.i es24) ?_; refine .x (.lN vs89) ?_; refine .al 11 zc89 ?_; refine .a ?_; refine .sb vs89 ?_; refine .z <| .m ?_; refine .x (.f fo89_0) ?_; refine .x (.l vs23) ?_; refine .m ?_; refine .x (OpSem.call (abstraction_Atomic_1_does (nth m.ops j).pre k v) (.inr rfl) rfl rfl rfl rfl (Les.refl _)) ?_; refine .m ?_; refine .x (.b beql) ?_; refine .sq <| .cond rfl (fun c77 => ?_) (fun c77 => ?_)
         ·refine PC.start [] ?_; refine .x (.f fo54_2) ?_; refine .x (.l vs52) ?_; refine .mm ?_; refine .m ?_; refine .x (.f fo89_1) ?_; refine .x (.l vs23) ?_; refine .m ?_; refine .x (OpSem.call (abstraction_Atomic_1_does (nth m.ops j).post k v) (.inr rfl) rfl rfl rfl rfl (Les.refl _)) ?_; refine .x (.bd pl93 zc93) ?_; refine .x (.bs es52 ze52) ?_; refine .d0 mixed ?_; refine .ap es52 el52 zc93 by93 ?_; refine .x (.f fo54_2) ?_; refine .sb vs52 ?_; refine .n <| .n <| .y <| .x .ad ?_; refine .m ?_; refine .n <| .again (j + 1) (by omega) ?_ (by omega); exact .p5 <| .p5 <| .slot rfl (Le.of_eq (by simp)) <| .mem rfl <| .memEq rfl rfl <| .memEq rfl (by rw [arcsIn_t (by simpa using c77)]; simp) <| .all
         ·refine .p <| .n <| .y <| .x .ad ?_; refine .m ?_; refine .n <| .again (j + 1) (by omega) ?_ (by omega); exact .p5 <| .p5 <| .slot rfl (Le.of_eq (by simp)) <| .mem rfl <| .memEq rfl rfl <| .memEq rfl (by rw [arcsIn_f (by simpa using c77)] <;> rfl) <| .all
        ·have hj : j = m.ops.length := by simp at c67; omega
         subst hj
         refine .u <| .u <| .u <| .b <| .n <| .y <| .x .ad ?_; refine .m ?_; refine .n <| .again (k + 1) (by omega) ?_ (by omega); exact .p5 <| .sl <| .slot rfl (Le.of_eq (by simp)) <| .mem rfl <| .memEq rfl rfl <| .memEq rfl rfl <| .all
     ·have hk : k = (nth m.sizes v).toNat := by simp at c48; omega
      refine .u <| .u <| .u <| .b <| .z <| .x (.L vs54) ?_; refine .x (.bd pl32 zc32) ?_; refine .sb vs54 ?_; refine .sb vs32 ?_; exact .sq <| .t <| .ret rfl (.cellN rfl rfl vs54 <| .cellN rfl rfl vs32 <| .nil) rfl (Le.t (.cons (by rw [hz.2, hk]; exact .refl _) <| .cons (Le.flt (by rw [hz.1])) <| .nil))
end Go.Proofs.YtgophedpkiidkaaGreat
end

section
namespace Go.Eng
open Go
def chg (l : List Asg) (vars : List Int) : Bool := l.any fun x => decide (x.1 ∈ vars)
def compat (m : Multi) (a b : List Int) : Bool := !(m.ops.any fun o => chg o.post a && chg o.post b)
theorem countP_lt {p q : Nat → Bool} {y : Nat} (h1 : q y = true) (h2 : p y = false) : ∀ {l : List Nat}, (∀ x, x ∈ l → p x = true → q x = true) → y ∈ l → l.countP p < l.countP q
 | [], _, hy => by simp at hy
 | a :: l, h, hy => by
  have hle : l.countP p ≤ l.countP q := List.countP_mono_left fun x hx => h x (List.mem_cons_of_mem _ hx)
  simp only [List.countP_cons]
  by_cases hay : a = y
  ·subst hay
   rw [h1, h2]
   simp
   omega
  ·have hy' : y ∈ l := by
    rcases List.mem_cons.1 hy with e | e
    ·exact absurd e.symm hay
    ·exact e
   have ih := countP_lt h1 h2 (fun x hx => h x (List.mem_cons_of_mem _ hx)) hy'
   have ha := h a (List.mem_cons_self ..)
   cases hpa : p a with
   | false => simp; omega
   | true => rw [ha hpa]; simp; omega
def liftI (L c : Int) : Int := if L + 100 < c ∧ c < 1000000000 then c + 1 else c
theorem liftI_step {L c c' w : Int} (hw : 0 ≤ w ∧ w ≤ 100) (h : c ≤ c' + w) (h0 : c ≤ 1000000000) (h1 : c' ≤ 1000000000) (hn : ¬ (L < c' ∧ c' ≤ L + 100)) : liftI L c ≤ liftI L c' + w := by
 unfold liftI; split <;> split <;> omega
theorem liftI_le {L c : Int} (h : c ≤ 1000000000) : liftI L c ≤ 1000000000 := by unfold liftI; split <;> omega
section
variable {m : Multi} (hv : Valid m)
include hv
theorem costs_window {L : Int} (hL : -100 ≤ L) {s : List Int} (hs : StateP m.sizes s) (h1 : L + 100 < nth (costs m) (rank m.sizes s)) (h2 : nth (costs m) (rank m.sizes s) < 1000000000) :
  ∃ n : Nat, n < nR m ∧ L < nth (costs m) n ∧ nth (costs m) n ≤ L + 100 := by
 refine Classical.byContradiction fun hc => ?_
 have hg := costs_good hv
 have hN := nR_in hv
 have hrk : ∀ s, StateP m.sizes s → 0 ≤ rank m.sizes s ∧ rank m.sizes s < nR m := fun s hs => by
  have := rank_in hv.sizes hs; omega
 have hb : ∀ s, StateP m.sizes s → 0 ≤ nth (costs m) (rank m.sizes s) ∧ nth (costs m) (rank m.sizes s) ≤ 1000000000 := fun s hs => hg.2 _ (hrk s hs).1 (hrk s hs).2
 have hno : ∀ s, StateP m.sizes s → ¬ (L < nth (costs m) (rank m.sizes s) ∧ nth (costs m) (rank m.sizes s) ≤ L + 100) := fun s hs hh => hc ⟨(rank m.sizes s).toNat, by have := hrk s hs; omega, by rw [Int.toNat_of_nonneg (hrk s hs).1]; exact hh⟩
 have key := costs_ge hv (f := fun s => liftI L (nth (costs m) (rank m.sizes s)))
  (fun s hs => liftI_le (hb s hs).2)
  (fun s hs hh => by show liftI L (nth (costs m) (rank m.sizes s)) ≤ 0; rw [costs_goal hv hs hh]; unfold liftI; split <;> omega)
  (fun s hs j hj hp => liftI_step (hv.op j hj).2.2 (costs_tri hv hs hj hp) (hb s hs).2 (hb _ (nextS_in hs (hv.op j hj).2.1)).2 (hno _ (nextS_in hs (hv.op j hj).2.1))) hs
 have key' : liftI L (nth (costs m) (rank m.sizes s)) ≤ nth (costs m) (rank m.sizes s) := key
 unfold liftI at key'
 rw [if_pos ⟨h1, h2⟩] at key'
 omega
theorem costs_count {s : List Int} (hs : StateP m.sizes s) (h2 : nth (costs m) (rank m.sizes s) < 1000000000) : ∀ j : Nat, (100 * j : Int) < nth (costs m) (rank m.sizes s) → j + 1 ≤ (List.range (nR m)).countP fun (n : Nat) => decide (nth (costs m) n ≤ 100 * j)
 | 0, h1 => by
  obtain ⟨n, h3, h4, h5⟩ := costs_window hv (L := -100) (by omega) hs (by omega) h2
  have : 0 < (List.range (nR m)).countP fun (n : Nat) => decide (nth (costs m) n ≤ 100 * (0 : Nat)) := List.countP_pos_iff.2 ⟨n, List.mem_range.2 h3, by simp; omega⟩
  omega
 | j + 1, h1 => by
  have ih := costs_count hs h2 j (by omega)
  obtain ⟨n, h3, h4, h5⟩ := costs_window hv (L := 100 * j) (by omega) hs (by omega) h2
  have := countP_lt (p := fun (n : Nat) => decide (nth (costs m) n ≤ 100 * j)) (q := fun (n : Nat) => decide (nth (costs m) n ≤ 100 * (j + 1 : Nat))) (y := n) (l := List.range (nR m)) (by simp; omega) (by simp; omega) (fun x _ hx => by simp at hx ⊢; omega) (List.mem_range.2 h3)
  omega
theorem costs_bound {s : List Int} (hs : StateP m.sizes s) (h2 : nth (costs m) (rank m.sizes s) < 1000000000) : nth (costs m) (rank m.sizes s) ≤ 100 * nR m := by
 refine Int.not_lt.1 fun h1 => ?_
 have h3 := costs_count hv hs h2 (nR m) h1
 have h4 := List.countP_le_length (p := fun (n : Nat) => decide (nth (costs m) n ≤ 100 * (nR m : Nat))) (l := List.range (nR m))
 rw [List.length_range] at h4
 omega
end
theorem pval_in {m : Multi} {vars s : List Int} (hv : Valid m) (hs : StateP m.sizes s) (h0 : vars.length ≠ 0) (hp : PatP m.sizes vars) (hb : prodTo m.sizes vars vars.length ≤ 2000) :
  0 ≤ pval m vars s ∧ pval m vars s ≤ 1000000000 ∧ (pval m vars s < 1000000000 → pval m vars s ≤ 200000) := by
 have hv' := valid_proj hv h0 hp
 have hst : StateP (projM m vars).sizes (sel s vars) := sel_state hp hs
 have hr := rank_in hv'.sizes hst
 have hN := nR_in hv'
 have hn := nR_proj hv h0 hp hb
 have hg := (costs_good hv').2 _ hr.1 (by omega)
 refine ⟨hg.1, hg.2, fun h => ?_⟩
 have := costs_bound hv' hst h
 unfold pval at h ⊢
 omega
end Go.Eng
end

section
namespace Go.Eng
open Go
def plusI (a b : Int) : Int := if a = 1000000000 ∨ b = 1000000000 then 1000000000 else min (a + b) 999999999
theorem plusI_1 {a b : Int} (h : a = 1000000000 ∨ b = 1000000000) : 1000000000 = plusI a b := by unfold plusI; rw [if_pos h]
theorem plusI_0 {a b : Int} (h : ¬ (a = 1000000000 ∨ b = 1000000000)) : min (a + b) 999999999 = plusI a b := by unfold plusI; rw [if_neg h]
theorem plusI_in {a b : Int} (ha : 0 ≤ a ∧ a ≤ 1000000000) (hb : 0 ≤ b ∧ b ≤ 1000000000) : 0 ≤ plusI a b ∧ plusI a b ≤ 1000000000 := by
 unfold plusI; split <;> omega
abbrev ValsOk (V : List Int) : Prop := ∀ i : Nat, i < V.length → 0 ≤ nth V i ∧ nth V i ≤ 1000000000 ∧ (nth V i < 1000000000 → nth V i ≤ 200000)
def bestV (V : List Int) (C : Nat → Nat → Bool) : Nat → Nat → List Nat → Int
 | 0, _, _ => 0
 | n + 1, i, ch => if ch.any (fun k => !C i k) = true then bestV V C n (i + 1) ch else max (bestV V C n (i + 1) ch) (plusI (nth V i) (bestV V C n (i + 1) (ch ++ [i])))
def putB (p : Nat → Bool) (i : Nat) (b : Bool) : Nat → Bool := fun x => if x = i then b else p x
section
variable {V : List Int} (hV : ValsOk V) {C : Nat → Nat → Bool}
include hV
theorem bestV_in : ∀ {n i : Nat} {ch : List Nat}, i + n ≤ V.length → 0 ≤ bestV V C n i ch ∧ bestV V C n i ch ≤ 1000000000
 | 0, _, _, _ => by simp [bestV]
 | n + 1, i, ch, h => by
  have h1 := bestV_in (n := n) (i := i + 1) (ch := ch) (by omega)
  have h2 := bestV_in (n := n) (i := i + 1) (ch := ch ++ [i]) (by omega)
  have hi := hV i (by omega)
  simp only [bestV]
  split
  ·exact h1
  ·have := plusI_in ⟨hi.1, hi.2.1⟩ h2
   omega
omit hV in
theorem putB_same {p : Nat → Bool} {i : Nat} {b : Bool} : putB p i b i = b := by unfold putB; rw [if_pos rfl]
omit hV in
theorem putB_ne {p : Nat → Bool} {i x : Nat} {b : Bool} (h : x ≠ i) : putB p i b x = p x := by unfold putB; rw [if_neg h]
end
section
variable {V : List Int} (hV : ValsOk V)
include hV
end
abbrev PatsOk (m : Multi) (pats : List (List Int)) : Prop := ∀ i : Nat, i < pats.length → (nth pats i).length ≠ 0 ∧ PatP m.sizes (nth pats i) ∧ prodTo m.sizes (nth pats i) (nth pats i).length ≤ 2000
noncomputable def valsL (m : Multi) (pats : List (List Int)) (s : List Int) : List Int := pats.map fun vars => pval m vars s
theorem valsL_len {m : Multi} {pats : List (List Int)} {s : List Int} : (valsL m pats s).length = pats.length := by simp [valsL]
theorem valsL_at {m : Multi} {pats : List (List Int)} {s : List Int} {i : Nat} (hi : i < pats.length) : nth (valsL m pats s) i = pval m (nth pats i) s := by
 rw [nth_eq (by rw [valsL_len]; exact hi)]
 simp only [valsL, List.getElem_map]
 rw [nth_eq hi]
def cmpF (m : Multi) (pats : List (List Int)) (i k : Nat) : Bool := compat m (nth pats i) (nth pats k)
section
variable {m : Multi} {pats : List (List Int)} (hv : Valid m) (hp : PatsOk m pats)
include hv hp
theorem valsL_ok {s : List Int} (hs : StateP m.sizes s) : ValsOk (valsL m pats s) := fun i hi => by
 rw [valsL_len] at hi
 rw [valsL_at hi]
 obtain ⟨a, b, c⟩ := hp i hi
 exact pval_in hv hs a b c
end
def patsF (m : Multi) (pats : List (List Int)) (s : List Int) : Nat → Int × Int
 | 0 => (0, 0)
 | k + 1 => if patsF m pats s k = (0, 0) then (if valF m (nth pats k) s = (0, 0) then (0, 0) else ((valF m (nth pats k) s).1, k)) else patsF m pats s k
def addF (m : Multi) (pats : List (List Int)) (s : List Int) : Int × Int := if stateFault m s ≠ (0, 0) then stateFault m s else if 6 < pats.length then (2, -9) else patsF m pats s pats.length
noncomputable def addR (m : Multi) (pats : List (List Int)) (s : List Int) : Int := if addF m pats s = (0, 0) then bestV (valsL m pats s) (cmpF m pats) pats.length 0 [] else 0
theorem valF_ne {m : Multi} {vars s : List Int} (h : valF m vars s ≠ (0, 0)) : (valF m vars s).1 ≠ 0 := fun e => h (valF_code e)
theorem patsF_stop {m : Multi} {pats : List (List Int)} {s : List Int} {k : Nat} (h : patsF m pats s k ≠ (0, 0)) : ∀ n, patsF m pats s (k + n) = patsF m pats s k
 | 0 => rfl
 | n + 1 => by
  have ih := patsF_stop h n
  show patsF m pats s (k + n + 1) = _
  simp only [patsF]
  rw [ih, if_neg h]
theorem patsF_bad {m : Multi} {pats : List (List Int)} {s : List Int} {k : Nat} (hk : k < pats.length) (h0 : patsF m pats s k = (0, 0)) (h : valF m (nth pats k) s ≠ (0, 0)) : ((valF m (nth pats k) s).1, (k : Int)) = patsF m pats s pats.length := by
 have h1 : patsF m pats s (k + 1) = ((valF m (nth pats k) s).1, (k : Int)) := by simp only [patsF]; rw [if_pos h0, if_neg h]
 have h2 : patsF m pats s (k + 1) ≠ (0, 0) := by rw [h1]; intro e; exact valF_ne h (congrArg Prod.fst e)
 have := patsF_stop h2 (pats.length - (k + 1))
 rw [show k + 1 + (pats.length - (k + 1)) = pats.length by omega] at this
 rw [this, h1]
theorem patsF_good {m : Multi} {pats : List (List Int)} {s : List Int} {k : Nat} (h0 : patsF m pats s k = (0, 0)) (h : valF m (nth pats k) s = (0, 0)) : patsF m pats s (k + 1) = (0, 0) := by
 simp only [patsF]; rw [if_pos h0, if_pos h]
theorem patsF_all {m : Multi} {pats : List (List Int)} {s : List Int} : ∀ {n : Nat}, patsF m pats s n = (0, 0) → ∀ k, k < n → valF m (nth pats k) s = (0, 0)
 | 0, _, k, hk => by omega
 | n + 1, h, k, hk => by
  simp only [patsF] at h
  split at h
  ·rename_i h1
   by_cases hkn : k = n
   ·subst hkn
    split at h
    ·assumption
    ·rename_i h2
     exact absurd (congrArg Prod.fst h) (valF_ne h2)
   ·exact patsF_all h1 k (by omega)
  ·rename_i h1; exact absurd h h1
theorem patsF_of {m : Multi} {pats : List (List Int)} {s : List Int} : ∀ {n : Nat}, (∀ k, k < n → valF m (nth pats k) s = (0, 0)) → patsF m pats s n = (0, 0)
 | 0, _ => rfl
 | n + 1, h => patsF_good (patsF_of fun k hk => h k (by omega)) (h n (by omega))
theorem addF_1 {m : Multi} {pats : List (List Int)} {s : List Int} (h : stateFault m s ≠ (0, 0)) : stateFault m s = addF m pats s := by unfold addF; rw [if_pos h]
theorem addF_2 {m : Multi} {pats : List (List Int)} {s : List Int} (h : stateFault m s = (0, 0)) (h1 : 6 < pats.length) : (2, -9) = addF m pats s := by unfold addF; rw [if_neg (fun hn => hn h), if_pos h1]
theorem addF_3 {m : Multi} {pats : List (List Int)} {s : List Int} (h : stateFault m s = (0, 0)) (h1 : ¬ 6 < pats.length) : patsF m pats s pats.length = addF m pats s := by unfold addF; rw [if_neg (fun hn => hn h), if_neg h1]
theorem addF_ok {m : Multi} {pats : List (List Int)} {s : List Int} (h : addF m pats s = (0, 0)) : stateFault m s = (0, 0) ∧ pats.length ≤ 6 ∧ ∀ k, k < pats.length → valF m (nth pats k) s = (0, 0) := by
 by_cases h0 : stateFault m s = (0, 0)
 ·by_cases h1 : 6 < pats.length
  ·rw [← addF_2 h0 h1] at h; cases h
  ·rw [← addF_3 h0 h1] at h
   exact ⟨h0, by omega, patsF_all h⟩
 ·rw [← addF_1 h0] at h; exact absurd h h0
theorem addF_of {m : Multi} {pats : List (List Int)} {s : List Int} (h0 : stateFault m s = (0, 0)) (h1 : pats.length ≤ 6) (h2 : ∀ k, k < pats.length → valF m (nth pats k) s = (0, 0)) : addF m pats s = (0, 0) := by
 rw [← addF_3 h0 (by omega)]; exact patsF_of h2
theorem addR_1 {m : Multi} {pats : List (List Int)} {s : List Int} (h : addF m pats s ≠ (0, 0)) : addR m pats s = 0 := by unfold addR; rw [if_neg h]
theorem addR_0 {m : Multi} {pats : List (List Int)} {s : List Int} (h : addF m pats s = (0, 0)) : addR m pats s = bestV (valsL m pats s) (cmpF m pats) pats.length 0 [] := by unfold addR; rw [if_pos h]
theorem addF_pats {m : Multi} {pats : List (List Int)} {s : List Int} (h : addF m pats s = (0, 0)) : Valid m ∧ StateP m.sizes s ∧ PatsOk m pats := by
 obtain ⟨h0, h1, h2⟩ := addF_ok h
 obtain ⟨hv, hs⟩ := stateFault_ok h0
 exact ⟨hv, hs, fun i hi => by obtain ⟨_, _, a, b, c⟩ := valF_ok (h2 i hi); exact ⟨a, b, c⟩⟩
noncomputable def valsTo (m : Multi) (pats : List (List Int)) (s : List Int) (k : Nat) : List Int := (List.range k).map fun (i : Nat) => valR m (nth pats i) s
theorem valsTo_s {m : Multi} {pats : List (List Int)} {s : List Int} {k : Nat} : valsTo m pats s (k + 1) = valsTo m pats s k ++ [valR m (nth pats k) s] := by simp [valsTo, List.range_succ]
theorem valsTo_len {m : Multi} {pats : List (List Int)} {s : List Int} {k : Nat} : (valsTo m pats s k).length = k := by simp [valsTo]
theorem valsTo_end {m : Multi} {pats : List (List Int)} {s : List Int} (h : ∀ k, k < pats.length → valF m (nth pats k) s = (0, 0)) : valsTo m pats s pats.length = valsL m pats s := ext_get (by rw [valsTo_len, valsL_len]) fun i hi => by
 rw [valsTo_len] at hi
 rw [valsL_at hi, nth_eq (by rw [valsTo_len]; exact hi)]
 simp only [valsTo, List.getElem_map, List.getElem_range]
 rw [valR_0 (h i hi)]
def chI (ch : List Nat) : List Int := ch.map fun (k : Nat) => (k : Int)
theorem chI_app {ch : List Nat} {i : Nat} : chI (ch ++ [i]) = chI ch ++ [(i : Int)] := by simp [chI]
theorem chI_any {ch : List Nat} {m : Multi} {pats : List (List Int)} {i : Nat} : ((chI ch).any fun k => !cmpF m pats i k.toNat) = ch.any fun k => !cmpF m pats i k := by
 simp only [chI, List.any_map]
 congr 1
theorem bestV_t {V : List Int} {C : Nat → Nat → Bool} {n i : Nat} {ch : List Nat} (hi : i < n) (h : (ch.any fun k => !C i k) = true) : bestV V C (n - (i + 1)) (i + 1) ch = bestV V C (n - i) i ch := by
 rw [show n - i = n - (i + 1) + 1 by omega]
 simp only [bestV]; rw [if_pos h]
theorem bestV_f {V : List Int} {C : Nat → Nat → Bool} {n i : Nat} {ch : List Nat} (hi : i < n) (h : (ch.any fun k => !C i k) = false) : max (bestV V C (n - (i + 1)) (i + 1) ch) (plusI (nth V i) (bestV V C (n - (i + 1)) (i + 1) (ch ++ [i]))) = bestV V C (n - i) i ch := by
 rw [show n - i = n - (i + 1) + 1 by omega]
 simp only [bestV]; rw [if_neg (by simp [h])]
theorem any_mem {l : List Int} {n : Int} : (l.any fun x => decide (n = x)) = decide (n ∈ l) := by
 rw [Bool.eq_iff_iff]
 simp only [List.any_eq_true, decide_eq_true_eq]
 exact ⟨fun ⟨x, hx, e⟩ => e ▸ hx, fun h => ⟨n, h, rfl⟩⟩
theorem caught_p2 (l1 l2 : List D) : Caught [.p l1, .p l2] := fun n hn => by
 cases n with
 | zero => omega
 | succ n => rfl
theorem caught_p3 (l1 l2 l3 : List D) : Caught [.p l1, .p l2, .p l3] := fun n hn => by
 cases n with
 | zero => omega
 | succ n => rfl
end Go.Eng
end

section
namespace Go.Eng
open Go
theorem ex_addF : addF lampsM [[0], [1]] [0, 0] = (0, 0) := by decide +kernel
theorem ex_add : addR lampsM [[0], [1]] [0, 0] = 5 := by
 rw [addR_0 ex_addF]
 have h0 : pval lampsM [0] [0, 0] = 2 := by
  have hv : Valid (projM lampsM [0]) := valid_proj lamps_valid (by decide) (by decide +kernel)
  unfold pval
  rw [← costs_of hv (j := 2) (by decide +kernel)]
  decide +kernel
 have h1 : pval lampsM [1] [0, 0] = 3 := by
  have hv : Valid (projM lampsM [1]) := valid_proj lamps_valid (by decide) (by decide +kernel)
  unfold pval
  rw [← costs_of hv (j := 2) (by decide +kernel)]
  decide +kernel
 have e : valsL lampsM [[0], [1]] [0, 0] = [2, 3] := by
  show [pval lampsM [0] [0, 0], pval lampsM [1] [0, 0]] = [2, 3]
  rw [h0, h1]
 rw [e]
 decide +kernel
end Go.Eng
end

section
namespace Go.Eng
open Go
def firstF (f : Nat → Int × Int) : Nat → Int × Int
 | 0 => (0, 0)
 | k + 1 => if firstF f k = (0, 0) then f k else firstF f k
theorem firstF_of {f : Nat → Int × Int} : ∀ {n : Nat}, (∀ j, j < n → f j = (0, 0)) → firstF f n = (0, 0)
 | 0, _ => rfl
 | n + 1, h => by simp only [firstF]; rw [if_pos (firstF_of fun j hj => h j (by omega))]; exact h n (by omega)
theorem firstF_stop {f : Nat → Int × Int} {k : Nat} (h : firstF f k ≠ (0, 0)) : ∀ n, firstF f (k + n) = firstF f k
 | 0 => rfl
 | n + 1 => by
  have ih := firstF_stop h n
  show firstF f (k + n + 1) = _
  simp only [firstF]
  rw [if_neg (by rw [ih]; exact h), ih]
theorem firstF_bad {f : Nat → Int × Int} {n k : Nat} (hk : k < n) (h0 : ∀ j, j < k → f j = (0, 0)) (h : f k ≠ (0, 0)) : f k = firstF f n := by
 have h1 : firstF f (k + 1) = f k := by simp only [firstF]; rw [if_pos (firstF_of h0)]
 have := firstF_stop (f := f) (k := k + 1) (by rw [h1]; exact h) (n - (k + 1))
 rw [show k + 1 + (n - (k + 1)) = n by omega] at this
 rw [this, h1]
theorem firstF_all {f : Nat → Int × Int} : ∀ {n : Nat}, firstF f n = (0, 0) → ∀ j, j < n → f j = (0, 0)
 | 0, _, j, hj => by omega
 | n + 1, h, j, hj => by
  simp only [firstF] at h
  split at h
  ·rename_i h1
   by_cases hjn : j = n
   ·subst hjn; exact h
   ·exact firstF_all h1 j (by omega)
  ·rename_i h1; exact absurd h h1
theorem firstF_code {f : Nat → Int × Int} (hf : ∀ j, (f j).1 = 0 → f j = (0, 0)) : ∀ {n : Nat}, (firstF f n).1 = 0 → firstF f n = (0, 0)
 | 0, _ => rfl
 | n + 1, h => by
  simp only [firstF] at h ⊢
  split
  ·rename_i h1; rw [if_pos h1] at h; exact hf n h
  ·rename_i h1; rw [if_neg h1] at h; exact absurd (firstF_code hf h) h1
end Go.Eng
end

section
namespace Go.Eng
open Go
end Go.Eng
end

section
namespace Go.Eng
open Go
theorem setP_sorted {n : Int} {l : List Int} (h : SetP n l) : l.Pairwise (· < ·) := by
 have key : ∀ (d i : Nat), i + d + 1 < l.length → nth l i < nth l (i + d + 1 : Nat) := by
  intro d
  induction d with
  | zero =>
   intro i hi
   have := (h (i + 1) (by omega)).2.2 (by omega)
   have e : ((i + 1 : Nat) : Int) - 1 = (i : Int) := by omega
   rw [e] at this
   exact this
  | succ d ih =>
   intro i hi
   have h1 := ih i (by omega)
   have := (h (i + (d + 1) + 1) (by omega)).2.2 (by omega)
   have e : ((i + (d + 1) + 1 : Nat) : Int) - 1 = ((i + d + 1 : Nat) : Int) := by omega
   rw [e] at this
   exact Int.lt_trans h1 this
 rw [List.pairwise_iff_getElem]
 intro i j hi hj hij
 have := key (j - i - 1) i (by omega)
 have e : i + (j - i - 1) + 1 = j := by omega
 rw [e, nth_eq hi, nth_eq hj] at this
 exact this
theorem setP_mem {n : Int} {l : List Int} (h : SetP n l) {x : Int} (hx : x ∈ l) : 0 ≤ x ∧ x < n := by
 obtain ⟨i, hi, rfl⟩ := List.getElem_of_mem hx
 have := h i hi
 unfold SetOk at this
 rw [nth_eq hi] at this
 exact ⟨this.1, this.2.1⟩
section
variable {m : Multi} (hv : Valid m) {v : Int} (h0 : 0 ≤ v) (h1 : v < m.sizes.length)
include hv h0 h1
end
section
variable {m : Multi} (hv : Valid m) {v : Int} (h0 : 0 ≤ v) (h1 : v < m.sizes.length)
include hv h0 h1
end
end Go.Eng
namespace Go.Eng
open Go
section
variable {m : Multi} (hv : Valid m) {v : Int} (h0 : 0 ≤ v) (h1 : v < m.sizes.length)
include hv h0 h1
end
end Go.Eng
namespace Go.Eng
open Go
section
variable {m : Multi} (hv : Valid m) {f : Int} (hf : 0 ≤ f)
include hv hf
end
section
variable {m : Multi} (hv : Valid m) {f : Int} (hf : 0 ≤ f)
include hv hf
end
end Go.Eng
end

section
namespace Go.Eng
open Go
section
variable {α : Type} [DecidableEq α] [Inhabited α]
def ddTo (l : List α) : Nat → List α
 | 0 => []
 | k + 1 => if 0 < k ∧ nth l k = nth l (k - 1 : Int) then ddTo l k else ddTo l k ++ [nth l k]
def dd (l : List α) : List α := ddTo l l.length
section
variable {l : List α} {k0 : Nat} (h0 : 0 < k0) (hd : nth l k0 = nth l (k0 - 1 : Int))
include h0 hd
end
end
end Go.Eng
end

section
namespace Go.Eng
open Go.Shelf Go.Lib Go.Proofs
open Go.Sort (SWO ahead grow putCells putRow mapBlock onCells HoldsK flatK putRowK size_flatK get_flatK)
section
variable {P : Program} {N : Nat} {w0 : World} {O0 : Nat → Nat} {ops : Array Oper} {Q : Post} {e : Env} {M : Mem} {rest : List Oper} {o : Oper}
end
end Go.Eng
end

section
namespace Go.Eng
open Go
section
variable {P : Program} {N : Nat} {w0 : World} {O0 : Nat → Nat} {Q : Post} {e : Env} {M : Mem}
end
theorem pw_lt_len {n : Int} : ∀ {l : List Int} {x : Int}, l.Pairwise (· < ·) → (∀ y, y ∈ l → x ≤ y ∧ y < n) → (l.length : Int) ≤ max 0 (n - x)
  | [], x, _, _ => by simp; omega
  | y :: l, x, hp, hm => by
    rw [List.pairwise_cons] at hp
    have h1 := hm y (by simp)
    have := pw_lt_len (n := n) (x := y + 1) hp.2 (fun z hz => ⟨by have := hp.1 z hz; omega, (hm z (by simp [hz])).2⟩)
    simp only [List.length_cons]
    omega
section
variable {P : Program} {B : Nat} {o : Oper} {e : Env} {M : Mem}
end
section
variable {P : Program} {B : Nat} {o : Oper} {e : Env} {M : Mem}
end
end Go.Eng
end

section
namespace Go.Eng
open Go
theorem tk_s {α : Type} [Inhabited α] {l : List α} {k : Nat} (hk : k < l.length) : l.take (k + 1) = l.take k ++ [nth l k] := by
  rw [List.take_add_one, List.getElem?_eq_getElem hk, nth_eq hk]; rfl
section
variable {a b : Abs} (ha : AbsOk a) (hb : AbsOk b)
include ha hb
end
structure PrdP (a b : Abs) : Prop where
  oa : AbsOk a
  ob : AbsOk b
  lab : a.labels = b.labels
  st : a.states * b.states ≤ 60
section
variable {a b : Abs} (h : PrdP a b)
include h
end
section
variable {a b : Abs} {c : List Int} (h : PrdP a b)
include h
end
section
variable {m : Multi} (hv : Valid m)
include hv
end
section
variable {m : Multi} (hval : validate m = (0, 0)) (hr : ranks m.sizes ≤ 60)
include hval hr
end
end Go.Eng
end

section
namespace Go.Eng
open Go
section
variable {α : Type} [DecidableEq α] [Inhabited α]
def dsTo (l : List α) : Nat → List α
  | 0 => []
  | k + 1 => if nth l k ∈ dsTo l k then dsTo l k else dsTo l k ++ [nth l k]
end
def cnt (p : List Int) : Nat := (dsTo p p.length).length
end Go.Eng
end

section
namespace Go.Eng
open Go.Shelf Go.Lib Go.Proofs
open Go.Sort (Holds ahead grow putCells putRow mapBlock onCells)
def sortI (l : List Int) : List Int := l.mergeSort fun x y => decide (x ≤ y)
end Go.Eng
end

section
namespace Go.Eng
open Go
end Go.Eng
end

section
namespace Go.Eng
open Go
end Go.Eng
end

section
namespace Go.Eng
open Go
structure SOp where
 pre : List Int
 add : List Int
 del : List Int
 cost : Int
deriving DecidableEq
instance : Inhabited SOp := ⟨⟨[], [], [], 0⟩⟩
structure Tsk where
 facts : Int
 ini : List Int
 goal : List Int
 ops : List SOp
deriving DecidableEq
instance : Inhabited Tsk := ⟨⟨0, [], [], []⟩⟩
abbrev sopC (o : SOp) : List D := [ints o.pre, ints o.add, ints o.del, .v (.int .i64 o.cost)]
abbrev sopS (o : SOp) : S := .g [.d (ints o.pre), .d (ints o.add), .d (ints o.del), I o.cost]
abbrev sopsD (l : List SOp) : D := .s 4 (l.map sopC)
abbrev tskS (t : Tsk) : S := .g [I t.facts, .d (ints t.ini), .d (ints t.goal), .d (sopsD t.ops)]
def lbd (l : List Int) (x : Int) : Nat := (l.filter fun y => decide (y < x)).length
theorem lbd_le {l : List Int} {x : Int} : lbd l x ≤ l.length := List.length_filter_le _ _
theorem lbd_cons {l : List Int} {x y : Int} : lbd (y :: l) x = if y < x then lbd l x + 1 else lbd l x := by
 unfold lbd
 by_cases h : y < x <;> simp [List.filter_cons, h]
theorem lbd_iff {x : Int} : ∀ {l : List Int}, l.Pairwise (· < ·) → ∀ {i : Nat}, i < l.length → (nth l i < x ↔ i < lbd l x)
 | [], _, i, h => by simp at h
 | y :: l, hp, i, hi => by
  rw [List.pairwise_cons] at hp
  have h0 : y < x ∨ lbd l x = 0 := by
   by_cases h : y < x
   ·exact .inl h
   ·right
    unfold lbd
    rw [List.filter_eq_nil_iff.2 (fun z hz => by have := hp.1 z hz; simp; omega)]; rfl
  rw [lbd_cons]
  cases i with
  | zero =>
   show y < x ↔ _
   by_cases h : y < x
   ·simp [h]
   ·rcases h0 with h0 | h0
    ·exact absurd h0 h
    ·simp [h, h0]
  | succ i =>
   have e : nth (y :: l) ((i + 1 : Nat) : Int) = nth l i := by simp [nth]
   rw [e, lbd_iff hp.2 (by simpa using hi)]
   rcases h0 with h0 | h0
   ·rw [if_pos h0]; omega
   ·by_cases h : y < x
    ·rw [if_pos h]; omega
    ·rw [if_neg h]; omega
theorem lbd_mem {l : List Int} {x : Int} (hp : l.Pairwise (· < ·)) : x ∈ l ↔ lbd l x < l.length ∧ nth l (lbd l x) = x := by
 constructor
 ·intro h
  obtain ⟨i, hi, he⟩ := List.getElem_of_mem h
  have hx : nth l i = x := by rw [nth_eq hi, he]
  have h1 := lbd_iff (x := x) hp hi
  have h2 : lbd l x ≤ i := by
   have : ¬ i < lbd l x := fun hh => by have := h1.2 hh; omega
   omega
  refine ⟨by omega, ?_⟩
  by_cases e : lbd l x = i
  ·rw [e]; exact hx
  ·have h3 : ¬ nth l (lbd l x) < x := fun hh => by have := (lbd_iff (x := x) hp (show lbd l x < l.length by omega)).1 hh; omega
   have h4 := List.pairwise_iff_getElem.1 hp (lbd l x) i (by omega) hi (by omega)
   rw [← nth_eq (by omega), ← nth_eq hi] at h4
   omega
 ·rintro ⟨h1, h2⟩
  rw [← h2]
  exact nth_mem (by omega) (by omega)
def DisjP (a b : List Int) : Prop := ∀ i : Nat, i < a.length → nth a i ∉ b
instance {a b : List Int} : Decidable (DisjP a b) := by unfold DisjP; exact inferInstance
def opCode (n : Int) (o : SOp) : Int := if ¬ (SetP n o.pre ∧ SetP n o.add ∧ SetP n o.del ∧ DisjP o.add o.del) then 5 else if o.cost < 0 ∨ 100 < o.cost then 3 else 0
def sopsF (t : Tsk) : Int × Int := firstF (fun k => if opCode t.facts (nth t.ops k) = 0 then (0, 0) else (opCode t.facts (nth t.ops k), (k : Int))) t.ops.length
def tskF (t : Tsk) : Int × Int :=
 if t.facts < 0 ∨ 24 < t.facts then (3, -1) else if ¬ SetP t.facts t.ini then (5, -2) else if ¬ SetP t.facts t.goal then (5, -3) else if 40 < t.ops.length then (2, -1) else sopsF t
theorem opCode_5 {n : Int} {o : SOp} (h : ¬ (SetP n o.pre ∧ SetP n o.add ∧ SetP n o.del ∧ DisjP o.add o.del)) : opCode n o = 5 := by unfold opCode; rw [if_pos h]
theorem opCode_3 {n : Int} {o : SOp} (h : SetP n o.pre ∧ SetP n o.add ∧ SetP n o.del ∧ DisjP o.add o.del) (h2 : o.cost < 0 ∨ 100 < o.cost) : opCode n o = 3 := by unfold opCode; rw [if_neg (fun hn => hn h), if_pos h2]
theorem opCode_0 {n : Int} {o : SOp} (h : SetP n o.pre ∧ SetP n o.add ∧ SetP n o.del ∧ DisjP o.add o.del) (h2 : ¬ (o.cost < 0 ∨ 100 < o.cost)) : opCode n o = 0 := by unfold opCode; rw [if_neg (fun hn => hn h), if_neg h2]
section
variable {t : Tsk}
theorem tskF_1 (h : t.facts < 0 ∨ 24 < t.facts) : (3, -1) = tskF t := by unfold tskF; rw [if_pos h]
theorem tskF_2 (h : ¬ (t.facts < 0 ∨ 24 < t.facts)) (h2 : ¬ SetP t.facts t.ini) : (5, -2) = tskF t := by unfold tskF; rw [if_neg h, if_pos h2]
theorem tskF_3 (h : ¬ (t.facts < 0 ∨ 24 < t.facts)) (h2 : SetP t.facts t.ini) (h3 : ¬ SetP t.facts t.goal) : (5, -3) = tskF t := by unfold tskF; rw [if_neg h, if_neg (fun hn => hn h2), if_pos h3]
theorem tskF_4 (h : ¬ (t.facts < 0 ∨ 24 < t.facts)) (h2 : SetP t.facts t.ini) (h3 : SetP t.facts t.goal) (h4 : 40 < t.ops.length) : (2, -1) = tskF t := by unfold tskF; rw [if_neg h, if_neg (fun hn => hn h2), if_neg (fun hn => hn h3), if_pos h4]
theorem tskF_5 (h : ¬ (t.facts < 0 ∨ 24 < t.facts)) (h2 : SetP t.facts t.ini) (h3 : SetP t.facts t.goal) (h4 : ¬ 40 < t.ops.length) : tskF t = sopsF t := by unfold tskF; rw [if_neg h, if_neg (fun hn => hn h2), if_neg (fun hn => hn h3), if_neg h4]
theorem sops_bad {k : Nat} (hk : k < t.ops.length) (h : ∀ i : Nat, i < k → opCode t.facts (nth t.ops i) = 0) (hb : opCode t.facts (nth t.ops k) ≠ 0) : (opCode t.facts (nth t.ops k), (k : Int)) = sopsF t := by
 have := firstF_bad (f := fun k => if opCode t.facts (nth t.ops k) = 0 then (0, 0) else (opCode t.facts (nth t.ops k), (k : Int))) hk (fun j hj => if_pos (h j hj)) (by rw [if_neg hb]; intro e; exact hb (congrArg Prod.fst e))
 rw [if_neg hb] at this
 exact this
theorem sops_all (h : ∀ i : Nat, i < t.ops.length → opCode t.facts (nth t.ops i) = 0) : sopsF t = (0, 0) := firstF_of fun j hj => if_pos (h j hj)
end
theorem setP_len {n : Int} {l : List Int} (h : SetP n l) (hn : n ≤ 24) : l.length ≤ 1000000 := by
 have := pw_lt_len (n := n) (x := 0) (setP_sorted h) (fun y hy => setP_mem h hy)
 omega
theorem disj_any {a b : List Int} (h : ∀ x, x ∈ a → x ∉ b) : DisjP a b := fun i hi => h _ (nth_mem (by omega) (by omega))
theorem any_disj {a b : List Int} (h : (a.any fun x => decide (x ∈ b)) = true) (hd : DisjP a b) : False := by
 obtain ⟨x, hx, hb⟩ := List.any_eq_true.1 h
 obtain ⟨i, hi, rfl⟩ := List.getElem_of_mem hx
 have := hd i hi
 rw [nth_eq hi] at this
 exact this (by simpa using hb)
theorem opCode_c {n : Int} {o : SOp} {k : Int} : (if opCode n o = 0 then ((0, 0) : Int × Int) else (opCode n o, k)).1 = 0 → (if opCode n o = 0 then ((0, 0) : Int × Int) else (opCode n o, k)) = (0, 0) := by
 by_cases h : opCode n o = 0
 ·rw [if_pos h]; exact fun _ => rfl
 ·rw [if_neg h]; exact fun hh => absurd hh h
theorem tskF_inv {t : Tsk} (h : (tskF t).1 = 0) : (0 ≤ t.facts ∧ t.facts ≤ 24) ∧ SetP t.facts t.ini ∧ SetP t.facts t.goal ∧ t.ops.length ≤ 40 ∧ sopsF t = (0, 0) ∧ tskF t = (0, 0) := by
 by_cases h1 : t.facts < 0 ∨ 24 < t.facts
 ·rw [← tskF_1 h1] at h; simp at h
 ·by_cases h2 : SetP t.facts t.ini
  ·by_cases h3 : SetP t.facts t.goal
   ·by_cases h4 : 40 < t.ops.length
    ·rw [← tskF_4 h1 h2 h3 h4] at h; simp at h
    ·rw [tskF_5 h1 h2 h3 h4] at h ⊢
     have := firstF_code (fun j => opCode_c) h
     exact ⟨by omega, h2, h3, by omega, this, this⟩
   ·rw [← tskF_3 h1 h2 h3] at h; simp at h
  ·rw [← tskF_2 h1 h2] at h; simp at h
theorem tskF_code {t : Tsk} (h : (tskF t).1 = 0) : tskF t = (0, 0) := (tskF_inv h).2.2.2.2.2
end Go.Eng
end
