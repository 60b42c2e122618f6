/- Part 5. -/
import Derived.Test.YthjmgcopfipabaaGreatE4
set_option linter.unusedSimpArgs false
set_option linter.unnecessarySimpa false
set_option linter.unusedVariables false
set_option linter.unusedSectionVars false
section
namespace Go.Proofs.YthjmgcopfipabaaGreat
open Go.Eng
set_option maxRecDepth 10000
set_option maxHeartbeats 1000000
theorem relaxed_All_does (m : List Bool) (l : List Int) (h : ∀ k : Nat, k < l.length → 0 ≤ nth l k ∧ nth l k < m.length) : Does Tryz.prog false 108 [.d (bools m), .d (ints l)] (Bo (decide (AllP m l))) := by
 refine Does.of_body Tryz.func108 rfl rfl (by simp) Tryz.call108 (fun w0 O0 => ?_); refine .le 0 fun len0 => ?_; refine .le 1 fun len1 => ?_; refine .g <| .r <| .a ?_; refine .sq <| .g <| .g <| .r <| .m ?_; refine .x (.n es22) ?_; refine .m ?_; refine .sq <| .k <| .loop (X := Nat) (fun k => k ≤ l.length ∧ ∀ i : Nat, i < k → nth m (nth l i) = true) (fun k => [(0, .d (bools m)), (7, .d (ints l)), (8, I (l.length)), (9, I (k))]) (fun k => []) (fun k => l.length - k) 0 ⟨by omega, by simp⟩ ?_ ?_
 ·exact .p3 <| .slot rfl (Le.of_eq (by simp)) <| .nil
 ·rintro k ⟨hkl, hinv⟩
  refine .g <| .r <| .x (.b blss) ?_; refine .sq <| .g <| .cond rfl (fun c10 => ?_) (fun c10 => ?_)
  ·have hk : k < l.length := by simpa using c10
   have hh := h k hk
   refine .p <| .g <| .g <| .k <| .g <| .r <| .x (.i es22) ?_; refine .x (.l1 vs3) ?_; refine .a ?_; refine .z <| .mm ?_; refine .x (.i es75) ?_; refine .x (.l1 vs4) ?_; refine .x .nt ?_; refine .sq <| .cond rfl (fun c17 => ?_) (fun c17 => ?_)
   ·have hb : ¬ nth m (nth l k) = true := by simpa using c17
    refine .g <| .r <| .a ?_; exact .sq <| .t <| .k <| .t <| .t <| .k <| .t <| .ret rfl (.tmp rfl <| .nil) rfl (Le.bo (decide_eq_false (fun h => hb (h k hk))).symm)
   ·have hb : nth m (nth l k) = true := by simpa using c17
    refine .p <| .n <| .y <| .x .ad ?_; refine .m ?_; refine .n <| .again (k + 1) ⟨by omega, all_succ hinv hb⟩ ?_ (by omega); exact .p3 <| .slot rfl (Le.of_eq (by simp)) <| .nil
  ·have hk : k = l.length := by simp at c10; omega
   refine .u <| .u <| .u <| .b <| .z <| .a ?_; exact .sq <| .t <| .ret rfl (.tmp rfl <| .nil) rfl (Le.bo (decide_eq_true (by subst hk; exact hinv)).symm)
theorem relaxed_Close_does (t : Tsk) (s : List Int) (fn : Nat) (d1 d2 : List D) (use : Nat → Bool) (ht : TskOk t) (hs : ∀ p, p ∈ s → 0 ≤ p ∧ p < t.facts) (hf : ∀ i : Nat, i < t.ops.length → Does Tryz.prog false fn [I i, .p d1, .p d2] (Bo (use i))) : DoesO Tryz.prog 127 [tskS t, .d (ints s), .f fn [] [.p d1, .p d2]] 1 4 (((cloL t s use).map fun b => [D.v (.bool b)])) := by
 have htf := ht.1
 refine DoesO.of_body Tryz.func127 rfl rfl (by simp) Tryz.call127 (fun w0 O0 => ?_); refine .lg 0 1 fun len0_1 => ?_; refine .lg 0 2 fun len0_2 => ?_; refine .lg 0 3 fun len0_3 => ?_; refine .le 1 fun len1 => ?_; refine .g <| .r <| .bx 3 ?_; refine .a ?_; refine .z <| .x (.f fo25_0) ?_; refine .x (.l vs3) ?_; refine .mk 17 es75 ze75 bye75 ?_; refine .a ?_; refine .sq <| .g <| .g <| .r <| .m ?_; refine .x (.n es22) ?_; refine .m ?_; refine .sq <| .k <| .loop (X := Nat) (fun k => k ≤ s.length) (fun k => [(2, .f fn [] [.p d1, .p d2]), (3, .r 3 0), (7, .o 17), (18, .d (ints s)), (19, I (s.length)), (20, I (k))]) (fun k => [(17, .own 1 4 ((mkTo t.facts.toNat s k).map fun b => [D.v (.bool b)])), (3, .box [I (t.facts), .d (ints t.ini), .d (ints t.goal), .d (sopsD t.ops)])]) (fun k => s.length - k) 0 (by omega) ?_ ?_
 ·exact .p5 <| .slot rfl (Le.of_eq (by simp)) <| .memEq rfl (by rw [el75]; first | (simp [mkTo]; done) | (simp [mkTo]; rfl)) <| .mem rfl <| .nil
 ·rintro k hkl
  refine .g <| .r <| .x (.b blss) ?_; refine .sq <| .g <| .cond rfl (fun c21 => ?_) (fun c21 => ?_)
  ·have hk : k < s.length := by simpa using c21
   have hsk := hs _ (nth_mem (l := s) (n := k) (by omega) (by omega))
   refine .p <| .g <| .g <| .k <| .g <| .r <| .x (.i es22) ?_; refine .x (.l1 vs3) ?_; refine .a ?_; refine .y <| .mm ?_; refine .x (OpSem.idxo rfl rfl rfl rfl es75 (by omega) (by simp [mkTo_len]; omega)) ?_; refine .storeq rfl rfl rfl rfl rfl rfl rfl vs4 (rows_get (by omega) (by rw [mkTo_len]; omega)) (by simp) ?_; refine .n <| .n <| .y <| .x .ad ?_; refine .m ?_; refine .n <| .again (k + 1) (by omega) ?_ (by omega); exact .p5 <| .slot rfl (Le.of_eq (by simp)) <| .memEq rfl (by exact congrArg (Mo.own 1 4) (rows_set (f := fun b => [D.v (.bool b)]))) <| .mem rfl <| .nil
  ·have hk : k = s.length := by simp at c21; omega
   subst hk
   refine .u <| .u <| .u <| .b <| .g <| .g <| .g <| .r <| .a ?_; refine .sq <| .k <| .loop (X := (List Bool × Bool)) (fun x => LInv t s use x) (fun x => [(2, .f fn [] [.p d1, .p d2]), (3, .r 3 0), (7, .o 17), (10, Bo (x.2))]) (fun x => [(17, .own 1 4 (x.1.map fun b => [D.v (.bool b)])), (3, .box [I (t.facts), .d (ints t.ini), .d (ints t.goal), .d (sopsD t.ops)])]) (fun x => mMu x) (mkTo t.facts.toNat s s.length, true) (lInv_0 hs htf.1) ?_ ?_
   ·exact .p3 <| .sl <| .memEq rfl rfl <| .mem rfl <| .nil
   ·rintro x hinv
    refine .g <| .g <| .r <| .m ?_; refine .sq <| .cond rfl (fun c28 => ?_) (fun c28 => ?_)
    ·have hx2 : x.2 = true := c28
     have hse : (x.1, true) = x := by rw [← hx2]
     refine .p <| .g <| .k <| .g <| .r <| .a ?_; refine .z <| .x (.f fo25_3) ?_; refine .x (.l vs23) ?_; refine .x (.n es23) ?_; refine .m ?_; refine .sq <| .k <| .loop (X := Nat) (fun i => i ≤ t.ops.length) (fun i => [(2, .f fn [] [.p d1, .p d2]), (3, .r 3 0), (7, .o 17), (10, Bo ((clTo t use (x.1, false) i).2)), (30, .d (sopsD t.ops)), (31, I (t.ops.length)), (32, I (i))]) (fun i => [(17, .own 1 4 (((clTo t use (x.1, false) i).1).map fun b => [D.v (.bool b)])), (3, .box [I (t.facts), .d (ints t.ini), .d (ints t.goal), .d (sopsD t.ops)])]) (fun i => t.ops.length - i) 0 (by omega) ?_ ?_
     ·exact .p3 <| .slot rfl (Le.bo rfl) <| .p2 <| .slot rfl (Le.of_eq (by simp)) <| .memEq rfl rfl <| .mem rfl <| .nil
     ·rintro i hil
      refine .g <| .r <| .x (.b blss) ?_; refine .sq <| .g <| .cond rfl (fun c33 => ?_) (fun c33 => ?_)
      ·have hi : i < t.ops.length := by simpa using c33
       have hCI := (clTo_inv ht hs (d := (x.1, false)) hinv.1 (i := i) (by omega)).1
       have hpre := set_rng (ht.2 i hi).1
       have hadd := set_rng (ht.2 i hi).2.1
       have hadl := setP_len (ht.2 i hi).2.1 htf.2
       refine .p <| .g <| .g <| .k <| .g <| .r <| .m ?_; refine .x (.i es23) ?_; refine .x (.lN vs41) ?_; refine .al 12 zc41 ?_; refine .a ?_; refine .sb vs41 ?_; refine .sq <| .g <| .g <| .r <| .mm ?_; refine .x (OpSem.call0 (hf _ hi) rfl rfl rfl rfl (Les.refl _)) ?_; refine .x .nt ?_; refine .m ?_; refine .split (n := 41) rfl (fun c41 => ?_) (fun c41 => ?_)
       ·have hst : clTo t use (x.1, false) (i + 1) = (clTo t use (x.1, false) i) := by show clS t use (clTo t use (x.1, false) i) i = _; unfold clS; rw [if_neg (fun h => by simp [h.1] at c41)]
        refine .hf c41 ?_; refine .hf c41 ?_; refine .hf c41 ?_; refine .hf c41 ?_; refine .hf c41 ?_; refine .x (OpSem.pickT rfl rfl c41 rfl) ?_; refine .sq <| .condT rfl rfl ?_; refine .u <| .u <| .b <| .y <| .x .ad ?_; refine .m ?_; refine .n <| .again (i + 1) (by omega) ?_ (by omega); exact .p3 <| .slot rfl (Le.bo (by rw [hst])) <| .p2 <| .slot rfl (Le.of_eq (by simp)) <| .memEq rfl (by first | (rw [hst]; rfl) | rw [hst]) <| .mem rfl <| .nil
       ·refine .ht c41 ?_; refine .m ?_; refine .ht c41 ?_; refine .x (.f fo41_0) ?_; refine .ht c41 ?_; refine .x (.l vs22) ?_; refine .ht c41 ?_; refine .x (OpSem.call (relaxed_All_does (clTo t use (x.1, false) i).1 (nth t.ops i).pre (fun k hk => by have q := hpre k hk; have q2 := hCI.len; omega)) (.inr rfl) rfl rfl rfl rfl (Les.refl _)) ?_; refine .ht c41 ?_; refine .x .nt ?_; refine .x (OpSem.pickF rfl rfl c41 rfl) ?_; refine .sq <| .cond rfl (fun c47 => ?_) (fun c47 => ?_)
        ·have hst : clTo t use (x.1, false) (i + 1) = (clTo t use (x.1, false) i) := by show clS t use (clTo t use (x.1, false) i) i = _; unfold clS; rw [if_neg (fun h => by rw [decide_eq_true h.2] at c47; simp at c47)]
         refine .u <| .u <| .b <| .y <| .x .ad ?_; refine .m ?_; refine .n <| .again (i + 1) (by omega) ?_ (by omega); exact .p3 <| .slot rfl (Le.bo (by rw [hst])) <| .p2 <| .slot rfl (Le.of_eq (by simp)) <| .memEq rfl (by first | (rw [hst]; rfl) | rw [hst]) <| .mem rfl <| .nil
        ·have hu : use i = true := by simpa using c41
         have ha : AllP (clTo t use (x.1, false) i).1 (nth t.ops i).pre := by simpa using c47
         have hst : clTo t use (x.1, false) (i + 1) = addTo2 (nth t.ops i).add (clTo t use (x.1, false) i) (nth t.ops i).add.length := by show clS t use (clTo t use (x.1, false) i) i = _; unfold clS; rw [if_pos ⟨hu, ha⟩]
         refine .p <| .z <| .x (.f fo41_1) ?_; refine .x (.l vs22) ?_; refine .x (.n es22) ?_; refine .m ?_; refine .sq <| .k <| .loop (X := Nat) (fun j => j ≤ (nth t.ops i).add.length) (fun j => [(2, .f fn [] [.p d1, .p d2]), (3, .r 3 0), (7, .o 17), (10, Bo ((addTo2 (nth t.ops i).add (clTo t use (x.1, false) i) j).2)), (30, .d (sopsD t.ops)), (31, I (t.ops.length)), (32, I (i)), (49, .d (ints ((nth t.ops i).add))), (50, I (((nth t.ops i).add).length)), (51, I (j))]) (fun j => [(17, .own 1 4 (((addTo2 (nth t.ops i).add (clTo t use (x.1, false) i) j).1).map fun b => [D.v (.bool b)])), (3, .box [I (t.facts), .d (ints t.ini), .d (ints t.goal), .d (sopsD t.ops)])]) (fun j => (nth t.ops i).add.length - j) 0 (by omega) ?_ ?_
         ·exact .p3 <| .slot rfl (Le.bo rfl) <| .p5 <| .slot rfl (Le.of_eq (by simp)) <| .memEq rfl rfl <| .mem rfl <| .nil
         ·rintro j hjl
          refine .g <| .r <| .x (.b blss) ?_; refine .sq <| .g <| .cond rfl (fun c52 => ?_) (fun c52 => ?_)
          ·have hj : j < (nth t.ops i).add.length := by simpa using c52
           have hAJ := (addTo2_inv hadd (pre_rch ht hCI hi hu ha) hCI hs (j := j) (by omega)).1
           have hal := hAJ.len
           have hpj := hadd j hj
           refine .p <| .g <| .g <| .k <| .g <| .r <| .x (.i es22) ?_; refine .x (.l1 vs3) ?_; refine .a ?_; refine .z <| .mm ?_; refine .split (n := 56) rfl (fun c56 => ?_) (fun c56 => ?_)
           ·refine .hf c56 ?_; refine .hf c56 ?_; refine .hf c56 ?_; refine .hf c56 ?_; refine .hf c56 ?_; refine .x (OpSem.pickT rfl rfl c56 rfl) ?_; refine .a ?_; refine .y <| .mm ?_; refine .x (OpSem.idxo rfl rfl rfl rfl es75 (by omega) (by simp; omega)) ?_; refine .storeq rfl rfl rfl rfl rfl rfl rfl vs4 (rows_get (by omega) (by omega)) (by simp) ?_; refine .n <| .n <| .y <| .x .ad ?_; refine .m ?_; refine .n <| .again (j + 1) (by omega) ?_ (by omega); exact .p3 <| .slot rfl (Le.bo (by simp only [addTo2]; simp_all)) <| .p5 <| .slot rfl (Le.of_eq (by simp)) <| .memEq rfl (by exact congrArg (Mo.own 1 4) (rows_set (f := fun b => [D.v (.bool b)]))) <| .mem rfl <| .nil
           ·refine .ht c56 ?_; refine .m ?_; refine .ht c56 ?_; refine .m ?_; refine .ht c56 ?_; refine .x (OpSem.idxo rfl rfl rfl rfl es75 (by omega) (by simp; omega)) ?_; refine .ht c56 ?_; refine .x (OpSem.loadq rfl rfl rfl vs4 (rows_get (by omega) (by omega)) rfl) ?_; refine .ht c56 ?_; refine .x .nt ?_; refine .x (OpSem.pickF rfl rfl c56 rfl) ?_; refine .a ?_; refine .y <| .mm ?_; refine .x (OpSem.idxo rfl rfl rfl rfl es75 (by omega) (by simp; omega)) ?_; refine .storeq rfl rfl rfl rfl rfl rfl rfl vs4 (rows_get (by omega) (by omega)) (by simp) ?_; refine .n <| .n <| .y <| .x .ad ?_; refine .m ?_; refine .n <| .again (j + 1) (by omega) ?_ (by omega); exact .p3 <| .slot rfl (Le.bo (by simp only [addTo2]; simp_all)) <| .p5 <| .slot rfl (Le.of_eq (by simp)) <| .memEq rfl (by exact congrArg (Mo.own 1 4) (rows_set (f := fun b => [D.v (.bool b)]))) <| .mem rfl <| .nil
          ·have hj : j = (nth t.ops i).add.length := by simp at c52; omega
           subst hj
           refine .u <| .u <| .u <| .b <| .n <| .y <| .x .ad ?_; refine .m ?_; refine .n <| .again (i + 1) (by omega) ?_ (by omega); exact .p3 <| .slot rfl (Le.bo (by rw [hst])) <| .p2 <| .slot rfl (Le.of_eq (by simp)) <| .memEq rfl (by first | (rw [hst]; rfl) | rw [hst]) <| .mem rfl <| .nil
      ·have hi : i = t.ops.length := by simp at c33; omega
       subst hi
       refine .u <| .u <| .u <| .b <| .n <| .again (clTo t use (x.1, false) t.ops.length) (lInv_s ht hs hinv.1).1 ?_ (by have q := (lInv_s ht hs hinv.1).2; rwa [hse] at q)
       exact .p3 <| .sl <| .memEq rfl rfl <| .mem rfl <| .nil
    ·have hx2 : x.2 = false := c28
     have hend := lInv_end ht hs hinv hx2
     refine .u <| .u <| .u <| .b <| .z <| .m ?_; refine .a ?_; exact .sq <| .t <| .retO2 rfl rfl rfl (by simp) (by rw [hend])
end Go.Proofs.YthjmgcopfipabaaGreat
end

section
namespace Go.Proofs.YthjmgcopfipabaaGreat
open Go.Eng
set_option maxRecDepth 10000
set_option maxHeartbeats 1000000
theorem slices_Index_int_int_does (l : List Int) (n : Int) : Does Tryz.prog false 94 [.d (ints l), I (n)] (I (findI (fun x => decide (n = x)) l)) := by
 refine Does.of_body Tryz.func94 rfl rfl (by simp) Tryz.call94 (fun w0 O0 => ?_); refine .le 0 fun len0 => ?_; refine .g <| .r <| .a ?_; refine .sq <| .g <| .g <| .r <| .m ?_; refine .x (.n es22) ?_; refine .m ?_; refine .sq <| .k <| .loop (X := Nat) (fun k => k ≤ l.length ∧ ∀ j : Nat, j < k → decide (n = nth l j) = false) (fun k => [(0, .d (ints l)), (1, I (n)), (7, I (l.length)), (8, I (k))]) (fun k => []) (fun k => l.length - k) 0 ⟨by omega, by simp⟩ ?_ ?_
 ·exact .p3 <| .slot rfl (Le.of_eq (by simp)) <| .nil
 ·rintro k ⟨hkl, hinv⟩
  refine .g <| .r <| .x (.b blss) ?_; refine .sq <| .g <| .cond rfl (fun c9 => ?_) (fun c9 => ?_)
  ·have hk : k < l.length := by simpa using c9
   refine .p <| .g <| .g <| .k <| .g <| .r <| .m ?_; refine .a ?_; refine .z <| .mm ?_; refine .m ?_; refine .x (.i es22) ?_; refine .x (.l1 vs3) ?_; refine .x (.b beql) ?_; refine .sq <| .cond rfl (fun c16 => ?_) (fun c16 => ?_)
   ·refine .g <| .r <| .m ?_; refine .a ?_; exact .sq <| .t <| .k <| .t <| .t <| .k <| .t <| .ret rfl (.tmp rfl <| .nil) rfl (Le.i (findI_some (p := fun x => decide (n = x)) hk hinv c16).symm)
   ·have hb : decide (n = nth l k) = false := c16
    refine .p <| .n <| .y <| .x .ad ?_; refine .m ?_; refine .n <| .again (k + 1) ⟨by omega, all_succ hinv hb⟩ ?_ (by omega); exact .p3 <| .slot rfl (Le.of_eq (by simp)) <| .nil
  ·have hk : k = l.length := by simp at c9; omega
   refine .u <| .u <| .u <| .b <| .z <| .a ?_; exact .sq <| .t <| .ret rfl (.tmp rfl <| .nil) rfl (Le.i (by subst hk; exact (findI_none (p := fun x => decide (n = x)) hinv).symm))
theorem slices_Contains_int_int_does (l : List Int) (n : Int) : Does Tryz.prog false 54 [.d (ints l), I (n)] (Bo (decide (n ∈ l))) := by
 refine Does.of_body Tryz.func54 rfl rfl (by simp) Tryz.call54 (fun w0 O0 => ?_); refine .le 0 fun len0 => ?_; refine .g <| .r <| .a ?_; refine .z <| .mm ?_; refine .x (OpSem.call0 (slices_Index_int_int_does l n) rfl rfl rfl rfl (Les.refl _)) ?_; refine .x (.b bgeq) ?_; refine .a ?_; exact .sq <| .t <| .ret rfl (.tmp rfl <| .nil) rfl (Le.bo (findI_any.trans any_mem))
theorem landmark_without_1_does (i : Nat) (t : Tsk) (p : Int) (hi : i < t.ops.length) : Does Tryz.prog false 128 [I (i), .p [.v (.int .i64 t.facts), ints t.ini, ints t.goal, sopsD t.ops], .p [.v (.int .i64 p)]] (Bo (useP t p i)) := by
 refine Does.of_body Tryz.func128 rfl rfl (by simp) Tryz.call128 (fun w0 O0 => ?_); refine .g <| .r <| .a ?_; refine .sq <| .g <| PC.start [] ?_; refine .x (OpSem.fieldp rfl rfl fo25_3) ?_; refine .x (.l1 vs23) ?_; refine .m ?_; refine .x (.i es23) ?_; refine .x (OpSem.fieldp rfl rfl fo41_1) ?_; refine .x (.l1 vs22) ?_; refine .x (.l1 vs3) ?_; refine .d0 mixed ?_; refine .x (OpSem.call0 (slices_Contains_int_int_does (nth t.ops i).add p) rfl rfl rfl rfl (Les.refl _)) ?_; refine .x .nt ?_; refine .a ?_; exact .sq <| .t <| .ret rfl (.tmp rfl <| .nil) rfl (.refl _)
theorem landmark_without_does (t : Tsk) (p : Int) (hV : TskV t) : DoesO Tryz.prog 107 [tskS t, I (p)] 1 4 (((wtoL t p).map fun b => [D.v (.bool b)])) := by
 refine DoesO.of_body Tryz.func107 rfl rfl (by simp) Tryz.call107 (fun w0 O0 => ?_); refine .lg 0 1 fun len0_1 => ?_; refine .lg 0 2 fun len0_2 => ?_; refine .lg 0 3 fun len0_3 => ?_; refine .g <| .r <| .bx 2 ?_; refine .bx 3 ?_; refine .a ?_; refine .sq <| .g <| .freezeR 2 rfl rfl ?_; refine .freezeR 3 rfl rfl ?_; refine .r <| .x (.lN vs25) ?_; refine .x (OpSem.fieldp rfl rfl fo25_1) ?_; refine .x (.l1 vs22) ?_; refine .x (OpSem.makeFunc rfl rfl rfl) ?_; refine .semM (OpSem.callO 9 (relaxed_Close_does t t.ini 128 [.v (.int .i64 t.facts), ints t.ini, ints t.goal, sopsD t.ops] [.v (.int .i64 p)] (useP t p) hV.ok (fun q hq => setP_mem hV.ini hq) (fun i hi => landmark_without_1_does i t p hi)) rfl rfl rfl rfl (Les.refl _)) rfl rfl (by decide) ?_; refine .a ?_; exact .sq <| .t <| .retO2 rfl rfl rfl (by simp) (rfl)
theorem landmark_facts_does (t : Tsk) (hV : TskV t) : DoesO Tryz.prog 106 [tskS t] 1 3 (((lmL t).map fun n => [D.v (.int .i64 n)])) := by
 have htf := hV.facts
 refine DoesO.of_body Tryz.func106 rfl rfl (by simp) Tryz.call106 (fun w0 O0 => ?_); refine .lg 0 1 fun len0_1 => ?_; refine .lg 0 2 fun len0_2 => ?_; refine .lg 0 3 fun len0_3 => ?_; refine .g <| .r <| .bx 1 ?_; refine .a ?_; refine .z <| .a ?_; refine .sq <| .g <| .g <| .ownNil (n := 3) 3 1 3 rfl ?_; refine .r <| .x (.f fo25_0) ?_; refine .x (.l vs3) ?_; refine .m ?_; refine .sq <| .k <| .loop (X := Nat) (fun k0 => (k0 : Int) ≤ t.facts) (fun k0 => [(1, .r 1 0), (3, .o 3), (6, I (t.facts)), (7, I (k0))]) (fun k0 => [(3, .own 1 3 ((lmTo t k0).map fun n => [D.v (.int .i64 n)])), (1, .box [I (t.facts), .d (ints t.ini), .d (ints t.goal), .d (sopsD t.ops)])]) (fun k0 => t.facts.toNat - k0) 0 (by omega) ?_ ?_
 ·exact .p3 <| .slot rfl (Le.of_eq (by simp)) <| .memEq rfl (by simp [lmTo]) <| .mem rfl <| .nil
 ·rintro k0 hkl
  refine .g <| .r <| .x (.b blss) ?_; refine .sq <| .g <| .cond rfl (fun c8 => ?_) (fun c8 => ?_)
  ·have hk : (k0 : Int) < t.facts := by simpa using c8
   have hll := lmTo_len (t := t) (k := k0)
   refine .p <| .g <| .g <| .k <| .g <| .r <| .m ?_; refine .a ?_; refine .sq <| .g <| PC.start [] ?_; refine .x (.f fo25_1) ?_; refine .x (.l vs22) ?_; refine .m ?_; refine .x (OpSem.call0 (slices_Contains_int_int_does t.ini (k0 : Int)) rfl rfl rfl rfl (Les.refl _)) ?_; refine .m ?_; refine .split (n := 14) rfl (fun c14 => ?_) (fun c14 => ?_)
   ·have hl : lmP t k0 = true := by unfold lmP; simp_all
    refine .hf c14 ?_; refine .hf c14 ?_; refine .hf c14 ?_; refine .hf c14 ?_; refine .hf c14 ?_; refine .d0 mixed ?_; refine .hf c14 ?_; refine .hf c14 ?_; refine .x (OpSem.pickT rfl rfl c14 rfl) ?_; refine .sq <| .condT rfl rfl ?_; refine .r <| .mm ?_; refine .x (.bs es22 ze22) ?_; refine .ap es22 el22 zc3 by3 ?_; refine .a ?_; refine .n <| .n <| .y <| .x .ad ?_; refine .m ?_; refine .n <| .again (k0 + 1) (by omega) ?_ (by omega); exact .p3 <| .slot rfl (Le.of_eq (by simp)) <| .memEq rfl (by rw [lm_t hl]; simp) <| .mem rfl <| .nil
   ·refine .ht (.L vs25) c14 ?_; refine .ht (OpSem.move (.inl rfl) rfl) c14 ?_; refine .ht (OpSem.call0 (landmark_without_does t (k0 : Int) hV).fresh rfl rfl rfl rfl (Les.refl _)) c14 ?_; refine .ht (.f fo25_2) c14 ?_; refine .ht (.l vs22) c14 ?_; refine .d0 mixed ?_; refine .ht c14 ?_; refine .x (OpSem.call0 (relaxed_All_does (wtoL t (k0 : Int)) t.goal (fun k hk => by have q := set_rng hV.goal k hk; have q2 := wtoL_len (t := t) (p := (k0 : Int)); omega)) rfl rfl rfl rfl (Les.refl _)) ?_; refine .ht c14 ?_; refine .x .nt ?_; refine .x (OpSem.pickF rfl rfl c14 rfl) ?_; refine .sq <| .cond rfl (fun c22 => ?_) (fun c22 => ?_)
    ·have hl : lmP t k0 = true := by unfold lmP; simp_all
     refine .r <| .mm ?_; refine .x (.bs es22 ze22) ?_; refine .ap es22 el22 zc3 by3 ?_; refine .a ?_; refine .n <| .n <| .y <| .x .ad ?_; refine .m ?_; refine .n <| .again (k0 + 1) (by omega) ?_ (by omega); exact .p3 <| .slot rfl (Le.of_eq (by simp)) <| .memEq rfl (by rw [lm_t hl]; simp) <| .mem rfl <| .nil
    ·have hl : ¬ lmP t k0 = true := by unfold lmP; simp_all
     refine .p <| .n <| .y <| .x .ad ?_; refine .m ?_; refine .n <| .again (k0 + 1) (by omega) ?_ (by omega); exact .p3 <| .slot rfl (Le.of_eq (by simp)) <| .memEq rfl (by rw [lm_f hl]) <| .mem rfl <| .nil
  ·have hk : k0 = t.facts.toNat := by simp at c8; omega
   refine .u <| .u <| .u <| .b <| .z <| .m ?_; refine .a ?_; exact .sq <| .t <| .retO2 rfl rfl rfl (by simp) (by rw [hk]; rfl)
theorem landmark_Facts_does (t : Tsk) : Does Tryz.prog false 67 [tskS t] (.t [.d (ints (lmR t)), flt (tskF t)]) := by
 refine Does.of_body Tryz.func67 rfl rfl (by simp) Tryz.call67 (fun w0 O0 => ?_); refine .lg 0 1 fun len0_1 => ?_; refine .lg 0 2 fun len0_2 => ?_; refine .lg 0 3 fun len0_3 => ?_; refine .g <| .r <| .bx 1 ?_; refine .a ?_; refine .al 3 zc28 ?_; refine .z <| .x (.L vs25) ?_; refine .x (OpSem.call0 (strips_Validate_does t) rfl rfl rfl rfl (Les.refl _)) ?_; refine .al 4 zc28 ?_; refine .sb vs28 ?_; refine .sq <| .g <| .g <| .r <| .x (.L vs28) ?_; refine .x (.bd pl28 zc28) ?_; refine .x (OpSem.neS2 rfl rfl rfl io28) ?_; refine .sq <| .cond rfl (fun c9 => ?_) (fun c9 => ?_)
 ·have hne : tskF t ≠ (0, 0) := fun h => by simp [h] at c9
  refine .g <| PC.start [] ?_; refine .x (.L vs28) ?_; refine .x (OpSem.move (.inr rfl) rfl) ?_; refine .d0 mixed ?_; refine .sb vs28 ?_; exact .sq <| .t <| .t <| .ret rfl (.tmp rfl <| .cellN rfl rfl vs28 <| .nil) rfl (Le.t (.cons (by rw [lmR_1 hne]; exact Le.nil 1) <| .cons (.refl _) <| .nil))
 ·have h0 : tskF t = (0, 0) := pair0 (by simpa using c9)
  refine .p <| .g <| .g <| PC.start [] ?_; refine .x (.L vs25) ?_; refine .x (OpSem.call0 (landmark_facts_does t (tskF_v h0)).fresh rfl rfl rfl rfl (Les.refl _)) ?_; refine .x (.L vs28) ?_; refine .x (OpSem.move (.inr rfl) rfl) ?_; refine .d0 mixed ?_; refine .sb vs28 ?_; exact .sq <| .t <| .ret rfl (.tmp rfl <| .cellN rfl rfl vs28 <| .nil) rfl (Le.t (.cons (Le.of_eq (by rw [lmR_0 h0])) <| .cons (.refl _) <| .nil))
theorem landmark_Achievers_does (t : Tsk) : Does Tryz.prog false 68 [tskS t] (.t [.d (rows (acR t)), flt (tskF t)]) := by
 refine Does.of_body Tryz.func68 rfl rfl (by simp) Tryz.call68 (fun w0 O0 => ?_); refine .lg 0 1 fun len0_1 => ?_; refine .lg 0 2 fun len0_2 => ?_; refine .lg 0 3 fun len0_3 => ?_; refine .g <| .r <| .bx 1 ?_; refine .a ?_; refine .al 3 zc28 ?_; refine .z <| .x (.L vs25) ?_; refine .x (OpSem.call0 (strips_Validate_does t) rfl rfl rfl rfl (Les.refl _)) ?_; refine .al 4 zc28 ?_; refine .sb vs28 ?_; refine .sq <| .g <| .g <| .r <| .x (.L vs28) ?_; refine .x (.bd pl28 zc28) ?_; refine .x (OpSem.neS2 rfl rfl rfl io28) ?_; refine .sq <| .cond rfl (fun c16 => ?_) (fun c16 => ?_)
 ·have hne : tskF t ≠ (0, 0) := fun h => by simp [h] at c16
  refine .g <| PC.start [] ?_; refine .x (.L vs28) ?_; refine .x (OpSem.move (.inr rfl) rfl) ?_; refine .d0 mixed ?_; refine .sb vs28 ?_; exact .sq <| .t <| .t <| .ret rfl (.tmp rfl <| .cellN rfl rfl vs28 <| .nil) rfl (Le.t (.cons (by rw [acR_1 hne]; exact Le.nil 1) <| .cons (.refl _) <| .nil))
 ·have h0 : tskF t = (0, 0) := pair0 (by simpa using c16)
  have hV := tskF_v h0
  have htf := hV.facts
  have hoo := hV.ops
  have hll : (lmL t).length ≤ t.facts.toNat := lmTo_len
  refine .p <| .z <| .a ?_; refine .sq <| .g <| .g <| .ownNil (n := 5) 5 1 22 rfl ?_; refine .r <| .x (.L vs25) ?_; refine .x (OpSem.call0 (landmark_facts_does t hV).fresh rfl rfl rfl rfl (Les.refl _)) ?_; refine .x (.n es22) ?_; refine .m ?_; refine .sq <| .k <| .loop (X := Nat) (fun k => k ≤ (lmL t).length) (fun k => [(1, .r 1 0), (3, .r 3 0), (4, .r 4 0), (5, .o 5), (19, .d (ints (lmL t))), (20, I ((lmL t).length)), (21, I (k))]) (fun k => [(5, .own 1 22 ((acsTo t k).map fun r => [ints r])), (1, .box [I (t.facts), .d (ints t.ini), .d (ints t.goal), .d (sopsD t.ops)]), (3, .box [I (0), I (0)]), (4, .box [I ((tskF t).1), I ((tskF t).2)])]) (fun k => (lmL t).length - k) 0 (by omega) ?_ ?_
  ·exact .p5 <| .sl <| .slot rfl (Le.of_eq (by simp)) <| .memEq rfl (by simp [acsTo]) <| .all
  ·rintro k hkl
   refine .g <| .r <| .x (.b blss) ?_; refine .sq <| .g <| .cond rfl (fun c22 => ?_) (fun c22 => ?_)
   ·have hk : k < (lmL t).length := by simpa using c22
    have hsl : (acsTo t k).length ≤ k := by simp [acsTo]; omega
    refine .p <| .g <| .g <| .k <| .g <| .r <| .x (.i es22) ?_; refine .x (.l1 vs3) ?_; refine .a ?_; refine .z <| .a ?_; refine .sq <| .g <| .ownNil (n := 8) 8 1 3 rfl ?_; refine .r <| .x (.L vs25) ?_; refine .m ?_; refine .x (OpSem.call0 (landmark_without_does t (nth (lmL t) k) hV).fresh rfl rfl rfl rfl (Les.refl _)) ?_; refine .a ?_; refine .sq <| .g <| .g <| .r <| .x (.f fo25_3) ?_; refine .x (.l vs23) ?_; refine .x (.n es23) ?_; refine .m ?_; refine .sq <| .k <| .loop (X := Nat) (fun i => i ≤ t.ops.length) (fun i => [(1, .r 1 0), (3, .r 3 0), (4, .r 4 0), (5, .o 5), (7, I ((nth (lmL t) k))), (8, .o 8), (9, .d (bools (wtoL t (nth (lmL t) k)))), (19, .d (ints (lmL t))), (20, I ((lmL t).length)), (21, I (k)), (29, .d (sopsD t.ops)), (30, I (t.ops.length)), (31, I (i))]) (fun i => [(8, .own 1 3 ((acTo t (nth (lmL t) k) i).map fun n => [D.v (.int .i64 n)])), (5, .own 1 22 ((acsTo t k).map fun r => [ints r])), (1, .box [I (t.facts), .d (ints t.ini), .d (ints t.goal), .d (sopsD t.ops)]), (3, .box [I (0), I (0)]), (4, .box [I ((tskF t).1), I ((tskF t).2)])]) (fun i => t.ops.length - i) 0 (by omega) ?_ ?_
    ·exact .p5 <| .p5 <| .p2 <| .slot rfl (Le.of_eq (by simp)) <| .memEq rfl (by simp [acTo]) <| .memEq rfl rfl <| .all
    ·rintro i hil
     refine .g <| .r <| .x (.b blss) ?_; refine .sq <| .g <| .cond rfl (fun c32 => ?_) (fun c32 => ?_)
     ·have hi : i < t.ops.length := by simpa using c32
      have hal := acTo_len (t := t) (p := (nth (lmL t) k)) (k := i)
      refine .p <| .g <| .g <| .k <| .g <| .r <| .m ?_; refine .x (.i es23) ?_; refine .x (.lN vs41) ?_; refine .al 11 zc41 ?_; refine .a ?_; refine .sb vs41 ?_; refine .z <| .x (.f fo25_1) ?_; refine .x (.l vs22) ?_; refine .m ?_; refine .x (OpSem.call0 (slices_Contains_int_int_does t.ini (nth (lmL t) k)) rfl rfl rfl rfl (Les.refl _)) ?_; refine .x .nt ?_; refine .m ?_; refine .split (n := 41) rfl (fun c41 => ?_) (fun c41 => ?_)
      ·refine .gt c41 ?_; refine .x (.f fo41_1) ?_; refine .gt c41 ?_; refine .x (.l vs22) ?_; refine .gt c41 ?_; refine .m ?_; refine .gt c41 ?_; refine .x (OpSem.call0 (slices_Contains_int_int_does (nth t.ops i).add (nth (lmL t) k)) rfl rfl rfl rfl (Les.refl _)) ?_; refine .x (OpSem.pickT rfl rfl c41 rfl) ?_; refine .m ?_; refine .split (n := 47) rfl (fun c47 => ?_) (fun c47 => ?_)
       ·refine .gt c47 ?_; refine .m ?_; refine .gt c47 ?_; refine .x (.f fo41_0) ?_; refine .gt c47 ?_; refine .x (.l vs22) ?_; refine .gt c47 ?_; refine .x (OpSem.call0 (relaxed_All_does (wtoL t (nth (lmL t) k)) (nth t.ops i).pre (fun j hj => by have q := set_rng (hV.op i hi).1.1 j hj; have q2 := wtoL_len (t := t) (p := (nth (lmL t) k)); omega)) rfl rfl rfl rfl (Les.refl _)) ?_; refine .x (OpSem.pickT rfl rfl c47 rfl) ?_; refine .sq <| .cond rfl (fun c52 => ?_) (fun c52 => ?_)
        ·have hl : acP t (nth (lmL t) k) i = true := by unfold acP; simp_all
         refine .r <| .mm ?_; refine .x (.bs es22 ze22) ?_; refine .ap es22 el22 zc3 by3 ?_; refine .a ?_; refine .n <| .n <| .y <| .x .ad ?_; refine .m ?_; refine .n <| .again (i + 1) (by omega) ?_ (by omega); exact .p5 <| .p5 <| .p2 <| .slot rfl (Le.of_eq (by simp)) <| .memEq rfl (by rw [ac_t hl]; simp) <| .memEq rfl rfl <| .all
        ·have hl : ¬ acP t (nth (lmL t) k) i = true := by unfold acP; simp_all
         refine .p <| .n <| .y <| .x .ad ?_; refine .m ?_; refine .n <| .again (i + 1) (by omega) ?_ (by omega); exact .p5 <| .p5 <| .p2 <| .slot rfl (Le.of_eq (by simp)) <| .memEq rfl (by first | (rw [ac_f hl]; done) | (rw [ac_f hl]; rfl)) <| .memEq rfl rfl <| .all
       ·have hl : ¬ acP t (nth (lmL t) k) i = true := by unfold acP; simp_all
        refine .gf c47 ?_; refine .gf c47 ?_; refine .gf c47 ?_; refine .gf c47 ?_; refine .x (OpSem.pickF rfl rfl c47 rfl) ?_; refine .sq <| .condF rfl rfl ?_; refine .p <| .n <| .y <| .x .ad ?_; refine .m ?_; refine .n <| .again (i + 1) (by omega) ?_ (by omega); exact .p5 <| .p5 <| .p2 <| .slot rfl (Le.of_eq (by simp)) <| .memEq rfl (by first | (rw [ac_f hl]; done) | (rw [ac_f hl]; rfl)) <| .memEq rfl rfl <| .all
      ·have hl : ¬ acP t (nth (lmL t) k) i = true := by unfold acP; simp_all
       refine .gf c41 ?_; refine .gf c41 ?_; refine .gf c41 ?_; refine .gf c41 ?_; refine .x (OpSem.pickF rfl rfl c41 rfl) ?_; refine .m ?_; refine .gf rfl ?_; refine .gf rfl ?_; refine .gf rfl ?_; refine .gf rfl ?_; refine .x (OpSem.pickF rfl rfl rfl rfl) ?_; refine .sq <| .condF rfl rfl ?_; refine .p <| .n <| .y <| .x .ad ?_; refine .m ?_; refine .n <| .again (i + 1) (by omega) ?_ (by omega); exact .p5 <| .p5 <| .p2 <| .slot rfl (Le.of_eq (by simp)) <| .memEq rfl (by first | (rw [ac_f hl]; done) | (rw [ac_f hl]; rfl)) <| .memEq rfl rfl <| .all
     ·have hi : i = t.ops.length := by simp at c32; omega
      subst hi
      refine .u <| .u <| .u <| .b <| .g <| .freeze 8 rfl ?_; refine .r <| .mm ?_; refine .x (.bs es58 ze58) ?_; refine .ap es58 el58 zc22 by22 ?_; refine .a ?_; refine .n <| .n <| .y <| .x .ad ?_; refine .m ?_; refine .n <| .again (k + 1) (by omega) ?_ (by omega); exact .p5 <| .sl <| .slot rfl (Le.of_eq (by simp)) <| .memEq rfl (by rw [acs_s hk]; simp [acL]) <| .all
   ·have hk : k = (lmL t).length := by simp at c22; omega
    subst hk
    refine .u <| .u <| .u <| .b <| .g <| .g <| .freeze 5 rfl ?_; refine PC.start [] ?_; refine .m ?_; refine .x (.L vs28) ?_; refine .x (OpSem.move (.inr rfl) rfl) ?_; refine .d0 mixed ?_; refine .sb vs28 ?_; exact .sq <| .t <| .ret rfl (.tmp rfl <| .cellN rfl rfl vs28 <| .nil) rfl (Le.t (.cons (Le.of_eq (by rw [acR_0 h0])) <| .cons (.refl _) <| .nil))
end Go.Proofs.YthjmgcopfipabaaGreat
end

section
namespace Go.Proofs.YthjmgcopfipabaaGreat
open Go.Eng
set_option maxRecDepth 10000
set_option maxHeartbeats 1000000
theorem slices_IndexFunc_Operator_Operator_does (l : List SOp) (fn : Nat) (cs : List S) (p : SOp → Bool) (hcs : Caught cs) (hf : ∀ x, x ∈ l → Does Tryz.prog false fn ([sopS x] ++ cs) (Bo (p x))) : Does Tryz.prog false 105 [.d (sopsD l), .f fn [] cs] (I (findI p l)) := by
 refine Does.of_body Tryz.func105 rfl rfl (by simp) Tryz.call105 (fun w0 O0 => ?_); refine .le 0 fun len0 => ?_; refine .g <| .r <| .a ?_; refine .sq <| .g <| .g <| .r <| .m ?_; refine .x (.n es23) ?_; refine .m ?_; refine .sq <| .k <| .loop (X := Nat) (fun k => k ≤ l.length ∧ ∀ j : Nat, j < k → p (nth l j) = false) (fun k => [(0, .d (sopsD l)), (1, .f fn [] cs), (7, I (l.length)), (8, I (k))]) (fun k => []) (fun k => l.length - k) 0 ⟨by omega, by simp⟩ ?_ ?_
 ·exact .p3 <| .slot rfl (Le.of_eq (by simp)) <| .nil
 ·rintro k ⟨hkl, hinv⟩
  refine .g <| .r <| .x (.b blss) ?_; refine .sq <| .g <| .cond rfl (fun c9 => ?_) (fun c9 => ?_)
  ·have hk : k < l.length := by simpa using c9
   refine .p <| .g <| .g <| .k <| .g <| .r <| .m ?_; refine .a ?_; refine .z <| .mm ?_; refine .m ?_; refine .x (.i es23) ?_; refine .x (.lN vs41) ?_; refine .x (OpSem.call0 (hf _ (nth_mem (by omega) (by omega))) rfl rfl rfl (hcs.app rfl) (Les.refl _)) ?_; refine .sq <| .cond rfl (fun c16 => ?_) (fun c16 => ?_)
   ·refine .g <| .r <| .m ?_; refine .a ?_; exact .sq <| .t <| .k <| .t <| .t <| .k <| .t <| .ret rfl (.tmp rfl <| .nil) rfl (Le.i (findI_some hk hinv c16).symm)
   ·refine .p <| .n <| .y <| .x .ad ?_; refine .m ?_; refine .n <| .again (k + 1) ⟨by omega, all_succ hinv c16⟩ ?_ (by omega); exact .p3 <| .slot rfl (Le.of_eq (by simp)) <| .nil
  ·have hk : k = l.length := by simp at c9; omega
   refine .u <| .u <| .u <| .b <| .z <| .a ?_; exact .sq <| .t <| .ret rfl (.tmp rfl <| .nil) rfl (Le.i (by subst hk; exact (findI_none hinv).symm))
theorem slices_ContainsFunc_Operator_Operator_does (l : List SOp) (fn : Nat) (cs : List S) (p : SOp → Bool) (hcs : Caught cs) (hf : ∀ x, x ∈ l → Does Tryz.prog false fn ([sopS x] ++ cs) (Bo (p x))) : Does Tryz.prog false 64 [.d (sopsD l), .f fn [] cs] (Bo (l.any p)) := by
 refine Does.of_body Tryz.func64 rfl rfl (by simp) Tryz.call64 (fun w0 O0 => ?_); refine .le 0 fun len0 => ?_; refine .g <| .r <| .a ?_; refine .z <| .mm ?_; refine .x (OpSem.call0 (slices_IndexFunc_Operator_Operator_does l fn cs p hcs hf) rfl rfl rfl (hcs.arg rfl) (Les.refl _)) ?_; refine .x (.b bgeq) ?_; refine .a ?_; exact .sq <| .t <| .ret rfl (.tmp rfl <| .nil) rfl (Le.bo findI_any)
theorem counting_Program_1_does (o : SOp) : Does Tryz.prog false 65 [sopS o] (Bo (decide (20 < o.cost))) := by
 refine Does.of_body Tryz.func65 rfl rfl (by simp) Tryz.call65 (fun w0 O0 => ?_); refine .lg 0 0 fun len0_0 => ?_; refine .lg 0 1 fun len0_1 => ?_; refine .lg 0 2 fun len0_2 => ?_; refine .g <| .r <| .bx 1 ?_; refine .a ?_; refine .z <| .x (.f fo41_3) ?_; refine .x (.l vs3) ?_; refine .x (.b bgtr) ?_; refine .a ?_; exact .sq <| .t <| .ret rfl (.tmp rfl <| .nil) rfl (Le.bo (by simp))
theorem counting_change_does (o : SOp) (p : Int) : Does Tryz.prog false 66 [sopS o, I (p)] (I (chgO o p)) := by
 refine Does.of_body Tryz.func66 rfl rfl (by simp) Tryz.call66 (fun w0 O0 => ?_); refine .lg 0 0 fun len0_0 => ?_; refine .lg 0 1 fun len0_1 => ?_; refine .lg 0 2 fun len0_2 => ?_; refine .g <| .r <| .bx 2 ?_; refine .a ?_; refine .z <| .x (.f fo41_0) ?_; refine .x (.l vs22) ?_; refine .m ?_; refine .x (OpSem.call0 (slices_Contains_int_int_does o.pre p) rfl rfl rfl rfl (Les.refl _)) ?_; refine .a ?_; refine .sq <| .g <| .k <| .g <| .r <| .m ?_; refine .x .nt ?_; refine .m ?_; refine .split (n := 13) rfl (fun c13 => ?_) (fun c13 => ?_)
 ·refine .gt c13 ?_; refine .x (.f fo41_1) ?_; refine .gt c13 ?_; refine .x (.l vs22) ?_; refine .gt c13 ?_; refine .m ?_; refine .gt c13 ?_; refine .x (OpSem.call0 (slices_Contains_int_int_does o.add p) rfl rfl rfl rfl (Les.refl _)) ?_; refine .x (OpSem.pickT rfl rfl c13 rfl) ?_; refine .a ?_; refine .sq <| .cond rfl (fun c10 => ?_) (fun c10 => ?_)
  ·refine .g <| .r <| .a ?_; exact .sq <| .t <| .k <| .t <| .ret rfl (.tmp rfl <| .nil) rfl (Le.i (by first | exact chg_1 (by simp_all) (by simp_all) | exact chg_2 (by simp_all) (by simp_all) | exact chg_0 (by simp_all) (by simp_all)))
  ·refine .g <| .r <| .mm ?_; refine .split (n := 21) rfl (fun c21 => ?_) (fun c21 => ?_)
   ·refine .gt c21 ?_; refine .x (.f fo41_2) ?_; refine .gt c21 ?_; refine .x (.l vs22) ?_; refine .gt c21 ?_; refine .m ?_; refine .gt c21 ?_; refine .x (OpSem.call0 (slices_Contains_int_int_does o.del p) rfl rfl rfl rfl (Les.refl _)) ?_; refine .x (OpSem.pickT rfl rfl c21 rfl) ?_; refine .a ?_; refine .sq <| .cond rfl (fun c19 => ?_) (fun c19 => ?_)
    ·refine .g <| .r <| .a ?_; exact .sq <| .t <| .k <| .t <| .ret rfl (.tmp rfl <| .nil) rfl (Le.i (by first | exact chg_1 (by simp_all) (by simp_all) | exact chg_2 (by simp_all) (by simp_all) | exact chg_0 (by simp_all) (by simp_all)))
    ·refine .p <| .n <| .z <| .a ?_; exact .sq <| .t <| .ret rfl (.tmp rfl <| .nil) rfl (Le.i (by first | exact chg_1 (by simp_all) (by simp_all) | exact chg_2 (by simp_all) (by simp_all) | exact chg_0 (by simp_all) (by simp_all)))
   ·refine .gf c21 ?_; refine .gf c21 ?_; refine .gf c21 ?_; refine .gf c21 ?_; refine .x (OpSem.pickF rfl rfl c21 rfl) ?_; refine .a ?_; refine .sq <| .condF rfl rfl ?_; refine .p <| .n <| .z <| .a ?_; exact .sq <| .t <| .ret rfl (.tmp rfl <| .nil) rfl (Le.i (by first | exact chg_1 (by simp_all) (by simp_all) | exact chg_2 (by simp_all) (by simp_all) | exact chg_0 (by simp_all) (by simp_all)))
 ·refine .gf c13 ?_; refine .gf c13 ?_; refine .gf c13 ?_; refine .gf c13 ?_; refine .x (OpSem.pickF rfl rfl c13 rfl) ?_; refine .a ?_; refine .sq <| .condF rfl rfl ?_; refine .g <| .r <| .mm ?_; refine .split (n := 21) rfl (fun c21 => ?_) (fun c21 => ?_)
  ·refine .gt c21 ?_; refine .x (.f fo41_2) ?_; refine .gt c21 ?_; refine .x (.l vs22) ?_; refine .gt c21 ?_; refine .m ?_; refine .gt c21 ?_; refine .x (OpSem.call0 (slices_Contains_int_int_does o.del p) rfl rfl rfl rfl (Les.refl _)) ?_; refine .x (OpSem.pickT rfl rfl c21 rfl) ?_; refine .a ?_; refine .sq <| .cond rfl (fun c19 => ?_) (fun c19 => ?_)
   ·refine .g <| .r <| .a ?_; exact .sq <| .t <| .k <| .t <| .ret rfl (.tmp rfl <| .nil) rfl (Le.i (by first | exact chg_1 (by simp_all) (by simp_all) | exact chg_2 (by simp_all) (by simp_all) | exact chg_0 (by simp_all) (by simp_all)))
   ·refine .p <| .n <| .z <| .a ?_; exact .sq <| .t <| .ret rfl (.tmp rfl <| .nil) rfl (Le.i (by first | exact chg_1 (by simp_all) (by simp_all) | exact chg_2 (by simp_all) (by simp_all) | exact chg_0 (by simp_all) (by simp_all)))
  ·refine .gf c21 ?_; refine .gf c21 ?_; refine .gf c21 ?_; refine .gf c21 ?_; refine .x (OpSem.pickF rfl rfl c21 rfl) ?_; refine .a ?_; refine .sq <| .condF rfl rfl ?_; refine .p <| .n <| .z <| .a ?_; exact .sq <| .t <| .ret rfl (.tmp rfl <| .nil) rfl (Le.i (by first | exact chg_1 (by simp_all) (by simp_all) | exact chg_2 (by simp_all) (by simp_all) | exact chg_0 (by simp_all) (by simp_all)))
end Go.Proofs.YthjmgcopfipabaaGreat
end

section
namespace Go.Proofs.YthjmgcopfipabaaGreat
open Go.Eng
set_option maxRecDepth 10000
set_option maxHeartbeats 1000000
end Go.Proofs.YthjmgcopfipabaaGreat
end

section
namespace Go.Proofs.YthjmgcopfipabaaGreat
open Go.Eng
set_option maxRecDepth 10000
set_option maxHeartbeats 1000000
end Go.Proofs.YthjmgcopfipabaaGreat
end

section
namespace Go.Proofs.YthjmgcopfipabaaGreat
open Go.Eng
set_option maxRecDepth 10000
set_option maxHeartbeats 1000000
end Go.Proofs.YthjmgcopfipabaaGreat
end

section
namespace Go.Proofs.YthjmgcopfipabaaGreat
open Go.Eng
set_option maxRecDepth 10000
set_option maxHeartbeats 1000000
end Go.Proofs.YthjmgcopfipabaaGreat
end
