/- The engine and the walks that this claim uses, part 8. Written by prune.py out of our own texts. -/
import Derived.Test.YtlidcpmdgceboaaE7
import Derived.Laws.IdiomCopy
set_option linter.unusedSimpArgs false
set_option linter.unnecessarySimpa false
set_option linter.unusedVariables false
set_option linter.unusedSectionVars false
section
/- Walks, written by gen.py out of hints. -/



namespace Go.Proofs.Ytlidcpmdgceboaa
open Go.Eng
set_option maxRecDepth 10000
set_option maxHeartbeats 1000000

theorem linear_gcd_does (a b : Int) (ha : a.natAbs ≤ 4611686018427387904) (hb : b.natAbs ≤ 4611686018427387904) : Does Try.prog false 85 [I (a), I (b)] (I (Int.gcd a b : Int)) := by
 refine Does.of_body Try.func85 rfl rfl (by simp) Try.call85 (fun w0 O0 => ?_); refine .seq ?_; refine .region ?_; refine .a ?_; refine .sq ?_; refine .seq ?_; refine .block ?_; refine .loop (X := (Int × Int)) (fun q => Int.gcd q.1 q.2 = Int.gcd a b ∧ q.1.natAbs ≤ 4611686018427387904 ∧ q.2.natAbs ≤ 4611686018427387904) (fun q => [(0, I (q.1)), (1, I (q.2))]) (fun q => []) (fun q => q.2.natAbs) (a, b) ⟨rfl, ha, hb⟩ ?_ ?_
 ·exact .all
 ·rintro q ⟨h1, h2, h3⟩
  refine .seq ?_; refine .seq ?_; refine .region ?_; refine .m ?_; refine .x (.b bneq) ?_; refine .sq ?_; refine .cond rfl (fun c6 => ?_) (fun c6 => ?_)
  ·have hq : q.2 ≠ 0 := by simpa using c6
   have hlt := tmod_lt (a := q.1) hq
   refine .skip ?_; refine .seq ?_; refine .block ?_; refine PC.start [] ?_; refine .m ?_; refine .m ?_; refine .m ?_; refine .x (OpSem.bin rfl rfl rfl (bremT hq)) ?_; refine .x (OpSem.move (.inr rfl) rfl) ?_; refine .d0 mixed ?_; refine .a ?_; refine .nil ?_; refine .block_normal ?_; refine .again (q.2, q.1.tmod q.2) ⟨gcd_step.trans h1, h3, by simp only []; omega⟩ ?_ (by simp only []; omega)
   exact .all
  ·have hq : q.2 = 0 := by simpa using c6
   rw [hq] at h1
   refine .exit ?_; refine .pass_exit ?_; refine .pass_exit ?_; refine .block_same ?_; refine .z ?_; refine .m ?_; refine .m ?_; refine .x (OpSem.neg rfl rfl (neg_in (by omega) (by omega))) ?_; refine .x (OpSem.max2 rfl rfl rfl) ?_; refine .a ?_; refine .sq ?_; refine .ret ?_; exact .ret rfl (.tmp rfl <| .nil) rfl (Le.i (by rw [gcd_max, h1]))

theorem fraction_gcd_does (a b : Int) (ha : a.natAbs ≤ 4611686018427387904) (hb : b.natAbs ≤ 4611686018427387904) : Does Try.prog false 95 [I (a), I (b)] (I (Int.gcd a b : Int)) := by
 refine Does.of_body Try.func95 rfl rfl (by simp) Try.call95 (fun w0 O0 => ?_); refine .seq ?_; refine .region ?_; refine .a ?_; refine .sq ?_; refine .seq ?_; refine .block ?_; refine .loop (X := (Int × Int)) (fun q => Int.gcd q.1 q.2 = Int.gcd a b ∧ q.1.natAbs ≤ 4611686018427387904 ∧ q.2.natAbs ≤ 4611686018427387904) (fun q => [(0, I (q.1)), (1, I (q.2))]) (fun q => []) (fun q => q.2.natAbs) (a, b) ⟨rfl, ha, hb⟩ ?_ ?_
 ·exact .all
 ·rintro q ⟨h1, h2, h3⟩
  refine .seq ?_; refine .seq ?_; refine .region ?_; refine .m ?_; refine .x (.b bneq) ?_; refine .sq ?_; refine .cond rfl (fun c6 => ?_) (fun c6 => ?_)
  ·have hq : q.2 ≠ 0 := by simpa using c6
   have hlt := tmod_lt (a := q.1) hq
   refine .skip ?_; refine .seq ?_; refine .block ?_; refine PC.start [] ?_; refine .m ?_; refine .m ?_; refine .m ?_; refine .x (OpSem.bin rfl rfl rfl (bremT hq)) ?_; refine .x (OpSem.move (.inr rfl) rfl) ?_; refine .d0 mixed ?_; refine .a ?_; refine .nil ?_; refine .block_normal ?_; refine .again (q.2, q.1.tmod q.2) ⟨gcd_step.trans h1, h3, by simp only []; omega⟩ ?_ (by simp only []; omega)
   exact .all
  ·have hq : q.2 = 0 := by simpa using c6
   rw [hq] at h1
   refine .exit ?_; refine .pass_exit ?_; refine .pass_exit ?_; refine .block_same ?_; refine .z ?_; refine .m ?_; refine .m ?_; refine .x (OpSem.neg rfl rfl (neg_in (by omega) (by omega))) ?_; refine .x (OpSem.max2 rfl rfl rfl) ?_; refine .a ?_; refine .sq ?_; refine .ret ?_; exact .ret rfl (.tmp rfl <| .nil) rfl (Le.i (by rw [gcd_max, h1]))

theorem linear_within_does (n m : Int) (h0 : 0 ≤ m) (h1 : m ≤ 1000000000) : Does Try.prog false 83 [I (n), I (m)] (Bo (decide (-m ≤ n ∧ n ≤ m))) := by
 refine Does.of_body Try.func83 rfl rfl (by simp) Try.call83 (fun w0 O0 => ?_); refine .seq ?_; refine .region ?_; refine .a ?_; refine .z ?_; refine .m ?_; refine .m ?_; refine .x (OpSem.neg rfl rfl (neg_in (by omega) (by omega))) ?_; refine .x (.b bgeq) ?_; refine .m ?_; refine .split (n := 9) rfl (fun c9 => ?_) (fun c9 => ?_)
 ·refine .gt c9 ?_; refine .m ?_; refine .gt c9 ?_; refine .m ?_; refine .gt c9 ?_; refine .x (.b bleq) ?_; refine .x (OpSem.pickT rfl rfl c9 rfl) ?_; refine .a ?_; refine .sq ?_; refine .ret ?_; exact .ret rfl (.tmp rfl <| .nil) rfl (Le.bo (by simp at c9; simp [c9]))
 ·refine .gf c9 ?_; refine .gf c9 ?_; refine .gf c9 ?_; refine .x (OpSem.pickF rfl rfl c9 rfl) ?_; refine .a ?_; refine .sq ?_; refine .ret ?_; exact .ret rfl (.tmp rfl <| .nil) rfl (Le.bo (by simp at c9; simp; omega))

theorem linear_Validate_does (p : LPr) (hp : LpOk p) : Does Try.prog false 54 [lprS p] (flt (0, 0)) := by
 have q1 := hp.r6
 have q2 := hp.o6
 have q3 := hp.b
 refine Does.of_body Try.func54 rfl rfl (by simp) Try.call54 (fun w0 O0 => ?_); refine .lenG (n := 0) (i := 0) rfl rfl (fun len0_0 => ?_); refine .lenG (n := 0) (i := 1) rfl rfl (fun len0_1 => ?_); refine .lenG (n := 0) (i := 2) rfl rfl (fun len0_2 => ?_); refine .seq ?_; refine .region ?_; refine .semM (OpSem.box 1 rfl rfl rfl rfl) rfl rfl (by decide) ?_; refine .semM (OpSem.alloc 2 rfl zc30 rfl) rfl rfl (by decide) ?_; refine .sq ?_; refine .seq ?_; refine .block ?_; refine .seq ?_; refine .region ?_; refine .x (.f fo39_0) ?_; refine .x (.l vs37) ?_; refine .x (OpSem.lenL rfl rfl es37) ?_; refine .x (.b bgtr) ?_; refine .m ?_; refine .split (n := 14) rfl (fun c14 => ?_) (fun c14 => ?_)
 ·exfalso; simp at c14; omega
 ·refine .ht c14 ?_; refine .x (.f fo39_2) ?_; refine .ht c14 ?_; refine .x (.l vs22) ?_; refine .ht c14 ?_; refine .x (OpSem.lenL rfl rfl es22) ?_; refine .ht c14 ?_; refine .x (.b bgtr) ?_; refine .x (OpSem.pickF rfl rfl c14 rfl) ?_; refine .a ?_; refine .sq ?_; refine .cond rfl (fun c9 => ?_) (fun c9 => ?_)
  ·exfalso; simp at c9; omega
  ·refine .seq ?_; refine .region ?_; refine .x (.f fo39_1) ?_; refine .x (.l vs22) ?_; refine .x (OpSem.lenL rfl rfl es22) ?_; refine .x (.f fo39_0) ?_; refine .x (.l vs37) ?_; refine .x (OpSem.lenL rfl rfl es37) ?_; refine .x (.b bneq) ?_; refine .a ?_; refine .sq ?_; refine .cond rfl (fun c21 => ?_) (fun c21 => ?_)
   ·exfalso; simp at c21; omega
   ·refine .skip ?_; refine .block_normal ?_; refine .seq ?_; refine .seq ?_; refine .seq ?_; refine .region ?_; refine .x (.f fo39_2) ?_; refine .x (.l vs22) ?_; refine .x (OpSem.lenL rfl rfl es22) ?_; refine .m ?_; refine .sq ?_; refine .block ?_; refine .loop (X := Nat) (fun k => k ≤ p.obj.length) (fun k => [(1, .r 1 0), (2, .r 2 0), (31, .d (ints p.obj)), (32, I (p.obj.length)), (33, I (k))]) (fun k => [(1, .box [.d (rows p.rws), .d (ints p.bnd), .d (ints p.obj)]), (2, .box [I (0), I (0)])]) (fun k => p.obj.length - k) 0 (by omega) ?_ ?_
    ·exact .sl <| .sl <| .sl <| .sl <| .slot rfl (Le.of_eq (by simp)) <| .mem rfl <| .mem rfl <| .nil
    ·rintro k hkl
     refine .seq ?_; refine .region ?_; refine .x (.b blss) ?_; refine .sq ?_; refine .seq ?_; refine .cond rfl (fun c34 => ?_) (fun c34 => ?_)
     ·have hk : k < p.obj.length := by simpa using c34
      have ho := hp.o k hk
      refine .skip ?_; refine .seq ?_; refine .seq ?_; refine .block ?_; refine .seq ?_; refine .region ?_; refine .x (OpSem.idxL rfl rfl rfl es22 (by omega) (by omega)) ?_; refine .x (OpSem.load1 rfl rfl vs3 rfl) ?_; refine .a ?_; refine .z ?_; refine .m ?_; refine .x (OpSem.call0 (linear_within_does (nth p.obj k) 20 (by omega) (by omega)) rfl rfl rfl rfl (Les.refl _)) ?_; refine .x (OpSem.not rfl rfl) ?_; refine .sq ?_; refine .cond rfl (fun c39 => ?_) (fun c39 => ?_)
      ·exfalso; simp at c39; omega
      ·refine .skip ?_; refine .block_normal ?_; refine .y ?_; refine .x .ad ?_; refine .m ?_; refine .nil ?_; refine .again (k + 1) (by omega) ?_ (by omega); exact .sl <| .sl <| .sl <| .sl <| .slot rfl (Le.of_eq (by simp)) <| .mem rfl <| .mem rfl <| .nil
     ·have hk : k = p.obj.length := by simp at c34; omega
      refine .exit ?_; refine .pass_exit ?_; refine .pass_exit ?_; refine .block_same ?_; refine .seq ?_; refine .seq ?_; refine .seq ?_; refine .region ?_; refine .x (.f fo39_0) ?_; refine .x (.l vs37) ?_; refine .x (OpSem.lenL rfl rfl es37) ?_; refine .m ?_; refine .sq ?_; refine .block ?_; refine .loop (X := Nat) (fun k => k ≤ p.rws.length) (fun k => [(1, .r 1 0), (2, .r 2 0), (43, .d (rows p.rws)), (44, I (p.rws.length)), (45, I (k))]) (fun k => [(1, .box [.d (rows p.rws), .d (ints p.bnd), .d (ints p.obj)]), (2, .box [I (0), I (0)])]) (fun k => p.rws.length - k) 0 (by omega) ?_ ?_
      ·exact .sl <| .sl <| .sl <| .sl <| .slot rfl (Le.of_eq (by simp)) <| .mem rfl <| .mem rfl <| .nil
      ·rintro k hkl
       refine .seq ?_; refine .region ?_; refine .x (.b blss) ?_; refine .sq ?_; refine .seq ?_; refine .cond rfl (fun c46 => ?_) (fun c46 => ?_)
       ·have hk : k < p.rws.length := by simpa using c46
        have hw := hp.w k hk
        have hb := hp.bb k hk
        refine .skip ?_; refine .seq ?_; refine .seq ?_; refine .block ?_; refine .seq ?_; refine .region ?_; refine .m ?_; refine .x (OpSem.idxL rfl rfl rfl es37 (by omega) (by omega)) ?_; refine .x (OpSem.load1 rfl rfl vs22 rfl) ?_; refine .a ?_; refine .a ?_; refine .sq ?_; refine .seq ?_; refine .seq ?_; refine .region ?_; refine .m ?_; refine .x (OpSem.lenL rfl rfl es22) ?_; refine .x (.f fo39_2) ?_; refine .x (.l vs22) ?_; refine .x (OpSem.lenL rfl rfl es22) ?_; refine .x (.b bneq) ?_; refine .sq ?_; refine .cond rfl (fun c55 => ?_) (fun c55 => ?_)
        ·exfalso; simp at c55; omega
        ·refine .skip ?_; refine .seq ?_; refine .seq ?_; refine .seq ?_; refine .region ?_; refine .x (.f fo39_1) ?_; refine .x (.l vs22) ?_; refine .m ?_; refine .x (OpSem.idxL rfl rfl rfl es22 (by omega) (by omega)) ?_; refine .x (OpSem.load1 rfl rfl vs3 rfl) ?_; refine .x (OpSem.call0 (linear_within_does (nth p.bnd k) 20 (by omega) (by omega)) rfl rfl rfl rfl (Les.refl _)) ?_; refine .x (OpSem.not rfl rfl) ?_; refine .sq ?_; refine .cond rfl (fun c64 => ?_) (fun c64 => ?_)
         ·exfalso; simp at c64; omega
         ·refine .skip ?_; refine .z ?_; refine .m ?_; refine .x (OpSem.lenL rfl rfl es22) ?_; refine .m ?_; refine .sq ?_; refine .block ?_; refine .loop (X := Nat) (fun l => l ≤ (nth p.rws k).length) (fun l => [(1, .r 1 0), (2, .r 2 0), (5, I (k)), (43, .d (rows p.rws)), (44, I (p.rws.length)), (45, I (k)), (67, .d (ints (nth p.rws k))), (68, I ((nth p.rws k).length)), (69, I (l))]) (fun l => [(1, .box [.d (rows p.rws), .d (ints p.bnd), .d (ints p.obj)]), (2, .box [I (0), I (0)])]) (fun l => (nth p.rws k).length - l) 0 (by omega) ?_ ?_
          ·exact .sl <| .sl <| .sl <| .sl <| .sl <| .sl <| .sl <| .sl <| .slot rfl (Le.of_eq (by simp)) <| .mem rfl <| .mem rfl <| .nil
          ·rintro l hll
           refine .seq ?_; refine .region ?_; refine .x (.b blss) ?_; refine .sq ?_; refine .seq ?_; refine .cond rfl (fun c70 => ?_) (fun c70 => ?_)
           ·have hl : l < (nth p.rws k).length := by simpa using c70
            have hc := hp.c k hk l (by omega)
            refine .skip ?_; refine .seq ?_; refine .seq ?_; refine .block ?_; refine .seq ?_; refine .region ?_; refine .x (OpSem.idxL rfl rfl rfl es22 (by omega) (by omega)) ?_; refine .x (OpSem.load1 rfl rfl vs3 rfl) ?_; refine .a ?_; refine .z ?_; refine .m ?_; refine .x (OpSem.call0 (linear_within_does (nth (nth p.rws k) l) 4 (by omega) (by omega)) rfl rfl rfl rfl (Les.refl _)) ?_; refine .x (OpSem.not rfl rfl) ?_; refine .sq ?_; refine .cond rfl (fun c75 => ?_) (fun c75 => ?_)
            ·exfalso; simp at c75; omega
            ·refine .skip ?_; refine .block_normal ?_; refine .y ?_; refine .x .ad ?_; refine .m ?_; refine .nil ?_; refine .again (l + 1) (by omega) ?_ (by omega); exact .sl <| .sl <| .sl <| .sl <| .sl <| .sl <| .sl <| .sl <| .slot rfl (Le.of_eq (by simp)) <| .mem rfl <| .mem rfl <| .nil
           ·have hl : l = (nth p.rws k).length := by simp at c70; omega
            refine .exit ?_; refine .pass_exit ?_; refine .pass_exit ?_; refine .block_same ?_; refine .block_normal ?_; refine .y ?_; refine .x .ad ?_; refine .m ?_; refine .nil ?_; refine .again (k + 1) (by omega) ?_ (by omega); exact .sl <| .sl <| .sl <| .sl <| .slot rfl (Le.of_eq (by simp)) <| .mem rfl <| .mem rfl <| .nil
       ·have hk : k = p.rws.length := by simp at c46; omega
        refine .exit ?_; refine .pass_exit ?_; refine .pass_exit ?_; refine .block_same ?_; refine .z ?_; refine .x (OpSem.build rfl rfl pl30 zc30 rfl rfl) ?_; refine .sb vs30 ?_; refine .sq ?_; refine .ret ?_; exact .ret rfl (.cellN rfl rfl vs30 <| .nil) rfl (.refl _)

theorem linear_vector_does (l : List Int) (d : Int) (hl : l.length ≤ 1000000) (hd : 0 < d) (hd2 : inB d) (hx : ∀ x, x ∈ l → inB x) : Does Try.prog false 57 [.d (ints l), I (d)] (.g [.d (ints (vnL l d)), I (d.tdiv (vgF l d))]) := by
 unfold inB at hd2
 have hg := vg_pos (l := l) hd (k := l.length)
 have hge : vgF l d = vgTo l d l.length := rfl
 refine Does.of_body Try.func57 rfl rfl (by simp) Try.call57 (fun w0 O0 => ?_); refine .lenLe (n := 0) rfl (fun len0 => ?_); refine .seq ?_; refine .region ?_; refine .semM (OpSem.alloc 4 rfl zc59 rfl) rfl rfl (by decide) ?_; refine .z ?_; refine .m ?_; refine .a ?_; refine .sq ?_; refine .seq ?_; refine .seq ?_; refine .region ?_; refine .m ?_; refine .x (OpSem.lenL rfl rfl es22) ?_; refine .m ?_; refine .sq ?_; refine .block ?_; refine .loop (X := Nat) (fun k => k ≤ l.length) (fun k => [(0, .d (ints l)), (1, I (d)), (4, .r 4 0), (5, I (vgTo l d k)), (12, .d (ints l)), (13, I (l.length)), (14, I (k))]) (fun k => [(4, .box [.d (.v (.slice none 0 0)), I (0)])]) (fun k => l.length - k) 0 (by omega) ?_ ?_
 ·exact .sl <| .sl <| .sl <| .slot rfl (Le.of_eq rfl) <| .sl <| .sl <| .slot rfl (Le.of_eq (by simp)) <| .mem rfl <| .nil
 ·rintro k hkl
  refine .seq ?_; refine .region ?_; refine .x (.b blss) ?_; refine .sq ?_; refine .seq ?_; refine .cond rfl (fun c15 => ?_) (fun c15 => ?_)
  ·have hk : k < l.length := by simpa using c15
   have hgk := vg_pos (l := l) hd (k := k)
   have hxk := hx _ (nth_mem (l := l) (n := (k : Int)) (by omega) (by omega))
   unfold inB at hxk
   refine .skip ?_; refine .seq ?_; refine .seq ?_; refine .block ?_; refine .seq ?_; refine .region ?_; refine .x (OpSem.idxL rfl rfl rfl es22 (by omega) (by omega)) ?_; refine .x (OpSem.load1 rfl rfl vs3 rfl) ?_; refine .a ?_; refine .y ?_; refine .m ?_; refine .m ?_; refine .x (OpSem.call0 (linear_gcd_does (vgTo l d k) (nth l k) (by omega) (by omega)) rfl rfl rfl rfl (Les.refl _)) ?_; refine .a ?_; refine .nil ?_; refine .block_normal ?_; refine .y ?_; refine .x .ad ?_; refine .m ?_; refine .nil ?_; refine .again (k + 1) (by omega) ?_ (by omega); exact .sl <| .sl <| .sl <| .slot rfl (Le.of_eq rfl) <| .sl <| .sl <| .slot rfl (Le.of_eq (by simp)) <| .mem rfl <| .nil
  ·have hk : k = l.length := by simp at c15; omega
   subst hk
   refine .exit ?_; refine .pass_exit ?_; refine .pass_exit ?_; refine .block_same ?_; refine .seq ?_; refine .seq ?_; refine .weak (s' := I (vgF l d)) 5 rfl (Le.refl _) ?_; refine .lattice 9 [Ff, Ff, Ff, Ff, Ff, Ff, Ff, Ff, Ff] mixed rfl rfl ?_; refine .share 0 [Tt, Tt, Tt, Tt, Tt, Tt, Tt, Tt, Tt] [(0, .d (ints l)), (1, I (d)), (4, .r 4 0), (5, I (vgF l d)), (8, .r 8 0)] [(4, .box [.d (.v (.slice none 0 0)), I (0)]), (8, .box [.o 24, I (d.tdiv (vgF l d))]), (24, .own 1 3 ((vnS l d 0).map fun n => [D.v (.int .i64 n)]))] ?_ (fun h_42 => ?_)
   ·refine .fin (by kernel_rfl) ?_; refine .seq ?_; refine .seq ?_; refine .seq ?_; refine .region ?_; refine .m ?_; refine .x (OpSem.lenL rfl rfl es22) ?_; refine .m ?_; refine .sq ?_; refine .block ?_; refine .loop (X := Nat) (fun k => k ≤ l.length) (fun k => [(4, .r 4 0), (5, I (vgF l d)), (8, .r 8 0), (29, .d (ints l)), (30, I (l.length)), (31, I (k))]) (fun k => [(8, .box [.o 24, I (d.tdiv (vgF l d))]), (24, .own 1 3 ((vnS l d k).map fun n => [D.v (.int .i64 n)])), (4, .box [.d (.v (.slice none 0 0)), I (0)])]) (fun k => l.length - k) 0 (by omega) ?_ ?_
    ·exact .sl <| .sl <| .sl <| .sl <| .sl <| .slot rfl (Le.of_eq (by simp)) <| .mem rfl <| .mem rfl <| .mem rfl <| .nil
    ·rintro k hkl
     refine .seq ?_; refine .region ?_; refine .x (.b blss) ?_; refine .sq ?_; refine .seq ?_; refine .cond rfl (fun c32 => ?_) (fun c32 => ?_)
     ·have hk : k < l.length := by simpa using c32
      have hxk := hx _ (nth_mem (l := l) (n := (k : Int)) (by omega) (by omega))
      unfold inB at hxk
      have hvl := vn_len (l := l) (d := d) (k := k)
      refine .skip ?_; refine .seq ?_; refine .seq ?_; refine .block ?_; refine .seq ?_; refine .region ?_; refine .m ?_; refine .x (OpSem.idxL rfl rfl rfl es22 (by omega) (by omega)) ?_; refine .x (OpSem.load1 rfl rfl vs3 rfl) ?_; refine .a ?_; refine .a ?_; refine .sq ?_; refine PC.start [] ?_; refine .x (.f fo59_0) ?_; refine .x (.l vs22) ?_; refine .m ?_; refine .m ?_; refine .m ?_; refine .x (OpSem.bin rfl rfl rfl (bquoT (by omega) (by omega) (by omega))) ?_; refine .d0 mixed ?_; refine .x (OpSem.idxo rfl rfl rfl rfl es22 (by omega) (by simp; omega)) ?_; refine .storeq rfl rfl rfl rfl rfl rfl rfl vs3 (rows_get (by omega) (by omega)) (by simp) ?_; refine .nil ?_; refine .block_normal ?_; refine .y ?_; refine .x .ad ?_; refine .m ?_; refine .nil ?_; refine .again (k + 1) (by omega) ?_ (by omega); exact .sl <| .sl <| .sl <| .sl <| .sl <| .slot rfl (Le.of_eq (by simp)) <| .mem rfl <| .memEq rfl (by rw [← vn_s hk]; exact congrArg (Mo.own 1 3) (rows_set (f := fun n => [D.v (.int .i64 n)]))) <| .mem rfl <| .nil
     ·have hk : k = l.length := by simp at c32; omega
      subst hk
      refine .exit ?_; refine .pass_exit ?_; refine .pass_exit ?_; refine .block_same ?_; refine .seq ?_; refine .seq ?_; refine .freeze 24 rfl ?_; refine .region ?_; refine .x (OpSem.loadbN rfl rfl rfl vs59 (by first | decide | simp)) ?_; refine .sb vs59 ?_; refine .sq ?_; refine .ret ?_; exact .ret rfl (.cellN rfl rfl vs59 <| .nil) rfl (Le.of_eq (by rw [← vn_end]; rfl))
   refine .share 1 [Tt, Tt, Tt, Tt, Tt, Tt, Tt, Tt, Ff] [(0, .d (ints l)), (1, I (d)), (4, .r 4 0), (5, I (vgF l d)), (8, .r 8 0), (28, .g [.o 24, I (d.tdiv (vgF l d))])] [(4, .box [.d (.v (.slice none 0 0)), I (0)]), (8, .box [.d (.v (.slice none 0 0)), I (0)]), (24, .own 1 3 ((vnS l d 0).map fun n => [D.v (.int .i64 n)]))] ?_ (fun h_41 => ?_)
   ·refine .st [8] ⟨?_, trivial⟩
    ·refine ⟨_, rfl, ?_⟩
     refine .sb vs59 ?_; exact .j h_42
   refine .share 2 [Tt, Tt, Tt, Tt, Tt, Tt, Tt, Ff, Ff] [(0, .d (ints l)), (1, I (d)), (4, .r 4 0), (5, I (vgF l d)), (28, .g [.o 24, I (d.tdiv (vgF l d))])] [(4, .box [.d (.v (.slice none 0 0)), I (0)]), (24, .own 1 3 ((vnS l d 0).map fun n => [D.v (.int .i64 n)]))] ?_ (fun h_39 => ?_)
   ·refine .st [7] ⟨?_, trivial⟩
    ·refine ⟨_, rfl, ?_⟩
     refine .semM (OpSem.alloc 8 rfl zc59 rfl) rfl rfl (by decide) ?_; exact .j h_41
   refine .share 2 [Tt, Tt, Tt, Tt, Tt, Tt, Ff, Tt, Ff] [(0, .d (ints l)), (1, I (d)), (4, .r 4 0), (5, I (vgF l d)), (8, .r 8 0), (24, .o 24), (27, I (d.tdiv (vgF l d)))] [(4, .box [.d (.v (.slice none 0 0)), I (0)]), (8, .box [.d (.v (.slice none 0 0)), I (0)]), (24, .own 1 3 ((vnS l d 0).map fun n => [D.v (.int .i64 n)]))] ?_ (fun h_40 => ?_)
   ·refine .st [6] ⟨?_, trivial⟩
    ·refine ⟨_, rfl, ?_⟩
     refine .x (OpSem.build rfl rfl pl59 zc59 rfl rfl) ?_; exact .j h_41
   refine .share 3 [Tt, Tt, Tt, Tt, Tt, Tt, Ff, Ff, Ff] [(0, .d (ints l)), (1, I (d)), (4, .r 4 0), (5, I (vgF l d)), (24, .o 24), (27, I (d.tdiv (vgF l d)))] [(4, .box [.d (.v (.slice none 0 0)), I (0)]), (24, .own 1 3 ((vnS l d 0).map fun n => [D.v (.int .i64 n)]))] ?_ (fun h_36 => ?_)
   ·refine .st [6, 7] ⟨?_, ?_, trivial⟩
    ·refine ⟨_, rfl, ?_⟩
     refine .x (OpSem.build rfl rfl pl59 zc59 rfl rfl) ?_; exact .j h_39
    ·refine ⟨_, rfl, ?_⟩
     refine .semM (OpSem.alloc 8 rfl zc59 rfl) rfl rfl (by decide) ?_; exact .j h_40
   refine .share 3 [Tt, Tt, Tt, Tt, Tt, Ff, Ff, Tt, Ff] [(0, .d (ints l)), (1, I (d)), (4, .r 4 0), (5, I (vgF l d)), (8, .r 8 0), (24, .o 24), (25, I (d)), (26, I (vgF l d))] [(4, .box [.d (.v (.slice none 0 0)), I (0)]), (8, .box [.d (.v (.slice none 0 0)), I (0)]), (24, .own 1 3 ((vnS l d 0).map fun n => [D.v (.int .i64 n)]))] ?_ (fun h_37 => ?_)
   ·refine .st [5] ⟨?_, trivial⟩
    ·refine ⟨_, rfl, ?_⟩
     refine .x (OpSem.bin rfl rfl rfl (bquoT (by omega) (by omega) (by omega))) ?_; exact .j h_40
   refine .share 3 [Tt, Tt, Ff, Tt, Tt, Tt, Ff, Tt, Ff] [(0, .d (ints l)), (1, I (d)), (4, .r 4 0), (5, I (vgF l d)), (8, .r 8 0), (23, I (l.length)), (27, I (d.tdiv (vgF l d)))] [(4, .box [.d (.v (.slice none 0 0)), I (0)]), (8, .box [.d (.v (.slice none 0 0)), I (0)])] ?_ (fun h_38 => ?_)
   ·refine .st [2] ⟨?_, trivial⟩
    ·refine ⟨_, rfl, ?_⟩
     refine .semM (OpSem.makeSlice 24 rfl rfl rfl es22 ze22 rfl rfl (by decide) bye22 (by omega) (by omega) (by omega)) rfl rfl (by decide) ?_; exact TrL.join h_40 rfl (.sl <| .sl <| .sl <| .sl <| .sl <| .sl <| .sl <| .mem rfl <| .mem rfl <| .memEq rfl (by rw [vn_0, el22]; first | (simp; done) | (simp; rfl)) <| .nil)
   refine .share 4 [Tt, Tt, Tt, Tt, Tt, Ff, Ff, Ff, Ff] [(0, .d (ints l)), (1, I (d)), (4, .r 4 0), (5, I (vgF l d)), (24, .o 24), (25, I (d)), (26, I (vgF l d))] [(4, .box [.d (.v (.slice none 0 0)), I (0)]), (24, .own 1 3 ((vnS l d 0).map fun n => [D.v (.int .i64 n)]))] ?_ (fun h_30 => ?_)
   ·refine .st [5, 7] ⟨?_, ?_, trivial⟩
    ·refine ⟨_, rfl, ?_⟩
     refine .x (OpSem.bin rfl rfl rfl (bquoT (by omega) (by omega) (by omega))) ?_; exact .j h_36
    ·refine ⟨_, rfl, ?_⟩
     refine .semM (OpSem.alloc 8 rfl zc59 rfl) rfl rfl (by decide) ?_; exact .j h_37
   refine .share 4 [Tt, Tt, Tt, Tt, Ff, Ff, Ff, Tt, Ff] [(0, .d (ints l)), (1, I (d)), (4, .r 4 0), (5, I (vgF l d)), (8, .r 8 0), (24, .o 24), (25, I (d))] [(4, .box [.d (.v (.slice none 0 0)), I (0)]), (8, .box [.d (.v (.slice none 0 0)), I (0)]), (24, .own 1 3 ((vnS l d 0).map fun n => [D.v (.int .i64 n)]))] ?_ (fun h_31 => ?_)
   ·refine .st [4] ⟨?_, trivial⟩
    ·refine ⟨_, rfl, ?_⟩
     refine .m ?_; exact .j h_37
   refine .share 4 [Tt, Tt, Tt, Ff, Tt, Ff, Ff, Tt, Ff] [(0, .d (ints l)), (1, I (d)), (4, .r 4 0), (5, I (vgF l d)), (8, .r 8 0), (24, .o 24), (26, I (vgF l d))] [(4, .box [.d (.v (.slice none 0 0)), I (0)]), (8, .box [.d (.v (.slice none 0 0)), I (0)]), (24, .own 1 3 ((vnS l d 0).map fun n => [D.v (.int .i64 n)]))] ?_ (fun h_32 => ?_)
   ·refine .st [3] ⟨?_, trivial⟩
    ·refine ⟨_, rfl, ?_⟩
     refine .m ?_; exact .j h_37
   refine .share 4 [Tt, Tt, Ff, Tt, Tt, Tt, Ff, Ff, Ff] [(0, .d (ints l)), (1, I (d)), (4, .r 4 0), (5, I (vgF l d)), (23, I (l.length)), (27, I (d.tdiv (vgF l d)))] [(4, .box [.d (.v (.slice none 0 0)), I (0)])] ?_ (fun h_33 => ?_)
   ·refine .st [2, 7] ⟨?_, ?_, trivial⟩
    ·refine ⟨_, rfl, ?_⟩
     refine .semM (OpSem.makeSlice 24 rfl rfl rfl es22 ze22 rfl rfl (by decide) bye22 (by omega) (by omega) (by omega)) rfl rfl (by decide) ?_; exact TrL.join h_36 rfl (.sl <| .sl <| .sl <| .sl <| .sl <| .sl <| .mem rfl <| .memEq rfl (by rw [vn_0, el22]; first | (simp; done) | (simp; rfl)) <| .nil)
    ·refine ⟨_, rfl, ?_⟩
     refine .semM (OpSem.alloc 8 rfl zc59 rfl) rfl rfl (by decide) ?_; exact .j h_38
   refine .share 4 [Tt, Tt, Ff, Tt, Tt, Ff, Ff, Tt, Ff] [(0, .d (ints l)), (1, I (d)), (4, .r 4 0), (5, I (vgF l d)), (8, .r 8 0), (23, I (l.length)), (25, I (d)), (26, I (vgF l d))] [(4, .box [.d (.v (.slice none 0 0)), I (0)]), (8, .box [.d (.v (.slice none 0 0)), I (0)])] ?_ (fun h_34 => ?_)
   ·refine .st [2, 5] ⟨?_, ?_, trivial⟩
    ·refine ⟨_, rfl, ?_⟩
     refine .semM (OpSem.makeSlice 24 rfl rfl rfl es22 ze22 rfl rfl (by decide) bye22 (by omega) (by omega) (by omega)) rfl rfl (by decide) ?_; exact TrL.join h_37 rfl (.sl <| .sl <| .sl <| .sl <| .sl <| .sl <| .sl <| .sl <| .mem rfl <| .mem rfl <| .memEq rfl (by rw [vn_0, el22]; first | (simp; done) | (simp; rfl)) <| .nil)
    ·refine ⟨_, rfl, ?_⟩
     refine .x (OpSem.bin rfl rfl rfl (bquoT (by omega) (by omega) (by omega))) ?_; exact .j h_38
   refine .share 4 [Tt, Ff, Ff, Tt, Tt, Tt, Ff, Tt, Ff] [(0, .d (ints l)), (1, I (d)), (4, .r 4 0), (5, I (vgF l d)), (8, .r 8 0), (22, .d (ints l)), (27, I (d.tdiv (vgF l d)))] [(4, .box [.d (.v (.slice none 0 0)), I (0)]), (8, .box [.d (.v (.slice none 0 0)), I (0)])] ?_ (fun h_35 => ?_)
   ·refine .st [1] ⟨?_, trivial⟩
    ·refine ⟨_, rfl, ?_⟩
     refine .x (OpSem.lenL rfl rfl es22) ?_; exact .j h_38
   refine .share 5 [Tt, Tt, Tt, Tt, Ff, Ff, Ff, Ff, Ff] [(0, .d (ints l)), (1, I (d)), (4, .r 4 0), (5, I (vgF l d)), (24, .o 24), (25, I (d))] [(4, .box [.d (.v (.slice none 0 0)), I (0)]), (24, .own 1 3 ((vnS l d 0).map fun n => [D.v (.int .i64 n)]))] ?_ (fun h_21 => ?_)
   ·refine .st [4, 7] ⟨?_, ?_, trivial⟩
    ·refine ⟨_, rfl, ?_⟩
     refine .m ?_; exact .j h_30
    ·refine ⟨_, rfl, ?_⟩
     refine .semM (OpSem.alloc 8 rfl zc59 rfl) rfl rfl (by decide) ?_; exact .j h_31
   refine .share 5 [Tt, Tt, Tt, Ff, Tt, Ff, Ff, Ff, Ff] [(0, .d (ints l)), (1, I (d)), (4, .r 4 0), (5, I (vgF l d)), (24, .o 24), (26, I (vgF l d))] [(4, .box [.d (.v (.slice none 0 0)), I (0)]), (24, .own 1 3 ((vnS l d 0).map fun n => [D.v (.int .i64 n)]))] ?_ (fun h_22 => ?_)
   ·refine .st [3, 7] ⟨?_, ?_, trivial⟩
    ·refine ⟨_, rfl, ?_⟩
     refine .m ?_; exact .j h_30
    ·refine ⟨_, rfl, ?_⟩
     refine .semM (OpSem.alloc 8 rfl zc59 rfl) rfl rfl (by decide) ?_; exact .j h_32
   refine .share 5 [Tt, Tt, Tt, Ff, Ff, Ff, Ff, Tt, Ff] [(0, .d (ints l)), (1, I (d)), (4, .r 4 0), (5, I (vgF l d)), (8, .r 8 0), (24, .o 24)] [(4, .box [.d (.v (.slice none 0 0)), I (0)]), (8, .box [.d (.v (.slice none 0 0)), I (0)]), (24, .own 1 3 ((vnS l d 0).map fun n => [D.v (.int .i64 n)]))] ?_ (fun h_23 => ?_)
   ·refine .st [3, 4] ⟨?_, ?_, trivial⟩
    ·refine ⟨_, rfl, ?_⟩
     refine .m ?_; exact .j h_31
    ·refine ⟨_, rfl, ?_⟩
     refine .m ?_; exact .j h_32
   refine .share 5 [Tt, Tt, Ff, Tt, Tt, Ff, Ff, Ff, Ff] [(0, .d (ints l)), (1, I (d)), (4, .r 4 0), (5, I (vgF l d)), (23, I (l.length)), (25, I (d)), (26, I (vgF l d))] [(4, .box [.d (.v (.slice none 0 0)), I (0)])] ?_ (fun h_24 => ?_)
   ·refine .st [2, 5, 7] ⟨?_, ?_, ?_, trivial⟩
    ·refine ⟨_, rfl, ?_⟩
     refine .semM (OpSem.makeSlice 24 rfl rfl rfl es22 ze22 rfl rfl (by decide) bye22 (by omega) (by omega) (by omega)) rfl rfl (by decide) ?_; exact TrL.join h_30 rfl (.sl <| .sl <| .sl <| .sl <| .sl <| .sl <| .sl <| .mem rfl <| .memEq rfl (by rw [vn_0, el22]; first | (simp; done) | (simp; rfl)) <| .nil)
    ·refine ⟨_, rfl, ?_⟩
     refine .x (OpSem.bin rfl rfl rfl (bquoT (by omega) (by omega) (by omega))) ?_; exact .j h_33
    ·refine ⟨_, rfl, ?_⟩
     refine .semM (OpSem.alloc 8 rfl zc59 rfl) rfl rfl (by decide) ?_; exact .j h_34
   refine .share 5 [Tt, Tt, Ff, Tt, Ff, Ff, Ff, Tt, Ff] [(0, .d (ints l)), (1, I (d)), (4, .r 4 0), (5, I (vgF l d)), (8, .r 8 0), (23, I (l.length)), (25, I (d))] [(4, .box [.d (.v (.slice none 0 0)), I (0)]), (8, .box [.d (.v (.slice none 0 0)), I (0)])] ?_ (fun h_25 => ?_)
   ·refine .st [2, 4] ⟨?_, ?_, trivial⟩
    ·refine ⟨_, rfl, ?_⟩
     refine .semM (OpSem.makeSlice 24 rfl rfl rfl es22 ze22 rfl rfl (by decide) bye22 (by omega) (by omega) (by omega)) rfl rfl (by decide) ?_; exact TrL.join h_31 rfl (.sl <| .sl <| .sl <| .sl <| .sl <| .sl <| .sl <| .mem rfl <| .mem rfl <| .memEq rfl (by rw [vn_0, el22]; first | (simp; done) | (simp; rfl)) <| .nil)
    ·refine ⟨_, rfl, ?_⟩
     refine .m ?_; exact .j h_34
   refine .share 5 [Tt, Tt, Ff, Ff, Tt, Ff, Ff, Tt, Ff] [(0, .d (ints l)), (1, I (d)), (4, .r 4 0), (5, I (vgF l d)), (8, .r 8 0), (23, I (l.length)), (26, I (vgF l d))] [(4, .box [.d (.v (.slice none 0 0)), I (0)]), (8, .box [.d (.v (.slice none 0 0)), I (0)])] ?_ (fun h_26 => ?_)
   ·refine .st [2, 3] ⟨?_, ?_, trivial⟩
    ·refine ⟨_, rfl, ?_⟩
     refine .semM (OpSem.makeSlice 24 rfl rfl rfl es22 ze22 rfl rfl (by decide) bye22 (by omega) (by omega) (by omega)) rfl rfl (by decide) ?_; exact TrL.join h_32 rfl (.sl <| .sl <| .sl <| .sl <| .sl <| .sl <| .sl <| .mem rfl <| .mem rfl <| .memEq rfl (by rw [vn_0, el22]; first | (simp; done) | (simp; rfl)) <| .nil)
    ·refine ⟨_, rfl, ?_⟩
     refine .m ?_; exact .j h_34
   refine .share 5 [Tt, Ff, Ff, Tt, Tt, Tt, Ff, Ff, Ff] [(0, .d (ints l)), (1, I (d)), (4, .r 4 0), (5, I (vgF l d)), (22, .d (ints l)), (27, I (d.tdiv (vgF l d)))] [(4, .box [.d (.v (.slice none 0 0)), I (0)])] ?_ (fun h_27 => ?_)
   ·refine .st [1, 7] ⟨?_, ?_, trivial⟩
    ·refine ⟨_, rfl, ?_⟩
     refine .x (OpSem.lenL rfl rfl es22) ?_; exact .j h_33
    ·refine ⟨_, rfl, ?_⟩
     refine .semM (OpSem.alloc 8 rfl zc59 rfl) rfl rfl (by decide) ?_; exact .j h_35
   refine .share 5 [Tt, Ff, Ff, Tt, Tt, Ff, Ff, Tt, Ff] [(0, .d (ints l)), (1, I (d)), (4, .r 4 0), (5, I (vgF l d)), (8, .r 8 0), (22, .d (ints l)), (25, I (d)), (26, I (vgF l d))] [(4, .box [.d (.v (.slice none 0 0)), I (0)]), (8, .box [.d (.v (.slice none 0 0)), I (0)])] ?_ (fun h_28 => ?_)
   ·refine .st [1, 5] ⟨?_, ?_, trivial⟩
    ·refine ⟨_, rfl, ?_⟩
     refine .x (OpSem.lenL rfl rfl es22) ?_; exact .j h_34
    ·refine ⟨_, rfl, ?_⟩
     refine .x (OpSem.bin rfl rfl rfl (bquoT (by omega) (by omega) (by omega))) ?_; exact .j h_35
   refine .share 5 [Ff, Ff, Ff, Tt, Tt, Tt, Ff, Tt, Ff] [(0, .d (ints l)), (1, I (d)), (4, .r 4 0), (5, I (vgF l d)), (8, .r 8 0), (27, I (d.tdiv (vgF l d)))] [(4, .box [.d (.v (.slice none 0 0)), I (0)]), (8, .box [.d (.v (.slice none 0 0)), I (0)])] ?_ (fun h_29 => ?_)
   ·refine .st [0] ⟨?_, trivial⟩
    ·refine ⟨_, rfl, ?_⟩
     refine .m ?_; exact .j h_35
   refine .share 6 [Tt, Tt, Tt, Ff, Ff, Ff, Ff, Ff, Ff] [(0, .d (ints l)), (1, I (d)), (4, .r 4 0), (5, I (vgF l d)), (24, .o 24)] [(4, .box [.d (.v (.slice none 0 0)), I (0)]), (24, .own 1 3 ((vnS l d 0).map fun n => [D.v (.int .i64 n)]))] ?_ (fun h_12 => ?_)
   ·refine .st [3, 4, 7] ⟨?_, ?_, ?_, trivial⟩
    ·refine ⟨_, rfl, ?_⟩
     refine .m ?_; exact .j h_21
    ·refine ⟨_, rfl, ?_⟩
     refine .m ?_; exact .j h_22
    ·refine ⟨_, rfl, ?_⟩
     refine .semM (OpSem.alloc 8 rfl zc59 rfl) rfl rfl (by decide) ?_; exact .j h_23
   refine .share 6 [Tt, Tt, Ff, Tt, Ff, Ff, Ff, Ff, Ff] [(0, .d (ints l)), (1, I (d)), (4, .r 4 0), (5, I (vgF l d)), (23, I (l.length)), (25, I (d))] [(4, .box [.d (.v (.slice none 0 0)), I (0)])] ?_ (fun h_13 => ?_)
   ·refine .st [2, 4, 7] ⟨?_, ?_, ?_, trivial⟩
    ·refine ⟨_, rfl, ?_⟩
     refine .semM (OpSem.makeSlice 24 rfl rfl rfl es22 ze22 rfl rfl (by decide) bye22 (by omega) (by omega) (by omega)) rfl rfl (by decide) ?_; exact TrL.join h_21 rfl (.sl <| .sl <| .sl <| .sl <| .sl <| .sl <| .mem rfl <| .memEq rfl (by rw [vn_0, el22]; first | (simp; done) | (simp; rfl)) <| .nil)
    ·refine ⟨_, rfl, ?_⟩
     refine .m ?_; exact .j h_24
    ·refine ⟨_, rfl, ?_⟩
     refine .semM (OpSem.alloc 8 rfl zc59 rfl) rfl rfl (by decide) ?_; exact .j h_25
   refine .share 6 [Tt, Tt, Ff, Ff, Tt, Ff, Ff, Ff, Ff] [(0, .d (ints l)), (1, I (d)), (4, .r 4 0), (5, I (vgF l d)), (23, I (l.length)), (26, I (vgF l d))] [(4, .box [.d (.v (.slice none 0 0)), I (0)])] ?_ (fun h_14 => ?_)
   ·refine .st [2, 3, 7] ⟨?_, ?_, ?_, trivial⟩
    ·refine ⟨_, rfl, ?_⟩
     refine .semM (OpSem.makeSlice 24 rfl rfl rfl es22 ze22 rfl rfl (by decide) bye22 (by omega) (by omega) (by omega)) rfl rfl (by decide) ?_; exact TrL.join h_22 rfl (.sl <| .sl <| .sl <| .sl <| .sl <| .sl <| .mem rfl <| .memEq rfl (by rw [vn_0, el22]; first | (simp; done) | (simp; rfl)) <| .nil)
    ·refine ⟨_, rfl, ?_⟩
     refine .m ?_; exact .j h_24
    ·refine ⟨_, rfl, ?_⟩
     refine .semM (OpSem.alloc 8 rfl zc59 rfl) rfl rfl (by decide) ?_; exact .j h_26
   refine .share 6 [Tt, Tt, Ff, Ff, Ff, Ff, Ff, Tt, Ff] [(0, .d (ints l)), (1, I (d)), (4, .r 4 0), (5, I (vgF l d)), (8, .r 8 0), (23, I (l.length))] [(4, .box [.d (.v (.slice none 0 0)), I (0)]), (8, .box [.d (.v (.slice none 0 0)), I (0)])] ?_ (fun h_15 => ?_)
   ·refine .st [2, 3, 4] ⟨?_, ?_, ?_, trivial⟩
    ·refine ⟨_, rfl, ?_⟩
     refine .semM (OpSem.makeSlice 24 rfl rfl rfl es22 ze22 rfl rfl (by decide) bye22 (by omega) (by omega) (by omega)) rfl rfl (by decide) ?_; exact TrL.join h_23 rfl (.sl <| .sl <| .sl <| .sl <| .sl <| .sl <| .mem rfl <| .mem rfl <| .memEq rfl (by rw [vn_0, el22]; first | (simp; done) | (simp; rfl)) <| .nil)
    ·refine ⟨_, rfl, ?_⟩
     refine .m ?_; exact .j h_25
    ·refine ⟨_, rfl, ?_⟩
     refine .m ?_; exact .j h_26
   refine .share 6 [Tt, Ff, Ff, Tt, Tt, Ff, Ff, Ff, Ff] [(0, .d (ints l)), (1, I (d)), (4, .r 4 0), (5, I (vgF l d)), (22, .d (ints l)), (25, I (d)), (26, I (vgF l d))] [(4, .box [.d (.v (.slice none 0 0)), I (0)])] ?_ (fun h_16 => ?_)
   ·refine .st [1, 5, 7] ⟨?_, ?_, ?_, trivial⟩
    ·refine ⟨_, rfl, ?_⟩
     refine .x (OpSem.lenL rfl rfl es22) ?_; exact .j h_24
    ·refine ⟨_, rfl, ?_⟩
     refine .x (OpSem.bin rfl rfl rfl (bquoT (by omega) (by omega) (by omega))) ?_; exact .j h_27
    ·refine ⟨_, rfl, ?_⟩
     refine .semM (OpSem.alloc 8 rfl zc59 rfl) rfl rfl (by decide) ?_; exact .j h_28
   refine .share 6 [Tt, Ff, Ff, Tt, Ff, Ff, Ff, Tt, Ff] [(0, .d (ints l)), (1, I (d)), (4, .r 4 0), (5, I (vgF l d)), (8, .r 8 0), (22, .d (ints l)), (25, I (d))] [(4, .box [.d (.v (.slice none 0 0)), I (0)]), (8, .box [.d (.v (.slice none 0 0)), I (0)])] ?_ (fun h_17 => ?_)
   ·refine .st [1, 4] ⟨?_, ?_, trivial⟩
    ·refine ⟨_, rfl, ?_⟩
     refine .x (OpSem.lenL rfl rfl es22) ?_; exact .j h_25
    ·refine ⟨_, rfl, ?_⟩
     refine .m ?_; exact .j h_28
   refine .share 6 [Tt, Ff, Ff, Ff, Tt, Ff, Ff, Tt, Ff] [(0, .d (ints l)), (1, I (d)), (4, .r 4 0), (5, I (vgF l d)), (8, .r 8 0), (22, .d (ints l)), (26, I (vgF l d))] [(4, .box [.d (.v (.slice none 0 0)), I (0)]), (8, .box [.d (.v (.slice none 0 0)), I (0)])] ?_ (fun h_18 => ?_)
   ·refine .st [1, 3] ⟨?_, ?_, trivial⟩
    ·refine ⟨_, rfl, ?_⟩
     refine .x (OpSem.lenL rfl rfl es22) ?_; exact .j h_26
    ·refine ⟨_, rfl, ?_⟩
     refine .m ?_; exact .j h_28
   refine .share 6 [Ff, Ff, Ff, Tt, Tt, Tt, Ff, Ff, Ff] [(0, .d (ints l)), (1, I (d)), (4, .r 4 0), (5, I (vgF l d)), (27, I (d.tdiv (vgF l d)))] [(4, .box [.d (.v (.slice none 0 0)), I (0)])] ?_ (fun h_19 => ?_)
   ·refine .st [0, 7] ⟨?_, ?_, trivial⟩
    ·refine ⟨_, rfl, ?_⟩
     refine .m ?_; exact .j h_27
    ·refine ⟨_, rfl, ?_⟩
     refine .semM (OpSem.alloc 8 rfl zc59 rfl) rfl rfl (by decide) ?_; exact .j h_29
   refine .share 6 [Ff, Ff, Ff, Tt, Tt, Ff, Ff, Tt, Ff] [(0, .d (ints l)), (1, I (d)), (4, .r 4 0), (5, I (vgF l d)), (8, .r 8 0), (25, I (d)), (26, I (vgF l d))] [(4, .box [.d (.v (.slice none 0 0)), I (0)]), (8, .box [.d (.v (.slice none 0 0)), I (0)])] ?_ (fun h_20 => ?_)
   ·refine .st [0, 5] ⟨?_, ?_, trivial⟩
    ·refine ⟨_, rfl, ?_⟩
     refine .m ?_; exact .j h_28
    ·refine ⟨_, rfl, ?_⟩
     refine .x (OpSem.bin rfl rfl rfl (bquoT (by omega) (by omega) (by omega))) ?_; exact .j h_29
   refine .share 7 [Tt, Tt, Ff, Ff, Ff, Ff, Ff, Ff, Ff] [(0, .d (ints l)), (1, I (d)), (4, .r 4 0), (5, I (vgF l d)), (23, I (l.length))] [(4, .box [.d (.v (.slice none 0 0)), I (0)])] ?_ (fun h_5 => ?_)
   ·refine .st [2, 3, 4, 7] ⟨?_, ?_, ?_, ?_, trivial⟩
    ·refine ⟨_, rfl, ?_⟩
     refine .semM (OpSem.makeSlice 24 rfl rfl rfl es22 ze22 rfl rfl (by decide) bye22 (by omega) (by omega) (by omega)) rfl rfl (by decide) ?_; exact TrL.join h_12 rfl (.sl <| .sl <| .sl <| .sl <| .sl <| .mem rfl <| .memEq rfl (by rw [vn_0, el22]; first | (simp; done) | (simp; rfl)) <| .nil)
    ·refine ⟨_, rfl, ?_⟩
     refine .m ?_; exact .j h_13
    ·refine ⟨_, rfl, ?_⟩
     refine .m ?_; exact .j h_14
    ·refine ⟨_, rfl, ?_⟩
     refine .semM (OpSem.alloc 8 rfl zc59 rfl) rfl rfl (by decide) ?_; exact .j h_15
   refine .share 7 [Tt, Ff, Ff, Tt, Ff, Ff, Ff, Ff, Ff] [(0, .d (ints l)), (1, I (d)), (4, .r 4 0), (5, I (vgF l d)), (22, .d (ints l)), (25, I (d))] [(4, .box [.d (.v (.slice none 0 0)), I (0)])] ?_ (fun h_6 => ?_)
   ·refine .st [1, 4, 7] ⟨?_, ?_, ?_, trivial⟩
    ·refine ⟨_, rfl, ?_⟩
     refine .x (OpSem.lenL rfl rfl es22) ?_; exact .j h_13
    ·refine ⟨_, rfl, ?_⟩
     refine .m ?_; exact .j h_16
    ·refine ⟨_, rfl, ?_⟩
     refine .semM (OpSem.alloc 8 rfl zc59 rfl) rfl rfl (by decide) ?_; exact .j h_17
   refine .share 7 [Tt, Ff, Ff, Ff, Tt, Ff, Ff, Ff, Ff] [(0, .d (ints l)), (1, I (d)), (4, .r 4 0), (5, I (vgF l d)), (22, .d (ints l)), (26, I (vgF l d))] [(4, .box [.d (.v (.slice none 0 0)), I (0)])] ?_ (fun h_7 => ?_)
   ·refine .st [1, 3, 7] ⟨?_, ?_, ?_, trivial⟩
    ·refine ⟨_, rfl, ?_⟩
     refine .x (OpSem.lenL rfl rfl es22) ?_; exact .j h_14
    ·refine ⟨_, rfl, ?_⟩
     refine .m ?_; exact .j h_16
    ·refine ⟨_, rfl, ?_⟩
     refine .semM (OpSem.alloc 8 rfl zc59 rfl) rfl rfl (by decide) ?_; exact .j h_18
   refine .share 7 [Tt, Ff, Ff, Ff, Ff, Ff, Ff, Tt, Ff] [(0, .d (ints l)), (1, I (d)), (4, .r 4 0), (5, I (vgF l d)), (8, .r 8 0), (22, .d (ints l))] [(4, .box [.d (.v (.slice none 0 0)), I (0)]), (8, .box [.d (.v (.slice none 0 0)), I (0)])] ?_ (fun h_8 => ?_)
   ·refine .st [1, 3, 4] ⟨?_, ?_, ?_, trivial⟩
    ·refine ⟨_, rfl, ?_⟩
     refine .x (OpSem.lenL rfl rfl es22) ?_; exact .j h_15
    ·refine ⟨_, rfl, ?_⟩
     refine .m ?_; exact .j h_17
    ·refine ⟨_, rfl, ?_⟩
     refine .m ?_; exact .j h_18
   refine .share 7 [Ff, Ff, Ff, Tt, Tt, Ff, Ff, Ff, Ff] [(0, .d (ints l)), (1, I (d)), (4, .r 4 0), (5, I (vgF l d)), (25, I (d)), (26, I (vgF l d))] [(4, .box [.d (.v (.slice none 0 0)), I (0)])] ?_ (fun h_9 => ?_)
   ·refine .st [0, 5, 7] ⟨?_, ?_, ?_, trivial⟩
    ·refine ⟨_, rfl, ?_⟩
     refine .m ?_; exact .j h_16
    ·refine ⟨_, rfl, ?_⟩
     refine .x (OpSem.bin rfl rfl rfl (bquoT (by omega) (by omega) (by omega))) ?_; exact .j h_19
    ·refine ⟨_, rfl, ?_⟩
     refine .semM (OpSem.alloc 8 rfl zc59 rfl) rfl rfl (by decide) ?_; exact .j h_20
   refine .share 7 [Ff, Ff, Ff, Tt, Ff, Ff, Ff, Tt, Ff] [(0, .d (ints l)), (1, I (d)), (4, .r 4 0), (5, I (vgF l d)), (8, .r 8 0), (25, I (d))] [(4, .box [.d (.v (.slice none 0 0)), I (0)]), (8, .box [.d (.v (.slice none 0 0)), I (0)])] ?_ (fun h_10 => ?_)
   ·refine .st [0, 4] ⟨?_, ?_, trivial⟩
    ·refine ⟨_, rfl, ?_⟩
     refine .m ?_; exact .j h_17
    ·refine ⟨_, rfl, ?_⟩
     refine .m ?_; exact .j h_20
   refine .share 7 [Ff, Ff, Ff, Ff, Tt, Ff, Ff, Tt, Ff] [(0, .d (ints l)), (1, I (d)), (4, .r 4 0), (5, I (vgF l d)), (8, .r 8 0), (26, I (vgF l d))] [(4, .box [.d (.v (.slice none 0 0)), I (0)]), (8, .box [.d (.v (.slice none 0 0)), I (0)])] ?_ (fun h_11 => ?_)
   ·refine .st [0, 3] ⟨?_, ?_, trivial⟩
    ·refine ⟨_, rfl, ?_⟩
     refine .m ?_; exact .j h_18
    ·refine ⟨_, rfl, ?_⟩
     refine .m ?_; exact .j h_20
   refine .share 8 [Tt, Ff, Ff, Ff, Ff, Ff, Ff, Ff, Ff] [(0, .d (ints l)), (1, I (d)), (4, .r 4 0), (5, I (vgF l d)), (22, .d (ints l))] [(4, .box [.d (.v (.slice none 0 0)), I (0)])] ?_ (fun h_1 => ?_)
   ·refine .st [1, 3, 4, 7] ⟨?_, ?_, ?_, ?_, trivial⟩
    ·refine ⟨_, rfl, ?_⟩
     refine .x (OpSem.lenL rfl rfl es22) ?_; exact .j h_5
    ·refine ⟨_, rfl, ?_⟩
     refine .m ?_; exact .j h_6
    ·refine ⟨_, rfl, ?_⟩
     refine .m ?_; exact .j h_7
    ·refine ⟨_, rfl, ?_⟩
     refine .semM (OpSem.alloc 8 rfl zc59 rfl) rfl rfl (by decide) ?_; exact .j h_8
   refine .share 8 [Ff, Ff, Ff, Tt, Ff, Ff, Ff, Ff, Ff] [(0, .d (ints l)), (1, I (d)), (4, .r 4 0), (5, I (vgF l d)), (25, I (d))] [(4, .box [.d (.v (.slice none 0 0)), I (0)])] ?_ (fun h_2 => ?_)
   ·refine .st [0, 4, 7] ⟨?_, ?_, ?_, trivial⟩
    ·refine ⟨_, rfl, ?_⟩
     refine .m ?_; exact .j h_6
    ·refine ⟨_, rfl, ?_⟩
     refine .m ?_; exact .j h_9
    ·refine ⟨_, rfl, ?_⟩
     refine .semM (OpSem.alloc 8 rfl zc59 rfl) rfl rfl (by decide) ?_; exact .j h_10
   refine .share 8 [Ff, Ff, Ff, Ff, Tt, Ff, Ff, Ff, Ff] [(0, .d (ints l)), (1, I (d)), (4, .r 4 0), (5, I (vgF l d)), (26, I (vgF l d))] [(4, .box [.d (.v (.slice none 0 0)), I (0)])] ?_ (fun h_3 => ?_)
   ·refine .st [0, 3, 7] ⟨?_, ?_, ?_, trivial⟩
    ·refine ⟨_, rfl, ?_⟩
     refine .m ?_; exact .j h_7
    ·refine ⟨_, rfl, ?_⟩
     refine .m ?_; exact .j h_9
    ·refine ⟨_, rfl, ?_⟩
     refine .semM (OpSem.alloc 8 rfl zc59 rfl) rfl rfl (by decide) ?_; exact .j h_11
   refine .share 8 [Ff, Ff, Ff, Ff, Ff, Ff, Ff, Tt, Ff] [(0, .d (ints l)), (1, I (d)), (4, .r 4 0), (5, I (vgF l d)), (8, .r 8 0)] [(4, .box [.d (.v (.slice none 0 0)), I (0)]), (8, .box [.d (.v (.slice none 0 0)), I (0)])] ?_ (fun h_4 => ?_)
   ·refine .st [0, 3, 4] ⟨?_, ?_, ?_, trivial⟩
    ·refine ⟨_, rfl, ?_⟩
     refine .m ?_; exact .j h_8
    ·refine ⟨_, rfl, ?_⟩
     refine .m ?_; exact .j h_10
    ·refine ⟨_, rfl, ?_⟩
     refine .m ?_; exact .j h_11
   refine .st [0, 3, 4, 7] ⟨?_, ?_, ?_, ?_, trivial⟩
   ·refine ⟨_, rfl, ?_⟩
    refine .m ?_; exact .j h_1
   ·refine ⟨_, rfl, ?_⟩
    refine .m ?_; exact .j h_2
   ·refine ⟨_, rfl, ?_⟩
    refine .m ?_; exact .j h_3
   ·refine ⟨_, rfl, ?_⟩
    refine .semM (OpSem.alloc 8 rfl zc59 rfl) rfl rfl (by decide) ?_; exact .j h_4

theorem linear_tableau_point_does (t : Tb) (n : Nat) (col : Int) (hn : n ≤ 1000000) (hbl : t.bs.length ≤ 1000000) (h2 : t.bs.length ≤ t.rs.length) (hb : ∀ k : Nat, k < t.bs.length → 0 ≤ nth t.bs k ∧ 0 ≤ col ∧ col < (nth t.rs k).length ∧ inB (cel t k col)) : DoesO Try.prog 59 [.p [rows t.rs, ints t.bs, .v (.int .i64 t.dn)], I ((n : Int)), I (col), I (1)] 1 3 (((ptF t n col 1).map fun n => [D.v (.int .i64 n)])) := by
 refine DoesO.of_body Try.func59 rfl rfl (by simp) Try.call59 (fun w0 O0 => ?_); refine .seq ?_; refine .region ?_; refine .a ?_; refine .z ?_; refine .m ?_; refine .semM (OpSem.makeSlice 13 rfl rfl rfl es22 ze22 rfl rfl (by decide) bye22 (by omega) (by omega) (by omega)) rfl rfl (by decide) ?_; refine .a ?_; refine .sq ?_; refine .seq ?_; refine .seq ?_; refine .region ?_; refine .m ?_; refine .x (OpSem.nilp rfl rfl) ?_; refine .x (OpSem.fieldp rfl rfl fo99_1) ?_; refine .x (OpSem.load1 rfl rfl vs22 rfl) ?_; refine .x (OpSem.lenL rfl rfl es22) ?_; refine .m ?_; refine .sq ?_; refine .block ?_; refine .loop (X := Nat) (fun k => k ≤ t.bs.length) (fun k => [(0, .p [rows t.rs, ints t.bs, .v (.int .i64 t.dn)]), (1, I ((n : Int))), (2, I (col)), (3, I (1)), (9, .o 13), (17, .d (ints t.bs)), (18, I (t.bs.length)), (19, I (k))]) (fun k => [(13, .own 1 3 ((ptTo t n col 1 k).map fun n => [D.v (.int .i64 n)]))]) (fun k => t.bs.length - k) 0 (by omega) ?_ ?_
 ·exact .sl <| .sl <| .sl <| .sl <| .sl <| .sl <| .sl <| .slot rfl (Le.of_eq (by simp)) <| .memEq rfl (by rw [el22]; first | (simp [ptTo]; done) | (simp [ptTo]; rfl)) <| .nil
 ·rintro k hkl
  refine .seq ?_; refine .region ?_; refine .x (.b blss) ?_; refine .sq ?_; refine .seq ?_; refine .cond rfl (fun c20 => ?_) (fun c20 => ?_)
  ·have hk : k < t.bs.length := by simpa using c20
   have hbk := hb k hk
   have hpl := pt_len (t := t) (n := n) (col := col) (sign := 1) (k := k)
   refine .skip ?_; refine .seq ?_; refine .seq ?_; refine .block ?_; refine .seq ?_; refine .region ?_; refine .m ?_; refine .x (OpSem.idxL rfl rfl rfl es22 (by omega) (by omega)) ?_; refine .x (OpSem.load1 rfl rfl vs3 rfl) ?_; refine .a ?_; refine .a ?_; refine .z ?_; refine .m ?_; refine .m ?_; refine .x (.b blss) ?_; refine .sq ?_; refine .cond rfl (fun c26 => ?_) (fun c26 => ?_)
   ·have hp : nth t.bs k < n := by simpa using c26
    refine .region ?_; refine .m ?_; refine .m ?_; refine .m ?_; refine .m ?_; refine .x (OpSem.nilp rfl rfl) ?_; refine .x (OpSem.fieldp rfl rfl fo99_0) ?_; refine .x (OpSem.load1 rfl rfl vs37 rfl) ?_; refine .m ?_; refine .x (OpSem.idxL rfl rfl rfl es37 (by omega) (by omega)) ?_; refine .x (OpSem.load1 rfl rfl vs22 rfl) ?_; refine .m ?_; refine .x (OpSem.idxL rfl rfl rfl es22 (by omega) (by omega)) ?_; refine .x (OpSem.load1 rfl rfl vs3 rfl) ?_; refine .x (OpSem.bin rfl rfl rfl (bmul (by unfold inB cel at hbk; omega) (by unfold inB cel at hbk; omega))) ?_; refine .x (OpSem.idxo rfl rfl rfl rfl es22 (by omega) (by simp; omega)) ?_; refine .storeq rfl rfl rfl rfl rfl rfl rfl vs3 (rows_get (by omega) (by omega)) (by simp) ?_; refine .nil ?_; refine .block_normal ?_; refine .y ?_; refine .x .ad ?_; refine .m ?_; refine .nil ?_; refine .again (k + 1) (by omega) ?_ (by omega); exact .sl <| .sl <| .sl <| .sl <| .sl <| .sl <| .sl <| .slot rfl (Le.of_eq (by simp)) <| .memEq rfl (by rw [pt_t hp]; exact congrArg (Mo.own 1 3) (rows_set (f := fun n => [D.v (.int .i64 n)]))) <| .nil
   ·have hp : ¬ nth t.bs k < n := by simpa using c26
    refine .skip ?_; refine .block_normal ?_; refine .y ?_; refine .x .ad ?_; refine .m ?_; refine .nil ?_; refine .again (k + 1) (by omega) ?_ (by omega); exact .sl <| .sl <| .sl <| .sl <| .sl <| .sl <| .sl <| .slot rfl (Le.of_eq (by simp)) <| .memEq rfl (by rw [pt_f hp]) <| .nil
  ·have hk : k = t.bs.length := by simp at c20; omega
   subst hk
   refine .exit ?_; refine .pass_exit ?_; refine .pass_exit ?_; refine .block_same ?_; refine .z ?_; refine .m ?_; refine .a ?_; refine .sq ?_; refine .ret ?_; exact .retO2 rfl rfl rfl (by simp) (rfl)

theorem fraction_Validate_does (x : Int × Int) (h0 : -1000000000 ≤ x.1) (h1 : x.1 ≤ 1000000000) (h2 : 0 < x.2) (h3 : x.2 ≤ 1000000000) (hg : Int.gcd x.1 x.2 = 1) : Does Try.prog false 96 [flt x] (flt (0, 0)) := by
 refine Does.of_body Try.func96 rfl rfl (by simp) Try.call96 (fun w0 O0 => ?_); refine .seq ?_; refine .region ?_; refine .semM (OpSem.box 1 rfl rfl rfl rfl) rfl rfl (by decide) ?_; refine .semM (OpSem.alloc 2 rfl zc30 rfl) rfl rfl (by decide) ?_; refine .sq ?_; refine .seq ?_; refine .block ?_; refine .seq ?_; refine .region ?_; refine .x (.f fo28_0) ?_; refine .x (.l vs3) ?_; refine .x (.b blss) ?_; refine .m ?_; refine .split (n := 7) rfl (fun c7 => ?_) (fun c7 => ?_)
 ·exfalso; simp at c7; omega
 ·refine .ht c7 ?_; refine .x (.f fo28_0) ?_; refine .ht c7 ?_; refine .x (.l vs3) ?_; refine .ht c7 ?_; refine .x (.b bgtr) ?_; refine .x (OpSem.pickF rfl rfl c7 rfl) ?_; refine .m ?_; refine .split (n := 12) rfl (fun c12 => ?_) (fun c12 => ?_)
  ·exfalso; simp at c12; omega
  ·refine .ht c12 ?_; refine .x (.f fo28_1) ?_; refine .ht c12 ?_; refine .x (.l vs3) ?_; refine .ht c12 ?_; refine .x (.b blss) ?_; refine .x (OpSem.pickF rfl rfl c12 rfl) ?_; refine .m ?_; refine .split (n := 17) rfl (fun c17 => ?_) (fun c17 => ?_)
   ·exfalso; simp at c17; omega
   ·refine .ht c17 ?_; refine .x (.f fo28_1) ?_; refine .ht c17 ?_; refine .x (.l vs3) ?_; refine .ht c17 ?_; refine .x (.b bgtr) ?_; refine .x (OpSem.pickF rfl rfl c17 rfl) ?_; refine .a ?_; refine .sq ?_; refine .cond rfl (fun c3 => ?_) (fun c3 => ?_)
    ·exfalso; simp at c3; omega
    ·refine .seq ?_; refine .region ?_; refine .x (.f fo28_0) ?_; refine .x (.l vs3) ?_; refine .x (.f fo28_1) ?_; refine .x (.l vs3) ?_; refine .x (OpSem.call0 (fraction_gcd_does x.1 x.2 (by omega) (by omega)) rfl rfl rfl rfl (Les.refl _)) ?_; refine .x (.b bneq) ?_; refine .a ?_; refine .sq ?_; refine .cond rfl (fun c23 => ?_) (fun c23 => ?_)
     ·exfalso; simp [hg] at c23
     ·refine .skip ?_; refine .block_normal ?_; refine .z ?_; refine .x (OpSem.build rfl rfl pl30 zc30 rfl rfl) ?_; refine .sb vs30 ?_; refine .sq ?_; refine .ret ?_; exact .ret rfl (.cellN rfl rfl vs30 <| .nil) rfl (.refl _)

theorem fraction_reduce_does (n d : Int) (h0 : -1000000000 ≤ n) (h1 : n ≤ 1000000000) (h2 : 0 < d) (h3 : d ≤ 1000000000) : Does Try.prog false 87 [I (n), I (d)] (.t [flt (lowF n d), flt (0, 0)]) := by
 obtain ⟨z0, z1, z2, z3, z4, z5, z6⟩ := low_ok h0 h1 h2 h3
 refine Does.of_body Try.func87 rfl rfl (by simp) Try.call87 (fun w0 O0 => ?_); refine .seq ?_; refine .region ?_; refine .semM (OpSem.alloc 4 rfl zc28 rfl) rfl rfl (by decide) ?_; refine .semM (OpSem.alloc 5 rfl zc30 rfl) rfl rfl (by decide) ?_; refine .sq ?_; refine .seq ?_; refine .seq ?_; refine .region ?_; refine .m ?_; refine .x (.b blss) ?_; refine .sq ?_; refine .cond rfl (fun c9 => ?_) (fun c9 => ?_)
 ·exfalso; simp at c9; omega
 ·refine .skip ?_; refine .z ?_; refine .m ?_; refine .m ?_; refine .x (OpSem.call0 (fraction_gcd_does n d (by omega) (by omega)) rfl rfl rfl rfl (Les.refl _)) ?_; refine .a ?_; refine .sq ?_; refine .seq ?_; refine PC.start [] ?_; refine .m ?_; refine .m ?_; refine .x (OpSem.bin rfl rfl rfl (bquoT (by omega) (by omega) (by omega))) ?_; refine .m ?_; refine .m ?_; refine .x (OpSem.bin rfl rfl rfl (bquoT (by omega) (by omega) (by omega))) ?_; refine .x (OpSem.build rfl rfl pl28 zc28 rfl rfl) ?_; refine .semM (OpSem.alloc 7 rfl zc28 rfl) rfl rfl ?_; refine .d1 7 (.box [I (0), I (0)]) mixed ?_; refine .sb vs28 ?_; refine .sq ?_; refine .seq ?_; refine .seq ?_; refine .region ?_; refine .x (OpSem.loadbN rfl rfl rfl vs28 (by first | decide | simp)) ?_; refine .x (OpSem.call0 (fraction_Validate_does (lowF n d) z0 z1 z2 z3 z4) rfl rfl rfl rfl (Les.refl _)) ?_; refine .x (OpSem.build rfl rfl pl30 zc30 rfl rfl) ?_; refine .x (OpSem.neS2 rfl rfl rfl io30) ?_; refine .sq ?_; refine .cond rfl (fun c27 => ?_) (fun c27 => ?_)
  ·exfalso; simp at c27
  ·refine .skip ?_; refine .z ?_; refine .x (OpSem.loadbN rfl rfl rfl vs28 (by first | decide | simp)) ?_; refine .x (OpSem.build rfl rfl pl30 zc30 rfl rfl) ?_; refine .sb vs28 ?_; refine .sb vs30 ?_; refine .sq ?_; refine .ret ?_; exact .ret rfl (.cellN rfl rfl vs28 <| .cellN rfl rfl vs30 <| .nil) rfl (.refl _)

theorem fraction_Make_does (n d : Int) (h0 : -1000000000 ≤ n) (h1 : n ≤ 1000000000) (h2 : 0 < d) (h3 : d ≤ 1000000000) : Does Try.prog false 60 [I (n), I (d)] (.t [flt (lowF n d), flt (0, 0)]) := by
 refine Does.of_body Try.func60 rfl rfl (by simp) Try.call60 (fun w0 O0 => ?_); refine .seq ?_; refine .region ?_; refine .semM (OpSem.alloc 4 rfl zc28 rfl) rfl rfl (by decide) ?_; refine .semM (OpSem.alloc 5 rfl zc30 rfl) rfl rfl (by decide) ?_; refine .sq ?_; refine .seq ?_; refine .block ?_; refine .seq ?_; refine .region ?_; refine .m ?_; refine .x (.b blss) ?_; refine .m ?_; refine .split (n := 9) rfl (fun c9 => ?_) (fun c9 => ?_)
 ·exfalso; simp at c9; omega
 ·refine .ht c9 ?_; refine .m ?_; refine .ht c9 ?_; refine .x (.b bgtr) ?_; refine .x (OpSem.pickF rfl rfl c9 rfl) ?_; refine .a ?_; refine .sq ?_; refine .cond rfl (fun c6 => ?_) (fun c6 => ?_)
  ·exfalso; simp at c6; omega
  ·refine .seq ?_; refine .region ?_; refine .m ?_; refine .x (.b blss) ?_; refine .m ?_; refine .split (n := 18) rfl (fun c18 => ?_) (fun c18 => ?_)
   ·exfalso; simp at c18; omega
   ·refine .ht c18 ?_; refine .m ?_; refine .ht c18 ?_; refine .x (.b bgtr) ?_; refine .x (OpSem.pickF rfl rfl c18 rfl) ?_; refine .m ?_; refine .split (n := 22) rfl (fun c22 => ?_) (fun c22 => ?_)
    ·exfalso; simp at c22; omega
    ·refine .ht c22 ?_; refine .m ?_; refine .ht c22 ?_; refine .x (.b beql) ?_; refine .x (OpSem.pickF rfl rfl c22 rfl) ?_; refine .a ?_; refine .sq ?_; refine .cond rfl (fun c15 => ?_) (fun c15 => ?_)
     ·exfalso; simp at c15; omega
     ·refine .skip ?_; refine .block_normal ?_; refine .z ?_; refine .m ?_; refine .m ?_; refine .x (OpSem.call0 (fraction_reduce_does n d h0 h1 h2 h3) rfl rfl rfl rfl (Les.refl _)) ?_; refine .x (OpSem.extract rfl rfl rfl) ?_; refine .x (OpSem.extract rfl rfl rfl) ?_; refine .sb vs28 ?_; refine .sb vs30 ?_; refine .sq ?_; refine .ret ?_; exact .ret rfl (.cellN rfl rfl vs28 <| .cellN rfl rfl vs30 <| .nil) rfl (.refl _)

end Go.Proofs.Ytlidcpmdgceboaa
end

section
/- The first tableau of a linear program. -/


namespace Go.Eng
section
variable {P : Program} {B : Nat} {o : Oper} {e : Env} {M : Mem}
/-- copy(x, y), where y may be empty. -/
theorem OpSt.copyX {t1 t2 T h : Nat} {x y : Operand} {rows src : List (List D)} (ho : o.op = .call { callee := .builtin .copy, args := #[x, y], argTypes := #[t1, t2] }) (hx : opS e x = some (.o h)) (hy : opS e y = some (.d (.s 1 src)))
    (hk : esz P t1 = some 1) (hone : ∀ r, r ∈ src → r.all D.one = true) (h1 : 0 < rows.length) (h2 : src.length ≤ rows.length) :
    OpSt P B o e h (.own 1 T rows) (.own 1 T (src ++ rows.drop src.length)) (.d (.v (.int .i64 src.length))) := by
  rcases Nat.eq_zero_or_pos src.length with h0 | h0
  · have hs : src = [] := List.eq_nil_of_length_eq_zero h0
    subst hs
    intro O H a w hBw hsl hm K hK
    have hx' := hsl x (by simp [ho, Op.operands, Call.operands]) _ hx
    have hy' := hsl y (by simp [ho, Op.operands, Call.operands]) _ hy
    obtain ⟨b, cap, xs, g1, g2, g3, g4, g5, g6, g7, g8, g9⟩ := hm.ownSome h1
    generalize hv : a.eval x = v at hx'
    generalize hu : a.eval y = u at hy'
    cases hx' with
    | o h h1' =>
      cases hy' with
      | d _ _ hy' =>
        obtain ⟨ad, c, rfl, hcm⟩ := hy'.slice
        obtain ⟨e1, i, hi1, hi2⟩ := esz_spec hk
        have hrun := run_copy_none (P := P) w t1 t2 o.type (P.elem t1) (some ⟨b, 0, none⟩) ad rows.length cap 0 c e1 (by rw [hi1]; simp [hi2]) (by simp)
        have hex : (execOp a.eval o).run P w = .ok (.value (goInt 0)) w := by rw [g1] at hv; simp [execOp, ho, resolve, invoke, builtin, hv, hu, hrun]
        unfold Oper.wp
        rw [hex]
        exact hK w _ (.refl _ _ _ _ _) (.refl _ _) (by simpa using hm) (by unfold goInt; exact .d _ _ (.v _))
  · exact OpSt.copyO ho hx hy hk hone h0 h2
end
def ntW (p : LPr) : Nat := p.obj.length + p.rws.length + 2
def ntRow (p : LPr) (i : Nat) : List Int := (List.range (ntW p)).map fun (j : Nat) => if j < p.obj.length then nth (nth p.rws i) j else if j = p.obj.length + i then 1 else if j = p.obj.length + p.rws.length then -1 else if j = p.obj.length + p.rws.length + 1 then nth p.bnd i else 0
def ntGo (p : LPr) (k : Nat) : List Int := (List.range (ntW p)).map fun (j : Nat) => if j < k then -(nth p.obj j) else 0
def ntGoal (p : LPr) : List Int := ntGo p p.obj.length
def ntArt (p : LPr) : List Int := (List.range (ntW p)).map fun (j : Nat) => if j = p.obj.length + p.rws.length then 1 else 0
def ntR (p : LPr) (i : Nat) : List Int := if i < p.rws.length then ntRow p i else if i = p.rws.length then ntGoal p else ntArt p
def ntBs (p : LPr) (k : Nat) : List Int := (List.range k).map fun (i : Nat) => ((p.obj.length + i : Nat) : Int)
def newTab (p : LPr) : Tb := ⟨(List.range (p.rws.length + 2)).map (ntR p), ntBs p p.rws.length, 1⟩
section
variable {p : LPr} {i k : Nat}
theorem ntRow_len : (ntRow p i).length = ntW p := by simp [ntRow]
theorem ntGo_len : (ntGo p k).length = ntW p := by simp [ntGo]
theorem ntArt_len : (ntArt p).length = ntW p := by simp [ntArt]
theorem ntR_len : (ntR p i).length = ntW p := by unfold ntR; split; exact ntRow_len; split; exact ntGo_len; exact ntArt_len
theorem ntBs_s : ntBs p (k + 1) = ntBs p k ++ [((p.obj.length + k : Nat) : Int)] := by simp [ntBs, List.range_succ]
theorem ntBs_len : (ntBs p k).length = k := by simp [ntBs]
theorem ntGo_0 : ntGo p 0 = List.replicate (ntW p) 0 := by
  apply List.ext_getElem (by simp [ntGo])
  intro i h1 h2; simp [ntGo]
theorem ntGo_s (hk : k < ntW p) : (ntGo p k).set k (-(nth p.obj k)) = ntGo p (k + 1) := by
  apply List.ext_getElem (by simp [ntGo])
  intro j h1 h2
  rw [List.getElem_set]
  simp only [ntGo, List.getElem_map, List.getElem_range]
  by_cases hj : k = j
  · subst hj; simp
  · rw [if_neg hj]
    by_cases h : j < k
    · rw [if_pos h, if_pos (by omega)]
    · rw [if_neg h, if_neg (by omega)]
theorem ntArt_s : (List.replicate (ntW p) (0 : Int)).set (p.obj.length + p.rws.length) 1 = ntArt p := by
  apply List.ext_getElem (by simp [ntArt])
  intro j h1 h2
  rw [List.getElem_set]
  simp only [ntArt, List.getElem_map, List.getElem_range, List.getElem_replicate]
  by_cases hj : p.obj.length + p.rws.length = j
  · rw [if_pos hj, if_pos hj.symm]
  · rw [if_neg hj, if_neg (fun e => hj e.symm)]
theorem ntRow_s (hi : i < p.rws.length) (hw : (nth p.rws i).length = p.obj.length) : (((nth p.rws i ++ List.replicate (p.rws.length + 2) (0 : Int)).set (p.obj.length + i) 1).set (p.obj.length + p.rws.length) (-1)).set (p.obj.length + p.rws.length + 1) (nth p.bnd i) = ntRow p i := by
  apply List.ext_getElem (by simp [ntRow, ntW]; omega)
  intro j h1 h2
  simp only [List.getElem_set]
  simp only [ntRow, List.getElem_map, List.getElem_range]
  by_cases h3 : p.obj.length + p.rws.length + 1 = j
  · rw [if_pos h3, if_neg (by omega), if_neg (by omega), if_neg (by omega), if_pos h3.symm]
  · rw [if_neg h3]
    by_cases h4 : p.obj.length + p.rws.length = j
    · rw [if_pos h4, if_neg (by omega), if_neg (by omega), if_pos h4.symm]
    · rw [if_neg h4]
      by_cases h5 : p.obj.length + i = j
      · rw [if_pos h5, if_neg (by omega), if_pos h5.symm]
      · rw [if_neg h5]
        by_cases h6 : j < p.obj.length
        · rw [if_pos h6, List.getElem_append_left (by omega)]; exact (nth_eq (by omega)).symm
        · rw [if_neg h6, if_neg (fun e => h5 e.symm), if_neg (fun e => h4 e.symm), if_neg (fun e => h3 e.symm), List.getElem_append_right (by omega), List.getElem_replicate]
end
/-! ### Where its rows lie -/
abbrev Blk := Nat × Nat × List Value
def rhd (w : Nat) (L : List Blk) : List Value := L.map fun x => slc x.1 w x.2.1
noncomputable def rowF (T : Nat) (f : Nat → List Int) (L : List Blk) : PF := fun b => if b ∈ L.map (·.1) then some (T, iv (f ((L.map (·.1)).idxOf b)) ++ (L.map (·.2.2)).getD ((L.map (·.1)).idxOf b) []) else none
theorem rowF_0 {T : Nat} {f : Nat → List Int} : rowF T f [] = noF := by funext b; simp [rowF]
theorem rowF_none {T : Nat} {f : Nat → List Int} {L : List Blk} {b : Nat} (h : rowF T f L b = none) : b ∉ L.map (·.1) := fun hm => by unfold rowF at h; rw [if_pos hm] at h; cases h
theorem rowF_s {T : Nat} {f : Nat → List Int} {L : List Blk} {b cap : Nat} {tl : List Value} (h : rowF T f L b = none) : updF (rowF T f L) b T (iv (f L.length) ++ tl) = rowF T f (L ++ [(b, cap, tl)]) := by
  have hn := rowF_none h
  funext c
  unfold updF rowF
  simp only [List.map_append, List.map_cons, List.map_nil, List.mem_append, List.mem_singleton]
  by_cases hc : c = b
  · subst hc
    rw [if_pos rfl, if_pos (.inr rfl), List.idxOf_append, if_neg hn]
    simp
  · rw [if_neg hc]
    by_cases hm : c ∈ L.map (·.1)
    · rw [if_pos hm, if_pos (.inl hm), List.idxOf_append, if_pos hm]
      have hlt : (L.map (·.1)).idxOf c < L.length := by have := List.idxOf_lt_length_iff.2 hm; simpa using this
      congr 3
      simp only [List.getD_eq_getElem?_getD]
      rw [List.getElem?_append_left (by simpa using hlt)]
    · rw [if_neg hm, if_neg (fun h => h.elim hm hc)]
theorem nd_snoc {L : List Nat} {b : Nat} (h : L.Nodup) (hb : b ∉ L) : (L ++ [b]).Nodup := by
  rw [List.nodup_append]
  exact ⟨h, by simp, fun x hx y hy => by simp at hy; subst hy; exact fun e => hb (e ▸ hx)⟩

theorem rhd_s {w : Nat} {L : List Blk} {x : Blk} : rhd w (L ++ [x]) = rhd w L ++ [slc x.1 w x.2.1] := by simp [rhd]
theorem pin_r {p : LPr} {T k b cap : Nat} {L : List Blk} {tl : List Value} (hk : k < p.rws.length) (hL : L.length = k) (hF : rowF T (ntR p) L b = none) : updF (rowF T (ntR p) L) b T (iv (ntRow p k) ++ tl) = rowF T (ntR p) (L ++ [(b, cap, tl)]) := by
  have : ntRow p k = ntR p L.length := by unfold ntR; rw [if_pos (by omega), hL]
  rw [this]; exact rowF_s hF
theorem pin_g {p : LPr} {T b cap : Nat} {L : List Blk} {tl : List Value} (hL : L.length = p.rws.length) (hF : rowF T (ntR p) L b = none) : updF (rowF T (ntR p) L) b T (iv (ntGoal p) ++ tl) = rowF T (ntR p) (L ++ [(b, cap, tl)]) := by
  have : ntGoal p = ntR p L.length := by unfold ntR; rw [if_neg (by omega), if_pos (by omega)]
  rw [this]; exact rowF_s hF
theorem pin_a {p : LPr} {T b cap : Nat} {L : List Blk} {tl : List Value} (hL : L.length = p.rws.length + 1) (hF : rowF T (ntR p) L b = none) : updF (rowF T (ntR p) L) b T (iv (ntArt p) ++ tl) = rowF T (ntR p) (L ++ [(b, cap, tl)]) := by
  have : ntArt p = ntR p L.length := by unfold ntR; rw [if_neg (by omega), if_neg (by omega)]
  rw [this]; exact rowF_s hF
theorem nt_caps {p : LPr} {l : List Int} {b cap : Nat} {L : List Blk} {tl : List Value} (h : ∀ x, x ∈ L → ntW p ≤ x.2.1 ∧ x.2.1 ≤ maxLen) (hl : l.length = ntW p) (h1 : (iv l).length ≤ cap) (h2 : cap ≤ maxLen) : ∀ x, x ∈ L ++ [(b, cap, tl)] → ntW p ≤ x.2.1 ∧ x.2.1 ≤ maxLen := by
  intro x hx
  rcases List.mem_append.1 hx with hx | hx
  · exact h x hx
  · simp at hx; subst hx; simp only [iv, List.length_map] at h1; exact ⟨by simp only []; omega, h2⟩
section
variable {P : Program} {N : Nat} {w0 : World} {O0 : Nat → Nat} {ops : Array Oper} {Q : Post} {e : Env} {M : Mem} {rest : List Oper}
/-- What a handle owns, by another name. -/
theorem TrOps.memEq {h : Nat} {m m' : Mo} (hM : look M h = some m) (he : m = m') (hn : TrOps P N w0 O0 ops Q e ((h, m') :: M) rest) : TrOps P N w0 O0 ops Q e M rest := by
  subst he
  exact fun O H a w hst => hn O H a w (hst.memSet (hst.mem _ _ hM))
theorem Tr.memEq {c : Code} {h : Nat} {m m' : Mo} (hM : look M h = some m) (he : m = m') (hn : Tr P N w0 O0 e ((h, m') :: M) c Q) : Tr P N w0 O0 e M c Q := by
  subst he
  exact fun O H a w hst => hn O H a w (hst.memSet (hst.mem _ _ hM))
end
theorem nt_i1 {a b : Nat} : ((a : Int) + (b : Int)).toNat = a + b := by omega
theorem nt_i3 {a b : Nat} : ((a : Int) + (b : Int) + 1).toNat = a + b + 1 := by omega
theorem nt_dr {a b : Nat} : ((a : Int) + (b : Int) + 2).toNat - a = b + 2 := by omega
/-- What newTableau hands over. -/
def NewR (p : LPr) (F : PF) (v : Value) : Prop := ∃ g, TabOk g (newTab p) ∧ g.w = ntW p ∧ F = tabF g (newTab p) ∧ v = ptr g.s 0
theorem new_fin {p : LPr} (hp : LpOk p) {L : List Blk} (hl : L.length = p.rws.length + 2) (hn : (L.map (·.1)).Nodup) (hcc : ∀ x, x ∈ L → ntW p ≤ x.2.1 ∧ x.2.1 ≤ maxLen) {TI TR Tt r rc : Nat} {rt : List Value} {F1 F2 F3 : PF}
    (hr : rowF TI (ntR p) L r = none) (hrc : (rhd (ntW p) L).length ≤ rc ∧ rc ≤ maxLen) (h1 : F1 = updF (rowF TI (ntR p) L) r TR (rhd (ntW p) L ++ rt))
    {a : Option Addr} {bb bc : Nat} {bt : List Value} (hbc : (iv (ntBs p p.rws.length)).length ≤ bc ∧ bc ≤ maxLen) (hb : (a = none ∧ iv (ntBs p p.rws.length) = [] ∧ F2 = F1) ∨ (a = some ⟨bb, 0, none⟩ ∧ F1 bb = none ∧ F2 = updF F1 bb TI (iv (ntBs p p.rws.length) ++ bt)))
    {s : Nat} (hs : F2 s = none) (h3 : F3 = updF F2 s Tt [slc r (rhd (ntW p) L).length rc, .slice a (iv (ntBs p p.rws.length)).length bc, .int .i64 1]) : NewR p F3 (ptr s 0) := by
  have hr6 := hp.r6
  have ho6 := hp.o6
  have hrn := rowF_none hr
  have hrl : (rhd (ntW p) L).length = p.rws.length + 2 := by simp [rhd, hl]
  have hbl : (iv (ntBs p p.rws.length)).length = p.rws.length := by simp [iv, ntBs_len]
  have hml : (6 : Nat) + 2 ≤ maxLen := by simp [maxLen]
  -- where nothing lies
  have hsr : s ≠ r := fun e => by
    subst e
    have hF1 : F1 s ≠ none := by rw [h1]; simp [updF]
    rcases hb with ⟨_, _, rfl⟩ | ⟨_, hb0, rfl⟩
    · exact hF1 hs
    · unfold updF at hs; split at hs; cases hs; exact hF1 hs
  have hF1L : ∀ c, c ∈ L.map (·.1) → F1 c ≠ none := fun c hc => by
    rw [h1]; unfold updF rowF; split
    · simp
    · simp [hc]
  have hsL : s ∉ L.map (·.1) := fun hm => by
    rcases hb with ⟨_, _, rfl⟩ | ⟨_, hb0, rfl⟩
    · exact hF1L s hm hs
    · unfold updF at hs; split at hs; cases hs; exact hF1L s hm hs
  -- the basis' block, or s itself
  obtain ⟨bb', hbb'⟩ : ∃ bb', bb' = if a = none then s else bb := ⟨_, rfl⟩
  have hbb1 : bb' ∉ L.map (·.1) ∧ bb' ≠ r := by
    rcases hb with ⟨rfl, _, _⟩ | ⟨rfl, hb0, _⟩
    · rw [hbb', if_pos rfl]; exact ⟨hsL, hsr⟩
    · rw [hbb', if_neg (by simp)]
      exact ⟨fun hm => hF1L bb hm hb0, fun e => by subst e; rw [h1] at hb0; simp [updF] at hb0⟩
  refine ⟨⟨s, r, rc, rt, a, bb', bc, bt, L.map (·.1), L.map (·.2.1), L.map (·.2.2), ntW p, Tt, TR, TI⟩, ?_, rfl, ?_, rfl⟩
  · refine ⟨fun e => hsr e.symm, hn, hsL, hrn, hbb1.1, hbb1.2, fun hbs => ?_, by simp [newTab, hl], fun i hi => ?_, by simp [newTab, hrl] at hrc ⊢; exact hrc, by simp [newTab, ntBs_len, hbl] at hbc ⊢; exact hbc, fun i hi => ?_, by simp only [ntW]; omega, by simp [newTab]; omega, by simp [newTab, ntBs_len]; omega⟩
    · rcases hb with ⟨_, h0, _⟩ | ⟨rfl, hb0, rfl⟩
      · exfalso; apply hbs
        have : (ntBs p p.rws.length).length = 0 := by have := congrArg List.length h0; rw [hbl] at this; rw [ntBs_len]; simpa using this
        exact List.eq_nil_of_length_eq_zero this
      · rw [hbb', if_neg (by simp)]
        refine ⟨rfl, fun e => ?_⟩
        simp only [] at e
        subst e
        simp [updF] at hs
    · have hi' : i < p.rws.length + 2 := by simpa [newTab] using hi
      unfold newTab
      rw [nth_rangeMap hi']
      exact ntR_len
    · have hi' : i < L.length := by rw [hl]; simpa [newTab] using hi
      have : rck ⟨s, r, rc, rt, a, bb', bc, bt, L.map (·.1), L.map (·.2.1), L.map (·.2.2), ntW p, Tt, TR, TI⟩ i = (L[i]).2.1 := by simp [rck, hi']
      rw [this]; exact hcc _ (List.getElem_mem _)
  · rw [h3]
    funext c
    unfold updF tabF
    by_cases hcs : c = s
    · subst hcs
      rw [if_pos rfl, if_pos rfl]
      simp [newTab, hrl, hbl, ntBs_len]
    · rw [if_neg hcs]
      simp only [hcs, if_false]
      have hF1r : F1 r = some (TR, rhd (ntW p) L ++ rt) := by rw [h1]; simp [updF]
      by_cases hcr : c = r
      · subst hcr
        rw [if_pos rfl]
        have hF2 : F2 c = F1 c := by
          rcases hb with ⟨_, _, rfl⟩ | ⟨_, hb0, rfl⟩
          · rfl
          · unfold updF; rw [if_neg (fun e => by rw [e, hb0] at hF1r; cases hF1r)]
        rw [hF2, hF1r]
        congr 3
        refine List.ext_getElem (by simp [rhd]) fun i h1 h2 => ?_
        have hi : i < L.length := by simpa [rhd] using h1
        simp [rhd, rbk, rck, hi]
      · rw [if_neg hcr]
        by_cases hcb : c = bb'
        · rw [if_pos hcb]
          rcases hb with ⟨rfl, _, _⟩ | ⟨rfl, hb0, rfl⟩
          · rw [hbb', if_pos rfl] at hcb; exact absurd hcb hcs
          · rw [hbb', if_neg (by simp)] at hcb
            subst hcb
            simp [updF, newTab]
        · rw [if_neg hcb]
          have hF2 : F2 c = F1 c := by
            rcases hb with ⟨_, _, rfl⟩ | ⟨rfl, hb0, rfl⟩
            · rfl
            · rw [hbb', if_neg (by simp)] at hcb
              unfold updF; rw [if_neg hcb]
          rw [hF2, h1]
          unfold updF
          rw [if_neg hcr]
          unfold rowF
          by_cases hm : c ∈ L.map (·.1)
          · have hlt : (L.map (·.1)).idxOf c < L.length := by have := List.idxOf_lt_length_iff.2 hm; simpa using this
            simp only [hm, if_true]
            unfold newTab
            rw [nth_rangeMap (by omega)]
            rfl
          · simp only [hm, if_false]
end Go.Eng
end
