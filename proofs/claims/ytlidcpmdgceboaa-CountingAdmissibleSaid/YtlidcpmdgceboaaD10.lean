/- The engine and the walks that this claim uses, part 10. Written by prune.py out of our own texts. -/
import Derived.Test.YtlidcpmdgceboaaD9
import Derived.ProofKit
import Derived.OpenShut
import Derived.ChangeOld
import Derived.Below
import Derived.Deep.Slices
section
/- Walks, written by gen.py out of hints. -/



set_option linter.unusedVariables false
set_option linter.unusedSimpArgs false
namespace Go.Proofs.Ytlidcpmdgceboaa
open Go.Eng
set_option maxRecDepth 10000
set_option maxHeartbeats 1000000

theorem R_Word_does (s : List Int) (hr : ∀ i : Nat, i < s.length → 0 ≤ nth s i ∧ nth s i < 9) (hl : s.length ≤ 1000) : Does Try.prog false 74 [.d (ints s)] (I (wrdS s)) := by
 refine Does.of_body Try.func74 rfl rfl (by simp) Try.call74 (fun w0 O0 => ?_); refine .lenLe (n := 0) rfl (fun len0 => ?_); refine .seq ?_; refine .region ?_; refine .a ?_; refine .z ?_; refine .a ?_; refine .sq ?_; refine .seq ?_; refine .seq ?_; refine .region ?_; refine .a ?_; refine .sq ?_; refine .block ?_; refine .loop (X := Nat) (fun k => k ≤ s.length) (fun k => [(0, .d (ints s)), (3, I (wrdTo s k)), (4, I (k))]) (fun k => []) (fun k => s.length - k) 0 (by omega) ?_ ?_
 ·exact .slot rfl (.refl _) <| .slot rfl (Le.of_eq rfl) <| .slot rfl (Le.of_eq (by simp)) <| .nil
 ·rintro k hkl
  refine .seq ?_; refine .seq ?_; refine .region ?_; refine .m ?_; refine .m ?_; refine .x (OpSem.lenL rfl rfl es22) ?_; refine .x (.b blss) ?_; refine .sq ?_; refine .cond rfl (fun c8 => ?_) (fun c8 => ?_)
  ·have hk : k < s.length := by simpa using c8
   have hrk := hr k hk
   have hw := wrd_in hr hkl
   have hw2 := wrd_in hr (k := k + 1) hk
   rw [wrd_s] at hw2
   have hpw : (0 : Int) ≤ ((2 ^ (nth s k).toNat : Nat) : Int) := Int.natCast_nonneg _
   refine .skip ?_; refine .seq ?_; refine .seq ?_; refine .block ?_; refine .region ?_; refine .m ?_; refine .m ?_; refine .m ?_; refine .x (OpSem.idxL rfl rfl rfl es22 (by omega) (by omega)) ?_; refine .x (OpSem.load1 rfl rfl vs3 rfl) ?_; refine .x (OpSem.conv rfl rfl cv3_124 (wrap_u64 (by omega) (by omega))) ?_; refine .x (OpSem.binK rfl rfl rfl (bshl1 (yk := .u64) (n := nth s k) (by omega) (by omega))) ?_; refine .x .ad ?_; refine .a ?_; refine .nil ?_; refine .block_normal ?_; refine .y ?_; refine .m ?_; refine .x .ad ?_; refine .a ?_; refine .nil ?_; refine .again (k + 1) (by omega) ?_ (by omega); exact .slot rfl (.refl _) <| .slot rfl (Le.i (by rw [wrd_s])) <| .slot rfl (Le.of_eq (by simp)) <| .nil
  ·have hk : k = s.length := by simp at c8; omega
   subst hk
   refine .exit ?_; refine .pass_exit ?_; refine .pass_exit ?_; refine .block_same ?_; refine .z ?_; refine .m ?_; refine .a ?_; refine .sq ?_; refine .ret ?_; exact .ret rfl (.tmp rfl <| .nil) rfl (Le.of_eq rfl)

theorem R_Applies_does (t : Tsk) (s : List Int) (n : Nat) (hn : n < t.ops.length) : Does Try.prog false 75 [tskS t, .d (ints s), I ((n : Int))] (Bo (decide (canS t s n))) := by
 refine Does.of_body Try.func75 rfl rfl (by simp) Try.call75 (fun w0 O0 => ?_); refine .lenG (n := 0) (i := 1) rfl rfl (fun len0_1 => ?_); refine .lenG (n := 0) (i := 2) rfl rfl (fun len0_2 => ?_); refine .lenG (n := 0) (i := 3) rfl rfl (fun len0_3 => ?_); refine .lenLe (n := 1) rfl (fun len1 => ?_); refine .seq ?_; refine .region ?_; refine .semM (OpSem.box 3 rfl rfl rfl rfl) rfl rfl (by decide) ?_; refine .a ?_; refine .z ?_; refine .x (.f fo25_3) ?_; refine .x (.l vs23) ?_; refine .m ?_; refine .x (OpSem.idxL rfl rfl rfl es23 (by omega) (by omega)) ?_; refine .x (OpSem.fieldp rfl rfl fo35_0) ?_; refine .x (OpSem.load1 rfl rfl vs22 rfl) ?_; refine .m ?_; refine .x (OpSem.call0 (R_Subset_does (nth t.ops (n : Int)).pre s) rfl rfl rfl rfl (Les.refl _)) ?_; refine .a ?_; refine .sq ?_; refine .ret ?_; exact .ret rfl (.tmp rfl <| .nil) rfl (Le.refl _)

theorem R_After_does (t : Tsk) (s : List Int) (n : Nat) (hn : n < t.ops.length) (hf : 0 ≤ t.facts ∧ t.facts ≤ 24) : DoesO Try.prog 76 [tskS t, .d (ints s), I ((n : Int))] 1 3 (((afS t s n).map fun n => [D.v (.int .i64 n)])) := by
 refine DoesO.of_body Try.func76 rfl rfl (by simp) Try.call76 (fun w0 O0 => ?_); refine .lenG (n := 0) (i := 1) rfl rfl (fun len0_1 => ?_); refine .lenG (n := 0) (i := 2) rfl rfl (fun len0_2 => ?_); refine .lenG (n := 0) (i := 3) rfl rfl (fun len0_3 => ?_); refine .lenLe (n := 1) rfl (fun len1 => ?_); refine .seq ?_; refine .region ?_; refine .semM (OpSem.box 3 rfl rfl rfl rfl) rfl rfl (by decide) ?_; refine .a ?_; refine .z ?_; refine .a ?_; refine .sq ?_; refine .seq ?_; refine .seq ?_; refine .ownNil (n := 7) 7 1 3 rfl ?_; refine .region ?_; refine .a ?_; refine .sq ?_; refine .block ?_; refine .loop (X := Nat) (fun k => k ≤ t.facts.toNat) (fun k => [(1, .d (ints s)), (2, I ((n : Int))), (3, .r 3 0), (7, .o 7), (8, I (k))]) (fun k => [(7, .own 1 3 ((afTo t s n k).map fun n => [D.v (.int .i64 n)])), (3, .box [I (t.facts), .d (ints t.ini), .d (ints t.goal), .d (sopsD t.ops)])]) (fun k => t.facts.toNat - k) 0 (by omega) ?_ ?_
 ·exact .slot rfl (.refl _) <| .slot rfl (.refl _) <| .slot rfl (.refl _) <| .slot rfl (.refl _) <| .slot rfl (Le.of_eq (by simp)) <| .memEq rfl (by simp [afTo]) <| .mem rfl <| .nil
 ·rintro k hkl
  refine .seq ?_; refine .seq ?_; refine .region ?_; refine .m ?_; refine .x (.f fo25_0) ?_; refine .x (.l vs3) ?_; refine .x (.b blss) ?_; refine .sq ?_; refine .cond rfl (fun c12 => ?_) (fun c12 => ?_)
  ·have hk : k < t.facts.toNat := by simp at c12; omega
   have haf := pw_lt_len (n := t.facts) (x := 0) (af_lt (t := t) (s := s) (i := n) (k := k)) (fun y hy => by have := af_mem.1 hy; omega)
   refine .skip ?_; refine .seq ?_; refine .seq ?_; refine .block ?_; refine .seq ?_; refine .region ?_; refine .x (.f fo25_3) ?_; refine .x (.l vs23) ?_; refine .m ?_; refine .x (OpSem.idxL rfl rfl rfl es23 (by omega) (by omega)) ?_; refine .x (OpSem.fieldp rfl rfl fo35_1) ?_; refine .x (OpSem.load1 rfl rfl vs22 rfl) ?_; refine .m ?_; refine .x (OpSem.call0 (R_Has_does (nth t.ops (n : Int)).add (k : Int)) rfl rfl rfl rfl (Les.refl _)) ?_; refine .m ?_; refine .split (n := 23) rfl (fun c23 => ?_) (fun c23 => ?_)
   ·have hb : afP t s n k := .inl (of_decide_eq_true c23)
    refine .hf c23 ?_; refine .hf c23 ?_; refine .hf c23 ?_; refine .hf c23 ?_; refine .gu ?_; refine .gu ?_; refine .gu ?_; refine .gu ?_; refine .gu ?_; refine .gu ?_; refine .gu ?_; refine .gu ?_; refine .gu ?_; refine .hf c23 ?_; refine .x (OpSem.pickT rfl rfl c23 rfl) ?_; refine .sq ?_; refine .condT rfl rfl ?_; refine .region ?_; refine .m ?_; refine .m ?_; refine .x (.bs es22 ze22) ?_; refine .ap es22 el22 zc3 by3 ?_; refine .a ?_; refine .nil ?_; refine .block_normal ?_; refine .y ?_; refine .m ?_; refine .x .ad ?_; refine .a ?_; refine .nil ?_; refine .again (k + 1) (by omega) ?_ (by omega); exact .slot rfl (.refl _) <| .slot rfl (.refl _) <| .slot rfl (.refl _) <| .slot rfl (.refl _) <| .slot rfl (Le.of_eq (by simp)) <| .memEq rfl (by first | (rw [af_t hb]; simp) | (rw [af_f hb])) <| .mem rfl <| .nil
   ·have ha : (k : Int) ∉ (nth t.ops (n : Int)).add := of_decide_eq_false c23
    refine .ht c23 ?_; refine .m ?_; refine .ht c23 ?_; refine .m ?_; refine .ht c23 ?_; refine .x (OpSem.call0 (R_Has_does s (k : Int)) rfl rfl rfl rfl (Les.refl _)) ?_; refine .ht c23 ?_; refine .m ?_; refine .split (n := 27) rfl (fun c27 => ?_) (fun c27 => ?_)
    ·have hs : (k : Int) ∈ s := of_decide_eq_true c27
     refine .gt c27 ?_; refine .x (.f fo25_3) ?_; refine .gt c27 ?_; refine .x (.l vs23) ?_; refine .gt c27 ?_; refine .m ?_; refine .gt c27 ?_; refine .x (OpSem.idxL rfl rfl rfl es23 (by omega) (by omega)) ?_; refine .gt c27 ?_; refine .x (OpSem.fieldp rfl rfl fo35_2) ?_; refine .gt c27 ?_; refine .x (OpSem.load1 rfl rfl vs22 rfl) ?_; refine .gt c27 ?_; refine .m ?_; refine .gt c27 ?_; refine .x (OpSem.call0 (R_Has_does (nth t.ops (n : Int)).del (k : Int)) rfl rfl rfl rfl (Les.refl _)) ?_; refine .gt c27 ?_; refine .x (OpSem.not rfl rfl) ?_; refine .ht c23 ?_; refine .x (OpSem.pickT rfl rfl c27 rfl) ?_; refine .x (OpSem.pickF rfl rfl c23 rfl) ?_; refine .sq ?_; refine .cond rfl (fun c38 => ?_) (fun c38 => ?_)
     ·have hb : afP t s n k := .inr ⟨hs, by simpa using c38⟩
      refine .region ?_; refine .m ?_; refine .m ?_; refine .x (.bs es22 ze22) ?_; refine .ap es22 el22 zc3 by3 ?_; refine .a ?_; refine .nil ?_; refine .block_normal ?_; refine .y ?_; refine .m ?_; refine .x .ad ?_; refine .a ?_; refine .nil ?_; refine .again (k + 1) (by omega) ?_ (by omega); exact .slot rfl (.refl _) <| .slot rfl (.refl _) <| .slot rfl (.refl _) <| .slot rfl (.refl _) <| .slot rfl (Le.of_eq (by simp)) <| .memEq rfl (by first | (rw [af_t hb]; simp) | (rw [af_f hb])) <| .mem rfl <| .nil
     ·have hb : ¬ afP t s n k := fun h => h.elim ha (fun h => by simp at c38; exact h.2 c38)
      refine .skip ?_; refine .block_normal ?_; refine .y ?_; refine .m ?_; refine .x .ad ?_; refine .a ?_; refine .nil ?_; refine .again (k + 1) (by omega) ?_ (by omega); exact .slot rfl (.refl _) <| .slot rfl (.refl _) <| .slot rfl (.refl _) <| .slot rfl (.refl _) <| .slot rfl (Le.of_eq (by simp)) <| .memEq rfl (by first | (rw [af_t hb]; simp) | (rw [af_f hb])) <| .mem rfl <| .nil
    ·have hb : ¬ afP t s n k := fun h => h.elim ha (fun h => (of_decide_eq_false c27) h.1)
     refine .gf c27 ?_; refine .gf c27 ?_; refine .gf c27 ?_; refine .gf c27 ?_; refine .gf c27 ?_; refine .gf c27 ?_; refine .gf c27 ?_; refine .gf c27 ?_; refine .gf c27 ?_; refine .ht c23 ?_; refine .x (OpSem.pickF rfl rfl c27 rfl) ?_; refine .x (OpSem.pickF rfl rfl c23 rfl) ?_; refine .sq ?_; refine .condF rfl rfl ?_; refine .skip ?_; refine .block_normal ?_; refine .y ?_; refine .m ?_; refine .x .ad ?_; refine .a ?_; refine .nil ?_; refine .again (k + 1) (by omega) ?_ (by omega); exact .slot rfl (.refl _) <| .slot rfl (.refl _) <| .slot rfl (.refl _) <| .slot rfl (.refl _) <| .slot rfl (Le.of_eq (by simp)) <| .memEq rfl (by first | (rw [af_t hb]; simp) | (rw [af_f hb])) <| .mem rfl <| .nil
  ·have hk : k = t.facts.toNat := by simp at c12; omega
   subst hk
   refine .exit ?_; refine .pass_exit ?_; refine .pass_exit ?_; refine .block_same ?_; refine .z ?_; refine .m ?_; refine .a ?_; refine .sq ?_; refine .ret ?_; exact .retO2 rfl rfl rfl (by simp) (rfl)

theorem R_ReachedFrom_does (t : Tsk) (s : List Int) (hV : TskV t) (h8 : t.facts ≤ 8) (hs : StP t s) : Does Try.prog false 73 [tskS t, .d (ints s)] (.t [.d (rows (rcF t s).1), Bo (!(rcF t s).2)]) := by
 have hf := hV.facts
 have hsl := hs.len hV
 refine Does.of_body Try.func73 rfl rfl (by simp) Try.call73 (fun w0 O0 => ?_); refine .lenG (n := 0) (i := 1) rfl rfl (fun len0_1 => ?_); refine .lenG (n := 0) (i := 2) rfl rfl (fun len0_2 => ?_); refine .lenG (n := 0) (i := 3) rfl rfl (fun len0_3 => ?_); refine .lenLe (n := 1) rfl (fun len1 => ?_); refine .seq ?_; refine .region ?_; refine .semM (OpSem.box 2 rfl rfl rfl rfl) rfl rfl (by decide) ?_; refine .a ?_; refine .a ?_; refine .z ?_; refine .m ?_; refine .semM (OpSem.buildS 12 rfl rfl es37 ze37 rfl rfl (by decide) (by decide) rfl rfl) rfl rfl (by decide) ?_; refine .a ?_; refine .z ?_; refine .m ?_; refine .x (OpSem.call0 (R_Word_does s (hs.wr h8) (by omega)) rfl rfl rfl rfl (Les.refl _)) ?_; refine .semM (OpSem.buildS 15 rfl rfl es22 ze22 rfl rfl (by decide) (by decide) rfl rfl) rfl rfl (by decide) ?_; refine .a ?_; refine .sq ?_; refine .seq ?_; refine .seq ?_; refine .region ?_; refine .a ?_; refine .sq ?_; refine .block ?_; refine .loop (X := Nat) (fun j => (rcO t s j).2 = false ∧ j ≤ (rcO t s j).1.length) (fun j => [(2, .r 2 0), (6, .o 12), (7, .o 15), (8, I (j))]) (fun j => [(12, .own 1 22 (((rcO t s j).1).map fun r => [ints r])), (15, .own 1 3 (((rcO t s j).1.map wrdS).map fun n => [D.v (.int .i64 n)])), (2, .box [I (t.facts), .d (ints t.ini), .d (ints t.goal), .d (sopsD t.ops)])]) (fun j => 2001 - j) 0 ⟨rfl, by simp [rcO]⟩ ?_ ?_
 ·exact .slot rfl (.refl _) <| .slot rfl (.refl _) <| .slot rfl (.refl _) <| .slot rfl (Le.of_eq (by simp)) <| .memEq rfl rfl <| .memEq rfl rfl <| .mem rfl <| .nil
 ·rintro j ⟨hov, hjl⟩
  refine .seq ?_; refine .seq ?_; refine .region ?_; refine .m ?_; refine .m ?_; refine .x (OpSem.leno rfl rfl rfl es37) ?_; refine .x (.b blss) ?_; refine .sq ?_; refine .cond rfl (fun c19 => ?_) (fun c19 => ?_)
  ·have hj : j < (rcO t s j).1.length := by simpa using c19
   obtain ⟨hQ1, hQ2, hQ3⟩ := (RcP.o hV hs j).hd hov
   refine .skip ?_; refine .seq ?_; refine .seq ?_; refine .block ?_; refine .seq ?_; refine .region ?_; refine .a ?_; refine .sq ?_; refine .block ?_; refine .loop (X := Nat) (fun i => i ≤ t.ops.length ∧ (rcI t (rcO t s j) j i).2 = false ∧ j < (rcI t (rcO t s j) j i).1.length) (fun i => [(2, .r 2 0), (6, .o 12), (7, .o 15), (8, I (j)), (9, I (i))]) (fun i => [(12, .own 1 22 (((rcI t (rcO t s j) j i).1).map fun r => [ints r])), (15, .own 1 3 (((rcI t (rcO t s j) j i).1.map wrdS).map fun n => [D.v (.int .i64 n)])), (2, .box [I (t.facts), .d (ints t.ini), .d (ints t.goal), .d (sopsD t.ops)])]) (fun i => t.ops.length - i) 0 ⟨by omega, hov, hj⟩ ?_ ?_
   ·exact .slot rfl (.refl _) <| .slot rfl (.refl _) <| .slot rfl (.refl _) <| .slot rfl (.refl _) <| .slot rfl (Le.of_eq (by simp)) <| .memEq rfl rfl <| .memEq rfl rfl <| .mem rfl <| .nil
   ·rintro i ⟨hil, hov2, hjl2⟩
    refine .seq ?_; refine .seq ?_; refine .region ?_; refine .m ?_; refine .x (.f fo25_3) ?_; refine .x (.l vs23) ?_; refine .x (OpSem.lenL rfl rfl es23) ?_; refine .x (.b blss) ?_; refine .sq ?_; refine .cond rfl (fun c26 => ?_) (fun c26 => ?_)
    ·have hi : i < t.ops.length := by simpa using c26
     have hP := (RcP.o hV hs j).i hV j i
     obtain ⟨hP1, hP2, hP3⟩ := hP.hd hov2
     have haf := af_st (t := t) (s := (nth (rcI t (rcO t s j) j i).1 j)) (i := i) hV
     have hafl := haf.len hV
     refine .skip ?_; refine .seq ?_; refine .seq ?_; refine .block ?_; refine .seq ?_; refine .seq ?_; refine PC.start [] ?_; refine .x (OpSem.loadbN rfl rfl rfl vs25 (by first | decide | simp)) ?_; refine .m ?_; refine .m ?_; refine .x (OpSem.idxo rfl rfl rfl rfl es37 (by omega) (by simp; omega)) ?_; refine .x (OpSem.loadq rfl rfl rfl vs22 (rows_get (f := fun r => [ints r]) (n := (j : Int)) (by omega) (by omega)) rfl) ?_; refine .m ?_; refine .d0 mixed ?_; refine .x (OpSem.call0 (R_Applies_does t (nth (rcI t (rcO t s j) j i).1 j) i hi) rfl rfl rfl rfl (Les.refl _)) ?_; refine .x (OpSem.not rfl rfl) ?_; refine .sq ?_; refine .cond rfl (fun c36 => ?_) (fun c36 => ?_)
     ·have hc : ¬ canS t (nth (rcI t (rcO t s j) j i).1 j) i := by simpa using c36
      have hst : (rcS t j i (rcI t (rcO t s j) j i)) = (rcI t (rcO t s j) j i) := rc_0 hov2 hc
      have hov3 : (rcS t j i (rcI t (rcO t s j) j i)).2 = false := by rw [hst]; exact hov2
      have hjl3 : j < (rcS t j i (rcI t (rcO t s j) j i)).1.length := by rw [hst]; exact hjl2
      refine .exit ?_; refine .pass_exit ?_; refine .block_same ?_; refine .y ?_; refine .m ?_; refine .x .ad ?_; refine .a ?_; refine .nil ?_; refine .again (i + 1) ⟨by omega, hov3, hjl3⟩ ?_ (by omega); exact .slot rfl (.refl _) <| .slot rfl (.refl _) <| .slot rfl (.refl _) <| .slot rfl (.refl _) <| .slot rfl (Le.of_eq (by simp)) <| .memEq rfl (by rw [show rcI t (rcO t s j) j (i + 1) = (rcS t j i (rcI t (rcO t s j) j i)) from rfl, hst] <;> first | rfl | (simp; done) | (simp; rfl)) <| .memEq rfl (by rw [show rcI t (rcO t s j) j (i + 1) = (rcS t j i (rcI t (rcO t s j) j i)) from rfl, hst] <;> first | rfl | (simp; done) | (simp; rfl)) <| .mem rfl <| .nil
     ·have hc : canS t (nth (rcI t (rcO t s j) j i).1 j) i := by simpa using c36
      refine .skip ?_; refine .seq ?_; refine .seq ?_; refine PC.start [] ?_; refine .x (OpSem.loadbN rfl rfl rfl vs25 (by first | decide | simp)) ?_; refine .m ?_; refine .m ?_; refine .x (OpSem.idxo rfl rfl rfl rfl es37 (by omega) (by simp; omega)) ?_; refine .x (OpSem.loadq rfl rfl rfl vs22 (rows_get (f := fun r => [ints r]) (n := (j : Int)) (by omega) (by omega)) rfl) ?_; refine .m ?_; refine .d0 mixed ?_; refine .x (OpSem.call0 (R_After_does t (nth (rcI t (rcO t s j) j i).1 j) i hi ⟨by omega, by omega⟩).fresh rfl rfl rfl rfl (Les.refl _)) ?_; refine .a ?_; refine .sq ?_; refine .seq ?_; refine .seq ?_; refine .region ?_; refine .m ?_; refine .m ?_; refine .x (OpSem.call0 (R_Word_does (afS t (nth (rcI t (rcO t s j) j i).1 j) i) (haf.wr h8) (by omega)) rfl rfl rfl rfl (Les.refl _)) ?_; refine .x (OpSem.call (R_Has_does ((rcI t (rcO t s j) j i).1.map wrdS) (wrdS (afS t (nth (rcI t (rcO t s j) j i).1 j) i))) (.inr rfl) rfl rfl rfl rfl (Les.refl _)) ?_; refine .sq ?_; refine .cond rfl (fun c47 => ?_) (fun c47 => ?_)
      ·have hst : (rcS t j i (rcI t (rcO t s j) j i)) = (rcI t (rcO t s j) j i) := rc_1 hov2 hc (of_decide_eq_true c47)
       have hov3 : (rcS t j i (rcI t (rcO t s j) j i)).2 = false := by rw [hst]; exact hov2
       have hjl3 : j < (rcS t j i (rcI t (rcO t s j) j i)).1.length := by rw [hst]; exact hjl2
       refine .exit ?_; refine .pass_exit ?_; refine .block_same ?_; refine .y ?_; refine .m ?_; refine .x .ad ?_; refine .a ?_; refine .nil ?_; refine .again (i + 1) ⟨by omega, hov3, hjl3⟩ ?_ (by omega); exact .slot rfl (.refl _) <| .slot rfl (.refl _) <| .slot rfl (.refl _) <| .slot rfl (.refl _) <| .slot rfl (Le.of_eq (by simp)) <| .memEq rfl (by rw [show rcI t (rcO t s j) j (i + 1) = (rcS t j i (rcI t (rcO t s j) j i)) from rfl, hst] <;> first | rfl | (simp; done) | (simp; rfl)) <| .memEq rfl (by rw [show rcI t (rcO t s j) j (i + 1) = (rcS t j i (rcI t (rcO t s j) j i)) from rfl, hst] <;> first | rfl | (simp; done) | (simp; rfl)) <| .mem rfl <| .nil
      ·have hw := of_decide_eq_false c47
       refine .skip ?_; refine .seq ?_; refine .seq ?_; refine .seq ?_; refine .region ?_; refine .m ?_; refine .x (OpSem.leno rfl rfl rfl es37) ?_; refine .x (.b beql) ?_; refine .sq ?_; refine .cond rfl (fun c50 => ?_) (fun c50 => ?_)
       ·have hst : (rcS t j i (rcI t (rcO t s j) j i)) = ([], true) := rc_2 hov2 hc hw (by simp at c50; omega)
        have hF := rc_over hov hj hi hst (by omega)
        refine .seq ?_; refine .region ?_; refine .a ?_; refine .a ?_; refine .sq ?_; refine .ret ?_; refine .pass_ret ?_; refine .block_ret ?_; refine .pass_ret ?_; refine .pass_ret ?_; refine .block_ret ?_; refine .block_ret ?_; refine .pass_ret ?_; refine .pass_ret ?_; refine .block_ret ?_; refine .pass_ret ?_; exact .ret rfl (.tmp rfl <| .tmp rfl <| .nil) rfl (Le.t (.cons (by rw [hF]; first | exact Le.nil 1 | exact Le.refl _) <| .cons (Le.bo (by rw [hF]; first | rfl | simp [hov])) <| .nil))
       ·have hst : (rcS t j i (rcI t (rcO t s j) j i)) = ((rcI t (rcO t s j) j i).1 ++ [(afS t (nth (rcI t (rcO t s j) j i).1 j) i)], false) := rc_3 hov2 hc hw (by simp at c50; omega)
        have hov3 : (rcS t j i (rcI t (rcO t s j) j i)).2 = false := by rw [hst]
        have hjl3 : j < (rcS t j i (rcI t (rcO t s j) j i)).1.length := by rw [hst]; simp; omega
        refine .skip ?_; refine .z ?_; refine .m ?_; refine .m ?_; refine .x (.bs es37 ze37) ?_; refine .ap es37 el37 zc22 by22 ?_; refine .a ?_; refine .y ?_; refine .m ?_; refine .m ?_; refine .x (OpSem.call0 (R_Word_does (afS t (nth (rcI t (rcO t s j) j i).1 j) i) (haf.wr h8) (by omega)) rfl rfl rfl rfl (Les.refl _)) ?_; refine .x (.bs es22 ze22) ?_; refine .ap es22 el22 zc3 by3 ?_; refine .a ?_; refine .nil ?_; refine .block_normal ?_; refine .y ?_; refine .m ?_; refine .x .ad ?_; refine .a ?_; refine .nil ?_; refine .again (i + 1) ⟨by omega, hov3, hjl3⟩ ?_ (by omega); exact .slot rfl (.refl _) <| .slot rfl (.refl _) <| .slot rfl (.refl _) <| .slot rfl (.refl _) <| .slot rfl (Le.of_eq (by simp)) <| .memEq rfl (by rw [show rcI t (rcO t s j) j (i + 1) = (rcS t j i (rcI t (rcO t s j) j i)) from rfl, hst] <;> first | rfl | (simp; done) | (simp; rfl)) <| .memEq rfl (by rw [show rcI t (rcO t s j) j (i + 1) = (rcS t j i (rcI t (rcO t s j) j i)) from rfl, hst] <;> first | rfl | (simp; done) | (simp; rfl)) <| .mem rfl <| .nil
    ·have hi : i = t.ops.length := by simp at c26; omega
     subst hi
     have hO : rcO t s (j + 1) = rcI t (rcO t s j) j t.ops.length := by simp only [rcO]; rw [if_pos ⟨hov, hj⟩]
     refine .exit ?_; refine .pass_exit ?_; refine .pass_exit ?_; refine .block_same ?_; refine .block_normal ?_; refine .y ?_; refine .m ?_; refine .x .ad ?_; refine .a ?_; refine .nil ?_; refine .again (j + 1) ⟨by rw [hO]; exact hov2, by rw [hO]; exact hjl2⟩ ?_ (by omega); exact .slot rfl (.refl _) <| .slot rfl (.refl _) <| .slot rfl (.refl _) <| .slot rfl (Le.of_eq (by simp)) <| .memEq rfl (by rw [hO]) <| .memEq rfl (by rw [hO]) <| .mem rfl <| .nil
  ·have hj : (rcO t s j).1.length ≤ j := by simp at c19; omega
   obtain ⟨hQ1, hQ2, hQ3⟩ := (RcP.o hV hs j).hd hov
   have hF := rcF_end (.inr hj) (by omega)
   refine .exit ?_; refine .pass_exit ?_; refine .pass_exit ?_; refine .block_same ?_; refine .z ?_; refine .m ?_; refine .freeze 12 rfl ?_; refine .a ?_; refine .a ?_; refine .sq ?_; refine .ret ?_; exact .ret rfl (.tmp rfl <| .tmp rfl <| .nil) rfl (Le.t (.cons (by rw [hF]; first | exact Le.nil 1 | exact Le.refl _) <| .cons (Le.bo (by rw [hF]; first | rfl | simp [hov])) <| .nil))

theorem R_Reached_does (t : Tsk) (hV : TskV t) (h8 : t.facts ≤ 8) : Does Try.prog false 49 [tskS t] (.t [.d (rows (rcF t t.ini).1), Bo (!(rcF t t.ini).2)]) := by
 refine Does.of_body Try.func49 rfl rfl (by simp) Try.call49 (fun w0 O0 => ?_); refine .lenG (n := 0) (i := 1) rfl rfl (fun len0_1 => ?_); refine .lenG (n := 0) (i := 2) rfl rfl (fun len0_2 => ?_); refine .lenG (n := 0) (i := 3) rfl rfl (fun len0_3 => ?_); refine .seq ?_; refine .region ?_; refine .semM (OpSem.box 1 rfl rfl rfl rfl) rfl rfl (by decide) ?_; refine .a ?_; refine .a ?_; refine .z ?_; refine .x (OpSem.loadbN rfl rfl rfl vs25 (by first | decide | simp)) ?_; refine .x (.f fo25_1) ?_; refine .x (.l vs22) ?_; refine .x (OpSem.call0 (R_ReachedFrom_does t t.ini hV h8 (st_ini hV)) rfl rfl rfl rfl (Les.refl _)) ?_; refine .x (OpSem.extract rfl rfl rfl) ?_; refine .x (OpSem.extract rfl rfl rfl) ?_; refine .a ?_; refine .a ?_; refine .sq ?_; refine .ret ?_; exact .ret rfl (.tmp rfl <| .tmp rfl <| .nil) rfl (.refl _)

theorem R_Costs_does (t : Tsk) (l : List (List Int)) (w : List Int) (hV : TskV t) (h8 : t.facts ≤ 8) (hl : ∀ y, y ∈ l → StP t y) (hll : l.length ≤ 2000) (hr : CsR (edL t l l.length) (cs0 t l l.length) w) : DoesO Try.prog 50 [tskS t, .d (rows l)] 1 3 ((w.map fun n => [D.v (.int .i64 n)])) := by
 have hf := hV.facts
 have hops := hV.ops
 have hEl := edL_len (t := t) hll hops (i := l.length)
 have hst : ∀ k : Nat, k < l.length → StP t (nth l k) := fun k hk => hl _ (nth_mem (by omega) (by omega))
 have hE : ∀ e, e ∈ (edL t l l.length) → EdP t l e := fun e he => edL_p (Nat.le_refl _) e he
 refine DoesO.of_body Try.func50 rfl rfl (by simp) Try.call50 (fun w0 O0 => ?_); refine .lenG (n := 0) (i := 1) rfl rfl (fun len0_1 => ?_); refine .lenG (n := 0) (i := 2) rfl rfl (fun len0_2 => ?_); refine .lenG (n := 0) (i := 3) rfl rfl (fun len0_3 => ?_); refine .lenLe (n := 1) rfl (fun len1 => ?_); refine .seq ?_; refine .region ?_; refine .semM (OpSem.box 2 rfl rfl rfl rfl) rfl rfl (by decide) ?_; refine .a ?_; refine .z ?_; refine .a ?_; refine .sq ?_; refine .seq ?_; refine .ownNil (n := 5) 5 1 3 rfl ?_; refine .region ?_; refine .a ?_; refine .sq ?_; refine .seq ?_; refine .seq ?_; refine .ownNil (n := 6) 6 1 3 rfl ?_; refine .region ?_; refine .a ?_; refine .sq ?_; refine .block ?_; refine .loop (X := Nat) (fun k => k ≤ l.length) (fun k => [(1, .d (rows l)), (2, .r 2 0), (5, .o 5), (6, .o 6), (7, I (k))]) (fun k => [(5, .own 1 3 ((cs0 t l k).map fun n => [D.v (.int .i64 n)])), (6, .own 1 3 (((l.take k).map wrdS).map fun n => [D.v (.int .i64 n)])), (2, .box [I (t.facts), .d (ints t.ini), .d (ints t.goal), .d (sopsD t.ops)])]) (fun k => l.length - k) 0 (by omega) ?_ ?_
 ·exact .slot rfl (.refl _) <| .slot rfl (.refl _) <| .slot rfl (.refl _) <| .slot rfl (.refl _) <| .slot rfl (Le.of_eq (by simp)) <| .memEq rfl (by simp [cs0] <;> rfl) <| .memEq rfl (by simp <;> rfl) <| .mem rfl <| .nil
 ·rintro k hkl
  refine .seq ?_; refine .seq ?_; refine .region ?_; refine .m ?_; refine .m ?_; refine .x (OpSem.lenL rfl rfl es37) ?_; refine .x (.b blss) ?_; refine .sq ?_; refine .cond rfl (fun c20 => ?_) (fun c20 => ?_)
  ·have hk : k < l.length := by simpa using c20
   have hcl := cs0_len (t := t) (Nat.le_of_lt hk)
   refine .skip ?_; refine .seq ?_; refine .seq ?_; refine .block ?_; refine .seq ?_; refine .region ?_; refine .m ?_; refine .m ?_; refine .m ?_; refine .x (OpSem.idxL rfl rfl rfl es37 (by omega) (by omega)) ?_; refine .x (OpSem.load1 rfl rfl vs22 rfl) ?_; refine .x (OpSem.call0 (R_Word_does (nth l k) ((hst k hk).wr h8) (by have := (hst k hk).len hV; omega)) rfl rfl rfl rfl (Les.refl _)) ?_; refine .x (.bs es22 ze22) ?_; refine .ap es22 el22 zc3 by3 ?_; refine .a ?_; refine .sq ?_; refine .seq ?_; refine PC.start [] ?_; refine .x (.f fo25_2) ?_; refine .x (.l vs22) ?_; refine .m ?_; refine .m ?_; refine .x (OpSem.idxL rfl rfl rfl es37 (by omega) (by omega)) ?_; refine .x (OpSem.load1 rfl rfl vs22 rfl) ?_; refine .d0 mixed ?_; refine .x (OpSem.call0 (R_Subset_does t.goal (nth l k)) rfl rfl rfl rfl (Les.refl _)) ?_; refine .sq ?_; refine .cond rfl (fun c37 => ?_) (fun c37 => ?_)
   ·have hC := cs0_t hk (of_decide_eq_true c37)
    refine .region ?_; refine .m ?_; refine .x (.bs es22 ze22) ?_; refine .ap es22 el22 zc3 by3 ?_; refine .a ?_; refine .nil ?_; refine .block_normal ?_; refine .y ?_; refine .m ?_; refine .x .ad ?_; refine .a ?_; refine .nil ?_; refine .again (k + 1) (by omega) ?_ (by omega); exact .slot rfl (.refl _) <| .slot rfl (.refl _) <| .slot rfl (.refl _) <| .slot rfl (.refl _) <| .slot rfl (Le.of_eq (by simp)) <| .memEq rfl (by rw [hC]; simp <;> rfl) <| .memEq rfl (by rw [tk_s hk]; simp <;> rfl) <| .mem rfl <| .nil
   ·have hC := cs0_f hk (of_decide_eq_false c37)
    refine .region ?_; refine .m ?_; refine .x (.bs es22 ze22) ?_; refine .ap es22 el22 zc3 by3 ?_; refine .a ?_; refine .nil ?_; refine .block_normal ?_; refine .y ?_; refine .m ?_; refine .x .ad ?_; refine .a ?_; refine .nil ?_; refine .again (k + 1) (by omega) ?_ (by omega); exact .slot rfl (.refl _) <| .slot rfl (.refl _) <| .slot rfl (.refl _) <| .slot rfl (.refl _) <| .slot rfl (Le.of_eq (by simp)) <| .memEq rfl (by rw [hC]; simp <;> rfl) <| .memEq rfl (by rw [tk_s hk]; simp <;> rfl) <| .mem rfl <| .nil
  ·have hk : k = l.length := by simp at c20; omega
   subst hk
   rw [List.take_length]
   refine .exit ?_; refine .pass_exit ?_; refine .pass_exit ?_; refine .block_same ?_; refine .z ?_; refine .a ?_; refine .a ?_; refine .a ?_; refine .sq ?_; refine .seq ?_; refine .seq ?_; refine .ownNil (n := 8) 8 1 3 rfl ?_; refine .ownNil (n := 9) 9 1 3 rfl ?_; refine .ownNil (n := 10) 10 1 3 rfl ?_; refine .region ?_; refine .a ?_; refine .sq ?_; refine .block ?_; refine .loop (X := Nat) (fun i => i ≤ l.length) (fun i => [(1, .d (rows l)), (2, .r 2 0), (5, .o 5), (6, .o 6), (8, .o 8), (9, .o 9), (10, .o 10), (11, I (i))]) (fun i => [(8, .own 1 3 ((edA (edG t l i 0 0) 0).map fun n => [D.v (.int .i64 n)])), (9, .own 1 3 ((edA (edG t l i 0 0) 1).map fun n => [D.v (.int .i64 n)])), (10, .own 1 3 ((edA (edG t l i 0 0) 2).map fun n => [D.v (.int .i64 n)])), (5, .own 1 3 ((cs0 t l l.length).map fun n => [D.v (.int .i64 n)])), (6, .own 1 3 ((l.map wrdS).map fun n => [D.v (.int .i64 n)])), (2, .box [I (t.facts), .d (ints t.ini), .d (ints t.goal), .d (sopsD t.ops)])]) (fun i => l.length - i) 0 (by omega) ?_ ?_
   ·exact .slot rfl (.refl _) <| .slot rfl (.refl _) <| .slot rfl (.refl _) <| .slot rfl (.refl _) <| .slot rfl (.refl _) <| .slot rfl (.refl _) <| .slot rfl (.refl _) <| .slot rfl (Le.of_eq (by simp)) <| .memEq rfl (by simp [edG, edL, edO, edK, edA] <;> rfl) <| .memEq rfl (by simp [edG, edL, edO, edK, edA] <;> rfl) <| .memEq rfl (by simp [edG, edL, edO, edK, edA] <;> rfl) <| .memEq rfl rfl <| .memEq rfl rfl <| .mem rfl <| .nil
   ·rintro i hil
    refine .seq ?_; refine .seq ?_; refine .region ?_; refine .m ?_; refine .m ?_; refine .x (OpSem.lenL rfl rfl es37) ?_; refine .x (.b blss) ?_; refine .sq ?_; refine .cond rfl (fun c47 => ?_) (fun c47 => ?_)
    ·have hi : i < l.length := by simpa using c47
     refine .skip ?_; refine .seq ?_; refine .seq ?_; refine .block ?_; refine .seq ?_; refine .region ?_; refine .a ?_; refine .sq ?_; refine .block ?_; refine .loop (X := Nat) (fun o => o ≤ t.ops.length) (fun o => [(1, .d (rows l)), (2, .r 2 0), (5, .o 5), (6, .o 6), (8, .o 8), (9, .o 9), (10, .o 10), (11, I (i)), (12, I (o))]) (fun o => [(8, .own 1 3 ((edA (edG t l i o 0) 0).map fun n => [D.v (.int .i64 n)])), (9, .own 1 3 ((edA (edG t l i o 0) 1).map fun n => [D.v (.int .i64 n)])), (10, .own 1 3 ((edA (edG t l i o 0) 2).map fun n => [D.v (.int .i64 n)])), (5, .own 1 3 ((cs0 t l l.length).map fun n => [D.v (.int .i64 n)])), (6, .own 1 3 ((l.map wrdS).map fun n => [D.v (.int .i64 n)])), (2, .box [I (t.facts), .d (ints t.ini), .d (ints t.goal), .d (sopsD t.ops)])]) (fun o => t.ops.length - o) 0 (by omega) ?_ ?_
     ·exact .slot rfl (.refl _) <| .slot rfl (.refl _) <| .slot rfl (.refl _) <| .slot rfl (.refl _) <| .slot rfl (.refl _) <| .slot rfl (.refl _) <| .slot rfl (.refl _) <| .slot rfl (.refl _) <| .slot rfl (Le.of_eq (by simp)) <| .memEq rfl rfl <| .memEq rfl rfl <| .memEq rfl rfl <| .memEq rfl rfl <| .memEq rfl rfl <| .mem rfl <| .nil
     ·rintro o hol
      refine .seq ?_; refine .seq ?_; refine .region ?_; refine .m ?_; refine .x (.f fo25_3) ?_; refine .x (.l vs23) ?_; refine .x (OpSem.lenL rfl rfl es23) ?_; refine .x (.b blss) ?_; refine .sq ?_; refine .cond rfl (fun c54 => ?_) (fun c54 => ?_)
      ·have ho : o < t.ops.length := by simpa using c54
       refine .skip ?_; refine .seq ?_; refine .seq ?_; refine .block ?_; refine .seq ?_; refine PC.start [] ?_; refine .x (OpSem.loadbN rfl rfl rfl vs25 (by first | decide | simp)) ?_; refine .m ?_; refine .m ?_; refine .x (OpSem.idxL rfl rfl rfl es37 (by omega) (by omega)) ?_; refine .x (OpSem.load1 rfl rfl vs22 rfl) ?_; refine .m ?_; refine .d0 mixed ?_; refine .x (OpSem.call0 (R_Applies_does t (nth l i) o ho) rfl rfl rfl rfl (Les.refl _)) ?_; refine .sq ?_; refine .cond rfl (fun c63 => ?_) (fun c63 => ?_)
       ·have hc : canS t (nth l i) o := by simpa using c63
        have haf := af_st (t := t) (s := (nth l i)) (i := o) hV
        have hafl := haf.len hV
        refine .seq ?_; refine PC.start [] ?_; refine .x (OpSem.loadbN rfl rfl rfl vs25 (by first | decide | simp)) ?_; refine .m ?_; refine .m ?_; refine .x (OpSem.idxL rfl rfl rfl es37 (by omega) (by omega)) ?_; refine .x (OpSem.load1 rfl rfl vs22 rfl) ?_; refine .m ?_; refine .d0 mixed ?_; refine .x (OpSem.call0 (R_After_does t (nth l i) o ho ⟨by omega, by omega⟩).fresh rfl rfl rfl rfl (Les.refl _)) ?_; refine .x (OpSem.call0 (R_Word_does (afS t (nth l i) o) (haf.wr h8) (by omega)) rfl rfl rfl rfl (Les.refl _)) ?_; refine .a ?_; refine .z ?_; refine .a ?_; refine .sq ?_; refine .block ?_; refine .loop (X := Nat) (fun k => k ≤ l.length) (fun k => [(1, .d (rows l)), (2, .r 2 0), (5, .o 5), (6, .o 6), (8, .o 8), (9, .o 9), (10, .o 10), (11, I (i)), (12, I (o)), (13, I (wrdS (afS t (nth l i) o))), (14, I (k))]) (fun k => [(8, .own 1 3 ((edA (edG t l i o k) 0).map fun n => [D.v (.int .i64 n)])), (9, .own 1 3 ((edA (edG t l i o k) 1).map fun n => [D.v (.int .i64 n)])), (10, .own 1 3 ((edA (edG t l i o k) 2).map fun n => [D.v (.int .i64 n)])), (5, .own 1 3 ((cs0 t l l.length).map fun n => [D.v (.int .i64 n)])), (6, .own 1 3 ((l.map wrdS).map fun n => [D.v (.int .i64 n)])), (2, .box [I (t.facts), .d (ints t.ini), .d (ints t.goal), .d (sopsD t.ops)])]) (fun k => l.length - k) 0 (by omega) ?_ ?_
        ·exact .slot rfl (.refl _) <| .slot rfl (.refl _) <| .slot rfl (.refl _) <| .slot rfl (.refl _) <| .slot rfl (.refl _) <| .slot rfl (.refl _) <| .slot rfl (.refl _) <| .slot rfl (.refl _) <| .slot rfl (.refl _) <| .slot rfl (.refl _) <| .slot rfl (Le.of_eq (by simp)) <| .memEq rfl rfl <| .memEq rfl rfl <| .memEq rfl rfl <| .memEq rfl rfl <| .memEq rfl rfl <| .mem rfl <| .nil
        ·rintro k hkl
         refine .seq ?_; refine .seq ?_; refine .region ?_; refine .m ?_; refine .m ?_; refine .x (OpSem.leno rfl rfl rfl es22) ?_; refine .x (.b blss) ?_; refine .sq ?_; refine .cond rfl (fun c75 => ?_) (fun c75 => ?_)
         ·have hk : k < l.length := by simpa using c75
          have hgl := edG_len (t := t) hll hops (Nat.le_of_lt hi) (Nat.le_of_lt ho) (Nat.le_of_lt hk)
          refine .skip ?_; refine .seq ?_; refine .seq ?_; refine .block ?_; refine .seq ?_; refine .region ?_; refine .m ?_; refine .m ?_; refine .x (OpSem.idxo rfl rfl rfl rfl es22 (by omega) (by simp; omega)) ?_; refine .x (OpSem.loadq rfl rfl rfl vs3 (rows_get (f := fun n => [D.v (.int .i64 n)]) (l := l.map wrdS) (by omega) (by simp; omega)) rfl) ?_; refine .m ?_; refine .x (.b beql) ?_; refine .sq ?_; refine .cond rfl (fun c83 => ?_) (fun c83 => ?_)
          ·have hG := edG_t (by rw [← nth_wrd hk]; exact of_decide_eq_true c83)
           obtain ⟨hG0, hG1, hG2⟩ := edA_s (E := edG t l i o k) (a := i) (b := k) (c := (nth t.ops o).cost)
           refine .seq ?_; refine .region ?_; refine .m ?_; refine .m ?_; refine .x (.bs es22 ze22) ?_; refine .append rfl rfl rfl (by decide) rfl rfl rfl es22 el22 zc3 rfl by3 (by simp [D.one, Value.oneCell']) (by simp [maxLen, edA_len]; omega) (by simp [edA_len]; omega) ?_; refine .a ?_; refine .z ?_; refine .m ?_; refine .m ?_; refine .x (.bs es22 ze22) ?_; refine .append rfl rfl rfl (by decide) rfl rfl rfl es22 el22 zc3 rfl by3 (by simp [D.one, Value.oneCell']) (by simp [maxLen, edA_len]; omega) (by simp [edA_len]; omega) ?_; refine .a ?_; refine .y ?_; refine .m ?_; refine .x (.f fo25_3) ?_; refine .x (.l vs23) ?_; refine .m ?_; refine .x (OpSem.idxL rfl rfl rfl es23 (by omega) (by omega)) ?_; refine .x (OpSem.fieldp rfl rfl fo35_3) ?_; refine .x (OpSem.load1 rfl rfl vs3 rfl) ?_; refine .x (.bs es22 ze22) ?_; refine .append rfl rfl rfl (by decide) rfl rfl rfl es22 el22 zc3 rfl by3 (by simp [D.one, Value.oneCell']) (by simp [maxLen, edA_len]; omega) (by simp [edA_len]; omega) ?_; refine .a ?_; refine .nil ?_; refine .block_normal ?_; refine .y ?_; refine .m ?_; refine .x .ad ?_; refine .a ?_; refine .nil ?_; refine .again (k + 1) (by omega) ?_ (by omega); exact .slot rfl (.refl _) <| .slot rfl (.refl _) <| .slot rfl (.refl _) <| .slot rfl (.refl _) <| .slot rfl (.refl _) <| .slot rfl (.refl _) <| .slot rfl (.refl _) <| .slot rfl (.refl _) <| .slot rfl (.refl _) <| .slot rfl (.refl _) <| .slot rfl (Le.of_eq (by simp)) <| .memEq rfl (by rw [hG, hG0]; simp <;> rfl) <| .memEq rfl (by rw [hG, hG1]; simp <;> rfl) <| .memEq rfl (by rw [hG, hG2]; simp <;> rfl) <| .mem rfl <| .mem rfl <| .mem rfl <| .nil
          ·have hG := edG_f (t := t) (l := l) (i := i) (o := o) (k := k) (by rw [← nth_wrd hk]; exact of_decide_eq_false c83)
           refine .skip ?_; refine .block_normal ?_; refine .y ?_; refine .m ?_; refine .x .ad ?_; refine .a ?_; refine .nil ?_; refine .again (k + 1) (by omega) ?_ (by omega); exact .slot rfl (.refl _) <| .slot rfl (.refl _) <| .slot rfl (.refl _) <| .slot rfl (.refl _) <| .slot rfl (.refl _) <| .slot rfl (.refl _) <| .slot rfl (.refl _) <| .slot rfl (.refl _) <| .slot rfl (.refl _) <| .slot rfl (.refl _) <| .slot rfl (Le.of_eq (by simp)) <| .memEq rfl (by rw [hG]) <| .memEq rfl (by rw [hG]) <| .memEq rfl (by rw [hG]) <| .mem rfl <| .mem rfl <| .mem rfl <| .nil
         ·have hk : k = l.length := by simp at c75; omega
          subst hk
          refine .exit ?_; refine .pass_exit ?_; refine .pass_exit ?_; refine .block_same ?_; refine .block_normal ?_; refine .y ?_; refine .m ?_; refine .x .ad ?_; refine .a ?_; refine .nil ?_; refine .again (o + 1) (by omega) ?_ (by omega); exact .slot rfl (.refl _) <| .slot rfl (.refl _) <| .slot rfl (.refl _) <| .slot rfl (.refl _) <| .slot rfl (.refl _) <| .slot rfl (.refl _) <| .slot rfl (.refl _) <| .slot rfl (.refl _) <| .slot rfl (Le.of_eq (by simp)) <| .memEq rfl (by rw [edG_c hc]) <| .memEq rfl (by rw [edG_c hc]) <| .memEq rfl (by rw [edG_c hc]) <| .mem rfl <| .mem rfl <| .mem rfl <| .nil
       ·have hc : ¬ canS t (nth l i) o := by simpa using c63
        refine .skip ?_; refine .block_normal ?_; refine .y ?_; refine .m ?_; refine .x .ad ?_; refine .a ?_; refine .nil ?_; refine .again (o + 1) (by omega) ?_ (by omega); exact .slot rfl (.refl _) <| .slot rfl (.refl _) <| .slot rfl (.refl _) <| .slot rfl (.refl _) <| .slot rfl (.refl _) <| .slot rfl (.refl _) <| .slot rfl (.refl _) <| .slot rfl (.refl _) <| .slot rfl (Le.of_eq (by simp)) <| .memEq rfl (by rw [edG_n hc]) <| .memEq rfl (by rw [edG_n hc]) <| .memEq rfl (by rw [edG_n hc]) <| .mem rfl <| .mem rfl <| .mem rfl <| .nil
      ·have ho : o = t.ops.length := by simp at c54; omega
       subst ho
       refine .exit ?_; refine .pass_exit ?_; refine .pass_exit ?_; refine .block_same ?_; refine .block_normal ?_; refine .y ?_; refine .m ?_; refine .x .ad ?_; refine .a ?_; refine .nil ?_; refine .again (i + 1) (by omega) ?_ (by omega); exact .slot rfl (.refl _) <| .slot rfl (.refl _) <| .slot rfl (.refl _) <| .slot rfl (.refl _) <| .slot rfl (.refl _) <| .slot rfl (.refl _) <| .slot rfl (.refl _) <| .slot rfl (Le.of_eq (by simp)) <| .memEq rfl (by rw [edG_s]) <| .memEq rfl (by rw [edG_s]) <| .memEq rfl (by rw [edG_s]) <| .mem rfl <| .mem rfl <| .mem rfl <| .nil
    ·have hi : i = l.length := by simp at c47; omega
     subst hi
     rw [edG_end]
     refine .exit ?_; refine .pass_exit ?_; refine .pass_exit ?_; refine .block_same ?_; refine .seq ?_; refine .seq ?_; refine .seq ?_; refine .region ?_; refine .a ?_; refine .sq ?_; refine .block ?_; refine .loop (X := List Int × Bool) (fun x => CsP t l x.1 ∧ (x.2 = true → CsR (edL t l l.length) x.1 w) ∧ (x.2 = false → x.1 = w)) (fun x => [(5, .o 5), (8, .o 8), (9, .o 9), (10, .o 10), (15, Bo (x.2))]) (fun x => [(5, .own 1 3 (x.1.map fun n => [D.v (.int .i64 n)])), (8, .own 1 3 ((edA (edL t l l.length) 0).map fun n => [D.v (.int .i64 n)])), (9, .own 1 3 ((edA (edL t l l.length) 1).map fun n => [D.v (.int .i64 n)])), (10, .own 1 3 ((edA (edL t l l.length) 2).map fun n => [D.v (.int .i64 n)]))]) (fun x => cs_mu x) (cs0 t l l.length, true) ⟨cs0_p, fun _ => hr, fun h => by cases h⟩ ?_ ?_
     ·exact .slot rfl (.refl _) <| .slot rfl (.refl _) <| .slot rfl (.refl _) <| .slot rfl (.refl _) <| .slot rfl (.refl _) <| .memEq rfl rfl <| .memEq rfl rfl <| .memEq rfl rfl <| .memEq rfl rfl <| .nil
     ·rintro x ⟨hC, hT, hF⟩
      refine .seq ?_; refine .seq ?_; refine .region ?_; refine .m ?_; refine .sq ?_; refine .cond rfl (fun c101 => ?_) (fun c101 => ?_)
      ·obtain ⟨hI1, hI2⟩ := (hT c101).inv
       refine .skip ?_; refine .seq ?_; refine .block ?_; refine .seq ?_; refine .region ?_; refine .a ?_; refine .z ?_; refine .a ?_; refine .sq ?_; refine .block ?_; refine .loop (X := Nat) (fun a => a ≤ (edL t l l.length).length) (fun a => [(5, .o 5), (8, .o 8), (9, .o 9), (10, .o 10), (15, Bo ((psF (edL t l l.length) x.1 a).2)), (16, I (a))]) (fun a => [(5, .own 1 3 (((psF (edL t l l.length) x.1 a).1).map fun n => [D.v (.int .i64 n)])), (8, .own 1 3 ((edA (edL t l l.length) 0).map fun n => [D.v (.int .i64 n)])), (9, .own 1 3 ((edA (edL t l l.length) 1).map fun n => [D.v (.int .i64 n)])), (10, .own 1 3 ((edA (edL t l l.length) 2).map fun n => [D.v (.int .i64 n)]))]) (fun a => (edL t l l.length).length - a) 0 (by omega) ?_ ?_
       ·exact .slot rfl (.refl _) <| .slot rfl (.refl _) <| .slot rfl (.refl _) <| .slot rfl (.refl _) <| .slot rfl (.refl _) <| .slot rfl (Le.of_eq (by simp)) <| .memEq rfl rfl <| .memEq rfl rfl <| .memEq rfl rfl <| .memEq rfl rfl <| .nil
       ·rintro a hal
        refine .seq ?_; refine .seq ?_; refine .region ?_; refine .m ?_; refine .m ?_; refine .x (OpSem.leno rfl rfl rfl es22) ?_; refine .x (.b blss) ?_; refine .sq ?_; refine .cond rfl (fun c105 => ?_) (fun c105 => ?_)
        ·have ha : a < (edL t l l.length).length := by simpa [edA_len] using c105
         obtain ⟨⟨f0, f1⟩, ⟨g0, g1⟩, e0, e1⟩ := ed_rg hV hE ha
         have hY := hC.f hV hl hE (k := a) (by omega)
         have hYl := hY.len
         have hY0 := hY.at f0 f1
         have hY1 := hY.at g0 g1
         refine .skip ?_; refine .seq ?_; refine .seq ?_; refine .block ?_; refine .seq ?_; refine PC.start [] ?_; refine .m ?_; refine .m ?_; refine .m ?_; refine .x (OpSem.idxo rfl rfl rfl rfl es22 (by omega) (by simp [edA_len]; omega)) ?_; refine .x (OpSem.loadq rfl rfl rfl vs3 (rows_get (by omega) (by rw [edA_len]; omega)) rfl) ?_; refine .x (OpSem.idxo rfl rfl rfl rfl es22 (by omega) (by simp; omega)) ?_; refine .x (OpSem.loadq rfl rfl rfl vs3 (rows_get (by omega) (by omega)) rfl) ?_; refine .x (.b blss) ?_; refine .m ?_; refine .split (n := 116) rfl (fun c116 => ?_) (fun c116 => ?_)
         ·refine .gt (OpSem.move (.inl rfl) rfl) c116 ?_; refine .gt (OpSem.move (.inl rfl) rfl) c116 ?_; refine .gt (OpSem.move (.inl rfl) rfl) c116 ?_; refine .gt (OpSem.idxo rfl rfl rfl rfl es22 (by omega) (by simp [edA_len]; omega)) c116 ?_; refine .gt (OpSem.loadq rfl rfl rfl vs3 (rows_get (by omega) (by rw [edA_len]; omega)) rfl) c116 ?_; refine .gt (OpSem.idxo rfl rfl rfl rfl es22 (by omega) (by simp; omega)) c116 ?_; refine .gt (OpSem.loadq rfl rfl rfl vs3 (rows_get (by omega) (by omega)) rfl) c116 ?_; refine .gt (OpSem.move (.inl rfl) rfl) c116 ?_; refine .gt (OpSem.move (.inl rfl) rfl) c116 ?_; refine .gt (OpSem.idxo rfl rfl rfl rfl es22 (by omega) (by simp [edA_len]; omega)) c116 ?_; refine .gt (OpSem.loadq rfl rfl rfl vs3 (rows_get (by omega) (by rw [edA_len]; omega)) rfl) c116 ?_; refine .gt .ad c116 ?_; refine .gt (OpSem.move (.inl rfl) rfl) c116 ?_; refine .gt (OpSem.move (.inl rfl) rfl) c116 ?_; refine .gt (OpSem.move (.inl rfl) rfl) c116 ?_; refine .gt (OpSem.idxo rfl rfl rfl rfl es22 (by omega) (by simp [edA_len]; omega)) c116 ?_; refine .gt (OpSem.loadq rfl rfl rfl vs3 (rows_get (by omega) (by rw [edA_len]; omega)) rfl) c116 ?_; refine .gt (OpSem.idxo rfl rfl rfl rfl es22 (by omega) (by simp; omega)) c116 ?_; refine .gt (OpSem.loadq rfl rfl rfl vs3 (rows_get (by omega) (by omega)) rfl) c116 ?_; refine .d0 mixed ?_; refine .gt c116 ?_; refine .x (.b blss) ?_; refine .x (OpSem.pickT rfl rfl c116 rfl) ?_; refine .sq ?_; refine .cond rfl (fun c137 => ?_) (fun c137 => ?_)
          ·have hS := ps_1 (E := (edL t l l.length)) (x := (psF (edL t l l.length) x.1 a)) (a := a) (by simpa using c116) (by simpa using c137)
           refine .seq ?_; refine PC.start [] ?_; refine .m ?_; refine .m ?_; refine .m ?_; refine .x (OpSem.idxo rfl rfl rfl rfl es22 (by omega) (by simp [edA_len]; omega)) ?_; refine .x (OpSem.loadq rfl rfl rfl vs3 (rows_get (by omega) (by rw [edA_len]; omega)) rfl) ?_; refine .m ?_; refine .m ?_; refine .m ?_; refine .x (OpSem.idxo rfl rfl rfl rfl es22 (by omega) (by simp [edA_len]; omega)) ?_; refine .x (OpSem.loadq rfl rfl rfl vs3 (rows_get (by omega) (by rw [edA_len]; omega)) rfl) ?_; refine .x (OpSem.idxo rfl rfl rfl rfl es22 (by omega) (by simp; omega)) ?_; refine .x (OpSem.loadq rfl rfl rfl vs3 (rows_get (by omega) (by omega)) rfl) ?_; refine .m ?_; refine .m ?_; refine .x (OpSem.idxo rfl rfl rfl rfl es22 (by omega) (by simp [edA_len]; omega)) ?_; refine .x (OpSem.loadq rfl rfl rfl vs3 (rows_get (by omega) (by rw [edA_len]; omega)) rfl) ?_; refine .x .ad ?_; refine .d0 mixed ?_; refine .x (OpSem.idxo rfl rfl rfl rfl es22 (by omega) (by simp; omega)) ?_; refine .storeq rfl rfl rfl rfl rfl rfl rfl vs3 (rows_get (by omega) (by omega)) (by simp) ?_; refine .y ?_; refine .a ?_; refine .nil ?_; refine .block_normal ?_; refine .y ?_; refine .m ?_; refine .x .ad ?_; refine .a ?_; refine .nil ?_
           have hS : psF (edL t l l.length) x.1 (a + 1) = _ := hS
           refine .again (a + 1) (by omega) ?_ (by omega); exact .slot rfl (.refl _) <| .slot rfl (.refl _) <| .slot rfl (.refl _) <| .slot rfl (.refl _) <| .slot rfl (Le.bo (by rw [hS])) <| .slot rfl (Le.of_eq (by simp)) <| .memEq rfl (by rw [hS]; exact congrArg (Mo.own 1 3) (rows_set (f := fun n => [D.v (.int .i64 n)]))) <| .mem rfl <| .mem rfl <| .mem rfl <| .nil
          ·have hS := ps_0 (E := (edL t l l.length)) (x := (psF (edL t l l.length) x.1 a)) (a := a) (fun h => by have := h.2; simp at c137; omega)
           refine .skip ?_; refine .block_normal ?_; refine .y ?_; refine .m ?_; refine .x .ad ?_; refine .a ?_; refine .nil ?_
           have hS : psF (edL t l l.length) x.1 (a + 1) = _ := hS
           refine .again (a + 1) (by omega) ?_ (by omega); exact .slot rfl (.refl _) <| .slot rfl (.refl _) <| .slot rfl (.refl _) <| .slot rfl (.refl _) <| .slot rfl (Le.bo (by rw [hS])) <| .slot rfl (Le.of_eq (by simp)) <| .memEq rfl (by rw [hS]) <| .mem rfl <| .mem rfl <| .mem rfl <| .nil
         ·have hS := ps_0 (E := (edL t l l.length)) (x := (psF (edL t l l.length) x.1 a)) (a := a) (fun h => by have := h.1; simp at c116; omega)
          refine .gf c116 ?_; refine .gf c116 ?_; refine .gf c116 ?_; refine .gf c116 ?_; refine .gf c116 ?_; refine .gf c116 ?_; refine .gf c116 ?_; refine .gf c116 ?_; refine .gf c116 ?_; refine .gf c116 ?_; refine .gf c116 ?_; refine .gf c116 ?_; refine .gf c116 ?_; refine .gf c116 ?_; refine .gf c116 ?_; refine .gf c116 ?_; refine .gf c116 ?_; refine .gf c116 ?_; refine .gf c116 ?_; refine .d0 mixed ?_; refine .gf c116 ?_; refine .x (OpSem.pickF rfl rfl c116 rfl) ?_; refine .sq ?_; refine .condF rfl rfl ?_; refine .skip ?_; refine .block_normal ?_; refine .y ?_; refine .m ?_; refine .x .ad ?_; refine .a ?_; refine .nil ?_
          have hS : psF (edL t l l.length) x.1 (a + 1) = _ := hS
          refine .again (a + 1) (by omega) ?_ (by omega); exact .slot rfl (.refl _) <| .slot rfl (.refl _) <| .slot rfl (.refl _) <| .slot rfl (.refl _) <| .slot rfl (Le.bo (by rw [hS])) <| .slot rfl (Le.of_eq (by simp)) <| .memEq rfl (by rw [hS]) <| .mem rfl <| .mem rfl <| .mem rfl <| .nil
        ·have ha : a = (edL t l l.length).length := by simp [edA_len] at c105; omega
         subst ha
         refine .exit ?_; refine .pass_exit ?_; refine .pass_exit ?_; refine .block_same ?_; refine .block_normal ?_; refine .again (psF (edL t l l.length) x.1 (edL t l l.length).length) ⟨hC.f hV hl hE (Nat.le_refl _), hI1, hI2⟩ ?_ (cs_lt hV hl hE hC c101); exact .all
      ·have hW := hF c101
       refine .exit ?_; refine .pass_exit ?_; refine .pass_exit ?_; refine .block_same ?_; refine .z ?_; refine .m ?_; refine .a ?_; refine .sq ?_; refine .ret ?_; exact .retO2 rfl rfl rfl (by simp) (by rw [hW])

theorem R_Best_does (t : Tsk) (w : List Int) (hV : TskV t) (h8 : t.facts ≤ 8) (hw : BsP t w) : Does Try.prog false 22 [tskS t] (I (bstR t w)) := by
 refine Does.of_body Try.func22 rfl rfl (by simp) Try.call22 (fun w0 O0 => ?_); refine .lenG (n := 0) (i := 1) rfl rfl (fun len0_1 => ?_); refine .lenG (n := 0) (i := 2) rfl rfl (fun len0_2 => ?_); refine .lenG (n := 0) (i := 3) rfl rfl (fun len0_3 => ?_); refine .seq ?_; refine .region ?_; refine .semM (OpSem.box 1 rfl rfl rfl rfl) rfl rfl (by decide) ?_; refine .a ?_; refine .z ?_; refine .x (OpSem.loadbN rfl rfl rfl vs25 (by first | decide | simp)) ?_; refine .x (OpSem.call0 (R_Reached_does t hV h8) rfl rfl rfl rfl (Les.refl _)) ?_; refine .m ?_; refine .x (OpSem.extract rfl rfl rfl) ?_; refine .x (OpSem.extract rfl rfl rfl) ?_; refine .a ?_; refine .a ?_; refine .sq ?_; refine .seq ?_; refine .seq ?_; refine .region ?_; refine .m ?_; refine .x (OpSem.not rfl rfl) ?_; refine .sq ?_; refine .cond rfl (fun c11 => ?_) (fun c11 => ?_)
 ·have hov : (rcF t t.ini).2 = true := by simpa using c11
  refine .seq ?_; refine .region ?_; refine .a ?_; refine .sq ?_; refine .ret ?_; refine .pass_ret ?_; exact .ret rfl (.tmp rfl <| .nil) rfl (Le.i (by unfold bstR; rw [if_pos hov]))
 ·have hov : (rcF t t.ini).2 = false := by simpa using c11
  obtain ⟨hq1, hq2, hq3⟩ := (rcF_p hV).hd hov
  obtain ⟨hb1, hb2, hb3, hb4⟩ := bs_sound hV hw hov
  refine .skip ?_; refine .z ?_; refine .x (OpSem.loadbN rfl rfl rfl vs25 (by first | decide | simp)) ?_; refine .m ?_; refine .x (OpSem.call0 (R_Costs_does t (rcF t t.ini).1 w hV h8 (rcF_p hV).st hq3 (hw hov)).fresh rfl rfl rfl rfl (Les.refl _)) ?_; refine .x (OpSem.idxL rfl rfl rfl es22 (by omega) (by omega)) ?_; refine .x (OpSem.load1 rfl rfl vs3 rfl) ?_; refine .a ?_; refine .sq ?_; refine .ret ?_; exact .ret rfl (.tmp rfl <| .nil) rfl (Le.i (by unfold bstR; rw [if_neg (by simp [hov])]))

end Go.Proofs.Ytlidcpmdgceboaa
end

section
/- Walks, written by gen.py out of hints. -/



set_option linter.unusedVariables false
set_option linter.unusedSimpArgs false
namespace Go.Proofs.Ytlidcpmdgceboaa
open Go.Eng
set_option maxRecDepth 10000
set_option maxHeartbeats 1000000

theorem law_CountingAdmissible_does (t : Tsk) : Does Try.prog false 7 [tskS t] (Bo true) := by
 obtain ⟨o, hS, hB⟩ := cp_good t
 refine Does.of_body Try.func7 rfl rfl (by simp) Try.call7 (fun w0 O0 => ?_); refine .lenG (n := 0) (i := 1) rfl rfl (fun len0_1 => ?_); refine .lenG (n := 0) (i := 2) rfl rfl (fun len0_2 => ?_); refine .lenG (n := 0) (i := 3) rfl rfl (fun len0_3 => ?_); refine .seq ?_; refine .region ?_; refine .semM (OpSem.box 1 rfl rfl rfl rfl) rfl rfl (by decide) ?_; refine .a ?_; refine .sq ?_; refine .seq ?_; refine .seq ?_; refine .region ?_; refine .x (OpSem.call0 (law_countingExample_does) rfl rfl rfl rfl (Les.refl _)) ?_; refine .x (OpSem.not rfl rfl) ?_; refine .sq ?_; refine .condF rfl rfl ?_; refine .skip ?_; refine .z ?_; refine .x (OpSem.loadbN rfl rfl rfl vs25 (by first | decide | simp)) ?_; refine .x (OpSem.call0 (counting_Bound_does t o hS) rfl rfl rfl rfl (Les.refl _)) ?_; refine .m ?_; refine .x (OpSem.extract rfl rfl rfl) ?_; refine .x (OpSem.extract rfl rfl rfl) ?_; refine .semM (OpSem.alloc 3 rfl zc28 rfl) rfl rfl (by decide) ?_; refine .semM (OpSem.alloc 4 rfl zc30 rfl) rfl rfl (by decide) ?_; refine .sb vs28 ?_; refine .sb vs30 ?_; refine .sq ?_; refine .seq ?_; refine .seq ?_; refine .region ?_; refine .x (.f fo30_0) ?_; refine .x (.l vs3) ?_; refine .x (.b bneq) ?_; refine .m ?_; refine .split (n := 16) rfl (fun c16 => ?_) (fun c16 => ?_)
 ·have hne : cpF t ≠ (0, 0) := fun h => by simp [h] at c16
  refine .hf c16 ?_; refine .hf c16 ?_; refine .hf c16 ?_; refine .x (OpSem.pickT rfl rfl c16 rfl) ?_; refine .m ?_; refine .hf rfl ?_; refine .hf rfl ?_; refine .hf rfl ?_; refine .hf rfl ?_; refine .x (OpSem.pickT rfl rfl rfl rfl) ?_; refine .sq ?_; refine .condT rfl rfl ?_; refine .seq ?_; refine .region ?_; refine .x (.f fo30_0) ?_; refine .x (.l vs3) ?_; refine .x (.b beql) ?_; refine .m ?_; refine .split (n := 30) rfl (fun c30 => ?_) (fun c30 => ?_)
  ·refine .hf c30 ?_; refine .hf c30 ?_; refine .hf c30 ?_; refine .x (OpSem.pickT rfl rfl c30 rfl) ?_; refine .a ?_; refine .sq ?_; refine .ret ?_; refine .pass_ret ?_; exact .ret rfl (.tmp rfl <| .nil) rfl (Le.bo (by first | exact decide_eq_true hle | rfl | (rw [← bd_1 hne]; rfl) | (exfalso; simp [h0] at c30) | (simp; done)))
  ·refine .ht c30 ?_; refine .x (OpSem.loadbN rfl rfl rfl vs28 (by first | decide | simp)) ?_; refine .ht c30 ?_; refine .x (OpSem.build rfl rfl pl28 zc28 rfl rfl) ?_; refine .ht c30 ?_; refine .x (OpSem.eqS2 rfl rfl rfl io28) ?_; refine .x (OpSem.pickF rfl rfl c30 rfl) ?_; refine .a ?_; refine .sq ?_; refine .ret ?_; refine .pass_ret ?_; exact .ret rfl (.tmp rfl <| .nil) rfl (Le.bo (by first | exact decide_eq_true hle | rfl | (rw [← bd_1 hne]; rfl) | (exfalso; simp [h0] at c30) | (simp; done)))
 ·have h0 : cpF t = (0, 0) := cpF_code (by simpa using c16)
  obtain ⟨hT, hL⟩ := cpF_inv h0
  have hV := tskF_v hT
  refine .ht c16 ?_; refine .x (.f fo25_0) ?_; refine .ht c16 ?_; refine .x (.l vs3) ?_; refine .ht c16 ?_; refine .x (.b bgtr) ?_; refine .x (OpSem.pickF rfl rfl c16 rfl) ?_; refine .m ?_; refine .split (n := 21) rfl (fun c21 => ?_) (fun c21 => ?_)
  ·refine .hf c21 ?_; refine .hf c21 ?_; refine .hf c21 ?_; refine .hf c21 ?_; refine .x (OpSem.pickT rfl rfl c21 rfl) ?_; refine .sq ?_; refine .condT rfl rfl ?_; refine .seq ?_; refine .region ?_; refine .x (.f fo30_0) ?_; refine .x (.l vs3) ?_; refine .x (.b beql) ?_; refine .m ?_; refine .split (n := 30) rfl (fun c30 => ?_) (fun c30 => ?_)
   ·refine .hf c30 ?_; refine .hf c30 ?_; refine .hf c30 ?_; refine .x (OpSem.pickT rfl rfl c30 rfl) ?_; refine .a ?_; refine .sq ?_; refine .ret ?_; refine .pass_ret ?_; exact .ret rfl (.tmp rfl <| .nil) rfl (Le.bo (by first | exact decide_eq_true hle | rfl | (rw [← bd_1 hne]; rfl) | (exfalso; simp [h0] at c30) | (simp; done)))
   ·refine .ht c30 ?_; refine .x (OpSem.loadbN rfl rfl rfl vs28 (by first | decide | simp)) ?_; refine .ht c30 ?_; refine .x (OpSem.build rfl rfl pl28 zc28 rfl rfl) ?_; refine .ht c30 ?_; refine .x (OpSem.eqS2 rfl rfl rfl io28) ?_; refine .x (OpSem.pickF rfl rfl c30 rfl) ?_; refine .a ?_; refine .sq ?_; refine .ret ?_; refine .pass_ret ?_; exact .ret rfl (.tmp rfl <| .nil) rfl (Le.bo (by first | exact decide_eq_true hle | rfl | (rw [← bd_1 hne]; rfl) | (exfalso; simp [h0] at c30) | (simp; done)))
  ·have h8 : t.facts ≤ 8 := by simpa using c21
   obtain ⟨w, hw⟩ := bs_ends hV
   obtain ⟨⟨hN0, hN1⟩, ⟨hD0, hD1⟩, ⟨hb0, hb1⟩, hA⟩ := cp_adm h0 (hB h0) hw
   have hmB := mul_inB (a := bstR t w) (b := (bdR t o).2) (by unfold inB; omega) (by unfold inB; omega)
   refine .ht c21 ?_; refine .x (OpSem.loadbN rfl rfl rfl vs25 (by first | decide | simp)) ?_; refine .ht c21 ?_; refine .x (OpSem.call0 (R_TaskFault_does t) rfl rfl rfl rfl (Les.refl _)) ?_; refine .ht c21 ?_; refine .x (OpSem.field1 rfl rfl f1_30_0 rfl) ?_; refine .ht c21 ?_; refine .x (.b bneq) ?_; refine .x (OpSem.pickF rfl rfl c21 rfl) ?_; refine .sq ?_; refine .condF rfl (by simp [hT]) ?_; refine .skip ?_; refine .z ?_; refine .x (OpSem.loadbN rfl rfl rfl vs25 (by first | decide | simp)) ?_; refine .x (OpSem.call0 (R_Best_does t w hV h8 hw) rfl rfl rfl rfl (Les.refl _)) ?_; refine .a ?_; refine .z ?_; refine .x (.f fo28_0) ?_; refine .x (.l vs3) ?_; refine .x (.b bgeq) ?_; refine .m ?_; refine .gT rfl rfl rfl rfl (by simpa using hN0) ?_; refine .x (.f fo28_1) ?_; refine .gT rfl rfl rfl rfl (by simpa using hN0) ?_; refine .x (.l vs3) ?_; refine .gT rfl rfl rfl rfl (by simpa using hN0) ?_; refine .x (.b bgtr) ?_; refine .x (OpSem.pickT rfl rfl (by simpa using hN0) rfl) ?_; refine .m ?_; refine .gT rfl rfl rfl rfl (by simpa using hD0) ?_; refine .m ?_; refine .gT rfl rfl rfl rfl (by simpa using hD0) ?_; refine .x (.b blss) ?_; refine .gT rfl rfl rfl rfl (by simpa using hD0) ?_; refine .m ?_; refine .split (n := 48) rfl (fun c48 => ?_) (fun c48 => ?_)
   ·refine .hf c48 ?_; refine .hf c48 ?_; refine .hf c48 ?_; refine .hf c48 ?_; refine .hf c48 ?_; refine .hf c48 ?_; refine .hf c48 ?_; refine .gT rfl rfl rfl rfl (by simpa using hD0) ?_; refine .x (OpSem.pickT rfl rfl c48 rfl) ?_; refine .x (OpSem.pickT rfl rfl (by simpa using hD0) rfl) ?_; refine .a ?_; refine .sq ?_; refine .ret ?_; exact .ret rfl (.tmp rfl <| .nil) rfl (Le.bo (by first | exact decide_eq_true hle | rfl | (rw [← bd_1 hne]; rfl) | (exfalso; simp [h0] at c30) | (simp; done)))
   ·have hle := hA.resolve_left (by simpa using c48)
    refine .ht c48 ?_; refine .x (.f fo28_0) ?_; refine .ht c48 ?_; refine .x (.l vs3) ?_; refine .ht c48 ?_; refine .m ?_; refine .ht c48 ?_; refine .x (.f fo28_1) ?_; refine .ht c48 ?_; refine .x (.l vs3) ?_; refine .ht c48 ?_; refine .x (OpSem.bin rfl rfl rfl (bmul (by omega) (by omega))) ?_; refine .ht c48 ?_; refine .x (.b bleq) ?_; refine .gT rfl rfl rfl rfl (by simpa using hD0) ?_; refine .x (OpSem.pickF rfl rfl c48 rfl) ?_; refine .x (OpSem.pickT rfl rfl (by simpa using hD0) rfl) ?_; refine .a ?_; refine .sq ?_; refine .ret ?_; exact .ret rfl (.tmp rfl <| .nil) rfl (Le.bo (by first | exact decide_eq_true hle | rfl | (rw [← bd_1 hne]; rfl) | (exfalso; simp [h0] at c30) | (simp; done)))

end Go.Proofs.Ytlidcpmdgceboaa
end

section
/- The frame: what an argument that reads is, as data; and how a proved contract becomes the row's step. -/







set_option linter.unusedVariables false
set_option linter.unusedSimpArgs false
namespace Go.Eng
open Go Go.RowKit

/-- A row of cells holds these data. -/
def CellsD (W : World) (cs : List Value) (ds : List D) : Prop := cs.length = ds.length ∧ ∀ (i : Nat) (x : Value) (d : D), cs[i]? = some x → ds[i]? = some d → RepD zO W x d
theorem CellsD.app {W : World} {a b : List Value} {c d : List D} (h : CellsD W a c) (k : CellsD W b d) : CellsD W (a ++ b) (c ++ d) := by
  refine ⟨by simp [h.1, k.1], fun i x y hx hy => ?_⟩
  by_cases hi : i < a.length
  · rw [List.getElem?_append_left hi] at hx
    rw [List.getElem?_append_left (by rw [← h.1]; exact hi)] at hy
    exact h.2 i x y hx hy
  · rw [List.getElem?_append_right (by omega)] at hx
    rw [List.getElem?_append_right (by rw [← h.1]; omega), ← h.1] at hy
    exact k.2 _ x y hx hy

/-- Whatever reads at the type is data of this form. -/
abbrev in64 (n : Int) : Prop := -9223372036854775808 ≤ n ∧ n ≤ 9223372036854775807
def Dec (P : Program) (t : TypeId) {β : Type} (k : Nat) (f : β → List D) (R : β → Prop) : Prop :=
  P.cellsOf t = k ∧ (∀ b, (f b).length = k) ∧
    ∀ (H : Type) (enc : TypeId × Value → H) (W : World) (fuel : Nat) (cs : List Value) (x : DataW H × List MemPlace), DataW.trod enc P W 0 (fun _ => true) true fuel t cs = some x → ∃ b, R b ∧ CellsD W cs (f b)
theorem Dec.map {P : Program} {t : TypeId} {β γ : Type} {k : Nat} {f : β → List D} {f' : γ → List D} {R : β → Prop} {R' : γ → Prop} (h : Dec P t k f R) (g : β → γ) (g' : γ → β) (hg : ∀ b, f' (g b) = f b) (hg' : ∀ c, f' c = f (g' c)) (hR : ∀ b, R b → R' (g b)) : Dec P t k f' R' :=
  ⟨h.1, fun c => by rw [hg', h.2.1], fun H enc W fuel cs x hx => let ⟨b, hr, hb⟩ := h.2.2 H enc W fuel cs x hx; ⟨g b, hR b hr, by rw [hg]; exact hb⟩⟩
theorem Dec.int {P : Program} {t : TypeId} (ht : P.underlying t = some (.int .i64)) (hc : P.cellsOf t = 1) : Dec P t 1 (fun n : Int => [D.v (.int .i64 n)]) in64 :=
  ⟨hc, fun _ => rfl, fun H enc W fuel cs x hx => by
    obtain ⟨n, rfl, _, hw⟩ := DataW.trod_int ht hx
    refine ⟨n, ?_, rfl, fun i x d hx hd => ?_⟩
    · simp only [Lit.wf, Bool.and_eq_true, decide_eq_true_eq] at hw
      have h1 := hw.1
      have h2 := hw.2
      have e1 : IntKind.i64.min = -9223372036854775808 := by decide
      have e2 : IntKind.i64.max = 9223372036854775807 := by decide
      unfold in64
      omega
    · cases i with
      | zero => simp at hx hd; subst hx; subst hd; exact .v _
      | succ i => simp at hx⟩
theorem Dec.bool {P : Program} {t : TypeId} (ht : P.underlying t = some .bool) (hc : P.cellsOf t = 1) : Dec P t 1 (fun n : Bool => [D.v (.bool n)]) (fun _ => True) :=
  ⟨hc, fun _ => rfl, fun H enc W fuel cs x hx => by
    have key : ∃ b, cs = [.bool b] := by
      cases fuel with
      | zero => simp [DataW.trod] at hx
      | succ m =>
        unfold DataW.trod at hx
        rw [ht] at hx
        split at hx <;> simp_all
    obtain ⟨b, rfl⟩ := key
    refine ⟨b, trivial, rfl, fun i x d hx hd => ?_⟩
    cases i with
    | zero => simp at hx hd; subst hx; subst hd; exact .v _
    | succ i => simp at hx⟩
theorem choose_list {β : Type} {p : Nat → β → Prop} : ∀ (n : Nat), (∀ i, i < n → ∃ b, p i b) → ∃ l : List β, l.length = n ∧ ∀ i b, l[i]? = some b → p i b
  | 0, _ => ⟨[], rfl, fun i b h => by simp at h⟩
  | n + 1, h => by
    obtain ⟨l, h1, h2⟩ := choose_list n fun i hi => h i (by omega)
    obtain ⟨b, hb⟩ := h n (by omega)
    refine ⟨l ++ [b], by simp [h1], fun i c hc => ?_⟩
    by_cases hi : i < n
    · rw [List.getElem?_append_left (by omega)] at hc; exact h2 i c hc
    · rw [List.getElem?_append_right (by omega)] at hc
      cases hz : i - l.length with
      | zero =>
        rw [hz] at hc; simp at hc; subst hc
        have : i = n := by omega
        rw [this]; exact hb
      | succ j => rw [hz] at hc; simp at hc
theorem Dec.slice {P : Program} {t e : TypeId} {β : Type} {k : Nat} {f : β → List D} {R : β → Prop} (ht : P.underlying t = some (.slice e)) (hc : P.cellsOf t = 1) (he : Dec P e k f R) (hk0 : 0 < k) : Dec P t 1 (fun l : List β => [D.s k (l.map f)]) (fun l => ∀ b, b ∈ l → R b) := by
  refine ⟨hc, fun _ => rfl, fun H enc W fuel cs x hx => ?_⟩
  have one : ∀ (v : Value) (d : D), RepD zO W v d → CellsD W [v] [d] := fun v d h => ⟨rfl, fun i x d' hx hd => by
    cases i with
    | zero => simp at hx hd; subst hx; subst hd; exact h
    | succ i => simp at hx⟩
  rcases Go.Deep.open_slice ht hx with ⟨rfl, _⟩ | ⟨a, len, cap, m, n, Dx, Pl, rfl, _, hl, hm, hmm, _, hel⟩
  · exact ⟨[], fun b hb => by simp at hb, one _ _ (.e none 0 k (by simp [maxLen]))⟩
  · have hmc : len ≤ m := by rw [hmm]; split <;> omega
    obtain ⟨l, hll, hlp⟩ := choose_list (β := β) (p := fun i b => R b ∧ ∃ cs', W.cells? 0 (a.add (i * P.cellsOf e)) (P.cellsOf e) = some cs' ∧ CellsD W cs' (f b)) len (fun i hi => by
      obtain ⟨cs', h1, h2⟩ := hel i (by omega)
      obtain ⟨b, hr, hb⟩ := he.2.2 H enc W n cs' _ h2
      exact ⟨b, hr, cs', h1, hb⟩)
    refine ⟨l, fun b hb => by obtain ⟨i, hi⟩ := List.getElem?_of_mem hb; exact (hlp i b hi).1, one _ _ ?_⟩
    have hlp := fun i b h => (hlp i b h).2
    cases l with
    | nil =>
      simp at hll
      subst hll
      exact .e _ cap k hm
    | cons b0 l0 =>
      generalize hL : b0 :: l0 = l at hll hlp
      obtain ⟨ab, ao, asp⟩ := a
      have hsp : asp = none := by
        obtain ⟨cs', h1, h2⟩ := hlp 0 b0 (by rw [← hL]; rfl)
        obtain ⟨_, g1, g2⟩ := World.cells?_some h1
        have hj : 0 < cs'.length := by rw [g1, he.1]; exact hk0
        have := g2 0 (by rw [he.1]; exact hk0)
        rw [List.getElem?_eq_getElem hj, Nat.zero_mul] at this
        exact World.cell?_spot (by simpa [Addr.add] using this)
      subst hsp
      have hadd : ∀ p q : Nat, ((⟨ab, ao, none⟩ : Addr).add p).add q = ⟨ab, ao + (p + q), none⟩ := by
        intro p q
        unfold Addr.add
        split <;> split <;> simp <;> omega
      have hcell : ∀ (i : Nat) (b : β), l[i]? = some b → ∀ (j : Nat) (d : D), (f b)[j]? = some d → ∃ x, W.cell? ⟨ab, ao + (i * k + j), none⟩ = some x ∧ RepD zO W x d := by
        intro i b hb j d hd
        obtain ⟨cs', h1, h2⟩ := hlp i b hb
        obtain ⟨_, g1, g2⟩ := World.cells?_some h1
        have hj : j < P.cellsOf e := by rw [he.1, ← he.2.1 b]; exact (List.getElem?_eq_some_iff.1 hd).1
        have hj' : j < cs'.length := by omega
        have := g2 j hj
        rw [List.getElem?_eq_getElem hj', hadd, he.1] at this
        exact ⟨cs'[j], this, h2.2 j _ d (List.getElem?_eq_getElem hj') hd⟩
      have hrow : ∀ (i : Nat) (r : List D), (l.map f)[i]? = some r → ∃ b, l[i]? = some b ∧ r = f b := by
        intro i r hr
        simp only [List.getElem?_map, Option.map_eq_some_iff] at hr
        obtain ⟨b, h1, h2⟩ := hr
        exact ⟨b, h1, h2.symm⟩
      have hlen : len = (l.map f).length := by simp [hll]
      rw [hlen]
      refine .s ab ao cap k (l.map f) (fun q => (W.cell? ⟨ab, ao + q, none⟩).getD undef) (by omega) hm (fun r hr => ?_) (fun _ _ _ _ _ _ => rfl) (fun i r j d hi hj => ?_) (fun i r j d hi hj => ?_)
      · obtain ⟨b, _, rfl⟩ := List.mem_map.1 hr; exact he.2.1 b
      · obtain ⟨b, hb, rfl⟩ := hrow i r hi
        obtain ⟨x, hx, _⟩ := hcell i b hb j d hj
        rw [hx]; rfl
      · obtain ⟨b, hb, rfl⟩ := hrow i r hi
        obtain ⟨x, hx, hr⟩ := hcell i b hb j d hj
        simp only [hx, Option.getD_some]; exact hr

/-! ### Structs -/
theorem drop_take_app {α : Type} (l : List α) (a b : Nat) : (l.drop 0).take (a + b) = (l.drop 0).take a ++ (l.drop a).take b := by
  simp [List.take_add]
theorem Dec.struct4 {P : Program} {t : TypeId} {f0 f1 f2 f3 : Field} {β0 β1 β2 β3 : Type} {k0 k1 k2 k3 : Nat} {e0 : β0 → List D} {e1 : β1 → List D} {e2 : β2 → List D} {e3 : β3 → List D} {R0 : β0 → Prop} {R1 : β1 → Prop} {R2 : β2 → Prop} {R3 : β3 → Prop} (ht : P.underlying t = some (.struct #[f0, f1, f2, f3])) (hc : P.cellsOf t = k0 + k1 + k2 + k3)
    (o0 : f0.offset = 0) (o1 : f1.offset = k0) (o2 : f2.offset = k0 + k1) (o3 : f3.offset = k0 + k1 + k2) (h0 : Dec P f0.type k0 e0 R0) (h1 : Dec P f1.type k1 e1 R1) (h2 : Dec P f2.type k2 e2 R2) (h3 : Dec P f3.type k3 e3 R3) :
    Dec P t (k0 + k1 + k2 + k3) (fun b : β0 × β1 × β2 × β3 => e0 b.1 ++ e1 b.2.1 ++ e2 b.2.2.1 ++ e3 b.2.2.2) (fun b => R0 b.1 ∧ R1 b.2.1 ∧ R2 b.2.2.1 ∧ R3 b.2.2.2) := by
  refine ⟨hc, fun b => by simp [h0.2.1, h1.2.1, h2.2.1, h3.2.1]; omega, fun H enc W fuel cs x hx => ?_⟩
  obtain ⟨xs, n, _, _, hl, hn, hf⟩ := DataW.trod_struct ht hx
  have g0 := hf 0 f0 rfl
  have g1 := hf 1 f1 rfl
  have g2 := hf 2 f2 rfl
  have g3 := hf 3 f3 rfl
  rw [o0, h0.1, List.getElem?_eq_getElem (by rw [hn]; simp)] at g0
  rw [o1, h1.1, List.getElem?_eq_getElem (by rw [hn]; simp)] at g1
  rw [o2, h2.1, List.getElem?_eq_getElem (by rw [hn]; simp)] at g2
  rw [o3, h3.1, List.getElem?_eq_getElem (by rw [hn]; simp)] at g3
  obtain ⟨b0, r0, c0⟩ := h0.2.2 H enc W n _ _ g0
  obtain ⟨b1, r1, c1⟩ := h1.2.2 H enc W n _ _ g1
  obtain ⟨b2, r2, c2⟩ := h2.2.2 H enc W n _ _ g2
  obtain ⟨b3, r3, c3⟩ := h3.2.2 H enc W n _ _ g3
  refine ⟨(b0, b1, b2, b3), ⟨r0, r1, r2, r3⟩, ?_⟩
  have := ((c0.app c1).app c2).app c3
  rwa [← drop_take_app, ← drop_take_app, ← drop_take_app, List.drop_zero, List.take_of_length_le (by omega)] at this

/-! ### Arguments -/
/-- One cell. -/
theorem Dec.arg {P : Program} {t : TypeId} {β : Type} {f : β → D} {R : β → Prop} (h : Dec P t 1 (fun b => [f b]) R) {H : Type} {enc : TypeId × Value → H} {W : World} {v : Value} {d : DataW H} {ps : List MemPlace} (hv : v.cells.toList = [v]) (hx : DataW.Trod enc P W 0 (fun _ => true) true t v d ps) : ∃ b, R b ∧ RepS zO zH W v (.d (f b)) := by
  obtain ⟨fuel, hf⟩ := hx
  obtain ⟨b, hr, hb⟩ := h.2.2 H enc W fuel _ _ hf
  rw [hv] at hb
  exact ⟨b, hr, .d _ _ (hb.2 0 v _ rfl rfl)⟩
/-- A struct. -/
theorem Dec.argG {P : Program} {t : TypeId} {β : Type} {k : Nat} {f : β → List D} {R : β → Prop} (h : Dec P t k f R) (h1 : ∀ b, (f b).all D.one = true) {H : Type} {enc : TypeId × Value → H} {W : World} {cs : Array Value} {d : DataW H} {ps : List MemPlace} (hx : DataW.Trod enc P W 0 (fun _ => true) true t (.agg cs) d ps) :
    ∃ b, R b ∧ RepS zO zH W (.agg cs) (.g ((f b).map .d)) := by
  obtain ⟨fuel, hf⟩ := hx
  obtain ⟨b, hr, hb⟩ := h.2.2 H enc W fuel _ _ hf
  simp only [Value.cells] at hb
  refine ⟨b, hr, ?_⟩
  have := RepS.g (O := zO) (H := zH) (w := W) cs.toList ((f b).map .d) (by simp [hb.1]) (fun x hx => ?_) (fun i x s hx hs => ?_)
  · simpa using this
  · obtain ⟨i, hi⟩ := List.getElem?_of_mem hx
    have hlt : i < (f b).length := by rw [← hb.1]; exact (List.getElem?_eq_some_iff.1 hi).1
    exact (hb.2 i x _ hi (List.getElem?_eq_getElem hlt)).one' (List.all_eq_true.1 (h1 b) _ (List.getElem_mem hlt))
  · simp only [List.getElem?_map, Option.map_eq_some_iff] at hs
    obtain ⟨y, hy, rfl⟩ := hs
    exact .d _ _ (hb.2 i x y hx hy)
theorem reps_nil {O : Nat → Nat} {H : Nat → Value} {w : World} : ∀ (i : Nat) (x : Value) (s : S), ([] : List Value)[i]? = some x → ([] : List S)[i]? = some s → RepS O H w x s := fun i x s h => by simp at h
theorem reps_cons {O : Nat → Nat} {H : Nat → Value} {w : World} {v : Value} {t : S} {vs : List Value} {ts : List S} (h : RepS O H w v t) (k : ∀ (i : Nat) (x : Value) (s : S), vs[i]? = some x → ts[i]? = some s → RepS O H w x s) :
    ∀ (i : Nat) (x : Value) (s : S), (v :: vs)[i]? = some x → (t :: ts)[i]? = some s → RepS O H w x s := fun i x s hx hs => by
  cases i with
  | zero => simp at hx hs; subst hx; subst hs; exact h
  | succ i => exact k i x s (by simpa using hx) (by simpa using hs)
theorem RepS.isB {O : Nat → Nat} {H : Nat → Value} {w : World} {x : Value} {b : Bool} (h : RepS O H w x (Bo b)) : x = .bool b := by
  cases h with
  | d _ _ q => cases q with
    | v _ => rfl
end Go.Eng
end
