/- The engine and the walks that this claim uses, part 7. Written by prune.py out of our own texts. -/
import Derived.Test.YthgcnfolgbaemaaC6
import Derived.ProofKit
import Derived.OpenShut
import Derived.ChangeOld
import Derived.Below
import Derived.Deep.Slices
section
/- Walks, written by gen.py out of hints. -/







set_option linter.unusedVariables false
set_option linter.unusedSimpArgs false
namespace Go.Proofs.Ythgcnfolgbaemaa
open Go.Eng
set_option maxRecDepth 10000
set_option maxHeartbeats 1000000

theorem shrink_Bisimulation_does (a : Abs) (hr : -9223372036854775808 ≤ a.states ∧ a.states ≤ 9223372036854775807) : Does Try.prog false 10 [absS a] (.t [.d (ints (bisR a)), flt (absFault a)]) := by
  refine Does.of_body Try.func10 rfl rfl (by simp) Try.call10 (fun w0 O0 => ?_)
  refine Tr.lenG (n := 0) (i := 2) rfl rfl (fun len0_2 => ?_)
  refine Tr.lenG (n := 0) (i := 4) rfl rfl (fun len0_4 => ?_)
  refine Tr.seq ?_
  refine Tr.region ?_
  refine TrOps.semM (OpSem.box 1 rfl rfl rfl rfl) rfl rfl (by decide) ?_
  refine TrOps.sem (OpSem.move (.inr rfl) rfl) rfl rfl (by decide) ?_
  refine TrOps.semM (OpSem.alloc 3 rfl zc28 rfl) rfl rfl (by decide) ?_
  refine TrOps.nil ?_
  refine At.seq ?_
  refine Tr.seq ?_
  refine Tr.seq ?_
  refine Tr.region ?_
  refine TrOps.sem (OpSem.loadbN rfl rfl rfl vs25 (by first | decide | simp)) rfl rfl (by decide) ?_
  refine TrOps.sem (OpSem.call0 (abstraction_Validate_does a hr) rfl rfl rfl rfl (Les.refl _)) rfl rfl (by decide) ?_
  refine TrOps.semM (OpSem.alloc 4 rfl zc28 rfl) rfl rfl (by decide) ?_
  refine TrOps.storeb rfl rfl rfl rfl rfl rfl rfl vs28 (by first | decide | simp) ?_
  refine TrOps.nil ?_
  refine At.seq ?_
  refine Tr.seq ?_
  refine Tr.region ?_
  refine TrOps.sem (OpSem.loadbN rfl rfl rfl vs28 (by first | decide | simp)) rfl rfl (by decide) ?_
  refine TrOps.sem (OpSem.build rfl rfl pl28 zc28 rfl rfl) rfl rfl (by decide) ?_
  refine TrOps.sem (OpSem.neS2 rfl rfl rfl io28) rfl rfl (by decide) ?_
  refine TrOps.nil ?_
  refine At.seq ?_
  refine Tr.cond rfl (fun c14 => ?_) (fun c14 => ?_)
  · have hne : absFault a ≠ (0, 0) := fun h => by simp [h] at c14
    refine Tr.seq ?_
    refine PC.start [] ?_
    refine PC.sem (OpSem.loadbN rfl rfl rfl vs28 (by first | decide | simp)) rfl rfl ?_
    refine PC.sem (OpSem.move (.inr rfl) rfl) rfl rfl ?_
    refine PC.done0 mixed (by kernel_rfl) (by kernel_rfl) (by kernel_rfl) (by kernel_rfl) (by kernel_rfl) ?_
    refine TrOps.storeb rfl rfl rfl rfl rfl rfl rfl vs28 (by first | decide | simp) ?_
    refine TrOps.nil ?_
    refine At.seq ?_
    refine Tr.ret ?_
    refine At.pass_ret ?_
    exact At.ret rfl (.tmp rfl <| .cellN rfl rfl vs28 <| .nil) rfl (Le.t (.cons (by rw [bisR_1 hne]; exact Le.nil 1) <| .cons (.refl _) <| .nil))
  · have h0 : absFault a = (0, 0) := pair0 (by simpa using c14)
    have hA := (absFault_ok (congrArg Prod.fst h0)).1
    have hst := hA.head.1
    have hns := nS_eq hA
    have hgl := goals_len hA
    refine Tr.skip ?_
    refine At.seq ?_
    refine Tr.seq ?_
    refine Tr.region ?_
    refine TrOps.sem (OpSem.fieldr rfl rfl fo25_0) rfl rfl (by decide) ?_
    refine TrOps.sem (OpSem.loadb1 rfl rfl rfl vs3 rfl) rfl rfl (by decide) ?_
    refine TrOps.semM (OpSem.makeSlice 18 rfl rfl rfl es49 ze49 rfl rfl (by decide) bye49 (by omega) (by omega) (by omega)) rfl rfl (by decide) ?_
    refine TrOps.sem (OpSem.move (.inr rfl) rfl) rfl rfl (by decide) ?_
    refine TrOps.nil ?_
    refine At.seq ?_
    refine Tr.seq ?_
    refine Tr.seq ?_
    refine Tr.region ?_
    refine TrOps.sem (OpSem.fieldr rfl rfl fo25_4) rfl rfl (by decide) ?_
    refine TrOps.sem (OpSem.loadb1 rfl rfl rfl vs23 rfl) rfl rfl (by decide) ?_
    refine TrOps.sem (OpSem.lenL rfl rfl es23) rfl rfl (by decide) ?_
    refine TrOps.sem (OpSem.move (.inl rfl) rfl) rfl rfl (by decide) ?_
    refine TrOps.nil ?_
    refine At.seq ?_
    refine Tr.block ?_
    refine Tr.loop (X := Nat) (fun k => k ≤ a.goals.length) (fun k => [(1, .r 1 0), (3, .r 3 0), (5, .o 18), (20, .d (ints a.goals)), (21, I (a.goals.length)), (22, I (k))]) (fun k => [(18, .own 2 51 ((gpTo a k).map asg)), (1, .box [I (a.states), I (a.labels), .d (arcsD a.arcs), I (a.init), .d (ints a.goals)]), (3, .box [I (0), I (0)])]) (fun k => a.goals.length - k) 0 (by omega) ?_ ?_
    · exact .slot rfl (.refl _) <| .slot rfl (.refl _) <| .slot rfl (.refl _) <| .slot rfl (.refl _) <| .slot rfl (.refl _) <| .slot rfl (Le.of_eq (by simp)) <| .memEq rfl (by rw [gpTo_0, el49]; first | (simp [nS]; done) | (simp [nS]; rfl)) <| .mem rfl <| .mem rfl <| .nil
    · rintro k hkl
      refine Tr.seq ?_
      refine Tr.region ?_
      refine TrOps.sem (OpSem.bin rfl rfl rfl blss) rfl rfl (by decide) ?_
      refine TrOps.nil ?_
      refine At.seq ?_
      refine Tr.seq ?_
      refine Tr.cond rfl (fun c23 => ?_) (fun c23 => ?_)
      · have hk : k < a.goals.length := by simpa using c23
        have hgx := setP_mem hA.goals (nth_mem (l := a.goals) (n := k) (by omega) (by omega))
        refine Tr.skip ?_
        refine At.seq ?_
        refine Tr.seq ?_
        refine Tr.block ?_
        refine Tr.seq ?_
        refine Tr.region ?_
        refine TrOps.sem (OpSem.idxL rfl rfl rfl es23 (by omega) (by omega)) rfl rfl (by decide) ?_
        refine TrOps.sem (OpSem.load1 rfl rfl vs3 rfl) rfl rfl (by decide) ?_
        refine TrOps.sem (OpSem.move (.inr rfl) rfl) rfl rfl (by decide) ?_
        refine TrOps.nil ?_
        refine At.seq ?_
        refine Tr.region ?_
        refine TrOps.sem (OpSem.move (.inl rfl) rfl) rfl rfl (by decide) ?_
        refine TrOps.sem (OpSem.move (.inl rfl) rfl) rfl rfl (by decide) ?_
        refine TrOps.sem (OpSem.idxo rfl rfl rfl rfl es49 (by omega) (by simp [gpTo]; omega)) rfl rfl (by decide) ?_
        refine TrOps.sem (OpSem.fieldq rfl rfl fo51_0) rfl rfl (by decide) ?_
        refine TrOps.storeq rfl rfl rfl rfl rfl rfl rfl vs3 (rows_get (by omega) (by rw [gpTo_len]; omega)) (by simp) ?_
        refine TrOps.nil ?_
        refine At.block_normal ?_
        refine At.seq ?_
        refine Tr.region ?_
        refine TrOps.sem (OpSem.bin rfl rfl rfl (badd (by omega) (by omega))) rfl rfl (by decide) ?_
        refine TrOps.sem (OpSem.move (.inl rfl) rfl) rfl rfl (by decide) ?_
        refine TrOps.nil ?_
        refine At.again (k + 1) (by omega) ?_ (by omega)
        exact .slot rfl (.refl _) <| .slot rfl (.refl _) <| .slot rfl (.refl _) <| .slot rfl (.refl _) <| .slot rfl (.refl _) <| .slot rfl (Le.of_eq (by simp)) <| .memEq rfl (by rw [← gp_set hk hgx.1 (by omega)]) <| .mem rfl <| .mem rfl <| .nil
      · have hk : k = a.goals.length := by simp at c23; omega
        subst hk
        refine Tr.exit ?_
        refine At.pass_exit ?_
        refine At.pass_exit ?_
        refine At.block_same ?_
        refine At.seq ?_
        refine Tr.seq ?_
        refine Tr.region ?_
        refine TrOps.sem (OpSem.move (.inl rfl) rfl) rfl rfl (by decide) ?_
        refine TrOps.sem (OpSem.call (shrink_number_shrink_pair_does (goalP a) (by rw [show (goalP a).length = nS a by simp [goalP]]; omega)).fresh (.inl rfl) rfl rfl rfl rfl (Les.cons (Le.d (by rw [gpTo_end])) .nil)) rfl rfl (by decide) ?_
        refine TrOps.sem (OpSem.move (.inr rfl) rfl) rfl rfl (by decide) ?_
        refine TrOps.nil ?_
        refine At.seq ?_
        refine Tr.block ?_
        refine Tr.loop (X := Nat) (fun k => True) (fun k => [(1, .r 1 0), (3, .r 3 0), (8, .d (ints (prtN a k)))]) (fun k => [(1, .box [I (a.states), I (a.labels), .d (arcsD a.arcs), I (a.init), .d (ints a.goals)]), (3, .box [I (0), I (0)])]) (fun k => nS a - cnt (prtN a k)) 0 trivial ?_ ?_
        · exact .slot rfl (.refl _) <| .slot rfl (.refl _) <| .slot rfl (.refl _) <| .mem rfl <| .mem rfl <| .nil
        · rintro k hkt
          refine Tr.block ?_
          refine Tr.seq ?_
          refine Tr.region ?_
          refine TrOps.sem (OpSem.loadbN rfl rfl rfl vs25 (by first | decide | simp)) rfl rfl (by decide) ?_
          refine TrOps.sem (OpSem.move (.inl rfl) rfl) rfl rfl (by decide) ?_
          refine TrOps.sem (OpSem.call0 (shrink_refine_does a (prtN a k) hA prtN_len).fresh rfl rfl rfl rfl (Les.refl _)) rfl rfl (by decide) ?_
          refine TrOps.sem (OpSem.move (.inr rfl) rfl) rfl rfl (by decide) ?_
          refine TrOps.nil ?_
          refine At.seq ?_
          refine Tr.seq ?_
          refine Tr.seq ?_
          refine Tr.region ?_
          refine TrOps.sem (OpSem.move (.inl rfl) rfl) rfl rfl (by decide) ?_
          refine TrOps.sem (OpSem.move (.inl rfl) rfl) rfl rfl (by decide) ?_
          refine TrOps.sem (OpSem.call0 (slices_Equal_int_int_does (prtN a (k + 1)) (prtN a k)) rfl rfl rfl rfl (Les.refl _)) rfl rfl (by decide) ?_
          refine TrOps.nil ?_
          refine At.seq ?_
          refine Tr.cond rfl (fun c38 => ?_) (fun c38 => ?_)
          · have he : prtN a (k + 1) = prtN a k := of_decide_eq_true c38
            refine Tr.seq ?_
            refine Tr.region ?_
            refine TrOps.sem (OpSem.move (.inl rfl) rfl) rfl rfl (by decide) ?_
            refine TrOps.sem (OpSem.build rfl rfl pl28 zc28 rfl rfl) rfl rfl (by decide) ?_
            refine TrOps.sem (OpSem.move (.inr rfl) rfl) rfl rfl (by decide) ?_
            refine TrOps.storeb rfl rfl rfl rfl rfl rfl rfl vs28 (by first | decide | simp) ?_
            refine TrOps.nil ?_
            refine At.seq ?_
            refine Tr.ret ?_
            refine At.pass_ret ?_
            refine At.block_ret ?_
            refine At.pass_ret ?_
            refine At.block_ret ?_
            exact At.ret rfl (.tmp rfl <| .cellN rfl rfl vs28 <| .nil) rfl (Le.t (.cons (Le.of_eq (by rw [bisR_0 h0, ← bisL_of he])) <| .cons (Le.flt h0.symm) <| .nil))
          · have he : prtN a (k + 1) ≠ prtN a k := of_decide_eq_false c38
            refine Tr.skip ?_
            refine At.seq ?_
            refine Tr.region ?_
            refine TrOps.sem (OpSem.move (.inl rfl) rfl) rfl rfl (by decide) ?_
            refine TrOps.sem (OpSem.move (.inr rfl) rfl) rfl rfl (by decide) ?_
            refine TrOps.nil ?_
            refine At.block_normal ?_
            refine At.again (k + 1) trivial ?_ (bis_lt he)
            exact .slot rfl (.refl _) <| .slot rfl (.refl _) <| .slot rfl (.refl _) <| .mem rfl <| .mem rfl <| .nil

theorem shrink_Quotient_does (a : Abs) (part : List Int) (hr : -9223372036854775808 ≤ a.states ∧ a.states ≤ 9223372036854775807) : Does Try.prog false 16 [absS a, .d (ints part)] (.t [absS (quoR a part), flt (quoF a part)]) := by
  refine Does.of_body Try.func16 rfl rfl (by simp) Try.call16 (fun w0 O0 => ?_)
  refine Tr.lenG (n := 0) (i := 2) rfl rfl (fun len0_2 => ?_)
  refine Tr.lenG (n := 0) (i := 4) rfl rfl (fun len0_4 => ?_)
  refine Tr.lenLe (n := 1) rfl (fun len1 => ?_)
  refine Tr.seq ?_
  refine Tr.region ?_
  refine TrOps.semM (OpSem.box 2 rfl rfl rfl rfl) rfl rfl (by decide) ?_
  refine TrOps.semM (OpSem.alloc 4 rfl zc25 rfl) rfl rfl (by decide) ?_
  refine TrOps.semM (OpSem.alloc 5 rfl zc28 rfl) rfl rfl (by decide) ?_
  refine TrOps.nil ?_
  refine At.seq ?_
  refine Tr.seq ?_
  refine Tr.seq ?_
  refine Tr.region ?_
  refine TrOps.sem (OpSem.loadbN rfl rfl rfl vs25 (by first | decide | simp)) rfl rfl (by decide) ?_
  refine TrOps.sem (OpSem.call0 (abstraction_Validate_does a hr) rfl rfl rfl rfl (Les.refl _)) rfl rfl (by decide) ?_
  refine TrOps.semM (OpSem.alloc 6 rfl zc28 rfl) rfl rfl (by decide) ?_
  refine TrOps.storeb rfl rfl rfl rfl rfl rfl rfl vs28 (by first | decide | simp) ?_
  refine TrOps.nil ?_
  refine At.seq ?_
  refine Tr.seq ?_
  refine Tr.region ?_
  refine TrOps.sem (OpSem.loadbN rfl rfl rfl vs28 (by first | decide | simp)) rfl rfl (by decide) ?_
  refine TrOps.sem (OpSem.build rfl rfl pl28 zc28 rfl rfl) rfl rfl (by decide) ?_
  refine TrOps.sem (OpSem.neS2 rfl rfl rfl io28) rfl rfl (by decide) ?_
  refine TrOps.nil ?_
  refine At.seq ?_
  refine Tr.cond rfl (fun c19 => ?_) (fun c19 => ?_)
  · have hn0 : absFault a ≠ (0, 0) := fun h => by simp [h] at c19
    have he : absFault a = quoF a part := quoF_1 hn0
    have hne : quoF a part ≠ (0, 0) := by rw [← he]; exact hn0
    refine Tr.seq ?_
    refine PC.start [4] ?_
    refine PC.sem (OpSem.build rfl rfl pl25 zc25 rfl rfl) rfl rfl ?_
    refine PC.sem (OpSem.loadbN rfl rfl rfl vs28 (by first | decide | simp)) rfl rfl ?_
    refine PC.storeb 100002 rfl rfl rfl rfl rfl rfl rfl vs25 (by first | decide | simp) ?_
    refine PC.done mixed (by kernel_rfl) (by kernel_rfl) (by kernel_rfl) (by kernel_rfl) ?_
    refine TrOps.storeb rfl rfl rfl rfl rfl rfl rfl vs28 (by first | decide | simp) ?_
    refine TrOps.nil ?_
    refine At.seq ?_
    refine Tr.ret ?_
    refine At.pass_ret ?_
    exact At.ret rfl (.cellN rfl rfl vs25 <| .cellN rfl rfl vs28 <| .nil) rfl (Le.t (.cons (by rw [quoR_1 hne]; exact Le.g (.cons (.refl _) <| .cons (.refl _) <| .cons (Le.nil 3) <| .cons (.refl _) <| .cons (Le.nil 1) <| .nil)) <| .cons (Le.flt he) <| .nil))
  · have h0 : absFault a = (0, 0) := pair0 (by simpa using c19)
    have hA := (absFault_ok (congrArg Prod.fst h0)).1
    have hst := hA.head.1
    have hns := nS_eq hA
    have hgl := goals_len hA
    have hal := hA.len
    have hin := hA.head.2.2
    refine Tr.skip ?_
    refine At.seq ?_
    refine Tr.seq ?_
    refine Tr.seq ?_
    refine Tr.region ?_
    refine TrOps.sem (OpSem.move (.inl rfl) rfl) rfl rfl (by decide) ?_
    refine TrOps.sem (OpSem.lenL rfl rfl es23) rfl rfl (by decide) ?_
    refine TrOps.sem (OpSem.fieldr rfl rfl fo25_0) rfl rfl (by decide) ?_
    refine TrOps.sem (OpSem.loadb1 rfl rfl rfl vs3 rfl) rfl rfl (by decide) ?_
    refine TrOps.sem (OpSem.bin rfl rfl rfl bneq) rfl rfl (by decide) ?_
    refine TrOps.nil ?_
    refine At.seq ?_
    refine Tr.cond rfl (fun c26 => ?_) (fun c26 => ?_)
    · have he : (9, -4) = quoF a part := quoF_2 h0 (by simpa using c26)
      have hne : quoF a part ≠ (0, 0) := by rw [← he]; decide
      refine Tr.seq ?_
      refine Tr.region ?_
      refine TrOps.sem (OpSem.build rfl rfl pl25 zc25 rfl rfl) rfl rfl (by decide) ?_
      refine TrOps.sem (OpSem.build rfl rfl pl28 zc28 rfl rfl) rfl rfl (by decide) ?_
      refine TrOps.storeb rfl rfl rfl rfl rfl rfl rfl vs25 (by first | decide | simp) ?_
      refine TrOps.storeb rfl rfl rfl rfl rfl rfl rfl vs28 (by first | decide | simp) ?_
      refine TrOps.nil ?_
      refine At.seq ?_
      refine Tr.ret ?_
      refine At.pass_ret ?_
      exact At.ret rfl (.cellN rfl rfl vs25 <| .cellN rfl rfl vs28 <| .nil) rfl (Le.t (.cons (by rw [quoR_1 hne]; exact Le.g (.cons (.refl _) <| .cons (.refl _) <| .cons (Le.nil 3) <| .cons (.refl _) <| .cons (Le.nil 1) <| .nil)) <| .cons (Le.flt he) <| .nil))
    · have hln : (part.length : Int) = a.states := by simpa using c26
      refine Tr.skip ?_
      refine At.seq ?_
      refine Tr.seq ?_
      refine Tr.region ?_
      refine TrOps.sem (OpSem.move (.inr rfl) rfl) rfl rfl (by decide) ?_
      refine TrOps.nil ?_
      refine At.seq ?_
      refine Tr.seq ?_
      refine Tr.seq ?_
      refine Tr.region ?_
      refine TrOps.sem (OpSem.move (.inl rfl) rfl) rfl rfl (by decide) ?_
      refine TrOps.sem (OpSem.lenL rfl rfl es23) rfl rfl (by decide) ?_
      refine TrOps.sem (OpSem.move (.inl rfl) rfl) rfl rfl (by decide) ?_
      refine TrOps.nil ?_
      refine At.seq ?_
      refine Tr.block ?_
      refine Tr.loop (X := Nat) (fun k => k ≤ part.length ∧ (∀ i : Nat, i < k → 0 ≤ nth part i ∧ nth part i ≤ topTo part i)) (fun k => [(1, .d (ints part)), (2, .r 2 0), (4, .r 4 0), (5, .r 5 0), (7, I ((topTo part k))), (29, .d (ints part)), (30, I (part.length)), (31, I (k))]) (fun k => [(2, .box [I (a.states), I (a.labels), .d (arcsD a.arcs), I (a.init), .d (ints a.goals)]), (4, .box [I (0), I (0), .d (.v (.slice none 0 0)), I (0), .d (.v (.slice none 0 0))]), (5, .box [I (0), I (0)])]) (fun k => part.length - k) 0 ⟨by omega, by simp⟩ ?_ ?_
      · exact .slot rfl (.refl _) <| .slot rfl (.refl _) <| .slot rfl (.refl _) <| .slot rfl (.refl _) <| .slot rfl (Le.of_eq (by simp [topTo])) <| .slot rfl (.refl _) <| .slot rfl (.refl _) <| .slot rfl (Le.of_eq (by simp)) <| .mem rfl <| .mem rfl <| .mem rfl <| .nil
      · rintro k ⟨hkl, hinv⟩
        refine Tr.seq ?_
        refine Tr.region ?_
        refine TrOps.sem (OpSem.bin rfl rfl rfl blss) rfl rfl (by decide) ?_
        refine TrOps.nil ?_
        refine At.seq ?_
        refine Tr.seq ?_
        refine Tr.cond rfl (fun c32 => ?_) (fun c32 => ?_)
        · have hk : k < part.length := by simpa using c32
          have htp := pre_top (p := part) (k := k) (fun i hi => (hinv i hi).2)
          refine Tr.skip ?_
          refine At.seq ?_
          refine Tr.seq ?_
          refine Tr.block ?_
          refine Tr.seq ?_
          refine Tr.region ?_
          refine TrOps.sem (OpSem.idxL rfl rfl rfl es23 (by omega) (by omega)) rfl rfl (by decide) ?_
          refine TrOps.sem (OpSem.load1 rfl rfl vs3 rfl) rfl rfl (by decide) ?_
          refine TrOps.sem (OpSem.move (.inr rfl) rfl) rfl rfl (by decide) ?_
          refine TrOps.nil ?_
          refine At.seq ?_
          refine Tr.seq ?_
          refine Tr.seq ?_
          refine Tr.region ?_
          refine TrOps.sem (OpSem.move (.inl rfl) rfl) rfl rfl (by decide) ?_
          refine TrOps.sem (OpSem.bin rfl rfl rfl blss) rfl rfl (by decide) ?_
          refine TrOps.sem (OpSem.move (.inl rfl) rfl) rfl rfl (by decide) ?_
          refine TrOps.split (n := 37) rfl (fun c37 => ?_) (fun c37 => ?_)
          · have he : (5, -4) = quoF a part := quoF_3 h0 hln (fun hp => by have := (hp k hk).1; simp at c37; omega)
            have hne : quoF a part ≠ (0, 0) := by rw [← he]; decide
            refine TrOps.gF rfl rfl rfl rfl c37 rfl (by decide) ?_
            refine TrOps.gF rfl rfl rfl rfl c37 rfl (by decide) ?_
            refine TrOps.gF rfl rfl rfl rfl c37 rfl (by decide) ?_
            refine TrOps.sem (OpSem.pickT rfl rfl c37 rfl) rfl rfl (by decide) ?_
            refine TrOps.nil ?_
            refine At.seq ?_
            refine Tr.condT rfl rfl ?_
            refine Tr.seq ?_
            refine Tr.region ?_
            refine TrOps.sem (OpSem.build rfl rfl pl25 zc25 rfl rfl) rfl rfl (by decide) ?_
            refine TrOps.sem (OpSem.build rfl rfl pl28 zc28 rfl rfl) rfl rfl (by decide) ?_
            refine TrOps.storeb rfl rfl rfl rfl rfl rfl rfl vs25 (by first | decide | simp) ?_
            refine TrOps.storeb rfl rfl rfl rfl rfl rfl rfl vs28 (by first | decide | simp) ?_
            refine TrOps.nil ?_
            refine At.seq ?_
            refine Tr.ret ?_
            refine At.pass_ret ?_
            refine At.block_ret ?_
            refine At.pass_ret ?_
            refine At.pass_ret ?_
            refine At.block_ret ?_
            refine At.pass_ret ?_
            exact At.ret rfl (.cellN rfl rfl vs25 <| .cellN rfl rfl vs28 <| .nil) rfl (Le.t (.cons (by rw [quoR_1 hne]; exact Le.g (.cons (.refl _) <| .cons (.refl _) <| .cons (Le.nil 3) <| .cons (.refl _) <| .cons (Le.nil 1) <| .nil)) <| .cons (Le.flt he) <| .nil))
          · refine TrOps.gT rfl rfl rfl rfl c37 ?_
            refine TrOps.sem (OpSem.move (.inl rfl) rfl) rfl rfl (by decide) ?_
            refine TrOps.gT rfl rfl rfl rfl c37 ?_
            refine TrOps.sem (OpSem.move (.inl rfl) rfl) rfl rfl (by decide) ?_
            refine TrOps.gT rfl rfl rfl rfl c37 ?_
            refine TrOps.sem (OpSem.bin rfl rfl rfl bgtr) rfl rfl (by decide) ?_
            refine TrOps.sem (OpSem.pickF rfl rfl c37 rfl) rfl rfl (by decide) ?_
            refine TrOps.nil ?_
            refine At.seq ?_
            refine Tr.cond rfl (fun c41 => ?_) (fun c41 => ?_)
            · have he : (5, -4) = quoF a part := quoF_3 h0 hln (fun hp => by have := (hp k hk).2; simp at c41; omega)
              have hne : quoF a part ≠ (0, 0) := by rw [← he]; decide
              refine Tr.seq ?_
              refine Tr.region ?_
              refine TrOps.sem (OpSem.build rfl rfl pl25 zc25 rfl rfl) rfl rfl (by decide) ?_
              refine TrOps.sem (OpSem.build rfl rfl pl28 zc28 rfl rfl) rfl rfl (by decide) ?_
              refine TrOps.storeb rfl rfl rfl rfl rfl rfl rfl vs25 (by first | decide | simp) ?_
              refine TrOps.storeb rfl rfl rfl rfl rfl rfl rfl vs28 (by first | decide | simp) ?_
              refine TrOps.nil ?_
              refine At.seq ?_
              refine Tr.ret ?_
              refine At.pass_ret ?_
              refine At.block_ret ?_
              refine At.pass_ret ?_
              refine At.pass_ret ?_
              refine At.block_ret ?_
              refine At.pass_ret ?_
              exact At.ret rfl (.cellN rfl rfl vs25 <| .cellN rfl rfl vs28 <| .nil) rfl (Le.t (.cons (by rw [quoR_1 hne]; exact Le.g (.cons (.refl _) <| .cons (.refl _) <| .cons (Le.nil 3) <| .cons (.refl _) <| .cons (Le.nil 1) <| .nil)) <| .cons (Le.flt he) <| .nil))
            · have hq : 0 ≤ nth part k ∧ nth part k ≤ topTo part k := by simp at c37 c41; omega
              refine Tr.skip ?_
              refine At.seq ?_
              refine Tr.region ?_
              refine TrOps.sem (OpSem.move (.inl rfl) rfl) rfl rfl (by decide) ?_
              refine TrOps.sem (OpSem.move (.inl rfl) rfl) rfl rfl (by decide) ?_
              refine TrOps.sem (OpSem.bin rfl rfl rfl (badd (by omega) (by omega))) rfl rfl (by decide) ?_
              refine TrOps.sem (OpSem.max2 rfl rfl rfl) rfl rfl (by decide) ?_
              refine TrOps.sem (OpSem.move (.inr rfl) rfl) rfl rfl (by decide) ?_
              refine TrOps.nil ?_
              refine At.block_normal ?_
              refine At.seq ?_
              refine Tr.region ?_
              refine TrOps.sem (OpSem.bin rfl rfl rfl (badd (by omega) (by omega))) rfl rfl (by decide) ?_
              refine TrOps.sem (OpSem.move (.inl rfl) rfl) rfl rfl (by decide) ?_
              refine TrOps.nil ?_
              refine At.again (k + 1) ⟨by omega, all_succ hinv hq⟩ ?_ (by omega)
              exact .slot rfl (.refl _) <| .slot rfl (.refl _) <| .slot rfl (.refl _) <| .slot rfl (.refl _) <| .slot rfl (Le.of_eq (by simp [topTo])) <| .slot rfl (.refl _) <| .slot rfl (.refl _) <| .slot rfl (Le.of_eq (by simp)) <| .mem rfl <| .mem rfl <| .mem rfl <| .nil
        · have hk : k = part.length := by simp at c32; omega
          subst hk
          have hF : quoF a part = (0, 0) := quoF_of hA hln hinv
          refine Tr.exit ?_
          refine At.pass_exit ?_
          refine At.pass_exit ?_
          refine At.block_same ?_
          refine At.seq ?_
          refine Tr.seq ?_
          refine PC.start [] ?_
          refine PC.sem (OpSem.move (.inl rfl) rfl) rfl rfl ?_
          refine PC.sem (OpSem.fieldr rfl rfl fo25_1) rfl rfl ?_
          refine PC.sem (OpSem.loadb1 rfl rfl rfl vs3 rfl) rfl rfl ?_
          refine PC.sem (OpSem.move (.inl rfl) rfl) rfl rfl ?_
          refine PC.sem (OpSem.fieldr rfl rfl fo25_3) rfl rfl ?_
          refine PC.sem (OpSem.loadb1 rfl rfl rfl vs3 rfl) rfl rfl ?_
          refine PC.sem (OpSem.idxL rfl rfl rfl es23 (by omega) (by omega)) rfl rfl ?_
          refine PC.sem (OpSem.load1 rfl rfl vs3 rfl) rfl rfl ?_
          refine PC.sem (OpSem.build rfl rfl pl25 zc25 rfl rfl) rfl rfl ?_
          refine PC.semM (OpSem.alloc 10 rfl zc25 rfl) rfl rfl ?_
          refine PC.done1 10 (.box [I (0), I (0), .d (.v (.slice none 0 0)), I (0), .d (.v (.slice none 0 0))]) mixed (by kernel_rfl) (by kernel_rfl) (by kernel_rfl) (by kernel_rfl) (by kernel_rfl) ?_
          refine TrOps.storeb rfl rfl rfl rfl rfl rfl rfl vs25 (by first | decide | simp) ?_
          refine TrOps.nil ?_
          refine At.seq ?_
          refine Tr.seq ?_
          refine Tr.seq ?_
          refine Tr.ownNilBox 91 10 4 1 3 rfl rfl rfl ?_
          refine Tr.ownNilBox 92 10 2 3 57 rfl rfl rfl ?_
          refine Tr.region ?_
          refine TrOps.sem (OpSem.fieldr rfl rfl fo25_4) rfl rfl (by decide) ?_
          refine TrOps.sem (OpSem.loadb1 rfl rfl rfl vs23 rfl) rfl rfl (by decide) ?_
          refine TrOps.sem (OpSem.lenL rfl rfl es23) rfl rfl (by decide) ?_
          refine TrOps.sem (OpSem.move (.inl rfl) rfl) rfl rfl (by decide) ?_
          refine TrOps.nil ?_
          refine At.seq ?_
          refine Tr.block ?_
          refine Tr.loop (X := Nat) (fun k => k ≤ a.goals.length) (fun k => [(1, .d (ints part)), (2, .r 2 0), (4, .r 4 0), (5, .r 5 0), (10, .r 10 0), (59, .d (ints a.goals)), (60, I (a.goals.length)), (61, I (k))]) (fun k => [(10, .box [I ((topTo part part.length)), I (a.labels), .o 92, I (nth part a.init), .o 91]), (91, .own 1 3 ((qGoTo a part k).map fun n => [D.v (.int .i64 n)])), (92, .own 3 57 (([] : List Arc).map arcC)), (2, .box [I (a.states), I (a.labels), .d (arcsD a.arcs), I (a.init), .d (ints a.goals)]), (4, .box [I (0), I (0), .d (.v (.slice none 0 0)), I (0), .d (.v (.slice none 0 0))]), (5, .box [I (0), I (0)])]) (fun k => a.goals.length - k) 0 (by omega) ?_ ?_
          · exact .slot rfl (.refl _) <| .slot rfl (.refl _) <| .slot rfl (.refl _) <| .slot rfl (.refl _) <| .slot rfl (.refl _) <| .slot rfl (.refl _) <| .slot rfl (.refl _) <| .slot rfl (Le.of_eq (by simp)) <| .mem rfl <| .memEq rfl (by first | (simp [qGoTo]; done) | (simp [qGoTo]; rfl)) <| .memEq rfl rfl <| .mem rfl <| .mem rfl <| .mem rfl <| .nil
          · rintro k hkl
            refine Tr.seq ?_
            refine Tr.region ?_
            refine TrOps.sem (OpSem.bin rfl rfl rfl blss) rfl rfl (by decide) ?_
            refine TrOps.nil ?_
            refine At.seq ?_
            refine Tr.seq ?_
            refine Tr.cond rfl (fun c62 => ?_) (fun c62 => ?_)
            · have hk : k < a.goals.length := by simpa using c62
              have hgx := setP_mem hA.goals (nth_mem (l := a.goals) (n := k) (by omega) (by omega))
              have hql := qGo_len (a := a) (p := part) (Nat.le_of_lt hk)
              refine Tr.skip ?_
              refine At.seq ?_
              refine Tr.seq ?_
              refine Tr.block ?_
              refine Tr.seq ?_
              refine Tr.region ?_
              refine TrOps.sem (OpSem.idxL rfl rfl rfl es23 (by omega) (by omega)) rfl rfl (by decide) ?_
              refine TrOps.sem (OpSem.load1 rfl rfl vs3 rfl) rfl rfl (by decide) ?_
              refine TrOps.sem (OpSem.move (.inr rfl) rfl) rfl rfl (by decide) ?_
              refine TrOps.nil ?_
              refine At.seq ?_
              refine PC.start [] ?_
              refine PC.sem (OpSem.fieldr rfl rfl fo25_4) rfl rfl ?_
              refine PC.sem (OpSem.loadb1 rfl rfl rfl vs23 rfl) rfl rfl ?_
              refine PC.sem (OpSem.move (.inl rfl) rfl) rfl rfl ?_
              refine PC.sem (OpSem.move (.inl rfl) rfl) rfl rfl ?_
              refine PC.sem (OpSem.idxL rfl rfl rfl es23 (by omega) (by omega)) rfl rfl ?_
              refine PC.sem (OpSem.load1 rfl rfl vs3 rfl) rfl rfl ?_
              refine PC.sem (OpSem.buildSlice rfl rfl es23 ze23 rfl rfl (by decide) (by decide) rfl rfl) rfl rfl ?_
              refine PC.done0 mixed (by kernel_rfl) (by kernel_rfl) (by kernel_rfl) (by kernel_rfl) (by kernel_rfl) ?_
              refine TrOps.append rfl rfl rfl (by decide) rfl rfl rfl es23 el23 zc3 rfl by3 (by simp [D.one, Value.oneCell']) (by simp [maxLen]; omega) (by simp; omega) ?_
              refine TrOps.sem (OpSem.fieldr rfl rfl fo25_4) rfl rfl (by decide) ?_
              refine TrOps.storeb rfl rfl rfl rfl rfl rfl rfl vs23 (by first | decide | simp) ?_
              refine TrOps.nil ?_
              refine At.block_normal ?_
              refine At.seq ?_
              refine Tr.region ?_
              refine TrOps.sem (OpSem.bin rfl rfl rfl (badd (by omega) (by omega))) rfl rfl (by decide) ?_
              refine TrOps.sem (OpSem.move (.inl rfl) rfl) rfl rfl (by decide) ?_
              refine TrOps.nil ?_
              refine At.again (k + 1) (by omega) ?_ (by omega)
              exact .slot rfl (.refl _) <| .slot rfl (.refl _) <| .slot rfl (.refl _) <| .slot rfl (.refl _) <| .slot rfl (.refl _) <| .slot rfl (.refl _) <| .slot rfl (.refl _) <| .slot rfl (Le.of_eq (by simp)) <| .mem rfl <| .memEq rfl (by rw [qGo_s hk]; simp) <| .memEq rfl rfl <| .mem rfl <| .mem rfl <| .mem rfl <| .nil
            · have hk : k = a.goals.length := by simp at c62; omega
              subst hk
              have hql := qGo_len (a := a) (p := part) (k := a.goals.length) (Nat.le_refl _)
              refine Tr.exit ?_
              refine At.pass_exit ?_
              refine At.pass_exit ?_
              refine At.block_same ?_
              refine At.seq ?_
              refine Tr.seq ?_
              refine Tr.region ?_
              refine TrOps.sem (OpSem.fieldr rfl rfl fo25_4) rfl rfl (by decide) ?_
              refine TrOps.sem (OpSem.loadb1 rfl rfl rfl vs23 rfl) rfl rfl (by decide) ?_
              refine TrOps.ofSt (OpSt.callWS (s := .t []) (sortI_W (qGoTo a part a.goals.length) (by omega)) rfl rfl rfl (fun H => rfl) (plain_ints _) (fun O H w => .t [] [] rfl (fun i x s h => by simp at h))) rfl rfl rfl (by decide) ?_
              refine TrOps.nil ?_
              refine At.seq ?_
              refine Tr.seq ?_
              refine Tr.region ?_
              refine TrOps.sem (OpSem.fieldr rfl rfl fo25_4) rfl rfl (by decide) ?_
              refine TrOps.sem (OpSem.loadb1 rfl rfl rfl vs23 rfl) rfl rfl (by decide) ?_
              refine TrOps.callW (s := .o 91) (compact_allI (sortI (qGoTo a part a.goals.length)) (by rw [sortI_len]; omega)) rfl rfl rfl (by decide) rfl rfl rfl (fun H => rfl) (plain_ints _) (fun O H w h1 => .o 91 h1) ?_
              refine TrOps.sem (OpSem.fieldr rfl rfl fo25_4) rfl rfl (by decide) ?_
              refine TrOps.storeb rfl rfl rfl rfl rfl rfl rfl vs23 (by first | decide | simp) ?_
              refine TrOps.nil ?_
              refine At.seq ?_
              refine Tr.seq ?_
              refine Tr.seq ?_
              refine Tr.freeze 91 rfl ?_
              refine Tr.region ?_
              refine TrOps.sem (OpSem.fieldr rfl rfl fo25_2) rfl rfl (by decide) ?_
              refine TrOps.sem (OpSem.loadb1 rfl rfl rfl vs22 rfl) rfl rfl (by decide) ?_
              refine TrOps.sem (OpSem.lenL rfl rfl es22) rfl rfl (by decide) ?_
              refine TrOps.sem (OpSem.move (.inl rfl) rfl) rfl rfl (by decide) ?_
              refine TrOps.nil ?_
              refine At.seq ?_
              refine Tr.block ?_
              refine Tr.loop (X := Nat) (fun k => k ≤ a.arcs.length) (fun k => [(1, .d (ints part)), (4, .r 4 0), (5, .r 5 0), (10, .r 10 0), (83, .d (arcsD a.arcs)), (84, I (a.arcs.length)), (85, I (k))]) (fun k => [(10, .box [I ((topTo part part.length)), I (a.labels), .o 92, I (nth part a.init), .d (ints (dd (sortI (qGoTo a part a.goals.length))))]), (92, .own 3 57 ((qArcTo a part k).map arcC)), (4, .box [I (0), I (0), .d (.v (.slice none 0 0)), I (0), .d (.v (.slice none 0 0))]), (5, .box [I (0), I (0)])]) (fun k => a.arcs.length - k) 0 (by omega) ?_ ?_
              · exact .slot rfl (.refl _) <| .slot rfl (.refl _) <| .slot rfl (.refl _) <| .slot rfl (.refl _) <| .slot rfl (.refl _) <| .slot rfl (.refl _) <| .slot rfl (Le.of_eq (by simp)) <| .mem rfl <| .memEq rfl (by first | (simp [qArcTo]; done) | (simp [qArcTo]; rfl)) <| .mem rfl <| .mem rfl <| .nil
              · rintro k hkl
                refine Tr.seq ?_
                refine Tr.region ?_
                refine TrOps.sem (OpSem.bin rfl rfl rfl blss) rfl rfl (by decide) ?_
                refine TrOps.nil ?_
                refine At.seq ?_
                refine Tr.seq ?_
                refine Tr.cond rfl (fun c86 => ?_) (fun c86 => ?_)
                · have hk : k < a.arcs.length := by simpa using c86
                  have hx := hA.arc k hk
                  have hql2 := qArc_len (a := a) (p := part) (Nat.le_of_lt hk)
                  refine Tr.skip ?_
                  refine At.seq ?_
                  refine Tr.seq ?_
                  refine Tr.block ?_
                  refine Tr.seq ?_
                  refine Tr.region ?_
                  refine TrOps.sem (OpSem.idxL rfl rfl rfl es22 (by omega) (by omega)) rfl rfl (by decide) ?_
                  refine TrOps.sem (OpSem.loadN rfl rfl vs57 (by first | decide | simp) rfl) rfl rfl (by decide) ?_
                  refine TrOps.semM (OpSem.alloc 14 rfl zc57 rfl) rfl rfl (by decide) ?_
                  refine TrOps.storeb rfl rfl rfl rfl rfl rfl rfl vs57 (by first | decide | simp) ?_
                  refine TrOps.nil ?_
                  refine At.seq ?_
                  refine PC.start [] ?_
                  refine PC.sem (OpSem.fieldr rfl rfl fo25_2) rfl rfl ?_
                  refine PC.sem (OpSem.loadb1 rfl rfl rfl vs22 rfl) rfl rfl ?_
                  refine PC.sem (OpSem.move (.inl rfl) rfl) rfl rfl ?_
                  refine PC.sem (OpSem.fieldr rfl rfl fo57_0) rfl rfl ?_
                  refine PC.sem (OpSem.loadb1 rfl rfl rfl vs3 rfl) rfl rfl ?_
                  refine PC.sem (OpSem.idxL rfl rfl rfl es23 (by omega) (by omega)) rfl rfl ?_
                  refine PC.sem (OpSem.load1 rfl rfl vs3 rfl) rfl rfl ?_
                  refine PC.sem (OpSem.fieldr rfl rfl fo57_1) rfl rfl ?_
                  refine PC.sem (OpSem.loadb1 rfl rfl rfl vs3 rfl) rfl rfl ?_
                  refine PC.sem (OpSem.move (.inl rfl) rfl) rfl rfl ?_
                  refine PC.sem (OpSem.fieldr rfl rfl fo57_2) rfl rfl ?_
                  refine PC.sem (OpSem.loadb1 rfl rfl rfl vs3 rfl) rfl rfl ?_
                  refine PC.sem (OpSem.idxL rfl rfl rfl es23 (by omega) (by omega)) rfl rfl ?_
                  refine PC.sem (OpSem.load1 rfl rfl vs3 rfl) rfl rfl ?_
                  refine PC.sem (OpSem.build rfl rfl pl57 zc57 rfl rfl) rfl rfl ?_
                  refine PC.sem (OpSem.buildSlice rfl rfl es22 ze22 rfl rfl (by decide) (by decide) rfl rfl) rfl rfl ?_
                  refine PC.done0 mixed (by kernel_rfl) (by kernel_rfl) (by kernel_rfl) (by kernel_rfl) (by kernel_rfl) ?_
                  refine TrOps.append rfl rfl rfl (by decide) rfl rfl rfl es22 el22 zc57 rfl by57 (by simp [D.one, Value.oneCell']) (by simp [maxLen]; omega) (by simp; omega) ?_
                  refine TrOps.sem (OpSem.fieldr rfl rfl fo25_2) rfl rfl (by decide) ?_
                  refine TrOps.storeb rfl rfl rfl rfl rfl rfl rfl vs22 (by first | decide | simp) ?_
                  refine TrOps.nil ?_
                  refine At.block_normal ?_
                  refine At.seq ?_
                  refine Tr.region ?_
                  refine TrOps.sem (OpSem.bin rfl rfl rfl (badd (by omega) (by omega))) rfl rfl (by decide) ?_
                  refine TrOps.sem (OpSem.move (.inl rfl) rfl) rfl rfl (by decide) ?_
                  refine TrOps.nil ?_
                  refine At.again (k + 1) (by omega) ?_ (by omega)
                  exact .slot rfl (.refl _) <| .slot rfl (.refl _) <| .slot rfl (.refl _) <| .slot rfl (.refl _) <| .slot rfl (.refl _) <| .slot rfl (.refl _) <| .slot rfl (Le.of_eq (by simp)) <| .mem rfl <| .memEq rfl (by rw [qArc_s hk]; simp) <| .mem rfl <| .mem rfl <| .nil
                · have hk : k = a.arcs.length := by simp at c86; omega
                  subst hk
                  have hql2 := qArc_len (a := a) (p := part) (k := a.arcs.length) (Nat.le_refl _)
                  refine Tr.exit ?_
                  refine At.pass_exit ?_
                  refine At.pass_exit ?_
                  refine At.block_same ?_
                  refine At.seq ?_
                  refine Tr.seq ?_
                  refine Tr.region ?_
                  refine TrOps.sem (OpSem.loadbN rfl rfl rfl vs25 (by first | decide | simp)) rfl rfl (by decide) ?_
                  refine TrOps.callAbs (fun q n c => sorted_all (qArcTo a part a.arcs.length) (topTo part part.length) a.labels (nth part a.init) q n c (by omega)) rfl rfl rfl (by decide) rfl rfl rfl (plain_arcs _) ?_
                  refine TrOps.freeze 92 rfl ?_
                  refine TrOps.sem (OpSem.build rfl rfl pl28 zc28 rfl rfl) rfl rfl (by decide) ?_
                  refine TrOps.storeb rfl rfl rfl rfl rfl rfl rfl vs25 (by first | decide | simp) ?_
                  refine TrOps.storeb rfl rfl rfl rfl rfl rfl rfl vs28 (by first | decide | simp) ?_
                  refine TrOps.nil ?_
                  refine At.seq ?_
                  refine Tr.ret ?_
                  exact At.ret rfl (.cellN rfl rfl vs25 <| .cellN rfl rfl vs28 <| .nil) rfl (Le.t (.cons (Le.of_eq (by rw [quoR_0 hF]; rfl)) <| .cons (Le.flt hF.symm) <| .nil))

theorem law_shrinkExample_does  : Does Try.prog false 9 [] (Bo true) := by
  refine Does.of_body Try.func9 rfl rfl (by simp) Try.call9 (fun w0 O0 => ?_)
  refine Tr.seq ?_
  refine Tr.region ?_
  refine TrOps.sem (OpSem.move (.inr rfl) rfl) rfl rfl (by decide) ?_
  refine TrOps.nil ?_
  refine At.seq ?_
  refine Tr.seq ?_
  refine Tr.region ?_
  refine TrOps.sem (OpSem.call0 (law_line_does) rfl rfl rfl rfl (Les.refl _)) rfl rfl (by decide) ?_
  refine TrOps.sem (OpSem.call0 (shrink_Bisimulation_does lineA (by decide)) rfl rfl rfl rfl (Les.refl _)) rfl rfl (by decide) ?_
  refine TrOps.sem (OpSem.move (.inl rfl) rfl) rfl rfl (by decide) ?_
  refine TrOps.sem (OpSem.extract rfl rfl rfl) rfl rfl (by decide) ?_
  refine TrOps.sem (OpSem.extract rfl rfl rfl) rfl rfl (by decide) ?_
  refine TrOps.semM (OpSem.alloc 2 rfl zc28 rfl) rfl rfl (by decide) ?_
  refine TrOps.sem (OpSem.move (.inr rfl) rfl) rfl rfl (by decide) ?_
  refine TrOps.storeb rfl rfl rfl rfl rfl rfl rfl vs28 (by first | decide | simp) ?_
  refine TrOps.nil ?_
  refine At.seq ?_
  refine Tr.seq ?_
  refine Tr.region ?_
  refine TrOps.sem (OpSem.call0 (law_line_does) rfl rfl rfl rfl (Les.refl _)) rfl rfl (by decide) ?_
  refine TrOps.sem (OpSem.le (s' := .d (ints [0, 1, 0])) (OpSem.buildSlice rfl rfl es23 ze23 rfl rfl (by decide) (by decide) rfl rfl) (Le.of_eq rfl)) rfl rfl (by decide) ?_
  refine TrOps.sem (OpSem.call0 (shrink_Quotient_does lineA [0, 1, 0] (by decide)) rfl rfl rfl rfl (Les.refl _)) rfl rfl (by decide) ?_
  refine TrOps.sem (OpSem.move (.inl rfl) rfl) rfl rfl (by decide) ?_
  refine TrOps.sem (OpSem.extract rfl rfl rfl) rfl rfl (by decide) ?_
  refine TrOps.sem (OpSem.extract rfl rfl rfl) rfl rfl (by decide) ?_
  refine TrOps.semM (OpSem.alloc 3 rfl zc25 rfl) rfl rfl (by decide) ?_
  refine TrOps.semM (OpSem.alloc 4 rfl zc28 rfl) rfl rfl (by decide) ?_
  refine TrOps.storeb rfl rfl rfl rfl rfl rfl rfl vs25 (by first | decide | simp) ?_
  refine TrOps.storeb rfl rfl rfl rfl rfl rfl rfl vs28 (by first | decide | simp) ?_
  refine TrOps.nil ?_
  refine At.seq ?_
  refine Tr.seq ?_
  refine Tr.region ?_
  refine TrOps.sem (OpSem.fieldr rfl rfl fo28_0) rfl rfl (by decide) ?_
  refine TrOps.sem (OpSem.loadb1 rfl rfl rfl vs3 rfl) rfl rfl (by decide) ?_
  refine TrOps.sem (OpSem.bin rfl rfl rfl beql) rfl rfl (by decide) ?_
  refine TrOps.sem (OpSem.move (.inl rfl) rfl) rfl rfl (by decide) ?_
  refine TrOps.gT rfl rfl rfl rfl (by rw [exS_fault]; rfl) ?_
  refine TrOps.sem (OpSem.fieldr rfl rfl fo28_0) rfl rfl (by decide) ?_
  refine TrOps.gT rfl rfl rfl rfl (by rw [exS_fault]; rfl) ?_
  refine TrOps.sem (OpSem.loadb1 rfl rfl rfl vs3 rfl) rfl rfl (by decide) ?_
  refine TrOps.gT rfl rfl rfl rfl (by rw [exS_fault]; rfl) ?_
  refine TrOps.sem (OpSem.bin rfl rfl rfl beql) rfl rfl (by decide) ?_
  refine TrOps.sem (OpSem.pickT rfl rfl (by rw [exS_fault]; rfl) rfl) rfl rfl (by decide) ?_
  refine TrOps.sem (OpSem.move (.inl rfl) rfl) rfl rfl (by decide) ?_
  refine TrOps.gT rfl rfl rfl rfl (by rw [exS_quoF]; rfl) ?_
  refine TrOps.sem (OpSem.move (.inl rfl) rfl) rfl rfl (by decide) ?_
  refine TrOps.gT rfl rfl rfl rfl (by rw [exS_quoF]; rfl) ?_
  refine TrOps.sem (OpSem.le (s' := .d (ints [0, 1, 2])) (OpSem.buildSlice rfl rfl es23 ze23 rfl rfl (by decide) (by decide) rfl rfl) (Le.of_eq rfl)) rfl rfl (by decide) ?_
  refine TrOps.gT rfl rfl rfl rfl (by rw [exS_quoF]; rfl) ?_
  refine TrOps.sem (OpSem.call0 (R_Ints_does (bisR lineA) [0, 1, 2]) rfl rfl rfl rfl (Les.refl _)) rfl rfl (by decide) ?_
  refine TrOps.sem (OpSem.pickT rfl rfl (by rw [exS_quoF]; rfl) rfl) rfl rfl (by decide) ?_
  refine TrOps.sem (OpSem.move (.inl rfl) rfl) rfl rfl (by decide) ?_
  refine TrOps.gT rfl rfl rfl rfl (by rw [exS_bisR]; rfl) ?_
  refine TrOps.sem (OpSem.fieldr rfl rfl fo25_0) rfl rfl (by decide) ?_
  refine TrOps.gT rfl rfl rfl rfl (by rw [exS_bisR]; rfl) ?_
  refine TrOps.sem (OpSem.loadb1 rfl rfl rfl vs3 rfl) rfl rfl (by decide) ?_
  refine TrOps.gT rfl rfl rfl rfl (by rw [exS_bisR]; rfl) ?_
  refine TrOps.sem (OpSem.bin rfl rfl rfl beql) rfl rfl (by decide) ?_
  refine TrOps.sem (OpSem.pickT rfl rfl (by rw [exS_bisR]; rfl) rfl) rfl rfl (by decide) ?_
  refine TrOps.sem (OpSem.move (.inl rfl) rfl) rfl rfl (by decide) ?_
  refine TrOps.gT rfl rfl rfl rfl (by rw [exS_quoR]; rfl) ?_
  refine TrOps.sem (OpSem.fieldr rfl rfl fo25_2) rfl rfl (by decide) ?_
  refine TrOps.gT rfl rfl rfl rfl (by rw [exS_quoR]; rfl) ?_
  refine TrOps.sem (OpSem.loadb1 rfl rfl rfl vs22 rfl) rfl rfl (by decide) ?_
  refine TrOps.gT rfl rfl rfl rfl (by rw [exS_quoR]; rfl) ?_
  refine TrOps.sem (OpSem.lenL rfl rfl es22) rfl rfl (by decide) ?_
  refine TrOps.gT rfl rfl rfl rfl (by rw [exS_quoR]; rfl) ?_
  refine TrOps.sem (OpSem.bin rfl rfl rfl beql) rfl rfl (by decide) ?_
  refine TrOps.sem (OpSem.pickT rfl rfl (by rw [exS_quoR]; rfl) rfl) rfl rfl (by decide) ?_
  refine TrOps.sem (OpSem.move (.inl rfl) rfl) rfl rfl (by decide) ?_
  refine TrOps.gT rfl rfl rfl rfl (by rw [exS_quoR]; rfl) ?_
  refine TrOps.sem (OpSem.fieldr rfl rfl fo25_4) rfl rfl (by decide) ?_
  refine TrOps.gT rfl rfl rfl rfl (by rw [exS_quoR]; rfl) ?_
  refine TrOps.sem (OpSem.loadb1 rfl rfl rfl vs23 rfl) rfl rfl (by decide) ?_
  refine TrOps.gT rfl rfl rfl rfl (by rw [exS_quoR]; rfl) ?_
  refine TrOps.sem (OpSem.le (s' := .d (ints [0])) (OpSem.buildSlice rfl rfl es23 ze23 rfl rfl (by decide) (by decide) rfl rfl) (Le.of_eq rfl)) rfl rfl (by decide) ?_
  refine TrOps.gT rfl rfl rfl rfl (by rw [exS_quoR]; rfl) ?_
  refine TrOps.sem (OpSem.call0 (R_Ints_does (quoR lineA [0, 1, 0]).goals [0]) rfl rfl rfl rfl (Les.refl _)) rfl rfl (by decide) ?_
  refine TrOps.sem (OpSem.pickT rfl rfl (by rw [exS_quoR]; rfl) rfl) rfl rfl (by decide) ?_
  refine TrOps.sem (OpSem.move (.inr rfl) rfl) rfl rfl (by decide) ?_
  refine TrOps.nil ?_
  refine At.seq ?_
  refine Tr.ret ?_
  exact At.ret rfl (.tmp rfl <| .nil) rfl (Le.bo (by rw [exS_quoR]; rfl))

end Go.Proofs.Ythgcnfolgbaemaa
end

section
/- Walks, written by gen.py out of hints. -/




set_option linter.unusedVariables false
set_option linter.unusedSimpArgs false
namespace Go.Proofs.Ythgcnfolgbaemaa
open Go.Eng
set_option maxRecDepth 10000
set_option maxHeartbeats 1000000

end Go.Proofs.Ythgcnfolgbaemaa
end

section
/- Walks, written by gen.py out of hints. -/




set_option linter.unusedVariables false
set_option linter.unusedSimpArgs false
namespace Go.Proofs.Ythgcnfolgbaemaa
open Go.Eng
set_option maxRecDepth 10000
set_option maxHeartbeats 1000000

end Go.Proofs.Ythgcnfolgbaemaa
end

section
/- Walks, written by gen.py out of hints. -/



set_option linter.unusedVariables false
set_option linter.unusedSimpArgs false
namespace Go.Proofs.Ythgcnfolgbaemaa
open Go.Eng
set_option maxRecDepth 10000
set_option maxHeartbeats 1000000



end Go.Proofs.Ythgcnfolgbaemaa
end

section
/- The product of a quotient; bisimulation of the reference. -/

set_option linter.unusedVariables false
set_option linter.unusedSimpArgs false
set_option linter.unusedSectionVars false
namespace Go.Eng
open Go
section
variable {a b : Abs} {c : List Int}
/-- The state of the product of the quotient. -/
def qpr (a b : Abs) (p : List Int) (n : Int) : Int := nth p (n / b.states) * b.states + n % b.states
theorem qpr_at {p : List Int} {x y : Int} (hb : 0 < b.states) (h0 : 0 ≤ y) (h1 : y < b.states) : qpr a b p (x * b.states + y) = nth p x * b.states + y := by
  unfold qpr
  have e1 : (x * b.states + y) / b.states = x := by
    rw [Int.add_comm, Int.add_mul_ediv_right _ _ (by omega), Int.ediv_eq_zero_of_lt h0 h1]; omega
  have e2 : (x * b.states + y) % b.states = y := by
    rw [Int.add_comm, Int.add_mul_emod_self_right, Int.emod_eq_of_lt h0 h1]
  rw [e1, e2]
theorem quo_prdP {p : List Int} (h : PrdP a b) (hq : quoF a p = (0, 0)) : PrdP (quoA a p) b := by
  have hst := quo_st hq
  have hb := h.ob.head.1
  exact ⟨quo_ok hq, h.ob, h.lab, by
    have := Int.mul_le_mul_of_nonneg_right hst.2 (show 0 ≤ b.states by omega)
    have := h.st
    show (quoA a p).states * b.states ≤ 60
    omega⟩
/-- A product of the quotient has no more arcs. -/
theorem quo_prd_len {p : List Int} (h : PrdP a b) (hq : quoF a p = (0, 0)) : (timA (quoA a p) b).arcs.length ≤ (timA a b).arcs.length := by
  have hb := h.ob.head.1
  have key : ∀ z, z ∈ (timA (quoA a p) b).arcs → ∃ r, r ∈ (timA a b).arcs ∧ (⟨qpr a b p r.fr, r.lab, qpr a b p r.to⟩ : Arc) = z := by
    intro z hz
    obtain ⟨x, y, hx, hy, hl, rfl⟩ := tim_mem.1 hz
    obtain ⟨r, hr, rfl⟩ := quo_arc.1 hx
    refine ⟨prA b.states r y, tim_mem.2 ⟨r, y, hr, hy, hl, rfl⟩, ?_⟩
    have hi := mem_in h.ob hy
    simp only [prA]
    rw [qpr_at (a := a) (by omega) hi.1.1 hi.1.2, qpr_at (a := a) (by omega) hi.2.2.1 hi.2.2.2]
  refine inj_le (fun z => if hz : z ∈ (timA (quoA a p) b).arcs then Classical.choose (key z hz) else default) (arcs_nodup sd_strict) (fun z hz => ?_) (fun z z' hz hz' he => ?_)
  · rw [dif_pos hz]; exact (Classical.choose_spec (key z hz)).1
  · simp only [dif_pos hz, dif_pos hz'] at he
    rw [← (Classical.choose_spec (key z hz)).2, ← (Classical.choose_spec (key z' hz')).2, he]
theorem before_prd (h0 : prdF a b = (0, 0)) (hd : adF (prdR a b) c = (0, 0)) : absFault a = (0, 0) ∧ quoF a (bisR a) = (0, 0) ∧ prdF (quoR a (bisR a)) b = (0, 0) ∧ adF (prdR (quoR a (bisR a)) b) c = (0, 0) ∧
    (0 ≤ (prdR a b).init ∧ (prdR a b).init < (adR (prdR a b) c).length) ∧ (0 ≤ (prdR (quoR a (bisR a)) b).init ∧ (prdR (quoR a (bisR a)) b).init < (adR (prdR (quoR a (bisR a)) b) c).length) ∧
    nth (adR (prdR (quoR a (bisR a)) b) c) (prdR (quoR a (bisR a)) b).init = nth (adR (prdR a b) c) (prdR a b).init := by
  obtain ⟨h3, hal⟩ := prdF_inv h0
  have hP := prdF3_ok h3
  have hA := hP.oa
  have hB := hP.ob
  have e0 := absFault_of hA
  rw [bisR_0 e0]
  have hq := bisL_quo hA
  rw [quoR_0 hq]
  have hP' := quo_prdP hP hq
  have hal' : (timA (quoA a (bisL a)) b).arcs.length ≤ 400 := Nat.le_trans (quo_prd_len hP hq) hal
  have h0' := prdF_of hP' hal'
  have hO := prd_ok hP hal
  have hO' := prd_ok hP' hal'
  rw [prdR_0 h0] at hd ⊢
  rw [prdR_0 h0']
  obtain ⟨_, hc, _, _⟩ := adF_ok (a := timA a b) (c := c) (by rw [hd])
  have hc' : CostFor (timA (quoA a (bisL a)) b) c := hc
  have hd' : adF (timA (quoA a (bisL a)) b) c = (0, 0) := by
    have e : adF (timA (quoA a (bisL a)) b) c = adF (timA a b) c := by unfold adF; rw [absFault_of hO', absFault_of hO]; rfl
    exact e.trans hd
  have n1 := nS_eq hO
  have n2 := nS_eq hO'
  have l1 := (distL_good hO hc).1
  have l2 := (distL_good hO' hc').1
  have hi := hO.head.2.2
  have hi' := hO'.head.2.2
  rw [adR_0 hd, adR_0 hd']
  refine ⟨e0, hq, h0', hd', ⟨hi.1, by omega⟩, ⟨hi'.1, by omega⟩, ?_⟩
  have hb := hB.head.1
  have hbi := hB.head.2.2
  have hbis := bisL_bis hA
  have split : ∀ n : Int, 0 ≤ n → n < a.states * b.states → ∃ x y, (0 ≤ x ∧ x < a.states) ∧ (0 ≤ y ∧ y < b.states) ∧ n = x * b.states + y := fun n g0 g1 => by
    refine ⟨n / b.states, n % b.states, ⟨Int.ediv_nonneg g0 (by omega), Int.ediv_lt_of_lt_mul (by omega) g1⟩, ⟨Int.emod_nonneg _ (by omega), Int.emod_lt_of_pos _ (by omega)⟩, ?_⟩
    rw [Int.mul_comm]; exact (Int.mul_ediv_add_emod n b.states).symm
  have e : (timA (quoA a (bisL a)) b).init = qpr a b (bisL a) (timA a b).init := (qpr_at (a := a) (by omega) hbi.1 hbi.2).symm
  have inj : ∀ {x y x' y' : Int}, 0 ≤ y → y < b.states → 0 ≤ y' → y' < b.states → x * b.states + y = x' * b.states + y' → x = x' ∧ y = y' := fun {x y x' y'} g0 g1 g2 g3 he => by
    have e1 : (x * b.states + y) % b.states = y := by rw [Int.add_comm, Int.add_mul_emod_self_right, Int.emod_eq_of_lt g0 g1]
    have e2 : (x' * b.states + y') % b.states = y' := by rw [Int.add_comm, Int.add_mul_emod_self_right, Int.emod_eq_of_lt g2 g3]
    have e3 : (x * b.states + y) / b.states = x := by rw [Int.add_comm, Int.add_mul_ediv_right _ _ (by omega), Int.ediv_eq_zero_of_lt g0 g1]; omega
    have e4 : (x' * b.states + y') / b.states = x' := by rw [Int.add_comm, Int.add_mul_ediv_right _ _ (by omega), Int.ediv_eq_zero_of_lt g2 g3]; omega
    rw [he] at e1 e3
    exact ⟨e3.symm.trans e4, e1.symm.trans e2⟩
  rw [e]
  refine map_eq hO hO' hc hc' (f := qpr a b (bisL a)) (fun n g0 g1 => ?_) (fun n g0 g1 => ?_) (fun r hr => ?_) (fun z hz n g0 g1 hn => ?_) hi.1 hi.2
  · obtain ⟨x, y, hx, hy, rfl⟩ := split n g0 g1
    rw [qpr_at (a := a) (by omega) hy.1 hy.2]
    exact pair_in (part_in hq hx.1 hx.2) hy
  · obtain ⟨x, y, hx, hy, rfl⟩ := split n g0 g1
    rw [qpr_at (a := a) (by omega) hy.1 hy.2, tim_goal, tim_goal]
    constructor
    · rintro ⟨x', y', hx', hy', he⟩
      have i1 := setP_mem hB.goals hy'
      obtain ⟨rfl, rfl⟩ := inj hy.1 hy.2 i1.1 i1.2 he
      exact ⟨_, _, quo_goal.2 ⟨x, hx', rfl⟩, hy', rfl⟩
    · rintro ⟨x', y', hx', hy', he⟩
      have i1 := setP_mem hB.goals hy'
      obtain ⟨h1, rfl⟩ := inj hy.1 hy.2 i1.1 i1.2 he
      obtain ⟨g, hg, rfl⟩ := quo_goal.1 hx'
      have i2 := setP_mem hA.goals hg
      exact ⟨x, y, (hbis.goal x g hx.1 hx.2 i2.1 i2.2 h1).2 hg, hy', rfl⟩
  · obtain ⟨x, y, hx, hy, hl, rfl⟩ := tim_mem.1 hr
    have i1 := mem_in hB hy
    simp only [prA]
    rw [qpr_at (a := a) (by omega) i1.1.1 i1.1.2, qpr_at (a := a) (by omega) i1.2.2.1 i1.2.2.2]
    exact tim_mem.2 ⟨_, y, quo_arc.2 ⟨x, hx, rfl⟩, hy, hl, rfl⟩
  · obtain ⟨x, y, hx, hy, rfl⟩ := split n g0 g1
    obtain ⟨u, v, hu, hv, hl, rfl⟩ := tim_mem.1 hz
    obtain ⟨r, hr, rfl⟩ := quo_arc.1 hu
    have i1 := mem_in hB hv
    rw [qpr_at (a := a) (by omega) hy.1 hy.2] at hn
    have hn2 : nth (bisL a) x * b.states + y = nth (bisL a) r.fr * b.states + v.fr := hn
    obtain ⟨h1, h2⟩ := inj hy.1 hy.2 i1.1.1 i1.1.2 hn2
    obtain ⟨s, s1, s2, s3, s4⟩ := hbis.arc r hr x hx.1 hx.2 h1.symm
    refine ⟨prA b.states s v, tim_mem.2 ⟨s, v, s1, hv, s3.trans hl, rfl⟩, ?_, s3, ?_⟩
    · simp only [prA]; rw [s2, h2]
    · simp only [prA]; rw [qpr_at (a := a) (by omega) i1.2.2.1 i1.2.2.2, s4]
end
end Go.Eng
end

section
/- The reference's bisimulations: pairs of states that differ are marked until nothing changes. -/

set_option linter.unusedVariables false
set_option linter.unusedSimpArgs false
set_option linter.unusedSectionVars false
namespace Go.Eng
open Go
/-! ### Alike -/
def mtF (E : Int → Int → Bool) (a : Abs) (y : Int) (i : Nat) : Nat → Bool
  | 0 => false
  | k + 1 => mtF E a y i k || (decide ((nth a.arcs k).fr = y) && decide ((nth a.arcs k).lab = (nth a.arcs i).lab) && E (nth a.arcs i).to (nth a.arcs k).to)
def AlkP (E : Int → Int → Bool) (a : Abs) (x y : Int) : Prop := ∀ i : Nat, i < a.arcs.length → (nth a.arcs i).fr = x → mtF E a y i a.arcs.length = true
instance {E : Int → Int → Bool} {a : Abs} {x y : Int} : Decidable (AlkP E a x y) := by unfold AlkP; exact inferInstance
def peq (p : List Int) (u v : Int) : Bool := decide (nth p v = nth p u)
def BPr (a : Abs) (p : List Int) (x y : Nat) : Prop := nth p x = nth p y → (decide ((x : Int) ∈ a.goals) = decide ((y : Int) ∈ a.goals)) ∧ AlkP (peq p) a x y
instance {a : Abs} {p : List Int} {x y : Nat} : Decidable (BPr a p x y) := by unfold BPr; exact inferInstance
def IsB (a : Abs) (p : List Int) : Prop := ∀ x : Nat, x < nS a → ∀ y : Nat, y < nS a → BPr a p x y
instance {a : Abs} {p : List Int} : Decidable (IsB a p) := by unfold IsB; exact inferInstance
/-! ### The marks -/
def dt (a : Abs) (d : List Bool) (u v : Int) : Bool := nth d (u * a.states + v)
def ndt (a : Abs) (d : List Bool) (u v : Int) : Bool := !(dt a d u v)
def mark (a : Abs) (d : List Bool) (x y : Int) : List Bool := setI (setI d (x * a.states + y) true) (y * a.states + x) true
def stI (a : Abs) (x y : Int) (s : List Bool × Bool) (i : Nat) : List Bool × Bool :=
  if dt a s.1 x y = true then s else if (nth a.arcs i).fr ≠ x then s else if mtF (ndt a s.1) a y i a.arcs.length = true then s else (mark a s.1 x y, true)
def passI (a : Abs) (x y : Int) (s : List Bool × Bool) : Nat → List Bool × Bool
  | 0 => s
  | k + 1 => stI a x y (passI a x y s k) k
def passY (a : Abs) (x : Int) (s : List Bool × Bool) : Nat → List Bool × Bool
  | 0 => s
  | y + 1 => passI a x y (passY a x s y) a.arcs.length
def passX (a : Abs) (s : List Bool × Bool) : Nat → List Bool × Bool
  | 0 => s
  | x + 1 => passY a x (passX a s x) (nS a)
/-- What holds of the marks. -/
structure CInv (a : Abs) (d : List Bool) : Prop where
  len : d.length = nS a * nS a
  sym : ∀ u v : Nat, u < nS a → v < nS a → dt a d u v = dt a d v u
  snd : ∀ u v : Nat, u < nS a → v < nS a → dt a d u v = true → nth (bisL a) u ≠ nth (bisL a) v
  goal : ∀ u v : Nat, u < nS a → v < nS a → dt a d u v = false → ((u : Int) ∈ a.goals ↔ (v : Int) ∈ a.goals)
section
variable {a : Abs} (ha : AbsOk a)
include ha
/-- The outer loop's state. -/
def MInv (a : Abs) (s : List Bool × Bool) : Prop := CInv a s.1 ∧ (s.2 = false → ∀ x y : Nat, x < nS a → y < nS a → dt a s.1 x y = true ∨ AlkP (ndt a s.1) a x y)
def mMu (s : List Bool × Bool) : Nat := 2 * openN s.1 + (if s.2 = true then 1 else 0)
omit ha in
theorem set2_get {l : List Bool} {i j : Int} {c v : Bool} (h0 : 0 ≤ j) (h1 : j < l.length) : ((l.map fun b => [D.v (.bool b)]).set i.toNat ([D.v (.bool c)].set 0 (D.v (.bool v))))[j.toNat]? = some [D.v (.bool (nth (setI l i v) j))] := by
  have : ((l.map fun b => [D.v (.bool b)]).set i.toNat ([D.v (.bool c)].set 0 (D.v (.bool v)))) = (setI l i v).map fun b => [D.v (.bool b)] := by simp [setI, List.map_set]
  rw [this]
  exact rows_get h0 (by rw [setI_len]; exact h1)
omit ha in
theorem mark_rows {d : List Bool} {x y : Int} {c c' : Bool} : (((d.map fun b => [D.v (.bool b)]).set (x * a.states + y).toNat ([D.v (.bool c)].set 0 (D.v (.bool true)))).set (y * a.states + x).toNat ([D.v (.bool c')].set 0 (D.v (.bool true)))) = (mark a d x y).map fun b => [D.v (.bool b)] := by
  unfold mark setI; simp [List.map_set]
/-! ### The first marks -/
def gdf (a : Abs) (u v : Int) : Bool := !(decide (u ∈ a.goals) == decide (v ∈ a.goals))
def dfTo (a : Abs) (m : Nat) : List Bool := (List.range (nS a * nS a)).map fun (i : Nat) => decide (i < m) && gdf a ((i : Int) / a.states) ((i : Int) % a.states)
omit ha in
theorem dfTo_len {m : Nat} : (dfTo a m).length = nS a * nS a := by simp [dfTo]
omit ha in
theorem dfTo_0 : dfTo a 0 = List.replicate (nS a * nS a) false := by
  apply List.ext_getElem (by simp [dfTo])
  intro i h1 h2; simp [dfTo]
end
/-! ### The numbers at the end -/
noncomputable def pT (a : Abs) (x y : Nat) : Int := if nth (bisL a) x ∈ dsTo (bisL a) y then (idD (dsTo (bisL a) (nS a)) (nth (bisL a) x) : Int) else -1
end Go.Eng
end

section
/- Walks, written by gen.py out of hints. -/




set_option linter.unusedVariables false
set_option linter.unusedSimpArgs false
namespace Go.Proofs.Ythgcnfolgbaemaa
open Go.Eng
set_option maxRecDepth 10000
set_option maxHeartbeats 1000000

theorem law_ShrinkBeforeProduct_does (a b : Abs) (c : List Int) (hra : -9223372036854775808 ≤ a.states ∧ a.states ≤ 9223372036854775807) (hrb : -9223372036854775808 ≤ b.states ∧ b.states ≤ 9223372036854775807) : Does Try.prog false 8 [absS a, absS b, .d (ints c)] (Bo true) := by
  refine Does.of_body Try.func8 rfl rfl (by simp) Try.call8 (fun w0 O0 => ?_)
  refine Tr.lenG (n := 0) (i := 2) rfl rfl (fun len0_2 => ?_)
  refine Tr.lenG (n := 0) (i := 4) rfl rfl (fun len0_4 => ?_)
  refine Tr.lenG (n := 1) (i := 2) rfl rfl (fun len1_2 => ?_)
  refine Tr.lenG (n := 1) (i := 4) rfl rfl (fun len1_4 => ?_)
  refine Tr.lenLe (n := 2) rfl (fun len2 => ?_)
  refine Tr.seq ?_
  refine Tr.region ?_
  refine TrOps.semM (OpSem.box 3 rfl rfl rfl rfl) rfl rfl (by decide) ?_
  refine TrOps.semM (OpSem.box 4 rfl rfl rfl rfl) rfl rfl (by decide) ?_
  refine TrOps.sem (OpSem.move (.inr rfl) rfl) rfl rfl (by decide) ?_
  refine TrOps.nil ?_
  refine At.seq ?_
  refine Tr.seq ?_
  refine Tr.seq ?_
  refine Tr.region ?_
  refine TrOps.sem (OpSem.call0 (law_shrinkExample_does) rfl rfl rfl rfl (Les.refl _)) rfl rfl (by decide) ?_
  refine TrOps.sem (OpSem.not rfl rfl) rfl rfl (by decide) ?_
  refine TrOps.nil ?_
  refine At.seq ?_
  refine Tr.condF rfl rfl ?_
  refine Tr.skip ?_
  refine At.seq ?_
  refine Tr.seq ?_
  refine Tr.region ?_
  refine TrOps.sem (OpSem.loadbN rfl rfl rfl vs25 (by first | decide | simp)) rfl rfl (by decide) ?_
  refine TrOps.sem (OpSem.loadbN rfl rfl rfl vs25 (by first | decide | simp)) rfl rfl (by decide) ?_
  refine TrOps.sem (OpSem.call0 (abstraction_Product_does a b hra hrb) rfl rfl rfl rfl (Les.refl _)) rfl rfl (by decide) ?_
  refine TrOps.sem (OpSem.move (.inl rfl) rfl) rfl rfl (by decide) ?_
  refine TrOps.sem (OpSem.extract rfl rfl rfl) rfl rfl (by decide) ?_
  refine TrOps.sem (OpSem.extract rfl rfl rfl) rfl rfl (by decide) ?_
  refine TrOps.semM (OpSem.alloc 7 rfl zc25 rfl) rfl rfl (by decide) ?_
  refine TrOps.semM (OpSem.alloc 8 rfl zc28 rfl) rfl rfl (by decide) ?_
  refine TrOps.storeb rfl rfl rfl rfl rfl rfl rfl vs25 (by first | decide | simp) ?_
  refine TrOps.storeb rfl rfl rfl rfl rfl rfl rfl vs28 (by first | decide | simp) ?_
  refine TrOps.nil ?_
  refine At.seq ?_
  refine Tr.seq ?_
  refine Tr.region ?_
  refine TrOps.sem (OpSem.loadbN rfl rfl rfl vs25 (by first | decide | simp)) rfl rfl (by decide) ?_
  refine TrOps.sem (OpSem.move (.inl rfl) rfl) rfl rfl (by decide) ?_
  refine TrOps.sem (OpSem.call0 (abstraction_Distances_does (prdR a b) c prdR_rng) rfl rfl rfl rfl (Les.refl _)) rfl rfl (by decide) ?_
  refine TrOps.sem (OpSem.move (.inl rfl) rfl) rfl rfl (by decide) ?_
  refine TrOps.sem (OpSem.extract rfl rfl rfl) rfl rfl (by decide) ?_
  refine TrOps.sem (OpSem.extract rfl rfl rfl) rfl rfl (by decide) ?_
  refine TrOps.semM (OpSem.alloc 10 rfl zc28 rfl) rfl rfl (by decide) ?_
  refine TrOps.sem (OpSem.move (.inr rfl) rfl) rfl rfl (by decide) ?_
  refine TrOps.storeb rfl rfl rfl rfl rfl rfl rfl vs28 (by first | decide | simp) ?_
  refine TrOps.nil ?_
  refine At.seq ?_
  refine Tr.seq ?_
  refine Tr.seq ?_
  refine Tr.region ?_
  refine TrOps.sem (OpSem.fieldr rfl rfl fo28_0) rfl rfl (by decide) ?_
  refine TrOps.sem (OpSem.loadb1 rfl rfl rfl vs3 rfl) rfl rfl (by decide) ?_
  refine TrOps.sem (OpSem.bin rfl rfl rfl bneq) rfl rfl (by decide) ?_
  refine TrOps.sem (OpSem.move (.inl rfl) rfl) rfl rfl (by decide) ?_
  refine TrOps.split (n := 36) rfl (fun c36 => ?_) (fun c36 => ?_)
  · have hne : prdF a b ≠ (0, 0) := fun h => by simp [h] at c36
    refine TrOps.gF rfl rfl rfl rfl c36 rfl (by decide) ?_
    refine TrOps.gF rfl rfl rfl rfl c36 rfl (by decide) ?_
    refine TrOps.gF rfl rfl rfl rfl c36 rfl (by decide) ?_
    refine TrOps.sem (OpSem.pickT rfl rfl c36 rfl) rfl rfl (by decide) ?_
    refine TrOps.nil ?_
    refine At.seq ?_
    refine Tr.condT rfl rfl ?_
    refine Tr.seq ?_
    refine Tr.region ?_
    refine TrOps.sem (OpSem.fieldr rfl rfl fo28_0) rfl rfl (by decide) ?_
    refine TrOps.sem (OpSem.loadb1 rfl rfl rfl vs3 rfl) rfl rfl (by decide) ?_
    refine TrOps.sem (OpSem.bin rfl rfl rfl beql) rfl rfl (by decide) ?_
    refine TrOps.sem (OpSem.move (.inl rfl) rfl) rfl rfl (by decide) ?_
    refine TrOps.split (n := 44) rfl (fun c44 => ?_) (fun c44 => ?_)
    · refine TrOps.gF rfl rfl rfl rfl c44 rfl (by decide) ?_
      refine TrOps.gF rfl rfl rfl rfl c44 rfl (by decide) ?_
      refine TrOps.gF rfl rfl rfl rfl c44 rfl (by decide) ?_
      refine TrOps.sem (OpSem.pickT rfl rfl c44 rfl) rfl rfl (by decide) ?_
      refine TrOps.sem (OpSem.move (.inr rfl) rfl) rfl rfl (by decide) ?_
      refine TrOps.nil ?_
      refine At.seq ?_
      refine Tr.ret ?_
      refine At.pass_ret ?_
      exact At.ret rfl (.tmp rfl <| .nil) rfl (Le.bo (by first | rfl | (rw [prdR_1 hne]; rfl) | (exfalso; simp [h0] at c44; done) | (rw [h0]; rfl) | (rw [z7]; simp; done) | simp))
    · refine TrOps.gT rfl rfl rfl rfl c44 ?_
      refine TrOps.sem (OpSem.fieldr rfl rfl fo25_0) rfl rfl (by decide) ?_
      refine TrOps.gT rfl rfl rfl rfl c44 ?_
      refine TrOps.sem (OpSem.loadb1 rfl rfl rfl vs3 rfl) rfl rfl (by decide) ?_
      refine TrOps.gT rfl rfl rfl rfl c44 ?_
      refine TrOps.sem (OpSem.bin rfl rfl rfl beql) rfl rfl (by decide) ?_
      refine TrOps.sem (OpSem.pickF rfl rfl c44 rfl) rfl rfl (by decide) ?_
      refine TrOps.sem (OpSem.move (.inr rfl) rfl) rfl rfl (by decide) ?_
      refine TrOps.nil ?_
      refine At.seq ?_
      refine Tr.ret ?_
      refine At.pass_ret ?_
      exact At.ret rfl (.tmp rfl <| .nil) rfl (Le.bo (by first | rfl | (rw [prdR_1 hne]; rfl) | (exfalso; simp [h0] at c44; done) | (rw [h0]; rfl) | (rw [z7]; simp; done) | simp))
  · have h0 : prdF a b = (0, 0) := prdF_code (by simpa using c36)
    refine TrOps.gT rfl rfl rfl rfl c36 ?_
    refine TrOps.sem (OpSem.fieldr rfl rfl fo28_0) rfl rfl (by decide) ?_
    refine TrOps.gT rfl rfl rfl rfl c36 ?_
    refine TrOps.sem (OpSem.loadb1 rfl rfl rfl vs3 rfl) rfl rfl (by decide) ?_
    refine TrOps.gT rfl rfl rfl rfl c36 ?_
    refine TrOps.sem (OpSem.bin rfl rfl rfl bneq) rfl rfl (by decide) ?_
    refine TrOps.sem (OpSem.pickF rfl rfl c36 rfl) rfl rfl (by decide) ?_
    refine TrOps.nil ?_
    refine At.seq ?_
    refine Tr.cond rfl (fun c40 => ?_) (fun c40 => ?_)
    · refine Tr.seq ?_
      refine Tr.region ?_
      refine TrOps.sem (OpSem.fieldr rfl rfl fo28_0) rfl rfl (by decide) ?_
      refine TrOps.sem (OpSem.loadb1 rfl rfl rfl vs3 rfl) rfl rfl (by decide) ?_
      refine TrOps.sem (OpSem.bin rfl rfl rfl beql) rfl rfl (by decide) ?_
      refine TrOps.sem (OpSem.move (.inl rfl) rfl) rfl rfl (by decide) ?_
      refine TrOps.split (n := 44) rfl (fun c44 => ?_) (fun c44 => ?_)
      · refine TrOps.gF rfl rfl rfl rfl c44 rfl (by decide) ?_
        refine TrOps.gF rfl rfl rfl rfl c44 rfl (by decide) ?_
        refine TrOps.gF rfl rfl rfl rfl c44 rfl (by decide) ?_
        refine TrOps.sem (OpSem.pickT rfl rfl c44 rfl) rfl rfl (by decide) ?_
        refine TrOps.sem (OpSem.move (.inr rfl) rfl) rfl rfl (by decide) ?_
        refine TrOps.nil ?_
        refine At.seq ?_
        refine Tr.ret ?_
        refine At.pass_ret ?_
        exact At.ret rfl (.tmp rfl <| .nil) rfl (Le.bo (by first | rfl | (rw [prdR_1 hne]; rfl) | (exfalso; simp [h0] at c44; done) | (rw [h0]; rfl) | (rw [z7]; simp; done) | simp))
      · refine TrOps.gT rfl rfl rfl rfl c44 ?_
        refine TrOps.sem (OpSem.fieldr rfl rfl fo25_0) rfl rfl (by decide) ?_
        refine TrOps.gT rfl rfl rfl rfl c44 ?_
        refine TrOps.sem (OpSem.loadb1 rfl rfl rfl vs3 rfl) rfl rfl (by decide) ?_
        refine TrOps.gT rfl rfl rfl rfl c44 ?_
        refine TrOps.sem (OpSem.bin rfl rfl rfl beql) rfl rfl (by decide) ?_
        refine TrOps.sem (OpSem.pickF rfl rfl c44 rfl) rfl rfl (by decide) ?_
        refine TrOps.sem (OpSem.move (.inr rfl) rfl) rfl rfl (by decide) ?_
        refine TrOps.nil ?_
        refine At.seq ?_
        refine Tr.ret ?_
        refine At.pass_ret ?_
        exact At.ret rfl (.tmp rfl <| .nil) rfl (Le.bo (by first | rfl | (rw [prdR_1 hne]; rfl) | (exfalso; simp [h0] at c44; done) | (rw [h0]; rfl) | (rw [z7]; simp; done) | simp))
    · have hd : adF (prdR a b) c = (0, 0) := (adF_ok (a := prdR a b) (c := c) (by simpa using c40)).2.2.1
      obtain ⟨z1, z2, z3, z4, z5, z6, z7⟩ := before_prd h0 hd
      have hL1 := prd_len h0 hd
      have hL2 := prd_len z3 z4
      have w1 := hL1.1.st
      have w2 := hL2.1.st
      obtain ⟨_, _, w3, _⟩ := hL1.2.2.2
      obtain ⟨_, _, w4, _⟩ := hL2.2.2.2
      refine Tr.skip ?_
      refine At.seq ?_
      refine Tr.seq ?_
      refine Tr.region ?_
      refine TrOps.sem (OpSem.loadbN rfl rfl rfl vs25 (by first | decide | simp)) rfl rfl (by decide) ?_
      refine TrOps.sem (OpSem.call0 (shrink_Bisimulation_does a hra) rfl rfl rfl rfl (Les.refl _)) rfl rfl (by decide) ?_
      refine TrOps.sem (OpSem.move (.inl rfl) rfl) rfl rfl (by decide) ?_
      refine TrOps.sem (OpSem.extract rfl rfl rfl) rfl rfl (by decide) ?_
      refine TrOps.sem (OpSem.extract rfl rfl rfl) rfl rfl (by decide) ?_
      refine TrOps.semM (OpSem.alloc 12 rfl zc28 rfl) rfl rfl (by decide) ?_
      refine TrOps.sem (OpSem.move (.inr rfl) rfl) rfl rfl (by decide) ?_
      refine TrOps.storeb rfl rfl rfl rfl rfl rfl rfl vs28 (by first | decide | simp) ?_
      refine TrOps.nil ?_
      refine At.seq ?_
      refine Tr.seq ?_
      refine Tr.region ?_
      refine TrOps.sem (OpSem.loadbN rfl rfl rfl vs25 (by first | decide | simp)) rfl rfl (by decide) ?_
      refine TrOps.sem (OpSem.move (.inl rfl) rfl) rfl rfl (by decide) ?_
      refine TrOps.sem (OpSem.call0 (shrink_Quotient_does a (bisR a) hra) rfl rfl rfl rfl (Les.refl _)) rfl rfl (by decide) ?_
      refine TrOps.sem (OpSem.move (.inl rfl) rfl) rfl rfl (by decide) ?_
      refine TrOps.sem (OpSem.extract rfl rfl rfl) rfl rfl (by decide) ?_
      refine TrOps.sem (OpSem.extract rfl rfl rfl) rfl rfl (by decide) ?_
      refine TrOps.semM (OpSem.alloc 13 rfl zc25 rfl) rfl rfl (by decide) ?_
      refine TrOps.semM (OpSem.alloc 14 rfl zc28 rfl) rfl rfl (by decide) ?_
      refine TrOps.storeb rfl rfl rfl rfl rfl rfl rfl vs25 (by first | decide | simp) ?_
      refine TrOps.storeb rfl rfl rfl rfl rfl rfl rfl vs28 (by first | decide | simp) ?_
      refine TrOps.nil ?_
      refine At.seq ?_
      refine Tr.seq ?_
      refine Tr.region ?_
      refine TrOps.sem (OpSem.loadbN rfl rfl rfl vs25 (by first | decide | simp)) rfl rfl (by decide) ?_
      refine TrOps.sem (OpSem.loadbN rfl rfl rfl vs25 (by first | decide | simp)) rfl rfl (by decide) ?_
      refine TrOps.sem (OpSem.call0 (abstraction_Product_does (quoR a (bisR a)) b (quoR_rng hra) hrb) rfl rfl rfl rfl (Les.refl _)) rfl rfl (by decide) ?_
      refine TrOps.sem (OpSem.move (.inl rfl) rfl) rfl rfl (by decide) ?_
      refine TrOps.sem (OpSem.extract rfl rfl rfl) rfl rfl (by decide) ?_
      refine TrOps.sem (OpSem.extract rfl rfl rfl) rfl rfl (by decide) ?_
      refine TrOps.semM (OpSem.alloc 15 rfl zc25 rfl) rfl rfl (by decide) ?_
      refine TrOps.semM (OpSem.alloc 16 rfl zc28 rfl) rfl rfl (by decide) ?_
      refine TrOps.storeb rfl rfl rfl rfl rfl rfl rfl vs25 (by first | decide | simp) ?_
      refine TrOps.storeb rfl rfl rfl rfl rfl rfl rfl vs28 (by first | decide | simp) ?_
      refine TrOps.nil ?_
      refine At.seq ?_
      refine Tr.seq ?_
      refine Tr.region ?_
      refine TrOps.sem (OpSem.loadbN rfl rfl rfl vs25 (by first | decide | simp)) rfl rfl (by decide) ?_
      refine TrOps.sem (OpSem.move (.inl rfl) rfl) rfl rfl (by decide) ?_
      refine TrOps.sem (OpSem.call0 (abstraction_Distances_does (prdR (quoR a (bisR a)) b) c prdR_rng) rfl rfl rfl rfl (Les.refl _)) rfl rfl (by decide) ?_
      refine TrOps.sem (OpSem.move (.inl rfl) rfl) rfl rfl (by decide) ?_
      refine TrOps.sem (OpSem.extract rfl rfl rfl) rfl rfl (by decide) ?_
      refine TrOps.sem (OpSem.extract rfl rfl rfl) rfl rfl (by decide) ?_
      refine TrOps.semM (OpSem.alloc 18 rfl zc28 rfl) rfl rfl (by decide) ?_
      refine TrOps.sem (OpSem.move (.inr rfl) rfl) rfl rfl (by decide) ?_
      refine TrOps.storeb rfl rfl rfl rfl rfl rfl rfl vs28 (by first | decide | simp) ?_
      refine TrOps.nil ?_
      refine At.seq ?_
      refine Tr.seq ?_
      refine Tr.seq ?_
      refine Tr.region ?_
      refine TrOps.sem (OpSem.fieldr rfl rfl fo28_0) rfl rfl (by decide) ?_
      refine TrOps.sem (OpSem.loadb1 rfl rfl rfl vs3 rfl) rfl rfl (by decide) ?_
      refine TrOps.sem (OpSem.fieldr rfl rfl fo28_0) rfl rfl (by decide) ?_
      refine TrOps.sem (OpSem.loadb1 rfl rfl rfl vs3 rfl) rfl rfl (by decide) ?_
      refine TrOps.sem (OpSem.bin rfl rfl rfl (badd (by rw [z1, z2]; decide) (by rw [z1, z2]; decide))) rfl rfl (by decide) ?_
      refine TrOps.sem (OpSem.fieldr rfl rfl fo28_0) rfl rfl (by decide) ?_
      refine TrOps.sem (OpSem.loadb1 rfl rfl rfl vs3 rfl) rfl rfl (by decide) ?_
      refine TrOps.sem (OpSem.bin rfl rfl rfl (badd (by rw [z1, z2, z3]; decide) (by rw [z1, z2, z3]; decide))) rfl rfl (by decide) ?_
      refine TrOps.sem (OpSem.fieldr rfl rfl fo28_0) rfl rfl (by decide) ?_
      refine TrOps.sem (OpSem.loadb1 rfl rfl rfl vs3 rfl) rfl rfl (by decide) ?_
      refine TrOps.sem (OpSem.bin rfl rfl rfl (badd (by rw [z1, z2, z3, z4]; decide) (by rw [z1, z2, z3, z4]; decide))) rfl rfl (by decide) ?_
      refine TrOps.sem (OpSem.bin rfl rfl rfl bneq) rfl rfl (by decide) ?_
      refine TrOps.sem (OpSem.move (.inl rfl) rfl) rfl rfl (by decide) ?_
      refine TrOps.gT rfl rfl rfl rfl (by rw [z1, z2, z3, z4]; rfl) ?_
      refine TrOps.sem (OpSem.fieldr rfl rfl fo25_3) rfl rfl (by decide) ?_
      refine TrOps.gT rfl rfl rfl rfl (by rw [z1, z2, z3, z4]; rfl) ?_
      refine TrOps.sem (OpSem.loadb1 rfl rfl rfl vs3 rfl) rfl rfl (by decide) ?_
      refine TrOps.gT rfl rfl rfl rfl (by rw [z1, z2, z3, z4]; rfl) ?_
      refine TrOps.sem (OpSem.move (.inl rfl) rfl) rfl rfl (by decide) ?_
      refine TrOps.gT rfl rfl rfl rfl (by rw [z1, z2, z3, z4]; rfl) ?_
      refine TrOps.sem (OpSem.lenL rfl rfl es23) rfl rfl (by decide) ?_
      refine TrOps.gT rfl rfl rfl rfl (by rw [z1, z2, z3, z4]; rfl) ?_
      refine TrOps.sem (OpSem.bin rfl rfl rfl (bsub (by omega) (by omega))) rfl rfl (by decide) ?_
      refine TrOps.gT rfl rfl rfl rfl (by rw [z1, z2, z3, z4]; rfl) ?_
      refine TrOps.sem (OpSem.call0 (R_In_does ..) rfl rfl rfl rfl (Les.refl _)) rfl rfl (by decide) ?_
      refine TrOps.gT rfl rfl rfl rfl (by rw [z1, z2, z3, z4]; rfl) ?_
      refine TrOps.sem (OpSem.not rfl rfl) rfl rfl (by decide) ?_
      refine TrOps.sem (OpSem.pickF rfl rfl (by rw [z1, z2, z3, z4]; rfl) rfl) rfl rfl (by decide) ?_
      refine TrOps.sem (OpSem.move (.inl rfl) rfl) rfl rfl (by decide) ?_
      refine TrOps.gT rfl rfl rfl rfl (by simp; omega) ?_
      refine TrOps.sem (OpSem.fieldr rfl rfl fo25_3) rfl rfl (by decide) ?_
      refine TrOps.gT rfl rfl rfl rfl (by simp; omega) ?_
      refine TrOps.sem (OpSem.loadb1 rfl rfl rfl vs3 rfl) rfl rfl (by decide) ?_
      refine TrOps.gT rfl rfl rfl rfl (by simp; omega) ?_
      refine TrOps.sem (OpSem.move (.inl rfl) rfl) rfl rfl (by decide) ?_
      refine TrOps.gT rfl rfl rfl rfl (by simp; omega) ?_
      refine TrOps.sem (OpSem.lenL rfl rfl es23) rfl rfl (by decide) ?_
      refine TrOps.gT rfl rfl rfl rfl (by simp; omega) ?_
      refine TrOps.sem (OpSem.bin rfl rfl rfl (bsub (by omega) (by omega))) rfl rfl (by decide) ?_
      refine TrOps.gT rfl rfl rfl rfl (by simp; omega) ?_
      refine TrOps.sem (OpSem.call0 (R_In_does ..) rfl rfl rfl rfl (Les.refl _)) rfl rfl (by decide) ?_
      refine TrOps.gT rfl rfl rfl rfl (by simp; omega) ?_
      refine TrOps.sem (OpSem.not rfl rfl) rfl rfl (by decide) ?_
      refine TrOps.sem (OpSem.pickF rfl rfl (by simp; omega) rfl) rfl rfl (by decide) ?_
      refine TrOps.nil ?_
      refine At.seq ?_
      refine Tr.condF rfl (by simp; omega) ?_
      refine Tr.skip ?_
      refine At.seq ?_
      refine Tr.seq ?_
      refine PC.start [] ?_
      refine PC.sem (OpSem.move (.inl rfl) rfl) rfl rfl ?_
      refine PC.sem (OpSem.fieldr rfl rfl fo25_3) rfl rfl ?_
      refine PC.sem (OpSem.loadb1 rfl rfl rfl vs3 rfl) rfl rfl ?_
      refine PC.sem (OpSem.idxL rfl rfl rfl es23 (by omega) (by omega)) rfl rfl ?_
      refine PC.sem (OpSem.load1 rfl rfl vs3 rfl) rfl rfl ?_
      refine PC.sem (OpSem.move (.inl rfl) rfl) rfl rfl ?_
      refine PC.sem (OpSem.fieldr rfl rfl fo25_3) rfl rfl ?_
      refine PC.sem (OpSem.loadb1 rfl rfl rfl vs3 rfl) rfl rfl ?_
      refine PC.sem (OpSem.idxL rfl rfl rfl es23 (by omega) (by omega)) rfl rfl ?_
      refine PC.sem (OpSem.load1 rfl rfl vs3 rfl) rfl rfl ?_
      refine PC.done0 mixed (by kernel_rfl) (by kernel_rfl) (by kernel_rfl) (by kernel_rfl) (by kernel_rfl) ?_
      refine TrOps.sem (OpSem.bin rfl rfl rfl beql) rfl rfl (by decide) ?_
      refine TrOps.sem (OpSem.move (.inr rfl) rfl) rfl rfl (by decide) ?_
      refine TrOps.nil ?_
      refine At.seq ?_
      refine Tr.ret ?_
      exact At.ret rfl (.tmp rfl <| .nil) rfl (Le.bo (by first | rfl | (rw [prdR_1 hne]; rfl) | (exfalso; simp [h0] at c44; done) | (rw [h0]; rfl) | (rw [z7]; simp; done) | simp))

end Go.Proofs.Ythgcnfolgbaemaa
end

section
/- The frame: what an argument that reads is, as data; and how a proved contract becomes the row's step. -/







set_option linter.unusedVariables false
set_option linter.unusedSimpArgs false
namespace Go.Eng
open Go Go.RowKit

/-- A row of cells holds these data. -/
def CellsD (W : World) (cs : List Value) (ds : List D) : Prop := cs.length = ds.length ∧ ∀ (i : Nat) (x : Value) (d : D), cs[i]? = some x → ds[i]? = some d → RepD zO W x d
theorem CellsD.app {W : World} {a b : List Value} {c d : List D} (h : CellsD W a c) (k : CellsD W b d) : CellsD W (a ++ b) (c ++ d) := by
  refine ⟨by simp [h.1, k.1], fun i x y hx hy => ?_⟩
  by_cases hi : i < a.length
  · rw [List.getElem?_append_left hi] at hx
    rw [List.getElem?_append_left (by rw [← h.1]; exact hi)] at hy
    exact h.2 i x y hx hy
  · rw [List.getElem?_append_right (by omega)] at hx
    rw [List.getElem?_append_right (by rw [← h.1]; omega), ← h.1] at hy
    exact k.2 _ x y hx hy

/-- Whatever reads at the type is data of this form. -/
abbrev in64 (n : Int) : Prop := -9223372036854775808 ≤ n ∧ n ≤ 9223372036854775807
def Dec (P : Program) (t : TypeId) {β : Type} (k : Nat) (f : β → List D) (R : β → Prop) : Prop :=
  P.cellsOf t = k ∧ (∀ b, (f b).length = k) ∧
    ∀ (H : Type) (enc : TypeId × Value → H) (W : World) (fuel : Nat) (cs : List Value) (x : DataW H × List MemPlace), DataW.trod enc P W 0 (fun _ => true) true fuel t cs = some x → ∃ b, R b ∧ CellsD W cs (f b)
theorem Dec.map {P : Program} {t : TypeId} {β γ : Type} {k : Nat} {f : β → List D} {f' : γ → List D} {R : β → Prop} {R' : γ → Prop} (h : Dec P t k f R) (g : β → γ) (g' : γ → β) (hg : ∀ b, f' (g b) = f b) (hg' : ∀ c, f' c = f (g' c)) (hR : ∀ b, R b → R' (g b)) : Dec P t k f' R' :=
  ⟨h.1, fun c => by rw [hg', h.2.1], fun H enc W fuel cs x hx => let ⟨b, hr, hb⟩ := h.2.2 H enc W fuel cs x hx; ⟨g b, hR b hr, by rw [hg]; exact hb⟩⟩
theorem Dec.int {P : Program} {t : TypeId} (ht : P.underlying t = some (.int .i64)) (hc : P.cellsOf t = 1) : Dec P t 1 (fun n : Int => [D.v (.int .i64 n)]) in64 :=
  ⟨hc, fun _ => rfl, fun H enc W fuel cs x hx => by
    obtain ⟨n, rfl, _, hw⟩ := DataW.trod_int ht hx
    refine ⟨n, ?_, rfl, fun i x d hx hd => ?_⟩
    · simp only [Lit.wf, Bool.and_eq_true, decide_eq_true_eq] at hw
      have h1 := hw.1
      have h2 := hw.2
      have e1 : IntKind.i64.min = -9223372036854775808 := by decide
      have e2 : IntKind.i64.max = 9223372036854775807 := by decide
      unfold in64
      omega
    · cases i with
      | zero => simp at hx hd; subst hx; subst hd; exact .v _
      | succ i => simp at hx⟩
theorem Dec.bool {P : Program} {t : TypeId} (ht : P.underlying t = some .bool) (hc : P.cellsOf t = 1) : Dec P t 1 (fun n : Bool => [D.v (.bool n)]) (fun _ => True) :=
  ⟨hc, fun _ => rfl, fun H enc W fuel cs x hx => by
    have key : ∃ b, cs = [.bool b] := by
      cases fuel with
      | zero => simp [DataW.trod] at hx
      | succ m =>
        unfold DataW.trod at hx
        rw [ht] at hx
        split at hx <;> simp_all
    obtain ⟨b, rfl⟩ := key
    refine ⟨b, trivial, rfl, fun i x d hx hd => ?_⟩
    cases i with
    | zero => simp at hx hd; subst hx; subst hd; exact .v _
    | succ i => simp at hx⟩
theorem choose_list {β : Type} {p : Nat → β → Prop} : ∀ (n : Nat), (∀ i, i < n → ∃ b, p i b) → ∃ l : List β, l.length = n ∧ ∀ i b, l[i]? = some b → p i b
  | 0, _ => ⟨[], rfl, fun i b h => by simp at h⟩
  | n + 1, h => by
    obtain ⟨l, h1, h2⟩ := choose_list n fun i hi => h i (by omega)
    obtain ⟨b, hb⟩ := h n (by omega)
    refine ⟨l ++ [b], by simp [h1], fun i c hc => ?_⟩
    by_cases hi : i < n
    · rw [List.getElem?_append_left (by omega)] at hc; exact h2 i c hc
    · rw [List.getElem?_append_right (by omega)] at hc
      cases hz : i - l.length with
      | zero =>
        rw [hz] at hc; simp at hc; subst hc
        have : i = n := by omega
        rw [this]; exact hb
      | succ j => rw [hz] at hc; simp at hc
theorem Dec.slice {P : Program} {t e : TypeId} {β : Type} {k : Nat} {f : β → List D} {R : β → Prop} (ht : P.underlying t = some (.slice e)) (hc : P.cellsOf t = 1) (he : Dec P e k f R) (hk0 : 0 < k) : Dec P t 1 (fun l : List β => [D.s k (l.map f)]) (fun l => ∀ b, b ∈ l → R b) := by
  refine ⟨hc, fun _ => rfl, fun H enc W fuel cs x hx => ?_⟩
  have one : ∀ (v : Value) (d : D), RepD zO W v d → CellsD W [v] [d] := fun v d h => ⟨rfl, fun i x d' hx hd => by
    cases i with
    | zero => simp at hx hd; subst hx; subst hd; exact h
    | succ i => simp at hx⟩
  rcases Go.Deep.open_slice ht hx with ⟨rfl, _⟩ | ⟨a, len, cap, m, n, Dx, Pl, rfl, _, hl, hm, hmm, _, hel⟩
  · exact ⟨[], fun b hb => by simp at hb, one _ _ (.e none 0 k (by simp [maxLen]))⟩
  · have hmc : len ≤ m := by rw [hmm]; split <;> omega
    obtain ⟨l, hll, hlp⟩ := choose_list (β := β) (p := fun i b => R b ∧ ∃ cs', W.cells? 0 (a.add (i * P.cellsOf e)) (P.cellsOf e) = some cs' ∧ CellsD W cs' (f b)) len (fun i hi => by
      obtain ⟨cs', h1, h2⟩ := hel i (by omega)
      obtain ⟨b, hr, hb⟩ := he.2.2 H enc W n cs' _ h2
      exact ⟨b, hr, cs', h1, hb⟩)
    refine ⟨l, fun b hb => by obtain ⟨i, hi⟩ := List.getElem?_of_mem hb; exact (hlp i b hi).1, one _ _ ?_⟩
    have hlp := fun i b h => (hlp i b h).2
    cases l with
    | nil =>
      simp at hll
      subst hll
      exact .e _ cap k hm
    | cons b0 l0 =>
      generalize hL : b0 :: l0 = l at hll hlp
      obtain ⟨ab, ao, asp⟩ := a
      have hsp : asp = none := by
        obtain ⟨cs', h1, h2⟩ := hlp 0 b0 (by rw [← hL]; rfl)
        obtain ⟨_, g1, g2⟩ := World.cells?_some h1
        have hj : 0 < cs'.length := by rw [g1, he.1]; exact hk0
        have := g2 0 (by rw [he.1]; exact hk0)
        rw [List.getElem?_eq_getElem hj, Nat.zero_mul] at this
        exact World.cell?_spot (by simpa [Addr.add] using this)
      subst hsp
      have hadd : ∀ p q : Nat, ((⟨ab, ao, none⟩ : Addr).add p).add q = ⟨ab, ao + (p + q), none⟩ := by
        intro p q
        unfold Addr.add
        split <;> split <;> simp <;> omega
      have hcell : ∀ (i : Nat) (b : β), l[i]? = some b → ∀ (j : Nat) (d : D), (f b)[j]? = some d → ∃ x, W.cell? ⟨ab, ao + (i * k + j), none⟩ = some x ∧ RepD zO W x d := by
        intro i b hb j d hd
        obtain ⟨cs', h1, h2⟩ := hlp i b hb
        obtain ⟨_, g1, g2⟩ := World.cells?_some h1
        have hj : j < P.cellsOf e := by rw [he.1, ← he.2.1 b]; exact (List.getElem?_eq_some_iff.1 hd).1
        have hj' : j < cs'.length := by omega
        have := g2 j hj
        rw [List.getElem?_eq_getElem hj', hadd, he.1] at this
        exact ⟨cs'[j], this, h2.2 j _ d (List.getElem?_eq_getElem hj') hd⟩
      have hrow : ∀ (i : Nat) (r : List D), (l.map f)[i]? = some r → ∃ b, l[i]? = some b ∧ r = f b := by
        intro i r hr
        simp only [List.getElem?_map, Option.map_eq_some_iff] at hr
        obtain ⟨b, h1, h2⟩ := hr
        exact ⟨b, h1, h2.symm⟩
      have hlen : len = (l.map f).length := by simp [hll]
      rw [hlen]
      refine .s ab ao cap k (l.map f) (fun q => (W.cell? ⟨ab, ao + q, none⟩).getD undef) (by omega) hm (fun r hr => ?_) (fun _ _ _ _ _ _ => rfl) (fun i r j d hi hj => ?_) (fun i r j d hi hj => ?_)
      · obtain ⟨b, _, rfl⟩ := List.mem_map.1 hr; exact he.2.1 b
      · obtain ⟨b, hb, rfl⟩ := hrow i r hi
        obtain ⟨x, hx, _⟩ := hcell i b hb j d hj
        rw [hx]; rfl
      · obtain ⟨b, hb, rfl⟩ := hrow i r hi
        obtain ⟨x, hx, hr⟩ := hcell i b hb j d hj
        simp only [hx, Option.getD_some]; exact hr

/-! ### Structs -/
theorem drop_take_app {α : Type} (l : List α) (a b : Nat) : (l.drop 0).take (a + b) = (l.drop 0).take a ++ (l.drop a).take b := by
  simp [List.take_add]
theorem Dec.struct3 {P : Program} {t : TypeId} {f0 f1 f2 : Field} {β0 β1 β2 : Type} {k0 k1 k2 : Nat} {e0 : β0 → List D} {e1 : β1 → List D} {e2 : β2 → List D} {R0 : β0 → Prop} {R1 : β1 → Prop} {R2 : β2 → Prop} (ht : P.underlying t = some (.struct #[f0, f1, f2])) (hc : P.cellsOf t = k0 + k1 + k2)
    (o0 : f0.offset = 0) (o1 : f1.offset = k0) (o2 : f2.offset = k0 + k1) (h0 : Dec P f0.type k0 e0 R0) (h1 : Dec P f1.type k1 e1 R1) (h2 : Dec P f2.type k2 e2 R2) : Dec P t (k0 + k1 + k2) (fun b : β0 × β1 × β2 => e0 b.1 ++ e1 b.2.1 ++ e2 b.2.2) (fun b => R0 b.1 ∧ R1 b.2.1 ∧ R2 b.2.2) := by
  refine ⟨hc, fun b => by simp [h0.2.1, h1.2.1, h2.2.1]; omega, fun H enc W fuel cs x hx => ?_⟩
  obtain ⟨xs, n, _, _, hl, hn, hf⟩ := DataW.trod_struct ht hx
  have g0 := hf 0 f0 rfl
  have g1 := hf 1 f1 rfl
  have g2 := hf 2 f2 rfl
  rw [o0, h0.1, List.getElem?_eq_getElem (by rw [hn]; simp)] at g0
  rw [o1, h1.1, List.getElem?_eq_getElem (by rw [hn]; simp)] at g1
  rw [o2, h2.1, List.getElem?_eq_getElem (by rw [hn]; simp)] at g2
  obtain ⟨b0, r0, c0⟩ := h0.2.2 H enc W n _ _ g0
  obtain ⟨b1, r1, c1⟩ := h1.2.2 H enc W n _ _ g1
  obtain ⟨b2, r2, c2⟩ := h2.2.2 H enc W n _ _ g2
  refine ⟨(b0, b1, b2), ⟨r0, r1, r2⟩, ?_⟩
  have := (c0.app c1).app c2
  rwa [← drop_take_app, ← drop_take_app, List.drop_zero, List.take_of_length_le (by omega)] at this
theorem Dec.struct5 {P : Program} {t : TypeId} {f0 f1 f2 f3 f4 : Field} {β0 β1 β2 β3 β4 : Type} {k0 k1 k2 k3 k4 : Nat} {e0 : β0 → List D} {e1 : β1 → List D} {e2 : β2 → List D} {e3 : β3 → List D} {e4 : β4 → List D} {R0 : β0 → Prop} {R1 : β1 → Prop} {R2 : β2 → Prop} {R3 : β3 → Prop} {R4 : β4 → Prop} (ht : P.underlying t = some (.struct #[f0, f1, f2, f3, f4])) (hc : P.cellsOf t = k0 + k1 + k2 + k3 + k4)
    (o0 : f0.offset = 0) (o1 : f1.offset = k0) (o2 : f2.offset = k0 + k1) (o3 : f3.offset = k0 + k1 + k2) (o4 : f4.offset = k0 + k1 + k2 + k3) (h0 : Dec P f0.type k0 e0 R0) (h1 : Dec P f1.type k1 e1 R1) (h2 : Dec P f2.type k2 e2 R2) (h3 : Dec P f3.type k3 e3 R3) (h4 : Dec P f4.type k4 e4 R4) :
    Dec P t (k0 + k1 + k2 + k3 + k4) (fun b : β0 × β1 × β2 × β3 × β4 => e0 b.1 ++ e1 b.2.1 ++ e2 b.2.2.1 ++ e3 b.2.2.2.1 ++ e4 b.2.2.2.2) (fun b => R0 b.1 ∧ R1 b.2.1 ∧ R2 b.2.2.1 ∧ R3 b.2.2.2.1 ∧ R4 b.2.2.2.2) := by
  refine ⟨hc, fun b => by simp [h0.2.1, h1.2.1, h2.2.1, h3.2.1, h4.2.1]; omega, fun H enc W fuel cs x hx => ?_⟩
  obtain ⟨xs, n, _, _, hl, hn, hf⟩ := DataW.trod_struct ht hx
  have g0 := hf 0 f0 rfl
  have g1 := hf 1 f1 rfl
  have g2 := hf 2 f2 rfl
  have g3 := hf 3 f3 rfl
  have g4 := hf 4 f4 rfl
  rw [o0, h0.1, List.getElem?_eq_getElem (by rw [hn]; simp)] at g0
  rw [o1, h1.1, List.getElem?_eq_getElem (by rw [hn]; simp)] at g1
  rw [o2, h2.1, List.getElem?_eq_getElem (by rw [hn]; simp)] at g2
  rw [o3, h3.1, List.getElem?_eq_getElem (by rw [hn]; simp)] at g3
  rw [o4, h4.1, List.getElem?_eq_getElem (by rw [hn]; simp)] at g4
  obtain ⟨b0, r0, c0⟩ := h0.2.2 H enc W n _ _ g0
  obtain ⟨b1, r1, c1⟩ := h1.2.2 H enc W n _ _ g1
  obtain ⟨b2, r2, c2⟩ := h2.2.2 H enc W n _ _ g2
  obtain ⟨b3, r3, c3⟩ := h3.2.2 H enc W n _ _ g3
  obtain ⟨b4, r4, c4⟩ := h4.2.2 H enc W n _ _ g4
  refine ⟨(b0, b1, b2, b3, b4), ⟨r0, r1, r2, r3, r4⟩, ?_⟩
  have := (((c0.app c1).app c2).app c3).app c4
  rwa [← drop_take_app, ← drop_take_app, ← drop_take_app, ← drop_take_app, List.drop_zero, List.take_of_length_le (by omega)] at this

/-! ### Arguments -/
/-- One cell. -/
theorem Dec.arg {P : Program} {t : TypeId} {β : Type} {f : β → D} {R : β → Prop} (h : Dec P t 1 (fun b => [f b]) R) {H : Type} {enc : TypeId × Value → H} {W : World} {v : Value} {d : DataW H} {ps : List MemPlace} (hv : v.cells.toList = [v]) (hx : DataW.Trod enc P W 0 (fun _ => true) true t v d ps) : ∃ b, R b ∧ RepS zO zH W v (.d (f b)) := by
  obtain ⟨fuel, hf⟩ := hx
  obtain ⟨b, hr, hb⟩ := h.2.2 H enc W fuel _ _ hf
  rw [hv] at hb
  exact ⟨b, hr, .d _ _ (hb.2 0 v _ rfl rfl)⟩
/-- A struct. -/
theorem Dec.argG {P : Program} {t : TypeId} {β : Type} {k : Nat} {f : β → List D} {R : β → Prop} (h : Dec P t k f R) (h1 : ∀ b, (f b).all D.one = true) {H : Type} {enc : TypeId × Value → H} {W : World} {cs : Array Value} {d : DataW H} {ps : List MemPlace} (hx : DataW.Trod enc P W 0 (fun _ => true) true t (.agg cs) d ps) :
    ∃ b, R b ∧ RepS zO zH W (.agg cs) (.g ((f b).map .d)) := by
  obtain ⟨fuel, hf⟩ := hx
  obtain ⟨b, hr, hb⟩ := h.2.2 H enc W fuel _ _ hf
  simp only [Value.cells] at hb
  refine ⟨b, hr, ?_⟩
  have := RepS.g (O := zO) (H := zH) (w := W) cs.toList ((f b).map .d) (by simp [hb.1]) (fun x hx => ?_) (fun i x s hx hs => ?_)
  · simpa using this
  · obtain ⟨i, hi⟩ := List.getElem?_of_mem hx
    have hlt : i < (f b).length := by rw [← hb.1]; exact (List.getElem?_eq_some_iff.1 hi).1
    exact (hb.2 i x _ hi (List.getElem?_eq_getElem hlt)).one' (List.all_eq_true.1 (h1 b) _ (List.getElem_mem hlt))
  · simp only [List.getElem?_map, Option.map_eq_some_iff] at hs
    obtain ⟨y, hy, rfl⟩ := hs
    exact .d _ _ (hb.2 i x y hx hy)
theorem reps_nil {O : Nat → Nat} {H : Nat → Value} {w : World} : ∀ (i : Nat) (x : Value) (s : S), ([] : List Value)[i]? = some x → ([] : List S)[i]? = some s → RepS O H w x s := fun i x s h => by simp at h
theorem reps_cons {O : Nat → Nat} {H : Nat → Value} {w : World} {v : Value} {t : S} {vs : List Value} {ts : List S} (h : RepS O H w v t) (k : ∀ (i : Nat) (x : Value) (s : S), vs[i]? = some x → ts[i]? = some s → RepS O H w x s) :
    ∀ (i : Nat) (x : Value) (s : S), (v :: vs)[i]? = some x → (t :: ts)[i]? = some s → RepS O H w x s := fun i x s hx hs => by
  cases i with
  | zero => simp at hx hs; subst hx; subst hs; exact h
  | succ i => exact k i x s (by simpa using hx) (by simpa using hs)
theorem RepS.isB {O : Nat → Nat} {H : Nat → Value} {w : World} {x : Value} {b : Bool} (h : RepS O H w x (Bo b)) : x = .bool b := by
  cases h with
  | d _ _ q => cases q with
    | v _ => rfl
end Go.Eng
end
