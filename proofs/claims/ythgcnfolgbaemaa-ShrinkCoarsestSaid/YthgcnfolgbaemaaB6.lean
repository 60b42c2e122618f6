/- The engine and the walks that this claim uses, part 6. Written by prune.py out of our own texts. -/
import Derived.Test.YthgcnfolgbaemaaB5
section
/- Walks, written by gen.py out of hints. -/







set_option linter.unusedVariables false
set_option linter.unusedSimpArgs false
namespace Go.Proofs.Ythgcnfolgbaemaa
open Go.Eng
set_option maxRecDepth 10000
set_option maxHeartbeats 1000000

theorem shrink_Bisimulation_does (a : Abs) (hr : -9223372036854775808 ≤ a.states ∧ a.states ≤ 9223372036854775807) : Does Try.prog false 10 [absS a] (.t [.d (ints (bisR a)), flt (absFault a)]) := by
  refine Does.of_body Try.func10 rfl rfl (by simp) Try.call10 (fun w0 O0 => ?_)
  refine Tr.lenG (n := 0) (i := 2) rfl rfl (fun len0_2 => ?_)
  refine Tr.lenG (n := 0) (i := 4) rfl rfl (fun len0_4 => ?_)
  refine Tr.seq ?_
  refine Tr.region ?_
  refine TrOps.semM (OpSem.box 1 rfl rfl rfl rfl) rfl rfl (by decide) ?_
  refine TrOps.sem (OpSem.move (.inr rfl) rfl) rfl rfl (by decide) ?_
  refine TrOps.semM (OpSem.alloc 3 rfl zc28 rfl) rfl rfl (by decide) ?_
  refine TrOps.nil ?_
  refine At.seq ?_
  refine Tr.seq ?_
  refine Tr.seq ?_
  refine Tr.region ?_
  refine TrOps.sem (OpSem.loadbN rfl rfl rfl vs25 (by first | decide | simp)) rfl rfl (by decide) ?_
  refine TrOps.sem (OpSem.call0 (abstraction_Validate_does a hr) rfl rfl rfl rfl (Les.refl _)) rfl rfl (by decide) ?_
  refine TrOps.semM (OpSem.alloc 4 rfl zc28 rfl) rfl rfl (by decide) ?_
  refine TrOps.storeb rfl rfl rfl rfl rfl rfl rfl vs28 (by first | decide | simp) ?_
  refine TrOps.nil ?_
  refine At.seq ?_
  refine Tr.seq ?_
  refine Tr.region ?_
  refine TrOps.sem (OpSem.loadbN rfl rfl rfl vs28 (by first | decide | simp)) rfl rfl (by decide) ?_
  refine TrOps.sem (OpSem.build rfl rfl pl28 zc28 rfl rfl) rfl rfl (by decide) ?_
  refine TrOps.sem (OpSem.neS2 rfl rfl rfl io28) rfl rfl (by decide) ?_
  refine TrOps.nil ?_
  refine At.seq ?_
  refine Tr.cond rfl (fun c14 => ?_) (fun c14 => ?_)
  · have hne : absFault a ≠ (0, 0) := fun h => by simp [h] at c14
    refine Tr.seq ?_
    refine PC.start [] ?_
    refine PC.sem (OpSem.loadbN rfl rfl rfl vs28 (by first | decide | simp)) rfl rfl ?_
    refine PC.sem (OpSem.move (.inr rfl) rfl) rfl rfl ?_
    refine PC.done0 mixed (by kernel_rfl) (by kernel_rfl) (by kernel_rfl) (by kernel_rfl) (by kernel_rfl) ?_
    refine TrOps.storeb rfl rfl rfl rfl rfl rfl rfl vs28 (by first | decide | simp) ?_
    refine TrOps.nil ?_
    refine At.seq ?_
    refine Tr.ret ?_
    refine At.pass_ret ?_
    exact At.ret rfl (.tmp rfl <| .cellN rfl rfl vs28 <| .nil) rfl (Le.t (.cons (by rw [bisR_1 hne]; exact Le.nil 1) <| .cons (.refl _) <| .nil))
  · have h0 : absFault a = (0, 0) := pair0 (by simpa using c14)
    have hA := (absFault_ok (congrArg Prod.fst h0)).1
    have hst := hA.head.1
    have hns := nS_eq hA
    have hgl := goals_len hA
    refine Tr.skip ?_
    refine At.seq ?_
    refine Tr.seq ?_
    refine Tr.region ?_
    refine TrOps.sem (OpSem.fieldr rfl rfl fo25_0) rfl rfl (by decide) ?_
    refine TrOps.sem (OpSem.loadb1 rfl rfl rfl vs3 rfl) rfl rfl (by decide) ?_
    refine TrOps.semM (OpSem.makeSlice 18 rfl rfl rfl es49 ze49 rfl rfl (by decide) bye49 (by omega) (by omega) (by omega)) rfl rfl (by decide) ?_
    refine TrOps.sem (OpSem.move (.inr rfl) rfl) rfl rfl (by decide) ?_
    refine TrOps.nil ?_
    refine At.seq ?_
    refine Tr.seq ?_
    refine Tr.seq ?_
    refine Tr.region ?_
    refine TrOps.sem (OpSem.fieldr rfl rfl fo25_4) rfl rfl (by decide) ?_
    refine TrOps.sem (OpSem.loadb1 rfl rfl rfl vs23 rfl) rfl rfl (by decide) ?_
    refine TrOps.sem (OpSem.lenL rfl rfl es23) rfl rfl (by decide) ?_
    refine TrOps.sem (OpSem.move (.inl rfl) rfl) rfl rfl (by decide) ?_
    refine TrOps.nil ?_
    refine At.seq ?_
    refine Tr.block ?_
    refine Tr.loop (X := Nat) (fun k => k ≤ a.goals.length) (fun k => [(1, .r 1 0), (3, .r 3 0), (5, .o 18), (20, .d (ints a.goals)), (21, I (a.goals.length)), (22, I (k))]) (fun k => [(18, .own 2 51 ((gpTo a k).map asg)), (1, .box [I (a.states), I (a.labels), .d (arcsD a.arcs), I (a.init), .d (ints a.goals)]), (3, .box [I (0), I (0)])]) (fun k => a.goals.length - k) 0 (by omega) ?_ ?_
    · exact .slot rfl (.refl _) <| .slot rfl (.refl _) <| .slot rfl (.refl _) <| .slot rfl (.refl _) <| .slot rfl (.refl _) <| .slot rfl (Le.of_eq (by simp)) <| .memEq rfl (by rw [gpTo_0, el49]; first | (simp [nS]; done) | (simp [nS]; rfl)) <| .mem rfl <| .mem rfl <| .nil
    · rintro k hkl
      refine Tr.seq ?_
      refine Tr.region ?_
      refine TrOps.sem (OpSem.bin rfl rfl rfl blss) rfl rfl (by decide) ?_
      refine TrOps.nil ?_
      refine At.seq ?_
      refine Tr.seq ?_
      refine Tr.cond rfl (fun c23 => ?_) (fun c23 => ?_)
      · have hk : k < a.goals.length := by simpa using c23
        have hgx := setP_mem hA.goals (nth_mem (l := a.goals) (n := k) (by omega) (by omega))
        refine Tr.skip ?_
        refine At.seq ?_
        refine Tr.seq ?_
        refine Tr.block ?_
        refine Tr.seq ?_
        refine Tr.region ?_
        refine TrOps.sem (OpSem.idxL rfl rfl rfl es23 (by omega) (by omega)) rfl rfl (by decide) ?_
        refine TrOps.sem (OpSem.load1 rfl rfl vs3 rfl) rfl rfl (by decide) ?_
        refine TrOps.sem (OpSem.move (.inr rfl) rfl) rfl rfl (by decide) ?_
        refine TrOps.nil ?_
        refine At.seq ?_
        refine Tr.region ?_
        refine TrOps.sem (OpSem.move (.inl rfl) rfl) rfl rfl (by decide) ?_
        refine TrOps.sem (OpSem.move (.inl rfl) rfl) rfl rfl (by decide) ?_
        refine TrOps.sem (OpSem.idxo rfl rfl rfl rfl es49 (by omega) (by simp [gpTo]; omega)) rfl rfl (by decide) ?_
        refine TrOps.sem (OpSem.fieldq rfl rfl fo51_0) rfl rfl (by decide) ?_
        refine TrOps.storeq rfl rfl rfl rfl rfl rfl rfl vs3 (rows_get (by omega) (by rw [gpTo_len]; omega)) (by simp) ?_
        refine TrOps.nil ?_
        refine At.block_normal ?_
        refine At.seq ?_
        refine Tr.region ?_
        refine TrOps.sem (OpSem.bin rfl rfl rfl (badd (by omega) (by omega))) rfl rfl (by decide) ?_
        refine TrOps.sem (OpSem.move (.inl rfl) rfl) rfl rfl (by decide) ?_
        refine TrOps.nil ?_
        refine At.again (k + 1) (by omega) ?_ (by omega)
        exact .slot rfl (.refl _) <| .slot rfl (.refl _) <| .slot rfl (.refl _) <| .slot rfl (.refl _) <| .slot rfl (.refl _) <| .slot rfl (Le.of_eq (by simp)) <| .memEq rfl (by rw [← gp_set hk hgx.1 (by omega)]) <| .mem rfl <| .mem rfl <| .nil
      · have hk : k = a.goals.length := by simp at c23; omega
        subst hk
        refine Tr.exit ?_
        refine At.pass_exit ?_
        refine At.pass_exit ?_
        refine At.block_same ?_
        refine At.seq ?_
        refine Tr.seq ?_
        refine Tr.region ?_
        refine TrOps.sem (OpSem.move (.inl rfl) rfl) rfl rfl (by decide) ?_
        refine TrOps.sem (OpSem.call (shrink_number_shrink_pair_does (goalP a) (by rw [show (goalP a).length = nS a by simp [goalP]]; omega)).fresh (.inl rfl) rfl rfl rfl rfl (Les.cons (Le.d (by rw [gpTo_end])) .nil)) rfl rfl (by decide) ?_
        refine TrOps.sem (OpSem.move (.inr rfl) rfl) rfl rfl (by decide) ?_
        refine TrOps.nil ?_
        refine At.seq ?_
        refine Tr.block ?_
        refine Tr.loop (X := Nat) (fun k => True) (fun k => [(1, .r 1 0), (3, .r 3 0), (8, .d (ints (prtN a k)))]) (fun k => [(1, .box [I (a.states), I (a.labels), .d (arcsD a.arcs), I (a.init), .d (ints a.goals)]), (3, .box [I (0), I (0)])]) (fun k => nS a - cnt (prtN a k)) 0 trivial ?_ ?_
        · exact .slot rfl (.refl _) <| .slot rfl (.refl _) <| .slot rfl (.refl _) <| .mem rfl <| .mem rfl <| .nil
        · rintro k hkt
          refine Tr.block ?_
          refine Tr.seq ?_
          refine Tr.region ?_
          refine TrOps.sem (OpSem.loadbN rfl rfl rfl vs25 (by first | decide | simp)) rfl rfl (by decide) ?_
          refine TrOps.sem (OpSem.move (.inl rfl) rfl) rfl rfl (by decide) ?_
          refine TrOps.sem (OpSem.call0 (shrink_refine_does a (prtN a k) hA prtN_len).fresh rfl rfl rfl rfl (Les.refl _)) rfl rfl (by decide) ?_
          refine TrOps.sem (OpSem.move (.inr rfl) rfl) rfl rfl (by decide) ?_
          refine TrOps.nil ?_
          refine At.seq ?_
          refine Tr.seq ?_
          refine Tr.seq ?_
          refine Tr.region ?_
          refine TrOps.sem (OpSem.move (.inl rfl) rfl) rfl rfl (by decide) ?_
          refine TrOps.sem (OpSem.move (.inl rfl) rfl) rfl rfl (by decide) ?_
          refine TrOps.sem (OpSem.call0 (slices_Equal_int_int_does (prtN a (k + 1)) (prtN a k)) rfl rfl rfl rfl (Les.refl _)) rfl rfl (by decide) ?_
          refine TrOps.nil ?_
          refine At.seq ?_
          refine Tr.cond rfl (fun c38 => ?_) (fun c38 => ?_)
          · have he : prtN a (k + 1) = prtN a k := of_decide_eq_true c38
            refine Tr.seq ?_
            refine Tr.region ?_
            refine TrOps.sem (OpSem.move (.inl rfl) rfl) rfl rfl (by decide) ?_
            refine TrOps.sem (OpSem.build rfl rfl pl28 zc28 rfl rfl) rfl rfl (by decide) ?_
            refine TrOps.sem (OpSem.move (.inr rfl) rfl) rfl rfl (by decide) ?_
            refine TrOps.storeb rfl rfl rfl rfl rfl rfl rfl vs28 (by first | decide | simp) ?_
            refine TrOps.nil ?_
            refine At.seq ?_
            refine Tr.ret ?_
            refine At.pass_ret ?_
            refine At.block_ret ?_
            refine At.pass_ret ?_
            refine At.block_ret ?_
            exact At.ret rfl (.tmp rfl <| .cellN rfl rfl vs28 <| .nil) rfl (Le.t (.cons (Le.of_eq (by rw [bisR_0 h0, ← bisL_of he])) <| .cons (Le.flt h0.symm) <| .nil))
          · have he : prtN a (k + 1) ≠ prtN a k := of_decide_eq_false c38
            refine Tr.skip ?_
            refine At.seq ?_
            refine Tr.region ?_
            refine TrOps.sem (OpSem.move (.inl rfl) rfl) rfl rfl (by decide) ?_
            refine TrOps.sem (OpSem.move (.inr rfl) rfl) rfl rfl (by decide) ?_
            refine TrOps.nil ?_
            refine At.block_normal ?_
            refine At.again (k + 1) trivial ?_ (bis_lt he)
            exact .slot rfl (.refl _) <| .slot rfl (.refl _) <| .slot rfl (.refl _) <| .mem rfl <| .mem rfl <| .nil

theorem shrink_Quotient_does (a : Abs) (part : List Int) (hr : -9223372036854775808 ≤ a.states ∧ a.states ≤ 9223372036854775807) : Does Try.prog false 16 [absS a, .d (ints part)] (.t [absS (quoR a part), flt (quoF a part)]) := by
  refine Does.of_body Try.func16 rfl rfl (by simp) Try.call16 (fun w0 O0 => ?_)
  refine Tr.lenG (n := 0) (i := 2) rfl rfl (fun len0_2 => ?_)
  refine Tr.lenG (n := 0) (i := 4) rfl rfl (fun len0_4 => ?_)
  refine Tr.lenLe (n := 1) rfl (fun len1 => ?_)
  refine Tr.seq ?_
  refine Tr.region ?_
  refine TrOps.semM (OpSem.box 2 rfl rfl rfl rfl) rfl rfl (by decide) ?_
  refine TrOps.semM (OpSem.alloc 4 rfl zc25 rfl) rfl rfl (by decide) ?_
  refine TrOps.semM (OpSem.alloc 5 rfl zc28 rfl) rfl rfl (by decide) ?_
  refine TrOps.nil ?_
  refine At.seq ?_
  refine Tr.seq ?_
  refine Tr.seq ?_
  refine Tr.region ?_
  refine TrOps.sem (OpSem.loadbN rfl rfl rfl vs25 (by first | decide | simp)) rfl rfl (by decide) ?_
  refine TrOps.sem (OpSem.call0 (abstraction_Validate_does a hr) rfl rfl rfl rfl (Les.refl _)) rfl rfl (by decide) ?_
  refine TrOps.semM (OpSem.alloc 6 rfl zc28 rfl) rfl rfl (by decide) ?_
  refine TrOps.storeb rfl rfl rfl rfl rfl rfl rfl vs28 (by first | decide | simp) ?_
  refine TrOps.nil ?_
  refine At.seq ?_
  refine Tr.seq ?_
  refine Tr.region ?_
  refine TrOps.sem (OpSem.loadbN rfl rfl rfl vs28 (by first | decide | simp)) rfl rfl (by decide) ?_
  refine TrOps.sem (OpSem.build rfl rfl pl28 zc28 rfl rfl) rfl rfl (by decide) ?_
  refine TrOps.sem (OpSem.neS2 rfl rfl rfl io28) rfl rfl (by decide) ?_
  refine TrOps.nil ?_
  refine At.seq ?_
  refine Tr.cond rfl (fun c19 => ?_) (fun c19 => ?_)
  · have hn0 : absFault a ≠ (0, 0) := fun h => by simp [h] at c19
    have he : absFault a = quoF a part := quoF_1 hn0
    have hne : quoF a part ≠ (0, 0) := by rw [← he]; exact hn0
    refine Tr.seq ?_
    refine PC.start [4] ?_
    refine PC.sem (OpSem.build rfl rfl pl25 zc25 rfl rfl) rfl rfl ?_
    refine PC.sem (OpSem.loadbN rfl rfl rfl vs28 (by first | decide | simp)) rfl rfl ?_
    refine PC.storeb 100002 rfl rfl rfl rfl rfl rfl rfl vs25 (by first | decide | simp) ?_
    refine PC.done mixed (by kernel_rfl) (by kernel_rfl) (by kernel_rfl) (by kernel_rfl) ?_
    refine TrOps.storeb rfl rfl rfl rfl rfl rfl rfl vs28 (by first | decide | simp) ?_
    refine TrOps.nil ?_
    refine At.seq ?_
    refine Tr.ret ?_
    refine At.pass_ret ?_
    exact At.ret rfl (.cellN rfl rfl vs25 <| .cellN rfl rfl vs28 <| .nil) rfl (Le.t (.cons (by rw [quoR_1 hne]; exact Le.g (.cons (.refl _) <| .cons (.refl _) <| .cons (Le.nil 3) <| .cons (.refl _) <| .cons (Le.nil 1) <| .nil)) <| .cons (Le.flt he) <| .nil))
  · have h0 : absFault a = (0, 0) := pair0 (by simpa using c19)
    have hA := (absFault_ok (congrArg Prod.fst h0)).1
    have hst := hA.head.1
    have hns := nS_eq hA
    have hgl := goals_len hA
    have hal := hA.len
    have hin := hA.head.2.2
    refine Tr.skip ?_
    refine At.seq ?_
    refine Tr.seq ?_
    refine Tr.seq ?_
    refine Tr.region ?_
    refine TrOps.sem (OpSem.move (.inl rfl) rfl) rfl rfl (by decide) ?_
    refine TrOps.sem (OpSem.lenL rfl rfl es23) rfl rfl (by decide) ?_
    refine TrOps.sem (OpSem.fieldr rfl rfl fo25_0) rfl rfl (by decide) ?_
    refine TrOps.sem (OpSem.loadb1 rfl rfl rfl vs3 rfl) rfl rfl (by decide) ?_
    refine TrOps.sem (OpSem.bin rfl rfl rfl bneq) rfl rfl (by decide) ?_
    refine TrOps.nil ?_
    refine At.seq ?_
    refine Tr.cond rfl (fun c26 => ?_) (fun c26 => ?_)
    · have he : (9, -4) = quoF a part := quoF_2 h0 (by simpa using c26)
      have hne : quoF a part ≠ (0, 0) := by rw [← he]; decide
      refine Tr.seq ?_
      refine Tr.region ?_
      refine TrOps.sem (OpSem.build rfl rfl pl25 zc25 rfl rfl) rfl rfl (by decide) ?_
      refine TrOps.sem (OpSem.build rfl rfl pl28 zc28 rfl rfl) rfl rfl (by decide) ?_
      refine TrOps.storeb rfl rfl rfl rfl rfl rfl rfl vs25 (by first | decide | simp) ?_
      refine TrOps.storeb rfl rfl rfl rfl rfl rfl rfl vs28 (by first | decide | simp) ?_
      refine TrOps.nil ?_
      refine At.seq ?_
      refine Tr.ret ?_
      refine At.pass_ret ?_
      exact At.ret rfl (.cellN rfl rfl vs25 <| .cellN rfl rfl vs28 <| .nil) rfl (Le.t (.cons (by rw [quoR_1 hne]; exact Le.g (.cons (.refl _) <| .cons (.refl _) <| .cons (Le.nil 3) <| .cons (.refl _) <| .cons (Le.nil 1) <| .nil)) <| .cons (Le.flt he) <| .nil))
    · have hln : (part.length : Int) = a.states := by simpa using c26
      refine Tr.skip ?_
      refine At.seq ?_
      refine Tr.seq ?_
      refine Tr.region ?_
      refine TrOps.sem (OpSem.move (.inr rfl) rfl) rfl rfl (by decide) ?_
      refine TrOps.nil ?_
      refine At.seq ?_
      refine Tr.seq ?_
      refine Tr.seq ?_
      refine Tr.region ?_
      refine TrOps.sem (OpSem.move (.inl rfl) rfl) rfl rfl (by decide) ?_
      refine TrOps.sem (OpSem.lenL rfl rfl es23) rfl rfl (by decide) ?_
      refine TrOps.sem (OpSem.move (.inl rfl) rfl) rfl rfl (by decide) ?_
      refine TrOps.nil ?_
      refine At.seq ?_
      refine Tr.block ?_
      refine Tr.loop (X := Nat) (fun k => k ≤ part.length ∧ (∀ i : Nat, i < k → 0 ≤ nth part i ∧ nth part i ≤ topTo part i)) (fun k => [(1, .d (ints part)), (2, .r 2 0), (4, .r 4 0), (5, .r 5 0), (7, I ((topTo part k))), (29, .d (ints part)), (30, I (part.length)), (31, I (k))]) (fun k => [(2, .box [I (a.states), I (a.labels), .d (arcsD a.arcs), I (a.init), .d (ints a.goals)]), (4, .box [I (0), I (0), .d (.v (.slice none 0 0)), I (0), .d (.v (.slice none 0 0))]), (5, .box [I (0), I (0)])]) (fun k => part.length - k) 0 ⟨by omega, by simp⟩ ?_ ?_
      · exact .slot rfl (.refl _) <| .slot rfl (.refl _) <| .slot rfl (.refl _) <| .slot rfl (.refl _) <| .slot rfl (Le.of_eq (by simp [topTo])) <| .slot rfl (.refl _) <| .slot rfl (.refl _) <| .slot rfl (Le.of_eq (by simp)) <| .mem rfl <| .mem rfl <| .mem rfl <| .nil
      · rintro k ⟨hkl, hinv⟩
        refine Tr.seq ?_
        refine Tr.region ?_
        refine TrOps.sem (OpSem.bin rfl rfl rfl blss) rfl rfl (by decide) ?_
        refine TrOps.nil ?_
        refine At.seq ?_
        refine Tr.seq ?_
        refine Tr.cond rfl (fun c32 => ?_) (fun c32 => ?_)
        · have hk : k < part.length := by simpa using c32
          have htp := pre_top (p := part) (k := k) (fun i hi => (hinv i hi).2)
          refine Tr.skip ?_
          refine At.seq ?_
          refine Tr.seq ?_
          refine Tr.block ?_
          refine Tr.seq ?_
          refine Tr.region ?_
          refine TrOps.sem (OpSem.idxL rfl rfl rfl es23 (by omega) (by omega)) rfl rfl (by decide) ?_
          refine TrOps.sem (OpSem.load1 rfl rfl vs3 rfl) rfl rfl (by decide) ?_
          refine TrOps.sem (OpSem.move (.inr rfl) rfl) rfl rfl (by decide) ?_
          refine TrOps.nil ?_
          refine At.seq ?_
          refine Tr.seq ?_
          refine Tr.seq ?_
          refine Tr.region ?_
          refine TrOps.sem (OpSem.move (.inl rfl) rfl) rfl rfl (by decide) ?_
          refine TrOps.sem (OpSem.bin rfl rfl rfl blss) rfl rfl (by decide) ?_
          refine TrOps.sem (OpSem.move (.inl rfl) rfl) rfl rfl (by decide) ?_
          refine TrOps.split (n := 37) rfl (fun c37 => ?_) (fun c37 => ?_)
          · have he : (5, -4) = quoF a part := quoF_3 h0 hln (fun hp => by have := (hp k hk).1; simp at c37; omega)
            have hne : quoF a part ≠ (0, 0) := by rw [← he]; decide
            refine TrOps.gF rfl rfl rfl rfl c37 rfl (by decide) ?_
            refine TrOps.gF rfl rfl rfl rfl c37 rfl (by decide) ?_
            refine TrOps.gF rfl rfl rfl rfl c37 rfl (by decide) ?_
            refine TrOps.sem (OpSem.pickT rfl rfl c37 rfl) rfl rfl (by decide) ?_
            refine TrOps.nil ?_
            refine At.seq ?_
            refine Tr.condT rfl rfl ?_
            refine Tr.seq ?_
            refine Tr.region ?_
            refine TrOps.sem (OpSem.build rfl rfl pl25 zc25 rfl rfl) rfl rfl (by decide) ?_
            refine TrOps.sem (OpSem.build rfl rfl pl28 zc28 rfl rfl) rfl rfl (by decide) ?_
            refine TrOps.storeb rfl rfl rfl rfl rfl rfl rfl vs25 (by first | decide | simp) ?_
            refine TrOps.storeb rfl rfl rfl rfl rfl rfl rfl vs28 (by first | decide | simp) ?_
            refine TrOps.nil ?_
            refine At.seq ?_
            refine Tr.ret ?_
            refine At.pass_ret ?_
            refine At.block_ret ?_
            refine At.pass_ret ?_
            refine At.pass_ret ?_
            refine At.block_ret ?_
            refine At.pass_ret ?_
            exact At.ret rfl (.cellN rfl rfl vs25 <| .cellN rfl rfl vs28 <| .nil) rfl (Le.t (.cons (by rw [quoR_1 hne]; exact Le.g (.cons (.refl _) <| .cons (.refl _) <| .cons (Le.nil 3) <| .cons (.refl _) <| .cons (Le.nil 1) <| .nil)) <| .cons (Le.flt he) <| .nil))
          · refine TrOps.gT rfl rfl rfl rfl c37 ?_
            refine TrOps.sem (OpSem.move (.inl rfl) rfl) rfl rfl (by decide) ?_
            refine TrOps.gT rfl rfl rfl rfl c37 ?_
            refine TrOps.sem (OpSem.move (.inl rfl) rfl) rfl rfl (by decide) ?_
            refine TrOps.gT rfl rfl rfl rfl c37 ?_
            refine TrOps.sem (OpSem.bin rfl rfl rfl bgtr) rfl rfl (by decide) ?_
            refine TrOps.sem (OpSem.pickF rfl rfl c37 rfl) rfl rfl (by decide) ?_
            refine TrOps.nil ?_
            refine At.seq ?_
            refine Tr.cond rfl (fun c41 => ?_) (fun c41 => ?_)
            · have he : (5, -4) = quoF a part := quoF_3 h0 hln (fun hp => by have := (hp k hk).2; simp at c41; omega)
              have hne : quoF a part ≠ (0, 0) := by rw [← he]; decide
              refine Tr.seq ?_
              refine Tr.region ?_
              refine TrOps.sem (OpSem.build rfl rfl pl25 zc25 rfl rfl) rfl rfl (by decide) ?_
              refine TrOps.sem (OpSem.build rfl rfl pl28 zc28 rfl rfl) rfl rfl (by decide) ?_
              refine TrOps.storeb rfl rfl rfl rfl rfl rfl rfl vs25 (by first | decide | simp) ?_
              refine TrOps.storeb rfl rfl rfl rfl rfl rfl rfl vs28 (by first | decide | simp) ?_
              refine TrOps.nil ?_
              refine At.seq ?_
              refine Tr.ret ?_
              refine At.pass_ret ?_
              refine At.block_ret ?_
              refine At.pass_ret ?_
              refine At.pass_ret ?_
              refine At.block_ret ?_
              refine At.pass_ret ?_
              exact At.ret rfl (.cellN rfl rfl vs25 <| .cellN rfl rfl vs28 <| .nil) rfl (Le.t (.cons (by rw [quoR_1 hne]; exact Le.g (.cons (.refl _) <| .cons (.refl _) <| .cons (Le.nil 3) <| .cons (.refl _) <| .cons (Le.nil 1) <| .nil)) <| .cons (Le.flt he) <| .nil))
            · have hq : 0 ≤ nth part k ∧ nth part k ≤ topTo part k := by simp at c37 c41; omega
              refine Tr.skip ?_
              refine At.seq ?_
              refine Tr.region ?_
              refine TrOps.sem (OpSem.move (.inl rfl) rfl) rfl rfl (by decide) ?_
              refine TrOps.sem (OpSem.move (.inl rfl) rfl) rfl rfl (by decide) ?_
              refine TrOps.sem (OpSem.bin rfl rfl rfl (badd (by omega) (by omega))) rfl rfl (by decide) ?_
              refine TrOps.sem (OpSem.max2 rfl rfl rfl) rfl rfl (by decide) ?_
              refine TrOps.sem (OpSem.move (.inr rfl) rfl) rfl rfl (by decide) ?_
              refine TrOps.nil ?_
              refine At.block_normal ?_
              refine At.seq ?_
              refine Tr.region ?_
              refine TrOps.sem (OpSem.bin rfl rfl rfl (badd (by omega) (by omega))) rfl rfl (by decide) ?_
              refine TrOps.sem (OpSem.move (.inl rfl) rfl) rfl rfl (by decide) ?_
              refine TrOps.nil ?_
              refine At.again (k + 1) ⟨by omega, all_succ hinv hq⟩ ?_ (by omega)
              exact .slot rfl (.refl _) <| .slot rfl (.refl _) <| .slot rfl (.refl _) <| .slot rfl (.refl _) <| .slot rfl (Le.of_eq (by simp [topTo])) <| .slot rfl (.refl _) <| .slot rfl (.refl _) <| .slot rfl (Le.of_eq (by simp)) <| .mem rfl <| .mem rfl <| .mem rfl <| .nil
        · have hk : k = part.length := by simp at c32; omega
          subst hk
          have hF : quoF a part = (0, 0) := quoF_of hA hln hinv
          refine Tr.exit ?_
          refine At.pass_exit ?_
          refine At.pass_exit ?_
          refine At.block_same ?_
          refine At.seq ?_
          refine Tr.seq ?_
          refine PC.start [] ?_
          refine PC.sem (OpSem.move (.inl rfl) rfl) rfl rfl ?_
          refine PC.sem (OpSem.fieldr rfl rfl fo25_1) rfl rfl ?_
          refine PC.sem (OpSem.loadb1 rfl rfl rfl vs3 rfl) rfl rfl ?_
          refine PC.sem (OpSem.move (.inl rfl) rfl) rfl rfl ?_
          refine PC.sem (OpSem.fieldr rfl rfl fo25_3) rfl rfl ?_
          refine PC.sem (OpSem.loadb1 rfl rfl rfl vs3 rfl) rfl rfl ?_
          refine PC.sem (OpSem.idxL rfl rfl rfl es23 (by omega) (by omega)) rfl rfl ?_
          refine PC.sem (OpSem.load1 rfl rfl vs3 rfl) rfl rfl ?_
          refine PC.sem (OpSem.build rfl rfl pl25 zc25 rfl rfl) rfl rfl ?_
          refine PC.semM (OpSem.alloc 10 rfl zc25 rfl) rfl rfl ?_
          refine PC.done1 10 (.box [I (0), I (0), .d (.v (.slice none 0 0)), I (0), .d (.v (.slice none 0 0))]) mixed (by kernel_rfl) (by kernel_rfl) (by kernel_rfl) (by kernel_rfl) (by kernel_rfl) ?_
          refine TrOps.storeb rfl rfl rfl rfl rfl rfl rfl vs25 (by first | decide | simp) ?_
          refine TrOps.nil ?_
          refine At.seq ?_
          refine Tr.seq ?_
          refine Tr.seq ?_
          refine Tr.ownNilBox 91 10 4 1 3 rfl rfl rfl ?_
          refine Tr.ownNilBox 92 10 2 3 57 rfl rfl rfl ?_
          refine Tr.region ?_
          refine TrOps.sem (OpSem.fieldr rfl rfl fo25_4) rfl rfl (by decide) ?_
          refine TrOps.sem (OpSem.loadb1 rfl rfl rfl vs23 rfl) rfl rfl (by decide) ?_
          refine TrOps.sem (OpSem.lenL rfl rfl es23) rfl rfl (by decide) ?_
          refine TrOps.sem (OpSem.move (.inl rfl) rfl) rfl rfl (by decide) ?_
          refine TrOps.nil ?_
          refine At.seq ?_
          refine Tr.block ?_
          refine Tr.loop (X := Nat) (fun k => k ≤ a.goals.length) (fun k => [(1, .d (ints part)), (2, .r 2 0), (4, .r 4 0), (5, .r 5 0), (10, .r 10 0), (59, .d (ints a.goals)), (60, I (a.goals.length)), (61, I (k))]) (fun k => [(10, .box [I ((topTo part part.length)), I (a.labels), .o 92, I (nth part a.init), .o 91]), (91, .own 1 3 ((qGoTo a part k).map fun n => [D.v (.int .i64 n)])), (92, .own 3 57 (([] : List Arc).map arcC)), (2, .box [I (a.states), I (a.labels), .d (arcsD a.arcs), I (a.init), .d (ints a.goals)]), (4, .box [I (0), I (0), .d (.v (.slice none 0 0)), I (0), .d (.v (.slice none 0 0))]), (5, .box [I (0), I (0)])]) (fun k => a.goals.length - k) 0 (by omega) ?_ ?_
          · exact .slot rfl (.refl _) <| .slot rfl (.refl _) <| .slot rfl (.refl _) <| .slot rfl (.refl _) <| .slot rfl (.refl _) <| .slot rfl (.refl _) <| .slot rfl (.refl _) <| .slot rfl (Le.of_eq (by simp)) <| .mem rfl <| .memEq rfl (by first | (simp [qGoTo]; done) | (simp [qGoTo]; rfl)) <| .memEq rfl rfl <| .mem rfl <| .mem rfl <| .mem rfl <| .nil
          · rintro k hkl
            refine Tr.seq ?_
            refine Tr.region ?_
            refine TrOps.sem (OpSem.bin rfl rfl rfl blss) rfl rfl (by decide) ?_
            refine TrOps.nil ?_
            refine At.seq ?_
            refine Tr.seq ?_
            refine Tr.cond rfl (fun c62 => ?_) (fun c62 => ?_)
            · have hk : k < a.goals.length := by simpa using c62
              have hgx := setP_mem hA.goals (nth_mem (l := a.goals) (n := k) (by omega) (by omega))
              have hql := qGo_len (a := a) (p := part) (Nat.le_of_lt hk)
              refine Tr.skip ?_
              refine At.seq ?_
              refine Tr.seq ?_
              refine Tr.block ?_
              refine Tr.seq ?_
              refine Tr.region ?_
              refine TrOps.sem (OpSem.idxL rfl rfl rfl es23 (by omega) (by omega)) rfl rfl (by decide) ?_
              refine TrOps.sem (OpSem.load1 rfl rfl vs3 rfl) rfl rfl (by decide) ?_
              refine TrOps.sem (OpSem.move (.inr rfl) rfl) rfl rfl (by decide) ?_
              refine TrOps.nil ?_
              refine At.seq ?_
              refine PC.start [] ?_
              refine PC.sem (OpSem.fieldr rfl rfl fo25_4) rfl rfl ?_
              refine PC.sem (OpSem.loadb1 rfl rfl rfl vs23 rfl) rfl rfl ?_
              refine PC.sem (OpSem.move (.inl rfl) rfl) rfl rfl ?_
              refine PC.sem (OpSem.move (.inl rfl) rfl) rfl rfl ?_
              refine PC.sem (OpSem.idxL rfl rfl rfl es23 (by omega) (by omega)) rfl rfl ?_
              refine PC.sem (OpSem.load1 rfl rfl vs3 rfl) rfl rfl ?_
              refine PC.sem (OpSem.buildSlice rfl rfl es23 ze23 rfl rfl (by decide) (by decide) rfl rfl) rfl rfl ?_
              refine PC.done0 mixed (by kernel_rfl) (by kernel_rfl) (by kernel_rfl) (by kernel_rfl) (by kernel_rfl) ?_
              refine TrOps.append rfl rfl rfl (by decide) rfl rfl rfl es23 el23 zc3 rfl by3 (by simp [D.one, Value.oneCell']) (by simp [maxLen]; omega) (by simp; omega) ?_
              refine TrOps.sem (OpSem.fieldr rfl rfl fo25_4) rfl rfl (by decide) ?_
              refine TrOps.storeb rfl rfl rfl rfl rfl rfl rfl vs23 (by first | decide | simp) ?_
              refine TrOps.nil ?_
              refine At.block_normal ?_
              refine At.seq ?_
              refine Tr.region ?_
              refine TrOps.sem (OpSem.bin rfl rfl rfl (badd (by omega) (by omega))) rfl rfl (by decide) ?_
              refine TrOps.sem (OpSem.move (.inl rfl) rfl) rfl rfl (by decide) ?_
              refine TrOps.nil ?_
              refine At.again (k + 1) (by omega) ?_ (by omega)
              exact .slot rfl (.refl _) <| .slot rfl (.refl _) <| .slot rfl (.refl _) <| .slot rfl (.refl _) <| .slot rfl (.refl _) <| .slot rfl (.refl _) <| .slot rfl (.refl _) <| .slot rfl (Le.of_eq (by simp)) <| .mem rfl <| .memEq rfl (by rw [qGo_s hk]; simp) <| .memEq rfl rfl <| .mem rfl <| .mem rfl <| .mem rfl <| .nil
            · have hk : k = a.goals.length := by simp at c62; omega
              subst hk
              have hql := qGo_len (a := a) (p := part) (k := a.goals.length) (Nat.le_refl _)
              refine Tr.exit ?_
              refine At.pass_exit ?_
              refine At.pass_exit ?_
              refine At.block_same ?_
              refine At.seq ?_
              refine Tr.seq ?_
              refine Tr.region ?_
              refine TrOps.sem (OpSem.fieldr rfl rfl fo25_4) rfl rfl (by decide) ?_
              refine TrOps.sem (OpSem.loadb1 rfl rfl rfl vs23 rfl) rfl rfl (by decide) ?_
              refine TrOps.ofSt (OpSt.callWS (s := .t []) (sortI_W (qGoTo a part a.goals.length) (by omega)) rfl rfl rfl (fun H => rfl) (plain_ints _) (fun O H w => .t [] [] rfl (fun i x s h => by simp at h))) rfl rfl rfl (by decide) ?_
              refine TrOps.nil ?_
              refine At.seq ?_
              refine Tr.seq ?_
              refine Tr.region ?_
              refine TrOps.sem (OpSem.fieldr rfl rfl fo25_4) rfl rfl (by decide) ?_
              refine TrOps.sem (OpSem.loadb1 rfl rfl rfl vs23 rfl) rfl rfl (by decide) ?_
              refine TrOps.callW (s := .o 91) (compact_allI (sortI (qGoTo a part a.goals.length)) (by rw [sortI_len]; omega)) rfl rfl rfl (by decide) rfl rfl rfl (fun H => rfl) (plain_ints _) (fun O H w h1 => .o 91 h1) ?_
              refine TrOps.sem (OpSem.fieldr rfl rfl fo25_4) rfl rfl (by decide) ?_
              refine TrOps.storeb rfl rfl rfl rfl rfl rfl rfl vs23 (by first | decide | simp) ?_
              refine TrOps.nil ?_
              refine At.seq ?_
              refine Tr.seq ?_
              refine Tr.seq ?_
              refine Tr.freeze 91 rfl ?_
              refine Tr.region ?_
              refine TrOps.sem (OpSem.fieldr rfl rfl fo25_2) rfl rfl (by decide) ?_
              refine TrOps.sem (OpSem.loadb1 rfl rfl rfl vs22 rfl) rfl rfl (by decide) ?_
              refine TrOps.sem (OpSem.lenL rfl rfl es22) rfl rfl (by decide) ?_
              refine TrOps.sem (OpSem.move (.inl rfl) rfl) rfl rfl (by decide) ?_
              refine TrOps.nil ?_
              refine At.seq ?_
              refine Tr.block ?_
              refine Tr.loop (X := Nat) (fun k => k ≤ a.arcs.length) (fun k => [(1, .d (ints part)), (4, .r 4 0), (5, .r 5 0), (10, .r 10 0), (83, .d (arcsD a.arcs)), (84, I (a.arcs.length)), (85, I (k))]) (fun k => [(10, .box [I ((topTo part part.length)), I (a.labels), .o 92, I (nth part a.init), .d (ints (dd (sortI (qGoTo a part a.goals.length))))]), (92, .own 3 57 ((qArcTo a part k).map arcC)), (4, .box [I (0), I (0), .d (.v (.slice none 0 0)), I (0), .d (.v (.slice none 0 0))]), (5, .box [I (0), I (0)])]) (fun k => a.arcs.length - k) 0 (by omega) ?_ ?_
              · exact .slot rfl (.refl _) <| .slot rfl (.refl _) <| .slot rfl (.refl _) <| .slot rfl (.refl _) <| .slot rfl (.refl _) <| .slot rfl (.refl _) <| .slot rfl (Le.of_eq (by simp)) <| .mem rfl <| .memEq rfl (by first | (simp [qArcTo]; done) | (simp [qArcTo]; rfl)) <| .mem rfl <| .mem rfl <| .nil
              · rintro k hkl
                refine Tr.seq ?_
                refine Tr.region ?_
                refine TrOps.sem (OpSem.bin rfl rfl rfl blss) rfl rfl (by decide) ?_
                refine TrOps.nil ?_
                refine At.seq ?_
                refine Tr.seq ?_
                refine Tr.cond rfl (fun c86 => ?_) (fun c86 => ?_)
                · have hk : k < a.arcs.length := by simpa using c86
                  have hx := hA.arc k hk
                  have hql2 := qArc_len (a := a) (p := part) (Nat.le_of_lt hk)
                  refine Tr.skip ?_
                  refine At.seq ?_
                  refine Tr.seq ?_
                  refine Tr.block ?_
                  refine Tr.seq ?_
                  refine Tr.region ?_
                  refine TrOps.sem (OpSem.idxL rfl rfl rfl es22 (by omega) (by omega)) rfl rfl (by decide) ?_
                  refine TrOps.sem (OpSem.loadN rfl rfl vs57 (by first | decide | simp) rfl) rfl rfl (by decide) ?_
                  refine TrOps.semM (OpSem.alloc 14 rfl zc57 rfl) rfl rfl (by decide) ?_
                  refine TrOps.storeb rfl rfl rfl rfl rfl rfl rfl vs57 (by first | decide | simp) ?_
                  refine TrOps.nil ?_
                  refine At.seq ?_
                  refine PC.start [] ?_
                  refine PC.sem (OpSem.fieldr rfl rfl fo25_2) rfl rfl ?_
                  refine PC.sem (OpSem.loadb1 rfl rfl rfl vs22 rfl) rfl rfl ?_
                  refine PC.sem (OpSem.move (.inl rfl) rfl) rfl rfl ?_
                  refine PC.sem (OpSem.fieldr rfl rfl fo57_0) rfl rfl ?_
                  refine PC.sem (OpSem.loadb1 rfl rfl rfl vs3 rfl) rfl rfl ?_
                  refine PC.sem (OpSem.idxL rfl rfl rfl es23 (by omega) (by omega)) rfl rfl ?_
                  refine PC.sem (OpSem.load1 rfl rfl vs3 rfl) rfl rfl ?_
                  refine PC.sem (OpSem.fieldr rfl rfl fo57_1) rfl rfl ?_
                  refine PC.sem (OpSem.loadb1 rfl rfl rfl vs3 rfl) rfl rfl ?_
                  refine PC.sem (OpSem.move (.inl rfl) rfl) rfl rfl ?_
                  refine PC.sem (OpSem.fieldr rfl rfl fo57_2) rfl rfl ?_
                  refine PC.sem (OpSem.loadb1 rfl rfl rfl vs3 rfl) rfl rfl ?_
                  refine PC.sem (OpSem.idxL rfl rfl rfl es23 (by omega) (by omega)) rfl rfl ?_
                  refine PC.sem (OpSem.load1 rfl rfl vs3 rfl) rfl rfl ?_
                  refine PC.sem (OpSem.build rfl rfl pl57 zc57 rfl rfl) rfl rfl ?_
                  refine PC.sem (OpSem.buildSlice rfl rfl es22 ze22 rfl rfl (by decide) (by decide) rfl rfl) rfl rfl ?_
                  refine PC.done0 mixed (by kernel_rfl) (by kernel_rfl) (by kernel_rfl) (by kernel_rfl) (by kernel_rfl) ?_
                  refine TrOps.append rfl rfl rfl (by decide) rfl rfl rfl es22 el22 zc57 rfl by57 (by simp [D.one, Value.oneCell']) (by simp [maxLen]; omega) (by simp; omega) ?_
                  refine TrOps.sem (OpSem.fieldr rfl rfl fo25_2) rfl rfl (by decide) ?_
                  refine TrOps.storeb rfl rfl rfl rfl rfl rfl rfl vs22 (by first | decide | simp) ?_
                  refine TrOps.nil ?_
                  refine At.block_normal ?_
                  refine At.seq ?_
                  refine Tr.region ?_
                  refine TrOps.sem (OpSem.bin rfl rfl rfl (badd (by omega) (by omega))) rfl rfl (by decide) ?_
                  refine TrOps.sem (OpSem.move (.inl rfl) rfl) rfl rfl (by decide) ?_
                  refine TrOps.nil ?_
                  refine At.again (k + 1) (by omega) ?_ (by omega)
                  exact .slot rfl (.refl _) <| .slot rfl (.refl _) <| .slot rfl (.refl _) <| .slot rfl (.refl _) <| .slot rfl (.refl _) <| .slot rfl (.refl _) <| .slot rfl (Le.of_eq (by simp)) <| .mem rfl <| .memEq rfl (by rw [qArc_s hk]; simp) <| .mem rfl <| .mem rfl <| .nil
                · have hk : k = a.arcs.length := by simp at c86; omega
                  subst hk
                  have hql2 := qArc_len (a := a) (p := part) (k := a.arcs.length) (Nat.le_refl _)
                  refine Tr.exit ?_
                  refine At.pass_exit ?_
                  refine At.pass_exit ?_
                  refine At.block_same ?_
                  refine At.seq ?_
                  refine Tr.seq ?_
                  refine Tr.region ?_
                  refine TrOps.sem (OpSem.loadbN rfl rfl rfl vs25 (by first | decide | simp)) rfl rfl (by decide) ?_
                  refine TrOps.callAbs (fun q n c => sorted_all (qArcTo a part a.arcs.length) (topTo part part.length) a.labels (nth part a.init) q n c (by omega)) rfl rfl rfl (by decide) rfl rfl rfl (plain_arcs _) ?_
                  refine TrOps.freeze 92 rfl ?_
                  refine TrOps.sem (OpSem.build rfl rfl pl28 zc28 rfl rfl) rfl rfl (by decide) ?_
                  refine TrOps.storeb rfl rfl rfl rfl rfl rfl rfl vs25 (by first | decide | simp) ?_
                  refine TrOps.storeb rfl rfl rfl rfl rfl rfl rfl vs28 (by first | decide | simp) ?_
                  refine TrOps.nil ?_
                  refine At.seq ?_
                  refine Tr.ret ?_
                  exact At.ret rfl (.cellN rfl rfl vs25 <| .cellN rfl rfl vs28 <| .nil) rfl (Le.t (.cons (Le.of_eq (by rw [quoR_0 hF]; rfl)) <| .cons (Le.flt hF.symm) <| .nil))

theorem Q_IsPartition_does (part : List Int) : Does Try.prog false 11 [.d (ints part)] (Bo (decide (PartP part))) := by
  refine Does.of_body Try.func11 rfl rfl (by simp) Try.call11 (fun w0 O0 => ?_)
  refine Tr.lenLe (n := 0) rfl (fun len0 => ?_)
  refine Tr.seq ?_
  refine Tr.region ?_
  refine TrOps.sem (OpSem.move (.inr rfl) rfl) rfl rfl (by decide) ?_
  refine TrOps.nil ?_
  refine At.seq ?_
  refine Tr.seq ?_
  refine Tr.seq ?_
  refine Tr.region ?_
  refine TrOps.sem (OpSem.move (.inr rfl) rfl) rfl rfl (by decide) ?_
  refine TrOps.nil ?_
  refine At.seq ?_
  refine Tr.block ?_
  refine Tr.loop (X := Nat) (fun k => k ≤ part.length ∧ (∀ i : Nat, i < k → 0 ≤ nth part i ∧ nth part i ≤ topTo part i)) (fun k => [(0, .d (ints part)), (3, I (k))]) (fun k => []) (fun k => part.length - k) 0 ⟨by omega, by simp⟩ ?_ ?_
  · exact .slot rfl (.refl _) <| .slot rfl (Le.of_eq (by simp)) <| .nil
  · rintro k ⟨hkl, hinv⟩
    refine Tr.seq ?_
    refine Tr.seq ?_
    refine Tr.region ?_
    refine TrOps.sem (OpSem.move (.inl rfl) rfl) rfl rfl (by decide) ?_
    refine TrOps.sem (OpSem.move (.inl rfl) rfl) rfl rfl (by decide) ?_
    refine TrOps.sem (OpSem.lenL rfl rfl es23) rfl rfl (by decide) ?_
    refine TrOps.sem (OpSem.bin rfl rfl rfl blss) rfl rfl (by decide) ?_
    refine TrOps.nil ?_
    refine At.seq ?_
    refine Tr.cond rfl (fun c9 => ?_) (fun c9 => ?_)
    · have hk : k < part.length := by simpa using c9
      have htp := pre_top (p := part) (k := k) (fun i hi => (hinv i hi).2)
      have htn := topTo_nn (p := part) (k := k)
      refine Tr.skip ?_
      refine At.seq ?_
      refine Tr.seq ?_
      refine Tr.block ?_
      refine Tr.seq ?_
      refine Tr.region ?_
      refine TrOps.sem (OpSem.move (.inr rfl) rfl) rfl rfl (by decide) ?_
      refine TrOps.nil ?_
      refine At.seq ?_
      refine Tr.seq ?_
      refine Tr.seq ?_
      refine Tr.region ?_
      refine TrOps.sem (OpSem.move (.inr rfl) rfl) rfl rfl (by decide) ?_
      refine TrOps.nil ?_
      refine At.seq ?_
      refine Tr.block ?_
      refine Tr.loop (X := Nat) (fun y => y ≤ k) (fun y => [(0, .d (ints part)), (3, I (k)), (4, I (topTo part y - 1)), (5, I (y))]) (fun y => []) (fun y => k - y) 0 (by omega) ?_ ?_
      · exact .slot rfl (.refl _) <| .slot rfl (.refl _) <| .slot rfl (Le.of_eq (by simp [topTo])) <| .slot rfl (Le.of_eq (by simp)) <| .nil
      · rintro y hyl
        refine Tr.seq ?_
        refine Tr.seq ?_
        refine Tr.region ?_
        refine TrOps.sem (OpSem.move (.inl rfl) rfl) rfl rfl (by decide) ?_
        refine TrOps.sem (OpSem.move (.inl rfl) rfl) rfl rfl (by decide) ?_
        refine TrOps.sem (OpSem.bin rfl rfl rfl blss) rfl rfl (by decide) ?_
        refine TrOps.nil ?_
        refine At.seq ?_
        refine Tr.cond rfl (fun c14 => ?_) (fun c14 => ?_)
        · have hy : y < k := by simpa using c14
          refine Tr.skip ?_
          refine At.seq ?_
          refine Tr.seq ?_
          refine Tr.block ?_
          refine Tr.region ?_
          refine TrOps.sem (OpSem.move (.inl rfl) rfl) rfl rfl (by decide) ?_
          refine TrOps.sem (OpSem.move (.inl rfl) rfl) rfl rfl (by decide) ?_
          refine TrOps.sem (OpSem.move (.inl rfl) rfl) rfl rfl (by decide) ?_
          refine TrOps.sem (OpSem.idxL rfl rfl rfl es23 (by omega) (by omega)) rfl rfl (by decide) ?_
          refine TrOps.sem (OpSem.load1 rfl rfl vs3 rfl) rfl rfl (by decide) ?_
          refine TrOps.sem (OpSem.max2 rfl rfl rfl) rfl rfl (by decide) ?_
          refine TrOps.sem (OpSem.move (.inr rfl) rfl) rfl rfl (by decide) ?_
          refine TrOps.nil ?_
          refine At.block_normal ?_
          refine At.seq ?_
          refine Tr.region ?_
          refine TrOps.sem (OpSem.move (.inl rfl) rfl) rfl rfl (by decide) ?_
          refine TrOps.sem (OpSem.bin rfl rfl rfl (badd (by omega) (by omega))) rfl rfl (by decide) ?_
          refine TrOps.sem (OpSem.move (.inr rfl) rfl) rfl rfl (by decide) ?_
          refine TrOps.nil ?_
          refine At.again (y + 1) (by omega) ?_ (by omega)
          exact .slot rfl (.refl _) <| .slot rfl (.refl _) <| .slot rfl (Le.i (by simp only [topTo]; omega)) <| .slot rfl (Le.of_eq (by simp)) <| .nil
        · have hy : k = y := by simp at c14; omega
          subst hy
          refine Tr.exit ?_
          refine At.pass_exit ?_
          refine At.pass_exit ?_
          refine At.block_same ?_
          refine At.seq ?_
          refine Tr.seq ?_
          refine Tr.region ?_
          refine TrOps.sem (OpSem.move (.inl rfl) rfl) rfl rfl (by decide) ?_
          refine TrOps.sem (OpSem.move (.inl rfl) rfl) rfl rfl (by decide) ?_
          refine TrOps.sem (OpSem.idxL rfl rfl rfl es23 (by omega) (by omega)) rfl rfl (by decide) ?_
          refine TrOps.sem (OpSem.load1 rfl rfl vs3 rfl) rfl rfl (by decide) ?_
          refine TrOps.sem (OpSem.move (.inl rfl) rfl) rfl rfl (by decide) ?_
          refine TrOps.sem (OpSem.bin rfl rfl rfl (badd (by omega) (by omega))) rfl rfl (by decide) ?_
          refine TrOps.sem (OpSem.call0 (R_In_does ..) rfl rfl rfl rfl (Les.refl _)) rfl rfl (by decide) ?_
          refine TrOps.sem (OpSem.not rfl rfl) rfl rfl (by decide) ?_
          refine TrOps.nil ?_
          refine At.seq ?_
          refine Tr.cond rfl (fun c30 => ?_) (fun c30 => ?_)
          · have hb : ¬ (0 ≤ nth part k ∧ nth part k ≤ topTo part k) := by simp at c30; omega
            refine Tr.seq ?_
            refine Tr.region ?_
            refine TrOps.sem (OpSem.move (.inr rfl) rfl) rfl rfl (by decide) ?_
            refine TrOps.nil ?_
            refine At.seq ?_
            refine Tr.ret ?_
            refine At.block_ret ?_
            refine At.pass_ret ?_
            refine At.pass_ret ?_
            refine At.block_ret ?_
            refine At.pass_ret ?_
            exact At.ret rfl (.tmp rfl <| .nil) rfl (Le.bo (decide_eq_false (fun hp => hb (hp k hk))).symm)
          · have hb : 0 ≤ nth part k ∧ nth part k ≤ topTo part k := by simp at c30; omega
            refine Tr.skip ?_
            refine At.block_normal ?_
            refine At.seq ?_
            refine Tr.region ?_
            refine TrOps.sem (OpSem.move (.inl rfl) rfl) rfl rfl (by decide) ?_
            refine TrOps.sem (OpSem.bin rfl rfl rfl (badd (by omega) (by omega))) rfl rfl (by decide) ?_
            refine TrOps.sem (OpSem.move (.inr rfl) rfl) rfl rfl (by decide) ?_
            refine TrOps.nil ?_
            refine At.again (k + 1) ⟨by omega, all_succ hinv hb⟩ ?_ (by omega)
            exact .slot rfl (.refl _) <| .slot rfl (Le.of_eq (by simp)) <| .nil
    · have hk : k = part.length := by simp at c9; omega
      subst hk
      refine Tr.exit ?_
      refine At.pass_exit ?_
      refine At.pass_exit ?_
      refine At.block_same ?_
      refine At.seq ?_
      refine Tr.seq ?_
      refine Tr.region ?_
      refine TrOps.sem (OpSem.move (.inr rfl) rfl) rfl rfl (by decide) ?_
      refine TrOps.nil ?_
      refine At.seq ?_
      refine Tr.ret ?_
      exact At.ret rfl (.tmp rfl <| .nil) rfl (Le.bo (decide_eq_true hinv).symm)

theorem law_shrinkExample_does  : Does Try.prog false 9 [] (Bo true) := by
  refine Does.of_body Try.func9 rfl rfl (by simp) Try.call9 (fun w0 O0 => ?_)
  refine Tr.seq ?_
  refine Tr.region ?_
  refine TrOps.sem (OpSem.move (.inr rfl) rfl) rfl rfl (by decide) ?_
  refine TrOps.nil ?_
  refine At.seq ?_
  refine Tr.seq ?_
  refine Tr.region ?_
  refine TrOps.sem (OpSem.call0 (law_line_does) rfl rfl rfl rfl (Les.refl _)) rfl rfl (by decide) ?_
  refine TrOps.sem (OpSem.call0 (shrink_Bisimulation_does lineA (by decide)) rfl rfl rfl rfl (Les.refl _)) rfl rfl (by decide) ?_
  refine TrOps.sem (OpSem.move (.inl rfl) rfl) rfl rfl (by decide) ?_
  refine TrOps.sem (OpSem.extract rfl rfl rfl) rfl rfl (by decide) ?_
  refine TrOps.sem (OpSem.extract rfl rfl rfl) rfl rfl (by decide) ?_
  refine TrOps.semM (OpSem.alloc 2 rfl zc28 rfl) rfl rfl (by decide) ?_
  refine TrOps.sem (OpSem.move (.inr rfl) rfl) rfl rfl (by decide) ?_
  refine TrOps.storeb rfl rfl rfl rfl rfl rfl rfl vs28 (by first | decide | simp) ?_
  refine TrOps.nil ?_
  refine At.seq ?_
  refine Tr.seq ?_
  refine Tr.region ?_
  refine TrOps.sem (OpSem.call0 (law_line_does) rfl rfl rfl rfl (Les.refl _)) rfl rfl (by decide) ?_
  refine TrOps.sem (OpSem.le (s' := .d (ints [0, 1, 0])) (OpSem.buildSlice rfl rfl es23 ze23 rfl rfl (by decide) (by decide) rfl rfl) (Le.of_eq rfl)) rfl rfl (by decide) ?_
  refine TrOps.sem (OpSem.call0 (shrink_Quotient_does lineA [0, 1, 0] (by decide)) rfl rfl rfl rfl (Les.refl _)) rfl rfl (by decide) ?_
  refine TrOps.sem (OpSem.move (.inl rfl) rfl) rfl rfl (by decide) ?_
  refine TrOps.sem (OpSem.extract rfl rfl rfl) rfl rfl (by decide) ?_
  refine TrOps.sem (OpSem.extract rfl rfl rfl) rfl rfl (by decide) ?_
  refine TrOps.semM (OpSem.alloc 3 rfl zc25 rfl) rfl rfl (by decide) ?_
  refine TrOps.semM (OpSem.alloc 4 rfl zc28 rfl) rfl rfl (by decide) ?_
  refine TrOps.storeb rfl rfl rfl rfl rfl rfl rfl vs25 (by first | decide | simp) ?_
  refine TrOps.storeb rfl rfl rfl rfl rfl rfl rfl vs28 (by first | decide | simp) ?_
  refine TrOps.nil ?_
  refine At.seq ?_
  refine Tr.seq ?_
  refine Tr.region ?_
  refine TrOps.sem (OpSem.fieldr rfl rfl fo28_0) rfl rfl (by decide) ?_
  refine TrOps.sem (OpSem.loadb1 rfl rfl rfl vs3 rfl) rfl rfl (by decide) ?_
  refine TrOps.sem (OpSem.bin rfl rfl rfl beql) rfl rfl (by decide) ?_
  refine TrOps.sem (OpSem.move (.inl rfl) rfl) rfl rfl (by decide) ?_
  refine TrOps.gT rfl rfl rfl rfl (by rw [exS_fault]; rfl) ?_
  refine TrOps.sem (OpSem.fieldr rfl rfl fo28_0) rfl rfl (by decide) ?_
  refine TrOps.gT rfl rfl rfl rfl (by rw [exS_fault]; rfl) ?_
  refine TrOps.sem (OpSem.loadb1 rfl rfl rfl vs3 rfl) rfl rfl (by decide) ?_
  refine TrOps.gT rfl rfl rfl rfl (by rw [exS_fault]; rfl) ?_
  refine TrOps.sem (OpSem.bin rfl rfl rfl beql) rfl rfl (by decide) ?_
  refine TrOps.sem (OpSem.pickT rfl rfl (by rw [exS_fault]; rfl) rfl) rfl rfl (by decide) ?_
  refine TrOps.sem (OpSem.move (.inl rfl) rfl) rfl rfl (by decide) ?_
  refine TrOps.gT rfl rfl rfl rfl (by rw [exS_quoF]; rfl) ?_
  refine TrOps.sem (OpSem.move (.inl rfl) rfl) rfl rfl (by decide) ?_
  refine TrOps.gT rfl rfl rfl rfl (by rw [exS_quoF]; rfl) ?_
  refine TrOps.sem (OpSem.le (s' := .d (ints [0, 1, 2])) (OpSem.buildSlice rfl rfl es23 ze23 rfl rfl (by decide) (by decide) rfl rfl) (Le.of_eq rfl)) rfl rfl (by decide) ?_
  refine TrOps.gT rfl rfl rfl rfl (by rw [exS_quoF]; rfl) ?_
  refine TrOps.sem (OpSem.call0 (R_Ints_does (bisR lineA) [0, 1, 2]) rfl rfl rfl rfl (Les.refl _)) rfl rfl (by decide) ?_
  refine TrOps.sem (OpSem.pickT rfl rfl (by rw [exS_quoF]; rfl) rfl) rfl rfl (by decide) ?_
  refine TrOps.sem (OpSem.move (.inl rfl) rfl) rfl rfl (by decide) ?_
  refine TrOps.gT rfl rfl rfl rfl (by rw [exS_bisR]; rfl) ?_
  refine TrOps.sem (OpSem.fieldr rfl rfl fo25_0) rfl rfl (by decide) ?_
  refine TrOps.gT rfl rfl rfl rfl (by rw [exS_bisR]; rfl) ?_
  refine TrOps.sem (OpSem.loadb1 rfl rfl rfl vs3 rfl) rfl rfl (by decide) ?_
  refine TrOps.gT rfl rfl rfl rfl (by rw [exS_bisR]; rfl) ?_
  refine TrOps.sem (OpSem.bin rfl rfl rfl beql) rfl rfl (by decide) ?_
  refine TrOps.sem (OpSem.pickT rfl rfl (by rw [exS_bisR]; rfl) rfl) rfl rfl (by decide) ?_
  refine TrOps.sem (OpSem.move (.inl rfl) rfl) rfl rfl (by decide) ?_
  refine TrOps.gT rfl rfl rfl rfl (by rw [exS_quoR]; rfl) ?_
  refine TrOps.sem (OpSem.fieldr rfl rfl fo25_2) rfl rfl (by decide) ?_
  refine TrOps.gT rfl rfl rfl rfl (by rw [exS_quoR]; rfl) ?_
  refine TrOps.sem (OpSem.loadb1 rfl rfl rfl vs22 rfl) rfl rfl (by decide) ?_
  refine TrOps.gT rfl rfl rfl rfl (by rw [exS_quoR]; rfl) ?_
  refine TrOps.sem (OpSem.lenL rfl rfl es22) rfl rfl (by decide) ?_
  refine TrOps.gT rfl rfl rfl rfl (by rw [exS_quoR]; rfl) ?_
  refine TrOps.sem (OpSem.bin rfl rfl rfl beql) rfl rfl (by decide) ?_
  refine TrOps.sem (OpSem.pickT rfl rfl (by rw [exS_quoR]; rfl) rfl) rfl rfl (by decide) ?_
  refine TrOps.sem (OpSem.move (.inl rfl) rfl) rfl rfl (by decide) ?_
  refine TrOps.gT rfl rfl rfl rfl (by rw [exS_quoR]; rfl) ?_
  refine TrOps.sem (OpSem.fieldr rfl rfl fo25_4) rfl rfl (by decide) ?_
  refine TrOps.gT rfl rfl rfl rfl (by rw [exS_quoR]; rfl) ?_
  refine TrOps.sem (OpSem.loadb1 rfl rfl rfl vs23 rfl) rfl rfl (by decide) ?_
  refine TrOps.gT rfl rfl rfl rfl (by rw [exS_quoR]; rfl) ?_
  refine TrOps.sem (OpSem.le (s' := .d (ints [0])) (OpSem.buildSlice rfl rfl es23 ze23 rfl rfl (by decide) (by decide) rfl rfl) (Le.of_eq rfl)) rfl rfl (by decide) ?_
  refine TrOps.gT rfl rfl rfl rfl (by rw [exS_quoR]; rfl) ?_
  refine TrOps.sem (OpSem.call0 (R_Ints_does (quoR lineA [0, 1, 0]).goals [0]) rfl rfl rfl rfl (Les.refl _)) rfl rfl (by decide) ?_
  refine TrOps.sem (OpSem.pickT rfl rfl (by rw [exS_quoR]; rfl) rfl) rfl rfl (by decide) ?_
  refine TrOps.sem (OpSem.move (.inr rfl) rfl) rfl rfl (by decide) ?_
  refine TrOps.nil ?_
  refine At.seq ?_
  refine Tr.ret ?_
  exact At.ret rfl (.tmp rfl <| .nil) rfl (Le.bo (by rw [exS_quoR]; rfl))

end Go.Proofs.Ythgcnfolgbaemaa
end

section
/- Walks, written by gen.py out of hints. -/




set_option linter.unusedVariables false
set_option linter.unusedSimpArgs false
namespace Go.Proofs.Ythgcnfolgbaemaa
open Go.Eng
set_option maxRecDepth 10000
set_option maxHeartbeats 1000000

end Go.Proofs.Ythgcnfolgbaemaa
end

section
/- Walks, written by gen.py out of hints. -/




set_option linter.unusedVariables false
set_option linter.unusedSimpArgs false
namespace Go.Proofs.Ythgcnfolgbaemaa
open Go.Eng
set_option maxRecDepth 10000
set_option maxHeartbeats 1000000

end Go.Proofs.Ythgcnfolgbaemaa
end

section
/- Walks, written by gen.py out of hints. -/



set_option linter.unusedVariables false
set_option linter.unusedSimpArgs false
namespace Go.Proofs.Ythgcnfolgbaemaa
open Go.Eng
set_option maxRecDepth 10000
set_option maxHeartbeats 1000000



end Go.Proofs.Ythgcnfolgbaemaa
end

section
/- The product of a quotient; bisimulation of the reference. -/

set_option linter.unusedVariables false
set_option linter.unusedSimpArgs false
set_option linter.unusedSectionVars false
namespace Go.Eng
open Go
theorem pair_at {x y s : Int} (hs : 0 < s) (h0 : 0 ≤ y) (h1 : y < s) : (x * s + y) / s = x ∧ (x * s + y) % s = y := by
  refine ⟨?_, by rw [Int.add_comm, Int.add_mul_emod_self_right, Int.emod_eq_of_lt h0 h1]⟩
  rw [Int.add_comm, Int.add_mul_ediv_right _ _ (by omega), Int.ediv_eq_zero_of_lt h0 h1]; omega
section
variable {a b : Abs} {c : List Int}
/-- The state of the product of the quotient. -/
def qpr (a b : Abs) (p : List Int) (n : Int) : Int := nth p (n / b.states) * b.states + n % b.states
end
end Go.Eng
end

section
/- The reference's bisimulations: pairs of states that differ are marked until nothing changes. -/

set_option linter.unusedVariables false
set_option linter.unusedSimpArgs false
set_option linter.unusedSectionVars false
namespace Go.Eng
open Go
/-! ### Alike -/
def mtF (E : Int → Int → Bool) (a : Abs) (y : Int) (i : Nat) : Nat → Bool
  | 0 => false
  | k + 1 => mtF E a y i k || (decide ((nth a.arcs k).fr = y) && decide ((nth a.arcs k).lab = (nth a.arcs i).lab) && E (nth a.arcs i).to (nth a.arcs k).to)
theorem mtF_iff {E : Int → Int → Bool} {a : Abs} {y : Int} {i : Nat} : ∀ {k : Nat}, mtF E a y i k = true ↔ ∃ j : Nat, j < k ∧ (nth a.arcs j).fr = y ∧ (nth a.arcs j).lab = (nth a.arcs i).lab ∧ E (nth a.arcs i).to (nth a.arcs j).to = true
  | 0 => by simp [mtF]
  | k + 1 => by
    have ih := mtF_iff (E := E) (a := a) (y := y) (i := i) (k := k)
    simp only [mtF, Bool.or_eq_true, Bool.and_eq_true, decide_eq_true_eq, ih]
    constructor
    · rintro (⟨j, hj, h⟩ | ⟨⟨h1, h2⟩, h3⟩)
      · exact ⟨j, by omega, h⟩
      · exact ⟨k, by omega, h1, h2, h3⟩
    · rintro ⟨j, hj, h1, h2, h3⟩
      by_cases e : j = k
      · subst e; exact .inr ⟨⟨h1, h2⟩, h3⟩
      · exact .inl ⟨j, by omega, h1, h2, h3⟩
def AlkP (E : Int → Int → Bool) (a : Abs) (x y : Int) : Prop := ∀ i : Nat, i < a.arcs.length → (nth a.arcs i).fr = x → mtF E a y i a.arcs.length = true
instance {E : Int → Int → Bool} {a : Abs} {x y : Int} : Decidable (AlkP E a x y) := by unfold AlkP; exact inferInstance
def peq (p : List Int) (u v : Int) : Bool := decide (nth p v = nth p u)
def BPr (a : Abs) (p : List Int) (x y : Nat) : Prop := nth p x = nth p y → (decide ((x : Int) ∈ a.goals) = decide ((y : Int) ∈ a.goals)) ∧ AlkP (peq p) a x y
instance {a : Abs} {p : List Int} {x y : Nat} : Decidable (BPr a p x y) := by unfold BPr; exact inferInstance
def IsB (a : Abs) (p : List Int) : Prop := ∀ x : Nat, x < nS a → ∀ y : Nat, y < nS a → BPr a p x y
instance {a : Abs} {p : List Int} : Decidable (IsB a p) := by unfold IsB; exact inferInstance
theorem isB_bis {a : Abs} {p : List Int} (ha : AbsOk a) (h : IsB a p) : BisP a p := {
  goal x y x0 x1 y0 y1 he := by
    have na := nS_eq ha
    obtain ⟨u, rfl⟩ := Int.eq_ofNat_of_zero_le x0
    obtain ⟨v, rfl⟩ := Int.eq_ofNat_of_zero_le y0
    have := (h u (by omega) v (by omega) he).1
    simpa using this
  arc r hr y y0 y1 he := by
    have na := nS_eq ha
    have hi := mem_in ha hr
    obtain ⟨u, hu⟩ := Int.eq_ofNat_of_zero_le hi.1.1
    obtain ⟨v, rfl⟩ := Int.eq_ofNat_of_zero_le y0
    obtain ⟨i, hil, hie⟩ := List.getElem_of_mem hr
    have hn : nth a.arcs i = r := by rw [nth_eq hil, hie]
    have h2 := (h u (by have := hi.1.2; omega) v (by omega) (by rw [← hu]; exact he)).2 i hil (by rw [hn, hu])
    obtain ⟨j, hj, h3, h4, h5⟩ := mtF_iff.1 h2
    rw [hn] at h4 h5
    exact ⟨nth a.arcs j, nth_mem (by omega) (by omega), h3, h4, by simpa [peq] using h5⟩ }
theorem bis_isB {a : Abs} {p : List Int} (ha : AbsOk a) (h : BisP a p) : IsB a p := fun x hx y hy he => by
  have na := nS_eq ha
  refine ⟨by have := h.goal x y (by omega) (by omega) (by omega) (by omega) he; simpa using this, fun i hi hf => ?_⟩
  obtain ⟨s, s1, s2, s3, s4⟩ := h.arc _ (nth_mem (l := a.arcs) (n := i) (by omega) (by omega)) y (by omega) (by omega) (by rw [hf]; exact he)
  obtain ⟨j, hj, rfl⟩ := List.getElem_of_mem s1
  exact mtF_iff.2 ⟨j, hj, by rw [nth_eq hj]; exact s2, by rw [nth_eq hj]; exact s3, by rw [nth_eq hj]; simpa [peq] using s4⟩
theorem shr_top {a : Abs} {p : List Int} (h0 : absFault a = (0, 0)) (hb : IsB a p) {x y : Nat} (hx : x < (bisR a).length) (hy : y < (bisR a).length) (h : nth p x = nth p y) : nth (bisR a) x = nth (bisR a) y := by
  have ha := (absFault_ok (congrArg Prod.fst h0)).1
  rw [bisR_0 h0] at hx hy ⊢
  rw [bisL_len] at hx hy
  exact bisL_top ha (isB_bis ha hb) hx hy h
theorem bisR_len {a : Abs} (h0 : absFault a = (0, 0)) : (bisR a).length = nS a := by rw [bisR_0 h0, bisL_len]
/-! ### The marks -/
def dt (a : Abs) (d : List Bool) (u v : Int) : Bool := nth d (u * a.states + v)
def ndt (a : Abs) (d : List Bool) (u v : Int) : Bool := !(dt a d u v)
def mark (a : Abs) (d : List Bool) (x y : Int) : List Bool := setI (setI d (x * a.states + y) true) (y * a.states + x) true
def stI (a : Abs) (x y : Int) (s : List Bool × Bool) (i : Nat) : List Bool × Bool :=
  if dt a s.1 x y = true then s else if (nth a.arcs i).fr ≠ x then s else if mtF (ndt a s.1) a y i a.arcs.length = true then s else (mark a s.1 x y, true)
def passI (a : Abs) (x y : Int) (s : List Bool × Bool) : Nat → List Bool × Bool
  | 0 => s
  | k + 1 => stI a x y (passI a x y s k) k
def passY (a : Abs) (x : Int) (s : List Bool × Bool) : Nat → List Bool × Bool
  | 0 => s
  | y + 1 => passI a x y (passY a x s y) a.arcs.length
def passX (a : Abs) (s : List Bool × Bool) : Nat → List Bool × Bool
  | 0 => s
  | x + 1 => passY a x (passX a s x) (nS a)
theorem passI_stop {a : Abs} {x y : Int} {s : List Bool × Bool} {k : Nat} (h : dt a (passI a x y s k).1 x y = true) : ∀ j : Nat, passI a x y s (k + j) = passI a x y s k
  | 0 => rfl
  | j + 1 => by
    have ih := passI_stop h j
    show stI a x y (passI a x y s (k + j)) (k + j) = _
    rw [ih]; unfold stI; rw [if_pos h]
theorem passI_end {a : Abs} {x y : Int} {s : List Bool × Bool} {k : Nat} (hk : k ≤ a.arcs.length) (h : dt a (passI a x y s k).1 x y = true) : passI a x y s k = passI a x y s a.arcs.length := by
  have := passI_stop h (a.arcs.length - k)
  rw [show k + (a.arcs.length - k) = a.arcs.length by omega] at this
  exact this.symm
/-- A pass that marks nothing. -/
theorem passI_f {a : Abs} {x y : Int} {s : List Bool × Bool} : ∀ {k : Nat}, (passI a x y s k).2 = false → s.2 = false ∧ passI a x y s k = s ∧ (dt a s.1 x y = true ∨ ∀ i : Nat, i < k → (nth a.arcs i).fr = x → mtF (ndt a s.1) a y i a.arcs.length = true)
  | 0, h => ⟨h, rfl, .inr fun i hi => by omega⟩
  | k + 1, h => by
    have h : (stI a x y (passI a x y s k) k).2 = false := h
    have hs : passI a x y s (k + 1) = stI a x y (passI a x y s k) k := rfl
    unfold stI at h hs
    by_cases h1 : dt a (passI a x y s k).1 x y = true
    · rw [if_pos h1] at h hs
      obtain ⟨i1, i2, i3⟩ := passI_f h
      exact ⟨i1, by rw [hs]; exact i2, .inl (by rw [i2] at h1; exact h1)⟩
    · rw [if_neg h1] at h hs
      by_cases h2 : (nth a.arcs k).fr ≠ x
      · rw [if_pos h2] at h hs
        obtain ⟨i1, i2, i3⟩ := passI_f h
        refine ⟨i1, by rw [hs]; exact i2, i3.imp id fun i3 i hi hf => ?_⟩
        by_cases e : i = k
        · subst e; exact absurd hf h2
        · exact i3 i (by omega) hf
      · rw [if_neg h2] at h hs
        by_cases h3 : mtF (ndt a (passI a x y s k).1) a y k a.arcs.length = true
        · rw [if_pos h3] at h hs
          obtain ⟨i1, i2, i3⟩ := passI_f h
          refine ⟨i1, by rw [hs]; exact i2, i3.imp id fun i3 i hi hf => ?_⟩
          by_cases e : i = k
          · subst e; rw [i2] at h3; exact h3
          · exact i3 i (by omega) hf
        · rw [if_neg h3] at h; cases h
theorem passY_f {a : Abs} {x : Int} {s : List Bool × Bool} : ∀ {k : Nat}, (passY a x s k).2 = false → s.2 = false ∧ passY a x s k = s ∧ ∀ y : Nat, y < k → dt a s.1 x y = true ∨ AlkP (ndt a s.1) a x y
  | 0, h => ⟨h, rfl, fun y hy => by omega⟩
  | k + 1, h => by
    obtain ⟨i1, i2, i3⟩ := passI_f (show (passI a x k (passY a x s k) a.arcs.length).2 = false from h)
    obtain ⟨j1, j2, j3⟩ := passY_f i1
    refine ⟨j1, i2.trans j2, fun y hy => ?_⟩
    by_cases e : y = k
    · subst e; rw [j2] at i3; exact i3
    · exact j3 y (by omega)
theorem passX_f {a : Abs} {s : List Bool × Bool} : ∀ {k : Nat}, (passX a s k).2 = false → s.2 = false ∧ passX a s k = s ∧ ∀ x y : Nat, x < k → y < nS a → dt a s.1 x y = true ∨ AlkP (ndt a s.1) a x y
  | 0, h => ⟨h, rfl, fun x y hx => by omega⟩
  | k + 1, h => by
    obtain ⟨i1, i2, i3⟩ := passY_f (show (passY a k (passX a s k) (nS a)).2 = false from h)
    obtain ⟨j1, j2, j3⟩ := passX_f i1
    refine ⟨j1, i2.trans j2, fun x y hx hy => ?_⟩
    by_cases e : x = k
    · subst e; rw [j2] at i3; exact i3 y hy
    · exact j3 x y (by omega) hy
/-- What holds of the marks. -/
structure CInv (a : Abs) (d : List Bool) : Prop where
  len : d.length = nS a * nS a
  sym : ∀ u v : Nat, u < nS a → v < nS a → dt a d u v = dt a d v u
  snd : ∀ u v : Nat, u < nS a → v < nS a → dt a d u v = true → nth (bisL a) u ≠ nth (bisL a) v
  goal : ∀ u v : Nat, u < nS a → v < nS a → dt a d u v = false → ((u : Int) ∈ a.goals ↔ (v : Int) ∈ a.goals)
section
variable {a : Abs} (ha : AbsOk a)
include ha
theorem ix_in {u v : Nat} (hu : u < nS a) (hv : v < nS a) : 0 ≤ (u : Int) * a.states + v ∧ (u : Int) * a.states + v < (nS a * nS a : Nat) := by
  have na := nS_eq ha
  have := pair_in (x := (u : Int)) (y := (v : Int)) (r := a.states) (s := a.states) ⟨by omega, by omega⟩ ⟨by omega, by omega⟩
  have e : ((nS a * nS a : Nat) : Int) = a.states * a.states := by rw [Int.natCast_mul, na.1]
  omega
theorem ix_inj {u v u' v' : Nat} (hv : v < nS a) (hv' : v' < nS a) (h : (u : Int) * a.states + v = (u' : Int) * a.states + v') : u = u' ∧ v = v' := by
  have na := nS_eq ha
  have e1 : ((u : Int) * a.states + v) % a.states = v := by rw [Int.add_comm, Int.add_mul_emod_self_right, Int.emod_eq_of_lt (by omega) (by omega)]
  have e2 : ((u' : Int) * a.states + v') % a.states = v' := by rw [Int.add_comm, Int.add_mul_emod_self_right, Int.emod_eq_of_lt (by omega) (by omega)]
  have e3 : ((u : Int) * a.states + v) / a.states = u := by rw [Int.add_comm, Int.add_mul_ediv_right _ _ (by omega), Int.ediv_eq_zero_of_lt (by omega) (by omega)]; omega
  have e4 : ((u' : Int) * a.states + v') / a.states = u' := by rw [Int.add_comm, Int.add_mul_ediv_right _ _ (by omega), Int.ediv_eq_zero_of_lt (by omega) (by omega)]; omega
  rw [h] at e1 e3
  omega
theorem mark_dt {d : List Bool} (hl : d.length = nS a * nS a) {x y u v : Nat} (hx : x < nS a) (hy : y < nS a) (hu : u < nS a) (hv : v < nS a) : dt a (mark a d x y) u v = if (u = x ∧ v = y) ∨ (u = y ∧ v = x) then true else dt a d u v := by
  have i1 := ix_in ha hx hy
  have i2 := ix_in ha hy hx
  have i3 := ix_in ha hu hv
  unfold dt mark
  rw [nth_setI i3.1 (by rw [setI_len, hl]; exact i3.2) i2.1, nth_setI i3.1 (by rw [hl]; exact i3.2) i1.1]
  by_cases h1 : u = y ∧ v = x
  · obtain ⟨rfl, rfl⟩ := h1
    simp
  · rw [if_neg (fun h => h1 (ix_inj ha hv hx h))]
    by_cases h2 : u = x ∧ v = y
    · obtain ⟨rfl, rfl⟩ := h2
      simp
    · rw [if_neg (fun h => h2 (ix_inj ha hv hy h)), if_neg (fun h => h.elim h2 h1)]
theorem mark_inv {d : List Bool} (h : CInv a d) {x y i : Nat} (hx : x < nS a) (hy : y < nS a) (hi : i < a.arcs.length) (hf : (nth a.arcs i).fr = x) (hm : ¬ mtF (ndt a d) a y i a.arcs.length = true) : CInv a (mark a d x y) := by
  have na := nS_eq ha
  have hne : nth (bisL a) x ≠ nth (bisL a) y := fun he => hm (by
    obtain ⟨s, s1, s2, s3, s4⟩ := (bisL_bis ha).arc _ (nth_mem (l := a.arcs) (n := i) (by omega) (by omega)) y (by omega) (by omega) (by rw [hf]; exact he)
    obtain ⟨j, hj, rfl⟩ := List.getElem_of_mem s1
    refine mtF_iff.2 ⟨j, hj, by rw [nth_eq hj]; exact s2, by rw [nth_eq hj]; exact s3, ?_⟩
    unfold ndt
    have i1 := (ha.arc i hi).2.2
    have i2 := (ha.arc j hj).2.2
    obtain ⟨u, hu⟩ := Int.eq_ofNat_of_zero_le i1.1
    obtain ⟨v, hv⟩ := Int.eq_ofNat_of_zero_le i2.1
    rw [← nth_eq hj] at s4
    rw [hu, hv] at s4 ⊢
    cases hd : dt a d u v with
    | false => rfl
    | true => exact absurd s4.symm (h.snd u v (by omega) (by omega) hd))
  have hl := h.len
  refine ⟨by simp [mark, setI_len, hl], fun u v hu hv => ?_, fun u v hu hv hd => ?_, fun u v hu hv hd => ?_⟩
  · rw [mark_dt ha hl hx hy hu hv, mark_dt ha hl hx hy hv hu, h.sym u v hu hv]
    by_cases c : (u = x ∧ v = y) ∨ (u = y ∧ v = x)
    · rw [if_pos c, if_pos (by omega)]
    · rw [if_neg c, if_neg (by omega)]
  · rw [mark_dt ha hl hx hy hu hv] at hd
    by_cases c : (u = x ∧ v = y) ∨ (u = y ∧ v = x)
    · rcases c with ⟨rfl, rfl⟩ | ⟨rfl, rfl⟩
      · exact hne
      · exact fun e => hne e.symm
    · rw [if_neg c] at hd; exact h.snd u v hu hv hd
  · rw [mark_dt ha hl hx hy hu hv] at hd
    by_cases c : (u = x ∧ v = y) ∨ (u = y ∧ v = x)
    · rw [if_pos c] at hd; cases hd
    · rw [if_neg c] at hd; exact h.goal u v hu hv hd
theorem openN_le : ∀ {s : List Bool} {i : Nat}, openN (s.set i true) ≤ openN s
  | [], i => by simp
  | b :: s, 0 => by simp only [openN, List.set_cons_zero, List.filter_cons]; cases b <;> simp
  | b :: s, i + 1 => by
    have := openN_le (s := s) (i := i)
    simp only [openN, List.set_cons_succ, List.filter_cons] at this ⊢
    cases b <;> simp <;> exact this
theorem mark_open {d : List Bool} (hl : d.length = nS a * nS a) {x y : Nat} (hx : x < nS a) (hy : y < nS a) (hd : ¬ dt a d x y = true) : openN (mark a d x y) < openN d := by
  have i1 := ix_in ha hx hy
  have hlt : ((x : Int) * a.states + y).toNat < d.length := by rw [hl]; omega
  have h1 := openN_set (s := d) hlt (by
    have : nth d ((x : Int) * a.states + y) = false := by simpa [dt] using hd
    rw [← Int.toNat_of_nonneg i1.1, nth_eq hlt] at this
    exact this)
  have h2 := openN_le ha (s := setI d ((x : Int) * a.states + y) true) (i := ((y : Int) * a.states + x).toNat)
  unfold mark
  show openN (List.set (setI d ((x : Int) * a.states + y) true) ((y : Int) * a.states + x).toNat true) < _
  have e : setI d ((x : Int) * a.states + y) true = d.set ((x : Int) * a.states + y).toNat true := rfl
  rw [e] at h2 ⊢
  omega
theorem stI_inv {x y i : Nat} {s : List Bool × Bool} (hx : x < nS a) (hy : y < nS a) (hi : i < a.arcs.length) (h : CInv a s.1) : CInv a (stI a x y s i).1 ∧ openN (stI a x y s i).1 ≤ openN s.1 ∧ ((stI a x y s i).2 = true → s.2 = true ∨ openN (stI a x y s i).1 < openN s.1) := by
  unfold stI
  by_cases h1 : dt a s.1 x y = true
  · rw [if_pos h1]; exact ⟨h, Nat.le_refl _, .inl⟩
  · rw [if_neg h1]
    by_cases h2 : (nth a.arcs i).fr ≠ x
    · rw [if_pos h2]; exact ⟨h, Nat.le_refl _, .inl⟩
    · rw [if_neg h2]
      by_cases h3 : mtF (ndt a s.1) a y i a.arcs.length = true
      · rw [if_pos h3]; exact ⟨h, Nat.le_refl _, .inl⟩
      · rw [if_neg h3]
        have h4 := mark_open ha h.len hx hy h1
        exact ⟨mark_inv ha h hx hy hi (by simpa using h2) h3, Nat.le_of_lt h4, fun _ => .inr h4⟩
theorem passI_inv {x y : Nat} {s : List Bool × Bool} (hx : x < nS a) (hy : y < nS a) (h : CInv a s.1) : ∀ {k : Nat}, k ≤ a.arcs.length → CInv a (passI a x y s k).1 ∧ openN (passI a x y s k).1 ≤ openN s.1 ∧ ((passI a x y s k).2 = true → s.2 = true ∨ openN (passI a x y s k).1 < openN s.1)
  | 0, _ => ⟨h, Nat.le_refl _, .inl⟩
  | k + 1, hk => by
    obtain ⟨i1, i2, i3⟩ := passI_inv hx hy h (k := k) (by omega)
    obtain ⟨j1, j2, j3⟩ := stI_inv ha hx hy (i := k) (by omega) i1
    refine ⟨j1, Nat.le_trans j2 i2, fun hh => ?_⟩
    rcases j3 hh with q | q
    · rcases i3 q with q | q
      · exact .inl q
      · exact .inr (Nat.lt_of_le_of_lt j2 q)
    · exact .inr (Nat.lt_of_lt_of_le q i2)
theorem passY_inv {x : Nat} {s : List Bool × Bool} (hx : x < nS a) (h : CInv a s.1) : ∀ {k : Nat}, k ≤ nS a → CInv a (passY a x s k).1 ∧ openN (passY a x s k).1 ≤ openN s.1 ∧ ((passY a x s k).2 = true → s.2 = true ∨ openN (passY a x s k).1 < openN s.1)
  | 0, _ => ⟨h, Nat.le_refl _, .inl⟩
  | k + 1, hk => by
    obtain ⟨i1, i2, i3⟩ := passY_inv hx h (k := k) (by omega)
    obtain ⟨j1, j2, j3⟩ := passI_inv ha hx (y := k) (by omega) i1 (Nat.le_refl _)
    refine ⟨j1, Nat.le_trans j2 i2, fun hh => ?_⟩
    rcases j3 hh with q | q
    · rcases i3 q with q | q
      · exact .inl q
      · exact .inr (Nat.lt_of_le_of_lt j2 q)
    · exact .inr (Nat.lt_of_lt_of_le q i2)
theorem passX_inv {s : List Bool × Bool} (h : CInv a s.1) : ∀ {k : Nat}, k ≤ nS a → CInv a (passX a s k).1 ∧ openN (passX a s k).1 ≤ openN s.1 ∧ ((passX a s k).2 = true → s.2 = true ∨ openN (passX a s k).1 < openN s.1)
  | 0, _ => ⟨h, Nat.le_refl _, .inl⟩
  | k + 1, hk => by
    obtain ⟨i1, i2, i3⟩ := passX_inv h (k := k) (by omega)
    obtain ⟨j1, j2, j3⟩ := passY_inv ha (x := k) (by omega) i1 (Nat.le_refl _)
    refine ⟨j1, Nat.le_trans j2 i2, fun hh => ?_⟩
    rcases j3 hh with q | q
    · rcases i3 q with q | q
      · exact .inl q
      · exact .inr (Nat.lt_of_le_of_lt j2 q)
    · exact .inr (Nat.lt_of_lt_of_le q i2)
/-- The outer loop's state. -/
def MInv (a : Abs) (s : List Bool × Bool) : Prop := CInv a s.1 ∧ (s.2 = false → ∀ x y : Nat, x < nS a → y < nS a → dt a s.1 x y = true ∨ AlkP (ndt a s.1) a x y)
def mMu (s : List Bool × Bool) : Nat := 2 * openN s.1 + (if s.2 = true then 1 else 0)
theorem mInv_s {d : List Bool} (h : CInv a d) : MInv a (passX a (d, false) (nS a)) ∧ mMu (passX a (d, false) (nS a)) < mMu (d, true) := by
  obtain ⟨i1, i2, i3⟩ := passX_inv ha (s := (d, false)) h (Nat.le_refl _)
  refine ⟨⟨i1, fun hf => ?_⟩, ?_⟩
  · obtain ⟨j1, j2, j3⟩ := passX_f hf
    rw [j2]; exact j3
  · have i2' : openN (passX a (d, false) (nS a)).1 ≤ openN d := i2
    unfold mMu
    cases hb : (passX a (d, false) (nS a)).2 with
    | false => simp; omega
    | true =>
      rcases i3 hb with q | q
      · cases q
      · have q' : openN (passX a (d, false) (nS a)).1 < openN d := q
        simp; omega
/-- When nothing changes, the unmarked pairs are those of the coarsest bisimulation. -/
theorem mInv_end {s : List Bool × Bool} (h : MInv a s) (hf : s.2 = false) {x y : Nat} (hx : x < nS a) (hy : y < nS a) : dt a s.1 x y = false ↔ nth (bisL a) x = nth (bisL a) y := by
  obtain ⟨h1, h2⟩ := h
  have h2 := h2 hf
  have na := nS_eq ha
  constructor
  · intro hd
    refine bisL_of_rel (R := fun u v => (0 ≤ u ∧ u < a.states) ∧ (0 ≤ v ∧ v < a.states) ∧ dt a s.1 u v = false) (fun u v => ?_) (fun u v hu hv hr hg => (h1.goal u v hu hv hr.2.2).1 hg) ha (fun r hr v hv hd => ?_) hx hy ⟨⟨by omega, by omega⟩, ⟨by omega, by omega⟩, hd⟩
    · rintro ⟨⟨u0, u1⟩, ⟨v0, v1⟩, hd⟩
      obtain ⟨u, rfl⟩ := Int.eq_ofNat_of_zero_le u0
      obtain ⟨v, rfl⟩ := Int.eq_ofNat_of_zero_le v0
      exact ⟨⟨v0, v1⟩, ⟨u0, u1⟩, by rw [h1.sym v u (by omega) (by omega)]; exact hd⟩
    · obtain ⟨i, hi, rfl⟩ := List.getElem_of_mem hr
      have hin := mem_in ha hr
      obtain ⟨u, hu⟩ := Int.eq_ofNat_of_zero_le hin.1.1
      have hul : u < nS a := by have := hin.1.2; omega
      rw [hu] at hd
      rcases h2 u v hul hv with q | q
      · rw [hd.2.2] at q; cases q
      · obtain ⟨j, hj, j1, j2, j3⟩ := mtF_iff.1 (q i hi (by rw [nth_eq hi]; exact hu))
        rw [nth_eq hi] at j2 j3
        have h4 := (ha.arc j hj).2.2
        exact ⟨nth a.arcs j, nth_mem (by omega) (by omega), j1, j2, hin.2.2, h4, by simpa [ndt] using j3⟩
  · intro he
    cases hd : dt a s.1 x y with
    | false => rfl
    | true => exact absurd he (h1.snd x y hx hy hd)
theorem ixZ {u v : Int} (hu : 0 ≤ u ∧ u < a.states) (hv : 0 ≤ v ∧ v < a.states) : 0 ≤ u * a.states ∧ u * a.states ≤ 3600 ∧ 0 ≤ u * a.states + v ∧ u * a.states + v < ((nS a * nS a : Nat) : Int) ∧ ((nS a * nS a : Nat) : Int) ≤ 3600 := by
  have na := nS_eq ha
  have h := pair_in (x := u) (y := v) (r := a.states) (s := a.states) hu hv
  have e : ((nS a * nS a : Nat) : Int) = a.states * a.states := by rw [Int.natCast_mul, na.1]
  have hp : a.states * a.states ≤ 60 * 60 := Int.mul_le_mul (by omega) (by omega) (by omega) (by omega)
  have h0 : 0 ≤ u * a.states := Int.mul_nonneg hu.1 (by omega)
  omega
omit ha in
theorem set2_get {l : List Bool} {i j : Int} {c v : Bool} (h0 : 0 ≤ j) (h1 : j < l.length) : ((l.map fun b => [D.v (.bool b)]).set i.toNat ([D.v (.bool c)].set 0 (D.v (.bool v))))[j.toNat]? = some [D.v (.bool (nth (setI l i v) j))] := by
  have : ((l.map fun b => [D.v (.bool b)]).set i.toNat ([D.v (.bool c)].set 0 (D.v (.bool v)))) = (setI l i v).map fun b => [D.v (.bool b)] := by simp [setI, List.map_set]
  rw [this]
  exact rows_get h0 (by rw [setI_len]; exact h1)
omit ha in
theorem mark_rows {d : List Bool} {x y : Int} {c c' : Bool} : (((d.map fun b => [D.v (.bool b)]).set (x * a.states + y).toNat ([D.v (.bool c)].set 0 (D.v (.bool true)))).set (y * a.states + x).toNat ([D.v (.bool c')].set 0 (D.v (.bool true)))) = (mark a d x y).map fun b => [D.v (.bool b)] := by
  unfold mark setI; simp [List.map_set]
/-! ### The first marks -/
def gdf (a : Abs) (u v : Int) : Bool := !(decide (u ∈ a.goals) == decide (v ∈ a.goals))
def dfTo (a : Abs) (m : Nat) : List Bool := (List.range (nS a * nS a)).map fun (i : Nat) => decide (i < m) && gdf a ((i : Int) / a.states) ((i : Int) % a.states)
omit ha in
theorem dfTo_len {m : Nat} : (dfTo a m).length = nS a * nS a := by simp [dfTo]
omit ha in
theorem dfTo_0 : dfTo a 0 = List.replicate (nS a * nS a) false := by
  apply List.ext_getElem (by simp [dfTo])
  intro i h1 h2; simp [dfTo]
theorem dfTo_s {x y : Nat} (hx : x < nS a) (hy : y < nS a) : setI (dfTo a (x * nS a + y)) ((x : Int) * a.states + y) (gdf a x y) = dfTo a (x * nS a + (y + 1)) := by
  have na := nS_eq ha
  have e : ((x * nS a + y : Nat) : Int) = (x : Int) * a.states + y := by rw [Int.natCast_add, Int.natCast_mul, na.1]
  have p := pair_at (x := (x : Int)) (y := (y : Int)) (s := a.states) (by omega) (by omega) (by omega)
  rw [← e] at p ⊢
  unfold setI
  apply List.ext_getElem (by simp [dfTo])
  intro i h1 h2
  rw [List.getElem_set]
  simp only [Int.toNat_natCast, dfTo, List.getElem_map, List.getElem_range]
  by_cases c : x * nS a + y = i
  · subst c
    rw [if_pos rfl, p.1, p.2]
    simp
  · rw [if_neg c]
    congr 1
    exact decide_eq_decide.2 (by omega)
theorem dfTo_inv : CInv a (dfTo a (nS a * nS a)) := by
  have na := nS_eq ha
  have key : ∀ u v : Nat, u < nS a → v < nS a → dt a (dfTo a (nS a * nS a)) u v = gdf a u v := fun u v hu hv => by
    have hi := ix_in ha hu hv
    have p := pair_at (x := (u : Int)) (y := (v : Int)) (s := a.states) (by omega) (by omega) (by omega)
    obtain ⟨m, hm⟩ := Int.eq_ofNat_of_zero_le hi.1
    unfold dt
    rw [hm] at p ⊢
    have hml : m < nS a * nS a := by omega
    rw [nth_eq (by rw [dfTo_len]; exact hml)]
    simp only [dfTo, List.getElem_map, List.getElem_range]
    rw [p.1, p.2]
    simp [hml]
  refine ⟨dfTo_len, fun u v hu hv => ?_, fun u v hu hv hd he => ?_, fun u v hu hv hd => ?_⟩
  · rw [key u v hu hv, key v u hv hu]; unfold gdf; congr 1; exact Bool.beq_comm
  · rw [key u v hu hv] at hd
    have h2 := (bisL_bis ha).goal u v (by omega) (by omega) (by omega) (by omega) he
    unfold gdf at hd
    simp [h2] at hd
  · rw [key u v hu hv] at hd
    unfold gdf at hd
    simpa using hd
end
/-! ### The numbers at the end -/
noncomputable def pT (a : Abs) (x y : Nat) : Int := if nth (bisL a) x ∈ dsTo (bisL a) y then (idD (dsTo (bisL a) (nS a)) (nth (bisL a) x) : Int) else -1
theorem pT_0 {a : Abs} {x : Nat} : pT a x 0 = -1 := by unfold pT; rw [if_neg (by simp [dsTo])]
theorem pT_t {a : Abs} {x y : Nat} (hy : y < nS a) (hyx : y < x) (he : nth (bisL a) x = nth (bisL a) y) : nth (nmTo (bisL a) x) y = pT a x (y + 1) := by
  have hm : nth (bisL a) y ∈ dsTo (bisL a) (y + 1) := dsTo_mem.2 ⟨y, by omega, rfl⟩
  unfold pT
  rw [he, if_pos hm, nmTo_at hyx]
  have h1 := idD_old (l := bisL a) (x := nth (bisL a) y) (k := y + 1) (n := nS a) hm (by omega)
  have h2 : (dsTo (bisL a) x).idxOf (nth (bisL a) y) = idD (dsTo (bisL a) (y + 1)) (nth (bisL a) y) := dsTo_idx hm (by omega)
  rw [h2, h1]
theorem pT_f {a : Abs} {x y : Nat} (he : nth (bisL a) x ≠ nth (bisL a) y) : pT a x y = pT a x (y + 1) := by
  unfold pT
  have : nth (bisL a) x ∈ dsTo (bisL a) (y + 1) ↔ nth (bisL a) x ∈ dsTo (bisL a) y := by
    rw [dsTo_mem, dsTo_mem]
    constructor
    · rintro ⟨i, hi, h⟩
      by_cases e : i = y
      · subst e; exact absurd h.symm he
      · exact ⟨i, by omega, h⟩
    · rintro ⟨i, hi, h⟩; exact ⟨i, by omega, h⟩
  by_cases h : nth (bisL a) x ∈ dsTo (bisL a) y
  · rw [if_pos h, if_pos (this.2 h)]
  · rw [if_neg h, if_neg (fun hh => h (this.1 hh))]
theorem pT_new {a : Abs} {x : Nat} (hx : x < nS a) (h : pT a x x < 0) : nmTo (bisL a) (x + 1) = nmTo (bisL a) x ++ [((dsTo (bisL a) x).length : Int)] ∧ (dsTo (bisL a) (x + 1)).length = (dsTo (bisL a) x).length + 1 := by
  have hn : nth (bisL a) x ∉ dsTo (bisL a) x := fun hm => by unfold pT at h; rw [if_pos hm] at h; omega
  exact ⟨nm_new hn, by rw [ds_new hn]; simp⟩
theorem pT_old {a : Abs} {x : Nat} (hx : x < nS a) (h : ¬ pT a x x < 0) : nmTo (bisL a) (x + 1) = nmTo (bisL a) x ++ [pT a x x] ∧ (dsTo (bisL a) (x + 1)).length = (dsTo (bisL a) x).length := by
  have hm : nth (bisL a) x ∈ dsTo (bisL a) x := Decidable.byContradiction fun hn => h (by unfold pT; rw [if_neg hn]; omega)
  refine ⟨?_, by rw [ds_old hm]⟩
  rw [nm_old hm]
  unfold pT
  rw [if_pos hm, ← idD_old hm (n := nS a) (by omega)]
  rfl
theorem coarse_end {a : Abs} : nmTo (bisL a) (nS a) = bisL a := by
  have : nmTo (bisL a) (bisL a).length = numL (bisL a) := rfl
  rw [bisL_len] at this
  rw [this, bisL_num]
end Go.Eng
end
