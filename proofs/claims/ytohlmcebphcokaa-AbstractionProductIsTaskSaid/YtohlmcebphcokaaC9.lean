/- The engine and the walks that this claim uses, part 9. Written by prune.py out of our own texts. -/
import Derived.Test.YtohlmcebphcokaaC8
section
/- Walks, written by gen.py out of hints. -/





set_option linter.unusedVariables false
set_option linter.unusedSimpArgs false
namespace Go.Proofs.Ytohlmcebphcokaa
open Go.Eng
set_option maxRecDepth 10000
set_option maxHeartbeats 1000000

theorem labels_Apply_1_does (x : Int) (a : Abs) : Does Try.prog false 73 [I (x), .p [.v (.int .i64 a.states), .v (.int .i64 a.labels), arcsD a.arcs, .v (.int .i64 a.init), ints a.goals]] (Bo (decide (x < 0 ∨ a.labels ≤ x))) := by
  refine Does.of_body Try.func73 rfl rfl (by simp) Try.call73 (fun w0 O0 => ?_)
  refine Tr.seq ?_
  refine Tr.region ?_
  refine TrOps.sem (OpSem.move (.inr rfl) rfl) rfl rfl (by decide) ?_
  refine TrOps.nil ?_
  refine At.seq ?_
  refine Tr.seq ?_
  refine Tr.region ?_
  refine TrOps.sem (OpSem.move (.inl rfl) rfl) rfl rfl (by decide) ?_
  refine TrOps.sem (OpSem.bin rfl rfl rfl blss) rfl rfl (by decide) ?_
  refine TrOps.sem (OpSem.move (.inl rfl) rfl) rfl rfl (by decide) ?_
  refine TrOps.split (n := 6) rfl (fun c6 => ?_) (fun c6 => ?_)
  · refine TrOps.gF rfl rfl rfl rfl c6 rfl (by decide) ?_
    refine TrOps.gF rfl rfl rfl rfl c6 rfl (by decide) ?_
    refine TrOps.gF rfl rfl rfl rfl c6 rfl (by decide) ?_
    refine TrOps.gF rfl rfl rfl rfl c6 rfl (by decide) ?_
    refine TrOps.sem (OpSem.pickT rfl rfl c6 rfl) rfl rfl (by decide) ?_
    refine TrOps.sem (OpSem.move (.inr rfl) rfl) rfl rfl (by decide) ?_
    refine TrOps.nil ?_
    refine At.seq ?_
    refine Tr.ret ?_
    exact At.ret rfl (.tmp rfl <| .nil) rfl (Le.bo (by simp at *; omega))
  · refine TrOps.gT rfl rfl rfl rfl c6 ?_
    refine TrOps.sem (OpSem.move (.inl rfl) rfl) rfl rfl (by decide) ?_
    refine TrOps.gT rfl rfl rfl rfl c6 ?_
    refine TrOps.sem (OpSem.fieldp rfl rfl fo46_1) rfl rfl (by decide) ?_
    refine TrOps.gT rfl rfl rfl rfl c6 ?_
    refine TrOps.sem (OpSem.load1 rfl rfl vs3 rfl) rfl rfl (by decide) ?_
    refine TrOps.gT rfl rfl rfl rfl c6 ?_
    refine TrOps.sem (OpSem.bin rfl rfl rfl bgeq) rfl rfl (by decide) ?_
    refine TrOps.sem (OpSem.pickF rfl rfl c6 rfl) rfl rfl (by decide) ?_
    refine TrOps.sem (OpSem.move (.inr rfl) rfl) rfl rfl (by decide) ?_
    refine TrOps.nil ?_
    refine At.seq ?_
    refine Tr.ret ?_
    exact At.ret rfl (.tmp rfl <| .nil) rfl (Le.bo (by simp at *; omega))

theorem labels_Apply_does (a : Abs) (to : List Int) (hr : -9223372036854775808 ≤ a.states ∧ a.states ≤ 9223372036854775807) : Does Try.prog false 38 [absS a, .d (ints to)] (.t [absS (aplR a to), flt (aplF a to)]) := by
  refine Does.of_body Try.func38 rfl rfl (by simp) Try.call38 (fun w0 O0 => ?_)
  refine Tr.lenG (n := 0) (i := 2) rfl rfl (fun len0_2 => ?_)
  refine Tr.lenG (n := 0) (i := 4) rfl rfl (fun len0_4 => ?_)
  refine Tr.lenLe (n := 1) rfl (fun len1 => ?_)
  refine Tr.seq ?_
  refine Tr.region ?_
  refine TrOps.semM (OpSem.box 2 rfl rfl rfl rfl) rfl rfl (by decide) ?_
  refine TrOps.semM (OpSem.alloc 4 rfl zc46 rfl) rfl rfl (by decide) ?_
  refine TrOps.semM (OpSem.alloc 5 rfl zc29 rfl) rfl rfl (by decide) ?_
  refine TrOps.nil ?_
  refine At.seq ?_
  refine Tr.seq ?_
  refine Tr.region ?_
  refine TrOps.sem (OpSem.loadbN rfl rfl rfl vs46 (by first | decide | simp)) rfl rfl (by decide) ?_
  refine TrOps.sem (OpSem.call0 (abstraction_Validate_does a hr) rfl rfl rfl rfl (Les.refl _)) rfl rfl (by decide) ?_
  refine TrOps.semM (OpSem.alloc 6 rfl zc29 rfl) rfl rfl (by decide) ?_
  refine TrOps.storeb rfl rfl rfl rfl rfl rfl rfl vs29 (by first | decide | simp) ?_
  refine TrOps.nil ?_
  refine At.seq ?_
  refine Tr.cut [(1, .d (ints to)), (2, .r 2 0), (4, .r 4 0), (5, .r 5 0), (6, .r 6 0)] [(2, .box [I (a.states), I (a.labels), .d (arcsD a.arcs), I (a.init), .d (ints a.goals)]), (4, .box [I (0), I (0), .d (.v (.slice none 0 0)), I (0), .d (.v (.slice none 0 0))]), (5, .box [I (0), I (0)]), (6, .box [I ((aplF1 a to).1), I ((aplF1 a to).2)])] ?_ ?_
  · refine Tr.seq ?_
    refine Tr.region ?_
    refine TrOps.sem (OpSem.loadbN rfl rfl rfl vs29 (by first | decide | simp)) rfl rfl (by decide) ?_
    refine TrOps.sem (OpSem.build rfl rfl pl29 zc29 rfl rfl) rfl rfl (by decide) ?_
    refine TrOps.sem (OpSem.eqS2 rfl rfl rfl io29) rfl rfl (by decide) ?_
    refine TrOps.sem (OpSem.move (.inl rfl) rfl) rfl rfl (by decide) ?_
    refine TrOps.split (n := 15) rfl (fun c15 => ?_) (fun c15 => ?_)
    · refine TrOps.gT rfl rfl rfl rfl c15 ?_
      refine TrOps.sem (OpSem.move (.inl rfl) rfl) rfl rfl (by decide) ?_
      refine TrOps.gT rfl rfl rfl rfl c15 ?_
      refine TrOps.sem (OpSem.lenL rfl rfl es22) rfl rfl (by decide) ?_
      refine TrOps.gT rfl rfl rfl rfl c15 ?_
      refine TrOps.sem (OpSem.fieldr rfl rfl fo46_1) rfl rfl (by decide) ?_
      refine TrOps.gT rfl rfl rfl rfl c15 ?_
      refine TrOps.sem (OpSem.loadb1 rfl rfl rfl vs3 rfl) rfl rfl (by decide) ?_
      refine TrOps.gT rfl rfl rfl rfl c15 ?_
      refine TrOps.sem (OpSem.bin rfl rfl rfl bneq) rfl rfl (by decide) ?_
      refine TrOps.sem (OpSem.pickT rfl rfl c15 rfl) rfl rfl (by decide) ?_
      refine TrOps.nil ?_
      refine At.seq ?_
      refine Tr.cond rfl (fun c21 => ?_) (fun c21 => ?_)
      · refine Tr.region ?_
        refine TrOps.sem (OpSem.build rfl rfl pl29 zc29 rfl rfl) rfl rfl (by decide) ?_
        refine TrOps.storeb rfl rfl rfl rfl rfl rfl rfl vs29 (by first | decide | simp) ?_
        refine TrOps.nil ?_
        have he := (aplF1_len (to := to) (pair0 (f := absFault a) (by simpa using c15)) (by simpa using c21)).symm
        refine At.meet ?_
        exact .slot rfl (.refl _) <| .slot rfl (.refl _) <| .slot rfl (.refl _) <| .slot rfl (.refl _) <| .slot rfl (.refl _) <| .mem rfl <| .mem rfl <| .mem rfl <| .boxLe rfl (.cons (Le.i (congrArg Prod.fst (he))) <| .cons (Le.i (congrArg Prod.snd (he))) <| .nil) <| .nil
      · refine Tr.skip ?_
        have he := (aplF1_ok (to := to) (pair0 (f := absFault a) (by simpa using c15)) (by simpa using c21)).symm
        rw [pair0 (f := absFault a) (by simpa using c15)]
        refine At.meet ?_
        exact .slot rfl (.refl _) <| .slot rfl (.refl _) <| .slot rfl (.refl _) <| .slot rfl (.refl _) <| .slot rfl (.refl _) <| .mem rfl <| .mem rfl <| .mem rfl <| .boxLe rfl (.cons (Le.i (congrArg Prod.fst (he))) <| .cons (Le.i (congrArg Prod.snd (he))) <| .nil) <| .nil
    · refine TrOps.gF rfl rfl rfl rfl c15 rfl (by decide) ?_
      refine TrOps.gF rfl rfl rfl rfl c15 rfl (by decide) ?_
      refine TrOps.gF rfl rfl rfl rfl c15 rfl (by decide) ?_
      refine TrOps.gF rfl rfl rfl rfl c15 rfl (by decide) ?_
      refine TrOps.gF rfl rfl rfl rfl c15 rfl (by decide) ?_
      refine TrOps.sem (OpSem.pickF rfl rfl c15 rfl) rfl rfl (by decide) ?_
      refine TrOps.nil ?_
      refine At.seq ?_
      refine Tr.condF rfl rfl ?_
      refine Tr.skip ?_
      have he := (aplF1_bad (a := a) (to := to) (fun h => by rw [h] at c15; simp at c15)).symm
      refine At.meet ?_
      exact .slot rfl (.refl _) <| .slot rfl (.refl _) <| .slot rfl (.refl _) <| .slot rfl (.refl _) <| .slot rfl (.refl _) <| .mem rfl <| .mem rfl <| .mem rfl <| .boxLe rfl (.cons (Le.i (congrArg Prod.fst (he))) <| .cons (Le.i (congrArg Prod.snd (he))) <| .nil) <| .nil
  · refine Tr.cut [(1, .d (ints to)), (2, .p [.v (.int .i64 a.states), .v (.int .i64 a.labels), arcsD a.arcs, .v (.int .i64 a.init), ints a.goals]), (4, .r 4 0), (5, .r 5 0), (6, .r 6 0)] [(4, .box [I (0), I (0), .d (.v (.slice none 0 0)), I (0), .d (.v (.slice none 0 0))]), (5, .box [I (0), I (0)]), (6, .box [I ((aplF a to).1), I ((aplF a to).2)])] ?_ ?_
    · refine Tr.seq ?_
      refine Tr.freezeR 2 rfl rfl ?_
      refine Tr.region ?_
      refine TrOps.sem (OpSem.loadbN rfl rfl rfl vs29 (by first | decide | simp)) rfl rfl (by decide) ?_
      refine TrOps.sem (OpSem.build rfl rfl pl29 zc29 rfl rfl) rfl rfl (by decide) ?_
      refine TrOps.sem (OpSem.eqS2 rfl rfl rfl io29) rfl rfl (by decide) ?_
      refine TrOps.sem (OpSem.move (.inl rfl) rfl) rfl rfl (by decide) ?_
      refine TrOps.split (n := 26) rfl (fun c26 => ?_) (fun c26 => ?_)
      · refine TrOps.gT rfl rfl rfl rfl c26 ?_
        refine TrOps.sem (OpSem.move (.inl rfl) rfl) rfl rfl (by decide) ?_
        refine TrOps.gT rfl rfl rfl rfl c26 ?_
        refine TrOps.sem (OpSem.makeFunc rfl rfl rfl) rfl rfl (by decide) ?_
        refine TrOps.gT rfl rfl rfl rfl c26 ?_
        refine TrOps.sem (OpSem.call (slices_ContainsFunc_int_int_does to 73 [.p [.v (.int .i64 a.states), .v (.int .i64 a.labels), arcsD a.arcs, .v (.int .i64 a.init), ints a.goals]] (fun x => decide (x < 0 ∨ a.labels ≤ x)) (caught_p _) (fun x _ => labels_Apply_1_does x a)) (.inr rfl) rfl rfl rfl rfl (Les.refl _)) rfl rfl (by decide) ?_
        refine TrOps.sem (OpSem.pickT rfl rfl c26 rfl) rfl rfl (by decide) ?_
        refine TrOps.nil ?_
        refine At.seq ?_
        refine Tr.cond rfl (fun c30 => ?_) (fun c30 => ?_)
        · refine Tr.region ?_
          refine TrOps.sem (OpSem.build rfl rfl pl29 zc29 rfl rfl) rfl rfl (by decide) ?_
          refine TrOps.storeb rfl rfl rfl rfl rfl rfl rfl vs29 (by first | decide | simp) ?_
          refine TrOps.nil ?_
          have he := (aplF_rng (a := a) (to := to) (pair0 (by simpa using c26)) (by simpa using c30)).symm
          refine At.meet ?_
          exact .slot rfl (.refl _) <| .slot rfl (.refl _) <| .slot rfl (.refl _) <| .slot rfl (.refl _) <| .slot rfl (.refl _) <| .mem rfl <| .mem rfl <| .boxLe rfl (.cons (Le.i (congrArg Prod.fst (he))) <| .cons (Le.i (congrArg Prod.snd (he))) <| .nil) <| .nil
        · refine Tr.skip ?_
          have he := (aplF_ok (a := a) (to := to) (pair0 (by simpa using c26)) (by simpa using c30)).symm
          refine At.meet ?_
          exact .slot rfl (.refl _) <| .slot rfl (.refl _) <| .slot rfl (.refl _) <| .slot rfl (.refl _) <| .slot rfl (.refl _) <| .mem rfl <| .mem rfl <| .boxLe rfl (.cons (Le.i (congrArg Prod.fst ((by rw [← he]; exact pair0 (by simpa using c26))))) <| .cons (Le.i (congrArg Prod.snd ((by rw [← he]; exact pair0 (by simpa using c26))))) <| .nil) <| .nil
      · refine TrOps.gF rfl rfl rfl rfl c26 rfl (by decide) ?_
        refine TrOps.gF rfl rfl rfl rfl c26 rfl (by decide) ?_
        refine TrOps.gF rfl rfl rfl rfl c26 rfl (by decide) ?_
        refine TrOps.sem (OpSem.pickF rfl rfl c26 rfl) rfl rfl (by decide) ?_
        refine TrOps.nil ?_
        refine At.seq ?_
        refine Tr.condF rfl rfl ?_
        refine Tr.skip ?_
        have he := (aplF_bad (a := a) (to := to) (fun h => by rw [h] at c26; simp at c26)).symm
        refine At.meet ?_
        exact .slot rfl (.refl _) <| .slot rfl (.refl _) <| .slot rfl (.refl _) <| .slot rfl (.refl _) <| .slot rfl (.refl _) <| .mem rfl <| .mem rfl <| .boxLe rfl (.cons (Le.i (congrArg Prod.fst (he))) <| .cons (Le.i (congrArg Prod.snd (he))) <| .nil) <| .nil
    · refine Tr.seq ?_
      refine Tr.seq ?_
      refine Tr.region ?_
      refine TrOps.sem (OpSem.loadbN rfl rfl rfl vs29 (by first | decide | simp)) rfl rfl (by decide) ?_
      refine TrOps.sem (OpSem.build rfl rfl pl29 zc29 rfl rfl) rfl rfl (by decide) ?_
      refine TrOps.sem (OpSem.neS2 rfl rfl rfl io29) rfl rfl (by decide) ?_
      refine TrOps.nil ?_
      refine At.seq ?_
      refine Tr.cond rfl (fun c34 => ?_) (fun c34 => ?_)
      · have h1 : aplF a to ≠ (0, 0) := fun h => by simp [h] at c34
        refine Tr.seq ?_
        refine PC.start [4] ?_
        refine PC.sem (OpSem.build rfl rfl pl46 zc46 rfl rfl) rfl rfl ?_
        refine PC.sem (OpSem.loadbN rfl rfl rfl vs29 (by first | decide | simp)) rfl rfl ?_
        refine PC.storeb 100002 rfl rfl rfl rfl rfl rfl rfl vs46 (by first | decide | simp) ?_
        refine PC.done mixed (by kernel_rfl) (by kernel_rfl) (by kernel_rfl) (by kernel_rfl) ?_
        refine TrOps.storeb rfl rfl rfl rfl rfl rfl rfl vs29 (by first | decide | simp) ?_
        refine TrOps.nil ?_
        refine At.seq ?_
        refine Tr.ret ?_
        refine At.pass_ret ?_
        exact At.ret rfl (.cellN rfl rfl vs46 <| .cellN rfl rfl vs29 <| .nil) rfl (Le.t (.cons (by rw [aplR_1 h1]; exact Le.g (.cons (.refl _) <| .cons (.refl _) <| .cons (Le.nil 3) <| .cons (.refl _) <| .cons (Le.nil 1) <| .nil)) <| .cons (.refl _) <| .nil))
      · have h1 : aplF a to = (0, 0) := pair0 (by simpa using c34)
        obtain ⟨hA, hto, hin⟩ := aplF_inv h1
        have hal := hA.len
        have hgl := goals_len hA
        have hst := hA.head.1
        refine Tr.skip ?_
        refine At.seq ?_
        refine Tr.seq ?_
        refine PC.start [] ?_
        refine PC.sem (OpSem.fieldp rfl rfl fo46_0) rfl rfl ?_
        refine PC.sem (OpSem.load1 rfl rfl vs3 rfl) rfl rfl ?_
        refine PC.sem (OpSem.fieldp rfl rfl fo46_1) rfl rfl ?_
        refine PC.sem (OpSem.load1 rfl rfl vs3 rfl) rfl rfl ?_
        refine PC.sem (OpSem.fieldp rfl rfl fo46_3) rfl rfl ?_
        refine PC.sem (OpSem.load1 rfl rfl vs3 rfl) rfl rfl ?_
        refine PC.sem (OpSem.fieldp rfl rfl fo46_4) rfl rfl ?_
        refine PC.sem (OpSem.load1 rfl rfl vs22 rfl) rfl rfl ?_
        refine PC.sem (OpSem.call0 (slices_Clone_int_int_does a.goals (by omega)).fresh rfl rfl rfl rfl (Les.refl _)) rfl rfl ?_
        refine PC.sem (OpSem.build rfl rfl pl46 zc46 rfl rfl) rfl rfl ?_
        refine PC.semM (OpSem.alloc 7 rfl zc46 rfl) rfl rfl ?_
        refine PC.done1 7 (.box [I (0), I (0), .d (.v (.slice none 0 0)), I (0), .d (.v (.slice none 0 0))]) mixed (by kernel_rfl) (by kernel_rfl) (by kernel_rfl) (by kernel_rfl) (by kernel_rfl) ?_
        refine TrOps.storeb rfl rfl rfl rfl rfl rfl rfl vs46 (by first | decide | simp) ?_
        refine TrOps.nil ?_
        refine At.seq ?_
        refine Tr.seq ?_
        refine Tr.seq ?_
        refine Tr.ownNilBox 90 7 2 3 93 rfl rfl rfl ?_
        refine Tr.region ?_
        refine TrOps.sem (OpSem.fieldp rfl rfl fo46_2) rfl rfl (by decide) ?_
        refine TrOps.sem (OpSem.load1 rfl rfl vs44 rfl) rfl rfl (by decide) ?_
        refine TrOps.sem (OpSem.lenL rfl rfl es44) rfl rfl (by decide) ?_
        refine TrOps.sem (OpSem.move (.inl rfl) rfl) rfl rfl (by decide) ?_
        refine TrOps.nil ?_
        refine At.seq ?_
        refine Tr.block ?_
        refine Tr.loop (X := Nat) (fun k => k ≤ a.arcs.length) (fun k => [(1, .d (ints to)), (4, .r 4 0), (5, .r 5 0), (6, .r 6 0), (7, .r 7 0), (48, .d (arcsD a.arcs)), (49, I (a.arcs.length)), (50, I (k))]) (fun k => [(90, .own 3 93 ((relTo a to k).map arcC)), (7, .box [I (a.states), I (a.labels), .o 90, I (a.init), .d (ints a.goals)]), (4, .box [I (0), I (0), .d (.v (.slice none 0 0)), I (0), .d (.v (.slice none 0 0))]), (5, .box [I (0), I (0)]), (6, .box [I ((aplF a to).1), I ((aplF a to).2)])]) (fun k => a.arcs.length - k) 0 (by omega) ?_ ?_
        · exact .slot rfl (.refl _) <| .slot rfl (.refl _) <| .slot rfl (.refl _) <| .slot rfl (.refl _) <| .slot rfl (.refl _) <| .slot rfl (.refl _) <| .slot rfl (.refl _) <| .slot rfl (Le.of_eq (by simp)) <| .memEq rfl (by simp [relTo]) <| .mem rfl <| .mem rfl <| .mem rfl <| .mem rfl <| .nil
        · rintro k hkl
          refine Tr.seq ?_
          refine Tr.region ?_
          refine TrOps.sem (OpSem.bin rfl rfl rfl blss) rfl rfl (by decide) ?_
          refine TrOps.nil ?_
          refine At.seq ?_
          refine Tr.seq ?_
          refine Tr.cond rfl (fun c51 => ?_) (fun c51 => ?_)
          · have hk : k < a.arcs.length := by simpa using c51
            have harc := (hA.arc k hk).2.1
            have hrl := relTo_len (to := to) (Nat.le_of_lt hk)
            refine Tr.skip ?_
            refine At.seq ?_
            refine Tr.seq ?_
            refine Tr.block ?_
            refine Tr.seq ?_
            refine Tr.region ?_
            refine TrOps.sem (OpSem.idxL rfl rfl rfl es44 (by omega) (by omega)) rfl rfl (by decide) ?_
            refine TrOps.sem (OpSem.loadN rfl rfl vs93 (by first | decide | simp) rfl) rfl rfl (by decide) ?_
            refine TrOps.semM (OpSem.alloc 9 rfl zc93 rfl) rfl rfl (by decide) ?_
            refine TrOps.storeb rfl rfl rfl rfl rfl rfl rfl vs93 (by first | decide | simp) ?_
            refine TrOps.nil ?_
            refine At.seq ?_
            refine PC.start [] ?_
            refine PC.sem (OpSem.fieldr rfl rfl fo46_2) rfl rfl ?_
            refine PC.sem (OpSem.loadb1 rfl rfl rfl vs44 rfl) rfl rfl ?_
            refine PC.sem (OpSem.fieldr rfl rfl fo93_0) rfl rfl ?_
            refine PC.sem (OpSem.loadb1 rfl rfl rfl vs3 rfl) rfl rfl ?_
            refine PC.sem (OpSem.move (.inl rfl) rfl) rfl rfl ?_
            refine PC.sem (OpSem.fieldr rfl rfl fo93_1) rfl rfl ?_
            refine PC.sem (OpSem.loadb1 rfl rfl rfl vs3 rfl) rfl rfl ?_
            refine PC.sem (OpSem.idxL rfl rfl rfl es22 (by omega) (by omega)) rfl rfl ?_
            refine PC.sem (OpSem.load1 rfl rfl vs3 rfl) rfl rfl ?_
            refine PC.sem (OpSem.fieldr rfl rfl fo93_2) rfl rfl ?_
            refine PC.sem (OpSem.loadb1 rfl rfl rfl vs3 rfl) rfl rfl ?_
            refine PC.sem (OpSem.build rfl rfl pl93 zc93 rfl rfl) rfl rfl ?_
            refine PC.sem (OpSem.buildSlice rfl rfl es44 ze44 rfl rfl (by decide) (by decide) rfl rfl) rfl rfl ?_
            refine PC.done0 mixed (by kernel_rfl) (by kernel_rfl) (by kernel_rfl) (by kernel_rfl) (by kernel_rfl) ?_
            refine TrOps.append rfl rfl rfl (by decide) rfl rfl rfl es44 el44 zc93 rfl by93 (by simp [D.one, Value.oneCell']) (by simp [maxLen]; omega) (by simp; omega) ?_
            refine TrOps.sem (OpSem.fieldr rfl rfl fo46_2) rfl rfl (by decide) ?_
            refine TrOps.storeb rfl rfl rfl rfl rfl rfl rfl vs44 (by first | decide | simp) ?_
            refine TrOps.nil ?_
            refine At.block_normal ?_
            refine At.seq ?_
            refine Tr.region ?_
            refine TrOps.sem (OpSem.bin rfl rfl rfl (badd (by omega) (by omega))) rfl rfl (by decide) ?_
            refine TrOps.sem (OpSem.move (.inl rfl) rfl) rfl rfl (by decide) ?_
            refine TrOps.nil ?_
            refine At.again (k + 1) (by omega) ?_ (by omega)
            exact .slot rfl (.refl _) <| .slot rfl (.refl _) <| .slot rfl (.refl _) <| .slot rfl (.refl _) <| .slot rfl (.refl _) <| .slot rfl (.refl _) <| .slot rfl (.refl _) <| .slot rfl (Le.of_eq (by simp)) <| .memEq rfl (by simp [relTo_s hk]) <| .mem rfl <| .mem rfl <| .mem rfl <| .mem rfl <| .nil
          · have hk : k = a.arcs.length := by simp at c51; omega
            subst hk
            refine Tr.exit ?_
            refine At.pass_exit ?_
            refine At.pass_exit ?_
            refine At.block_same ?_
            refine At.seq ?_
            refine Tr.seq ?_
            refine Tr.orders [[0, 1, 2, 3, 4], [0, 1, 3, 2, 4], [0, 2, 1, 3, 4], [2, 0, 1, 3, 4]] mixed (by kernel_rfl) ⟨?_, ?_, ?_, ?_, trivial⟩
            · refine TrOps.sem (OpSem.loadbN rfl rfl rfl vs46 (by first | decide | simp)) rfl rfl (by decide) ?_
              refine TrOps.callAbs (fun q n c => sorted_all (relTo a to a.arcs.length) a.states a.labels a.init q n c (by simp [relTo]; omega)) rfl rfl rfl (by decide) rfl rfl rfl (plain_arcs _) ?_
              refine TrOps.freeze 90 rfl ?_
              refine TrOps.sem (OpSem.loadbN rfl rfl rfl vs29 (by first | decide | simp)) rfl rfl (by decide) ?_
              refine TrOps.storeb rfl rfl rfl rfl rfl rfl rfl vs46 (by first | decide | simp) ?_
              refine TrOps.storeb rfl rfl rfl rfl rfl rfl rfl vs29 (by first | decide | simp) ?_
              refine TrOps.nil ?_
              refine At.seq ?_
              refine Tr.ret ?_
              exact At.ret rfl (.cellN rfl rfl vs46 <| .cellN rfl rfl vs29 <| .nil) rfl (Le.t (.cons (Le.of_eq (by rw [aplR_0 h1]; rfl)) <| .cons (.refl _) <| .nil))
            · refine TrOps.sem (OpSem.loadbN rfl rfl rfl vs46 (by first | decide | simp)) rfl rfl (by decide) ?_
              refine TrOps.callAbs (fun q n c => sorted_all (relTo a to a.arcs.length) a.states a.labels a.init q n c (by simp [relTo]; omega)) rfl rfl rfl (by decide) rfl rfl rfl (plain_arcs _) ?_
              refine TrOps.freeze 90 rfl ?_
              refine TrOps.storeb rfl rfl rfl rfl rfl rfl rfl vs46 (by first | decide | simp) ?_
              refine TrOps.sem (OpSem.loadbN rfl rfl rfl vs29 (by first | decide | simp)) rfl rfl (by decide) ?_
              refine TrOps.storeb rfl rfl rfl rfl rfl rfl rfl vs29 (by first | decide | simp) ?_
              refine TrOps.nil ?_
              refine At.seq ?_
              refine Tr.ret ?_
              exact At.ret rfl (.cellN rfl rfl vs46 <| .cellN rfl rfl vs29 <| .nil) rfl (Le.t (.cons (Le.of_eq (by rw [aplR_0 h1]; rfl)) <| .cons (.refl _) <| .nil))
            · refine TrOps.sem (OpSem.loadbN rfl rfl rfl vs46 (by first | decide | simp)) rfl rfl (by decide) ?_
              refine TrOps.sem (OpSem.loadbN rfl rfl rfl vs29 (by first | decide | simp)) rfl rfl (by decide) ?_
              refine TrOps.callAbs (fun q n c => sorted_all (relTo a to a.arcs.length) a.states a.labels a.init q n c (by simp [relTo]; omega)) rfl rfl rfl (by decide) rfl rfl rfl (plain_arcs _) ?_
              refine TrOps.freeze 90 rfl ?_
              refine TrOps.storeb rfl rfl rfl rfl rfl rfl rfl vs46 (by first | decide | simp) ?_
              refine TrOps.storeb rfl rfl rfl rfl rfl rfl rfl vs29 (by first | decide | simp) ?_
              refine TrOps.nil ?_
              refine At.seq ?_
              refine Tr.ret ?_
              exact At.ret rfl (.cellN rfl rfl vs46 <| .cellN rfl rfl vs29 <| .nil) rfl (Le.t (.cons (Le.of_eq (by rw [aplR_0 h1]; rfl)) <| .cons (.refl _) <| .nil))
            · refine TrOps.sem (OpSem.loadbN rfl rfl rfl vs29 (by first | decide | simp)) rfl rfl (by decide) ?_
              refine TrOps.sem (OpSem.loadbN rfl rfl rfl vs46 (by first | decide | simp)) rfl rfl (by decide) ?_
              refine TrOps.callAbs (fun q n c => sorted_all (relTo a to a.arcs.length) a.states a.labels a.init q n c (by simp [relTo]; omega)) rfl rfl rfl (by decide) rfl rfl rfl (plain_arcs _) ?_
              refine TrOps.freeze 90 rfl ?_
              refine TrOps.storeb rfl rfl rfl rfl rfl rfl rfl vs46 (by first | decide | simp) ?_
              refine TrOps.storeb rfl rfl rfl rfl rfl rfl rfl vs29 (by first | decide | simp) ?_
              refine TrOps.nil ?_
              refine At.seq ?_
              refine Tr.ret ?_
              exact At.ret rfl (.cellN rfl rfl vs46 <| .cellN rfl rfl vs29 <| .nil) rfl (Le.t (.cons (Le.of_eq (by rw [aplR_0 h1]; rfl)) <| .cons (.refl _) <| .nil))

end Go.Proofs.Ytohlmcebphcokaa
end

section
/- Walks, written by gen.py out of hints. -/




set_option linter.unusedVariables false
set_option linter.unusedSimpArgs false
namespace Go.Proofs.Ytohlmcebphcokaa
open Go.Eng
set_option maxRecDepth 10000
set_option maxHeartbeats 1000000

theorem law_costsOf_does (m : Multi) (hl : m.ops.length ≤ 1000) : DoesO Try.prog 22 [multi m] 1 3 (((costsL m).map fun n => [D.v (.int .i64 n)])) := by
  refine DoesO.of_body Try.func22 rfl rfl (by simp) Try.call22 (fun w0 O0 => ?_)
  refine Tr.lenG (n := 0) (i := 0) rfl rfl (fun len0_0 => ?_)
  refine Tr.lenG (n := 0) (i := 1) rfl rfl (fun len0_1 => ?_)
  refine Tr.lenG (n := 0) (i := 2) rfl rfl (fun len0_2 => ?_)
  refine Tr.lenG (n := 0) (i := 3) rfl rfl (fun len0_3 => ?_)
  refine Tr.seq ?_
  refine Tr.region ?_
  refine TrOps.semM (OpSem.box 1 rfl rfl rfl rfl) rfl rfl (by decide) ?_
  refine TrOps.sem (OpSem.move (.inr rfl) rfl) rfl rfl (by decide) ?_
  refine TrOps.nil ?_
  refine At.seq ?_
  refine Tr.seq ?_
  refine Tr.region ?_
  refine TrOps.sem (OpSem.move (.inr rfl) rfl) rfl rfl (by decide) ?_
  refine TrOps.nil ?_
  refine At.seq ?_
  refine Tr.seq ?_
  refine Tr.seq ?_
  refine Tr.ownNil (n := 3) 3 1 3 rfl ?_
  refine Tr.region ?_
  refine TrOps.sem (OpSem.move (.inr rfl) rfl) rfl rfl (by decide) ?_
  refine TrOps.nil ?_
  refine At.seq ?_
  refine Tr.block ?_
  refine Tr.loop (X := Nat) (fun k => k ≤ m.ops.length) (fun k => [(1, .r 1 0), (3, .o 3), (4, I (k))]) (fun k => [(3, .own 1 3 ((costsTo m k).map fun n => [D.v (.int .i64 n)])), (1, .box [.d (ints m.sizes), .d (ints m.init), .d (asgs m.goal), .d (opsD m.ops)])]) (fun k => m.ops.length - k) 0 (by omega) ?_ ?_
  · exact .slot rfl (.refl _) <| .slot rfl (.refl _) <| .slot rfl (Le.of_eq (by simp)) <| .memEq rfl (by simp [costsTo]) <| .mem rfl <| .nil
  · rintro k hkl
    refine Tr.seq ?_
    refine Tr.seq ?_
    refine Tr.region ?_
    refine TrOps.sem (OpSem.move (.inl rfl) rfl) rfl rfl (by decide) ?_
    refine TrOps.sem (OpSem.fieldr rfl rfl fo26_3) rfl rfl (by decide) ?_
    refine TrOps.sem (OpSem.loadb1 rfl rfl rfl vs24 rfl) rfl rfl (by decide) ?_
    refine TrOps.sem (OpSem.lenL rfl rfl es24) rfl rfl (by decide) ?_
    refine TrOps.sem (OpSem.bin rfl rfl rfl blss) rfl rfl (by decide) ?_
    refine TrOps.nil ?_
    refine At.seq ?_
    refine Tr.cond rfl (fun c9 => ?_) (fun c9 => ?_)
    · have hk : k < m.ops.length := by simpa using c9
      refine Tr.skip ?_
      refine At.seq ?_
      refine Tr.seq ?_
      refine Tr.block ?_
      refine Tr.region ?_
      refine TrOps.sem (OpSem.move (.inl rfl) rfl) rfl rfl (by decide) ?_
      refine TrOps.sem (OpSem.fieldr rfl rfl fo26_3) rfl rfl (by decide) ?_
      refine TrOps.sem (OpSem.loadb1 rfl rfl rfl vs24 rfl) rfl rfl (by decide) ?_
      refine TrOps.sem (OpSem.move (.inl rfl) rfl) rfl rfl (by decide) ?_
      refine TrOps.sem (OpSem.idxL rfl rfl rfl es24 (by omega) (by omega)) rfl rfl (by decide) ?_
      refine TrOps.sem (OpSem.fieldp rfl rfl fo81_2) rfl rfl (by decide) ?_
      refine TrOps.sem (OpSem.load1 rfl rfl vs3 rfl) rfl rfl (by decide) ?_
      refine TrOps.sem (OpSem.buildSlice rfl rfl es22 ze22 rfl rfl (by decide) (by decide) rfl rfl) rfl rfl (by decide) ?_
      refine TrOps.append rfl rfl rfl (by decide) rfl rfl rfl es22 el22 zc3 rfl by3 (by simp [D.one, Value.oneCell']) (by simp [maxLen, costsTo_len]; omega) (by simp [costsTo_len]; omega) ?_
      refine TrOps.sem (OpSem.move (.inr rfl) rfl) rfl rfl (by decide) ?_
      refine TrOps.nil ?_
      refine At.block_normal ?_
      refine At.seq ?_
      refine Tr.region ?_
      refine TrOps.sem (OpSem.move (.inl rfl) rfl) rfl rfl (by decide) ?_
      refine TrOps.sem (OpSem.bin rfl rfl rfl (badd (by omega) (by omega))) rfl rfl (by decide) ?_
      refine TrOps.sem (OpSem.move (.inr rfl) rfl) rfl rfl (by decide) ?_
      refine TrOps.nil ?_
      refine At.again (k + 1) (by omega) ?_ (by omega)
      exact .slot rfl (.refl _) <| .slot rfl (.refl _) <| .slot rfl (Le.of_eq (by simp)) <| .memEq rfl (by simp [costsTo_s]) <| .mem rfl <| .nil
    · have hk : k = m.ops.length := by simp at c9; omega
      refine Tr.exit ?_
      refine At.pass_exit ?_
      refine At.pass_exit ?_
      refine At.block_same ?_
      refine At.seq ?_
      refine Tr.seq ?_
      refine Tr.region ?_
      refine TrOps.sem (OpSem.move (.inl rfl) rfl) rfl rfl (by decide) ?_
      refine TrOps.sem (OpSem.move (.inr rfl) rfl) rfl rfl (by decide) ?_
      refine TrOps.nil ?_
      refine At.seq ?_
      refine Tr.ret ?_
      exact At.retO2 rfl rfl rfl (by simp) (by rw [hk, costsTo_end])

theorem Q_Abstractions_does (a b : Abs) : Does Try.prog false 29 [absS a, absS b] (Bo (decide (a = b))) := by
  refine Does.of_body Try.func29 rfl rfl (by simp) Try.call29 (fun w0 O0 => ?_)
  refine Tr.lenG (n := 0) (i := 2) rfl rfl (fun len0_2 => ?_)
  refine Tr.lenG (n := 0) (i := 4) rfl rfl (fun len0_4 => ?_)
  refine Tr.lenG (n := 1) (i := 2) rfl rfl (fun len1_2 => ?_)
  refine Tr.lenG (n := 1) (i := 4) rfl rfl (fun len1_4 => ?_)
  refine Tr.seq ?_
  refine Tr.region ?_
  refine TrOps.semM (OpSem.box 2 rfl rfl rfl rfl) rfl rfl (by decide) ?_
  refine TrOps.semM (OpSem.box 3 rfl rfl rfl rfl) rfl rfl (by decide) ?_
  refine TrOps.sem (OpSem.move (.inr rfl) rfl) rfl rfl (by decide) ?_
  refine TrOps.nil ?_
  refine At.seq ?_
  refine Tr.seq ?_
  refine Tr.seq ?_
  refine Tr.region ?_
  refine TrOps.sem (OpSem.fieldr rfl rfl fo46_0) rfl rfl (by decide) ?_
  refine TrOps.sem (OpSem.loadb1 rfl rfl rfl vs3 rfl) rfl rfl (by decide) ?_
  refine TrOps.sem (OpSem.fieldr rfl rfl fo46_0) rfl rfl (by decide) ?_
  refine TrOps.sem (OpSem.loadb1 rfl rfl rfl vs3 rfl) rfl rfl (by decide) ?_
  refine TrOps.sem (OpSem.bin rfl rfl rfl bneq) rfl rfl (by decide) ?_
  refine TrOps.sem (OpSem.move (.inl rfl) rfl) rfl rfl (by decide) ?_
  refine TrOps.split (n := 11) rfl (fun c11 => ?_) (fun c11 => ?_)
  · refine TrOps.gF rfl rfl rfl rfl c11 rfl (by decide) ?_
    refine TrOps.gF rfl rfl rfl rfl c11 rfl (by decide) ?_
    refine TrOps.gF rfl rfl rfl rfl c11 rfl (by decide) ?_
    refine TrOps.gF rfl rfl rfl rfl c11 rfl (by decide) ?_
    refine TrOps.gF rfl rfl rfl rfl c11 rfl (by decide) ?_
    refine TrOps.sem (OpSem.pickT rfl rfl c11 rfl) rfl rfl (by decide) ?_
    refine TrOps.sem (OpSem.move (.inl rfl) rfl) rfl rfl (by decide) ?_
    refine TrOps.gF rfl rfl rfl rfl rfl rfl (by decide) ?_
    refine TrOps.gF rfl rfl rfl rfl rfl rfl (by decide) ?_
    refine TrOps.gF rfl rfl rfl rfl rfl rfl (by decide) ?_
    refine TrOps.gF rfl rfl rfl rfl rfl rfl (by decide) ?_
    refine TrOps.gF rfl rfl rfl rfl rfl rfl (by decide) ?_
    refine TrOps.sem (OpSem.pickT rfl rfl rfl rfl) rfl rfl (by decide) ?_
    refine TrOps.sem (OpSem.move (.inl rfl) rfl) rfl rfl (by decide) ?_
    refine TrOps.gF rfl rfl rfl rfl rfl rfl (by decide) ?_
    refine TrOps.gF rfl rfl rfl rfl rfl rfl (by decide) ?_
    refine TrOps.gF rfl rfl rfl rfl rfl rfl (by decide) ?_
    refine TrOps.gF rfl rfl rfl rfl rfl rfl (by decide) ?_
    refine TrOps.gF rfl rfl rfl rfl rfl rfl (by decide) ?_
    refine TrOps.gF rfl rfl rfl rfl rfl rfl (by decide) ?_
    refine TrOps.sem (OpSem.pickT rfl rfl rfl rfl) rfl rfl (by decide) ?_
    refine TrOps.sem (OpSem.move (.inl rfl) rfl) rfl rfl (by decide) ?_
    refine TrOps.gF rfl rfl rfl rfl rfl rfl (by decide) ?_
    refine TrOps.gF rfl rfl rfl rfl rfl rfl (by decide) ?_
    refine TrOps.gF rfl rfl rfl rfl rfl rfl (by decide) ?_
    refine TrOps.gF rfl rfl rfl rfl rfl rfl (by decide) ?_
    refine TrOps.gF rfl rfl rfl rfl rfl rfl (by decide) ?_
    refine TrOps.gF rfl rfl rfl rfl rfl rfl (by decide) ?_
    refine TrOps.gF rfl rfl rfl rfl rfl rfl (by decide) ?_
    refine TrOps.sem (OpSem.pickT rfl rfl rfl rfl) rfl rfl (by decide) ?_
    refine TrOps.nil ?_
    refine At.seq ?_
    refine Tr.condT rfl rfl ?_
    refine Tr.seq ?_
    refine Tr.region ?_
    refine TrOps.sem (OpSem.move (.inr rfl) rfl) rfl rfl (by decide) ?_
    refine TrOps.nil ?_
    refine At.seq ?_
    refine Tr.ret ?_
    refine At.pass_ret ?_
    exact At.ret rfl (.tmp rfl <| .nil) rfl (Le.bo (decide_eq_false (fun e => by subst e; simp at c11)).symm)
  · refine TrOps.gT rfl rfl rfl rfl c11 ?_
    refine TrOps.sem (OpSem.fieldr rfl rfl fo46_1) rfl rfl (by decide) ?_
    refine TrOps.gT rfl rfl rfl rfl c11 ?_
    refine TrOps.sem (OpSem.loadb1 rfl rfl rfl vs3 rfl) rfl rfl (by decide) ?_
    refine TrOps.gT rfl rfl rfl rfl c11 ?_
    refine TrOps.sem (OpSem.fieldr rfl rfl fo46_1) rfl rfl (by decide) ?_
    refine TrOps.gT rfl rfl rfl rfl c11 ?_
    refine TrOps.sem (OpSem.loadb1 rfl rfl rfl vs3 rfl) rfl rfl (by decide) ?_
    refine TrOps.gT rfl rfl rfl rfl c11 ?_
    refine TrOps.sem (OpSem.bin rfl rfl rfl bneq) rfl rfl (by decide) ?_
    refine TrOps.sem (OpSem.pickF rfl rfl c11 rfl) rfl rfl (by decide) ?_
    refine TrOps.sem (OpSem.move (.inl rfl) rfl) rfl rfl (by decide) ?_
    refine TrOps.split (n := 18) rfl (fun c18 => ?_) (fun c18 => ?_)
    · refine TrOps.gF rfl rfl rfl rfl c18 rfl (by decide) ?_
      refine TrOps.gF rfl rfl rfl rfl c18 rfl (by decide) ?_
      refine TrOps.gF rfl rfl rfl rfl c18 rfl (by decide) ?_
      refine TrOps.gF rfl rfl rfl rfl c18 rfl (by decide) ?_
      refine TrOps.gF rfl rfl rfl rfl c18 rfl (by decide) ?_
      refine TrOps.sem (OpSem.pickT rfl rfl c18 rfl) rfl rfl (by decide) ?_
      refine TrOps.sem (OpSem.move (.inl rfl) rfl) rfl rfl (by decide) ?_
      refine TrOps.gF rfl rfl rfl rfl rfl rfl (by decide) ?_
      refine TrOps.gF rfl rfl rfl rfl rfl rfl (by decide) ?_
      refine TrOps.gF rfl rfl rfl rfl rfl rfl (by decide) ?_
      refine TrOps.gF rfl rfl rfl rfl rfl rfl (by decide) ?_
      refine TrOps.gF rfl rfl rfl rfl rfl rfl (by decide) ?_
      refine TrOps.gF rfl rfl rfl rfl rfl rfl (by decide) ?_
      refine TrOps.sem (OpSem.pickT rfl rfl rfl rfl) rfl rfl (by decide) ?_
      refine TrOps.sem (OpSem.move (.inl rfl) rfl) rfl rfl (by decide) ?_
      refine TrOps.gF rfl rfl rfl rfl rfl rfl (by decide) ?_
      refine TrOps.gF rfl rfl rfl rfl rfl rfl (by decide) ?_
      refine TrOps.gF rfl rfl rfl rfl rfl rfl (by decide) ?_
      refine TrOps.gF rfl rfl rfl rfl rfl rfl (by decide) ?_
      refine TrOps.gF rfl rfl rfl rfl rfl rfl (by decide) ?_
      refine TrOps.gF rfl rfl rfl rfl rfl rfl (by decide) ?_
      refine TrOps.gF rfl rfl rfl rfl rfl rfl (by decide) ?_
      refine TrOps.sem (OpSem.pickT rfl rfl rfl rfl) rfl rfl (by decide) ?_
      refine TrOps.nil ?_
      refine At.seq ?_
      refine Tr.condT rfl rfl ?_
      refine Tr.seq ?_
      refine Tr.region ?_
      refine TrOps.sem (OpSem.move (.inr rfl) rfl) rfl rfl (by decide) ?_
      refine TrOps.nil ?_
      refine At.seq ?_
      refine Tr.ret ?_
      refine At.pass_ret ?_
      exact At.ret rfl (.tmp rfl <| .nil) rfl (Le.bo (decide_eq_false (fun e => by subst e; simp at c18)).symm)
    · refine TrOps.gT rfl rfl rfl rfl c18 ?_
      refine TrOps.sem (OpSem.fieldr rfl rfl fo46_3) rfl rfl (by decide) ?_
      refine TrOps.gT rfl rfl rfl rfl c18 ?_
      refine TrOps.sem (OpSem.loadb1 rfl rfl rfl vs3 rfl) rfl rfl (by decide) ?_
      refine TrOps.gT rfl rfl rfl rfl c18 ?_
      refine TrOps.sem (OpSem.fieldr rfl rfl fo46_3) rfl rfl (by decide) ?_
      refine TrOps.gT rfl rfl rfl rfl c18 ?_
      refine TrOps.sem (OpSem.loadb1 rfl rfl rfl vs3 rfl) rfl rfl (by decide) ?_
      refine TrOps.gT rfl rfl rfl rfl c18 ?_
      refine TrOps.sem (OpSem.bin rfl rfl rfl bneq) rfl rfl (by decide) ?_
      refine TrOps.sem (OpSem.pickF rfl rfl c18 rfl) rfl rfl (by decide) ?_
      refine TrOps.sem (OpSem.move (.inl rfl) rfl) rfl rfl (by decide) ?_
      refine TrOps.split (n := 25) rfl (fun c25 => ?_) (fun c25 => ?_)
      · refine TrOps.gF rfl rfl rfl rfl c25 rfl (by decide) ?_
        refine TrOps.gF rfl rfl rfl rfl c25 rfl (by decide) ?_
        refine TrOps.gF rfl rfl rfl rfl c25 rfl (by decide) ?_
        refine TrOps.gF rfl rfl rfl rfl c25 rfl (by decide) ?_
        refine TrOps.gF rfl rfl rfl rfl c25 rfl (by decide) ?_
        refine TrOps.gF rfl rfl rfl rfl c25 rfl (by decide) ?_
        refine TrOps.sem (OpSem.pickT rfl rfl c25 rfl) rfl rfl (by decide) ?_
        refine TrOps.sem (OpSem.move (.inl rfl) rfl) rfl rfl (by decide) ?_
        refine TrOps.gF rfl rfl rfl rfl rfl rfl (by decide) ?_
        refine TrOps.gF rfl rfl rfl rfl rfl rfl (by decide) ?_
        refine TrOps.gF rfl rfl rfl rfl rfl rfl (by decide) ?_
        refine TrOps.gF rfl rfl rfl rfl rfl rfl (by decide) ?_
        refine TrOps.gF rfl rfl rfl rfl rfl rfl (by decide) ?_
        refine TrOps.gF rfl rfl rfl rfl rfl rfl (by decide) ?_
        refine TrOps.gF rfl rfl rfl rfl rfl rfl (by decide) ?_
        refine TrOps.sem (OpSem.pickT rfl rfl rfl rfl) rfl rfl (by decide) ?_
        refine TrOps.nil ?_
        refine At.seq ?_
        refine Tr.condT rfl rfl ?_
        refine Tr.seq ?_
        refine Tr.region ?_
        refine TrOps.sem (OpSem.move (.inr rfl) rfl) rfl rfl (by decide) ?_
        refine TrOps.nil ?_
        refine At.seq ?_
        refine Tr.ret ?_
        refine At.pass_ret ?_
        exact At.ret rfl (.tmp rfl <| .nil) rfl (Le.bo (decide_eq_false (fun e => by subst e; simp at c25)).symm)
      · refine TrOps.gT rfl rfl rfl rfl c25 ?_
        refine TrOps.sem (OpSem.fieldr rfl rfl fo46_4) rfl rfl (by decide) ?_
        refine TrOps.gT rfl rfl rfl rfl c25 ?_
        refine TrOps.sem (OpSem.loadb1 rfl rfl rfl vs22 rfl) rfl rfl (by decide) ?_
        refine TrOps.gT rfl rfl rfl rfl c25 ?_
        refine TrOps.sem (OpSem.fieldr rfl rfl fo46_4) rfl rfl (by decide) ?_
        refine TrOps.gT rfl rfl rfl rfl c25 ?_
        refine TrOps.sem (OpSem.loadb1 rfl rfl rfl vs22 rfl) rfl rfl (by decide) ?_
        refine TrOps.gT rfl rfl rfl rfl c25 ?_
        refine TrOps.sem (OpSem.call0 (R_Ints_does a.goals b.goals) rfl rfl rfl rfl (Les.refl _)) rfl rfl (by decide) ?_
        refine TrOps.gT rfl rfl rfl rfl c25 ?_
        refine TrOps.sem (OpSem.not rfl rfl) rfl rfl (by decide) ?_
        refine TrOps.sem (OpSem.pickF rfl rfl c25 rfl) rfl rfl (by decide) ?_
        refine TrOps.sem (OpSem.move (.inl rfl) rfl) rfl rfl (by decide) ?_
        refine TrOps.split (n := 33) rfl (fun c33 => ?_) (fun c33 => ?_)
        · refine TrOps.gF rfl rfl rfl rfl c33 rfl (by decide) ?_
          refine TrOps.gF rfl rfl rfl rfl c33 rfl (by decide) ?_
          refine TrOps.gF rfl rfl rfl rfl c33 rfl (by decide) ?_
          refine TrOps.gF rfl rfl rfl rfl c33 rfl (by decide) ?_
          refine TrOps.gF rfl rfl rfl rfl c33 rfl (by decide) ?_
          refine TrOps.gF rfl rfl rfl rfl c33 rfl (by decide) ?_
          refine TrOps.gF rfl rfl rfl rfl c33 rfl (by decide) ?_
          refine TrOps.sem (OpSem.pickT rfl rfl c33 rfl) rfl rfl (by decide) ?_
          refine TrOps.nil ?_
          refine At.seq ?_
          refine Tr.condT rfl rfl ?_
          refine Tr.seq ?_
          refine Tr.region ?_
          refine TrOps.sem (OpSem.move (.inr rfl) rfl) rfl rfl (by decide) ?_
          refine TrOps.nil ?_
          refine At.seq ?_
          refine Tr.ret ?_
          refine At.pass_ret ?_
          exact At.ret rfl (.tmp rfl <| .nil) rfl (Le.bo (decide_eq_false (fun e => by subst e; simp at c33)).symm)
        · refine TrOps.gT rfl rfl rfl rfl c33 ?_
          refine TrOps.sem (OpSem.fieldr rfl rfl fo46_2) rfl rfl (by decide) ?_
          refine TrOps.gT rfl rfl rfl rfl c33 ?_
          refine TrOps.sem (OpSem.loadb1 rfl rfl rfl vs44 rfl) rfl rfl (by decide) ?_
          refine TrOps.gT rfl rfl rfl rfl c33 ?_
          refine TrOps.sem (OpSem.lenL rfl rfl es44) rfl rfl (by decide) ?_
          refine TrOps.gT rfl rfl rfl rfl c33 ?_
          refine TrOps.sem (OpSem.fieldr rfl rfl fo46_2) rfl rfl (by decide) ?_
          refine TrOps.gT rfl rfl rfl rfl c33 ?_
          refine TrOps.sem (OpSem.loadb1 rfl rfl rfl vs44 rfl) rfl rfl (by decide) ?_
          refine TrOps.gT rfl rfl rfl rfl c33 ?_
          refine TrOps.sem (OpSem.lenL rfl rfl es44) rfl rfl (by decide) ?_
          refine TrOps.gT rfl rfl rfl rfl c33 ?_
          refine TrOps.sem (OpSem.bin rfl rfl rfl bneq) rfl rfl (by decide) ?_
          refine TrOps.sem (OpSem.pickF rfl rfl c33 rfl) rfl rfl (by decide) ?_
          refine TrOps.nil ?_
          refine At.seq ?_
          refine Tr.cond rfl (fun c41 => ?_) (fun c41 => ?_)
          · refine Tr.seq ?_
            refine Tr.region ?_
            refine TrOps.sem (OpSem.move (.inr rfl) rfl) rfl rfl (by decide) ?_
            refine TrOps.nil ?_
            refine At.seq ?_
            refine Tr.ret ?_
            refine At.pass_ret ?_
            exact At.ret rfl (.tmp rfl <| .nil) rfl (Le.bo (decide_eq_false (fun e => by subst e; simp at c41)).symm)
          · have hl : a.arcs.length = b.arcs.length := by simp at c41; omega
            refine Tr.skip ?_
            refine At.seq ?_
            refine Tr.seq ?_
            refine Tr.seq ?_
            refine Tr.region ?_
            refine TrOps.sem (OpSem.move (.inr rfl) rfl) rfl rfl (by decide) ?_
            refine TrOps.nil ?_
            refine At.seq ?_
            refine Tr.block ?_
            refine Tr.loop (X := Nat) (fun k => k ≤ a.arcs.length ∧ ∀ i : Nat, i < k → nth a.arcs i = nth b.arcs i) (fun k => [(2, .r 2 0), (3, .r 3 0), (5, I (k))]) (fun k => [(2, .box [I (a.states), I (a.labels), .d (arcsD a.arcs), I (a.init), .d (ints a.goals)]), (3, .box [I (b.states), I (b.labels), .d (arcsD b.arcs), I (b.init), .d (ints b.goals)])]) (fun k => a.arcs.length - k) 0 ⟨by omega, by simp⟩ ?_ ?_
            · exact .slot rfl (.refl _) <| .slot rfl (.refl _) <| .slot rfl (Le.of_eq (by simp)) <| .mem rfl <| .mem rfl <| .nil
            · rintro k ⟨hkl, hinv⟩
              refine Tr.seq ?_
              refine Tr.seq ?_
              refine Tr.region ?_
              refine TrOps.sem (OpSem.move (.inl rfl) rfl) rfl rfl (by decide) ?_
              refine TrOps.sem (OpSem.fieldr rfl rfl fo46_2) rfl rfl (by decide) ?_
              refine TrOps.sem (OpSem.loadb1 rfl rfl rfl vs44 rfl) rfl rfl (by decide) ?_
              refine TrOps.sem (OpSem.lenL rfl rfl es44) rfl rfl (by decide) ?_
              refine TrOps.sem (OpSem.bin rfl rfl rfl blss) rfl rfl (by decide) ?_
              refine TrOps.nil ?_
              refine At.seq ?_
              refine Tr.cond rfl (fun c46 => ?_) (fun c46 => ?_)
              · have hk : k < a.arcs.length := by simpa using c46
                refine Tr.skip ?_
                refine At.seq ?_
                refine Tr.seq ?_
                refine Tr.block ?_
                refine Tr.seq ?_
                refine PC.start [] ?_
                refine PC.sem (OpSem.fieldr rfl rfl fo46_2) rfl rfl ?_
                refine PC.sem (OpSem.loadb1 rfl rfl rfl vs44 rfl) rfl rfl ?_
                refine PC.sem (OpSem.move (.inl rfl) rfl) rfl rfl ?_
                refine PC.sem (OpSem.idxL rfl rfl rfl es44 (by omega) (by omega)) rfl rfl ?_
                refine PC.sem (OpSem.loadN rfl rfl vs93 (by first | decide | simp) rfl) rfl rfl ?_
                refine PC.sem (OpSem.fieldr rfl rfl fo46_2) rfl rfl ?_
                refine PC.sem (OpSem.loadb1 rfl rfl rfl vs44 rfl) rfl rfl ?_
                refine PC.sem (OpSem.move (.inl rfl) rfl) rfl rfl ?_
                refine PC.sem (OpSem.idxL rfl rfl rfl es44 (by omega) (by omega)) rfl rfl ?_
                refine PC.sem (OpSem.loadN rfl rfl vs93 (by first | decide | simp) rfl) rfl rfl ?_
                refine PC.done0 mixed (by kernel_rfl) (by kernel_rfl) (by kernel_rfl) (by kernel_rfl) (by kernel_rfl) ?_
                refine TrOps.sem (OpSem.neS3 rfl rfl rfl io93) rfl rfl (by decide) ?_
                refine TrOps.nil ?_
                refine At.seq ?_
                refine Tr.cond rfl (fun c59 => ?_) (fun c59 => ?_)
                · refine Tr.seq ?_
                  refine Tr.region ?_
                  refine TrOps.sem (OpSem.move (.inr rfl) rfl) rfl rfl (by decide) ?_
                  refine TrOps.nil ?_
                  refine At.seq ?_
                  refine Tr.ret ?_
                  refine At.block_ret ?_
                  refine At.pass_ret ?_
                  refine At.pass_ret ?_
                  refine At.block_ret ?_
                  refine At.pass_ret ?_
                  exact At.ret rfl (.tmp rfl <| .nil) rfl (Le.bo (decide_eq_false (fun e => by subst e; simp at c59)).symm)
                · have hb : nth a.arcs k = nth b.arcs k := arc_ext (by simp at c59; exact c59.1) (by simp at c59; exact c59.2.1) (by simp at c59; exact c59.2.2)
                  refine Tr.skip ?_
                  refine At.block_normal ?_
                  refine At.seq ?_
                  refine Tr.region ?_
                  refine TrOps.sem (OpSem.move (.inl rfl) rfl) rfl rfl (by decide) ?_
                  refine TrOps.sem (OpSem.bin rfl rfl rfl (badd (by omega) (by omega))) rfl rfl (by decide) ?_
                  refine TrOps.sem (OpSem.move (.inr rfl) rfl) rfl rfl (by decide) ?_
                  refine TrOps.nil ?_
                  refine At.again (k + 1) ⟨by omega, all_succ hinv hb⟩ ?_ (by omega)
                  exact .slot rfl (.refl _) <| .slot rfl (.refl _) <| .slot rfl (Le.of_eq (by simp)) <| .mem rfl <| .mem rfl <| .nil
              · have hk : k = a.arcs.length := by simp at c46; omega
                refine Tr.exit ?_
                refine At.pass_exit ?_
                refine At.pass_exit ?_
                refine At.block_same ?_
                refine At.seq ?_
                refine Tr.seq ?_
                refine Tr.region ?_
                refine TrOps.sem (OpSem.move (.inr rfl) rfl) rfl rfl (by decide) ?_
                refine TrOps.nil ?_
                refine At.seq ?_
                refine Tr.ret ?_
                exact At.ret rfl (.tmp rfl <| .nil) rfl (Le.bo (decide_eq_true (abs_ext (by simpa using c11) (by simpa using c18) (ext_get (by simp at c41; omega) (by subst hk; exact hinv)) (by simpa using c25) (by simpa using c33))).symm)

end Go.Proofs.Ytohlmcebphcokaa
end

section
/- Walks, written by gen.py out of hints. -/




set_option linter.unusedVariables false
set_option linter.unusedSimpArgs false
namespace Go.Proofs.Ytohlmcebphcokaa
open Go.Eng
set_option maxRecDepth 10000
set_option maxHeartbeats 1000000

end Go.Proofs.Ytohlmcebphcokaa
end

section
/- Products of abstractions. -/

set_option linter.unusedVariables false
set_option linter.unusedSimpArgs false
set_option linter.unusedSectionVars false
namespace Go.Eng
open Go
/-! ### Lists -/
theorem nodup_le {α : Type} [DecidableEq α] : ∀ {l l' : List α}, l.Nodup → (∀ x, x ∈ l → x ∈ l') → l.length ≤ l'.length
  | [], _, _, _ => by simp
  | x :: l, l', hn, h => by
    rw [List.nodup_cons] at hn
    have hx := h x (by simp)
    have := nodup_le (l := l) (l' := l'.erase x) hn.2 (fun y hy => (List.mem_erase_of_ne (fun e => by subst e; exact hn.1 hy)).2 (h y (by simp [hy])))
    rw [List.length_erase_of_mem hx] at this
    have : 0 < l'.length := List.length_pos_of_mem hx
    simp only [List.length_cons]; omega
theorem inj_le {α β : Type} [DecidableEq β] {l : List α} {l' : List β} (g : α → β) (hn : l.Nodup) (hm : ∀ x, x ∈ l → g x ∈ l') (hi : ∀ x y, x ∈ l → y ∈ l → g x = g y → x = y) : l.length ≤ l'.length := by
  have h1 : (l.map g).Nodup := by
    unfold List.Nodup at *
    rw [List.pairwise_map]
    refine List.Pairwise.imp ?_ (List.Pairwise.and_mem.1 hn)
    rintro x y ⟨hx, hy, hne⟩ he
    exact hne (hi x y hx hy he)
  have := nodup_le h1 (l' := l') (fun y hy => by obtain ⟨x, hx, rfl⟩ := List.mem_map.1 hy; exact hm x hx)
  rwa [List.length_map] at this
theorem tk_s {α : Type} [Inhabited α] {l : List α} {k : Nat} (hk : k < l.length) : l.take (k + 1) = l.take k ++ [nth l k] := by
  rw [List.take_add_one, List.getElem?_eq_getElem hk, nth_eq hk]; rfl
theorem fm_s {α β : Type} [Inhabited α] {l : List α} {f : α → List β} {k : Nat} (hk : k < l.length) : (l.take (k + 1)).flatMap f = (l.take k).flatMap f ++ f (nth l k) := by
  rw [tk_s hk, List.flatMap_append]; simp
theorem fm_len {α β : Type} {l : List α} {f : α → List β} {n : Nat} (h : ∀ x, x ∈ l → (f x).length ≤ n) : (l.flatMap f).length ≤ l.length * n := by
  induction l with
  | nil => simp
  | cons x l ih =>
    have h1 := h x (by simp)
    have h2 := ih fun y hy => h y (by simp [hy])
    rw [List.flatMap_cons, List.length_append, List.length_cons, Nat.succ_mul]; omega
/-! ### The program's product -/
def prA (n : Int) (x y : Arc) : Arc := ⟨x.fr * n + y.fr, x.lab, x.to * n + y.to⟩
def timJ (b : Abs) (x : Arc) (j : Nat) : List Arc := ((b.arcs.take j).filter fun y => decide (x.lab = y.lab)).map (prA b.states x)
def timI (a b : Abs) (i : Nat) : List Arc := (a.arcs.take i).flatMap fun x => timJ b x b.arcs.length
theorem timJ_t {b : Abs} {x : Arc} {j : Nat} (hj : j < b.arcs.length) (h : x.lab = (nth b.arcs j).lab) : timJ b x j ++ [prA b.states x (nth b.arcs j)] = timJ b x (j + 1) := by
  unfold timJ
  rw [tk_s hj, List.filter_append, List.map_append]
  simp [h]
theorem timJ_f {b : Abs} {x : Arc} {j : Nat} (hj : j < b.arcs.length) (h : x.lab ≠ (nth b.arcs j).lab) : timJ b x j = timJ b x (j + 1) := by
  unfold timJ
  rw [tk_s hj, List.filter_append, List.map_append]
  simp [h]
theorem timJ_len {b : Abs} {x : Arc} {j : Nat} : (timJ b x j).length ≤ b.arcs.length := by
  unfold timJ
  have := List.length_filter_le (fun y : Arc => decide (x.lab = y.lab)) (b.arcs.take j)
  simp only [List.length_map, List.length_take] at *
  omega
theorem timI_s {a b : Abs} {i : Nat} (hi : i < a.arcs.length) : timI a b i ++ timJ b (nth a.arcs i) b.arcs.length = timI a b (i + 1) := (fm_s hi).symm
theorem timI_len {a b : Abs} (ha : a.arcs.length ≤ 400) (hb : b.arcs.length ≤ 400) {i : Nat} : (timI a b i).length ≤ 160000 := by
  have h := fm_len (l := a.arcs.take i) (f := fun x => timJ b x b.arcs.length) (n := 400) (fun x _ => Nat.le_trans timJ_len hb)
  have : (a.arcs.take i).length ≤ 400 := by simp; omega
  have := Nat.mul_le_mul_right 400 this
  unfold timI; omega
def timG (a b : Abs) (x : Int) (j : Nat) : List Int := (b.goals.take j).map fun y => x * b.states + y
def timH (a b : Abs) (i : Nat) : List Int := (a.goals.take i).flatMap fun x => timG a b x b.goals.length
theorem timG_s {a b : Abs} {x : Int} {j : Nat} (hj : j < b.goals.length) : timG a b x j ++ [x * b.states + nth b.goals j] = timG a b x (j + 1) := by
  unfold timG; rw [tk_s hj, List.map_append]; rfl
theorem timG_len {a b : Abs} {x : Int} {j : Nat} : (timG a b x j).length ≤ b.goals.length := by unfold timG; simp; omega
theorem timH_s {a b : Abs} {i : Nat} (hi : i < a.goals.length) : timH a b i ++ timG a b (nth a.goals i) b.goals.length = timH a b (i + 1) := (fm_s hi).symm
theorem timH_len {a b : Abs} (ha : a.goals.length ≤ 60) (hb : b.goals.length ≤ 60) {i : Nat} : (timH a b i).length ≤ 3600 := by
  have h := fm_len (l := a.goals.take i) (f := fun x => timG a b x b.goals.length) (n := 60) (fun x _ => Nat.le_trans timG_len hb)
  have : (a.goals.take i).length ≤ 60 := by simp; omega
  have := Nat.mul_le_mul_right 60 this
  unfold timH; omega
def timA (a b : Abs) : Abs := ⟨a.states * b.states, a.labels, dd (sortL (timI a b a.arcs.length)), a.init * b.states + b.init, timH a b a.goals.length⟩
theorem tim_mem {a b : Abs} {z : Arc} : z ∈ (timA a b).arcs ↔ ∃ x y, x ∈ a.arcs ∧ y ∈ b.arcs ∧ x.lab = y.lab ∧ z = prA b.states x y := by
  show z ∈ dd (sortL _) ↔ _
  rw [sd_mem]
  unfold timI timJ
  rw [List.take_length, List.take_length, List.mem_flatMap]
  constructor
  · rintro ⟨x, hx, hz⟩
    obtain ⟨y, hy, rfl⟩ := List.mem_map.1 hz
    rw [List.mem_filter] at hy
    exact ⟨x, y, hx, hy.1, by simpa using hy.2, rfl⟩
  · rintro ⟨x, y, hx, hy, hl, rfl⟩
    exact ⟨x, hx, List.mem_map.2 ⟨y, List.mem_filter.2 ⟨hy, by simpa using hl⟩, rfl⟩⟩
theorem tim_goal {a b : Abs} {n : Int} : n ∈ (timA a b).goals ↔ ∃ x y, x ∈ a.goals ∧ y ∈ b.goals ∧ n = x * b.states + y := by
  show n ∈ timH a b a.goals.length ↔ _
  unfold timH timG
  rw [List.take_length, List.take_length, List.mem_flatMap]
  constructor
  · rintro ⟨x, hx, hz⟩
    obtain ⟨y, hy, rfl⟩ := List.mem_map.1 hz
    exact ⟨x, y, hx, hy, rfl⟩
  · rintro ⟨x, y, hx, hy, rfl⟩
    exact ⟨x, hx, List.mem_map.2 ⟨y, hy, rfl⟩⟩
/-- Pairs of numbers as one. -/
theorem pair_div {x y s : Int} (h0 : 0 ≤ y) (h1 : y < s) : (x * s + y) / s = x ∧ (x * s + y) % s = y := by
  have hs : 0 < s := by omega
  rw [Int.add_comm]
  refine ⟨?_, ?_⟩
  · rw [Int.add_mul_ediv_right _ _ (by omega), Int.ediv_eq_zero_of_lt h0 h1]; omega
  · rw [Int.add_mul_emod_self_right, Int.emod_eq_of_lt h0 h1]
theorem pair_in {x y r s : Int} (hx : 0 ≤ x ∧ x < r) (hy : 0 ≤ y ∧ y < s) : 0 ≤ x * s + y ∧ x * s + y < r * s := by
  have h1 : 0 ≤ x * s := Int.mul_nonneg hx.1 (by omega)
  have h2 : (x + 1) * s ≤ r * s := Int.mul_le_mul_of_nonneg_right (by omega) (by omega)
  rw [Int.add_mul] at h2
  omega
theorem pair_lt {x y x' y' s : Int} (hy : 0 ≤ y ∧ y < s) (hy' : 0 ≤ y' ∧ y' < s) (h : x < x' ∨ (x = x' ∧ y < y')) : x * s + y < x' * s + y' := by
  rcases h with h | ⟨rfl, h⟩
  · have h2 : (x + 1) * s ≤ x' * s := Int.mul_le_mul_of_nonneg_right (by omega) (by omega)
    rw [Int.add_mul] at h2
    omega
  · omega
theorem pair_of {n r s : Int} (h0 : 0 ≤ n) (h1 : n < r * s) (hs : 0 < s) : n = n / s * s + n % s ∧ (0 ≤ n / s ∧ n / s < r) ∧ (0 ≤ n % s ∧ n % s < s) := by
  have e : n / s * s + n % s = n := by rw [Int.mul_comm]; exact Int.mul_ediv_add_emod n s
  refine ⟨e.symm, ⟨Int.ediv_nonneg h0 (by omega), Int.ediv_lt_of_lt_mul hs h1⟩, Int.emod_nonneg _ (by omega), Int.emod_lt_of_pos _ hs⟩
section
variable {a b : Abs} (ha : AbsOk a) (hb : AbsOk b)
include ha hb
theorem tim_goals_sorted : (timA a b).goals.Pairwise (· < ·) := by
  show (timH a b a.goals.length).Pairwise _
  unfold timH timG
  rw [List.take_length, List.take_length, List.pairwise_flatMap]
  have hga := setP_sorted ha.goals
  have hgb := setP_sorted hb.goals
  refine ⟨fun x hx => ?_, ?_⟩
  · rw [List.pairwise_map]
    exact hgb.imp fun h => by omega
  · refine List.Pairwise.imp ?_ hga
    intro x x' hlt z hz z' hz'
    obtain ⟨y, hy, rfl⟩ := List.mem_map.1 hz
    obtain ⟨y', hy', rfl⟩ := List.mem_map.1 hz'
    exact pair_lt (setP_mem hb.goals hy) (setP_mem hb.goals hy') (.inl hlt)
theorem tim_arcIn (hl : a.labels = b.labels) {z : Arc} (hz : z ∈ (timA a b).arcs) : arcIn (timA a b) z := by
  obtain ⟨x, y, hx, hy, hlab, rfl⟩ := tim_mem.1 hz
  have h1 := mem_in ha hx
  have h2 := mem_in hb hy
  exact ⟨pair_in h1.1 h2.1, h1.2.1, pair_in h1.2.2 h2.2.2⟩
end
/-! ### Faults -/
def prdF1 (a b : Abs) : Int × Int := if absFault a ≠ (0, 0) then absFault a else if absFault b ≠ (0, 0) then ((absFault b).1, -5) else (0, 0)
def prdF2 (a b : Abs) : Int × Int := if prdF1 a b ≠ (0, 0) then prdF1 a b else if a.labels ≠ b.labels then (9, -6) else (0, 0)
def prdF3 (a b : Abs) : Int × Int := if prdF2 a b ≠ (0, 0) then prdF2 a b else if 60 < a.states * b.states then (10, -7) else (0, 0)
def prdF (a b : Abs) : Int × Int := if prdF3 a b ≠ (0, 0) then prdF3 a b else if 400 < (timA a b).arcs.length then (10, -7) else (0, 0)
def prdR (a b : Abs) : Abs := if prdF a b = (0, 0) then timA a b else absZ
theorem if2 {f g : Int × Int} {p : Prop} [Decidable p] (h : (if f ≠ (0, 0) then f else if p then g else (0, 0)) = (0, 0)) (hg : g ≠ (0, 0)) : f = (0, 0) ∧ ¬ p := by
  split at h
  · rename_i hn; exact absurd h hn
  · rename_i hn
    split at h
    · exact absurd h hg
    · rename_i h2; exact ⟨Decidable.not_not.1 hn, h2⟩
theorem if2c {f g : Int × Int} {p : Prop} [Decidable p] (hf : f.1 = 0 → f = (0, 0)) (hg : g.1 ≠ 0) (h : (if f ≠ (0, 0) then f else if p then g else (0, 0)).1 = 0) : (if f ≠ (0, 0) then f else if p then g else (0, 0)) = (0, 0) := by
  split
  · rename_i hn; rw [if_pos hn] at h; exact hf h
  · rename_i hn
    rw [if_neg hn] at h
    split
    · rename_i h2; rw [if_pos h2] at h; exact absurd h hg
    · rfl
theorem absFault_c {a : Abs} (h : (absFault a).1 = 0) : absFault a = (0, 0) := (absFault_ok h).2
theorem prdF1_code {a b : Abs} (h : (prdF1 a b).1 = 0) : prdF1 a b = (0, 0) := by
  unfold prdF1 at h ⊢
  split
  · rename_i hn; rw [if_pos hn] at h; exact absFault_c h
  · rename_i hn
    rw [if_neg hn] at h
    split
    · rename_i h2; rw [if_pos h2] at h; exact absurd (absFault_c h) h2
    · rfl
theorem prdF2_code {a b : Abs} (h : (prdF2 a b).1 = 0) : prdF2 a b = (0, 0) := if2c prdF1_code (by decide) h
theorem prdF3_code {a b : Abs} (h : (prdF3 a b).1 = 0) : prdF3 a b = (0, 0) := if2c prdF2_code (by decide) h
theorem prdF_code {a b : Abs} (h : (prdF a b).1 = 0) : prdF a b = (0, 0) := if2c prdF3_code (by decide) h
theorem prdF1_inv {a b : Abs} (h : prdF1 a b = (0, 0)) : absFault a = (0, 0) ∧ absFault b = (0, 0) := by
  unfold prdF1 at h
  split at h
  · rename_i hn; exact absurd h hn
  · rename_i hn
    split at h
    · rename_i h2; exact absurd (absFault_c (congrArg Prod.fst h)) h2
    · rename_i h2; exact ⟨Decidable.not_not.1 hn, Decidable.not_not.1 h2⟩
theorem prdF2_inv {a b : Abs} (h : prdF2 a b = (0, 0)) : prdF1 a b = (0, 0) ∧ a.labels = b.labels := by
  obtain ⟨h1, h2⟩ := if2 h (by decide)
  exact ⟨h1, Decidable.not_not.1 h2⟩
theorem prdF3_inv {a b : Abs} (h : prdF3 a b = (0, 0)) : prdF2 a b = (0, 0) ∧ a.states * b.states ≤ 60 := by
  obtain ⟨h1, h2⟩ := if2 h (by decide)
  exact ⟨h1, by omega⟩
theorem prdF_inv {a b : Abs} (h : prdF a b = (0, 0)) : prdF3 a b = (0, 0) ∧ (timA a b).arcs.length ≤ 400 := by
  obtain ⟨h1, h2⟩ := if2 h (by decide)
  exact ⟨h1, by omega⟩
/-- What a product needs. -/
structure PrdP (a b : Abs) : Prop where
  oa : AbsOk a
  ob : AbsOk b
  lab : a.labels = b.labels
  st : a.states * b.states ≤ 60
theorem prdF3_ok {a b : Abs} (h : prdF3 a b = (0, 0)) : PrdP a b := by
  obtain ⟨h1, h2⟩ := prdF3_inv h
  obtain ⟨h3, h4⟩ := prdF2_inv h1
  obtain ⟨h5, h6⟩ := prdF1_inv h3
  exact ⟨(absFault_ok (congrArg Prod.fst h5)).1, (absFault_ok (congrArg Prod.fst h6)).1, h4, h2⟩
theorem prdF3_of {a b : Abs} (h : PrdP a b) : prdF3 a b = (0, 0) := by
  have h1 : prdF1 a b = (0, 0) := by unfold prdF1; rw [absFault_of h.oa, absFault_of h.ob]; rfl
  have h2 : prdF2 a b = (0, 0) := by unfold prdF2; rw [h1, if_neg (fun hn => hn rfl), if_neg (fun hn => hn h.lab)]
  unfold prdF3; rw [h2, if_neg (fun hn => hn rfl), if_neg (by have := h.st; omega)]
theorem prdF_of {a b : Abs} (h : PrdP a b) (hl : (timA a b).arcs.length ≤ 400) : prdF a b = (0, 0) := by
  unfold prdF; rw [prdF3_of h, if_neg (fun hn => hn rfl), if_neg (by omega)]
theorem prdF_big {a b : Abs} (h : PrdP a b) (hl : 400 < (timA a b).arcs.length) : prdF a b = (10, -7) := by
  unfold prdF; rw [prdF3_of h, if_neg (fun hn => hn rfl), if_pos hl]
theorem prd_st {a b : Abs} (h : PrdP a b) : 1 ≤ a.states * b.states := by
  have h1 := h.oa.head.1
  have h2 := h.ob.head.1
  have := Int.mul_le_mul_of_nonneg_right (a := 1) (b := a.states) (c := b.states) (by omega) (by omega)
  omega
theorem prd_ok {a b : Abs} (h : PrdP a b) (hl : (timA a b).arcs.length ≤ 400) : AbsOk (timA a b) := by
  have h1 := h.oa.head
  have h2 := h.ob.head
  refine absOk_of ⟨⟨prd_st h, h.st⟩, h1.2.1, pair_in h1.2.2 h2.2.2⟩ (tim_goals_sorted h.oa h.ob) (fun z hz => ?_) hl sd_strict fun x hx => tim_arcIn h.oa h.ob h.lab hx
  obtain ⟨x, y, hx, hy, rfl⟩ := tim_goal.1 hz
  exact pair_in (setP_mem h.oa.goals hx) (setP_mem h.ob.goals hy)
theorem prdR_0 {a b : Abs} (h : prdF a b = (0, 0)) : prdR a b = timA a b := by unfold prdR; rw [if_pos h]
theorem prdR_1 {a b : Abs} (h : prdF a b ≠ (0, 0)) : prdR a b = absZ := by unfold prdR; rw [if_neg h]
/-! ### The reference's product -/
def rK (a b : Abs) (n lab : Int) (i k : Nat) : List Arc := if (nth a.arcs i).fr = n / b.states ∧ (nth a.arcs i).lab = lab then ((b.arcs.take k).filter fun y => decide (y.fr = n % b.states ∧ y.lab = lab)).map (fun y => ⟨n, lab, (nth a.arcs i).to * b.states + y.to⟩) else []
def rI (a b : Abs) (n lab : Int) (i : Nat) : List Arc := (List.range i).flatMap fun i' => rK a b n lab i' b.arcs.length
def rL (a b : Abs) (n : Int) (l : Nat) : List Arc := (List.range l).flatMap fun (lab : Nat) => rI a b n lab a.arcs.length
def rN (a b : Abs) (n : Nat) : List Arc := (List.range n).flatMap fun (n' : Nat) => rL a b n' a.labels.toNat
theorem rng_s {β : Type} {f : Nat → List β} {n : Nat} : (List.range n).flatMap f ++ f n = (List.range (n + 1)).flatMap f := by
  rw [List.range_succ, List.flatMap_append]; simp
theorem rN_s {a b : Abs} {n : Nat} : rN a b n ++ rL a b n a.labels.toNat = rN a b (n + 1) := rng_s (f := fun n' : Nat => rL a b n' a.labels.toNat)
theorem rL_s {a b : Abs} {n : Int} {l : Nat} : rL a b n l ++ rI a b n l a.arcs.length = rL a b n (l + 1) := rng_s (f := fun lab : Nat => rI a b n lab a.arcs.length)
theorem rI_s {a b : Abs} {n lab : Int} {i : Nat} : rI a b n lab i ++ rK a b n lab i b.arcs.length = rI a b n lab (i + 1) := rng_s (f := fun i' => rK a b n lab i' b.arcs.length)
theorem rK_t {a b : Abs} {n lab : Int} {i k : Nat} (hk : k < b.arcs.length) (h : (nth a.arcs i).fr = n / b.states ∧ (nth a.arcs i).lab = lab) (h' : (nth b.arcs k).fr = n % b.states ∧ (nth b.arcs k).lab = lab) :
    rK a b n lab i k ++ [⟨n, lab, (nth a.arcs i).to * b.states + (nth b.arcs k).to⟩] = rK a b n lab i (k + 1) := by
  unfold rK
  rw [if_pos h, if_pos h, tk_s hk, List.filter_append, List.map_append]
  simp [h']
theorem rK_f {a b : Abs} {n lab : Int} {i k : Nat} (hk : k < b.arcs.length) (h' : ¬ ((nth b.arcs k).fr = n % b.states ∧ (nth b.arcs k).lab = lab)) : rK a b n lab i k = rK a b n lab i (k + 1) := by
  unfold rK
  rw [tk_s hk, List.filter_append, List.map_append]
  have : (List.filter (fun y => decide (y.fr = n % b.states ∧ y.lab = lab)) [nth b.arcs k]) = [] := by
    rw [List.filter_cons_of_neg (by simpa using h')]; rfl
  rw [this]; simp
theorem rK_0 {a b : Abs} {n lab : Int} {i : Nat} : rK a b n lab i 0 = [] := by unfold rK; split <;> simp
theorem rK_no {a b : Abs} {n lab : Int} {i k : Nat} (h : ¬ ((nth a.arcs i).fr = n / b.states ∧ (nth a.arcs i).lab = lab)) : rK a b n lab i k = [] := by unfold rK; rw [if_neg h]
theorem rK_len {a b : Abs} {n lab : Int} {i k : Nat} : (rK a b n lab i k).length ≤ b.arcs.length := by
  unfold rK
  split
  · have := List.length_filter_le (fun y : Arc => decide (y.fr = n % b.states ∧ y.lab = lab)) (b.arcs.take k)
    simp only [List.length_map, List.length_take] at *
    omega
  · simp
theorem rI_len {a b : Abs} {n lab : Int} {i : Nat} (hb : b.arcs.length ≤ 400) : (rI a b n lab i).length ≤ i * 400 := by
  have := fm_len (l := List.range i) (f := fun i' => rK a b n lab i' b.arcs.length) (n := 400) (fun x _ => Nat.le_trans rK_len hb)
  rw [List.length_range] at this; exact this
theorem rL_len {a b : Abs} {n : Int} {l : Nat} (ha : a.arcs.length ≤ 400) (hb : b.arcs.length ≤ 400) : (rL a b n l).length ≤ l * 160000 := by
  have := fm_len (l := List.range l) (f := fun lab : Nat => rI a b n lab a.arcs.length) (n := 160000) (fun x _ => Nat.le_trans (rI_len hb) (by omega))
  rw [List.length_range] at this; exact this
theorem rN_len {a b : Abs} {n : Nat} (ha : a.arcs.length ≤ 400) (hb : b.arcs.length ≤ 400) (hl : a.labels ≤ 40) : (rN a b n).length ≤ n * 6400000 := by
  have h40 : a.labels.toNat ≤ 40 := by omega
  have := fm_len (l := List.range n) (f := fun n' : Nat => rL a b n' a.labels.toNat) (n := 6400000) (fun x _ => Nat.le_trans (rL_len ha hb) (by omega))
  rw [List.length_range] at this; exact this
theorem mem_rK {a b : Abs} {n lab : Int} {i : Nat} {z : Arc} : z ∈ rK a b n lab i b.arcs.length ↔ ((nth a.arcs i).fr = n / b.states ∧ (nth a.arcs i).lab = lab) ∧ ∃ y, y ∈ b.arcs ∧ (y.fr = n % b.states ∧ y.lab = lab) ∧ z = ⟨n, lab, (nth a.arcs i).to * b.states + y.to⟩ := by
  unfold rK
  rw [List.take_length]
  split
  · rename_i h
    rw [List.mem_map]
    constructor
    · rintro ⟨y, hy, rfl⟩
      rw [List.mem_filter] at hy
      exact ⟨h, y, hy.1, by simpa using hy.2, rfl⟩
    · rintro ⟨_, y, hy, h2, rfl⟩
      exact ⟨y, List.mem_filter.2 ⟨hy, by simpa using h2⟩, rfl⟩
  · rename_i h
    constructor
    · intro hz; simp at hz
    · rintro ⟨h2, _⟩; exact absurd h2 h
theorem mem_rI {a b : Abs} {n lab : Int} {m : Nat} {z : Arc} : z ∈ rI a b n lab m ↔ ∃ i : Nat, i < m ∧ z ∈ rK a b n lab i b.arcs.length := by
  unfold rI; rw [List.mem_flatMap]; simp
theorem mem_rL {a b : Abs} {n : Int} {m : Nat} {z : Arc} : z ∈ rL a b n m ↔ ∃ l : Nat, l < m ∧ z ∈ rI a b n l a.arcs.length := by
  unfold rL; rw [List.mem_flatMap]; simp
theorem mem_rN {a b : Abs} {m : Nat} {z : Arc} : z ∈ rN a b m ↔ ∃ n : Nat, n < m ∧ z ∈ rL a b n a.labels.toNat := by
  unfold rN; rw [List.mem_flatMap]; simp
section
variable {a b : Abs} (h : PrdP a b)
include h
theorem rN_sorted {m : Nat} : (rN a b m).Pairwise arcLt := by
  have hrg : ∀ n : Nat, (List.range n).Pairwise (· < ·) := fun n => List.pairwise_lt_range
  have hsa : ∀ i j : Nat, i < j → j < a.arcs.length → arcLt (nth a.arcs i) (nth a.arcs j) := fun i j hij hj => by
    rw [nth_eq hj, nth_eq (by omega)]
    exact List.pairwise_iff_getElem.1 (absOk_sorted h.oa) i j (by omega) hj hij
  have hK : ∀ (n lab : Int) (i : Nat), (rK a b n lab i b.arcs.length).Pairwise arcLt := fun n lab i => by
    unfold rK
    rw [List.take_length]
    split
    · rw [List.pairwise_map]
      refine List.Pairwise.imp ?_ (List.Pairwise.and_mem.1 ((absOk_sorted h.ob).filter _))
      rintro y y' ⟨hy, hy', hlt⟩
      have e1 : y.fr = n % b.states ∧ y.lab = lab := by simpa using (List.mem_filter.1 hy).2
      have e2 : y'.fr = n % b.states ∧ y'.lab = lab := by simpa using (List.mem_filter.1 hy').2
      have hto : y.to < y'.to := by unfold arcLt at hlt; omega
      exact .inr ⟨rfl, .inr ⟨rfl, Int.add_lt_add_left hto _⟩⟩
    · simp
  have hI : ∀ (n lab : Int), (rI a b n lab a.arcs.length).Pairwise arcLt := fun n lab => by
    unfold rI
    rw [List.pairwise_flatMap]
    refine ⟨fun i _ => hK n lab i, List.Pairwise.imp ?_ (List.Pairwise.and_mem.1 (hrg _))⟩
    rintro i j ⟨hi, hj, hij⟩ z hz z' hz'
    rw [List.mem_range] at hi hj
    obtain ⟨q1, y, hy, q2, rfl⟩ := mem_rK.1 hz
    obtain ⟨q1', y', hy', q2', rfl⟩ := mem_rK.1 hz'
    have hlt := hsa i j hij hj
    have k1 := (mem_in h.ob hy).2.2
    have k2 := (mem_in h.ob hy').2.2
    have := pair_lt (x := (nth a.arcs i).to) (x' := (nth a.arcs j).to) k1 k2 (.inl (by unfold arcLt at hlt; omega))
    exact .inr ⟨rfl, .inr ⟨rfl, this⟩⟩
  have hL : ∀ n : Int, (rL a b n a.labels.toNat).Pairwise arcLt := fun n => by
    unfold rL
    rw [List.pairwise_flatMap]
    refine ⟨fun l _ => hI n l, List.Pairwise.imp ?_ (hrg _)⟩
    intro l l' hll z hz z' hz'
    obtain ⟨i, hi, hz⟩ := mem_rI.1 hz
    obtain ⟨i', hi', hz'⟩ := mem_rI.1 hz'
    obtain ⟨_, y, _, _, rfl⟩ := mem_rK.1 hz
    obtain ⟨_, y', _, _, rfl⟩ := mem_rK.1 hz'
    exact .inr ⟨rfl, .inl (by show (l : Int) < l'; omega)⟩
  unfold rN
  rw [List.pairwise_flatMap]
  refine ⟨fun n _ => hL n, List.Pairwise.imp ?_ (hrg _)⟩
  intro n n' hnn z hz z' hz'
  obtain ⟨l, hl, hz⟩ := mem_rL.1 hz
  obtain ⟨l', hl', hz'⟩ := mem_rL.1 hz'
  obtain ⟨i, hi, hz⟩ := mem_rI.1 hz
  obtain ⟨i', hi', hz'⟩ := mem_rI.1 hz'
  obtain ⟨_, y, _, _, rfl⟩ := mem_rK.1 hz
  obtain ⟨_, y', _, _, rfl⟩ := mem_rK.1 hz'
  exact .inl (by show (n : Int) < n'; omega)
theorem rN_end : rN a b (a.states * b.states).toNat = (timA a b).arcs := by
  refine arcs_uniq (rN_sorted h) sd_strict fun z => ?_
  rw [tim_mem, mem_rN]
  have hst := prd_st h
  have hsb := h.ob.head.1
  constructor
  · rintro ⟨n, hn, hz⟩
    obtain ⟨l, hl, hz⟩ := mem_rL.1 hz
    obtain ⟨i, hi, hz⟩ := mem_rI.1 hz
    obtain ⟨q1, y, hy, q2, rfl⟩ := mem_rK.1 hz
    refine ⟨nth a.arcs i, y, nth_mem (by omega) (by omega), hy, by rw [q1.2, q2.2], ?_⟩
    have hp := pair_of (n := (n : Int)) (r := a.states) (s := b.states) (by omega) (by omega) (by omega)
    unfold prA
    rw [q1.1, q2.1, q1.2, ← hp.1]
  · rintro ⟨x, y, hx, hy, hlab, rfl⟩
    have k1 := mem_in h.oa hx
    have k2 := mem_in h.ob hy
    obtain ⟨i, hi, rfl⟩ := List.getElem_of_mem hx
    have hp := pair_in k1.1 k2.1
    refine ⟨(a.arcs[i].fr * b.states + y.fr).toNat, by omega, mem_rL.2 ⟨a.arcs[i].lab.toNat, by omega, mem_rI.2 ⟨i, hi, mem_rK.2 ?_⟩⟩⟩
    have hd := pair_div (x := a.arcs[i].fr) k2.1.1 k2.1.2
    rw [Int.toNat_of_nonneg hp.1, Int.toNat_of_nonneg k1.2.1.1, nth_eq hi]
    exact ⟨⟨hd.1.symm, rfl⟩, y, hy, ⟨hd.2.symm, hlab.symm⟩, rfl⟩
/-- The goals, one number by one. -/
theorem gN_end : ((List.range (a.states * b.states).toNat).map fun n : Nat => (n : Int)).filter (fun n => decide (n / b.states ∈ a.goals ∧ n % b.states ∈ b.goals)) = (timA a b).goals := by
  have hst := prd_st h
  have hsb := h.ob.head.1
  refine pw_uniq (r := fun x y : Int => x < y) (fun x y => by omega) (List.Pairwise.filter _ (List.pairwise_map.2 (List.pairwise_lt_range.imp fun hlt => by omega))) (tim_goals_sorted h.oa h.ob) fun n => ?_
  rw [List.mem_filter, List.mem_map, tim_goal]
  constructor
  · rintro ⟨⟨m, hm, rfl⟩, hd⟩
    rw [List.mem_range] at hm
    have hd' : (m : Int) / b.states ∈ a.goals ∧ (m : Int) % b.states ∈ b.goals := by simpa using hd
    have hp := pair_of (n := (m : Int)) (r := a.states) (s := b.states) (by omega) (by omega) (by omega)
    exact ⟨_, _, hd'.1, hd'.2, hp.1⟩
  · rintro ⟨x, y, hx, hy, rfl⟩
    have k1 := setP_mem h.oa.goals hx
    have k2 := setP_mem h.ob.goals hy
    have hp := pair_in k1 k2
    have hd := pair_div (x := x) k2.1 k2.2
    refine ⟨⟨(x * b.states + y).toNat, List.mem_range.2 (by omega), Int.toNat_of_nonneg hp.1⟩, ?_⟩
    rw [hd.1, hd.2]
    simpa using ⟨hx, hy⟩
end
def gN (a b : Abs) (n : Nat) : List Int := ((List.range n).map fun n : Nat => (n : Int)).filter (fun n => decide (n / b.states ∈ a.goals ∧ n % b.states ∈ b.goals))
theorem gN_t {a b : Abs} {n : Nat} (h : (n : Int) / b.states ∈ a.goals ∧ (n : Int) % b.states ∈ b.goals) : gN a b n ++ [(n : Int)] = gN a b (n + 1) := by
  unfold gN; rw [List.range_succ, List.map_append, List.filter_append]; simp [h]
theorem gN_f {a b : Abs} {n : Nat} (h : ¬ ((n : Int) / b.states ∈ a.goals ∧ (n : Int) % b.states ∈ b.goals)) : gN a b n = gN a b (n + 1) := by
  unfold gN; rw [List.range_succ, List.map_append, List.filter_append]
  have : List.filter (fun n => decide (n / b.states ∈ a.goals ∧ n % b.states ∈ b.goals)) (List.map (fun n : Nat => (n : Int)) [n]) = [] := by
    show List.filter _ [(n : Int)] = []
    rw [List.filter_cons_of_neg (by simpa using h)]; rfl
  rw [this]; simp
theorem gN_len {a b : Abs} {n : Nat} : (gN a b n).length ≤ n := by
  unfold gN
  have := List.length_filter_le (fun n : Int => decide (n / b.states ∈ a.goals ∧ n % b.states ∈ b.goals)) ((List.range n).map fun n : Nat => (n : Int))
  simpa using this
theorem mul_in {x y : Int} (hx : 0 ≤ x ∧ x ≤ 60) (hy : 0 ≤ y ∧ y ≤ 60) : 0 ≤ x * y ∧ x * y ≤ 3600 := by
  have h1 := Int.mul_nonneg hx.1 hy.1
  have h2 : x * y ≤ 60 * y := Int.mul_le_mul_of_nonneg_right hx.2 hy.1
  omega
theorem mul_in2 {x y : Int} (hx : 0 ≤ x ∧ x ≤ 40) (hy : 0 ≤ y ∧ y ≤ 60) : 0 ≤ x * y ∧ x * y ≤ 2400 := by
  have h1 := Int.mul_nonneg hx.1 hy.1
  have h2 : x * y ≤ 40 * y := Int.mul_le_mul_of_nonneg_right hx.2 hy.1
  omega
theorem arc_self {a : Abs} {k : Nat} (hk : k < a.arcs.length) : (⟨(nth a.arcs k).fr, (nth a.arcs k).lab, (nth a.arcs k).to⟩ : Arc) ∈ a.arcs := nth_mem (l := a.arcs) (n := k) (by omega) (by omega)
/-! ### Distances in products -/
theorem prdR_rng {a b : Abs} : -9223372036854775808 ≤ (prdR a b).states ∧ (prdR a b).states ≤ 9223372036854775807 := by
  by_cases h : prdF a b = (0, 0)
  · rw [prdR_0 h]
    have h1 := prdF3_ok (prdF_inv h).1
    have := h1.st
    have := prd_st h1
    show -9223372036854775808 ≤ a.states * b.states ∧ a.states * b.states ≤ 9223372036854775807
    omega
  · rw [prdR_1 h]; decide
theorem aplR_rng {a : Abs} {to : List Int} (h : -9223372036854775808 ≤ a.states ∧ a.states ≤ 9223372036854775807) : -9223372036854775808 ≤ (aplR a to).states ∧ (aplR a to).states ≤ 9223372036854775807 := by
  by_cases h0 : aplF a to = (0, 0)
  · rw [aplR_0 h0]; exact h
  · rw [aplR_1 h0]; decide
theorem tri_mem {a : Abs} {c : List Int} (ha : AbsOk a) (hc : CostFor a c) {x : Arc} (hx : x ∈ a.arcs) : nth (distL a c) x.fr ≤ nth (distL a c) x.to + nth c x.lab := by
  obtain ⟨i, hi, rfl⟩ := List.getElem_of_mem hx
  have := distL_tri ha hc hi
  rwa [nth_eq hi] at this
section
variable {a b : Abs} {c : List Int} (h : PrdP a b)
include h
theorem cost_a (hc : CostFor (timA a b) c) : CostFor a c := hc
theorem cost_b (hc : CostFor (timA a b) c) : CostFor b c := ⟨hc.1.trans h.lab, hc.2⟩
theorem nS_tim : (nS (timA a b) : Int) = a.states * b.states := by
  have := prd_st h
  show ((a.states * b.states).toNat : Int) = _
  omega
theorem prd_closer (hl : (timA a b).arcs.length ≤ 400) (hc : CostFor (timA a b) c) {n : Int} (h0 : 0 ≤ n) (h1 : n < a.states * b.states) :
    nth (distL a c) (n / b.states) ≤ nth (distL (timA a b) c) n ∧ nth (distL b c) (n % b.states) ≤ nth (distL (timA a b) c) n := by
  have hp := prd_ok h hl
  have hn := nS_tim h
  have hb1 := h.ob.head.1
  have ha1 := h.oa.head.1
  have hca := cost_a h hc
  have hcb := cost_b h hc
  have na := nS_eq h.oa
  have nb := nS_eq h.ob
  have ga := distL_good h.oa hca
  have gb := distL_good h.ob hcb
  refine ⟨distL_ge hp hc (f := fun n => nth (distL a c) (n / b.states)) (fun x q0 q1 => ?_) (fun x q0 q1 hg => ?_) (fun i hi => ?_) h0 (by omega), distL_ge hp hc (f := fun n => nth (distL b c) (n % b.states)) (fun x q0 q1 => ?_) (fun x q0 q1 hg => ?_) (fun i hi => ?_) h0 (by omega)⟩
  · have hpo := pair_of (n := x) (r := a.states) (s := b.states) q0 (by omega) (by omega)
    exact (ga.2 _ hpo.2.1.1 (by omega)).2
  · obtain ⟨u, v, hu, hv, rfl⟩ := tim_goal.1 hg
    have k := setP_mem h.ob.goals hv
    have ku := setP_mem h.oa.goals hu
    simp only [(pair_div (x := u) k.1 k.2).1]
    rw [distL_goal h.oa hca ku.1 (by omega) hu]; exact Int.le_refl _
  · obtain ⟨u, v, hu, hv, hlab, he⟩ := tim_mem.1 (nth_mem (l := (timA a b).arcs) (n := i) (by omega) (by omega))
    have kv := mem_in h.ob hv
    simp only [he, prA, (pair_div (x := u.fr) kv.1.1 kv.1.2).1, (pair_div (x := u.to) kv.2.2.1 kv.2.2.2).1]
    exact tri_mem h.oa hca hu
  · have hpo := pair_of (n := x) (r := a.states) (s := b.states) q0 (by omega) (by omega)
    exact (gb.2 _ hpo.2.2.1 (by omega)).2
  · obtain ⟨u, v, hu, hv, rfl⟩ := tim_goal.1 hg
    have k := setP_mem h.ob.goals hv
    simp only [(pair_div (x := u) k.1 k.2).2]
    rw [distL_goal h.ob hcb k.1 (by omega) hv]; exact Int.le_refl _
  · obtain ⟨u, v, hu, hv, hlab, he⟩ := tim_mem.1 (nth_mem (l := (timA a b).arcs) (n := i) (by omega) (by omega))
    have kv := mem_in h.ob hv
    simp only [he, prA, (pair_div (x := u.fr) kv.1.1 kv.1.2).2, (pair_div (x := u.to) kv.2.2.1 kv.2.2.2).2, hlab]
    exact tri_mem h.ob hcb hv
theorem PrdP.symm : PrdP b a := ⟨h.ob, h.oa, h.lab.symm, by rw [Int.mul_comm]; exact h.st⟩
theorem sym_len : (timA a b).arcs.length ≤ (timA b a).arcs.length := by
  have hsw : ∀ x y, x ∈ a.arcs → y ∈ b.arcs → (⟨((prA b.states x y).fr % b.states) * a.states + (prA b.states x y).fr / b.states, (prA b.states x y).lab, ((prA b.states x y).to % b.states) * a.states + (prA b.states x y).to / b.states⟩ : Arc) = ⟨y.fr * a.states + x.fr, x.lab, y.to * a.states + x.to⟩ := fun x y hx hy => by
    have kv := mem_in h.ob hy
    simp only [prA, (pair_div (x := x.fr) kv.1.1 kv.1.2).1, (pair_div (x := x.to) kv.2.2.1 kv.2.2.2).1, (pair_div (x := x.fr) kv.1.1 kv.1.2).2, (pair_div (x := x.to) kv.2.2.1 kv.2.2.2).2]
  refine inj_le (fun z : Arc => (⟨(z.fr % b.states) * a.states + z.fr / b.states, z.lab, (z.to % b.states) * a.states + z.to / b.states⟩ : Arc)) (arcs_nodup sd_strict) (fun z hz => ?_) (fun z z' hz hz' he => ?_)
  · obtain ⟨x, y, hx, hy, hlab, rfl⟩ := tim_mem.1 hz
    simp only [hsw x y hx hy]
    exact tim_mem.2 ⟨y, x, hy, hx, hlab.symm, by unfold prA; rw [hlab]⟩
  · obtain ⟨x, y, hx, hy, hlab, rfl⟩ := tim_mem.1 hz
    obtain ⟨x', y', hx', hy', hlab', rfl⟩ := tim_mem.1 hz'
    simp only [hsw x y hx hy, hsw x' y' hx' hy', Arc.mk.injEq] at he
    obtain ⟨e1, e2, e3⟩ := he
    have kx := mem_in h.oa hx
    have kx' := mem_in h.oa hx'
    have d1 := pair_div (x := y.fr) kx.1.1 kx.1.2
    have d2 := pair_div (x := y.to) kx.2.2.1 kx.2.2.2
    have d1' := pair_div (x := y'.fr) kx'.1.1 kx'.1.2
    have d2' := pair_div (x := y'.to) kx'.2.2.1 kx'.2.2.2
    rw [e1] at d1
    rw [e3] at d2
    unfold prA
    rw [← d1.2, ← d1.1, ← d2.2, ← d2.1, d1'.1, d1'.2, d2'.1, d2'.2, e2]
theorem sym_glen : (timA a b).goals.length ≤ (timA b a).goals.length := by
  refine inj_le (fun z : Int => (z % b.states) * a.states + z / b.states) (List.Pairwise.imp (fun {x y} hxy he => by omega) (tim_goals_sorted h.oa h.ob)) (fun z hz => ?_) (fun z z' hz hz' he => ?_)
  · obtain ⟨x, y, hx, hy, rfl⟩ := tim_goal.1 hz
    have kv := setP_mem h.ob.goals hy
    simp only [(pair_div (x := x) kv.1 kv.2).1, (pair_div (x := x) kv.1 kv.2).2]
    exact tim_goal.2 ⟨y, x, hy, hx, rfl⟩
  · obtain ⟨x, y, hx, hy, rfl⟩ := tim_goal.1 hz
    obtain ⟨x', y', hx', hy', rfl⟩ := tim_goal.1 hz'
    have kv := setP_mem h.ob.goals hy
    have kv' := setP_mem h.ob.goals hy'
    have ku := setP_mem h.oa.goals hx
    have ku' := setP_mem h.oa.goals hx'
    simp only [(pair_div (x := x) kv.1 kv.2).1, (pair_div (x := x) kv.1 kv.2).2, (pair_div (x := x') kv'.1 kv'.2).1, (pair_div (x := x') kv'.1 kv'.2).2] at he
    have d1 := pair_div (x := y) ku.1 ku.2
    have d2 := pair_div (x := y') ku'.1 ku'.2
    rw [he] at d1
    rw [← d1.1, ← d1.2, d2.1, d2.2]
theorem sym_le (hl : (timA a b).arcs.length ≤ 400) (hc : CostFor (timA a b) c) (hl' : (timA b a).arcs.length ≤ 400) {x y : Int} (hx : 0 ≤ x ∧ x < a.states) (hy : 0 ≤ y ∧ y < b.states) :
    nth (distL (timA b a) c) (y * a.states + x) ≤ nth (distL (timA a b) c) (x * b.states + y) := by
  have hp := prd_ok h hl
  have hs := h.symm
  have hq := prd_ok hs hl'
  have hcq : CostFor (timA b a) c := show CostFor b c from cost_b h hc
  have hn := nS_tim h
  have hm := nS_tim hs
  have hb1 := h.ob.head.1
  have ha1 := h.oa.head.1
  have gq := distL_good hq hcq
  have hin := pair_in hx hy
  have := distL_ge hp hc (f := fun n => nth (distL (timA b a) c) ((n % b.states) * a.states + n / b.states)) (fun n q0 q1 => ?_) (fun n q0 q1 hg => ?_) (fun i hi => ?_) (x := x * b.states + y) hin.1 (by omega)
  · simp only [(pair_div (x := x) hy.1 hy.2).1, (pair_div (x := x) hy.1 hy.2).2] at this
    exact this
  · have hpo := pair_of (n := n) (r := a.states) (s := b.states) q0 (by omega) (by omega)
    have := pair_in hpo.2.2 hpo.2.1
    exact (gq.2 _ this.1 (by omega)).2
  · obtain ⟨u, v, hu, hv, rfl⟩ := tim_goal.1 hg
    have k := setP_mem h.ob.goals hv
    have ku := setP_mem h.oa.goals hu
    simp only [(pair_div (x := u) k.1 k.2).1, (pair_div (x := u) k.1 k.2).2]
    have := pair_in k ku
    rw [distL_goal hq hcq this.1 (by omega) (tim_goal.2 ⟨v, u, hv, hu, rfl⟩)]; exact Int.le_refl _
  · obtain ⟨u, v, hu, hv, hlab, he⟩ := tim_mem.1 (nth_mem (l := (timA a b).arcs) (n := i) (by omega) (by omega))
    have kv := mem_in h.ob hv
    simp only [he, prA, (pair_div (x := u.fr) kv.1.1 kv.1.2).1, (pair_div (x := u.to) kv.2.2.1 kv.2.2.2).1, (pair_div (x := u.fr) kv.1.1 kv.1.2).2, (pair_div (x := u.to) kv.2.2.1 kv.2.2.2).2]
    have hm2 : prA a.states v u ∈ (timA b a).arcs := tim_mem.2 ⟨v, u, hv, hu, hlab.symm, rfl⟩
    have := tri_mem hq hcq hm2
    simp only [prA, ← hlab] at this
    exact this
end
theorem prd_sym {a b : Abs} {c : List Int} (h0 : prdF a b = (0, 0)) (hd : adF (prdR a b) c = (0, 0)) : prdF b a = (0, 0) ∧ adF (prdR b a) c = (0, 0) ∧ (prdR a b).arcs.length = (prdR b a).arcs.length ∧ (prdR a b).goals.length = (prdR b a).goals.length ∧
    (0 ≤ (prdR a b).init ∧ (prdR a b).init < (adR (prdR a b) c).length) ∧ (0 ≤ (prdR b a).init ∧ (prdR b a).init < (adR (prdR b a) c).length) ∧ nth (adR (prdR a b) c) (prdR a b).init = nth (adR (prdR b a) c) (prdR b a).init := by
  obtain ⟨h3, hl⟩ := prdF_inv h0
  have h := prdF3_ok h3
  have hs := h.symm
  have e1 : (timA a b).arcs.length = (timA b a).arcs.length := Nat.le_antisymm (sym_len h) (sym_len hs)
  have hl' : (timA b a).arcs.length ≤ 400 := by omega
  have h0' := prdF_of hs hl'
  rw [prdR_0 h0] at *
  rw [prdR_0 h0'] at *
  obtain ⟨hp, hc, _, _⟩ := adF_ok (congrArg Prod.fst hd)
  have hcq : CostFor (timA b a) c := show CostFor b c from cost_b h hc
  have hq := prd_ok hs hl'
  have hd' : adF (timA b a) c = (0, 0) := by
    rw [← adF_1 (absFault_of hq)]
    exact (costFault_ok (costCode_0 hcq.1 hcq.2)).symm
  have ia := h.oa.head.2.2
  have ib := h.ob.head.2.2
  have l1 := (distL_good hp hc).1
  have l2 := (distL_good hq hcq).1
  have n1 := nS_tim h
  have n2 := nS_tim hs
  have p1 := pair_in ia ib
  have p2 := pair_in ib ia
  rw [adR_0 hd, adR_0 hd']
  refine ⟨h0', hd', e1, Nat.le_antisymm (sym_glen h) (sym_glen hs), ⟨p1.1, by rw [l1]; show a.init * b.states + b.init < _; omega⟩, ⟨p2.1, by rw [l2]; show b.init * a.states + a.init < _; omega⟩, ?_⟩
  exact Int.le_antisymm (sym_le hs hl' hcq hl ib ia) (sym_le h hl hc hl' ia ib)
theorem prd_len {a b : Abs} {c : List Int} (h0 : prdF a b = (0, 0)) (hd : adF (prdR a b) c = (0, 0)) : PrdP a b ∧ (absFault a = (0, 0) ∧ absFault b = (0, 0)) ∧ (adF a c = (0, 0) ∧ adF b c = (0, 0)) ∧ ((adR a c).length : Int) = a.states ∧ ((adR b c).length : Int) = b.states ∧ ((adR (prdR a b) c).length : Int) = a.states * b.states ∧
    ∀ n : Int, 0 ≤ n → n < a.states * b.states → nth (adR a c) (n / b.states) ≤ nth (adR (prdR a b) c) n ∧ nth (adR b c) (n % b.states) ≤ nth (adR (prdR a b) c) n := by
  obtain ⟨h3, hl⟩ := prdF_inv h0
  have h := prdF3_ok h3
  rw [prdR_0 h0] at *
  obtain ⟨hp, hc, _, _⟩ := adF_ok (congrArg Prod.fst hd)
  have hca := cost_a h hc
  have hcb := cost_b h hc
  have hda : adF a c = (0, 0) := by rw [← adF_1 (absFault_of h.oa)]; exact (costFault_ok (costCode_0 hca.1 hca.2)).symm
  have hdb : adF b c = (0, 0) := by rw [← adF_1 (absFault_of h.ob)]; exact (costFault_ok (costCode_0 hcb.1 hcb.2)).symm
  rw [adR_0 hd, adR_0 hda, adR_0 hdb]
  have na := nS_eq h.oa
  have nb := nS_eq h.ob
  have np := nS_tim h
  refine ⟨h, ⟨absFault_of h.oa, absFault_of h.ob⟩, ⟨hda, hdb⟩, by rw [(distL_good h.oa hca).1]; omega, by rw [(distL_good h.ob hcb).1]; omega, by rw [(distL_good hp hc).1]; omega, fun n q0 q1 => prd_closer h hl hc q0 q1⟩
/-! ### Exact label reduction -/
theorem red_apl {l : List Abs} {c : List Int} {ex : Int} (h : redF l c ex = (0, 0)) {k : Nat} (hk : k < l.length) : aplF (nth l k) (redL l c ex) = (0, 0) := by
  have hl := (redF_ok h).1
  obtain ⟨ha, hlab⟩ := (labF_ok hl).2.2.2 k hk
  have hlen : (redL l c ex).length = c.length := by rw [redL_0 h, redTo_len]
  refine aplF_ok (aplF1_ok (absFault_of ha) (by rw [hlen, hlab])) ?_
  rintro ⟨x, hx, hb⟩
  rw [redL_0 h] at hx
  obtain ⟨i, hi, rfl⟩ := List.getElem_of_mem hx
  rw [redTo_len] at hi
  have e : (redTo l c ex c.length)[i]'(by rw [redTo_len]; exact hi) = lowE l c ex i := by rw [← nth_eq]; exact redTo_at hi
  rw [e] at hb
  have := (lowE_ex l c ex i).1
  omega
theorem red_exact {a b : Abs} {c : List Int} {ex : Int} (h0 : prdF a b = (0, 0)) (hd : adF (prdR a b) c = (0, 0)) (hr : redF [a, b] c ex = (0, 0)) :
    aplF a (redL [a, b] c ex) = (0, 0) ∧ aplF b (redL [a, b] c ex) = (0, 0) ∧
    ((prdF (aplR a (redL [a, b] c ex)) (aplR b (redL [a, b] c ex))).1 ≠ 10 → prdF (aplR a (redL [a, b] c ex)) (aplR b (redL [a, b] c ex)) = (0, 0) ∧ adF (prdR (aplR a (redL [a, b] c ex)) (aplR b (redL [a, b] c ex))) c = (0, 0) ∧
      adR (prdR (aplR a (redL [a, b] c ex)) (aplR b (redL [a, b] c ex))) c = adR (prdR a b) c) := by
  have f1 : aplF a (redL [a, b] c ex) = (0, 0) := red_apl hr (k := 0) (by simp)
  have f2 : aplF b (redL [a, b] c ex) = (0, 0) := red_apl hr (k := 1) (by simp)
  refine ⟨f1, f2, ?_⟩
  rw [aplR_0 f1, aplR_0 f2]
  have hlow : ∀ x : Int, 0 ≤ x → x < c.length → nth (redL [a, b] c ex) x = lowE [a, b] c ex x.toNat := fun x q0 q1 => by
    rw [redL_0 hr]
    have := redTo_at (l := [a, b]) (c := c) (ex := ex) (k := c.length) (b := x.toNat) (by omega)
    rwa [Int.toNat_of_nonneg q0] at this
  have hEq : ∀ x : Int, 0 ≤ x → x < c.length → EqvP [a, b] c ex (nth (redL [a, b] c ex) x) x := fun x q0 q1 => by
    rw [hlow x q0 q1]
    have := (lowE_ex [a, b] c ex x.toNat).2.1
    rwa [Int.toNat_of_nonneg q0] at this
  generalize redL [a, b] c ex = to at *
  obtain ⟨h3, hl⟩ := prdF_inv h0
  have h := prdF3_ok h3
  rw [prdR_0 h0] at *
  obtain ⟨hp, hc, _, _⟩ := adF_ok (congrArg Prod.fst hd)
  have hcl : (c.length : Int) = a.labels := hc.1
  have oX := rel_ok f1
  have oY := rel_ok f2
  have hX : PrdP (relA a to) (relA b to) := ⟨oX, oY, h.lab, h.st⟩
  intro hne
  by_cases hbig : 400 < (timA (relA a to) (relA b to)).arcs.length
  · exact absurd (by rw [prdF_big hX hbig]) hne
  · have hl' : (timA (relA a to) (relA b to)).arcs.length ≤ 400 := by omega
    have h0' := prdF_of hX hl'
    rw [prdR_0 h0']
    have hq := prd_ok hX hl'
    have hcq : CostFor (timA (relA a to) (relA b to)) c := hc
    have hd' : adF (timA (relA a to) (relA b to)) c = (0, 0) := by rw [← adF_1 (absFault_of hq)]; exact (costFault_ok (costCode_0 hcq.1 hcq.2)).symm
    refine ⟨h0', hd', ?_⟩
    rw [adR_0 hd, adR_0 hd']
    refine distL_cong hq hcq hp hc rfl (fun x => Iff.rfl) fun e => ?_
    rw [edges_mem, edges_mem]
    have hla : ∀ x, x ∈ a.arcs → 0 ≤ x.lab ∧ x.lab < c.length := fun x hx => by have := (mem_in h.oa hx).2.1; omega
    have hlb : ∀ x, x ∈ b.arcs → 0 ≤ x.lab ∧ x.lab < c.length := fun x hx => by have := (mem_in h.ob hx).2.1; have := h.lab; omega
    constructor
    · rintro ⟨z, hz, rfl⟩
      obtain ⟨x', y', hx', hy', hlab, rfl⟩ := tim_mem.1 hz
      obtain ⟨x, hx, rfl⟩ := rel_mem.1 hx'
      obtain ⟨y, hy, rfl⟩ := rel_mem.1 hy'
      simp only at hlab
      have ex1 := hEq x.lab (hla x hx).1 (hla x hx).2
      have ey1 := hEq y.lab (hlb y hy).1 (hlb y hy).2
      have hxy : EqvP [a, b] c ex x.lab y.lab := (hlab ▸ ex1).symm.trans ey1
      by_cases hex : ex = 1
      · have he : endsL a x.lab = endsL a y.lab := hxy.2 0 (by simp) (by omega)
        have hm := (ends_eq h.oa).1 he x.fr x.to
        refine ⟨prA b.states ⟨x.fr, y.lab, x.to⟩ y, tim_mem.2 ⟨_, _, hm.1 hx, hy, rfl, rfl⟩, ?_⟩
        have hcc : nth c (nth to x.lab) = nth c y.lab := by rw [hlab]; exact ey1.1
        show (⟨_, _, nth c (nth to x.lab)⟩ : Edge) = ⟨_, _, nth c y.lab⟩
        rw [hcc]; rfl
      · have he : endsL b x.lab = endsL b y.lab := hxy.2 1 (by simp) (by omega)
        have hm := (ends_eq h.ob).1 he y.fr y.to
        refine ⟨prA b.states x ⟨y.fr, x.lab, y.to⟩, tim_mem.2 ⟨_, _, hx, hm.2 hy, rfl, rfl⟩, ?_⟩
        show (⟨_, _, nth c (nth to x.lab)⟩ : Edge) = ⟨_, _, nth c x.lab⟩
        rw [ex1.1]; rfl
    · rintro ⟨z, hz, rfl⟩
      obtain ⟨x, y, hx, hy, hlab, rfl⟩ := tim_mem.1 hz
      have ex1 := hEq x.lab (hla x hx).1 (hla x hx).2
      refine ⟨prA b.states ⟨x.fr, nth to x.lab, x.to⟩ ⟨y.fr, nth to y.lab, y.to⟩, tim_mem.2 ⟨_, _, rel_mem.2 ⟨x, hx, rfl⟩, rel_mem.2 ⟨y, hy, rfl⟩, by rw [hlab], rfl⟩, ?_⟩
      show (⟨_, _, nth c x.lab⟩ : Edge) = ⟨_, _, nth c (nth to x.lab)⟩
      rw [ex1.1]; rfl
theorem quoTo_lt {sizes : List Int} (h : SizesP sizes) {n : Int} (hn : 0 ≤ n) (hr : n < ranks sizes) : ∀ {j : Nat}, j ≤ sizes.length → quoTo sizes n j < ranksTo sizes (sizes.length - j)
  | 0, _ => hr
  | j + 1, hj => by
    have ih := quoTo_lt h hn hr (j := j) (by omega)
    have hz := h (sizes.length - 1 - j) (by omega)
    rw [show sizes.length - j = (sizes.length - (j + 1)) + 1 by omega] at ih
    simp only [ranksTo, quoTo] at ih ⊢
    rw [show sizes.length - (j + 1) = sizes.length - 1 - j by omega] at ih ⊢
    exact Int.ediv_lt_of_lt_mul (by omega) ih
theorem rank_unrank {sizes : List Int} (h : SizesP sizes) {n : Int} (hn : 0 ≤ n) (hr : n < ranks sizes) : rank sizes (unrank sizes n) = n := by
  have hl : (unrank sizes n).length = sizes.length := by simp [unrank]
  have key : ∀ k : Nat, k ≤ sizes.length → rankTo sizes (unrank sizes n) k = quoTo sizes n (sizes.length - k) := by
    intro k
    induction k with
    | zero =>
      intro _
      have h1 := quoTo_lt h hn hr (j := sizes.length) (Nat.le_refl _)
      have h2 := (quoTo_nn h hn (j := sizes.length) (Nat.le_refl _)).1
      rw [Nat.sub_self] at h1
      simp only [ranksTo] at h1
      simp only [rankTo, Nat.sub_zero]
      omega
    | succ k ih =>
      intro hk
      have ih := ih (by omega)
      have hz := h k (by omega)
      have hd : nth (unrank sizes n) k = quoTo sizes n (sizes.length - 1 - k) % nth sizes k := by
        rw [nth_eq (by rw [hl]; omega)]; simp [unrank, digit]
      have hq : quoTo sizes n (sizes.length - k) = quoTo sizes n (sizes.length - 1 - k) / nth sizes k := by
        rw [show sizes.length - k = (sizes.length - 1 - k) + 1 by omega]
        simp only [quoTo]
        rw [show sizes.length - 1 - (sizes.length - 1 - k) = k by omega]
      simp only [rankTo]
      rw [ih, hq, hd, show sizes.length - (k + 1) = sizes.length - 1 - k by omega, Int.mul_comm]
      exact Int.mul_ediv_add_emod _ _
  unfold rank
  rw [hl, key _ (Nat.le_refl _), Nat.sub_self]
  rfl
/-! ### The product of all variables -/
def prodA (m : Multi) : Nat → Abs
  | 0 => atomA m 0
  | k + 1 => timA (prodA m k) (atomA m (k + 1 : Nat))
def DetP (a : Abs) : Prop := ∀ x y, x ∈ a.arcs → y ∈ a.arcs → x.fr = y.fr → x.lab = y.lab → x = y
theorem det_tim {a b : Abs} (h : PrdP a b) (ha : DetP a) (hb : DetP b) : DetP (timA a b) := by
  intro z z' hz hz' h1 h2
  obtain ⟨x, y, hx, hy, hlab, rfl⟩ := tim_mem.1 hz
  obtain ⟨x', y', hx', hy', hlab', rfl⟩ := tim_mem.1 hz'
  have kv := mem_in h.ob hy
  have kv' := mem_in h.ob hy'
  have d := pair_div (x := x.fr) kv.1.1 kv.1.2
  have d' := pair_div (x := x'.fr) kv'.1.1 kv'.1.2
  simp only [prA] at h1 h2
  rw [h1] at d
  have e1 := ha x x' hx hx' (by rw [← d.1, d'.1]) h2
  have e2 := hb y y' hy hy' (by rw [← d.2, d'.2]) (by rw [← hlab, ← hlab', h2])
  rw [e1, e2]
theorem det_len {a : Abs} (hn : a.arcs.Pairwise arcLt) (hi : ∀ x, x ∈ a.arcs → arcIn a x) (hd : DetP a) : (a.arcs.length : Int) ≤ max 0 (a.states * a.labels) := by
  have h := inj_le (l' := (List.range (a.states * a.labels).toNat).map fun n : Nat => (n : Int)) (fun z : Arc => z.fr * a.labels + z.lab) (arcs_nodup hn) (fun z hz => ?_) (fun z z' hz hz' he => ?_)
  · simp only [List.length_map, List.length_range] at h
    omega
  · have hz := hi z hz
    have := pair_in hz.1 hz.2.1
    exact List.mem_map.2 ⟨(z.fr * a.labels + z.lab).toNat, List.mem_range.2 (by omega), Int.toNat_of_nonneg this.1⟩
  · have q := hi z hz
    have q' := hi z' hz'
    have d := pair_div (x := z.fr) q.2.1.1 q.2.1.2
    have d' := pair_div (x := z'.fr) q'.2.1.1 q'.2.1.2
    rw [he] at d
    exact hd z z' hz hz' (by rw [← d.1, d'.1]) (by rw [← d.2, d'.2])
theorem det_atom {m : Multi} {v : Int} : DetP (atomA m v) := by
  intro x y hx hy h1 h2
  have hx := mem_arcsTo.1 hx
  have hy := mem_arcsTo.1 hy
  exact arc_ext h1 h2 (by rw [hx.2.2.2.2.2, hy.2.2.2.2.2, h1, h2])
theorem rankTo_cong {sizes s s' : List Int} : ∀ {k : Nat}, (∀ v : Nat, v < k → nth s v = nth s' v) → rankTo sizes s k = rankTo sizes s' k
  | 0, _ => rfl
  | k + 1, h => by simp only [rankTo]; rw [rankTo_cong fun v hv => h v (by omega), h k (by omega)]
theorem holds_of {sizes s : List Int} {l : List Asg} (hl : AsgsP sizes l) (h : ∀ v : Nat, v < sizes.length → findA l v (nth s v) = nth s v) : holds s l = true := by
  rw [holds_mem]
  intro a ha
  have hin := asgsP_mem hl ha
  have hv := h a.1.toNat (by omega)
  rw [Int.toNat_of_nonneg hin.1] at hv
  rcases findA_cases (l := l) (v := a.1) (o := nth s a.1) with ⟨b, hb, hbv, e⟩ | ⟨hn, e⟩
  · have : b = a := sortedA_uniq (asgsP_sorted hl) hb ha hbv
    rw [← hv, e, this]
  · exact absurd rfl (hn a ha)
theorem state_set {sizes s : List Int} (hs : StateP sizes s) {k : Nat} (hk : k < sizes.length) {u : Int} (hu : 0 ≤ u ∧ u < nth sizes k) : StateP sizes (setI s k u) := by
  have hl := hs.1
  refine ⟨by simp [setI, hl], fun v hv => ?_⟩
  have hv' : v < s.length := by simpa [setI] using hv
  rw [nth_setI (by omega) (by omega) (by omega)]
  split
  · rename_i e; rw [e]; exact hu
  · exact hs.2 v hv'
theorem next_st {m : Multi} (hv : Valid m) {s : List Int} (hs : StateP m.sizes s) {j : Nat} (hj : j < m.ops.length) : StateP m.sizes (nextS s (nth m.ops j).post) := by
  have hop := hv.op j hj
  have hl : (nextS s (nth m.ops j).post).length = s.length := nextTo_len
  refine ⟨hl.trans hs.1, fun v hv' => ?_⟩
  have hlt : v < m.sizes.length := by have := hs.1; omega
  rw [next_find hop.2.1 hs.1 (by omega) (by omega)]
  have h1 := hs.2 v (by omega)
  exact findA_in hv (by omega) (by omega) hop.2.1 h1.1 h1.2
section
variable {m : Multi} (hv : Valid m)
include hv
/-- What the product of the first variables is. -/
structure PrdI (k : Nat) (a : Abs) : Prop where
  ok : a.arcs.length ≤ 400 → AbsOk a
  st : a.states = ranksTo m.sizes (k + 1)
  lab : a.labels = m.ops.length
  ini : a.init = rankTo m.sizes m.init (k + 1)
  goal : ∀ x, x ∈ a.goals ↔ ∃ s, StateP m.sizes s ∧ x = rankTo m.sizes s (k + 1) ∧ ∀ v : Nat, v < k + 1 → findA m.goal v (nth s v) = nth s v
  arc : ∀ z, z ∈ a.arcs ↔ ∃ s, StateP m.sizes s ∧ ∃ j : Nat, j < m.ops.length ∧ (∀ v : Nat, v < k + 1 → findA (nth m.ops j).pre v (nth s v) = nth s v) ∧ z = ⟨rankTo m.sizes s (k + 1), j, rankTo m.sizes (nextS s (nth m.ops j).post) (k + 1)⟩
  det : DetP a
  num : (a.arcs.length : Int) ≤ ranksTo m.sizes (k + 1) * m.ops.length
theorem prd_base : PrdI (m := m) 0 (prodA m 0) := by
  have hl := hv.len
  have h1 : (0 : Int) < m.sizes.length := by omega
  have hok := atom_ok hv (Int.le_refl 0) h1
  have hsz := size_in hv (Int.le_refl 0) h1
  have hrk : ∀ s : List Int, rankTo m.sizes s 1 = nth s (0 : Nat) := fun s => by simp [rankTo]
  have hset : ∀ x : Int, 0 ≤ x → x < nth m.sizes 0 → StateP m.sizes (setI m.init 0 x) ∧ nth (setI m.init 0 x) (0 : Nat) = x := fun x q0 q1 => by
    have hi := hv.init
    refine ⟨state_set (k := 0) hi (by omega) ⟨q0, q1⟩, ?_⟩
    rw [nth_setI (by omega) (by have := hi.1; omega) (by omega)]; simp
  have harc : ∀ z, z ∈ (prodA m 0).arcs ↔ ∃ s, StateP m.sizes s ∧ ∃ j : Nat, j < m.ops.length ∧ (∀ v : Nat, v < 0 + 1 → findA (nth m.ops j).pre v (nth s v) = nth s v) ∧ z = ⟨rankTo m.sizes s (0 + 1), j, rankTo m.sizes (nextS s (nth m.ops j).post) (0 + 1)⟩ := fun z => by
    show z ∈ arcsTo m 0 (nth m.sizes 0).toNat ↔ _
    rw [mem_arcsTo]
    constructor
    · rintro ⟨a1, a2, a3, a4, a5, a6⟩
      obtain ⟨hs, he⟩ := hset z.fr a1 (by omega)
      have hlab : ((z.lab.toNat : Nat) : Int) = z.lab := Int.toNat_of_nonneg a3
      have hjl : z.lab.toNat < m.ops.length := by omega
      refine ⟨_, hs, z.lab.toNat, hjl, fun v hv0 => ?_, ?_⟩
      · obtain rfl : v = 0 := by omega
        rw [he, hlab]; exact a5
      · refine arc_ext ?_ hlab.symm ?_
        · show z.fr = rankTo m.sizes _ 1
          rw [hrk, he]
        · show z.to = rankTo m.sizes _ 1
          rw [hrk, next_find (hv.op _ hjl).2.1 hs.1 (by omega) (by omega), he, hlab]; exact a6
    · rintro ⟨s, hs, j, hj, hp, rfl⟩
      have h0 := hs.2 0 (by have := hs.1; omega)
      simp only [Nat.zero_add, hrk]
      refine ⟨h0.1, by have h02 := h0.2; simp only [Int.natCast_zero, Int.ofNat_zero] at h02 ⊢; omega, by omega, by omega, hp 0 (by omega), ?_⟩
      exact next_find (hv.op j hj).2.1 hs.1 (by omega) (by omega)
  refine ⟨fun _ => hok, by simp [prodA, atomA, ranksTo], rfl, by simp [prodA, atomA, rankTo], fun x => ?_, harc, det_atom, ?_⟩
  · show x ∈ goalsTo m 0 (nth m.sizes 0).toNat ↔ _
    rw [mem_goalsTo]
    constructor
    · rintro ⟨a1, a2, a3⟩
      obtain ⟨hs, he⟩ := hset x a1 (by omega)
      refine ⟨_, hs, by show x = rankTo m.sizes _ 1; rw [hrk, he], fun v hv0 => ?_⟩
      obtain rfl : v = 0 := by omega
      rw [he]; exact a3
    · rintro ⟨s, hs, rfl, hp⟩
      have h0 := hs.2 0 (by have := hs.1; omega)
      simp only [Nat.zero_add, hrk]
      exact ⟨h0.1, by have h02 := h0.2; simp only [Int.natCast_zero, Int.ofNat_zero] at h02 ⊢; omega, hp 0 (by omega)⟩
  · have := det_len (a := prodA m 0) (absOk_sorted hok) (fun x hx => mem_in hok hx) det_atom
    have e : (prodA m 0).states * (prodA m 0).labels = ranksTo m.sizes (0 + 1) * m.ops.length := by simp [prodA, atomA, ranksTo]
    rw [e] at this
    have h1 := (ranksTo_in hv.sizes (k := 0 + 1) (by omega)).1
    have h2 : 0 ≤ ranksTo m.sizes (0 + 1) * (m.ops.length : Int) := Int.mul_nonneg (by omega) (by omega)
    omega
theorem ranksTo_mono {k : Nat} : ∀ {n : Nat}, k ≤ n → n ≤ m.sizes.length → ranksTo m.sizes k ≤ ranksTo m.sizes n
  | 0, h, _ => by obtain rfl : k = 0 := by omega
                  exact Int.le_refl _
  | n + 1, h, hn => by
    by_cases e : k = n + 1
    · subst e; exact Int.le_refl _
    · have ih := ranksTo_mono (k := k) (n := n) (by omega) (by omega)
      have h1 := (ranksTo_in hv.sizes (k := n) (by omega)).1
      have h2 := hv.sizes n (by omega)
      have := Int.mul_le_mul_of_nonneg_left h2.1 (show 0 ≤ ranksTo m.sizes n by omega)
      simp only [ranksTo]
      omega
theorem prd_P {k : Nat} {a : Abs} (hI : PrdI (m := m) k a) (ha : a.arcs.length ≤ 400) (hk : k + 1 < m.sizes.length) (hr : ranks m.sizes ≤ 60) : PrdP a (atomA m (k + 1 : Nat)) := by
  refine ⟨hI.ok ha, atom_ok hv (by omega) (by omega), hI.lab, ?_⟩
  show a.states * nth m.sizes (k + 1 : Nat) ≤ 60
  rw [hI.st]
  have := ranksTo_mono hv (k := k + 2) (n := m.sizes.length) (by omega) (Nat.le_refl _)
  unfold ranks at hr
  simp only [ranksTo] at this ⊢
  omega
theorem prd_step {k : Nat} {a : Abs} (hI : PrdI (m := m) k a) (ha : a.arcs.length ≤ 400) (hk : k + 1 < m.sizes.length) (hr : ranks m.sizes ≤ 60) : PrdI (m := m) (k + 1) (timA a (atomA m (k + 1 : Nat))) := by
  have hP := prd_P hv hI ha hk hr
  have hb := hP.ob
  have hsz : (atomA m (k + 1 : Nat)).states = nth m.sizes (k + 1 : Nat) := rfl
  have hset : ∀ (s : List Int), StateP m.sizes s → ∀ u : Int, 0 ≤ u → u < nth m.sizes (k + 1 : Nat) → StateP m.sizes (setI s (k + 1 : Nat) u) ∧ nth (setI s (k + 1 : Nat) u) (k + 1 : Nat) = u ∧ ∀ v : Nat, v < k + 1 → nth (setI s (k + 1 : Nat) u) v = nth s v := fun s hs u q0 q1 => by
    have hl := hs.1
    refine ⟨state_set hs hk ⟨q0, q1⟩, ?_, fun v hv' => ?_⟩
    · rw [nth_setI (by omega) (by omega) (by omega)]; simp
    · rw [nth_setI (by omega) (by omega) (by omega), if_neg (by omega)]
  have hdet := det_tim hP hI.det (det_atom (m := m) (v := (k + 1 : Nat)))
  refine ⟨fun h => prd_ok hP h, ?_, hI.lab, ?_, fun x => ?_, fun z => ?_, hdet, ?_⟩
  · show a.states * nth m.sizes (k + 1 : Nat) = _
    rw [hI.st]; rfl
  · show a.init * nth m.sizes (k + 1 : Nat) + nth m.init (k + 1 : Nat) = _
    rw [hI.ini]; rfl
  · rw [tim_goal]
    constructor
    · rintro ⟨x, y, hx, hy, rfl⟩
      obtain ⟨s, hs, rfl, hp⟩ := (hI.goal x).1 hx
      have hy := mem_goalsTo.1 hy
      obtain ⟨h1, h2, h3⟩ := hset s hs y hy.1 (by omega)
      refine ⟨_, h1, ?_, fun v hv' => ?_⟩
      · show _ = rankTo m.sizes _ (k + 1) * nth m.sizes (k + 1 : Nat) + nth _ (k + 1 : Nat)
        rw [h2, rankTo_cong h3, hsz]
      · by_cases e : v = k + 1
        · subst e; rw [h2]; exact hy.2.2
        · rw [h3 v (by omega)]; exact hp v (by omega)
    · rintro ⟨s, hs, rfl, hp⟩
      have hu := hs.2 (k + 1) (by have := hs.1; omega)
      exact ⟨rankTo m.sizes s (k + 1), nth s (k + 1 : Nat), (hI.goal _).2 ⟨s, hs, rfl, fun v hv' => hp v (by omega)⟩, mem_goalsTo.2 ⟨hu.1, by omega, hp (k + 1) (by omega)⟩, rfl⟩
  · rw [tim_mem]
    constructor
    · rintro ⟨x, y, hx, hy, hlab, rfl⟩
      obtain ⟨s, hs, j, hj, hp, rfl⟩ := (hI.arc x).1 hx
      obtain ⟨a1, a2, a3, a4, a5, a6⟩ := mem_arcsTo.1 hy
      simp only at hlab
      rw [← hlab] at a5 a6
      obtain ⟨h1, h2, h3⟩ := hset s hs y.fr a1 (by omega)
      have hop := hv.op j hj
      have hnx : ∀ v : Nat, v < k + 1 → nth (nextS (setI s (k + 1 : Nat) y.fr) (nth m.ops j).post) v = nth (nextS s (nth m.ops j).post) v := fun v hv' => by
        rw [next_find hop.2.1 h1.1 (by omega) (by omega), next_find hop.2.1 hs.1 (by omega) (by omega), h3 v hv']
      refine ⟨_, h1, j, hj, fun v hv' => ?_, ?_⟩
      · by_cases e : v = k + 1
        · subst e; rw [h2]; exact a5
        · rw [h3 v (by omega)]; exact hp v (by omega)
      · refine arc_ext ?_ rfl ?_
        · show _ = rankTo m.sizes _ (k + 1) * nth m.sizes (k + 1 : Nat) + nth _ (k + 1 : Nat)
          rw [h2, rankTo_cong h3]; rfl
        · show _ = rankTo m.sizes _ (k + 1) * nth m.sizes (k + 1 : Nat) + nth _ (k + 1 : Nat)
          rw [rankTo_cong hnx, next_find hop.2.1 h1.1 (by omega) (by omega), h2, ← a6]; rfl
    · rintro ⟨s, hs, j, hj, hp, rfl⟩
      have hu := hs.2 (k + 1) (by have := hs.1; omega)
      have hop := hv.op j hj
      refine ⟨⟨rankTo m.sizes s (k + 1), j, rankTo m.sizes (nextS s (nth m.ops j).post) (k + 1)⟩, ⟨nth s (k + 1 : Nat), j, findA (nth m.ops j).post (k + 1 : Nat) (nth s (k + 1 : Nat))⟩, (hI.arc _).2 ⟨s, hs, j, hj, fun v hv' => hp v (by omega), rfl⟩,
        mem_arcsTo.2 ⟨hu.1, by show nth s (k + 1 : Nat) < _; omega, by simp only; omega, by simp only; omega, hp (k + 1) (by omega), rfl⟩, rfl, ?_⟩
      refine arc_ext rfl rfl ?_
      show rankTo m.sizes _ (k + 1) * nth m.sizes (k + 1 : Nat) + nth _ (k + 1 : Nat) = _
      rw [next_find hop.2.1 hs.1 (by omega) (by omega)]; rfl
  · have := det_len (a := timA a (atomA m (k + 1 : Nat))) sd_strict (fun x hx => tim_arcIn hP.oa hb hP.lab hx) hdet
    have e : (timA a (atomA m (k + 1 : Nat))).states * (timA a (atomA m (k + 1 : Nat))).labels = ranksTo m.sizes (k + 1 + 1) * m.ops.length := by
      show a.states * nth m.sizes (k + 1 : Nat) * a.labels = _
      rw [hI.st, hI.lab]; rfl
    rw [e] at this
    have h1 := (ranksTo_in hv.sizes (k := k + 1 + 1) (by omega)).1
    have h2 : 0 ≤ ranksTo m.sizes (k + 1 + 1) * (m.ops.length : Int) := Int.mul_nonneg (by omega) (by omega)
    omega
/-- The distances of the whole product. -/
theorem prd_dist {a : Abs} {k : Nat} (hk : k + 1 = m.sizes.length) (hI : PrdI (m := m) k a) (ha : a.arcs.length ≤ 400) : adF a (costsL m) = (0, 0) ∧ adR a (costsL m) = costs m ∧ a.init = rank m.sizes m.init := by
  have hok := hI.ok ha
  have hc0 : CostFor (atomA m 0) (costsL m) := costsL_for hv (Int.le_refl 0) (by omega)
  have hc : CostFor a (costsL m) := ⟨by rw [hI.lab]; exact hc0.1, hc0.2⟩
  have hF : adF a (costsL m) = (0, 0) := by rw [← adF_1 (absFault_of hok)]; exact (costFault_ok (costCode_0 hc.1 hc.2)).symm
  have hin : m.init.length = m.sizes.length := hv.init.1
  refine ⟨hF, ?_, by rw [hI.ini, hk]; unfold rank; rw [hin]⟩
  rw [adR_0 hF]
  have hdg := distL_good hok hc
  have hcg := costs_good hv
  have hnS := nS_eq hok
  have hst : a.states = ranks m.sizes := by rw [hI.st, hk]; rfl
  have hnR : (nR m : Int) = ranks m.sizes := by have := ranks_in hv; unfold nR; omega
  have hrk : ∀ s, StateP m.sizes s → rank m.sizes s = rankTo m.sizes s (k + 1) := fun s hs => by unfold rank; rw [hs.1, hk]
  refine ext_get (by rw [hdg.1, hcg.1]; omega) fun i hi => ?_
  rw [hdg.1] at hi
  have hi2 : (i : Int) < ranks m.sizes := by omega
  have hus := unrank_state (n := (i : Int)) hv.sizes
  have hur : rank m.sizes (unrank m.sizes (i : Int)) = i := rank_unrank hv.sizes (by omega) hi2
  refine Int.le_antisymm ?_ ?_
  · have := costs_ge hv (f := fun s => nth (distL a (costsL m)) (rank m.sizes s)) (fun s hs => ?_) (fun s hs hh => ?_) (fun s hs j hj hpre => ?_) hus
    · simp only [hur] at this; exact this
    · have := rank_in hv.sizes hs
      exact (hdg.2 _ this.1 (by omega)).2
    · have hr := rank_in hv.sizes hs
      have : rank m.sizes s ∈ a.goals := (hI.goal _).2 ⟨s, hs, hrk s hs, fun v hv' => holds_find hv.goal hh⟩
      exact Int.le_of_eq (distL_goal hok hc hr.1 (by omega) this)
    · have hz := (hI.arc ⟨rankTo m.sizes s (k + 1), j, rankTo m.sizes (nextS s (nth m.ops j).post) (k + 1)⟩).2 ⟨s, hs, j, hj, fun v hv' => holds_find (hv.op j hj).1 hpre, rfl⟩
      have := tri_mem hok hc hz
      simp only [← hrk s hs, ← hrk _ (next_st hv hs hj), costsL_at hj] at this
      exact this
  · refine distL_ge hok hc (f := fun x => nth (costs m) x) (fun x q0 q1 => (hcg.2 x q0 (by omega)).2) (fun x q0 q1 hg => ?_) (fun i' hi' => ?_) (by omega) (by omega)
    · obtain ⟨s, hs, rfl, hp⟩ := (hI.goal x).1 hg
      rw [← hrk s hs]
      exact Int.le_of_eq (costs_goal hv hs (holds_of hv.goal fun v hv' => hp v (by omega)))
    · obtain ⟨s, hs, j, hj, hp, he⟩ := (hI.arc _).1 (nth_mem (l := a.arcs) (n := i') (by omega) (by omega))
      rw [he]
      simp only [← hrk s hs, ← hrk _ (next_st hv hs hj), costsL_at hj]
      exact costs_tri hv hs hj (holds_of (hv.op j hj).1 fun v hv' => hp v (by omega))
end
/-- The products so far. -/
def pOk (m : Multi) (v : Nat) : Prop := ∀ j : Nat, j < v → (prodA m j).arcs.length ≤ 400
instance (m : Multi) (v : Nat) : Decidable (pOk m v) := by unfold pOk; infer_instance
def pF (m : Multi) (v : Nat) : Int × Int := if pOk m v then (0, 0) else (10, -7)
def pR (m : Multi) (v : Nat) : Abs := if pOk m v then prodA m (v - 1) else absZ
theorem pF_ok {m : Multi} {v : Nat} (h : (pF m v).1 = 0) : pOk m v := by
  unfold pF at h
  split at h
  · assumption
  · cases h
section
variable {m : Multi} (hval : validate m = (0, 0)) (hr : ranks m.sizes ≤ 60)
include hval hr
theorem prodA_I : ∀ {k : Nat}, k < m.sizes.length → pOk m k → PrdI (m := m) k (prodA m k)
  | 0, _, _ => prd_base (valid_of hval)
  | k + 1, hk, h => prd_step (valid_of hval) (prodA_I (by omega) fun j hj => h j (by omega)) (h k (by omega)) hk hr
theorem atomR_v {v : Nat} (hv : v < m.sizes.length) : atomR m v = atomA m v ∧ atomF m v = (0, 0) := by
  have h := (atomF_0 (m := m) (v := v) hval (by omega)).1
  exact ⟨by unfold atomR; rw [if_pos h], h⟩
theorem pR_1 : atomR m 0 = pR m 1 ∧ atomF m 0 = pF m 1 := by
  have hv := valid_of hval
  have h := atomR_v hval hr (v := 0) (by have := hv.len; omega)
  have hok : pOk m 1 := fun j hj => by
    obtain rfl : j = 0 := by omega
    exact (atom_ok hv (Int.le_refl 0) (by have := hv.len; omega)).len
  refine ⟨h.1.trans ?_, h.2.trans ?_⟩
  · unfold pR; rw [if_pos hok]; rfl
  · unfold pF; rw [if_pos hok]
theorem pR_s {v : Nat} (h1 : 1 ≤ v) (hv : v < m.sizes.length) (h : pOk m v) : prdR (pR m v) (atomR m v) = pR m (v + 1) ∧ prdF (pR m v) (atomR m v) = pF m (v + 1) := by
  have hva := valid_of hval
  obtain ⟨k, rfl⟩ : ∃ k, v = k + 1 := ⟨v - 1, by omega⟩
  have hI := prodA_I hval hr (k := k) (by omega) (fun j hj => h j (by omega))
  have hP := prd_P hva hI (h k (by omega)) hv hr
  have e1 : pR m (k + 1) = prodA m k := by unfold pR; rw [if_pos h]; rfl
  rw [e1, (atomR_v hval hr hv).1]
  by_cases hb : (prodA m (k + 1)).arcs.length ≤ 400
  · have hok : pOk m (k + 1 + 1) := fun j hj => by
      by_cases e : j = k + 1
      · subst e; exact hb
      · exact h j (by omega)
    have h0 := prdF_of hP hb
    rw [h0, prdR_0 h0]
    unfold pR pF
    rw [if_pos hok, if_pos hok]
    exact ⟨rfl, rfl⟩
  · have hok : ¬ pOk m (k + 1 + 1) := fun hn => hb (hn (k + 1) (by omega))
    have h0 := prdF_big hP (by show 400 < (prodA m (k + 1)).arcs.length; omega)
    rw [h0, prdR_1 (by rw [h0]; decide)]
    unfold pR pF
    rw [if_neg hok, if_neg hok]
    exact ⟨rfl, rfl⟩
theorem pR_rng {v : Nat} (hv : v ≤ m.sizes.length) (h1 : 1 ≤ v) : -9223372036854775808 ≤ (pR m v).states ∧ (pR m v).states ≤ 9223372036854775807 := by
  by_cases h : pOk m v
  · have hI := prodA_I hval hr (k := v - 1) (by omega) (fun j hj => h j (by omega))
    have := (hI.ok (h (v - 1) (by omega))).head.1
    unfold pR; rw [if_pos h]; omega
  · unfold pR; rw [if_neg h]; decide
theorem pR_stop {v : Nat} (hv : v ≤ m.sizes.length) (h : (pF m v).1 ≠ 0) : pR m v = pR m m.sizes.length ∧ pF m v = pF m m.sizes.length := by
  have h1 : ¬ pOk m v := fun hn => by unfold pF at h; rw [if_pos hn] at h; exact h rfl
  have h2 : ¬ pOk m m.sizes.length := fun hn => h1 fun j hj => hn j (by omega)
  unfold pR pF
  rw [if_neg h1, if_neg h2, if_neg h1, if_neg h2]
  exact ⟨rfl, rfl⟩
/-- Too many arcs in a product: too many in the whole. -/
theorem pF_big (h : (pF m m.sizes.length).1 ≠ 0) : 400 < (m.ops.length : Int) * ranks m.sizes := by
  have hva := valid_of hval
  have h2 : ¬ pOk m m.sizes.length := fun hn => by unfold pF at h; rw [if_pos hn] at h; exact h rfl
  have key : ∀ n : Nat, n ≤ m.sizes.length → pOk m n ∨ ∃ j : Nat, j < n ∧ pOk m j ∧ 400 < (prodA m j).arcs.length := by
    intro n
    induction n with
    | zero => exact fun _ => .inl fun j hj => by omega
    | succ n ih =>
      intro hn
      rcases ih (by omega) with ho | ⟨j, q1, q2, q3⟩
      · by_cases hb : (prodA m n).arcs.length ≤ 400
        · refine .inl fun j hj => ?_
          by_cases e : j = n
          · subst e; exact hb
          · exact ho j (by omega)
        · exact .inr ⟨n, by omega, ho, by omega⟩
      · exact .inr ⟨j, by omega, q2, q3⟩
  rcases key _ (Nat.le_refl _) with ho | ⟨j, q1, q2, q3⟩
  · exact absurd ho h2
  · have hI := prodA_I hval hr q1 q2
    have h3 := ranksTo_mono hva (k := j + 1) (n := m.sizes.length) (by omega) (Nat.le_refl _)
    have h4 := Int.mul_le_mul_of_nonneg_right h3 (Int.natCast_nonneg m.ops.length)
    have h5 := hI.num
    unfold ranks
    rw [Int.mul_comm]
    omega
theorem pR_end (h : (pF m m.sizes.length).1 = 0) : adF (pR m m.sizes.length) (costsL m) = (0, 0) ∧ adR (pR m m.sizes.length) (costsL m) = costs m ∧ (pR m m.sizes.length).init = rank m.sizes m.init := by
  have hva := valid_of hval
  have ho := pF_ok h
  have hl := hva.len
  have hI := prodA_I hval hr (k := m.sizes.length - 1) (by omega) (fun j hj => ho j (by omega))
  have e1 : pR m m.sizes.length = prodA m (m.sizes.length - 1) := by unfold pR; rw [if_pos ho]
  rw [e1]
  exact prd_dist hva (by omega) hI (ho _ (by omega))
end
end Go.Eng
end
