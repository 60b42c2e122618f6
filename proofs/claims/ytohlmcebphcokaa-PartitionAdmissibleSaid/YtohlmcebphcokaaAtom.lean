/- Walks, written by gen.py out of hints. -/
import Derived.Test.YtohlmcebphcokaaTypes
import Derived.Test.YtohlmcebphcokaaLawProj
import Derived.Test.YtohlmcebphcokaaAbst
import Derived.Test.YtohlmcebphcokaaEngY2
set_option linter.unusedVariables false
set_option linter.unusedSimpArgs false
namespace Go.Proofs.Ytohlmcebphcokaa
open Go.Eng
set_option maxRecDepth 10000
set_option maxHeartbeats 1000000

theorem law_costsOf_does (m : Multi) (hl : m.ops.length ≤ 1000) : DoesO Try.prog 22 [multi m] 1 3 (((costsL m).map fun n => [D.v (.int .i64 n)])) := by
  refine DoesO.of_body Try.func22 rfl rfl (by simp) Try.call22 (fun w0 O0 => ?_)
  refine Tr.lenG (n := 0) (i := 0) rfl rfl (fun len0_0 => ?_)
  refine Tr.lenG (n := 0) (i := 1) rfl rfl (fun len0_1 => ?_)
  refine Tr.lenG (n := 0) (i := 2) rfl rfl (fun len0_2 => ?_)
  refine Tr.lenG (n := 0) (i := 3) rfl rfl (fun len0_3 => ?_)
  refine Tr.seq ?_
  refine Tr.region ?_
  refine TrOps.semM (OpSem.box 1 rfl rfl rfl rfl) rfl rfl (by decide) ?_
  refine TrOps.sem (OpSem.move (.inr rfl) rfl) rfl rfl (by decide) ?_
  refine TrOps.nil ?_
  refine At.seq ?_
  refine Tr.seq ?_
  refine Tr.region ?_
  refine TrOps.sem (OpSem.move (.inr rfl) rfl) rfl rfl (by decide) ?_
  refine TrOps.nil ?_
  refine At.seq ?_
  refine Tr.seq ?_
  refine Tr.seq ?_
  refine Tr.ownNil (n := 3) 3 1 3 rfl ?_
  refine Tr.region ?_
  refine TrOps.sem (OpSem.move (.inr rfl) rfl) rfl rfl (by decide) ?_
  refine TrOps.nil ?_
  refine At.seq ?_
  refine Tr.block ?_
  refine Tr.loop (X := Nat) (fun k => k ≤ m.ops.length) (fun k => [(1, .r 1 0), (3, .o 3), (4, I (k))]) (fun k => [(3, .own 1 3 ((costsTo m k).map fun n => [D.v (.int .i64 n)])), (1, .box [.d (ints m.sizes), .d (ints m.init), .d (asgs m.goal), .d (opsD m.ops)])]) (fun k => m.ops.length - k) 0 (by omega) ?_ ?_
  · exact .slot rfl (.refl _) <| .slot rfl (.refl _) <| .slot rfl (Le.of_eq (by simp)) <| .memEq rfl (by simp [costsTo]) <| .mem rfl <| .nil
  · rintro k hkl
    refine Tr.seq ?_
    refine Tr.seq ?_
    refine Tr.region ?_
    refine TrOps.sem (OpSem.move (.inl rfl) rfl) rfl rfl (by decide) ?_
    refine TrOps.sem (OpSem.fieldr rfl rfl fo26_3) rfl rfl (by decide) ?_
    refine TrOps.sem (OpSem.loadb1 rfl rfl rfl vs24 rfl) rfl rfl (by decide) ?_
    refine TrOps.sem (OpSem.lenL rfl rfl es24) rfl rfl (by decide) ?_
    refine TrOps.sem (OpSem.bin rfl rfl rfl blss) rfl rfl (by decide) ?_
    refine TrOps.nil ?_
    refine At.seq ?_
    refine Tr.cond rfl (fun c9 => ?_) (fun c9 => ?_)
    · have hk : k < m.ops.length := by simpa using c9
      refine Tr.skip ?_
      refine At.seq ?_
      refine Tr.seq ?_
      refine Tr.block ?_
      refine Tr.region ?_
      refine TrOps.sem (OpSem.move (.inl rfl) rfl) rfl rfl (by decide) ?_
      refine TrOps.sem (OpSem.fieldr rfl rfl fo26_3) rfl rfl (by decide) ?_
      refine TrOps.sem (OpSem.loadb1 rfl rfl rfl vs24 rfl) rfl rfl (by decide) ?_
      refine TrOps.sem (OpSem.move (.inl rfl) rfl) rfl rfl (by decide) ?_
      refine TrOps.sem (OpSem.idxL rfl rfl rfl es24 (by omega) (by omega)) rfl rfl (by decide) ?_
      refine TrOps.sem (OpSem.fieldp rfl rfl fo81_2) rfl rfl (by decide) ?_
      refine TrOps.sem (OpSem.load1 rfl rfl vs3 rfl) rfl rfl (by decide) ?_
      refine TrOps.sem (OpSem.buildSlice rfl rfl es22 ze22 rfl rfl (by decide) (by decide) rfl rfl) rfl rfl (by decide) ?_
      refine TrOps.append rfl rfl rfl (by decide) rfl rfl rfl es22 el22 zc3 rfl by3 (by simp [D.one, Value.oneCell']) (by simp [maxLen, costsTo_len]; omega) (by simp [costsTo_len]; omega) ?_
      refine TrOps.sem (OpSem.move (.inr rfl) rfl) rfl rfl (by decide) ?_
      refine TrOps.nil ?_
      refine At.block_normal ?_
      refine At.seq ?_
      refine Tr.region ?_
      refine TrOps.sem (OpSem.move (.inl rfl) rfl) rfl rfl (by decide) ?_
      refine TrOps.sem (OpSem.bin rfl rfl rfl (badd (by omega) (by omega))) rfl rfl (by decide) ?_
      refine TrOps.sem (OpSem.move (.inr rfl) rfl) rfl rfl (by decide) ?_
      refine TrOps.nil ?_
      refine At.again (k + 1) (by omega) ?_ (by omega)
      exact .slot rfl (.refl _) <| .slot rfl (.refl _) <| .slot rfl (Le.of_eq (by simp)) <| .memEq rfl (by simp [costsTo_s]) <| .mem rfl <| .nil
    · have hk : k = m.ops.length := by simp at c9; omega
      refine Tr.exit ?_
      refine At.pass_exit ?_
      refine At.pass_exit ?_
      refine At.block_same ?_
      refine At.seq ?_
      refine Tr.seq ?_
      refine Tr.region ?_
      refine TrOps.sem (OpSem.move (.inl rfl) rfl) rfl rfl (by decide) ?_
      refine TrOps.sem (OpSem.move (.inr rfl) rfl) rfl rfl (by decide) ?_
      refine TrOps.nil ?_
      refine At.seq ?_
      refine Tr.ret ?_
      exact At.retO2 rfl rfl rfl (by simp) (by rw [hk, costsTo_end])

theorem Q_Abstractions_does (a b : Abs) : Does Try.prog false 29 [absS a, absS b] (Bo (decide (a = b))) := by
  refine Does.of_body Try.func29 rfl rfl (by simp) Try.call29 (fun w0 O0 => ?_)
  refine Tr.lenG (n := 0) (i := 2) rfl rfl (fun len0_2 => ?_)
  refine Tr.lenG (n := 0) (i := 4) rfl rfl (fun len0_4 => ?_)
  refine Tr.lenG (n := 1) (i := 2) rfl rfl (fun len1_2 => ?_)
  refine Tr.lenG (n := 1) (i := 4) rfl rfl (fun len1_4 => ?_)
  refine Tr.seq ?_
  refine Tr.region ?_
  refine TrOps.semM (OpSem.box 2 rfl rfl rfl rfl) rfl rfl (by decide) ?_
  refine TrOps.semM (OpSem.box 3 rfl rfl rfl rfl) rfl rfl (by decide) ?_
  refine TrOps.sem (OpSem.move (.inr rfl) rfl) rfl rfl (by decide) ?_
  refine TrOps.nil ?_
  refine At.seq ?_
  refine Tr.seq ?_
  refine Tr.seq ?_
  refine Tr.region ?_
  refine TrOps.sem (OpSem.fieldr rfl rfl fo46_0) rfl rfl (by decide) ?_
  refine TrOps.sem (OpSem.loadb1 rfl rfl rfl vs3 rfl) rfl rfl (by decide) ?_
  refine TrOps.sem (OpSem.fieldr rfl rfl fo46_0) rfl rfl (by decide) ?_
  refine TrOps.sem (OpSem.loadb1 rfl rfl rfl vs3 rfl) rfl rfl (by decide) ?_
  refine TrOps.sem (OpSem.bin rfl rfl rfl bneq) rfl rfl (by decide) ?_
  refine TrOps.sem (OpSem.move (.inl rfl) rfl) rfl rfl (by decide) ?_
  refine TrOps.split (n := 11) rfl (fun c11 => ?_) (fun c11 => ?_)
  · refine TrOps.gF rfl rfl rfl rfl c11 rfl (by decide) ?_
    refine TrOps.gF rfl rfl rfl rfl c11 rfl (by decide) ?_
    refine TrOps.gF rfl rfl rfl rfl c11 rfl (by decide) ?_
    refine TrOps.gF rfl rfl rfl rfl c11 rfl (by decide) ?_
    refine TrOps.gF rfl rfl rfl rfl c11 rfl (by decide) ?_
    refine TrOps.sem (OpSem.pickT rfl rfl c11 rfl) rfl rfl (by decide) ?_
    refine TrOps.sem (OpSem.move (.inl rfl) rfl) rfl rfl (by decide) ?_
    refine TrOps.gF rfl rfl rfl rfl rfl rfl (by decide) ?_
    refine TrOps.gF rfl rfl rfl rfl rfl rfl (by decide) ?_
    refine TrOps.gF rfl rfl rfl rfl rfl rfl (by decide) ?_
    refine TrOps.gF rfl rfl rfl rfl rfl rfl (by decide) ?_
    refine TrOps.gF rfl rfl rfl rfl rfl rfl (by decide) ?_
    refine TrOps.sem (OpSem.pickT rfl rfl rfl rfl) rfl rfl (by decide) ?_
    refine TrOps.sem (OpSem.move (.inl rfl) rfl) rfl rfl (by decide) ?_
    refine TrOps.gF rfl rfl rfl rfl rfl rfl (by decide) ?_
    refine TrOps.gF rfl rfl rfl rfl rfl rfl (by decide) ?_
    refine TrOps.gF rfl rfl rfl rfl rfl rfl (by decide) ?_
    refine TrOps.gF rfl rfl rfl rfl rfl rfl (by decide) ?_
    refine TrOps.gF rfl rfl rfl rfl rfl rfl (by decide) ?_
    refine TrOps.gF rfl rfl rfl rfl rfl rfl (by decide) ?_
    refine TrOps.sem (OpSem.pickT rfl rfl rfl rfl) rfl rfl (by decide) ?_
    refine TrOps.sem (OpSem.move (.inl rfl) rfl) rfl rfl (by decide) ?_
    refine TrOps.gF rfl rfl rfl rfl rfl rfl (by decide) ?_
    refine TrOps.gF rfl rfl rfl rfl rfl rfl (by decide) ?_
    refine TrOps.gF rfl rfl rfl rfl rfl rfl (by decide) ?_
    refine TrOps.gF rfl rfl rfl rfl rfl rfl (by decide) ?_
    refine TrOps.gF rfl rfl rfl rfl rfl rfl (by decide) ?_
    refine TrOps.gF rfl rfl rfl rfl rfl rfl (by decide) ?_
    refine TrOps.gF rfl rfl rfl rfl rfl rfl (by decide) ?_
    refine TrOps.sem (OpSem.pickT rfl rfl rfl rfl) rfl rfl (by decide) ?_
    refine TrOps.nil ?_
    refine At.seq ?_
    refine Tr.condT rfl rfl ?_
    refine Tr.seq ?_
    refine Tr.region ?_
    refine TrOps.sem (OpSem.move (.inr rfl) rfl) rfl rfl (by decide) ?_
    refine TrOps.nil ?_
    refine At.seq ?_
    refine Tr.ret ?_
    refine At.pass_ret ?_
    exact At.ret rfl (.tmp rfl <| .nil) rfl (Le.bo (decide_eq_false (fun e => by subst e; simp at c11)).symm)
  · refine TrOps.gT rfl rfl rfl rfl c11 ?_
    refine TrOps.sem (OpSem.fieldr rfl rfl fo46_1) rfl rfl (by decide) ?_
    refine TrOps.gT rfl rfl rfl rfl c11 ?_
    refine TrOps.sem (OpSem.loadb1 rfl rfl rfl vs3 rfl) rfl rfl (by decide) ?_
    refine TrOps.gT rfl rfl rfl rfl c11 ?_
    refine TrOps.sem (OpSem.fieldr rfl rfl fo46_1) rfl rfl (by decide) ?_
    refine TrOps.gT rfl rfl rfl rfl c11 ?_
    refine TrOps.sem (OpSem.loadb1 rfl rfl rfl vs3 rfl) rfl rfl (by decide) ?_
    refine TrOps.gT rfl rfl rfl rfl c11 ?_
    refine TrOps.sem (OpSem.bin rfl rfl rfl bneq) rfl rfl (by decide) ?_
    refine TrOps.sem (OpSem.pickF rfl rfl c11 rfl) rfl rfl (by decide) ?_
    refine TrOps.sem (OpSem.move (.inl rfl) rfl) rfl rfl (by decide) ?_
    refine TrOps.split (n := 18) rfl (fun c18 => ?_) (fun c18 => ?_)
    · refine TrOps.gF rfl rfl rfl rfl c18 rfl (by decide) ?_
      refine TrOps.gF rfl rfl rfl rfl c18 rfl (by decide) ?_
      refine TrOps.gF rfl rfl rfl rfl c18 rfl (by decide) ?_
      refine TrOps.gF rfl rfl rfl rfl c18 rfl (by decide) ?_
      refine TrOps.gF rfl rfl rfl rfl c18 rfl (by decide) ?_
      refine TrOps.sem (OpSem.pickT rfl rfl c18 rfl) rfl rfl (by decide) ?_
      refine TrOps.sem (OpSem.move (.inl rfl) rfl) rfl rfl (by decide) ?_
      refine TrOps.gF rfl rfl rfl rfl rfl rfl (by decide) ?_
      refine TrOps.gF rfl rfl rfl rfl rfl rfl (by decide) ?_
      refine TrOps.gF rfl rfl rfl rfl rfl rfl (by decide) ?_
      refine TrOps.gF rfl rfl rfl rfl rfl rfl (by decide) ?_
      refine TrOps.gF rfl rfl rfl rfl rfl rfl (by decide) ?_
      refine TrOps.gF rfl rfl rfl rfl rfl rfl (by decide) ?_
      refine TrOps.sem (OpSem.pickT rfl rfl rfl rfl) rfl rfl (by decide) ?_
      refine TrOps.sem (OpSem.move (.inl rfl) rfl) rfl rfl (by decide) ?_
      refine TrOps.gF rfl rfl rfl rfl rfl rfl (by decide) ?_
      refine TrOps.gF rfl rfl rfl rfl rfl rfl (by decide) ?_
      refine TrOps.gF rfl rfl rfl rfl rfl rfl (by decide) ?_
      refine TrOps.gF rfl rfl rfl rfl rfl rfl (by decide) ?_
      refine TrOps.gF rfl rfl rfl rfl rfl rfl (by decide) ?_
      refine TrOps.gF rfl rfl rfl rfl rfl rfl (by decide) ?_
      refine TrOps.gF rfl rfl rfl rfl rfl rfl (by decide) ?_
      refine TrOps.sem (OpSem.pickT rfl rfl rfl rfl) rfl rfl (by decide) ?_
      refine TrOps.nil ?_
      refine At.seq ?_
      refine Tr.condT rfl rfl ?_
      refine Tr.seq ?_
      refine Tr.region ?_
      refine TrOps.sem (OpSem.move (.inr rfl) rfl) rfl rfl (by decide) ?_
      refine TrOps.nil ?_
      refine At.seq ?_
      refine Tr.ret ?_
      refine At.pass_ret ?_
      exact At.ret rfl (.tmp rfl <| .nil) rfl (Le.bo (decide_eq_false (fun e => by subst e; simp at c18)).symm)
    · refine TrOps.gT rfl rfl rfl rfl c18 ?_
      refine TrOps.sem (OpSem.fieldr rfl rfl fo46_3) rfl rfl (by decide) ?_
      refine TrOps.gT rfl rfl rfl rfl c18 ?_
      refine TrOps.sem (OpSem.loadb1 rfl rfl rfl vs3 rfl) rfl rfl (by decide) ?_
      refine TrOps.gT rfl rfl rfl rfl c18 ?_
      refine TrOps.sem (OpSem.fieldr rfl rfl fo46_3) rfl rfl (by decide) ?_
      refine TrOps.gT rfl rfl rfl rfl c18 ?_
      refine TrOps.sem (OpSem.loadb1 rfl rfl rfl vs3 rfl) rfl rfl (by decide) ?_
      refine TrOps.gT rfl rfl rfl rfl c18 ?_
      refine TrOps.sem (OpSem.bin rfl rfl rfl bneq) rfl rfl (by decide) ?_
      refine TrOps.sem (OpSem.pickF rfl rfl c18 rfl) rfl rfl (by decide) ?_
      refine TrOps.sem (OpSem.move (.inl rfl) rfl) rfl rfl (by decide) ?_
      refine TrOps.split (n := 25) rfl (fun c25 => ?_) (fun c25 => ?_)
      · refine TrOps.gF rfl rfl rfl rfl c25 rfl (by decide) ?_
        refine TrOps.gF rfl rfl rfl rfl c25 rfl (by decide) ?_
        refine TrOps.gF rfl rfl rfl rfl c25 rfl (by decide) ?_
        refine TrOps.gF rfl rfl rfl rfl c25 rfl (by decide) ?_
        refine TrOps.gF rfl rfl rfl rfl c25 rfl (by decide) ?_
        refine TrOps.gF rfl rfl rfl rfl c25 rfl (by decide) ?_
        refine TrOps.sem (OpSem.pickT rfl rfl c25 rfl) rfl rfl (by decide) ?_
        refine TrOps.sem (OpSem.move (.inl rfl) rfl) rfl rfl (by decide) ?_
        refine TrOps.gF rfl rfl rfl rfl rfl rfl (by decide) ?_
        refine TrOps.gF rfl rfl rfl rfl rfl rfl (by decide) ?_
        refine TrOps.gF rfl rfl rfl rfl rfl rfl (by decide) ?_
        refine TrOps.gF rfl rfl rfl rfl rfl rfl (by decide) ?_
        refine TrOps.gF rfl rfl rfl rfl rfl rfl (by decide) ?_
        refine TrOps.gF rfl rfl rfl rfl rfl rfl (by decide) ?_
        refine TrOps.gF rfl rfl rfl rfl rfl rfl (by decide) ?_
        refine TrOps.sem (OpSem.pickT rfl rfl rfl rfl) rfl rfl (by decide) ?_
        refine TrOps.nil ?_
        refine At.seq ?_
        refine Tr.condT rfl rfl ?_
        refine Tr.seq ?_
        refine Tr.region ?_
        refine TrOps.sem (OpSem.move (.inr rfl) rfl) rfl rfl (by decide) ?_
        refine TrOps.nil ?_
        refine At.seq ?_
        refine Tr.ret ?_
        refine At.pass_ret ?_
        exact At.ret rfl (.tmp rfl <| .nil) rfl (Le.bo (decide_eq_false (fun e => by subst e; simp at c25)).symm)
      · refine TrOps.gT rfl rfl rfl rfl c25 ?_
        refine TrOps.sem (OpSem.fieldr rfl rfl fo46_4) rfl rfl (by decide) ?_
        refine TrOps.gT rfl rfl rfl rfl c25 ?_
        refine TrOps.sem (OpSem.loadb1 rfl rfl rfl vs22 rfl) rfl rfl (by decide) ?_
        refine TrOps.gT rfl rfl rfl rfl c25 ?_
        refine TrOps.sem (OpSem.fieldr rfl rfl fo46_4) rfl rfl (by decide) ?_
        refine TrOps.gT rfl rfl rfl rfl c25 ?_
        refine TrOps.sem (OpSem.loadb1 rfl rfl rfl vs22 rfl) rfl rfl (by decide) ?_
        refine TrOps.gT rfl rfl rfl rfl c25 ?_
        refine TrOps.sem (OpSem.call0 (R_Ints_does a.goals b.goals) rfl rfl rfl rfl (Les.refl _)) rfl rfl (by decide) ?_
        refine TrOps.gT rfl rfl rfl rfl c25 ?_
        refine TrOps.sem (OpSem.not rfl rfl) rfl rfl (by decide) ?_
        refine TrOps.sem (OpSem.pickF rfl rfl c25 rfl) rfl rfl (by decide) ?_
        refine TrOps.sem (OpSem.move (.inl rfl) rfl) rfl rfl (by decide) ?_
        refine TrOps.split (n := 33) rfl (fun c33 => ?_) (fun c33 => ?_)
        · refine TrOps.gF rfl rfl rfl rfl c33 rfl (by decide) ?_
          refine TrOps.gF rfl rfl rfl rfl c33 rfl (by decide) ?_
          refine TrOps.gF rfl rfl rfl rfl c33 rfl (by decide) ?_
          refine TrOps.gF rfl rfl rfl rfl c33 rfl (by decide) ?_
          refine TrOps.gF rfl rfl rfl rfl c33 rfl (by decide) ?_
          refine TrOps.gF rfl rfl rfl rfl c33 rfl (by decide) ?_
          refine TrOps.gF rfl rfl rfl rfl c33 rfl (by decide) ?_
          refine TrOps.sem (OpSem.pickT rfl rfl c33 rfl) rfl rfl (by decide) ?_
          refine TrOps.nil ?_
          refine At.seq ?_
          refine Tr.condT rfl rfl ?_
          refine Tr.seq ?_
          refine Tr.region ?_
          refine TrOps.sem (OpSem.move (.inr rfl) rfl) rfl rfl (by decide) ?_
          refine TrOps.nil ?_
          refine At.seq ?_
          refine Tr.ret ?_
          refine At.pass_ret ?_
          exact At.ret rfl (.tmp rfl <| .nil) rfl (Le.bo (decide_eq_false (fun e => by subst e; simp at c33)).symm)
        · refine TrOps.gT rfl rfl rfl rfl c33 ?_
          refine TrOps.sem (OpSem.fieldr rfl rfl fo46_2) rfl rfl (by decide) ?_
          refine TrOps.gT rfl rfl rfl rfl c33 ?_
          refine TrOps.sem (OpSem.loadb1 rfl rfl rfl vs44 rfl) rfl rfl (by decide) ?_
          refine TrOps.gT rfl rfl rfl rfl c33 ?_
          refine TrOps.sem (OpSem.lenL rfl rfl es44) rfl rfl (by decide) ?_
          refine TrOps.gT rfl rfl rfl rfl c33 ?_
          refine TrOps.sem (OpSem.fieldr rfl rfl fo46_2) rfl rfl (by decide) ?_
          refine TrOps.gT rfl rfl rfl rfl c33 ?_
          refine TrOps.sem (OpSem.loadb1 rfl rfl rfl vs44 rfl) rfl rfl (by decide) ?_
          refine TrOps.gT rfl rfl rfl rfl c33 ?_
          refine TrOps.sem (OpSem.lenL rfl rfl es44) rfl rfl (by decide) ?_
          refine TrOps.gT rfl rfl rfl rfl c33 ?_
          refine TrOps.sem (OpSem.bin rfl rfl rfl bneq) rfl rfl (by decide) ?_
          refine TrOps.sem (OpSem.pickF rfl rfl c33 rfl) rfl rfl (by decide) ?_
          refine TrOps.nil ?_
          refine At.seq ?_
          refine Tr.cond rfl (fun c41 => ?_) (fun c41 => ?_)
          · refine Tr.seq ?_
            refine Tr.region ?_
            refine TrOps.sem (OpSem.move (.inr rfl) rfl) rfl rfl (by decide) ?_
            refine TrOps.nil ?_
            refine At.seq ?_
            refine Tr.ret ?_
            refine At.pass_ret ?_
            exact At.ret rfl (.tmp rfl <| .nil) rfl (Le.bo (decide_eq_false (fun e => by subst e; simp at c41)).symm)
          · have hl : a.arcs.length = b.arcs.length := by simp at c41; omega
            refine Tr.skip ?_
            refine At.seq ?_
            refine Tr.seq ?_
            refine Tr.seq ?_
            refine Tr.region ?_
            refine TrOps.sem (OpSem.move (.inr rfl) rfl) rfl rfl (by decide) ?_
            refine TrOps.nil ?_
            refine At.seq ?_
            refine Tr.block ?_
            refine Tr.loop (X := Nat) (fun k => k ≤ a.arcs.length ∧ ∀ i : Nat, i < k → nth a.arcs i = nth b.arcs i) (fun k => [(2, .r 2 0), (3, .r 3 0), (5, I (k))]) (fun k => [(2, .box [I (a.states), I (a.labels), .d (arcsD a.arcs), I (a.init), .d (ints a.goals)]), (3, .box [I (b.states), I (b.labels), .d (arcsD b.arcs), I (b.init), .d (ints b.goals)])]) (fun k => a.arcs.length - k) 0 ⟨by omega, by simp⟩ ?_ ?_
            · exact .slot rfl (.refl _) <| .slot rfl (.refl _) <| .slot rfl (Le.of_eq (by simp)) <| .mem rfl <| .mem rfl <| .nil
            · rintro k ⟨hkl, hinv⟩
              refine Tr.seq ?_
              refine Tr.seq ?_
              refine Tr.region ?_
              refine TrOps.sem (OpSem.move (.inl rfl) rfl) rfl rfl (by decide) ?_
              refine TrOps.sem (OpSem.fieldr rfl rfl fo46_2) rfl rfl (by decide) ?_
              refine TrOps.sem (OpSem.loadb1 rfl rfl rfl vs44 rfl) rfl rfl (by decide) ?_
              refine TrOps.sem (OpSem.lenL rfl rfl es44) rfl rfl (by decide) ?_
              refine TrOps.sem (OpSem.bin rfl rfl rfl blss) rfl rfl (by decide) ?_
              refine TrOps.nil ?_
              refine At.seq ?_
              refine Tr.cond rfl (fun c46 => ?_) (fun c46 => ?_)
              · have hk : k < a.arcs.length := by simpa using c46
                refine Tr.skip ?_
                refine At.seq ?_
                refine Tr.seq ?_
                refine Tr.block ?_
                refine Tr.seq ?_
                refine PC.start [] ?_
                refine PC.sem (OpSem.fieldr rfl rfl fo46_2) rfl rfl ?_
                refine PC.sem (OpSem.loadb1 rfl rfl rfl vs44 rfl) rfl rfl ?_
                refine PC.sem (OpSem.move (.inl rfl) rfl) rfl rfl ?_
                refine PC.sem (OpSem.idxL rfl rfl rfl es44 (by omega) (by omega)) rfl rfl ?_
                refine PC.sem (OpSem.loadN rfl rfl vs93 (by first | decide | simp) rfl) rfl rfl ?_
                refine PC.sem (OpSem.fieldr rfl rfl fo46_2) rfl rfl ?_
                refine PC.sem (OpSem.loadb1 rfl rfl rfl vs44 rfl) rfl rfl ?_
                refine PC.sem (OpSem.move (.inl rfl) rfl) rfl rfl ?_
                refine PC.sem (OpSem.idxL rfl rfl rfl es44 (by omega) (by omega)) rfl rfl ?_
                refine PC.sem (OpSem.loadN rfl rfl vs93 (by first | decide | simp) rfl) rfl rfl ?_
                refine PC.done0 mixed (by kernel_rfl) (by kernel_rfl) (by kernel_rfl) (by kernel_rfl) (by kernel_rfl) ?_
                refine TrOps.sem (OpSem.neS3 rfl rfl rfl io93) rfl rfl (by decide) ?_
                refine TrOps.nil ?_
                refine At.seq ?_
                refine Tr.cond rfl (fun c59 => ?_) (fun c59 => ?_)
                · refine Tr.seq ?_
                  refine Tr.region ?_
                  refine TrOps.sem (OpSem.move (.inr rfl) rfl) rfl rfl (by decide) ?_
                  refine TrOps.nil ?_
                  refine At.seq ?_
                  refine Tr.ret ?_
                  refine At.block_ret ?_
                  refine At.pass_ret ?_
                  refine At.pass_ret ?_
                  refine At.block_ret ?_
                  refine At.pass_ret ?_
                  exact At.ret rfl (.tmp rfl <| .nil) rfl (Le.bo (decide_eq_false (fun e => by subst e; simp at c59)).symm)
                · have hb : nth a.arcs k = nth b.arcs k := arc_ext (by simp at c59; exact c59.1) (by simp at c59; exact c59.2.1) (by simp at c59; exact c59.2.2)
                  refine Tr.skip ?_
                  refine At.block_normal ?_
                  refine At.seq ?_
                  refine Tr.region ?_
                  refine TrOps.sem (OpSem.move (.inl rfl) rfl) rfl rfl (by decide) ?_
                  refine TrOps.sem (OpSem.bin rfl rfl rfl (badd (by omega) (by omega))) rfl rfl (by decide) ?_
                  refine TrOps.sem (OpSem.move (.inr rfl) rfl) rfl rfl (by decide) ?_
                  refine TrOps.nil ?_
                  refine At.again (k + 1) ⟨by omega, all_succ hinv hb⟩ ?_ (by omega)
                  exact .slot rfl (.refl _) <| .slot rfl (.refl _) <| .slot rfl (Le.of_eq (by simp)) <| .mem rfl <| .mem rfl <| .nil
              · have hk : k = a.arcs.length := by simp at c46; omega
                refine Tr.exit ?_
                refine At.pass_exit ?_
                refine At.pass_exit ?_
                refine At.block_same ?_
                refine At.seq ?_
                refine Tr.seq ?_
                refine Tr.region ?_
                refine TrOps.sem (OpSem.move (.inr rfl) rfl) rfl rfl (by decide) ?_
                refine TrOps.nil ?_
                refine At.seq ?_
                refine Tr.ret ?_
                exact At.ret rfl (.tmp rfl <| .nil) rfl (Le.bo (decide_eq_true (abs_ext (by simpa using c11) (by simpa using c18) (ext_get (by simp at c41; omega) (by subst hk; exact hinv)) (by simpa using c25) (by simpa using c33))).symm)

theorem Q_AtomicOf_does (m : Multi) (v : Int) (hv : Valid m) (h0 : 0 ≤ v) (h1 : v < m.sizes.length) : Does Try.prog false 30 [multi m, I (v)] (absS (atomA m v)) := by
  have hol := hv.opsLen
  have hil := hv.init.1
  have hsz := size_in hv h0 h1
  have hv' := valid1 hv h0 h1
  have hpo : (projM m [v]).ops.length = m.ops.length := projM_ops
  refine Does.of_body Try.func30 rfl rfl (by simp) Try.call30 (fun w0 O0 => ?_)
  refine Tr.lenG (n := 0) (i := 0) rfl rfl (fun len0_0 => ?_)
  refine Tr.lenG (n := 0) (i := 1) rfl rfl (fun len0_1 => ?_)
  refine Tr.lenG (n := 0) (i := 2) rfl rfl (fun len0_2 => ?_)
  refine Tr.lenG (n := 0) (i := 3) rfl rfl (fun len0_3 => ?_)
  refine Tr.seq ?_
  refine Tr.region ?_
  refine TrOps.semM (OpSem.box 2 rfl rfl rfl rfl) rfl rfl (by decide) ?_
  refine TrOps.semM (OpSem.alloc 4 rfl zc46 rfl) rfl rfl (by decide) ?_
  refine TrOps.nil ?_
  refine At.seq ?_
  refine Tr.seq ?_
  refine Tr.region ?_
  refine TrOps.sem (OpSem.loadbN rfl rfl rfl vs26 (by first | decide | simp)) rfl rfl (by decide) ?_
  refine TrOps.sem (OpSem.move (.inl rfl) rfl) rfl rfl (by decide) ?_
  refine TrOps.sem (OpSem.buildSlice rfl rfl es22 ze22 rfl rfl (by decide) (by decide) rfl rfl) rfl rfl (by decide) ?_
  refine TrOps.sem (OpSem.call0 (Q_Projection_does m [v] hv (pat1 hv h0 h1)) rfl rfl rfl rfl (Les.refl _)) rfl rfl (by decide) ?_
  refine TrOps.semM (OpSem.alloc 5 rfl zc26 rfl) rfl rfl (by decide) ?_
  refine TrOps.storeb rfl rfl rfl rfl rfl rfl rfl vs26 (by first | decide | simp) ?_
  refine TrOps.nil ?_
  refine At.seq ?_
  refine Tr.seq ?_
  refine PC.start [] ?_
  refine PC.sem (OpSem.fieldr rfl rfl fo26_0) rfl rfl ?_
  refine PC.sem (OpSem.loadb1 rfl rfl rfl vs22 rfl) rfl rfl ?_
  refine PC.sem (OpSem.move (.inl rfl) rfl) rfl rfl ?_
  refine PC.sem (OpSem.idxL rfl rfl rfl es22 (by omega) (by omega)) rfl rfl ?_
  refine PC.sem (OpSem.load1 rfl rfl vs3 rfl) rfl rfl ?_
  refine PC.sem (OpSem.fieldr rfl rfl fo26_3) rfl rfl ?_
  refine PC.sem (OpSem.loadb1 rfl rfl rfl vs24 rfl) rfl rfl ?_
  refine PC.sem (OpSem.lenL rfl rfl es24) rfl rfl ?_
  refine PC.sem (OpSem.fieldr rfl rfl fo26_1) rfl rfl ?_
  refine PC.sem (OpSem.loadb1 rfl rfl rfl vs22 rfl) rfl rfl ?_
  refine PC.sem (OpSem.move (.inl rfl) rfl) rfl rfl ?_
  refine PC.sem (OpSem.idxL rfl rfl rfl es22 (by omega) (by omega)) rfl rfl ?_
  refine PC.sem (OpSem.load1 rfl rfl vs3 rfl) rfl rfl ?_
  refine PC.sem (OpSem.build rfl rfl pl46 zc46 rfl rfl) rfl rfl ?_
  refine PC.semM (OpSem.alloc 6 rfl zc46 rfl) rfl rfl ?_
  refine PC.done1 6 (.box [I (0), I (0), .d (.v (.slice none 0 0)), I (0), .d (.v (.slice none 0 0))]) mixed (by kernel_rfl) (by kernel_rfl) (by kernel_rfl) (by kernel_rfl) (by kernel_rfl) ?_
  refine TrOps.storeb rfl rfl rfl rfl rfl rfl rfl vs46 (by first | decide | simp) ?_
  refine TrOps.nil ?_
  refine At.seq ?_
  refine Tr.seq ?_
  refine Tr.seq ?_
  refine Tr.ownNilBox 91 6 4 1 3 rfl rfl rfl ?_
  refine Tr.ownNilBox 92 6 2 3 93 rfl rfl rfl ?_
  refine Tr.region ?_
  refine TrOps.sem (OpSem.move (.inr rfl) rfl) rfl rfl (by decide) ?_
  refine TrOps.nil ?_
  refine At.seq ?_
  refine Tr.block ?_
  refine Tr.loop (X := Nat) (fun k => k ≤ (nth m.sizes v).toNat) (fun k => [(4, .r 4 0), (5, .r 5 0), (6, .r 6 0), (7, I (k))]) (fun k => [(6, .box [I (nth m.sizes v), I (m.ops.length), .o 92, I (nth m.init v), .o 91]), (91, .own 1 3 ((goalsTo m v k).map fun n => [D.v (.int .i64 n)])), (92, .own 3 93 ((arcsTo m v k).map arcC)), (4, .box [I (0), I (0), .d (.v (.slice none 0 0)), I (0), .d (.v (.slice none 0 0))]), (5, .box [.d (ints ((projM m [v]).sizes)), .d (ints ((projM m [v]).init)), .d (asgs ((projM m [v]).goal)), .d (opsD ((projM m [v]).ops))])]) (fun k => (nth m.sizes v).toNat - k) 0 (by omega) ?_ ?_
  · exact .slot rfl (.refl _) <| .slot rfl (.refl _) <| .slot rfl (.refl _) <| .slot rfl (Le.of_eq (by simp)) <| .mem rfl <| .memEq rfl rfl <| .memEq rfl rfl <| .mem rfl <| .mem rfl <| .nil
  · rintro k hkl
    refine Tr.seq ?_
    refine Tr.seq ?_
    refine Tr.region ?_
    refine TrOps.sem (OpSem.move (.inl rfl) rfl) rfl rfl (by decide) ?_
    refine TrOps.sem (OpSem.fieldr rfl rfl fo46_0) rfl rfl (by decide) ?_
    refine TrOps.sem (OpSem.loadb1 rfl rfl rfl vs3 rfl) rfl rfl (by decide) ?_
    refine TrOps.sem (OpSem.bin rfl rfl rfl blss) rfl rfl (by decide) ?_
    refine TrOps.nil ?_
    refine At.seq ?_
    refine Tr.cond rfl (fun c31 => ?_) (fun c31 => ?_)
    · have hk : k < (nth m.sizes v).toNat := by simp at c31; omega
      have hgl := goalsTo_len (m := m) (v := v) (k := k)
      have hal := arcsTo_len (m := m) (v := v) (k := k)
      have hkm : k * m.ops.length ≤ 6 * 40 := Nat.mul_le_mul (by omega) hol
      have hst := state_one hv h0 h1 (x := (k : Int)) ⟨by omega, by omega⟩
      refine Tr.skip ?_
      refine At.seq ?_
      refine Tr.seq ?_
      refine Tr.block ?_
      refine Tr.cut [(4, .r 4 0), (5, .r 5 0), (6, .r 6 0), (7, I (k))] [(4, .box [I (0), I (0), .d (.v (.slice none 0 0)), I (0), .d (.v (.slice none 0 0))]), (5, .box [.d (ints ((projM m [v]).sizes)), .d (ints ((projM m [v]).init)), .d (asgs ((projM m [v]).goal)), .d (opsD ((projM m [v]).ops))]), (6, .box [I (nth m.sizes v), I (m.ops.length), .o 92, I (nth m.init v), .o 91]), (91, .own 1 3 ((goalsTo m v (k + 1)).map fun n => [D.v (.int .i64 n)])), (92, .own 3 93 ((arcsTo m v k).map arcC))] ?_ ?_
      · refine Tr.seq ?_
        refine Tr.region ?_
        refine TrOps.sem (OpSem.move (.inl rfl) rfl) rfl rfl (by decide) ?_
        refine TrOps.sem (OpSem.buildSlice rfl rfl es22 ze22 rfl rfl (by decide) (by decide) rfl rfl) rfl rfl (by decide) ?_
        refine TrOps.sem (OpSem.fieldr rfl rfl fo26_2) rfl rfl (by decide) ?_
        refine TrOps.sem (OpSem.loadb1 rfl rfl rfl vs23 rfl) rfl rfl (by decide) ?_
        refine TrOps.sem (OpSem.call0 (R_MultiHolds_does [(k : Int)] (projM m [v]).goal (one_asgs hv h0 h1 hv.goal)) rfl rfl rfl rfl (Les.refl _)) rfl rfl (by decide) ?_
        refine TrOps.nil ?_
        refine At.seq ?_
        refine Tr.cond rfl (fun c38 => ?_) (fun c38 => ?_)
        · have hg1 : findA m.goal v k = k := (holds_one hv h0 h1 hv.goal).1 c38
          refine Tr.region ?_
          refine TrOps.sem (OpSem.fieldr rfl rfl fo46_4) rfl rfl (by decide) ?_
          refine TrOps.sem (OpSem.loadb1 rfl rfl rfl vs22 rfl) rfl rfl (by decide) ?_
          refine TrOps.sem (OpSem.move (.inl rfl) rfl) rfl rfl (by decide) ?_
          refine TrOps.sem (OpSem.buildSlice rfl rfl es22 ze22 rfl rfl (by decide) (by decide) rfl rfl) rfl rfl (by decide) ?_
          refine TrOps.append rfl rfl rfl (by decide) rfl rfl rfl es22 el22 zc3 rfl by3 (by simp [D.one, Value.oneCell']) (by simp [maxLen]; omega) (by simp; omega) ?_
          refine TrOps.sem (OpSem.fieldr rfl rfl fo46_4) rfl rfl (by decide) ?_
          refine TrOps.storeb rfl rfl rfl rfl rfl rfl rfl vs22 (by first | decide | simp) ?_
          refine TrOps.nil ?_
          refine At.meet ?_
          exact .slot rfl (.refl _) <| .slot rfl (.refl _) <| .slot rfl (.refl _) <| .slot rfl (.refl _) <| .mem rfl <| .mem rfl <| .mem rfl <| .memEq rfl (by rw [goalsTo_t hg1]; simp) <| .memEq rfl rfl <| .nil
        · have hg1 : ¬ findA m.goal v k = k := fun h => by have e : holds [(k : Int)] (projM m [v]).goal = true := (holds_one hv h0 h1 hv.goal).2 h; rw [e] at c38; cases c38
          refine Tr.skip ?_
          refine At.meet ?_
          exact .slot rfl (.refl _) <| .slot rfl (.refl _) <| .slot rfl (.refl _) <| .slot rfl (.refl _) <| .mem rfl <| .mem rfl <| .mem rfl <| .memEq rfl (by rw [goalsTo_f hg1]) <| .memEq rfl rfl <| .nil
      · refine Tr.seq ?_
        refine Tr.region ?_
        refine TrOps.sem (OpSem.move (.inr rfl) rfl) rfl rfl (by decide) ?_
        refine TrOps.nil ?_
        refine At.seq ?_
        refine Tr.block ?_
        refine Tr.loop (X := Nat) (fun j => j ≤ m.ops.length) (fun j => [(4, .r 4 0), (5, .r 5 0), (6, .r 6 0), (7, I (k)), (8, I (j))]) (fun j => [(6, .box [I (nth m.sizes v), I (m.ops.length), .o 92, I (nth m.init v), .o 91]), (91, .own 1 3 ((goalsTo m v (k + 1)).map fun n => [D.v (.int .i64 n)])), (92, .own 3 93 ((arcsTo m v k ++ arcsIn m v k j).map arcC)), (4, .box [I (0), I (0), .d (.v (.slice none 0 0)), I (0), .d (.v (.slice none 0 0))]), (5, .box [.d (ints ((projM m [v]).sizes)), .d (ints ((projM m [v]).init)), .d (asgs ((projM m [v]).goal)), .d (opsD ((projM m [v]).ops))])]) (fun j => m.ops.length - j) 0 (by omega) ?_ ?_
        · exact .slot rfl (.refl _) <| .slot rfl (.refl _) <| .slot rfl (.refl _) <| .slot rfl (.refl _) <| .slot rfl (Le.of_eq (by simp)) <| .mem rfl <| .memEq rfl rfl <| .memEq rfl (by simp [arcsIn]) <| .mem rfl <| .mem rfl <| .nil
        · rintro j hjl
          refine Tr.seq ?_
          refine Tr.seq ?_
          refine Tr.region ?_
          refine TrOps.sem (OpSem.move (.inl rfl) rfl) rfl rfl (by decide) ?_
          refine TrOps.sem (OpSem.fieldr rfl rfl fo46_1) rfl rfl (by decide) ?_
          refine TrOps.sem (OpSem.loadb1 rfl rfl rfl vs3 rfl) rfl rfl (by decide) ?_
          refine TrOps.sem (OpSem.bin rfl rfl rfl blss) rfl rfl (by decide) ?_
          refine TrOps.nil ?_
          refine At.seq ?_
          refine Tr.cond rfl (fun c48 => ?_) (fun c48 => ?_)
          · have hj : j < m.ops.length := by simpa using c48
            have hil2 := arcsIn_len (m := m) (v := v) (x := k) (j := j)
            have hy0 := arcsY_0 hv h0 h1 (x := (k : Int)) ⟨by omega, by omega⟩ hj
            have hye := arcsY_end hv h0 h1 (x := (k : Int)) ⟨by omega, by omega⟩ hj
            refine Tr.skip ?_
            refine At.seq ?_
            refine Tr.seq ?_
            refine Tr.block ?_
            refine Tr.seq ?_
            refine Tr.region ?_
            refine TrOps.sem (OpSem.move (.inr rfl) rfl) rfl rfl (by decide) ?_
            refine TrOps.nil ?_
            refine At.seq ?_
            refine Tr.block ?_
            refine Tr.loop (X := Nat) (fun i => i ≤ (nth m.sizes v).toNat) (fun i => [(4, .r 4 0), (5, .r 5 0), (6, .r 6 0), (7, I (k)), (8, I (j)), (9, I (i))]) (fun i => [(6, .box [I (nth m.sizes v), I (m.ops.length), .o 92, I (nth m.init v), .o 91]), (91, .own 1 3 ((goalsTo m v (k + 1)).map fun n => [D.v (.int .i64 n)])), (92, .own 3 93 ((arcsTo m v k ++ arcsIn m v k j ++ arcsY m v k j i).map arcC)), (4, .box [I (0), I (0), .d (.v (.slice none 0 0)), I (0), .d (.v (.slice none 0 0))]), (5, .box [.d (ints ((projM m [v]).sizes)), .d (ints ((projM m [v]).init)), .d (asgs ((projM m [v]).goal)), .d (opsD ((projM m [v]).ops))])]) (fun i => (nth m.sizes v).toNat - i) 0 (by omega) ?_ ?_
            · exact .slot rfl (.refl _) <| .slot rfl (.refl _) <| .slot rfl (.refl _) <| .slot rfl (.refl _) <| .slot rfl (.refl _) <| .slot rfl (Le.of_eq (by simp)) <| .mem rfl <| .memEq rfl rfl <| .memEq rfl (by rw [hy0]; simp) <| .mem rfl <| .mem rfl <| .nil
            · rintro i hil
              refine Tr.seq ?_
              refine Tr.seq ?_
              refine Tr.region ?_
              refine TrOps.sem (OpSem.move (.inl rfl) rfl) rfl rfl (by decide) ?_
              refine TrOps.sem (OpSem.fieldr rfl rfl fo46_0) rfl rfl (by decide) ?_
              refine TrOps.sem (OpSem.loadb1 rfl rfl rfl vs3 rfl) rfl rfl (by decide) ?_
              refine TrOps.sem (OpSem.bin rfl rfl rfl blss) rfl rfl (by decide) ?_
              refine TrOps.nil ?_
              refine At.seq ?_
              refine Tr.cond rfl (fun c54 => ?_) (fun c54 => ?_)
              · have hi : i < (nth m.sizes v).toNat := by simp at c54; omega
                have hyl := arcsY_len (m := m) (v := v) (x := k) (j := j) (i := i)
                refine Tr.skip ?_
                refine At.seq ?_
                refine Tr.seq ?_
                refine Tr.block ?_
                refine Tr.seq ?_
                refine Tr.region ?_
                refine TrOps.sem (OpSem.move (.inl rfl) rfl) rfl rfl (by decide) ?_
                refine TrOps.sem (OpSem.buildSlice rfl rfl es22 ze22 rfl rfl (by decide) (by decide) rfl rfl) rfl rfl (by decide) ?_
                refine TrOps.sem (OpSem.fieldr rfl rfl fo26_3) rfl rfl (by decide) ?_
                refine TrOps.sem (OpSem.loadb1 rfl rfl rfl vs24 rfl) rfl rfl (by decide) ?_
                refine TrOps.sem (OpSem.move (.inl rfl) rfl) rfl rfl (by decide) ?_
                refine TrOps.sem (OpSem.idxL rfl rfl rfl es24 (by omega) (by omega)) rfl rfl (by decide) ?_
                refine TrOps.sem (OpSem.fieldp rfl rfl fo81_0) rfl rfl (by decide) ?_
                refine TrOps.sem (OpSem.load1 rfl rfl vs23 rfl) rfl rfl (by decide) ?_
                refine TrOps.sem (OpSem.call0 (R_MultiHolds_does [(k : Int)] (nth (projM m [v]).ops j).pre (op_asgs hv h0 h1 hj)) rfl rfl rfl rfl (Les.refl _)) rfl rfl (by decide) ?_
                refine TrOps.sem (OpSem.move (.inl rfl) rfl) rfl rfl (by decide) ?_
                refine TrOps.split (n := 66) rfl (fun c66 => ?_) (fun c66 => ?_)
                · have hpre := (holds_op hv h0 h1 hj (x := (k : Int))).1 c66
                  refine TrOps.gT rfl rfl rfl rfl c66 ?_
                  refine TrOps.sem (OpSem.loadbN rfl rfl rfl vs26 (by first | decide | simp)) rfl rfl (by decide) ?_
                  refine TrOps.gT rfl rfl rfl rfl c66 ?_
                  refine TrOps.sem (OpSem.move (.inl rfl) rfl) rfl rfl (by decide) ?_
                  refine TrOps.gT rfl rfl rfl rfl c66 ?_
                  refine TrOps.sem (OpSem.buildSlice rfl rfl es22 ze22 rfl rfl (by decide) (by decide) rfl rfl) rfl rfl (by decide) ?_
                  refine TrOps.gT rfl rfl rfl rfl c66 ?_
                  refine TrOps.sem (OpSem.move (.inl rfl) rfl) rfl rfl (by decide) ?_
                  refine TrOps.gT rfl rfl rfl rfl c66 ?_
                  refine TrOps.sem (OpSem.call0 (R_MultiAfter_does (projM m [v]) [(k : Int)] j hv' hst (by omega) (by omega)).fresh rfl rfl rfl rfl (Les.refl _)) rfl rfl (by decide) ?_
                  refine TrOps.gT rfl rfl rfl rfl c66 ?_
                  refine TrOps.sem (OpSem.idxL rfl rfl rfl es22 (by decide) (by rw [next_op hv h0 h1 hj]; simp)) rfl rfl (by decide) ?_
                  refine TrOps.gT rfl rfl rfl rfl c66 ?_
                  refine TrOps.sem (OpSem.load1 rfl rfl vs3 rfl) rfl rfl (by decide) ?_
                  refine TrOps.gT rfl rfl rfl rfl c66 ?_
                  refine TrOps.sem (OpSem.move (.inl rfl) rfl) rfl rfl (by decide) ?_
                  refine TrOps.gT rfl rfl rfl rfl c66 ?_
                  refine TrOps.sem (OpSem.bin rfl rfl rfl beql) rfl rfl (by decide) ?_
                  refine TrOps.sem (OpSem.pickT rfl rfl c66 rfl) rfl rfl (by decide) ?_
                  refine TrOps.nil ?_
                  refine At.seq ?_
                  refine Tr.cond rfl (fun c76 => ?_) (fun c76 => ?_)
                  · have hYn := arcsY_t (i := i) hpre (by rw [next_op hv h0 h1 hj] at c76; simpa [nth] using c76)
                    refine Tr.region ?_
                    refine TrOps.sem (OpSem.fieldr rfl rfl fo46_2) rfl rfl (by decide) ?_
                    refine TrOps.sem (OpSem.loadb1 rfl rfl rfl vs44 rfl) rfl rfl (by decide) ?_
                    refine TrOps.sem (OpSem.move (.inl rfl) rfl) rfl rfl (by decide) ?_
                    refine TrOps.sem (OpSem.move (.inl rfl) rfl) rfl rfl (by decide) ?_
                    refine TrOps.sem (OpSem.move (.inl rfl) rfl) rfl rfl (by decide) ?_
                    refine TrOps.sem (OpSem.build rfl rfl pl93 zc93 rfl rfl) rfl rfl (by decide) ?_
                    refine TrOps.sem (OpSem.buildSlice rfl rfl es44 ze44 rfl rfl (by decide) (by decide) rfl rfl) rfl rfl (by decide) ?_
                    refine TrOps.append rfl rfl rfl (by decide) rfl rfl rfl es44 el44 zc93 rfl by93 (by simp [D.one, Value.oneCell']) (by simp [maxLen]; omega) (by simp; omega) ?_
                    refine TrOps.sem (OpSem.fieldr rfl rfl fo46_2) rfl rfl (by decide) ?_
                    refine TrOps.storeb rfl rfl rfl rfl rfl rfl rfl vs44 (by first | decide | simp) ?_
                    refine TrOps.nil ?_
                    refine At.block_normal ?_
                    refine At.seq ?_
                    refine Tr.region ?_
                    refine TrOps.sem (OpSem.move (.inl rfl) rfl) rfl rfl (by decide) ?_
                    refine TrOps.sem (OpSem.bin rfl rfl rfl (badd (by omega) (by omega))) rfl rfl (by decide) ?_
                    refine TrOps.sem (OpSem.move (.inr rfl) rfl) rfl rfl (by decide) ?_
                    refine TrOps.nil ?_
                    refine At.again (i + 1) (by omega) ?_ (by omega)
                    exact .slot rfl (.refl _) <| .slot rfl (.refl _) <| .slot rfl (.refl _) <| .slot rfl (.refl _) <| .slot rfl (.refl _) <| .slot rfl (Le.of_eq (by simp)) <| .mem rfl <| .memEq rfl rfl <| .memEq rfl (by rw [hYn]; simp) <| .mem rfl <| .mem rfl <| .nil
                  · have hYn := arcsY_n (m := m) (v := v) (x := k) (j := j) (i := i) (fun h => by rw [next_op hv h0 h1 hj] at c76; simp [nth] at c76; exact c76 h.2)
                    refine Tr.skip ?_
                    refine At.block_normal ?_
                    refine At.seq ?_
                    refine Tr.region ?_
                    refine TrOps.sem (OpSem.move (.inl rfl) rfl) rfl rfl (by decide) ?_
                    refine TrOps.sem (OpSem.bin rfl rfl rfl (badd (by omega) (by omega))) rfl rfl (by decide) ?_
                    refine TrOps.sem (OpSem.move (.inr rfl) rfl) rfl rfl (by decide) ?_
                    refine TrOps.nil ?_
                    refine At.again (i + 1) (by omega) ?_ (by omega)
                    exact .slot rfl (.refl _) <| .slot rfl (.refl _) <| .slot rfl (.refl _) <| .slot rfl (.refl _) <| .slot rfl (.refl _) <| .slot rfl (Le.of_eq (by simp)) <| .mem rfl <| .memEq rfl rfl <| .memEq rfl (by rw [hYn]) <| .mem rfl <| .mem rfl <| .nil
                · have hYn := arcsY_n (m := m) (v := v) (x := k) (j := j) (i := i) (fun h => by rw [(holds_op hv h0 h1 hj (x := (k : Int))).2 h.1] at c66; cases c66)
                  refine TrOps.gF rfl rfl rfl rfl c66 rfl (by decide) ?_
                  refine TrOps.gF rfl rfl rfl rfl c66 rfl (by decide) ?_
                  refine TrOps.gF rfl rfl rfl rfl c66 rfl (by decide) ?_
                  refine TrOps.gF rfl rfl rfl rfl c66 rfl (by decide) ?_
                  refine TrOps.gF rfl rfl rfl rfl c66 rfl (by decide) ?_
                  refine TrOps.gF rfl rfl rfl rfl c66 rfl (by decide) ?_
                  refine TrOps.gF rfl rfl rfl rfl c66 rfl (by decide) ?_
                  refine TrOps.gF rfl rfl rfl rfl c66 rfl (by decide) ?_
                  refine TrOps.gF rfl rfl rfl rfl c66 rfl (by decide) ?_
                  refine TrOps.sem (OpSem.pickF rfl rfl c66 rfl) rfl rfl (by decide) ?_
                  refine TrOps.nil ?_
                  refine At.seq ?_
                  refine Tr.condF rfl rfl ?_
                  refine Tr.skip ?_
                  refine At.block_normal ?_
                  refine At.seq ?_
                  refine Tr.region ?_
                  refine TrOps.sem (OpSem.move (.inl rfl) rfl) rfl rfl (by decide) ?_
                  refine TrOps.sem (OpSem.bin rfl rfl rfl (badd (by omega) (by omega))) rfl rfl (by decide) ?_
                  refine TrOps.sem (OpSem.move (.inr rfl) rfl) rfl rfl (by decide) ?_
                  refine TrOps.nil ?_
                  refine At.again (i + 1) (by omega) ?_ (by omega)
                  exact .slot rfl (.refl _) <| .slot rfl (.refl _) <| .slot rfl (.refl _) <| .slot rfl (.refl _) <| .slot rfl (.refl _) <| .slot rfl (Le.of_eq (by simp)) <| .mem rfl <| .memEq rfl rfl <| .memEq rfl (by rw [hYn]) <| .mem rfl <| .mem rfl <| .nil
              · have hi : i = (nth m.sizes v).toNat := by simp at c54; omega
                refine Tr.exit ?_
                refine At.pass_exit ?_
                refine At.pass_exit ?_
                refine At.block_same ?_
                refine At.block_normal ?_
                refine At.seq ?_
                refine Tr.region ?_
                refine TrOps.sem (OpSem.move (.inl rfl) rfl) rfl rfl (by decide) ?_
                refine TrOps.sem (OpSem.bin rfl rfl rfl (badd (by omega) (by omega))) rfl rfl (by decide) ?_
                refine TrOps.sem (OpSem.move (.inr rfl) rfl) rfl rfl (by decide) ?_
                refine TrOps.nil ?_
                refine At.again (j + 1) (by omega) ?_ (by omega)
                exact .slot rfl (.refl _) <| .slot rfl (.refl _) <| .slot rfl (.refl _) <| .slot rfl (.refl _) <| .slot rfl (Le.of_eq (by simp)) <| .mem rfl <| .memEq rfl rfl <| .memEq rfl (by rw [hye, ← hi]; simp) <| .mem rfl <| .mem rfl <| .nil
          · have hj : j = m.ops.length := by simp at c48; omega
            subst hj
            refine Tr.exit ?_
            refine At.pass_exit ?_
            refine At.pass_exit ?_
            refine At.block_same ?_
            refine At.block_normal ?_
            refine At.seq ?_
            refine Tr.region ?_
            refine TrOps.sem (OpSem.move (.inl rfl) rfl) rfl rfl (by decide) ?_
            refine TrOps.sem (OpSem.bin rfl rfl rfl (badd (by omega) (by omega))) rfl rfl (by decide) ?_
            refine TrOps.sem (OpSem.move (.inr rfl) rfl) rfl rfl (by decide) ?_
            refine TrOps.nil ?_
            refine At.again (k + 1) (by omega) ?_ (by omega)
            exact .slot rfl (.refl _) <| .slot rfl (.refl _) <| .slot rfl (.refl _) <| .slot rfl (Le.of_eq (by simp)) <| .mem rfl <| .memEq rfl rfl <| .memEq rfl rfl <| .mem rfl <| .mem rfl <| .nil
    · have hk : k = (nth m.sizes v).toNat := by simp at c31; omega
      refine Tr.exit ?_
      refine At.pass_exit ?_
      refine At.pass_exit ?_
      refine At.block_same ?_
      refine At.seq ?_
      refine Tr.seq ?_
      refine Tr.freeze 91 rfl ?_
      refine Tr.freeze 92 rfl ?_
      refine Tr.region ?_
      refine TrOps.sem (OpSem.loadbN rfl rfl rfl vs46 (by first | decide | simp)) rfl rfl (by decide) ?_
      refine TrOps.storeb rfl rfl rfl rfl rfl rfl rfl vs46 (by first | decide | simp) ?_
      refine TrOps.nil ?_
      refine At.seq ?_
      refine Tr.ret ?_
      exact At.ret rfl (.cellN rfl rfl vs46 <| .nil) rfl (by rw [hk]; exact .refl _)

theorem law_AbstractionAtomicMatchesSpec_does (m : Multi) (v : Int) : Does Try.prog false 4 [multi m, I (v)] (Bo true) := by
  refine Does.of_body Try.func4 rfl rfl (by simp) Try.call4 (fun w0 O0 => ?_)
  refine Tr.lenG (n := 0) (i := 0) rfl rfl (fun len0_0 => ?_)
  refine Tr.lenG (n := 0) (i := 1) rfl rfl (fun len0_1 => ?_)
  refine Tr.lenG (n := 0) (i := 2) rfl rfl (fun len0_2 => ?_)
  refine Tr.lenG (n := 0) (i := 3) rfl rfl (fun len0_3 => ?_)
  refine Tr.seq ?_
  refine Tr.region ?_
  refine TrOps.semM (OpSem.box 2 rfl rfl rfl rfl) rfl rfl (by decide) ?_
  refine TrOps.sem (OpSem.move (.inr rfl) rfl) rfl rfl (by decide) ?_
  refine TrOps.nil ?_
  refine At.seq ?_
  refine Tr.seq ?_
  refine Tr.seq ?_
  refine Tr.region ?_
  refine TrOps.sem (OpSem.call0 (law_abstractionExample_does) rfl rfl rfl rfl (Les.refl _)) rfl rfl (by decide) ?_
  refine TrOps.sem (OpSem.not rfl rfl) rfl rfl (by decide) ?_
  refine TrOps.nil ?_
  refine At.seq ?_
  refine Tr.condF rfl rfl ?_
  refine Tr.skip ?_
  refine At.seq ?_
  refine Tr.seq ?_
  refine Tr.region ?_
  refine TrOps.sem (OpSem.loadbN rfl rfl rfl vs26 (by first | decide | simp)) rfl rfl (by decide) ?_
  refine TrOps.sem (OpSem.move (.inl rfl) rfl) rfl rfl (by decide) ?_
  refine TrOps.sem (OpSem.call0 (abstraction_Atomic_does m v) rfl rfl rfl rfl (Les.refl _)) rfl rfl (by decide) ?_
  refine TrOps.sem (OpSem.move (.inl rfl) rfl) rfl rfl (by decide) ?_
  refine TrOps.sem (OpSem.extract rfl rfl rfl) rfl rfl (by decide) ?_
  refine TrOps.sem (OpSem.extract rfl rfl rfl) rfl rfl (by decide) ?_
  refine TrOps.semM (OpSem.alloc 5 rfl zc46 rfl) rfl rfl (by decide) ?_
  refine TrOps.semM (OpSem.alloc 6 rfl zc29 rfl) rfl rfl (by decide) ?_
  refine TrOps.storeb rfl rfl rfl rfl rfl rfl rfl vs46 (by first | decide | simp) ?_
  refine TrOps.storeb rfl rfl rfl rfl rfl rfl rfl vs29 (by first | decide | simp) ?_
  refine TrOps.nil ?_
  refine At.seq ?_
  refine Tr.seq ?_
  refine Tr.region ?_
  refine TrOps.sem (OpSem.loadbN rfl rfl rfl vs26 (by first | decide | simp)) rfl rfl (by decide) ?_
  refine TrOps.sem (OpSem.call0 (R_MultiFault_does ..) rfl rfl rfl rfl (Les.refl _)) rfl rfl (by decide) ?_
  refine TrOps.semM (OpSem.alloc 7 rfl zc29 rfl) rfl rfl (by decide) ?_
  refine TrOps.storeb rfl rfl rfl rfl rfl rfl rfl vs29 (by first | decide | simp) ?_
  refine TrOps.nil ?_
  refine At.seq ?_
  refine Tr.cut [(2, .r 2 0), (1, I (v)), (4, Bo (false)), (5, .r 5 0), (6, .r 6 0), (7, .r 7 0)] [(2, .box [.d (ints m.sizes), .d (ints m.init), .d (asgs m.goal), .d (opsD m.ops)]), (5, .box [I ((atomR m v).states), I ((atomR m v).labels), .d (arcsD ((atomR m v).arcs)), I ((atomR m v).init), .d (ints ((atomR m v).goals))]), (6, .box [I ((atomF m v).1), I ((atomF m v).2)]), (7, .box [I ((atomF m v).1), I ((atomF m v).2)])] ?_ ?_
  · refine Tr.seq ?_
    refine Tr.region ?_
    refine TrOps.sem (OpSem.fieldr rfl rfl fo29_0) rfl rfl (by decide) ?_
    refine TrOps.sem (OpSem.loadb1 rfl rfl rfl vs3 rfl) rfl rfl (by decide) ?_
    refine TrOps.sem (OpSem.bin rfl rfl rfl beql) rfl rfl (by decide) ?_
    refine TrOps.sem (OpSem.move (.inl rfl) rfl) rfl rfl (by decide) ?_
    refine TrOps.split (n := 25) rfl (fun c25 => ?_) (fun c25 => ?_)
    · refine TrOps.gT rfl rfl rfl rfl c25 ?_
      refine TrOps.sem (OpSem.move (.inl rfl) rfl) rfl rfl (by decide) ?_
      refine TrOps.gT rfl rfl rfl rfl c25 ?_
      refine TrOps.sem (OpSem.fieldr rfl rfl fo26_0) rfl rfl (by decide) ?_
      refine TrOps.gT rfl rfl rfl rfl c25 ?_
      refine TrOps.sem (OpSem.loadb1 rfl rfl rfl vs22 rfl) rfl rfl (by decide) ?_
      refine TrOps.gT rfl rfl rfl rfl c25 ?_
      refine TrOps.sem (OpSem.lenL rfl rfl es22) rfl rfl (by decide) ?_
      refine TrOps.gT rfl rfl rfl rfl c25 ?_
      refine TrOps.sem (OpSem.bin rfl rfl rfl (bsub (by omega) (by omega))) rfl rfl (by decide) ?_
      refine TrOps.gT rfl rfl rfl rfl c25 ?_
      refine TrOps.sem (OpSem.call0 (R_In_does ..) rfl rfl rfl rfl (Les.refl _)) rfl rfl (by decide) ?_
      refine TrOps.gT rfl rfl rfl rfl c25 ?_
      refine TrOps.sem (OpSem.not rfl rfl) rfl rfl (by decide) ?_
      refine TrOps.sem (OpSem.pickT rfl rfl c25 rfl) rfl rfl (by decide) ?_
      refine TrOps.nil ?_
      refine At.seq ?_
      refine Tr.cond rfl (fun c33 => ?_) (fun c33 => ?_)
      · refine Tr.region ?_
        refine TrOps.sem (OpSem.call0 (R_At_does ..) rfl rfl rfl rfl (Les.refl _)) rfl rfl (by decide) ?_
        refine TrOps.storeb rfl rfl rfl rfl rfl rfl rfl vs29 (by first | decide | simp) ?_
        refine TrOps.nil ?_
        have he := (atomF_2 (m := m) (v := v) (validate_code (by simpa using c25)) (by simp at c33; omega)).1.symm
        refine At.meet ?_
        exact .slot rfl (.refl _) <| .slot rfl (.refl _) <| .slot rfl (.refl _) <| .slot rfl (.refl _) <| .slot rfl (.refl _) <| .slot rfl (.refl _) <| .mem rfl <| .mem rfl <| .mem rfl <| .boxLe rfl (.cons (Le.i (congrArg Prod.fst (he))) <| .cons (Le.i (congrArg Prod.snd (he))) <| .nil) <| .nil
      · refine Tr.skip ?_
        have he : validate m = atomF m v := by have q := validate_code (m := m) (by simpa using c25); rw [(atomF_0 (m := m) (v := v) q (by simp at c33; omega)).1, q]
        refine At.meet ?_
        exact .slot rfl (.refl _) <| .slot rfl (.refl _) <| .slot rfl (.refl _) <| .slot rfl (.refl _) <| .slot rfl (.refl _) <| .slot rfl (.refl _) <| .mem rfl <| .mem rfl <| .mem rfl <| .boxLe rfl (.cons (Le.i (congrArg Prod.fst (he))) <| .cons (Le.i (congrArg Prod.snd (he))) <| .nil) <| .nil
    · refine TrOps.gF rfl rfl rfl rfl c25 rfl (by decide) ?_
      refine TrOps.gF rfl rfl rfl rfl c25 rfl (by decide) ?_
      refine TrOps.gF rfl rfl rfl rfl c25 rfl (by decide) ?_
      refine TrOps.gF rfl rfl rfl rfl c25 rfl (by decide) ?_
      refine TrOps.gF rfl rfl rfl rfl c25 rfl (by decide) ?_
      refine TrOps.gF rfl rfl rfl rfl c25 rfl (by decide) ?_
      refine TrOps.gF rfl rfl rfl rfl c25 rfl (by decide) ?_
      refine TrOps.sem (OpSem.pickF rfl rfl c25 rfl) rfl rfl (by decide) ?_
      refine TrOps.nil ?_
      refine At.seq ?_
      refine Tr.condF rfl rfl ?_
      refine Tr.skip ?_
      have he := (atomF_1 (m := m) (v := v) (fun h => by simp [h] at c25)).1.symm
      refine At.meet ?_
      exact .slot rfl (.refl _) <| .slot rfl (.refl _) <| .slot rfl (.refl _) <| .slot rfl (.refl _) <| .slot rfl (.refl _) <| .slot rfl (.refl _) <| .mem rfl <| .mem rfl <| .mem rfl <| .boxLe rfl (.cons (Le.i (congrArg Prod.fst (he))) <| .cons (Le.i (congrArg Prod.snd (he))) <| .nil) <| .nil
  · refine Tr.seq ?_
    refine Tr.seq ?_
    refine Tr.region ?_
    refine TrOps.sem (OpSem.fieldr rfl rfl fo29_0) rfl rfl (by decide) ?_
    refine TrOps.sem (OpSem.loadb1 rfl rfl rfl vs3 rfl) rfl rfl (by decide) ?_
    refine TrOps.sem (OpSem.bin rfl rfl rfl bneq) rfl rfl (by decide) ?_
    refine TrOps.nil ?_
    refine At.seq ?_
    refine Tr.cond rfl (fun c37 => ?_) (fun c37 => ?_)
    · have hz : atomR m v = absZ := by unfold atomR; rw [if_neg (fun h => by simp [h] at c37)]
      refine Tr.seq ?_
      refine Tr.region ?_
      refine TrOps.sem (OpSem.loadbN rfl rfl rfl vs29 (by first | decide | simp)) rfl rfl (by decide) ?_
      refine TrOps.sem (OpSem.loadbN rfl rfl rfl vs29 (by first | decide | simp)) rfl rfl (by decide) ?_
      refine TrOps.sem (OpSem.eqS2 rfl rfl rfl io29) rfl rfl (by decide) ?_
      refine TrOps.sem (OpSem.move (.inl rfl) rfl) rfl rfl (by decide) ?_
      refine TrOps.gT rfl rfl rfl rfl (by simp) ?_
      refine TrOps.sem (OpSem.loadbN rfl rfl rfl vs46 (by first | decide | simp)) rfl rfl (by decide) ?_
      refine TrOps.gT rfl rfl rfl rfl (by simp) ?_
      refine TrOps.sem (OpSem.build rfl rfl pl46 zc46 rfl rfl) rfl rfl (by decide) ?_
      refine TrOps.gT rfl rfl rfl rfl (by simp) ?_
      refine TrOps.sem (OpSem.call0 (Q_Abstractions_does (atomR m v) absZ) rfl rfl rfl rfl (Les.cons (.refl _) <| .cons (Le.g (.cons (.refl _) <| .cons (.refl _) <| .cons (Le.nil 3) <| .cons (.refl _) <| .cons (Le.nil 1) <| .nil)) <| .nil)) rfl rfl (by decide) ?_
      refine TrOps.sem (OpSem.pickT rfl rfl (by simp) rfl) rfl rfl (by decide) ?_
      refine TrOps.sem (OpSem.move (.inr rfl) rfl) rfl rfl (by decide) ?_
      refine TrOps.nil ?_
      refine At.seq ?_
      refine Tr.ret ?_
      refine At.pass_ret ?_
      exact At.ret rfl (.tmp rfl <| .nil) rfl (Le.bo (by first | rfl | (rw [hz]; simp) | (rw [hR, hAR, hDR]; simp)))
    · have h0v : validate m = (0, 0) ∧ 0 ≤ v ∧ v < m.sizes.length ∧ atomF m v = (0, 0) := by obtain ⟨q1, q2, q3, q4⟩ := atomF_ok (m := m) (v := v) (by simpa using c37); refine ⟨?_, q2, q3, q4⟩; exact Decidable.byContradiction fun hn => hn (((atomF_1 (v := v) hn).1.symm.trans q4))
      obtain ⟨hval, h0, h1, hF⟩ := h0v
      have hv := valid_of hval
      have hol := hv.opsLen
      have hR : atomR m v = atomA m v := by unfold atomR; rw [if_pos hF]
      obtain ⟨hA, hAR⟩ := atom_ad hv h0 h1
      obtain ⟨hD, hDR⟩ := dist1 hval h0 h1
      have hsz := size_in hv h0 h1
      have hst : (atomR m v).states = nth m.sizes v := by rw [hR]; rfl
      refine Tr.skip ?_
      refine At.seq ?_
      refine Tr.seq ?_
      refine Tr.seq ?_
      refine PC.start [] ?_
      refine PC.sem (OpSem.fieldr rfl rfl fo29_0) rfl rfl ?_
      refine PC.sem (OpSem.loadb1 rfl rfl rfl vs3 rfl) rfl rfl ?_
      refine PC.sem (OpSem.bin rfl rfl rfl bneq) rfl rfl ?_
      refine PC.sem (OpSem.move (.inl rfl) rfl) rfl rfl ?_
      refine PC.gT (OpSem.loadbN rfl rfl rfl vs46 (by first | decide | simp)) rfl rfl rfl rfl (by rw [hF]; rfl) rfl ?_
      refine PC.gT (OpSem.loadbN rfl rfl rfl vs26 (by first | decide | simp)) rfl rfl rfl rfl (by rw [hF]; rfl) rfl ?_
      refine PC.gT (OpSem.move (.inl rfl) rfl) rfl rfl rfl rfl (by rw [hF]; rfl) rfl ?_
      refine PC.gT (OpSem.call0 (Q_AtomicOf_does m v hv h0 h1) rfl rfl rfl rfl (Les.refl _)) rfl rfl rfl rfl (by rw [hF]; rfl) rfl ?_
      refine PC.done0 mixed (by kernel_rfl) (by kernel_rfl) (by kernel_rfl) (by kernel_rfl) (by kernel_rfl) ?_
      refine TrOps.gT rfl rfl rfl rfl (by rw [hF]; rfl) ?_
      refine TrOps.sem (OpSem.call0 (Q_Abstractions_does (atomR m v) (atomA m v)) rfl rfl rfl rfl (Les.refl _)) rfl rfl (by decide) ?_
      refine TrOps.gT rfl rfl rfl rfl (by rw [hF]; rfl) ?_
      refine TrOps.sem (OpSem.not rfl rfl) rfl rfl (by decide) ?_
      refine TrOps.sem (OpSem.pickF rfl rfl (by rw [hF]; rfl) rfl) rfl rfl (by decide) ?_
      refine TrOps.nil ?_
      refine At.seq ?_
      refine Tr.condF rfl (by rw [hR]; simp) ?_
      refine Tr.skip ?_
      refine At.seq ?_
      refine Tr.seq ?_
      refine PC.start [] ?_
      refine PC.sem (OpSem.loadbN rfl rfl rfl vs46 (by first | decide | simp)) rfl rfl ?_
      refine PC.sem (OpSem.loadbN rfl rfl rfl vs26 (by first | decide | simp)) rfl rfl ?_
      refine PC.sem (OpSem.call0 (law_costsOf_does m (by omega)).fresh rfl rfl rfl rfl (Les.refl _)) rfl rfl ?_
      refine PC.sem (OpSem.call0 (abstraction_Distances_does (atomR m v) (costsL m) (by omega)) rfl rfl rfl rfl (Les.refl _)) rfl rfl ?_
      refine PC.sem (OpSem.move (.inl rfl) rfl) rfl rfl ?_
      refine PC.sem (OpSem.extract rfl rfl rfl) rfl rfl ?_
      refine PC.sem (OpSem.extract rfl rfl rfl) rfl rfl ?_
      refine PC.semM (OpSem.alloc 9 rfl zc29 rfl) rfl rfl ?_
      refine PC.sem (OpSem.move (.inr rfl) rfl) rfl rfl ?_
      refine PC.done1 9 (.box [I (0), I (0)]) mixed (by kernel_rfl) (by kernel_rfl) (by kernel_rfl) (by kernel_rfl) (by kernel_rfl) ?_
      refine TrOps.storeb rfl rfl rfl rfl rfl rfl rfl vs29 (by first | decide | simp) ?_
      refine TrOps.nil ?_
      refine At.seq ?_
      refine Tr.seq ?_
      refine Tr.region ?_
      refine TrOps.sem (OpSem.loadbN rfl rfl rfl vs26 (by first | decide | simp)) rfl rfl (by decide) ?_
      refine TrOps.sem (OpSem.move (.inl rfl) rfl) rfl rfl (by decide) ?_
      refine TrOps.sem (OpSem.buildSlice rfl rfl es22 ze22 rfl rfl (by decide) (by decide) rfl rfl) rfl rfl (by decide) ?_
      refine TrOps.sem (OpSem.call0 (project_Distances_does m [v]) rfl rfl rfl rfl (Les.refl _)) rfl rfl (by decide) ?_
      refine TrOps.sem (OpSem.move (.inl rfl) rfl) rfl rfl (by decide) ?_
      refine TrOps.sem (OpSem.extract rfl rfl rfl) rfl rfl (by decide) ?_
      refine TrOps.sem (OpSem.extract rfl rfl rfl) rfl rfl (by decide) ?_
      refine TrOps.semM (OpSem.alloc 11 rfl zc29 rfl) rfl rfl (by decide) ?_
      refine TrOps.sem (OpSem.move (.inr rfl) rfl) rfl rfl (by decide) ?_
      refine TrOps.storeb rfl rfl rfl rfl rfl rfl rfl vs29 (by first | decide | simp) ?_
      refine TrOps.nil ?_
      refine At.seq ?_
      refine Tr.seq ?_
      refine Tr.region ?_
      refine TrOps.sem (OpSem.fieldr rfl rfl fo29_0) rfl rfl (by decide) ?_
      refine TrOps.sem (OpSem.loadb1 rfl rfl rfl vs3 rfl) rfl rfl (by decide) ?_
      refine TrOps.sem (OpSem.bin rfl rfl rfl beql) rfl rfl (by decide) ?_
      refine TrOps.sem (OpSem.move (.inl rfl) rfl) rfl rfl (by decide) ?_
      refine TrOps.gT rfl rfl rfl rfl (by rw [hR, hA]; rfl) ?_
      refine TrOps.sem (OpSem.fieldr rfl rfl fo29_0) rfl rfl (by decide) ?_
      refine TrOps.gT rfl rfl rfl rfl (by rw [hR, hA]; rfl) ?_
      refine TrOps.sem (OpSem.loadb1 rfl rfl rfl vs3 rfl) rfl rfl (by decide) ?_
      refine TrOps.gT rfl rfl rfl rfl (by rw [hR, hA]; rfl) ?_
      refine TrOps.sem (OpSem.bin rfl rfl rfl beql) rfl rfl (by decide) ?_
      refine TrOps.sem (OpSem.pickT rfl rfl (by rw [hR, hA]; rfl) rfl) rfl rfl (by decide) ?_
      refine TrOps.sem (OpSem.move (.inl rfl) rfl) rfl rfl (by decide) ?_
      refine TrOps.gT rfl rfl rfl rfl (by rw [hD]; rfl) ?_
      refine TrOps.sem (OpSem.move (.inl rfl) rfl) rfl rfl (by decide) ?_
      refine TrOps.gT rfl rfl rfl rfl (by rw [hD]; rfl) ?_
      refine TrOps.sem (OpSem.move (.inl rfl) rfl) rfl rfl (by decide) ?_
      refine TrOps.gT rfl rfl rfl rfl (by rw [hD]; rfl) ?_
      refine TrOps.sem (OpSem.call0 (R_Ints_does (adR (atomR m v) (costsL m)) (distR m [v])) rfl rfl rfl rfl (Les.refl _)) rfl rfl (by decide) ?_
      refine TrOps.sem (OpSem.pickT rfl rfl (by rw [hD]; rfl) rfl) rfl rfl (by decide) ?_
      refine TrOps.sem (OpSem.move (.inr rfl) rfl) rfl rfl (by decide) ?_
      refine TrOps.nil ?_
      refine At.seq ?_
      refine Tr.ret ?_
      exact At.ret rfl (.tmp rfl <| .nil) rfl (Le.bo (by first | rfl | (rw [hz]; simp) | (rw [hR, hAR, hDR]; simp)))

end Go.Proofs.Ytohlmcebphcokaa
