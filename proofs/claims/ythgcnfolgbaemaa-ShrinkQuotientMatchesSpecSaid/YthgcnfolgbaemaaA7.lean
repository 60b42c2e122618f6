/- The engine and the walks that this claim uses, part 7. Written by prune.py out of our own texts. -/
import Derived.Test.YthgcnfolgbaemaaA6
import Derived.ProofKit
import Derived.OpenShut
import Derived.ChangeOld
import Derived.Below
import Derived.Deep.Slices
section
/- Walks, written by gen.py out of hints. -/




set_option linter.unusedVariables false
set_option linter.unusedSimpArgs false
namespace Go.Proofs.Ythgcnfolgbaemaa
open Go.Eng
set_option maxRecDepth 10000
set_option maxHeartbeats 1000000

theorem law_ShrinkLowersDistances_does (a : Abs) (part c : List Int) (hr : -9223372036854775808 ≤ a.states ∧ a.states ≤ 9223372036854775807) : Does Try.prog false 7 [absS a, .d (ints part), .d (ints c)] (Bo true) := by
  refine Does.of_body Try.func7 rfl rfl (by simp) Try.call7 (fun w0 O0 => ?_)
  refine Tr.lenG (n := 0) (i := 2) rfl rfl (fun len0_2 => ?_)
  refine Tr.lenG (n := 0) (i := 4) rfl rfl (fun len0_4 => ?_)
  refine Tr.lenLe (n := 1) rfl (fun len1 => ?_)
  refine Tr.lenLe (n := 2) rfl (fun len2 => ?_)
  refine Tr.seq ?_
  refine Tr.region ?_
  refine TrOps.semM (OpSem.box 3 rfl rfl rfl rfl) rfl rfl (by decide) ?_
  refine TrOps.sem (OpSem.move (.inr rfl) rfl) rfl rfl (by decide) ?_
  refine TrOps.nil ?_
  refine At.seq ?_
  refine Tr.seq ?_
  refine Tr.seq ?_
  refine Tr.region ?_
  refine TrOps.sem (OpSem.call0 (law_shrinkExample_does) rfl rfl rfl rfl (Les.refl _)) rfl rfl (by decide) ?_
  refine TrOps.sem (OpSem.not rfl rfl) rfl rfl (by decide) ?_
  refine TrOps.nil ?_
  refine At.seq ?_
  refine Tr.condF rfl rfl ?_
  refine Tr.skip ?_
  refine At.seq ?_
  refine Tr.seq ?_
  refine Tr.region ?_
  refine TrOps.sem (OpSem.loadbN rfl rfl rfl vs25 (by first | decide | simp)) rfl rfl (by decide) ?_
  refine TrOps.sem (OpSem.move (.inl rfl) rfl) rfl rfl (by decide) ?_
  refine TrOps.sem (OpSem.call0 (shrink_Quotient_does a part hr) rfl rfl rfl rfl (Les.refl _)) rfl rfl (by decide) ?_
  refine TrOps.sem (OpSem.move (.inl rfl) rfl) rfl rfl (by decide) ?_
  refine TrOps.sem (OpSem.extract rfl rfl rfl) rfl rfl (by decide) ?_
  refine TrOps.sem (OpSem.extract rfl rfl rfl) rfl rfl (by decide) ?_
  refine TrOps.semM (OpSem.alloc 7 rfl zc25 rfl) rfl rfl (by decide) ?_
  refine TrOps.semM (OpSem.alloc 8 rfl zc28 rfl) rfl rfl (by decide) ?_
  refine TrOps.storeb rfl rfl rfl rfl rfl rfl rfl vs25 (by first | decide | simp) ?_
  refine TrOps.storeb rfl rfl rfl rfl rfl rfl rfl vs28 (by first | decide | simp) ?_
  refine TrOps.nil ?_
  refine At.seq ?_
  refine Tr.seq ?_
  refine Tr.region ?_
  refine TrOps.sem (OpSem.loadbN rfl rfl rfl vs25 (by first | decide | simp)) rfl rfl (by decide) ?_
  refine TrOps.sem (OpSem.move (.inl rfl) rfl) rfl rfl (by decide) ?_
  refine TrOps.sem (OpSem.call0 (abstraction_Distances_does a c hr) rfl rfl rfl rfl (Les.refl _)) rfl rfl (by decide) ?_
  refine TrOps.sem (OpSem.move (.inl rfl) rfl) rfl rfl (by decide) ?_
  refine TrOps.sem (OpSem.extract rfl rfl rfl) rfl rfl (by decide) ?_
  refine TrOps.sem (OpSem.extract rfl rfl rfl) rfl rfl (by decide) ?_
  refine TrOps.semM (OpSem.alloc 10 rfl zc28 rfl) rfl rfl (by decide) ?_
  refine TrOps.sem (OpSem.move (.inr rfl) rfl) rfl rfl (by decide) ?_
  refine TrOps.storeb rfl rfl rfl rfl rfl rfl rfl vs28 (by first | decide | simp) ?_
  refine TrOps.nil ?_
  refine At.seq ?_
  refine Tr.seq ?_
  refine Tr.seq ?_
  refine Tr.region ?_
  refine TrOps.sem (OpSem.fieldr rfl rfl fo28_0) rfl rfl (by decide) ?_
  refine TrOps.sem (OpSem.loadb1 rfl rfl rfl vs3 rfl) rfl rfl (by decide) ?_
  refine TrOps.sem (OpSem.bin rfl rfl rfl bneq) rfl rfl (by decide) ?_
  refine TrOps.sem (OpSem.move (.inl rfl) rfl) rfl rfl (by decide) ?_
  refine TrOps.split (n := 31) rfl (fun c31 => ?_) (fun c31 => ?_)
  · have hne : quoF a part ≠ (0, 0) := fun h => by simp [h] at c31
    refine TrOps.gF rfl rfl rfl rfl c31 rfl (by decide) ?_
    refine TrOps.gF rfl rfl rfl rfl c31 rfl (by decide) ?_
    refine TrOps.gF rfl rfl rfl rfl c31 rfl (by decide) ?_
    refine TrOps.sem (OpSem.pickT rfl rfl c31 rfl) rfl rfl (by decide) ?_
    refine TrOps.sem (OpSem.move (.inl rfl) rfl) rfl rfl (by decide) ?_
    refine TrOps.gF rfl rfl rfl rfl rfl rfl (by decide) ?_
    refine TrOps.gF rfl rfl rfl rfl rfl rfl (by decide) ?_
    refine TrOps.gF rfl rfl rfl rfl rfl rfl (by decide) ?_
    refine TrOps.sem (OpSem.pickT rfl rfl rfl rfl) rfl rfl (by decide) ?_
    refine TrOps.sem (OpSem.move (.inl rfl) rfl) rfl rfl (by decide) ?_
    refine TrOps.gF rfl rfl rfl rfl rfl rfl (by decide) ?_
    refine TrOps.gF rfl rfl rfl rfl rfl rfl (by decide) ?_
    refine TrOps.gF rfl rfl rfl rfl rfl rfl (by decide) ?_
    refine TrOps.gF rfl rfl rfl rfl rfl rfl (by decide) ?_
    refine TrOps.gF rfl rfl rfl rfl rfl rfl (by decide) ?_
    refine TrOps.sem (OpSem.pickT rfl rfl rfl rfl) rfl rfl (by decide) ?_
    refine TrOps.nil ?_
    refine At.seq ?_
    refine Tr.condT rfl rfl ?_
    refine Tr.seq ?_
    refine Tr.region ?_
    refine TrOps.sem (OpSem.fieldr rfl rfl fo28_0) rfl rfl (by decide) ?_
    refine TrOps.sem (OpSem.loadb1 rfl rfl rfl vs3 rfl) rfl rfl (by decide) ?_
    refine TrOps.sem (OpSem.bin rfl rfl rfl beql) rfl rfl (by decide) ?_
    refine TrOps.sem (OpSem.move (.inl rfl) rfl) rfl rfl (by decide) ?_
    refine TrOps.split (n := 51) rfl (fun c51 => ?_) (fun c51 => ?_)
    · refine TrOps.gF rfl rfl rfl rfl c51 rfl (by decide) ?_
      refine TrOps.gF rfl rfl rfl rfl c51 rfl (by decide) ?_
      refine TrOps.gF rfl rfl rfl rfl c51 rfl (by decide) ?_
      refine TrOps.sem (OpSem.pickT rfl rfl c51 rfl) rfl rfl (by decide) ?_
      refine TrOps.sem (OpSem.move (.inr rfl) rfl) rfl rfl (by decide) ?_
      refine TrOps.nil ?_
      refine At.seq ?_
      refine Tr.ret ?_
      refine At.pass_ret ?_
      exact At.ret rfl (.tmp rfl <| .nil) rfl (Le.bo (by first | rfl | (rw [quoR_1 hne]; rfl) | (exfalso; simp [h0] at c51; done) | (rw [h0]; rfl) | simp))
    · refine TrOps.gT rfl rfl rfl rfl c51 ?_
      refine TrOps.sem (OpSem.fieldr rfl rfl fo25_0) rfl rfl (by decide) ?_
      refine TrOps.gT rfl rfl rfl rfl c51 ?_
      refine TrOps.sem (OpSem.loadb1 rfl rfl rfl vs3 rfl) rfl rfl (by decide) ?_
      refine TrOps.gT rfl rfl rfl rfl c51 ?_
      refine TrOps.sem (OpSem.bin rfl rfl rfl beql) rfl rfl (by decide) ?_
      refine TrOps.sem (OpSem.pickF rfl rfl c51 rfl) rfl rfl (by decide) ?_
      refine TrOps.sem (OpSem.move (.inr rfl) rfl) rfl rfl (by decide) ?_
      refine TrOps.nil ?_
      refine At.seq ?_
      refine Tr.ret ?_
      refine At.pass_ret ?_
      exact At.ret rfl (.tmp rfl <| .nil) rfl (Le.bo (by first | rfl | (rw [quoR_1 hne]; rfl) | (exfalso; simp [h0] at c51; done) | (rw [h0]; rfl) | simp))
  · have h0 : quoF a part = (0, 0) := quoF_code (by simpa using c31)
    refine TrOps.gT rfl rfl rfl rfl c31 ?_
    refine TrOps.sem (OpSem.fieldr rfl rfl fo28_0) rfl rfl (by decide) ?_
    refine TrOps.gT rfl rfl rfl rfl c31 ?_
    refine TrOps.sem (OpSem.loadb1 rfl rfl rfl vs3 rfl) rfl rfl (by decide) ?_
    refine TrOps.gT rfl rfl rfl rfl c31 ?_
    refine TrOps.sem (OpSem.bin rfl rfl rfl bneq) rfl rfl (by decide) ?_
    refine TrOps.sem (OpSem.pickF rfl rfl c31 rfl) rfl rfl (by decide) ?_
    refine TrOps.sem (OpSem.move (.inl rfl) rfl) rfl rfl (by decide) ?_
    refine TrOps.split (n := 36) rfl (fun c36 => ?_) (fun c36 => ?_)
    · refine TrOps.gF rfl rfl rfl rfl c36 rfl (by decide) ?_
      refine TrOps.gF rfl rfl rfl rfl c36 rfl (by decide) ?_
      refine TrOps.gF rfl rfl rfl rfl c36 rfl (by decide) ?_
      refine TrOps.sem (OpSem.pickT rfl rfl c36 rfl) rfl rfl (by decide) ?_
      refine TrOps.sem (OpSem.move (.inl rfl) rfl) rfl rfl (by decide) ?_
      refine TrOps.gF rfl rfl rfl rfl rfl rfl (by decide) ?_
      refine TrOps.gF rfl rfl rfl rfl rfl rfl (by decide) ?_
      refine TrOps.gF rfl rfl rfl rfl rfl rfl (by decide) ?_
      refine TrOps.gF rfl rfl rfl rfl rfl rfl (by decide) ?_
      refine TrOps.gF rfl rfl rfl rfl rfl rfl (by decide) ?_
      refine TrOps.sem (OpSem.pickT rfl rfl rfl rfl) rfl rfl (by decide) ?_
      refine TrOps.nil ?_
      refine At.seq ?_
      refine Tr.condT rfl rfl ?_
      refine Tr.seq ?_
      refine Tr.region ?_
      refine TrOps.sem (OpSem.fieldr rfl rfl fo28_0) rfl rfl (by decide) ?_
      refine TrOps.sem (OpSem.loadb1 rfl rfl rfl vs3 rfl) rfl rfl (by decide) ?_
      refine TrOps.sem (OpSem.bin rfl rfl rfl beql) rfl rfl (by decide) ?_
      refine TrOps.sem (OpSem.move (.inl rfl) rfl) rfl rfl (by decide) ?_
      refine TrOps.split (n := 51) rfl (fun c51 => ?_) (fun c51 => ?_)
      · refine TrOps.gF rfl rfl rfl rfl c51 rfl (by decide) ?_
        refine TrOps.gF rfl rfl rfl rfl c51 rfl (by decide) ?_
        refine TrOps.gF rfl rfl rfl rfl c51 rfl (by decide) ?_
        refine TrOps.sem (OpSem.pickT rfl rfl c51 rfl) rfl rfl (by decide) ?_
        refine TrOps.sem (OpSem.move (.inr rfl) rfl) rfl rfl (by decide) ?_
        refine TrOps.nil ?_
        refine At.seq ?_
        refine Tr.ret ?_
        refine At.pass_ret ?_
        exact At.ret rfl (.tmp rfl <| .nil) rfl (Le.bo (by first | rfl | (rw [quoR_1 hne]; rfl) | (exfalso; simp [h0] at c51; done) | (rw [h0]; rfl) | simp))
      · refine TrOps.gT rfl rfl rfl rfl c51 ?_
        refine TrOps.sem (OpSem.fieldr rfl rfl fo25_0) rfl rfl (by decide) ?_
        refine TrOps.gT rfl rfl rfl rfl c51 ?_
        refine TrOps.sem (OpSem.loadb1 rfl rfl rfl vs3 rfl) rfl rfl (by decide) ?_
        refine TrOps.gT rfl rfl rfl rfl c51 ?_
        refine TrOps.sem (OpSem.bin rfl rfl rfl beql) rfl rfl (by decide) ?_
        refine TrOps.sem (OpSem.pickF rfl rfl c51 rfl) rfl rfl (by decide) ?_
        refine TrOps.sem (OpSem.move (.inr rfl) rfl) rfl rfl (by decide) ?_
        refine TrOps.nil ?_
        refine At.seq ?_
        refine Tr.ret ?_
        refine At.pass_ret ?_
        exact At.ret rfl (.tmp rfl <| .nil) rfl (Le.bo (by first | rfl | (rw [quoR_1 hne]; rfl) | (exfalso; simp [h0] at c51; done) | (rw [h0]; rfl) | simp))
    · obtain ⟨hA, hC, hd, _⟩ := adF_ok (a := a) (c := c) (by simpa using c36)
      obtain ⟨z1, z2, z3, z4, z5⟩ := quo_low h0 hd
      have hst := hA.head.1
      refine TrOps.gT rfl rfl rfl rfl c36 ?_
      refine TrOps.sem (OpSem.move (.inl rfl) rfl) rfl rfl (by decide) ?_
      refine TrOps.gT rfl rfl rfl rfl c36 ?_
      refine TrOps.sem (OpSem.call0 (Q_IsPartition_does part) rfl rfl rfl rfl (Les.refl _)) rfl rfl (by decide) ?_
      refine TrOps.gT rfl rfl rfl rfl c36 ?_
      refine TrOps.sem (OpSem.not rfl rfl) rfl rfl (by decide) ?_
      refine TrOps.sem (OpSem.pickF rfl rfl c36 rfl) rfl rfl (by decide) ?_
      refine TrOps.sem (OpSem.move (.inl rfl) rfl) rfl rfl (by decide) ?_
      refine TrOps.split (n := 41) rfl (fun c41 => ?_) (fun c41 => ?_)
      · refine TrOps.gF rfl rfl rfl rfl c41 rfl (by decide) ?_
        refine TrOps.gF rfl rfl rfl rfl c41 rfl (by decide) ?_
        refine TrOps.gF rfl rfl rfl rfl c41 rfl (by decide) ?_
        refine TrOps.gF rfl rfl rfl rfl c41 rfl (by decide) ?_
        refine TrOps.gF rfl rfl rfl rfl c41 rfl (by decide) ?_
        refine TrOps.sem (OpSem.pickT rfl rfl c41 rfl) rfl rfl (by decide) ?_
        refine TrOps.nil ?_
        refine At.seq ?_
        refine Tr.condT rfl rfl ?_
        refine Tr.seq ?_
        refine Tr.region ?_
        refine TrOps.sem (OpSem.fieldr rfl rfl fo28_0) rfl rfl (by decide) ?_
        refine TrOps.sem (OpSem.loadb1 rfl rfl rfl vs3 rfl) rfl rfl (by decide) ?_
        refine TrOps.sem (OpSem.bin rfl rfl rfl beql) rfl rfl (by decide) ?_
        refine TrOps.sem (OpSem.move (.inl rfl) rfl) rfl rfl (by decide) ?_
        refine TrOps.split (n := 51) rfl (fun c51 => ?_) (fun c51 => ?_)
        · refine TrOps.gF rfl rfl rfl rfl c51 rfl (by decide) ?_
          refine TrOps.gF rfl rfl rfl rfl c51 rfl (by decide) ?_
          refine TrOps.gF rfl rfl rfl rfl c51 rfl (by decide) ?_
          refine TrOps.sem (OpSem.pickT rfl rfl c51 rfl) rfl rfl (by decide) ?_
          refine TrOps.sem (OpSem.move (.inr rfl) rfl) rfl rfl (by decide) ?_
          refine TrOps.nil ?_
          refine At.seq ?_
          refine Tr.ret ?_
          refine At.pass_ret ?_
          exact At.ret rfl (.tmp rfl <| .nil) rfl (Le.bo (by first | rfl | (rw [quoR_1 hne]; rfl) | (exfalso; simp [h0] at c51; done) | (rw [h0]; rfl) | simp))
        · refine TrOps.gT rfl rfl rfl rfl c51 ?_
          refine TrOps.sem (OpSem.fieldr rfl rfl fo25_0) rfl rfl (by decide) ?_
          refine TrOps.gT rfl rfl rfl rfl c51 ?_
          refine TrOps.sem (OpSem.loadb1 rfl rfl rfl vs3 rfl) rfl rfl (by decide) ?_
          refine TrOps.gT rfl rfl rfl rfl c51 ?_
          refine TrOps.sem (OpSem.bin rfl rfl rfl beql) rfl rfl (by decide) ?_
          refine TrOps.sem (OpSem.pickF rfl rfl c51 rfl) rfl rfl (by decide) ?_
          refine TrOps.sem (OpSem.move (.inr rfl) rfl) rfl rfl (by decide) ?_
          refine TrOps.nil ?_
          refine At.seq ?_
          refine Tr.ret ?_
          refine At.pass_ret ?_
          exact At.ret rfl (.tmp rfl <| .nil) rfl (Le.bo (by first | rfl | (rw [quoR_1 hne]; rfl) | (exfalso; simp [h0] at c51; done) | (rw [h0]; rfl) | simp))
      · refine TrOps.gT rfl rfl rfl rfl c41 ?_
        refine TrOps.sem (OpSem.move (.inl rfl) rfl) rfl rfl (by decide) ?_
        refine TrOps.gT rfl rfl rfl rfl c41 ?_
        refine TrOps.sem (OpSem.lenL rfl rfl es23) rfl rfl (by decide) ?_
        refine TrOps.gT rfl rfl rfl rfl c41 ?_
        refine TrOps.sem (OpSem.move (.inl rfl) rfl) rfl rfl (by decide) ?_
        refine TrOps.gT rfl rfl rfl rfl c41 ?_
        refine TrOps.sem (OpSem.lenL rfl rfl es23) rfl rfl (by decide) ?_
        refine TrOps.gT rfl rfl rfl rfl c41 ?_
        refine TrOps.sem (OpSem.bin rfl rfl rfl bneq) rfl rfl (by decide) ?_
        refine TrOps.sem (OpSem.pickF rfl rfl c41 rfl) rfl rfl (by decide) ?_
        refine TrOps.nil ?_
        refine At.seq ?_
        refine Tr.cond rfl (fun c47 => ?_) (fun c47 => ?_)
        · refine Tr.seq ?_
          refine Tr.region ?_
          refine TrOps.sem (OpSem.fieldr rfl rfl fo28_0) rfl rfl (by decide) ?_
          refine TrOps.sem (OpSem.loadb1 rfl rfl rfl vs3 rfl) rfl rfl (by decide) ?_
          refine TrOps.sem (OpSem.bin rfl rfl rfl beql) rfl rfl (by decide) ?_
          refine TrOps.sem (OpSem.move (.inl rfl) rfl) rfl rfl (by decide) ?_
          refine TrOps.split (n := 51) rfl (fun c51 => ?_) (fun c51 => ?_)
          · refine TrOps.gF rfl rfl rfl rfl c51 rfl (by decide) ?_
            refine TrOps.gF rfl rfl rfl rfl c51 rfl (by decide) ?_
            refine TrOps.gF rfl rfl rfl rfl c51 rfl (by decide) ?_
            refine TrOps.sem (OpSem.pickT rfl rfl c51 rfl) rfl rfl (by decide) ?_
            refine TrOps.sem (OpSem.move (.inr rfl) rfl) rfl rfl (by decide) ?_
            refine TrOps.nil ?_
            refine At.seq ?_
            refine Tr.ret ?_
            refine At.pass_ret ?_
            exact At.ret rfl (.tmp rfl <| .nil) rfl (Le.bo (by first | rfl | (rw [quoR_1 hne]; rfl) | (exfalso; simp [h0] at c51; done) | (rw [h0]; rfl) | simp))
          · refine TrOps.gT rfl rfl rfl rfl c51 ?_
            refine TrOps.sem (OpSem.fieldr rfl rfl fo25_0) rfl rfl (by decide) ?_
            refine TrOps.gT rfl rfl rfl rfl c51 ?_
            refine TrOps.sem (OpSem.loadb1 rfl rfl rfl vs3 rfl) rfl rfl (by decide) ?_
            refine TrOps.gT rfl rfl rfl rfl c51 ?_
            refine TrOps.sem (OpSem.bin rfl rfl rfl beql) rfl rfl (by decide) ?_
            refine TrOps.sem (OpSem.pickF rfl rfl c51 rfl) rfl rfl (by decide) ?_
            refine TrOps.sem (OpSem.move (.inr rfl) rfl) rfl rfl (by decide) ?_
            refine TrOps.nil ?_
            refine At.seq ?_
            refine Tr.ret ?_
            refine At.pass_ret ?_
            exact At.ret rfl (.tmp rfl <| .nil) rfl (Le.bo (by first | rfl | (rw [quoR_1 hne]; rfl) | (exfalso; simp [h0] at c51; done) | (rw [h0]; rfl) | simp))
        · refine Tr.skip ?_
          refine At.seq ?_
          refine Tr.seq ?_
          refine Tr.region ?_
          refine TrOps.sem (OpSem.loadbN rfl rfl rfl vs25 (by first | decide | simp)) rfl rfl (by decide) ?_
          refine TrOps.sem (OpSem.move (.inl rfl) rfl) rfl rfl (by decide) ?_
          refine TrOps.sem (OpSem.call0 (abstraction_Distances_does (quoR a part) c (quoR_rng hr)) rfl rfl rfl rfl (Les.refl _)) rfl rfl (by decide) ?_
          refine TrOps.sem (OpSem.move (.inl rfl) rfl) rfl rfl (by decide) ?_
          refine TrOps.sem (OpSem.extract rfl rfl rfl) rfl rfl (by decide) ?_
          refine TrOps.sem (OpSem.extract rfl rfl rfl) rfl rfl (by decide) ?_
          refine TrOps.semM (OpSem.alloc 12 rfl zc28 rfl) rfl rfl (by decide) ?_
          refine TrOps.sem (OpSem.move (.inr rfl) rfl) rfl rfl (by decide) ?_
          refine TrOps.storeb rfl rfl rfl rfl rfl rfl rfl vs28 (by first | decide | simp) ?_
          refine TrOps.nil ?_
          refine At.seq ?_
          refine Tr.seq ?_
          refine Tr.seq ?_
          refine Tr.region ?_
          refine TrOps.sem (OpSem.fieldr rfl rfl fo28_0) rfl rfl (by decide) ?_
          refine TrOps.sem (OpSem.loadb1 rfl rfl rfl vs3 rfl) rfl rfl (by decide) ?_
          refine TrOps.sem (OpSem.bin rfl rfl rfl bneq) rfl rfl (by decide) ?_
          refine TrOps.sem (OpSem.move (.inl rfl) rfl) rfl rfl (by decide) ?_
          refine TrOps.gT rfl rfl rfl rfl (by rw [z1]; rfl) ?_
          refine TrOps.sem (OpSem.move (.inl rfl) rfl) rfl rfl (by decide) ?_
          refine TrOps.gT rfl rfl rfl rfl (by rw [z1]; rfl) ?_
          refine TrOps.sem (OpSem.lenL rfl rfl es23) rfl rfl (by decide) ?_
          refine TrOps.gT rfl rfl rfl rfl (by rw [z1]; rfl) ?_
          refine TrOps.sem (OpSem.fieldr rfl rfl fo25_0) rfl rfl (by decide) ?_
          refine TrOps.gT rfl rfl rfl rfl (by rw [z1]; rfl) ?_
          refine TrOps.sem (OpSem.loadb1 rfl rfl rfl vs3 rfl) rfl rfl (by decide) ?_
          refine TrOps.gT rfl rfl rfl rfl (by rw [z1]; rfl) ?_
          refine TrOps.sem (OpSem.bin rfl rfl rfl bneq) rfl rfl (by decide) ?_
          refine TrOps.sem (OpSem.pickF rfl rfl (by rw [z1]; rfl) rfl) rfl rfl (by decide) ?_
          refine TrOps.nil ?_
          refine At.seq ?_
          refine Tr.condF rfl (by simp; omega) ?_
          refine Tr.skip ?_
          refine At.seq ?_
          refine Tr.seq ?_
          refine Tr.seq ?_
          refine Tr.region ?_
          refine TrOps.sem (OpSem.move (.inr rfl) rfl) rfl rfl (by decide) ?_
          refine TrOps.nil ?_
          refine At.seq ?_
          refine Tr.block ?_
          refine Tr.loop (X := Nat) (fun k => k ≤ part.length) (fun k => [(1, .d (ints part)), (9, .d (ints (adR a c))), (11, .d (ints (adR (quoR a part) c))), (13, I (k))]) (fun k => []) (fun k => part.length - k) 0 (by omega) ?_ ?_
          · exact .slot rfl (.refl _) <| .slot rfl (.refl _) <| .slot rfl (.refl _) <| .slot rfl (Le.of_eq (by simp)) <| .nil
          · rintro k hkl
            refine Tr.seq ?_
            refine Tr.seq ?_
            refine Tr.region ?_
            refine TrOps.sem (OpSem.move (.inl rfl) rfl) rfl rfl (by decide) ?_
            refine TrOps.sem (OpSem.move (.inl rfl) rfl) rfl rfl (by decide) ?_
            refine TrOps.sem (OpSem.lenL rfl rfl es23) rfl rfl (by decide) ?_
            refine TrOps.sem (OpSem.bin rfl rfl rfl blss) rfl rfl (by decide) ?_
            refine TrOps.nil ?_
            refine At.seq ?_
            refine Tr.cond rfl (fun c75 => ?_) (fun c75 => ?_)
            · have hx : k < part.length := by simpa using c75
              obtain ⟨w1, w2, w3⟩ := z5 k hx
              refine Tr.skip ?_
              refine At.seq ?_
              refine Tr.seq ?_
              refine Tr.block ?_
              refine Tr.seq ?_
              refine PC.start [] ?_
              refine PC.sem (OpSem.move (.inl rfl) rfl) rfl rfl ?_
              refine PC.sem (OpSem.move (.inl rfl) rfl) rfl rfl ?_
              refine PC.sem (OpSem.idxL rfl rfl rfl es23 (by omega) (by omega)) rfl rfl ?_
              refine PC.sem (OpSem.load1 rfl rfl vs3 rfl) rfl rfl ?_
              refine PC.sem (OpSem.move (.inl rfl) rfl) rfl rfl ?_
              refine PC.sem (OpSem.lenL rfl rfl es23) rfl rfl ?_
              refine PC.sem (OpSem.bin rfl rfl rfl bgeq) rfl rfl ?_
              refine PC.sem (OpSem.move (.inl rfl) rfl) rfl rfl ?_
              refine PC.gT (OpSem.move (.inl rfl) rfl) rfl rfl rfl rfl (by simp; omega) rfl ?_
              refine PC.gT (OpSem.move (.inl rfl) rfl) rfl rfl rfl rfl (by simp; omega) rfl ?_
              refine PC.gT (OpSem.move (.inl rfl) rfl) rfl rfl rfl rfl (by simp; omega) rfl ?_
              refine PC.gT (OpSem.idxL rfl rfl rfl es23 (by omega) (by omega)) rfl rfl rfl rfl (by simp; omega) rfl ?_
              refine PC.gT (OpSem.load1 rfl rfl vs3 rfl) rfl rfl rfl rfl (by simp; omega) rfl ?_
              refine PC.gT (OpSem.idxL rfl rfl rfl es23 (by omega) (by omega)) rfl rfl rfl rfl (by simp; omega) rfl ?_
              refine PC.gT (OpSem.load1 rfl rfl vs3 rfl) rfl rfl rfl rfl (by simp; omega) rfl ?_
              refine PC.gT (OpSem.move (.inl rfl) rfl) rfl rfl rfl rfl (by simp; omega) rfl ?_
              refine PC.gT (OpSem.move (.inl rfl) rfl) rfl rfl rfl rfl (by simp; omega) rfl ?_
              refine PC.gT (OpSem.idxL rfl rfl rfl es23 (by omega) (by omega)) rfl rfl rfl rfl (by simp; omega) rfl ?_
              refine PC.gT (OpSem.load1 rfl rfl vs3 rfl) rfl rfl rfl rfl (by simp; omega) rfl ?_
              refine PC.done0 mixed (by kernel_rfl) (by kernel_rfl) (by kernel_rfl) (by kernel_rfl) (by kernel_rfl) ?_
              refine TrOps.gT rfl rfl rfl rfl (by simp; omega) ?_
              refine TrOps.sem (OpSem.bin rfl rfl rfl bgtr) rfl rfl (by decide) ?_
              refine TrOps.sem (OpSem.pickF rfl rfl (by simp; omega) rfl) rfl rfl (by decide) ?_
              refine TrOps.nil ?_
              refine At.seq ?_
              refine Tr.condF rfl (by simp; omega) ?_
              refine Tr.skip ?_
              refine At.block_normal ?_
              refine At.seq ?_
              refine Tr.region ?_
              refine TrOps.sem (OpSem.move (.inl rfl) rfl) rfl rfl (by decide) ?_
              refine TrOps.sem (OpSem.bin rfl rfl rfl (badd (by omega) (by omega))) rfl rfl (by decide) ?_
              refine TrOps.sem (OpSem.move (.inr rfl) rfl) rfl rfl (by decide) ?_
              refine TrOps.nil ?_
              refine At.again (k + 1) (by omega) ?_ (by omega)
              exact .slot rfl (.refl _) <| .slot rfl (.refl _) <| .slot rfl (.refl _) <| .slot rfl (Le.of_eq (by simp)) <| .nil
            · refine Tr.exit ?_
              refine At.pass_exit ?_
              refine At.pass_exit ?_
              refine At.block_same ?_
              refine At.seq ?_
              refine Tr.seq ?_
              refine Tr.region ?_
              refine TrOps.sem (OpSem.move (.inr rfl) rfl) rfl rfl (by decide) ?_
              refine TrOps.nil ?_
              refine At.seq ?_
              refine Tr.ret ?_
              exact At.ret rfl (.tmp rfl <| .nil) rfl (Le.bo (by first | rfl | (rw [quoR_1 hne]; rfl) | (exfalso; simp [h0] at c51; done) | (rw [h0]; rfl) | simp))

theorem law_ShrinkKeepsDistances_does (a : Abs) (c : List Int) (hr : -9223372036854775808 ≤ a.states ∧ a.states ≤ 9223372036854775807) : Does Try.prog false 6 [absS a, .d (ints c)] (Bo true) := by
  refine Does.of_body Try.func6 rfl rfl (by simp) Try.call6 (fun w0 O0 => ?_)
  refine Tr.lenG (n := 0) (i := 2) rfl rfl (fun len0_2 => ?_)
  refine Tr.lenG (n := 0) (i := 4) rfl rfl (fun len0_4 => ?_)
  refine Tr.lenLe (n := 1) rfl (fun len1 => ?_)
  refine Tr.seq ?_
  refine Tr.region ?_
  refine TrOps.semM (OpSem.box 2 rfl rfl rfl rfl) rfl rfl (by decide) ?_
  refine TrOps.sem (OpSem.move (.inr rfl) rfl) rfl rfl (by decide) ?_
  refine TrOps.nil ?_
  refine At.seq ?_
  refine Tr.seq ?_
  refine Tr.seq ?_
  refine Tr.region ?_
  refine TrOps.sem (OpSem.call0 (law_shrinkExample_does) rfl rfl rfl rfl (Les.refl _)) rfl rfl (by decide) ?_
  refine TrOps.sem (OpSem.not rfl rfl) rfl rfl (by decide) ?_
  refine TrOps.nil ?_
  refine At.seq ?_
  refine Tr.condF rfl rfl ?_
  refine Tr.skip ?_
  refine At.seq ?_
  refine Tr.seq ?_
  refine Tr.region ?_
  refine TrOps.sem (OpSem.loadbN rfl rfl rfl vs25 (by first | decide | simp)) rfl rfl (by decide) ?_
  refine TrOps.sem (OpSem.call0 (shrink_Bisimulation_does a hr) rfl rfl rfl rfl (Les.refl _)) rfl rfl (by decide) ?_
  refine TrOps.sem (OpSem.move (.inl rfl) rfl) rfl rfl (by decide) ?_
  refine TrOps.sem (OpSem.extract rfl rfl rfl) rfl rfl (by decide) ?_
  refine TrOps.sem (OpSem.extract rfl rfl rfl) rfl rfl (by decide) ?_
  refine TrOps.semM (OpSem.alloc 6 rfl zc28 rfl) rfl rfl (by decide) ?_
  refine TrOps.sem (OpSem.move (.inr rfl) rfl) rfl rfl (by decide) ?_
  refine TrOps.storeb rfl rfl rfl rfl rfl rfl rfl vs28 (by first | decide | simp) ?_
  refine TrOps.nil ?_
  refine At.seq ?_
  refine Tr.seq ?_
  refine Tr.region ?_
  refine TrOps.sem (OpSem.loadbN rfl rfl rfl vs25 (by first | decide | simp)) rfl rfl (by decide) ?_
  refine TrOps.sem (OpSem.move (.inl rfl) rfl) rfl rfl (by decide) ?_
  refine TrOps.sem (OpSem.call0 (abstraction_Distances_does a c hr) rfl rfl rfl rfl (Les.refl _)) rfl rfl (by decide) ?_
  refine TrOps.sem (OpSem.move (.inl rfl) rfl) rfl rfl (by decide) ?_
  refine TrOps.sem (OpSem.extract rfl rfl rfl) rfl rfl (by decide) ?_
  refine TrOps.sem (OpSem.extract rfl rfl rfl) rfl rfl (by decide) ?_
  refine TrOps.semM (OpSem.alloc 8 rfl zc28 rfl) rfl rfl (by decide) ?_
  refine TrOps.sem (OpSem.move (.inr rfl) rfl) rfl rfl (by decide) ?_
  refine TrOps.storeb rfl rfl rfl rfl rfl rfl rfl vs28 (by first | decide | simp) ?_
  refine TrOps.nil ?_
  refine At.seq ?_
  refine Tr.seq ?_
  refine Tr.seq ?_
  refine Tr.region ?_
  refine TrOps.sem (OpSem.fieldr rfl rfl fo28_0) rfl rfl (by decide) ?_
  refine TrOps.sem (OpSem.loadb1 rfl rfl rfl vs3 rfl) rfl rfl (by decide) ?_
  refine TrOps.sem (OpSem.bin rfl rfl rfl bneq) rfl rfl (by decide) ?_
  refine TrOps.sem (OpSem.move (.inl rfl) rfl) rfl rfl (by decide) ?_
  refine TrOps.split (n := 32) rfl (fun c32 => ?_) (fun c32 => ?_)
  · have hne : absFault a ≠ (0, 0) := fun h => by simp [h] at c32
    refine TrOps.gF rfl rfl rfl rfl c32 rfl (by decide) ?_
    refine TrOps.gF rfl rfl rfl rfl c32 rfl (by decide) ?_
    refine TrOps.gF rfl rfl rfl rfl c32 rfl (by decide) ?_
    refine TrOps.sem (OpSem.pickT rfl rfl c32 rfl) rfl rfl (by decide) ?_
    refine TrOps.nil ?_
    refine At.seq ?_
    refine Tr.condT rfl rfl ?_
    refine Tr.seq ?_
    refine Tr.region ?_
    refine TrOps.sem (OpSem.fieldr rfl rfl fo28_0) rfl rfl (by decide) ?_
    refine TrOps.sem (OpSem.loadb1 rfl rfl rfl vs3 rfl) rfl rfl (by decide) ?_
    refine TrOps.sem (OpSem.bin rfl rfl rfl beql) rfl rfl (by decide) ?_
    refine TrOps.sem (OpSem.move (.inl rfl) rfl) rfl rfl (by decide) ?_
    refine TrOps.split (n := 40) rfl (fun c40 => ?_) (fun c40 => ?_)
    · refine TrOps.gF rfl rfl rfl rfl c40 rfl (by decide) ?_
      refine TrOps.gF rfl rfl rfl rfl c40 rfl (by decide) ?_
      refine TrOps.gF rfl rfl rfl rfl c40 rfl (by decide) ?_
      refine TrOps.sem (OpSem.pickT rfl rfl c40 rfl) rfl rfl (by decide) ?_
      refine TrOps.sem (OpSem.move (.inr rfl) rfl) rfl rfl (by decide) ?_
      refine TrOps.nil ?_
      refine At.seq ?_
      refine Tr.ret ?_
      refine At.pass_ret ?_
      exact At.ret rfl (.tmp rfl <| .nil) rfl (Le.bo (by first | rfl | (rw [bisR_1 hne]; rfl) | (exfalso; simp [h0] at c40; done) | (rw [h0]; rfl) | (rw [z7]; simp; done) | simp))
    · refine TrOps.gT rfl rfl rfl rfl c40 ?_
      refine TrOps.sem (OpSem.move (.inl rfl) rfl) rfl rfl (by decide) ?_
      refine TrOps.gT rfl rfl rfl rfl c40 ?_
      refine TrOps.sem (OpSem.lenL rfl rfl es23) rfl rfl (by decide) ?_
      refine TrOps.gT rfl rfl rfl rfl c40 ?_
      refine TrOps.sem (OpSem.bin rfl rfl rfl beql) rfl rfl (by decide) ?_
      refine TrOps.sem (OpSem.pickF rfl rfl c40 rfl) rfl rfl (by decide) ?_
      refine TrOps.sem (OpSem.move (.inr rfl) rfl) rfl rfl (by decide) ?_
      refine TrOps.nil ?_
      refine At.seq ?_
      refine Tr.ret ?_
      refine At.pass_ret ?_
      exact At.ret rfl (.tmp rfl <| .nil) rfl (Le.bo (by first | rfl | (rw [bisR_1 hne]; rfl) | (exfalso; simp [h0] at c40; done) | (rw [h0]; rfl) | (rw [z7]; simp; done) | simp))
  · have h0 : absFault a = (0, 0) := absFault_c (by simpa using c32)
    refine TrOps.gT rfl rfl rfl rfl c32 ?_
    refine TrOps.sem (OpSem.fieldr rfl rfl fo28_0) rfl rfl (by decide) ?_
    refine TrOps.gT rfl rfl rfl rfl c32 ?_
    refine TrOps.sem (OpSem.loadb1 rfl rfl rfl vs3 rfl) rfl rfl (by decide) ?_
    refine TrOps.gT rfl rfl rfl rfl c32 ?_
    refine TrOps.sem (OpSem.bin rfl rfl rfl bneq) rfl rfl (by decide) ?_
    refine TrOps.sem (OpSem.pickF rfl rfl c32 rfl) rfl rfl (by decide) ?_
    refine TrOps.nil ?_
    refine At.seq ?_
    refine Tr.cond rfl (fun c36 => ?_) (fun c36 => ?_)
    · refine Tr.seq ?_
      refine Tr.region ?_
      refine TrOps.sem (OpSem.fieldr rfl rfl fo28_0) rfl rfl (by decide) ?_
      refine TrOps.sem (OpSem.loadb1 rfl rfl rfl vs3 rfl) rfl rfl (by decide) ?_
      refine TrOps.sem (OpSem.bin rfl rfl rfl beql) rfl rfl (by decide) ?_
      refine TrOps.sem (OpSem.move (.inl rfl) rfl) rfl rfl (by decide) ?_
      refine TrOps.split (n := 40) rfl (fun c40 => ?_) (fun c40 => ?_)
      · refine TrOps.gF rfl rfl rfl rfl c40 rfl (by decide) ?_
        refine TrOps.gF rfl rfl rfl rfl c40 rfl (by decide) ?_
        refine TrOps.gF rfl rfl rfl rfl c40 rfl (by decide) ?_
        refine TrOps.sem (OpSem.pickT rfl rfl c40 rfl) rfl rfl (by decide) ?_
        refine TrOps.sem (OpSem.move (.inr rfl) rfl) rfl rfl (by decide) ?_
        refine TrOps.nil ?_
        refine At.seq ?_
        refine Tr.ret ?_
        refine At.pass_ret ?_
        exact At.ret rfl (.tmp rfl <| .nil) rfl (Le.bo (by first | rfl | (rw [bisR_1 hne]; rfl) | (exfalso; simp [h0] at c40; done) | (rw [h0]; rfl) | (rw [z7]; simp; done) | simp))
      · refine TrOps.gT rfl rfl rfl rfl c40 ?_
        refine TrOps.sem (OpSem.move (.inl rfl) rfl) rfl rfl (by decide) ?_
        refine TrOps.gT rfl rfl rfl rfl c40 ?_
        refine TrOps.sem (OpSem.lenL rfl rfl es23) rfl rfl (by decide) ?_
        refine TrOps.gT rfl rfl rfl rfl c40 ?_
        refine TrOps.sem (OpSem.bin rfl rfl rfl beql) rfl rfl (by decide) ?_
        refine TrOps.sem (OpSem.pickF rfl rfl c40 rfl) rfl rfl (by decide) ?_
        refine TrOps.sem (OpSem.move (.inr rfl) rfl) rfl rfl (by decide) ?_
        refine TrOps.nil ?_
        refine At.seq ?_
        refine Tr.ret ?_
        refine At.pass_ret ?_
        exact At.ret rfl (.tmp rfl <| .nil) rfl (Le.bo (by first | rfl | (rw [bisR_1 hne]; rfl) | (exfalso; simp [h0] at c40; done) | (rw [h0]; rfl) | (rw [z7]; simp; done) | simp))
    · obtain ⟨hA, hC, hd, _⟩ := adF_ok (a := a) (c := c) (by simpa using c36)
      obtain ⟨z1, z2, z3, z4, z5, z6, z7, z8, z9⟩ := quo_keep h0 hd
      have hst := hA.head.1
      refine Tr.skip ?_
      refine At.seq ?_
      refine Tr.seq ?_
      refine Tr.region ?_
      refine TrOps.sem (OpSem.loadbN rfl rfl rfl vs25 (by first | decide | simp)) rfl rfl (by decide) ?_
      refine TrOps.sem (OpSem.move (.inl rfl) rfl) rfl rfl (by decide) ?_
      refine TrOps.sem (OpSem.call0 (shrink_Quotient_does a (bisR a) hr) rfl rfl rfl rfl (Les.refl _)) rfl rfl (by decide) ?_
      refine TrOps.sem (OpSem.move (.inl rfl) rfl) rfl rfl (by decide) ?_
      refine TrOps.sem (OpSem.extract rfl rfl rfl) rfl rfl (by decide) ?_
      refine TrOps.sem (OpSem.extract rfl rfl rfl) rfl rfl (by decide) ?_
      refine TrOps.semM (OpSem.alloc 9 rfl zc25 rfl) rfl rfl (by decide) ?_
      refine TrOps.semM (OpSem.alloc 10 rfl zc28 rfl) rfl rfl (by decide) ?_
      refine TrOps.storeb rfl rfl rfl rfl rfl rfl rfl vs25 (by first | decide | simp) ?_
      refine TrOps.storeb rfl rfl rfl rfl rfl rfl rfl vs28 (by first | decide | simp) ?_
      refine TrOps.nil ?_
      refine At.seq ?_
      refine Tr.seq ?_
      refine Tr.region ?_
      refine TrOps.sem (OpSem.loadbN rfl rfl rfl vs25 (by first | decide | simp)) rfl rfl (by decide) ?_
      refine TrOps.sem (OpSem.move (.inl rfl) rfl) rfl rfl (by decide) ?_
      refine TrOps.sem (OpSem.call0 (abstraction_Distances_does (quoR a (bisR a)) c (quoR_rng hr)) rfl rfl rfl rfl (Les.refl _)) rfl rfl (by decide) ?_
      refine TrOps.sem (OpSem.move (.inl rfl) rfl) rfl rfl (by decide) ?_
      refine TrOps.sem (OpSem.extract rfl rfl rfl) rfl rfl (by decide) ?_
      refine TrOps.sem (OpSem.extract rfl rfl rfl) rfl rfl (by decide) ?_
      refine TrOps.semM (OpSem.alloc 12 rfl zc28 rfl) rfl rfl (by decide) ?_
      refine TrOps.sem (OpSem.move (.inr rfl) rfl) rfl rfl (by decide) ?_
      refine TrOps.storeb rfl rfl rfl rfl rfl rfl rfl vs28 (by first | decide | simp) ?_
      refine TrOps.nil ?_
      refine At.seq ?_
      refine Tr.seq ?_
      refine Tr.region ?_
      refine TrOps.sem (OpSem.loadbN rfl rfl rfl vs25 (by first | decide | simp)) rfl rfl (by decide) ?_
      refine TrOps.sem (OpSem.call0 (shrink_Bisimulation_does (quoR a (bisR a)) (quoR_rng hr)) rfl rfl rfl rfl (Les.refl _)) rfl rfl (by decide) ?_
      refine TrOps.sem (OpSem.move (.inl rfl) rfl) rfl rfl (by decide) ?_
      refine TrOps.sem (OpSem.extract rfl rfl rfl) rfl rfl (by decide) ?_
      refine TrOps.sem (OpSem.extract rfl rfl rfl) rfl rfl (by decide) ?_
      refine TrOps.semM (OpSem.alloc 14 rfl zc28 rfl) rfl rfl (by decide) ?_
      refine TrOps.sem (OpSem.move (.inr rfl) rfl) rfl rfl (by decide) ?_
      refine TrOps.storeb rfl rfl rfl rfl rfl rfl rfl vs28 (by first | decide | simp) ?_
      refine TrOps.nil ?_
      refine At.seq ?_
      refine Tr.seq ?_
      refine Tr.seq ?_
      refine Tr.region ?_
      refine TrOps.sem (OpSem.fieldr rfl rfl fo28_0) rfl rfl (by decide) ?_
      refine TrOps.sem (OpSem.loadb1 rfl rfl rfl vs3 rfl) rfl rfl (by decide) ?_
      refine TrOps.sem (OpSem.bin rfl rfl rfl bneq) rfl rfl (by decide) ?_
      refine TrOps.sem (OpSem.move (.inl rfl) rfl) rfl rfl (by decide) ?_
      refine TrOps.gT rfl rfl rfl rfl (by rw [z1]; rfl) ?_
      refine TrOps.sem (OpSem.fieldr rfl rfl fo28_0) rfl rfl (by decide) ?_
      refine TrOps.gT rfl rfl rfl rfl (by rw [z1]; rfl) ?_
      refine TrOps.sem (OpSem.loadb1 rfl rfl rfl vs3 rfl) rfl rfl (by decide) ?_
      refine TrOps.gT rfl rfl rfl rfl (by rw [z1]; rfl) ?_
      refine TrOps.sem (OpSem.bin rfl rfl rfl bneq) rfl rfl (by decide) ?_
      refine TrOps.sem (OpSem.pickF rfl rfl (by rw [z1]; rfl) rfl) rfl rfl (by decide) ?_
      refine TrOps.sem (OpSem.move (.inl rfl) rfl) rfl rfl (by decide) ?_
      refine TrOps.gT rfl rfl rfl rfl (by rw [z2]; rfl) ?_
      refine TrOps.sem (OpSem.fieldr rfl rfl fo28_0) rfl rfl (by decide) ?_
      refine TrOps.gT rfl rfl rfl rfl (by rw [z2]; rfl) ?_
      refine TrOps.sem (OpSem.loadb1 rfl rfl rfl vs3 rfl) rfl rfl (by decide) ?_
      refine TrOps.gT rfl rfl rfl rfl (by rw [z2]; rfl) ?_
      refine TrOps.sem (OpSem.bin rfl rfl rfl bneq) rfl rfl (by decide) ?_
      refine TrOps.sem (OpSem.pickF rfl rfl (by rw [z2]; rfl) rfl) rfl rfl (by decide) ?_
      refine TrOps.sem (OpSem.move (.inl rfl) rfl) rfl rfl (by decide) ?_
      refine TrOps.gT rfl rfl rfl rfl (by rw [z3]; rfl) ?_
      refine TrOps.sem (OpSem.move (.inl rfl) rfl) rfl rfl (by decide) ?_
      refine TrOps.gT rfl rfl rfl rfl (by rw [z3]; rfl) ?_
      refine TrOps.sem (OpSem.lenL rfl rfl es23) rfl rfl (by decide) ?_
      refine TrOps.gT rfl rfl rfl rfl (by rw [z3]; rfl) ?_
      refine TrOps.sem (OpSem.fieldr rfl rfl fo25_0) rfl rfl (by decide) ?_
      refine TrOps.gT rfl rfl rfl rfl (by rw [z3]; rfl) ?_
      refine TrOps.sem (OpSem.loadb1 rfl rfl rfl vs3 rfl) rfl rfl (by decide) ?_
      refine TrOps.gT rfl rfl rfl rfl (by rw [z3]; rfl) ?_
      refine TrOps.sem (OpSem.bin rfl rfl rfl bneq) rfl rfl (by decide) ?_
      refine TrOps.sem (OpSem.pickF rfl rfl (by rw [z3]; rfl) rfl) rfl rfl (by decide) ?_
      refine TrOps.sem (OpSem.move (.inl rfl) rfl) rfl rfl (by decide) ?_
      refine TrOps.gT rfl rfl rfl rfl (by simp; omega) ?_
      refine TrOps.sem (OpSem.move (.inl rfl) rfl) rfl rfl (by decide) ?_
      refine TrOps.gT rfl rfl rfl rfl (by simp; omega) ?_
      refine TrOps.sem (OpSem.lenL rfl rfl es23) rfl rfl (by decide) ?_
      refine TrOps.gT rfl rfl rfl rfl (by simp; omega) ?_
      refine TrOps.sem (OpSem.fieldr rfl rfl fo25_0) rfl rfl (by decide) ?_
      refine TrOps.gT rfl rfl rfl rfl (by simp; omega) ?_
      refine TrOps.sem (OpSem.loadb1 rfl rfl rfl vs3 rfl) rfl rfl (by decide) ?_
      refine TrOps.gT rfl rfl rfl rfl (by simp; omega) ?_
      refine TrOps.sem (OpSem.bin rfl rfl rfl bneq) rfl rfl (by decide) ?_
      refine TrOps.sem (OpSem.pickF rfl rfl (by simp; omega) rfl) rfl rfl (by decide) ?_
      refine TrOps.sem (OpSem.move (.inl rfl) rfl) rfl rfl (by decide) ?_
      refine TrOps.gT rfl rfl rfl rfl (by simp; omega) ?_
      refine TrOps.sem (OpSem.move (.inl rfl) rfl) rfl rfl (by decide) ?_
      refine TrOps.gT rfl rfl rfl rfl (by simp; omega) ?_
      refine TrOps.sem (OpSem.lenL rfl rfl es23) rfl rfl (by decide) ?_
      refine TrOps.gT rfl rfl rfl rfl (by simp; omega) ?_
      refine TrOps.sem (OpSem.fieldr rfl rfl fo25_0) rfl rfl (by decide) ?_
      refine TrOps.gT rfl rfl rfl rfl (by simp; omega) ?_
      refine TrOps.sem (OpSem.loadb1 rfl rfl rfl vs3 rfl) rfl rfl (by decide) ?_
      refine TrOps.gT rfl rfl rfl rfl (by simp; omega) ?_
      refine TrOps.sem (OpSem.bin rfl rfl rfl bneq) rfl rfl (by decide) ?_
      refine TrOps.sem (OpSem.pickF rfl rfl (by simp; omega) rfl) rfl rfl (by decide) ?_
      refine TrOps.nil ?_
      refine At.seq ?_
      refine Tr.condF rfl (by simp; omega) ?_
      refine Tr.skip ?_
      refine At.seq ?_
      refine Tr.seq ?_
      refine Tr.seq ?_
      refine Tr.region ?_
      refine TrOps.sem (OpSem.move (.inr rfl) rfl) rfl rfl (by decide) ?_
      refine TrOps.nil ?_
      refine At.seq ?_
      refine Tr.block ?_
      refine Tr.loop (X := Nat) (fun k => k ≤ (bisR a).length) (fun k => [(5, .d (ints (bisR a))), (7, .d (ints (adR a c))), (9, .r 9 0), (11, .d (ints (adR (quoR a (bisR a)) c))), (13, .d (ints (bisR (quoR a (bisR a))))), (15, I (k))]) (fun k => [(9, .box [I ((quoR a (bisR a)).states), I ((quoR a (bisR a)).labels), .d (arcsD ((quoR a (bisR a)).arcs)), I ((quoR a (bisR a)).init), .d (ints ((quoR a (bisR a)).goals))])]) (fun k => (bisR a).length - k) 0 (by omega) ?_ ?_
      · exact .slot rfl (.refl _) <| .slot rfl (.refl _) <| .slot rfl (.refl _) <| .slot rfl (.refl _) <| .slot rfl (.refl _) <| .slot rfl (Le.of_eq (by simp)) <| .mem rfl <| .nil
      · rintro k hkl
        refine Tr.seq ?_
        refine Tr.seq ?_
        refine Tr.region ?_
        refine TrOps.sem (OpSem.move (.inl rfl) rfl) rfl rfl (by decide) ?_
        refine TrOps.sem (OpSem.move (.inl rfl) rfl) rfl rfl (by decide) ?_
        refine TrOps.sem (OpSem.lenL rfl rfl es23) rfl rfl (by decide) ?_
        refine TrOps.sem (OpSem.bin rfl rfl rfl blss) rfl rfl (by decide) ?_
        refine TrOps.nil ?_
        refine At.seq ?_
        refine Tr.cond rfl (fun c99 => ?_) (fun c99 => ?_)
        · have hx : k < (bisR a).length := by simpa using c99
          obtain ⟨w1, w2, w3⟩ := z9 k hx
          refine Tr.skip ?_
          refine At.seq ?_
          refine Tr.seq ?_
          refine Tr.block ?_
          refine Tr.seq ?_
          refine PC.start [] ?_
          refine PC.sem (OpSem.move (.inl rfl) rfl) rfl rfl ?_
          refine PC.sem (OpSem.move (.inl rfl) rfl) rfl rfl ?_
          refine PC.sem (OpSem.idxL rfl rfl rfl es23 (by omega) (by omega)) rfl rfl ?_
          refine PC.sem (OpSem.load1 rfl rfl vs3 rfl) rfl rfl ?_
          refine PC.sem (OpSem.move (.inl rfl) rfl) rfl rfl ?_
          refine PC.sem (OpSem.lenL rfl rfl es23) rfl rfl ?_
          refine PC.sem (OpSem.bin rfl rfl rfl (bsub (by omega) (by omega))) rfl rfl ?_
          refine PC.sem (OpSem.call0 (R_In_does ..) rfl rfl rfl rfl (Les.refl _)) rfl rfl ?_
          refine PC.sem (OpSem.not rfl rfl) rfl rfl ?_
          refine PC.sem (OpSem.move (.inl rfl) rfl) rfl rfl ?_
          refine PC.gT (OpSem.move (.inl rfl) rfl) rfl rfl rfl rfl (by simp; omega) rfl ?_
          refine PC.gT (OpSem.move (.inl rfl) rfl) rfl rfl rfl rfl (by simp; omega) rfl ?_
          refine PC.gT (OpSem.move (.inl rfl) rfl) rfl rfl rfl rfl (by simp; omega) rfl ?_
          refine PC.gT (OpSem.idxL rfl rfl rfl es23 (by omega) (by omega)) rfl rfl rfl rfl (by simp; omega) rfl ?_
          refine PC.gT (OpSem.load1 rfl rfl vs3 rfl) rfl rfl rfl rfl (by simp; omega) rfl ?_
          refine PC.gT (OpSem.idxL rfl rfl rfl es23 (by omega) (by omega)) rfl rfl rfl rfl (by simp; omega) rfl ?_
          refine PC.gT (OpSem.load1 rfl rfl vs3 rfl) rfl rfl rfl rfl (by simp; omega) rfl ?_
          refine PC.gT (OpSem.move (.inl rfl) rfl) rfl rfl rfl rfl (by simp; omega) rfl ?_
          refine PC.gT (OpSem.move (.inl rfl) rfl) rfl rfl rfl rfl (by simp; omega) rfl ?_
          refine PC.gT (OpSem.idxL rfl rfl rfl es23 (by omega) (by omega)) rfl rfl rfl rfl (by simp; omega) rfl ?_
          refine PC.gT (OpSem.load1 rfl rfl vs3 rfl) rfl rfl rfl rfl (by simp; omega) rfl ?_
          refine PC.done0 mixed (by kernel_rfl) (by kernel_rfl) (by kernel_rfl) (by kernel_rfl) (by kernel_rfl) ?_
          refine TrOps.gT rfl rfl rfl rfl (by simp; omega) ?_
          refine TrOps.sem (OpSem.bin rfl rfl rfl bneq) rfl rfl (by decide) ?_
          refine TrOps.sem (OpSem.pickF rfl rfl (by simp; omega) rfl) rfl rfl (by decide) ?_
          refine TrOps.nil ?_
          refine At.seq ?_
          refine Tr.condF rfl (by rw [w3]; simp) ?_
          refine Tr.skip ?_
          refine At.block_normal ?_
          refine At.seq ?_
          refine Tr.region ?_
          refine TrOps.sem (OpSem.move (.inl rfl) rfl) rfl rfl (by decide) ?_
          refine TrOps.sem (OpSem.bin rfl rfl rfl (badd (by omega) (by omega))) rfl rfl (by decide) ?_
          refine TrOps.sem (OpSem.move (.inr rfl) rfl) rfl rfl (by decide) ?_
          refine TrOps.nil ?_
          refine At.again (k + 1) (by omega) ?_ (by omega)
          exact .slot rfl (.refl _) <| .slot rfl (.refl _) <| .slot rfl (.refl _) <| .slot rfl (.refl _) <| .slot rfl (.refl _) <| .slot rfl (Le.of_eq (by simp)) <| .mem rfl <| .nil
        · refine Tr.exit ?_
          refine At.pass_exit ?_
          refine At.pass_exit ?_
          refine At.block_same ?_
          refine At.seq ?_
          refine Tr.seq ?_
          refine Tr.region ?_
          refine TrOps.sem (OpSem.move (.inl rfl) rfl) rfl rfl (by decide) ?_
          refine TrOps.sem (OpSem.fieldr rfl rfl fo25_0) rfl rfl (by decide) ?_
          refine TrOps.sem (OpSem.loadb1 rfl rfl rfl vs3 rfl) rfl rfl (by decide) ?_
          refine TrOps.sem (OpSem.call0 (law_all_does (quoR a (bisR a)).states (by omega)).fresh rfl rfl rfl rfl (Les.refl _)) rfl rfl (by decide) ?_
          refine TrOps.sem (OpSem.call0 (R_Ints_does (bisR (quoR a (bisR a))) (allL (quoR a (bisR a)).states)) rfl rfl rfl rfl (Les.refl _)) rfl rfl (by decide) ?_
          refine TrOps.sem (OpSem.move (.inr rfl) rfl) rfl rfl (by decide) ?_
          refine TrOps.nil ?_
          refine At.seq ?_
          refine Tr.ret ?_
          exact At.ret rfl (.tmp rfl <| .nil) rfl (Le.bo (by first | rfl | (rw [bisR_1 hne]; rfl) | (exfalso; simp [h0] at c40; done) | (rw [h0]; rfl) | (rw [z7]; simp; done) | simp))

theorem Q_QuotientOf_does (a : Abs) (part : List Int) (hF : quoF a part = (0, 0)) : Does Try.prog false 19 [absS a, .d (ints part)] (absS (quoA a part)) := by
  obtain ⟨hA, hln, hP⟩ := quoF_inv hF
  have hst := hA.head.1
  have hns := nS_eq hA
  have hal := hA.len
  have hin := hA.head.2.2
  have htop := topTo_le hP (k := part.length) (Nat.le_refl _)
  have htn := topTo_nn (p := part) (k := part.length)
  refine Does.of_body Try.func19 rfl rfl (by simp) Try.call19 (fun w0 O0 => ?_)
  refine Tr.lenG (n := 0) (i := 2) rfl rfl (fun len0_2 => ?_)
  refine Tr.lenG (n := 0) (i := 4) rfl rfl (fun len0_4 => ?_)
  refine Tr.lenLe (n := 1) rfl (fun len1 => ?_)
  refine Tr.seq ?_
  refine Tr.region ?_
  refine TrOps.semM (OpSem.box 2 rfl rfl rfl rfl) rfl rfl (by decide) ?_
  refine TrOps.semM (OpSem.alloc 4 rfl zc25 rfl) rfl rfl (by decide) ?_
  refine TrOps.nil ?_
  refine At.seq ?_
  refine Tr.seq ?_
  refine Tr.region ?_
  refine TrOps.sem (OpSem.move (.inr rfl) rfl) rfl rfl (by decide) ?_
  refine TrOps.nil ?_
  refine At.seq ?_
  refine Tr.seq ?_
  refine Tr.seq ?_
  refine Tr.region ?_
  refine TrOps.sem (OpSem.move (.inr rfl) rfl) rfl rfl (by decide) ?_
  refine TrOps.nil ?_
  refine At.seq ?_
  refine Tr.block ?_
  refine Tr.loop (X := Nat) (fun k => k ≤ part.length) (fun k => [(1, .d (ints part)), (2, .r 2 0), (4, .r 4 0), (5, I ((topTo part k))), (6, I (k))]) (fun k => [(2, .box [I (a.states), I (a.labels), .d (arcsD a.arcs), I (a.init), .d (ints a.goals)]), (4, .box [I (0), I (0), .d (.v (.slice none 0 0)), I (0), .d (.v (.slice none 0 0))])]) (fun k => part.length - k) 0 (by omega) ?_ ?_
  · exact .slot rfl (.refl _) <| .slot rfl (.refl _) <| .slot rfl (.refl _) <| .slot rfl (Le.of_eq (by simp [topTo])) <| .slot rfl (Le.of_eq (by simp)) <| .mem rfl <| .mem rfl <| .nil
  · rintro k hkl
    refine Tr.seq ?_
    refine Tr.seq ?_
    refine Tr.region ?_
    refine TrOps.sem (OpSem.move (.inl rfl) rfl) rfl rfl (by decide) ?_
    refine TrOps.sem (OpSem.move (.inl rfl) rfl) rfl rfl (by decide) ?_
    refine TrOps.sem (OpSem.lenL rfl rfl es23) rfl rfl (by decide) ?_
    refine TrOps.sem (OpSem.bin rfl rfl rfl blss) rfl rfl (by decide) ?_
    refine TrOps.nil ?_
    refine At.seq ?_
    refine Tr.cond rfl (fun c16 => ?_) (fun c16 => ?_)
    · have hk : k < part.length := by simpa using c16
      have hpk := hP k hk
      have htk := topTo_le hP (k := k) (Nat.le_of_lt hk)
      refine Tr.skip ?_
      refine At.seq ?_
      refine Tr.seq ?_
      refine Tr.block ?_
      refine Tr.region ?_
      refine TrOps.sem (OpSem.move (.inl rfl) rfl) rfl rfl (by decide) ?_
      refine TrOps.sem (OpSem.move (.inl rfl) rfl) rfl rfl (by decide) ?_
      refine TrOps.sem (OpSem.move (.inl rfl) rfl) rfl rfl (by decide) ?_
      refine TrOps.sem (OpSem.idxL rfl rfl rfl es23 (by omega) (by omega)) rfl rfl (by decide) ?_
      refine TrOps.sem (OpSem.load1 rfl rfl vs3 rfl) rfl rfl (by decide) ?_
      refine TrOps.sem (OpSem.bin rfl rfl rfl (badd (by omega) (by omega))) rfl rfl (by decide) ?_
      refine TrOps.sem (OpSem.max2 rfl rfl rfl) rfl rfl (by decide) ?_
      refine TrOps.sem (OpSem.move (.inr rfl) rfl) rfl rfl (by decide) ?_
      refine TrOps.nil ?_
      refine At.block_normal ?_
      refine At.seq ?_
      refine Tr.region ?_
      refine TrOps.sem (OpSem.move (.inl rfl) rfl) rfl rfl (by decide) ?_
      refine TrOps.sem (OpSem.bin rfl rfl rfl (badd (by omega) (by omega))) rfl rfl (by decide) ?_
      refine TrOps.sem (OpSem.move (.inr rfl) rfl) rfl rfl (by decide) ?_
      refine TrOps.nil ?_
      refine At.again (k + 1) (by omega) ?_ (by omega)
      exact .slot rfl (.refl _) <| .slot rfl (.refl _) <| .slot rfl (.refl _) <| .slot rfl (Le.of_eq (by simp [topTo])) <| .slot rfl (Le.of_eq (by simp)) <| .mem rfl <| .mem rfl <| .nil
    · have hk : k = part.length := by simp at c16; omega
      subst hk
      refine Tr.exit ?_
      refine At.pass_exit ?_
      refine At.pass_exit ?_
      refine At.block_same ?_
      refine At.seq ?_
      refine Tr.seq ?_
      refine PC.start [] ?_
      refine PC.sem (OpSem.move (.inl rfl) rfl) rfl rfl ?_
      refine PC.sem (OpSem.fieldr rfl rfl fo25_1) rfl rfl ?_
      refine PC.sem (OpSem.loadb1 rfl rfl rfl vs3 rfl) rfl rfl ?_
      refine PC.sem (OpSem.move (.inl rfl) rfl) rfl rfl ?_
      refine PC.sem (OpSem.fieldr rfl rfl fo25_3) rfl rfl ?_
      refine PC.sem (OpSem.loadb1 rfl rfl rfl vs3 rfl) rfl rfl ?_
      refine PC.sem (OpSem.idxL rfl rfl rfl es23 (by omega) (by omega)) rfl rfl ?_
      refine PC.sem (OpSem.load1 rfl rfl vs3 rfl) rfl rfl ?_
      refine PC.sem (OpSem.build rfl rfl pl25 zc25 rfl rfl) rfl rfl ?_
      refine PC.semM (OpSem.alloc 7 rfl zc25 rfl) rfl rfl ?_
      refine PC.done1 7 (.box [I (0), I (0), .d (.v (.slice none 0 0)), I (0), .d (.v (.slice none 0 0))]) mixed (by kernel_rfl) (by kernel_rfl) (by kernel_rfl) (by kernel_rfl) (by kernel_rfl) ?_
      refine TrOps.storeb rfl rfl rfl rfl rfl rfl rfl vs25 (by first | decide | simp) ?_
      refine TrOps.nil ?_
      refine At.seq ?_
      refine Tr.seq ?_
      refine Tr.seq ?_
      refine Tr.ownNilBox 91 7 4 1 3 rfl rfl rfl ?_
      refine Tr.region ?_
      refine TrOps.sem (OpSem.move (.inr rfl) rfl) rfl rfl (by decide) ?_
      refine TrOps.nil ?_
      refine At.seq ?_
      refine Tr.block ?_
      refine Tr.loop (X := Nat) (fun q => (q : Int) ≤ (topTo part part.length)) (fun q => [(1, .d (ints part)), (2, .r 2 0), (4, .r 4 0), (5, I ((topTo part part.length))), (7, .r 7 0), (8, I (q))]) (fun q => [(7, .box [I ((topTo part part.length)), I (a.labels), .d (.v (.slice none 0 0)), I (nth part a.init), .o 91]), (91, .own 1 3 ((gQ a part q).map fun n => [D.v (.int .i64 n)])), (2, .box [I (a.states), I (a.labels), .d (arcsD a.arcs), I (a.init), .d (ints a.goals)]), (4, .box [I (0), I (0), .d (.v (.slice none 0 0)), I (0), .d (.v (.slice none 0 0))])]) (fun q => (topTo part part.length).toNat - q) 0 (by omega) ?_ ?_
      · exact .slot rfl (.refl _) <| .slot rfl (.refl _) <| .slot rfl (.refl _) <| .slot rfl (.refl _) <| .slot rfl (.refl _) <| .slot rfl (Le.of_eq (by simp)) <| .mem rfl <| .memEq rfl (by first | (simp [gQ]; done) | (simp [gQ]; rfl)) <| .mem rfl <| .mem rfl <| .nil
      · rintro q hql
        refine Tr.seq ?_
        refine Tr.seq ?_
        refine Tr.region ?_
        refine TrOps.sem (OpSem.move (.inl rfl) rfl) rfl rfl (by decide) ?_
        refine TrOps.sem (OpSem.move (.inl rfl) rfl) rfl rfl (by decide) ?_
        refine TrOps.sem (OpSem.bin rfl rfl rfl blss) rfl rfl (by decide) ?_
        refine TrOps.nil ?_
        refine At.seq ?_
        refine Tr.cond rfl (fun c37 => ?_) (fun c37 => ?_)
        · have hq : (q : Int) < (topTo part part.length) := by simpa using c37
          have hgl := gQ_len (a := a) (p := part) (k := q)
          refine Tr.skip ?_
          refine At.seq ?_
          refine Tr.seq ?_
          refine Tr.block ?_
          refine Tr.seq ?_
          refine Tr.region ?_
          refine TrOps.sem (OpSem.move (.inr rfl) rfl) rfl rfl (by decide) ?_
          refine TrOps.nil ?_
          refine At.seq ?_
          refine Tr.seq ?_
          refine Tr.seq ?_
          refine Tr.region ?_
          refine TrOps.sem (OpSem.move (.inr rfl) rfl) rfl rfl (by decide) ?_
          refine TrOps.nil ?_
          refine At.seq ?_
          refine Tr.block ?_
          refine Tr.loop (X := Nat) (fun x => x ≤ part.length) (fun x => [(1, .d (ints part)), (2, .r 2 0), (4, .r 4 0), (5, I ((topTo part part.length))), (7, .r 7 0), (8, I (q)), (9, Bo (gFl a part q x)), (10, I (x))]) (fun x => [(7, .box [I ((topTo part part.length)), I (a.labels), .d (.v (.slice none 0 0)), I (nth part a.init), .o 91]), (91, .own 1 3 ((gQ a part q).map fun n => [D.v (.int .i64 n)])), (2, .box [I (a.states), I (a.labels), .d (arcsD a.arcs), I (a.init), .d (ints a.goals)]), (4, .box [I (0), I (0), .d (.v (.slice none 0 0)), I (0), .d (.v (.slice none 0 0))])]) (fun x => part.length - x) 0 (by omega) ?_ ?_
          · exact .slot rfl (.refl _) <| .slot rfl (.refl _) <| .slot rfl (.refl _) <| .slot rfl (.refl _) <| .slot rfl (.refl _) <| .slot rfl (.refl _) <| .slot rfl (Le.bo rfl) <| .slot rfl (Le.of_eq (by simp)) <| .mem rfl <| .memEq rfl rfl <| .mem rfl <| .mem rfl <| .nil
          · rintro x hxl
            refine Tr.seq ?_
            refine Tr.seq ?_
            refine Tr.region ?_
            refine TrOps.sem (OpSem.move (.inl rfl) rfl) rfl rfl (by decide) ?_
            refine TrOps.sem (OpSem.move (.inl rfl) rfl) rfl rfl (by decide) ?_
            refine TrOps.sem (OpSem.lenL rfl rfl es23) rfl rfl (by decide) ?_
            refine TrOps.sem (OpSem.bin rfl rfl rfl blss) rfl rfl (by decide) ?_
            refine TrOps.nil ?_
            refine At.seq ?_
            refine Tr.cond rfl (fun c43 => ?_) (fun c43 => ?_)
            · have hx : x < part.length := by simpa using c43
              refine Tr.skip ?_
              refine At.seq ?_
              refine Tr.seq ?_
              refine Tr.block ?_
              refine Tr.region ?_
              refine TrOps.sem (OpSem.move (.inl rfl) rfl) rfl rfl (by decide) ?_
              refine TrOps.sem (OpSem.move (.inl rfl) rfl) rfl rfl (by decide) ?_
              refine TrOps.split (n := 47) rfl (fun c47 => ?_) (fun c47 => ?_)
              · refine TrOps.gF rfl rfl rfl rfl c47 rfl (by decide) ?_
                refine TrOps.gF rfl rfl rfl rfl c47 rfl (by decide) ?_
                refine TrOps.gF rfl rfl rfl rfl c47 rfl (by decide) ?_
                refine TrOps.gF rfl rfl rfl rfl c47 rfl (by decide) ?_
                refine TrOps.gF rfl rfl rfl rfl c47 rfl (by decide) ?_
                refine TrOps.gF rfl rfl rfl rfl c47 rfl (by decide) ?_
                refine TrOps.gF rfl rfl rfl rfl c47 rfl (by decide) ?_
                refine TrOps.gU rfl rfl rfl rfl rfl (by decide) ?_
                refine TrOps.gU rfl rfl rfl rfl rfl (by decide) ?_
                refine TrOps.gU rfl rfl rfl rfl rfl (by decide) ?_
                refine TrOps.gU rfl rfl rfl rfl rfl (by decide) ?_
                refine TrOps.gF rfl rfl rfl rfl c47 rfl (by decide) ?_
                refine TrOps.sem (OpSem.pickT rfl rfl c47 rfl) rfl rfl (by decide) ?_
                refine TrOps.sem (OpSem.move (.inr rfl) rfl) rfl rfl (by decide) ?_
                refine TrOps.nil ?_
                refine At.block_normal ?_
                refine At.seq ?_
                refine Tr.region ?_
                refine TrOps.sem (OpSem.move (.inl rfl) rfl) rfl rfl (by decide) ?_
                refine TrOps.sem (OpSem.bin rfl rfl rfl (badd (by omega) (by omega))) rfl rfl (by decide) ?_
                refine TrOps.sem (OpSem.move (.inr rfl) rfl) rfl rfl (by decide) ?_
                refine TrOps.nil ?_
                refine At.again (x + 1) (by omega) ?_ (by omega)
                exact .slot rfl (.refl _) <| .slot rfl (.refl _) <| .slot rfl (.refl _) <| .slot rfl (.refl _) <| .slot rfl (.refl _) <| .slot rfl (.refl _) <| .slot rfl (Le.bo (by simp only [gFl]; simp_all)) <| .slot rfl (Le.of_eq (by simp)) <| .mem rfl <| .memEq rfl rfl <| .mem rfl <| .mem rfl <| .nil
              · refine TrOps.gT rfl rfl rfl rfl c47 ?_
                refine TrOps.sem (OpSem.move (.inl rfl) rfl) rfl rfl (by decide) ?_
                refine TrOps.gT rfl rfl rfl rfl c47 ?_
                refine TrOps.sem (OpSem.move (.inl rfl) rfl) rfl rfl (by decide) ?_
                refine TrOps.gT rfl rfl rfl rfl c47 ?_
                refine TrOps.sem (OpSem.idxL rfl rfl rfl es23 (by omega) (by omega)) rfl rfl (by decide) ?_
                refine TrOps.gT rfl rfl rfl rfl c47 ?_
                refine TrOps.sem (OpSem.load1 rfl rfl vs3 rfl) rfl rfl (by decide) ?_
                refine TrOps.gT rfl rfl rfl rfl c47 ?_
                refine TrOps.sem (OpSem.move (.inl rfl) rfl) rfl rfl (by decide) ?_
                refine TrOps.gT rfl rfl rfl rfl c47 ?_
                refine TrOps.sem (OpSem.bin rfl rfl rfl beql) rfl rfl (by decide) ?_
                refine TrOps.gT rfl rfl rfl rfl c47 ?_
                refine TrOps.sem (OpSem.move (.inl rfl) rfl) rfl rfl (by decide) ?_
                refine TrOps.split (n := 54) rfl (fun c54 => ?_) (fun c54 => ?_)
                · refine TrOps.gT rfl rfl rfl rfl c54 ?_
                  refine TrOps.sem (OpSem.fieldr rfl rfl fo25_4) rfl rfl (by decide) ?_
                  refine TrOps.gT rfl rfl rfl rfl c54 ?_
                  refine TrOps.sem (OpSem.loadb1 rfl rfl rfl vs23 rfl) rfl rfl (by decide) ?_
                  refine TrOps.gT rfl rfl rfl rfl c54 ?_
                  refine TrOps.sem (OpSem.move (.inl rfl) rfl) rfl rfl (by decide) ?_
                  refine TrOps.gT rfl rfl rfl rfl c54 ?_
                  refine TrOps.sem (OpSem.call0 (R_Has_does a.goals (x : Int)) rfl rfl rfl rfl (Les.refl _)) rfl rfl (by decide) ?_
                  refine TrOps.gT rfl rfl rfl rfl c47 ?_
                  refine TrOps.sem (OpSem.pickT rfl rfl c54 rfl) rfl rfl (by decide) ?_
                  refine TrOps.sem (OpSem.pickF rfl rfl c47 rfl) rfl rfl (by decide) ?_
                  refine TrOps.sem (OpSem.move (.inr rfl) rfl) rfl rfl (by decide) ?_
                  refine TrOps.nil ?_
                  refine At.block_normal ?_
                  refine At.seq ?_
                  refine Tr.region ?_
                  refine TrOps.sem (OpSem.move (.inl rfl) rfl) rfl rfl (by decide) ?_
                  refine TrOps.sem (OpSem.bin rfl rfl rfl (badd (by omega) (by omega))) rfl rfl (by decide) ?_
                  refine TrOps.sem (OpSem.move (.inr rfl) rfl) rfl rfl (by decide) ?_
                  refine TrOps.nil ?_
                  refine At.again (x + 1) (by omega) ?_ (by omega)
                  exact .slot rfl (.refl _) <| .slot rfl (.refl _) <| .slot rfl (.refl _) <| .slot rfl (.refl _) <| .slot rfl (.refl _) <| .slot rfl (.refl _) <| .slot rfl (Le.bo (by simp only [gFl]; simp_all)) <| .slot rfl (Le.of_eq (by simp)) <| .mem rfl <| .memEq rfl rfl <| .mem rfl <| .mem rfl <| .nil
                · refine TrOps.gF rfl rfl rfl rfl c54 rfl (by decide) ?_
                  refine TrOps.gF rfl rfl rfl rfl c54 rfl (by decide) ?_
                  refine TrOps.gF rfl rfl rfl rfl c54 rfl (by decide) ?_
                  refine TrOps.gF rfl rfl rfl rfl c54 rfl (by decide) ?_
                  refine TrOps.gT rfl rfl rfl rfl c47 ?_
                  refine TrOps.sem (OpSem.pickF rfl rfl c54 rfl) rfl rfl (by decide) ?_
                  refine TrOps.sem (OpSem.pickF rfl rfl c47 rfl) rfl rfl (by decide) ?_
                  refine TrOps.sem (OpSem.move (.inr rfl) rfl) rfl rfl (by decide) ?_
                  refine TrOps.nil ?_
                  refine At.block_normal ?_
                  refine At.seq ?_
                  refine Tr.region ?_
                  refine TrOps.sem (OpSem.move (.inl rfl) rfl) rfl rfl (by decide) ?_
                  refine TrOps.sem (OpSem.bin rfl rfl rfl (badd (by omega) (by omega))) rfl rfl (by decide) ?_
                  refine TrOps.sem (OpSem.move (.inr rfl) rfl) rfl rfl (by decide) ?_
                  refine TrOps.nil ?_
                  refine At.again (x + 1) (by omega) ?_ (by omega)
                  exact .slot rfl (.refl _) <| .slot rfl (.refl _) <| .slot rfl (.refl _) <| .slot rfl (.refl _) <| .slot rfl (.refl _) <| .slot rfl (.refl _) <| .slot rfl (Le.bo (by simp only [gFl]; simp_all)) <| .slot rfl (Le.of_eq (by simp)) <| .mem rfl <| .memEq rfl rfl <| .mem rfl <| .mem rfl <| .nil
            · have hx : x = part.length := by simp at c43; omega
              subst hx
              refine Tr.exit ?_
              refine At.pass_exit ?_
              refine At.pass_exit ?_
              refine At.block_same ?_
              refine At.seq ?_
              refine Tr.seq ?_
              refine Tr.region ?_
              refine TrOps.sem (OpSem.move (.inl rfl) rfl) rfl rfl (by decide) ?_
              refine TrOps.nil ?_
              refine At.seq ?_
              refine Tr.cond rfl (fun c61 => ?_) (fun c61 => ?_)
              · have hgq : gQ a part (q + 1) = gQ a part q ++ [(q : Int)] := by simp only [gQ]; rw [if_pos c61]
                refine Tr.region ?_
                refine TrOps.sem (OpSem.fieldr rfl rfl fo25_4) rfl rfl (by decide) ?_
                refine TrOps.sem (OpSem.loadb1 rfl rfl rfl vs23 rfl) rfl rfl (by decide) ?_
                refine TrOps.sem (OpSem.move (.inl rfl) rfl) rfl rfl (by decide) ?_
                refine TrOps.sem (OpSem.buildSlice rfl rfl es23 ze23 rfl rfl (by decide) (by decide) rfl rfl) rfl rfl (by decide) ?_
                refine TrOps.append rfl rfl rfl (by decide) rfl rfl rfl es23 el23 zc3 rfl by3 (by simp [D.one, Value.oneCell']) (by simp [maxLen]; omega) (by simp; omega) ?_
                refine TrOps.sem (OpSem.fieldr rfl rfl fo25_4) rfl rfl (by decide) ?_
                refine TrOps.storeb rfl rfl rfl rfl rfl rfl rfl vs23 (by first | decide | simp) ?_
                refine TrOps.nil ?_
                refine At.block_normal ?_
                refine At.seq ?_
                refine Tr.region ?_
                refine TrOps.sem (OpSem.move (.inl rfl) rfl) rfl rfl (by decide) ?_
                refine TrOps.sem (OpSem.bin rfl rfl rfl (badd (by omega) (by omega))) rfl rfl (by decide) ?_
                refine TrOps.sem (OpSem.move (.inr rfl) rfl) rfl rfl (by decide) ?_
                refine TrOps.nil ?_
                refine At.again (q + 1) (by omega) ?_ (by omega)
                exact .slot rfl (.refl _) <| .slot rfl (.refl _) <| .slot rfl (.refl _) <| .slot rfl (.refl _) <| .slot rfl (.refl _) <| .slot rfl (Le.of_eq (by simp)) <| .mem rfl <| .memEq rfl (by rw [hgq]; simp) <| .mem rfl <| .mem rfl <| .nil
              · have hgq : gQ a part (q + 1) = gQ a part q := by simp only [gQ]; rw [if_neg (by rw [c61]; simp)]
                refine Tr.skip ?_
                refine At.block_normal ?_
                refine At.seq ?_
                refine Tr.region ?_
                refine TrOps.sem (OpSem.move (.inl rfl) rfl) rfl rfl (by decide) ?_
                refine TrOps.sem (OpSem.bin rfl rfl rfl (badd (by omega) (by omega))) rfl rfl (by decide) ?_
                refine TrOps.sem (OpSem.move (.inr rfl) rfl) rfl rfl (by decide) ?_
                refine TrOps.nil ?_
                refine At.again (q + 1) (by omega) ?_ (by omega)
                exact .slot rfl (.refl _) <| .slot rfl (.refl _) <| .slot rfl (.refl _) <| .slot rfl (.refl _) <| .slot rfl (.refl _) <| .slot rfl (Le.of_eq (by simp)) <| .mem rfl <| .memEq rfl (by rw [hgq]) <| .mem rfl <| .mem rfl <| .nil
        · have hq : q = (topTo part part.length).toNat := by simp at c37; omega
          subst hq
          refine Tr.exit ?_
          refine At.pass_exit ?_
          refine At.pass_exit ?_
          refine At.block_same ?_
          refine At.seq ?_
          refine Tr.seq ?_
          refine Tr.seq ?_
          refine Tr.freeze 91 rfl ?_
          refine Tr.region ?_
          refine TrOps.sem (OpSem.move (.inr rfl) rfl) rfl rfl (by decide) ?_
          refine TrOps.nil ?_
          refine At.seq ?_
          refine Tr.block ?_
          refine Tr.loop (X := Nat) (fun k => k ≤ a.arcs.length) (fun k => [(1, .d (ints part)), (2, .r 2 0), (4, .r 4 0), (7, .r 7 0), (11, I (k))]) (fun k => [(7, .box [I ((topTo part part.length)), I (a.labels), .d (arcsD (insTo (qI a part) k)), I (nth part a.init), .d (ints (gQ a part (topTo part part.length).toNat))]), (2, .box [I (a.states), I (a.labels), .d (arcsD a.arcs), I (a.init), .d (ints a.goals)]), (4, .box [I (0), I (0), .d (.v (.slice none 0 0)), I (0), .d (.v (.slice none 0 0))])]) (fun k => a.arcs.length - k) 0 (by omega) ?_ ?_
          · exact .slot rfl (.refl _) <| .slot rfl (.refl _) <| .slot rfl (.refl _) <| .slot rfl (.refl _) <| .slot rfl (Le.of_eq (by simp)) <| .boxLe rfl (.cons (.refl _) <| .cons (.refl _) <| .cons (Le.nil 3) <| .cons (.refl _) <| .cons (.refl _) <| .nil) <| .mem rfl <| .mem rfl <| .nil
          · rintro k hkl
            refine Tr.seq ?_
            refine Tr.seq ?_
            refine Tr.region ?_
            refine TrOps.sem (OpSem.move (.inl rfl) rfl) rfl rfl (by decide) ?_
            refine TrOps.sem (OpSem.fieldr rfl rfl fo25_2) rfl rfl (by decide) ?_
            refine TrOps.sem (OpSem.loadb1 rfl rfl rfl vs22 rfl) rfl rfl (by decide) ?_
            refine TrOps.sem (OpSem.lenL rfl rfl es22) rfl rfl (by decide) ?_
            refine TrOps.sem (OpSem.bin rfl rfl rfl blss) rfl rfl (by decide) ?_
            refine TrOps.nil ?_
            refine At.seq ?_
            refine Tr.cond rfl (fun c72 => ?_) (fun c72 => ?_)
            · have hk : k < a.arcs.length := by simpa using c72
              have hx := hA.arc k hk
              refine Tr.skip ?_
              refine At.seq ?_
              refine Tr.seq ?_
              refine Tr.block ?_
              refine Tr.seq ?_
              refine PC.start [] ?_
              refine PC.sem (OpSem.move (.inl rfl) rfl) rfl rfl ?_
              refine PC.sem (OpSem.fieldr rfl rfl fo25_2) rfl rfl ?_
              refine PC.sem (OpSem.loadb1 rfl rfl rfl vs22 rfl) rfl rfl ?_
              refine PC.sem (OpSem.move (.inl rfl) rfl) rfl rfl ?_
              refine PC.sem (OpSem.idxL rfl rfl rfl es22 (by omega) (by omega)) rfl rfl ?_
              refine PC.sem (OpSem.fieldp rfl rfl fo57_0) rfl rfl ?_
              refine PC.sem (OpSem.load1 rfl rfl vs3 rfl) rfl rfl ?_
              refine PC.sem (OpSem.idxL rfl rfl rfl es23 (by omega) (by omega)) rfl rfl ?_
              refine PC.sem (OpSem.load1 rfl rfl vs3 rfl) rfl rfl ?_
              refine PC.sem (OpSem.fieldr rfl rfl fo25_2) rfl rfl ?_
              refine PC.sem (OpSem.loadb1 rfl rfl rfl vs22 rfl) rfl rfl ?_
              refine PC.sem (OpSem.move (.inl rfl) rfl) rfl rfl ?_
              refine PC.sem (OpSem.idxL rfl rfl rfl es22 (by omega) (by omega)) rfl rfl ?_
              refine PC.sem (OpSem.fieldp rfl rfl fo57_1) rfl rfl ?_
              refine PC.sem (OpSem.load1 rfl rfl vs3 rfl) rfl rfl ?_
              refine PC.sem (OpSem.move (.inl rfl) rfl) rfl rfl ?_
              refine PC.sem (OpSem.fieldr rfl rfl fo25_2) rfl rfl ?_
              refine PC.sem (OpSem.loadb1 rfl rfl rfl vs22 rfl) rfl rfl ?_
              refine PC.sem (OpSem.move (.inl rfl) rfl) rfl rfl ?_
              refine PC.sem (OpSem.idxL rfl rfl rfl es22 (by omega) (by omega)) rfl rfl ?_
              refine PC.sem (OpSem.fieldp rfl rfl fo57_2) rfl rfl ?_
              refine PC.sem (OpSem.load1 rfl rfl vs3 rfl) rfl rfl ?_
              refine PC.sem (OpSem.idxL rfl rfl rfl es23 (by omega) (by omega)) rfl rfl ?_
              refine PC.sem (OpSem.load1 rfl rfl vs3 rfl) rfl rfl ?_
              refine PC.sem (OpSem.build rfl rfl pl57 zc57 rfl rfl) rfl rfl ?_
              refine PC.semM (OpSem.alloc 12 rfl zc57 rfl) rfl rfl ?_
              refine PC.done1 12 (.box [I (0), I (0), I (0)]) mixed (by kernel_rfl) (by kernel_rfl) (by kernel_rfl) (by kernel_rfl) (by kernel_rfl) ?_
              refine TrOps.storeb rfl rfl rfl rfl rfl rfl rfl vs57 (by first | decide | simp) ?_
              refine TrOps.nil ?_
              refine At.seq ?_
              refine Tr.region ?_
              refine TrOps.sem (OpSem.fieldr rfl rfl fo25_2) rfl rfl (by decide) ?_
              refine TrOps.sem (OpSem.loadb1 rfl rfl rfl vs22 rfl) rfl rfl (by decide) ?_
              refine TrOps.sem (OpSem.loadbN rfl rfl rfl vs57 (by first | decide | simp)) rfl rfl (by decide) ?_
              refine TrOps.sem (OpSem.call0 (Q_insert_does (insTo (qI a part) k) (qI a part k) (by have := insTo_len (f := qI a part) (k := k); omega)).fresh rfl rfl rfl rfl (Les.refl _)) rfl rfl (by decide) ?_
              refine TrOps.sem (OpSem.fieldr rfl rfl fo25_2) rfl rfl (by decide) ?_
              refine TrOps.storeb rfl rfl rfl rfl rfl rfl rfl vs22 (by first | decide | simp) ?_
              refine TrOps.nil ?_
              refine At.block_normal ?_
              refine At.seq ?_
              refine Tr.region ?_
              refine TrOps.sem (OpSem.move (.inl rfl) rfl) rfl rfl (by decide) ?_
              refine TrOps.sem (OpSem.bin rfl rfl rfl (badd (by omega) (by omega))) rfl rfl (by decide) ?_
              refine TrOps.sem (OpSem.move (.inr rfl) rfl) rfl rfl (by decide) ?_
              refine TrOps.nil ?_
              refine At.again (k + 1) (by omega) ?_ (by omega)
              exact .slot rfl (.refl _) <| .slot rfl (.refl _) <| .slot rfl (.refl _) <| .slot rfl (.refl _) <| .slot rfl (Le.of_eq (by simp)) <| .mem rfl <| .mem rfl <| .mem rfl <| .nil
            · have hk : k = a.arcs.length := by simp at c72; omega
              subst hk
              refine Tr.exit ?_
              refine At.pass_exit ?_
              refine At.pass_exit ?_
              refine At.block_same ?_
              refine At.seq ?_
              refine Tr.seq ?_
              refine Tr.region ?_
              refine TrOps.sem (OpSem.loadbN rfl rfl rfl vs25 (by first | decide | simp)) rfl rfl (by decide) ?_
              refine TrOps.storeb rfl rfl rfl rfl rfl rfl rfl vs25 (by first | decide | simp) ?_
              refine TrOps.nil ?_
              refine At.seq ?_
              refine Tr.ret ?_
              exact At.ret rfl (.cellN rfl rfl vs25 <| .nil) rfl (Le.of_eq (by rw [quo_ins, gQ_end hF]; rfl))

theorem law_ShrinkQuotientMatchesSpec_does (a : Abs) (part : List Int) (hr : -9223372036854775808 ≤ a.states ∧ a.states ≤ 9223372036854775807) : Does Try.prog false 5 [absS a, .d (ints part)] (Bo true) := by
  refine Does.of_body Try.func5 rfl rfl (by simp) Try.call5 (fun w0 O0 => ?_)
  refine Tr.lenG (n := 0) (i := 2) rfl rfl (fun len0_2 => ?_)
  refine Tr.lenG (n := 0) (i := 4) rfl rfl (fun len0_4 => ?_)
  refine Tr.lenLe (n := 1) rfl (fun len1 => ?_)
  refine Tr.seq ?_
  refine Tr.region ?_
  refine TrOps.semM (OpSem.box 2 rfl rfl rfl rfl) rfl rfl (by decide) ?_
  refine TrOps.sem (OpSem.move (.inr rfl) rfl) rfl rfl (by decide) ?_
  refine TrOps.nil ?_
  refine At.seq ?_
  refine Tr.seq ?_
  refine Tr.seq ?_
  refine Tr.region ?_
  refine TrOps.sem (OpSem.call0 (law_shrinkExample_does) rfl rfl rfl rfl (Les.refl _)) rfl rfl (by decide) ?_
  refine TrOps.sem (OpSem.not rfl rfl) rfl rfl (by decide) ?_
  refine TrOps.nil ?_
  refine At.seq ?_
  refine Tr.condF rfl rfl ?_
  refine Tr.skip ?_
  refine At.seq ?_
  refine Tr.seq ?_
  refine Tr.region ?_
  refine TrOps.sem (OpSem.loadbN rfl rfl rfl vs25 (by first | decide | simp)) rfl rfl (by decide) ?_
  refine TrOps.sem (OpSem.move (.inl rfl) rfl) rfl rfl (by decide) ?_
  refine TrOps.sem (OpSem.call0 (shrink_Quotient_does a part hr) rfl rfl rfl rfl (Les.refl _)) rfl rfl (by decide) ?_
  refine TrOps.sem (OpSem.move (.inl rfl) rfl) rfl rfl (by decide) ?_
  refine TrOps.sem (OpSem.extract rfl rfl rfl) rfl rfl (by decide) ?_
  refine TrOps.sem (OpSem.extract rfl rfl rfl) rfl rfl (by decide) ?_
  refine TrOps.semM (OpSem.alloc 5 rfl zc25 rfl) rfl rfl (by decide) ?_
  refine TrOps.semM (OpSem.alloc 6 rfl zc28 rfl) rfl rfl (by decide) ?_
  refine TrOps.storeb rfl rfl rfl rfl rfl rfl rfl vs25 (by first | decide | simp) ?_
  refine TrOps.storeb rfl rfl rfl rfl rfl rfl rfl vs28 (by first | decide | simp) ?_
  refine TrOps.nil ?_
  refine At.seq ?_
  refine Tr.seq ?_
  refine Tr.region ?_
  refine TrOps.sem (OpSem.loadbN rfl rfl rfl vs25 (by first | decide | simp)) rfl rfl (by decide) ?_
  refine TrOps.sem (OpSem.call0 (Q_AbstractionFault_does a) rfl rfl rfl rfl (Les.refl _)) rfl rfl (by decide) ?_
  refine TrOps.semM (OpSem.alloc 7 rfl zc28 rfl) rfl rfl (by decide) ?_
  refine TrOps.storeb rfl rfl rfl rfl rfl rfl rfl vs28 (by first | decide | simp) ?_
  refine TrOps.nil ?_
  refine At.seq ?_
  refine Tr.cut [(2, .r 2 0), (1, .d (ints part)), (4, Bo (false)), (5, .r 5 0), (6, .r 6 0), (7, .r 7 0)] [(2, .box [I (a.states), I (a.labels), .d (arcsD a.arcs), I (a.init), .d (ints a.goals)]), (5, .box [I ((quoR a part).states), I ((quoR a part).labels), .d (arcsD ((quoR a part).arcs)), I ((quoR a part).init), .d (ints ((quoR a part).goals))]), (6, .box [I ((quoF a part).1), I ((quoF a part).2)]), (7, .box [I ((quoF1 a part).1), I ((quoF1 a part).2)])] ?_ ?_
  · refine Tr.seq ?_
    refine Tr.region ?_
    refine TrOps.sem (OpSem.fieldr rfl rfl fo28_0) rfl rfl (by decide) ?_
    refine TrOps.sem (OpSem.loadb1 rfl rfl rfl vs3 rfl) rfl rfl (by decide) ?_
    refine TrOps.sem (OpSem.bin rfl rfl rfl beql) rfl rfl (by decide) ?_
    refine TrOps.sem (OpSem.move (.inl rfl) rfl) rfl rfl (by decide) ?_
    refine TrOps.split (n := 21) rfl (fun c21 => ?_) (fun c21 => ?_)
    · refine TrOps.gT rfl rfl rfl rfl c21 ?_
      refine TrOps.sem (OpSem.move (.inl rfl) rfl) rfl rfl (by decide) ?_
      refine TrOps.gT rfl rfl rfl rfl c21 ?_
      refine TrOps.sem (OpSem.lenL rfl rfl es23) rfl rfl (by decide) ?_
      refine TrOps.gT rfl rfl rfl rfl c21 ?_
      refine TrOps.sem (OpSem.fieldr rfl rfl fo25_0) rfl rfl (by decide) ?_
      refine TrOps.gT rfl rfl rfl rfl c21 ?_
      refine TrOps.sem (OpSem.loadb1 rfl rfl rfl vs3 rfl) rfl rfl (by decide) ?_
      refine TrOps.gT rfl rfl rfl rfl c21 ?_
      refine TrOps.sem (OpSem.bin rfl rfl rfl bneq) rfl rfl (by decide) ?_
      refine TrOps.sem (OpSem.pickT rfl rfl c21 rfl) rfl rfl (by decide) ?_
      refine TrOps.nil ?_
      refine At.seq ?_
      refine Tr.cond rfl (fun c27 => ?_) (fun c27 => ?_)
      · refine Tr.region ?_
        refine TrOps.sem (OpSem.call0 (R_At_does ..) rfl rfl rfl rfl (Les.refl _)) rfl rfl (by decide) ?_
        refine TrOps.storeb rfl rfl rfl rfl rfl rfl rfl vs28 (by first | decide | simp) ?_
        refine TrOps.nil ?_
        have he : (9, -4) = quoF1 a part := by have q := absFault_c (a := a) (by simpa using c21); unfold quoF1; rw [if_neg (fun hn => hn q), if_pos (by simpa using c27)]
        refine At.meet ?_
        exact .slot rfl (.refl _) <| .slot rfl (.refl _) <| .slot rfl (.refl _) <| .slot rfl (.refl _) <| .slot rfl (.refl _) <| .slot rfl (.refl _) <| .mem rfl <| .mem rfl <| .mem rfl <| .boxLe rfl (.cons (Le.i (congrArg Prod.fst (he))) <| .cons (Le.i (congrArg Prod.snd (he))) <| .nil) <| .nil
      · refine Tr.skip ?_
        have he : absFault a = quoF1 a part := by have q := absFault_c (a := a) (by simpa using c21); unfold quoF1; rw [if_neg (fun hn => hn q), if_neg (by simpa using c27), q]
        refine At.meet ?_
        exact .slot rfl (.refl _) <| .slot rfl (.refl _) <| .slot rfl (.refl _) <| .slot rfl (.refl _) <| .slot rfl (.refl _) <| .slot rfl (.refl _) <| .mem rfl <| .mem rfl <| .mem rfl <| .boxLe rfl (.cons (Le.i (congrArg Prod.fst (he))) <| .cons (Le.i (congrArg Prod.snd (he))) <| .nil) <| .nil
    · refine TrOps.gF rfl rfl rfl rfl c21 rfl (by decide) ?_
      refine TrOps.gF rfl rfl rfl rfl c21 rfl (by decide) ?_
      refine TrOps.gF rfl rfl rfl rfl c21 rfl (by decide) ?_
      refine TrOps.gF rfl rfl rfl rfl c21 rfl (by decide) ?_
      refine TrOps.gF rfl rfl rfl rfl c21 rfl (by decide) ?_
      refine TrOps.sem (OpSem.pickF rfl rfl c21 rfl) rfl rfl (by decide) ?_
      refine TrOps.nil ?_
      refine At.seq ?_
      refine Tr.condF rfl rfl ?_
      refine Tr.skip ?_
      have he : absFault a = quoF1 a part := by unfold quoF1; rw [if_pos (fun h => by simp [h] at c21)]
      refine At.meet ?_
      exact .slot rfl (.refl _) <| .slot rfl (.refl _) <| .slot rfl (.refl _) <| .slot rfl (.refl _) <| .slot rfl (.refl _) <| .slot rfl (.refl _) <| .mem rfl <| .mem rfl <| .mem rfl <| .boxLe rfl (.cons (Le.i (congrArg Prod.fst (he))) <| .cons (Le.i (congrArg Prod.snd (he))) <| .nil) <| .nil
  · refine Tr.cut [(2, .r 2 0), (1, .d (ints part)), (4, Bo (false)), (5, .r 5 0), (6, .r 6 0), (7, .r 7 0)] [(2, .box [I (a.states), I (a.labels), .d (arcsD a.arcs), I (a.init), .d (ints a.goals)]), (5, .box [I ((quoR a part).states), I ((quoR a part).labels), .d (arcsD ((quoR a part).arcs)), I ((quoR a part).init), .d (ints ((quoR a part).goals))]), (6, .box [I ((quoF a part).1), I ((quoF a part).2)]), (7, .box [I ((quoF a part).1), I ((quoF a part).2)])] ?_ ?_
    · refine Tr.seq ?_
      refine Tr.region ?_
      refine TrOps.sem (OpSem.fieldr rfl rfl fo28_0) rfl rfl (by decide) ?_
      refine TrOps.sem (OpSem.loadb1 rfl rfl rfl vs3 rfl) rfl rfl (by decide) ?_
      refine TrOps.sem (OpSem.bin rfl rfl rfl beql) rfl rfl (by decide) ?_
      refine TrOps.sem (OpSem.move (.inl rfl) rfl) rfl rfl (by decide) ?_
      refine TrOps.split (n := 32) rfl (fun c32 => ?_) (fun c32 => ?_)
      · refine TrOps.gT rfl rfl rfl rfl c32 ?_
        refine TrOps.sem (OpSem.move (.inl rfl) rfl) rfl rfl (by decide) ?_
        refine TrOps.gT rfl rfl rfl rfl c32 ?_
        refine TrOps.sem (OpSem.call0 (Q_IsPartition_does part) rfl rfl rfl rfl (Les.refl _)) rfl rfl (by decide) ?_
        refine TrOps.gT rfl rfl rfl rfl c32 ?_
        refine TrOps.sem (OpSem.not rfl rfl) rfl rfl (by decide) ?_
        refine TrOps.sem (OpSem.pickT rfl rfl c32 rfl) rfl rfl (by decide) ?_
        refine TrOps.nil ?_
        refine At.seq ?_
        refine Tr.cond rfl (fun c36 => ?_) (fun c36 => ?_)
        · refine Tr.region ?_
          refine TrOps.sem (OpSem.call0 (R_At_does ..) rfl rfl rfl rfl (Les.refl _)) rfl rfl (by decide) ?_
          refine TrOps.storeb rfl rfl rfl rfl rfl rfl rfl vs28 (by first | decide | simp) ?_
          refine TrOps.nil ?_
          obtain ⟨q1, q2, q3⟩ := quoF1_ok (a := a) (p := part) (by simpa using c32)
          have he : (5, -4) = quoF a part := quoF_3 q1 q2 (by simpa using c36)
          refine At.meet ?_
          exact .slot rfl (.refl _) <| .slot rfl (.refl _) <| .slot rfl (.refl _) <| .slot rfl (.refl _) <| .slot rfl (.refl _) <| .slot rfl (.refl _) <| .mem rfl <| .mem rfl <| .mem rfl <| .boxLe rfl (.cons (Le.i (congrArg Prod.fst (he))) <| .cons (Le.i (congrArg Prod.snd (he))) <| .nil) <| .nil
        · refine Tr.skip ?_
          obtain ⟨q1, q2, q3⟩ := quoF1_ok (a := a) (p := part) (by simpa using c32)
          have he : quoF1 a part = quoF a part := by rw [q3]; exact (quoF_of (absFault_ok (congrArg Prod.fst q1)).1 q2 (by simpa using c36)).symm
          refine At.meet ?_
          exact .slot rfl (.refl _) <| .slot rfl (.refl _) <| .slot rfl (.refl _) <| .slot rfl (.refl _) <| .slot rfl (.refl _) <| .slot rfl (.refl _) <| .mem rfl <| .mem rfl <| .mem rfl <| .boxLe rfl (.cons (Le.i (congrArg Prod.fst (he))) <| .cons (Le.i (congrArg Prod.snd (he))) <| .nil) <| .nil
      · refine TrOps.gF rfl rfl rfl rfl c32 rfl (by decide) ?_
        refine TrOps.gF rfl rfl rfl rfl c32 rfl (by decide) ?_
        refine TrOps.gF rfl rfl rfl rfl c32 rfl (by decide) ?_
        refine TrOps.sem (OpSem.pickF rfl rfl c32 rfl) rfl rfl (by decide) ?_
        refine TrOps.nil ?_
        refine At.seq ?_
        refine Tr.condF rfl rfl ?_
        refine Tr.skip ?_
        have he : quoF1 a part = quoF a part := quoF_bad (by simpa using c32)
        refine At.meet ?_
        exact .slot rfl (.refl _) <| .slot rfl (.refl _) <| .slot rfl (.refl _) <| .slot rfl (.refl _) <| .slot rfl (.refl _) <| .slot rfl (.refl _) <| .mem rfl <| .mem rfl <| .mem rfl <| .boxLe rfl (.cons (Le.i (congrArg Prod.fst (he))) <| .cons (Le.i (congrArg Prod.snd (he))) <| .nil) <| .nil
    · refine Tr.seq ?_
      refine Tr.seq ?_
      refine Tr.region ?_
      refine TrOps.sem (OpSem.fieldr rfl rfl fo28_0) rfl rfl (by decide) ?_
      refine TrOps.sem (OpSem.loadb1 rfl rfl rfl vs3 rfl) rfl rfl (by decide) ?_
      refine TrOps.sem (OpSem.bin rfl rfl rfl bneq) rfl rfl (by decide) ?_
      refine TrOps.nil ?_
      refine At.seq ?_
      refine Tr.cond rfl (fun c40 => ?_) (fun c40 => ?_)
      · have hne : quoF a part ≠ (0, 0) := fun h => by simp [h] at c40
        refine Tr.seq ?_
        refine Tr.region ?_
        refine TrOps.sem (OpSem.loadbN rfl rfl rfl vs28 (by first | decide | simp)) rfl rfl (by decide) ?_
        refine TrOps.sem (OpSem.loadbN rfl rfl rfl vs28 (by first | decide | simp)) rfl rfl (by decide) ?_
        refine TrOps.sem (OpSem.eqS2 rfl rfl rfl io28) rfl rfl (by decide) ?_
        refine TrOps.sem (OpSem.move (.inl rfl) rfl) rfl rfl (by decide) ?_
        refine TrOps.gT rfl rfl rfl rfl (by simp) ?_
        refine TrOps.sem (OpSem.loadbN rfl rfl rfl vs25 (by first | decide | simp)) rfl rfl (by decide) ?_
        refine TrOps.gT rfl rfl rfl rfl (by simp) ?_
        refine TrOps.sem (OpSem.build rfl rfl pl25 zc25 rfl rfl) rfl rfl (by decide) ?_
        refine TrOps.gT rfl rfl rfl rfl (by simp) ?_
        refine TrOps.sem (OpSem.call0 (Q_Abstractions_does (quoR a part) absZ) rfl rfl rfl rfl (Les.cons (.refl _) <| .cons (Le.g (.cons (.refl _) <| .cons (.refl _) <| .cons (Le.nil 3) <| .cons (.refl _) <| .cons (Le.nil 1) <| .nil)) <| .nil)) rfl rfl (by decide) ?_
        refine TrOps.sem (OpSem.pickT rfl rfl (by simp) rfl) rfl rfl (by decide) ?_
        refine TrOps.sem (OpSem.move (.inr rfl) rfl) rfl rfl (by decide) ?_
        refine TrOps.nil ?_
        refine At.seq ?_
        refine Tr.ret ?_
        refine At.pass_ret ?_
        exact At.ret rfl (.tmp rfl <| .nil) rfl (Le.bo (by first | rfl | (rw [quoR_1 hne]; simp; done) | (rw [quoR_0 h0]; simp; done) | simp))
      · have h0 : quoF a part = (0, 0) := quoF_code (by simpa using c40)
        refine Tr.skip ?_
        refine At.seq ?_
        refine Tr.seq ?_
        refine PC.start [] ?_
        refine PC.sem (OpSem.fieldr rfl rfl fo28_0) rfl rfl ?_
        refine PC.sem (OpSem.loadb1 rfl rfl rfl vs3 rfl) rfl rfl ?_
        refine PC.sem (OpSem.bin rfl rfl rfl beql) rfl rfl ?_
        refine PC.sem (OpSem.move (.inl rfl) rfl) rfl rfl ?_
        refine PC.gT (OpSem.loadbN rfl rfl rfl vs25 (by first | decide | simp)) rfl rfl rfl rfl (by rw [h0]; rfl) rfl ?_
        refine PC.gT (OpSem.loadbN rfl rfl rfl vs25 (by first | decide | simp)) rfl rfl rfl rfl (by rw [h0]; rfl) rfl ?_
        refine PC.gT (OpSem.move (.inl rfl) rfl) rfl rfl rfl rfl (by rw [h0]; rfl) rfl ?_
        refine PC.gT (OpSem.call0 (Q_QuotientOf_does a part h0) rfl rfl rfl rfl (Les.refl _)) rfl rfl rfl rfl (by rw [h0]; rfl) rfl ?_
        refine PC.done0 mixed (by kernel_rfl) (by kernel_rfl) (by kernel_rfl) (by kernel_rfl) (by kernel_rfl) ?_
        refine TrOps.gT rfl rfl rfl rfl (by rw [h0]; rfl) ?_
        refine TrOps.sem (OpSem.call0 (Q_Abstractions_does (quoR a part) (quoA a part)) rfl rfl rfl rfl (Les.refl _)) rfl rfl (by decide) ?_
        refine TrOps.sem (OpSem.pickT rfl rfl (by rw [h0]; rfl) rfl) rfl rfl (by decide) ?_
        refine TrOps.sem (OpSem.move (.inr rfl) rfl) rfl rfl (by decide) ?_
        refine TrOps.nil ?_
        refine At.seq ?_
        refine Tr.ret ?_
        exact At.ret rfl (.tmp rfl <| .nil) rfl (Le.bo (by first | rfl | (rw [quoR_1 hne]; simp; done) | (rw [quoR_0 h0]; simp; done) | simp))

end Go.Proofs.Ythgcnfolgbaemaa
end

section
/- The frame: what an argument that reads is, as data; and how a proved contract becomes the row's step. -/







set_option linter.unusedVariables false
set_option linter.unusedSimpArgs false
namespace Go.Eng
open Go Go.RowKit

/-- A row of cells holds these data. -/
def CellsD (W : World) (cs : List Value) (ds : List D) : Prop := cs.length = ds.length ∧ ∀ (i : Nat) (x : Value) (d : D), cs[i]? = some x → ds[i]? = some d → RepD zO W x d
theorem CellsD.app {W : World} {a b : List Value} {c d : List D} (h : CellsD W a c) (k : CellsD W b d) : CellsD W (a ++ b) (c ++ d) := by
  refine ⟨by simp [h.1, k.1], fun i x y hx hy => ?_⟩
  by_cases hi : i < a.length
  · rw [List.getElem?_append_left hi] at hx
    rw [List.getElem?_append_left (by rw [← h.1]; exact hi)] at hy
    exact h.2 i x y hx hy
  · rw [List.getElem?_append_right (by omega)] at hx
    rw [List.getElem?_append_right (by rw [← h.1]; omega), ← h.1] at hy
    exact k.2 _ x y hx hy

/-- Whatever reads at the type is data of this form. -/
abbrev in64 (n : Int) : Prop := -9223372036854775808 ≤ n ∧ n ≤ 9223372036854775807
def Dec (P : Program) (t : TypeId) {β : Type} (k : Nat) (f : β → List D) (R : β → Prop) : Prop :=
  P.cellsOf t = k ∧ (∀ b, (f b).length = k) ∧
    ∀ (H : Type) (enc : TypeId × Value → H) (W : World) (fuel : Nat) (cs : List Value) (x : DataW H × List MemPlace), DataW.trod enc P W 0 (fun _ => true) true fuel t cs = some x → ∃ b, R b ∧ CellsD W cs (f b)
theorem Dec.map {P : Program} {t : TypeId} {β γ : Type} {k : Nat} {f : β → List D} {f' : γ → List D} {R : β → Prop} {R' : γ → Prop} (h : Dec P t k f R) (g : β → γ) (g' : γ → β) (hg : ∀ b, f' (g b) = f b) (hg' : ∀ c, f' c = f (g' c)) (hR : ∀ b, R b → R' (g b)) : Dec P t k f' R' :=
  ⟨h.1, fun c => by rw [hg', h.2.1], fun H enc W fuel cs x hx => let ⟨b, hr, hb⟩ := h.2.2 H enc W fuel cs x hx; ⟨g b, hR b hr, by rw [hg]; exact hb⟩⟩
theorem Dec.int {P : Program} {t : TypeId} (ht : P.underlying t = some (.int .i64)) (hc : P.cellsOf t = 1) : Dec P t 1 (fun n : Int => [D.v (.int .i64 n)]) in64 :=
  ⟨hc, fun _ => rfl, fun H enc W fuel cs x hx => by
    obtain ⟨n, rfl, _, hw⟩ := DataW.trod_int ht hx
    refine ⟨n, ?_, rfl, fun i x d hx hd => ?_⟩
    · simp only [Lit.wf, Bool.and_eq_true, decide_eq_true_eq] at hw
      have h1 := hw.1
      have h2 := hw.2
      have e1 : IntKind.i64.min = -9223372036854775808 := by decide
      have e2 : IntKind.i64.max = 9223372036854775807 := by decide
      unfold in64
      omega
    · cases i with
      | zero => simp at hx hd; subst hx; subst hd; exact .v _
      | succ i => simp at hx⟩
theorem Dec.bool {P : Program} {t : TypeId} (ht : P.underlying t = some .bool) (hc : P.cellsOf t = 1) : Dec P t 1 (fun n : Bool => [D.v (.bool n)]) (fun _ => True) :=
  ⟨hc, fun _ => rfl, fun H enc W fuel cs x hx => by
    have key : ∃ b, cs = [.bool b] := by
      cases fuel with
      | zero => simp [DataW.trod] at hx
      | succ m =>
        unfold DataW.trod at hx
        rw [ht] at hx
        split at hx <;> simp_all
    obtain ⟨b, rfl⟩ := key
    refine ⟨b, trivial, rfl, fun i x d hx hd => ?_⟩
    cases i with
    | zero => simp at hx hd; subst hx; subst hd; exact .v _
    | succ i => simp at hx⟩
theorem choose_list {β : Type} {p : Nat → β → Prop} : ∀ (n : Nat), (∀ i, i < n → ∃ b, p i b) → ∃ l : List β, l.length = n ∧ ∀ i b, l[i]? = some b → p i b
  | 0, _ => ⟨[], rfl, fun i b h => by simp at h⟩
  | n + 1, h => by
    obtain ⟨l, h1, h2⟩ := choose_list n fun i hi => h i (by omega)
    obtain ⟨b, hb⟩ := h n (by omega)
    refine ⟨l ++ [b], by simp [h1], fun i c hc => ?_⟩
    by_cases hi : i < n
    · rw [List.getElem?_append_left (by omega)] at hc; exact h2 i c hc
    · rw [List.getElem?_append_right (by omega)] at hc
      cases hz : i - l.length with
      | zero =>
        rw [hz] at hc; simp at hc; subst hc
        have : i = n := by omega
        rw [this]; exact hb
      | succ j => rw [hz] at hc; simp at hc
theorem Dec.slice {P : Program} {t e : TypeId} {β : Type} {k : Nat} {f : β → List D} {R : β → Prop} (ht : P.underlying t = some (.slice e)) (hc : P.cellsOf t = 1) (he : Dec P e k f R) (hk0 : 0 < k) : Dec P t 1 (fun l : List β => [D.s k (l.map f)]) (fun l => ∀ b, b ∈ l → R b) := by
  refine ⟨hc, fun _ => rfl, fun H enc W fuel cs x hx => ?_⟩
  have one : ∀ (v : Value) (d : D), RepD zO W v d → CellsD W [v] [d] := fun v d h => ⟨rfl, fun i x d' hx hd => by
    cases i with
    | zero => simp at hx hd; subst hx; subst hd; exact h
    | succ i => simp at hx⟩
  rcases Go.Deep.open_slice ht hx with ⟨rfl, _⟩ | ⟨a, len, cap, m, n, Dx, Pl, rfl, _, hl, hm, hmm, _, hel⟩
  · exact ⟨[], fun b hb => by simp at hb, one _ _ (.e none 0 k (by simp [maxLen]))⟩
  · have hmc : len ≤ m := by rw [hmm]; split <;> omega
    obtain ⟨l, hll, hlp⟩ := choose_list (β := β) (p := fun i b => R b ∧ ∃ cs', W.cells? 0 (a.add (i * P.cellsOf e)) (P.cellsOf e) = some cs' ∧ CellsD W cs' (f b)) len (fun i hi => by
      obtain ⟨cs', h1, h2⟩ := hel i (by omega)
      obtain ⟨b, hr, hb⟩ := he.2.2 H enc W n cs' _ h2
      exact ⟨b, hr, cs', h1, hb⟩)
    refine ⟨l, fun b hb => by obtain ⟨i, hi⟩ := List.getElem?_of_mem hb; exact (hlp i b hi).1, one _ _ ?_⟩
    have hlp := fun i b h => (hlp i b h).2
    cases l with
    | nil =>
      simp at hll
      subst hll
      exact .e _ cap k hm
    | cons b0 l0 =>
      generalize hL : b0 :: l0 = l at hll hlp
      obtain ⟨ab, ao, asp⟩ := a
      have hsp : asp = none := by
        obtain ⟨cs', h1, h2⟩ := hlp 0 b0 (by rw [← hL]; rfl)
        obtain ⟨_, g1, g2⟩ := World.cells?_some h1
        have hj : 0 < cs'.length := by rw [g1, he.1]; exact hk0
        have := g2 0 (by rw [he.1]; exact hk0)
        rw [List.getElem?_eq_getElem hj, Nat.zero_mul] at this
        exact World.cell?_spot (by simpa [Addr.add] using this)
      subst hsp
      have hadd : ∀ p q : Nat, ((⟨ab, ao, none⟩ : Addr).add p).add q = ⟨ab, ao + (p + q), none⟩ := by
        intro p q
        unfold Addr.add
        split <;> split <;> simp <;> omega
      have hcell : ∀ (i : Nat) (b : β), l[i]? = some b → ∀ (j : Nat) (d : D), (f b)[j]? = some d → ∃ x, W.cell? ⟨ab, ao + (i * k + j), none⟩ = some x ∧ RepD zO W x d := by
        intro i b hb j d hd
        obtain ⟨cs', h1, h2⟩ := hlp i b hb
        obtain ⟨_, g1, g2⟩ := World.cells?_some h1
        have hj : j < P.cellsOf e := by rw [he.1, ← he.2.1 b]; exact (List.getElem?_eq_some_iff.1 hd).1
        have hj' : j < cs'.length := by omega
        have := g2 j hj
        rw [List.getElem?_eq_getElem hj', hadd, he.1] at this
        exact ⟨cs'[j], this, h2.2 j _ d (List.getElem?_eq_getElem hj') hd⟩
      have hrow : ∀ (i : Nat) (r : List D), (l.map f)[i]? = some r → ∃ b, l[i]? = some b ∧ r = f b := by
        intro i r hr
        simp only [List.getElem?_map, Option.map_eq_some_iff] at hr
        obtain ⟨b, h1, h2⟩ := hr
        exact ⟨b, h1, h2.symm⟩
      have hlen : len = (l.map f).length := by simp [hll]
      rw [hlen]
      refine .s ab ao cap k (l.map f) (fun q => (W.cell? ⟨ab, ao + q, none⟩).getD undef) (by omega) hm (fun r hr => ?_) (fun _ _ _ _ _ _ => rfl) (fun i r j d hi hj => ?_) (fun i r j d hi hj => ?_)
      · obtain ⟨b, _, rfl⟩ := List.mem_map.1 hr; exact he.2.1 b
      · obtain ⟨b, hb, rfl⟩ := hrow i r hi
        obtain ⟨x, hx, _⟩ := hcell i b hb j d hj
        rw [hx]; rfl
      · obtain ⟨b, hb, rfl⟩ := hrow i r hi
        obtain ⟨x, hx, hr⟩ := hcell i b hb j d hj
        simp only [hx, Option.getD_some]; exact hr

/-! ### Structs -/
theorem drop_take_app {α : Type} (l : List α) (a b : Nat) : (l.drop 0).take (a + b) = (l.drop 0).take a ++ (l.drop a).take b := by
  simp [List.take_add]
theorem Dec.struct3 {P : Program} {t : TypeId} {f0 f1 f2 : Field} {β0 β1 β2 : Type} {k0 k1 k2 : Nat} {e0 : β0 → List D} {e1 : β1 → List D} {e2 : β2 → List D} {R0 : β0 → Prop} {R1 : β1 → Prop} {R2 : β2 → Prop} (ht : P.underlying t = some (.struct #[f0, f1, f2])) (hc : P.cellsOf t = k0 + k1 + k2)
    (o0 : f0.offset = 0) (o1 : f1.offset = k0) (o2 : f2.offset = k0 + k1) (h0 : Dec P f0.type k0 e0 R0) (h1 : Dec P f1.type k1 e1 R1) (h2 : Dec P f2.type k2 e2 R2) : Dec P t (k0 + k1 + k2) (fun b : β0 × β1 × β2 => e0 b.1 ++ e1 b.2.1 ++ e2 b.2.2) (fun b => R0 b.1 ∧ R1 b.2.1 ∧ R2 b.2.2) := by
  refine ⟨hc, fun b => by simp [h0.2.1, h1.2.1, h2.2.1]; omega, fun H enc W fuel cs x hx => ?_⟩
  obtain ⟨xs, n, _, _, hl, hn, hf⟩ := DataW.trod_struct ht hx
  have g0 := hf 0 f0 rfl
  have g1 := hf 1 f1 rfl
  have g2 := hf 2 f2 rfl
  rw [o0, h0.1, List.getElem?_eq_getElem (by rw [hn]; simp)] at g0
  rw [o1, h1.1, List.getElem?_eq_getElem (by rw [hn]; simp)] at g1
  rw [o2, h2.1, List.getElem?_eq_getElem (by rw [hn]; simp)] at g2
  obtain ⟨b0, r0, c0⟩ := h0.2.2 H enc W n _ _ g0
  obtain ⟨b1, r1, c1⟩ := h1.2.2 H enc W n _ _ g1
  obtain ⟨b2, r2, c2⟩ := h2.2.2 H enc W n _ _ g2
  refine ⟨(b0, b1, b2), ⟨r0, r1, r2⟩, ?_⟩
  have := (c0.app c1).app c2
  rwa [← drop_take_app, ← drop_take_app, List.drop_zero, List.take_of_length_le (by omega)] at this
theorem Dec.struct5 {P : Program} {t : TypeId} {f0 f1 f2 f3 f4 : Field} {β0 β1 β2 β3 β4 : Type} {k0 k1 k2 k3 k4 : Nat} {e0 : β0 → List D} {e1 : β1 → List D} {e2 : β2 → List D} {e3 : β3 → List D} {e4 : β4 → List D} {R0 : β0 → Prop} {R1 : β1 → Prop} {R2 : β2 → Prop} {R3 : β3 → Prop} {R4 : β4 → Prop} (ht : P.underlying t = some (.struct #[f0, f1, f2, f3, f4])) (hc : P.cellsOf t = k0 + k1 + k2 + k3 + k4)
    (o0 : f0.offset = 0) (o1 : f1.offset = k0) (o2 : f2.offset = k0 + k1) (o3 : f3.offset = k0 + k1 + k2) (o4 : f4.offset = k0 + k1 + k2 + k3) (h0 : Dec P f0.type k0 e0 R0) (h1 : Dec P f1.type k1 e1 R1) (h2 : Dec P f2.type k2 e2 R2) (h3 : Dec P f3.type k3 e3 R3) (h4 : Dec P f4.type k4 e4 R4) :
    Dec P t (k0 + k1 + k2 + k3 + k4) (fun b : β0 × β1 × β2 × β3 × β4 => e0 b.1 ++ e1 b.2.1 ++ e2 b.2.2.1 ++ e3 b.2.2.2.1 ++ e4 b.2.2.2.2) (fun b => R0 b.1 ∧ R1 b.2.1 ∧ R2 b.2.2.1 ∧ R3 b.2.2.2.1 ∧ R4 b.2.2.2.2) := by
  refine ⟨hc, fun b => by simp [h0.2.1, h1.2.1, h2.2.1, h3.2.1, h4.2.1]; omega, fun H enc W fuel cs x hx => ?_⟩
  obtain ⟨xs, n, _, _, hl, hn, hf⟩ := DataW.trod_struct ht hx
  have g0 := hf 0 f0 rfl
  have g1 := hf 1 f1 rfl
  have g2 := hf 2 f2 rfl
  have g3 := hf 3 f3 rfl
  have g4 := hf 4 f4 rfl
  rw [o0, h0.1, List.getElem?_eq_getElem (by rw [hn]; simp)] at g0
  rw [o1, h1.1, List.getElem?_eq_getElem (by rw [hn]; simp)] at g1
  rw [o2, h2.1, List.getElem?_eq_getElem (by rw [hn]; simp)] at g2
  rw [o3, h3.1, List.getElem?_eq_getElem (by rw [hn]; simp)] at g3
  rw [o4, h4.1, List.getElem?_eq_getElem (by rw [hn]; simp)] at g4
  obtain ⟨b0, r0, c0⟩ := h0.2.2 H enc W n _ _ g0
  obtain ⟨b1, r1, c1⟩ := h1.2.2 H enc W n _ _ g1
  obtain ⟨b2, r2, c2⟩ := h2.2.2 H enc W n _ _ g2
  obtain ⟨b3, r3, c3⟩ := h3.2.2 H enc W n _ _ g3
  obtain ⟨b4, r4, c4⟩ := h4.2.2 H enc W n _ _ g4
  refine ⟨(b0, b1, b2, b3, b4), ⟨r0, r1, r2, r3, r4⟩, ?_⟩
  have := (((c0.app c1).app c2).app c3).app c4
  rwa [← drop_take_app, ← drop_take_app, ← drop_take_app, ← drop_take_app, List.drop_zero, List.take_of_length_le (by omega)] at this

/-! ### Arguments -/
/-- One cell. -/
theorem Dec.arg {P : Program} {t : TypeId} {β : Type} {f : β → D} {R : β → Prop} (h : Dec P t 1 (fun b => [f b]) R) {H : Type} {enc : TypeId × Value → H} {W : World} {v : Value} {d : DataW H} {ps : List MemPlace} (hv : v.cells.toList = [v]) (hx : DataW.Trod enc P W 0 (fun _ => true) true t v d ps) : ∃ b, R b ∧ RepS zO zH W v (.d (f b)) := by
  obtain ⟨fuel, hf⟩ := hx
  obtain ⟨b, hr, hb⟩ := h.2.2 H enc W fuel _ _ hf
  rw [hv] at hb
  exact ⟨b, hr, .d _ _ (hb.2 0 v _ rfl rfl)⟩
/-- A struct. -/
theorem Dec.argG {P : Program} {t : TypeId} {β : Type} {k : Nat} {f : β → List D} {R : β → Prop} (h : Dec P t k f R) (h1 : ∀ b, (f b).all D.one = true) {H : Type} {enc : TypeId × Value → H} {W : World} {cs : Array Value} {d : DataW H} {ps : List MemPlace} (hx : DataW.Trod enc P W 0 (fun _ => true) true t (.agg cs) d ps) :
    ∃ b, R b ∧ RepS zO zH W (.agg cs) (.g ((f b).map .d)) := by
  obtain ⟨fuel, hf⟩ := hx
  obtain ⟨b, hr, hb⟩ := h.2.2 H enc W fuel _ _ hf
  simp only [Value.cells] at hb
  refine ⟨b, hr, ?_⟩
  have := RepS.g (O := zO) (H := zH) (w := W) cs.toList ((f b).map .d) (by simp [hb.1]) (fun x hx => ?_) (fun i x s hx hs => ?_)
  · simpa using this
  · obtain ⟨i, hi⟩ := List.getElem?_of_mem hx
    have hlt : i < (f b).length := by rw [← hb.1]; exact (List.getElem?_eq_some_iff.1 hi).1
    exact (hb.2 i x _ hi (List.getElem?_eq_getElem hlt)).one' (List.all_eq_true.1 (h1 b) _ (List.getElem_mem hlt))
  · simp only [List.getElem?_map, Option.map_eq_some_iff] at hs
    obtain ⟨y, hy, rfl⟩ := hs
    exact .d _ _ (hb.2 i x y hx hy)
theorem reps_nil {O : Nat → Nat} {H : Nat → Value} {w : World} : ∀ (i : Nat) (x : Value) (s : S), ([] : List Value)[i]? = some x → ([] : List S)[i]? = some s → RepS O H w x s := fun i x s h => by simp at h
theorem reps_cons {O : Nat → Nat} {H : Nat → Value} {w : World} {v : Value} {t : S} {vs : List Value} {ts : List S} (h : RepS O H w v t) (k : ∀ (i : Nat) (x : Value) (s : S), vs[i]? = some x → ts[i]? = some s → RepS O H w x s) :
    ∀ (i : Nat) (x : Value) (s : S), (v :: vs)[i]? = some x → (t :: ts)[i]? = some s → RepS O H w x s := fun i x s hx hs => by
  cases i with
  | zero => simp at hx hs; subst hx; subst hs; exact h
  | succ i => exact k i x s (by simpa using hx) (by simpa using hs)
theorem RepS.isB {O : Nat → Nat} {H : Nat → Value} {w : World} {x : Value} {b : Bool} (h : RepS O H w x (Bo b)) : x = .bool b := by
  cases h with
  | d _ _ q => cases q with
    | v _ => rfl
end Go.Eng
end
