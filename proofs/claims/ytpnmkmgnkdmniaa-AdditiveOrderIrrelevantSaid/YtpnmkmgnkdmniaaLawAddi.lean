/- Walks, written by gen.py out of hints. -/
import Derived.Test.YtpnmkmgnkdmniaaTypes
import Derived.Test.YtpnmkmgnkdmniaaAddi
import Derived.Test.YtpnmkmgnkdmniaaLawProj
import Derived.Test.YtpnmkmgnkdmniaaEngI
set_option linter.unusedVariables false
set_option linter.unusedSimpArgs false
namespace Go.Proofs.Ytpnmkmgnkdmniaa
open Go.Eng
set_option maxRecDepth 10000
set_option maxHeartbeats 1000000

theorem law_additiveExample_does  : Does Try.prog false 22 [] (Bo true) := by
  refine Does.of_body Try.func22 rfl rfl (by simp) Try.call22 (fun w0 O0 => ?_)
  refine Tr.seq ?_
  refine Tr.region ?_
  refine TrOps.sem (OpSem.move (.inr rfl) rfl) rfl rfl (by decide) ?_
  refine TrOps.nil ?_
  refine At.seq ?_
  refine Tr.seq ?_
  refine Tr.region ?_
  refine TrOps.sem (OpSem.call0 (law_lamps_does) rfl rfl rfl rfl (Les.refl _)) rfl rfl (by decide) ?_
  refine TrOps.sem (OpSem.buildSlice rfl rfl es23 ze23 rfl rfl (by decide) (by decide) rfl rfl) rfl rfl (by decide) ?_
  refine TrOps.sem (OpSem.buildSlice rfl rfl es23 ze23 rfl rfl (by decide) (by decide) rfl rfl) rfl rfl (by decide) ?_
  refine TrOps.sem (OpSem.call0 (additive_Compatible_does lampsM [0] [1]) rfl rfl rfl rfl (Les.refl _)) rfl rfl (by decide) ?_
  refine TrOps.sem (OpSem.move (.inl rfl) rfl) rfl rfl (by decide) ?_
  refine TrOps.sem (OpSem.extract rfl rfl rfl) rfl rfl (by decide) ?_
  refine TrOps.sem (OpSem.extract rfl rfl rfl) rfl rfl (by decide) ?_
  refine TrOps.semM (OpSem.alloc 2 rfl zc28 rfl) rfl rfl (by decide) ?_
  refine TrOps.sem (OpSem.move (.inr rfl) rfl) rfl rfl (by decide) ?_
  refine TrOps.storeb rfl rfl rfl rfl rfl rfl rfl vs28 (by first | decide | simp) ?_
  refine TrOps.nil ?_
  refine At.seq ?_
  refine Tr.seq ?_
  refine Tr.region ?_
  refine TrOps.sem (OpSem.call0 (law_lamps_does) rfl rfl rfl rfl (Les.refl _)) rfl rfl (by decide) ?_
  refine TrOps.sem (OpSem.buildSlice rfl rfl es23 ze23 rfl rfl (by decide) (by decide) rfl rfl) rfl rfl (by decide) ?_
  refine TrOps.sem (OpSem.buildSlice rfl rfl es23 ze23 rfl rfl (by decide) (by decide) rfl rfl) rfl rfl (by decide) ?_
  refine TrOps.sem (OpSem.buildSlice rfl rfl es47 ze47 rfl rfl (by decide) (by decide) rfl rfl) rfl rfl (by decide) ?_
  refine TrOps.sem (OpSem.buildSlice rfl rfl es23 ze23 rfl rfl (by decide) (by decide) rfl rfl) rfl rfl (by decide) ?_
  refine TrOps.sem (OpSem.call0 (additive_Value_does lampsM [[0], [1]] [0, 0]) rfl rfl rfl rfl (Les.refl _)) rfl rfl (by decide) ?_
  refine TrOps.sem (OpSem.move (.inl rfl) rfl) rfl rfl (by decide) ?_
  refine TrOps.sem (OpSem.extract rfl rfl rfl) rfl rfl (by decide) ?_
  refine TrOps.sem (OpSem.extract rfl rfl rfl) rfl rfl (by decide) ?_
  refine TrOps.semM (OpSem.alloc 4 rfl zc28 rfl) rfl rfl (by decide) ?_
  refine TrOps.sem (OpSem.move (.inr rfl) rfl) rfl rfl (by decide) ?_
  refine TrOps.storeb rfl rfl rfl rfl rfl rfl rfl vs28 (by first | decide | simp) ?_
  refine TrOps.nil ?_
  refine At.seq ?_
  refine Tr.seq ?_
  refine Tr.region ?_
  refine TrOps.sem (OpSem.fieldr rfl rfl fo28_0) rfl rfl (by decide) ?_
  refine TrOps.sem (OpSem.loadb1 rfl rfl rfl vs3 rfl) rfl rfl (by decide) ?_
  refine TrOps.sem (OpSem.bin rfl rfl rfl beql) rfl rfl (by decide) ?_
  refine TrOps.sem (OpSem.move (.inl rfl) rfl) rfl rfl (by decide) ?_
  refine TrOps.gT rfl rfl rfl rfl (by rw [ex_cmpT]; rfl) ?_
  refine TrOps.sem (OpSem.fieldr rfl rfl fo28_0) rfl rfl (by decide) ?_
  refine TrOps.gT rfl rfl rfl rfl (by rw [ex_cmpT]; rfl) ?_
  refine TrOps.sem (OpSem.loadb1 rfl rfl rfl vs3 rfl) rfl rfl (by decide) ?_
  refine TrOps.gT rfl rfl rfl rfl (by rw [ex_cmpT]; rfl) ?_
  refine TrOps.sem (OpSem.bin rfl rfl rfl beql) rfl rfl (by decide) ?_
  refine TrOps.sem (OpSem.pickT rfl rfl (by rw [ex_cmpT]; rfl) rfl) rfl rfl (by decide) ?_
  refine TrOps.sem (OpSem.move (.inl rfl) rfl) rfl rfl (by decide) ?_
  refine TrOps.gT rfl rfl rfl rfl (by rw [ex_addF]; rfl) ?_
  refine TrOps.sem (OpSem.move (.inl rfl) rfl) rfl rfl (by decide) ?_
  refine TrOps.sem (OpSem.pickT rfl rfl (by rw [ex_addF]; rfl) rfl) rfl rfl (by decide) ?_
  refine TrOps.sem (OpSem.move (.inl rfl) rfl) rfl rfl (by decide) ?_
  refine TrOps.gT rfl rfl rfl rfl ex_cmpR ?_
  refine TrOps.sem (OpSem.move (.inl rfl) rfl) rfl rfl (by decide) ?_
  refine TrOps.gT rfl rfl rfl rfl ex_cmpR ?_
  refine TrOps.sem (OpSem.bin rfl rfl rfl beql) rfl rfl (by decide) ?_
  refine TrOps.sem (OpSem.pickT rfl rfl ex_cmpR rfl) rfl rfl (by decide) ?_
  refine TrOps.sem (OpSem.move (.inr rfl) rfl) rfl rfl (by decide) ?_
  refine TrOps.nil ?_
  refine At.seq ?_
  refine Tr.ret ?_
  exact At.ret rfl (.tmp rfl <| .nil) rfl (Le.bo (by rw [ex_add]; rfl))

theorem law_AdditiveCompatibleMatchesSpec_does (m : Multi) (a b : List Int) : Does Try.prog false 6 [multi m, .d (ints a), .d (ints b)] (Bo true) := by
  refine Does.of_body Try.func6 rfl rfl (by simp) Try.call6 (fun w0 O0 => ?_)
  refine Tr.lenG (n := 0) (i := 0) rfl rfl (fun len0_0 => ?_)
  refine Tr.lenG (n := 0) (i := 1) rfl rfl (fun len0_1 => ?_)
  refine Tr.lenG (n := 0) (i := 2) rfl rfl (fun len0_2 => ?_)
  refine Tr.lenG (n := 0) (i := 3) rfl rfl (fun len0_3 => ?_)
  refine Tr.lenLe (n := 1) rfl (fun len1 => ?_)
  refine Tr.lenLe (n := 2) rfl (fun len2 => ?_)
  refine Tr.seq ?_
  refine Tr.region ?_
  refine TrOps.semM (OpSem.box 3 rfl rfl rfl rfl) rfl rfl (by decide) ?_
  refine TrOps.sem (OpSem.move (.inr rfl) rfl) rfl rfl (by decide) ?_
  refine TrOps.nil ?_
  refine At.seq ?_
  refine Tr.seq ?_
  refine Tr.seq ?_
  refine Tr.region ?_
  refine TrOps.sem (OpSem.call0 (law_additiveExample_does) rfl rfl rfl rfl (Les.refl _)) rfl rfl (by decide) ?_
  refine TrOps.sem (OpSem.not rfl rfl) rfl rfl (by decide) ?_
  refine TrOps.nil ?_
  refine At.seq ?_
  refine Tr.condF rfl rfl ?_
  refine Tr.skip ?_
  refine At.seq ?_
  refine Tr.seq ?_
  refine Tr.region ?_
  refine TrOps.sem (OpSem.loadbN rfl rfl rfl vs39 (by first | decide | simp)) rfl rfl (by decide) ?_
  refine TrOps.sem (OpSem.move (.inl rfl) rfl) rfl rfl (by decide) ?_
  refine TrOps.sem (OpSem.move (.inl rfl) rfl) rfl rfl (by decide) ?_
  refine TrOps.sem (OpSem.call0 (additive_Compatible_does ..) rfl rfl rfl rfl (Les.refl _)) rfl rfl (by decide) ?_
  refine TrOps.sem (OpSem.move (.inl rfl) rfl) rfl rfl (by decide) ?_
  refine TrOps.sem (OpSem.extract rfl rfl rfl) rfl rfl (by decide) ?_
  refine TrOps.sem (OpSem.extract rfl rfl rfl) rfl rfl (by decide) ?_
  refine TrOps.semM (OpSem.alloc 8 rfl zc28 rfl) rfl rfl (by decide) ?_
  refine TrOps.sem (OpSem.move (.inr rfl) rfl) rfl rfl (by decide) ?_
  refine TrOps.storeb rfl rfl rfl rfl rfl rfl rfl vs28 (by first | decide | simp) ?_
  refine TrOps.nil ?_
  refine At.seq ?_
  refine Tr.seq ?_
  refine PC.start [] ?_
  refine PC.sem (OpSem.loadbN rfl rfl rfl vs39 (by first | decide | simp)) rfl rfl ?_
  refine PC.sem (OpSem.call0 (R_MultiFault_does ..) rfl rfl rfl rfl (Les.refl _)) rfl rfl ?_
  refine PC.sem (OpSem.loadbN rfl rfl rfl vs39 (by first | decide | simp)) rfl rfl ?_
  refine PC.sem (OpSem.move (.inl rfl) rfl) rfl rfl ?_
  refine PC.sem (OpSem.call0 (law_patternFault_does _ m a (-8) (projFault m a) addP_proj) rfl rfl rfl rfl (Les.refl _)) rfl rfl ?_
  refine PC.sem (OpSem.loadbN rfl rfl rfl vs39 (by first | decide | simp)) rfl rfl ?_
  refine PC.sem (OpSem.move (.inl rfl) rfl) rfl rfl ?_
  refine PC.sem (OpSem.call0 (law_patternFault_does _ m b (-9) (cmpT m a b) cmpT_add) rfl rfl rfl rfl (Les.refl _)) rfl rfl ?_
  refine PC.semM (OpSem.alloc 9 rfl zc28 rfl) rfl rfl ?_
  refine PC.done1 9 (.box [I (0), I (0)]) mixed (by kernel_rfl) (by kernel_rfl) (by kernel_rfl) (by kernel_rfl) (by kernel_rfl) ?_
  refine TrOps.storeb rfl rfl rfl rfl rfl rfl rfl vs28 (by first | decide | simp) ?_
  refine TrOps.nil ?_
  refine At.seq ?_
  refine Tr.seq ?_
  refine Tr.seq ?_
  refine Tr.region ?_
  refine TrOps.sem (OpSem.fieldr rfl rfl fo28_0) rfl rfl (by decide) ?_
  refine TrOps.sem (OpSem.loadb1 rfl rfl rfl vs3 rfl) rfl rfl (by decide) ?_
  refine TrOps.sem (OpSem.bin rfl rfl rfl bneq) rfl rfl (by decide) ?_
  refine TrOps.nil ?_
  refine At.seq ?_
  refine Tr.cond rfl (fun c31 => ?_) (fun c31 => ?_)
  · have h1 : cmpT m a b ≠ (0, 0) := fun h => by simp [h] at c31
    refine Tr.seq ?_
    refine Tr.region ?_
    refine TrOps.sem (OpSem.loadbN rfl rfl rfl vs28 (by first | decide | simp)) rfl rfl (by decide) ?_
    refine TrOps.sem (OpSem.loadbN rfl rfl rfl vs28 (by first | decide | simp)) rfl rfl (by decide) ?_
    refine TrOps.sem (OpSem.eqS2 rfl rfl rfl io28) rfl rfl (by decide) ?_
    refine TrOps.sem (OpSem.move (.inl rfl) rfl) rfl rfl (by decide) ?_
    refine TrOps.gT rfl rfl rfl rfl (by simp) ?_
    refine TrOps.sem (OpSem.move (.inl rfl) rfl) rfl rfl (by decide) ?_
    refine TrOps.gT rfl rfl rfl rfl (by simp) ?_
    refine TrOps.sem (OpSem.not rfl rfl) rfl rfl (by decide) ?_
    refine TrOps.sem (OpSem.pickT rfl rfl (by simp) rfl) rfl rfl (by decide) ?_
    refine TrOps.sem (OpSem.move (.inr rfl) rfl) rfl rfl (by decide) ?_
    refine TrOps.nil ?_
    refine At.seq ?_
    refine Tr.ret ?_
    refine At.pass_ret ?_
    exact At.ret rfl (.tmp rfl <| .nil) rfl (Le.bo (by first | rfl | (rw [cmpR_1 h1]; rfl) | (rw [cmpR_swap h1]; simp)))
  · have h1 : cmpT m a b = (0, 0) := cmpT_code (by simpa using c31)
    have h2 := cmpT_swap h1
    refine Tr.skip ?_
    refine At.seq ?_
    refine Tr.seq ?_
    refine Tr.region ?_
    refine TrOps.sem (OpSem.loadbN rfl rfl rfl vs39 (by first | decide | simp)) rfl rfl (by decide) ?_
    refine TrOps.sem (OpSem.move (.inl rfl) rfl) rfl rfl (by decide) ?_
    refine TrOps.sem (OpSem.move (.inl rfl) rfl) rfl rfl (by decide) ?_
    refine TrOps.sem (OpSem.call0 (additive_Compatible_does ..) rfl rfl rfl rfl (Les.refl _)) rfl rfl (by decide) ?_
    refine TrOps.sem (OpSem.move (.inl rfl) rfl) rfl rfl (by decide) ?_
    refine TrOps.sem (OpSem.extract rfl rfl rfl) rfl rfl (by decide) ?_
    refine TrOps.sem (OpSem.extract rfl rfl rfl) rfl rfl (by decide) ?_
    refine TrOps.semM (OpSem.alloc 11 rfl zc28 rfl) rfl rfl (by decide) ?_
    refine TrOps.sem (OpSem.move (.inr rfl) rfl) rfl rfl (by decide) ?_
    refine TrOps.storeb rfl rfl rfl rfl rfl rfl rfl vs28 (by first | decide | simp) ?_
    refine TrOps.nil ?_
    refine At.seq ?_
    refine Tr.seq ?_
    refine Tr.region ?_
    refine TrOps.sem (OpSem.fieldr rfl rfl fo28_0) rfl rfl (by decide) ?_
    refine TrOps.sem (OpSem.loadb1 rfl rfl rfl vs3 rfl) rfl rfl (by decide) ?_
    refine TrOps.sem (OpSem.bin rfl rfl rfl beql) rfl rfl (by decide) ?_
    refine TrOps.sem (OpSem.move (.inl rfl) rfl) rfl rfl (by decide) ?_
    refine TrOps.gT rfl rfl rfl rfl (by rw [h1]; rfl) ?_
    refine TrOps.sem (OpSem.fieldr rfl rfl fo28_0) rfl rfl (by decide) ?_
    refine TrOps.gT rfl rfl rfl rfl (by rw [h1]; rfl) ?_
    refine TrOps.sem (OpSem.loadb1 rfl rfl rfl vs3 rfl) rfl rfl (by decide) ?_
    refine TrOps.gT rfl rfl rfl rfl (by rw [h1]; rfl) ?_
    refine TrOps.sem (OpSem.bin rfl rfl rfl beql) rfl rfl (by decide) ?_
    refine TrOps.sem (OpSem.pickT rfl rfl (by rw [h1]; rfl) rfl) rfl rfl (by decide) ?_
    refine TrOps.sem (OpSem.move (.inl rfl) rfl) rfl rfl (by decide) ?_
    refine TrOps.gT rfl rfl rfl rfl (by rw [h2]; rfl) ?_
    refine TrOps.sem (OpSem.move (.inl rfl) rfl) rfl rfl (by decide) ?_
    refine TrOps.gT rfl rfl rfl rfl (by rw [h2]; rfl) ?_
    refine TrOps.sem (OpSem.loadbN rfl rfl rfl vs39 (by first | decide | simp)) rfl rfl (by decide) ?_
    refine TrOps.gT rfl rfl rfl rfl (by rw [h2]; rfl) ?_
    refine TrOps.sem (OpSem.move (.inl rfl) rfl) rfl rfl (by decide) ?_
    refine TrOps.gT rfl rfl rfl rfl (by rw [h2]; rfl) ?_
    refine TrOps.sem (OpSem.move (.inl rfl) rfl) rfl rfl (by decide) ?_
    refine TrOps.gT rfl rfl rfl rfl (by rw [h2]; rfl) ?_
    refine TrOps.sem (OpSem.call0 (Q_Together_does ..) rfl rfl rfl rfl (Les.refl _)) rfl rfl (by decide) ?_
    refine TrOps.gT rfl rfl rfl rfl (by rw [h2]; rfl) ?_
    refine TrOps.sem (OpSem.eqB rfl rfl rfl ub4) rfl rfl (by decide) ?_
    refine TrOps.sem (OpSem.pickT rfl rfl (by rw [h2]; rfl) rfl) rfl rfl (by decide) ?_
    refine TrOps.sem (OpSem.move (.inl rfl) rfl) rfl rfl (by decide) ?_
    refine TrOps.gT rfl rfl rfl rfl (by rw [cmpR_0 h1]; simp) ?_
    refine TrOps.sem (OpSem.move (.inl rfl) rfl) rfl rfl (by decide) ?_
    refine TrOps.gT rfl rfl rfl rfl (by rw [cmpR_0 h1]; simp) ?_
    refine TrOps.sem (OpSem.move (.inl rfl) rfl) rfl rfl (by decide) ?_
    refine TrOps.gT rfl rfl rfl rfl (by rw [cmpR_0 h1]; simp) ?_
    refine TrOps.sem (OpSem.eqB rfl rfl rfl ub4) rfl rfl (by decide) ?_
    refine TrOps.sem (OpSem.pickT rfl rfl (by rw [cmpR_0 h1]; simp) rfl) rfl rfl (by decide) ?_
    refine TrOps.sem (OpSem.move (.inr rfl) rfl) rfl rfl (by decide) ?_
    refine TrOps.nil ?_
    refine At.seq ?_
    refine Tr.ret ?_
    exact At.ret rfl (.tmp rfl <| .nil) rfl (Le.bo (by first | rfl | (rw [cmpR_1 h1]; rfl) | (rw [cmpR_swap h1]; simp)))

theorem law_AdditiveSums_does (m : Multi) (a b s : List Int) : Does Try.prog false 5 [multi m, .d (ints a), .d (ints b), .d (ints s)] (Bo true) := by
  refine Does.of_body Try.func5 rfl rfl (by simp) Try.call5 (fun w0 O0 => ?_)
  refine Tr.lenG (n := 0) (i := 0) rfl rfl (fun len0_0 => ?_)
  refine Tr.lenG (n := 0) (i := 1) rfl rfl (fun len0_1 => ?_)
  refine Tr.lenG (n := 0) (i := 2) rfl rfl (fun len0_2 => ?_)
  refine Tr.lenG (n := 0) (i := 3) rfl rfl (fun len0_3 => ?_)
  refine Tr.lenLe (n := 1) rfl (fun len1 => ?_)
  refine Tr.lenLe (n := 2) rfl (fun len2 => ?_)
  refine Tr.lenLe (n := 3) rfl (fun len3 => ?_)
  refine Tr.seq ?_
  refine Tr.region ?_
  refine TrOps.semM (OpSem.box 4 rfl rfl rfl rfl) rfl rfl (by decide) ?_
  refine TrOps.sem (OpSem.move (.inr rfl) rfl) rfl rfl (by decide) ?_
  refine TrOps.nil ?_
  refine At.seq ?_
  refine Tr.seq ?_
  refine Tr.seq ?_
  refine Tr.region ?_
  refine TrOps.sem (OpSem.call0 (law_additiveExample_does) rfl rfl rfl rfl (Les.refl _)) rfl rfl (by decide) ?_
  refine TrOps.sem (OpSem.not rfl rfl) rfl rfl (by decide) ?_
  refine TrOps.nil ?_
  refine At.seq ?_
  refine Tr.condF rfl rfl ?_
  refine Tr.skip ?_
  refine At.seq ?_
  refine Tr.seq ?_
  refine Tr.region ?_
  refine TrOps.sem (OpSem.loadbN rfl rfl rfl vs39 (by first | decide | simp)) rfl rfl (by decide) ?_
  refine TrOps.sem (OpSem.move (.inl rfl) rfl) rfl rfl (by decide) ?_
  refine TrOps.sem (OpSem.move (.inl rfl) rfl) rfl rfl (by decide) ?_
  refine TrOps.sem (OpSem.buildSlice rfl rfl es47 ze47 rfl rfl (by decide) (by decide) rfl rfl) rfl rfl (by decide) ?_
  refine TrOps.sem (OpSem.move (.inl rfl) rfl) rfl rfl (by decide) ?_
  refine TrOps.sem (OpSem.call0 (additive_Value_does m [a, b] s) rfl rfl rfl rfl (Les.refl _)) rfl rfl (by decide) ?_
  refine TrOps.sem (OpSem.move (.inl rfl) rfl) rfl rfl (by decide) ?_
  refine TrOps.sem (OpSem.extract rfl rfl rfl) rfl rfl (by decide) ?_
  refine TrOps.sem (OpSem.extract rfl rfl rfl) rfl rfl (by decide) ?_
  refine TrOps.semM (OpSem.alloc 10 rfl zc28 rfl) rfl rfl (by decide) ?_
  refine TrOps.sem (OpSem.move (.inr rfl) rfl) rfl rfl (by decide) ?_
  refine TrOps.storeb rfl rfl rfl rfl rfl rfl rfl vs28 (by first | decide | simp) ?_
  refine TrOps.nil ?_
  refine At.seq ?_
  refine Tr.seq ?_
  refine Tr.region ?_
  refine TrOps.sem (OpSem.loadbN rfl rfl rfl vs39 (by first | decide | simp)) rfl rfl (by decide) ?_
  refine TrOps.sem (OpSem.move (.inl rfl) rfl) rfl rfl (by decide) ?_
  refine TrOps.sem (OpSem.move (.inl rfl) rfl) rfl rfl (by decide) ?_
  refine TrOps.sem (OpSem.call0 (additive_Compatible_does ..) rfl rfl rfl rfl (Les.refl _)) rfl rfl (by decide) ?_
  refine TrOps.sem (OpSem.move (.inl rfl) rfl) rfl rfl (by decide) ?_
  refine TrOps.sem (OpSem.extract rfl rfl rfl) rfl rfl (by decide) ?_
  refine TrOps.sem (OpSem.extract rfl rfl rfl) rfl rfl (by decide) ?_
  refine TrOps.semM (OpSem.alloc 12 rfl zc28 rfl) rfl rfl (by decide) ?_
  refine TrOps.sem (OpSem.move (.inr rfl) rfl) rfl rfl (by decide) ?_
  refine TrOps.storeb rfl rfl rfl rfl rfl rfl rfl vs28 (by first | decide | simp) ?_
  refine TrOps.nil ?_
  refine At.seq ?_
  refine Tr.seq ?_
  refine Tr.seq ?_
  refine Tr.region ?_
  refine TrOps.sem (OpSem.fieldr rfl rfl fo28_0) rfl rfl (by decide) ?_
  refine TrOps.sem (OpSem.loadb1 rfl rfl rfl vs3 rfl) rfl rfl (by decide) ?_
  refine TrOps.sem (OpSem.bin rfl rfl rfl bneq) rfl rfl (by decide) ?_
  refine TrOps.sem (OpSem.move (.inl rfl) rfl) rfl rfl (by decide) ?_
  refine TrOps.split (n := 39) rfl (fun c39 => ?_) (fun c39 => ?_)
  · have hne : addF m [a, b] s ≠ (0, 0) := fun e => by rw [e] at c39; simp at c39
    refine TrOps.gF rfl rfl rfl rfl c39 rfl (by decide) ?_
    refine TrOps.gF rfl rfl rfl rfl c39 rfl (by decide) ?_
    refine TrOps.gF rfl rfl rfl rfl c39 rfl (by decide) ?_
    refine TrOps.sem (OpSem.pickT rfl rfl c39 rfl) rfl rfl (by decide) ?_
    refine TrOps.nil ?_
    refine At.seq ?_
    refine Tr.condT rfl rfl ?_
    refine Tr.seq ?_
    refine Tr.region ?_
    refine TrOps.sem (OpSem.fieldr rfl rfl fo28_0) rfl rfl (by decide) ?_
    refine TrOps.sem (OpSem.loadb1 rfl rfl rfl vs3 rfl) rfl rfl (by decide) ?_
    refine TrOps.sem (OpSem.bin rfl rfl rfl beql) rfl rfl (by decide) ?_
    refine TrOps.sem (OpSem.move (.inl rfl) rfl) rfl rfl (by decide) ?_
    refine TrOps.split (n := 47) rfl (fun c47 => ?_) (fun c47 => ?_)
    · refine TrOps.gF rfl rfl rfl rfl c47 rfl (by decide) ?_
      refine TrOps.gF rfl rfl rfl rfl c47 rfl (by decide) ?_
      refine TrOps.sem (OpSem.pickT rfl rfl c47 rfl) rfl rfl (by decide) ?_
      refine TrOps.sem (OpSem.move (.inr rfl) rfl) rfl rfl (by decide) ?_
      refine TrOps.nil ?_
      refine At.seq ?_
      refine Tr.ret ?_
      refine At.pass_ret ?_
      exact At.ret rfl (.tmp rfl <| .nil) rfl (Le.bo (by first | rfl | (rw [addR_1 hne]; rfl) | (exfalso; rw [hF] at c47; simp at c47; done) | (rw [hw, if_pos c68]; simp; done) | (rw [hw, if_neg (by simp [c68])]; simp; done)))
    · refine TrOps.gT rfl rfl rfl rfl c47 ?_
      refine TrOps.sem (OpSem.move (.inl rfl) rfl) rfl rfl (by decide) ?_
      refine TrOps.gT rfl rfl rfl rfl c47 ?_
      refine TrOps.sem (OpSem.bin rfl rfl rfl beql) rfl rfl (by decide) ?_
      refine TrOps.sem (OpSem.pickF rfl rfl c47 rfl) rfl rfl (by decide) ?_
      refine TrOps.sem (OpSem.move (.inr rfl) rfl) rfl rfl (by decide) ?_
      refine TrOps.nil ?_
      refine At.seq ?_
      refine Tr.ret ?_
      refine At.pass_ret ?_
      exact At.ret rfl (.tmp rfl <| .nil) rfl (Le.bo (by first | rfl | (rw [addR_1 hne]; rfl) | (exfalso; rw [hF] at c47; simp at c47; done) | (rw [hw, if_pos c68]; simp; done) | (rw [hw, if_neg (by simp [c68])]; simp; done)))
  · have hF : addF m [a, b] s = (0, 0) := addF_code (by simpa using c39)
    refine TrOps.gT rfl rfl rfl rfl c39 ?_
    refine TrOps.sem (OpSem.fieldr rfl rfl fo28_0) rfl rfl (by decide) ?_
    refine TrOps.gT rfl rfl rfl rfl c39 ?_
    refine TrOps.sem (OpSem.loadb1 rfl rfl rfl vs3 rfl) rfl rfl (by decide) ?_
    refine TrOps.gT rfl rfl rfl rfl c39 ?_
    refine TrOps.sem (OpSem.bin rfl rfl rfl bneq) rfl rfl (by decide) ?_
    refine TrOps.sem (OpSem.pickF rfl rfl c39 rfl) rfl rfl (by decide) ?_
    refine TrOps.nil ?_
    refine At.seq ?_
    refine Tr.cond rfl (fun c43 => ?_) (fun c43 => ?_)
    · refine Tr.seq ?_
      refine Tr.region ?_
      refine TrOps.sem (OpSem.fieldr rfl rfl fo28_0) rfl rfl (by decide) ?_
      refine TrOps.sem (OpSem.loadb1 rfl rfl rfl vs3 rfl) rfl rfl (by decide) ?_
      refine TrOps.sem (OpSem.bin rfl rfl rfl beql) rfl rfl (by decide) ?_
      refine TrOps.sem (OpSem.move (.inl rfl) rfl) rfl rfl (by decide) ?_
      refine TrOps.split (n := 47) rfl (fun c47 => ?_) (fun c47 => ?_)
      · refine TrOps.gF rfl rfl rfl rfl c47 rfl (by decide) ?_
        refine TrOps.gF rfl rfl rfl rfl c47 rfl (by decide) ?_
        refine TrOps.sem (OpSem.pickT rfl rfl c47 rfl) rfl rfl (by decide) ?_
        refine TrOps.sem (OpSem.move (.inr rfl) rfl) rfl rfl (by decide) ?_
        refine TrOps.nil ?_
        refine At.seq ?_
        refine Tr.ret ?_
        refine At.pass_ret ?_
        exact At.ret rfl (.tmp rfl <| .nil) rfl (Le.bo (by first | rfl | (rw [addR_1 hne]; rfl) | (exfalso; rw [hF] at c47; simp at c47; done) | (rw [hw, if_pos c68]; simp; done) | (rw [hw, if_neg (by simp [c68])]; simp; done)))
      · refine TrOps.gT rfl rfl rfl rfl c47 ?_
        refine TrOps.sem (OpSem.move (.inl rfl) rfl) rfl rfl (by decide) ?_
        refine TrOps.gT rfl rfl rfl rfl c47 ?_
        refine TrOps.sem (OpSem.bin rfl rfl rfl beql) rfl rfl (by decide) ?_
        refine TrOps.sem (OpSem.pickF rfl rfl c47 rfl) rfl rfl (by decide) ?_
        refine TrOps.sem (OpSem.move (.inr rfl) rfl) rfl rfl (by decide) ?_
        refine TrOps.nil ?_
        refine At.seq ?_
        refine Tr.ret ?_
        refine At.pass_ret ?_
        exact At.ret rfl (.tmp rfl <| .nil) rfl (Le.bo (by first | rfl | (rw [addR_1 hne]; rfl) | (exfalso; rw [hF] at c47; simp at c47; done) | (rw [hw, if_pos c68]; simp; done) | (rw [hw, if_neg (by simp [c68])]; simp; done)))
    · refine Tr.skip ?_
      refine At.seq ?_
      refine Tr.seq ?_
      have hT : cmpT m a b = (0, 0) := cmpT_code (by simpa using c43)
      obtain ⟨he1, he2, hw⟩ := add_two hF hT
      have hx := valR_in (m := m) (vars := a) (s := s)
      have hy := valR_in (m := m) (vars := b) (s := s)
      refine Tr.region ?_
      refine TrOps.sem (OpSem.loadbN rfl rfl rfl vs39 (by first | decide | simp)) rfl rfl (by decide) ?_
      refine TrOps.sem (OpSem.move (.inl rfl) rfl) rfl rfl (by decide) ?_
      refine TrOps.sem (OpSem.move (.inl rfl) rfl) rfl rfl (by decide) ?_
      refine TrOps.sem (OpSem.call0 (project_Value_does m a s) rfl rfl rfl rfl (Les.refl _)) rfl rfl (by decide) ?_
      refine TrOps.sem (OpSem.move (.inl rfl) rfl) rfl rfl (by decide) ?_
      refine TrOps.sem (OpSem.extract rfl rfl rfl) rfl rfl (by decide) ?_
      refine TrOps.sem (OpSem.extract rfl rfl rfl) rfl rfl (by decide) ?_
      refine TrOps.semM (OpSem.alloc 14 rfl zc28 rfl) rfl rfl (by decide) ?_
      refine TrOps.sem (OpSem.move (.inr rfl) rfl) rfl rfl (by decide) ?_
      refine TrOps.storeb rfl rfl rfl rfl rfl rfl rfl vs28 (by first | decide | simp) ?_
      refine TrOps.nil ?_
      refine At.seq ?_
      refine Tr.seq ?_
      refine Tr.region ?_
      refine TrOps.sem (OpSem.loadbN rfl rfl rfl vs39 (by first | decide | simp)) rfl rfl (by decide) ?_
      refine TrOps.sem (OpSem.move (.inl rfl) rfl) rfl rfl (by decide) ?_
      refine TrOps.sem (OpSem.move (.inl rfl) rfl) rfl rfl (by decide) ?_
      refine TrOps.sem (OpSem.call0 (project_Value_does m b s) rfl rfl rfl rfl (Les.refl _)) rfl rfl (by decide) ?_
      refine TrOps.sem (OpSem.move (.inl rfl) rfl) rfl rfl (by decide) ?_
      refine TrOps.sem (OpSem.extract rfl rfl rfl) rfl rfl (by decide) ?_
      refine TrOps.sem (OpSem.extract rfl rfl rfl) rfl rfl (by decide) ?_
      refine TrOps.semM (OpSem.alloc 16 rfl zc28 rfl) rfl rfl (by decide) ?_
      refine TrOps.sem (OpSem.move (.inr rfl) rfl) rfl rfl (by decide) ?_
      refine TrOps.storeb rfl rfl rfl rfl rfl rfl rfl vs28 (by first | decide | simp) ?_
      refine TrOps.nil ?_
      refine At.seq ?_
      refine Tr.seq ?_
      refine Tr.region ?_
      refine TrOps.sem (OpSem.move (.inl rfl) rfl) rfl rfl (by decide) ?_
      refine TrOps.sem (OpSem.move (.inl rfl) rfl) rfl rfl (by decide) ?_
      refine TrOps.sem (OpSem.max2 rfl rfl rfl) rfl rfl (by decide) ?_
      refine TrOps.sem (OpSem.move (.inr rfl) rfl) rfl rfl (by decide) ?_
      refine TrOps.nil ?_
      refine At.seq ?_
      refine Tr.seq ?_
      refine Tr.seq ?_
      refine Tr.region ?_
      refine TrOps.sem (OpSem.move (.inl rfl) rfl) rfl rfl (by decide) ?_
      refine TrOps.nil ?_
      refine At.seq ?_
      refine Tr.cond rfl (fun c68 => ?_) (fun c68 => ?_)
      · refine Tr.region ?_
        refine TrOps.sem (OpSem.move (.inl rfl) rfl) rfl rfl (by decide) ?_
        refine TrOps.sem (OpSem.move (.inl rfl) rfl) rfl rfl (by decide) ?_
        refine TrOps.sem (OpSem.bin rfl rfl rfl (badd (by omega) (by omega))) rfl rfl (by decide) ?_
        refine TrOps.sem (OpSem.min2 rfl rfl rfl) rfl rfl (by decide) ?_
        refine TrOps.sem (OpSem.move (.inr rfl) rfl) rfl rfl (by decide) ?_
        refine TrOps.nil ?_
        refine At.seq ?_
        refine Tr.seq ?_
        refine Tr.region ?_
        refine TrOps.sem (OpSem.fieldr rfl rfl fo28_0) rfl rfl (by decide) ?_
        refine TrOps.sem (OpSem.loadb1 rfl rfl rfl vs3 rfl) rfl rfl (by decide) ?_
        refine TrOps.sem (OpSem.bin rfl rfl rfl beql) rfl rfl (by decide) ?_
        refine TrOps.sem (OpSem.move (.inl rfl) rfl) rfl rfl (by decide) ?_
        refine TrOps.gT rfl rfl rfl rfl (by rw [he1]; rfl) ?_
        refine TrOps.sem (OpSem.fieldr rfl rfl fo28_0) rfl rfl (by decide) ?_
        refine TrOps.gT rfl rfl rfl rfl (by rw [he1]; rfl) ?_
        refine TrOps.sem (OpSem.loadb1 rfl rfl rfl vs3 rfl) rfl rfl (by decide) ?_
        refine TrOps.gT rfl rfl rfl rfl (by rw [he1]; rfl) ?_
        refine TrOps.sem (OpSem.bin rfl rfl rfl beql) rfl rfl (by decide) ?_
        refine TrOps.sem (OpSem.pickT rfl rfl (by rw [he1]; rfl) rfl) rfl rfl (by decide) ?_
        refine TrOps.sem (OpSem.move (.inl rfl) rfl) rfl rfl (by decide) ?_
        refine TrOps.gT rfl rfl rfl rfl (by rw [he2]; rfl) ?_
        refine TrOps.sem (OpSem.move (.inl rfl) rfl) rfl rfl (by decide) ?_
        refine TrOps.gT rfl rfl rfl rfl (by rw [he2]; rfl) ?_
        refine TrOps.sem (OpSem.move (.inl rfl) rfl) rfl rfl (by decide) ?_
        refine TrOps.gT rfl rfl rfl rfl (by rw [he2]; rfl) ?_
        refine TrOps.sem (OpSem.bin rfl rfl rfl beql) rfl rfl (by decide) ?_
        refine TrOps.sem (OpSem.pickT rfl rfl (by rw [he2]; rfl) rfl) rfl rfl (by decide) ?_
        refine TrOps.sem (OpSem.move (.inr rfl) rfl) rfl rfl (by decide) ?_
        refine TrOps.nil ?_
        refine At.seq ?_
        refine Tr.ret ?_
        exact At.ret rfl (.tmp rfl <| .nil) rfl (Le.bo (by first | rfl | (rw [addR_1 hne]; rfl) | (exfalso; rw [hF] at c47; simp at c47; done) | (rw [hw, if_pos c68]; simp; done) | (rw [hw, if_neg (by simp [c68])]; simp; done)))
      · refine Tr.skip ?_
        refine At.seq ?_
        refine Tr.seq ?_
        refine Tr.region ?_
        refine TrOps.sem (OpSem.fieldr rfl rfl fo28_0) rfl rfl (by decide) ?_
        refine TrOps.sem (OpSem.loadb1 rfl rfl rfl vs3 rfl) rfl rfl (by decide) ?_
        refine TrOps.sem (OpSem.bin rfl rfl rfl beql) rfl rfl (by decide) ?_
        refine TrOps.sem (OpSem.move (.inl rfl) rfl) rfl rfl (by decide) ?_
        refine TrOps.gT rfl rfl rfl rfl (by rw [he1]; rfl) ?_
        refine TrOps.sem (OpSem.fieldr rfl rfl fo28_0) rfl rfl (by decide) ?_
        refine TrOps.gT rfl rfl rfl rfl (by rw [he1]; rfl) ?_
        refine TrOps.sem (OpSem.loadb1 rfl rfl rfl vs3 rfl) rfl rfl (by decide) ?_
        refine TrOps.gT rfl rfl rfl rfl (by rw [he1]; rfl) ?_
        refine TrOps.sem (OpSem.bin rfl rfl rfl beql) rfl rfl (by decide) ?_
        refine TrOps.sem (OpSem.pickT rfl rfl (by rw [he1]; rfl) rfl) rfl rfl (by decide) ?_
        refine TrOps.sem (OpSem.move (.inl rfl) rfl) rfl rfl (by decide) ?_
        refine TrOps.gT rfl rfl rfl rfl (by rw [he2]; rfl) ?_
        refine TrOps.sem (OpSem.move (.inl rfl) rfl) rfl rfl (by decide) ?_
        refine TrOps.gT rfl rfl rfl rfl (by rw [he2]; rfl) ?_
        refine TrOps.sem (OpSem.move (.inl rfl) rfl) rfl rfl (by decide) ?_
        refine TrOps.gT rfl rfl rfl rfl (by rw [he2]; rfl) ?_
        refine TrOps.sem (OpSem.bin rfl rfl rfl beql) rfl rfl (by decide) ?_
        refine TrOps.sem (OpSem.pickT rfl rfl (by rw [he2]; rfl) rfl) rfl rfl (by decide) ?_
        refine TrOps.sem (OpSem.move (.inr rfl) rfl) rfl rfl (by decide) ?_
        refine TrOps.nil ?_
        refine At.seq ?_
        refine Tr.ret ?_
        exact At.ret rfl (.tmp rfl <| .nil) rfl (Le.bo (by first | rfl | (rw [addR_1 hne]; rfl) | (exfalso; rw [hF] at c47; simp at c47; done) | (rw [hw, if_pos c68]; simp; done) | (rw [hw, if_neg (by simp [c68])]; simp; done)))

theorem law_AdditiveAdmissible_does (m : Multi) (pats : List (List Int)) (s : List Int) : Does Try.prog false 8 [multi m, .d (rows pats), .d (ints s)] (Bo true) := by
  refine Does.of_body Try.func8 rfl rfl (by simp) Try.call8 (fun w0 O0 => ?_)
  refine Tr.lenG (n := 0) (i := 0) rfl rfl (fun len0_0 => ?_)
  refine Tr.lenG (n := 0) (i := 1) rfl rfl (fun len0_1 => ?_)
  refine Tr.lenG (n := 0) (i := 2) rfl rfl (fun len0_2 => ?_)
  refine Tr.lenG (n := 0) (i := 3) rfl rfl (fun len0_3 => ?_)
  refine Tr.lenLe (n := 1) rfl (fun len1 => ?_)
  refine Tr.lenLe (n := 2) rfl (fun len2 => ?_)
  refine Tr.seq ?_
  refine Tr.region ?_
  refine TrOps.semM (OpSem.box 3 rfl rfl rfl rfl) rfl rfl (by decide) ?_
  refine TrOps.sem (OpSem.move (.inr rfl) rfl) rfl rfl (by decide) ?_
  refine TrOps.nil ?_
  refine At.seq ?_
  refine Tr.seq ?_
  refine Tr.seq ?_
  refine Tr.region ?_
  refine TrOps.sem (OpSem.call0 (law_additiveExample_does) rfl rfl rfl rfl (Les.refl _)) rfl rfl (by decide) ?_
  refine TrOps.sem (OpSem.not rfl rfl) rfl rfl (by decide) ?_
  refine TrOps.nil ?_
  refine At.seq ?_
  refine Tr.condF rfl rfl ?_
  refine Tr.skip ?_
  refine At.seq ?_
  refine Tr.seq ?_
  refine Tr.region ?_
  refine TrOps.sem (OpSem.loadbN rfl rfl rfl vs39 (by first | decide | simp)) rfl rfl (by decide) ?_
  refine TrOps.sem (OpSem.move (.inl rfl) rfl) rfl rfl (by decide) ?_
  refine TrOps.sem (OpSem.move (.inl rfl) rfl) rfl rfl (by decide) ?_
  refine TrOps.sem (OpSem.call0 (additive_Value_does ..) rfl rfl rfl rfl (Les.refl _)) rfl rfl (by decide) ?_
  refine TrOps.sem (OpSem.move (.inl rfl) rfl) rfl rfl (by decide) ?_
  refine TrOps.sem (OpSem.extract rfl rfl rfl) rfl rfl (by decide) ?_
  refine TrOps.sem (OpSem.extract rfl rfl rfl) rfl rfl (by decide) ?_
  refine TrOps.semM (OpSem.alloc 8 rfl zc28 rfl) rfl rfl (by decide) ?_
  refine TrOps.sem (OpSem.move (.inr rfl) rfl) rfl rfl (by decide) ?_
  refine TrOps.storeb rfl rfl rfl rfl rfl rfl rfl vs28 (by first | decide | simp) ?_
  refine TrOps.nil ?_
  refine At.seq ?_
  refine Tr.seq ?_
  refine Tr.seq ?_
  refine Tr.region ?_
  refine TrOps.sem (OpSem.fieldr rfl rfl fo28_0) rfl rfl (by decide) ?_
  refine TrOps.sem (OpSem.loadb1 rfl rfl rfl vs3 rfl) rfl rfl (by decide) ?_
  refine TrOps.sem (OpSem.bin rfl rfl rfl bneq) rfl rfl (by decide) ?_
  refine TrOps.sem (OpSem.move (.inl rfl) rfl) rfl rfl (by decide) ?_
  refine TrOps.split (n := 24) rfl (fun c24 => ?_) (fun c24 => ?_)
  · have hne : addF m pats s ≠ (0, 0) := fun e => by rw [e] at c24; simp at c24
    refine TrOps.gF rfl rfl rfl rfl c24 rfl (by decide) ?_
    refine TrOps.gF rfl rfl rfl rfl c24 rfl (by decide) ?_
    refine TrOps.gF rfl rfl rfl rfl c24 rfl (by decide) ?_
    refine TrOps.gF rfl rfl rfl rfl c24 rfl (by decide) ?_
    refine TrOps.gF rfl rfl rfl rfl c24 rfl (by decide) ?_
    refine TrOps.sem (OpSem.pickT rfl rfl c24 rfl) rfl rfl (by decide) ?_
    refine TrOps.nil ?_
    refine At.seq ?_
    refine Tr.condT rfl rfl ?_
    refine Tr.seq ?_
    refine Tr.region ?_
    refine TrOps.sem (OpSem.move (.inl rfl) rfl) rfl rfl (by decide) ?_
    refine TrOps.sem (OpSem.bin rfl rfl rfl beql) rfl rfl (by decide) ?_
    refine TrOps.sem (OpSem.move (.inr rfl) rfl) rfl rfl (by decide) ?_
    refine TrOps.nil ?_
    refine At.seq ?_
    refine Tr.ret ?_
    refine At.pass_ret ?_
    exact At.ret rfl (.tmp rfl <| .nil) rfl (Le.bo (by first | rfl | (rw [addR_1 hne]; rfl) | (simpa using add_adm hF)))
  · have hF : addF m pats s = (0, 0) := addF_code (by simpa using c24)
    obtain ⟨hms, h6, hvf⟩ := addF_ok hF
    obtain ⟨hv, hst, hpo⟩ := addF_pats hF
    have hrk := rank_in hv.sizes hst
    have hcl := (costs_good hv).1
    have hN := nR_in hv
    refine TrOps.gT rfl rfl rfl rfl c24 ?_
    refine TrOps.sem (OpSem.loadbN rfl rfl rfl vs39 (by first | decide | simp)) rfl rfl (by decide) ?_
    refine TrOps.gT rfl rfl rfl rfl c24 ?_
    refine TrOps.sem (OpSem.move (.inl rfl) rfl) rfl rfl (by decide) ?_
    refine TrOps.gT rfl rfl rfl rfl c24 ?_
    refine TrOps.sem (OpSem.call0 (law_multiFault_does ..) rfl rfl rfl rfl (Les.refl _)) rfl rfl (by decide) ?_
    refine TrOps.gT rfl rfl rfl rfl c24 ?_
    refine TrOps.sem (OpSem.field1 rfl rfl f1_28_0 rfl) rfl rfl (by decide) ?_
    refine TrOps.gT rfl rfl rfl rfl c24 ?_
    refine TrOps.sem (OpSem.bin rfl rfl rfl bneq) rfl rfl (by decide) ?_
    refine TrOps.sem (OpSem.pickF rfl rfl c24 rfl) rfl rfl (by decide) ?_
    refine TrOps.nil ?_
    refine At.seq ?_
    refine Tr.condF rfl (by rw [hms]; rfl) ?_
    refine Tr.skip ?_
    refine At.seq ?_
    refine Tr.seq ?_
    refine Tr.seq ?_
    refine Tr.region ?_
    refine TrOps.sem (OpSem.move (.inr rfl) rfl) rfl rfl (by decide) ?_
    refine TrOps.nil ?_
    refine At.seq ?_
    refine Tr.block ?_
    refine Tr.loop (X := Nat) (fun k => k ≤ pats.length) (fun k => [(1, .d (rows pats)), (2, .d (ints s)), (3, .r 3 0), (7, I (addR m pats s)), (9, I (k))]) (fun k => [(3, .box [.d (ints m.sizes), .d (ints m.init), .d (asgs m.goal), .d (opsD m.ops)])]) (fun k => pats.length - k) 0 (by omega) ?_ ?_
    · exact .slot rfl (.refl _) <| .slot rfl (.refl _) <| .slot rfl (.refl _) <| .slot rfl (.refl _) <| .slot rfl (Le.of_eq (by simp)) <| .mem rfl <| .nil
    · rintro k hkl
      refine Tr.seq ?_
      refine Tr.seq ?_
      refine Tr.region ?_
      refine TrOps.sem (OpSem.move (.inl rfl) rfl) rfl rfl (by decide) ?_
      refine TrOps.sem (OpSem.move (.inl rfl) rfl) rfl rfl (by decide) ?_
      refine TrOps.sem (OpSem.lenL rfl rfl es47) rfl rfl (by decide) ?_
      refine TrOps.sem (OpSem.bin rfl rfl rfl blss) rfl rfl (by decide) ?_
      refine TrOps.nil ?_
      refine At.seq ?_
      refine Tr.cond rfl (fun c36 => ?_) (fun c36 => ?_)
      · have hk : k < pats.length := by simpa using c36
        refine Tr.skip ?_
        refine At.seq ?_
        refine Tr.seq ?_
        refine Tr.block ?_
        refine Tr.seq ?_
        refine PC.start [] ?_
        refine PC.sem (OpSem.loadbN rfl rfl rfl vs39 (by first | decide | simp)) rfl rfl ?_
        refine PC.sem (OpSem.move (.inl rfl) rfl) rfl rfl ?_
        refine PC.sem (OpSem.move (.inl rfl) rfl) rfl rfl ?_
        refine PC.sem (OpSem.idxL rfl rfl rfl es47 (by omega) (by omega)) rfl rfl ?_
        refine PC.sem (OpSem.load1 rfl rfl vs23 rfl) rfl rfl ?_
        refine PC.sem (OpSem.move (.inl rfl) rfl) rfl rfl ?_
        refine PC.sem (OpSem.call0 (project_Value_does m (nth pats k) s) rfl rfl rfl rfl (Les.refl _)) rfl rfl ?_
        refine PC.sem (OpSem.move (.inl rfl) rfl) rfl rfl ?_
        refine PC.sem (OpSem.extract rfl rfl rfl) rfl rfl ?_
        refine PC.sem (OpSem.extract rfl rfl rfl) rfl rfl ?_
        refine PC.semM (OpSem.alloc 11 rfl zc28 rfl) rfl rfl ?_
        refine PC.sem (OpSem.move (.inr rfl) rfl) rfl rfl ?_
        refine PC.done1 11 (.box [I (0), I (0)]) mixed (by kernel_rfl) (by kernel_rfl) (by kernel_rfl) (by kernel_rfl) (by kernel_rfl) ?_
        refine TrOps.storeb rfl rfl rfl rfl rfl rfl rfl vs28 (by first | decide | simp) ?_
        refine TrOps.nil ?_
        refine At.seq ?_
        refine Tr.seq ?_
        refine Tr.region ?_
        refine TrOps.sem (OpSem.fieldr rfl rfl fo28_0) rfl rfl (by decide) ?_
        refine TrOps.sem (OpSem.loadb1 rfl rfl rfl vs3 rfl) rfl rfl (by decide) ?_
        refine TrOps.sem (OpSem.bin rfl rfl rfl bneq) rfl rfl (by decide) ?_
        refine TrOps.sem (OpSem.move (.inl rfl) rfl) rfl rfl (by decide) ?_
        refine TrOps.gT rfl rfl rfl rfl (by rw [hvf k hk]; rfl) ?_
        refine TrOps.sem (OpSem.move (.inl rfl) rfl) rfl rfl (by decide) ?_
        refine TrOps.gT rfl rfl rfl rfl (by rw [hvf k hk]; rfl) ?_
        refine TrOps.sem (OpSem.move (.inl rfl) rfl) rfl rfl (by decide) ?_
        refine TrOps.gT rfl rfl rfl rfl (by rw [hvf k hk]; rfl) ?_
        refine TrOps.sem (OpSem.bin rfl rfl rfl bgtr) rfl rfl (by decide) ?_
        refine TrOps.sem (OpSem.pickF rfl rfl (by rw [hvf k hk]; rfl) rfl) rfl rfl (by decide) ?_
        refine TrOps.nil ?_
        refine At.seq ?_
        refine Tr.condF rfl (by have := add_each hF hk; simpa using this) ?_
        refine Tr.skip ?_
        refine At.block_normal ?_
        refine At.seq ?_
        refine Tr.region ?_
        refine TrOps.sem (OpSem.move (.inl rfl) rfl) rfl rfl (by decide) ?_
        refine TrOps.sem (OpSem.bin rfl rfl rfl (badd (by omega) (by omega))) rfl rfl (by decide) ?_
        refine TrOps.sem (OpSem.move (.inr rfl) rfl) rfl rfl (by decide) ?_
        refine TrOps.nil ?_
        refine At.again (k + 1) (by omega) ?_ (by omega)
        exact .slot rfl (.refl _) <| .slot rfl (.refl _) <| .slot rfl (.refl _) <| .slot rfl (.refl _) <| .slot rfl (Le.of_eq (by simp)) <| .mem rfl <| .nil
      · refine Tr.exit ?_
        refine At.pass_exit ?_
        refine At.pass_exit ?_
        refine At.block_same ?_
        refine At.seq ?_
        refine Tr.seq ?_
        refine PC.start [] ?_
        refine PC.sem (OpSem.loadbN rfl rfl rfl vs39 (by first | decide | simp)) rfl rfl ?_
        refine PC.sem (OpSem.call0 (law_small_does m hv) rfl rfl rfl rfl (Les.refl _)) rfl rfl ?_
        refine PC.sem (OpSem.not rfl rfl) rfl rfl ?_
        refine PC.sem (OpSem.move (.inl rfl) rfl) rfl rfl ?_
        refine PC.split (n := 60) rfl (fun c60 => ?_) (fun c60 => ?_)
        · refine PC.gF rfl rfl rfl rfl c60 rfl ?_
          refine PC.gF rfl rfl rfl rfl c60 rfl ?_
          refine PC.gF rfl rfl rfl rfl c60 rfl ?_
          refine PC.gF rfl rfl rfl rfl c60 rfl ?_
          refine PC.gF rfl rfl rfl rfl c60 rfl ?_
          refine PC.gF rfl rfl rfl rfl c60 rfl ?_
          refine PC.gF rfl rfl rfl rfl c60 rfl ?_
          refine PC.gF rfl rfl rfl rfl c60 rfl ?_
          refine PC.done0 mixed (by kernel_rfl) (by kernel_rfl) (by kernel_rfl) (by kernel_rfl) (by kernel_rfl) ?_
          refine TrOps.gF rfl rfl rfl rfl c60 rfl (by decide) ?_
          refine TrOps.sem (OpSem.pickT rfl rfl c60 rfl) rfl rfl (by decide) ?_
          refine TrOps.sem (OpSem.move (.inr rfl) rfl) rfl rfl (by decide) ?_
          refine TrOps.nil ?_
          refine At.seq ?_
          refine Tr.ret ?_
          exact At.ret rfl (.tmp rfl <| .nil) rfl (Le.bo (by first | rfl | (rw [addR_1 hne]; rfl) | (simpa using add_adm hF)))
        · refine PC.gT (OpSem.move (.inl rfl) rfl) rfl rfl rfl rfl c60 rfl ?_
          refine PC.gT (OpSem.loadbN rfl rfl rfl vs39 (by first | decide | simp)) rfl rfl rfl rfl c60 rfl ?_
          refine PC.gT (OpSem.call0 (R_MultiCosts_does m hv).fresh rfl rfl rfl rfl (Les.refl _)) rfl rfl rfl rfl c60 rfl ?_
          refine PC.gT (OpSem.loadbN rfl rfl rfl vs39 (by first | decide | simp)) rfl rfl rfl rfl c60 rfl ?_
          refine PC.gT (OpSem.move (.inl rfl) rfl) rfl rfl rfl rfl c60 rfl ?_
          refine PC.gT (OpSem.call0 (R_Rank_does m s hv hst) rfl rfl rfl rfl (Les.refl _)) rfl rfl rfl rfl c60 rfl ?_
          refine PC.gT (OpSem.idxL rfl rfl rfl es23 (by omega) (by omega)) rfl rfl rfl rfl c60 rfl ?_
          refine PC.gT (OpSem.load1 rfl rfl vs3 rfl) rfl rfl rfl rfl c60 rfl ?_
          refine PC.done0 mixed (by kernel_rfl) (by kernel_rfl) (by kernel_rfl) (by kernel_rfl) (by kernel_rfl) ?_
          refine TrOps.gT rfl rfl rfl rfl c60 ?_
          refine TrOps.sem (OpSem.bin rfl rfl rfl bleq) rfl rfl (by decide) ?_
          refine TrOps.sem (OpSem.pickF rfl rfl c60 rfl) rfl rfl (by decide) ?_
          refine TrOps.sem (OpSem.move (.inr rfl) rfl) rfl rfl (by decide) ?_
          refine TrOps.nil ?_
          refine At.seq ?_
          refine Tr.ret ?_
          exact At.ret rfl (.tmp rfl <| .nil) rfl (Le.bo (by first | rfl | (rw [addR_1 hne]; rfl) | (simpa using add_adm hF)))

theorem law_AdditiveOrderIrrelevant_does (m : Multi) (pats : List (List Int)) (s : List Int) : Does Try.prog false 9 [multi m, .d (rows pats), .d (ints s)] (Bo true) := by
  refine Does.of_body Try.func9 rfl rfl (by simp) Try.call9 (fun w0 O0 => ?_)
  refine Tr.lenG (n := 0) (i := 0) rfl rfl (fun len0_0 => ?_)
  refine Tr.lenG (n := 0) (i := 1) rfl rfl (fun len0_1 => ?_)
  refine Tr.lenG (n := 0) (i := 2) rfl rfl (fun len0_2 => ?_)
  refine Tr.lenG (n := 0) (i := 3) rfl rfl (fun len0_3 => ?_)
  refine Tr.lenLe (n := 1) rfl (fun len1 => ?_)
  refine Tr.lenLe (n := 2) rfl (fun len2 => ?_)
  refine Tr.seq ?_
  refine Tr.region ?_
  refine TrOps.semM (OpSem.box 3 rfl rfl rfl rfl) rfl rfl (by decide) ?_
  refine TrOps.sem (OpSem.move (.inr rfl) rfl) rfl rfl (by decide) ?_
  refine TrOps.nil ?_
  refine At.seq ?_
  refine Tr.seq ?_
  refine Tr.seq ?_
  refine Tr.region ?_
  refine TrOps.sem (OpSem.call0 (law_additiveExample_does) rfl rfl rfl rfl (Les.refl _)) rfl rfl (by decide) ?_
  refine TrOps.sem (OpSem.not rfl rfl) rfl rfl (by decide) ?_
  refine TrOps.nil ?_
  refine At.seq ?_
  refine Tr.condF rfl rfl ?_
  refine Tr.skip ?_
  refine At.seq ?_
  refine Tr.seq ?_
  refine Tr.region ?_
  refine TrOps.sem (OpSem.loadbN rfl rfl rfl vs39 (by first | decide | simp)) rfl rfl (by decide) ?_
  refine TrOps.sem (OpSem.move (.inl rfl) rfl) rfl rfl (by decide) ?_
  refine TrOps.sem (OpSem.move (.inl rfl) rfl) rfl rfl (by decide) ?_
  refine TrOps.sem (OpSem.call0 (additive_Value_does ..) rfl rfl rfl rfl (Les.refl _)) rfl rfl (by decide) ?_
  refine TrOps.sem (OpSem.move (.inl rfl) rfl) rfl rfl (by decide) ?_
  refine TrOps.sem (OpSem.extract rfl rfl rfl) rfl rfl (by decide) ?_
  refine TrOps.sem (OpSem.extract rfl rfl rfl) rfl rfl (by decide) ?_
  refine TrOps.semM (OpSem.alloc 8 rfl zc28 rfl) rfl rfl (by decide) ?_
  refine TrOps.sem (OpSem.move (.inr rfl) rfl) rfl rfl (by decide) ?_
  refine TrOps.storeb rfl rfl rfl rfl rfl rfl rfl vs28 (by first | decide | simp) ?_
  refine TrOps.nil ?_
  refine At.seq ?_
  refine Tr.seq ?_
  refine Tr.seq ?_
  refine Tr.region ?_
  refine TrOps.sem (OpSem.fieldr rfl rfl fo28_0) rfl rfl (by decide) ?_
  refine TrOps.sem (OpSem.loadb1 rfl rfl rfl vs3 rfl) rfl rfl (by decide) ?_
  refine TrOps.sem (OpSem.bin rfl rfl rfl bneq) rfl rfl (by decide) ?_
  refine TrOps.sem (OpSem.move (.inl rfl) rfl) rfl rfl (by decide) ?_
  refine TrOps.split (n := 27) rfl (fun c27 => ?_) (fun c27 => ?_)
  · have hne : addF m pats s ≠ (0, 0) := fun e => by rw [e] at c27; simp at c27
    refine TrOps.gF rfl rfl rfl rfl c27 rfl (by decide) ?_
    refine TrOps.gF rfl rfl rfl rfl c27 rfl (by decide) ?_
    refine TrOps.gF rfl rfl rfl rfl c27 rfl (by decide) ?_
    refine TrOps.sem (OpSem.pickT rfl rfl c27 rfl) rfl rfl (by decide) ?_
    refine TrOps.nil ?_
    refine At.seq ?_
    refine Tr.condT rfl rfl ?_
    refine Tr.seq ?_
    refine Tr.region ?_
    refine TrOps.sem (OpSem.fieldr rfl rfl fo28_0) rfl rfl (by decide) ?_
    refine TrOps.sem (OpSem.loadb1 rfl rfl rfl vs3 rfl) rfl rfl (by decide) ?_
    refine TrOps.sem (OpSem.bin rfl rfl rfl beql) rfl rfl (by decide) ?_
    refine TrOps.sem (OpSem.move (.inl rfl) rfl) rfl rfl (by decide) ?_
    refine TrOps.split (n := 35) rfl (fun c35 => ?_) (fun c35 => ?_)
    · refine TrOps.gF rfl rfl rfl rfl c35 rfl (by decide) ?_
      refine TrOps.gF rfl rfl rfl rfl c35 rfl (by decide) ?_
      refine TrOps.sem (OpSem.pickT rfl rfl c35 rfl) rfl rfl (by decide) ?_
      refine TrOps.sem (OpSem.move (.inr rfl) rfl) rfl rfl (by decide) ?_
      refine TrOps.nil ?_
      refine At.seq ?_
      refine Tr.ret ?_
      refine At.pass_ret ?_
      exact At.ret rfl (.tmp rfl <| .nil) rfl (Le.bo (by first | rfl | (rw [addR_1 hne]; rfl) | (exfalso; rw [hF] at c35; simp at c35; done) | (simpa using ht.2)))
    · refine TrOps.gT rfl rfl rfl rfl c35 ?_
      refine TrOps.sem (OpSem.move (.inl rfl) rfl) rfl rfl (by decide) ?_
      refine TrOps.gT rfl rfl rfl rfl c35 ?_
      refine TrOps.sem (OpSem.bin rfl rfl rfl beql) rfl rfl (by decide) ?_
      refine TrOps.sem (OpSem.pickF rfl rfl c35 rfl) rfl rfl (by decide) ?_
      refine TrOps.sem (OpSem.move (.inr rfl) rfl) rfl rfl (by decide) ?_
      refine TrOps.nil ?_
      refine At.seq ?_
      refine Tr.ret ?_
      refine At.pass_ret ?_
      exact At.ret rfl (.tmp rfl <| .nil) rfl (Le.bo (by first | rfl | (rw [addR_1 hne]; rfl) | (exfalso; rw [hF] at c35; simp at c35; done) | (simpa using ht.2)))
  · have hF : addF m pats s = (0, 0) := addF_code (by simpa using c27)
    obtain ⟨hms, h6, hvf⟩ := addF_ok hF
    refine TrOps.gT rfl rfl rfl rfl c27 ?_
    refine TrOps.sem (OpSem.move (.inl rfl) rfl) rfl rfl (by decide) ?_
    refine TrOps.gT rfl rfl rfl rfl c27 ?_
    refine TrOps.sem (OpSem.lenL rfl rfl es47) rfl rfl (by decide) ?_
    refine TrOps.gT rfl rfl rfl rfl c27 ?_
    refine TrOps.sem (OpSem.bin rfl rfl rfl beql) rfl rfl (by decide) ?_
    refine TrOps.sem (OpSem.pickF rfl rfl c27 rfl) rfl rfl (by decide) ?_
    refine TrOps.nil ?_
    refine At.seq ?_
    refine Tr.cond rfl (fun c31 => ?_) (fun c31 => ?_)
    · refine Tr.seq ?_
      refine Tr.region ?_
      refine TrOps.sem (OpSem.fieldr rfl rfl fo28_0) rfl rfl (by decide) ?_
      refine TrOps.sem (OpSem.loadb1 rfl rfl rfl vs3 rfl) rfl rfl (by decide) ?_
      refine TrOps.sem (OpSem.bin rfl rfl rfl beql) rfl rfl (by decide) ?_
      refine TrOps.sem (OpSem.move (.inl rfl) rfl) rfl rfl (by decide) ?_
      refine TrOps.split (n := 35) rfl (fun c35 => ?_) (fun c35 => ?_)
      · refine TrOps.gF rfl rfl rfl rfl c35 rfl (by decide) ?_
        refine TrOps.gF rfl rfl rfl rfl c35 rfl (by decide) ?_
        refine TrOps.sem (OpSem.pickT rfl rfl c35 rfl) rfl rfl (by decide) ?_
        refine TrOps.sem (OpSem.move (.inr rfl) rfl) rfl rfl (by decide) ?_
        refine TrOps.nil ?_
        refine At.seq ?_
        refine Tr.ret ?_
        refine At.pass_ret ?_
        exact At.ret rfl (.tmp rfl <| .nil) rfl (Le.bo (by first | rfl | (rw [addR_1 hne]; rfl) | (exfalso; rw [hF] at c35; simp at c35; done) | (simpa using ht.2)))
      · refine TrOps.gT rfl rfl rfl rfl c35 ?_
        refine TrOps.sem (OpSem.move (.inl rfl) rfl) rfl rfl (by decide) ?_
        refine TrOps.gT rfl rfl rfl rfl c35 ?_
        refine TrOps.sem (OpSem.bin rfl rfl rfl beql) rfl rfl (by decide) ?_
        refine TrOps.sem (OpSem.pickF rfl rfl c35 rfl) rfl rfl (by decide) ?_
        refine TrOps.sem (OpSem.move (.inr rfl) rfl) rfl rfl (by decide) ?_
        refine TrOps.nil ?_
        refine At.seq ?_
        refine Tr.ret ?_
        refine At.pass_ret ?_
        exact At.ret rfl (.tmp rfl <| .nil) rfl (Le.bo (by first | rfl | (rw [addR_1 hne]; rfl) | (exfalso; rw [hF] at c35; simp at c35; done) | (simpa using ht.2)))
    · have hl0 : pats.length ≠ 0 := fun e => by simp [e] at c31
      have hr := add_rev hF
      rw [← backTo_end] at hr
      have ht := add_tail hF hl0
      refine Tr.skip ?_
      refine At.seq ?_
      refine Tr.seq ?_
      refine Tr.region ?_
      refine TrOps.sem (OpSem.move (.inr rfl) rfl) rfl rfl (by decide) ?_
      refine TrOps.nil ?_
      refine At.seq ?_
      refine Tr.seq ?_
      refine Tr.seq ?_
      refine Tr.ownNil (n := 9) 9 1 23 rfl ?_
      refine Tr.region ?_
      refine TrOps.sem (OpSem.move (.inl rfl) rfl) rfl rfl (by decide) ?_
      refine TrOps.sem (OpSem.lenL rfl rfl es47) rfl rfl (by decide) ?_
      refine TrOps.sem (OpSem.bin rfl rfl rfl (bsub (by omega) (by omega))) rfl rfl (by decide) ?_
      refine TrOps.sem (OpSem.move (.inr rfl) rfl) rfl rfl (by decide) ?_
      refine TrOps.nil ?_
      refine At.seq ?_
      refine Tr.block ?_
      refine Tr.loop (X := Nat) (fun k => k ≤ pats.length) (fun k => [(1, .d (rows pats)), (2, .d (ints s)), (3, .r 3 0), (7, I (addR m pats s)), (9, .o 9), (10, I ((pats.length : Int) - 1 - k))]) (fun k => [(9, .own 1 23 ((backTo pats k).map fun r => [ints r])), (3, .box [.d (ints m.sizes), .d (ints m.init), .d (asgs m.goal), .d (opsD m.ops)])]) (fun k => pats.length - k) 0 (by omega) ?_ ?_
      · exact .slot rfl (.refl _) <| .slot rfl (.refl _) <| .slot rfl (.refl _) <| .slot rfl (.refl _) <| .slot rfl (.refl _) <| .slot rfl (Le.of_eq (by simp)) <| .memEq rfl rfl <| .mem rfl <| .nil
      · rintro k hkl
        refine Tr.seq ?_
        refine Tr.seq ?_
        refine Tr.region ?_
        refine TrOps.sem (OpSem.move (.inl rfl) rfl) rfl rfl (by decide) ?_
        refine TrOps.sem (OpSem.bin rfl rfl rfl bgeq) rfl rfl (by decide) ?_
        refine TrOps.nil ?_
        refine At.seq ?_
        refine Tr.cond rfl (fun c43 => ?_) (fun c43 => ?_)
        · have hk : k < pats.length := by simp at c43; omega
          refine Tr.skip ?_
          refine At.seq ?_
          refine Tr.seq ?_
          refine Tr.block ?_
          refine Tr.region ?_
          refine TrOps.sem (OpSem.move (.inl rfl) rfl) rfl rfl (by decide) ?_
          refine TrOps.sem (OpSem.move (.inl rfl) rfl) rfl rfl (by decide) ?_
          refine TrOps.sem (OpSem.move (.inl rfl) rfl) rfl rfl (by decide) ?_
          refine TrOps.sem (OpSem.idxL rfl rfl rfl es47 (by omega) (by omega)) rfl rfl (by decide) ?_
          refine TrOps.sem (OpSem.load1 rfl rfl vs23 rfl) rfl rfl (by decide) ?_
          refine TrOps.sem (OpSem.buildSlice rfl rfl es47 ze47 rfl rfl (by decide) (by decide) rfl rfl) rfl rfl (by decide) ?_
          refine TrOps.append rfl rfl rfl (by decide) rfl rfl rfl es47 el47 zc23 rfl by23 (by simp [D.one, Value.oneCell']) (by simp [maxLen, backTo_len]; omega) (by simp [backTo_len]; omega) ?_
          refine TrOps.sem (OpSem.move (.inr rfl) rfl) rfl rfl (by decide) ?_
          refine TrOps.nil ?_
          refine At.block_normal ?_
          refine At.seq ?_
          refine Tr.region ?_
          refine TrOps.sem (OpSem.move (.inl rfl) rfl) rfl rfl (by decide) ?_
          refine TrOps.sem (OpSem.bin rfl rfl rfl (bsub (by omega) (by omega))) rfl rfl (by decide) ?_
          refine TrOps.sem (OpSem.move (.inr rfl) rfl) rfl rfl (by decide) ?_
          refine TrOps.nil ?_
          refine At.again (k + 1) (by omega) ?_ (by omega)
          exact .slot rfl (.refl _) <| .slot rfl (.refl _) <| .slot rfl (.refl _) <| .slot rfl (.refl _) <| .slot rfl (.refl _) <| .slot rfl (Le.i (by omega)) <| .memEq rfl (by rw [show (pats.length : Int) - 1 - k = ((pats.length - 1 - k : Nat) : Int) by omega]; simp [backTo]) <| .mem rfl <| .nil
        · have hk : k = pats.length := by simp at c43; omega
          subst hk
          refine Tr.exit ?_
          refine At.pass_exit ?_
          refine At.pass_exit ?_
          refine At.block_same ?_
          refine At.seq ?_
          refine Tr.seq ?_
          refine Tr.freeze 9 rfl ?_
          refine Tr.region ?_
          refine TrOps.sem (OpSem.loadbN rfl rfl rfl vs39 (by first | decide | simp)) rfl rfl (by decide) ?_
          refine TrOps.sem (OpSem.move (.inl rfl) rfl) rfl rfl (by decide) ?_
          refine TrOps.sem (OpSem.move (.inl rfl) rfl) rfl rfl (by decide) ?_
          refine TrOps.sem (OpSem.call0 (additive_Value_does m (backTo pats pats.length) s) rfl rfl rfl rfl (Les.refl _)) rfl rfl (by decide) ?_
          refine TrOps.sem (OpSem.move (.inl rfl) rfl) rfl rfl (by decide) ?_
          refine TrOps.sem (OpSem.extract rfl rfl rfl) rfl rfl (by decide) ?_
          refine TrOps.sem (OpSem.extract rfl rfl rfl) rfl rfl (by decide) ?_
          refine TrOps.semM (OpSem.alloc 12 rfl zc28 rfl) rfl rfl (by decide) ?_
          refine TrOps.sem (OpSem.move (.inr rfl) rfl) rfl rfl (by decide) ?_
          refine TrOps.storeb rfl rfl rfl rfl rfl rfl rfl vs28 (by first | decide | simp) ?_
          refine TrOps.nil ?_
          refine At.seq ?_
          refine Tr.seq ?_
          refine PC.start [] ?_
          refine PC.sem (OpSem.loadbN rfl rfl rfl vs39 (by first | decide | simp)) rfl rfl ?_
          refine PC.sem (OpSem.move (.inl rfl) rfl) rfl rfl ?_
          refine PC.sem (OpSem.sliceL rfl rfl rfl es47 (by omega) (by omega)) rfl rfl ?_
          refine PC.sem (OpSem.move (.inl rfl) rfl) rfl rfl ?_
          refine PC.sem (OpSem.call0 (additive_Value_does m (pats.drop 1) s) rfl rfl rfl rfl (Les.refl _)) rfl rfl ?_
          refine PC.sem (OpSem.move (.inl rfl) rfl) rfl rfl ?_
          refine PC.sem (OpSem.extract rfl rfl rfl) rfl rfl ?_
          refine PC.sem (OpSem.extract rfl rfl rfl) rfl rfl ?_
          refine PC.semM (OpSem.alloc 14 rfl zc28 rfl) rfl rfl ?_
          refine PC.sem (OpSem.move (.inr rfl) rfl) rfl rfl ?_
          refine PC.done1 14 (.box [I (0), I (0)]) mixed (by kernel_rfl) (by kernel_rfl) (by kernel_rfl) (by kernel_rfl) (by kernel_rfl) ?_
          refine TrOps.storeb rfl rfl rfl rfl rfl rfl rfl vs28 (by first | decide | simp) ?_
          refine TrOps.nil ?_
          refine At.seq ?_
          refine Tr.seq ?_
          refine Tr.region ?_
          refine TrOps.sem (OpSem.fieldr rfl rfl fo28_0) rfl rfl (by decide) ?_
          refine TrOps.sem (OpSem.loadb1 rfl rfl rfl vs3 rfl) rfl rfl (by decide) ?_
          refine TrOps.sem (OpSem.bin rfl rfl rfl beql) rfl rfl (by decide) ?_
          refine TrOps.sem (OpSem.move (.inl rfl) rfl) rfl rfl (by decide) ?_
          refine TrOps.gT rfl rfl rfl rfl (by rw [hr.1]; rfl) ?_
          refine TrOps.sem (OpSem.fieldr rfl rfl fo28_0) rfl rfl (by decide) ?_
          refine TrOps.gT rfl rfl rfl rfl (by rw [hr.1]; rfl) ?_
          refine TrOps.sem (OpSem.loadb1 rfl rfl rfl vs3 rfl) rfl rfl (by decide) ?_
          refine TrOps.gT rfl rfl rfl rfl (by rw [hr.1]; rfl) ?_
          refine TrOps.sem (OpSem.bin rfl rfl rfl beql) rfl rfl (by decide) ?_
          refine TrOps.sem (OpSem.pickT rfl rfl (by rw [hr.1]; rfl) rfl) rfl rfl (by decide) ?_
          refine TrOps.sem (OpSem.move (.inl rfl) rfl) rfl rfl (by decide) ?_
          refine TrOps.gT rfl rfl rfl rfl (by rw [ht.1]; rfl) ?_
          refine TrOps.sem (OpSem.move (.inl rfl) rfl) rfl rfl (by decide) ?_
          refine TrOps.gT rfl rfl rfl rfl (by rw [ht.1]; rfl) ?_
          refine TrOps.sem (OpSem.move (.inl rfl) rfl) rfl rfl (by decide) ?_
          refine TrOps.gT rfl rfl rfl rfl (by rw [ht.1]; rfl) ?_
          refine TrOps.sem (OpSem.bin rfl rfl rfl beql) rfl rfl (by decide) ?_
          refine TrOps.sem (OpSem.pickT rfl rfl (by rw [ht.1]; rfl) rfl) rfl rfl (by decide) ?_
          refine TrOps.sem (OpSem.move (.inl rfl) rfl) rfl rfl (by decide) ?_
          refine TrOps.gT rfl rfl rfl rfl (by rw [hr.2]; simp) ?_
          refine TrOps.sem (OpSem.move (.inl rfl) rfl) rfl rfl (by decide) ?_
          refine TrOps.gT rfl rfl rfl rfl (by rw [hr.2]; simp) ?_
          refine TrOps.sem (OpSem.move (.inl rfl) rfl) rfl rfl (by decide) ?_
          refine TrOps.gT rfl rfl rfl rfl (by rw [hr.2]; simp) ?_
          refine TrOps.sem (OpSem.bin rfl rfl rfl bleq) rfl rfl (by decide) ?_
          refine TrOps.sem (OpSem.pickT rfl rfl (by rw [hr.2]; simp) rfl) rfl rfl (by decide) ?_
          refine TrOps.sem (OpSem.move (.inr rfl) rfl) rfl rfl (by decide) ?_
          refine TrOps.nil ?_
          refine At.seq ?_
          refine Tr.ret ?_
          exact At.ret rfl (.tmp rfl <| .nil) rfl (Le.bo (by first | rfl | (rw [addR_1 hne]; rfl) | (exfalso; rw [hF] at c35; simp at c35; done) | (simpa using ht.2)))

theorem Q_GreatestSum_does (m : Multi) (pats : List (List Int)) (s : List Int) (hv : Valid m) (hst : StateP m.sizes s) (hpo : PatsOk m pats) (h6 : pats.length ≤ 6) : Does Try.prog false 34 [multi m, .d (rows pats), .d (ints s)] (I (bestW (valsL m pats s) (cmpF m pats) pats.length (2 ^ pats.length))) := by
  refine Does.of_body Try.func34 rfl rfl (by simp) Try.call34 (fun w0 O0 => ?_)
  refine Tr.lenG (n := 0) (i := 0) rfl rfl (fun len0_0 => ?_)
  refine Tr.lenG (n := 0) (i := 1) rfl rfl (fun len0_1 => ?_)
  refine Tr.lenG (n := 0) (i := 2) rfl rfl (fun len0_2 => ?_)
  refine Tr.lenG (n := 0) (i := 3) rfl rfl (fun len0_3 => ?_)
  refine Tr.lenLe (n := 1) rfl (fun len1 => ?_)
  refine Tr.lenLe (n := 2) rfl (fun len2 => ?_)
  refine Tr.seq ?_
  refine Tr.region ?_
  refine TrOps.semM (OpSem.box 3 rfl rfl rfl rfl) rfl rfl (by decide) ?_
  refine TrOps.sem (OpSem.move (.inr rfl) rfl) rfl rfl (by decide) ?_
  refine TrOps.nil ?_
  refine At.seq ?_
  refine Tr.seq ?_
  refine Tr.region ?_
  refine TrOps.sem (OpSem.move (.inr rfl) rfl) rfl rfl (by decide) ?_
  refine TrOps.nil ?_
  refine At.seq ?_
  refine Tr.seq ?_
  refine Tr.seq ?_
  refine Tr.region ?_
  refine TrOps.sem (OpSem.move (.inr rfl) rfl) rfl rfl (by decide) ?_
  refine TrOps.nil ?_
  refine At.seq ?_
  refine Tr.block ?_
  refine Tr.loop (X := Nat) (fun w => w ≤ 2 ^ pats.length) (fun w => [(1, .d (rows pats)), (2, .d (ints s)), (3, .r 3 0), (7, I (bestW (valsL m pats s) (cmpF m pats) pats.length w)), (8, I (w))]) (fun w => [(3, .box [.d (ints m.sizes), .d (ints m.init), .d (asgs m.goal), .d (opsD m.ops)])]) (fun w => 2 ^ pats.length - w) 0 (Nat.zero_le _) ?_ ?_
  · exact .slot rfl (.refl _) <| .slot rfl (.refl _) <| .slot rfl (.refl _) <| .slot rfl (Le.of_eq rfl) <| .slot rfl (Le.of_eq (by simp)) <| .mem rfl <| .nil
  · rintro w hwl
    refine Tr.seq ?_
    refine Tr.seq ?_
    refine Tr.region ?_
    refine TrOps.sem (OpSem.move (.inl rfl) rfl) rfl rfl (by decide) ?_
    refine TrOps.sem (OpSem.move (.inl rfl) rfl) rfl rfl (by decide) ?_
    refine TrOps.sem (OpSem.lenL rfl rfl es47) rfl rfl (by decide) ?_
    refine TrOps.sem (OpSem.bin rfl rfl rfl (bshl1 (by omega) (by omega))) rfl rfl (by decide) ?_
    refine TrOps.sem (OpSem.bin rfl rfl rfl blss) rfl rfl (by decide) ?_
    refine TrOps.nil ?_
    refine At.seq ?_
    refine Tr.cond rfl (fun c18 => ?_) (fun c18 => ?_)
    · have hw : w < 2 ^ pats.length := Int.ofNat_lt.1 (of_decide_eq_true c18)
      have hw64 : w ≤ 64 := by have : 2 ^ pats.length ≤ 2 ^ 6 := Nat.pow_le_pow_right (by omega) h6; omega
      refine Tr.skip ?_
      refine At.seq ?_
      refine Tr.seq ?_
      refine Tr.block ?_
      refine Tr.seq ?_
      refine Tr.region ?_
      refine TrOps.sem (OpSem.move (.inr rfl) rfl) rfl rfl (by decide) ?_
      refine TrOps.nil ?_
      refine At.seq ?_
      refine Tr.seq ?_
      refine Tr.region ?_
      refine TrOps.sem (OpSem.move (.inr rfl) rfl) rfl rfl (by decide) ?_
      refine TrOps.nil ?_
      refine At.seq ?_
      refine Tr.seq ?_
      refine Tr.seq ?_
      refine Tr.region ?_
      refine TrOps.sem (OpSem.move (.inr rfl) rfl) rfl rfl (by decide) ?_
      refine TrOps.nil ?_
      refine At.seq ?_
      refine Tr.block ?_
      refine Tr.loop (X := Nat) (fun i => i ≤ pats.length) (fun i => [(1, .d (rows pats)), (2, .d (ints s)), (3, .r 3 0), (7, I (bestW (valsL m pats s) (cmpF m pats) pats.length w)), (8, I (w)), (9, I (sumL (valsL m pats s) (bitI w) i)), (10, Bo (decide (FitsW (cmpF m pats) i w))), (11, I (i))]) (fun i => [(3, .box [.d (ints m.sizes), .d (ints m.init), .d (asgs m.goal), .d (opsD m.ops)])]) (fun i => pats.length - i) 0 (by omega) ?_ ?_
      · exact .slot rfl (.refl _) <| .slot rfl (.refl _) <| .slot rfl (.refl _) <| .slot rfl (.refl _) <| .slot rfl (.refl _) <| .slot rfl (Le.of_eq rfl) <| .slot rfl (Le.bo fits_0) <| .slot rfl (Le.of_eq (by simp)) <| .mem rfl <| .nil
      · rintro i hil
        refine Tr.seq ?_
        refine Tr.seq ?_
        refine Tr.region ?_
        refine TrOps.sem (OpSem.move (.inl rfl) rfl) rfl rfl (by decide) ?_
        refine TrOps.sem (OpSem.move (.inl rfl) rfl) rfl rfl (by decide) ?_
        refine TrOps.sem (OpSem.lenL rfl rfl es47) rfl rfl (by decide) ?_
        refine TrOps.sem (OpSem.bin rfl rfl rfl blss) rfl rfl (by decide) ?_
        refine TrOps.nil ?_
        refine At.seq ?_
        refine Tr.cond rfl (fun c24 => ?_) (fun c24 => ?_)
        · have hi : i < pats.length := by simpa using c24
          have hpi := hpo i hi
          have hsi := sumL_in (valsL_ok hv hpo hst) (p := bitI w) (n := i) (by rw [valsL_len]; omega) (by omega)
          have hpv := pval_in hv hst hpi.1 hpi.2.1 hpi.2.2
          have hat := valsL_at (m := m) (s := s) hi
          refine Tr.skip ?_
          refine At.seq ?_
          refine Tr.seq ?_
          refine Tr.block ?_
          refine Tr.seq ?_
          refine Tr.seq ?_
          refine Tr.region ?_
          refine TrOps.sem (OpSem.move (.inl rfl) rfl) rfl rfl (by decide) ?_
          refine TrOps.sem (OpSem.move (.inl rfl) rfl) rfl rfl (by decide) ?_
          refine TrOps.sem (OpSem.bin rfl rfl rfl (bshrK (by omega) (by simp [IntKind.bits]; omega))) rfl rfl (by decide) ?_
          refine TrOps.sem (OpSem.bin rfl rfl rfl (band1 (shr_in hw64).1 (shr_in hw64).2)) rfl rfl (by decide) ?_
          refine TrOps.sem (OpSem.bin rfl rfl rfl beql) rfl rfl (by decide) ?_
          refine TrOps.nil ?_
          refine At.seq ?_
          refine Tr.cond rfl (fun c31 => ?_) (fun c31 => ?_)
          · have hb := bit_f (of_decide_eq_true c31)
            refine Tr.exit ?_
            refine At.pass_exit ?_
            refine At.block_same ?_
            refine At.seq ?_
            refine Tr.region ?_
            refine TrOps.sem (OpSem.move (.inl rfl) rfl) rfl rfl (by decide) ?_
            refine TrOps.sem (OpSem.bin rfl rfl rfl (badd (by omega) (by omega))) rfl rfl (by decide) ?_
            refine TrOps.sem (OpSem.move (.inr rfl) rfl) rfl rfl (by decide) ?_
            refine TrOps.nil ?_
            refine At.again (i + 1) (by omega) ?_ (by omega)
            exact .slot rfl (.refl _) <| .slot rfl (.refl _) <| .slot rfl (.refl _) <| .slot rfl (.refl _) <| .slot rfl (.refl _) <| .slot rfl (Le.i (by first | exact sumL_n hb | exact sumL_i hb (.inl (by rw [hat]; exact of_decide_eq_true c64)) | exact sumL_i hb (.inr (of_decide_eq_true c67)) | (rw [← hat]; exact sumL_a hb (by rw [hat]; exact of_decide_eq_false c64) (of_decide_eq_false c67)))) <| .slot rfl (Le.bo (by first | exact fits_n hb | exact fits_s hb)) <| .slot rfl (Le.of_eq (by simp)) <| .mem rfl <| .nil
          · have hb := bit_t (of_decide_eq_false c31)
            refine Tr.skip ?_
            refine At.seq ?_
            refine Tr.seq ?_
            refine Tr.seq ?_
            refine Tr.region ?_
            refine TrOps.sem (OpSem.move (.inr rfl) rfl) rfl rfl (by decide) ?_
            refine TrOps.nil ?_
            refine At.seq ?_
            refine Tr.block ?_
            refine Tr.loop (X := Nat) (fun k => k ≤ i) (fun k => [(1, .d (rows pats)), (2, .d (ints s)), (3, .r 3 0), (7, I (bestW (valsL m pats s) (cmpF m pats) pats.length w)), (8, I (w)), (9, I (sumL (valsL m pats s) (bitI w) i)), (10, Bo (decide (FitsW (cmpF m pats) i w) && fitK (cmpF m pats) w i k)), (11, I (i)), (12, I (k))]) (fun k => [(3, .box [.d (ints m.sizes), .d (ints m.init), .d (asgs m.goal), .d (opsD m.ops)])]) (fun k => i - k) 0 (by omega) ?_ ?_
            · exact .slot rfl (.refl _) <| .slot rfl (.refl _) <| .slot rfl (.refl _) <| .slot rfl (.refl _) <| .slot rfl (.refl _) <| .slot rfl (.refl _) <| .slot rfl (Le.bo (by simp [fitK])) <| .slot rfl (.refl _) <| .slot rfl (Le.of_eq (by simp)) <| .mem rfl <| .nil
            · rintro k hkl
              refine Tr.seq ?_
              refine Tr.seq ?_
              refine Tr.region ?_
              refine TrOps.sem (OpSem.move (.inl rfl) rfl) rfl rfl (by decide) ?_
              refine TrOps.sem (OpSem.move (.inl rfl) rfl) rfl rfl (by decide) ?_
              refine TrOps.sem (OpSem.bin rfl rfl rfl blss) rfl rfl (by decide) ?_
              refine TrOps.nil ?_
              refine At.seq ?_
              refine Tr.cond rfl (fun c34 => ?_) (fun c34 => ?_)
              · have hk : k < i := by simpa using c34
                refine Tr.skip ?_
                refine At.seq ?_
                refine Tr.seq ?_
                refine Tr.block ?_
                refine Tr.seq ?_
                refine PC.start [] ?_
                refine PC.sem (OpSem.move (.inl rfl) rfl) rfl rfl ?_
                refine PC.sem (OpSem.move (.inl rfl) rfl) rfl rfl ?_
                refine PC.sem (OpSem.bin rfl rfl rfl (bshrK (by omega) (by simp [IntKind.bits]; omega))) rfl rfl ?_
                refine PC.sem (OpSem.bin rfl rfl rfl (band1 (shr_in hw64).1 (shr_in hw64).2)) rfl rfl ?_
                refine PC.sem (OpSem.bin rfl rfl rfl beql) rfl rfl ?_
                refine PC.sem (OpSem.move (.inl rfl) rfl) rfl rfl ?_
                refine PC.split (n := 42) rfl (fun c42 => ?_) (fun c42 => ?_)
                · have hkb := bit_1 (of_decide_eq_true c42)
                  refine PC.gT (OpSem.loadbN rfl rfl rfl vs39 (by first | decide | simp)) rfl rfl rfl rfl c42 rfl ?_
                  refine PC.gT (OpSem.move (.inl rfl) rfl) rfl rfl rfl rfl c42 rfl ?_
                  refine PC.gT (OpSem.move (.inl rfl) rfl) rfl rfl rfl rfl c42 rfl ?_
                  refine PC.gT (OpSem.idxL rfl rfl rfl es47 (by omega) (by omega)) rfl rfl rfl rfl c42 rfl ?_
                  refine PC.gT (OpSem.load1 rfl rfl vs23 rfl) rfl rfl rfl rfl c42 rfl ?_
                  refine PC.gT (OpSem.move (.inl rfl) rfl) rfl rfl rfl rfl c42 rfl ?_
                  refine PC.gT (OpSem.move (.inl rfl) rfl) rfl rfl rfl rfl c42 rfl ?_
                  refine PC.gT (OpSem.idxL rfl rfl rfl es47 (by omega) (by omega)) rfl rfl rfl rfl c42 rfl ?_
                  refine PC.gT (OpSem.load1 rfl rfl vs23 rfl) rfl rfl rfl rfl c42 rfl ?_
                  refine PC.done0 mixed (by kernel_rfl) (by kernel_rfl) (by kernel_rfl) (by kernel_rfl) (by kernel_rfl) ?_
                  refine TrOps.gT rfl rfl rfl rfl c42 ?_
                  refine TrOps.sem (OpSem.call0 (Q_Together_does m (nth pats i) (nth pats k)) rfl rfl rfl rfl (Les.refl _)) rfl rfl (by decide) ?_
                  refine TrOps.gT rfl rfl rfl rfl c42 ?_
                  refine TrOps.sem (OpSem.not rfl rfl) rfl rfl (by decide) ?_
                  refine TrOps.sem (OpSem.pickT rfl rfl c42 rfl) rfl rfl (by decide) ?_
                  refine TrOps.nil ?_
                  refine At.seq ?_
                  refine Tr.cond rfl (fun c54 => ?_) (fun c54 => ?_)
                  · refine Tr.region ?_
                    refine TrOps.sem (OpSem.move (.inr rfl) rfl) rfl rfl (by decide) ?_
                    refine TrOps.nil ?_
                    refine At.block_normal ?_
                    refine At.seq ?_
                    refine Tr.region ?_
                    refine TrOps.sem (OpSem.move (.inl rfl) rfl) rfl rfl (by decide) ?_
                    refine TrOps.sem (OpSem.bin rfl rfl rfl (badd (by omega) (by omega))) rfl rfl (by decide) ?_
                    refine TrOps.sem (OpSem.move (.inr rfl) rfl) rfl rfl (by decide) ?_
                    refine TrOps.nil ?_
                    refine At.again (k + 1) (by omega) ?_ (by omega)
                    exact .slot rfl (.refl _) <| .slot rfl (.refl _) <| .slot rfl (.refl _) <| .slot rfl (.refl _) <| .slot rfl (.refl _) <| .slot rfl (.refl _) <| .slot rfl (Le.bo (by first | exact fitK_t (.inl hkb) | exact fitK_t (C := cmpF m pats) (w := w) (i := i) (k := k) (.inr (by simpa [cmpF] using c54)) | exact fitK_f (C := cmpF m pats) (w := w) (i := i) (k := k) hkb (by simpa [cmpF] using c54))) <| .slot rfl (.refl _) <| .slot rfl (Le.of_eq (by simp)) <| .mem rfl <| .nil
                  · refine Tr.skip ?_
                    refine At.block_normal ?_
                    refine At.seq ?_
                    refine Tr.region ?_
                    refine TrOps.sem (OpSem.move (.inl rfl) rfl) rfl rfl (by decide) ?_
                    refine TrOps.sem (OpSem.bin rfl rfl rfl (badd (by omega) (by omega))) rfl rfl (by decide) ?_
                    refine TrOps.sem (OpSem.move (.inr rfl) rfl) rfl rfl (by decide) ?_
                    refine TrOps.nil ?_
                    refine At.again (k + 1) (by omega) ?_ (by omega)
                    exact .slot rfl (.refl _) <| .slot rfl (.refl _) <| .slot rfl (.refl _) <| .slot rfl (.refl _) <| .slot rfl (.refl _) <| .slot rfl (.refl _) <| .slot rfl (Le.bo (by first | exact fitK_t (.inl hkb) | exact fitK_t (C := cmpF m pats) (w := w) (i := i) (k := k) (.inr (by simpa [cmpF] using c54)) | exact fitK_f (C := cmpF m pats) (w := w) (i := i) (k := k) hkb (by simpa [cmpF] using c54))) <| .slot rfl (.refl _) <| .slot rfl (Le.of_eq (by simp)) <| .mem rfl <| .nil
                · have hkb := bit_0 (of_decide_eq_false c42)
                  refine PC.gF rfl rfl rfl rfl c42 rfl ?_
                  refine PC.gF rfl rfl rfl rfl c42 rfl ?_
                  refine PC.gF rfl rfl rfl rfl c42 rfl ?_
                  refine PC.gF rfl rfl rfl rfl c42 rfl ?_
                  refine PC.gF rfl rfl rfl rfl c42 rfl ?_
                  refine PC.gF rfl rfl rfl rfl c42 rfl ?_
                  refine PC.gF rfl rfl rfl rfl c42 rfl ?_
                  refine PC.gF rfl rfl rfl rfl c42 rfl ?_
                  refine PC.gF rfl rfl rfl rfl c42 rfl ?_
                  refine PC.done0 mixed (by kernel_rfl) (by kernel_rfl) (by kernel_rfl) (by kernel_rfl) (by kernel_rfl) ?_
                  refine TrOps.gF rfl rfl rfl rfl c42 rfl (by decide) ?_
                  refine TrOps.gF rfl rfl rfl rfl c42 rfl (by decide) ?_
                  refine TrOps.sem (OpSem.pickF rfl rfl c42 rfl) rfl rfl (by decide) ?_
                  refine TrOps.nil ?_
                  refine At.seq ?_
                  refine Tr.condF rfl rfl ?_
                  refine Tr.skip ?_
                  refine At.block_normal ?_
                  refine At.seq ?_
                  refine Tr.region ?_
                  refine TrOps.sem (OpSem.move (.inl rfl) rfl) rfl rfl (by decide) ?_
                  refine TrOps.sem (OpSem.bin rfl rfl rfl (badd (by omega) (by omega))) rfl rfl (by decide) ?_
                  refine TrOps.sem (OpSem.move (.inr rfl) rfl) rfl rfl (by decide) ?_
                  refine TrOps.nil ?_
                  refine At.again (k + 1) (by omega) ?_ (by omega)
                  exact .slot rfl (.refl _) <| .slot rfl (.refl _) <| .slot rfl (.refl _) <| .slot rfl (.refl _) <| .slot rfl (.refl _) <| .slot rfl (.refl _) <| .slot rfl (Le.bo (by first | exact fitK_t (.inl hkb) | exact fitK_t (C := cmpF m pats) (w := w) (i := i) (k := k) (.inr (by simpa [cmpF] using c54)) | exact fitK_f (C := cmpF m pats) (w := w) (i := i) (k := k) hkb (by simpa [cmpF] using c54))) <| .slot rfl (.refl _) <| .slot rfl (Le.of_eq (by simp)) <| .mem rfl <| .nil
              · have hk : i = k := by simp at c34; omega
                subst hk
                refine Tr.exit ?_
                refine At.pass_exit ?_
                refine At.pass_exit ?_
                refine At.block_same ?_
                refine At.seq ?_
                refine Tr.seq ?_
                refine PC.start [] ?_
                refine PC.sem (OpSem.loadbN rfl rfl rfl vs39 (by first | decide | simp)) rfl rfl ?_
                refine PC.sem (OpSem.move (.inl rfl) rfl) rfl rfl ?_
                refine PC.sem (OpSem.move (.inl rfl) rfl) rfl rfl ?_
                refine PC.sem (OpSem.idxL rfl rfl rfl es47 (by omega) (by omega)) rfl rfl ?_
                refine PC.sem (OpSem.load1 rfl rfl vs23 rfl) rfl rfl ?_
                refine PC.sem (OpSem.move (.inl rfl) rfl) rfl rfl ?_
                refine PC.done0 mixed (by kernel_rfl) (by kernel_rfl) (by kernel_rfl) (by kernel_rfl) (by kernel_rfl) ?_
                refine TrOps.sem (OpSem.call0 (Q_ProjectedValue_does m (nth pats i) s hv hst hpi.1 hpi.2.1) rfl rfl rfl rfl (Les.refl _)) rfl rfl (by decide) ?_
                refine TrOps.sem (OpSem.move (.inr rfl) rfl) rfl rfl (by decide) ?_
                refine TrOps.nil ?_
                refine At.seq ?_
                refine Tr.seq ?_
                refine Tr.region ?_
                refine TrOps.sem (OpSem.move (.inl rfl) rfl) rfl rfl (by decide) ?_
                refine TrOps.sem (OpSem.bin rfl rfl rfl beql) rfl rfl (by decide) ?_
                refine TrOps.sem (OpSem.move (.inl rfl) rfl) rfl rfl (by decide) ?_
                refine TrOps.split (n := 64) rfl (fun c64 => ?_) (fun c64 => ?_)
                · refine TrOps.gF rfl rfl rfl rfl c64 rfl (by decide) ?_
                  refine TrOps.gF rfl rfl rfl rfl c64 rfl (by decide) ?_
                  refine TrOps.sem (OpSem.pickT rfl rfl c64 rfl) rfl rfl (by decide) ?_
                  refine TrOps.nil ?_
                  refine At.seq ?_
                  refine Tr.condT rfl rfl ?_
                  refine Tr.region ?_
                  refine TrOps.sem (OpSem.move (.inr rfl) rfl) rfl rfl (by decide) ?_
                  refine TrOps.nil ?_
                  refine At.block_normal ?_
                  refine At.seq ?_
                  refine Tr.region ?_
                  refine TrOps.sem (OpSem.move (.inl rfl) rfl) rfl rfl (by decide) ?_
                  refine TrOps.sem (OpSem.bin rfl rfl rfl (badd (by omega) (by omega))) rfl rfl (by decide) ?_
                  refine TrOps.sem (OpSem.move (.inr rfl) rfl) rfl rfl (by decide) ?_
                  refine TrOps.nil ?_
                  refine At.again (i + 1) (by omega) ?_ (by omega)
                  exact .slot rfl (.refl _) <| .slot rfl (.refl _) <| .slot rfl (.refl _) <| .slot rfl (.refl _) <| .slot rfl (.refl _) <| .slot rfl (Le.i (by first | exact sumL_n hb | exact sumL_i hb (.inl (by rw [hat]; exact of_decide_eq_true c64)) | exact sumL_i hb (.inr (of_decide_eq_true c67)) | (rw [← hat]; exact sumL_a hb (by rw [hat]; exact of_decide_eq_false c64) (of_decide_eq_false c67)))) <| .slot rfl (Le.bo (by first | exact fits_n hb | exact fits_s hb)) <| .slot rfl (Le.of_eq (by simp)) <| .mem rfl <| .nil
                · refine TrOps.gT rfl rfl rfl rfl c64 ?_
                  refine TrOps.sem (OpSem.move (.inl rfl) rfl) rfl rfl (by decide) ?_
                  refine TrOps.gT rfl rfl rfl rfl c64 ?_
                  refine TrOps.sem (OpSem.bin rfl rfl rfl beql) rfl rfl (by decide) ?_
                  refine TrOps.sem (OpSem.pickF rfl rfl c64 rfl) rfl rfl (by decide) ?_
                  refine TrOps.nil ?_
                  refine At.seq ?_
                  refine Tr.cond rfl (fun c67 => ?_) (fun c67 => ?_)
                  · refine Tr.region ?_
                    refine TrOps.sem (OpSem.move (.inr rfl) rfl) rfl rfl (by decide) ?_
                    refine TrOps.nil ?_
                    refine At.block_normal ?_
                    refine At.seq ?_
                    refine Tr.region ?_
                    refine TrOps.sem (OpSem.move (.inl rfl) rfl) rfl rfl (by decide) ?_
                    refine TrOps.sem (OpSem.bin rfl rfl rfl (badd (by omega) (by omega))) rfl rfl (by decide) ?_
                    refine TrOps.sem (OpSem.move (.inr rfl) rfl) rfl rfl (by decide) ?_
                    refine TrOps.nil ?_
                    refine At.again (i + 1) (by omega) ?_ (by omega)
                    exact .slot rfl (.refl _) <| .slot rfl (.refl _) <| .slot rfl (.refl _) <| .slot rfl (.refl _) <| .slot rfl (.refl _) <| .slot rfl (Le.i (by first | exact sumL_n hb | exact sumL_i hb (.inl (by rw [hat]; exact of_decide_eq_true c64)) | exact sumL_i hb (.inr (of_decide_eq_true c67)) | (rw [← hat]; exact sumL_a hb (by rw [hat]; exact of_decide_eq_false c64) (of_decide_eq_false c67)))) <| .slot rfl (Le.bo (by first | exact fits_n hb | exact fits_s hb)) <| .slot rfl (Le.of_eq (by simp)) <| .mem rfl <| .nil
                  · refine Tr.region ?_
                    refine TrOps.sem (OpSem.move (.inl rfl) rfl) rfl rfl (by decide) ?_
                    refine TrOps.sem (OpSem.move (.inl rfl) rfl) rfl rfl (by decide) ?_
                    refine TrOps.sem (OpSem.bin rfl rfl rfl (badd (by omega) (by omega))) rfl rfl (by decide) ?_
                    refine TrOps.sem (OpSem.move (.inr rfl) rfl) rfl rfl (by decide) ?_
                    refine TrOps.nil ?_
                    refine At.block_normal ?_
                    refine At.seq ?_
                    refine Tr.region ?_
                    refine TrOps.sem (OpSem.move (.inl rfl) rfl) rfl rfl (by decide) ?_
                    refine TrOps.sem (OpSem.bin rfl rfl rfl (badd (by omega) (by omega))) rfl rfl (by decide) ?_
                    refine TrOps.sem (OpSem.move (.inr rfl) rfl) rfl rfl (by decide) ?_
                    refine TrOps.nil ?_
                    refine At.again (i + 1) (by omega) ?_ (by omega)
                    exact .slot rfl (.refl _) <| .slot rfl (.refl _) <| .slot rfl (.refl _) <| .slot rfl (.refl _) <| .slot rfl (.refl _) <| .slot rfl (Le.i (by first | exact sumL_n hb | exact sumL_i hb (.inl (by rw [hat]; exact of_decide_eq_true c64)) | exact sumL_i hb (.inr (of_decide_eq_true c67)) | (rw [← hat]; exact sumL_a hb (by rw [hat]; exact of_decide_eq_false c64) (of_decide_eq_false c67)))) <| .slot rfl (Le.bo (by first | exact fits_n hb | exact fits_s hb)) <| .slot rfl (Le.of_eq (by simp)) <| .mem rfl <| .nil
        · have hi : i = pats.length := by simp at c24; omega
          subst hi
          refine Tr.exit ?_
          refine At.pass_exit ?_
          refine At.pass_exit ?_
          refine At.block_same ?_
          refine At.seq ?_
          refine Tr.seq ?_
          refine Tr.region ?_
          refine TrOps.sem (OpSem.move (.inl rfl) rfl) rfl rfl (by decide) ?_
          refine TrOps.nil ?_
          refine At.seq ?_
          refine Tr.cond rfl (fun c71 => ?_) (fun c71 => ?_)
          · refine Tr.region ?_
            refine TrOps.sem (OpSem.move (.inl rfl) rfl) rfl rfl (by decide) ?_
            refine TrOps.sem (OpSem.move (.inl rfl) rfl) rfl rfl (by decide) ?_
            refine TrOps.sem (OpSem.max2 rfl rfl rfl) rfl rfl (by decide) ?_
            refine TrOps.sem (OpSem.move (.inr rfl) rfl) rfl rfl (by decide) ?_
            refine TrOps.nil ?_
            refine At.block_normal ?_
            refine At.seq ?_
            refine Tr.region ?_
            refine TrOps.sem (OpSem.move (.inl rfl) rfl) rfl rfl (by decide) ?_
            refine TrOps.sem (OpSem.bin rfl rfl rfl (badd (by omega) (by omega))) rfl rfl (by decide) ?_
            refine TrOps.sem (OpSem.move (.inr rfl) rfl) rfl rfl (by decide) ?_
            refine TrOps.nil ?_
            refine At.again (w + 1) (by omega) ?_ (by omega)
            exact .slot rfl (.refl _) <| .slot rfl (.refl _) <| .slot rfl (.refl _) <| .slot rfl (Le.i (by first | exact bestW_t c71 | exact bestW_f c71)) <| .slot rfl (Le.of_eq (by simp)) <| .mem rfl <| .nil
          · refine Tr.skip ?_
            refine At.block_normal ?_
            refine At.seq ?_
            refine Tr.region ?_
            refine TrOps.sem (OpSem.move (.inl rfl) rfl) rfl rfl (by decide) ?_
            refine TrOps.sem (OpSem.bin rfl rfl rfl (badd (by omega) (by omega))) rfl rfl (by decide) ?_
            refine TrOps.sem (OpSem.move (.inr rfl) rfl) rfl rfl (by decide) ?_
            refine TrOps.nil ?_
            refine At.again (w + 1) (by omega) ?_ (by omega)
            exact .slot rfl (.refl _) <| .slot rfl (.refl _) <| .slot rfl (.refl _) <| .slot rfl (Le.i (by first | exact bestW_t c71 | exact bestW_f c71)) <| .slot rfl (Le.of_eq (by simp)) <| .mem rfl <| .nil
    · have hw : ¬ w < 2 ^ pats.length := fun h => of_decide_eq_false c18 (Int.ofNat_lt.2 h)
      have hwe : w = 2 ^ pats.length := by omega
      subst hwe
      refine Tr.exit ?_
      refine At.pass_exit ?_
      refine At.pass_exit ?_
      refine At.block_same ?_
      refine At.seq ?_
      refine Tr.seq ?_
      refine Tr.region ?_
      refine TrOps.sem (OpSem.move (.inl rfl) rfl) rfl rfl (by decide) ?_
      refine TrOps.sem (OpSem.move (.inr rfl) rfl) rfl rfl (by decide) ?_
      refine TrOps.nil ?_
      refine At.seq ?_
      refine Tr.ret ?_
      exact At.ret rfl (.tmp rfl <| .nil) rfl (.refl _)

theorem law_AdditiveValueMatchesSpec_does (m : Multi) (pats : List (List Int)) (s : List Int) : Does Try.prog false 7 [multi m, .d (rows pats), .d (ints s)] (Bo true) := by
  refine Does.of_body Try.func7 rfl rfl (by simp) Try.call7 (fun w0 O0 => ?_)
  refine Tr.lenG (n := 0) (i := 0) rfl rfl (fun len0_0 => ?_)
  refine Tr.lenG (n := 0) (i := 1) rfl rfl (fun len0_1 => ?_)
  refine Tr.lenG (n := 0) (i := 2) rfl rfl (fun len0_2 => ?_)
  refine Tr.lenG (n := 0) (i := 3) rfl rfl (fun len0_3 => ?_)
  refine Tr.lenLe (n := 1) rfl (fun len1 => ?_)
  refine Tr.lenLe (n := 2) rfl (fun len2 => ?_)
  refine Tr.seq ?_
  refine Tr.region ?_
  refine TrOps.semM (OpSem.box 3 rfl rfl rfl rfl) rfl rfl (by decide) ?_
  refine TrOps.sem (OpSem.move (.inr rfl) rfl) rfl rfl (by decide) ?_
  refine TrOps.nil ?_
  refine At.seq ?_
  refine Tr.seq ?_
  refine Tr.seq ?_
  refine Tr.region ?_
  refine TrOps.sem (OpSem.call0 (law_additiveExample_does) rfl rfl rfl rfl (Les.refl _)) rfl rfl (by decide) ?_
  refine TrOps.sem (OpSem.not rfl rfl) rfl rfl (by decide) ?_
  refine TrOps.nil ?_
  refine At.seq ?_
  refine Tr.condF rfl rfl ?_
  refine Tr.skip ?_
  refine At.seq ?_
  refine Tr.seq ?_
  refine Tr.region ?_
  refine TrOps.sem (OpSem.loadbN rfl rfl rfl vs39 (by first | decide | simp)) rfl rfl (by decide) ?_
  refine TrOps.sem (OpSem.move (.inl rfl) rfl) rfl rfl (by decide) ?_
  refine TrOps.sem (OpSem.move (.inl rfl) rfl) rfl rfl (by decide) ?_
  refine TrOps.sem (OpSem.call0 (additive_Value_does ..) rfl rfl rfl rfl (Les.refl _)) rfl rfl (by decide) ?_
  refine TrOps.sem (OpSem.move (.inl rfl) rfl) rfl rfl (by decide) ?_
  refine TrOps.sem (OpSem.extract rfl rfl rfl) rfl rfl (by decide) ?_
  refine TrOps.sem (OpSem.extract rfl rfl rfl) rfl rfl (by decide) ?_
  refine TrOps.semM (OpSem.alloc 8 rfl zc28 rfl) rfl rfl (by decide) ?_
  refine TrOps.sem (OpSem.move (.inr rfl) rfl) rfl rfl (by decide) ?_
  refine TrOps.storeb rfl rfl rfl rfl rfl rfl rfl vs28 (by first | decide | simp) ?_
  refine TrOps.nil ?_
  refine At.seq ?_
  refine Tr.seq ?_
  refine Tr.region ?_
  refine TrOps.sem (OpSem.loadbN rfl rfl rfl vs39 (by first | decide | simp)) rfl rfl (by decide) ?_
  refine TrOps.sem (OpSem.move (.inl rfl) rfl) rfl rfl (by decide) ?_
  refine TrOps.sem (OpSem.call0 (law_multiFault_does ..) rfl rfl rfl rfl (Les.refl _)) rfl rfl (by decide) ?_
  refine TrOps.semM (OpSem.alloc 9 rfl zc28 rfl) rfl rfl (by decide) ?_
  refine TrOps.storeb rfl rfl rfl rfl rfl rfl rfl vs28 (by first | decide | simp) ?_
  refine TrOps.nil ?_
  refine At.seq ?_
  refine Tr.cut [(1, .d (rows pats)), (2, .d (ints s)), (3, .r 3 0), (6, Bo (false)), (7, I (addR m pats s)), (8, .r 8 0), (9, .r 9 0)] [(3, .box [.d (ints m.sizes), .d (ints m.init), .d (asgs m.goal), .d (opsD m.ops)]), (8, .box [I ((addF m pats s).1), I ((addF m pats s).2)]), (9, .box [I ((addK m pats s 0).1), I ((addK m pats s 0).2)])] ?_ ?_
  · refine Tr.seq ?_
    refine Tr.region ?_
    refine TrOps.sem (OpSem.fieldr rfl rfl fo28_0) rfl rfl (by decide) ?_
    refine TrOps.sem (OpSem.loadb1 rfl rfl rfl vs3 rfl) rfl rfl (by decide) ?_
    refine TrOps.sem (OpSem.bin rfl rfl rfl beql) rfl rfl (by decide) ?_
    refine TrOps.sem (OpSem.move (.inl rfl) rfl) rfl rfl (by decide) ?_
    refine TrOps.split (n := 26) rfl (fun c26 => ?_) (fun c26 => ?_)
    · refine TrOps.gT rfl rfl rfl rfl c26 ?_
      refine TrOps.sem (OpSem.move (.inl rfl) rfl) rfl rfl (by decide) ?_
      refine TrOps.gT rfl rfl rfl rfl c26 ?_
      refine TrOps.sem (OpSem.lenL rfl rfl es47) rfl rfl (by decide) ?_
      refine TrOps.gT rfl rfl rfl rfl c26 ?_
      refine TrOps.sem (OpSem.bin rfl rfl rfl bgtr) rfl rfl (by decide) ?_
      refine TrOps.sem (OpSem.pickT rfl rfl c26 rfl) rfl rfl (by decide) ?_
      refine TrOps.nil ?_
      refine At.seq ?_
      refine Tr.cond rfl (fun c30 => ?_) (fun c30 => ?_)
      · refine Tr.region ?_
        refine TrOps.sem (OpSem.call0 (R_At_does 2 (-9)) rfl rfl rfl rfl (Les.refl _)) rfl rfl (by decide) ?_
        refine TrOps.storeb rfl rfl rfl rfl rfl rfl rfl vs28 (by first | decide | simp) ?_
        refine TrOps.nil ?_
        have he := addK_a (m := m) (pats := pats) (s := s) (stateFault_code (by simpa using c26)) (by simp at c30; omega)
        refine At.meet ?_
        exact .slot rfl (.refl _) <| .slot rfl (.refl _) <| .slot rfl (.refl _) <| .slot rfl (.refl _) <| .slot rfl (.refl _) <| .slot rfl (.refl _) <| .slot rfl (.refl _) <| .mem rfl <| .mem rfl <| .boxLe rfl (.cons (Le.i (congrArg Prod.fst (he))) <| .cons (Le.i (congrArg Prod.snd (he))) <| .nil) <| .nil
      · refine Tr.skip ?_
        have he := addK_b (m := m) (pats := pats) (s := s) (stateFault_code (by simpa using c26)) (by simp at c30; omega)
        refine At.meet ?_
        exact .slot rfl (.refl _) <| .slot rfl (.refl _) <| .slot rfl (.refl _) <| .slot rfl (.refl _) <| .slot rfl (.refl _) <| .slot rfl (.refl _) <| .slot rfl (.refl _) <| .mem rfl <| .mem rfl <| .boxLe rfl (.cons (Le.i (congrArg Prod.fst (he))) <| .cons (Le.i (congrArg Prod.snd (he))) <| .nil) <| .nil
    · refine TrOps.gF rfl rfl rfl rfl c26 rfl (by decide) ?_
      refine TrOps.gF rfl rfl rfl rfl c26 rfl (by decide) ?_
      refine TrOps.gF rfl rfl rfl rfl c26 rfl (by decide) ?_
      refine TrOps.sem (OpSem.pickF rfl rfl c26 rfl) rfl rfl (by decide) ?_
      refine TrOps.nil ?_
      refine At.seq ?_
      refine Tr.condF rfl rfl ?_
      refine Tr.skip ?_
      have he := addK_c (m := m) (pats := pats) (s := s) (fun h => by simp [h] at c26)
      refine At.meet ?_
      exact .slot rfl (.refl _) <| .slot rfl (.refl _) <| .slot rfl (.refl _) <| .slot rfl (.refl _) <| .slot rfl (.refl _) <| .slot rfl (.refl _) <| .slot rfl (.refl _) <| .mem rfl <| .mem rfl <| .boxLe rfl (.cons (Le.i (congrArg Prod.fst (he))) <| .cons (Le.i (congrArg Prod.snd (he))) <| .nil) <| .nil
  · refine Tr.cut [(1, .d (rows pats)), (2, .d (ints s)), (3, .r 3 0), (6, Bo (false)), (7, I (addR m pats s)), (8, .r 8 0), (9, .r 9 0)] [(3, .box [.d (ints m.sizes), .d (ints m.init), .d (asgs m.goal), .d (opsD m.ops)]), (8, .box [I ((addF m pats s).1), I ((addF m pats s).2)]), (9, .box [I ((addF m pats s).1), I ((addF m pats s).2)])] ?_ ?_
    · refine Tr.seq ?_
      refine Tr.region ?_
      refine TrOps.sem (OpSem.move (.inr rfl) rfl) rfl rfl (by decide) ?_
      refine TrOps.nil ?_
      refine At.seq ?_
      refine Tr.block ?_
      refine Tr.loop (X := Nat) (fun k => k ≤ pats.length) (fun k => [(1, .d (rows pats)), (2, .d (ints s)), (3, .r 3 0), (6, Bo (false)), (7, I (addR m pats s)), (8, .r 8 0), (9, .r 9 0), (10, I (k))]) (fun k => [(9, .box [I ((addK m pats s k).1), I ((addK m pats s k).2)]), (3, .box [.d (ints m.sizes), .d (ints m.init), .d (asgs m.goal), .d (opsD m.ops)]), (8, .box [I ((addF m pats s).1), I ((addF m pats s).2)])]) (fun k => pats.length - k) 0 (by omega) ?_ ?_
      · exact .slot rfl (.refl _) <| .slot rfl (.refl _) <| .slot rfl (.refl _) <| .slot rfl (.refl _) <| .slot rfl (.refl _) <| .slot rfl (.refl _) <| .slot rfl (.refl _) <| .slot rfl (Le.of_eq (by simp)) <| .mem rfl <| .mem rfl <| .mem rfl <| .nil
      · rintro k hkl
        refine Tr.seq ?_
        refine Tr.seq ?_
        refine Tr.region ?_
        refine TrOps.sem (OpSem.move (.inl rfl) rfl) rfl rfl (by decide) ?_
        refine TrOps.sem (OpSem.move (.inl rfl) rfl) rfl rfl (by decide) ?_
        refine TrOps.sem (OpSem.lenL rfl rfl es47) rfl rfl (by decide) ?_
        refine TrOps.sem (OpSem.bin rfl rfl rfl blss) rfl rfl (by decide) ?_
        refine TrOps.sem (OpSem.move (.inl rfl) rfl) rfl rfl (by decide) ?_
        refine TrOps.split (n := 36) rfl (fun c36 => ?_) (fun c36 => ?_)
        · have hk : k < pats.length := by simpa using c36
          refine TrOps.gT rfl rfl rfl rfl c36 ?_
          refine TrOps.sem (OpSem.fieldr rfl rfl fo28_0) rfl rfl (by decide) ?_
          refine TrOps.gT rfl rfl rfl rfl c36 ?_
          refine TrOps.sem (OpSem.loadb1 rfl rfl rfl vs3 rfl) rfl rfl (by decide) ?_
          refine TrOps.gT rfl rfl rfl rfl c36 ?_
          refine TrOps.sem (OpSem.bin rfl rfl rfl beql) rfl rfl (by decide) ?_
          refine TrOps.sem (OpSem.pickT rfl rfl c36 rfl) rfl rfl (by decide) ?_
          refine TrOps.nil ?_
          refine At.seq ?_
          refine Tr.cond rfl (fun c40 => ?_) (fun c40 => ?_)
          · have hA : addK m pats s k = (0, 0) := addK_code (by simpa using c40)
            obtain ⟨hms, h6, _⟩ := addK_ok hA
            obtain ⟨hv, hst⟩ := stateFault_ok hms
            refine Tr.skip ?_
            refine At.seq ?_
            refine Tr.seq ?_
            refine Tr.block ?_
            refine Tr.seq ?_
            refine PC.start [] ?_
            refine PC.sem (OpSem.loadbN rfl rfl rfl vs28 (by first | decide | simp)) rfl rfl ?_
            refine PC.sem (OpSem.loadbN rfl rfl rfl vs39 (by first | decide | simp)) rfl rfl ?_
            refine PC.sem (OpSem.move (.inl rfl) rfl) rfl rfl ?_
            refine PC.sem (OpSem.move (.inl rfl) rfl) rfl rfl ?_
            refine PC.sem (OpSem.idxL rfl rfl rfl es47 (by omega) (by omega)) rfl rfl ?_
            refine PC.sem (OpSem.load1 rfl rfl vs23 rfl) rfl rfl ?_
            refine PC.sem (OpSem.move (.inl rfl) rfl) rfl rfl ?_
            refine PC.done0 mixed (by kernel_rfl) (by kernel_rfl) (by kernel_rfl) (by kernel_rfl) (by kernel_rfl) ?_
            refine TrOps.sem (OpSem.call0 (law_patternFault_does (addK m pats s k) m (nth pats k) k (patA m pats k) (addP_at hA)) rfl rfl rfl rfl (Les.refl _)) rfl rfl (by decide) ?_
            refine TrOps.storeb rfl rfl rfl rfl rfl rfl rfl vs28 (by first | decide | simp) ?_
            refine TrOps.nil ?_
            refine At.seq ?_
            refine Tr.seq ?_
            refine PC.start [] ?_
            refine PC.sem (OpSem.fieldr rfl rfl fo28_0) rfl rfl ?_
            refine PC.sem (OpSem.loadb1 rfl rfl rfl vs3 rfl) rfl rfl ?_
            refine PC.sem (OpSem.bin rfl rfl rfl beql) rfl rfl ?_
            refine PC.sem (OpSem.move (.inl rfl) rfl) rfl rfl ?_
            refine PC.split (n := 54) rfl (fun c54 => ?_) (fun c54 => ?_)
            · have hB : (patA m pats k).1 = 0 := by simpa using c54
              obtain ⟨hn0, hp, _⟩ := patFault_ok2 hB
              have hv2 := valid_proj hv hn0 hp
              refine PC.gT (OpSem.loadbN rfl rfl rfl vs39 (by first | decide | simp)) rfl rfl rfl rfl c54 rfl ?_
              refine PC.gT (OpSem.move (.inl rfl) rfl) rfl rfl rfl rfl c54 rfl ?_
              refine PC.gT (OpSem.move (.inl rfl) rfl) rfl rfl rfl rfl c54 rfl ?_
              refine PC.gT (OpSem.idxL rfl rfl rfl es47 (by omega) (by omega)) rfl rfl rfl rfl c54 rfl ?_
              refine PC.gT (OpSem.load1 rfl rfl vs23 rfl) rfl rfl rfl rfl c54 rfl ?_
              refine PC.done0 mixed (by kernel_rfl) (by kernel_rfl) (by kernel_rfl) (by kernel_rfl) (by kernel_rfl) ?_
              refine TrOps.gT rfl rfl rfl rfl c54 ?_
              refine TrOps.sem (OpSem.call0 (Q_Projection_does m (nth pats k) hv hp) rfl rfl rfl rfl (Les.refl _)) rfl rfl (by decide) ?_
              refine TrOps.gT rfl rfl rfl rfl c54 ?_
              refine TrOps.sem (OpSem.call0 (R_Ranks_does (projM m (nth pats k)) hv2) rfl rfl rfl rfl (Les.refl _)) rfl rfl (by decide) ?_
              refine TrOps.gT rfl rfl rfl rfl c54 ?_
              refine TrOps.sem (OpSem.bin rfl rfl rfl bgtr) rfl rfl (by decide) ?_
              refine TrOps.sem (OpSem.pickT rfl rfl c54 rfl) rfl rfl (by decide) ?_
              refine TrOps.nil ?_
              refine At.seq ?_
              refine Tr.cond rfl (fun c63 => ?_) (fun c63 => ?_)
              · refine Tr.region ?_
                refine TrOps.sem (OpSem.move (.inl rfl) rfl) rfl rfl (by decide) ?_
                refine TrOps.sem (OpSem.call0 (R_At_does 10 k) rfl rfl rfl rfl (Les.refl _)) rfl rfl (by decide) ?_
                refine TrOps.storeb rfl rfl rfl rfl rfl rfl rfl vs28 (by first | decide | simp) ?_
                refine TrOps.nil ?_
                refine At.block_normal ?_
                refine At.seq ?_
                refine Tr.region ?_
                refine TrOps.sem (OpSem.move (.inl rfl) rfl) rfl rfl (by decide) ?_
                refine TrOps.sem (OpSem.bin rfl rfl rfl (badd (by omega) (by omega))) rfl rfl (by decide) ?_
                refine TrOps.sem (OpSem.move (.inr rfl) rfl) rfl rfl (by decide) ?_
                refine TrOps.nil ?_
                first | have he := addK_2 hA hB (by simpa using c63) | have he := addK_3 hA hB (by simpa using c63) | have he := addK_1 hA hB
                refine At.again (k + 1) (by omega) ?_ (by omega)
                exact .slot rfl (.refl _) <| .slot rfl (.refl _) <| .slot rfl (.refl _) <| .slot rfl (.refl _) <| .slot rfl (.refl _) <| .slot rfl (.refl _) <| .slot rfl (.refl _) <| .slot rfl (Le.of_eq (by simp)) <| .boxLe rfl (.cons (Le.i (congrArg Prod.fst (he))) <| .cons (Le.i (congrArg Prod.snd (he))) <| .nil) <| .mem rfl <| .mem rfl <| .nil
              · refine Tr.skip ?_
                refine At.block_normal ?_
                refine At.seq ?_
                refine Tr.region ?_
                refine TrOps.sem (OpSem.move (.inl rfl) rfl) rfl rfl (by decide) ?_
                refine TrOps.sem (OpSem.bin rfl rfl rfl (badd (by omega) (by omega))) rfl rfl (by decide) ?_
                refine TrOps.sem (OpSem.move (.inr rfl) rfl) rfl rfl (by decide) ?_
                refine TrOps.nil ?_
                first | have he := addK_2 hA hB (by simpa using c63) | have he := addK_3 hA hB (by simpa using c63) | have he := addK_1 hA hB
                refine At.again (k + 1) (by omega) ?_ (by omega)
                exact .slot rfl (.refl _) <| .slot rfl (.refl _) <| .slot rfl (.refl _) <| .slot rfl (.refl _) <| .slot rfl (.refl _) <| .slot rfl (.refl _) <| .slot rfl (.refl _) <| .slot rfl (Le.of_eq (by simp)) <| .boxLe rfl (.cons (Le.i (congrArg Prod.fst (he))) <| .cons (Le.i (congrArg Prod.snd (he))) <| .nil) <| .mem rfl <| .mem rfl <| .nil
            · have hB : (patA m pats k).1 ≠ 0 := by simpa using c54
              refine PC.gF rfl rfl rfl rfl c54 rfl ?_
              refine PC.gF rfl rfl rfl rfl c54 rfl ?_
              refine PC.gF rfl rfl rfl rfl c54 rfl ?_
              refine PC.gF rfl rfl rfl rfl c54 rfl ?_
              refine PC.gF rfl rfl rfl rfl c54 rfl ?_
              refine PC.done0 mixed (by kernel_rfl) (by kernel_rfl) (by kernel_rfl) (by kernel_rfl) (by kernel_rfl) ?_
              refine TrOps.gF rfl rfl rfl rfl c54 rfl (by decide) ?_
              refine TrOps.gF rfl rfl rfl rfl c54 rfl (by decide) ?_
              refine TrOps.gF rfl rfl rfl rfl c54 rfl (by decide) ?_
              refine TrOps.sem (OpSem.pickF rfl rfl c54 rfl) rfl rfl (by decide) ?_
              refine TrOps.nil ?_
              refine At.seq ?_
              refine Tr.condF rfl rfl ?_
              refine Tr.skip ?_
              refine At.block_normal ?_
              refine At.seq ?_
              refine Tr.region ?_
              refine TrOps.sem (OpSem.move (.inl rfl) rfl) rfl rfl (by decide) ?_
              refine TrOps.sem (OpSem.bin rfl rfl rfl (badd (by omega) (by omega))) rfl rfl (by decide) ?_
              refine TrOps.sem (OpSem.move (.inr rfl) rfl) rfl rfl (by decide) ?_
              refine TrOps.nil ?_
              first | have he := addK_2 hA hB (by simpa using c63) | have he := addK_3 hA hB (by simpa using c63) | have he := addK_1 hA hB
              refine At.again (k + 1) (by omega) ?_ (by omega)
              exact .slot rfl (.refl _) <| .slot rfl (.refl _) <| .slot rfl (.refl _) <| .slot rfl (.refl _) <| .slot rfl (.refl _) <| .slot rfl (.refl _) <| .slot rfl (.refl _) <| .slot rfl (Le.of_eq (by simp)) <| .boxLe rfl (.cons (Le.i (congrArg Prod.fst (he))) <| .cons (Le.i (congrArg Prod.snd (he))) <| .nil) <| .mem rfl <| .mem rfl <| .nil
          · refine Tr.exit ?_
            refine At.pass_exit ?_
            refine At.pass_exit ?_
            refine At.block_same ?_
            have he : addK m pats s k = addF m pats s := addK_stop hkl (fun h => by simp [h] at c40)
            refine At.meet ?_
            exact .slot rfl (.refl _) <| .slot rfl (.refl _) <| .slot rfl (.refl _) <| .slot rfl (.refl _) <| .slot rfl (.refl _) <| .slot rfl (.refl _) <| .slot rfl (.refl _) <| .mem rfl <| .mem rfl <| .boxLe rfl (.cons (Le.i (congrArg Prod.fst (he))) <| .cons (Le.i (congrArg Prod.snd (he))) <| .nil) <| .nil
        · refine TrOps.gF rfl rfl rfl rfl c36 rfl (by decide) ?_
          refine TrOps.gF rfl rfl rfl rfl c36 rfl (by decide) ?_
          refine TrOps.gF rfl rfl rfl rfl c36 rfl (by decide) ?_
          refine TrOps.sem (OpSem.pickF rfl rfl c36 rfl) rfl rfl (by decide) ?_
          refine TrOps.nil ?_
          refine At.seq ?_
          refine Tr.condF rfl rfl ?_
          refine Tr.exit ?_
          refine At.pass_exit ?_
          refine At.pass_exit ?_
          refine At.block_same ?_
          have hk : k = pats.length := by simp at c36; omega
          have he : addK m pats s k = addF m pats s := by rw [hk]; rfl
          refine At.meet ?_
          exact .slot rfl (.refl _) <| .slot rfl (.refl _) <| .slot rfl (.refl _) <| .slot rfl (.refl _) <| .slot rfl (.refl _) <| .slot rfl (.refl _) <| .slot rfl (.refl _) <| .mem rfl <| .mem rfl <| .boxLe rfl (.cons (Le.i (congrArg Prod.fst (he))) <| .cons (Le.i (congrArg Prod.snd (he))) <| .nil) <| .nil
    · refine Tr.seq ?_
      refine Tr.seq ?_
      refine Tr.region ?_
      refine TrOps.sem (OpSem.fieldr rfl rfl fo28_0) rfl rfl (by decide) ?_
      refine TrOps.sem (OpSem.loadb1 rfl rfl rfl vs3 rfl) rfl rfl (by decide) ?_
      refine TrOps.sem (OpSem.bin rfl rfl rfl bneq) rfl rfl (by decide) ?_
      refine TrOps.nil ?_
      refine At.seq ?_
      refine Tr.cond rfl (fun c68 => ?_) (fun c68 => ?_)
      · have hne : addF m pats s ≠ (0, 0) := fun h => by simp [h] at c68
        refine Tr.seq ?_
        refine Tr.region ?_
        refine TrOps.sem (OpSem.loadbN rfl rfl rfl vs28 (by first | decide | simp)) rfl rfl (by decide) ?_
        refine TrOps.sem (OpSem.loadbN rfl rfl rfl vs28 (by first | decide | simp)) rfl rfl (by decide) ?_
        refine TrOps.sem (OpSem.eqS2 rfl rfl rfl io28) rfl rfl (by decide) ?_
        refine TrOps.sem (OpSem.move (.inl rfl) rfl) rfl rfl (by decide) ?_
        refine TrOps.gT rfl rfl rfl rfl (by simp) ?_
        refine TrOps.sem (OpSem.move (.inl rfl) rfl) rfl rfl (by decide) ?_
        refine TrOps.gT rfl rfl rfl rfl (by simp) ?_
        refine TrOps.sem (OpSem.bin rfl rfl rfl beql) rfl rfl (by decide) ?_
        refine TrOps.sem (OpSem.pickT rfl rfl (by simp) rfl) rfl rfl (by decide) ?_
        refine TrOps.sem (OpSem.move (.inr rfl) rfl) rfl rfl (by decide) ?_
        refine TrOps.nil ?_
        refine At.seq ?_
        refine Tr.ret ?_
        refine At.pass_ret ?_
        exact At.ret rfl (.tmp rfl <| .nil) rfl (Le.bo (by first | rfl | (rw [addR_1 hne]; rfl) | (rw [add_best hF]; simp; done)))
      · have hF : addF m pats s = (0, 0) := addF_code (by simpa using c68)
        obtain ⟨_, h6, _⟩ := addF_ok hF
        obtain ⟨hv, hst, hpo⟩ := addF_pats hF
        refine Tr.skip ?_
        refine At.seq ?_
        refine Tr.seq ?_
        refine Tr.region ?_
        refine TrOps.sem (OpSem.fieldr rfl rfl fo28_0) rfl rfl (by decide) ?_
        refine TrOps.sem (OpSem.loadb1 rfl rfl rfl vs3 rfl) rfl rfl (by decide) ?_
        refine TrOps.sem (OpSem.bin rfl rfl rfl beql) rfl rfl (by decide) ?_
        refine TrOps.sem (OpSem.move (.inl rfl) rfl) rfl rfl (by decide) ?_
        refine TrOps.gT rfl rfl rfl rfl (by rw [hF]; rfl) ?_
        refine TrOps.sem (OpSem.loadbN rfl rfl rfl vs39 (by first | decide | simp)) rfl rfl (by decide) ?_
        refine TrOps.gT rfl rfl rfl rfl (by rw [hF]; rfl) ?_
        refine TrOps.sem (OpSem.call0 (law_small_does m hv) rfl rfl rfl rfl (Les.refl _)) rfl rfl (by decide) ?_
        refine TrOps.gT rfl rfl rfl rfl (by rw [hF]; rfl) ?_
        refine TrOps.sem (OpSem.not rfl rfl) rfl rfl (by decide) ?_
        refine TrOps.gT rfl rfl rfl rfl (by rw [hF]; rfl) ?_
        refine TrOps.sem (OpSem.move (.inl rfl) rfl) rfl rfl (by decide) ?_
        refine TrOps.split (n := 83) rfl (fun c83 => ?_) (fun c83 => ?_)
        · refine TrOps.gF rfl rfl rfl rfl c83 rfl (by decide) ?_
          refine TrOps.gF rfl rfl rfl rfl c83 rfl (by decide) ?_
          refine TrOps.gF rfl rfl rfl rfl c83 rfl (by decide) ?_
          refine TrOps.gF rfl rfl rfl rfl c83 rfl (by decide) ?_
          refine TrOps.gF rfl rfl rfl rfl c83 rfl (by decide) ?_
          refine TrOps.gF rfl rfl rfl rfl c83 rfl (by decide) ?_
          refine TrOps.gT rfl rfl rfl rfl (by rw [hF]; rfl) ?_
          refine TrOps.sem (OpSem.pickT rfl rfl c83 rfl) rfl rfl (by decide) ?_
          refine TrOps.sem (OpSem.pickT rfl rfl (by rw [hF]; rfl) rfl) rfl rfl (by decide) ?_
          refine TrOps.sem (OpSem.move (.inr rfl) rfl) rfl rfl (by decide) ?_
          refine TrOps.nil ?_
          refine At.seq ?_
          refine Tr.ret ?_
          exact At.ret rfl (.tmp rfl <| .nil) rfl (Le.bo (by first | rfl | (rw [addR_1 hne]; rfl) | (rw [add_best hF]; simp; done)))
        · refine TrOps.gT rfl rfl rfl rfl c83 ?_
          refine TrOps.sem (OpSem.move (.inl rfl) rfl) rfl rfl (by decide) ?_
          refine TrOps.gT rfl rfl rfl rfl c83 ?_
          refine TrOps.sem (OpSem.loadbN rfl rfl rfl vs39 (by first | decide | simp)) rfl rfl (by decide) ?_
          refine TrOps.gT rfl rfl rfl rfl c83 ?_
          refine TrOps.sem (OpSem.move (.inl rfl) rfl) rfl rfl (by decide) ?_
          refine TrOps.gT rfl rfl rfl rfl c83 ?_
          refine TrOps.sem (OpSem.move (.inl rfl) rfl) rfl rfl (by decide) ?_
          refine TrOps.gT rfl rfl rfl rfl c83 ?_
          refine TrOps.sem (OpSem.call0 (Q_GreatestSum_does m pats s hv hst hpo h6) rfl rfl rfl rfl (Les.refl _)) rfl rfl (by decide) ?_
          refine TrOps.gT rfl rfl rfl rfl c83 ?_
          refine TrOps.sem (OpSem.bin rfl rfl rfl beql) rfl rfl (by decide) ?_
          refine TrOps.gT rfl rfl rfl rfl (by rw [hF]; rfl) ?_
          refine TrOps.sem (OpSem.pickF rfl rfl c83 rfl) rfl rfl (by decide) ?_
          refine TrOps.sem (OpSem.pickT rfl rfl (by rw [hF]; rfl) rfl) rfl rfl (by decide) ?_
          refine TrOps.sem (OpSem.move (.inr rfl) rfl) rfl rfl (by decide) ?_
          refine TrOps.nil ?_
          refine At.seq ?_
          refine Tr.ret ?_
          exact At.ret rfl (.tmp rfl <| .nil) rfl (Le.bo (by first | rfl | (rw [addR_1 hne]; rfl) | (rw [add_best hF]; simp; done)))

end Go.Proofs.Ytpnmkmgnkdmniaa
