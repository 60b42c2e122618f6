/- Walks, written by gen.py out of hints. -/
import Derived.Test.YtofjjeogoobopaaTypes
import Derived.Test.YtofjjeogoobopaaProj
import Derived.Test.YtofjjeogoobopaaEngM
set_option linter.unusedVariables false
set_option linter.unusedSimpArgs false
namespace Go.Proofs.Ytofjjeogoobopaa
open Go.Eng
set_option maxRecDepth 10000
set_option maxHeartbeats 1000000

theorem law_projectExample_does  : Does Try.prog false 34 [] (Bo true) := by
  refine Does.of_body Try.func34 rfl rfl (by simp) Try.call34 (fun w0 O0 => ?_)
  refine Tr.seq ?_
  refine Tr.region ?_
  refine TrOps.sem (OpSem.move (.inr rfl) rfl) rfl rfl (by decide) ?_
  refine TrOps.nil ?_
  refine At.seq ?_
  refine Tr.seq ?_
  refine Tr.region ?_
  refine TrOps.sem (OpSem.call0 (law_lamps_does) rfl rfl rfl rfl (Les.refl _)) rfl rfl (by decide) ?_
  refine TrOps.sem (OpSem.buildSlice rfl rfl es22 ze22 rfl rfl (by decide) (by decide) rfl rfl) rfl rfl (by decide) ?_
  refine TrOps.sem (OpSem.call0 (project_Project_does lampsM [1]) rfl rfl rfl rfl (Les.refl _)) rfl rfl (by decide) ?_
  refine TrOps.sem (OpSem.move (.inl rfl) rfl) rfl rfl (by decide) ?_
  refine TrOps.sem (OpSem.extract rfl rfl rfl) rfl rfl (by decide) ?_
  refine TrOps.sem (OpSem.extract rfl rfl rfl) rfl rfl (by decide) ?_
  refine TrOps.semM (OpSem.alloc 1 rfl zc26 rfl) rfl rfl (by decide) ?_
  refine TrOps.semM (OpSem.alloc 2 rfl zc30 rfl) rfl rfl (by decide) ?_
  refine TrOps.storeb rfl rfl rfl rfl rfl rfl rfl vs26 (by first | decide | simp) ?_
  refine TrOps.storeb rfl rfl rfl rfl rfl rfl rfl vs30 (by first | decide | simp) ?_
  refine TrOps.nil ?_
  refine At.seq ?_
  refine Tr.seq ?_
  refine Tr.region ?_
  refine TrOps.sem (OpSem.call0 (law_lamps_does) rfl rfl rfl rfl (Les.refl _)) rfl rfl (by decide) ?_
  refine TrOps.sem (OpSem.buildSlice rfl rfl es22 ze22 rfl rfl (by decide) (by decide) rfl rfl) rfl rfl (by decide) ?_
  refine TrOps.sem (OpSem.call0 (project_Distances_does lampsM [1]) rfl rfl rfl rfl (Les.refl _)) rfl rfl (by decide) ?_
  refine TrOps.sem (OpSem.move (.inl rfl) rfl) rfl rfl (by decide) ?_
  refine TrOps.sem (OpSem.extract rfl rfl rfl) rfl rfl (by decide) ?_
  refine TrOps.sem (OpSem.extract rfl rfl rfl) rfl rfl (by decide) ?_
  refine TrOps.semM (OpSem.alloc 4 rfl zc30 rfl) rfl rfl (by decide) ?_
  refine TrOps.sem (OpSem.move (.inr rfl) rfl) rfl rfl (by decide) ?_
  refine TrOps.storeb rfl rfl rfl rfl rfl rfl rfl vs30 (by first | decide | simp) ?_
  refine TrOps.nil ?_
  refine At.seq ?_
  refine Tr.seq ?_
  refine Tr.region ?_
  refine TrOps.sem (OpSem.call0 (law_lamps_does) rfl rfl rfl rfl (Les.refl _)) rfl rfl (by decide) ?_
  refine TrOps.sem (OpSem.buildSlice rfl rfl es22 ze22 rfl rfl (by decide) (by decide) rfl rfl) rfl rfl (by decide) ?_
  refine TrOps.sem (OpSem.buildSlice rfl rfl es22 ze22 rfl rfl (by decide) (by decide) rfl rfl) rfl rfl (by decide) ?_
  refine TrOps.sem (OpSem.call0 (project_Value_does lampsM [0, 1] [0, 0]) rfl rfl rfl rfl (Les.refl _)) rfl rfl (by decide) ?_
  refine TrOps.sem (OpSem.move (.inl rfl) rfl) rfl rfl (by decide) ?_
  refine TrOps.sem (OpSem.extract rfl rfl rfl) rfl rfl (by decide) ?_
  refine TrOps.sem (OpSem.extract rfl rfl rfl) rfl rfl (by decide) ?_
  refine TrOps.semM (OpSem.alloc 6 rfl zc30 rfl) rfl rfl (by decide) ?_
  refine TrOps.sem (OpSem.move (.inr rfl) rfl) rfl rfl (by decide) ?_
  refine TrOps.storeb rfl rfl rfl rfl rfl rfl rfl vs30 (by first | decide | simp) ?_
  refine TrOps.nil ?_
  refine At.seq ?_
  refine Tr.seq ?_
  refine Tr.region ?_
  refine TrOps.sem (OpSem.fieldr rfl rfl fo30_0) rfl rfl (by decide) ?_
  refine TrOps.sem (OpSem.loadb1 rfl rfl rfl vs3 rfl) rfl rfl (by decide) ?_
  refine TrOps.sem (OpSem.bin rfl rfl rfl beql) rfl rfl (by decide) ?_
  refine TrOps.sem (OpSem.move (.inl rfl) rfl) rfl rfl (by decide) ?_
  refine TrOps.gT rfl rfl rfl rfl (by rw [ex_projF]; rfl) ?_
  refine TrOps.sem (OpSem.fieldr rfl rfl fo30_0) rfl rfl (by decide) ?_
  refine TrOps.gT rfl rfl rfl rfl (by rw [ex_projF]; rfl) ?_
  refine TrOps.sem (OpSem.loadb1 rfl rfl rfl vs3 rfl) rfl rfl (by decide) ?_
  refine TrOps.gT rfl rfl rfl rfl (by rw [ex_projF]; rfl) ?_
  refine TrOps.sem (OpSem.bin rfl rfl rfl beql) rfl rfl (by decide) ?_
  refine TrOps.sem (OpSem.pickT rfl rfl (by rw [ex_projF]; rfl) rfl) rfl rfl (by decide) ?_
  refine TrOps.sem (OpSem.move (.inl rfl) rfl) rfl rfl (by decide) ?_
  refine TrOps.gT rfl rfl rfl rfl (by rw [ex_distF]; rfl) ?_
  refine TrOps.sem (OpSem.fieldr rfl rfl fo30_0) rfl rfl (by decide) ?_
  refine TrOps.gT rfl rfl rfl rfl (by rw [ex_distF]; rfl) ?_
  refine TrOps.sem (OpSem.loadb1 rfl rfl rfl vs3 rfl) rfl rfl (by decide) ?_
  refine TrOps.gT rfl rfl rfl rfl (by rw [ex_distF]; rfl) ?_
  refine TrOps.sem (OpSem.bin rfl rfl rfl beql) rfl rfl (by decide) ?_
  refine TrOps.sem (OpSem.pickT rfl rfl (by rw [ex_distF]; rfl) rfl) rfl rfl (by decide) ?_
  refine TrOps.sem (OpSem.move (.inl rfl) rfl) rfl rfl (by decide) ?_
  refine TrOps.gT rfl rfl rfl rfl (by rw [ex_valF]; rfl) ?_
  refine TrOps.sem (OpSem.fieldr rfl rfl fo26_0) rfl rfl (by decide) ?_
  refine TrOps.gT rfl rfl rfl rfl (by rw [ex_valF]; rfl) ?_
  refine TrOps.sem (OpSem.loadb1 rfl rfl rfl vs22 rfl) rfl rfl (by decide) ?_
  refine TrOps.gT rfl rfl rfl rfl (by rw [ex_valF]; rfl) ?_
  refine TrOps.sem (OpSem.buildSlice rfl rfl es22 ze22 rfl rfl (by decide) (by decide) rfl rfl) rfl rfl (by decide) ?_
  refine TrOps.gT rfl rfl rfl rfl (by rw [ex_valF]; rfl) ?_
  refine TrOps.sem (OpSem.call0 (R_Ints_does (projR lampsM [1]).sizes [2]) rfl rfl rfl rfl (Les.refl _)) rfl rfl (by decide) ?_
  refine TrOps.sem (OpSem.pickT rfl rfl (by rw [ex_valF]; rfl) rfl) rfl rfl (by decide) ?_
  refine TrOps.sem (OpSem.move (.inl rfl) rfl) rfl rfl (by decide) ?_
  refine TrOps.gT rfl rfl rfl rfl (by rw [ex_proj]; rfl) ?_
  refine TrOps.sem (OpSem.fieldr rfl rfl fo26_3) rfl rfl (by decide) ?_
  refine TrOps.gT rfl rfl rfl rfl (by rw [ex_proj]; rfl) ?_
  refine TrOps.sem (OpSem.loadb1 rfl rfl rfl vs24 rfl) rfl rfl (by decide) ?_
  refine TrOps.gT rfl rfl rfl rfl (by rw [ex_proj]; rfl) ?_
  refine TrOps.sem (OpSem.lenL rfl rfl es24) rfl rfl (by decide) ?_
  refine TrOps.gT rfl rfl rfl rfl (by rw [ex_proj]; rfl) ?_
  refine TrOps.sem (OpSem.bin rfl rfl rfl beql) rfl rfl (by decide) ?_
  refine TrOps.sem (OpSem.pickT rfl rfl (by rw [ex_proj]; rfl) rfl) rfl rfl (by decide) ?_
  refine TrOps.sem (OpSem.move (.inl rfl) rfl) rfl rfl (by decide) ?_
  refine TrOps.gT rfl rfl rfl rfl (by rw [ex_proj]; rfl) ?_
  refine TrOps.sem (OpSem.move (.inl rfl) rfl) rfl rfl (by decide) ?_
  refine TrOps.gT rfl rfl rfl rfl (by rw [ex_proj]; rfl) ?_
  refine TrOps.sem (OpSem.buildSlice rfl rfl es22 ze22 rfl rfl (by decide) (by decide) rfl rfl) rfl rfl (by decide) ?_
  refine TrOps.gT rfl rfl rfl rfl (by rw [ex_proj]; rfl) ?_
  refine TrOps.sem (OpSem.call0 (R_Ints_does (distR lampsM [1]) [3, 0]) rfl rfl rfl rfl (Les.refl _)) rfl rfl (by decide) ?_
  refine TrOps.sem (OpSem.pickT rfl rfl (by rw [ex_proj]; rfl) rfl) rfl rfl (by decide) ?_
  refine TrOps.sem (OpSem.move (.inl rfl) rfl) rfl rfl (by decide) ?_
  refine TrOps.gT rfl rfl rfl rfl (by rw [ex_dist]; rfl) ?_
  refine TrOps.sem (OpSem.move (.inl rfl) rfl) rfl rfl (by decide) ?_
  refine TrOps.gT rfl rfl rfl rfl (by rw [ex_dist]; rfl) ?_
  refine TrOps.sem (OpSem.bin rfl rfl rfl beql) rfl rfl (by decide) ?_
  refine TrOps.sem (OpSem.pickT rfl rfl (by rw [ex_dist]; rfl) rfl) rfl rfl (by decide) ?_
  refine TrOps.sem (OpSem.move (.inr rfl) rfl) rfl rfl (by decide) ?_
  refine TrOps.nil ?_
  refine At.seq ?_
  refine Tr.ret ?_
  exact At.ret rfl (.tmp rfl <| .nil) rfl (Le.bo (by rw [ex_val]; rfl))

theorem law_ProjectMatchesSpec_does (m : Multi) (vars : List Int) : Does Try.prog false 9 [multi m, .d (ints vars)] (Bo true) := by
  refine Does.of_body Try.func9 rfl rfl (by simp) Try.call9 (fun w0 O0 => ?_)
  refine Tr.lenG (n := 0) (i := 0) rfl rfl (fun len0_0 => ?_)
  refine Tr.lenG (n := 0) (i := 1) rfl rfl (fun len0_1 => ?_)
  refine Tr.lenG (n := 0) (i := 2) rfl rfl (fun len0_2 => ?_)
  refine Tr.lenG (n := 0) (i := 3) rfl rfl (fun len0_3 => ?_)
  refine Tr.lenLe (n := 1) rfl (fun len1 => ?_)
  refine Tr.seq ?_
  refine Tr.region ?_
  refine TrOps.semM (OpSem.box 2 rfl rfl rfl rfl) rfl rfl (by decide) ?_
  refine TrOps.sem (OpSem.move (.inr rfl) rfl) rfl rfl (by decide) ?_
  refine TrOps.nil ?_
  refine At.seq ?_
  refine Tr.seq ?_
  refine Tr.seq ?_
  refine Tr.region ?_
  refine TrOps.sem (OpSem.call0 (law_projectExample_does) rfl rfl rfl rfl (Les.refl _)) rfl rfl (by decide) ?_
  refine TrOps.sem (OpSem.not rfl rfl) rfl rfl (by decide) ?_
  refine TrOps.nil ?_
  refine At.seq ?_
  refine Tr.condF rfl rfl ?_
  refine Tr.skip ?_
  refine At.seq ?_
  refine Tr.seq ?_
  refine Tr.region ?_
  refine TrOps.sem (OpSem.loadbN rfl rfl rfl vs26 (by first | decide | simp)) rfl rfl (by decide) ?_
  refine TrOps.sem (OpSem.move (.inl rfl) rfl) rfl rfl (by decide) ?_
  refine TrOps.sem (OpSem.call0 (project_Project_does ..) rfl rfl rfl rfl (Les.refl _)) rfl rfl (by decide) ?_
  refine TrOps.sem (OpSem.move (.inl rfl) rfl) rfl rfl (by decide) ?_
  refine TrOps.sem (OpSem.extract rfl rfl rfl) rfl rfl (by decide) ?_
  refine TrOps.sem (OpSem.extract rfl rfl rfl) rfl rfl (by decide) ?_
  refine TrOps.semM (OpSem.alloc 5 rfl zc26 rfl) rfl rfl (by decide) ?_
  refine TrOps.semM (OpSem.alloc 6 rfl zc30 rfl) rfl rfl (by decide) ?_
  refine TrOps.storeb rfl rfl rfl rfl rfl rfl rfl vs26 (by first | decide | simp) ?_
  refine TrOps.storeb rfl rfl rfl rfl rfl rfl rfl vs30 (by first | decide | simp) ?_
  refine TrOps.nil ?_
  refine At.seq ?_
  refine Tr.seq ?_
  refine Tr.region ?_
  refine TrOps.sem (OpSem.loadbN rfl rfl rfl vs26 (by first | decide | simp)) rfl rfl (by decide) ?_
  refine TrOps.sem (OpSem.move (.inl rfl) rfl) rfl rfl (by decide) ?_
  refine TrOps.sem (OpSem.call0 (project_Distances_does ..) rfl rfl rfl rfl (Les.refl _)) rfl rfl (by decide) ?_
  refine TrOps.sem (OpSem.move (.inl rfl) rfl) rfl rfl (by decide) ?_
  refine TrOps.sem (OpSem.extract rfl rfl rfl) rfl rfl (by decide) ?_
  refine TrOps.sem (OpSem.extract rfl rfl rfl) rfl rfl (by decide) ?_
  refine TrOps.semM (OpSem.alloc 8 rfl zc30 rfl) rfl rfl (by decide) ?_
  refine TrOps.sem (OpSem.move (.inr rfl) rfl) rfl rfl (by decide) ?_
  refine TrOps.storeb rfl rfl rfl rfl rfl rfl rfl vs30 (by first | decide | simp) ?_
  refine TrOps.nil ?_
  refine At.seq ?_
  refine Tr.seq ?_
  refine Tr.seq ?_
  refine PC.start [] ?_
  refine PC.sem (OpSem.loadbN rfl rfl rfl vs26 (by first | decide | simp)) rfl rfl ?_
  refine PC.sem (OpSem.call0 (R_MultiFault_does ..) rfl rfl rfl rfl (Les.refl _)) rfl rfl ?_
  refine PC.sem (OpSem.loadbN rfl rfl rfl vs26 (by first | decide | simp)) rfl rfl ?_
  refine PC.sem (OpSem.move (.inl rfl) rfl) rfl rfl ?_
  refine PC.sem (OpSem.call0 (law_patternFault_does _ m vars (-8) (projFault m vars) addP_proj) rfl rfl rfl rfl (Les.refl _)) rfl rfl ?_
  refine PC.semM (OpSem.alloc 9 rfl zc30 rfl) rfl rfl ?_
  refine PC.done1 9 (.box [I (0), I (0)]) mixed (by kernel_rfl) (by kernel_rfl) (by kernel_rfl) (by kernel_rfl) (by kernel_rfl) ?_
  refine TrOps.storeb rfl rfl rfl rfl rfl rfl rfl vs30 (by first | decide | simp) ?_
  refine TrOps.nil ?_
  refine At.seq ?_
  refine Tr.seq ?_
  refine Tr.region ?_
  refine TrOps.sem (OpSem.fieldr rfl rfl fo30_0) rfl rfl (by decide) ?_
  refine TrOps.sem (OpSem.loadb1 rfl rfl rfl vs3 rfl) rfl rfl (by decide) ?_
  refine TrOps.sem (OpSem.bin rfl rfl rfl bneq) rfl rfl (by decide) ?_
  refine TrOps.nil ?_
  refine At.seq ?_
  refine Tr.cond rfl (fun c32 => ?_) (fun c32 => ?_)
  · have h1 : projFault m vars ≠ (0, 0) := fun h => by simp [h] at c32
    have hd : distF m vars = projFault m vars := (bigF_2 (fun h => h1 h.1)).symm
    have h2 : distF m vars ≠ (0, 0) := by rw [hd]; exact h1
    refine Tr.seq ?_
    refine Tr.region ?_
    refine TrOps.sem (OpSem.loadbN rfl rfl rfl vs30 (by first | decide | simp)) rfl rfl (by decide) ?_
    refine TrOps.sem (OpSem.loadbN rfl rfl rfl vs30 (by first | decide | simp)) rfl rfl (by decide) ?_
    refine TrOps.sem (OpSem.eqS2 rfl rfl rfl io30) rfl rfl (by decide) ?_
    refine TrOps.sem (OpSem.move (.inl rfl) rfl) rfl rfl (by decide) ?_
    refine TrOps.gT rfl rfl rfl rfl (by simp) ?_
    refine TrOps.sem (OpSem.loadbN rfl rfl rfl vs30 (by first | decide | simp)) rfl rfl (by decide) ?_
    refine TrOps.gT rfl rfl rfl rfl (by simp) ?_
    refine TrOps.sem (OpSem.loadbN rfl rfl rfl vs30 (by first | decide | simp)) rfl rfl (by decide) ?_
    refine TrOps.gT rfl rfl rfl rfl (by simp) ?_
    refine TrOps.sem (OpSem.eqS2 rfl rfl rfl io30) rfl rfl (by decide) ?_
    refine TrOps.sem (OpSem.pickT rfl rfl (by simp) rfl) rfl rfl (by decide) ?_
    refine TrOps.sem (OpSem.move (.inl rfl) rfl) rfl rfl (by decide) ?_
    refine TrOps.gT rfl rfl rfl rfl (by rw [hd]; simp) ?_
    refine TrOps.sem (OpSem.fieldr rfl rfl fo26_0) rfl rfl (by decide) ?_
    refine TrOps.gT rfl rfl rfl rfl (by rw [hd]; simp) ?_
    refine TrOps.sem (OpSem.loadb1 rfl rfl rfl vs22 rfl) rfl rfl (by decide) ?_
    refine TrOps.gT rfl rfl rfl rfl (by rw [hd]; simp) ?_
    refine TrOps.sem (OpSem.lenL rfl rfl es22) rfl rfl (by decide) ?_
    refine TrOps.gT rfl rfl rfl rfl (by rw [hd]; simp) ?_
    refine TrOps.sem (OpSem.fieldr rfl rfl fo26_3) rfl rfl (by decide) ?_
    refine TrOps.gT rfl rfl rfl rfl (by rw [hd]; simp) ?_
    refine TrOps.sem (OpSem.loadb1 rfl rfl rfl vs24 rfl) rfl rfl (by decide) ?_
    refine TrOps.gT rfl rfl rfl rfl (by rw [hd]; simp) ?_
    refine TrOps.sem (OpSem.lenL rfl rfl es24) rfl rfl (by decide) ?_
    refine TrOps.gT rfl rfl rfl rfl (by rw [hd]; simp) ?_
    refine TrOps.sem (OpSem.bin rfl rfl rfl (badd (by rw [projR_1 h1]; decide) (by rw [projR_1 h1]; decide))) rfl rfl (by decide) ?_
    refine TrOps.gT rfl rfl rfl rfl (by rw [hd]; simp) ?_
    refine TrOps.sem (OpSem.move (.inl rfl) rfl) rfl rfl (by decide) ?_
    refine TrOps.gT rfl rfl rfl rfl (by rw [hd]; simp) ?_
    refine TrOps.sem (OpSem.lenL rfl rfl es22) rfl rfl (by decide) ?_
    refine TrOps.gT rfl rfl rfl rfl (by rw [hd]; simp) ?_
    refine TrOps.sem (OpSem.bin rfl rfl rfl (badd (by rw [projR_1 h1, distR_1 h2]; decide) (by rw [projR_1 h1, distR_1 h2]; decide))) rfl rfl (by decide) ?_
    refine TrOps.gT rfl rfl rfl rfl (by rw [hd]; simp) ?_
    refine TrOps.sem (OpSem.bin rfl rfl rfl beql) rfl rfl (by decide) ?_
    refine TrOps.sem (OpSem.pickT rfl rfl (by rw [hd]; simp) rfl) rfl rfl (by decide) ?_
    refine TrOps.sem (OpSem.move (.inr rfl) rfl) rfl rfl (by decide) ?_
    refine TrOps.nil ?_
    refine At.seq ?_
    refine Tr.ret ?_
    refine At.pass_ret ?_
    exact At.ret rfl (.tmp rfl <| .nil) rfl (Le.bo (by first | rfl | (rw [projR_1 h1, distR_1 h2]; rfl) | (rw [distR_1 h2]; rfl) | (rw [distR_0 hd]; simp)))
  · have h0 : projFault m vars = (0, 0) := projFault_code (by simpa using c32)
    obtain ⟨hv, hne, hp, _⟩ := projFault_ok (m := m) (vars := vars) (by rw [h0])
    have hv2 := valid_proj hv hne hp
    have hpr := prod_ranks (m := m) (vars := vars)
    refine Tr.skip ?_
    refine At.seq ?_
    refine Tr.seq ?_
    refine Tr.region ?_
    refine TrOps.sem (OpSem.loadbN rfl rfl rfl vs26 (by first | decide | simp)) rfl rfl (by decide) ?_
    refine TrOps.sem (OpSem.move (.inl rfl) rfl) rfl rfl (by decide) ?_
    refine TrOps.sem (OpSem.call0 (Q_Projection_does m vars hv hp) rfl rfl rfl rfl (Les.refl _)) rfl rfl (by decide) ?_
    refine TrOps.semM (OpSem.alloc 10 rfl zc26 rfl) rfl rfl (by decide) ?_
    refine TrOps.storeb rfl rfl rfl rfl rfl rfl rfl vs26 (by first | decide | simp) ?_
    refine TrOps.nil ?_
    refine At.seq ?_
    refine Tr.seq ?_
    refine Tr.seq ?_
    refine Tr.region ?_
    refine TrOps.sem (OpSem.fieldr rfl rfl fo30_0) rfl rfl (by decide) ?_
    refine TrOps.sem (OpSem.loadb1 rfl rfl rfl vs3 rfl) rfl rfl (by decide) ?_
    refine TrOps.sem (OpSem.bin rfl rfl rfl bneq) rfl rfl (by decide) ?_
    refine TrOps.sem (OpSem.move (.inl rfl) rfl) rfl rfl (by decide) ?_
    refine TrOps.gT rfl rfl rfl rfl (by rw [h0]; rfl) ?_
    refine TrOps.sem (OpSem.loadbN rfl rfl rfl vs26 (by first | decide | simp)) rfl rfl (by decide) ?_
    refine TrOps.gT rfl rfl rfl rfl (by rw [h0]; rfl) ?_
    refine TrOps.sem (OpSem.loadbN rfl rfl rfl vs26 (by first | decide | simp)) rfl rfl (by decide) ?_
    refine TrOps.gT rfl rfl rfl rfl (by rw [h0]; rfl) ?_
    refine TrOps.sem (OpSem.call0 (show Does Try.prog false 39 [multi (projR m vars), multi (projM m vars)] (Bo true) from by rw [projR_0 h0]; exact R_SameMulti_does _) rfl rfl rfl rfl (Les.refl _)) rfl rfl (by decide) ?_
    refine TrOps.gT rfl rfl rfl rfl (by rw [h0]; rfl) ?_
    refine TrOps.sem (OpSem.not rfl rfl) rfl rfl (by decide) ?_
    refine TrOps.sem (OpSem.pickF rfl rfl (by rw [h0]; rfl) rfl) rfl rfl (by decide) ?_
    refine TrOps.nil ?_
    refine At.seq ?_
    refine Tr.condF rfl rfl ?_
    refine Tr.skip ?_
    refine At.seq ?_
    refine Tr.seq ?_
    refine Tr.seq ?_
    refine Tr.region ?_
    refine TrOps.sem (OpSem.loadbN rfl rfl rfl vs26 (by first | decide | simp)) rfl rfl (by decide) ?_
    refine TrOps.sem (OpSem.call0 (R_Ranks_does (projM m vars) hv2) rfl rfl rfl rfl (Les.refl _)) rfl rfl (by decide) ?_
    refine TrOps.sem (OpSem.bin rfl rfl rfl bgtr) rfl rfl (by decide) ?_
    refine TrOps.nil ?_
    refine At.seq ?_
    refine Tr.cond rfl (fun c68 => ?_) (fun c68 => ?_)
    · have hd : distF m vars = (10, -7) := (bigF_1 h0 (by rw [hpr]; simpa using c68)).symm
      have h2 : distF m vars ≠ (0, 0) := by rw [hd]; decide
      refine Tr.seq ?_
      refine PC.start [] ?_
      refine PC.sem (OpSem.loadbN rfl rfl rfl vs30 (by first | decide | simp)) rfl rfl ?_
      refine PC.sem (OpSem.call0 (R_At_does 10 (-7)) rfl rfl rfl rfl (Les.refl _)) rfl rfl ?_
      refine PC.done0 mixed (by kernel_rfl) (by kernel_rfl) (by kernel_rfl) (by kernel_rfl) (by kernel_rfl) ?_
      refine TrOps.sem (OpSem.eqS2 rfl rfl rfl io30) rfl rfl (by decide) ?_
      refine TrOps.sem (OpSem.move (.inl rfl) rfl) rfl rfl (by decide) ?_
      refine TrOps.gT rfl rfl rfl rfl (by rw [hd]; rfl) ?_
      refine TrOps.sem (OpSem.move (.inl rfl) rfl) rfl rfl (by decide) ?_
      refine TrOps.gT rfl rfl rfl rfl (by rw [hd]; rfl) ?_
      refine TrOps.sem (OpSem.lenL rfl rfl es22) rfl rfl (by decide) ?_
      refine TrOps.gT rfl rfl rfl rfl (by rw [hd]; rfl) ?_
      refine TrOps.sem (OpSem.bin rfl rfl rfl beql) rfl rfl (by decide) ?_
      refine TrOps.sem (OpSem.pickT rfl rfl (by rw [hd]; rfl) rfl) rfl rfl (by decide) ?_
      refine TrOps.sem (OpSem.move (.inr rfl) rfl) rfl rfl (by decide) ?_
      refine TrOps.nil ?_
      refine At.seq ?_
      refine Tr.ret ?_
      refine At.pass_ret ?_
      exact At.ret rfl (.tmp rfl <| .nil) rfl (Le.bo (by first | rfl | (rw [projR_1 h1, distR_1 h2]; rfl) | (rw [distR_1 h2]; rfl) | (rw [distR_0 hd]; simp)))
    · have hd : distF m vars = (0, 0) := by rw [← h0]; exact (bigF_2 (fun h => by rw [hpr] at h; simp at c68; omega)).symm
      refine Tr.skip ?_
      refine At.seq ?_
      refine Tr.seq ?_
      refine Tr.region ?_
      refine TrOps.sem (OpSem.fieldr rfl rfl fo30_0) rfl rfl (by decide) ?_
      refine TrOps.sem (OpSem.loadb1 rfl rfl rfl vs3 rfl) rfl rfl (by decide) ?_
      refine TrOps.sem (OpSem.bin rfl rfl rfl beql) rfl rfl (by decide) ?_
      refine TrOps.sem (OpSem.move (.inl rfl) rfl) rfl rfl (by decide) ?_
      refine TrOps.gT rfl rfl rfl rfl (by rw [hd]; rfl) ?_
      refine TrOps.sem (OpSem.loadbN rfl rfl rfl vs26 (by first | decide | simp)) rfl rfl (by decide) ?_
      refine TrOps.gT rfl rfl rfl rfl (by rw [hd]; rfl) ?_
      refine TrOps.sem (OpSem.call0 (law_small_does (projM m vars) hv2) rfl rfl rfl rfl (Les.refl _)) rfl rfl (by decide) ?_
      refine TrOps.gT rfl rfl rfl rfl (by rw [hd]; rfl) ?_
      refine TrOps.sem (OpSem.not rfl rfl) rfl rfl (by decide) ?_
      refine TrOps.gT rfl rfl rfl rfl (by rw [hd]; rfl) ?_
      refine TrOps.sem (OpSem.move (.inl rfl) rfl) rfl rfl (by decide) ?_
      refine TrOps.split (n := 84) rfl (fun c84 => ?_) (fun c84 => ?_)
      · refine TrOps.gF rfl rfl rfl rfl c84 rfl (by decide) ?_
        refine TrOps.gF rfl rfl rfl rfl c84 rfl (by decide) ?_
        refine TrOps.gF rfl rfl rfl rfl c84 rfl (by decide) ?_
        refine TrOps.gF rfl rfl rfl rfl c84 rfl (by decide) ?_
        refine TrOps.gT rfl rfl rfl rfl (by rw [hd]; rfl) ?_
        refine TrOps.sem (OpSem.pickT rfl rfl c84 rfl) rfl rfl (by decide) ?_
        refine TrOps.sem (OpSem.pickT rfl rfl (by rw [hd]; rfl) rfl) rfl rfl (by decide) ?_
        refine TrOps.sem (OpSem.move (.inr rfl) rfl) rfl rfl (by decide) ?_
        refine TrOps.nil ?_
        refine At.seq ?_
        refine Tr.ret ?_
        exact At.ret rfl (.tmp rfl <| .nil) rfl (Le.bo (by first | rfl | (rw [projR_1 h1, distR_1 h2]; rfl) | (rw [distR_1 h2]; rfl) | (rw [distR_0 hd]; simp)))
      · refine TrOps.gT rfl rfl rfl rfl c84 ?_
        refine TrOps.sem (OpSem.move (.inl rfl) rfl) rfl rfl (by decide) ?_
        refine TrOps.gT rfl rfl rfl rfl c84 ?_
        refine TrOps.sem (OpSem.loadbN rfl rfl rfl vs26 (by first | decide | simp)) rfl rfl (by decide) ?_
        refine TrOps.gT rfl rfl rfl rfl c84 ?_
        refine TrOps.sem (OpSem.call0 (R_MultiCosts_does (projM m vars) hv2).fresh rfl rfl rfl rfl (Les.refl _)) rfl rfl (by decide) ?_
        refine TrOps.gT rfl rfl rfl rfl c84 ?_
        refine TrOps.sem (OpSem.call0 (R_Ints_does (distR m vars) (costs (projM m vars))) rfl rfl rfl rfl (Les.refl _)) rfl rfl (by decide) ?_
        refine TrOps.gT rfl rfl rfl rfl (by rw [hd]; rfl) ?_
        refine TrOps.sem (OpSem.pickF rfl rfl c84 rfl) rfl rfl (by decide) ?_
        refine TrOps.sem (OpSem.pickT rfl rfl (by rw [hd]; rfl) rfl) rfl rfl (by decide) ?_
        refine TrOps.sem (OpSem.move (.inr rfl) rfl) rfl rfl (by decide) ?_
        refine TrOps.nil ?_
        refine At.seq ?_
        refine Tr.ret ?_
        exact At.ret rfl (.tmp rfl <| .nil) rfl (Le.bo (by first | rfl | (rw [projR_1 h1, distR_1 h2]; rfl) | (rw [distR_1 h2]; rfl) | (rw [distR_0 hd]; simp)))

theorem law_ProjectValueMatchesSpec_does (m : Multi) (vars s : List Int) : Does Try.prog false 10 [multi m, .d (ints vars), .d (ints s)] (Bo true) := by
  refine Does.of_body Try.func10 rfl rfl (by simp) Try.call10 (fun w0 O0 => ?_)
  refine Tr.lenG (n := 0) (i := 0) rfl rfl (fun len0_0 => ?_)
  refine Tr.lenG (n := 0) (i := 1) rfl rfl (fun len0_1 => ?_)
  refine Tr.lenG (n := 0) (i := 2) rfl rfl (fun len0_2 => ?_)
  refine Tr.lenG (n := 0) (i := 3) rfl rfl (fun len0_3 => ?_)
  refine Tr.lenLe (n := 1) rfl (fun len1 => ?_)
  refine Tr.lenLe (n := 2) rfl (fun len2 => ?_)
  refine Tr.seq ?_
  refine Tr.region ?_
  refine TrOps.semM (OpSem.box 3 rfl rfl rfl rfl) rfl rfl (by decide) ?_
  refine TrOps.sem (OpSem.move (.inr rfl) rfl) rfl rfl (by decide) ?_
  refine TrOps.nil ?_
  refine At.seq ?_
  refine Tr.seq ?_
  refine Tr.seq ?_
  refine Tr.region ?_
  refine TrOps.sem (OpSem.call0 (law_projectExample_does) rfl rfl rfl rfl (Les.refl _)) rfl rfl (by decide) ?_
  refine TrOps.sem (OpSem.not rfl rfl) rfl rfl (by decide) ?_
  refine TrOps.nil ?_
  refine At.seq ?_
  refine Tr.condF rfl rfl ?_
  refine Tr.skip ?_
  refine At.seq ?_
  refine Tr.seq ?_
  refine Tr.region ?_
  refine TrOps.sem (OpSem.loadbN rfl rfl rfl vs26 (by first | decide | simp)) rfl rfl (by decide) ?_
  refine TrOps.sem (OpSem.move (.inl rfl) rfl) rfl rfl (by decide) ?_
  refine TrOps.sem (OpSem.move (.inl rfl) rfl) rfl rfl (by decide) ?_
  refine TrOps.sem (OpSem.call0 (project_Value_does ..) rfl rfl rfl rfl (Les.refl _)) rfl rfl (by decide) ?_
  refine TrOps.sem (OpSem.move (.inl rfl) rfl) rfl rfl (by decide) ?_
  refine TrOps.sem (OpSem.extract rfl rfl rfl) rfl rfl (by decide) ?_
  refine TrOps.sem (OpSem.extract rfl rfl rfl) rfl rfl (by decide) ?_
  refine TrOps.semM (OpSem.alloc 8 rfl zc30 rfl) rfl rfl (by decide) ?_
  refine TrOps.sem (OpSem.move (.inr rfl) rfl) rfl rfl (by decide) ?_
  refine TrOps.storeb rfl rfl rfl rfl rfl rfl rfl vs30 (by first | decide | simp) ?_
  refine TrOps.nil ?_
  refine At.seq ?_
  refine Tr.seq ?_
  refine Tr.seq ?_
  refine PC.start [] ?_
  refine PC.sem (OpSem.loadbN rfl rfl rfl vs26 (by first | decide | simp)) rfl rfl ?_
  refine PC.sem (OpSem.move (.inl rfl) rfl) rfl rfl ?_
  refine PC.sem (OpSem.call0 (law_multiFault_does ..) rfl rfl rfl rfl (Les.refl _)) rfl rfl ?_
  refine PC.sem (OpSem.loadbN rfl rfl rfl vs26 (by first | decide | simp)) rfl rfl ?_
  refine PC.sem (OpSem.move (.inl rfl) rfl) rfl rfl ?_
  refine PC.sem (OpSem.call0 (law_patternFault_does _ m vars (-8) (stpF m vars s) addP_stp) rfl rfl rfl rfl (Les.refl _)) rfl rfl ?_
  refine PC.semM (OpSem.alloc 9 rfl zc30 rfl) rfl rfl ?_
  refine PC.done1 9 (.box [I (0), I (0)]) mixed (by kernel_rfl) (by kernel_rfl) (by kernel_rfl) (by kernel_rfl) (by kernel_rfl) ?_
  refine TrOps.storeb rfl rfl rfl rfl rfl rfl rfl vs30 (by first | decide | simp) ?_
  refine TrOps.nil ?_
  refine At.seq ?_
  refine Tr.seq ?_
  refine Tr.region ?_
  refine TrOps.sem (OpSem.fieldr rfl rfl fo30_0) rfl rfl (by decide) ?_
  refine TrOps.sem (OpSem.loadb1 rfl rfl rfl vs3 rfl) rfl rfl (by decide) ?_
  refine TrOps.sem (OpSem.bin rfl rfl rfl bneq) rfl rfl (by decide) ?_
  refine TrOps.nil ?_
  refine At.seq ?_
  refine Tr.cond rfl (fun c28 => ?_) (fun c28 => ?_)
  · have h1 : stpF m vars s ≠ (0, 0) := fun h => by simp [h] at c28
    have hd : valF m vars s = stpF m vars s := (bigF_2 (fun h => h1 h.1)).symm
    have h2 : valF m vars s ≠ (0, 0) := by rw [hd]; exact h1
    refine Tr.seq ?_
    refine Tr.region ?_
    refine TrOps.sem (OpSem.loadbN rfl rfl rfl vs30 (by first | decide | simp)) rfl rfl (by decide) ?_
    refine TrOps.sem (OpSem.loadbN rfl rfl rfl vs30 (by first | decide | simp)) rfl rfl (by decide) ?_
    refine TrOps.sem (OpSem.eqS2 rfl rfl rfl io30) rfl rfl (by decide) ?_
    refine TrOps.sem (OpSem.move (.inl rfl) rfl) rfl rfl (by decide) ?_
    refine TrOps.gT rfl rfl rfl rfl (by rw [hd]; simp) ?_
    refine TrOps.sem (OpSem.move (.inl rfl) rfl) rfl rfl (by decide) ?_
    refine TrOps.gT rfl rfl rfl rfl (by rw [hd]; simp) ?_
    refine TrOps.sem (OpSem.bin rfl rfl rfl beql) rfl rfl (by decide) ?_
    refine TrOps.sem (OpSem.pickT rfl rfl (by rw [hd]; simp) rfl) rfl rfl (by decide) ?_
    refine TrOps.sem (OpSem.move (.inr rfl) rfl) rfl rfl (by decide) ?_
    refine TrOps.nil ?_
    refine At.seq ?_
    refine Tr.ret ?_
    refine At.pass_ret ?_
    exact At.ret rfl (.tmp rfl <| .nil) rfl (Le.bo (by first | rfl | (rw [valR_1 h2]; rfl) | (rw [valR_0 hd]; simp)))
  · have h0 : stpF m vars s = (0, 0) := stpF_code (by simpa using c28)
    obtain ⟨hv, hst, hne, hp⟩ := stpF_ok h0
    have hv2 := valid_proj hv hne hp
    have hpr := prod_ranks (m := m) (vars := vars)
    refine Tr.skip ?_
    refine At.seq ?_
    refine Tr.seq ?_
    refine Tr.region ?_
    refine TrOps.sem (OpSem.loadbN rfl rfl rfl vs26 (by first | decide | simp)) rfl rfl (by decide) ?_
    refine TrOps.sem (OpSem.move (.inl rfl) rfl) rfl rfl (by decide) ?_
    refine TrOps.sem (OpSem.call0 (Q_Projection_does m vars hv hp) rfl rfl rfl rfl (Les.refl _)) rfl rfl (by decide) ?_
    refine TrOps.semM (OpSem.alloc 10 rfl zc26 rfl) rfl rfl (by decide) ?_
    refine TrOps.storeb rfl rfl rfl rfl rfl rfl rfl vs26 (by first | decide | simp) ?_
    refine TrOps.nil ?_
    refine At.seq ?_
    refine Tr.seq ?_
    refine Tr.seq ?_
    refine Tr.region ?_
    refine TrOps.sem (OpSem.loadbN rfl rfl rfl vs26 (by first | decide | simp)) rfl rfl (by decide) ?_
    refine TrOps.sem (OpSem.call0 (R_Ranks_does (projM m vars) hv2) rfl rfl rfl rfl (Les.refl _)) rfl rfl (by decide) ?_
    refine TrOps.sem (OpSem.bin rfl rfl rfl bgtr) rfl rfl (by decide) ?_
    refine TrOps.nil ?_
    refine At.seq ?_
    refine Tr.cond rfl (fun c41 => ?_) (fun c41 => ?_)
    · have hd : valF m vars s = (10, -7) := (bigF_1 h0 (by rw [hpr]; simpa using c41)).symm
      have h2 : valF m vars s ≠ (0, 0) := by rw [hd]; decide
      refine Tr.seq ?_
      refine PC.start [] ?_
      refine PC.sem (OpSem.loadbN rfl rfl rfl vs30 (by first | decide | simp)) rfl rfl ?_
      refine PC.sem (OpSem.call0 (R_At_does 10 (-7)) rfl rfl rfl rfl (Les.refl _)) rfl rfl ?_
      refine PC.done0 mixed (by kernel_rfl) (by kernel_rfl) (by kernel_rfl) (by kernel_rfl) (by kernel_rfl) ?_
      refine TrOps.sem (OpSem.eqS2 rfl rfl rfl io30) rfl rfl (by decide) ?_
      refine TrOps.sem (OpSem.move (.inl rfl) rfl) rfl rfl (by decide) ?_
      refine TrOps.gT rfl rfl rfl rfl (by rw [hd]; rfl) ?_
      refine TrOps.sem (OpSem.move (.inl rfl) rfl) rfl rfl (by decide) ?_
      refine TrOps.gT rfl rfl rfl rfl (by rw [hd]; rfl) ?_
      refine TrOps.sem (OpSem.bin rfl rfl rfl beql) rfl rfl (by decide) ?_
      refine TrOps.sem (OpSem.pickT rfl rfl (by rw [hd]; rfl) rfl) rfl rfl (by decide) ?_
      refine TrOps.sem (OpSem.move (.inr rfl) rfl) rfl rfl (by decide) ?_
      refine TrOps.nil ?_
      refine At.seq ?_
      refine Tr.ret ?_
      refine At.pass_ret ?_
      exact At.ret rfl (.tmp rfl <| .nil) rfl (Le.bo (by first | rfl | (rw [valR_1 h2]; rfl) | (rw [valR_0 hd]; simp)))
    · have hd : valF m vars s = (0, 0) := by rw [← h0]; exact (bigF_2 (fun h => by rw [hpr] at h; simp at c41; omega)).symm
      refine Tr.skip ?_
      refine At.seq ?_
      refine Tr.seq ?_
      refine Tr.region ?_
      refine TrOps.sem (OpSem.fieldr rfl rfl fo30_0) rfl rfl (by decide) ?_
      refine TrOps.sem (OpSem.loadb1 rfl rfl rfl vs3 rfl) rfl rfl (by decide) ?_
      refine TrOps.sem (OpSem.bin rfl rfl rfl beql) rfl rfl (by decide) ?_
      refine TrOps.sem (OpSem.move (.inl rfl) rfl) rfl rfl (by decide) ?_
      refine TrOps.gT rfl rfl rfl rfl (by rw [hd]; rfl) ?_
      refine TrOps.sem (OpSem.loadbN rfl rfl rfl vs26 (by first | decide | simp)) rfl rfl (by decide) ?_
      refine TrOps.gT rfl rfl rfl rfl (by rw [hd]; rfl) ?_
      refine TrOps.sem (OpSem.call0 (law_small_does (projM m vars) hv2) rfl rfl rfl rfl (Les.refl _)) rfl rfl (by decide) ?_
      refine TrOps.gT rfl rfl rfl rfl (by rw [hd]; rfl) ?_
      refine TrOps.sem (OpSem.not rfl rfl) rfl rfl (by decide) ?_
      refine TrOps.gT rfl rfl rfl rfl (by rw [hd]; rfl) ?_
      refine TrOps.sem (OpSem.move (.inl rfl) rfl) rfl rfl (by decide) ?_
      refine TrOps.split (n := 56) rfl (fun c56 => ?_) (fun c56 => ?_)
      · refine TrOps.gF rfl rfl rfl rfl c56 rfl (by decide) ?_
        refine TrOps.gF rfl rfl rfl rfl c56 rfl (by decide) ?_
        refine TrOps.gF rfl rfl rfl rfl c56 rfl (by decide) ?_
        refine TrOps.gF rfl rfl rfl rfl c56 rfl (by decide) ?_
        refine TrOps.gF rfl rfl rfl rfl c56 rfl (by decide) ?_
        refine TrOps.gF rfl rfl rfl rfl c56 rfl (by decide) ?_
        refine TrOps.gT rfl rfl rfl rfl (by rw [hd]; rfl) ?_
        refine TrOps.sem (OpSem.pickT rfl rfl c56 rfl) rfl rfl (by decide) ?_
        refine TrOps.sem (OpSem.pickT rfl rfl (by rw [hd]; rfl) rfl) rfl rfl (by decide) ?_
        refine TrOps.sem (OpSem.move (.inr rfl) rfl) rfl rfl (by decide) ?_
        refine TrOps.nil ?_
        refine At.seq ?_
        refine Tr.ret ?_
        exact At.ret rfl (.tmp rfl <| .nil) rfl (Le.bo (by first | rfl | (rw [valR_1 h2]; rfl) | (rw [valR_0 hd]; simp)))
      · refine TrOps.gT rfl rfl rfl rfl c56 ?_
        refine TrOps.sem (OpSem.move (.inl rfl) rfl) rfl rfl (by decide) ?_
        refine TrOps.gT rfl rfl rfl rfl c56 ?_
        refine TrOps.sem (OpSem.loadbN rfl rfl rfl vs26 (by first | decide | simp)) rfl rfl (by decide) ?_
        refine TrOps.gT rfl rfl rfl rfl c56 ?_
        refine TrOps.sem (OpSem.move (.inl rfl) rfl) rfl rfl (by decide) ?_
        refine TrOps.gT rfl rfl rfl rfl c56 ?_
        refine TrOps.sem (OpSem.move (.inl rfl) rfl) rfl rfl (by decide) ?_
        refine TrOps.gT rfl rfl rfl rfl c56 ?_
        refine TrOps.sem (OpSem.call0 (Q_ProjectedValue_does m vars s hv hst hne hp) rfl rfl rfl rfl (Les.refl _)) rfl rfl (by decide) ?_
        refine TrOps.gT rfl rfl rfl rfl c56 ?_
        refine TrOps.sem (OpSem.bin rfl rfl rfl beql) rfl rfl (by decide) ?_
        refine TrOps.gT rfl rfl rfl rfl (by rw [hd]; rfl) ?_
        refine TrOps.sem (OpSem.pickF rfl rfl c56 rfl) rfl rfl (by decide) ?_
        refine TrOps.sem (OpSem.pickT rfl rfl (by rw [hd]; rfl) rfl) rfl rfl (by decide) ?_
        refine TrOps.sem (OpSem.move (.inr rfl) rfl) rfl rfl (by decide) ?_
        refine TrOps.nil ?_
        refine At.seq ?_
        refine Tr.ret ?_
        exact At.ret rfl (.tmp rfl <| .nil) rfl (Le.bo (by first | rfl | (rw [valR_1 h2]; rfl) | (rw [valR_0 hd]; simp)))

theorem law_ProjectAdmissible_does (m : Multi) (vars s : List Int) : Does Try.prog false 11 [multi m, .d (ints vars), .d (ints s)] (Bo true) := by
  refine Does.of_body Try.func11 rfl rfl (by simp) Try.call11 (fun w0 O0 => ?_)
  refine Tr.lenG (n := 0) (i := 0) rfl rfl (fun len0_0 => ?_)
  refine Tr.lenG (n := 0) (i := 1) rfl rfl (fun len0_1 => ?_)
  refine Tr.lenG (n := 0) (i := 2) rfl rfl (fun len0_2 => ?_)
  refine Tr.lenG (n := 0) (i := 3) rfl rfl (fun len0_3 => ?_)
  refine Tr.lenLe (n := 1) rfl (fun len1 => ?_)
  refine Tr.lenLe (n := 2) rfl (fun len2 => ?_)
  refine Tr.seq ?_
  refine Tr.region ?_
  refine TrOps.semM (OpSem.box 3 rfl rfl rfl rfl) rfl rfl (by decide) ?_
  refine TrOps.sem (OpSem.move (.inr rfl) rfl) rfl rfl (by decide) ?_
  refine TrOps.nil ?_
  refine At.seq ?_
  refine Tr.seq ?_
  refine Tr.seq ?_
  refine Tr.region ?_
  refine TrOps.sem (OpSem.call0 (law_projectExample_does) rfl rfl rfl rfl (Les.refl _)) rfl rfl (by decide) ?_
  refine TrOps.sem (OpSem.not rfl rfl) rfl rfl (by decide) ?_
  refine TrOps.nil ?_
  refine At.seq ?_
  refine Tr.condF rfl rfl ?_
  refine Tr.skip ?_
  refine At.seq ?_
  refine Tr.seq ?_
  refine Tr.region ?_
  refine TrOps.sem (OpSem.loadbN rfl rfl rfl vs26 (by first | decide | simp)) rfl rfl (by decide) ?_
  refine TrOps.sem (OpSem.move (.inl rfl) rfl) rfl rfl (by decide) ?_
  refine TrOps.sem (OpSem.move (.inl rfl) rfl) rfl rfl (by decide) ?_
  refine TrOps.sem (OpSem.call0 (project_Value_does ..) rfl rfl rfl rfl (Les.refl _)) rfl rfl (by decide) ?_
  refine TrOps.sem (OpSem.move (.inl rfl) rfl) rfl rfl (by decide) ?_
  refine TrOps.sem (OpSem.extract rfl rfl rfl) rfl rfl (by decide) ?_
  refine TrOps.sem (OpSem.extract rfl rfl rfl) rfl rfl (by decide) ?_
  refine TrOps.semM (OpSem.alloc 8 rfl zc30 rfl) rfl rfl (by decide) ?_
  refine TrOps.sem (OpSem.move (.inr rfl) rfl) rfl rfl (by decide) ?_
  refine TrOps.storeb rfl rfl rfl rfl rfl rfl rfl vs30 (by first | decide | simp) ?_
  refine TrOps.nil ?_
  refine At.seq ?_
  refine Tr.seq ?_
  refine Tr.seq ?_
  refine Tr.region ?_
  refine TrOps.sem (OpSem.fieldr rfl rfl fo30_0) rfl rfl (by decide) ?_
  refine TrOps.sem (OpSem.loadb1 rfl rfl rfl vs3 rfl) rfl rfl (by decide) ?_
  refine TrOps.sem (OpSem.bin rfl rfl rfl bneq) rfl rfl (by decide) ?_
  refine TrOps.sem (OpSem.move (.inl rfl) rfl) rfl rfl (by decide) ?_
  refine TrOps.split (n := 24) rfl (fun c24 => ?_) (fun c24 => ?_)
  · refine TrOps.gF rfl rfl rfl rfl c24 rfl (by decide) ?_
    refine TrOps.gF rfl rfl rfl rfl c24 rfl (by decide) ?_
    refine TrOps.gF rfl rfl rfl rfl c24 rfl (by decide) ?_
    refine TrOps.gF rfl rfl rfl rfl c24 rfl (by decide) ?_
    refine TrOps.gF rfl rfl rfl rfl c24 rfl (by decide) ?_
    refine TrOps.sem (OpSem.pickT rfl rfl c24 rfl) rfl rfl (by decide) ?_
    refine TrOps.sem (OpSem.move (.inl rfl) rfl) rfl rfl (by decide) ?_
    refine TrOps.gF rfl rfl rfl rfl rfl rfl (by decide) ?_
    refine TrOps.gF rfl rfl rfl rfl rfl rfl (by decide) ?_
    refine TrOps.gF rfl rfl rfl rfl rfl rfl (by decide) ?_
    refine TrOps.sem (OpSem.pickT rfl rfl rfl rfl) rfl rfl (by decide) ?_
    refine TrOps.nil ?_
    refine At.seq ?_
    refine Tr.condT rfl rfl ?_
    refine Tr.seq ?_
    refine Tr.region ?_
    refine TrOps.sem (OpSem.fieldr rfl rfl fo30_0) rfl rfl (by decide) ?_
    refine TrOps.sem (OpSem.loadb1 rfl rfl rfl vs3 rfl) rfl rfl (by decide) ?_
    refine TrOps.sem (OpSem.bin rfl rfl rfl beql) rfl rfl (by decide) ?_
    refine TrOps.sem (OpSem.move (.inl rfl) rfl) rfl rfl (by decide) ?_
    refine TrOps.split (n := 39) rfl (fun c39 => ?_) (fun c39 => ?_)
    · refine TrOps.gF rfl rfl rfl rfl c39 rfl (by decide) ?_
      refine TrOps.gF rfl rfl rfl rfl c39 rfl (by decide) ?_
      refine TrOps.sem (OpSem.pickT rfl rfl c39 rfl) rfl rfl (by decide) ?_
      refine TrOps.sem (OpSem.move (.inr rfl) rfl) rfl rfl (by decide) ?_
      refine TrOps.nil ?_
      refine At.seq ?_
      refine Tr.ret ?_
      refine At.pass_ret ?_
      exact At.ret rfl (.tmp rfl <| .nil) rfl (Le.bo (by first | rfl | (have hne : (valF m vars s).1 ≠ 0 := (by simpa using c39); have hne2 : valF m vars s ≠ (0, 0) := fun e => hne (by rw [e]); rw [valR_1 hne2]; rfl) | (rw [hall.2]; simp)))
    · refine TrOps.gT rfl rfl rfl rfl c39 ?_
      refine TrOps.sem (OpSem.move (.inl rfl) rfl) rfl rfl (by decide) ?_
      refine TrOps.gT rfl rfl rfl rfl c39 ?_
      refine TrOps.sem (OpSem.bin rfl rfl rfl beql) rfl rfl (by decide) ?_
      refine TrOps.sem (OpSem.pickF rfl rfl c39 rfl) rfl rfl (by decide) ?_
      refine TrOps.sem (OpSem.move (.inr rfl) rfl) rfl rfl (by decide) ?_
      refine TrOps.nil ?_
      refine At.seq ?_
      refine Tr.ret ?_
      refine At.pass_ret ?_
      exact At.ret rfl (.tmp rfl <| .nil) rfl (Le.bo (by first | rfl | (have hne : (valF m vars s).1 ≠ 0 := (by simpa using c39); have hne2 : valF m vars s ≠ (0, 0) := fun e => hne (by rw [e]); rw [valR_1 hne2]; rfl) | (rw [hall.2]; simp)))
  · have h1 : valF m vars s = (0, 0) := valF_code (by simpa using c24)
    obtain ⟨hv, hst, hne, hp, hb⟩ := valF_ok h1
    have hpl := pat_len hp
    have hl := hv.len
    have hms := valF_state h1
    refine TrOps.gT rfl rfl rfl rfl c24 ?_
    refine TrOps.sem (OpSem.loadbN rfl rfl rfl vs26 (by first | decide | simp)) rfl rfl (by decide) ?_
    refine TrOps.gT rfl rfl rfl rfl c24 ?_
    refine TrOps.sem (OpSem.move (.inl rfl) rfl) rfl rfl (by decide) ?_
    refine TrOps.gT rfl rfl rfl rfl c24 ?_
    refine TrOps.sem (OpSem.call0 (law_multiFault_does ..) rfl rfl rfl rfl (Les.refl _)) rfl rfl (by decide) ?_
    refine TrOps.gT rfl rfl rfl rfl c24 ?_
    refine TrOps.sem (OpSem.field1 rfl rfl f1_30_0 rfl) rfl rfl (by decide) ?_
    refine TrOps.gT rfl rfl rfl rfl c24 ?_
    refine TrOps.sem (OpSem.bin rfl rfl rfl bneq) rfl rfl (by decide) ?_
    refine TrOps.sem (OpSem.pickF rfl rfl c24 rfl) rfl rfl (by decide) ?_
    refine TrOps.sem (OpSem.move (.inl rfl) rfl) rfl rfl (by decide) ?_
    refine TrOps.gT rfl rfl rfl rfl (by rw [hms]; rfl) ?_
    refine TrOps.sem (OpSem.loadbN rfl rfl rfl vs26 (by first | decide | simp)) rfl rfl (by decide) ?_
    refine TrOps.gT rfl rfl rfl rfl (by rw [hms]; rfl) ?_
    refine TrOps.sem (OpSem.call0 (law_small_does m hv) rfl rfl rfl rfl (Les.refl _)) rfl rfl (by decide) ?_
    refine TrOps.gT rfl rfl rfl rfl (by rw [hms]; rfl) ?_
    refine TrOps.sem (OpSem.not rfl rfl) rfl rfl (by decide) ?_
    refine TrOps.sem (OpSem.pickF rfl rfl (by rw [hms]; rfl) rfl) rfl rfl (by decide) ?_
    refine TrOps.nil ?_
    refine At.seq ?_
    refine Tr.cond rfl (fun c35 => ?_) (fun c35 => ?_)
    · refine Tr.seq ?_
      refine Tr.region ?_
      refine TrOps.sem (OpSem.fieldr rfl rfl fo30_0) rfl rfl (by decide) ?_
      refine TrOps.sem (OpSem.loadb1 rfl rfl rfl vs3 rfl) rfl rfl (by decide) ?_
      refine TrOps.sem (OpSem.bin rfl rfl rfl beql) rfl rfl (by decide) ?_
      refine TrOps.sem (OpSem.move (.inl rfl) rfl) rfl rfl (by decide) ?_
      refine TrOps.split (n := 39) rfl (fun c39 => ?_) (fun c39 => ?_)
      · refine TrOps.gF rfl rfl rfl rfl c39 rfl (by decide) ?_
        refine TrOps.gF rfl rfl rfl rfl c39 rfl (by decide) ?_
        refine TrOps.sem (OpSem.pickT rfl rfl c39 rfl) rfl rfl (by decide) ?_
        refine TrOps.sem (OpSem.move (.inr rfl) rfl) rfl rfl (by decide) ?_
        refine TrOps.nil ?_
        refine At.seq ?_
        refine Tr.ret ?_
        refine At.pass_ret ?_
        exact At.ret rfl (.tmp rfl <| .nil) rfl (Le.bo (by first | rfl | (have hne : (valF m vars s).1 ≠ 0 := (by simpa using c39); have hne2 : valF m vars s ≠ (0, 0) := fun e => hne (by rw [e]); rw [valR_1 hne2]; rfl) | (rw [hall.2]; simp)))
      · refine TrOps.gT rfl rfl rfl rfl c39 ?_
        refine TrOps.sem (OpSem.move (.inl rfl) rfl) rfl rfl (by decide) ?_
        refine TrOps.gT rfl rfl rfl rfl c39 ?_
        refine TrOps.sem (OpSem.bin rfl rfl rfl beql) rfl rfl (by decide) ?_
        refine TrOps.sem (OpSem.pickF rfl rfl c39 rfl) rfl rfl (by decide) ?_
        refine TrOps.sem (OpSem.move (.inr rfl) rfl) rfl rfl (by decide) ?_
        refine TrOps.nil ?_
        refine At.seq ?_
        refine Tr.ret ?_
        refine At.pass_ret ?_
        exact At.ret rfl (.tmp rfl <| .nil) rfl (Le.bo (by first | rfl | (have hne : (valF m vars s).1 ≠ 0 := (by simpa using c39); have hne2 : valF m vars s ≠ (0, 0) := fun e => hne (by rw [e]); rw [valR_1 hne2]; rfl) | (rw [hall.2]; simp)))
    · refine Tr.skip ?_
      refine At.seq ?_
      refine Tr.seq ?_
      have hrk := rank_in hv.sizes hst
      have hcl := (costs_good hv).1
      have hN := nR_in hv
      have hadm := val_le h1
      have hall := val_all hv hst (by simpa using c35)
      refine PC.start [] ?_
      refine PC.sem (OpSem.loadbN rfl rfl rfl vs26 (by first | decide | simp)) rfl rfl ?_
      refine PC.sem (OpSem.call0 (R_MultiCosts_does m hv).fresh rfl rfl rfl rfl (Les.refl _)) rfl rfl ?_
      refine PC.sem (OpSem.loadbN rfl rfl rfl vs26 (by first | decide | simp)) rfl rfl ?_
      refine PC.sem (OpSem.move (.inl rfl) rfl) rfl rfl ?_
      refine PC.done0 mixed (by kernel_rfl) (by kernel_rfl) (by kernel_rfl) (by kernel_rfl) (by kernel_rfl) ?_
      refine TrOps.sem (OpSem.call0 (R_Rank_does m s hv hst) rfl rfl rfl rfl (Les.refl _)) rfl rfl (by decide) ?_
      refine TrOps.sem (OpSem.idxL rfl rfl rfl es22 (by omega) (by omega)) rfl rfl (by decide) ?_
      refine TrOps.sem (OpSem.load1 rfl rfl vs3 rfl) rfl rfl (by decide) ?_
      refine TrOps.sem (OpSem.move (.inr rfl) rfl) rfl rfl (by decide) ?_
      refine TrOps.nil ?_
      refine At.seq ?_
      refine Tr.seq ?_
      refine PC.start [] ?_
      refine PC.sem (OpSem.loadbN rfl rfl rfl vs26 (by first | decide | simp)) rfl rfl ?_
      refine PC.sem (OpSem.fieldr rfl rfl fo26_0) rfl rfl ?_
      refine PC.sem (OpSem.loadb1 rfl rfl rfl vs22 rfl) rfl rfl ?_
      refine PC.sem (OpSem.lenL rfl rfl es22) rfl rfl ?_
      refine PC.sem (OpSem.call0 (show Does Try.prog true 43 [I m.sizes.length] (.d (ints (allV m.sizes.length))) from (law_all_does m.sizes.length (by omega)).fresh) rfl rfl rfl rfl (Les.refl _)) rfl rfl ?_
      refine PC.sem (OpSem.move (.inl rfl) rfl) rfl rfl ?_
      refine PC.sem (OpSem.call0 (project_Value_does m (allV m.sizes.length) s) rfl rfl rfl rfl (Les.refl _)) rfl rfl ?_
      refine PC.sem (OpSem.move (.inl rfl) rfl) rfl rfl ?_
      refine PC.sem (OpSem.extract rfl rfl rfl) rfl rfl ?_
      refine PC.sem (OpSem.extract rfl rfl rfl) rfl rfl ?_
      refine PC.semM (OpSem.alloc 11 rfl zc30 rfl) rfl rfl ?_
      refine PC.sem (OpSem.move (.inr rfl) rfl) rfl rfl ?_
      refine PC.done1 11 (.box [I (0), I (0)]) mixed (by kernel_rfl) (by kernel_rfl) (by kernel_rfl) (by kernel_rfl) (by kernel_rfl) ?_
      refine TrOps.storeb rfl rfl rfl rfl rfl rfl rfl vs30 (by first | decide | simp) ?_
      refine TrOps.nil ?_
      refine At.seq ?_
      refine Tr.seq ?_
      refine Tr.region ?_
      refine TrOps.sem (OpSem.move (.inl rfl) rfl) rfl rfl (by decide) ?_
      refine TrOps.sem (OpSem.move (.inl rfl) rfl) rfl rfl (by decide) ?_
      refine TrOps.sem (OpSem.bin rfl rfl rfl bleq) rfl rfl (by decide) ?_
      refine TrOps.sem (OpSem.move (.inl rfl) rfl) rfl rfl (by decide) ?_
      refine TrOps.gT rfl rfl rfl rfl (by simpa using hadm) ?_
      refine TrOps.sem (OpSem.fieldr rfl rfl fo30_0) rfl rfl (by decide) ?_
      refine TrOps.gT rfl rfl rfl rfl (by simpa using hadm) ?_
      refine TrOps.sem (OpSem.loadb1 rfl rfl rfl vs3 rfl) rfl rfl (by decide) ?_
      refine TrOps.gT rfl rfl rfl rfl (by simpa using hadm) ?_
      refine TrOps.sem (OpSem.bin rfl rfl rfl beql) rfl rfl (by decide) ?_
      refine TrOps.sem (OpSem.pickT rfl rfl (by simpa using hadm) rfl) rfl rfl (by decide) ?_
      refine TrOps.sem (OpSem.move (.inl rfl) rfl) rfl rfl (by decide) ?_
      refine TrOps.gT rfl rfl rfl rfl (by rw [hall.1]; rfl) ?_
      refine TrOps.sem (OpSem.move (.inl rfl) rfl) rfl rfl (by decide) ?_
      refine TrOps.gT rfl rfl rfl rfl (by rw [hall.1]; rfl) ?_
      refine TrOps.sem (OpSem.move (.inl rfl) rfl) rfl rfl (by decide) ?_
      refine TrOps.gT rfl rfl rfl rfl (by rw [hall.1]; rfl) ?_
      refine TrOps.sem (OpSem.bin rfl rfl rfl beql) rfl rfl (by decide) ?_
      refine TrOps.sem (OpSem.pickT rfl rfl (by rw [hall.1]; rfl) rfl) rfl rfl (by decide) ?_
      refine TrOps.sem (OpSem.move (.inr rfl) rfl) rfl rfl (by decide) ?_
      refine TrOps.nil ?_
      refine At.seq ?_
      refine Tr.ret ?_
      exact At.ret rfl (.tmp rfl <| .nil) rfl (Le.bo (by first | rfl | (have hne : (valF m vars s).1 ≠ 0 := (by simpa using c39); have hne2 : valF m vars s ≠ (0, 0) := fun e => hne (by rw [e]); rw [valR_1 hne2]; rfl) | (rw [hall.2]; simp)))

theorem law_ProjectMonotone_does (m : Multi) (vars : List Int) (v : Int) (s : List Int) : Does Try.prog false 12 [multi m, .d (ints vars), I (v), .d (ints s)] (Bo true) := by
  refine Does.of_body Try.func12 rfl rfl (by simp) Try.call12 (fun w0 O0 => ?_)
  refine Tr.lenG (n := 0) (i := 0) rfl rfl (fun len0_0 => ?_)
  refine Tr.lenG (n := 0) (i := 1) rfl rfl (fun len0_1 => ?_)
  refine Tr.lenG (n := 0) (i := 2) rfl rfl (fun len0_2 => ?_)
  refine Tr.lenG (n := 0) (i := 3) rfl rfl (fun len0_3 => ?_)
  refine Tr.lenLe (n := 1) rfl (fun len1 => ?_)
  refine Tr.lenLe (n := 3) rfl (fun len3 => ?_)
  refine Tr.seq ?_
  refine Tr.region ?_
  refine TrOps.semM (OpSem.box 4 rfl rfl rfl rfl) rfl rfl (by decide) ?_
  refine TrOps.sem (OpSem.move (.inr rfl) rfl) rfl rfl (by decide) ?_
  refine TrOps.nil ?_
  refine At.seq ?_
  refine Tr.seq ?_
  refine Tr.seq ?_
  refine Tr.region ?_
  refine TrOps.sem (OpSem.call0 (law_projectExample_does) rfl rfl rfl rfl (Les.refl _)) rfl rfl (by decide) ?_
  refine TrOps.sem (OpSem.not rfl rfl) rfl rfl (by decide) ?_
  refine TrOps.nil ?_
  refine At.seq ?_
  refine Tr.condF rfl rfl ?_
  refine Tr.skip ?_
  refine At.seq ?_
  refine Tr.seq ?_
  refine Tr.region ?_
  refine TrOps.sem (OpSem.loadbN rfl rfl rfl vs26 (by first | decide | simp)) rfl rfl (by decide) ?_
  refine TrOps.sem (OpSem.move (.inl rfl) rfl) rfl rfl (by decide) ?_
  refine TrOps.sem (OpSem.move (.inl rfl) rfl) rfl rfl (by decide) ?_
  refine TrOps.sem (OpSem.call0 (project_Value_does ..) rfl rfl rfl rfl (Les.refl _)) rfl rfl (by decide) ?_
  refine TrOps.sem (OpSem.move (.inl rfl) rfl) rfl rfl (by decide) ?_
  refine TrOps.sem (OpSem.extract rfl rfl rfl) rfl rfl (by decide) ?_
  refine TrOps.sem (OpSem.extract rfl rfl rfl) rfl rfl (by decide) ?_
  refine TrOps.semM (OpSem.alloc 10 rfl zc30 rfl) rfl rfl (by decide) ?_
  refine TrOps.sem (OpSem.move (.inr rfl) rfl) rfl rfl (by decide) ?_
  refine TrOps.storeb rfl rfl rfl rfl rfl rfl rfl vs30 (by first | decide | simp) ?_
  refine TrOps.nil ?_
  refine At.seq ?_
  refine Tr.seq ?_
  refine Tr.seq ?_
  refine Tr.region ?_
  refine TrOps.sem (OpSem.fieldr rfl rfl fo30_0) rfl rfl (by decide) ?_
  refine TrOps.sem (OpSem.loadb1 rfl rfl rfl vs3 rfl) rfl rfl (by decide) ?_
  refine TrOps.sem (OpSem.bin rfl rfl rfl bneq) rfl rfl (by decide) ?_
  refine TrOps.sem (OpSem.move (.inl rfl) rfl) rfl rfl (by decide) ?_
  refine TrOps.split (n := 25) rfl (fun c25 => ?_) (fun c25 => ?_)
  · refine TrOps.gF rfl rfl rfl rfl c25 rfl (by decide) ?_
    refine TrOps.gF rfl rfl rfl rfl c25 rfl (by decide) ?_
    refine TrOps.gF rfl rfl rfl rfl c25 rfl (by decide) ?_
    refine TrOps.gF rfl rfl rfl rfl c25 rfl (by decide) ?_
    refine TrOps.gF rfl rfl rfl rfl c25 rfl (by decide) ?_
    refine TrOps.gF rfl rfl rfl rfl c25 rfl (by decide) ?_
    refine TrOps.gF rfl rfl rfl rfl c25 rfl (by decide) ?_
    refine TrOps.sem (OpSem.pickT rfl rfl c25 rfl) rfl rfl (by decide) ?_
    refine TrOps.nil ?_
    refine At.seq ?_
    refine Tr.condT rfl rfl ?_
    refine Tr.seq ?_
    refine Tr.region ?_
    refine TrOps.sem (OpSem.fieldr rfl rfl fo30_0) rfl rfl (by decide) ?_
    refine TrOps.sem (OpSem.loadb1 rfl rfl rfl vs3 rfl) rfl rfl (by decide) ?_
    refine TrOps.sem (OpSem.bin rfl rfl rfl beql) rfl rfl (by decide) ?_
    refine TrOps.sem (OpSem.move (.inl rfl) rfl) rfl rfl (by decide) ?_
    refine TrOps.split (n := 37) rfl (fun c37 => ?_) (fun c37 => ?_)
    · refine TrOps.gF rfl rfl rfl rfl c37 rfl (by decide) ?_
      refine TrOps.gF rfl rfl rfl rfl c37 rfl (by decide) ?_
      refine TrOps.sem (OpSem.pickT rfl rfl c37 rfl) rfl rfl (by decide) ?_
      refine TrOps.sem (OpSem.move (.inr rfl) rfl) rfl rfl (by decide) ?_
      refine TrOps.nil ?_
      refine At.seq ?_
      refine Tr.ret ?_
      refine At.pass_ret ?_
      exact At.ret rfl (.tmp rfl <| .nil) rfl (Le.bo (by first | rfl | (have hne : (valF m vars s).1 ≠ 0 := (by simpa using c37); have hne2 : valF m vars s ≠ (0, 0) := fun e => hne (by rw [e]); rw [valR_1 hne2]; rfl) | (simpa using val_mono h1 h2)))
    · refine TrOps.gT rfl rfl rfl rfl c37 ?_
      refine TrOps.sem (OpSem.move (.inl rfl) rfl) rfl rfl (by decide) ?_
      refine TrOps.gT rfl rfl rfl rfl c37 ?_
      refine TrOps.sem (OpSem.bin rfl rfl rfl beql) rfl rfl (by decide) ?_
      refine TrOps.sem (OpSem.pickF rfl rfl c37 rfl) rfl rfl (by decide) ?_
      refine TrOps.sem (OpSem.move (.inr rfl) rfl) rfl rfl (by decide) ?_
      refine TrOps.nil ?_
      refine At.seq ?_
      refine Tr.ret ?_
      refine At.pass_ret ?_
      exact At.ret rfl (.tmp rfl <| .nil) rfl (Le.bo (by first | rfl | (have hne : (valF m vars s).1 ≠ 0 := (by simpa using c37); have hne2 : valF m vars s ≠ (0, 0) := fun e => hne (by rw [e]); rw [valR_1 hne2]; rfl) | (simpa using val_mono h1 h2)))
  · have h1 : valF m vars s = (0, 0) := valF_code (by simpa using c25)
    obtain ⟨hv, hst, hne, hp, hb⟩ := valF_ok h1
    have hpl := pat_len hp
    have hl := hv.len
    have hms := valF_state h1
    refine TrOps.gT rfl rfl rfl rfl c25 ?_
    refine TrOps.sem (OpSem.move (.inl rfl) rfl) rfl rfl (by decide) ?_
    refine TrOps.gT rfl rfl rfl rfl c25 ?_
    refine TrOps.sem (OpSem.fieldr rfl rfl fo26_0) rfl rfl (by decide) ?_
    refine TrOps.gT rfl rfl rfl rfl c25 ?_
    refine TrOps.sem (OpSem.loadb1 rfl rfl rfl vs22 rfl) rfl rfl (by decide) ?_
    refine TrOps.gT rfl rfl rfl rfl c25 ?_
    refine TrOps.sem (OpSem.lenL rfl rfl es22) rfl rfl (by decide) ?_
    refine TrOps.gT rfl rfl rfl rfl c25 ?_
    refine TrOps.sem (OpSem.bin rfl rfl rfl (bsub (by omega) (by omega))) rfl rfl (by decide) ?_
    refine TrOps.gT rfl rfl rfl rfl c25 ?_
    refine TrOps.sem (OpSem.call0 (R_In_does ..) rfl rfl rfl rfl (Les.refl _)) rfl rfl (by decide) ?_
    refine TrOps.gT rfl rfl rfl rfl c25 ?_
    refine TrOps.sem (OpSem.not rfl rfl) rfl rfl (by decide) ?_
    refine TrOps.sem (OpSem.pickF rfl rfl c25 rfl) rfl rfl (by decide) ?_
    refine TrOps.nil ?_
    refine At.seq ?_
    refine Tr.cond rfl (fun c33 => ?_) (fun c33 => ?_)
    · refine Tr.seq ?_
      refine Tr.region ?_
      refine TrOps.sem (OpSem.fieldr rfl rfl fo30_0) rfl rfl (by decide) ?_
      refine TrOps.sem (OpSem.loadb1 rfl rfl rfl vs3 rfl) rfl rfl (by decide) ?_
      refine TrOps.sem (OpSem.bin rfl rfl rfl beql) rfl rfl (by decide) ?_
      refine TrOps.sem (OpSem.move (.inl rfl) rfl) rfl rfl (by decide) ?_
      refine TrOps.split (n := 37) rfl (fun c37 => ?_) (fun c37 => ?_)
      · refine TrOps.gF rfl rfl rfl rfl c37 rfl (by decide) ?_
        refine TrOps.gF rfl rfl rfl rfl c37 rfl (by decide) ?_
        refine TrOps.sem (OpSem.pickT rfl rfl c37 rfl) rfl rfl (by decide) ?_
        refine TrOps.sem (OpSem.move (.inr rfl) rfl) rfl rfl (by decide) ?_
        refine TrOps.nil ?_
        refine At.seq ?_
        refine Tr.ret ?_
        refine At.pass_ret ?_
        exact At.ret rfl (.tmp rfl <| .nil) rfl (Le.bo (by first | rfl | (have hne : (valF m vars s).1 ≠ 0 := (by simpa using c37); have hne2 : valF m vars s ≠ (0, 0) := fun e => hne (by rw [e]); rw [valR_1 hne2]; rfl) | (simpa using val_mono h1 h2)))
      · refine TrOps.gT rfl rfl rfl rfl c37 ?_
        refine TrOps.sem (OpSem.move (.inl rfl) rfl) rfl rfl (by decide) ?_
        refine TrOps.gT rfl rfl rfl rfl c37 ?_
        refine TrOps.sem (OpSem.bin rfl rfl rfl beql) rfl rfl (by decide) ?_
        refine TrOps.sem (OpSem.pickF rfl rfl c37 rfl) rfl rfl (by decide) ?_
        refine TrOps.sem (OpSem.move (.inr rfl) rfl) rfl rfl (by decide) ?_
        refine TrOps.nil ?_
        refine At.seq ?_
        refine Tr.ret ?_
        refine At.pass_ret ?_
        exact At.ret rfl (.tmp rfl <| .nil) rfl (Le.bo (by first | rfl | (have hne : (valF m vars s).1 ≠ 0 := (by simpa using c37); have hne2 : valF m vars s ≠ (0, 0) := fun e => hne (by rw [e]); rw [valR_1 hne2]; rfl) | (simpa using val_mono h1 h2)))
    · refine Tr.skip ?_
      refine At.seq ?_
      refine Tr.seq ?_
      refine PC.start [] ?_
      refine PC.sem (OpSem.loadbN rfl rfl rfl vs26 (by first | decide | simp)) rfl rfl ?_
      refine PC.sem (OpSem.move (.inl rfl) rfl) rfl rfl ?_
      refine PC.sem (OpSem.move (.inl rfl) rfl) rfl rfl ?_
      refine PC.sem (OpSem.call0 (R_With_does vars v (by omega)).fresh rfl rfl rfl rfl (Les.refl _)) rfl rfl ?_
      refine PC.sem (OpSem.move (.inl rfl) rfl) rfl rfl ?_
      refine PC.sem (OpSem.call0 (project_Value_does ..) rfl rfl rfl rfl (Les.refl _)) rfl rfl ?_
      refine PC.sem (OpSem.move (.inl rfl) rfl) rfl rfl ?_
      refine PC.sem (OpSem.extract rfl rfl rfl) rfl rfl ?_
      refine PC.sem (OpSem.extract rfl rfl rfl) rfl rfl ?_
      refine PC.semM (OpSem.alloc 12 rfl zc30 rfl) rfl rfl ?_
      refine PC.sem (OpSem.move (.inr rfl) rfl) rfl rfl ?_
      refine PC.done1 12 (.box [I (0), I (0)]) mixed (by kernel_rfl) (by kernel_rfl) (by kernel_rfl) (by kernel_rfl) (by kernel_rfl) ?_
      refine TrOps.storeb rfl rfl rfl rfl rfl rfl rfl vs30 (by first | decide | simp) ?_
      refine TrOps.nil ?_
      refine At.seq ?_
      refine Tr.seq ?_
      refine Tr.region ?_
      refine TrOps.sem (OpSem.fieldr rfl rfl fo30_0) rfl rfl (by decide) ?_
      refine TrOps.sem (OpSem.loadb1 rfl rfl rfl vs3 rfl) rfl rfl (by decide) ?_
      refine TrOps.sem (OpSem.bin rfl rfl rfl bneq) rfl rfl (by decide) ?_
      refine TrOps.sem (OpSem.move (.inl rfl) rfl) rfl rfl (by decide) ?_
      refine TrOps.split (n := 53) rfl (fun c53 => ?_) (fun c53 => ?_)
      · refine TrOps.gF rfl rfl rfl rfl c53 rfl (by decide) ?_
        refine TrOps.gF rfl rfl rfl rfl c53 rfl (by decide) ?_
        refine TrOps.gF rfl rfl rfl rfl c53 rfl (by decide) ?_
        refine TrOps.sem (OpSem.pickT rfl rfl c53 rfl) rfl rfl (by decide) ?_
        refine TrOps.sem (OpSem.move (.inr rfl) rfl) rfl rfl (by decide) ?_
        refine TrOps.nil ?_
        refine At.seq ?_
        refine Tr.ret ?_
        exact At.ret rfl (.tmp rfl <| .nil) rfl (Le.bo (by first | rfl | (have hne : (valF m vars s).1 ≠ 0 := (by simpa using c37); have hne2 : valF m vars s ≠ (0, 0) := fun e => hne (by rw [e]); rw [valR_1 hne2]; rfl) | (simpa using val_mono h1 h2)))
      · have h2 : valF m (withL vars v) s = (0, 0) := valF_code (by simpa using c53)
        refine TrOps.gT rfl rfl rfl rfl c53 ?_
        refine TrOps.sem (OpSem.move (.inl rfl) rfl) rfl rfl (by decide) ?_
        refine TrOps.gT rfl rfl rfl rfl c53 ?_
        refine TrOps.sem (OpSem.move (.inl rfl) rfl) rfl rfl (by decide) ?_
        refine TrOps.gT rfl rfl rfl rfl c53 ?_
        refine TrOps.sem (OpSem.bin rfl rfl rfl bleq) rfl rfl (by decide) ?_
        refine TrOps.sem (OpSem.pickF rfl rfl c53 rfl) rfl rfl (by decide) ?_
        refine TrOps.sem (OpSem.move (.inr rfl) rfl) rfl rfl (by decide) ?_
        refine TrOps.nil ?_
        refine At.seq ?_
        refine Tr.ret ?_
        exact At.ret rfl (.tmp rfl <| .nil) rfl (Le.bo (by first | rfl | (have hne : (valF m vars s).1 ≠ 0 := (by simpa using c37); have hne2 : valF m vars s ≠ (0, 0) := fun e => hne (by rw [e]); rw [valR_1 hne2]; rfl) | (simpa using val_mono h1 h2)))

theorem law_ProjectConsistent_does (m : Multi) (vars : List Int) (s : List Int) (op : Int) : Does Try.prog false 13 [multi m, .d (ints vars), .d (ints s), I (op)] (Bo true) := by
  refine Does.of_body Try.func13 rfl rfl (by simp) Try.call13 (fun w0 O0 => ?_)
  refine Tr.lenG (n := 0) (i := 0) rfl rfl (fun len0_0 => ?_)
  refine Tr.lenG (n := 0) (i := 1) rfl rfl (fun len0_1 => ?_)
  refine Tr.lenG (n := 0) (i := 2) rfl rfl (fun len0_2 => ?_)
  refine Tr.lenG (n := 0) (i := 3) rfl rfl (fun len0_3 => ?_)
  refine Tr.lenLe (n := 1) rfl (fun len1 => ?_)
  refine Tr.lenLe (n := 2) rfl (fun len2 => ?_)
  refine Tr.seq ?_
  refine Tr.region ?_
  refine TrOps.semM (OpSem.box 4 rfl rfl rfl rfl) rfl rfl (by decide) ?_
  refine TrOps.sem (OpSem.move (.inr rfl) rfl) rfl rfl (by decide) ?_
  refine TrOps.nil ?_
  refine At.seq ?_
  refine Tr.seq ?_
  refine Tr.seq ?_
  refine Tr.region ?_
  refine TrOps.sem (OpSem.call0 (law_projectExample_does) rfl rfl rfl rfl (Les.refl _)) rfl rfl (by decide) ?_
  refine TrOps.sem (OpSem.not rfl rfl) rfl rfl (by decide) ?_
  refine TrOps.nil ?_
  refine At.seq ?_
  refine Tr.condF rfl rfl ?_
  refine Tr.skip ?_
  refine At.seq ?_
  refine Tr.seq ?_
  refine Tr.region ?_
  refine TrOps.sem (OpSem.loadbN rfl rfl rfl vs26 (by first | decide | simp)) rfl rfl (by decide) ?_
  refine TrOps.sem (OpSem.move (.inl rfl) rfl) rfl rfl (by decide) ?_
  refine TrOps.sem (OpSem.move (.inl rfl) rfl) rfl rfl (by decide) ?_
  refine TrOps.sem (OpSem.call0 (multi_Apply_does ..) rfl rfl rfl rfl (Les.refl _)) rfl rfl (by decide) ?_
  refine TrOps.sem (OpSem.move (.inl rfl) rfl) rfl rfl (by decide) ?_
  refine TrOps.sem (OpSem.extract rfl rfl rfl) rfl rfl (by decide) ?_
  refine TrOps.sem (OpSem.extract rfl rfl rfl) rfl rfl (by decide) ?_
  refine TrOps.semM (OpSem.alloc 10 rfl zc30 rfl) rfl rfl (by decide) ?_
  refine TrOps.sem (OpSem.move (.inr rfl) rfl) rfl rfl (by decide) ?_
  refine TrOps.storeb rfl rfl rfl rfl rfl rfl rfl vs30 (by first | decide | simp) ?_
  refine TrOps.nil ?_
  refine At.seq ?_
  refine Tr.seq ?_
  refine Tr.region ?_
  refine TrOps.sem (OpSem.loadbN rfl rfl rfl vs26 (by first | decide | simp)) rfl rfl (by decide) ?_
  refine TrOps.sem (OpSem.move (.inl rfl) rfl) rfl rfl (by decide) ?_
  refine TrOps.sem (OpSem.move (.inl rfl) rfl) rfl rfl (by decide) ?_
  refine TrOps.sem (OpSem.call0 (project_Value_does ..) rfl rfl rfl rfl (Les.refl _)) rfl rfl (by decide) ?_
  refine TrOps.sem (OpSem.move (.inl rfl) rfl) rfl rfl (by decide) ?_
  refine TrOps.sem (OpSem.extract rfl rfl rfl) rfl rfl (by decide) ?_
  refine TrOps.sem (OpSem.extract rfl rfl rfl) rfl rfl (by decide) ?_
  refine TrOps.semM (OpSem.alloc 12 rfl zc30 rfl) rfl rfl (by decide) ?_
  refine TrOps.sem (OpSem.move (.inr rfl) rfl) rfl rfl (by decide) ?_
  refine TrOps.storeb rfl rfl rfl rfl rfl rfl rfl vs30 (by first | decide | simp) ?_
  refine TrOps.nil ?_
  refine At.seq ?_
  refine Tr.seq ?_
  refine Tr.seq ?_
  refine Tr.region ?_
  refine TrOps.sem (OpSem.fieldr rfl rfl fo30_0) rfl rfl (by decide) ?_
  refine TrOps.sem (OpSem.loadb1 rfl rfl rfl vs3 rfl) rfl rfl (by decide) ?_
  refine TrOps.sem (OpSem.bin rfl rfl rfl bneq) rfl rfl (by decide) ?_
  refine TrOps.sem (OpSem.move (.inl rfl) rfl) rfl rfl (by decide) ?_
  refine TrOps.split (n := 34) rfl (fun c34 => ?_) (fun c34 => ?_)
  · refine TrOps.gF rfl rfl rfl rfl c34 rfl (by decide) ?_
    refine TrOps.gF rfl rfl rfl rfl c34 rfl (by decide) ?_
    refine TrOps.gF rfl rfl rfl rfl c34 rfl (by decide) ?_
    refine TrOps.sem (OpSem.pickT rfl rfl c34 rfl) rfl rfl (by decide) ?_
    refine TrOps.sem (OpSem.move (.inl rfl) rfl) rfl rfl (by decide) ?_
    refine TrOps.gF rfl rfl rfl rfl rfl rfl (by decide) ?_
    refine TrOps.gF rfl rfl rfl rfl rfl rfl (by decide) ?_
    refine TrOps.gF rfl rfl rfl rfl rfl rfl (by decide) ?_
    refine TrOps.gF rfl rfl rfl rfl rfl rfl (by decide) ?_
    refine TrOps.gF rfl rfl rfl rfl rfl rfl (by decide) ?_
    refine TrOps.gF rfl rfl rfl rfl rfl rfl (by decide) ?_
    refine TrOps.gF rfl rfl rfl rfl rfl rfl (by decide) ?_
    refine TrOps.sem (OpSem.pickT rfl rfl rfl rfl) rfl rfl (by decide) ?_
    refine TrOps.nil ?_
    refine At.seq ?_
    refine Tr.condT rfl rfl ?_
    refine Tr.seq ?_
    refine Tr.region ?_
    refine TrOps.sem (OpSem.fieldr rfl rfl fo30_0) rfl rfl (by decide) ?_
    refine TrOps.sem (OpSem.loadb1 rfl rfl rfl vs3 rfl) rfl rfl (by decide) ?_
    refine TrOps.sem (OpSem.bin rfl rfl rfl beql) rfl rfl (by decide) ?_
    refine TrOps.sem (OpSem.move (.inl rfl) rfl) rfl rfl (by decide) ?_
    refine TrOps.split (n := 51) rfl (fun c51 => ?_) (fun c51 => ?_)
    · refine TrOps.gF rfl rfl rfl rfl c51 rfl (by decide) ?_
      refine TrOps.gF rfl rfl rfl rfl c51 rfl (by decide) ?_
      refine TrOps.sem (OpSem.pickT rfl rfl c51 rfl) rfl rfl (by decide) ?_
      refine TrOps.sem (OpSem.move (.inr rfl) rfl) rfl rfl (by decide) ?_
      refine TrOps.nil ?_
      refine At.seq ?_
      refine Tr.ret ?_
      refine At.pass_ret ?_
      exact At.ret rfl (.tmp rfl <| .nil) rfl (Le.bo (by first | rfl | (have hne : (valF m vars s).1 ≠ 0 := (by simpa using c51); have hne2 : valF m vars s ≠ (0, 0) := fun e => hne (by rw [e]); rw [valR_1 hne2]; rfl) | (simpa using hx.2) | (simpa using c68)))
    · refine TrOps.gT rfl rfl rfl rfl c51 ?_
      refine TrOps.sem (OpSem.move (.inl rfl) rfl) rfl rfl (by decide) ?_
      refine TrOps.gT rfl rfl rfl rfl c51 ?_
      refine TrOps.sem (OpSem.bin rfl rfl rfl beql) rfl rfl (by decide) ?_
      refine TrOps.sem (OpSem.pickF rfl rfl c51 rfl) rfl rfl (by decide) ?_
      refine TrOps.sem (OpSem.move (.inr rfl) rfl) rfl rfl (by decide) ?_
      refine TrOps.nil ?_
      refine At.seq ?_
      refine Tr.ret ?_
      refine At.pass_ret ?_
      exact At.ret rfl (.tmp rfl <| .nil) rfl (Le.bo (by first | rfl | (have hne : (valF m vars s).1 ≠ 0 := (by simpa using c51); have hne2 : valF m vars s ≠ (0, 0) := fun e => hne (by rw [e]); rw [valR_1 hne2]; rfl) | (simpa using hx.2) | (simpa using c68)))
  · have ha : (applyF m s op).1 = 0 := by simpa using c34
    refine TrOps.gT rfl rfl rfl rfl c34 ?_
    refine TrOps.sem (OpSem.fieldr rfl rfl fo30_0) rfl rfl (by decide) ?_
    refine TrOps.gT rfl rfl rfl rfl c34 ?_
    refine TrOps.sem (OpSem.loadb1 rfl rfl rfl vs3 rfl) rfl rfl (by decide) ?_
    refine TrOps.gT rfl rfl rfl rfl c34 ?_
    refine TrOps.sem (OpSem.bin rfl rfl rfl bneq) rfl rfl (by decide) ?_
    refine TrOps.sem (OpSem.pickF rfl rfl c34 rfl) rfl rfl (by decide) ?_
    refine TrOps.sem (OpSem.move (.inl rfl) rfl) rfl rfl (by decide) ?_
    refine TrOps.split (n := 39) rfl (fun c39 => ?_) (fun c39 => ?_)
    · refine TrOps.gF rfl rfl rfl rfl c39 rfl (by decide) ?_
      refine TrOps.gF rfl rfl rfl rfl c39 rfl (by decide) ?_
      refine TrOps.gF rfl rfl rfl rfl c39 rfl (by decide) ?_
      refine TrOps.gF rfl rfl rfl rfl c39 rfl (by decide) ?_
      refine TrOps.gF rfl rfl rfl rfl c39 rfl (by decide) ?_
      refine TrOps.gF rfl rfl rfl rfl c39 rfl (by decide) ?_
      refine TrOps.gF rfl rfl rfl rfl c39 rfl (by decide) ?_
      refine TrOps.sem (OpSem.pickT rfl rfl c39 rfl) rfl rfl (by decide) ?_
      refine TrOps.nil ?_
      refine At.seq ?_
      refine Tr.condT rfl rfl ?_
      refine Tr.seq ?_
      refine Tr.region ?_
      refine TrOps.sem (OpSem.fieldr rfl rfl fo30_0) rfl rfl (by decide) ?_
      refine TrOps.sem (OpSem.loadb1 rfl rfl rfl vs3 rfl) rfl rfl (by decide) ?_
      refine TrOps.sem (OpSem.bin rfl rfl rfl beql) rfl rfl (by decide) ?_
      refine TrOps.sem (OpSem.move (.inl rfl) rfl) rfl rfl (by decide) ?_
      refine TrOps.split (n := 51) rfl (fun c51 => ?_) (fun c51 => ?_)
      · refine TrOps.gF rfl rfl rfl rfl c51 rfl (by decide) ?_
        refine TrOps.gF rfl rfl rfl rfl c51 rfl (by decide) ?_
        refine TrOps.sem (OpSem.pickT rfl rfl c51 rfl) rfl rfl (by decide) ?_
        refine TrOps.sem (OpSem.move (.inr rfl) rfl) rfl rfl (by decide) ?_
        refine TrOps.nil ?_
        refine At.seq ?_
        refine Tr.ret ?_
        refine At.pass_ret ?_
        exact At.ret rfl (.tmp rfl <| .nil) rfl (Le.bo (by first | rfl | (have hne : (valF m vars s).1 ≠ 0 := (by simpa using c51); have hne2 : valF m vars s ≠ (0, 0) := fun e => hne (by rw [e]); rw [valR_1 hne2]; rfl) | (simpa using hx.2) | (simpa using c68)))
      · refine TrOps.gT rfl rfl rfl rfl c51 ?_
        refine TrOps.sem (OpSem.move (.inl rfl) rfl) rfl rfl (by decide) ?_
        refine TrOps.gT rfl rfl rfl rfl c51 ?_
        refine TrOps.sem (OpSem.bin rfl rfl rfl beql) rfl rfl (by decide) ?_
        refine TrOps.sem (OpSem.pickF rfl rfl c51 rfl) rfl rfl (by decide) ?_
        refine TrOps.sem (OpSem.move (.inr rfl) rfl) rfl rfl (by decide) ?_
        refine TrOps.nil ?_
        refine At.seq ?_
        refine Tr.ret ?_
        refine At.pass_ret ?_
        exact At.ret rfl (.tmp rfl <| .nil) rfl (Le.bo (by first | rfl | (have hne : (valF m vars s).1 ≠ 0 := (by simpa using c51); have hne2 : valF m vars s ≠ (0, 0) := fun e => hne (by rw [e]); rw [valR_1 hne2]; rfl) | (simpa using hx.2) | (simpa using c68)))
    · have h1 : valF m vars s = (0, 0) := valF_code (by simpa using c39)
      obtain ⟨hv, hst, hne, hp, hb⟩ := valF_ok h1
      have hpl := pat_len hp
      have hl := hv.len
      have hms := valF_state h1
      have hol := hv.opsLen
      refine TrOps.gT rfl rfl rfl rfl c39 ?_
      refine TrOps.sem (OpSem.move (.inl rfl) rfl) rfl rfl (by decide) ?_
      refine TrOps.gT rfl rfl rfl rfl c39 ?_
      refine TrOps.sem (OpSem.fieldr rfl rfl fo26_3) rfl rfl (by decide) ?_
      refine TrOps.gT rfl rfl rfl rfl c39 ?_
      refine TrOps.sem (OpSem.loadb1 rfl rfl rfl vs24 rfl) rfl rfl (by decide) ?_
      refine TrOps.gT rfl rfl rfl rfl c39 ?_
      refine TrOps.sem (OpSem.lenL rfl rfl es24) rfl rfl (by decide) ?_
      refine TrOps.gT rfl rfl rfl rfl c39 ?_
      refine TrOps.sem (OpSem.bin rfl rfl rfl (bsub (by omega) (by omega))) rfl rfl (by decide) ?_
      refine TrOps.gT rfl rfl rfl rfl c39 ?_
      refine TrOps.sem (OpSem.call0 (R_In_does ..) rfl rfl rfl rfl (Les.refl _)) rfl rfl (by decide) ?_
      refine TrOps.gT rfl rfl rfl rfl c39 ?_
      refine TrOps.sem (OpSem.not rfl rfl) rfl rfl (by decide) ?_
      refine TrOps.sem (OpSem.pickF rfl rfl c39 rfl) rfl rfl (by decide) ?_
      refine TrOps.nil ?_
      refine At.seq ?_
      refine Tr.cond rfl (fun c47 => ?_) (fun c47 => ?_)
      · refine Tr.seq ?_
        refine Tr.region ?_
        refine TrOps.sem (OpSem.fieldr rfl rfl fo30_0) rfl rfl (by decide) ?_
        refine TrOps.sem (OpSem.loadb1 rfl rfl rfl vs3 rfl) rfl rfl (by decide) ?_
        refine TrOps.sem (OpSem.bin rfl rfl rfl beql) rfl rfl (by decide) ?_
        refine TrOps.sem (OpSem.move (.inl rfl) rfl) rfl rfl (by decide) ?_
        refine TrOps.split (n := 51) rfl (fun c51 => ?_) (fun c51 => ?_)
        · refine TrOps.gF rfl rfl rfl rfl c51 rfl (by decide) ?_
          refine TrOps.gF rfl rfl rfl rfl c51 rfl (by decide) ?_
          refine TrOps.sem (OpSem.pickT rfl rfl c51 rfl) rfl rfl (by decide) ?_
          refine TrOps.sem (OpSem.move (.inr rfl) rfl) rfl rfl (by decide) ?_
          refine TrOps.nil ?_
          refine At.seq ?_
          refine Tr.ret ?_
          refine At.pass_ret ?_
          exact At.ret rfl (.tmp rfl <| .nil) rfl (Le.bo (by first | rfl | (have hne : (valF m vars s).1 ≠ 0 := (by simpa using c51); have hne2 : valF m vars s ≠ (0, 0) := fun e => hne (by rw [e]); rw [valR_1 hne2]; rfl) | (simpa using hx.2) | (simpa using c68)))
        · refine TrOps.gT rfl rfl rfl rfl c51 ?_
          refine TrOps.sem (OpSem.move (.inl rfl) rfl) rfl rfl (by decide) ?_
          refine TrOps.gT rfl rfl rfl rfl c51 ?_
          refine TrOps.sem (OpSem.bin rfl rfl rfl beql) rfl rfl (by decide) ?_
          refine TrOps.sem (OpSem.pickF rfl rfl c51 rfl) rfl rfl (by decide) ?_
          refine TrOps.sem (OpSem.move (.inr rfl) rfl) rfl rfl (by decide) ?_
          refine TrOps.nil ?_
          refine At.seq ?_
          refine Tr.ret ?_
          refine At.pass_ret ?_
          exact At.ret rfl (.tmp rfl <| .nil) rfl (Le.bo (by first | rfl | (have hne : (valF m vars s).1 ≠ 0 := (by simpa using c51); have hne2 : valF m vars s ≠ (0, 0) := fun e => hne (by rw [e]); rw [valR_1 hne2]; rfl) | (simpa using hx.2) | (simpa using c68)))
      · refine Tr.skip ?_
        refine At.seq ?_
        refine Tr.seq ?_
        have hx := pval_next h1 ha
        obtain ⟨_, _, ho0, ho1, _⟩ := applyF_ok ha
        have ho := nth_op hv ho0 ho1
        have hk1 := valR_in (m := m) (vars := vars) (s := applyS m s op)
        refine Tr.region ?_
        refine TrOps.sem (OpSem.loadbN rfl rfl rfl vs26 (by first | decide | simp)) rfl rfl (by decide) ?_
        refine TrOps.sem (OpSem.move (.inl rfl) rfl) rfl rfl (by decide) ?_
        refine TrOps.sem (OpSem.move (.inl rfl) rfl) rfl rfl (by decide) ?_
        refine TrOps.sem (OpSem.call0 (project_Value_does ..) rfl rfl rfl rfl (Les.refl _)) rfl rfl (by decide) ?_
        refine TrOps.sem (OpSem.move (.inl rfl) rfl) rfl rfl (by decide) ?_
        refine TrOps.sem (OpSem.extract rfl rfl rfl) rfl rfl (by decide) ?_
        refine TrOps.sem (OpSem.extract rfl rfl rfl) rfl rfl (by decide) ?_
        refine TrOps.semM (OpSem.alloc 14 rfl zc30 rfl) rfl rfl (by decide) ?_
        refine TrOps.sem (OpSem.move (.inr rfl) rfl) rfl rfl (by decide) ?_
        refine TrOps.storeb rfl rfl rfl rfl rfl rfl rfl vs30 (by first | decide | simp) ?_
        refine TrOps.nil ?_
        refine At.seq ?_
        refine Tr.seq ?_
        refine Tr.region ?_
        refine TrOps.sem (OpSem.fieldr rfl rfl fo30_0) rfl rfl (by decide) ?_
        refine TrOps.sem (OpSem.loadb1 rfl rfl rfl vs3 rfl) rfl rfl (by decide) ?_
        refine TrOps.sem (OpSem.bin rfl rfl rfl beql) rfl rfl (by decide) ?_
        refine TrOps.sem (OpSem.move (.inl rfl) rfl) rfl rfl (by decide) ?_
        refine TrOps.gT rfl rfl rfl rfl (by rw [hx.1]; rfl) ?_
        refine TrOps.sem (OpSem.move (.inl rfl) rfl) rfl rfl (by decide) ?_
        refine TrOps.gT rfl rfl rfl rfl (by rw [hx.1]; rfl) ?_
        refine TrOps.sem (OpSem.bin rfl rfl rfl beql) rfl rfl (by decide) ?_
        refine TrOps.gT rfl rfl rfl rfl (by rw [hx.1]; rfl) ?_
        refine TrOps.sem (OpSem.move (.inl rfl) rfl) rfl rfl (by decide) ?_
        refine TrOps.split (n := 68) rfl (fun c68 => ?_) (fun c68 => ?_)
        · refine TrOps.gF rfl rfl rfl rfl c68 rfl (by decide) ?_
          refine TrOps.gF rfl rfl rfl rfl c68 rfl (by decide) ?_
          refine TrOps.gF rfl rfl rfl rfl c68 rfl (by decide) ?_
          refine TrOps.gF rfl rfl rfl rfl c68 rfl (by decide) ?_
          refine TrOps.gF rfl rfl rfl rfl c68 rfl (by decide) ?_
          refine TrOps.gF rfl rfl rfl rfl c68 rfl (by decide) ?_
          refine TrOps.gF rfl rfl rfl rfl c68 rfl (by decide) ?_
          refine TrOps.gF rfl rfl rfl rfl c68 rfl (by decide) ?_
          refine TrOps.gF rfl rfl rfl rfl c68 rfl (by decide) ?_
          refine TrOps.gF rfl rfl rfl rfl c68 rfl (by decide) ?_
          refine TrOps.gT rfl rfl rfl rfl (by rw [hx.1]; rfl) ?_
          refine TrOps.sem (OpSem.pickT rfl rfl c68 rfl) rfl rfl (by decide) ?_
          refine TrOps.sem (OpSem.pickT rfl rfl (by rw [hx.1]; rfl) rfl) rfl rfl (by decide) ?_
          refine TrOps.sem (OpSem.move (.inr rfl) rfl) rfl rfl (by decide) ?_
          refine TrOps.nil ?_
          refine At.seq ?_
          refine Tr.ret ?_
          exact At.ret rfl (.tmp rfl <| .nil) rfl (Le.bo (by first | rfl | (have hne : (valF m vars s).1 ≠ 0 := (by simpa using c51); have hne2 : valF m vars s ≠ (0, 0) := fun e => hne (by rw [e]); rw [valR_1 hne2]; rfl) | (simpa using hx.2) | (simpa using c68)))
        · refine TrOps.gT rfl rfl rfl rfl c68 ?_
          refine TrOps.sem (OpSem.move (.inl rfl) rfl) rfl rfl (by decide) ?_
          refine TrOps.gT rfl rfl rfl rfl c68 ?_
          refine TrOps.sem (OpSem.move (.inl rfl) rfl) rfl rfl (by decide) ?_
          refine TrOps.gT rfl rfl rfl rfl c68 ?_
          refine TrOps.sem (OpSem.fieldr rfl rfl fo26_3) rfl rfl (by decide) ?_
          refine TrOps.gT rfl rfl rfl rfl c68 ?_
          refine TrOps.sem (OpSem.loadb1 rfl rfl rfl vs24 rfl) rfl rfl (by decide) ?_
          refine TrOps.gT rfl rfl rfl rfl c68 ?_
          refine TrOps.sem (OpSem.move (.inl rfl) rfl) rfl rfl (by decide) ?_
          refine TrOps.gT rfl rfl rfl rfl c68 ?_
          refine TrOps.sem (OpSem.idxL rfl rfl rfl es24 (by omega) (by omega)) rfl rfl (by decide) ?_
          refine TrOps.gT rfl rfl rfl rfl c68 ?_
          refine TrOps.sem (OpSem.fieldp rfl rfl fo60_2) rfl rfl (by decide) ?_
          refine TrOps.gT rfl rfl rfl rfl c68 ?_
          refine TrOps.sem (OpSem.load1 rfl rfl vs3 rfl) rfl rfl (by decide) ?_
          refine TrOps.gT rfl rfl rfl rfl c68 ?_
          refine TrOps.sem (OpSem.bin rfl rfl rfl (badd (by omega) (by omega))) rfl rfl (by decide) ?_
          refine TrOps.gT rfl rfl rfl rfl c68 ?_
          refine TrOps.sem (OpSem.bin rfl rfl rfl bleq) rfl rfl (by decide) ?_
          refine TrOps.gT rfl rfl rfl rfl (by rw [hx.1]; rfl) ?_
          refine TrOps.sem (OpSem.pickF rfl rfl c68 rfl) rfl rfl (by decide) ?_
          refine TrOps.sem (OpSem.pickT rfl rfl (by rw [hx.1]; rfl) rfl) rfl rfl (by decide) ?_
          refine TrOps.sem (OpSem.move (.inr rfl) rfl) rfl rfl (by decide) ?_
          refine TrOps.nil ?_
          refine At.seq ?_
          refine Tr.ret ?_
          exact At.ret rfl (.tmp rfl <| .nil) rfl (Le.bo (by first | rfl | (have hne : (valF m vars s).1 ≠ 0 := (by simpa using c51); have hne2 : valF m vars s ≠ (0, 0) := fun e => hne (by rw [e]); rw [valR_1 hne2]; rfl) | (simpa using hx.2) | (simpa using c68)))

end Go.Proofs.Ytofjjeogoobopaa
