/- The engine and the walks that this claim uses, part 11. Written by prune.py out of our own texts. -/
import Derived.Test.YtohlmcebphcokaaC10
section
/- Walks, written by gen.py out of hints. -/




set_option linter.unusedVariables false
set_option linter.unusedSimpArgs false
namespace Go.Proofs.Ytohlmcebphcokaa
open Go.Eng
set_option maxRecDepth 10000
set_option maxHeartbeats 1000000

theorem law_labelsExample_does  : Does Try.prog false 33 [] (Bo true) := by
  refine Does.of_body Try.func33 rfl rfl (by simp) Try.call33 (fun w0 O0 => ?_)
  refine Tr.seq ?_
  refine Tr.region ?_
  refine TrOps.sem (OpSem.move (.inr rfl) rfl) rfl rfl (by decide) ?_
  refine TrOps.nil ?_
  refine At.seq ?_
  refine Tr.seq ?_
  refine Tr.region ?_
  refine TrOps.sem (OpSem.build rfl rfl pl93 zc93 rfl rfl) rfl rfl (by decide) ?_
  refine TrOps.sem (OpSem.build rfl rfl pl93 zc93 rfl rfl) rfl rfl (by decide) ?_
  refine TrOps.sem (OpSem.le (s' := .d (arcsD exL.arcs)) (OpSem.buildSlice rfl rfl es44 ze44 rfl rfl (by decide) (by decide) rfl rfl) (Le.of_eq rfl)) rfl rfl (by decide) ?_
  refine TrOps.sem (OpSem.le (s' := .d (ints [1])) (OpSem.buildSlice rfl rfl es22 ze22 rfl rfl (by decide) (by decide) rfl rfl) (Le.of_eq rfl)) rfl rfl (by decide) ?_
  refine TrOps.sem (OpSem.le (s' := absS exL) (OpSem.build rfl rfl pl46 zc46 rfl rfl) (Le.of_eq rfl)) rfl rfl (by decide) ?_
  refine TrOps.semM (OpSem.alloc 1 rfl zc46 rfl) rfl rfl (by decide) ?_
  refine TrOps.storeb rfl rfl rfl rfl rfl rfl rfl vs46 (by first | decide | simp) ?_
  refine TrOps.nil ?_
  refine At.seq ?_
  refine Tr.seq ?_
  refine Tr.region ?_
  refine TrOps.sem (OpSem.loadbN rfl rfl rfl vs46 (by first | decide | simp)) rfl rfl (by decide) ?_
  refine TrOps.sem (OpSem.le (s' := .d (abssD [exL])) (OpSem.buildSlice rfl rfl es34 ze34 rfl rfl (by decide) (by decide) rfl rfl) (Le.of_eq rfl)) rfl rfl (by decide) ?_
  refine TrOps.sem (OpSem.le (s' := .d (ints [1, 1, 1])) (OpSem.buildSlice rfl rfl es22 ze22 rfl rfl (by decide) (by decide) rfl rfl) (Le.of_eq rfl)) rfl rfl (by decide) ?_
  refine TrOps.sem (OpSem.call0 (labels_Reduce_does [exL] [1, 1, 1] (-1) (fun k hk => by cases k with | zero => decide | succ k => simp at hk)) rfl rfl rfl rfl (Les.refl _)) rfl rfl (by decide) ?_
  refine TrOps.sem (OpSem.move (.inl rfl) rfl) rfl rfl (by decide) ?_
  refine TrOps.sem (OpSem.extract rfl rfl rfl) rfl rfl (by decide) ?_
  refine TrOps.sem (OpSem.extract rfl rfl rfl) rfl rfl (by decide) ?_
  refine TrOps.semM (OpSem.alloc 3 rfl zc29 rfl) rfl rfl (by decide) ?_
  refine TrOps.sem (OpSem.move (.inr rfl) rfl) rfl rfl (by decide) ?_
  refine TrOps.storeb rfl rfl rfl rfl rfl rfl rfl vs29 (by first | decide | simp) ?_
  refine TrOps.nil ?_
  refine At.seq ?_
  refine Tr.seq ?_
  refine Tr.region ?_
  refine TrOps.sem (OpSem.loadbN rfl rfl rfl vs46 (by first | decide | simp)) rfl rfl (by decide) ?_
  refine TrOps.sem (OpSem.le (s' := .d (ints [0, 1, 0])) (OpSem.buildSlice rfl rfl es22 ze22 rfl rfl (by decide) (by decide) rfl rfl) (Le.of_eq rfl)) rfl rfl (by decide) ?_
  refine TrOps.sem (OpSem.call0 (labels_Apply_does exL [0, 1, 0] (by decide)) rfl rfl rfl rfl (Les.refl _)) rfl rfl (by decide) ?_
  refine TrOps.sem (OpSem.move (.inl rfl) rfl) rfl rfl (by decide) ?_
  refine TrOps.sem (OpSem.extract rfl rfl rfl) rfl rfl (by decide) ?_
  refine TrOps.sem (OpSem.extract rfl rfl rfl) rfl rfl (by decide) ?_
  refine TrOps.semM (OpSem.alloc 4 rfl zc46 rfl) rfl rfl (by decide) ?_
  refine TrOps.semM (OpSem.alloc 5 rfl zc29 rfl) rfl rfl (by decide) ?_
  refine TrOps.storeb rfl rfl rfl rfl rfl rfl rfl vs46 (by first | decide | simp) ?_
  refine TrOps.storeb rfl rfl rfl rfl rfl rfl rfl vs29 (by first | decide | simp) ?_
  refine TrOps.nil ?_
  refine At.seq ?_
  refine Tr.seq ?_
  refine Tr.region ?_
  refine TrOps.sem (OpSem.loadbN rfl rfl rfl vs46 (by first | decide | simp)) rfl rfl (by decide) ?_
  refine TrOps.sem (OpSem.le (s' := .d (abssD [exL])) (OpSem.buildSlice rfl rfl es34 ze34 rfl rfl (by decide) (by decide) rfl rfl) (Le.of_eq rfl)) rfl rfl (by decide) ?_
  refine TrOps.sem (OpSem.le (s' := .d (ints [1, 1, 1])) (OpSem.buildSlice rfl rfl es22 ze22 rfl rfl (by decide) (by decide) rfl rfl) (Le.of_eq rfl)) rfl rfl (by decide) ?_
  refine TrOps.sem (OpSem.call0 (labels_Equivalent_does [exL] [1, 1, 1] (-1) 0 2 (fun k hk => by cases k with | zero => decide | succ k => simp at hk)) rfl rfl rfl rfl (Les.refl _)) rfl rfl (by decide) ?_
  refine TrOps.sem (OpSem.move (.inl rfl) rfl) rfl rfl (by decide) ?_
  refine TrOps.sem (OpSem.extract rfl rfl rfl) rfl rfl (by decide) ?_
  refine TrOps.sem (OpSem.extract rfl rfl rfl) rfl rfl (by decide) ?_
  refine TrOps.semM (OpSem.alloc 7 rfl zc29 rfl) rfl rfl (by decide) ?_
  refine TrOps.sem (OpSem.move (.inr rfl) rfl) rfl rfl (by decide) ?_
  refine TrOps.storeb rfl rfl rfl rfl rfl rfl rfl vs29 (by first | decide | simp) ?_
  refine TrOps.nil ?_
  refine At.seq ?_
  refine Tr.seq ?_
  refine Tr.region ?_
  refine TrOps.sem (OpSem.fieldr rfl rfl fo29_0) rfl rfl (by decide) ?_
  refine TrOps.sem (OpSem.loadb1 rfl rfl rfl vs3 rfl) rfl rfl (by decide) ?_
  refine TrOps.sem (OpSem.bin rfl rfl rfl beql) rfl rfl (by decide) ?_
  refine TrOps.sem (OpSem.move (.inl rfl) rfl) rfl rfl (by decide) ?_
  refine TrOps.gT rfl rfl rfl rfl (by rw [exL_red]; rfl) ?_
  refine TrOps.sem (OpSem.fieldr rfl rfl fo29_0) rfl rfl (by decide) ?_
  refine TrOps.gT rfl rfl rfl rfl (by rw [exL_red]; rfl) ?_
  refine TrOps.sem (OpSem.loadb1 rfl rfl rfl vs3 rfl) rfl rfl (by decide) ?_
  refine TrOps.gT rfl rfl rfl rfl (by rw [exL_red]; rfl) ?_
  refine TrOps.sem (OpSem.bin rfl rfl rfl beql) rfl rfl (by decide) ?_
  refine TrOps.sem (OpSem.pickT rfl rfl (by rw [exL_red]; rfl) rfl) rfl rfl (by decide) ?_
  refine TrOps.sem (OpSem.move (.inl rfl) rfl) rfl rfl (by decide) ?_
  refine TrOps.gT rfl rfl rfl rfl (by rw [exL_apl]; rfl) ?_
  refine TrOps.sem (OpSem.fieldr rfl rfl fo29_0) rfl rfl (by decide) ?_
  refine TrOps.gT rfl rfl rfl rfl (by rw [exL_apl]; rfl) ?_
  refine TrOps.sem (OpSem.loadb1 rfl rfl rfl vs3 rfl) rfl rfl (by decide) ?_
  refine TrOps.gT rfl rfl rfl rfl (by rw [exL_apl]; rfl) ?_
  refine TrOps.sem (OpSem.bin rfl rfl rfl beql) rfl rfl (by decide) ?_
  refine TrOps.sem (OpSem.pickT rfl rfl (by rw [exL_apl]; rfl) rfl) rfl rfl (by decide) ?_
  refine TrOps.sem (OpSem.move (.inl rfl) rfl) rfl rfl (by decide) ?_
  refine TrOps.gT rfl rfl rfl rfl (by rw [exL_eqv.1]; rfl) ?_
  refine TrOps.sem (OpSem.move (.inl rfl) rfl) rfl rfl (by decide) ?_
  refine TrOps.sem (OpSem.pickT rfl rfl (by rw [exL_eqv.1]; rfl) rfl) rfl rfl (by decide) ?_
  refine TrOps.sem (OpSem.move (.inl rfl) rfl) rfl rfl (by decide) ?_
  refine TrOps.gT rfl rfl rfl rfl (decide_eq_true exL_eqv) ?_
  refine TrOps.sem (OpSem.move (.inl rfl) rfl) rfl rfl (by decide) ?_
  refine TrOps.gT rfl rfl rfl rfl (decide_eq_true exL_eqv) ?_
  refine TrOps.sem (OpSem.le (s' := .d (ints [0, 1, 0])) (OpSem.buildSlice rfl rfl es22 ze22 rfl rfl (by decide) (by decide) rfl rfl) (Le.of_eq rfl)) rfl rfl (by decide) ?_
  refine TrOps.gT rfl rfl rfl rfl (decide_eq_true exL_eqv) ?_
  refine TrOps.sem (OpSem.call0 (R_Ints_does (redL [exL] [1, 1, 1] (-1)) [0, 1, 0]) rfl rfl rfl rfl (Les.refl _)) rfl rfl (by decide) ?_
  refine TrOps.sem (OpSem.pickT rfl rfl (decide_eq_true exL_eqv) rfl) rfl rfl (by decide) ?_
  refine TrOps.sem (OpSem.move (.inl rfl) rfl) rfl rfl (by decide) ?_
  refine TrOps.gT rfl rfl rfl rfl (by rw [exL_redL]; rfl) ?_
  refine TrOps.sem (OpSem.fieldr rfl rfl fo46_2) rfl rfl (by decide) ?_
  refine TrOps.gT rfl rfl rfl rfl (by rw [exL_redL]; rfl) ?_
  refine TrOps.sem (OpSem.loadb1 rfl rfl rfl vs44 rfl) rfl rfl (by decide) ?_
  refine TrOps.gT rfl rfl rfl rfl (by rw [exL_redL]; rfl) ?_
  refine TrOps.sem (OpSem.lenL rfl rfl es44) rfl rfl (by decide) ?_
  refine TrOps.gT rfl rfl rfl rfl (by rw [exL_redL]; rfl) ?_
  refine TrOps.sem (OpSem.bin rfl rfl rfl beql) rfl rfl (by decide) ?_
  refine TrOps.sem (OpSem.pickT rfl rfl (by rw [exL_redL]; rfl) rfl) rfl rfl (by decide) ?_
  refine TrOps.sem (OpSem.move (.inr rfl) rfl) rfl rfl (by decide) ?_
  refine TrOps.nil ?_
  refine At.seq ?_
  refine Tr.ret ?_
  exact At.ret rfl (.tmp rfl <| .nil) rfl (Le.bo (by rw [exL_rel]; rfl))

end Go.Proofs.Ytohlmcebphcokaa
end
