/- Walks, written by gen.py out of hints. -/
import Derived.Test.YtohlmcebphcokaaTypes
import Derived.Test.YtohlmcebphcokaaAbst
import Derived.Test.YtohlmcebphcokaaEngS
set_option linter.unusedVariables false
set_option linter.unusedSimpArgs false
namespace Go.Proofs.Ytohlmcebphcokaa
open Go.Eng
set_option maxRecDepth 10000
set_option maxHeartbeats 1000000

theorem labels_Check_does (l : List Abs) (c : List Int) (hr : ∀ k : Nat, k < l.length → -9223372036854775808 ≤ (nth l k).states ∧ (nth l k).states ≤ 9223372036854775807) : Does Try.prog false 54 [.d (abssD l), .d (ints c)] (flt (labF l c)) := by
  refine Does.of_body Try.func54 rfl rfl (by simp) Try.call54 (fun w0 O0 => ?_)
  refine Tr.lenLe (n := 0) rfl (fun len0 => ?_)
  refine Tr.lenLe (n := 1) rfl (fun len1 => ?_)
  refine Tr.seq ?_
  refine Tr.region ?_
  refine TrOps.semM (OpSem.alloc 4 rfl zc29 rfl) rfl rfl (by decide) ?_
  refine TrOps.nil ?_
  refine At.seq ?_
  refine Tr.seq ?_
  refine Tr.seq ?_
  refine Tr.region ?_
  refine TrOps.sem (OpSem.move (.inl rfl) rfl) rfl rfl (by decide) ?_
  refine TrOps.sem (OpSem.lenL rfl rfl es34) rfl rfl (by decide) ?_
  refine TrOps.sem (OpSem.bin rfl rfl rfl bgtr) rfl rfl (by decide) ?_
  refine TrOps.nil ?_
  refine At.seq ?_
  refine Tr.cond rfl (fun c11 => ?_) (fun c11 => ?_)
  · refine Tr.seq ?_
    refine Tr.region ?_
    refine TrOps.sem (OpSem.build rfl rfl pl29 zc29 rfl rfl) rfl rfl (by decide) ?_
    refine TrOps.storeb rfl rfl rfl rfl rfl rfl rfl vs29 (by first | decide | simp) ?_
    refine TrOps.nil ?_
    refine At.seq ?_
    refine Tr.ret ?_
    refine At.pass_ret ?_
    exact At.ret rfl (.cellN rfl rfl vs29 <| .nil) rfl (Le.flt (labF_1 (by simp at c11; omega)))
  · have h1 : ¬ 6 < l.length := by simp at c11; omega
    refine Tr.skip ?_
    refine At.seq ?_
    refine Tr.seq ?_
    refine Tr.seq ?_
    refine Tr.region ?_
    refine TrOps.sem (OpSem.move (.inl rfl) rfl) rfl rfl (by decide) ?_
    refine TrOps.sem (OpSem.move (.inl rfl) rfl) rfl rfl (by decide) ?_
    refine TrOps.sem (OpSem.lenL rfl rfl es22) rfl rfl (by decide) ?_
    refine TrOps.sem (OpSem.min2 rfl rfl rfl) rfl rfl (by decide) ?_
    refine TrOps.sem (OpSem.call0 (abstraction_Costs_does c (min (c.length : Int) 40) (-4)) rfl rfl rfl rfl (Les.refl _)) rfl rfl (by decide) ?_
    refine TrOps.semM (OpSem.alloc 5 rfl zc29 rfl) rfl rfl (by decide) ?_
    refine TrOps.storeb rfl rfl rfl rfl rfl rfl rfl vs29 (by first | decide | simp) ?_
    refine TrOps.nil ?_
    refine At.seq ?_
    refine Tr.seq ?_
    refine Tr.region ?_
    refine TrOps.sem (OpSem.loadbN rfl rfl rfl vs29 (by first | decide | simp)) rfl rfl (by decide) ?_
    refine TrOps.sem (OpSem.build rfl rfl pl29 zc29 rfl rfl) rfl rfl (by decide) ?_
    refine TrOps.sem (OpSem.neS2 rfl rfl rfl io29) rfl rfl (by decide) ?_
    refine TrOps.nil ?_
    refine At.seq ?_
    refine Tr.cond rfl (fun c20 => ?_) (fun c20 => ?_)
    · refine Tr.seq ?_
      refine Tr.region ?_
      refine TrOps.sem (OpSem.loadbN rfl rfl rfl vs29 (by first | decide | simp)) rfl rfl (by decide) ?_
      refine TrOps.storeb rfl rfl rfl rfl rfl rfl rfl vs29 (by first | decide | simp) ?_
      refine TrOps.nil ?_
      refine At.seq ?_
      refine Tr.ret ?_
      refine At.pass_ret ?_
      exact At.ret rfl (.cellN rfl rfl vs29 <| .nil) rfl (Le.flt (labF_2 h1 (fun e => by simp [e] at c20)))
    · have h2 : costFault c (min (c.length : Int) 40) (-4) = (0, 0) := pair0 (by simpa using c20)
      refine Tr.skip ?_
      refine At.seq ?_
      refine Tr.seq ?_
      refine Tr.seq ?_
      refine Tr.region ?_
      refine TrOps.sem (OpSem.move (.inl rfl) rfl) rfl rfl (by decide) ?_
      refine TrOps.sem (OpSem.lenL rfl rfl es34) rfl rfl (by decide) ?_
      refine TrOps.sem (OpSem.move (.inl rfl) rfl) rfl rfl (by decide) ?_
      refine TrOps.nil ?_
      refine At.seq ?_
      refine Tr.block ?_
      refine Tr.loop (X := Nat) (fun k => k ≤ l.length ∧ ∀ j : Nat, j < k → labA c (nth l j) j = (0, 0)) (fun k => [(1, .d (ints c)), (4, .r 4 0), (22, .d (abssD l)), (23, I (l.length)), (24, I (k))]) (fun k => [(4, .box [I (0), I (0)])]) (fun k => l.length - k) 0 ⟨by omega, by simp⟩ ?_ ?_
      · exact .slot rfl (.refl _) <| .slot rfl (.refl _) <| .slot rfl (.refl _) <| .slot rfl (.refl _) <| .slot rfl (Le.of_eq (by simp)) <| .mem rfl <| .nil
      · rintro k ⟨hkl, hinv⟩
        refine Tr.seq ?_
        refine Tr.region ?_
        refine TrOps.sem (OpSem.bin rfl rfl rfl blss) rfl rfl (by decide) ?_
        refine TrOps.nil ?_
        refine At.seq ?_
        refine Tr.seq ?_
        refine Tr.cond rfl (fun c25 => ?_) (fun c25 => ?_)
        · have hk : k < l.length := by simpa using c25
          refine Tr.skip ?_
          refine At.seq ?_
          refine Tr.seq ?_
          refine Tr.block ?_
          refine Tr.seq ?_
          refine Tr.region ?_
          refine TrOps.sem (OpSem.move (.inl rfl) rfl) rfl rfl (by decide) ?_
          refine TrOps.sem (OpSem.idxL rfl rfl rfl es34 (by omega) (by omega)) rfl rfl (by decide) ?_
          refine TrOps.sem (OpSem.loadN rfl rfl vs46 (by first | decide | simp) rfl) rfl rfl (by decide) ?_
          refine TrOps.semM (OpSem.alloc 7 rfl zc46 rfl) rfl rfl (by decide) ?_
          refine TrOps.sem (OpSem.move (.inr rfl) rfl) rfl rfl (by decide) ?_
          refine TrOps.storeb rfl rfl rfl rfl rfl rfl rfl vs46 (by first | decide | simp) ?_
          refine TrOps.nil ?_
          refine At.seq ?_
          refine Tr.seq ?_
          refine Tr.seq ?_
          refine Tr.region ?_
          refine TrOps.sem (OpSem.loadbN rfl rfl rfl vs46 (by first | decide | simp)) rfl rfl (by decide) ?_
          refine TrOps.sem (OpSem.call0 (abstraction_Validate_does (nth l k) (hr k hk)) rfl rfl rfl rfl (Les.refl _)) rfl rfl (by decide) ?_
          refine TrOps.semM (OpSem.alloc 8 rfl zc29 rfl) rfl rfl (by decide) ?_
          refine TrOps.storeb rfl rfl rfl rfl rfl rfl rfl vs29 (by first | decide | simp) ?_
          refine TrOps.nil ?_
          refine At.seq ?_
          refine Tr.seq ?_
          refine Tr.region ?_
          refine TrOps.sem (OpSem.loadbN rfl rfl rfl vs29 (by first | decide | simp)) rfl rfl (by decide) ?_
          refine TrOps.sem (OpSem.build rfl rfl pl29 zc29 rfl rfl) rfl rfl (by decide) ?_
          refine TrOps.sem (OpSem.neS2 rfl rfl rfl io29) rfl rfl (by decide) ?_
          refine TrOps.nil ?_
          refine At.seq ?_
          refine Tr.cond rfl (fun c33 => ?_) (fun c33 => ?_)
          · have hne : (absFault (nth l k)).1 ≠ 0 := fun e => by simp [(absFault_ok e).2] at c33
            refine Tr.seq ?_
            refine Tr.region ?_
            refine TrOps.sem (OpSem.fieldr rfl rfl fo29_0) rfl rfl (by decide) ?_
            refine TrOps.sem (OpSem.loadb1 rfl rfl rfl vs3 rfl) rfl rfl (by decide) ?_
            refine TrOps.sem (OpSem.move (.inl rfl) rfl) rfl rfl (by decide) ?_
            refine TrOps.sem (OpSem.build rfl rfl pl29 zc29 rfl rfl) rfl rfl (by decide) ?_
            refine TrOps.storeb rfl rfl rfl rfl rfl rfl rfl vs29 (by first | decide | simp) ?_
            refine TrOps.nil ?_
            refine At.seq ?_
            refine Tr.ret ?_
            refine At.pass_ret ?_
            refine At.block_ret ?_
            refine At.pass_ret ?_
            refine At.pass_ret ?_
            refine At.block_ret ?_
            refine At.pass_ret ?_
            exact At.ret rfl (.cellN rfl rfl vs29 <| .nil) rfl (Le.flt (labF_bad h1 h2 hk hinv (labA_1 hne) hne))
          · have h3 : (absFault (nth l k)).1 = 0 := by have := pair0 (f := absFault (nth l k)) (by simpa using c33); rw [this]
            refine Tr.skip ?_
            refine At.seq ?_
            refine Tr.seq ?_
            refine Tr.region ?_
            refine TrOps.sem (OpSem.fieldr rfl rfl fo46_1) rfl rfl (by decide) ?_
            refine TrOps.sem (OpSem.loadb1 rfl rfl rfl vs3 rfl) rfl rfl (by decide) ?_
            refine TrOps.sem (OpSem.move (.inl rfl) rfl) rfl rfl (by decide) ?_
            refine TrOps.sem (OpSem.lenL rfl rfl es22) rfl rfl (by decide) ?_
            refine TrOps.sem (OpSem.bin rfl rfl rfl bneq) rfl rfl (by decide) ?_
            refine TrOps.nil ?_
            refine At.seq ?_
            refine Tr.cond rfl (fun c42 => ?_) (fun c42 => ?_)
            · refine Tr.seq ?_
              refine Tr.region ?_
              refine TrOps.sem (OpSem.move (.inl rfl) rfl) rfl rfl (by decide) ?_
              refine TrOps.sem (OpSem.build rfl rfl pl29 zc29 rfl rfl) rfl rfl (by decide) ?_
              refine TrOps.storeb rfl rfl rfl rfl rfl rfl rfl vs29 (by first | decide | simp) ?_
              refine TrOps.nil ?_
              refine At.seq ?_
              refine Tr.ret ?_
              refine At.block_ret ?_
              refine At.pass_ret ?_
              refine At.pass_ret ?_
              refine At.block_ret ?_
              refine At.pass_ret ?_
              exact At.ret rfl (.cellN rfl rfl vs29 <| .nil) rfl (Le.flt (labF_bad h1 h2 hk hinv (labA_2 h3 (by simpa using c42)) (by simp)))
            · have hb := labA_0 (c := c) (k := k) h3 (by simpa using c42)
              refine Tr.skip ?_
              refine At.block_normal ?_
              refine At.seq ?_
              refine Tr.region ?_
              refine TrOps.sem (OpSem.bin rfl rfl rfl (badd (by omega) (by omega))) rfl rfl (by decide) ?_
              refine TrOps.sem (OpSem.move (.inl rfl) rfl) rfl rfl (by decide) ?_
              refine TrOps.nil ?_
              refine At.again (k + 1) ⟨by omega, all_succ hinv hb⟩ ?_ (by omega)
              exact .slot rfl (.refl _) <| .slot rfl (.refl _) <| .slot rfl (.refl _) <| .slot rfl (.refl _) <| .slot rfl (Le.of_eq (by simp)) <| .mem rfl <| .nil
        · have hk : k = l.length := by simp at c25; omega
          refine Tr.exit ?_
          refine At.pass_exit ?_
          refine At.pass_exit ?_
          refine At.block_same ?_
          refine At.seq ?_
          refine Tr.seq ?_
          refine Tr.region ?_
          refine TrOps.sem (OpSem.build rfl rfl pl29 zc29 rfl rfl) rfl rfl (by decide) ?_
          refine TrOps.storeb rfl rfl rfl rfl rfl rfl rfl vs29 (by first | decide | simp) ?_
          refine TrOps.nil ?_
          refine At.seq ?_
          refine Tr.ret ?_
          exact At.ret rfl (.cellN rfl rfl vs29 <| .nil) rfl (Le.flt (by subst hk; exact labF_0 h1 h2 hinv))

theorem Q_LabelsFault_does (l : List Abs) (c : List Int) : Does Try.prog false 35 [.d (abssD l), .d (ints c)] (flt (labF l c)) := by
  refine Does.of_body Try.func35 rfl rfl (by simp) Try.call35 (fun w0 O0 => ?_)
  refine Tr.lenLe (n := 0) rfl (fun len0 => ?_)
  refine Tr.lenLe (n := 1) rfl (fun len1 => ?_)
  refine Tr.seq ?_
  refine Tr.region ?_
  refine TrOps.semM (OpSem.alloc 4 rfl zc29 rfl) rfl rfl (by decide) ?_
  refine TrOps.nil ?_
  refine At.seq ?_
  refine Tr.seq ?_
  refine Tr.seq ?_
  refine Tr.region ?_
  refine TrOps.sem (OpSem.move (.inl rfl) rfl) rfl rfl (by decide) ?_
  refine TrOps.sem (OpSem.lenL rfl rfl es34) rfl rfl (by decide) ?_
  refine TrOps.sem (OpSem.bin rfl rfl rfl bgtr) rfl rfl (by decide) ?_
  refine TrOps.nil ?_
  refine At.seq ?_
  refine Tr.cond rfl (fun c8 => ?_) (fun c8 => ?_)
  · refine Tr.seq ?_
    refine Tr.region ?_
    refine TrOps.sem (OpSem.call0 (R_At_does ..) rfl rfl rfl rfl (Les.refl _)) rfl rfl (by decide) ?_
    refine TrOps.storeb rfl rfl rfl rfl rfl rfl rfl vs29 (by first | decide | simp) ?_
    refine TrOps.nil ?_
    refine At.seq ?_
    refine Tr.ret ?_
    refine At.pass_ret ?_
    exact At.ret rfl (.cellN rfl rfl vs29 <| .nil) rfl (Le.flt (labF_1 (by simp at c8; omega)))
  · have h1 : ¬ 6 < l.length := by simp at c8; omega
    refine Tr.skip ?_
    refine At.seq ?_
    refine Tr.seq ?_
    refine Tr.seq ?_
    refine Tr.region ?_
    refine TrOps.sem (OpSem.move (.inl rfl) rfl) rfl rfl (by decide) ?_
    refine TrOps.sem (OpSem.lenL rfl rfl es22) rfl rfl (by decide) ?_
    refine TrOps.sem (OpSem.bin rfl rfl rfl bgtr) rfl rfl (by decide) ?_
    refine TrOps.nil ?_
    refine At.seq ?_
    refine Tr.cond rfl (fun c12 => ?_) (fun c12 => ?_)
    · have h4 : 40 < c.length := by simp at c12; omega
      refine Tr.seq ?_
      refine Tr.region ?_
      refine TrOps.sem (OpSem.call0 (R_At_does ..) rfl rfl rfl rfl (Les.refl _)) rfl rfl (by decide) ?_
      refine TrOps.storeb rfl rfl rfl rfl rfl rfl rfl vs29 (by first | decide | simp) ?_
      refine TrOps.nil ?_
      refine At.seq ?_
      refine Tr.ret ?_
      refine At.pass_ret ?_
      exact At.ret rfl (.cellN rfl rfl vs29 <| .nil) rfl (Le.flt ((costFault_long h4).trans (labF_2 h1 (by rw [← costFault_long h4]; decide))))
    · have h4 : ¬ 40 < c.length := by simp at c12; omega
      refine Tr.skip ?_
      refine At.seq ?_
      refine Tr.seq ?_
      refine Tr.seq ?_
      refine Tr.region ?_
      refine TrOps.sem (OpSem.move (.inl rfl) rfl) rfl rfl (by decide) ?_
      refine TrOps.sem (OpSem.move (.inl rfl) rfl) rfl rfl (by decide) ?_
      refine TrOps.sem (OpSem.lenL rfl rfl es22) rfl rfl (by decide) ?_
      refine TrOps.sem (OpSem.call0 (Q_CostsCode_does c c.length) rfl rfl rfl rfl (Les.refl _)) rfl rfl (by decide) ?_
      refine TrOps.sem (OpSem.bin rfl rfl rfl bneq) rfl rfl (by decide) ?_
      refine TrOps.nil ?_
      refine At.seq ?_
      refine Tr.cond rfl (fun c18 => ?_) (fun c18 => ?_)
      · have hne : costCode c c.length ≠ 0 := by simpa using c18
        have h2 : costFault c (min (c.length : Int) 40) (-4) = (costCode c c.length, -4) := by rw [costFault_short h4]; exact (costFault_bad rfl hne).symm
        refine Tr.seq ?_
        refine Tr.region ?_
        refine TrOps.sem (OpSem.move (.inl rfl) rfl) rfl rfl (by decide) ?_
        refine TrOps.sem (OpSem.move (.inl rfl) rfl) rfl rfl (by decide) ?_
        refine TrOps.sem (OpSem.lenL rfl rfl es22) rfl rfl (by decide) ?_
        refine TrOps.sem (OpSem.call0 (Q_CostsCode_does c c.length) rfl rfl rfl rfl (Les.refl _)) rfl rfl (by decide) ?_
        refine TrOps.sem (OpSem.call0 (R_At_does ..) rfl rfl rfl rfl (Les.refl _)) rfl rfl (by decide) ?_
        refine TrOps.storeb rfl rfl rfl rfl rfl rfl rfl vs29 (by first | decide | simp) ?_
        refine TrOps.nil ?_
        refine At.seq ?_
        refine Tr.ret ?_
        refine At.pass_ret ?_
        exact At.ret rfl (.cellN rfl rfl vs29 <| .nil) rfl (Le.flt (h2.symm.trans (labF_2 h1 (by rw [h2]; intro e; exact hne (congrArg Prod.fst e)))))
      · have h2 : costFault c (min (c.length : Int) 40) (-4) = (0, 0) := by rw [costFault_short h4]; exact (costFault_ok (Eq.symm (by simpa using c18))).symm
        refine Tr.skip ?_
        refine At.seq ?_
        refine Tr.seq ?_
        refine Tr.seq ?_
        refine Tr.region ?_
        refine TrOps.sem (OpSem.move (.inr rfl) rfl) rfl rfl (by decide) ?_
        refine TrOps.nil ?_
        refine At.seq ?_
        refine Tr.block ?_
        refine Tr.loop (X := Nat) (fun k => k ≤ l.length ∧ ∀ j : Nat, j < k → labA c (nth l j) j = (0, 0)) (fun k => [(0, .d (abssD l)), (1, .d (ints c)), (4, .r 4 0), (5, I (k))]) (fun k => [(4, .box [I (0), I (0)])]) (fun k => l.length - k) 0 ⟨by omega, by simp⟩ ?_ ?_
        · exact .slot rfl (.refl _) <| .slot rfl (.refl _) <| .slot rfl (.refl _) <| .slot rfl (Le.of_eq (by simp)) <| .mem rfl <| .nil
        · rintro k ⟨hkl, hinv⟩
          refine Tr.seq ?_
          refine Tr.seq ?_
          refine Tr.region ?_
          refine TrOps.sem (OpSem.move (.inl rfl) rfl) rfl rfl (by decide) ?_
          refine TrOps.sem (OpSem.move (.inl rfl) rfl) rfl rfl (by decide) ?_
          refine TrOps.sem (OpSem.lenL rfl rfl es34) rfl rfl (by decide) ?_
          refine TrOps.sem (OpSem.bin rfl rfl rfl blss) rfl rfl (by decide) ?_
          refine TrOps.nil ?_
          refine At.seq ?_
          refine Tr.cond rfl (fun c27 => ?_) (fun c27 => ?_)
          · have hk : k < l.length := by simpa using c27
            refine Tr.skip ?_
            refine At.seq ?_
            refine Tr.seq ?_
            refine Tr.block ?_
            refine Tr.seq ?_
            refine Tr.seq ?_
            refine Tr.region ?_
            refine TrOps.sem (OpSem.move (.inl rfl) rfl) rfl rfl (by decide) ?_
            refine TrOps.sem (OpSem.move (.inl rfl) rfl) rfl rfl (by decide) ?_
            refine TrOps.sem (OpSem.idxL rfl rfl rfl es34 (by omega) (by omega)) rfl rfl (by decide) ?_
            refine TrOps.sem (OpSem.loadN rfl rfl vs46 (by first | decide | simp) rfl) rfl rfl (by decide) ?_
            refine TrOps.sem (OpSem.call0 (Q_AbstractionFault_does (nth l k)) rfl rfl rfl rfl (Les.refl _)) rfl rfl (by decide) ?_
            refine TrOps.sem (OpSem.field1 rfl rfl f1_29_0 rfl) rfl rfl (by decide) ?_
            refine TrOps.sem (OpSem.bin rfl rfl rfl bneq) rfl rfl (by decide) ?_
            refine TrOps.nil ?_
            refine At.seq ?_
            refine Tr.cond rfl (fun c36 => ?_) (fun c36 => ?_)
            · have hne : (absFault (nth l k)).1 ≠ 0 := by simpa using c36
              refine Tr.seq ?_
              refine Tr.region ?_
              refine TrOps.sem (OpSem.move (.inl rfl) rfl) rfl rfl (by decide) ?_
              refine TrOps.sem (OpSem.move (.inl rfl) rfl) rfl rfl (by decide) ?_
              refine TrOps.sem (OpSem.idxL rfl rfl rfl es34 (by omega) (by omega)) rfl rfl (by decide) ?_
              refine TrOps.sem (OpSem.loadN rfl rfl vs46 (by first | decide | simp) rfl) rfl rfl (by decide) ?_
              refine TrOps.sem (OpSem.call0 (Q_AbstractionFault_does (nth l k)) rfl rfl rfl rfl (Les.refl _)) rfl rfl (by decide) ?_
              refine TrOps.sem (OpSem.field1 rfl rfl f1_29_0 rfl) rfl rfl (by decide) ?_
              refine TrOps.sem (OpSem.move (.inl rfl) rfl) rfl rfl (by decide) ?_
              refine TrOps.sem (OpSem.call0 (R_At_does ..) rfl rfl rfl rfl (Les.refl _)) rfl rfl (by decide) ?_
              refine TrOps.storeb rfl rfl rfl rfl rfl rfl rfl vs29 (by first | decide | simp) ?_
              refine TrOps.nil ?_
              refine At.seq ?_
              refine Tr.ret ?_
              refine At.pass_ret ?_
              refine At.block_ret ?_
              refine At.pass_ret ?_
              refine At.pass_ret ?_
              refine At.block_ret ?_
              refine At.pass_ret ?_
              exact At.ret rfl (.cellN rfl rfl vs29 <| .nil) rfl (Le.flt (labF_bad h1 h2 hk hinv (labA_1 hne) hne))
            · have h3 : (absFault (nth l k)).1 = 0 := by simpa using c36
              refine Tr.skip ?_
              refine At.seq ?_
              refine Tr.seq ?_
              refine Tr.region ?_
              refine TrOps.sem (OpSem.move (.inl rfl) rfl) rfl rfl (by decide) ?_
              refine TrOps.sem (OpSem.move (.inl rfl) rfl) rfl rfl (by decide) ?_
              refine TrOps.sem (OpSem.idxL rfl rfl rfl es34 (by omega) (by omega)) rfl rfl (by decide) ?_
              refine TrOps.sem (OpSem.fieldp rfl rfl fo46_1) rfl rfl (by decide) ?_
              refine TrOps.sem (OpSem.load1 rfl rfl vs3 rfl) rfl rfl (by decide) ?_
              refine TrOps.sem (OpSem.move (.inl rfl) rfl) rfl rfl (by decide) ?_
              refine TrOps.sem (OpSem.lenL rfl rfl es22) rfl rfl (by decide) ?_
              refine TrOps.sem (OpSem.bin rfl rfl rfl bneq) rfl rfl (by decide) ?_
              refine TrOps.nil ?_
              refine At.seq ?_
              refine Tr.cond rfl (fun c52 => ?_) (fun c52 => ?_)
              · refine Tr.seq ?_
                refine Tr.region ?_
                refine TrOps.sem (OpSem.move (.inl rfl) rfl) rfl rfl (by decide) ?_
                refine TrOps.sem (OpSem.call0 (R_At_does ..) rfl rfl rfl rfl (Les.refl _)) rfl rfl (by decide) ?_
                refine TrOps.storeb rfl rfl rfl rfl rfl rfl rfl vs29 (by first | decide | simp) ?_
                refine TrOps.nil ?_
                refine At.seq ?_
                refine Tr.ret ?_
                refine At.block_ret ?_
                refine At.pass_ret ?_
                refine At.pass_ret ?_
                refine At.block_ret ?_
                refine At.pass_ret ?_
                exact At.ret rfl (.cellN rfl rfl vs29 <| .nil) rfl (Le.flt (labF_bad h1 h2 hk hinv (labA_2 h3 (by simpa using c52)) (by simp)))
              · have hb := labA_0 (c := c) (k := k) h3 (by simpa using c52)
                refine Tr.skip ?_
                refine At.block_normal ?_
                refine At.seq ?_
                refine Tr.region ?_
                refine TrOps.sem (OpSem.move (.inl rfl) rfl) rfl rfl (by decide) ?_
                refine TrOps.sem (OpSem.bin rfl rfl rfl (badd (by omega) (by omega))) rfl rfl (by decide) ?_
                refine TrOps.sem (OpSem.move (.inr rfl) rfl) rfl rfl (by decide) ?_
                refine TrOps.nil ?_
                refine At.again (k + 1) ⟨by omega, all_succ hinv hb⟩ ?_ (by omega)
                exact .slot rfl (.refl _) <| .slot rfl (.refl _) <| .slot rfl (.refl _) <| .slot rfl (Le.of_eq (by simp)) <| .mem rfl <| .nil
          · have hk : k = l.length := by simp at c27; omega
            refine Tr.exit ?_
            refine At.pass_exit ?_
            refine At.pass_exit ?_
            refine At.block_same ?_
            refine At.seq ?_
            refine Tr.seq ?_
            refine Tr.region ?_
            refine TrOps.sem (OpSem.build rfl rfl pl29 zc29 rfl rfl) rfl rfl (by decide) ?_
            refine TrOps.storeb rfl rfl rfl rfl rfl rfl rfl vs29 (by first | decide | simp) ?_
            refine TrOps.nil ?_
            refine At.seq ?_
            refine Tr.ret ?_
            exact At.ret rfl (.cellN rfl rfl vs29 <| .nil) rfl (Le.flt (by subst hk; exact labF_0 h1 h2 hinv))

theorem partition_check_does (c : List Int) (ps : List (List Int)) : Does Try.prog false 82 [.d (ints c), .d (rows ps)] (flt (prtF c ps)) := by
  refine Does.of_body Try.func82 rfl rfl (by simp) Try.call82 (fun w0 O0 => ?_)
  refine Tr.lenLe (n := 0) rfl (fun len0 => ?_)
  refine Tr.lenLe (n := 1) rfl (fun len1 => ?_)
  refine Tr.seq ?_
  refine Tr.region ?_
  refine TrOps.semM (OpSem.alloc 4 rfl zc29 rfl) rfl rfl (by decide) ?_
  refine TrOps.nil ?_
  refine At.seq ?_
  refine Tr.seq ?_
  refine Tr.seq ?_
  refine Tr.region ?_
  refine TrOps.sem (OpSem.move (.inl rfl) rfl) rfl rfl (by decide) ?_
  refine TrOps.sem (OpSem.call0 (labels_Check_does [] c (fun k hk => by simp at hk)) rfl rfl rfl rfl (.cons (.nil _) <| .cons (.refl _) <| .nil)) rfl rfl (by decide) ?_
  refine TrOps.semM (OpSem.alloc 5 rfl zc29 rfl) rfl rfl (by decide) ?_
  refine TrOps.storeb rfl rfl rfl rfl rfl rfl rfl vs29 (by first | decide | simp) ?_
  refine TrOps.nil ?_
  refine At.seq ?_
  refine Tr.seq ?_
  refine Tr.region ?_
  refine TrOps.sem (OpSem.loadbN rfl rfl rfl vs29 (by first | decide | simp)) rfl rfl (by decide) ?_
  refine TrOps.sem (OpSem.build rfl rfl pl29 zc29 rfl rfl) rfl rfl (by decide) ?_
  refine TrOps.sem (OpSem.neS2 rfl rfl rfl io29) rfl rfl (by decide) ?_
  refine TrOps.nil ?_
  refine At.seq ?_
  refine Tr.cond rfl (fun c13 => ?_) (fun c13 => ?_)
  · have hne : labF [] c ≠ (0, 0) := fun e => by simp [e] at c13
    refine Tr.seq ?_
    refine Tr.region ?_
    refine TrOps.sem (OpSem.loadbN rfl rfl rfl vs29 (by first | decide | simp)) rfl rfl (by decide) ?_
    refine TrOps.storeb rfl rfl rfl rfl rfl rfl rfl vs29 (by first | decide | simp) ?_
    refine TrOps.nil ?_
    refine At.seq ?_
    refine Tr.ret ?_
    refine At.pass_ret ?_
    exact At.ret rfl (.cellN rfl rfl vs29 <| .nil) rfl (Le.flt (prtF_1 hne))
  · have h1 : labF [] c = (0, 0) := pair0 (by simpa using c13)
    refine Tr.skip ?_
    refine At.seq ?_
    refine Tr.seq ?_
    refine Tr.seq ?_
    refine Tr.region ?_
    refine TrOps.sem (OpSem.move (.inl rfl) rfl) rfl rfl (by decide) ?_
    refine TrOps.sem (OpSem.lenL rfl rfl es37) rfl rfl (by decide) ?_
    refine TrOps.sem (OpSem.bin rfl rfl rfl bgtr) rfl rfl (by decide) ?_
    refine TrOps.nil ?_
    refine At.seq ?_
    refine Tr.cond rfl (fun c17 => ?_) (fun c17 => ?_)
    · refine Tr.seq ?_
      refine Tr.region ?_
      refine TrOps.sem (OpSem.build rfl rfl pl29 zc29 rfl rfl) rfl rfl (by decide) ?_
      refine TrOps.storeb rfl rfl rfl rfl rfl rfl rfl vs29 (by first | decide | simp) ?_
      refine TrOps.nil ?_
      refine At.seq ?_
      refine Tr.ret ?_
      refine At.pass_ret ?_
      exact At.ret rfl (.cellN rfl rfl vs29 <| .nil) rfl (Le.flt (prtF_2 h1 (by simp at c17; omega)))
    · have h2 : ¬ 6 < ps.length := by simp at c17; omega
      refine Tr.skip ?_
      refine At.seq ?_
      refine Tr.seq ?_
      refine Tr.seq ?_
      refine Tr.region ?_
      refine TrOps.sem (OpSem.move (.inl rfl) rfl) rfl rfl (by decide) ?_
      refine TrOps.sem (OpSem.lenL rfl rfl es37) rfl rfl (by decide) ?_
      refine TrOps.sem (OpSem.move (.inl rfl) rfl) rfl rfl (by decide) ?_
      refine TrOps.nil ?_
      refine At.seq ?_
      refine Tr.block ?_
      refine Tr.loop (X := Nat) (fun k => k ≤ ps.length ∧ ∀ j : Nat, j < k → costFault (nth ps j) c.length j = (0, 0)) (fun k => [(0, .d (ints c)), (4, .r 4 0), (19, .d (rows ps)), (20, I (ps.length)), (21, I (k))]) (fun k => [(4, .box [I (0), I (0)])]) (fun k => ps.length - k) 0 ⟨by omega, by simp⟩ ?_ ?_
      · exact .slot rfl (.refl _) <| .slot rfl (.refl _) <| .slot rfl (.refl _) <| .slot rfl (.refl _) <| .slot rfl (Le.of_eq (by simp)) <| .mem rfl <| .nil
      · rintro k ⟨hkl, hinv⟩
        refine Tr.seq ?_
        refine Tr.region ?_
        refine TrOps.sem (OpSem.bin rfl rfl rfl blss) rfl rfl (by decide) ?_
        refine TrOps.nil ?_
        refine At.seq ?_
        refine Tr.seq ?_
        refine Tr.cond rfl (fun c22 => ?_) (fun c22 => ?_)
        · have hk : k < ps.length := by simpa using c22
          refine Tr.skip ?_
          refine At.seq ?_
          refine Tr.seq ?_
          refine Tr.block ?_
          refine Tr.seq ?_
          refine Tr.region ?_
          refine TrOps.sem (OpSem.move (.inl rfl) rfl) rfl rfl (by decide) ?_
          refine TrOps.sem (OpSem.idxL rfl rfl rfl es37 (by omega) (by omega)) rfl rfl (by decide) ?_
          refine TrOps.sem (OpSem.load1 rfl rfl vs22 rfl) rfl rfl (by decide) ?_
          refine TrOps.sem (OpSem.move (.inr rfl) rfl) rfl rfl (by decide) ?_
          refine TrOps.sem (OpSem.move (.inr rfl) rfl) rfl rfl (by decide) ?_
          refine TrOps.nil ?_
          refine At.seq ?_
          refine Tr.seq ?_
          refine Tr.region ?_
          refine TrOps.sem (OpSem.move (.inl rfl) rfl) rfl rfl (by decide) ?_
          refine TrOps.sem (OpSem.move (.inl rfl) rfl) rfl rfl (by decide) ?_
          refine TrOps.sem (OpSem.lenL rfl rfl es22) rfl rfl (by decide) ?_
          refine TrOps.sem (OpSem.move (.inl rfl) rfl) rfl rfl (by decide) ?_
          refine TrOps.sem (OpSem.call0 (abstraction_Costs_does (nth ps k) c.length k) rfl rfl rfl rfl (Les.refl _)) rfl rfl (by decide) ?_
          refine TrOps.semM (OpSem.alloc 8 rfl zc29 rfl) rfl rfl (by decide) ?_
          refine TrOps.storeb rfl rfl rfl rfl rfl rfl rfl vs29 (by first | decide | simp) ?_
          refine TrOps.nil ?_
          refine At.seq ?_
          refine Tr.seq ?_
          refine Tr.region ?_
          refine TrOps.sem (OpSem.loadbN rfl rfl rfl vs29 (by first | decide | simp)) rfl rfl (by decide) ?_
          refine TrOps.sem (OpSem.build rfl rfl pl29 zc29 rfl rfl) rfl rfl (by decide) ?_
          refine TrOps.sem (OpSem.neS2 rfl rfl rfl io29) rfl rfl (by decide) ?_
          refine TrOps.nil ?_
          refine At.seq ?_
          refine Tr.cond rfl (fun c33 => ?_) (fun c33 => ?_)
          · have hne : costFault (nth ps k) c.length k ≠ (0, 0) := fun e => by simp [e] at c33
            refine Tr.seq ?_
            refine Tr.region ?_
            refine TrOps.sem (OpSem.loadbN rfl rfl rfl vs29 (by first | decide | simp)) rfl rfl (by decide) ?_
            refine TrOps.storeb rfl rfl rfl rfl rfl rfl rfl vs29 (by first | decide | simp) ?_
            refine TrOps.nil ?_
            refine At.seq ?_
            refine Tr.ret ?_
            refine At.block_ret ?_
            refine At.pass_ret ?_
            refine At.pass_ret ?_
            refine At.block_ret ?_
            refine At.pass_ret ?_
            exact At.ret rfl (.cellN rfl rfl vs29 <| .nil) rfl (Le.flt (prtF_bad h1 h2 hk hinv hne))
          · have hb : costFault (nth ps k) c.length k = (0, 0) := pair0 (by simpa using c33)
            refine Tr.skip ?_
            refine At.block_normal ?_
            refine At.seq ?_
            refine Tr.region ?_
            refine TrOps.sem (OpSem.bin rfl rfl rfl (badd (by omega) (by omega))) rfl rfl (by decide) ?_
            refine TrOps.sem (OpSem.move (.inl rfl) rfl) rfl rfl (by decide) ?_
            refine TrOps.nil ?_
            refine At.again (k + 1) ⟨by omega, all_succ hinv hb⟩ ?_ (by omega)
            exact .slot rfl (.refl _) <| .slot rfl (.refl _) <| .slot rfl (.refl _) <| .slot rfl (.refl _) <| .slot rfl (Le.of_eq (by simp)) <| .mem rfl <| .nil
        · have hk : k = ps.length := by simp at c22; omega
          refine Tr.exit ?_
          refine At.pass_exit ?_
          refine At.pass_exit ?_
          refine At.block_same ?_
          refine At.seq ?_
          refine Tr.seq ?_
          refine Tr.region ?_
          refine TrOps.sem (OpSem.build rfl rfl pl29 zc29 rfl rfl) rfl rfl (by decide) ?_
          refine TrOps.storeb rfl rfl rfl rfl rfl rfl rfl vs29 (by first | decide | simp) ?_
          refine TrOps.nil ?_
          refine At.seq ?_
          refine Tr.ret ?_
          exact At.ret rfl (.cellN rfl rfl vs29 <| .nil) rfl (Le.flt (by subst hk; exact prtF_0 h1 h2 hinv))

theorem S3_Tables_does (a b : List (List Int)) : Does Try.prog false 48 [.d (rows a), .d (rows b)] (Bo (decide (a = b))) := by
  refine Does.of_body Try.func48 rfl rfl (by simp) Try.call48 (fun w0 O0 => ?_)
  refine Tr.lenLe (n := 0) rfl (fun len0 => ?_)
  refine Tr.lenLe (n := 1) rfl (fun len1 => ?_)
  refine Tr.seq ?_
  refine Tr.region ?_
  refine TrOps.sem (OpSem.move (.inr rfl) rfl) rfl rfl (by decide) ?_
  refine TrOps.nil ?_
  refine At.seq ?_
  refine Tr.seq ?_
  refine Tr.seq ?_
  refine Tr.region ?_
  refine TrOps.sem (OpSem.move (.inl rfl) rfl) rfl rfl (by decide) ?_
  refine TrOps.sem (OpSem.lenL rfl rfl es37) rfl rfl (by decide) ?_
  refine TrOps.sem (OpSem.move (.inl rfl) rfl) rfl rfl (by decide) ?_
  refine TrOps.sem (OpSem.lenL rfl rfl es37) rfl rfl (by decide) ?_
  refine TrOps.sem (OpSem.bin rfl rfl rfl bneq) rfl rfl (by decide) ?_
  refine TrOps.nil ?_
  refine At.seq ?_
  refine Tr.cond rfl (fun c10 => ?_) (fun c10 => ?_)
  · refine Tr.seq ?_
    refine Tr.region ?_
    refine TrOps.sem (OpSem.move (.inr rfl) rfl) rfl rfl (by decide) ?_
    refine TrOps.nil ?_
    refine At.seq ?_
    refine Tr.ret ?_
    refine At.pass_ret ?_
    exact At.ret rfl (.tmp rfl <| .nil) rfl (Le.bo (decide_eq_false (fun e => by simp [e] at c10)).symm)
  · have hl : a.length = b.length := by simp at c10; omega
    refine Tr.skip ?_
    refine At.seq ?_
    refine Tr.seq ?_
    refine Tr.seq ?_
    refine Tr.region ?_
    refine TrOps.sem (OpSem.move (.inr rfl) rfl) rfl rfl (by decide) ?_
    refine TrOps.nil ?_
    refine At.seq ?_
    refine Tr.block ?_
    refine Tr.loop (X := Nat) (fun k => k ≤ a.length ∧ ∀ i : Nat, i < k → nth a i = nth b i) (fun k => [(0, .d (rows a)), (1, .d (rows b)), (5, I (k))]) (fun k => []) (fun k => a.length - k) 0 ⟨by omega, by simp⟩ ?_ ?_
    · exact .slot rfl (.refl _) <| .slot rfl (.refl _) <| .slot rfl (Le.of_eq (by simp)) <| .nil
    · rintro k ⟨hkl, hinv⟩
      refine Tr.seq ?_
      refine Tr.seq ?_
      refine Tr.region ?_
      refine TrOps.sem (OpSem.move (.inl rfl) rfl) rfl rfl (by decide) ?_
      refine TrOps.sem (OpSem.move (.inl rfl) rfl) rfl rfl (by decide) ?_
      refine TrOps.sem (OpSem.lenL rfl rfl es37) rfl rfl (by decide) ?_
      refine TrOps.sem (OpSem.bin rfl rfl rfl blss) rfl rfl (by decide) ?_
      refine TrOps.nil ?_
      refine At.seq ?_
      refine Tr.cond rfl (fun c14 => ?_) (fun c14 => ?_)
      · have hk : k < a.length := by simpa using c14
        refine Tr.skip ?_
        refine At.seq ?_
        refine Tr.seq ?_
        refine Tr.block ?_
        refine Tr.seq ?_
        refine PC.start [] ?_
        refine PC.sem (OpSem.move (.inl rfl) rfl) rfl rfl ?_
        refine PC.sem (OpSem.move (.inl rfl) rfl) rfl rfl ?_
        refine PC.sem (OpSem.idxL rfl rfl rfl es37 (by omega) (by omega)) rfl rfl ?_
        refine PC.sem (OpSem.load1 rfl rfl vs22 rfl) rfl rfl ?_
        refine PC.sem (OpSem.move (.inl rfl) rfl) rfl rfl ?_
        refine PC.sem (OpSem.move (.inl rfl) rfl) rfl rfl ?_
        refine PC.sem (OpSem.idxL rfl rfl rfl es37 (by omega) (by omega)) rfl rfl ?_
        refine PC.sem (OpSem.load1 rfl rfl vs22 rfl) rfl rfl ?_
        refine PC.done0 mixed (by kernel_rfl) (by kernel_rfl) (by kernel_rfl) (by kernel_rfl) (by kernel_rfl) ?_
        refine TrOps.sem (OpSem.call0 (R_Ints_does (nth a k) (nth b k)) rfl rfl rfl rfl (Les.refl _)) rfl rfl (by decide) ?_
        refine TrOps.sem (OpSem.not rfl rfl) rfl rfl (by decide) ?_
        refine TrOps.nil ?_
        refine At.seq ?_
        refine Tr.cond rfl (fun c26 => ?_) (fun c26 => ?_)
        · refine Tr.seq ?_
          refine Tr.region ?_
          refine TrOps.sem (OpSem.move (.inr rfl) rfl) rfl rfl (by decide) ?_
          refine TrOps.nil ?_
          refine At.seq ?_
          refine Tr.ret ?_
          refine At.block_ret ?_
          refine At.pass_ret ?_
          refine At.pass_ret ?_
          refine At.block_ret ?_
          refine At.pass_ret ?_
          exact At.ret rfl (.tmp rfl <| .nil) rfl (Le.bo (decide_eq_false (fun e => by simp [e] at c26)).symm)
        · have hb : nth a k = nth b k := by simpa using c26
          refine Tr.skip ?_
          refine At.block_normal ?_
          refine At.seq ?_
          refine Tr.region ?_
          refine TrOps.sem (OpSem.move (.inl rfl) rfl) rfl rfl (by decide) ?_
          refine TrOps.sem (OpSem.bin rfl rfl rfl (badd (by omega) (by omega))) rfl rfl (by decide) ?_
          refine TrOps.sem (OpSem.move (.inr rfl) rfl) rfl rfl (by decide) ?_
          refine TrOps.nil ?_
          refine At.again (k + 1) ⟨by omega, all_succ hinv hb⟩ ?_ (by omega)
          exact .slot rfl (.refl _) <| .slot rfl (.refl _) <| .slot rfl (Le.of_eq (by simp)) <| .nil
      · have hk : k = a.length := by simp at c14; omega
        refine Tr.exit ?_
        refine At.pass_exit ?_
        refine At.pass_exit ?_
        refine At.block_same ?_
        refine At.seq ?_
        refine Tr.seq ?_
        refine Tr.region ?_
        refine TrOps.sem (OpSem.move (.inr rfl) rfl) rfl rfl (by decide) ?_
        refine TrOps.nil ?_
        refine At.seq ?_
        refine Tr.ret ?_
        exact At.ret rfl (.tmp rfl <| .nil) rfl (Le.bo (decide_eq_true (ext_get hl (by subst hk; exact hinv))).symm)

theorem partition_Uniform_does (c : List Int) (n : Int) : Does Try.prog false 23 [.d (ints c), I (n)] (.t [.d (rows (uniL c n)), flt (uniF c n)]) := by
  refine Does.of_body Try.func23 rfl rfl (by simp) Try.call23 (fun w0 O0 => ?_)
  refine Tr.lenLe (n := 0) rfl (fun len0 => ?_)
  refine Tr.seq ?_
  refine Tr.region ?_
  refine TrOps.sem (OpSem.move (.inr rfl) rfl) rfl rfl (by decide) ?_
  refine TrOps.semM (OpSem.alloc 5 rfl zc29 rfl) rfl rfl (by decide) ?_
  refine TrOps.nil ?_
  refine At.seq ?_
  refine Tr.seq ?_
  refine Tr.seq ?_
  refine Tr.region ?_
  refine TrOps.sem (OpSem.move (.inl rfl) rfl) rfl rfl (by decide) ?_
  refine TrOps.sem (OpSem.call0 (labels_Check_does [] c (fun k hk => by simp at hk)) rfl rfl rfl rfl (.cons (.nil _) <| .cons (.refl _) <| .nil)) rfl rfl (by decide) ?_
  refine TrOps.semM (OpSem.alloc 6 rfl zc29 rfl) rfl rfl (by decide) ?_
  refine TrOps.storeb rfl rfl rfl rfl rfl rfl rfl vs29 (by first | decide | simp) ?_
  refine TrOps.nil ?_
  refine At.seq ?_
  refine Tr.seq ?_
  refine Tr.region ?_
  refine TrOps.sem (OpSem.loadbN rfl rfl rfl vs29 (by first | decide | simp)) rfl rfl (by decide) ?_
  refine TrOps.sem (OpSem.build rfl rfl pl29 zc29 rfl rfl) rfl rfl (by decide) ?_
  refine TrOps.sem (OpSem.neS2 rfl rfl rfl io29) rfl rfl (by decide) ?_
  refine TrOps.nil ?_
  refine At.seq ?_
  refine Tr.cond rfl (fun c17 => ?_) (fun c17 => ?_)
  · have hne : labF [] c ≠ (0, 0) := fun e => by simp [e] at c17
    have hF := uniF_1 (n := n) hne
    have hL := uniL_1 (c := c) (n := n) (by rw [← hF]; exact hne)
    refine Tr.seq ?_
    refine PC.start [] ?_
    refine PC.sem (OpSem.loadbN rfl rfl rfl vs29 (by first | decide | simp)) rfl rfl ?_
    refine PC.sem (OpSem.move (.inr rfl) rfl) rfl rfl ?_
    refine PC.done0 mixed (by kernel_rfl) (by kernel_rfl) (by kernel_rfl) (by kernel_rfl) (by kernel_rfl) ?_
    refine TrOps.storeb rfl rfl rfl rfl rfl rfl rfl vs29 (by first | decide | simp) ?_
    refine TrOps.nil ?_
    refine At.seq ?_
    refine Tr.ret ?_
    refine At.pass_ret ?_
    exact At.ret rfl (.tmp rfl <| .cellN rfl rfl vs29 <| .nil) rfl (Le.t (.cons (by rw [← hL]; first | exact Le.nil 1 | exact .refl _) <| .cons (Le.flt hF) <| .nil))
  · have h1 : labF [] c = (0, 0) := pair0 (by simpa using c17)
    obtain ⟨_, hc40, hcp, _⟩ := labF_ok h1
    refine Tr.skip ?_
    refine At.seq ?_
    refine Tr.seq ?_
    refine Tr.seq ?_
    refine Tr.region ?_
    refine TrOps.sem (OpSem.move (.inl rfl) rfl) rfl rfl (by decide) ?_
    refine TrOps.sem (OpSem.bin rfl rfl rfl blss) rfl rfl (by decide) ?_
    refine TrOps.sem (OpSem.move (.inl rfl) rfl) rfl rfl (by decide) ?_
    refine TrOps.split (n := 21) rfl (fun c21 => ?_) (fun c21 => ?_)
    · have hF := uniF_2 (n := n) h1 (by simp at c21; omega)
      have hL := uniL_1 (c := c) (n := n) (by rw [← hF]; decide)
      refine TrOps.gF rfl rfl rfl rfl c21 rfl (by decide) ?_
      refine TrOps.gF rfl rfl rfl rfl c21 rfl (by decide) ?_
      refine TrOps.sem (OpSem.pickT rfl rfl c21 rfl) rfl rfl (by decide) ?_
      refine TrOps.nil ?_
      refine At.seq ?_
      refine Tr.condT rfl rfl ?_
      refine Tr.seq ?_
      refine Tr.region ?_
      refine TrOps.sem (OpSem.build rfl rfl pl29 zc29 rfl rfl) rfl rfl (by decide) ?_
      refine TrOps.sem (OpSem.move (.inr rfl) rfl) rfl rfl (by decide) ?_
      refine TrOps.storeb rfl rfl rfl rfl rfl rfl rfl vs29 (by first | decide | simp) ?_
      refine TrOps.nil ?_
      refine At.seq ?_
      refine Tr.ret ?_
      refine At.pass_ret ?_
      exact At.ret rfl (.tmp rfl <| .cellN rfl rfl vs29 <| .nil) rfl (Le.t (.cons (by rw [← hL]; first | exact Le.nil 1 | exact .refl _) <| .cons (Le.flt hF) <| .nil))
    · refine TrOps.gT rfl rfl rfl rfl c21 ?_
      refine TrOps.sem (OpSem.move (.inl rfl) rfl) rfl rfl (by decide) ?_
      refine TrOps.gT rfl rfl rfl rfl c21 ?_
      refine TrOps.sem (OpSem.bin rfl rfl rfl bgtr) rfl rfl (by decide) ?_
      refine TrOps.sem (OpSem.pickF rfl rfl c21 rfl) rfl rfl (by decide) ?_
      refine TrOps.nil ?_
      refine At.seq ?_
      refine Tr.cond rfl (fun c24 => ?_) (fun c24 => ?_)
      · have hF := uniF_2 (n := n) h1 (by first | (simp at c24; omega) | (simp at c21; omega))
        have hL := uniL_1 (c := c) (n := n) (by rw [← hF]; decide)
        refine Tr.seq ?_
        refine Tr.region ?_
        refine TrOps.sem (OpSem.build rfl rfl pl29 zc29 rfl rfl) rfl rfl (by decide) ?_
        refine TrOps.sem (OpSem.move (.inr rfl) rfl) rfl rfl (by decide) ?_
        refine TrOps.storeb rfl rfl rfl rfl rfl rfl rfl vs29 (by first | decide | simp) ?_
        refine TrOps.nil ?_
        refine At.seq ?_
        refine Tr.ret ?_
        refine At.pass_ret ?_
        exact At.ret rfl (.tmp rfl <| .cellN rfl rfl vs29 <| .nil) rfl (Le.t (.cons (by rw [← hL]; first | exact Le.nil 1 | exact .refl _) <| .cons (Le.flt hF) <| .nil))
      · have hn : 1 ≤ n ∧ n ≤ 6 := by simp at c21 c24; omega
        have hF := uniF_0 (n := n) h1 (by omega)
        have hL := uniL_0 hF.symm
        refine Tr.skip ?_
        refine At.seq ?_
        refine Tr.seq ?_
        refine Tr.region ?_
        refine TrOps.sem (OpSem.move (.inr rfl) rfl) rfl rfl (by decide) ?_
        refine TrOps.nil ?_
        refine At.seq ?_
        refine Tr.seq ?_
        refine Tr.seq ?_
        refine Tr.ownNil (n := 7) 7 1 22 rfl ?_
        refine Tr.region ?_
        refine TrOps.sem (OpSem.move (.inl rfl) rfl) rfl rfl (by decide) ?_
        refine TrOps.sem (OpSem.move (.inl rfl) rfl) rfl rfl (by decide) ?_
        refine TrOps.nil ?_
        refine At.seq ?_
        refine Tr.block ?_
        refine Tr.loop (X := Nat) (fun i => i ≤ n.toNat) (fun i => [(0, .d (ints c)), (1, I (n)), (5, .r 5 0), (7, .o 7), (26, I (n)), (27, I (i))]) (fun i => [(7, .own 1 22 ((uniTo c n i).map fun r => [ints r])), (5, .box [I (0), I (0)])]) (fun i => n.toNat - i) 0 (by omega) ?_ ?_
        · exact .slot rfl (.refl _) <| .slot rfl (.refl _) <| .slot rfl (.refl _) <| .slot rfl (.refl _) <| .slot rfl (.refl _) <| .slot rfl (Le.of_eq (by simp)) <| .memEq rfl rfl <| .mem rfl <| .nil
        · rintro i hil
          refine Tr.seq ?_
          refine Tr.region ?_
          refine TrOps.sem (OpSem.bin rfl rfl rfl blss) rfl rfl (by decide) ?_
          refine TrOps.nil ?_
          refine At.seq ?_
          refine Tr.seq ?_
          refine Tr.cond rfl (fun c28 => ?_) (fun c28 => ?_)
          · have hi : i < n.toNat := by simp at c28; omega
            refine Tr.skip ?_
            refine At.seq ?_
            refine Tr.seq ?_
            refine Tr.block ?_
            refine Tr.seq ?_
            refine Tr.region ?_
            refine TrOps.sem (OpSem.move (.inl rfl) rfl) rfl rfl (by decide) ?_
            refine TrOps.sem (OpSem.move (.inr rfl) rfl) rfl rfl (by decide) ?_
            refine TrOps.nil ?_
            refine At.seq ?_
            refine Tr.seq ?_
            refine Tr.region ?_
            refine TrOps.sem (OpSem.move (.inr rfl) rfl) rfl rfl (by decide) ?_
            refine TrOps.nil ?_
            refine At.seq ?_
            refine Tr.seq ?_
            refine Tr.seq ?_
            refine Tr.ownNil (n := 9) 9 1 3 rfl ?_
            refine Tr.region ?_
            refine TrOps.sem (OpSem.move (.inl rfl) rfl) rfl rfl (by decide) ?_
            refine TrOps.sem (OpSem.lenL rfl rfl es22) rfl rfl (by decide) ?_
            refine TrOps.sem (OpSem.move (.inl rfl) rfl) rfl rfl (by decide) ?_
            refine TrOps.nil ?_
            refine At.seq ?_
            refine Tr.block ?_
            refine Tr.loop (X := Nat) (fun j => j ≤ c.length) (fun j => [(0, .d (ints c)), (1, I (n)), (5, .r 5 0), (7, .o 7), (8, I (i)), (9, .o 9), (26, I (n)), (27, I (i)), (30, .d (ints c)), (31, I (c.length)), (32, I (j))]) (fun j => [(9, .own 1 3 ((rowTo c n i j).map fun n => [D.v (.int .i64 n)])), (7, .own 1 22 ((uniTo c n i).map fun r => [ints r])), (5, .box [I (0), I (0)])]) (fun j => c.length - j) 0 (by omega) ?_ ?_
            · exact .slot rfl (.refl _) <| .slot rfl (.refl _) <| .slot rfl (.refl _) <| .slot rfl (.refl _) <| .slot rfl (.refl _) <| .slot rfl (.refl _) <| .slot rfl (.refl _) <| .slot rfl (.refl _) <| .slot rfl (.refl _) <| .slot rfl (.refl _) <| .slot rfl (Le.of_eq (by simp)) <| .memEq rfl rfl <| .mem rfl <| .mem rfl <| .nil
            · rintro j hjl
              refine Tr.seq ?_
              refine Tr.region ?_
              refine TrOps.sem (OpSem.bin rfl rfl rfl blss) rfl rfl (by decide) ?_
              refine TrOps.nil ?_
              refine At.seq ?_
              refine Tr.seq ?_
              refine Tr.cond rfl (fun c33 => ?_) (fun c33 => ?_)
              · have hj : j < c.length := by simpa using c33
                have hcj := hcp j hj
                have hq := quo_in hcj hn
                refine Tr.skip ?_
                refine At.seq ?_
                refine Tr.seq ?_
                refine Tr.block ?_
                refine Tr.seq ?_
                refine Tr.region ?_
                refine TrOps.sem (OpSem.idxL rfl rfl rfl es22 (by omega) (by omega)) rfl rfl (by decide) ?_
                refine TrOps.sem (OpSem.load1 rfl rfl vs3 rfl) rfl rfl (by decide) ?_
                refine TrOps.sem (OpSem.move (.inr rfl) rfl) rfl rfl (by decide) ?_
                refine TrOps.nil ?_
                refine At.seq ?_
                refine Tr.seq ?_
                refine Tr.region ?_
                refine TrOps.sem (OpSem.move (.inl rfl) rfl) rfl rfl (by decide) ?_
                refine TrOps.sem (OpSem.move (.inl rfl) rfl) rfl rfl (by decide) ?_
                refine TrOps.sem (OpSem.bin rfl rfl rfl (bquo (by omega) (by omega) (by omega))) rfl rfl (by decide) ?_
                refine TrOps.sem (OpSem.move (.inr rfl) rfl) rfl rfl (by decide) ?_
                refine TrOps.nil ?_
                refine At.seq ?_
                refine Tr.seq ?_
                refine Tr.seq ?_
                refine Tr.region ?_
                refine TrOps.sem (OpSem.move (.inl rfl) rfl) rfl rfl (by decide) ?_
                refine TrOps.sem (OpSem.move (.inl rfl) rfl) rfl rfl (by decide) ?_
                refine TrOps.sem (OpSem.move (.inl rfl) rfl) rfl rfl (by decide) ?_
                refine TrOps.sem (OpSem.bin rfl rfl rfl (brem (by omega) (by omega))) rfl rfl (by decide) ?_
                refine TrOps.sem (OpSem.bin rfl rfl rfl blss) rfl rfl (by decide) ?_
                refine TrOps.nil ?_
                refine At.seq ?_
                refine Tr.cond rfl (fun c43 => ?_) (fun c43 => ?_)
                · refine Tr.region ?_
                  refine TrOps.sem (OpSem.move (.inl rfl) rfl) rfl rfl (by decide) ?_
                  refine TrOps.sem (OpSem.bin rfl rfl rfl (badd (by omega) (by omega))) rfl rfl (by decide) ?_
                  refine TrOps.sem (OpSem.move (.inr rfl) rfl) rfl rfl (by decide) ?_
                  refine TrOps.nil ?_
                  refine At.seq ?_
                  refine Tr.region ?_
                  refine TrOps.sem (OpSem.move (.inl rfl) rfl) rfl rfl (by decide) ?_
                  refine TrOps.sem (OpSem.move (.inl rfl) rfl) rfl rfl (by decide) ?_
                  refine TrOps.sem (OpSem.buildSlice rfl rfl es22 ze22 rfl rfl (by decide) (by decide) rfl rfl) rfl rfl (by decide) ?_
                  refine TrOps.append rfl rfl rfl (by decide) rfl rfl rfl es22 el22 zc3 rfl by3 (by simp [D.one, Value.oneCell']) (by simp [maxLen, rowTo_len hjl]; omega) (by simp [rowTo_len hjl]; omega) ?_
                  refine TrOps.sem (OpSem.move (.inr rfl) rfl) rfl rfl (by decide) ?_
                  refine TrOps.nil ?_
                  refine At.block_normal ?_
                  refine At.seq ?_
                  refine Tr.region ?_
                  refine TrOps.sem (OpSem.bin rfl rfl rfl (badd (by omega) (by omega))) rfl rfl (by decide) ?_
                  refine TrOps.sem (OpSem.move (.inl rfl) rfl) rfl rfl (by decide) ?_
                  refine TrOps.nil ?_
                  first | have hs := share_1 (by simpa using c43) | have hs := share_0 (by simpa using c43)
                  refine At.again (j + 1) (by omega) ?_ (by omega)
                  exact .slot rfl (.refl _) <| .slot rfl (.refl _) <| .slot rfl (.refl _) <| .slot rfl (.refl _) <| .slot rfl (.refl _) <| .slot rfl (.refl _) <| .slot rfl (.refl _) <| .slot rfl (.refl _) <| .slot rfl (.refl _) <| .slot rfl (.refl _) <| .slot rfl (Le.of_eq (by simp)) <| .memEq rfl (by rw [rowTo_s hj, ← hs]; simp) <| .mem rfl <| .mem rfl <| .nil
                · refine Tr.skip ?_
                  refine At.seq ?_
                  refine Tr.region ?_
                  refine TrOps.sem (OpSem.move (.inl rfl) rfl) rfl rfl (by decide) ?_
                  refine TrOps.sem (OpSem.move (.inl rfl) rfl) rfl rfl (by decide) ?_
                  refine TrOps.sem (OpSem.buildSlice rfl rfl es22 ze22 rfl rfl (by decide) (by decide) rfl rfl) rfl rfl (by decide) ?_
                  refine TrOps.append rfl rfl rfl (by decide) rfl rfl rfl es22 el22 zc3 rfl by3 (by simp [D.one, Value.oneCell']) (by simp [maxLen, rowTo_len hjl]; omega) (by simp [rowTo_len hjl]; omega) ?_
                  refine TrOps.sem (OpSem.move (.inr rfl) rfl) rfl rfl (by decide) ?_
                  refine TrOps.nil ?_
                  refine At.block_normal ?_
                  refine At.seq ?_
                  refine Tr.region ?_
                  refine TrOps.sem (OpSem.bin rfl rfl rfl (badd (by omega) (by omega))) rfl rfl (by decide) ?_
                  refine TrOps.sem (OpSem.move (.inl rfl) rfl) rfl rfl (by decide) ?_
                  refine TrOps.nil ?_
                  first | have hs := share_1 (by simpa using c43) | have hs := share_0 (by simpa using c43)
                  refine At.again (j + 1) (by omega) ?_ (by omega)
                  exact .slot rfl (.refl _) <| .slot rfl (.refl _) <| .slot rfl (.refl _) <| .slot rfl (.refl _) <| .slot rfl (.refl _) <| .slot rfl (.refl _) <| .slot rfl (.refl _) <| .slot rfl (.refl _) <| .slot rfl (.refl _) <| .slot rfl (.refl _) <| .slot rfl (Le.of_eq (by simp)) <| .memEq rfl (by rw [rowTo_s hj, ← hs]; simp) <| .mem rfl <| .mem rfl <| .nil
              · have hj : j = c.length := by simp at c33; omega
                subst hj
                refine Tr.exit ?_
                refine At.pass_exit ?_
                refine At.pass_exit ?_
                refine At.block_same ?_
                refine At.seq ?_
                refine Tr.freeze 9 rfl ?_
                refine Tr.region ?_
                refine TrOps.sem (OpSem.move (.inl rfl) rfl) rfl rfl (by decide) ?_
                refine TrOps.sem (OpSem.move (.inl rfl) rfl) rfl rfl (by decide) ?_
                refine TrOps.sem (OpSem.buildSlice rfl rfl es37 ze37 rfl rfl (by decide) (by decide) rfl rfl) rfl rfl (by decide) ?_
                refine TrOps.append rfl rfl rfl (by decide) rfl rfl rfl es37 el37 zc22 rfl by22 (by simp [D.one, Value.oneCell']) (by simp [maxLen, uniTo_len]; omega) (by simp [uniTo_len]; omega) ?_
                refine TrOps.sem (OpSem.move (.inr rfl) rfl) rfl rfl (by decide) ?_
                refine TrOps.nil ?_
                refine At.block_normal ?_
                refine At.seq ?_
                refine Tr.region ?_
                refine TrOps.sem (OpSem.bin rfl rfl rfl (badd (by omega) (by omega))) rfl rfl (by decide) ?_
                refine TrOps.sem (OpSem.move (.inl rfl) rfl) rfl rfl (by decide) ?_
                refine TrOps.nil ?_
                refine At.again (i + 1) (by omega) ?_ (by omega)
                exact .slot rfl (.refl _) <| .slot rfl (.refl _) <| .slot rfl (.refl _) <| .slot rfl (.refl _) <| .slot rfl (.refl _) <| .slot rfl (Le.of_eq (by simp)) <| .memEq rfl (by simp [uniTo]) <| .mem rfl <| .nil
          · have hi : i = n.toNat := by simp at c28; omega
            subst hi
            refine Tr.exit ?_
            refine At.pass_exit ?_
            refine At.pass_exit ?_
            refine At.block_same ?_
            refine At.seq ?_
            refine Tr.seq ?_
            refine Tr.freeze 7 rfl ?_
            refine Tr.region ?_
            refine TrOps.sem (OpSem.move (.inl rfl) rfl) rfl rfl (by decide) ?_
            refine TrOps.sem (OpSem.build rfl rfl pl29 zc29 rfl rfl) rfl rfl (by decide) ?_
            refine TrOps.sem (OpSem.move (.inr rfl) rfl) rfl rfl (by decide) ?_
            refine TrOps.storeb rfl rfl rfl rfl rfl rfl rfl vs29 (by first | decide | simp) ?_
            refine TrOps.nil ?_
            refine At.seq ?_
            refine Tr.ret ?_
            exact At.ret rfl (.tmp rfl <| .cellN rfl rfl vs29 <| .nil) rfl (Le.t (.cons (by rw [← hL]; first | exact Le.nil 1 | exact .refl _) <| .cons (Le.flt hF) <| .nil))

theorem partition_need_does (a : Abs) (c : List Int) (ha : AbsOk a) (hc : CostFor a c) : DoesO Try.prog 57 [absS a, .d (ints (distL a c))] 1 3 (((needL a (distL a c) a.arcs.length).map fun n => [D.v (.int .i64 n)])) := by
  have hn := nS_eq ha
  have hg := distL_good ha hc
  have hgl := hg.1
  have hlb := ha.head
  have hnl : ∀ k : Nat, (needL a (distL a c) k).length = a.labels.toNat := fun k => needL_len
  refine DoesO.of_body Try.func57 rfl rfl (by simp) Try.call57 (fun w0 O0 => ?_)
  refine Tr.lenG (n := 0) (i := 2) rfl rfl (fun len0_2 => ?_)
  refine Tr.lenG (n := 0) (i := 4) rfl rfl (fun len0_4 => ?_)
  refine Tr.lenLe (n := 1) rfl (fun len1 => ?_)
  refine Tr.seq ?_
  refine Tr.region ?_
  refine TrOps.semM (OpSem.box 2 rfl rfl rfl rfl) rfl rfl (by decide) ?_
  refine TrOps.sem (OpSem.move (.inr rfl) rfl) rfl rfl (by decide) ?_
  refine TrOps.nil ?_
  refine At.seq ?_
  refine Tr.seq ?_
  refine Tr.region ?_
  refine TrOps.sem (OpSem.fieldr rfl rfl fo46_1) rfl rfl (by decide) ?_
  refine TrOps.sem (OpSem.loadb1 rfl rfl rfl vs3 rfl) rfl rfl (by decide) ?_
  refine TrOps.semM (OpSem.makeSlice 10 rfl rfl rfl es22 ze22 rfl rfl (by decide) bye22 (by omega) (by omega) (by omega)) rfl rfl (by decide) ?_
  refine TrOps.sem (OpSem.move (.inr rfl) rfl) rfl rfl (by decide) ?_
  refine TrOps.nil ?_
  refine At.seq ?_
  refine Tr.seq ?_
  refine Tr.seq ?_
  refine Tr.region ?_
  refine TrOps.sem (OpSem.fieldr rfl rfl fo46_2) rfl rfl (by decide) ?_
  refine TrOps.sem (OpSem.loadb1 rfl rfl rfl vs44 rfl) rfl rfl (by decide) ?_
  refine TrOps.sem (OpSem.lenL rfl rfl es44) rfl rfl (by decide) ?_
  refine TrOps.sem (OpSem.move (.inl rfl) rfl) rfl rfl (by decide) ?_
  refine TrOps.nil ?_
  refine At.seq ?_
  refine Tr.block ?_
  refine Tr.loop (X := Nat) (fun k => k ≤ a.arcs.length) (fun k => [(1, .d (ints (distL a c))), (5, .o 10), (12, .d (arcsD a.arcs)), (13, I (a.arcs.length)), (14, I (k))]) (fun k => [(10, .own 1 3 ((needL a (distL a c) k).map fun n => [D.v (.int .i64 n)]))]) (fun k => a.arcs.length - k) 0 (by omega) ?_ ?_
  · exact .slot rfl (.refl _) <| .slot rfl (.refl _) <| .slot rfl (.refl _) <| .slot rfl (.refl _) <| .slot rfl (Le.of_eq (by simp)) <| .memEq rfl (by rw [← needL_0]; simp; rfl) <| .nil
  · rintro k hkl
    refine Tr.seq ?_
    refine Tr.region ?_
    refine TrOps.sem (OpSem.bin rfl rfl rfl blss) rfl rfl (by decide) ?_
    refine TrOps.nil ?_
    refine At.seq ?_
    refine Tr.seq ?_
    refine Tr.cond rfl (fun c15 => ?_) (fun c15 => ?_)
    · have hk : k < a.arcs.length := by simpa using c15
      have har := ha.arc k hk
      have hg1 := hg.2 _ har.1.1 (by omega)
      have hg2 := hg.2 _ har.2.2.1 (by omega)
      have hni := needI_in ha hc (x := (nth a.arcs k).lab) har.2.1.1 har.2.1.2 (k := k) (by omega)
      have hat := needL_at (d := distL a c) (k := k) har.2.1.1 har.2.1.2
      refine Tr.skip ?_
      refine At.seq ?_
      refine Tr.seq ?_
      refine Tr.block ?_
      refine Tr.seq ?_
      refine Tr.region ?_
      refine TrOps.sem (OpSem.idxL rfl rfl rfl es44 (by omega) (by omega)) rfl rfl (by decide) ?_
      refine TrOps.sem (OpSem.loadN rfl rfl vs93 (by first | decide | simp) rfl) rfl rfl (by decide) ?_
      refine TrOps.semM (OpSem.alloc 7 rfl zc93 rfl) rfl rfl (by decide) ?_
      refine TrOps.storeb rfl rfl rfl rfl rfl rfl rfl vs93 (by first | decide | simp) ?_
      refine TrOps.nil ?_
      refine At.seq ?_
      refine Tr.seq ?_
      refine Tr.region ?_
      refine TrOps.sem (OpSem.move (.inl rfl) rfl) rfl rfl (by decide) ?_
      refine TrOps.sem (OpSem.fieldr rfl rfl fo93_2) rfl rfl (by decide) ?_
      refine TrOps.sem (OpSem.loadb1 rfl rfl rfl vs3 rfl) rfl rfl (by decide) ?_
      refine TrOps.sem (OpSem.idxL rfl rfl rfl es22 (by omega) (by omega)) rfl rfl (by decide) ?_
      refine TrOps.sem (OpSem.load1 rfl rfl vs3 rfl) rfl rfl (by decide) ?_
      refine TrOps.sem (OpSem.bin rfl rfl rfl bneq) rfl rfl (by decide) ?_
      refine TrOps.nil ?_
      refine At.seq ?_
      refine Tr.cond rfl (fun c23 => ?_) (fun c23 => ?_)
      · refine PC.start [] ?_
        refine PC.sem (OpSem.move (.inl rfl) rfl) rfl rfl ?_
        refine PC.sem (OpSem.fieldr rfl rfl fo93_1) rfl rfl ?_
        refine PC.sem (OpSem.loadb1 rfl rfl rfl vs3 rfl) rfl rfl ?_
        refine PC.sem (OpSem.move (.inl rfl) rfl) rfl rfl ?_
        refine PC.sem (OpSem.fieldr rfl rfl fo93_1) rfl rfl ?_
        refine PC.sem (OpSem.loadb1 rfl rfl rfl vs3 rfl) rfl rfl ?_
        refine PC.sem (OpSem.idxo rfl rfl rfl rfl es22 (by omega) (by simp [hnl]; omega)) rfl rfl ?_
        refine PC.sem (OpSem.loadq rfl rfl rfl vs3 (rows_get (by omega) (by rw [hnl]; omega)) rfl) rfl rfl ?_
        refine PC.sem (OpSem.move (.inl rfl) rfl) rfl rfl ?_
        refine PC.sem (OpSem.fieldr rfl rfl fo93_0) rfl rfl ?_
        refine PC.sem (OpSem.loadb1 rfl rfl rfl vs3 rfl) rfl rfl ?_
        refine PC.sem (OpSem.idxL rfl rfl rfl es22 (by omega) (by omega)) rfl rfl ?_
        refine PC.sem (OpSem.load1 rfl rfl vs3 rfl) rfl rfl ?_
        refine PC.sem (OpSem.move (.inl rfl) rfl) rfl rfl ?_
        refine PC.sem (OpSem.fieldr rfl rfl fo93_2) rfl rfl ?_
        refine PC.sem (OpSem.loadb1 rfl rfl rfl vs3 rfl) rfl rfl ?_
        refine PC.sem (OpSem.idxL rfl rfl rfl es22 (by omega) (by omega)) rfl rfl ?_
        refine PC.sem (OpSem.load1 rfl rfl vs3 rfl) rfl rfl ?_
        refine PC.sem (OpSem.bin rfl rfl rfl (bsub (by omega) (by omega))) rfl rfl ?_
        refine PC.sem (OpSem.max2 rfl rfl rfl) rfl rfl ?_
        refine PC.done0 mixed (by kernel_rfl) (by kernel_rfl) (by kernel_rfl) (by kernel_rfl) (by kernel_rfl) ?_
        refine TrOps.sem (OpSem.idxo rfl rfl rfl rfl es22 (by omega) (by simp [hnl]; omega)) rfl rfl (by decide) ?_
        refine TrOps.storeq rfl rfl rfl rfl rfl rfl rfl vs3 (rows_get (by omega) (by rw [hnl]; omega)) (by simp) ?_
        refine TrOps.nil ?_
        refine At.block_normal ?_
        refine At.seq ?_
        refine Tr.region ?_
        refine TrOps.sem (OpSem.bin rfl rfl rfl (badd (by omega) (by omega))) rfl rfl (by decide) ?_
        refine TrOps.sem (OpSem.move (.inl rfl) rfl) rfl rfl (by decide) ?_
        refine TrOps.nil ?_
        refine At.again (k + 1) (by omega) ?_ (by omega)
        exact .slot rfl (.refl _) <| .slot rfl (.refl _) <| .slot rfl (.refl _) <| .slot rfl (.refl _) <| .slot rfl (Le.of_eq (by simp)) <| .memEq rfl (by first | (rw [← needL_set har.2.1.1 har.2.1.2 (by simp at c23; omega)]; exact congrArg (Mo.own 1 3) (rows_set (f := fun n => [D.v (.int .i64 n)]))) | exact congrArg (fun l : List Int => Mo.own 1 3 (l.map fun n => [D.v (.int .i64 n)])) (needL_same (by simp at c23; omega))) <| .nil
      · refine Tr.skip ?_
        refine At.block_normal ?_
        refine At.seq ?_
        refine Tr.region ?_
        refine TrOps.sem (OpSem.bin rfl rfl rfl (badd (by omega) (by omega))) rfl rfl (by decide) ?_
        refine TrOps.sem (OpSem.move (.inl rfl) rfl) rfl rfl (by decide) ?_
        refine TrOps.nil ?_
        refine At.again (k + 1) (by omega) ?_ (by omega)
        exact .slot rfl (.refl _) <| .slot rfl (.refl _) <| .slot rfl (.refl _) <| .slot rfl (.refl _) <| .slot rfl (Le.of_eq (by simp)) <| .memEq rfl (by first | (rw [← needL_set har.2.1.1 har.2.1.2 (by simp at c23; omega)]; exact congrArg (Mo.own 1 3) (rows_set (f := fun n => [D.v (.int .i64 n)]))) | exact congrArg (fun l : List Int => Mo.own 1 3 (l.map fun n => [D.v (.int .i64 n)])) (needL_same (by simp at c23; omega))) <| .nil
    · have hk : k = a.arcs.length := by simp at c15; omega
      refine Tr.exit ?_
      refine At.pass_exit ?_
      refine At.pass_exit ?_
      refine At.block_same ?_
      refine At.seq ?_
      refine Tr.seq ?_
      refine Tr.region ?_
      refine TrOps.sem (OpSem.move (.inl rfl) rfl) rfl rfl (by decide) ?_
      refine TrOps.sem (OpSem.move (.inr rfl) rfl) rfl rfl (by decide) ?_
      refine TrOps.nil ?_
      refine At.seq ?_
      refine Tr.ret ?_
      exact At.retO2 rfl rfl rfl (by simp) (by rw [hk])

theorem partition_Saturated_does (l : List Abs) (c : List Int) (hr : ∀ k : Nat, k < l.length → -9223372036854775808 ≤ (nth l k).states ∧ (nth l k).states ≤ 9223372036854775807) : Does Try.prog false 21 [.d (abssD l), .d (ints c)] (.t [.d (rows (satP l c)), .d (ints (satV l c)), flt (labF l c)]) := by
  refine Does.of_body Try.func21 rfl rfl (by simp) Try.call21 (fun w0 O0 => ?_)
  refine Tr.lenLe (n := 0) rfl (fun len0 => ?_)
  refine Tr.lenLe (n := 1) rfl (fun len1 => ?_)
  refine Tr.seq ?_
  refine Tr.region ?_
  refine TrOps.sem (OpSem.move (.inr rfl) rfl) rfl rfl (by decide) ?_
  refine TrOps.sem (OpSem.move (.inr rfl) rfl) rfl rfl (by decide) ?_
  refine TrOps.semM (OpSem.alloc 6 rfl zc29 rfl) rfl rfl (by decide) ?_
  refine TrOps.nil ?_
  refine At.seq ?_
  refine Tr.seq ?_
  refine Tr.seq ?_
  refine Tr.region ?_
  refine TrOps.sem (OpSem.move (.inl rfl) rfl) rfl rfl (by decide) ?_
  refine TrOps.sem (OpSem.move (.inl rfl) rfl) rfl rfl (by decide) ?_
  refine TrOps.sem (OpSem.call0 (labels_Check_does l c hr) rfl rfl rfl rfl (Les.refl _)) rfl rfl (by decide) ?_
  refine TrOps.semM (OpSem.alloc 7 rfl zc29 rfl) rfl rfl (by decide) ?_
  refine TrOps.storeb rfl rfl rfl rfl rfl rfl rfl vs29 (by first | decide | simp) ?_
  refine TrOps.nil ?_
  refine At.seq ?_
  refine Tr.seq ?_
  refine Tr.region ?_
  refine TrOps.sem (OpSem.loadbN rfl rfl rfl vs29 (by first | decide | simp)) rfl rfl (by decide) ?_
  refine TrOps.sem (OpSem.build rfl rfl pl29 zc29 rfl rfl) rfl rfl (by decide) ?_
  refine TrOps.sem (OpSem.neS2 rfl rfl rfl io29) rfl rfl (by decide) ?_
  refine TrOps.nil ?_
  refine At.seq ?_
  refine Tr.cond rfl (fun c21 => ?_) (fun c21 => ?_)
  · have hne : labF l c ≠ (0, 0) := fun e => by simp [e] at c21
    have hP := satP_1 hne
    have hV := satV_1 hne
    refine Tr.seq ?_
    refine PC.start [] ?_
    refine PC.sem (OpSem.loadbN rfl rfl rfl vs29 (by first | decide | simp)) rfl rfl ?_
    refine PC.sem (OpSem.move (.inr rfl) rfl) rfl rfl ?_
    refine PC.sem (OpSem.move (.inr rfl) rfl) rfl rfl ?_
    refine PC.done0 mixed (by kernel_rfl) (by kernel_rfl) (by kernel_rfl) (by kernel_rfl) (by kernel_rfl) ?_
    refine TrOps.storeb rfl rfl rfl rfl rfl rfl rfl vs29 (by first | decide | simp) ?_
    refine TrOps.nil ?_
    refine At.seq ?_
    refine Tr.ret ?_
    refine At.pass_ret ?_
    exact At.ret rfl (.tmp rfl <| .tmp rfl <| .cellN rfl rfl vs29 <| .nil) rfl (Le.t (.cons (by rw [← hP]; first | exact Le.nil 1 | exact .refl _) <| .cons (by rw [← hV]; first | exact Le.nil 1 | exact .refl _) <| .cons (by first | exact .refl _ | exact Le.flt h1.symm) <| .nil))
  · have h1 : labF l c = (0, 0) := pair0 (by simpa using c21)
    obtain ⟨hl6, hc40, hcp, _⟩ := labF_ok h1
    have hP := satP_0 h1
    have hV := satV_0 h1
    have hll : ∀ k : Nat, (lefTo l c k).length = c.length := fun k => lefTo_len
    refine Tr.skip ?_
    refine At.seq ?_
    refine Tr.seq ?_
    refine Tr.region ?_
    refine TrOps.sem (OpSem.move (.inl rfl) rfl) rfl rfl (by decide) ?_
    refine TrOps.semM (OpSem.callO 24 (slices_Clone_int_int_does c (by omega)) rfl rfl rfl rfl (Les.refl _)) rfl rfl (by decide) ?_
    refine TrOps.sem (OpSem.move (.inr rfl) rfl) rfl rfl (by decide) ?_
    refine TrOps.nil ?_
    refine At.seq ?_
    refine Tr.seq ?_
    refine Tr.region ?_
    refine TrOps.sem (OpSem.move (.inr rfl) rfl) rfl rfl (by decide) ?_
    refine TrOps.nil ?_
    refine At.seq ?_
    refine Tr.seq ?_
    refine Tr.ownNil (n := 9) 9 1 22 rfl ?_
    refine Tr.region ?_
    refine TrOps.sem (OpSem.move (.inr rfl) rfl) rfl rfl (by decide) ?_
    refine TrOps.nil ?_
    refine At.seq ?_
    refine Tr.seq ?_
    refine Tr.seq ?_
    refine Tr.ownNil (n := 10) 10 1 3 rfl ?_
    refine Tr.region ?_
    refine TrOps.sem (OpSem.move (.inl rfl) rfl) rfl rfl (by decide) ?_
    refine TrOps.sem (OpSem.lenL rfl rfl es34) rfl rfl (by decide) ?_
    refine TrOps.sem (OpSem.move (.inl rfl) rfl) rfl rfl (by decide) ?_
    refine TrOps.nil ?_
    refine At.seq ?_
    refine Tr.block ?_
    refine Tr.loop (X := Nat) (fun i => i ≤ l.length) (fun i => [(6, .r 6 0), (8, .o 24), (9, .o 9), (10, .o 10), (25, .d (abssD l)), (26, I (l.length)), (27, I (i))]) (fun i => [(24, .own 1 3 ((lefTo l c i).map fun n => [D.v (.int .i64 n)])), (9, .own 1 22 ((prtT l c i).map fun r => [ints r])), (10, .own 1 3 ((valT l c i).map fun n => [D.v (.int .i64 n)])), (6, .box [I (0), I (0)])]) (fun i => l.length - i) 0 (by omega) ?_ ?_
    · exact .slot rfl (.refl _) <| .slot rfl (.refl _) <| .slot rfl (.refl _) <| .slot rfl (.refl _) <| .slot rfl (.refl _) <| .slot rfl (.refl _) <| .slot rfl (Le.of_eq (by simp)) <| .memEq rfl rfl <| .memEq rfl rfl <| .memEq rfl rfl <| .mem rfl <| .nil
    · rintro i hil
      refine Tr.seq ?_
      refine Tr.region ?_
      refine TrOps.sem (OpSem.bin rfl rfl rfl blss) rfl rfl (by decide) ?_
      refine TrOps.nil ?_
      refine At.seq ?_
      refine Tr.seq ?_
      refine Tr.cond rfl (fun c28 => ?_) (fun c28 => ?_)
      · have hi : i < l.length := by simpa using c28
        obtain ⟨hai, hci⟩ := lefTo_for h1 hi
        have hdl := (distL_good hai hci).1
        have hns := nS_eq hai
        have hdg := (distL_good hai hci).2
        have hin := hai.head
        refine Tr.skip ?_
        refine At.seq ?_
        refine Tr.seq ?_
        refine Tr.block ?_
        refine Tr.seq ?_
        refine Tr.region ?_
        refine TrOps.sem (OpSem.idxL rfl rfl rfl es34 (by omega) (by omega)) rfl rfl (by decide) ?_
        refine TrOps.sem (OpSem.loadN rfl rfl vs46 (by first | decide | simp) rfl) rfl rfl (by decide) ?_
        refine TrOps.semM (OpSem.alloc 12 rfl zc46 rfl) rfl rfl (by decide) ?_
        refine TrOps.storeb rfl rfl rfl rfl rfl rfl rfl vs46 (by first | decide | simp) ?_
        refine TrOps.nil ?_
        refine At.seq ?_
        refine Tr.seq ?_
        refine Tr.region ?_
        refine TrOps.sem (OpSem.loadbN rfl rfl rfl vs46 (by first | decide | simp)) rfl rfl (by decide) ?_
        refine TrOps.sem (OpSem.move (.inl rfl) rfl) rfl rfl (by decide) ?_
        refine TrOps.semM (OpSem.callO 33 (abstraction_From_does (nth l i) (lefTo l c i) hai hci) rfl rfl rfl rfl (Les.refl _)) rfl rfl (by decide) ?_
        refine TrOps.sem (OpSem.move (.inr rfl) rfl) rfl rfl (by decide) ?_
        refine TrOps.nil ?_
        refine At.seq ?_
        refine Tr.seq ?_
        refine Tr.freeze 33 rfl ?_
        refine Tr.region ?_
        refine TrOps.sem (OpSem.loadbN rfl rfl rfl vs46 (by first | decide | simp)) rfl rfl (by decide) ?_
        refine TrOps.sem (OpSem.move (.inl rfl) rfl) rfl rfl (by decide) ?_
        refine TrOps.semM (OpSem.callO 36 (partition_need_does (nth l i) (lefTo l c i) hai hci) rfl rfl rfl rfl (Les.refl _)) rfl rfl (by decide) ?_
        refine TrOps.sem (OpSem.move (.inr rfl) rfl) rfl rfl (by decide) ?_
        refine TrOps.nil ?_
        refine At.seq ?_
        refine Tr.seq ?_
        refine Tr.seq ?_
        refine Tr.freeze 36 rfl ?_
        refine Tr.region ?_
        refine TrOps.sem (OpSem.move (.inl rfl) rfl) rfl rfl (by decide) ?_
        refine TrOps.sem (OpSem.leno rfl rfl rfl es22) rfl rfl (by decide) ?_
        refine TrOps.sem (OpSem.move (.inl rfl) rfl) rfl rfl (by decide) ?_
        refine TrOps.nil ?_
        refine At.seq ?_
        refine Tr.block ?_
        refine Tr.loop (X := Nat) (fun j => j ≤ c.length) (fun j => [(6, .r 6 0), (8, .o 24), (9, .o 9), (10, .o 10), (12, .r 12 0), (13, .d (ints (distL (nth l i) (lefTo l c i)))), (14, .d (ints (ndL l c i))), (25, .d (abssD l)), (26, I (l.length)), (27, I (i)), (38, I ((c.length : Int))), (39, I (j))]) (fun j => [(24, .own 1 3 ((subTo (lefTo l c i) (ndL l c i) j).map fun n => [D.v (.int .i64 n)])), (9, .own 1 22 ((prtT l c i).map fun r => [ints r])), (10, .own 1 3 ((valT l c i).map fun n => [D.v (.int .i64 n)])), (6, .box [I (0), I (0)]), (12, .box [I ((nth l i).states), I ((nth l i).labels), .d (arcsD ((nth l i).arcs)), I ((nth l i).init), .d (ints ((nth l i).goals))])]) (fun j => c.length - j) 0 (by omega) ?_ ?_
        · exact .slot rfl (.refl _) <| .slot rfl (.refl _) <| .slot rfl (.refl _) <| .slot rfl (.refl _) <| .slot rfl (.refl _) <| .slot rfl (.refl _) <| .slot rfl (.refl _) <| .slot rfl (.refl _) <| .slot rfl (.refl _) <| .slot rfl (.refl _) <| .slot rfl (Le.of_eq (by simp [hll])) <| .slot rfl (Le.of_eq (by simp)) <| .memEq rfl rfl <| .mem rfl <| .mem rfl <| .mem rfl <| .mem rfl <| .nil
        · rintro j hjl
          refine Tr.seq ?_
          refine Tr.region ?_
          refine TrOps.sem (OpSem.bin rfl rfl rfl blss) rfl rfl (by decide) ?_
          refine TrOps.nil ?_
          refine At.seq ?_
          refine Tr.seq ?_
          refine Tr.cond rfl (fun c40 => ?_) (fun c40 => ?_)
          · have hj : j < c.length := by simp [subTo_len, hll] at c40; omega
            have hsa := subTo_at (a := lefTo l c i) (b := ndL l c i) (x := j) (by rw [hll]; exact hj) (j := j) (by rw [hll]; omega)
            rw [if_neg (by omega)] at hsa
            have hnd := ndL_in h1 hi hj
            have hlx := lefTo_ok h1 (k := i) (by omega) j (by rw [hll]; exact hj)
            refine Tr.skip ?_
            refine At.seq ?_
            refine Tr.seq ?_
            refine Tr.block ?_
            refine Tr.seq ?_
            refine Tr.region ?_
            refine TrOps.sem (OpSem.move (.inl rfl) rfl) rfl rfl (by decide) ?_
            refine TrOps.sem (OpSem.move (.inr rfl) rfl) rfl rfl (by decide) ?_
            refine TrOps.nil ?_
            refine At.seq ?_
            refine PC.start [] ?_
            refine PC.sem (OpSem.move (.inl rfl) rfl) rfl rfl ?_
            refine PC.sem (OpSem.move (.inl rfl) rfl) rfl rfl ?_
            refine PC.sem (OpSem.idxo rfl rfl rfl rfl es22 (by omega) (by simp [subTo_len, hll]; omega)) rfl rfl ?_
            refine PC.sem (OpSem.loadq rfl rfl rfl vs3 (rows_get (by omega) (by simp [subTo_len, hll]; omega)) rfl) rfl rfl ?_
            refine PC.sem (OpSem.move (.inl rfl) rfl) rfl rfl ?_
            refine PC.sem (OpSem.move (.inl rfl) rfl) rfl rfl ?_
            refine PC.sem (OpSem.idxL rfl rfl rfl es22 (by omega) (by rw [ndL_len h1 hi]; omega)) rfl rfl ?_
            refine PC.sem (OpSem.load1 rfl rfl vs3 rfl) rfl rfl ?_
            refine PC.done0 mixed (by kernel_rfl) (by kernel_rfl) (by kernel_rfl) (by kernel_rfl) (by kernel_rfl) ?_
            refine TrOps.sem (OpSem.bin rfl rfl rfl (bsub (by omega) (by omega))) rfl rfl (by decide) ?_
            refine TrOps.sem (OpSem.idxo rfl rfl rfl rfl es22 (by omega) (by simp [subTo_len, hll]; omega)) rfl rfl (by decide) ?_
            refine TrOps.storeq rfl rfl rfl rfl rfl rfl rfl vs3 (rows_get (by omega) (by simp [subTo_len, hll]; omega)) (by simp) ?_
            refine TrOps.nil ?_
            refine At.block_normal ?_
            refine At.seq ?_
            refine Tr.region ?_
            refine TrOps.sem (OpSem.bin rfl rfl rfl (badd (by omega) (by omega))) rfl rfl (by decide) ?_
            refine TrOps.sem (OpSem.move (.inl rfl) rfl) rfl rfl (by decide) ?_
            refine TrOps.nil ?_
            refine At.again (j + 1) (by omega) ?_ (by omega)
            exact .slot rfl (.refl _) <| .slot rfl (.refl _) <| .slot rfl (.refl _) <| .slot rfl (.refl _) <| .slot rfl (.refl _) <| .slot rfl (.refl _) <| .slot rfl (.refl _) <| .slot rfl (.refl _) <| .slot rfl (.refl _) <| .slot rfl (.refl _) <| .slot rfl (.refl _) <| .slot rfl (Le.of_eq (by simp)) <| .memEq rfl (congrArg (Mo.own 1 3) (rows_set (f := fun n => [D.v (.int .i64 n)]))) <| .mem rfl <| .mem rfl <| .mem rfl <| .mem rfl <| .nil
          · have hj : j = c.length := by simp [subTo_len, hll] at c40; omega
            refine Tr.exit ?_
            refine At.pass_exit ?_
            refine At.pass_exit ?_
            refine At.block_same ?_
            refine At.seq ?_
            refine Tr.seq ?_
            refine Tr.region ?_
            refine TrOps.sem (OpSem.move (.inl rfl) rfl) rfl rfl (by decide) ?_
            refine TrOps.sem (OpSem.move (.inl rfl) rfl) rfl rfl (by decide) ?_
            refine TrOps.sem (OpSem.buildSlice rfl rfl es37 ze37 rfl rfl (by decide) (by decide) rfl rfl) rfl rfl (by decide) ?_
            refine TrOps.append rfl rfl rfl (by decide) rfl rfl rfl es37 el37 zc22 rfl by22 (by simp [D.one, Value.oneCell']) (by simp [maxLen, prtT_len]; omega) (by simp [prtT_len]; omega) ?_
            refine TrOps.sem (OpSem.move (.inr rfl) rfl) rfl rfl (by decide) ?_
            refine TrOps.nil ?_
            refine At.seq ?_
            refine Tr.region ?_
            refine TrOps.sem (OpSem.move (.inl rfl) rfl) rfl rfl (by decide) ?_
            refine TrOps.sem (OpSem.move (.inl rfl) rfl) rfl rfl (by decide) ?_
            refine TrOps.sem (OpSem.fieldr rfl rfl fo46_3) rfl rfl (by decide) ?_
            refine TrOps.sem (OpSem.loadb1 rfl rfl rfl vs3 rfl) rfl rfl (by decide) ?_
            refine TrOps.sem (OpSem.idxL rfl rfl rfl es22 (by have := hin; simp only [headOk] at this; omega) (by have := hin; simp only [headOk] at this; omega)) rfl rfl (by decide) ?_
            refine TrOps.sem (OpSem.load1 rfl rfl vs3 rfl) rfl rfl (by decide) ?_
            refine TrOps.sem (OpSem.buildSlice rfl rfl es22 ze22 rfl rfl (by decide) (by decide) rfl rfl) rfl rfl (by decide) ?_
            refine TrOps.append rfl rfl rfl (by decide) rfl rfl rfl es22 el22 zc3 rfl by3 (by simp [D.one, Value.oneCell']) (by simp [maxLen, valT_len]; omega) (by simp [valT_len]; omega) ?_
            refine TrOps.sem (OpSem.move (.inr rfl) rfl) rfl rfl (by decide) ?_
            refine TrOps.nil ?_
            refine At.block_normal ?_
            refine At.seq ?_
            refine Tr.region ?_
            refine TrOps.sem (OpSem.bin rfl rfl rfl (badd (by omega) (by omega))) rfl rfl (by decide) ?_
            refine TrOps.sem (OpSem.move (.inl rfl) rfl) rfl rfl (by decide) ?_
            refine TrOps.nil ?_
            refine At.again (i + 1) (by omega) ?_ (by omega)
            exact .slot rfl (.refl _) <| .slot rfl (.refl _) <| .slot rfl (.refl _) <| .slot rfl (.refl _) <| .slot rfl (.refl _) <| .slot rfl (.refl _) <| .slot rfl (Le.of_eq (by simp)) <| .memEq rfl (by rw [lefTo_s, hll, ← hj]; rfl) <| .memEq rfl (by simp [prtT]; rfl) <| .memEq rfl (by simp [valT]) <| .mem rfl <| .nil
      · have hi : i = l.length := by simp at c28; omega
        subst hi
        refine Tr.exit ?_
        refine At.pass_exit ?_
        refine At.pass_exit ?_
        refine At.block_same ?_
        refine At.seq ?_
        refine Tr.seq ?_
        refine Tr.freeze 9 rfl ?_
        refine Tr.freeze 10 rfl ?_
        refine Tr.region ?_
        refine TrOps.sem (OpSem.move (.inl rfl) rfl) rfl rfl (by decide) ?_
        refine TrOps.sem (OpSem.move (.inl rfl) rfl) rfl rfl (by decide) ?_
        refine TrOps.sem (OpSem.build rfl rfl pl29 zc29 rfl rfl) rfl rfl (by decide) ?_
        refine TrOps.sem (OpSem.move (.inr rfl) rfl) rfl rfl (by decide) ?_
        refine TrOps.sem (OpSem.move (.inr rfl) rfl) rfl rfl (by decide) ?_
        refine TrOps.storeb rfl rfl rfl rfl rfl rfl rfl vs29 (by first | decide | simp) ?_
        refine TrOps.nil ?_
        refine At.seq ?_
        refine Tr.ret ?_
        exact At.ret rfl (.tmp rfl <| .tmp rfl <| .cellN rfl rfl vs29 <| .nil) rfl (Le.t (.cons (by rw [← hP]; first | exact Le.nil 1 | exact .refl _) <| .cons (by rw [← hV]; first | exact Le.nil 1 | exact .refl _) <| .cons (by first | exact .refl _ | exact Le.flt h1.symm) <| .nil))

theorem partition_sums_does (c : List Int) (ps : List (List Int)) : Does Try.prog false 83 [.d (ints c), .d (rows ps)] (.f 106 [] [.p [ints c], .p [rows ps]]) := by
  refine Does.of_body Try.func83 rfl rfl (by simp) Try.call83 (fun w0 O0 => ?_)
  refine Tr.lenLe (n := 0) rfl (fun len0 => ?_)
  refine Tr.lenLe (n := 1) rfl (fun len1 => ?_)
  refine Tr.seq ?_
  refine Tr.region ?_
  refine TrOps.semM (OpSem.box 2 rfl rfl rfl rfl) rfl rfl (by decide) ?_
  refine TrOps.semM (OpSem.box 3 rfl rfl rfl rfl) rfl rfl (by decide) ?_
  refine TrOps.sem (OpSem.move (.inr rfl) rfl) rfl rfl (by decide) ?_
  refine TrOps.nil ?_
  refine At.seq ?_
  refine Tr.seq ?_
  refine Tr.freezeR 2 rfl rfl ?_
  refine Tr.freezeR 3 rfl rfl ?_
  refine Tr.region ?_
  refine TrOps.sem (OpSem.makeFunc rfl rfl rfl) rfl rfl (by decide) ?_
  refine TrOps.sem (OpSem.move (.inr rfl) rfl) rfl rfl (by decide) ?_
  refine TrOps.nil ?_
  refine At.seq ?_
  refine Tr.ret ?_
  exact At.ret rfl (.tmp rfl <| .nil) rfl (.refl _)

end Go.Proofs.Ytohlmcebphcokaa
