/- The engine and the walks that this claim uses, part 3. Written by prune.py out of our own texts. -/
import Derived.Test.YthgcnfolgbaemaaB2
section
/- Walks, written by gen.py out of hints. -/



set_option linter.unusedVariables false
set_option linter.unusedSimpArgs false
namespace Go.Proofs.Ythgcnfolgbaemaa
open Go.Eng
set_option maxRecDepth 10000
set_option maxHeartbeats 1000000

theorem R_Has_does (l : List Int) (n : Int) : Does Try.prog false 29 [.d (ints l), I (n)] (Bo (decide (n ∈ l))) := by
  refine Does.of_body Try.func29 rfl rfl (by simp) Try.call29 (fun w0 O0 => ?_)
  refine Tr.lenLe (n := 0) rfl (fun len0 => ?_)
  refine Tr.seq ?_
  refine Tr.region ?_
  refine TrOps.sem (OpSem.move (.inr rfl) rfl) rfl rfl (by decide) ?_
  refine TrOps.nil ?_
  refine At.seq ?_
  refine Tr.seq ?_
  refine Tr.seq ?_
  refine Tr.region ?_
  refine TrOps.sem (OpSem.move (.inr rfl) rfl) rfl rfl (by decide) ?_
  refine TrOps.nil ?_
  refine At.seq ?_
  refine Tr.block ?_
  refine Tr.loop (X := Nat) (fun k => k ≤ l.length ∧ ∀ i : Nat, i < k → nth l i ≠ n) (fun k => [(0, .d (ints l)), (1, I (n)), (5, I (k))]) (fun k => []) (fun k => l.length - k) 0 ⟨by omega, by simp⟩ ?_ ?_
  · exact .slot rfl (.refl _) <| .slot rfl (.refl _) <| .slot rfl (Le.of_eq (by simp)) <| .nil
  · rintro k ⟨hkl, hinv⟩
    refine Tr.seq ?_
    refine Tr.seq ?_
    refine Tr.region ?_
    refine TrOps.sem (OpSem.move (.inl rfl) rfl) rfl rfl (by decide) ?_
    refine TrOps.sem (OpSem.move (.inl rfl) rfl) rfl rfl (by decide) ?_
    refine TrOps.sem (OpSem.lenL rfl rfl es23) rfl rfl (by decide) ?_
    refine TrOps.sem (OpSem.bin rfl rfl rfl blss) rfl rfl (by decide) ?_
    refine TrOps.nil ?_
    refine At.seq ?_
    refine Tr.cond rfl (fun c9 => ?_) (fun c9 => ?_)
    · have hk : k < l.length := by simpa using c9
      refine Tr.skip ?_
      refine At.seq ?_
      refine Tr.seq ?_
      refine Tr.block ?_
      refine Tr.seq ?_
      refine Tr.region ?_
      refine TrOps.sem (OpSem.move (.inl rfl) rfl) rfl rfl (by decide) ?_
      refine TrOps.sem (OpSem.move (.inl rfl) rfl) rfl rfl (by decide) ?_
      refine TrOps.sem (OpSem.idxL rfl rfl rfl es23 (by omega) (by omega)) rfl rfl (by decide) ?_
      refine TrOps.sem (OpSem.load1 rfl rfl vs3 rfl) rfl rfl (by decide) ?_
      refine TrOps.sem (OpSem.move (.inl rfl) rfl) rfl rfl (by decide) ?_
      refine TrOps.sem (OpSem.bin rfl rfl rfl beql) rfl rfl (by decide) ?_
      refine TrOps.nil ?_
      refine At.seq ?_
      refine Tr.cond rfl (fun c17 => ?_) (fun c17 => ?_)
      · refine Tr.seq ?_
        refine Tr.region ?_
        refine TrOps.sem (OpSem.move (.inr rfl) rfl) rfl rfl (by decide) ?_
        refine TrOps.nil ?_
        refine At.seq ?_
        refine Tr.ret ?_
        refine At.block_ret ?_
        refine At.pass_ret ?_
        refine At.pass_ret ?_
        refine At.block_ret ?_
        refine At.pass_ret ?_
        exact At.ret rfl (.tmp rfl <| .nil) rfl (Le.bo (decide_eq_true (mem_nth.2 ⟨k, hk, by simpa using c17⟩)).symm)
      · have hb : nth l k ≠ n := by simpa using c17
        refine Tr.skip ?_
        refine At.block_normal ?_
        refine At.seq ?_
        refine Tr.region ?_
        refine TrOps.sem (OpSem.move (.inl rfl) rfl) rfl rfl (by decide) ?_
        refine TrOps.sem (OpSem.bin rfl rfl rfl (badd (by omega) (by omega))) rfl rfl (by decide) ?_
        refine TrOps.sem (OpSem.move (.inr rfl) rfl) rfl rfl (by decide) ?_
        refine TrOps.nil ?_
        refine At.again (k + 1) ⟨by omega, all_succ hinv hb⟩ ?_ (by omega)
        exact .slot rfl (.refl _) <| .slot rfl (.refl _) <| .slot rfl (Le.of_eq (by simp)) <| .nil
    · have hk : k = l.length := by simp at c9; omega
      refine Tr.exit ?_
      refine At.pass_exit ?_
      refine At.pass_exit ?_
      refine At.block_same ?_
      refine At.seq ?_
      refine Tr.seq ?_
      refine Tr.region ?_
      refine TrOps.sem (OpSem.move (.inr rfl) rfl) rfl rfl (by decide) ?_
      refine TrOps.nil ?_
      refine At.seq ?_
      refine Tr.ret ?_
      exact At.ret rfl (.tmp rfl <| .nil) rfl (Le.bo (decide_eq_false (fun h => by obtain ⟨i, hi, he⟩ := mem_nth.1 h; exact hinv i (by omega) he)).symm)

theorem Q_ArcLess_does (x y : Arc) : Does Try.prog false 32 [arcS x, arcS y] (Bo (decide (arcLt x y))) := by
  refine Does.of_body Try.func32 rfl rfl (by simp) Try.call32 (fun w0 O0 => ?_)
  refine Tr.seq ?_
  refine Tr.region ?_
  refine TrOps.semM (OpSem.box 2 rfl rfl rfl rfl) rfl rfl (by decide) ?_
  refine TrOps.semM (OpSem.box 3 rfl rfl rfl rfl) rfl rfl (by decide) ?_
  refine TrOps.sem (OpSem.move (.inr rfl) rfl) rfl rfl (by decide) ?_
  refine TrOps.nil ?_
  refine At.seq ?_
  refine Tr.seq ?_
  refine Tr.seq ?_
  refine Tr.region ?_
  refine TrOps.sem (OpSem.fieldr rfl rfl fo57_0) rfl rfl (by decide) ?_
  refine TrOps.sem (OpSem.loadb1 rfl rfl rfl vs3 rfl) rfl rfl (by decide) ?_
  refine TrOps.sem (OpSem.fieldr rfl rfl fo57_0) rfl rfl (by decide) ?_
  refine TrOps.sem (OpSem.loadb1 rfl rfl rfl vs3 rfl) rfl rfl (by decide) ?_
  refine TrOps.sem (OpSem.bin rfl rfl rfl bneq) rfl rfl (by decide) ?_
  refine TrOps.nil ?_
  refine At.seq ?_
  refine Tr.cond rfl (fun c9 => ?_) (fun c9 => ?_)
  · refine Tr.seq ?_
    refine Tr.region ?_
    refine TrOps.sem (OpSem.fieldr rfl rfl fo57_0) rfl rfl (by decide) ?_
    refine TrOps.sem (OpSem.loadb1 rfl rfl rfl vs3 rfl) rfl rfl (by decide) ?_
    refine TrOps.sem (OpSem.fieldr rfl rfl fo57_0) rfl rfl (by decide) ?_
    refine TrOps.sem (OpSem.loadb1 rfl rfl rfl vs3 rfl) rfl rfl (by decide) ?_
    refine TrOps.sem (OpSem.bin rfl rfl rfl blss) rfl rfl (by decide) ?_
    refine TrOps.sem (OpSem.move (.inr rfl) rfl) rfl rfl (by decide) ?_
    refine TrOps.nil ?_
    refine At.seq ?_
    refine Tr.ret ?_
    refine At.pass_ret ?_
    exact At.ret rfl (.tmp rfl <| .nil) rfl (Le.bo (decide_eq_decide.2 (by unfold arcLt; simp at c9; omega)))
  · refine Tr.skip ?_
    refine At.seq ?_
    refine Tr.seq ?_
    refine Tr.seq ?_
    refine Tr.region ?_
    refine TrOps.sem (OpSem.fieldr rfl rfl fo57_1) rfl rfl (by decide) ?_
    refine TrOps.sem (OpSem.loadb1 rfl rfl rfl vs3 rfl) rfl rfl (by decide) ?_
    refine TrOps.sem (OpSem.fieldr rfl rfl fo57_1) rfl rfl (by decide) ?_
    refine TrOps.sem (OpSem.loadb1 rfl rfl rfl vs3 rfl) rfl rfl (by decide) ?_
    refine TrOps.sem (OpSem.bin rfl rfl rfl bneq) rfl rfl (by decide) ?_
    refine TrOps.nil ?_
    refine At.seq ?_
    refine Tr.cond rfl (fun c19 => ?_) (fun c19 => ?_)
    · refine Tr.seq ?_
      refine Tr.region ?_
      refine TrOps.sem (OpSem.fieldr rfl rfl fo57_1) rfl rfl (by decide) ?_
      refine TrOps.sem (OpSem.loadb1 rfl rfl rfl vs3 rfl) rfl rfl (by decide) ?_
      refine TrOps.sem (OpSem.fieldr rfl rfl fo57_1) rfl rfl (by decide) ?_
      refine TrOps.sem (OpSem.loadb1 rfl rfl rfl vs3 rfl) rfl rfl (by decide) ?_
      refine TrOps.sem (OpSem.bin rfl rfl rfl blss) rfl rfl (by decide) ?_
      refine TrOps.sem (OpSem.move (.inr rfl) rfl) rfl rfl (by decide) ?_
      refine TrOps.nil ?_
      refine At.seq ?_
      refine Tr.ret ?_
      refine At.pass_ret ?_
      exact At.ret rfl (.tmp rfl <| .nil) rfl (Le.bo (decide_eq_decide.2 (by unfold arcLt; simp at c9 c19; omega)))
    · refine Tr.skip ?_
      refine At.seq ?_
      refine Tr.seq ?_
      refine Tr.region ?_
      refine TrOps.sem (OpSem.fieldr rfl rfl fo57_2) rfl rfl (by decide) ?_
      refine TrOps.sem (OpSem.loadb1 rfl rfl rfl vs3 rfl) rfl rfl (by decide) ?_
      refine TrOps.sem (OpSem.fieldr rfl rfl fo57_2) rfl rfl (by decide) ?_
      refine TrOps.sem (OpSem.loadb1 rfl rfl rfl vs3 rfl) rfl rfl (by decide) ?_
      refine TrOps.sem (OpSem.bin rfl rfl rfl blss) rfl rfl (by decide) ?_
      refine TrOps.sem (OpSem.move (.inr rfl) rfl) rfl rfl (by decide) ?_
      refine TrOps.nil ?_
      refine At.seq ?_
      refine Tr.ret ?_
      exact At.ret rfl (.tmp rfl <| .nil) rfl (Le.bo (decide_eq_decide.2 (by unfold arcLt; simp at c9 c19; omega)))

theorem cmp_isNaN_int_does (x : Int) : Does Try.prog false 71 [I (x)] (Bo false) := by
  refine Does.of_body Try.func71 rfl rfl (by simp) Try.call71 (fun w0 O0 => ?_)
  refine Tr.seq ?_
  refine Tr.region ?_
  refine TrOps.sem (OpSem.move (.inr rfl) rfl) rfl rfl (by decide) ?_
  refine TrOps.nil ?_
  refine At.seq ?_
  refine Tr.seq ?_
  refine Tr.region ?_
  refine TrOps.sem (OpSem.move (.inl rfl) rfl) rfl rfl (by decide) ?_
  refine TrOps.sem (OpSem.move (.inl rfl) rfl) rfl rfl (by decide) ?_
  refine TrOps.sem (OpSem.bin rfl rfl rfl bneq) rfl rfl (by decide) ?_
  refine TrOps.sem (OpSem.move (.inr rfl) rfl) rfl rfl (by decide) ?_
  refine TrOps.nil ?_
  refine At.seq ?_
  refine Tr.ret ?_
  exact At.ret rfl (.tmp rfl <| .nil) rfl (Le.bo (by simp))

theorem cmp_Compare_int_does (x y : Int) : Does Try.prog false 56 [I (x), I (y)] (I (cmpI x y)) := by
  refine Does.of_body Try.func56 rfl rfl (by simp) Try.call56 (fun w0 O0 => ?_)
  refine Tr.seq ?_
  refine Tr.region ?_
  refine TrOps.sem (OpSem.move (.inr rfl) rfl) rfl rfl (by decide) ?_
  refine TrOps.nil ?_
  refine At.seq ?_
  refine Tr.seq ?_
  refine Tr.region ?_
  refine TrOps.sem (OpSem.move (.inl rfl) rfl) rfl rfl (by decide) ?_
  refine TrOps.sem (OpSem.call0 (cmp_isNaN_int_does x) rfl rfl rfl rfl (Les.refl _)) rfl rfl (by decide) ?_
  refine TrOps.sem (OpSem.move (.inr rfl) rfl) rfl rfl (by decide) ?_
  refine TrOps.nil ?_
  refine At.seq ?_
  refine Tr.seq ?_
  refine Tr.region ?_
  refine TrOps.sem (OpSem.move (.inl rfl) rfl) rfl rfl (by decide) ?_
  refine TrOps.sem (OpSem.call0 (cmp_isNaN_int_does y) rfl rfl rfl rfl (Les.refl _)) rfl rfl (by decide) ?_
  refine TrOps.sem (OpSem.move (.inr rfl) rfl) rfl rfl (by decide) ?_
  refine TrOps.nil ?_
  refine At.seq ?_
  refine Tr.seq ?_
  refine Tr.seq ?_
  refine Tr.region ?_
  refine TrOps.sem (OpSem.move (.inl rfl) rfl) rfl rfl (by decide) ?_
  refine TrOps.nil ?_
  refine At.seq ?_
  refine Tr.condF rfl rfl ?_
  refine Tr.skip ?_
  refine At.seq ?_
  refine Tr.seq ?_
  refine Tr.seq ?_
  refine Tr.region ?_
  refine TrOps.sem (OpSem.move (.inl rfl) rfl) rfl rfl (by decide) ?_
  refine TrOps.nil ?_
  refine At.seq ?_
  refine Tr.condF rfl rfl ?_
  refine Tr.skip ?_
  refine At.seq ?_
  refine Tr.seq ?_
  refine Tr.seq ?_
  refine Tr.region ?_
  refine TrOps.sem (OpSem.move (.inl rfl) rfl) rfl rfl (by decide) ?_
  refine TrOps.sem (OpSem.move (.inl rfl) rfl) rfl rfl (by decide) ?_
  refine TrOps.sem (OpSem.bin rfl rfl rfl blss) rfl rfl (by decide) ?_
  refine TrOps.nil ?_
  refine At.seq ?_
  refine Tr.cond rfl (fun c16 => ?_) (fun c16 => ?_)
  · refine Tr.seq ?_
    refine Tr.region ?_
    refine TrOps.sem (OpSem.move (.inr rfl) rfl) rfl rfl (by decide) ?_
    refine TrOps.nil ?_
    refine At.seq ?_
    refine Tr.ret ?_
    refine At.pass_ret ?_
    exact At.ret rfl (.tmp rfl <| .nil) rfl (Le.i (cmpI_1 (by simpa using c16)))
  · refine Tr.skip ?_
    refine At.seq ?_
    refine Tr.seq ?_
    refine Tr.seq ?_
    refine Tr.region ?_
    refine TrOps.sem (OpSem.move (.inl rfl) rfl) rfl rfl (by decide) ?_
    refine TrOps.sem (OpSem.move (.inl rfl) rfl) rfl rfl (by decide) ?_
    refine TrOps.sem (OpSem.bin rfl rfl rfl bgtr) rfl rfl (by decide) ?_
    refine TrOps.nil ?_
    refine At.seq ?_
    refine Tr.cond rfl (fun c19 => ?_) (fun c19 => ?_)
    · refine Tr.seq ?_
      refine Tr.region ?_
      refine TrOps.sem (OpSem.move (.inr rfl) rfl) rfl rfl (by decide) ?_
      refine TrOps.nil ?_
      refine At.seq ?_
      refine Tr.ret ?_
      refine At.pass_ret ?_
      exact At.ret rfl (.tmp rfl <| .nil) rfl (Le.i (cmpI_2 (by simpa using c16) (by simpa using c19)))
    · refine Tr.skip ?_
      refine At.seq ?_
      refine Tr.seq ?_
      refine Tr.region ?_
      refine TrOps.sem (OpSem.move (.inr rfl) rfl) rfl rfl (by decide) ?_
      refine TrOps.nil ?_
      refine At.seq ?_
      refine Tr.ret ?_
      exact At.ret rfl (.tmp rfl <| .nil) rfl (Le.i (cmpI_3 (by simpa using c16) (by simpa using c19)))

theorem cmp_Or_int_does (l : List Int) : Does Try.prog false 55 [.d (ints l)] (I (orI l)) := by
  refine Does.of_body Try.func55 rfl rfl (by simp) Try.call55 (fun w0 O0 => ?_)
  refine Tr.lenLe (n := 0) rfl (fun len0 => ?_)
  refine Tr.seq ?_
  refine Tr.region ?_
  refine TrOps.sem (OpSem.move (.inr rfl) rfl) rfl rfl (by decide) ?_
  refine TrOps.nil ?_
  refine At.seq ?_
  refine Tr.seq ?_
  refine Tr.region ?_
  refine TrOps.sem (OpSem.move (.inr rfl) rfl) rfl rfl (by decide) ?_
  refine TrOps.nil ?_
  refine At.seq ?_
  refine Tr.seq ?_
  refine Tr.seq ?_
  refine Tr.region ?_
  refine TrOps.sem (OpSem.move (.inl rfl) rfl) rfl rfl (by decide) ?_
  refine TrOps.sem (OpSem.lenL rfl rfl es23) rfl rfl (by decide) ?_
  refine TrOps.sem (OpSem.move (.inl rfl) rfl) rfl rfl (by decide) ?_
  refine TrOps.nil ?_
  refine At.seq ?_
  refine Tr.block ?_
  refine Tr.loop (X := Nat) (fun k => k ≤ l.length ∧ ∀ i : Nat, i < k → nth l i = 0) (fun k => [(3, I (0)), (6, .d (ints l)), (7, I (l.length)), (8, I (k))]) (fun k => []) (fun k => l.length - k) 0 ⟨by omega, by simp⟩ ?_ ?_
  · exact .slot rfl (.refl _) <| .slot rfl (.refl _) <| .slot rfl (.refl _) <| .slot rfl (Le.of_eq (by simp)) <| .nil
  · rintro k ⟨hkl, hinv⟩
    refine Tr.seq ?_
    refine Tr.region ?_
    refine TrOps.sem (OpSem.bin rfl rfl rfl blss) rfl rfl (by decide) ?_
    refine TrOps.nil ?_
    refine At.seq ?_
    refine Tr.seq ?_
    refine Tr.cond rfl (fun c9 => ?_) (fun c9 => ?_)
    · have hk : k < l.length := by simpa using c9
      refine Tr.skip ?_
      refine At.seq ?_
      refine Tr.seq ?_
      refine Tr.block ?_
      refine Tr.seq ?_
      refine Tr.region ?_
      refine TrOps.sem (OpSem.idxL rfl rfl rfl es23 (by omega) (by omega)) rfl rfl (by decide) ?_
      refine TrOps.sem (OpSem.load1 rfl rfl vs3 rfl) rfl rfl (by decide) ?_
      refine TrOps.sem (OpSem.move (.inr rfl) rfl) rfl rfl (by decide) ?_
      refine TrOps.nil ?_
      refine At.seq ?_
      refine Tr.seq ?_
      refine Tr.region ?_
      refine TrOps.sem (OpSem.move (.inl rfl) rfl) rfl rfl (by decide) ?_
      refine TrOps.sem (OpSem.move (.inl rfl) rfl) rfl rfl (by decide) ?_
      refine TrOps.sem (OpSem.bin rfl rfl rfl bneq) rfl rfl (by decide) ?_
      refine TrOps.nil ?_
      refine At.seq ?_
      refine Tr.cond rfl (fun c14 => ?_) (fun c14 => ?_)
      · refine Tr.seq ?_
        refine Tr.region ?_
        refine TrOps.sem (OpSem.move (.inl rfl) rfl) rfl rfl (by decide) ?_
        refine TrOps.sem (OpSem.move (.inr rfl) rfl) rfl rfl (by decide) ?_
        refine TrOps.nil ?_
        refine At.seq ?_
        refine Tr.ret ?_
        refine At.block_ret ?_
        refine At.pass_ret ?_
        refine At.pass_ret ?_
        refine At.block_ret ?_
        refine At.pass_ret ?_
        exact At.ret rfl (.tmp rfl <| .nil) rfl (Le.i (orI_some hk hinv (by simpa using c14)))
      · have hb : nth l k = 0 := by simpa using c14
        refine Tr.skip ?_
        refine At.block_normal ?_
        refine At.seq ?_
        refine Tr.region ?_
        refine TrOps.sem (OpSem.bin rfl rfl rfl (badd (by omega) (by omega))) rfl rfl (by decide) ?_
        refine TrOps.sem (OpSem.move (.inl rfl) rfl) rfl rfl (by decide) ?_
        refine TrOps.nil ?_
        refine At.again (k + 1) ⟨by omega, all_succ hinv hb⟩ ?_ (by omega)
        exact .slot rfl (.refl _) <| .slot rfl (.refl _) <| .slot rfl (.refl _) <| .slot rfl (Le.of_eq (by simp)) <| .nil
    · have hk : k = l.length := by simp at c9; omega
      refine Tr.exit ?_
      refine At.pass_exit ?_
      refine At.pass_exit ?_
      refine At.block_same ?_
      refine At.seq ?_
      refine Tr.seq ?_
      refine Tr.region ?_
      refine TrOps.sem (OpSem.move (.inl rfl) rfl) rfl rfl (by decide) ?_
      refine TrOps.sem (OpSem.move (.inr rfl) rfl) rfl rfl (by decide) ?_
      refine TrOps.nil ?_
      refine At.seq ?_
      refine Tr.ret ?_
      exact At.ret rfl (.tmp rfl <| .nil) rfl (Le.i (by subst hk; exact orI_none hinv))

theorem abstraction_Compare_does (x y : Arc) : Does Try.prog false 43 [arcS x, arcS y] (I (cmpArc x y)) := by
  refine Does.of_body Try.func43 rfl rfl (by simp) Try.call43 (fun w0 O0 => ?_)
  refine Tr.seq ?_
  refine Tr.region ?_
  refine TrOps.semM (OpSem.box 2 rfl rfl rfl rfl) rfl rfl (by decide) ?_
  refine TrOps.semM (OpSem.box 3 rfl rfl rfl rfl) rfl rfl (by decide) ?_
  refine TrOps.sem (OpSem.move (.inr rfl) rfl) rfl rfl (by decide) ?_
  refine TrOps.nil ?_
  refine At.seq ?_
  refine Tr.seq ?_
  refine PC.start [] ?_
  refine PC.sem (OpSem.fieldr rfl rfl fo57_0) rfl rfl ?_
  refine PC.sem (OpSem.loadb1 rfl rfl rfl vs3 rfl) rfl rfl ?_
  refine PC.sem (OpSem.fieldr rfl rfl fo57_0) rfl rfl ?_
  refine PC.sem (OpSem.loadb1 rfl rfl rfl vs3 rfl) rfl rfl ?_
  refine PC.sem (OpSem.call0 (cmp_Compare_int_does x.fr y.fr) rfl rfl rfl rfl (Les.refl _)) rfl rfl ?_
  refine PC.sem (OpSem.fieldr rfl rfl fo57_1) rfl rfl ?_
  refine PC.sem (OpSem.loadb1 rfl rfl rfl vs3 rfl) rfl rfl ?_
  refine PC.sem (OpSem.fieldr rfl rfl fo57_1) rfl rfl ?_
  refine PC.sem (OpSem.loadb1 rfl rfl rfl vs3 rfl) rfl rfl ?_
  refine PC.sem (OpSem.call0 (cmp_Compare_int_does x.lab y.lab) rfl rfl rfl rfl (Les.refl _)) rfl rfl ?_
  refine PC.sem (OpSem.fieldr rfl rfl fo57_2) rfl rfl ?_
  refine PC.sem (OpSem.loadb1 rfl rfl rfl vs3 rfl) rfl rfl ?_
  refine PC.sem (OpSem.fieldr rfl rfl fo57_2) rfl rfl ?_
  refine PC.sem (OpSem.loadb1 rfl rfl rfl vs3 rfl) rfl rfl ?_
  refine PC.done0 mixed (by kernel_rfl) (by kernel_rfl) (by kernel_rfl) (by kernel_rfl) (by kernel_rfl) ?_
  refine TrOps.sem (OpSem.call0 (cmp_Compare_int_does x.to y.to) rfl rfl rfl rfl (Les.refl _)) rfl rfl (by decide) ?_
  refine TrOps.sem (OpSem.buildSlice rfl rfl es23 ze23 rfl rfl (by decide) (by decide) rfl rfl) rfl rfl (by decide) ?_
  refine TrOps.sem (OpSem.call0 (cmp_Or_int_does [cmpI x.fr y.fr, cmpI x.lab y.lab, cmpI x.to y.to]) rfl rfl rfl rfl (Les.refl _)) rfl rfl (by decide) ?_
  refine TrOps.sem (OpSem.move (.inr rfl) rfl) rfl rfl (by decide) ?_
  refine TrOps.nil ?_
  refine At.seq ?_
  refine Tr.ret ?_
  exact At.ret rfl (.tmp rfl <| .nil) rfl (.refl _)

theorem abstraction_Validate_1_does (n size : Int) : Does Try.prog false 41 [I (n), I (size)] (Bo (decide (0 ≤ n ∧ n < size))) := by
  refine Does.of_body Try.func41 rfl rfl (by simp) Try.call41 (fun w0 O0 => ?_)
  refine Tr.seq ?_
  refine Tr.region ?_
  refine TrOps.sem (OpSem.move (.inr rfl) rfl) rfl rfl (by decide) ?_
  refine TrOps.nil ?_
  refine At.seq ?_
  refine Tr.seq ?_
  refine Tr.region ?_
  refine TrOps.sem (OpSem.move (.inl rfl) rfl) rfl rfl (by decide) ?_
  refine TrOps.sem (OpSem.bin rfl rfl rfl bgeq) rfl rfl (by decide) ?_
  refine TrOps.sem (OpSem.move (.inl rfl) rfl) rfl rfl (by decide) ?_
  refine TrOps.split (n := 7) rfl (fun c7 => ?_) (fun c7 => ?_)
  · refine TrOps.gT rfl rfl rfl rfl c7 ?_
    refine TrOps.sem (OpSem.move (.inl rfl) rfl) rfl rfl (by decide) ?_
    refine TrOps.gT rfl rfl rfl rfl c7 ?_
    refine TrOps.sem (OpSem.move (.inl rfl) rfl) rfl rfl (by decide) ?_
    refine TrOps.gT rfl rfl rfl rfl c7 ?_
    refine TrOps.sem (OpSem.bin rfl rfl rfl blss) rfl rfl (by decide) ?_
    refine TrOps.sem (OpSem.pickT rfl rfl c7 rfl) rfl rfl (by decide) ?_
    refine TrOps.sem (OpSem.move (.inr rfl) rfl) rfl rfl (by decide) ?_
    refine TrOps.nil ?_
    refine At.seq ?_
    refine Tr.ret ?_
    exact At.ret rfl (.tmp rfl <| .nil) rfl (Le.bo (by simp at *; omega))
  · refine TrOps.gF rfl rfl rfl rfl c7 rfl (by decide) ?_
    refine TrOps.gF rfl rfl rfl rfl c7 rfl (by decide) ?_
    refine TrOps.gF rfl rfl rfl rfl c7 rfl (by decide) ?_
    refine TrOps.sem (OpSem.pickF rfl rfl c7 rfl) rfl rfl (by decide) ?_
    refine TrOps.sem (OpSem.move (.inr rfl) rfl) rfl rfl (by decide) ?_
    refine TrOps.nil ?_
    refine At.seq ?_
    refine Tr.ret ?_
    exact At.ret rfl (.tmp rfl <| .nil) rfl (Le.bo (by simp at *; omega))

theorem strips_IsSet_does (l : List Int) (n : Int) : Does Try.prog false 42 [.d (ints l), I (n)] (Bo (decide (SetP n l))) := by
  refine Does.of_body Try.func42 rfl rfl (by simp) Try.call42 (fun w0 O0 => ?_)
  refine Tr.lenLe (n := 0) rfl (fun len0 => ?_)
  refine Tr.seq ?_
  refine Tr.region ?_
  refine TrOps.sem (OpSem.move (.inr rfl) rfl) rfl rfl (by decide) ?_
  refine TrOps.nil ?_
  refine At.seq ?_
  refine Tr.seq ?_
  refine Tr.seq ?_
  refine Tr.region ?_
  refine TrOps.sem (OpSem.move (.inl rfl) rfl) rfl rfl (by decide) ?_
  refine TrOps.sem (OpSem.lenL rfl rfl es23) rfl rfl (by decide) ?_
  refine TrOps.sem (OpSem.move (.inl rfl) rfl) rfl rfl (by decide) ?_
  refine TrOps.nil ?_
  refine At.seq ?_
  refine Tr.block ?_
  refine Tr.loop (X := Nat) (fun k => k ≤ l.length ∧ ∀ i : Nat, i < k → SetOk n l i) (fun k => [(0, .d (ints l)), (1, I (n)), (7, .d (ints l)), (8, I (l.length)), (9, I (k))]) (fun k => []) (fun k => l.length - k) 0 ⟨by omega, by simp⟩ ?_ ?_
  · exact .slot rfl (.refl _) <| .slot rfl (.refl _) <| .slot rfl (.refl _) <| .slot rfl (.refl _) <| .slot rfl (Le.of_eq (by simp)) <| .nil
  · rintro k ⟨hkl, hinv⟩
    refine Tr.seq ?_
    refine Tr.region ?_
    refine TrOps.sem (OpSem.bin rfl rfl rfl blss) rfl rfl (by decide) ?_
    refine TrOps.nil ?_
    refine At.seq ?_
    refine Tr.seq ?_
    refine Tr.cond rfl (fun c10 => ?_) (fun c10 => ?_)
    · have hk : k < l.length := by simpa using c10
      refine Tr.skip ?_
      refine At.seq ?_
      refine Tr.seq ?_
      refine Tr.block ?_
      refine Tr.seq ?_
      refine Tr.region ?_
      refine TrOps.sem (OpSem.move (.inl rfl) rfl) rfl rfl (by decide) ?_
      refine TrOps.sem (OpSem.idxL rfl rfl rfl es23 (by omega) (by omega)) rfl rfl (by decide) ?_
      refine TrOps.sem (OpSem.load1 rfl rfl vs3 rfl) rfl rfl (by decide) ?_
      refine TrOps.sem (OpSem.move (.inr rfl) rfl) rfl rfl (by decide) ?_
      refine TrOps.sem (OpSem.move (.inr rfl) rfl) rfl rfl (by decide) ?_
      refine TrOps.nil ?_
      refine At.seq ?_
      refine Tr.seq ?_
      refine Tr.region ?_
      refine TrOps.sem (OpSem.move (.inl rfl) rfl) rfl rfl (by decide) ?_
      refine TrOps.sem (OpSem.bin rfl rfl rfl blss) rfl rfl (by decide) ?_
      refine TrOps.sem (OpSem.move (.inl rfl) rfl) rfl rfl (by decide) ?_
      refine TrOps.split (n := 16) rfl (fun c16 => ?_) (fun c16 => ?_)
      · refine TrOps.gF rfl rfl rfl rfl c16 rfl (by decide) ?_
        refine TrOps.gF rfl rfl rfl rfl c16 rfl (by decide) ?_
        refine TrOps.gF rfl rfl rfl rfl c16 rfl (by decide) ?_
        refine TrOps.sem (OpSem.pickT rfl rfl c16 rfl) rfl rfl (by decide) ?_
        refine TrOps.sem (OpSem.move (.inl rfl) rfl) rfl rfl (by decide) ?_
        refine TrOps.gF rfl rfl rfl rfl rfl rfl (by decide) ?_
        refine TrOps.gF rfl rfl rfl rfl rfl rfl (by decide) ?_
        refine TrOps.gF rfl rfl rfl rfl rfl rfl (by decide) ?_
        refine TrOps.gU rfl rfl rfl rfl rfl (by decide) ?_
        refine TrOps.gU rfl rfl rfl rfl rfl (by decide) ?_
        refine TrOps.gU rfl rfl rfl rfl rfl (by decide) ?_
        refine TrOps.gU rfl rfl rfl rfl rfl (by decide) ?_
        refine TrOps.gU rfl rfl rfl rfl rfl (by decide) ?_
        refine TrOps.gU rfl rfl rfl rfl rfl (by decide) ?_
        refine TrOps.gU rfl rfl rfl rfl rfl (by decide) ?_
        refine TrOps.gF rfl rfl rfl rfl rfl rfl (by decide) ?_
        refine TrOps.sem (OpSem.pickT rfl rfl rfl rfl) rfl rfl (by decide) ?_
        refine TrOps.nil ?_
        refine At.seq ?_
        refine Tr.condT rfl rfl ?_
        refine Tr.seq ?_
        refine Tr.region ?_
        refine TrOps.sem (OpSem.move (.inr rfl) rfl) rfl rfl (by decide) ?_
        refine TrOps.nil ?_
        refine At.seq ?_
        refine Tr.ret ?_
        refine At.block_ret ?_
        refine At.pass_ret ?_
        refine At.pass_ret ?_
        refine At.block_ret ?_
        refine At.pass_ret ?_
        exact At.ret rfl (.tmp rfl <| .nil) rfl (Le.bo (by first | exact (decide_eq_true (by subst hk; exact hinv)).symm | exact (decide_eq_false (fun h => by have h1 := (h k hk).2.2 hkp; simp at c33; omega)).symm | exact (decide_eq_false (fun h => by have := h k hk; simp at c21; omega)).symm | exact (decide_eq_false (fun h => by have := h k hk; simp at c16; omega)).symm))
      · refine TrOps.gT rfl rfl rfl rfl c16 ?_
        refine TrOps.sem (OpSem.move (.inl rfl) rfl) rfl rfl (by decide) ?_
        refine TrOps.gT rfl rfl rfl rfl c16 ?_
        refine TrOps.sem (OpSem.move (.inl rfl) rfl) rfl rfl (by decide) ?_
        refine TrOps.gT rfl rfl rfl rfl c16 ?_
        refine TrOps.sem (OpSem.bin rfl rfl rfl bgeq) rfl rfl (by decide) ?_
        refine TrOps.sem (OpSem.pickF rfl rfl c16 rfl) rfl rfl (by decide) ?_
        refine TrOps.sem (OpSem.move (.inl rfl) rfl) rfl rfl (by decide) ?_
        refine TrOps.split (n := 21) rfl (fun c21 => ?_) (fun c21 => ?_)
        · refine TrOps.gF rfl rfl rfl rfl c21 rfl (by decide) ?_
          refine TrOps.gF rfl rfl rfl rfl c21 rfl (by decide) ?_
          refine TrOps.gF rfl rfl rfl rfl c21 rfl (by decide) ?_
          refine TrOps.gU rfl rfl rfl rfl rfl (by decide) ?_
          refine TrOps.gU rfl rfl rfl rfl rfl (by decide) ?_
          refine TrOps.gU rfl rfl rfl rfl rfl (by decide) ?_
          refine TrOps.gU rfl rfl rfl rfl rfl (by decide) ?_
          refine TrOps.gU rfl rfl rfl rfl rfl (by decide) ?_
          refine TrOps.gU rfl rfl rfl rfl rfl (by decide) ?_
          refine TrOps.gU rfl rfl rfl rfl rfl (by decide) ?_
          refine TrOps.gF rfl rfl rfl rfl c21 rfl (by decide) ?_
          refine TrOps.sem (OpSem.pickT rfl rfl c21 rfl) rfl rfl (by decide) ?_
          refine TrOps.nil ?_
          refine At.seq ?_
          refine Tr.condT rfl rfl ?_
          refine Tr.seq ?_
          refine Tr.region ?_
          refine TrOps.sem (OpSem.move (.inr rfl) rfl) rfl rfl (by decide) ?_
          refine TrOps.nil ?_
          refine At.seq ?_
          refine Tr.ret ?_
          refine At.block_ret ?_
          refine At.pass_ret ?_
          refine At.pass_ret ?_
          refine At.block_ret ?_
          refine At.pass_ret ?_
          exact At.ret rfl (.tmp rfl <| .nil) rfl (Le.bo (by first | exact (decide_eq_true (by subst hk; exact hinv)).symm | exact (decide_eq_false (fun h => by have h1 := (h k hk).2.2 hkp; simp at c33; omega)).symm | exact (decide_eq_false (fun h => by have := h k hk; simp at c21; omega)).symm | exact (decide_eq_false (fun h => by have := h k hk; simp at c16; omega)).symm))
        · refine TrOps.gT rfl rfl rfl rfl c21 ?_
          refine TrOps.sem (OpSem.move (.inl rfl) rfl) rfl rfl (by decide) ?_
          refine TrOps.gT rfl rfl rfl rfl c21 ?_
          refine TrOps.sem (OpSem.bin rfl rfl rfl bgtr) rfl rfl (by decide) ?_
          refine TrOps.gT rfl rfl rfl rfl c21 ?_
          refine TrOps.sem (OpSem.move (.inl rfl) rfl) rfl rfl (by decide) ?_
          refine TrOps.split (n := 24) rfl (fun c24 => ?_) (fun c24 => ?_)
          · have hkp : 0 < k := by simp at c24; omega
            refine TrOps.gT rfl rfl rfl rfl c24 ?_
            refine TrOps.sem (OpSem.move (.inl rfl) rfl) rfl rfl (by decide) ?_
            refine TrOps.gT rfl rfl rfl rfl c24 ?_
            refine TrOps.sem (OpSem.move (.inl rfl) rfl) rfl rfl (by decide) ?_
            refine TrOps.gT rfl rfl rfl rfl c24 ?_
            refine TrOps.sem (OpSem.move (.inl rfl) rfl) rfl rfl (by decide) ?_
            refine TrOps.gT rfl rfl rfl rfl c24 ?_
            refine TrOps.sem (OpSem.bin rfl rfl rfl (bsub (by omega) (by omega))) rfl rfl (by decide) ?_
            refine TrOps.gT rfl rfl rfl rfl c24 ?_
            refine TrOps.sem (OpSem.idxL rfl rfl rfl es23 (by omega) (by omega)) rfl rfl (by decide) ?_
            refine TrOps.gT rfl rfl rfl rfl c24 ?_
            refine TrOps.sem (OpSem.load1 rfl rfl vs3 rfl) rfl rfl (by decide) ?_
            refine TrOps.gT rfl rfl rfl rfl c24 ?_
            refine TrOps.sem (OpSem.bin rfl rfl rfl bleq) rfl rfl (by decide) ?_
            refine TrOps.gT rfl rfl rfl rfl c21 ?_
            refine TrOps.sem (OpSem.pickT rfl rfl c24 rfl) rfl rfl (by decide) ?_
            refine TrOps.sem (OpSem.pickF rfl rfl c21 rfl) rfl rfl (by decide) ?_
            refine TrOps.nil ?_
            refine At.seq ?_
            refine Tr.cond rfl (fun c33 => ?_) (fun c33 => ?_)
            · refine Tr.seq ?_
              refine Tr.region ?_
              refine TrOps.sem (OpSem.move (.inr rfl) rfl) rfl rfl (by decide) ?_
              refine TrOps.nil ?_
              refine At.seq ?_
              refine Tr.ret ?_
              refine At.block_ret ?_
              refine At.pass_ret ?_
              refine At.pass_ret ?_
              refine At.block_ret ?_
              refine At.pass_ret ?_
              exact At.ret rfl (.tmp rfl <| .nil) rfl (Le.bo (by first | exact (decide_eq_true (by subst hk; exact hinv)).symm | exact (decide_eq_false (fun h => by have h1 := (h k hk).2.2 hkp; simp at c33; omega)).symm | exact (decide_eq_false (fun h => by have := h k hk; simp at c21; omega)).symm | exact (decide_eq_false (fun h => by have := h k hk; simp at c16; omega)).symm))
            · refine Tr.skip ?_
              refine At.block_normal ?_
              refine At.seq ?_
              refine Tr.region ?_
              refine TrOps.sem (OpSem.bin rfl rfl rfl (badd (by omega) (by omega))) rfl rfl (by decide) ?_
              refine TrOps.sem (OpSem.move (.inl rfl) rfl) rfl rfl (by decide) ?_
              refine TrOps.nil ?_
              have hb : SetOk n l k := by first | (simp at c16 c21 c33; exact ⟨by omega, by omega, fun h => by omega⟩) | (simp at c16 c21 c24; exact ⟨by omega, by omega, fun h => by omega⟩)
              refine At.again (k + 1) ⟨by omega, all_succ hinv hb⟩ ?_ (by omega)
              exact .slot rfl (.refl _) <| .slot rfl (.refl _) <| .slot rfl (.refl _) <| .slot rfl (.refl _) <| .slot rfl (Le.of_eq (by simp)) <| .nil
          · refine TrOps.gF rfl rfl rfl rfl c24 rfl (by decide) ?_
            refine TrOps.gF rfl rfl rfl rfl c24 rfl (by decide) ?_
            refine TrOps.gF rfl rfl rfl rfl c24 rfl (by decide) ?_
            refine TrOps.gF rfl rfl rfl rfl c24 rfl (by decide) ?_
            refine TrOps.gF rfl rfl rfl rfl c24 rfl (by decide) ?_
            refine TrOps.gF rfl rfl rfl rfl c24 rfl (by decide) ?_
            refine TrOps.gF rfl rfl rfl rfl c24 rfl (by decide) ?_
            refine TrOps.gT rfl rfl rfl rfl c21 ?_
            refine TrOps.sem (OpSem.pickF rfl rfl c24 rfl) rfl rfl (by decide) ?_
            refine TrOps.sem (OpSem.pickF rfl rfl c21 rfl) rfl rfl (by decide) ?_
            refine TrOps.nil ?_
            refine At.seq ?_
            refine Tr.condF rfl rfl ?_
            refine Tr.skip ?_
            refine At.block_normal ?_
            refine At.seq ?_
            refine Tr.region ?_
            refine TrOps.sem (OpSem.bin rfl rfl rfl (badd (by omega) (by omega))) rfl rfl (by decide) ?_
            refine TrOps.sem (OpSem.move (.inl rfl) rfl) rfl rfl (by decide) ?_
            refine TrOps.nil ?_
            have hb : SetOk n l k := by first | (simp at c16 c21 c33; exact ⟨by omega, by omega, fun h => by omega⟩) | (simp at c16 c21 c24; exact ⟨by omega, by omega, fun h => by omega⟩)
            refine At.again (k + 1) ⟨by omega, all_succ hinv hb⟩ ?_ (by omega)
            exact .slot rfl (.refl _) <| .slot rfl (.refl _) <| .slot rfl (.refl _) <| .slot rfl (.refl _) <| .slot rfl (Le.of_eq (by simp)) <| .nil
    · have hk : k = l.length := by simp at c10; omega
      refine Tr.exit ?_
      refine At.pass_exit ?_
      refine At.pass_exit ?_
      refine At.block_same ?_
      refine At.seq ?_
      refine Tr.seq ?_
      refine Tr.region ?_
      refine TrOps.sem (OpSem.move (.inr rfl) rfl) rfl rfl (by decide) ?_
      refine TrOps.nil ?_
      refine At.seq ?_
      refine Tr.ret ?_
      exact At.ret rfl (.tmp rfl <| .nil) rfl (Le.bo (by first | exact (decide_eq_true (by subst hk; exact hinv)).symm | exact (decide_eq_false (fun h => by have h1 := (h k hk).2.2 hkp; simp at c33; omega)).symm | exact (decide_eq_false (fun h => by have := h k hk; simp at c21; omega)).symm | exact (decide_eq_false (fun h => by have := h k hk; simp at c16; omega)).symm))

theorem abstraction_Validate_does (a : Abs) (hr : -9223372036854775808 ≤ a.states ∧ a.states ≤ 9223372036854775807) : Does Try.prog false 25 [absS a] (flt (absFault a)) := by
  have hw : 0 ≤ IntKind.i64.wrap (a.states - 1) ∧ IntKind.i64.wrap (a.states - 1) < 60 ↔ 1 ≤ a.states ∧ a.states ≤ 60 := wrap_pred hr
  refine Does.of_body Try.func25 rfl rfl (by simp) Try.call25 (fun w0 O0 => ?_)
  refine Tr.lenG (n := 0) (i := 2) rfl rfl (fun len0_2 => ?_)
  refine Tr.lenG (n := 0) (i := 4) rfl rfl (fun len0_4 => ?_)
  refine Tr.seq ?_
  refine Tr.region ?_
  refine TrOps.semM (OpSem.box 1 rfl rfl rfl rfl) rfl rfl (by decide) ?_
  refine TrOps.semM (OpSem.alloc 2 rfl zc28 rfl) rfl rfl (by decide) ?_
  refine TrOps.nil ?_
  refine At.seq ?_
  refine Tr.seq ?_
  refine Tr.region ?_
  refine TrOps.sem (OpSem.move (.inr rfl) rfl) rfl rfl (by decide) ?_
  refine TrOps.nil ?_
  refine At.seq ?_
  refine Tr.seq ?_
  refine Tr.block ?_
  refine Tr.seq ?_
  refine Tr.region ?_
  refine TrOps.sem (OpSem.move (.inl rfl) rfl) rfl rfl (by decide) ?_
  refine TrOps.sem (OpSem.fieldr rfl rfl fo25_0) rfl rfl (by decide) ?_
  refine TrOps.sem (OpSem.loadb1 rfl rfl rfl vs3 rfl) rfl rfl (by decide) ?_
  refine TrOps.sem (OpSem.bin rfl rfl rfl bsubW) rfl rfl (by decide) ?_
  refine TrOps.sem (OpSem.call0 (abstraction_Validate_1_does ..) rfl rfl rfl rfl (Les.refl _)) rfl rfl (by decide) ?_
  refine TrOps.sem (OpSem.not rfl rfl) rfl rfl (by decide) ?_
  refine TrOps.sem (OpSem.move (.inl rfl) rfl) rfl rfl (by decide) ?_
  refine TrOps.split (n := 13) rfl (fun c13 => ?_) (fun c13 => ?_)
  · refine TrOps.gF rfl rfl rfl rfl c13 rfl (by decide) ?_
    refine TrOps.gF rfl rfl rfl rfl c13 rfl (by decide) ?_
    refine TrOps.gF rfl rfl rfl rfl c13 rfl (by decide) ?_
    refine TrOps.gF rfl rfl rfl rfl c13 rfl (by decide) ?_
    refine TrOps.gF rfl rfl rfl rfl c13 rfl (by decide) ?_
    refine TrOps.sem (OpSem.pickT rfl rfl c13 rfl) rfl rfl (by decide) ?_
    refine TrOps.sem (OpSem.move (.inl rfl) rfl) rfl rfl (by decide) ?_
    refine TrOps.gF rfl rfl rfl rfl rfl rfl (by decide) ?_
    refine TrOps.gF rfl rfl rfl rfl rfl rfl (by decide) ?_
    refine TrOps.gF rfl rfl rfl rfl rfl rfl (by decide) ?_
    refine TrOps.gF rfl rfl rfl rfl rfl rfl (by decide) ?_
    refine TrOps.gF rfl rfl rfl rfl rfl rfl (by decide) ?_
    refine TrOps.gF rfl rfl rfl rfl rfl rfl (by decide) ?_
    refine TrOps.gF rfl rfl rfl rfl rfl rfl (by decide) ?_
    refine TrOps.sem (OpSem.pickT rfl rfl rfl rfl) rfl rfl (by decide) ?_
    refine TrOps.sem (OpSem.move (.inr rfl) rfl) rfl rfl (by decide) ?_
    refine TrOps.nil ?_
    refine At.seq ?_
    refine Tr.condT rfl rfl ?_
    refine Tr.seq ?_
    refine Tr.region ?_
    refine TrOps.sem (OpSem.build rfl rfl pl28 zc28 rfl rfl) rfl rfl (by decide) ?_
    refine TrOps.storeb rfl rfl rfl rfl rfl rfl rfl vs28 (by first | decide | simp) ?_
    refine TrOps.nil ?_
    refine At.seq ?_
    refine Tr.ret ?_
    refine At.block_ret ?_
    refine At.pass_ret ?_
    exact At.ret rfl (.cellN rfl rfl vs28 <| .nil) rfl (Le.flt (absFault_1 (fun h => by simp at c13; exact absurd (hw.2 h.1) (by omega))))
  · refine TrOps.gT rfl rfl rfl rfl c13 ?_
    refine TrOps.sem (OpSem.move (.inl rfl) rfl) rfl rfl (by decide) ?_
    refine TrOps.gT rfl rfl rfl rfl c13 ?_
    refine TrOps.sem (OpSem.fieldr rfl rfl fo25_1) rfl rfl (by decide) ?_
    refine TrOps.gT rfl rfl rfl rfl c13 ?_
    refine TrOps.sem (OpSem.loadb1 rfl rfl rfl vs3 rfl) rfl rfl (by decide) ?_
    refine TrOps.gT rfl rfl rfl rfl c13 ?_
    refine TrOps.sem (OpSem.call0 (abstraction_Validate_1_does ..) rfl rfl rfl rfl (Les.refl _)) rfl rfl (by decide) ?_
    refine TrOps.gT rfl rfl rfl rfl c13 ?_
    refine TrOps.sem (OpSem.not rfl rfl) rfl rfl (by decide) ?_
    refine TrOps.sem (OpSem.pickF rfl rfl c13 rfl) rfl rfl (by decide) ?_
    refine TrOps.sem (OpSem.move (.inl rfl) rfl) rfl rfl (by decide) ?_
    refine TrOps.split (n := 20) rfl (fun c20 => ?_) (fun c20 => ?_)
    · refine TrOps.gF rfl rfl rfl rfl c20 rfl (by decide) ?_
      refine TrOps.gF rfl rfl rfl rfl c20 rfl (by decide) ?_
      refine TrOps.gF rfl rfl rfl rfl c20 rfl (by decide) ?_
      refine TrOps.gF rfl rfl rfl rfl c20 rfl (by decide) ?_
      refine TrOps.gF rfl rfl rfl rfl c20 rfl (by decide) ?_
      refine TrOps.gF rfl rfl rfl rfl c20 rfl (by decide) ?_
      refine TrOps.gF rfl rfl rfl rfl c20 rfl (by decide) ?_
      refine TrOps.sem (OpSem.pickT rfl rfl c20 rfl) rfl rfl (by decide) ?_
      refine TrOps.sem (OpSem.move (.inr rfl) rfl) rfl rfl (by decide) ?_
      refine TrOps.nil ?_
      refine At.seq ?_
      refine Tr.condT rfl rfl ?_
      refine Tr.seq ?_
      refine Tr.region ?_
      refine TrOps.sem (OpSem.build rfl rfl pl28 zc28 rfl rfl) rfl rfl (by decide) ?_
      refine TrOps.storeb rfl rfl rfl rfl rfl rfl rfl vs28 (by first | decide | simp) ?_
      refine TrOps.nil ?_
      refine At.seq ?_
      refine Tr.ret ?_
      refine At.block_ret ?_
      refine At.pass_ret ?_
      exact At.ret rfl (.cellN rfl rfl vs28 <| .nil) rfl (Le.flt (absFault_1 (fun h => by have := h.2; simp at c20; omega)))
    · refine TrOps.gT rfl rfl rfl rfl c20 ?_
      refine TrOps.sem (OpSem.move (.inl rfl) rfl) rfl rfl (by decide) ?_
      refine TrOps.gT rfl rfl rfl rfl c20 ?_
      refine TrOps.sem (OpSem.fieldr rfl rfl fo25_3) rfl rfl (by decide) ?_
      refine TrOps.gT rfl rfl rfl rfl c20 ?_
      refine TrOps.sem (OpSem.loadb1 rfl rfl rfl vs3 rfl) rfl rfl (by decide) ?_
      refine TrOps.gT rfl rfl rfl rfl c20 ?_
      refine TrOps.sem (OpSem.fieldr rfl rfl fo25_0) rfl rfl (by decide) ?_
      refine TrOps.gT rfl rfl rfl rfl c20 ?_
      refine TrOps.sem (OpSem.loadb1 rfl rfl rfl vs3 rfl) rfl rfl (by decide) ?_
      refine TrOps.gT rfl rfl rfl rfl c20 ?_
      refine TrOps.sem (OpSem.call0 (abstraction_Validate_1_does ..) rfl rfl rfl rfl (Les.refl _)) rfl rfl (by decide) ?_
      refine TrOps.gT rfl rfl rfl rfl c20 ?_
      refine TrOps.sem (OpSem.not rfl rfl) rfl rfl (by decide) ?_
      refine TrOps.sem (OpSem.pickF rfl rfl c20 rfl) rfl rfl (by decide) ?_
      refine TrOps.sem (OpSem.move (.inr rfl) rfl) rfl rfl (by decide) ?_
      refine TrOps.nil ?_
      refine At.seq ?_
      refine Tr.cond rfl (fun c6 => ?_) (fun c6 => ?_)
      · refine Tr.seq ?_
        refine Tr.region ?_
        refine TrOps.sem (OpSem.build rfl rfl pl28 zc28 rfl rfl) rfl rfl (by decide) ?_
        refine TrOps.storeb rfl rfl rfl rfl rfl rfl rfl vs28 (by first | decide | simp) ?_
        refine TrOps.nil ?_
        refine At.seq ?_
        refine Tr.ret ?_
        refine At.block_ret ?_
        refine At.pass_ret ?_
        exact At.ret rfl (.cellN rfl rfl vs28 <| .nil) rfl (Le.flt (absFault_1 (fun h => by have := h.2; simp at c6; omega)))
      · have h1 : headOk a := by simp at c13 c20 c6; exact ⟨hw.1 c13, by omega, by omega⟩
        refine Tr.seq ?_
        refine Tr.region ?_
        refine TrOps.sem (OpSem.fieldr rfl rfl fo25_4) rfl rfl (by decide) ?_
        refine TrOps.sem (OpSem.loadb1 rfl rfl rfl vs23 rfl) rfl rfl (by decide) ?_
        refine TrOps.sem (OpSem.fieldr rfl rfl fo25_0) rfl rfl (by decide) ?_
        refine TrOps.sem (OpSem.loadb1 rfl rfl rfl vs3 rfl) rfl rfl (by decide) ?_
        refine TrOps.sem (OpSem.call0 (strips_IsSet_does a.goals a.states) rfl rfl rfl rfl (Les.refl _)) rfl rfl (by decide) ?_
        refine TrOps.sem (OpSem.not rfl rfl) rfl rfl (by decide) ?_
        refine TrOps.sem (OpSem.move (.inr rfl) rfl) rfl rfl (by decide) ?_
        refine TrOps.nil ?_
        refine At.seq ?_
        refine Tr.cond rfl (fun c30 => ?_) (fun c30 => ?_)
        · refine Tr.seq ?_
          refine Tr.region ?_
          refine TrOps.sem (OpSem.build rfl rfl pl28 zc28 rfl rfl) rfl rfl (by decide) ?_
          refine TrOps.storeb rfl rfl rfl rfl rfl rfl rfl vs28 (by first | decide | simp) ?_
          refine TrOps.nil ?_
          refine At.seq ?_
          refine Tr.ret ?_
          refine At.block_ret ?_
          refine At.pass_ret ?_
          exact At.ret rfl (.cellN rfl rfl vs28 <| .nil) rfl (Le.flt (absFault_2 h1 (by simpa using c30)))
        · have h2 : SetP a.states a.goals := by simpa using c30
          refine Tr.seq ?_
          refine Tr.region ?_
          refine TrOps.sem (OpSem.fieldr rfl rfl fo25_2) rfl rfl (by decide) ?_
          refine TrOps.sem (OpSem.loadb1 rfl rfl rfl vs22 rfl) rfl rfl (by decide) ?_
          refine TrOps.sem (OpSem.lenL rfl rfl es22) rfl rfl (by decide) ?_
          refine TrOps.sem (OpSem.bin rfl rfl rfl bgtr) rfl rfl (by decide) ?_
          refine TrOps.sem (OpSem.move (.inr rfl) rfl) rfl rfl (by decide) ?_
          refine TrOps.nil ?_
          refine At.seq ?_
          refine Tr.cond rfl (fun c38 => ?_) (fun c38 => ?_)
          · refine Tr.seq ?_
            refine Tr.region ?_
            refine TrOps.sem (OpSem.build rfl rfl pl28 zc28 rfl rfl) rfl rfl (by decide) ?_
            refine TrOps.storeb rfl rfl rfl rfl rfl rfl rfl vs28 (by first | decide | simp) ?_
            refine TrOps.nil ?_
            refine At.seq ?_
            refine Tr.ret ?_
            refine At.block_ret ?_
            refine At.pass_ret ?_
            exact At.ret rfl (.cellN rfl rfl vs28 <| .nil) rfl (Le.flt (absFault_3 h1 h2 (by simp at c38; omega)))
          · have h3 : ¬ 400 < a.arcs.length := by simp at c38; omega
            refine Tr.skip ?_
            refine At.block_normal ?_
            refine At.seq ?_
            refine Tr.seq ?_
            refine Tr.seq ?_
            refine Tr.region ?_
            refine TrOps.sem (OpSem.fieldr rfl rfl fo25_2) rfl rfl (by decide) ?_
            refine TrOps.sem (OpSem.loadb1 rfl rfl rfl vs22 rfl) rfl rfl (by decide) ?_
            refine TrOps.sem (OpSem.lenL rfl rfl es22) rfl rfl (by decide) ?_
            refine TrOps.sem (OpSem.move (.inl rfl) rfl) rfl rfl (by decide) ?_
            refine TrOps.nil ?_
            refine At.seq ?_
            refine Tr.block ?_
            refine Tr.loop (X := Nat) (fun k => k ≤ a.arcs.length ∧ ∀ i : Nat, i < k → arcFault a i = (0, 0)) (fun k => [(1, .r 1 0), (2, .r 2 0), (3, .f 41 [] []), (45, .d (arcsD a.arcs)), (46, I (a.arcs.length)), (47, I (k))]) (fun k => [(1, .box [I (a.states), I (a.labels), .d (arcsD a.arcs), I (a.init), .d (ints a.goals)]), (2, .box [I (0), I (0)])]) (fun k => a.arcs.length - k) 0 ⟨by omega, by simp⟩ ?_ ?_
            · exact .slot rfl (.refl _) <| .slot rfl (.refl _) <| .slot rfl (.refl _) <| .slot rfl (.refl _) <| .slot rfl (.refl _) <| .slot rfl (Le.of_eq (by simp)) <| .mem rfl <| .mem rfl <| .nil
            · rintro k ⟨hkl, hinv⟩
              refine Tr.seq ?_
              refine Tr.region ?_
              refine TrOps.sem (OpSem.bin rfl rfl rfl blss) rfl rfl (by decide) ?_
              refine TrOps.nil ?_
              refine At.seq ?_
              refine Tr.seq ?_
              refine Tr.cond rfl (fun c48 => ?_) (fun c48 => ?_)
              · have hk : k < a.arcs.length := by simpa using c48
                refine Tr.skip ?_
                refine At.seq ?_
                refine Tr.seq ?_
                refine Tr.block ?_
                refine Tr.seq ?_
                refine Tr.region ?_
                refine TrOps.sem (OpSem.move (.inl rfl) rfl) rfl rfl (by decide) ?_
                refine TrOps.sem (OpSem.idxL rfl rfl rfl es22 (by omega) (by omega)) rfl rfl (by decide) ?_
                refine TrOps.sem (OpSem.loadN rfl rfl vs57 (by first | decide | simp) rfl) rfl rfl (by decide) ?_
                refine TrOps.semM (OpSem.alloc 5 rfl zc57 rfl) rfl rfl (by decide) ?_
                refine TrOps.sem (OpSem.move (.inr rfl) rfl) rfl rfl (by decide) ?_
                refine TrOps.storeb rfl rfl rfl rfl rfl rfl rfl vs57 (by first | decide | simp) ?_
                refine TrOps.nil ?_
                refine At.seq ?_
                refine Tr.block ?_
                refine Tr.seq ?_
                refine Tr.region ?_
                refine TrOps.sem (OpSem.move (.inl rfl) rfl) rfl rfl (by decide) ?_
                refine TrOps.sem (OpSem.fieldr rfl rfl fo57_0) rfl rfl (by decide) ?_
                refine TrOps.sem (OpSem.loadb1 rfl rfl rfl vs3 rfl) rfl rfl (by decide) ?_
                refine TrOps.sem (OpSem.fieldr rfl rfl fo25_0) rfl rfl (by decide) ?_
                refine TrOps.sem (OpSem.loadb1 rfl rfl rfl vs3 rfl) rfl rfl (by decide) ?_
                refine TrOps.sem (OpSem.call0 (abstraction_Validate_1_does ..) rfl rfl rfl rfl (Les.refl _)) rfl rfl (by decide) ?_
                refine TrOps.sem (OpSem.not rfl rfl) rfl rfl (by decide) ?_
                refine TrOps.sem (OpSem.move (.inl rfl) rfl) rfl rfl (by decide) ?_
                refine TrOps.split (n := 60) rfl (fun c60 => ?_) (fun c60 => ?_)
                · refine TrOps.gF rfl rfl rfl rfl c60 rfl (by decide) ?_
                  refine TrOps.gF rfl rfl rfl rfl c60 rfl (by decide) ?_
                  refine TrOps.gF rfl rfl rfl rfl c60 rfl (by decide) ?_
                  refine TrOps.gF rfl rfl rfl rfl c60 rfl (by decide) ?_
                  refine TrOps.gF rfl rfl rfl rfl c60 rfl (by decide) ?_
                  refine TrOps.gF rfl rfl rfl rfl c60 rfl (by decide) ?_
                  refine TrOps.gF rfl rfl rfl rfl c60 rfl (by decide) ?_
                  refine TrOps.sem (OpSem.pickT rfl rfl c60 rfl) rfl rfl (by decide) ?_
                  refine TrOps.sem (OpSem.move (.inl rfl) rfl) rfl rfl (by decide) ?_
                  refine TrOps.gF rfl rfl rfl rfl rfl rfl (by decide) ?_
                  refine TrOps.gF rfl rfl rfl rfl rfl rfl (by decide) ?_
                  refine TrOps.gF rfl rfl rfl rfl rfl rfl (by decide) ?_
                  refine TrOps.gF rfl rfl rfl rfl rfl rfl (by decide) ?_
                  refine TrOps.gF rfl rfl rfl rfl rfl rfl (by decide) ?_
                  refine TrOps.gF rfl rfl rfl rfl rfl rfl (by decide) ?_
                  refine TrOps.gF rfl rfl rfl rfl rfl rfl (by decide) ?_
                  refine TrOps.sem (OpSem.pickT rfl rfl rfl rfl) rfl rfl (by decide) ?_
                  refine TrOps.sem (OpSem.move (.inr rfl) rfl) rfl rfl (by decide) ?_
                  refine TrOps.nil ?_
                  refine At.seq ?_
                  refine Tr.condT rfl rfl ?_
                  refine Tr.seq ?_
                  refine Tr.region ?_
                  refine TrOps.sem (OpSem.move (.inl rfl) rfl) rfl rfl (by decide) ?_
                  refine TrOps.sem (OpSem.build rfl rfl pl28 zc28 rfl rfl) rfl rfl (by decide) ?_
                  refine TrOps.storeb rfl rfl rfl rfl rfl rfl rfl vs28 (by first | decide | simp) ?_
                  refine TrOps.nil ?_
                  refine At.seq ?_
                  refine Tr.ret ?_
                  refine At.block_ret ?_
                  refine At.block_ret ?_
                  refine At.pass_ret ?_
                  refine At.pass_ret ?_
                  refine At.block_ret ?_
                  refine At.pass_ret ?_
                  exact At.ret rfl (.cellN rfl rfl vs28 <| .nil) rfl (Le.flt (absFault_5 h1 h2 h3 hk hinv (arcFault_3 (fun h => by have := h.1; simp at c60; omega)) (by decide)))
                · refine TrOps.gT rfl rfl rfl rfl c60 ?_
                  refine TrOps.sem (OpSem.move (.inl rfl) rfl) rfl rfl (by decide) ?_
                  refine TrOps.gT rfl rfl rfl rfl c60 ?_
                  refine TrOps.sem (OpSem.fieldr rfl rfl fo57_1) rfl rfl (by decide) ?_
                  refine TrOps.gT rfl rfl rfl rfl c60 ?_
                  refine TrOps.sem (OpSem.loadb1 rfl rfl rfl vs3 rfl) rfl rfl (by decide) ?_
                  refine TrOps.gT rfl rfl rfl rfl c60 ?_
                  refine TrOps.sem (OpSem.fieldr rfl rfl fo25_1) rfl rfl (by decide) ?_
                  refine TrOps.gT rfl rfl rfl rfl c60 ?_
                  refine TrOps.sem (OpSem.loadb1 rfl rfl rfl vs3 rfl) rfl rfl (by decide) ?_
                  refine TrOps.gT rfl rfl rfl rfl c60 ?_
                  refine TrOps.sem (OpSem.call0 (abstraction_Validate_1_does ..) rfl rfl rfl rfl (Les.refl _)) rfl rfl (by decide) ?_
                  refine TrOps.gT rfl rfl rfl rfl c60 ?_
                  refine TrOps.sem (OpSem.not rfl rfl) rfl rfl (by decide) ?_
                  refine TrOps.sem (OpSem.pickF rfl rfl c60 rfl) rfl rfl (by decide) ?_
                  refine TrOps.sem (OpSem.move (.inl rfl) rfl) rfl rfl (by decide) ?_
                  refine TrOps.split (n := 69) rfl (fun c69 => ?_) (fun c69 => ?_)
                  · refine TrOps.gF rfl rfl rfl rfl c69 rfl (by decide) ?_
                    refine TrOps.gF rfl rfl rfl rfl c69 rfl (by decide) ?_
                    refine TrOps.gF rfl rfl rfl rfl c69 rfl (by decide) ?_
                    refine TrOps.gF rfl rfl rfl rfl c69 rfl (by decide) ?_
                    refine TrOps.gF rfl rfl rfl rfl c69 rfl (by decide) ?_
                    refine TrOps.gF rfl rfl rfl rfl c69 rfl (by decide) ?_
                    refine TrOps.gF rfl rfl rfl rfl c69 rfl (by decide) ?_
                    refine TrOps.sem (OpSem.pickT rfl rfl c69 rfl) rfl rfl (by decide) ?_
                    refine TrOps.sem (OpSem.move (.inr rfl) rfl) rfl rfl (by decide) ?_
                    refine TrOps.nil ?_
                    refine At.seq ?_
                    refine Tr.condT rfl rfl ?_
                    refine Tr.seq ?_
                    refine Tr.region ?_
                    refine TrOps.sem (OpSem.move (.inl rfl) rfl) rfl rfl (by decide) ?_
                    refine TrOps.sem (OpSem.build rfl rfl pl28 zc28 rfl rfl) rfl rfl (by decide) ?_
                    refine TrOps.storeb rfl rfl rfl rfl rfl rfl rfl vs28 (by first | decide | simp) ?_
                    refine TrOps.nil ?_
                    refine At.seq ?_
                    refine Tr.ret ?_
                    refine At.block_ret ?_
                    refine At.block_ret ?_
                    refine At.pass_ret ?_
                    refine At.pass_ret ?_
                    refine At.block_ret ?_
                    refine At.pass_ret ?_
                    exact At.ret rfl (.cellN rfl rfl vs28 <| .nil) rfl (Le.flt (absFault_5 h1 h2 h3 hk hinv (arcFault_3 (fun h => by have := h.2; simp at c69; omega)) (by decide)))
                  · refine TrOps.gT rfl rfl rfl rfl c69 ?_
                    refine TrOps.sem (OpSem.move (.inl rfl) rfl) rfl rfl (by decide) ?_
                    refine TrOps.gT rfl rfl rfl rfl c69 ?_
                    refine TrOps.sem (OpSem.fieldr rfl rfl fo57_2) rfl rfl (by decide) ?_
                    refine TrOps.gT rfl rfl rfl rfl c69 ?_
                    refine TrOps.sem (OpSem.loadb1 rfl rfl rfl vs3 rfl) rfl rfl (by decide) ?_
                    refine TrOps.gT rfl rfl rfl rfl c69 ?_
                    refine TrOps.sem (OpSem.fieldr rfl rfl fo25_0) rfl rfl (by decide) ?_
                    refine TrOps.gT rfl rfl rfl rfl c69 ?_
                    refine TrOps.sem (OpSem.loadb1 rfl rfl rfl vs3 rfl) rfl rfl (by decide) ?_
                    refine TrOps.gT rfl rfl rfl rfl c69 ?_
                    refine TrOps.sem (OpSem.call0 (abstraction_Validate_1_does ..) rfl rfl rfl rfl (Les.refl _)) rfl rfl (by decide) ?_
                    refine TrOps.gT rfl rfl rfl rfl c69 ?_
                    refine TrOps.sem (OpSem.not rfl rfl) rfl rfl (by decide) ?_
                    refine TrOps.sem (OpSem.pickF rfl rfl c69 rfl) rfl rfl (by decide) ?_
                    refine TrOps.sem (OpSem.move (.inr rfl) rfl) rfl rfl (by decide) ?_
                    refine TrOps.nil ?_
                    refine At.seq ?_
                    refine Tr.cond rfl (fun c52 => ?_) (fun c52 => ?_)
                    · refine Tr.seq ?_
                      refine Tr.region ?_
                      refine TrOps.sem (OpSem.move (.inl rfl) rfl) rfl rfl (by decide) ?_
                      refine TrOps.sem (OpSem.build rfl rfl pl28 zc28 rfl rfl) rfl rfl (by decide) ?_
                      refine TrOps.storeb rfl rfl rfl rfl rfl rfl rfl vs28 (by first | decide | simp) ?_
                      refine TrOps.nil ?_
                      refine At.seq ?_
                      refine Tr.ret ?_
                      refine At.block_ret ?_
                      refine At.block_ret ?_
                      refine At.pass_ret ?_
                      refine At.pass_ret ?_
                      refine At.block_ret ?_
                      refine At.pass_ret ?_
                      exact At.ret rfl (.cellN rfl rfl vs28 <| .nil) rfl (Le.flt (absFault_5 h1 h2 h3 hk hinv (arcFault_3 (fun h => by have := h.2; simp at c52; omega)) (by decide)))
                    · have h4 : arcIn a (nth a.arcs k) := by simp at c60 c69 c52; exact ⟨by omega, by omega, by omega⟩
                      refine Tr.seq ?_
                      refine PC.start [] ?_
                      refine PC.sem (OpSem.move (.inl rfl) rfl) rfl rfl ?_
                      refine PC.sem (OpSem.bin rfl rfl rfl bgtr) rfl rfl ?_
                      refine PC.sem (OpSem.move (.inl rfl) rfl) rfl rfl ?_
                      refine PC.split (n := 83) rfl (fun c83 => ?_) (fun c83 => ?_)
                      · have hkp : 0 < k := by simp at c83; omega
                        refine PC.gT (OpSem.fieldr rfl rfl fo25_2) rfl rfl rfl rfl c83 rfl ?_
                        refine PC.gT (OpSem.loadb1 rfl rfl rfl vs22 rfl) rfl rfl rfl rfl c83 rfl ?_
                        refine PC.gT (OpSem.move (.inl rfl) rfl) rfl rfl rfl rfl c83 rfl ?_
                        refine PC.gT (OpSem.bin rfl rfl rfl (bsub (by omega) (by omega))) rfl rfl rfl rfl c83 rfl ?_
                        refine PC.gT (OpSem.idxL rfl rfl rfl es22 (by omega) (by omega)) rfl rfl rfl rfl c83 rfl ?_
                        refine PC.gT (OpSem.loadN rfl rfl vs57 (by first | decide | simp) rfl) rfl rfl rfl rfl c83 rfl ?_
                        refine PC.gT (OpSem.loadbN rfl rfl rfl vs57 (by first | decide | simp)) rfl rfl rfl rfl c83 rfl ?_
                        refine PC.done0 mixed (by kernel_rfl) (by kernel_rfl) (by kernel_rfl) (by kernel_rfl) (by kernel_rfl) ?_
                        refine TrOps.gT rfl rfl rfl rfl c83 ?_
                        refine TrOps.sem (OpSem.call0 (abstraction_Compare_does (nth a.arcs (k - 1 : Int)) (nth a.arcs k)) rfl rfl rfl rfl (Les.refl _)) rfl rfl (by decide) ?_
                        refine TrOps.gT rfl rfl rfl rfl c83 ?_
                        refine TrOps.sem (OpSem.bin rfl rfl rfl bgeq) rfl rfl (by decide) ?_
                        refine TrOps.sem (OpSem.pickT rfl rfl c83 rfl) rfl rfl (by decide) ?_
                        refine TrOps.sem (OpSem.move (.inr rfl) rfl) rfl rfl (by decide) ?_
                        refine TrOps.nil ?_
                        refine At.seq ?_
                        refine Tr.cond rfl (fun c80 => ?_) (fun c80 => ?_)
                        · refine Tr.seq ?_
                          refine Tr.region ?_
                          refine TrOps.sem (OpSem.move (.inl rfl) rfl) rfl rfl (by decide) ?_
                          refine TrOps.sem (OpSem.build rfl rfl pl28 zc28 rfl rfl) rfl rfl (by decide) ?_
                          refine TrOps.storeb rfl rfl rfl rfl rfl rfl rfl vs28 (by first | decide | simp) ?_
                          refine TrOps.nil ?_
                          refine At.seq ?_
                          refine Tr.ret ?_
                          refine At.block_ret ?_
                          refine At.block_ret ?_
                          refine At.pass_ret ?_
                          refine At.pass_ret ?_
                          refine At.block_ret ?_
                          refine At.pass_ret ?_
                          exact At.ret rfl (.cellN rfl rfl vs28 <| .nil) rfl (Le.flt (absFault_5 h1 h2 h3 hk hinv (arcFault_5 h4 ⟨hkp, cmpArc_ge.1 (by simpa using c80)⟩) (by decide)))
                        · have hb := arcFault_0 h4 (fun h => h.2 (cmpArc_lt.1 (by simpa using c80)))
                          refine Tr.skip ?_
                          refine At.block_normal ?_
                          refine At.block_normal ?_
                          refine At.seq ?_
                          refine Tr.region ?_
                          refine TrOps.sem (OpSem.bin rfl rfl rfl (badd (by omega) (by omega))) rfl rfl (by decide) ?_
                          refine TrOps.sem (OpSem.move (.inl rfl) rfl) rfl rfl (by decide) ?_
                          refine TrOps.nil ?_
                          refine At.again (k + 1) ⟨by omega, all_succ hinv hb⟩ ?_ (by omega)
                          exact .slot rfl (.refl _) <| .slot rfl (.refl _) <| .slot rfl (.refl _) <| .slot rfl (.refl _) <| .slot rfl (.refl _) <| .slot rfl (Le.of_eq (by simp)) <| .mem rfl <| .mem rfl <| .nil
                      · have hb := arcFault_0 h4 (fun h => by simp at c83; omega)
                        refine PC.gF rfl rfl rfl rfl c83 rfl ?_
                        refine PC.gF rfl rfl rfl rfl c83 rfl ?_
                        refine PC.gF rfl rfl rfl rfl c83 rfl ?_
                        refine PC.gF rfl rfl rfl rfl c83 rfl ?_
                        refine PC.gF rfl rfl rfl rfl c83 rfl ?_
                        refine PC.gF rfl rfl rfl rfl c83 rfl ?_
                        refine PC.gF rfl rfl rfl rfl c83 rfl ?_
                        refine PC.done0 mixed (by kernel_rfl) (by kernel_rfl) (by kernel_rfl) (by kernel_rfl) (by kernel_rfl) ?_
                        refine TrOps.gF rfl rfl rfl rfl c83 rfl (by decide) ?_
                        refine TrOps.gF rfl rfl rfl rfl c83 rfl (by decide) ?_
                        refine TrOps.sem (OpSem.pickF rfl rfl c83 rfl) rfl rfl (by decide) ?_
                        refine TrOps.sem (OpSem.move (.inr rfl) rfl) rfl rfl (by decide) ?_
                        refine TrOps.nil ?_
                        refine At.seq ?_
                        refine Tr.condF rfl rfl ?_
                        refine Tr.skip ?_
                        refine At.block_normal ?_
                        refine At.block_normal ?_
                        refine At.seq ?_
                        refine Tr.region ?_
                        refine TrOps.sem (OpSem.bin rfl rfl rfl (badd (by omega) (by omega))) rfl rfl (by decide) ?_
                        refine TrOps.sem (OpSem.move (.inl rfl) rfl) rfl rfl (by decide) ?_
                        refine TrOps.nil ?_
                        refine At.again (k + 1) ⟨by omega, all_succ hinv hb⟩ ?_ (by omega)
                        exact .slot rfl (.refl _) <| .slot rfl (.refl _) <| .slot rfl (.refl _) <| .slot rfl (.refl _) <| .slot rfl (.refl _) <| .slot rfl (Le.of_eq (by simp)) <| .mem rfl <| .mem rfl <| .nil
              · have hk : k = a.arcs.length := by simp at c48; omega
                refine Tr.exit ?_
                refine At.pass_exit ?_
                refine At.pass_exit ?_
                refine At.block_same ?_
                refine At.seq ?_
                refine Tr.seq ?_
                refine Tr.region ?_
                refine TrOps.sem (OpSem.build rfl rfl pl28 zc28 rfl rfl) rfl rfl (by decide) ?_
                refine TrOps.storeb rfl rfl rfl rfl rfl rfl rfl vs28 (by first | decide | simp) ?_
                refine TrOps.nil ?_
                refine At.seq ?_
                refine Tr.ret ?_
                exact At.ret rfl (.cellN rfl rfl vs28 <| .nil) rfl (Le.flt (by subst hk; exact absFault_0 h1 h2 h3 hinv))

theorem Q_AbstractionFault_does (a : Abs) : Does Try.prog false 13 [absS a] (flt (absFault a)) := by
  refine Does.of_body Try.func13 rfl rfl (by simp) Try.call13 (fun w0 O0 => ?_)
  refine Tr.lenG (n := 0) (i := 2) rfl rfl (fun len0_2 => ?_)
  refine Tr.lenG (n := 0) (i := 4) rfl rfl (fun len0_4 => ?_)
  refine Tr.seq ?_
  refine Tr.region ?_
  refine TrOps.semM (OpSem.box 1 rfl rfl rfl rfl) rfl rfl (by decide) ?_
  refine TrOps.semM (OpSem.alloc 2 rfl zc28 rfl) rfl rfl (by decide) ?_
  refine TrOps.nil ?_
  refine At.seq ?_
  refine Tr.seq ?_
  refine Tr.seq ?_
  refine Tr.region ?_
  refine TrOps.sem (OpSem.fieldr rfl rfl fo25_0) rfl rfl (by decide) ?_
  refine TrOps.sem (OpSem.loadb1 rfl rfl rfl vs3 rfl) rfl rfl (by decide) ?_
  refine TrOps.sem (OpSem.call0 (R_In_does ..) rfl rfl rfl rfl (Les.refl _)) rfl rfl (by decide) ?_
  refine TrOps.sem (OpSem.not rfl rfl) rfl rfl (by decide) ?_
  refine TrOps.sem (OpSem.move (.inl rfl) rfl) rfl rfl (by decide) ?_
  refine TrOps.split (n := 9) rfl (fun c9 => ?_) (fun c9 => ?_)
  · refine TrOps.gF rfl rfl rfl rfl c9 rfl (by decide) ?_
    refine TrOps.gF rfl rfl rfl rfl c9 rfl (by decide) ?_
    refine TrOps.gF rfl rfl rfl rfl c9 rfl (by decide) ?_
    refine TrOps.gF rfl rfl rfl rfl c9 rfl (by decide) ?_
    refine TrOps.sem (OpSem.pickT rfl rfl c9 rfl) rfl rfl (by decide) ?_
    refine TrOps.sem (OpSem.move (.inl rfl) rfl) rfl rfl (by decide) ?_
    refine TrOps.gF rfl rfl rfl rfl rfl rfl (by decide) ?_
    refine TrOps.gF rfl rfl rfl rfl rfl rfl (by decide) ?_
    refine TrOps.gF rfl rfl rfl rfl rfl rfl (by decide) ?_
    refine TrOps.gF rfl rfl rfl rfl rfl rfl (by decide) ?_
    refine TrOps.gF rfl rfl rfl rfl rfl rfl (by decide) ?_
    refine TrOps.gF rfl rfl rfl rfl rfl rfl (by decide) ?_
    refine TrOps.gF rfl rfl rfl rfl rfl rfl (by decide) ?_
    refine TrOps.sem (OpSem.pickT rfl rfl rfl rfl) rfl rfl (by decide) ?_
    refine TrOps.nil ?_
    refine At.seq ?_
    refine Tr.condT rfl rfl ?_
    refine Tr.seq ?_
    refine Tr.region ?_
    refine TrOps.sem (OpSem.call0 (R_At_does ..) rfl rfl rfl rfl (Les.refl _)) rfl rfl (by decide) ?_
    refine TrOps.storeb rfl rfl rfl rfl rfl rfl rfl vs28 (by first | decide | simp) ?_
    refine TrOps.nil ?_
    refine At.seq ?_
    refine Tr.ret ?_
    refine At.pass_ret ?_
    exact At.ret rfl (.cellN rfl rfl vs28 <| .nil) rfl (Le.flt (absFault_1 (fun h => by have := h.1; simp at c9; omega)))
  · refine TrOps.gT rfl rfl rfl rfl c9 ?_
    refine TrOps.sem (OpSem.fieldr rfl rfl fo25_1) rfl rfl (by decide) ?_
    refine TrOps.gT rfl rfl rfl rfl c9 ?_
    refine TrOps.sem (OpSem.loadb1 rfl rfl rfl vs3 rfl) rfl rfl (by decide) ?_
    refine TrOps.gT rfl rfl rfl rfl c9 ?_
    refine TrOps.sem (OpSem.call0 (R_In_does ..) rfl rfl rfl rfl (Les.refl _)) rfl rfl (by decide) ?_
    refine TrOps.gT rfl rfl rfl rfl c9 ?_
    refine TrOps.sem (OpSem.not rfl rfl) rfl rfl (by decide) ?_
    refine TrOps.sem (OpSem.pickF rfl rfl c9 rfl) rfl rfl (by decide) ?_
    refine TrOps.sem (OpSem.move (.inl rfl) rfl) rfl rfl (by decide) ?_
    refine TrOps.split (n := 15) rfl (fun c15 => ?_) (fun c15 => ?_)
    · refine TrOps.gF rfl rfl rfl rfl c15 rfl (by decide) ?_
      refine TrOps.gF rfl rfl rfl rfl c15 rfl (by decide) ?_
      refine TrOps.gF rfl rfl rfl rfl c15 rfl (by decide) ?_
      refine TrOps.gF rfl rfl rfl rfl c15 rfl (by decide) ?_
      refine TrOps.gF rfl rfl rfl rfl c15 rfl (by decide) ?_
      refine TrOps.gF rfl rfl rfl rfl c15 rfl (by decide) ?_
      refine TrOps.gF rfl rfl rfl rfl c15 rfl (by decide) ?_
      refine TrOps.sem (OpSem.pickT rfl rfl c15 rfl) rfl rfl (by decide) ?_
      refine TrOps.nil ?_
      refine At.seq ?_
      refine Tr.condT rfl rfl ?_
      refine Tr.seq ?_
      refine Tr.region ?_
      refine TrOps.sem (OpSem.call0 (R_At_does ..) rfl rfl rfl rfl (Les.refl _)) rfl rfl (by decide) ?_
      refine TrOps.storeb rfl rfl rfl rfl rfl rfl rfl vs28 (by first | decide | simp) ?_
      refine TrOps.nil ?_
      refine At.seq ?_
      refine Tr.ret ?_
      refine At.pass_ret ?_
      exact At.ret rfl (.cellN rfl rfl vs28 <| .nil) rfl (Le.flt (absFault_1 (fun h => by have := h.2; simp at c15; omega)))
    · refine TrOps.gT rfl rfl rfl rfl c15 ?_
      refine TrOps.sem (OpSem.fieldr rfl rfl fo25_3) rfl rfl (by decide) ?_
      refine TrOps.gT rfl rfl rfl rfl c15 ?_
      refine TrOps.sem (OpSem.loadb1 rfl rfl rfl vs3 rfl) rfl rfl (by decide) ?_
      refine TrOps.gT rfl rfl rfl rfl c15 ?_
      refine TrOps.sem (OpSem.fieldr rfl rfl fo25_0) rfl rfl (by decide) ?_
      refine TrOps.gT rfl rfl rfl rfl c15 ?_
      refine TrOps.sem (OpSem.loadb1 rfl rfl rfl vs3 rfl) rfl rfl (by decide) ?_
      refine TrOps.gT rfl rfl rfl rfl c15 ?_
      refine TrOps.sem (OpSem.bin rfl rfl rfl (bsub (by simp at c9; omega) (by simp at c9; omega))) rfl rfl (by decide) ?_
      refine TrOps.gT rfl rfl rfl rfl c15 ?_
      refine TrOps.sem (OpSem.call0 (R_In_does ..) rfl rfl rfl rfl (Les.refl _)) rfl rfl (by decide) ?_
      refine TrOps.gT rfl rfl rfl rfl c15 ?_
      refine TrOps.sem (OpSem.not rfl rfl) rfl rfl (by decide) ?_
      refine TrOps.sem (OpSem.pickF rfl rfl c15 rfl) rfl rfl (by decide) ?_
      refine TrOps.nil ?_
      refine At.seq ?_
      refine Tr.cond rfl (fun c23 => ?_) (fun c23 => ?_)
      · refine Tr.seq ?_
        refine Tr.region ?_
        refine TrOps.sem (OpSem.call0 (R_At_does ..) rfl rfl rfl rfl (Les.refl _)) rfl rfl (by decide) ?_
        refine TrOps.storeb rfl rfl rfl rfl rfl rfl rfl vs28 (by first | decide | simp) ?_
        refine TrOps.nil ?_
        refine At.seq ?_
        refine Tr.ret ?_
        refine At.pass_ret ?_
        exact At.ret rfl (.cellN rfl rfl vs28 <| .nil) rfl (Le.flt (absFault_1 (fun h => by have := h.2; simp at c23; omega)))
      · have h1 : headOk a := by simp at c9 c15 c23; exact ⟨by omega, by omega, by omega⟩
        refine Tr.skip ?_
        refine At.seq ?_
        refine Tr.seq ?_
        refine Tr.seq ?_
        refine Tr.region ?_
        refine TrOps.sem (OpSem.fieldr rfl rfl fo25_4) rfl rfl (by decide) ?_
        refine TrOps.sem (OpSem.loadb1 rfl rfl rfl vs23 rfl) rfl rfl (by decide) ?_
        refine TrOps.sem (OpSem.fieldr rfl rfl fo25_0) rfl rfl (by decide) ?_
        refine TrOps.sem (OpSem.loadb1 rfl rfl rfl vs3 rfl) rfl rfl (by decide) ?_
        refine TrOps.sem (OpSem.call0 (R_IsSet_does a.goals a.states (by omega)) rfl rfl rfl rfl (Les.refl _)) rfl rfl (by decide) ?_
        refine TrOps.sem (OpSem.not rfl rfl) rfl rfl (by decide) ?_
        refine TrOps.nil ?_
        refine At.seq ?_
        refine Tr.cond rfl (fun c30 => ?_) (fun c30 => ?_)
        · refine Tr.seq ?_
          refine Tr.region ?_
          refine TrOps.sem (OpSem.call0 (R_At_does ..) rfl rfl rfl rfl (Les.refl _)) rfl rfl (by decide) ?_
          refine TrOps.storeb rfl rfl rfl rfl rfl rfl rfl vs28 (by first | decide | simp) ?_
          refine TrOps.nil ?_
          refine At.seq ?_
          refine Tr.ret ?_
          refine At.pass_ret ?_
          exact At.ret rfl (.cellN rfl rfl vs28 <| .nil) rfl (Le.flt (absFault_2 h1 (by simpa using c30)))
        · have h2 : SetP a.states a.goals := by simpa using c30
          refine Tr.skip ?_
          refine At.seq ?_
          refine Tr.seq ?_
          refine Tr.seq ?_
          refine Tr.region ?_
          refine TrOps.sem (OpSem.fieldr rfl rfl fo25_2) rfl rfl (by decide) ?_
          refine TrOps.sem (OpSem.loadb1 rfl rfl rfl vs22 rfl) rfl rfl (by decide) ?_
          refine TrOps.sem (OpSem.lenL rfl rfl es22) rfl rfl (by decide) ?_
          refine TrOps.sem (OpSem.bin rfl rfl rfl bgtr) rfl rfl (by decide) ?_
          refine TrOps.nil ?_
          refine At.seq ?_
          refine Tr.cond rfl (fun c35 => ?_) (fun c35 => ?_)
          · refine Tr.seq ?_
            refine Tr.region ?_
            refine TrOps.sem (OpSem.call0 (R_At_does ..) rfl rfl rfl rfl (Les.refl _)) rfl rfl (by decide) ?_
            refine TrOps.storeb rfl rfl rfl rfl rfl rfl rfl vs28 (by first | decide | simp) ?_
            refine TrOps.nil ?_
            refine At.seq ?_
            refine Tr.ret ?_
            refine At.pass_ret ?_
            exact At.ret rfl (.cellN rfl rfl vs28 <| .nil) rfl (Le.flt (absFault_3 h1 h2 (by simp at c35; omega)))
          · have h3 : ¬ 400 < a.arcs.length := by simp at c35; omega
            refine Tr.skip ?_
            refine At.seq ?_
            refine Tr.seq ?_
            refine Tr.seq ?_
            refine Tr.region ?_
            refine TrOps.sem (OpSem.move (.inr rfl) rfl) rfl rfl (by decide) ?_
            refine TrOps.nil ?_
            refine At.seq ?_
            refine Tr.block ?_
            refine Tr.loop (X := Nat) (fun k => k ≤ a.arcs.length ∧ ∀ i : Nat, i < k → arcFault a i = (0, 0)) (fun k => [(1, .r 1 0), (2, .r 2 0), (3, I (k))]) (fun k => [(1, .box [I (a.states), I (a.labels), .d (arcsD a.arcs), I (a.init), .d (ints a.goals)]), (2, .box [I (0), I (0)])]) (fun k => a.arcs.length - k) 0 ⟨by omega, by simp⟩ ?_ ?_
            · exact .slot rfl (.refl _) <| .slot rfl (.refl _) <| .slot rfl (Le.of_eq (by simp)) <| .mem rfl <| .mem rfl <| .nil
            · rintro k ⟨hkl, hinv⟩
              refine Tr.seq ?_
              refine Tr.seq ?_
              refine Tr.region ?_
              refine TrOps.sem (OpSem.move (.inl rfl) rfl) rfl rfl (by decide) ?_
              refine TrOps.sem (OpSem.fieldr rfl rfl fo25_2) rfl rfl (by decide) ?_
              refine TrOps.sem (OpSem.loadb1 rfl rfl rfl vs22 rfl) rfl rfl (by decide) ?_
              refine TrOps.sem (OpSem.lenL rfl rfl es22) rfl rfl (by decide) ?_
              refine TrOps.sem (OpSem.bin rfl rfl rfl blss) rfl rfl (by decide) ?_
              refine TrOps.nil ?_
              refine At.seq ?_
              refine Tr.cond rfl (fun c41 => ?_) (fun c41 => ?_)
              · have hk : k < a.arcs.length := by simpa using c41
                refine Tr.skip ?_
                refine At.seq ?_
                refine Tr.seq ?_
                refine Tr.block ?_
                refine Tr.seq ?_
                refine Tr.region ?_
                refine TrOps.sem (OpSem.fieldr rfl rfl fo25_2) rfl rfl (by decide) ?_
                refine TrOps.sem (OpSem.loadb1 rfl rfl rfl vs22 rfl) rfl rfl (by decide) ?_
                refine TrOps.sem (OpSem.move (.inl rfl) rfl) rfl rfl (by decide) ?_
                refine TrOps.sem (OpSem.idxL rfl rfl rfl es22 (by omega) (by omega)) rfl rfl (by decide) ?_
                refine TrOps.sem (OpSem.loadN rfl rfl vs57 (by first | decide | simp) rfl) rfl rfl (by decide) ?_
                refine TrOps.semM (OpSem.alloc 4 rfl zc57 rfl) rfl rfl (by decide) ?_
                refine TrOps.storeb rfl rfl rfl rfl rfl rfl rfl vs57 (by first | decide | simp) ?_
                refine TrOps.nil ?_
                refine At.seq ?_
                refine Tr.seq ?_
                refine Tr.seq ?_
                refine Tr.region ?_
                refine TrOps.sem (OpSem.fieldr rfl rfl fo57_0) rfl rfl (by decide) ?_
                refine TrOps.sem (OpSem.loadb1 rfl rfl rfl vs3 rfl) rfl rfl (by decide) ?_
                refine TrOps.sem (OpSem.fieldr rfl rfl fo25_0) rfl rfl (by decide) ?_
                refine TrOps.sem (OpSem.loadb1 rfl rfl rfl vs3 rfl) rfl rfl (by decide) ?_
                refine TrOps.sem (OpSem.bin rfl rfl rfl (bsub (by omega) (by omega))) rfl rfl (by decide) ?_
                refine TrOps.sem (OpSem.call0 (R_In_does ..) rfl rfl rfl rfl (Les.refl _)) rfl rfl (by decide) ?_
                refine TrOps.sem (OpSem.not rfl rfl) rfl rfl (by decide) ?_
                refine TrOps.sem (OpSem.move (.inl rfl) rfl) rfl rfl (by decide) ?_
                refine TrOps.split (n := 56) rfl (fun c56 => ?_) (fun c56 => ?_)
                · refine TrOps.gF rfl rfl rfl rfl c56 rfl (by decide) ?_
                  refine TrOps.gF rfl rfl rfl rfl c56 rfl (by decide) ?_
                  refine TrOps.gF rfl rfl rfl rfl c56 rfl (by decide) ?_
                  refine TrOps.gF rfl rfl rfl rfl c56 rfl (by decide) ?_
                  refine TrOps.gF rfl rfl rfl rfl c56 rfl (by decide) ?_
                  refine TrOps.gF rfl rfl rfl rfl c56 rfl (by decide) ?_
                  refine TrOps.gF rfl rfl rfl rfl c56 rfl (by decide) ?_
                  refine TrOps.sem (OpSem.pickT rfl rfl c56 rfl) rfl rfl (by decide) ?_
                  refine TrOps.sem (OpSem.move (.inl rfl) rfl) rfl rfl (by decide) ?_
                  refine TrOps.gF rfl rfl rfl rfl rfl rfl (by decide) ?_
                  refine TrOps.gF rfl rfl rfl rfl rfl rfl (by decide) ?_
                  refine TrOps.gF rfl rfl rfl rfl rfl rfl (by decide) ?_
                  refine TrOps.gF rfl rfl rfl rfl rfl rfl (by decide) ?_
                  refine TrOps.gF rfl rfl rfl rfl rfl rfl (by decide) ?_
                  refine TrOps.gF rfl rfl rfl rfl rfl rfl (by decide) ?_
                  refine TrOps.gF rfl rfl rfl rfl rfl rfl (by decide) ?_
                  refine TrOps.sem (OpSem.pickT rfl rfl rfl rfl) rfl rfl (by decide) ?_
                  refine TrOps.nil ?_
                  refine At.seq ?_
                  refine Tr.condT rfl rfl ?_
                  refine Tr.seq ?_
                  refine Tr.region ?_
                  refine TrOps.sem (OpSem.move (.inl rfl) rfl) rfl rfl (by decide) ?_
                  refine TrOps.sem (OpSem.call0 (R_At_does ..) rfl rfl rfl rfl (Les.refl _)) rfl rfl (by decide) ?_
                  refine TrOps.storeb rfl rfl rfl rfl rfl rfl rfl vs28 (by first | decide | simp) ?_
                  refine TrOps.nil ?_
                  refine At.seq ?_
                  refine Tr.ret ?_
                  refine At.pass_ret ?_
                  refine At.block_ret ?_
                  refine At.pass_ret ?_
                  refine At.pass_ret ?_
                  refine At.block_ret ?_
                  refine At.pass_ret ?_
                  exact At.ret rfl (.cellN rfl rfl vs28 <| .nil) rfl (Le.flt (absFault_5 h1 h2 h3 hk hinv (arcFault_3 (fun h => by have := h.1; simp at c56; omega)) (by simp)))
                · refine TrOps.gT rfl rfl rfl rfl c56 ?_
                  refine TrOps.sem (OpSem.fieldr rfl rfl fo57_2) rfl rfl (by decide) ?_
                  refine TrOps.gT rfl rfl rfl rfl c56 ?_
                  refine TrOps.sem (OpSem.loadb1 rfl rfl rfl vs3 rfl) rfl rfl (by decide) ?_
                  refine TrOps.gT rfl rfl rfl rfl c56 ?_
                  refine TrOps.sem (OpSem.fieldr rfl rfl fo25_0) rfl rfl (by decide) ?_
                  refine TrOps.gT rfl rfl rfl rfl c56 ?_
                  refine TrOps.sem (OpSem.loadb1 rfl rfl rfl vs3 rfl) rfl rfl (by decide) ?_
                  refine TrOps.gT rfl rfl rfl rfl c56 ?_
                  refine TrOps.sem (OpSem.bin rfl rfl rfl (bsub (by omega) (by omega))) rfl rfl (by decide) ?_
                  refine TrOps.gT rfl rfl rfl rfl c56 ?_
                  refine TrOps.sem (OpSem.call0 (R_In_does ..) rfl rfl rfl rfl (Les.refl _)) rfl rfl (by decide) ?_
                  refine TrOps.gT rfl rfl rfl rfl c56 ?_
                  refine TrOps.sem (OpSem.not rfl rfl) rfl rfl (by decide) ?_
                  refine TrOps.sem (OpSem.pickF rfl rfl c56 rfl) rfl rfl (by decide) ?_
                  refine TrOps.sem (OpSem.move (.inl rfl) rfl) rfl rfl (by decide) ?_
                  refine TrOps.split (n := 65) rfl (fun c65 => ?_) (fun c65 => ?_)
                  · refine TrOps.gF rfl rfl rfl rfl c65 rfl (by decide) ?_
                    refine TrOps.gF rfl rfl rfl rfl c65 rfl (by decide) ?_
                    refine TrOps.gF rfl rfl rfl rfl c65 rfl (by decide) ?_
                    refine TrOps.gF rfl rfl rfl rfl c65 rfl (by decide) ?_
                    refine TrOps.gF rfl rfl rfl rfl c65 rfl (by decide) ?_
                    refine TrOps.gF rfl rfl rfl rfl c65 rfl (by decide) ?_
                    refine TrOps.gF rfl rfl rfl rfl c65 rfl (by decide) ?_
                    refine TrOps.sem (OpSem.pickT rfl rfl c65 rfl) rfl rfl (by decide) ?_
                    refine TrOps.nil ?_
                    refine At.seq ?_
                    refine Tr.condT rfl rfl ?_
                    refine Tr.seq ?_
                    refine Tr.region ?_
                    refine TrOps.sem (OpSem.move (.inl rfl) rfl) rfl rfl (by decide) ?_
                    refine TrOps.sem (OpSem.call0 (R_At_does ..) rfl rfl rfl rfl (Les.refl _)) rfl rfl (by decide) ?_
                    refine TrOps.storeb rfl rfl rfl rfl rfl rfl rfl vs28 (by first | decide | simp) ?_
                    refine TrOps.nil ?_
                    refine At.seq ?_
                    refine Tr.ret ?_
                    refine At.pass_ret ?_
                    refine At.block_ret ?_
                    refine At.pass_ret ?_
                    refine At.pass_ret ?_
                    refine At.block_ret ?_
                    refine At.pass_ret ?_
                    exact At.ret rfl (.cellN rfl rfl vs28 <| .nil) rfl (Le.flt (absFault_5 h1 h2 h3 hk hinv (arcFault_3 (fun h => by have := h.2; simp at c65; omega)) (by simp)))
                  · refine TrOps.gT rfl rfl rfl rfl c65 ?_
                    refine TrOps.sem (OpSem.fieldr rfl rfl fo57_1) rfl rfl (by decide) ?_
                    refine TrOps.gT rfl rfl rfl rfl c65 ?_
                    refine TrOps.sem (OpSem.loadb1 rfl rfl rfl vs3 rfl) rfl rfl (by decide) ?_
                    refine TrOps.gT rfl rfl rfl rfl c65 ?_
                    refine TrOps.sem (OpSem.fieldr rfl rfl fo25_1) rfl rfl (by decide) ?_
                    refine TrOps.gT rfl rfl rfl rfl c65 ?_
                    refine TrOps.sem (OpSem.loadb1 rfl rfl rfl vs3 rfl) rfl rfl (by decide) ?_
                    refine TrOps.gT rfl rfl rfl rfl c65 ?_
                    refine TrOps.sem (OpSem.bin rfl rfl rfl (bsub (by omega) (by omega))) rfl rfl (by decide) ?_
                    refine TrOps.gT rfl rfl rfl rfl c65 ?_
                    refine TrOps.sem (OpSem.call0 (R_In_does ..) rfl rfl rfl rfl (Les.refl _)) rfl rfl (by decide) ?_
                    refine TrOps.gT rfl rfl rfl rfl c65 ?_
                    refine TrOps.sem (OpSem.not rfl rfl) rfl rfl (by decide) ?_
                    refine TrOps.sem (OpSem.pickF rfl rfl c65 rfl) rfl rfl (by decide) ?_
                    refine TrOps.nil ?_
                    refine At.seq ?_
                    refine Tr.cond rfl (fun c73 => ?_) (fun c73 => ?_)
                    · refine Tr.seq ?_
                      refine Tr.region ?_
                      refine TrOps.sem (OpSem.move (.inl rfl) rfl) rfl rfl (by decide) ?_
                      refine TrOps.sem (OpSem.call0 (R_At_does ..) rfl rfl rfl rfl (Les.refl _)) rfl rfl (by decide) ?_
                      refine TrOps.storeb rfl rfl rfl rfl rfl rfl rfl vs28 (by first | decide | simp) ?_
                      refine TrOps.nil ?_
                      refine At.seq ?_
                      refine Tr.ret ?_
                      refine At.pass_ret ?_
                      refine At.block_ret ?_
                      refine At.pass_ret ?_
                      refine At.pass_ret ?_
                      refine At.block_ret ?_
                      refine At.pass_ret ?_
                      exact At.ret rfl (.cellN rfl rfl vs28 <| .nil) rfl (Le.flt (absFault_5 h1 h2 h3 hk hinv (arcFault_3 (fun h => by have := h.2; simp at c73; omega)) (by simp)))
                    · have h4 : arcIn a (nth a.arcs k) := by simp at c56 c65 c73; exact ⟨by omega, by omega, by omega⟩
                      refine Tr.skip ?_
                      refine At.seq ?_
                      refine Tr.seq ?_
                      refine PC.start [] ?_
                      refine PC.sem (OpSem.move (.inl rfl) rfl) rfl rfl ?_
                      refine PC.sem (OpSem.bin rfl rfl rfl bgtr) rfl rfl ?_
                      refine PC.sem (OpSem.move (.inl rfl) rfl) rfl rfl ?_
                      refine PC.split (n := 78) rfl (fun c78 => ?_) (fun c78 => ?_)
                      · have hkp : 0 < k := by simp at c78; omega
                        refine PC.gT (OpSem.fieldr rfl rfl fo25_2) rfl rfl rfl rfl c78 rfl ?_
                        refine PC.gT (OpSem.loadb1 rfl rfl rfl vs22 rfl) rfl rfl rfl rfl c78 rfl ?_
                        refine PC.gT (OpSem.move (.inl rfl) rfl) rfl rfl rfl rfl c78 rfl ?_
                        refine PC.gT (OpSem.bin rfl rfl rfl (bsub (by omega) (by omega))) rfl rfl rfl rfl c78 rfl ?_
                        refine PC.gT (OpSem.idxL rfl rfl rfl es22 (by omega) (by omega)) rfl rfl rfl rfl c78 rfl ?_
                        refine PC.gT (OpSem.loadN rfl rfl vs57 (by first | decide | simp) rfl) rfl rfl rfl rfl c78 rfl ?_
                        refine PC.gT (OpSem.loadbN rfl rfl rfl vs57 (by first | decide | simp)) rfl rfl rfl rfl c78 rfl ?_
                        refine PC.done0 mixed (by kernel_rfl) (by kernel_rfl) (by kernel_rfl) (by kernel_rfl) (by kernel_rfl) ?_
                        refine TrOps.gT rfl rfl rfl rfl c78 ?_
                        refine TrOps.sem (OpSem.call0 (Q_ArcLess_does (nth a.arcs (k - 1 : Int)) (nth a.arcs k)) rfl rfl rfl rfl (Les.refl _)) rfl rfl (by decide) ?_
                        refine TrOps.gT rfl rfl rfl rfl c78 ?_
                        refine TrOps.sem (OpSem.not rfl rfl) rfl rfl (by decide) ?_
                        refine TrOps.sem (OpSem.pickT rfl rfl c78 rfl) rfl rfl (by decide) ?_
                        refine TrOps.nil ?_
                        refine At.seq ?_
                        refine Tr.cond rfl (fun c88 => ?_) (fun c88 => ?_)
                        · refine Tr.seq ?_
                          refine Tr.region ?_
                          refine TrOps.sem (OpSem.move (.inl rfl) rfl) rfl rfl (by decide) ?_
                          refine TrOps.sem (OpSem.call0 (R_At_does ..) rfl rfl rfl rfl (Les.refl _)) rfl rfl (by decide) ?_
                          refine TrOps.storeb rfl rfl rfl rfl rfl rfl rfl vs28 (by first | decide | simp) ?_
                          refine TrOps.nil ?_
                          refine At.seq ?_
                          refine Tr.ret ?_
                          refine At.block_ret ?_
                          refine At.pass_ret ?_
                          refine At.pass_ret ?_
                          refine At.block_ret ?_
                          refine At.pass_ret ?_
                          exact At.ret rfl (.cellN rfl rfl vs28 <| .nil) rfl (Le.flt (absFault_5 h1 h2 h3 hk hinv (arcFault_5 h4 ⟨hkp, of_decide_eq_false (by simpa only [Bool.not_eq_true'] using c88)⟩) (by simp)))
                        · have hb := arcFault_0 h4 (fun h => h.2 (of_decide_eq_true (by simpa only [Bool.not_eq_false'] using c88)))
                          refine Tr.skip ?_
                          refine At.block_normal ?_
                          refine At.seq ?_
                          refine Tr.region ?_
                          refine TrOps.sem (OpSem.move (.inl rfl) rfl) rfl rfl (by decide) ?_
                          refine TrOps.sem (OpSem.bin rfl rfl rfl (badd (by omega) (by omega))) rfl rfl (by decide) ?_
                          refine TrOps.sem (OpSem.move (.inr rfl) rfl) rfl rfl (by decide) ?_
                          refine TrOps.nil ?_
                          refine At.again (k + 1) ⟨by omega, all_succ hinv hb⟩ ?_ (by omega)
                          exact .slot rfl (.refl _) <| .slot rfl (.refl _) <| .slot rfl (Le.of_eq (by simp)) <| .mem rfl <| .mem rfl <| .nil
                      · have hb := arcFault_0 h4 (fun h => by simp at c78; omega)
                        refine PC.gF rfl rfl rfl rfl c78 rfl ?_
                        refine PC.gF rfl rfl rfl rfl c78 rfl ?_
                        refine PC.gF rfl rfl rfl rfl c78 rfl ?_
                        refine PC.gF rfl rfl rfl rfl c78 rfl ?_
                        refine PC.gF rfl rfl rfl rfl c78 rfl ?_
                        refine PC.gF rfl rfl rfl rfl c78 rfl ?_
                        refine PC.gF rfl rfl rfl rfl c78 rfl ?_
                        refine PC.done0 mixed (by kernel_rfl) (by kernel_rfl) (by kernel_rfl) (by kernel_rfl) (by kernel_rfl) ?_
                        refine TrOps.gF rfl rfl rfl rfl c78 rfl (by decide) ?_
                        refine TrOps.gF rfl rfl rfl rfl c78 rfl (by decide) ?_
                        refine TrOps.sem (OpSem.pickF rfl rfl c78 rfl) rfl rfl (by decide) ?_
                        refine TrOps.nil ?_
                        refine At.seq ?_
                        refine Tr.condF rfl rfl ?_
                        refine Tr.skip ?_
                        refine At.block_normal ?_
                        refine At.seq ?_
                        refine Tr.region ?_
                        refine TrOps.sem (OpSem.move (.inl rfl) rfl) rfl rfl (by decide) ?_
                        refine TrOps.sem (OpSem.bin rfl rfl rfl (badd (by omega) (by omega))) rfl rfl (by decide) ?_
                        refine TrOps.sem (OpSem.move (.inr rfl) rfl) rfl rfl (by decide) ?_
                        refine TrOps.nil ?_
                        refine At.again (k + 1) ⟨by omega, all_succ hinv hb⟩ ?_ (by omega)
                        exact .slot rfl (.refl _) <| .slot rfl (.refl _) <| .slot rfl (Le.of_eq (by simp)) <| .mem rfl <| .mem rfl <| .nil
              · have hk : k = a.arcs.length := by simp at c41; omega
                refine Tr.exit ?_
                refine At.pass_exit ?_
                refine At.pass_exit ?_
                refine At.block_same ?_
                refine At.seq ?_
                refine Tr.seq ?_
                refine Tr.region ?_
                refine TrOps.sem (OpSem.build rfl rfl pl28 zc28 rfl rfl) rfl rfl (by decide) ?_
                refine TrOps.storeb rfl rfl rfl rfl rfl rfl rfl vs28 (by first | decide | simp) ?_
                refine TrOps.nil ?_
                refine At.seq ?_
                refine Tr.ret ?_
                exact At.ret rfl (.cellN rfl rfl vs28 <| .nil) rfl (Le.flt (by subst hk; exact absFault_0 h1 h2 h3 hinv))

end Go.Proofs.Ythgcnfolgbaemaa
end

section
/- Plans of a task and of its projections; compatible patterns. -/

set_option linter.unusedVariables false
set_option linter.unusedSimpArgs false
set_option linter.unusedSectionVars false
namespace Go.Eng
open Go
abbrev StepP (n : Int) (plan : List Int) : Prop := ∀ i : Nat, i < plan.length → 0 ≤ nth plan i ∧ nth plan i < n
def stepsF (n : Int) (plan : List Int) : Int × Int := if 60 < plan.length then (2, -5) else if ¬ StepP n plan then (3, -6) else (0, 0)
def planF (m : Multi) (plan : List Int) : Int × Int := if validate m = (0, 0) then stepsF m.ops.length plan else validate m
def itS (m : Multi) (plan : List Int) : Nat → List Int
  | 0 => m.init
  | k + 1 => nextS (itS m plan k) (nth m.ops (nth plan k)).post
abbrev okTo (m : Multi) (plan : List Int) (k : Nat) : Prop := ∀ i : Nat, i < k → holds (itS m plan i) (nth m.ops (nth plan i)).pre = true
def solvesB (m : Multi) (plan : List Int) : Bool := decide (okTo m plan plan.length) && holds (itS m plan plan.length) m.goal
def solvesR (m : Multi) (plan : List Int) : Bool := decide (planF m plan = (0, 0)) && solvesB m plan
/-! ### Compatible patterns -/
/-- An operator changes a variable of the pattern. -/
def chg (l : List Asg) (vars : List Int) : Bool := l.any fun x => decide (x.1 ∈ vars)
def compat (m : Multi) (a b : List Int) : Bool := !(m.ops.any fun o => chg o.post a && chg o.post b)
/-! ### Finite costs are small -/
def liftI (L c : Int) : Int := if L + 100 < c ∧ c < 1000000000 then c + 1 else c
section
variable {m : Multi} (hv : Valid m)
include hv
end
end Go.Eng
end

section
/- The greatest sum of the values of compatible patterns, found in two ways. -/

set_option linter.unusedVariables false
set_option linter.unusedSimpArgs false
set_option linter.unusedSectionVars false
namespace Go.Eng
open Go
def plusI (a b : Int) : Int := if a = 1000000000 ∨ b = 1000000000 then 1000000000 else min (a + b) 999999999
abbrev ValsOk (V : List Int) : Prop := ∀ i : Nat, i < V.length → 0 ≤ nth V i ∧ nth V i ≤ 1000000000 ∧ (nth V i < 1000000000 → nth V i ≤ 200000)
def bestV (V : List Int) (C : Nat → Nat → Bool) : Nat → Nat → List Nat → Int
  | 0, _, _ => 0
  | n + 1, i, ch => if ch.any (fun k => !C i k) = true then bestV V C n (i + 1) ch else max (bestV V C n (i + 1) ch) (plusI (nth V i) (bestV V C n (i + 1) (ch ++ [i])))
/-- The sum of the values of some of the places from i on. -/
def sumR (V : List Int) (p : Nat → Bool) : Nat → Nat → Int
  | _, 0 => 0
  | i, n + 1 => if p i = true then plusI (nth V i) (sumR V p (i + 1) n) else sumR V p (i + 1) n
def putB (p : Nat → Bool) (i : Nat) (b : Bool) : Nat → Bool := fun x => if x = i then b else p x
section
variable {V : List Int} (hV : ValsOk V) {C : Nat → Nat → Bool}
include hV
abbrev FitsR (C : Nat → Nat → Bool) (p : Nat → Bool) (i n : Nat) (ch : List Nat) : Prop := (∀ x, i ≤ x → x < i + n → p x = true → ∀ k, k ∈ ch → C x k = true) ∧ ∀ x, i ≤ x → x < i + n → p x = true → ∀ y, i ≤ y → y < x → p y = true → C x y = true
omit hV in
theorem putB_same {p : Nat → Bool} {i : Nat} {b : Bool} : putB p i b i = b := by unfold putB; rw [if_pos rfl]
omit hV in
theorem putB_ne {p : Nat → Bool} {i x : Nat} {b : Bool} (h : x ≠ i) : putB p i b x = p x := by unfold putB; rw [if_neg h]
end
/-! ### The same sum from the other end -/
def sumL (V : List Int) (p : Nat → Bool) : Nat → Int
  | 0 => 0
  | k + 1 => if p k = true then (if nth V k = 1000000000 ∨ sumL V p k = 1000000000 then 1000000000 else sumL V p k + nth V k) else sumL V p k
/-- Plainly added. -/
def seg (V : List Int) (p : Nat → Bool) (i : Nat) : Nat → Int
  | 0 => 0
  | n + 1 => seg V p i n + (if p (i + n) = true then nth V ((i + n : Nat) : Int) else 0)
abbrev InfR (V : List Int) (p : Nat → Bool) (i n : Nat) : Prop := ∃ x, i ≤ x ∧ x < i + n ∧ p x = true ∧ nth V x = 1000000000
section
variable {V : List Int} (hV : ValsOk V)
include hV
end
/-! ### Words as sets -/
def bitI (w : Nat) (i : Nat) : Bool := decide (w / 2 ^ i % 2 = 1)
def wordOf (p : Nat → Bool) : Nat → Nat
  | 0 => 0
  | k + 1 => wordOf p k + (if p k = true then 2 ^ k else 0)
abbrev FitsW (C : Nat → Nat → Bool) (n w : Nat) : Prop := ∀ i : Nat, i < n → bitI w i = true → ∀ k : Nat, k < i → bitI w k = true → C i k = true
instance {C : Nat → Nat → Bool} {n w : Nat} : Decidable (FitsW C n w) := inferInstance
def bestW (V : List Int) (C : Nat → Nat → Bool) (n : Nat) : Nat → Int
  | 0 => 0
  | w + 1 => if FitsW C n w then max (bestW V C n w) (sumL V (bitI w) n) else bestW V C n w
/-! ### Sums are admissible -/
abbrev PatsOk (m : Multi) (pats : List (List Int)) : Prop := ∀ i : Nat, i < pats.length → (nth pats i).length ≠ 0 ∧ PatP m.sizes (nth pats i) ∧ prodTo m.sizes (nth pats i) (nth pats i).length ≤ 2000
noncomputable def valsL (m : Multi) (pats : List (List Int)) (s : List Int) : List Int := pats.map fun vars => pval m vars s
def cmpF (m : Multi) (pats : List (List Int)) (i k : Nat) : Bool := compat m (nth pats i) (nth pats k)
section
variable {m : Multi} {pats : List (List Int)} (hv : Valid m) (hp : PatsOk m pats)
include hv hp
end
/-! ### The order does not matter -/
/-! ### Faults and answers of the package -/
def cmpT (m : Multi) (a b : List Int) : Int × Int := if projFault m a = (0, 0) then patFault m.sizes b (-9) else projFault m a
def cmpR (m : Multi) (a b : List Int) : Bool := decide (cmpT m a b = (0, 0)) && compat m a b
/-- The fault of the patterns. -/
def patsF (m : Multi) (pats : List (List Int)) (s : List Int) : Nat → Int × Int
  | 0 => (0, 0)
  | k + 1 => if patsF m pats s k = (0, 0) then (if valF m (nth pats k) s = (0, 0) then (0, 0) else ((valF m (nth pats k) s).1, k)) else patsF m pats s k
def addF (m : Multi) (pats : List (List Int)) (s : List Int) : Int × Int := if stateFault m s ≠ (0, 0) then stateFault m s else if 6 < pats.length then (2, -9) else patsF m pats s pats.length
noncomputable def addR (m : Multi) (pats : List (List Int)) (s : List Int) : Int := if addF m pats s = (0, 0) then bestV (valsL m pats s) (cmpF m pats) pats.length 0 [] else 0
/-! ### The walk's words -/
noncomputable def valsTo (m : Multi) (pats : List (List Int)) (s : List Int) (k : Nat) : List Int := (List.range k).map fun (i : Nat) => valR m (nth pats i) s
def chI (ch : List Nat) : List Int := ch.map fun (k : Nat) => (k : Int)
end Go.Eng
end

section
/- The laws of sums of patterns. -/


set_option linter.unusedVariables false
set_option linter.unusedSimpArgs false
set_option linter.unusedSectionVars false
namespace Go.Eng
open Go
def backTo (pats : List (List Int)) : Nat → List (List Int)
  | 0 => []
  | k + 1 => backTo pats k ++ [nth pats ((pats.length - 1 - k : Nat) : Int)]
/-! ### Shifts -/
/-! ### The greatest sum, word by word -/
def fitK (C : Nat → Nat → Bool) (w i : Nat) : Nat → Bool
  | 0 => true
  | k + 1 => fitK C w i k && (!bitI w k || C i k)
/-! ### The fault, pattern by pattern -/
def patA (m : Multi) (pats : List (List Int)) (k : Nat) : Int × Int := patFault m.sizes (nth pats k) k
def addK (m : Multi) (pats : List (List Int)) (s : List Int) (k : Nat) : Int × Int := if stateFault m s ≠ (0, 0) then stateFault m s else if 6 < pats.length then (2, -9) else patsF m pats s k
end Go.Eng
end

section
/- Cost partitions. -/


set_option linter.unusedVariables false
set_option linter.unusedSimpArgs false
set_option linter.unusedSectionVars false
namespace Go.Eng
open Go
/-! ### The first fault of several -/
def firstF (f : Nat → Int × Int) : Nat → Int × Int
  | 0 => (0, 0)
  | k + 1 => if firstF f k = (0, 0) then f k else firstF f k
/-! ### Abstractions with costs of labels -/
def labA (c : List Int) (a : Abs) (k : Int) : Int × Int := if (absFault a).1 ≠ 0 then ((absFault a).1, k) else if a.labels ≠ c.length then (9, k) else (0, 0)
def labF (l : List Abs) (c : List Int) : Int × Int := if 6 < l.length then (2, -1) else if costFault c (min (c.length : Int) 40) (-4) ≠ (0, 0) then costFault c (min (c.length : Int) 40) (-4) else firstF (fun k => labA c (nth l k) k) l.length
/-! ### Parts -/
def prtF (c : List Int) (ps : List (List Int)) : Int × Int := if labF [] c ≠ (0, 0) then labF [] c else if 6 < ps.length then (2, -1) else firstF (fun k => costFault (nth ps k) c.length k) ps.length
def colS (ps : List (List Int)) (x : Nat) : Nat → Int
  | 0 => 0
  | k + 1 => colS ps x k + nth (nth ps k) x
abbrev FitsP (c : List Int) (ps : List (List Int)) : Prop := ∀ x : Nat, x < c.length → colS ps x ps.length ≤ nth c x
/-! ### Equal parts -/
def shareI (c n i : Int) : Int := c / n + (if i < c % n then 1 else 0)
def uniF (c : List Int) (n : Int) : Int × Int := if labF [] c ≠ (0, 0) then labF [] c else if n < 1 ∨ 6 < n then (3, -5) else (0, 0)
def rowTo (c : List Int) (n i : Int) (j : Nat) : List Int := (c.take j).map fun x => shareI x n i
def uniTo (c : List Int) (n : Int) : Nat → List (List Int)
  | 0 => []
  | k + 1 => uniTo c n k ++ [rowTo c n k c.length]
def uniL (c : List Int) (n : Int) : List (List Int) := if uniF c n = (0, 0) then uniTo c n n.toNat else []
/-! ### Needed costs -/
def needI (a : Abs) (d : List Int) (x : Int) : Nat → Int
  | 0 => 0
  | k + 1 => if (nth a.arcs k).lab = x ∧ nth d (nth a.arcs k).to < 1000000000 then max (needI a d x k) (nth d (nth a.arcs k).fr - nth d (nth a.arcs k).to) else needI a d x k
def needL (a : Abs) (d : List Int) (k : Nat) : List Int := (List.range a.labels.toNat).map fun (x : Nat) => needI a d x k
/-! ### Saturated costs -/
def subTo (a b : List Int) : Nat → List Int
  | 0 => a
  | j + 1 => (subTo a b j).set j (nth (subTo a b j) j - nth b j)
noncomputable def lefTo (l : List Abs) (c : List Int) : Nat → List Int
  | 0 => c
  | k + 1 => subTo (lefTo l c k) (needL (nth l k) (distL (nth l k) (lefTo l c k)) (nth l k).arcs.length) (lefTo l c k).length
noncomputable def ndL (l : List Abs) (c : List Int) (k : Nat) : List Int := needL (nth l k) (distL (nth l k) (lefTo l c k)) (nth l k).arcs.length
noncomputable def prtT (l : List Abs) (c : List Int) : Nat → List (List Int)
  | 0 => []
  | k + 1 => prtT l c k ++ [ndL l c k]
noncomputable def valT (l : List Abs) (c : List Int) : Nat → List Int
  | 0 => []
  | k + 1 => valT l c k ++ [nth (distL (nth l k) (lefTo l c k)) (nth l k).init]
noncomputable def satP (l : List Abs) (c : List Int) : List (List Int) := if labF l c = (0, 0) then prtT l c l.length else []
noncomputable def satV (l : List Abs) (c : List Int) : List Int := if labF l c = (0, 0) then valT l c l.length else []
end Go.Eng
end

section
/- Walks, written by gen.py out of hints. -/



set_option linter.unusedVariables false
set_option linter.unusedSimpArgs false
namespace Go.Proofs.Ythgcnfolgbaemaa
open Go.Eng
set_option maxRecDepth 10000
set_option maxHeartbeats 1000000



end Go.Proofs.Ythgcnfolgbaemaa
end

section
/- The laws of cost partitions. -/

set_option linter.unusedVariables false
set_option linter.unusedSimpArgs false
set_option linter.unusedSectionVars false
namespace Go.Eng
open Go
def prtR (c : List Int) (ps : List (List Int)) : Bool := decide (prtF c ps = (0, 0)) && decide (FitsP c ps)
/-! ### Equal parts -/
/-! ### Saturated parts -/
/-! ### The example -/
abbrev lineA : Abs := ⟨3, 2, [⟨0, 0, 1⟩, ⟨1, 1, 2⟩, ⟨2, 1, 2⟩], 0, [2]⟩
end Go.Eng
end
