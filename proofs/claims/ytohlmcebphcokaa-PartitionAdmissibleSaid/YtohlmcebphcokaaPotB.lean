/- Walks, written by gen.py out of hints. -/
import Derived.Test.YtohlmcebphcokaaTypes
import Derived.Test.YtohlmcebphcokaaPot
import Derived.Test.YtohlmcebphcokaaEngV
set_option linter.unusedVariables false
set_option linter.unusedSimpArgs false
namespace Go.Proofs.Ytohlmcebphcokaa
open Go.Eng
set_option maxRecDepth 10000
set_option maxHeartbeats 1000000

theorem law_lamps_does  : Does Try.prog false 60 [] (multi lampsM) := by
  refine Does.of_body Try.func60 rfl rfl (by simp) Try.call60 (fun w0 O0 => ?_)
  refine Tr.seq ?_
  refine Tr.region ?_
  refine TrOps.semM (OpSem.alloc 0 rfl zc26 rfl) rfl rfl (by decide) ?_
  refine TrOps.nil ?_
  refine At.seq ?_
  refine Tr.seq ?_
  refine Tr.region ?_
  refine TrOps.sem (OpSem.build rfl rfl pl90 zc90 rfl rfl) rfl rfl (by decide) ?_
  refine TrOps.sem (OpSem.build rfl rfl pl90 zc90 rfl rfl) rfl rfl (by decide) ?_
  refine TrOps.semM (OpSem.alloc 1 rfl zc90 rfl) rfl rfl (by decide) ?_
  refine TrOps.semM (OpSem.alloc 2 rfl zc90 rfl) rfl rfl (by decide) ?_
  refine TrOps.storeb rfl rfl rfl rfl rfl rfl rfl vs90 (by first | decide | simp) ?_
  refine TrOps.storeb rfl rfl rfl rfl rfl rfl rfl vs90 (by first | decide | simp) ?_
  refine TrOps.nil ?_
  refine At.seq ?_
  refine Tr.seq ?_
  refine Tr.region ?_
  refine TrOps.sem (OpSem.buildSlice rfl rfl es22 ze22 rfl rfl (by decide) (by decide) rfl rfl) rfl rfl (by decide) ?_
  refine TrOps.sem (OpSem.buildSlice rfl rfl es22 ze22 rfl rfl (by decide) (by decide) rfl rfl) rfl rfl (by decide) ?_
  refine TrOps.sem (OpSem.loadbN rfl rfl rfl vs90 (by first | decide | simp)) rfl rfl (by decide) ?_
  refine TrOps.sem (OpSem.loadbN rfl rfl rfl vs90 (by first | decide | simp)) rfl rfl (by decide) ?_
  refine TrOps.sem (OpSem.buildSlice rfl rfl es23 ze23 rfl rfl (by decide) (by decide) rfl rfl) rfl rfl (by decide) ?_
  refine TrOps.sem (OpSem.loadbN rfl rfl rfl vs90 (by first | decide | simp)) rfl rfl (by decide) ?_
  refine TrOps.sem (OpSem.buildSlice rfl rfl es23 ze23 rfl rfl (by decide) (by decide) rfl rfl) rfl rfl (by decide) ?_
  refine TrOps.sem (OpSem.le (s' := opS' ⟨[], [(0, 1)], 2⟩) (OpSem.build rfl rfl pl81 zc81 rfl rfl) (Le.g (.cons (Le.nil 2) <| .cons (.refl _) <| .cons (.refl _) .nil))) rfl rfl (by decide) ?_
  refine TrOps.sem (OpSem.loadbN rfl rfl rfl vs90 (by first | decide | simp)) rfl rfl (by decide) ?_
  refine TrOps.sem (OpSem.buildSlice rfl rfl es23 ze23 rfl rfl (by decide) (by decide) rfl rfl) rfl rfl (by decide) ?_
  refine TrOps.sem (OpSem.le (s' := opS' ⟨[], [(1, 1)], 3⟩) (OpSem.build rfl rfl pl81 zc81 rfl rfl) (Le.g (.cons (Le.nil 2) <| .cons (.refl _) <| .cons (.refl _) .nil))) rfl rfl (by decide) ?_
  refine TrOps.sem (OpSem.buildSlice rfl rfl es24 ze24 rfl rfl (by decide) (by decide) rfl rfl) rfl rfl (by decide) ?_
  refine TrOps.sem (OpSem.build rfl rfl pl26 zc26 rfl rfl) rfl rfl (by decide) ?_
  refine TrOps.storeb rfl rfl rfl rfl rfl rfl rfl vs26 (by first | decide | simp) ?_
  refine TrOps.nil ?_
  refine At.seq ?_
  refine Tr.ret ?_
  exact At.ret rfl (.cellN rfl rfl vs26 <| .nil) rfl (.refl _)

theorem R_Ints_does (a b : List Int) : Does Try.prog false 32 [.d (ints a), .d (ints b)] (Bo (decide (a = b))) := by
  refine Does.of_body Try.func32 rfl rfl (by simp) Try.call32 (fun w0 O0 => ?_)
  refine Tr.lenLe (n := 0) rfl (fun len0 => ?_)
  refine Tr.lenLe (n := 1) rfl (fun len1 => ?_)
  refine Tr.seq ?_
  refine Tr.region ?_
  refine TrOps.sem (OpSem.move (.inr rfl) rfl) rfl rfl (by decide) ?_
  refine TrOps.nil ?_
  refine At.seq ?_
  refine Tr.seq ?_
  refine Tr.seq ?_
  refine Tr.region ?_
  refine TrOps.sem (OpSem.move (.inl rfl) rfl) rfl rfl (by decide) ?_
  refine TrOps.sem (OpSem.lenL rfl rfl es22) rfl rfl (by decide) ?_
  refine TrOps.sem (OpSem.move (.inl rfl) rfl) rfl rfl (by decide) ?_
  refine TrOps.sem (OpSem.lenL rfl rfl es22) rfl rfl (by decide) ?_
  refine TrOps.sem (OpSem.bin rfl rfl rfl bneq) rfl rfl (by decide) ?_
  refine TrOps.nil ?_
  refine At.seq ?_
  refine Tr.cond rfl (fun c10 => ?_) (fun c10 => ?_)
  · have hl : a.length ≠ b.length := by simp at c10; omega
    refine Tr.seq ?_
    refine Tr.region ?_
    refine TrOps.sem (OpSem.move (.inr rfl) rfl) rfl rfl (by decide) ?_
    refine TrOps.nil ?_
    refine At.seq ?_
    refine Tr.ret ?_
    refine At.pass_ret ?_
    exact At.ret rfl (.tmp rfl <| .nil) rfl (Le.bo (by simp; intro e; exact hl (by rw [e])))
  · have hl : a.length = b.length := by simp at c10; omega
    refine Tr.skip ?_
    refine At.seq ?_
    refine Tr.seq ?_
    refine Tr.seq ?_
    refine Tr.region ?_
    refine TrOps.sem (OpSem.move (.inr rfl) rfl) rfl rfl (by decide) ?_
    refine TrOps.nil ?_
    refine At.seq ?_
    refine Tr.block ?_
    refine Tr.loop (X := Nat) (fun k => k ≤ a.length ∧ ∀ i : Nat, i < k → nth a i = nth b i) (fun k => [(0, .d (ints a)), (1, .d (ints b)), (5, I (k))]) (fun k => []) (fun k => a.length - k) 0 ⟨by omega, by simp⟩ ?_ ?_
    · exact .slot rfl (.refl _) <| .slot rfl (.refl _) <| .slot rfl (Le.of_eq (by simp)) <| .nil
    · rintro k ⟨hkl, hinv⟩
      refine Tr.seq ?_
      refine Tr.seq ?_
      refine Tr.region ?_
      refine TrOps.sem (OpSem.move (.inl rfl) rfl) rfl rfl (by decide) ?_
      refine TrOps.sem (OpSem.move (.inl rfl) rfl) rfl rfl (by decide) ?_
      refine TrOps.sem (OpSem.lenL rfl rfl es22) rfl rfl (by decide) ?_
      refine TrOps.sem (OpSem.bin rfl rfl rfl blss) rfl rfl (by decide) ?_
      refine TrOps.nil ?_
      refine At.seq ?_
      refine Tr.cond rfl (fun c14 => ?_) (fun c14 => ?_)
      · have hk : k < a.length := by simpa using c14
        refine Tr.skip ?_
        refine At.seq ?_
        refine Tr.seq ?_
        refine Tr.block ?_
        refine Tr.seq ?_
        refine PC.start [] ?_
        refine PC.sem (OpSem.move (.inl rfl) rfl) rfl rfl ?_
        refine PC.sem (OpSem.move (.inl rfl) rfl) rfl rfl ?_
        refine PC.sem (OpSem.idxL rfl rfl rfl es22 (by omega) (by omega)) rfl rfl ?_
        refine PC.sem (OpSem.load1 rfl rfl vs3 rfl) rfl rfl ?_
        refine PC.sem (OpSem.move (.inl rfl) rfl) rfl rfl ?_
        refine PC.sem (OpSem.move (.inl rfl) rfl) rfl rfl ?_
        refine PC.sem (OpSem.idxL rfl rfl rfl es22 (by omega) (by omega)) rfl rfl ?_
        refine PC.sem (OpSem.load1 rfl rfl vs3 rfl) rfl rfl ?_
        refine PC.done0 mixed (by kernel_rfl) (by kernel_rfl) (by kernel_rfl) (by kernel_rfl) (by kernel_rfl) ?_
        refine TrOps.sem (OpSem.bin rfl rfl rfl bneq) rfl rfl (by decide) ?_
        refine TrOps.nil ?_
        refine At.seq ?_
        refine Tr.cond rfl (fun c25 => ?_) (fun c25 => ?_)
        · refine Tr.seq ?_
          refine Tr.region ?_
          refine TrOps.sem (OpSem.move (.inr rfl) rfl) rfl rfl (by decide) ?_
          refine TrOps.nil ?_
          refine At.seq ?_
          refine Tr.ret ?_
          refine At.block_ret ?_
          refine At.pass_ret ?_
          refine At.pass_ret ?_
          refine At.block_ret ?_
          refine At.pass_ret ?_
          exact At.ret rfl (.tmp rfl <| .nil) rfl (Le.bo (by simp; intro e; simp [e] at c25))
        · have hb : nth a k = nth b k := by simpa using c25
          refine Tr.skip ?_
          refine At.block_normal ?_
          refine At.seq ?_
          refine Tr.region ?_
          refine TrOps.sem (OpSem.move (.inl rfl) rfl) rfl rfl (by decide) ?_
          refine TrOps.sem (OpSem.bin rfl rfl rfl (badd (by omega) (by omega))) rfl rfl (by decide) ?_
          refine TrOps.sem (OpSem.move (.inr rfl) rfl) rfl rfl (by decide) ?_
          refine TrOps.nil ?_
          refine At.again (k + 1) ⟨by omega, all_succ hinv hb⟩ ?_ (by omega)
          exact .slot rfl (.refl _) <| .slot rfl (.refl _) <| .slot rfl (Le.of_eq (by simp)) <| .nil
      · have hk : k = a.length := by simp at c14; omega
        refine Tr.exit ?_
        refine At.pass_exit ?_
        refine At.pass_exit ?_
        refine At.block_same ?_
        refine At.seq ?_
        refine Tr.seq ?_
        refine Tr.region ?_
        refine TrOps.sem (OpSem.move (.inr rfl) rfl) rfl rfl (by decide) ?_
        refine TrOps.nil ?_
        refine At.seq ?_
        refine Tr.ret ?_
        exact At.ret rfl (.tmp rfl <| .nil) rfl (Le.bo (by simp; subst hk; exact ext_nth hl hinv))

end Go.Proofs.Ytohlmcebphcokaa
