/- The engine and the walks that this claim uses, part 3. Written by prune.py out of our own texts. -/
import Derived.Test.YtohlmcebphcokaaC2
section
/- Walks, written by gen.py out of hints. -/

set_option linter.unusedVariables false
set_option linter.unusedSimpArgs false
namespace Go.Proofs.Ytohlmcebphcokaa
open Go.Eng
set_option maxRecDepth 10000
set_option maxHeartbeats 1000000

theorem R_In_does (n a b : Int) : Does Try.prog false 25 [I (n), I (a), I (b)] (Bo (decide (a ≤ n ∧ n ≤ b))) := by
  refine Does.of_body Try.func25 rfl rfl (by simp) Try.call25 (fun w0 O0 => ?_)
  refine Tr.seq ?_
  refine Tr.region ?_
  refine TrOps.sem (OpSem.move (.inr rfl) rfl) rfl rfl (by decide) ?_
  refine TrOps.nil ?_
  refine At.seq ?_
  refine Tr.seq ?_
  refine Tr.region ?_
  refine TrOps.sem (OpSem.move (.inl rfl) rfl) rfl rfl (by decide) ?_
  refine TrOps.sem (OpSem.move (.inl rfl) rfl) rfl rfl (by decide) ?_
  refine TrOps.sem (OpSem.bin rfl rfl rfl bgeq) rfl rfl (by decide) ?_
  refine TrOps.sem (OpSem.move (.inl rfl) rfl) rfl rfl (by decide) ?_
  refine TrOps.split (n := 10) rfl (fun c10 => ?_) (fun c10 => ?_)
  · refine TrOps.gT rfl rfl rfl rfl c10 ?_
    refine TrOps.sem (OpSem.move (.inl rfl) rfl) rfl rfl (by decide) ?_
    refine TrOps.gT rfl rfl rfl rfl c10 ?_
    refine TrOps.sem (OpSem.move (.inl rfl) rfl) rfl rfl (by decide) ?_
    refine TrOps.gT rfl rfl rfl rfl c10 ?_
    refine TrOps.sem (OpSem.bin rfl rfl rfl bleq) rfl rfl (by decide) ?_
    refine TrOps.sem (OpSem.pickT rfl rfl c10 rfl) rfl rfl (by decide) ?_
    refine TrOps.sem (OpSem.move (.inr rfl) rfl) rfl rfl (by decide) ?_
    refine TrOps.nil ?_
    refine At.seq ?_
    refine Tr.ret ?_
    exact At.ret rfl (.tmp rfl <| .nil) rfl (Le.bo (by simp at *; omega))
  · refine TrOps.gF rfl rfl rfl rfl c10 rfl (by decide) ?_
    refine TrOps.gF rfl rfl rfl rfl c10 rfl (by decide) ?_
    refine TrOps.gF rfl rfl rfl rfl c10 rfl (by decide) ?_
    refine TrOps.sem (OpSem.pickF rfl rfl c10 rfl) rfl rfl (by decide) ?_
    refine TrOps.sem (OpSem.move (.inr rfl) rfl) rfl rfl (by decide) ?_
    refine TrOps.nil ?_
    refine At.seq ?_
    refine Tr.ret ?_
    exact At.ret rfl (.tmp rfl <| .nil) rfl (Le.bo (by simp at *; omega))

theorem R_At_does (a b : Int) : Does Try.prog false 28 [I (a), I (b)] (flt (a, b)) := by
  refine Does.of_body Try.func28 rfl rfl (by simp) Try.call28 (fun w0 O0 => ?_)
  refine Tr.seq ?_
  refine Tr.region ?_
  refine TrOps.semM (OpSem.alloc 4 rfl zc29 rfl) rfl rfl (by decide) ?_
  refine TrOps.nil ?_
  refine At.seq ?_
  refine Tr.seq ?_
  refine Tr.region ?_
  refine TrOps.sem (OpSem.move (.inl rfl) rfl) rfl rfl (by decide) ?_
  refine TrOps.sem (OpSem.move (.inl rfl) rfl) rfl rfl (by decide) ?_
  refine TrOps.sem (OpSem.build rfl rfl pl29 zc29 rfl rfl) rfl rfl (by decide) ?_
  refine TrOps.storeb rfl rfl rfl rfl rfl rfl rfl vs29 (by first | decide | simp) ?_
  refine TrOps.nil ?_
  refine At.seq ?_
  refine Tr.ret ?_
  exact At.ret rfl (.cellN rfl rfl vs29 <| .nil) rfl (.refl _)

theorem R_MultiState_does (m : Multi) (s : List Int) (hs : ∀ v : Nat, v < m.sizes.length → 1 ≤ nth m.sizes v ∧ nth m.sizes v ≤ 6) : Does Try.prog false 49 [multi m, .d (ints s)] (Bo (isState m.sizes s)) := by
  refine Does.of_body Try.func49 rfl rfl (by simp) Try.call49 (fun w0 O0 => ?_)
  refine Tr.lenG (n := 0) (i := 0) rfl rfl (fun len0_0 => ?_)
  refine Tr.lenG (n := 0) (i := 1) rfl rfl (fun len0_1 => ?_)
  refine Tr.lenG (n := 0) (i := 2) rfl rfl (fun len0_2 => ?_)
  refine Tr.lenG (n := 0) (i := 3) rfl rfl (fun len0_3 => ?_)
  refine Tr.lenLe (n := 1) rfl (fun len1 => ?_)
  refine Tr.seq ?_
  refine Tr.region ?_
  refine TrOps.semM (OpSem.box 2 rfl rfl rfl rfl) rfl rfl (by decide) ?_
  refine TrOps.sem (OpSem.move (.inr rfl) rfl) rfl rfl (by decide) ?_
  refine TrOps.nil ?_
  refine At.seq ?_
  refine Tr.seq ?_
  refine Tr.seq ?_
  refine Tr.region ?_
  refine TrOps.sem (OpSem.move (.inl rfl) rfl) rfl rfl (by decide) ?_
  refine TrOps.sem (OpSem.lenL rfl rfl es22) rfl rfl (by decide) ?_
  refine TrOps.sem (OpSem.fieldr rfl rfl fo26_0) rfl rfl (by decide) ?_
  refine TrOps.sem (OpSem.loadb1 rfl rfl rfl vs22 rfl) rfl rfl (by decide) ?_
  refine TrOps.sem (OpSem.lenL rfl rfl es22) rfl rfl (by decide) ?_
  refine TrOps.sem (OpSem.bin rfl rfl rfl bneq) rfl rfl (by decide) ?_
  refine TrOps.nil ?_
  refine At.seq ?_
  refine Tr.cond rfl (fun c11 => ?_) (fun c11 => ?_)
  · refine Tr.seq ?_
    refine Tr.region ?_
    refine TrOps.sem (OpSem.move (.inr rfl) rfl) rfl rfl (by decide) ?_
    refine TrOps.nil ?_
    refine At.seq ?_
    refine Tr.ret ?_
    refine At.pass_ret ?_
    exact At.ret rfl (.tmp rfl <| .nil) rfl (Le.bo (by simp at c11; simp [isState]; omega))
  · have hl : s.length = m.sizes.length := by simp at c11; omega
    refine Tr.skip ?_
    refine At.seq ?_
    refine Tr.seq ?_
    refine Tr.seq ?_
    refine Tr.region ?_
    refine TrOps.sem (OpSem.move (.inr rfl) rfl) rfl rfl (by decide) ?_
    refine TrOps.nil ?_
    refine At.seq ?_
    refine Tr.block ?_
    refine Tr.loop (X := Nat) (fun k => k ≤ s.length ∧ ∀ v : Nat, v < k → 0 ≤ nth s v ∧ nth s v < nth m.sizes v) (fun k => [(1, .d (ints s)), (2, .r 2 0), (5, I (k))]) (fun k => [(2, .box [.d (ints m.sizes), .d (ints m.init), .d (asgs m.goal), .d (opsD m.ops)])]) (fun k => s.length - k) 0 ⟨by omega, by simp⟩ ?_ ?_
    · exact .slot rfl (.refl _) <| .slot rfl (.refl _) <| .slot rfl (Le.of_eq (by simp)) <| .mem rfl <| .nil
    · rintro k ⟨hkl, hinv⟩
      refine Tr.seq ?_
      refine Tr.seq ?_
      refine Tr.region ?_
      refine TrOps.sem (OpSem.move (.inl rfl) rfl) rfl rfl (by decide) ?_
      refine TrOps.sem (OpSem.move (.inl rfl) rfl) rfl rfl (by decide) ?_
      refine TrOps.sem (OpSem.lenL rfl rfl es22) rfl rfl (by decide) ?_
      refine TrOps.sem (OpSem.bin rfl rfl rfl blss) rfl rfl (by decide) ?_
      refine TrOps.nil ?_
      refine At.seq ?_
      refine Tr.cond rfl (fun c15 => ?_) (fun c15 => ?_)
      · have hk : k < s.length := by simpa using c15
        have hsk := hs k (by omega)
        refine Tr.skip ?_
        refine At.seq ?_
        refine Tr.seq ?_
        refine Tr.block ?_
        refine Tr.seq ?_
        refine PC.start [] ?_
        refine PC.sem (OpSem.move (.inl rfl) rfl) rfl rfl ?_
        refine PC.sem (OpSem.move (.inl rfl) rfl) rfl rfl ?_
        refine PC.sem (OpSem.idxL rfl rfl rfl es22 (by omega) (by omega)) rfl rfl ?_
        refine PC.sem (OpSem.load1 rfl rfl vs3 rfl) rfl rfl ?_
        refine PC.sem (OpSem.fieldr rfl rfl fo26_0) rfl rfl ?_
        refine PC.sem (OpSem.loadb1 rfl rfl rfl vs22 rfl) rfl rfl ?_
        refine PC.sem (OpSem.move (.inl rfl) rfl) rfl rfl ?_
        refine PC.sem (OpSem.idxL rfl rfl rfl es22 (by omega) (by omega)) rfl rfl ?_
        refine PC.sem (OpSem.load1 rfl rfl vs3 rfl) rfl rfl ?_
        refine PC.sem (OpSem.bin rfl rfl rfl (bsub (by omega) (by omega))) rfl rfl ?_
        refine PC.done0 mixed (by kernel_rfl) (by kernel_rfl) (by kernel_rfl) (by kernel_rfl) (by kernel_rfl) ?_
        refine TrOps.sem (OpSem.call0 (R_In_does ..) rfl rfl rfl rfl (Les.refl _)) rfl rfl (by decide) ?_
        refine TrOps.sem (OpSem.not rfl rfl) rfl rfl (by decide) ?_
        refine TrOps.nil ?_
        refine At.seq ?_
        refine Tr.cond rfl (fun c29 => ?_) (fun c29 => ?_)
        · refine Tr.seq ?_
          refine Tr.region ?_
          refine TrOps.sem (OpSem.move (.inr rfl) rfl) rfl rfl (by decide) ?_
          refine TrOps.nil ?_
          refine At.seq ?_
          refine Tr.ret ?_
          refine At.block_ret ?_
          refine At.pass_ret ?_
          refine At.pass_ret ?_
          refine At.block_ret ?_
          refine At.pass_ret ?_
          exact At.ret rfl (.tmp rfl <| .nil) rfl (Le.bo (by simp at c29; simp [isState]; intro _; exact ⟨k, hk, by omega⟩))
        · refine Tr.skip ?_
          refine At.block_normal ?_
          refine At.seq ?_
          refine Tr.region ?_
          refine TrOps.sem (OpSem.move (.inl rfl) rfl) rfl rfl (by decide) ?_
          refine TrOps.sem (OpSem.bin rfl rfl rfl (badd (by omega) (by omega))) rfl rfl (by decide) ?_
          refine TrOps.sem (OpSem.move (.inr rfl) rfl) rfl rfl (by decide) ?_
          refine TrOps.nil ?_
          have hb : 0 ≤ nth s k ∧ nth s k < nth m.sizes k := by simp at c29; omega
          refine At.again (k + 1) ⟨by omega, all_succ hinv hb⟩ ?_ (by omega)
          exact .slot rfl (.refl _) <| .slot rfl (.refl _) <| .slot rfl (Le.of_eq (by simp)) <| .mem rfl <| .nil
      · have hk : k = s.length := by simp at c15; omega
        refine Tr.exit ?_
        refine At.pass_exit ?_
        refine At.pass_exit ?_
        refine At.block_same ?_
        refine At.seq ?_
        refine Tr.seq ?_
        refine Tr.region ?_
        refine TrOps.sem (OpSem.move (.inr rfl) rfl) rfl rfl (by decide) ?_
        refine TrOps.nil ?_
        refine At.seq ?_
        refine Tr.ret ?_
        exact At.ret rfl (.tmp rfl <| .nil) rfl (Le.bo (by subst hk; simpa [isState, hl] using hinv))

theorem slices_IndexFunc_int_int_does (l : List Int) (fn : Nat) (cs : List S) (p : Int → Bool) (hcs : Caught cs) (hf : ∀ x, x ∈ l → Does Try.prog false fn ([I x] ++ cs) (Bo (p x))) : Does Try.prog false 103 [.d (ints l), .f fn [] cs] (I (findI p l)) := by
  refine Does.of_body Try.func103 rfl rfl (by simp) Try.call103 (fun w0 O0 => ?_)
  refine Tr.lenLe (n := 0) rfl (fun len0 => ?_)
  refine Tr.seq ?_
  refine Tr.region ?_
  refine TrOps.sem (OpSem.move (.inr rfl) rfl) rfl rfl (by decide) ?_
  refine TrOps.nil ?_
  refine At.seq ?_
  refine Tr.seq ?_
  refine Tr.seq ?_
  refine Tr.region ?_
  refine TrOps.sem (OpSem.move (.inl rfl) rfl) rfl rfl (by decide) ?_
  refine TrOps.sem (OpSem.lenL rfl rfl es22) rfl rfl (by decide) ?_
  refine TrOps.sem (OpSem.move (.inl rfl) rfl) rfl rfl (by decide) ?_
  refine TrOps.nil ?_
  refine At.seq ?_
  refine Tr.block ?_
  refine Tr.loop (X := Nat) (fun k => k ≤ l.length ∧ ∀ j : Nat, j < k → p (nth l j) = false) (fun k => [(0, .d (ints l)), (1, .f fn [] cs), (7, I (l.length)), (8, I (k))]) (fun k => []) (fun k => l.length - k) 0 ⟨by omega, by simp⟩ ?_ ?_
  · exact .slot rfl (.refl _) <| .slot rfl (.refl _) <| .slot rfl (.refl _) <| .slot rfl (Le.of_eq (by simp)) <| .nil
  · rintro k ⟨hkl, hinv⟩
    refine Tr.seq ?_
    refine Tr.region ?_
    refine TrOps.sem (OpSem.bin rfl rfl rfl blss) rfl rfl (by decide) ?_
    refine TrOps.nil ?_
    refine At.seq ?_
    refine Tr.seq ?_
    refine Tr.cond rfl (fun c9 => ?_) (fun c9 => ?_)
    · have hk : k < l.length := by simpa using c9
      refine Tr.skip ?_
      refine At.seq ?_
      refine Tr.seq ?_
      refine Tr.block ?_
      refine Tr.seq ?_
      refine Tr.region ?_
      refine TrOps.sem (OpSem.move (.inl rfl) rfl) rfl rfl (by decide) ?_
      refine TrOps.sem (OpSem.move (.inr rfl) rfl) rfl rfl (by decide) ?_
      refine TrOps.nil ?_
      refine At.seq ?_
      refine Tr.seq ?_
      refine Tr.region ?_
      refine TrOps.sem (OpSem.move (.inl rfl) rfl) rfl rfl (by decide) ?_
      refine TrOps.sem (OpSem.move (.inl rfl) rfl) rfl rfl (by decide) ?_
      refine TrOps.sem (OpSem.move (.inl rfl) rfl) rfl rfl (by decide) ?_
      refine TrOps.sem (OpSem.idxL rfl rfl rfl es22 (by omega) (by omega)) rfl rfl (by decide) ?_
      refine TrOps.sem (OpSem.load1 rfl rfl vs3 rfl) rfl rfl (by decide) ?_
      refine TrOps.sem (OpSem.call0 (hf _ (nth_mem (by omega) (by omega))) rfl rfl rfl (hcs.app rfl) (Les.refl _)) rfl rfl (by decide) ?_
      refine TrOps.nil ?_
      refine At.seq ?_
      refine Tr.cond rfl (fun c16 => ?_) (fun c16 => ?_)
      · refine Tr.seq ?_
        refine Tr.region ?_
        refine TrOps.sem (OpSem.move (.inl rfl) rfl) rfl rfl (by decide) ?_
        refine TrOps.sem (OpSem.move (.inr rfl) rfl) rfl rfl (by decide) ?_
        refine TrOps.nil ?_
        refine At.seq ?_
        refine Tr.ret ?_
        refine At.block_ret ?_
        refine At.pass_ret ?_
        refine At.pass_ret ?_
        refine At.block_ret ?_
        refine At.pass_ret ?_
        exact At.ret rfl (.tmp rfl <| .nil) rfl (Le.i (findI_some hk hinv c16).symm)
      · refine Tr.skip ?_
        refine At.block_normal ?_
        refine At.seq ?_
        refine Tr.region ?_
        refine TrOps.sem (OpSem.bin rfl rfl rfl (badd (by omega) (by omega))) rfl rfl (by decide) ?_
        refine TrOps.sem (OpSem.move (.inl rfl) rfl) rfl rfl (by decide) ?_
        refine TrOps.nil ?_
        refine At.again (k + 1) ⟨by omega, all_succ hinv c16⟩ ?_ (by omega)
        exact .slot rfl (.refl _) <| .slot rfl (.refl _) <| .slot rfl (.refl _) <| .slot rfl (Le.of_eq (by simp)) <| .nil
    · have hk : k = l.length := by simp at c9; omega
      refine Tr.exit ?_
      refine At.pass_exit ?_
      refine At.pass_exit ?_
      refine At.block_same ?_
      refine At.seq ?_
      refine Tr.seq ?_
      refine Tr.region ?_
      refine TrOps.sem (OpSem.move (.inr rfl) rfl) rfl rfl (by decide) ?_
      refine TrOps.nil ?_
      refine At.seq ?_
      refine Tr.ret ?_
      exact At.ret rfl (.tmp rfl <| .nil) rfl (Le.i (by subst hk; exact (findI_none hinv).symm))

theorem slices_ContainsFunc_int_int_does (l : List Int) (fn : Nat) (cs : List S) (p : Int → Bool) (hcs : Caught cs) (hf : ∀ x, x ∈ l → Does Try.prog false fn ([I x] ++ cs) (Bo (p x))) : Does Try.prog false 72 [.d (ints l), .f fn [] cs] (Bo (l.any p)) := by
  refine Does.of_body Try.func72 rfl rfl (by simp) Try.call72 (fun w0 O0 => ?_)
  refine Tr.lenLe (n := 0) rfl (fun len0 => ?_)
  refine Tr.seq ?_
  refine Tr.region ?_
  refine TrOps.sem (OpSem.move (.inr rfl) rfl) rfl rfl (by decide) ?_
  refine TrOps.nil ?_
  refine At.seq ?_
  refine Tr.seq ?_
  refine Tr.region ?_
  refine TrOps.sem (OpSem.move (.inl rfl) rfl) rfl rfl (by decide) ?_
  refine TrOps.sem (OpSem.move (.inl rfl) rfl) rfl rfl (by decide) ?_
  refine TrOps.sem (OpSem.call0 (slices_IndexFunc_int_int_does l fn cs p hcs hf) rfl rfl rfl (hcs.arg rfl) (Les.refl _)) rfl rfl (by decide) ?_
  refine TrOps.sem (OpSem.bin rfl rfl rfl bgeq) rfl rfl (by decide) ?_
  refine TrOps.sem (OpSem.move (.inr rfl) rfl) rfl rfl (by decide) ?_
  refine TrOps.nil ?_
  refine At.seq ?_
  refine Tr.ret ?_
  exact At.ret rfl (.tmp rfl <| .nil) rfl (Le.bo findI_any)

theorem multi_Validate_1_does (n : Int) : Does Try.prog false 89 [I (n)] (Bo (decide (n < 1 ∨ 6 < n))) := by
  refine Does.of_body Try.func89 rfl rfl (by simp) Try.call89 (fun w0 O0 => ?_)
  refine Tr.seq ?_
  refine Tr.region ?_
  refine TrOps.sem (OpSem.move (.inr rfl) rfl) rfl rfl (by decide) ?_
  refine TrOps.nil ?_
  refine At.seq ?_
  refine Tr.seq ?_
  refine Tr.region ?_
  refine TrOps.sem (OpSem.move (.inl rfl) rfl) rfl rfl (by decide) ?_
  refine TrOps.sem (OpSem.bin rfl rfl rfl blss) rfl rfl (by decide) ?_
  refine TrOps.sem (OpSem.move (.inl rfl) rfl) rfl rfl (by decide) ?_
  refine TrOps.split (n := 5) rfl (fun c5 => ?_) (fun c5 => ?_)
  · refine TrOps.gF rfl rfl rfl rfl c5 rfl (by decide) ?_
    refine TrOps.gF rfl rfl rfl rfl c5 rfl (by decide) ?_
    refine TrOps.sem (OpSem.pickT rfl rfl c5 rfl) rfl rfl (by decide) ?_
    refine TrOps.sem (OpSem.move (.inr rfl) rfl) rfl rfl (by decide) ?_
    refine TrOps.nil ?_
    refine At.seq ?_
    refine Tr.ret ?_
    exact At.ret rfl (.tmp rfl <| .nil) rfl (Le.bo (by simp at *; omega))
  · refine TrOps.gT rfl rfl rfl rfl c5 ?_
    refine TrOps.sem (OpSem.move (.inl rfl) rfl) rfl rfl (by decide) ?_
    refine TrOps.gT rfl rfl rfl rfl c5 ?_
    refine TrOps.sem (OpSem.bin rfl rfl rfl bgtr) rfl rfl (by decide) ?_
    refine TrOps.sem (OpSem.pickF rfl rfl c5 rfl) rfl rfl (by decide) ?_
    refine TrOps.sem (OpSem.move (.inr rfl) rfl) rfl rfl (by decide) ?_
    refine TrOps.nil ?_
    refine At.seq ?_
    refine Tr.ret ?_
    exact At.ret rfl (.tmp rfl <| .nil) rfl (Le.bo (by simp at *; omega))

theorem multi_IsState_does (m : Multi) (s : List Int) : Does Try.prog false 90 [multi m, .d (ints s)] (Bo (isState m.sizes s)) := by
  refine Does.of_body Try.func90 rfl rfl (by simp) Try.call90 (fun w0 O0 => ?_)
  refine Tr.lenG (n := 0) (i := 0) rfl rfl (fun len0_0 => ?_)
  refine Tr.lenG (n := 0) (i := 1) rfl rfl (fun len0_1 => ?_)
  refine Tr.lenG (n := 0) (i := 2) rfl rfl (fun len0_2 => ?_)
  refine Tr.lenG (n := 0) (i := 3) rfl rfl (fun len0_3 => ?_)
  refine Tr.lenLe (n := 1) rfl (fun len1 => ?_)
  refine Tr.seq ?_
  refine Tr.region ?_
  refine TrOps.semM (OpSem.box 2 rfl rfl rfl rfl) rfl rfl (by decide) ?_
  refine TrOps.sem (OpSem.move (.inr rfl) rfl) rfl rfl (by decide) ?_
  refine TrOps.nil ?_
  refine At.seq ?_
  refine Tr.seq ?_
  refine Tr.seq ?_
  refine Tr.region ?_
  refine TrOps.sem (OpSem.move (.inl rfl) rfl) rfl rfl (by decide) ?_
  refine TrOps.sem (OpSem.lenL rfl rfl es22) rfl rfl (by decide) ?_
  refine TrOps.sem (OpSem.fieldr rfl rfl fo26_0) rfl rfl (by decide) ?_
  refine TrOps.sem (OpSem.loadb1 rfl rfl rfl vs22 rfl) rfl rfl (by decide) ?_
  refine TrOps.sem (OpSem.lenL rfl rfl es22) rfl rfl (by decide) ?_
  refine TrOps.sem (OpSem.bin rfl rfl rfl bneq) rfl rfl (by decide) ?_
  refine TrOps.nil ?_
  refine At.seq ?_
  refine Tr.cond rfl (fun c12 => ?_) (fun c12 => ?_)
  · refine Tr.seq ?_
    refine Tr.region ?_
    refine TrOps.sem (OpSem.move (.inr rfl) rfl) rfl rfl (by decide) ?_
    refine TrOps.nil ?_
    refine At.seq ?_
    refine Tr.ret ?_
    refine At.pass_ret ?_
    exact At.ret rfl (.tmp rfl <| .nil) rfl (Le.bo (isState_false (fun h => by simp at c12; have := h.1; omega)))
  · have hl : s.length = m.sizes.length := by simp at c12; omega
    refine Tr.skip ?_
    refine At.seq ?_
    refine Tr.seq ?_
    refine Tr.seq ?_
    refine Tr.region ?_
    refine TrOps.sem (OpSem.move (.inl rfl) rfl) rfl rfl (by decide) ?_
    refine TrOps.sem (OpSem.lenL rfl rfl es22) rfl rfl (by decide) ?_
    refine TrOps.sem (OpSem.move (.inl rfl) rfl) rfl rfl (by decide) ?_
    refine TrOps.nil ?_
    refine At.seq ?_
    refine Tr.block ?_
    refine Tr.loop (X := Nat) (fun k => k ≤ s.length ∧ ∀ v : Nat, v < k → 0 ≤ nth s v ∧ nth s v < nth m.sizes v) (fun k => [(2, .r 2 0), (13, .d (ints s)), (14, I (s.length)), (15, I (k))]) (fun k => [(2, .box [.d (ints m.sizes), .d (ints m.init), .d (asgs m.goal), .d (opsD m.ops)])]) (fun k => s.length - k) 0 ⟨by omega, by simp⟩ ?_ ?_
    · exact .slot rfl (.refl _) <| .slot rfl (.refl _) <| .slot rfl (.refl _) <| .slot rfl (Le.of_eq (by simp)) <| .mem rfl <| .nil
    · rintro k ⟨hkl, hinv⟩
      refine Tr.seq ?_
      refine Tr.region ?_
      refine TrOps.sem (OpSem.bin rfl rfl rfl blss) rfl rfl (by decide) ?_
      refine TrOps.nil ?_
      refine At.seq ?_
      refine Tr.seq ?_
      refine Tr.cond rfl (fun c16 => ?_) (fun c16 => ?_)
      · have hk : k < s.length := by simpa using c16
        refine Tr.skip ?_
        refine At.seq ?_
        refine Tr.seq ?_
        refine Tr.block ?_
        refine Tr.seq ?_
        refine Tr.region ?_
        refine TrOps.sem (OpSem.move (.inl rfl) rfl) rfl rfl (by decide) ?_
        refine TrOps.sem (OpSem.idxL rfl rfl rfl es22 (by omega) (by omega)) rfl rfl (by decide) ?_
        refine TrOps.sem (OpSem.load1 rfl rfl vs3 rfl) rfl rfl (by decide) ?_
        refine TrOps.sem (OpSem.move (.inr rfl) rfl) rfl rfl (by decide) ?_
        refine TrOps.sem (OpSem.move (.inr rfl) rfl) rfl rfl (by decide) ?_
        refine TrOps.nil ?_
        refine At.seq ?_
        refine Tr.seq ?_
        refine Tr.region ?_
        refine TrOps.sem (OpSem.move (.inl rfl) rfl) rfl rfl (by decide) ?_
        refine TrOps.sem (OpSem.bin rfl rfl rfl blss) rfl rfl (by decide) ?_
        refine TrOps.sem (OpSem.move (.inl rfl) rfl) rfl rfl (by decide) ?_
        refine TrOps.split (n := 22) rfl (fun c22 => ?_) (fun c22 => ?_)
        · refine TrOps.gF rfl rfl rfl rfl c22 rfl (by decide) ?_
          refine TrOps.gF rfl rfl rfl rfl c22 rfl (by decide) ?_
          refine TrOps.gF rfl rfl rfl rfl c22 rfl (by decide) ?_
          refine TrOps.gF rfl rfl rfl rfl c22 rfl (by decide) ?_
          refine TrOps.gF rfl rfl rfl rfl c22 rfl (by decide) ?_
          refine TrOps.gF rfl rfl rfl rfl c22 rfl (by decide) ?_
          refine TrOps.gF rfl rfl rfl rfl c22 rfl (by decide) ?_
          refine TrOps.sem (OpSem.pickT rfl rfl c22 rfl) rfl rfl (by decide) ?_
          refine TrOps.nil ?_
          refine At.seq ?_
          refine Tr.condT rfl rfl ?_
          refine Tr.seq ?_
          refine Tr.region ?_
          refine TrOps.sem (OpSem.move (.inr rfl) rfl) rfl rfl (by decide) ?_
          refine TrOps.nil ?_
          refine At.seq ?_
          refine Tr.ret ?_
          refine At.block_ret ?_
          refine At.pass_ret ?_
          refine At.pass_ret ?_
          refine At.block_ret ?_
          refine At.pass_ret ?_
          exact At.ret rfl (.tmp rfl <| .nil) rfl (Le.bo (isState_false (fun h => by have := h.2 k hk; simp at c22; omega)))
        · refine TrOps.gT rfl rfl rfl rfl c22 ?_
          refine TrOps.sem (OpSem.move (.inl rfl) rfl) rfl rfl (by decide) ?_
          refine TrOps.gT rfl rfl rfl rfl c22 ?_
          refine TrOps.sem (OpSem.fieldr rfl rfl fo26_0) rfl rfl (by decide) ?_
          refine TrOps.gT rfl rfl rfl rfl c22 ?_
          refine TrOps.sem (OpSem.loadb1 rfl rfl rfl vs22 rfl) rfl rfl (by decide) ?_
          refine TrOps.gT rfl rfl rfl rfl c22 ?_
          refine TrOps.sem (OpSem.move (.inl rfl) rfl) rfl rfl (by decide) ?_
          refine TrOps.gT rfl rfl rfl rfl c22 ?_
          refine TrOps.sem (OpSem.idxL rfl rfl rfl es22 (by omega) (by omega)) rfl rfl (by decide) ?_
          refine TrOps.gT rfl rfl rfl rfl c22 ?_
          refine TrOps.sem (OpSem.load1 rfl rfl vs3 rfl) rfl rfl (by decide) ?_
          refine TrOps.gT rfl rfl rfl rfl c22 ?_
          refine TrOps.sem (OpSem.bin rfl rfl rfl bgeq) rfl rfl (by decide) ?_
          refine TrOps.sem (OpSem.pickF rfl rfl c22 rfl) rfl rfl (by decide) ?_
          refine TrOps.nil ?_
          refine At.seq ?_
          refine Tr.cond rfl (fun c30 => ?_) (fun c30 => ?_)
          · refine Tr.seq ?_
            refine Tr.region ?_
            refine TrOps.sem (OpSem.move (.inr rfl) rfl) rfl rfl (by decide) ?_
            refine TrOps.nil ?_
            refine At.seq ?_
            refine Tr.ret ?_
            refine At.block_ret ?_
            refine At.pass_ret ?_
            refine At.pass_ret ?_
            refine At.block_ret ?_
            refine At.pass_ret ?_
            exact At.ret rfl (.tmp rfl <| .nil) rfl (Le.bo (isState_false (fun h => by have := h.2 k hk; simp at c30; omega)))
          · refine Tr.skip ?_
            refine At.block_normal ?_
            refine At.seq ?_
            refine Tr.region ?_
            refine TrOps.sem (OpSem.bin rfl rfl rfl (badd (by omega) (by omega))) rfl rfl (by decide) ?_
            refine TrOps.sem (OpSem.move (.inl rfl) rfl) rfl rfl (by decide) ?_
            refine TrOps.nil ?_
            have hb : 0 ≤ nth s k ∧ nth s k < nth m.sizes k := by simp at c22 c30; omega
            refine At.again (k + 1) ⟨by omega, all_succ hinv hb⟩ ?_ (by omega)
            exact .slot rfl (.refl _) <| .slot rfl (.refl _) <| .slot rfl (.refl _) <| .slot rfl (Le.of_eq (by simp)) <| .mem rfl <| .nil
      · have hk : k = s.length := by simp at c16; omega
        refine Tr.exit ?_
        refine At.pass_exit ?_
        refine At.pass_exit ?_
        refine At.block_same ?_
        refine At.seq ?_
        refine Tr.seq ?_
        refine Tr.region ?_
        refine TrOps.sem (OpSem.move (.inr rfl) rfl) rfl rfl (by decide) ?_
        refine TrOps.nil ?_
        refine At.seq ?_
        refine Tr.ret ?_
        exact At.ret rfl (.tmp rfl <| .nil) rfl (Le.bo (by subst hk; exact isState_true ⟨hl, hinv⟩))

theorem multi_assigns_does (m : Multi) (l : List Asg) : Does Try.prog false 91 [multi m, .d (asgs l)] (Bo (assigns m.sizes l)) := by
  refine Does.of_body Try.func91 rfl rfl (by simp) Try.call91 (fun w0 O0 => ?_)
  refine Tr.lenG (n := 0) (i := 0) rfl rfl (fun len0_0 => ?_)
  refine Tr.lenG (n := 0) (i := 1) rfl rfl (fun len0_1 => ?_)
  refine Tr.lenG (n := 0) (i := 2) rfl rfl (fun len0_2 => ?_)
  refine Tr.lenG (n := 0) (i := 3) rfl rfl (fun len0_3 => ?_)
  refine Tr.lenLe (n := 1) rfl (fun len1 => ?_)
  refine Tr.seq ?_
  refine Tr.region ?_
  refine TrOps.semM (OpSem.box 2 rfl rfl rfl rfl) rfl rfl (by decide) ?_
  refine TrOps.sem (OpSem.move (.inr rfl) rfl) rfl rfl (by decide) ?_
  refine TrOps.nil ?_
  refine At.seq ?_
  refine Tr.seq ?_
  refine Tr.seq ?_
  refine Tr.region ?_
  refine TrOps.sem (OpSem.move (.inl rfl) rfl) rfl rfl (by decide) ?_
  refine TrOps.sem (OpSem.lenL rfl rfl es23) rfl rfl (by decide) ?_
  refine TrOps.sem (OpSem.move (.inl rfl) rfl) rfl rfl (by decide) ?_
  refine TrOps.nil ?_
  refine At.seq ?_
  refine Tr.block ?_
  refine Tr.loop (X := Nat) (fun k => k ≤ l.length ∧ ∀ i : Nat, i < k → AsgOk m.sizes l i) (fun k => [(1, .d (asgs l)), (2, .r 2 0), (7, .d (asgs l)), (8, I (l.length)), (9, I (k))]) (fun k => [(2, .box [.d (ints m.sizes), .d (ints m.init), .d (asgs m.goal), .d (opsD m.ops)])]) (fun k => l.length - k) 0 ⟨by omega, by simp⟩ ?_ ?_
  · exact .slot rfl (.refl _) <| .slot rfl (.refl _) <| .slot rfl (.refl _) <| .slot rfl (.refl _) <| .slot rfl (Le.of_eq (by simp)) <| .mem rfl <| .nil
  · rintro k ⟨hkl, hinv⟩
    refine Tr.seq ?_
    refine Tr.region ?_
    refine TrOps.sem (OpSem.bin rfl rfl rfl blss) rfl rfl (by decide) ?_
    refine TrOps.nil ?_
    refine At.seq ?_
    refine Tr.seq ?_
    refine Tr.cond rfl (fun c10 => ?_) (fun c10 => ?_)
    · have hk : k < l.length := by simpa using c10
      refine Tr.skip ?_
      refine At.seq ?_
      refine Tr.seq ?_
      refine Tr.block ?_
      refine Tr.seq ?_
      refine Tr.region ?_
      refine TrOps.sem (OpSem.move (.inl rfl) rfl) rfl rfl (by decide) ?_
      refine TrOps.sem (OpSem.idxL rfl rfl rfl es23 (by omega) (by omega)) rfl rfl (by decide) ?_
      refine TrOps.sem (OpSem.loadN rfl rfl vs90 (by first | decide | simp) rfl) rfl rfl (by decide) ?_
      refine TrOps.semM (OpSem.alloc 6 rfl zc90 rfl) rfl rfl (by decide) ?_
      refine TrOps.sem (OpSem.move (.inr rfl) rfl) rfl rfl (by decide) ?_
      refine TrOps.storeb rfl rfl rfl rfl rfl rfl rfl vs90 (by first | decide | simp) ?_
      refine TrOps.nil ?_
      refine At.seq ?_
      refine Tr.seq ?_
      refine PC.start [] ?_
      refine PC.sem (OpSem.fieldr rfl rfl fo90_0) rfl rfl ?_
      refine PC.sem (OpSem.loadb1 rfl rfl rfl vs3 rfl) rfl rfl ?_
      refine PC.sem (OpSem.bin rfl rfl rfl blss) rfl rfl ?_
      refine PC.sem (OpSem.move (.inl rfl) rfl) rfl rfl ?_
      refine PC.split (n := 17) rfl (fun c17 => ?_) (fun c17 => ?_)
      · refine PC.gF rfl rfl rfl rfl c17 rfl ?_
        refine PC.gF rfl rfl rfl rfl c17 rfl ?_
        refine PC.gF rfl rfl rfl rfl c17 rfl ?_
        refine PC.gF rfl rfl rfl rfl c17 rfl ?_
        refine PC.gF rfl rfl rfl rfl c17 rfl ?_
        refine PC.gF rfl rfl rfl rfl c17 rfl ?_
        refine PC.sem (OpSem.pickT rfl rfl c17 rfl) rfl rfl ?_
        refine PC.sem (OpSem.move (.inl rfl) rfl) rfl rfl ?_
        refine PC.gF rfl rfl rfl rfl rfl rfl ?_
        refine PC.gF rfl rfl rfl rfl rfl rfl ?_
        refine PC.gF rfl rfl rfl rfl rfl rfl ?_
        refine PC.sem (OpSem.pickT rfl rfl rfl rfl) rfl rfl ?_
        refine PC.sem (OpSem.move (.inl rfl) rfl) rfl rfl ?_
        refine PC.gF rfl rfl rfl rfl rfl rfl ?_
        refine PC.gF rfl rfl rfl rfl rfl rfl ?_
        refine PC.gF rfl rfl rfl rfl rfl rfl ?_
        refine PC.gF rfl rfl rfl rfl rfl rfl ?_
        refine PC.gF rfl rfl rfl rfl rfl rfl ?_
        refine PC.gF rfl rfl rfl rfl rfl rfl ?_
        refine PC.gF rfl rfl rfl rfl rfl rfl ?_
        refine PC.gF rfl rfl rfl rfl rfl rfl ?_
        refine PC.gF rfl rfl rfl rfl rfl rfl ?_
        refine PC.sem (OpSem.pickT rfl rfl rfl rfl) rfl rfl ?_
        refine PC.sem (OpSem.move (.inl rfl) rfl) rfl rfl ?_
        refine PC.gF rfl rfl rfl rfl rfl rfl ?_
        refine PC.gF rfl rfl rfl rfl rfl rfl ?_
        refine PC.gF rfl rfl rfl rfl rfl rfl ?_
        refine PC.gU rfl rfl rfl rfl rfl ?_
        refine PC.gU rfl rfl rfl rfl rfl ?_
        refine PC.gU rfl rfl rfl rfl rfl ?_
        refine PC.gU rfl rfl rfl rfl rfl ?_
        refine PC.gU rfl rfl rfl rfl rfl ?_
        refine PC.gU rfl rfl rfl rfl rfl ?_
        refine PC.gU rfl rfl rfl rfl rfl ?_
        refine PC.gU rfl rfl rfl rfl rfl ?_
        refine PC.done0 mixed (by kernel_rfl) (by kernel_rfl) (by kernel_rfl) (by kernel_rfl) (by kernel_rfl) ?_
        refine TrOps.gU rfl rfl rfl rfl rfl (by decide) ?_
        refine TrOps.gF rfl rfl rfl rfl rfl rfl (by decide) ?_
        refine TrOps.sem (OpSem.pickT rfl rfl rfl rfl) rfl rfl (by decide) ?_
        refine TrOps.nil ?_
        refine At.seq ?_
        refine Tr.condT rfl rfl ?_
        refine Tr.seq ?_
        refine Tr.region ?_
        refine TrOps.sem (OpSem.move (.inr rfl) rfl) rfl rfl (by decide) ?_
        refine TrOps.nil ?_
        refine At.seq ?_
        refine Tr.ret ?_
        refine At.block_ret ?_
        refine At.pass_ret ?_
        refine At.pass_ret ?_
        refine At.block_ret ?_
        refine At.pass_ret ?_
        exact At.ret rfl (.tmp rfl <| .nil) rfl (Le.bo (assigns_false k hk (fun hb => by simp at *; omega)))
      · refine PC.gT (OpSem.fieldr rfl rfl fo90_0) rfl rfl rfl rfl c17 rfl ?_
        refine PC.gT (OpSem.loadb1 rfl rfl rfl vs3 rfl) rfl rfl rfl rfl c17 rfl ?_
        refine PC.gT (OpSem.fieldr rfl rfl fo26_0) rfl rfl rfl rfl c17 rfl ?_
        refine PC.gT (OpSem.loadb1 rfl rfl rfl vs22 rfl) rfl rfl rfl rfl c17 rfl ?_
        refine PC.gT (OpSem.lenL rfl rfl es22) rfl rfl rfl rfl c17 rfl ?_
        refine PC.gT (OpSem.bin rfl rfl rfl bgeq) rfl rfl rfl rfl c17 rfl ?_
        refine PC.sem (OpSem.pickF rfl rfl c17 rfl) rfl rfl ?_
        refine PC.sem (OpSem.move (.inl rfl) rfl) rfl rfl ?_
        refine PC.split (n := 25) rfl (fun c25 => ?_) (fun c25 => ?_)
        · refine PC.gF rfl rfl rfl rfl c25 rfl ?_
          refine PC.gF rfl rfl rfl rfl c25 rfl ?_
          refine PC.gF rfl rfl rfl rfl c25 rfl ?_
          refine PC.sem (OpSem.pickT rfl rfl c25 rfl) rfl rfl ?_
          refine PC.sem (OpSem.move (.inl rfl) rfl) rfl rfl ?_
          refine PC.gF rfl rfl rfl rfl rfl rfl ?_
          refine PC.gF rfl rfl rfl rfl rfl rfl ?_
          refine PC.gF rfl rfl rfl rfl rfl rfl ?_
          refine PC.gF rfl rfl rfl rfl rfl rfl ?_
          refine PC.gF rfl rfl rfl rfl rfl rfl ?_
          refine PC.gF rfl rfl rfl rfl rfl rfl ?_
          refine PC.gF rfl rfl rfl rfl rfl rfl ?_
          refine PC.gF rfl rfl rfl rfl rfl rfl ?_
          refine PC.gF rfl rfl rfl rfl rfl rfl ?_
          refine PC.sem (OpSem.pickT rfl rfl rfl rfl) rfl rfl ?_
          refine PC.sem (OpSem.move (.inl rfl) rfl) rfl rfl ?_
          refine PC.gF rfl rfl rfl rfl rfl rfl ?_
          refine PC.gF rfl rfl rfl rfl rfl rfl ?_
          refine PC.gF rfl rfl rfl rfl rfl rfl ?_
          refine PC.gU rfl rfl rfl rfl rfl ?_
          refine PC.gU rfl rfl rfl rfl rfl ?_
          refine PC.gU rfl rfl rfl rfl rfl ?_
          refine PC.gU rfl rfl rfl rfl rfl ?_
          refine PC.gU rfl rfl rfl rfl rfl ?_
          refine PC.gU rfl rfl rfl rfl rfl ?_
          refine PC.gU rfl rfl rfl rfl rfl ?_
          refine PC.gU rfl rfl rfl rfl rfl ?_
          refine PC.done0 mixed (by kernel_rfl) (by kernel_rfl) (by kernel_rfl) (by kernel_rfl) (by kernel_rfl) ?_
          refine TrOps.gU rfl rfl rfl rfl rfl (by decide) ?_
          refine TrOps.gF rfl rfl rfl rfl rfl rfl (by decide) ?_
          refine TrOps.sem (OpSem.pickT rfl rfl rfl rfl) rfl rfl (by decide) ?_
          refine TrOps.nil ?_
          refine At.seq ?_
          refine Tr.condT rfl rfl ?_
          refine Tr.seq ?_
          refine Tr.region ?_
          refine TrOps.sem (OpSem.move (.inr rfl) rfl) rfl rfl (by decide) ?_
          refine TrOps.nil ?_
          refine At.seq ?_
          refine Tr.ret ?_
          refine At.block_ret ?_
          refine At.pass_ret ?_
          refine At.pass_ret ?_
          refine At.block_ret ?_
          refine At.pass_ret ?_
          exact At.ret rfl (.tmp rfl <| .nil) rfl (Le.bo (assigns_false k hk (fun hb => by simp at *; omega)))
        · refine PC.gT (OpSem.fieldr rfl rfl fo90_1) rfl rfl rfl rfl c25 rfl ?_
          refine PC.gT (OpSem.loadb1 rfl rfl rfl vs3 rfl) rfl rfl rfl rfl c25 rfl ?_
          refine PC.gT (OpSem.bin rfl rfl rfl blss) rfl rfl rfl rfl c25 rfl ?_
          refine PC.sem (OpSem.pickF rfl rfl c25 rfl) rfl rfl ?_
          refine PC.sem (OpSem.move (.inl rfl) rfl) rfl rfl ?_
          refine PC.split (n := 30) rfl (fun c30 => ?_) (fun c30 => ?_)
          · refine PC.gF rfl rfl rfl rfl c30 rfl ?_
            refine PC.gF rfl rfl rfl rfl c30 rfl ?_
            refine PC.gF rfl rfl rfl rfl c30 rfl ?_
            refine PC.gF rfl rfl rfl rfl c30 rfl ?_
            refine PC.gF rfl rfl rfl rfl c30 rfl ?_
            refine PC.gF rfl rfl rfl rfl c30 rfl ?_
            refine PC.gF rfl rfl rfl rfl c30 rfl ?_
            refine PC.gF rfl rfl rfl rfl c30 rfl ?_
            refine PC.gF rfl rfl rfl rfl c30 rfl ?_
            refine PC.sem (OpSem.pickT rfl rfl c30 rfl) rfl rfl ?_
            refine PC.sem (OpSem.move (.inl rfl) rfl) rfl rfl ?_
            refine PC.gF rfl rfl rfl rfl rfl rfl ?_
            refine PC.gF rfl rfl rfl rfl rfl rfl ?_
            refine PC.gF rfl rfl rfl rfl rfl rfl ?_
            refine PC.gU rfl rfl rfl rfl rfl ?_
            refine PC.gU rfl rfl rfl rfl rfl ?_
            refine PC.gU rfl rfl rfl rfl rfl ?_
            refine PC.gU rfl rfl rfl rfl rfl ?_
            refine PC.gU rfl rfl rfl rfl rfl ?_
            refine PC.gU rfl rfl rfl rfl rfl ?_
            refine PC.gU rfl rfl rfl rfl rfl ?_
            refine PC.gU rfl rfl rfl rfl rfl ?_
            refine PC.done0 mixed (by kernel_rfl) (by kernel_rfl) (by kernel_rfl) (by kernel_rfl) (by kernel_rfl) ?_
            refine TrOps.gU rfl rfl rfl rfl rfl (by decide) ?_
            refine TrOps.gF rfl rfl rfl rfl rfl rfl (by decide) ?_
            refine TrOps.sem (OpSem.pickT rfl rfl rfl rfl) rfl rfl (by decide) ?_
            refine TrOps.nil ?_
            refine At.seq ?_
            refine Tr.condT rfl rfl ?_
            refine Tr.seq ?_
            refine Tr.region ?_
            refine TrOps.sem (OpSem.move (.inr rfl) rfl) rfl rfl (by decide) ?_
            refine TrOps.nil ?_
            refine At.seq ?_
            refine Tr.ret ?_
            refine At.block_ret ?_
            refine At.pass_ret ?_
            refine At.pass_ret ?_
            refine At.block_ret ?_
            refine At.pass_ret ?_
            exact At.ret rfl (.tmp rfl <| .nil) rfl (Le.bo (assigns_false k hk (fun hb => by simp at *; omega)))
          · refine PC.gT (OpSem.fieldr rfl rfl fo90_1) rfl rfl rfl rfl c30 rfl ?_
            refine PC.gT (OpSem.loadb1 rfl rfl rfl vs3 rfl) rfl rfl rfl rfl c30 rfl ?_
            refine PC.gT (OpSem.fieldr rfl rfl fo26_0) rfl rfl rfl rfl c30 rfl ?_
            refine PC.gT (OpSem.loadb1 rfl rfl rfl vs22 rfl) rfl rfl rfl rfl c30 rfl ?_
            refine PC.gT (OpSem.fieldr rfl rfl fo90_0) rfl rfl rfl rfl c30 rfl ?_
            refine PC.gT (OpSem.loadb1 rfl rfl rfl vs3 rfl) rfl rfl rfl rfl c30 rfl ?_
            refine PC.gT (OpSem.idxL rfl rfl rfl es22 (by simp at *; omega) (by simp at *; omega)) rfl rfl rfl rfl c30 rfl ?_
            refine PC.gT (OpSem.load1 rfl rfl vs3 rfl) rfl rfl rfl rfl c30 rfl ?_
            refine PC.gT (OpSem.bin rfl rfl rfl bgeq) rfl rfl rfl rfl c30 rfl ?_
            refine PC.sem (OpSem.pickF rfl rfl c30 rfl) rfl rfl ?_
            refine PC.sem (OpSem.move (.inl rfl) rfl) rfl rfl ?_
            refine PC.split (n := 41) rfl (fun c41 => ?_) (fun c41 => ?_)
            · refine PC.gF rfl rfl rfl rfl c41 rfl ?_
              refine PC.gF rfl rfl rfl rfl c41 rfl ?_
              refine PC.gF rfl rfl rfl rfl c41 rfl ?_
              refine PC.gU rfl rfl rfl rfl rfl ?_
              refine PC.gU rfl rfl rfl rfl rfl ?_
              refine PC.gU rfl rfl rfl rfl rfl ?_
              refine PC.gU rfl rfl rfl rfl rfl ?_
              refine PC.gU rfl rfl rfl rfl rfl ?_
              refine PC.gU rfl rfl rfl rfl rfl ?_
              refine PC.gU rfl rfl rfl rfl rfl ?_
              refine PC.gU rfl rfl rfl rfl rfl ?_
              refine PC.done0 mixed (by kernel_rfl) (by kernel_rfl) (by kernel_rfl) (by kernel_rfl) (by kernel_rfl) ?_
              refine TrOps.gU rfl rfl rfl rfl rfl (by decide) ?_
              refine TrOps.gF rfl rfl rfl rfl c41 rfl (by decide) ?_
              refine TrOps.sem (OpSem.pickT rfl rfl c41 rfl) rfl rfl (by decide) ?_
              refine TrOps.nil ?_
              refine At.seq ?_
              refine Tr.condT rfl rfl ?_
              refine Tr.seq ?_
              refine Tr.region ?_
              refine TrOps.sem (OpSem.move (.inr rfl) rfl) rfl rfl (by decide) ?_
              refine TrOps.nil ?_
              refine At.seq ?_
              refine Tr.ret ?_
              refine At.block_ret ?_
              refine At.pass_ret ?_
              refine At.pass_ret ?_
              refine At.block_ret ?_
              refine At.pass_ret ?_
              exact At.ret rfl (.tmp rfl <| .nil) rfl (Le.bo (assigns_false k hk (fun hb => by simp at *; omega)))
            · refine PC.gT (OpSem.move (.inl rfl) rfl) rfl rfl rfl rfl c41 rfl ?_
              refine PC.gT (OpSem.bin rfl rfl rfl bgtr) rfl rfl rfl rfl c41 rfl ?_
              refine PC.gT (OpSem.move (.inl rfl) rfl) rfl rfl rfl rfl c41 rfl ?_
              refine PC.split (n := 44) rfl (fun c44 => ?_) (fun c44 => ?_)
              · refine PC.gT (OpSem.fieldr rfl rfl fo90_0) rfl rfl rfl rfl c44 rfl ?_
                refine PC.gT (OpSem.loadb1 rfl rfl rfl vs3 rfl) rfl rfl rfl rfl c44 rfl ?_
                refine PC.gT (OpSem.move (.inl rfl) rfl) rfl rfl rfl rfl c44 rfl ?_
                refine PC.gT (OpSem.move (.inl rfl) rfl) rfl rfl rfl rfl c44 rfl ?_
                refine PC.gT (OpSem.bin rfl rfl rfl (bsub (by omega) (by omega))) rfl rfl rfl rfl c44 rfl ?_
                refine PC.gT (OpSem.idxL rfl rfl rfl es23 (by simp at c44; omega) (by omega)) rfl rfl rfl rfl c44 rfl ?_
                refine PC.gT (OpSem.fieldp rfl rfl fo90_0) rfl rfl rfl rfl c44 rfl ?_
                refine PC.gT (OpSem.load1 rfl rfl vs3 rfl) rfl rfl rfl rfl c44 rfl ?_
                refine PC.done0 mixed (by kernel_rfl) (by kernel_rfl) (by kernel_rfl) (by kernel_rfl) (by kernel_rfl) ?_
                refine TrOps.gT rfl rfl rfl rfl c44 ?_
                refine TrOps.sem (OpSem.bin rfl rfl rfl bleq) rfl rfl (by decide) ?_
                refine TrOps.gT rfl rfl rfl rfl c41 ?_
                refine TrOps.sem (OpSem.pickT rfl rfl c44 rfl) rfl rfl (by decide) ?_
                refine TrOps.sem (OpSem.pickF rfl rfl c41 rfl) rfl rfl (by decide) ?_
                refine TrOps.nil ?_
                refine At.seq ?_
                refine Tr.cond rfl (fun c55 => ?_) (fun c55 => ?_)
                · refine Tr.seq ?_
                  refine Tr.region ?_
                  refine TrOps.sem (OpSem.move (.inr rfl) rfl) rfl rfl (by decide) ?_
                  refine TrOps.nil ?_
                  refine At.seq ?_
                  refine Tr.ret ?_
                  refine At.block_ret ?_
                  refine At.pass_ret ?_
                  refine At.pass_ret ?_
                  refine At.block_ret ?_
                  refine At.pass_ret ?_
                  exact At.ret rfl (.tmp rfl <| .nil) rfl (Le.bo (assigns_false k hk (fun hb => by simp at *; omega)))
                · refine Tr.skip ?_
                  refine At.block_normal ?_
                  refine At.seq ?_
                  refine Tr.region ?_
                  refine TrOps.sem (OpSem.bin rfl rfl rfl (badd (by omega) (by omega))) rfl rfl (by decide) ?_
                  refine TrOps.sem (OpSem.move (.inl rfl) rfl) rfl rfl (by decide) ?_
                  refine TrOps.nil ?_
                  have hb : AsgOk m.sizes l k := by simp at *; omega
                  refine At.again (k + 1) ⟨by omega, all_succ hinv hb⟩ ?_ (by omega)
                  exact .slot rfl (.refl _) <| .slot rfl (.refl _) <| .slot rfl (.refl _) <| .slot rfl (.refl _) <| .slot rfl (Le.of_eq (by simp)) <| .mem rfl <| .nil
              · refine PC.gF rfl rfl rfl rfl c44 rfl ?_
                refine PC.gF rfl rfl rfl rfl c44 rfl ?_
                refine PC.gF rfl rfl rfl rfl c44 rfl ?_
                refine PC.gF rfl rfl rfl rfl c44 rfl ?_
                refine PC.gF rfl rfl rfl rfl c44 rfl ?_
                refine PC.gF rfl rfl rfl rfl c44 rfl ?_
                refine PC.gF rfl rfl rfl rfl c44 rfl ?_
                refine PC.gF rfl rfl rfl rfl c44 rfl ?_
                refine PC.done0 mixed (by kernel_rfl) (by kernel_rfl) (by kernel_rfl) (by kernel_rfl) (by kernel_rfl) ?_
                refine TrOps.gF rfl rfl rfl rfl c44 rfl (by decide) ?_
                refine TrOps.gT rfl rfl rfl rfl c41 ?_
                refine TrOps.sem (OpSem.pickF rfl rfl c44 rfl) rfl rfl (by decide) ?_
                refine TrOps.sem (OpSem.pickF rfl rfl c41 rfl) rfl rfl (by decide) ?_
                refine TrOps.nil ?_
                refine At.seq ?_
                refine Tr.condF rfl rfl ?_
                refine Tr.skip ?_
                refine At.block_normal ?_
                refine At.seq ?_
                refine Tr.region ?_
                refine TrOps.sem (OpSem.bin rfl rfl rfl (badd (by omega) (by omega))) rfl rfl (by decide) ?_
                refine TrOps.sem (OpSem.move (.inl rfl) rfl) rfl rfl (by decide) ?_
                refine TrOps.nil ?_
                have hb : AsgOk m.sizes l k := by simp at *; omega
                refine At.again (k + 1) ⟨by omega, all_succ hinv hb⟩ ?_ (by omega)
                exact .slot rfl (.refl _) <| .slot rfl (.refl _) <| .slot rfl (.refl _) <| .slot rfl (.refl _) <| .slot rfl (Le.of_eq (by simp)) <| .mem rfl <| .nil
    · have hk : k = l.length := by simp at c10; omega
      refine Tr.exit ?_
      refine At.pass_exit ?_
      refine At.pass_exit ?_
      refine At.block_same ?_
      refine At.seq ?_
      refine Tr.seq ?_
      refine Tr.region ?_
      refine TrOps.sem (OpSem.move (.inr rfl) rfl) rfl rfl (by decide) ?_
      refine TrOps.nil ?_
      refine At.seq ?_
      refine Tr.ret ?_
      exact At.ret rfl (.tmp rfl <| .nil) rfl (Le.bo (by subst hk; exact assigns_true hinv))

theorem R_Assigns_does (m : Multi) (l : List Asg) (hs : SizesP m.sizes) : Does Try.prog false 50 [multi m, .d (asgs l)] (Bo (assigns m.sizes l)) := by
  refine Does.of_body Try.func50 rfl rfl (by simp) Try.call50 (fun w0 O0 => ?_)
  refine Tr.lenG (n := 0) (i := 0) rfl rfl (fun len0_0 => ?_)
  refine Tr.lenG (n := 0) (i := 1) rfl rfl (fun len0_1 => ?_)
  refine Tr.lenG (n := 0) (i := 2) rfl rfl (fun len0_2 => ?_)
  refine Tr.lenG (n := 0) (i := 3) rfl rfl (fun len0_3 => ?_)
  refine Tr.lenLe (n := 1) rfl (fun len1 => ?_)
  refine Tr.seq ?_
  refine Tr.region ?_
  refine TrOps.semM (OpSem.box 2 rfl rfl rfl rfl) rfl rfl (by decide) ?_
  refine TrOps.sem (OpSem.move (.inr rfl) rfl) rfl rfl (by decide) ?_
  refine TrOps.nil ?_
  refine At.seq ?_
  refine Tr.seq ?_
  refine Tr.seq ?_
  refine Tr.region ?_
  refine TrOps.sem (OpSem.move (.inr rfl) rfl) rfl rfl (by decide) ?_
  refine TrOps.nil ?_
  refine At.seq ?_
  refine Tr.block ?_
  refine Tr.loop (X := Nat) (fun k => k ≤ l.length ∧ ∀ i : Nat, i < k → AsgOk m.sizes l i) (fun k => [(1, .d (asgs l)), (2, .r 2 0), (5, I (k))]) (fun k => [(2, .box [.d (ints m.sizes), .d (ints m.init), .d (asgs m.goal), .d (opsD m.ops)])]) (fun k => l.length - k) 0 ⟨by omega, by simp⟩ ?_ ?_
  · exact .slot rfl (.refl _) <| .slot rfl (.refl _) <| .slot rfl (Le.of_eq (by simp)) <| .mem rfl <| .nil
  · rintro k ⟨hkl, hinv⟩
    refine Tr.seq ?_
    refine Tr.seq ?_
    refine Tr.region ?_
    refine TrOps.sem (OpSem.move (.inl rfl) rfl) rfl rfl (by decide) ?_
    refine TrOps.sem (OpSem.move (.inl rfl) rfl) rfl rfl (by decide) ?_
    refine TrOps.sem (OpSem.lenL rfl rfl es23) rfl rfl (by decide) ?_
    refine TrOps.sem (OpSem.bin rfl rfl rfl blss) rfl rfl (by decide) ?_
    refine TrOps.nil ?_
    refine At.seq ?_
    refine Tr.cond rfl (fun c9 => ?_) (fun c9 => ?_)
    · have hk : k < l.length := by simpa using c9
      refine Tr.skip ?_
      refine At.seq ?_
      refine Tr.seq ?_
      refine Tr.block ?_
      refine Tr.seq ?_
      refine PC.start [] ?_
      refine PC.sem (OpSem.move (.inl rfl) rfl) rfl rfl ?_
      refine PC.sem (OpSem.move (.inl rfl) rfl) rfl rfl ?_
      refine PC.sem (OpSem.idxL rfl rfl rfl es23 (by omega) (by omega)) rfl rfl ?_
      refine PC.sem (OpSem.fieldp rfl rfl fo90_0) rfl rfl ?_
      refine PC.sem (OpSem.load1 rfl rfl vs3 rfl) rfl rfl ?_
      refine PC.sem (OpSem.fieldr rfl rfl fo26_0) rfl rfl ?_
      refine PC.sem (OpSem.loadb1 rfl rfl rfl vs22 rfl) rfl rfl ?_
      refine PC.sem (OpSem.lenL rfl rfl es22) rfl rfl ?_
      refine PC.sem (OpSem.bin rfl rfl rfl (bsub (by omega) (by omega))) rfl rfl ?_
      refine PC.sem (OpSem.call0 (R_In_does ..) rfl rfl rfl rfl (Les.refl _)) rfl rfl ?_
      refine PC.sem (OpSem.not rfl rfl) rfl rfl ?_
      refine PC.sem (OpSem.move (.inl rfl) rfl) rfl rfl ?_
      refine PC.split (n := 23) rfl (fun c23 => ?_) (fun c23 => ?_)
      · refine PC.gF rfl rfl rfl rfl c23 rfl ?_
        refine PC.gF rfl rfl rfl rfl c23 rfl ?_
        refine PC.gF rfl rfl rfl rfl c23 rfl ?_
        refine PC.gF rfl rfl rfl rfl c23 rfl ?_
        refine PC.gF rfl rfl rfl rfl c23 rfl ?_
        refine PC.gF rfl rfl rfl rfl c23 rfl ?_
        refine PC.gF rfl rfl rfl rfl c23 rfl ?_
        refine PC.gF rfl rfl rfl rfl c23 rfl ?_
        refine PC.gF rfl rfl rfl rfl c23 rfl ?_
        refine PC.gF rfl rfl rfl rfl c23 rfl ?_
        refine PC.gF rfl rfl rfl rfl c23 rfl ?_
        refine PC.gF rfl rfl rfl rfl c23 rfl ?_
        refine PC.gF rfl rfl rfl rfl c23 rfl ?_
        refine PC.gF rfl rfl rfl rfl c23 rfl ?_
        refine PC.gF rfl rfl rfl rfl c23 rfl ?_
        refine PC.gF rfl rfl rfl rfl c23 rfl ?_
        refine PC.gF rfl rfl rfl rfl c23 rfl ?_
        refine PC.sem (OpSem.pickT rfl rfl c23 rfl) rfl rfl ?_
        refine PC.sem (OpSem.move (.inl rfl) rfl) rfl rfl ?_
        refine PC.gF rfl rfl rfl rfl rfl rfl ?_
        refine PC.gF rfl rfl rfl rfl rfl rfl ?_
        refine PC.gF rfl rfl rfl rfl rfl rfl ?_
        refine PC.gU rfl rfl rfl rfl rfl ?_
        refine PC.gU rfl rfl rfl rfl rfl ?_
        refine PC.gU rfl rfl rfl rfl rfl ?_
        refine PC.gU rfl rfl rfl rfl rfl ?_
        refine PC.gU rfl rfl rfl rfl rfl ?_
        refine PC.gU rfl rfl rfl rfl rfl ?_
        refine PC.gU rfl rfl rfl rfl rfl ?_
        refine PC.gU rfl rfl rfl rfl rfl ?_
        refine PC.gU rfl rfl rfl rfl rfl ?_
        refine PC.gU rfl rfl rfl rfl rfl ?_
        refine PC.gU rfl rfl rfl rfl rfl ?_
        refine PC.gU rfl rfl rfl rfl rfl ?_
        refine PC.done0 mixed (by kernel_rfl) (by kernel_rfl) (by kernel_rfl) (by kernel_rfl) (by kernel_rfl) ?_
        refine TrOps.gF rfl rfl rfl rfl rfl rfl (by decide) ?_
        refine TrOps.sem (OpSem.pickT rfl rfl rfl rfl) rfl rfl (by decide) ?_
        refine TrOps.nil ?_
        refine At.seq ?_
        refine Tr.condT rfl rfl ?_
        refine Tr.seq ?_
        refine Tr.region ?_
        refine TrOps.sem (OpSem.move (.inr rfl) rfl) rfl rfl (by decide) ?_
        refine TrOps.nil ?_
        refine At.seq ?_
        refine Tr.ret ?_
        refine At.block_ret ?_
        refine At.pass_ret ?_
        refine At.pass_ret ?_
        refine At.block_ret ?_
        refine At.pass_ret ?_
        exact At.ret rfl (.tmp rfl <| .nil) rfl (Le.bo (assigns_false k hk (fun hb => by simp at *; omega)))
      · refine PC.gT (OpSem.move (.inl rfl) rfl) rfl rfl rfl rfl c23 rfl ?_
        refine PC.gT (OpSem.move (.inl rfl) rfl) rfl rfl rfl rfl c23 rfl ?_
        refine PC.gT (OpSem.idxL rfl rfl rfl es23 (by omega) (by omega)) rfl rfl rfl rfl c23 rfl ?_
        refine PC.gT (OpSem.fieldp rfl rfl fo90_1) rfl rfl rfl rfl c23 rfl ?_
        refine PC.gT (OpSem.load1 rfl rfl vs3 rfl) rfl rfl rfl rfl c23 rfl ?_
        refine PC.gT (OpSem.fieldr rfl rfl fo26_0) rfl rfl rfl rfl c23 rfl ?_
        refine PC.gT (OpSem.loadb1 rfl rfl rfl vs22 rfl) rfl rfl rfl rfl c23 rfl ?_
        refine PC.gT (OpSem.move (.inl rfl) rfl) rfl rfl rfl rfl c23 rfl ?_
        refine PC.gT (OpSem.move (.inl rfl) rfl) rfl rfl rfl rfl c23 rfl ?_
        refine PC.gT (OpSem.idxL rfl rfl rfl es23 (by omega) (by omega)) rfl rfl rfl rfl c23 rfl ?_
        refine PC.gT (OpSem.fieldp rfl rfl fo90_0) rfl rfl rfl rfl c23 rfl ?_
        refine PC.gT (OpSem.load1 rfl rfl vs3 rfl) rfl rfl rfl rfl c23 rfl ?_
        have hv := nth_size hs (n := (nth l k).1) (by simp at c23; omega) (by simp at c23; omega)
        refine PC.gT (OpSem.idxL rfl rfl rfl es22 (by simp at c23; omega) (by simp at c23; omega)) rfl rfl rfl rfl c23 rfl ?_
        refine PC.gT (OpSem.load1 rfl rfl vs3 rfl) rfl rfl rfl rfl c23 rfl ?_
        refine PC.gT (OpSem.bin rfl rfl rfl (bsub (by omega) (by omega))) rfl rfl rfl rfl c23 rfl ?_
        refine PC.gT (OpSem.call0 (R_In_does ..) rfl rfl rfl rfl (Les.refl _)) rfl rfl rfl rfl c23 rfl ?_
        refine PC.gT (OpSem.not rfl rfl) rfl rfl rfl rfl c23 rfl ?_
        refine PC.sem (OpSem.pickF rfl rfl c23 rfl) rfl rfl ?_
        refine PC.sem (OpSem.move (.inl rfl) rfl) rfl rfl ?_
        refine PC.split (n := 42) rfl (fun c42 => ?_) (fun c42 => ?_)
        · refine PC.gF rfl rfl rfl rfl c42 rfl ?_
          refine PC.gF rfl rfl rfl rfl c42 rfl ?_
          refine PC.gF rfl rfl rfl rfl c42 rfl ?_
          refine PC.gU rfl rfl rfl rfl rfl ?_
          refine PC.gU rfl rfl rfl rfl rfl ?_
          refine PC.gU rfl rfl rfl rfl rfl ?_
          refine PC.gU rfl rfl rfl rfl rfl ?_
          refine PC.gU rfl rfl rfl rfl rfl ?_
          refine PC.gU rfl rfl rfl rfl rfl ?_
          refine PC.gU rfl rfl rfl rfl rfl ?_
          refine PC.gU rfl rfl rfl rfl rfl ?_
          refine PC.gU rfl rfl rfl rfl rfl ?_
          refine PC.gU rfl rfl rfl rfl rfl ?_
          refine PC.gU rfl rfl rfl rfl rfl ?_
          refine PC.gU rfl rfl rfl rfl rfl ?_
          refine PC.done0 mixed (by kernel_rfl) (by kernel_rfl) (by kernel_rfl) (by kernel_rfl) (by kernel_rfl) ?_
          refine TrOps.gF rfl rfl rfl rfl c42 rfl (by decide) ?_
          refine TrOps.sem (OpSem.pickT rfl rfl c42 rfl) rfl rfl (by decide) ?_
          refine TrOps.nil ?_
          refine At.seq ?_
          refine Tr.condT rfl rfl ?_
          refine Tr.seq ?_
          refine Tr.region ?_
          refine TrOps.sem (OpSem.move (.inr rfl) rfl) rfl rfl (by decide) ?_
          refine TrOps.nil ?_
          refine At.seq ?_
          refine Tr.ret ?_
          refine At.block_ret ?_
          refine At.pass_ret ?_
          refine At.pass_ret ?_
          refine At.block_ret ?_
          refine At.pass_ret ?_
          exact At.ret rfl (.tmp rfl <| .nil) rfl (Le.bo (assigns_false k hk (fun hb => by simp at *; omega)))
        · refine PC.gT (OpSem.move (.inl rfl) rfl) rfl rfl rfl rfl c42 rfl ?_
          refine PC.gT (OpSem.bin rfl rfl rfl bgtr) rfl rfl rfl rfl c42 rfl ?_
          refine PC.gT (OpSem.move (.inl rfl) rfl) rfl rfl rfl rfl c42 rfl ?_
          refine PC.split (n := 45) rfl (fun c45 => ?_) (fun c45 => ?_)
          · refine PC.gT (OpSem.move (.inl rfl) rfl) rfl rfl rfl rfl c45 rfl ?_
            refine PC.gT (OpSem.move (.inl rfl) rfl) rfl rfl rfl rfl c45 rfl ?_
            refine PC.gT (OpSem.idxL rfl rfl rfl es23 (by omega) (by omega)) rfl rfl rfl rfl c45 rfl ?_
            refine PC.gT (OpSem.fieldp rfl rfl fo90_0) rfl rfl rfl rfl c45 rfl ?_
            refine PC.gT (OpSem.load1 rfl rfl vs3 rfl) rfl rfl rfl rfl c45 rfl ?_
            refine PC.gT (OpSem.move (.inl rfl) rfl) rfl rfl rfl rfl c45 rfl ?_
            refine PC.gT (OpSem.move (.inl rfl) rfl) rfl rfl rfl rfl c45 rfl ?_
            refine PC.gT (OpSem.bin rfl rfl rfl (bsub (by omega) (by omega))) rfl rfl rfl rfl c45 rfl ?_
            refine PC.gT (OpSem.idxL rfl rfl rfl es23 (by simp at c45; omega) (by omega)) rfl rfl rfl rfl c45 rfl ?_
            refine PC.gT (OpSem.fieldp rfl rfl fo90_0) rfl rfl rfl rfl c45 rfl ?_
            refine PC.gT (OpSem.load1 rfl rfl vs3 rfl) rfl rfl rfl rfl c45 rfl ?_
            refine PC.gT (OpSem.bin rfl rfl rfl bleq) rfl rfl rfl rfl c45 rfl ?_
            refine PC.done0 mixed (by kernel_rfl) (by kernel_rfl) (by kernel_rfl) (by kernel_rfl) (by kernel_rfl) ?_
            refine TrOps.gT rfl rfl rfl rfl c42 ?_
            refine TrOps.sem (OpSem.pickT rfl rfl c45 rfl) rfl rfl (by decide) ?_
            refine TrOps.sem (OpSem.pickF rfl rfl c42 rfl) rfl rfl (by decide) ?_
            refine TrOps.nil ?_
            refine At.seq ?_
            refine Tr.cond rfl (fun c59 => ?_) (fun c59 => ?_)
            · refine Tr.seq ?_
              refine Tr.region ?_
              refine TrOps.sem (OpSem.move (.inr rfl) rfl) rfl rfl (by decide) ?_
              refine TrOps.nil ?_
              refine At.seq ?_
              refine Tr.ret ?_
              refine At.block_ret ?_
              refine At.pass_ret ?_
              refine At.pass_ret ?_
              refine At.block_ret ?_
              refine At.pass_ret ?_
              exact At.ret rfl (.tmp rfl <| .nil) rfl (Le.bo (assigns_false k hk (fun hb => by simp at *; omega)))
            · refine Tr.skip ?_
              refine At.block_normal ?_
              refine At.seq ?_
              refine Tr.region ?_
              refine TrOps.sem (OpSem.move (.inl rfl) rfl) rfl rfl (by decide) ?_
              refine TrOps.sem (OpSem.bin rfl rfl rfl (badd (by omega) (by omega))) rfl rfl (by decide) ?_
              refine TrOps.sem (OpSem.move (.inr rfl) rfl) rfl rfl (by decide) ?_
              refine TrOps.nil ?_
              have hb : AsgOk m.sizes l k := by simp at *; omega
              refine At.again (k + 1) ⟨by omega, all_succ hinv hb⟩ ?_ (by omega)
              exact .slot rfl (.refl _) <| .slot rfl (.refl _) <| .slot rfl (Le.of_eq (by simp)) <| .mem rfl <| .nil
          · refine PC.gF rfl rfl rfl rfl c45 rfl ?_
            refine PC.gF rfl rfl rfl rfl c45 rfl ?_
            refine PC.gF rfl rfl rfl rfl c45 rfl ?_
            refine PC.gF rfl rfl rfl rfl c45 rfl ?_
            refine PC.gF rfl rfl rfl rfl c45 rfl ?_
            refine PC.gF rfl rfl rfl rfl c45 rfl ?_
            refine PC.gF rfl rfl rfl rfl c45 rfl ?_
            refine PC.gF rfl rfl rfl rfl c45 rfl ?_
            refine PC.gF rfl rfl rfl rfl c45 rfl ?_
            refine PC.gF rfl rfl rfl rfl c45 rfl ?_
            refine PC.gF rfl rfl rfl rfl c45 rfl ?_
            refine PC.gF rfl rfl rfl rfl c45 rfl ?_
            refine PC.done0 mixed (by kernel_rfl) (by kernel_rfl) (by kernel_rfl) (by kernel_rfl) (by kernel_rfl) ?_
            refine TrOps.gT rfl rfl rfl rfl c42 ?_
            refine TrOps.sem (OpSem.pickF rfl rfl c45 rfl) rfl rfl (by decide) ?_
            refine TrOps.sem (OpSem.pickF rfl rfl c42 rfl) rfl rfl (by decide) ?_
            refine TrOps.nil ?_
            refine At.seq ?_
            refine Tr.condF rfl rfl ?_
            refine Tr.skip ?_
            refine At.block_normal ?_
            refine At.seq ?_
            refine Tr.region ?_
            refine TrOps.sem (OpSem.move (.inl rfl) rfl) rfl rfl (by decide) ?_
            refine TrOps.sem (OpSem.bin rfl rfl rfl (badd (by omega) (by omega))) rfl rfl (by decide) ?_
            refine TrOps.sem (OpSem.move (.inr rfl) rfl) rfl rfl (by decide) ?_
            refine TrOps.nil ?_
            have hb : AsgOk m.sizes l k := by simp at *; omega
            refine At.again (k + 1) ⟨by omega, all_succ hinv hb⟩ ?_ (by omega)
            exact .slot rfl (.refl _) <| .slot rfl (.refl _) <| .slot rfl (Le.of_eq (by simp)) <| .mem rfl <| .nil
    · have hk : k = l.length := by simp at c9; omega
      refine Tr.exit ?_
      refine At.pass_exit ?_
      refine At.pass_exit ?_
      refine At.block_same ?_
      refine At.seq ?_
      refine Tr.seq ?_
      refine Tr.region ?_
      refine TrOps.sem (OpSem.move (.inr rfl) rfl) rfl rfl (by decide) ?_
      refine TrOps.nil ?_
      refine At.seq ?_
      refine Tr.ret ?_
      exact At.ret rfl (.tmp rfl <| .nil) rfl (Le.bo (by subst hk; exact assigns_true hinv))

theorem multi_Validate_does (m : Multi) : Does Try.prog false 61 [multi m] (flt (validate m)) := by
  refine Does.of_body Try.func61 rfl rfl (by simp) Try.call61 (fun w0 O0 => ?_)
  refine Tr.lenG (n := 0) (i := 0) rfl rfl (fun len0_0 => ?_)
  refine Tr.lenG (n := 0) (i := 1) rfl rfl (fun len0_1 => ?_)
  refine Tr.lenG (n := 0) (i := 2) rfl rfl (fun len0_2 => ?_)
  refine Tr.lenG (n := 0) (i := 3) rfl rfl (fun len0_3 => ?_)
  refine Tr.seq ?_
  refine Tr.region ?_
  refine TrOps.semM (OpSem.box 1 rfl rfl rfl rfl) rfl rfl (by decide) ?_
  refine TrOps.semM (OpSem.alloc 2 rfl zc29 rfl) rfl rfl (by decide) ?_
  refine TrOps.nil ?_
  refine At.seq ?_
  refine Tr.seq ?_
  refine Tr.region ?_
  refine TrOps.sem (OpSem.move (.inr rfl) rfl) rfl rfl (by decide) ?_
  refine TrOps.nil ?_
  refine At.seq ?_
  refine Tr.seq ?_
  refine Tr.block ?_
  refine Tr.seq ?_
  refine Tr.region ?_
  refine TrOps.sem (OpSem.fieldr rfl rfl fo26_0) rfl rfl (by decide) ?_
  refine TrOps.sem (OpSem.loadb1 rfl rfl rfl vs22 rfl) rfl rfl (by decide) ?_
  refine TrOps.sem (OpSem.lenL rfl rfl es22) rfl rfl (by decide) ?_
  refine TrOps.sem (OpSem.bin rfl rfl rfl beql) rfl rfl (by decide) ?_
  refine TrOps.sem (OpSem.move (.inl rfl) rfl) rfl rfl (by decide) ?_
  refine TrOps.split (n := 11) rfl (fun c11 => ?_) (fun c11 => ?_)
  · refine TrOps.gF rfl rfl rfl rfl c11 rfl (by decide) ?_
    refine TrOps.gF rfl rfl rfl rfl c11 rfl (by decide) ?_
    refine TrOps.gF rfl rfl rfl rfl c11 rfl (by decide) ?_
    refine TrOps.gF rfl rfl rfl rfl c11 rfl (by decide) ?_
    refine TrOps.sem (OpSem.pickT rfl rfl c11 rfl) rfl rfl (by decide) ?_
    refine TrOps.sem (OpSem.move (.inr rfl) rfl) rfl rfl (by decide) ?_
    refine TrOps.nil ?_
    refine At.seq ?_
    refine Tr.condT rfl rfl ?_
    refine Tr.seq ?_
    refine Tr.region ?_
    refine TrOps.sem (OpSem.build rfl rfl pl29 zc29 rfl rfl) rfl rfl (by decide) ?_
    refine TrOps.storeb rfl rfl rfl rfl rfl rfl rfl vs29 (by first | decide | simp) ?_
    refine TrOps.nil ?_
    refine At.seq ?_
    refine Tr.ret ?_
    refine At.block_ret ?_
    refine At.pass_ret ?_
    exact At.ret rfl (.cellN rfl rfl vs29 <| .nil) rfl (Le.flt (validate_1 (.inl (by simp only [decide_eq_true_eq] at c11; omega))))
  · refine TrOps.gT rfl rfl rfl rfl c11 ?_
    refine TrOps.sem (OpSem.fieldr rfl rfl fo26_0) rfl rfl (by decide) ?_
    refine TrOps.gT rfl rfl rfl rfl c11 ?_
    refine TrOps.sem (OpSem.loadb1 rfl rfl rfl vs22 rfl) rfl rfl (by decide) ?_
    refine TrOps.gT rfl rfl rfl rfl c11 ?_
    refine TrOps.sem (OpSem.lenL rfl rfl es22) rfl rfl (by decide) ?_
    refine TrOps.gT rfl rfl rfl rfl c11 ?_
    refine TrOps.sem (OpSem.bin rfl rfl rfl bgtr) rfl rfl (by decide) ?_
    refine TrOps.sem (OpSem.pickF rfl rfl c11 rfl) rfl rfl (by decide) ?_
    refine TrOps.sem (OpSem.move (.inr rfl) rfl) rfl rfl (by decide) ?_
    refine TrOps.nil ?_
    refine At.seq ?_
    refine Tr.cond rfl (fun c6 => ?_) (fun c6 => ?_)
    · refine Tr.seq ?_
      refine Tr.region ?_
      refine TrOps.sem (OpSem.build rfl rfl pl29 zc29 rfl rfl) rfl rfl (by decide) ?_
      refine TrOps.storeb rfl rfl rfl rfl rfl rfl rfl vs29 (by first | decide | simp) ?_
      refine TrOps.nil ?_
      refine At.seq ?_
      refine Tr.ret ?_
      refine At.block_ret ?_
      refine At.pass_ret ?_
      exact At.ret rfl (.cellN rfl rfl vs29 <| .nil) rfl (Le.flt (validate_1 (.inr (by simp at c6; omega))))
    · refine Tr.seq ?_
      refine Tr.region ?_
      have h1 : ¬ (m.sizes.length = 0 ∨ 8 < m.sizes.length) := by simp only [decide_eq_false_iff_not] at c11 c6; omega
      refine TrOps.sem (OpSem.fieldr rfl rfl fo26_0) rfl rfl (by decide) ?_
      refine TrOps.sem (OpSem.loadb1 rfl rfl rfl vs22 rfl) rfl rfl (by decide) ?_
      refine TrOps.sem (OpSem.move (.inl rfl) rfl) rfl rfl (by decide) ?_
      refine TrOps.sem (OpSem.call0 (slices_ContainsFunc_int_int_does m.sizes 89 [] (fun n => decide (n < 1 ∨ 6 < n)) (fun n hn => rfl) (fun x _ => multi_Validate_1_does x)) rfl rfl rfl rfl (Les.refl _)) rfl rfl (by decide) ?_
      refine TrOps.sem (OpSem.move (.inr rfl) rfl) rfl rfl (by decide) ?_
      refine TrOps.nil ?_
      refine At.seq ?_
      refine Tr.cond rfl (fun c18 => ?_) (fun c18 => ?_)
      · refine Tr.seq ?_
        refine Tr.region ?_
        refine TrOps.sem (OpSem.build rfl rfl pl29 zc29 rfl rfl) rfl rfl (by decide) ?_
        refine TrOps.storeb rfl rfl rfl rfl rfl rfl rfl vs29 (by first | decide | simp) ?_
        refine TrOps.nil ?_
        refine At.seq ?_
        refine Tr.ret ?_
        refine At.block_ret ?_
        refine At.pass_ret ?_
        exact At.ret rfl (.cellN rfl rfl vs29 <| .nil) rfl (Le.flt (validate_2 h1 (sizes_any' c18)))
      · have h2 := sizes_any c18
        refine Tr.seq ?_
        refine Tr.region ?_
        refine TrOps.sem (OpSem.loadbN rfl rfl rfl vs26 (by first | decide | simp)) rfl rfl (by decide) ?_
        refine TrOps.sem (OpSem.fieldr rfl rfl fo26_1) rfl rfl (by decide) ?_
        refine TrOps.sem (OpSem.loadb1 rfl rfl rfl vs22 rfl) rfl rfl (by decide) ?_
        refine TrOps.sem (OpSem.call0 (multi_IsState_does ..) rfl rfl rfl rfl (Les.refl _)) rfl rfl (by decide) ?_
        refine TrOps.sem (OpSem.not rfl rfl) rfl rfl (by decide) ?_
        refine TrOps.sem (OpSem.move (.inr rfl) rfl) rfl rfl (by decide) ?_
        refine TrOps.nil ?_
        refine At.seq ?_
        refine Tr.cond rfl (fun c24 => ?_) (fun c24 => ?_)
        · refine Tr.seq ?_
          refine Tr.region ?_
          refine TrOps.sem (OpSem.build rfl rfl pl29 zc29 rfl rfl) rfl rfl (by decide) ?_
          refine TrOps.storeb rfl rfl rfl rfl rfl rfl rfl vs29 (by first | decide | simp) ?_
          refine TrOps.nil ?_
          refine At.seq ?_
          refine Tr.ret ?_
          refine At.block_ret ?_
          refine At.pass_ret ?_
          exact At.ret rfl (.cellN rfl rfl vs29 <| .nil) rfl (Le.flt (validate_3 h1 h2 (by simpa using c24)))
        · have h3 : isState m.sizes m.init = true := by simpa using c24
          refine Tr.seq ?_
          refine Tr.region ?_
          refine TrOps.sem (OpSem.loadbN rfl rfl rfl vs26 (by first | decide | simp)) rfl rfl (by decide) ?_
          refine TrOps.sem (OpSem.fieldr rfl rfl fo26_2) rfl rfl (by decide) ?_
          refine TrOps.sem (OpSem.loadb1 rfl rfl rfl vs23 rfl) rfl rfl (by decide) ?_
          refine TrOps.sem (OpSem.call0 (multi_assigns_does ..) rfl rfl rfl rfl (Les.refl _)) rfl rfl (by decide) ?_
          refine TrOps.sem (OpSem.not rfl rfl) rfl rfl (by decide) ?_
          refine TrOps.sem (OpSem.move (.inr rfl) rfl) rfl rfl (by decide) ?_
          refine TrOps.nil ?_
          refine At.seq ?_
          refine Tr.cond rfl (fun c31 => ?_) (fun c31 => ?_)
          · refine Tr.seq ?_
            refine Tr.region ?_
            refine TrOps.sem (OpSem.build rfl rfl pl29 zc29 rfl rfl) rfl rfl (by decide) ?_
            refine TrOps.storeb rfl rfl rfl rfl rfl rfl rfl vs29 (by first | decide | simp) ?_
            refine TrOps.nil ?_
            refine At.seq ?_
            refine Tr.ret ?_
            refine At.block_ret ?_
            refine At.pass_ret ?_
            exact At.ret rfl (.cellN rfl rfl vs29 <| .nil) rfl (Le.flt (validate_4 h1 h2 h3 (by simpa using c31)))
          · have h4 : assigns m.sizes m.goal = true := by simpa using c31
            refine Tr.seq ?_
            refine Tr.region ?_
            refine TrOps.sem (OpSem.fieldr rfl rfl fo26_3) rfl rfl (by decide) ?_
            refine TrOps.sem (OpSem.loadb1 rfl rfl rfl vs24 rfl) rfl rfl (by decide) ?_
            refine TrOps.sem (OpSem.lenL rfl rfl es24) rfl rfl (by decide) ?_
            refine TrOps.sem (OpSem.bin rfl rfl rfl bgtr) rfl rfl (by decide) ?_
            refine TrOps.sem (OpSem.move (.inr rfl) rfl) rfl rfl (by decide) ?_
            refine TrOps.nil ?_
            refine At.seq ?_
            refine Tr.cond rfl (fun c38 => ?_) (fun c38 => ?_)
            · refine Tr.seq ?_
              refine Tr.region ?_
              refine TrOps.sem (OpSem.build rfl rfl pl29 zc29 rfl rfl) rfl rfl (by decide) ?_
              refine TrOps.storeb rfl rfl rfl rfl rfl rfl rfl vs29 (by first | decide | simp) ?_
              refine TrOps.nil ?_
              refine At.seq ?_
              refine Tr.ret ?_
              refine At.block_ret ?_
              refine At.pass_ret ?_
              exact At.ret rfl (.cellN rfl rfl vs29 <| .nil) rfl (Le.flt (validate_5 h1 h2 h3 h4 (by simp at c38; omega)))
            · have h5 : ¬ 40 < m.ops.length := by simp at c38; omega
              refine Tr.skip ?_
              refine At.block_normal ?_
              refine At.seq ?_
              refine Tr.seq ?_
              refine Tr.seq ?_
              refine Tr.region ?_
              refine TrOps.sem (OpSem.fieldr rfl rfl fo26_3) rfl rfl (by decide) ?_
              refine TrOps.sem (OpSem.loadb1 rfl rfl rfl vs24 rfl) rfl rfl (by decide) ?_
              refine TrOps.sem (OpSem.lenL rfl rfl es24) rfl rfl (by decide) ?_
              refine TrOps.sem (OpSem.move (.inl rfl) rfl) rfl rfl (by decide) ?_
              refine TrOps.nil ?_
              refine At.seq ?_
              refine Tr.block ?_
              refine Tr.loop (X := Nat) (fun k => k ≤ m.ops.length ∧ ∀ j : Nat, j < k → opFault m j = (0, 0)) (fun k => [(1, .r 1 0), (2, .r 2 0), (45, .d (opsD m.ops)), (46, I (m.ops.length)), (47, I (k))]) (fun k => [(1, .box [.d (ints m.sizes), .d (ints m.init), .d (asgs m.goal), .d (opsD m.ops)]), (2, .box [I (0), I (0)])]) (fun k => m.ops.length - k) 0 ⟨by omega, by simp⟩ ?_ ?_
              · exact .slot rfl (.refl _) <| .slot rfl (.refl _) <| .slot rfl (.refl _) <| .slot rfl (.refl _) <| .slot rfl (Le.of_eq (by simp)) <| .mem rfl <| .mem rfl <| .nil
              · rintro k ⟨hkl, hinv⟩
                refine Tr.seq ?_
                refine Tr.region ?_
                refine TrOps.sem (OpSem.bin rfl rfl rfl blss) rfl rfl (by decide) ?_
                refine TrOps.nil ?_
                refine At.seq ?_
                refine Tr.seq ?_
                refine Tr.cond rfl (fun c48 => ?_) (fun c48 => ?_)
                · have hk : k < m.ops.length := by simpa using c48
                  refine Tr.skip ?_
                  refine At.seq ?_
                  refine Tr.seq ?_
                  refine Tr.block ?_
                  refine Tr.seq ?_
                  refine Tr.region ?_
                  refine TrOps.sem (OpSem.move (.inl rfl) rfl) rfl rfl (by decide) ?_
                  refine TrOps.sem (OpSem.idxL rfl rfl rfl es24 (by omega) (by omega)) rfl rfl (by decide) ?_
                  refine TrOps.sem (OpSem.loadN rfl rfl vs81 (by first | decide | simp) rfl) rfl rfl (by decide) ?_
                  refine TrOps.semM (OpSem.alloc 5 rfl zc81 rfl) rfl rfl (by decide) ?_
                  refine TrOps.sem (OpSem.move (.inr rfl) rfl) rfl rfl (by decide) ?_
                  refine TrOps.storeb rfl rfl rfl rfl rfl rfl rfl vs81 (by first | decide | simp) ?_
                  refine TrOps.nil ?_
                  refine At.seq ?_
                  refine Tr.block ?_
                  refine Tr.seq ?_
                  refine Tr.region ?_
                  refine TrOps.sem (OpSem.loadbN rfl rfl rfl vs26 (by first | decide | simp)) rfl rfl (by decide) ?_
                  refine TrOps.sem (OpSem.fieldr rfl rfl fo81_0) rfl rfl (by decide) ?_
                  refine TrOps.sem (OpSem.loadb1 rfl rfl rfl vs23 rfl) rfl rfl (by decide) ?_
                  refine TrOps.sem (OpSem.call0 (multi_assigns_does ..) rfl rfl rfl rfl (Les.refl _)) rfl rfl (by decide) ?_
                  refine TrOps.sem (OpSem.not rfl rfl) rfl rfl (by decide) ?_
                  refine TrOps.sem (OpSem.move (.inl rfl) rfl) rfl rfl (by decide) ?_
                  refine TrOps.split (n := 58) rfl (fun c58 => ?_) (fun c58 => ?_)
                  · refine TrOps.gF rfl rfl rfl rfl c58 rfl (by decide) ?_
                    refine TrOps.gF rfl rfl rfl rfl c58 rfl (by decide) ?_
                    refine TrOps.gF rfl rfl rfl rfl c58 rfl (by decide) ?_
                    refine TrOps.gF rfl rfl rfl rfl c58 rfl (by decide) ?_
                    refine TrOps.gF rfl rfl rfl rfl c58 rfl (by decide) ?_
                    refine TrOps.sem (OpSem.pickT rfl rfl c58 rfl) rfl rfl (by decide) ?_
                    refine TrOps.sem (OpSem.move (.inr rfl) rfl) rfl rfl (by decide) ?_
                    refine TrOps.nil ?_
                    refine At.seq ?_
                    refine Tr.condT rfl rfl ?_
                    refine Tr.seq ?_
                    refine Tr.region ?_
                    refine TrOps.sem (OpSem.move (.inl rfl) rfl) rfl rfl (by decide) ?_
                    refine TrOps.sem (OpSem.build rfl rfl pl29 zc29 rfl rfl) rfl rfl (by decide) ?_
                    refine TrOps.storeb rfl rfl rfl rfl rfl rfl rfl vs29 (by first | decide | simp) ?_
                    refine TrOps.nil ?_
                    refine At.seq ?_
                    refine Tr.ret ?_
                    refine At.block_ret ?_
                    refine At.block_ret ?_
                    refine At.pass_ret ?_
                    refine At.pass_ret ?_
                    refine At.block_ret ?_
                    refine At.pass_ret ?_
                    exact At.ret rfl (.cellN rfl rfl vs29 <| .nil) rfl (Le.flt (validate_7 h1 h2 h3 h4 h5 hk hinv (opFault_5 (by simp at c58; simp [c58])) (by simp)))
                  · refine TrOps.gT rfl rfl rfl rfl c58 ?_
                    refine TrOps.sem (OpSem.loadbN rfl rfl rfl vs26 (by first | decide | simp)) rfl rfl (by decide) ?_
                    refine TrOps.gT rfl rfl rfl rfl c58 ?_
                    refine TrOps.sem (OpSem.fieldr rfl rfl fo81_1) rfl rfl (by decide) ?_
                    refine TrOps.gT rfl rfl rfl rfl c58 ?_
                    refine TrOps.sem (OpSem.loadb1 rfl rfl rfl vs23 rfl) rfl rfl (by decide) ?_
                    refine TrOps.gT rfl rfl rfl rfl c58 ?_
                    refine TrOps.sem (OpSem.call0 (multi_assigns_does ..) rfl rfl rfl rfl (Les.refl _)) rfl rfl (by decide) ?_
                    refine TrOps.gT rfl rfl rfl rfl c58 ?_
                    refine TrOps.sem (OpSem.not rfl rfl) rfl rfl (by decide) ?_
                    refine TrOps.sem (OpSem.pickF rfl rfl c58 rfl) rfl rfl (by decide) ?_
                    refine TrOps.sem (OpSem.move (.inr rfl) rfl) rfl rfl (by decide) ?_
                    refine TrOps.nil ?_
                    refine At.seq ?_
                    refine Tr.cond rfl (fun c52 => ?_) (fun c52 => ?_)
                    · refine Tr.seq ?_
                      refine Tr.region ?_
                      refine TrOps.sem (OpSem.move (.inl rfl) rfl) rfl rfl (by decide) ?_
                      refine TrOps.sem (OpSem.build rfl rfl pl29 zc29 rfl rfl) rfl rfl (by decide) ?_
                      refine TrOps.storeb rfl rfl rfl rfl rfl rfl rfl vs29 (by first | decide | simp) ?_
                      refine TrOps.nil ?_
                      refine At.seq ?_
                      refine Tr.ret ?_
                      refine At.block_ret ?_
                      refine At.block_ret ?_
                      refine At.pass_ret ?_
                      refine At.pass_ret ?_
                      refine At.block_ret ?_
                      refine At.pass_ret ?_
                      exact At.ret rfl (.cellN rfl rfl vs29 <| .nil) rfl (Le.flt (validate_7 h1 h2 h3 h4 h5 hk hinv (opFault_5 (by simp at c52; simp [c52])) (by simp)))
                    · have ha : assigns m.sizes (nth m.ops k).pre = true ∧ assigns m.sizes (nth m.ops k).post = true := by simp at c58 c52; exact ⟨c58, c52⟩
                      refine Tr.seq ?_
                      refine Tr.region ?_
                      refine TrOps.sem (OpSem.fieldr rfl rfl fo81_2) rfl rfl (by decide) ?_
                      refine TrOps.sem (OpSem.loadb1 rfl rfl rfl vs3 rfl) rfl rfl (by decide) ?_
                      refine TrOps.sem (OpSem.bin rfl rfl rfl blss) rfl rfl (by decide) ?_
                      refine TrOps.sem (OpSem.move (.inl rfl) rfl) rfl rfl (by decide) ?_
                      refine TrOps.split (n := 71) rfl (fun c71 => ?_) (fun c71 => ?_)
                      · refine TrOps.gF rfl rfl rfl rfl c71 rfl (by decide) ?_
                        refine TrOps.gF rfl rfl rfl rfl c71 rfl (by decide) ?_
                        refine TrOps.gF rfl rfl rfl rfl c71 rfl (by decide) ?_
                        refine TrOps.sem (OpSem.pickT rfl rfl c71 rfl) rfl rfl (by decide) ?_
                        refine TrOps.sem (OpSem.move (.inr rfl) rfl) rfl rfl (by decide) ?_
                        refine TrOps.nil ?_
                        refine At.seq ?_
                        refine Tr.condT rfl rfl ?_
                        refine Tr.seq ?_
                        refine Tr.region ?_
                        refine TrOps.sem (OpSem.move (.inl rfl) rfl) rfl rfl (by decide) ?_
                        refine TrOps.sem (OpSem.build rfl rfl pl29 zc29 rfl rfl) rfl rfl (by decide) ?_
                        refine TrOps.storeb rfl rfl rfl rfl rfl rfl rfl vs29 (by first | decide | simp) ?_
                        refine TrOps.nil ?_
                        refine At.seq ?_
                        refine Tr.ret ?_
                        refine At.block_ret ?_
                        refine At.block_ret ?_
                        refine At.pass_ret ?_
                        refine At.pass_ret ?_
                        refine At.block_ret ?_
                        refine At.pass_ret ?_
                        exact At.ret rfl (.cellN rfl rfl vs29 <| .nil) rfl (Le.flt (validate_7 h1 h2 h3 h4 h5 hk hinv (opFault_3 ha (by simp at c71; omega)) (by simp)))
                      · refine TrOps.gT rfl rfl rfl rfl c71 ?_
                        refine TrOps.sem (OpSem.fieldr rfl rfl fo81_2) rfl rfl (by decide) ?_
                        refine TrOps.gT rfl rfl rfl rfl c71 ?_
                        refine TrOps.sem (OpSem.loadb1 rfl rfl rfl vs3 rfl) rfl rfl (by decide) ?_
                        refine TrOps.gT rfl rfl rfl rfl c71 ?_
                        refine TrOps.sem (OpSem.bin rfl rfl rfl bgtr) rfl rfl (by decide) ?_
                        refine TrOps.sem (OpSem.pickF rfl rfl c71 rfl) rfl rfl (by decide) ?_
                        refine TrOps.sem (OpSem.move (.inr rfl) rfl) rfl rfl (by decide) ?_
                        refine TrOps.nil ?_
                        refine At.seq ?_
                        refine Tr.cond rfl (fun c67 => ?_) (fun c67 => ?_)
                        · refine Tr.seq ?_
                          refine Tr.region ?_
                          refine TrOps.sem (OpSem.move (.inl rfl) rfl) rfl rfl (by decide) ?_
                          refine TrOps.sem (OpSem.build rfl rfl pl29 zc29 rfl rfl) rfl rfl (by decide) ?_
                          refine TrOps.storeb rfl rfl rfl rfl rfl rfl rfl vs29 (by first | decide | simp) ?_
                          refine TrOps.nil ?_
                          refine At.seq ?_
                          refine Tr.ret ?_
                          refine At.block_ret ?_
                          refine At.block_ret ?_
                          refine At.pass_ret ?_
                          refine At.pass_ret ?_
                          refine At.block_ret ?_
                          refine At.pass_ret ?_
                          exact At.ret rfl (.cellN rfl rfl vs29 <| .nil) rfl (Le.flt (validate_7 h1 h2 h3 h4 h5 hk hinv (opFault_3 ha (by simp at c67; omega)) (by simp)))
                        · have hb := opFault_0 ha (by simp at c71 c67; omega)
                          refine Tr.skip ?_
                          refine At.block_normal ?_
                          refine At.block_normal ?_
                          refine At.seq ?_
                          refine Tr.region ?_
                          refine TrOps.sem (OpSem.bin rfl rfl rfl (badd (by omega) (by omega))) rfl rfl (by decide) ?_
                          refine TrOps.sem (OpSem.move (.inl rfl) rfl) rfl rfl (by decide) ?_
                          refine TrOps.nil ?_
                          refine At.again (k + 1) ⟨by omega, all_succ hinv hb⟩ ?_ (by omega)
                          exact .slot rfl (.refl _) <| .slot rfl (.refl _) <| .slot rfl (.refl _) <| .slot rfl (.refl _) <| .slot rfl (Le.of_eq (by simp)) <| .mem rfl <| .mem rfl <| .nil
                · have hk : k = m.ops.length := by simp at c48; omega
                  refine Tr.exit ?_
                  refine At.pass_exit ?_
                  refine At.pass_exit ?_
                  refine At.block_same ?_
                  refine At.seq ?_
                  refine Tr.seq ?_
                  refine Tr.region ?_
                  refine TrOps.sem (OpSem.build rfl rfl pl29 zc29 rfl rfl) rfl rfl (by decide) ?_
                  refine TrOps.storeb rfl rfl rfl rfl rfl rfl rfl vs29 (by first | decide | simp) ?_
                  refine TrOps.nil ?_
                  refine At.seq ?_
                  refine Tr.ret ?_
                  exact At.ret rfl (.cellN rfl rfl vs29 <| .nil) rfl (Le.flt (by subst hk; exact validate_8 h1 h2 h3 h4 h5 hinv))

theorem R_MultiFault_does (m : Multi) : Does Try.prog false 16 [multi m] (flt (validate m)) := by
  refine Does.of_body Try.func16 rfl rfl (by simp) Try.call16 (fun w0 O0 => ?_)
  refine Tr.lenG (n := 0) (i := 0) rfl rfl (fun len0_0 => ?_)
  refine Tr.lenG (n := 0) (i := 1) rfl rfl (fun len0_1 => ?_)
  refine Tr.lenG (n := 0) (i := 2) rfl rfl (fun len0_2 => ?_)
  refine Tr.lenG (n := 0) (i := 3) rfl rfl (fun len0_3 => ?_)
  refine Tr.seq ?_
  refine Tr.region ?_
  refine TrOps.semM (OpSem.box 1 rfl rfl rfl rfl) rfl rfl (by decide) ?_
  refine TrOps.semM (OpSem.alloc 2 rfl zc29 rfl) rfl rfl (by decide) ?_
  refine TrOps.nil ?_
  refine At.seq ?_
  refine Tr.seq ?_
  refine Tr.seq ?_
  refine Tr.region ?_
  refine TrOps.sem (OpSem.fieldr rfl rfl fo26_0) rfl rfl (by decide) ?_
  refine TrOps.sem (OpSem.loadb1 rfl rfl rfl vs22 rfl) rfl rfl (by decide) ?_
  refine TrOps.sem (OpSem.lenL rfl rfl es22) rfl rfl (by decide) ?_
  refine TrOps.sem (OpSem.call0 (R_In_does ..) rfl rfl rfl rfl (Les.refl _)) rfl rfl (by decide) ?_
  refine TrOps.sem (OpSem.not rfl rfl) rfl rfl (by decide) ?_
  refine TrOps.nil ?_
  refine At.seq ?_
  refine Tr.cond rfl (fun c10 => ?_) (fun c10 => ?_)
  · refine Tr.seq ?_
    refine Tr.region ?_
    refine TrOps.sem (OpSem.call0 (R_At_does ..) rfl rfl rfl rfl (Les.refl _)) rfl rfl (by decide) ?_
    refine TrOps.storeb rfl rfl rfl rfl rfl rfl rfl vs29 (by first | decide | simp) ?_
    refine TrOps.nil ?_
    refine At.seq ?_
    refine Tr.ret ?_
    refine At.pass_ret ?_
    exact At.ret rfl (.cellN rfl rfl vs29 <| .nil) rfl (Le.flt (validate_1 (by simp at c10; omega)))
  · have h1 : ¬ (m.sizes.length = 0 ∨ 8 < m.sizes.length) := by simp at c10; omega
    refine Tr.skip ?_
    refine At.seq ?_
    refine Tr.seq ?_
    refine Tr.seq ?_
    refine Tr.region ?_
    refine TrOps.sem (OpSem.move (.inr rfl) rfl) rfl rfl (by decide) ?_
    refine TrOps.nil ?_
    refine At.seq ?_
    refine Tr.block ?_
    refine Tr.loop (X := Nat) (fun k => k ≤ m.sizes.length ∧ ∀ v : Nat, v < k → 1 ≤ nth m.sizes v ∧ nth m.sizes v ≤ 6) (fun k => [(1, .r 1 0), (2, .r 2 0), (3, I (k))]) (fun k => [(1, .box [.d (ints m.sizes), .d (ints m.init), .d (asgs m.goal), .d (opsD m.ops)]), (2, .box [I (0), I (0)])]) (fun k => m.sizes.length - k) 0 ⟨by omega, by simp⟩ ?_ ?_
    · exact .slot rfl (.refl _) <| .slot rfl (.refl _) <| .slot rfl (Le.of_eq (by simp)) <| .mem rfl <| .mem rfl <| .nil
    · rintro k ⟨hkl, hinv⟩
      refine Tr.seq ?_
      refine Tr.seq ?_
      refine Tr.region ?_
      refine TrOps.sem (OpSem.move (.inl rfl) rfl) rfl rfl (by decide) ?_
      refine TrOps.sem (OpSem.fieldr rfl rfl fo26_0) rfl rfl (by decide) ?_
      refine TrOps.sem (OpSem.loadb1 rfl rfl rfl vs22 rfl) rfl rfl (by decide) ?_
      refine TrOps.sem (OpSem.lenL rfl rfl es22) rfl rfl (by decide) ?_
      refine TrOps.sem (OpSem.bin rfl rfl rfl blss) rfl rfl (by decide) ?_
      refine TrOps.nil ?_
      refine At.seq ?_
      refine Tr.cond rfl (fun c16 => ?_) (fun c16 => ?_)
      · have hk : k < m.sizes.length := by simpa using c16
        refine Tr.skip ?_
        refine At.seq ?_
        refine Tr.seq ?_
        refine Tr.block ?_
        refine Tr.seq ?_
        refine Tr.region ?_
        refine TrOps.sem (OpSem.fieldr rfl rfl fo26_0) rfl rfl (by decide) ?_
        refine TrOps.sem (OpSem.loadb1 rfl rfl rfl vs22 rfl) rfl rfl (by decide) ?_
        refine TrOps.sem (OpSem.move (.inl rfl) rfl) rfl rfl (by decide) ?_
        refine TrOps.sem (OpSem.idxL rfl rfl rfl es22 (by omega) (by omega)) rfl rfl (by decide) ?_
        refine TrOps.sem (OpSem.load1 rfl rfl vs3 rfl) rfl rfl (by decide) ?_
        refine TrOps.sem (OpSem.call0 (R_In_does ..) rfl rfl rfl rfl (Les.refl _)) rfl rfl (by decide) ?_
        refine TrOps.sem (OpSem.not rfl rfl) rfl rfl (by decide) ?_
        refine TrOps.nil ?_
        refine At.seq ?_
        refine Tr.cond rfl (fun c25 => ?_) (fun c25 => ?_)
        · refine Tr.seq ?_
          refine Tr.region ?_
          refine TrOps.sem (OpSem.call0 (R_At_does ..) rfl rfl rfl rfl (Les.refl _)) rfl rfl (by decide) ?_
          refine TrOps.storeb rfl rfl rfl rfl rfl rfl rfl vs29 (by first | decide | simp) ?_
          refine TrOps.nil ?_
          refine At.seq ?_
          refine Tr.ret ?_
          refine At.block_ret ?_
          refine At.pass_ret ?_
          refine At.pass_ret ?_
          refine At.block_ret ?_
          refine At.pass_ret ?_
          exact At.ret rfl (.cellN rfl rfl vs29 <| .nil) rfl (Le.flt (validate_2 h1 (fun h => by have := h k hk; simp at c25; omega)))
        · refine Tr.skip ?_
          refine At.block_normal ?_
          refine At.seq ?_
          refine Tr.region ?_
          refine TrOps.sem (OpSem.move (.inl rfl) rfl) rfl rfl (by decide) ?_
          refine TrOps.sem (OpSem.bin rfl rfl rfl (badd (by omega) (by omega))) rfl rfl (by decide) ?_
          refine TrOps.sem (OpSem.move (.inr rfl) rfl) rfl rfl (by decide) ?_
          refine TrOps.nil ?_
          refine At.again (k + 1) ⟨by omega, all_succ hinv (by simp at c25; omega)⟩ ?_ (by omega)
          exact .slot rfl (.refl _) <| .slot rfl (.refl _) <| .slot rfl (Le.of_eq (by simp)) <| .mem rfl <| .mem rfl <| .nil
      · have hk : k = m.sizes.length := by simp at c16; omega
        have h2 : SizesP m.sizes := by subst hk; exact hinv
        refine Tr.exit ?_
        refine At.pass_exit ?_
        refine At.pass_exit ?_
        refine At.block_same ?_
        refine At.seq ?_
        refine Tr.seq ?_
        refine Tr.seq ?_
        refine Tr.region ?_
        refine TrOps.sem (OpSem.loadbN rfl rfl rfl vs26 (by first | decide | simp)) rfl rfl (by decide) ?_
        refine TrOps.sem (OpSem.fieldr rfl rfl fo26_1) rfl rfl (by decide) ?_
        refine TrOps.sem (OpSem.loadb1 rfl rfl rfl vs22 rfl) rfl rfl (by decide) ?_
        refine TrOps.sem (OpSem.call0 (R_MultiState_does _ _ h2) rfl rfl rfl rfl (Les.refl _)) rfl rfl (by decide) ?_
        refine TrOps.sem (OpSem.not rfl rfl) rfl rfl (by decide) ?_
        refine TrOps.nil ?_
        refine At.seq ?_
        refine Tr.cond rfl (fun c31 => ?_) (fun c31 => ?_)
        · refine Tr.seq ?_
          refine Tr.region ?_
          refine TrOps.sem (OpSem.call0 (R_At_does ..) rfl rfl rfl rfl (Les.refl _)) rfl rfl (by decide) ?_
          refine TrOps.storeb rfl rfl rfl rfl rfl rfl rfl vs29 (by first | decide | simp) ?_
          refine TrOps.nil ?_
          refine At.seq ?_
          refine Tr.ret ?_
          refine At.pass_ret ?_
          exact At.ret rfl (.cellN rfl rfl vs29 <| .nil) rfl (Le.flt (validate_3 h1 h2 (by simpa using c31)))
        · have h3 : isState m.sizes m.init = true := by simpa using c31
          refine Tr.skip ?_
          refine At.seq ?_
          refine Tr.seq ?_
          refine Tr.seq ?_
          refine Tr.region ?_
          refine TrOps.sem (OpSem.loadbN rfl rfl rfl vs26 (by first | decide | simp)) rfl rfl (by decide) ?_
          refine TrOps.sem (OpSem.fieldr rfl rfl fo26_2) rfl rfl (by decide) ?_
          refine TrOps.sem (OpSem.loadb1 rfl rfl rfl vs23 rfl) rfl rfl (by decide) ?_
          refine TrOps.sem (OpSem.call0 (R_Assigns_does _ _ h2) rfl rfl rfl rfl (Les.refl _)) rfl rfl (by decide) ?_
          refine TrOps.sem (OpSem.not rfl rfl) rfl rfl (by decide) ?_
          refine TrOps.nil ?_
          refine At.seq ?_
          refine Tr.cond rfl (fun c37 => ?_) (fun c37 => ?_)
          · refine Tr.seq ?_
            refine Tr.region ?_
            refine TrOps.sem (OpSem.call0 (R_At_does ..) rfl rfl rfl rfl (Les.refl _)) rfl rfl (by decide) ?_
            refine TrOps.storeb rfl rfl rfl rfl rfl rfl rfl vs29 (by first | decide | simp) ?_
            refine TrOps.nil ?_
            refine At.seq ?_
            refine Tr.ret ?_
            refine At.pass_ret ?_
            exact At.ret rfl (.cellN rfl rfl vs29 <| .nil) rfl (Le.flt (validate_4 h1 h2 h3 (by simpa using c37)))
          · have h4 : assigns m.sizes m.goal = true := by simpa using c37
            refine Tr.skip ?_
            refine At.seq ?_
            refine Tr.seq ?_
            refine Tr.seq ?_
            refine Tr.region ?_
            refine TrOps.sem (OpSem.fieldr rfl rfl fo26_3) rfl rfl (by decide) ?_
            refine TrOps.sem (OpSem.loadb1 rfl rfl rfl vs24 rfl) rfl rfl (by decide) ?_
            refine TrOps.sem (OpSem.lenL rfl rfl es24) rfl rfl (by decide) ?_
            refine TrOps.sem (OpSem.bin rfl rfl rfl bgtr) rfl rfl (by decide) ?_
            refine TrOps.nil ?_
            refine At.seq ?_
            refine Tr.cond rfl (fun c42 => ?_) (fun c42 => ?_)
            · refine Tr.seq ?_
              refine Tr.region ?_
              refine TrOps.sem (OpSem.call0 (R_At_does ..) rfl rfl rfl rfl (Les.refl _)) rfl rfl (by decide) ?_
              refine TrOps.storeb rfl rfl rfl rfl rfl rfl rfl vs29 (by first | decide | simp) ?_
              refine TrOps.nil ?_
              refine At.seq ?_
              refine Tr.ret ?_
              refine At.pass_ret ?_
              exact At.ret rfl (.cellN rfl rfl vs29 <| .nil) rfl (Le.flt (validate_5 h1 h2 h3 h4 (by simp at c42; omega)))
            · have h5 : ¬ 40 < m.ops.length := by simp at c42; omega
              refine Tr.skip ?_
              refine At.seq ?_
              refine Tr.seq ?_
              refine Tr.seq ?_
              refine Tr.region ?_
              refine TrOps.sem (OpSem.move (.inr rfl) rfl) rfl rfl (by decide) ?_
              refine TrOps.nil ?_
              refine At.seq ?_
              refine Tr.block ?_
              refine Tr.loop (X := Nat) (fun k => k ≤ m.ops.length ∧ ∀ j : Nat, j < k → opFault m j = (0, 0)) (fun k => [(1, .r 1 0), (2, .r 2 0), (4, I (k))]) (fun k => [(1, .box [.d (ints m.sizes), .d (ints m.init), .d (asgs m.goal), .d (opsD m.ops)]), (2, .box [I (0), I (0)])]) (fun k => m.ops.length - k) 0 ⟨by omega, by simp⟩ ?_ ?_
              · exact .slot rfl (.refl _) <| .slot rfl (.refl _) <| .slot rfl (Le.of_eq (by simp)) <| .mem rfl <| .mem rfl <| .nil
              · rintro k ⟨hkl, hinv⟩
                refine Tr.seq ?_
                refine Tr.seq ?_
                refine Tr.region ?_
                refine TrOps.sem (OpSem.move (.inl rfl) rfl) rfl rfl (by decide) ?_
                refine TrOps.sem (OpSem.fieldr rfl rfl fo26_3) rfl rfl (by decide) ?_
                refine TrOps.sem (OpSem.loadb1 rfl rfl rfl vs24 rfl) rfl rfl (by decide) ?_
                refine TrOps.sem (OpSem.lenL rfl rfl es24) rfl rfl (by decide) ?_
                refine TrOps.sem (OpSem.bin rfl rfl rfl blss) rfl rfl (by decide) ?_
                refine TrOps.nil ?_
                refine At.seq ?_
                refine Tr.cond rfl (fun c48 => ?_) (fun c48 => ?_)
                · have hk : k < m.ops.length := by simpa using c48
                  refine Tr.skip ?_
                  refine At.seq ?_
                  refine Tr.seq ?_
                  refine Tr.block ?_
                  refine Tr.seq ?_
                  refine Tr.region ?_
                  refine TrOps.sem (OpSem.fieldr rfl rfl fo26_3) rfl rfl (by decide) ?_
                  refine TrOps.sem (OpSem.loadb1 rfl rfl rfl vs24 rfl) rfl rfl (by decide) ?_
                  refine TrOps.sem (OpSem.move (.inl rfl) rfl) rfl rfl (by decide) ?_
                  refine TrOps.sem (OpSem.idxL rfl rfl rfl es24 (by omega) (by omega)) rfl rfl (by decide) ?_
                  refine TrOps.sem (OpSem.loadN rfl rfl vs81 (by first | decide | simp) rfl) rfl rfl (by decide) ?_
                  refine TrOps.semM (OpSem.alloc 5 rfl zc81 rfl) rfl rfl (by decide) ?_
                  refine TrOps.storeb rfl rfl rfl rfl rfl rfl rfl vs81 (by first | decide | simp) ?_
                  refine TrOps.nil ?_
                  refine At.seq ?_
                  refine Tr.seq ?_
                  refine Tr.seq ?_
                  refine Tr.region ?_
                  refine TrOps.sem (OpSem.loadbN rfl rfl rfl vs26 (by first | decide | simp)) rfl rfl (by decide) ?_
                  refine TrOps.sem (OpSem.fieldr rfl rfl fo81_0) rfl rfl (by decide) ?_
                  refine TrOps.sem (OpSem.loadb1 rfl rfl rfl vs23 rfl) rfl rfl (by decide) ?_
                  refine TrOps.sem (OpSem.call0 (R_Assigns_does _ _ h2) rfl rfl rfl rfl (Les.refl _)) rfl rfl (by decide) ?_
                  refine TrOps.sem (OpSem.not rfl rfl) rfl rfl (by decide) ?_
                  refine TrOps.sem (OpSem.move (.inl rfl) rfl) rfl rfl (by decide) ?_
                  refine TrOps.split (n := 61) rfl (fun c61 => ?_) (fun c61 => ?_)
                  · refine TrOps.gF rfl rfl rfl rfl c61 rfl (by decide) ?_
                    refine TrOps.gF rfl rfl rfl rfl c61 rfl (by decide) ?_
                    refine TrOps.gF rfl rfl rfl rfl c61 rfl (by decide) ?_
                    refine TrOps.gF rfl rfl rfl rfl c61 rfl (by decide) ?_
                    refine TrOps.gF rfl rfl rfl rfl c61 rfl (by decide) ?_
                    refine TrOps.sem (OpSem.pickT rfl rfl c61 rfl) rfl rfl (by decide) ?_
                    refine TrOps.nil ?_
                    refine At.seq ?_
                    refine Tr.condT rfl rfl ?_
                    refine Tr.seq ?_
                    refine Tr.region ?_
                    refine TrOps.sem (OpSem.move (.inl rfl) rfl) rfl rfl (by decide) ?_
                    refine TrOps.sem (OpSem.call0 (R_At_does ..) rfl rfl rfl rfl (Les.refl _)) rfl rfl (by decide) ?_
                    refine TrOps.storeb rfl rfl rfl rfl rfl rfl rfl vs29 (by first | decide | simp) ?_
                    refine TrOps.nil ?_
                    refine At.seq ?_
                    refine Tr.ret ?_
                    refine At.pass_ret ?_
                    refine At.block_ret ?_
                    refine At.pass_ret ?_
                    refine At.pass_ret ?_
                    refine At.block_ret ?_
                    refine At.pass_ret ?_
                    exact At.ret rfl (.cellN rfl rfl vs29 <| .nil) rfl (Le.flt (validate_7 h1 h2 h3 h4 h5 hk hinv (opFault_5 (by simp at c61; simp [c61])) (by simp)))
                  · refine TrOps.gT rfl rfl rfl rfl c61 ?_
                    refine TrOps.sem (OpSem.loadbN rfl rfl rfl vs26 (by first | decide | simp)) rfl rfl (by decide) ?_
                    refine TrOps.gT rfl rfl rfl rfl c61 ?_
                    refine TrOps.sem (OpSem.fieldr rfl rfl fo81_1) rfl rfl (by decide) ?_
                    refine TrOps.gT rfl rfl rfl rfl c61 ?_
                    refine TrOps.sem (OpSem.loadb1 rfl rfl rfl vs23 rfl) rfl rfl (by decide) ?_
                    refine TrOps.gT rfl rfl rfl rfl c61 ?_
                    refine TrOps.sem (OpSem.call0 (R_Assigns_does _ _ h2) rfl rfl rfl rfl (Les.refl _)) rfl rfl (by decide) ?_
                    refine TrOps.gT rfl rfl rfl rfl c61 ?_
                    refine TrOps.sem (OpSem.not rfl rfl) rfl rfl (by decide) ?_
                    refine TrOps.sem (OpSem.pickF rfl rfl c61 rfl) rfl rfl (by decide) ?_
                    refine TrOps.nil ?_
                    refine At.seq ?_
                    refine Tr.cond rfl (fun c67 => ?_) (fun c67 => ?_)
                    · refine Tr.seq ?_
                      refine Tr.region ?_
                      refine TrOps.sem (OpSem.move (.inl rfl) rfl) rfl rfl (by decide) ?_
                      refine TrOps.sem (OpSem.call0 (R_At_does ..) rfl rfl rfl rfl (Les.refl _)) rfl rfl (by decide) ?_
                      refine TrOps.storeb rfl rfl rfl rfl rfl rfl rfl vs29 (by first | decide | simp) ?_
                      refine TrOps.nil ?_
                      refine At.seq ?_
                      refine Tr.ret ?_
                      refine At.pass_ret ?_
                      refine At.block_ret ?_
                      refine At.pass_ret ?_
                      refine At.pass_ret ?_
                      refine At.block_ret ?_
                      refine At.pass_ret ?_
                      exact At.ret rfl (.cellN rfl rfl vs29 <| .nil) rfl (Le.flt (validate_7 h1 h2 h3 h4 h5 hk hinv (opFault_5 (by simp at c67; simp [c67])) (by simp)))
                    · have ha : assigns m.sizes (nth m.ops k).pre = true ∧ assigns m.sizes (nth m.ops k).post = true := by simp at c61 c67; exact ⟨c61, c67⟩
                      refine Tr.skip ?_
                      refine At.seq ?_
                      refine Tr.seq ?_
                      refine Tr.region ?_
                      refine TrOps.sem (OpSem.fieldr rfl rfl fo81_2) rfl rfl (by decide) ?_
                      refine TrOps.sem (OpSem.loadb1 rfl rfl rfl vs3 rfl) rfl rfl (by decide) ?_
                      refine TrOps.sem (OpSem.call0 (R_In_does ..) rfl rfl rfl rfl (Les.refl _)) rfl rfl (by decide) ?_
                      refine TrOps.sem (OpSem.not rfl rfl) rfl rfl (by decide) ?_
                      refine TrOps.nil ?_
                      refine At.seq ?_
                      refine Tr.cond rfl (fun c73 => ?_) (fun c73 => ?_)
                      · refine Tr.seq ?_
                        refine Tr.region ?_
                        refine TrOps.sem (OpSem.move (.inl rfl) rfl) rfl rfl (by decide) ?_
                        refine TrOps.sem (OpSem.call0 (R_At_does ..) rfl rfl rfl rfl (Les.refl _)) rfl rfl (by decide) ?_
                        refine TrOps.storeb rfl rfl rfl rfl rfl rfl rfl vs29 (by first | decide | simp) ?_
                        refine TrOps.nil ?_
                        refine At.seq ?_
                        refine Tr.ret ?_
                        refine At.block_ret ?_
                        refine At.pass_ret ?_
                        refine At.pass_ret ?_
                        refine At.block_ret ?_
                        refine At.pass_ret ?_
                        exact At.ret rfl (.cellN rfl rfl vs29 <| .nil) rfl (Le.flt (validate_7 h1 h2 h3 h4 h5 hk hinv (opFault_3 ha (by simp at c73; omega)) (by simp)))
                      · have hb := opFault_0 ha (by simp at c73; omega)
                        refine Tr.skip ?_
                        refine At.block_normal ?_
                        refine At.seq ?_
                        refine Tr.region ?_
                        refine TrOps.sem (OpSem.move (.inl rfl) rfl) rfl rfl (by decide) ?_
                        refine TrOps.sem (OpSem.bin rfl rfl rfl (badd (by omega) (by omega))) rfl rfl (by decide) ?_
                        refine TrOps.sem (OpSem.move (.inr rfl) rfl) rfl rfl (by decide) ?_
                        refine TrOps.nil ?_
                        refine At.again (k + 1) ⟨by omega, all_succ hinv hb⟩ ?_ (by omega)
                        exact .slot rfl (.refl _) <| .slot rfl (.refl _) <| .slot rfl (Le.of_eq (by simp)) <| .mem rfl <| .mem rfl <| .nil
                · have hk : k = m.ops.length := by simp at c48; omega
                  refine Tr.exit ?_
                  refine At.pass_exit ?_
                  refine At.pass_exit ?_
                  refine At.block_same ?_
                  refine At.seq ?_
                  refine Tr.seq ?_
                  refine Tr.region ?_
                  refine TrOps.sem (OpSem.build rfl rfl pl29 zc29 rfl rfl) rfl rfl (by decide) ?_
                  refine TrOps.storeb rfl rfl rfl rfl rfl rfl rfl vs29 (by first | decide | simp) ?_
                  refine TrOps.nil ?_
                  refine At.seq ?_
                  refine Tr.ret ?_
                  exact At.ret rfl (.cellN rfl rfl vs29 <| .nil) rfl (Le.flt (by subst hk; exact validate_8 h1 h2 h3 h4 h5 hinv))

end Go.Proofs.Ytohlmcebphcokaa
end
