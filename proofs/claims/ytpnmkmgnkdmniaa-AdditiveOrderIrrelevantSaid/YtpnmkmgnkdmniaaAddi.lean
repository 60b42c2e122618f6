/- Walks, written by gen.py out of hints. -/
import Derived.Test.YtpnmkmgnkdmniaaTypes
import Derived.Test.YtpnmkmgnkdmniaaPlans
set_option linter.unusedVariables false
set_option linter.unusedSimpArgs false
namespace Go.Proofs.Ytpnmkmgnkdmniaa
open Go.Eng
set_option maxRecDepth 10000
set_option maxHeartbeats 1000000

theorem slices_Index_int_int_does (l : List Int) (n : Int) : Does Try.prog false 122 [.d (ints l), I (n)] (I (findI (fun x => decide (n = x)) l)) := by
  refine Does.of_body Try.func122 rfl rfl (by simp) Try.call122 (fun w0 O0 => ?_)
  refine Tr.lenLe (n := 0) rfl (fun len0 => ?_)
  refine Tr.seq ?_
  refine Tr.region ?_
  refine TrOps.sem (OpSem.move (.inr rfl) rfl) rfl rfl (by decide) ?_
  refine TrOps.nil ?_
  refine At.seq ?_
  refine Tr.seq ?_
  refine Tr.seq ?_
  refine Tr.region ?_
  refine TrOps.sem (OpSem.move (.inl rfl) rfl) rfl rfl (by decide) ?_
  refine TrOps.sem (OpSem.lenL rfl rfl es23) rfl rfl (by decide) ?_
  refine TrOps.sem (OpSem.move (.inl rfl) rfl) rfl rfl (by decide) ?_
  refine TrOps.nil ?_
  refine At.seq ?_
  refine Tr.block ?_
  refine Tr.loop (X := Nat) (fun k => k ≤ l.length ∧ ∀ j : Nat, j < k → decide (n = nth l j) = false) (fun k => [(0, .d (ints l)), (1, I (n)), (7, I (l.length)), (8, I (k))]) (fun k => []) (fun k => l.length - k) 0 ⟨by omega, by simp⟩ ?_ ?_
  · exact .slot rfl (.refl _) <| .slot rfl (.refl _) <| .slot rfl (.refl _) <| .slot rfl (Le.of_eq (by simp)) <| .nil
  · rintro k ⟨hkl, hinv⟩
    refine Tr.seq ?_
    refine Tr.region ?_
    refine TrOps.sem (OpSem.bin rfl rfl rfl blss) rfl rfl (by decide) ?_
    refine TrOps.nil ?_
    refine At.seq ?_
    refine Tr.seq ?_
    refine Tr.cond rfl (fun c9 => ?_) (fun c9 => ?_)
    · have hk : k < l.length := by simpa using c9
      refine Tr.skip ?_
      refine At.seq ?_
      refine Tr.seq ?_
      refine Tr.block ?_
      refine Tr.seq ?_
      refine Tr.region ?_
      refine TrOps.sem (OpSem.move (.inl rfl) rfl) rfl rfl (by decide) ?_
      refine TrOps.sem (OpSem.move (.inr rfl) rfl) rfl rfl (by decide) ?_
      refine TrOps.nil ?_
      refine At.seq ?_
      refine Tr.seq ?_
      refine Tr.region ?_
      refine TrOps.sem (OpSem.move (.inl rfl) rfl) rfl rfl (by decide) ?_
      refine TrOps.sem (OpSem.move (.inl rfl) rfl) rfl rfl (by decide) ?_
      refine TrOps.sem (OpSem.move (.inl rfl) rfl) rfl rfl (by decide) ?_
      refine TrOps.sem (OpSem.idxL rfl rfl rfl es23 (by omega) (by omega)) rfl rfl (by decide) ?_
      refine TrOps.sem (OpSem.load1 rfl rfl vs3 rfl) rfl rfl (by decide) ?_
      refine TrOps.sem (OpSem.bin rfl rfl rfl beql) rfl rfl (by decide) ?_
      refine TrOps.nil ?_
      refine At.seq ?_
      refine Tr.cond rfl (fun c16 => ?_) (fun c16 => ?_)
      · refine Tr.seq ?_
        refine Tr.region ?_
        refine TrOps.sem (OpSem.move (.inl rfl) rfl) rfl rfl (by decide) ?_
        refine TrOps.sem (OpSem.move (.inr rfl) rfl) rfl rfl (by decide) ?_
        refine TrOps.nil ?_
        refine At.seq ?_
        refine Tr.ret ?_
        refine At.block_ret ?_
        refine At.pass_ret ?_
        refine At.pass_ret ?_
        refine At.block_ret ?_
        refine At.pass_ret ?_
        exact At.ret rfl (.tmp rfl <| .nil) rfl (Le.i (findI_some (p := fun x => decide (n = x)) hk hinv c16).symm)
      · have hb : decide (n = nth l k) = false := c16
        refine Tr.skip ?_
        refine At.block_normal ?_
        refine At.seq ?_
        refine Tr.region ?_
        refine TrOps.sem (OpSem.bin rfl rfl rfl (badd (by omega) (by omega))) rfl rfl (by decide) ?_
        refine TrOps.sem (OpSem.move (.inl rfl) rfl) rfl rfl (by decide) ?_
        refine TrOps.nil ?_
        refine At.again (k + 1) ⟨by omega, all_succ hinv hb⟩ ?_ (by omega)
        exact .slot rfl (.refl _) <| .slot rfl (.refl _) <| .slot rfl (.refl _) <| .slot rfl (Le.of_eq (by simp)) <| .nil
    · have hk : k = l.length := by simp at c9; omega
      refine Tr.exit ?_
      refine At.pass_exit ?_
      refine At.pass_exit ?_
      refine At.block_same ?_
      refine At.seq ?_
      refine Tr.seq ?_
      refine Tr.region ?_
      refine TrOps.sem (OpSem.move (.inr rfl) rfl) rfl rfl (by decide) ?_
      refine TrOps.nil ?_
      refine At.seq ?_
      refine Tr.ret ?_
      exact At.ret rfl (.tmp rfl <| .nil) rfl (Le.i (by subst hk; exact (findI_none (p := fun x => decide (n = x)) hinv).symm))

theorem slices_Contains_int_int_does (l : List Int) (n : Int) : Does Try.prog false 118 [.d (ints l), I (n)] (Bo (decide (n ∈ l))) := by
  refine Does.of_body Try.func118 rfl rfl (by simp) Try.call118 (fun w0 O0 => ?_)
  refine Tr.lenLe (n := 0) rfl (fun len0 => ?_)
  refine Tr.seq ?_
  refine Tr.region ?_
  refine TrOps.sem (OpSem.move (.inr rfl) rfl) rfl rfl (by decide) ?_
  refine TrOps.nil ?_
  refine At.seq ?_
  refine Tr.seq ?_
  refine Tr.region ?_
  refine TrOps.sem (OpSem.move (.inl rfl) rfl) rfl rfl (by decide) ?_
  refine TrOps.sem (OpSem.move (.inl rfl) rfl) rfl rfl (by decide) ?_
  refine TrOps.sem (OpSem.call0 (slices_Index_int_int_does l n) rfl rfl rfl rfl (Les.refl _)) rfl rfl (by decide) ?_
  refine TrOps.sem (OpSem.bin rfl rfl rfl bgeq) rfl rfl (by decide) ?_
  refine TrOps.sem (OpSem.move (.inr rfl) rfl) rfl rfl (by decide) ?_
  refine TrOps.nil ?_
  refine At.seq ?_
  refine Tr.ret ?_
  exact At.ret rfl (.tmp rfl <| .nil) rfl (Le.bo (findI_any.trans any_mem))

theorem slices_IndexFunc_MultiOperator_MultiOperator_does (l : List MOp) (fn : Nat) (cs : List S) (p : MOp → Bool) (hcs : Caught cs) (hf : ∀ x, x ∈ l → Does Try.prog false fn ([opS' x] ++ cs) (Bo (p x))) : Does Try.prog false 116 [.d (opsD l), .f fn [] cs] (I (findI p l)) := by
  refine Does.of_body Try.func116 rfl rfl (by simp) Try.call116 (fun w0 O0 => ?_)
  refine Tr.lenLe (n := 0) rfl (fun len0 => ?_)
  refine Tr.seq ?_
  refine Tr.region ?_
  refine TrOps.sem (OpSem.move (.inr rfl) rfl) rfl rfl (by decide) ?_
  refine TrOps.nil ?_
  refine At.seq ?_
  refine Tr.seq ?_
  refine Tr.seq ?_
  refine Tr.region ?_
  refine TrOps.sem (OpSem.move (.inl rfl) rfl) rfl rfl (by decide) ?_
  refine TrOps.sem (OpSem.lenL rfl rfl es37) rfl rfl (by decide) ?_
  refine TrOps.sem (OpSem.move (.inl rfl) rfl) rfl rfl (by decide) ?_
  refine TrOps.nil ?_
  refine At.seq ?_
  refine Tr.block ?_
  refine Tr.loop (X := Nat) (fun k => k ≤ l.length ∧ ∀ j : Nat, j < k → p (nth l j) = false) (fun k => [(0, .d (opsD l)), (1, .f fn [] cs), (7, I (l.length)), (8, I (k))]) (fun k => []) (fun k => l.length - k) 0 ⟨by omega, by simp⟩ ?_ ?_
  · exact .slot rfl (.refl _) <| .slot rfl (.refl _) <| .slot rfl (.refl _) <| .slot rfl (Le.of_eq (by simp)) <| .nil
  · rintro k ⟨hkl, hinv⟩
    refine Tr.seq ?_
    refine Tr.region ?_
    refine TrOps.sem (OpSem.bin rfl rfl rfl blss) rfl rfl (by decide) ?_
    refine TrOps.nil ?_
    refine At.seq ?_
    refine Tr.seq ?_
    refine Tr.cond rfl (fun c9 => ?_) (fun c9 => ?_)
    · have hk : k < l.length := by simpa using c9
      refine Tr.skip ?_
      refine At.seq ?_
      refine Tr.seq ?_
      refine Tr.block ?_
      refine Tr.seq ?_
      refine Tr.region ?_
      refine TrOps.sem (OpSem.move (.inl rfl) rfl) rfl rfl (by decide) ?_
      refine TrOps.sem (OpSem.move (.inr rfl) rfl) rfl rfl (by decide) ?_
      refine TrOps.nil ?_
      refine At.seq ?_
      refine Tr.seq ?_
      refine Tr.region ?_
      refine TrOps.sem (OpSem.move (.inl rfl) rfl) rfl rfl (by decide) ?_
      refine TrOps.sem (OpSem.move (.inl rfl) rfl) rfl rfl (by decide) ?_
      refine TrOps.sem (OpSem.move (.inl rfl) rfl) rfl rfl (by decide) ?_
      refine TrOps.sem (OpSem.idxL rfl rfl rfl es37 (by omega) (by omega)) rfl rfl (by decide) ?_
      refine TrOps.sem (OpSem.loadN rfl rfl vs86 (by first | decide | simp) rfl) rfl rfl (by decide) ?_
      refine TrOps.sem (OpSem.call0 (hf _ (nth_mem (by omega) (by omega))) rfl rfl rfl (hcs.app rfl) (Les.refl _)) rfl rfl (by decide) ?_
      refine TrOps.nil ?_
      refine At.seq ?_
      refine Tr.cond rfl (fun c16 => ?_) (fun c16 => ?_)
      · refine Tr.seq ?_
        refine Tr.region ?_
        refine TrOps.sem (OpSem.move (.inl rfl) rfl) rfl rfl (by decide) ?_
        refine TrOps.sem (OpSem.move (.inr rfl) rfl) rfl rfl (by decide) ?_
        refine TrOps.nil ?_
        refine At.seq ?_
        refine Tr.ret ?_
        refine At.block_ret ?_
        refine At.pass_ret ?_
        refine At.pass_ret ?_
        refine At.block_ret ?_
        refine At.pass_ret ?_
        exact At.ret rfl (.tmp rfl <| .nil) rfl (Le.i (findI_some hk hinv c16).symm)
      · refine Tr.skip ?_
        refine At.block_normal ?_
        refine At.seq ?_
        refine Tr.region ?_
        refine TrOps.sem (OpSem.bin rfl rfl rfl (badd (by omega) (by omega))) rfl rfl (by decide) ?_
        refine TrOps.sem (OpSem.move (.inl rfl) rfl) rfl rfl (by decide) ?_
        refine TrOps.nil ?_
        refine At.again (k + 1) ⟨by omega, all_succ hinv c16⟩ ?_ (by omega)
        exact .slot rfl (.refl _) <| .slot rfl (.refl _) <| .slot rfl (.refl _) <| .slot rfl (Le.of_eq (by simp)) <| .nil
    · have hk : k = l.length := by simp at c9; omega
      refine Tr.exit ?_
      refine At.pass_exit ?_
      refine At.pass_exit ?_
      refine At.block_same ?_
      refine At.seq ?_
      refine Tr.seq ?_
      refine Tr.region ?_
      refine TrOps.sem (OpSem.move (.inr rfl) rfl) rfl rfl (by decide) ?_
      refine TrOps.nil ?_
      refine At.seq ?_
      refine Tr.ret ?_
      exact At.ret rfl (.tmp rfl <| .nil) rfl (Le.i (by subst hk; exact (findI_none hinv).symm))

theorem slices_ContainsFunc_MultiOperator_MultiOperator_does (l : List MOp) (fn : Nat) (cs : List S) (p : MOp → Bool) (hcs : Caught cs) (hf : ∀ x, x ∈ l → Does Try.prog false fn ([opS' x] ++ cs) (Bo (p x))) : Does Try.prog false 105 [.d (opsD l), .f fn [] cs] (Bo (l.any p)) := by
  refine Does.of_body Try.func105 rfl rfl (by simp) Try.call105 (fun w0 O0 => ?_)
  refine Tr.lenLe (n := 0) rfl (fun len0 => ?_)
  refine Tr.seq ?_
  refine Tr.region ?_
  refine TrOps.sem (OpSem.move (.inr rfl) rfl) rfl rfl (by decide) ?_
  refine TrOps.nil ?_
  refine At.seq ?_
  refine Tr.seq ?_
  refine Tr.region ?_
  refine TrOps.sem (OpSem.move (.inl rfl) rfl) rfl rfl (by decide) ?_
  refine TrOps.sem (OpSem.move (.inl rfl) rfl) rfl rfl (by decide) ?_
  refine TrOps.sem (OpSem.call0 (slices_IndexFunc_MultiOperator_MultiOperator_does l fn cs p hcs hf) rfl rfl rfl (hcs.arg rfl) (Les.refl _)) rfl rfl (by decide) ?_
  refine TrOps.sem (OpSem.bin rfl rfl rfl bgeq) rfl rfl (by decide) ?_
  refine TrOps.sem (OpSem.move (.inr rfl) rfl) rfl rfl (by decide) ?_
  refine TrOps.nil ?_
  refine At.seq ?_
  refine Tr.ret ?_
  exact At.ret rfl (.tmp rfl <| .nil) rfl (Le.bo findI_any)

theorem additive_changes_1_does (x : Asg) (vars : List Int) : Does Try.prog false 117 [asgS x, .p [ints vars]] (Bo (decide (x.1 ∈ vars))) := by
  refine Does.of_body Try.func117 rfl rfl (by simp) Try.call117 (fun w0 O0 => ?_)
  refine Tr.seq ?_
  refine Tr.region ?_
  refine TrOps.semM (OpSem.box 2 rfl rfl rfl rfl) rfl rfl (by decide) ?_
  refine TrOps.sem (OpSem.move (.inr rfl) rfl) rfl rfl (by decide) ?_
  refine TrOps.nil ?_
  refine At.seq ?_
  refine Tr.seq ?_
  refine Tr.region ?_
  refine TrOps.sem (OpSem.load1 rfl rfl vs23 rfl) rfl rfl (by decide) ?_
  refine TrOps.sem (OpSem.fieldr rfl rfl fo109_0) rfl rfl (by decide) ?_
  refine TrOps.sem (OpSem.loadb1 rfl rfl rfl vs3 rfl) rfl rfl (by decide) ?_
  refine TrOps.sem (OpSem.call0 (slices_Contains_int_int_does ..) rfl rfl rfl rfl (Les.refl _)) rfl rfl (by decide) ?_
  refine TrOps.sem (OpSem.move (.inr rfl) rfl) rfl rfl (by decide) ?_
  refine TrOps.nil ?_
  refine At.seq ?_
  refine Tr.ret ?_
  exact At.ret rfl (.tmp rfl <| .nil) rfl (.refl _)

theorem additive_changes_does (o : MOp) (vars : List Int) : Does Try.prog false 107 [opS' o, .d (ints vars)] (Bo (chg o.post vars)) := by
  refine Does.of_body Try.func107 rfl rfl (by simp) Try.call107 (fun w0 O0 => ?_)
  refine Tr.lenG (n := 0) (i := 0) rfl rfl (fun len0_0 => ?_)
  refine Tr.lenG (n := 0) (i := 1) rfl rfl (fun len0_1 => ?_)
  refine Tr.lenLe (n := 1) rfl (fun len1 => ?_)
  refine Tr.seq ?_
  refine Tr.region ?_
  refine TrOps.semM (OpSem.box 2 rfl rfl rfl rfl) rfl rfl (by decide) ?_
  refine TrOps.semM (OpSem.box 3 rfl rfl rfl rfl) rfl rfl (by decide) ?_
  refine TrOps.sem (OpSem.move (.inr rfl) rfl) rfl rfl (by decide) ?_
  refine TrOps.nil ?_
  refine At.seq ?_
  refine Tr.seq ?_
  refine Tr.region ?_
  refine TrOps.sem (OpSem.fieldr rfl rfl fo86_1) rfl rfl (by decide) ?_
  refine TrOps.sem (OpSem.loadb1 rfl rfl rfl vs36 rfl) rfl rfl (by decide) ?_
  refine TrOps.sem (OpSem.makeFunc rfl rfl rfl) rfl rfl (by decide) ?_
  refine TrOps.sem (OpSem.call (slices_ContainsFunc_Assign_Assign_does o.post 117 [.p [ints vars]] (fun x => decide (x.1 ∈ vars)) (caught_p _) (fun x hx => additive_changes_1_does x vars)) (.inr rfl) rfl rfl rfl rfl (Les.refl _)) rfl rfl (by decide) ?_
  refine TrOps.sem (OpSem.move (.inr rfl) rfl) rfl rfl (by decide) ?_
  refine TrOps.nil ?_
  refine At.seq ?_
  refine Tr.ret ?_
  exact At.ret rfl (.tmp rfl <| .nil) rfl (.refl _)

theorem additive_compatible_1_does (o : MOp) (a b : List Int) : Does Try.prog false 106 [opS' o, .p [ints a], .p [ints b]] (Bo (chg o.post a && chg o.post b)) := by
  refine Does.of_body Try.func106 rfl rfl (by simp) Try.call106 (fun w0 O0 => ?_)
  refine Tr.lenG (n := 0) (i := 0) rfl rfl (fun len0_0 => ?_)
  refine Tr.lenG (n := 0) (i := 1) rfl rfl (fun len0_1 => ?_)
  refine Tr.seq ?_
  refine Tr.region ?_
  refine TrOps.semM (OpSem.box 3 rfl rfl rfl rfl) rfl rfl (by decide) ?_
  refine TrOps.sem (OpSem.move (.inr rfl) rfl) rfl rfl (by decide) ?_
  refine TrOps.nil ?_
  refine At.seq ?_
  refine Tr.seq ?_
  refine Tr.region ?_
  refine TrOps.sem (OpSem.loadbN rfl rfl rfl vs86 (by first | decide | simp)) rfl rfl (by decide) ?_
  refine TrOps.sem (OpSem.load1 rfl rfl vs23 rfl) rfl rfl (by decide) ?_
  refine TrOps.sem (OpSem.call0 (additive_changes_does o a) rfl rfl rfl rfl (Les.refl _)) rfl rfl (by decide) ?_
  refine TrOps.sem (OpSem.move (.inl rfl) rfl) rfl rfl (by decide) ?_
  refine TrOps.split (n := 8) rfl (fun c8 => ?_) (fun c8 => ?_)
  · refine TrOps.gT rfl rfl rfl rfl c8 ?_
    refine TrOps.sem (OpSem.loadbN rfl rfl rfl vs86 (by first | decide | simp)) rfl rfl (by decide) ?_
    refine TrOps.gT rfl rfl rfl rfl c8 ?_
    refine TrOps.sem (OpSem.load1 rfl rfl vs23 rfl) rfl rfl (by decide) ?_
    refine TrOps.gT rfl rfl rfl rfl c8 ?_
    refine TrOps.sem (OpSem.call0 (additive_changes_does o b) rfl rfl rfl rfl (Les.refl _)) rfl rfl (by decide) ?_
    refine TrOps.sem (OpSem.pickT rfl rfl c8 rfl) rfl rfl (by decide) ?_
    refine TrOps.sem (OpSem.move (.inr rfl) rfl) rfl rfl (by decide) ?_
    refine TrOps.nil ?_
    refine At.seq ?_
    refine Tr.ret ?_
    exact At.ret rfl (.tmp rfl <| .nil) rfl (Le.bo (by simp [c8]))
  · refine TrOps.gF rfl rfl rfl rfl c8 rfl (by decide) ?_
    refine TrOps.gF rfl rfl rfl rfl c8 rfl (by decide) ?_
    refine TrOps.gF rfl rfl rfl rfl c8 rfl (by decide) ?_
    refine TrOps.sem (OpSem.pickF rfl rfl c8 rfl) rfl rfl (by decide) ?_
    refine TrOps.sem (OpSem.move (.inr rfl) rfl) rfl rfl (by decide) ?_
    refine TrOps.nil ?_
    refine At.seq ?_
    refine Tr.ret ?_
    exact At.ret rfl (.tmp rfl <| .nil) rfl (Le.bo (by simp [c8]))

theorem additive_compatible_does (m : Multi) (a b : List Int) : Does Try.prog false 67 [multi m, .d (ints a), .d (ints b)] (Bo (compat m a b)) := by
  refine Does.of_body Try.func67 rfl rfl (by simp) Try.call67 (fun w0 O0 => ?_)
  refine Tr.lenG (n := 0) (i := 0) rfl rfl (fun len0_0 => ?_)
  refine Tr.lenG (n := 0) (i := 1) rfl rfl (fun len0_1 => ?_)
  refine Tr.lenG (n := 0) (i := 2) rfl rfl (fun len0_2 => ?_)
  refine Tr.lenG (n := 0) (i := 3) rfl rfl (fun len0_3 => ?_)
  refine Tr.lenLe (n := 1) rfl (fun len1 => ?_)
  refine Tr.lenLe (n := 2) rfl (fun len2 => ?_)
  refine Tr.seq ?_
  refine Tr.region ?_
  refine TrOps.semM (OpSem.box 3 rfl rfl rfl rfl) rfl rfl (by decide) ?_
  refine TrOps.semM (OpSem.box 4 rfl rfl rfl rfl) rfl rfl (by decide) ?_
  refine TrOps.semM (OpSem.box 5 rfl rfl rfl rfl) rfl rfl (by decide) ?_
  refine TrOps.sem (OpSem.move (.inr rfl) rfl) rfl rfl (by decide) ?_
  refine TrOps.nil ?_
  refine At.seq ?_
  refine Tr.seq ?_
  refine Tr.region ?_
  refine TrOps.sem (OpSem.fieldr rfl rfl fo39_3) rfl rfl (by decide) ?_
  refine TrOps.sem (OpSem.loadb1 rfl rfl rfl vs37 rfl) rfl rfl (by decide) ?_
  refine TrOps.sem (OpSem.makeFunc rfl rfl rfl) rfl rfl (by decide) ?_
  refine TrOps.sem (OpSem.call (slices_ContainsFunc_MultiOperator_MultiOperator_does m.ops 106 [.p [ints a], .p [ints b]] (fun o => chg o.post a && chg o.post b) (caught_p2 _ _) (fun x hx => additive_compatible_1_does x a b)) (.inr rfl) rfl rfl rfl rfl (Les.refl _)) rfl rfl (by decide) ?_
  refine TrOps.sem (OpSem.not rfl rfl) rfl rfl (by decide) ?_
  refine TrOps.sem (OpSem.move (.inr rfl) rfl) rfl rfl (by decide) ?_
  refine TrOps.nil ?_
  refine At.seq ?_
  refine Tr.ret ?_
  exact At.ret rfl (.tmp rfl <| .nil) rfl (.refl _)

theorem additive_Compatible_does (m : Multi) (a b : List Int) : Does Try.prog false 24 [multi m, .d (ints a), .d (ints b)] (.t [Bo (cmpR m a b), flt (cmpT m a b)]) := by
  refine Does.of_body Try.func24 rfl rfl (by simp) Try.call24 (fun w0 O0 => ?_)
  refine Tr.lenG (n := 0) (i := 0) rfl rfl (fun len0_0 => ?_)
  refine Tr.lenG (n := 0) (i := 1) rfl rfl (fun len0_1 => ?_)
  refine Tr.lenG (n := 0) (i := 2) rfl rfl (fun len0_2 => ?_)
  refine Tr.lenG (n := 0) (i := 3) rfl rfl (fun len0_3 => ?_)
  refine Tr.lenLe (n := 1) rfl (fun len1 => ?_)
  refine Tr.lenLe (n := 2) rfl (fun len2 => ?_)
  refine Tr.seq ?_
  refine Tr.region ?_
  refine TrOps.semM (OpSem.box 3 rfl rfl rfl rfl) rfl rfl (by decide) ?_
  refine TrOps.sem (OpSem.move (.inr rfl) rfl) rfl rfl (by decide) ?_
  refine TrOps.semM (OpSem.alloc 7 rfl zc28 rfl) rfl rfl (by decide) ?_
  refine TrOps.nil ?_
  refine At.seq ?_
  refine Tr.seq ?_
  refine Tr.region ?_
  refine TrOps.sem (OpSem.loadbN rfl rfl rfl vs39 (by first | decide | simp)) rfl rfl (by decide) ?_
  refine TrOps.sem (OpSem.call0 (multi_Validate_does ..) rfl rfl rfl rfl (Les.refl _)) rfl rfl (by decide) ?_
  refine TrOps.semM (OpSem.alloc 8 rfl zc28 rfl) rfl rfl (by decide) ?_
  refine TrOps.storeb rfl rfl rfl rfl rfl rfl rfl vs28 (by first | decide | simp) ?_
  refine TrOps.nil ?_
  refine At.seq ?_
  refine Tr.cut [(1, .d (ints a)), (2, .d (ints b)), (3, .r 3 0), (6, Bo (false)), (7, .r 7 0), (8, .r 8 0)] [(3, .box [.d (ints m.sizes), .d (ints m.init), .d (asgs m.goal), .d (opsD m.ops)]), (7, .box [I (0), I (0)]), (8, .box [I ((projFault m a).1), I ((projFault m a).2)])] ?_ ?_
  · refine Tr.seq ?_
    refine Tr.region ?_
    refine TrOps.sem (OpSem.loadbN rfl rfl rfl vs28 (by first | decide | simp)) rfl rfl (by decide) ?_
    refine TrOps.sem (OpSem.build rfl rfl pl28 zc28 rfl rfl) rfl rfl (by decide) ?_
    refine TrOps.sem (OpSem.eqS2 rfl rfl rfl io28) rfl rfl (by decide) ?_
    refine TrOps.nil ?_
    refine At.seq ?_
    refine Tr.cond rfl (fun c13 => ?_) (fun c13 => ?_)
    · refine Tr.region ?_
      refine TrOps.sem (OpSem.loadbN rfl rfl rfl vs39 (by first | decide | simp)) rfl rfl (by decide) ?_
      refine TrOps.sem (OpSem.move (.inl rfl) rfl) rfl rfl (by decide) ?_
      refine TrOps.sem (OpSem.call0 (project_Check_does ..) rfl rfl rfl rfl (Les.refl _)) rfl rfl (by decide) ?_
      refine TrOps.storeb rfl rfl rfl rfl rfl rfl rfl vs28 (by first | decide | simp) ?_
      refine TrOps.nil ?_
      have he := projFault_1 (vars := a) (pair0 (f := validate m) (by simpa using c13))
      refine At.meet ?_
      exact .slot rfl (.refl _) <| .slot rfl (.refl _) <| .slot rfl (.refl _) <| .slot rfl (.refl _) <| .slot rfl (.refl _) <| .slot rfl (.refl _) <| .mem rfl <| .mem rfl <| .boxLe rfl (.cons (Le.i (congrArg Prod.fst (he))) <| .cons (Le.i (congrArg Prod.snd (he))) <| .nil) <| .nil
    · refine Tr.skip ?_
      have he := projFault_2 (m := m) (vars := a) (fun h => by simp [h] at c13)
      refine At.meet ?_
      exact .slot rfl (.refl _) <| .slot rfl (.refl _) <| .slot rfl (.refl _) <| .slot rfl (.refl _) <| .slot rfl (.refl _) <| .slot rfl (.refl _) <| .mem rfl <| .mem rfl <| .boxLe rfl (.cons (Le.i (congrArg Prod.fst (he))) <| .cons (Le.i (congrArg Prod.snd (he))) <| .nil) <| .nil
  · refine Tr.cut [(1, .d (ints a)), (2, .d (ints b)), (3, .r 3 0), (6, Bo (false)), (7, .r 7 0), (8, .r 8 0)] [(3, .box [.d (ints m.sizes), .d (ints m.init), .d (asgs m.goal), .d (opsD m.ops)]), (7, .box [I (0), I (0)]), (8, .box [I ((cmpT m a b).1), I ((cmpT m a b).2)])] ?_ ?_
    · refine Tr.seq ?_
      refine Tr.region ?_
      refine TrOps.sem (OpSem.loadbN rfl rfl rfl vs28 (by first | decide | simp)) rfl rfl (by decide) ?_
      refine TrOps.sem (OpSem.build rfl rfl pl28 zc28 rfl rfl) rfl rfl (by decide) ?_
      refine TrOps.sem (OpSem.eqS2 rfl rfl rfl io28) rfl rfl (by decide) ?_
      refine TrOps.nil ?_
      refine At.seq ?_
      refine Tr.cond rfl (fun c19 => ?_) (fun c19 => ?_)
      · refine Tr.region ?_
        refine TrOps.sem (OpSem.loadbN rfl rfl rfl vs39 (by first | decide | simp)) rfl rfl (by decide) ?_
        refine TrOps.sem (OpSem.move (.inl rfl) rfl) rfl rfl (by decide) ?_
        refine TrOps.sem (OpSem.call0 (project_Check_does ..) rfl rfl rfl rfl (Les.refl _)) rfl rfl (by decide) ?_
        refine TrOps.storeb rfl rfl rfl rfl rfl rfl rfl vs28 (by first | decide | simp) ?_
        refine TrOps.nil ?_
        have he := cmpT_1 (b := b) (pair0 (f := projFault m a) (by simpa using c19))
        refine At.meet ?_
        exact .slot rfl (.refl _) <| .slot rfl (.refl _) <| .slot rfl (.refl _) <| .slot rfl (.refl _) <| .slot rfl (.refl _) <| .slot rfl (.refl _) <| .mem rfl <| .mem rfl <| .boxLe rfl (.cons (Le.i (congrArg Prod.fst (he))) <| .cons (Le.i (congrArg Prod.snd (he))) <| .nil) <| .nil
      · refine Tr.skip ?_
        have he := cmpT_2 (m := m) (a := a) (b := b) (fun h => by simp [h] at c19)
        refine At.meet ?_
        exact .slot rfl (.refl _) <| .slot rfl (.refl _) <| .slot rfl (.refl _) <| .slot rfl (.refl _) <| .slot rfl (.refl _) <| .slot rfl (.refl _) <| .mem rfl <| .mem rfl <| .boxLe rfl (.cons (Le.i (congrArg Prod.fst (he))) <| .cons (Le.i (congrArg Prod.snd (he))) <| .nil) <| .nil
    · refine Tr.seq ?_
      refine Tr.seq ?_
      refine Tr.region ?_
      refine TrOps.sem (OpSem.loadbN rfl rfl rfl vs28 (by first | decide | simp)) rfl rfl (by decide) ?_
      refine TrOps.sem (OpSem.build rfl rfl pl28 zc28 rfl rfl) rfl rfl (by decide) ?_
      refine TrOps.sem (OpSem.neS2 rfl rfl rfl io28) rfl rfl (by decide) ?_
      refine TrOps.nil ?_
      refine At.seq ?_
      refine Tr.cond rfl (fun c25 => ?_) (fun c25 => ?_)
      · have h1 : cmpT m a b ≠ (0, 0) := fun h => by simp [h] at c25
        refine Tr.seq ?_
        refine PC.start [] ?_
        refine PC.sem (OpSem.loadbN rfl rfl rfl vs28 (by first | decide | simp)) rfl rfl ?_
        refine PC.sem (OpSem.move (.inr rfl) rfl) rfl rfl ?_
        refine PC.done0 mixed (by kernel_rfl) (by kernel_rfl) (by kernel_rfl) (by kernel_rfl) (by kernel_rfl) ?_
        refine TrOps.storeb rfl rfl rfl rfl rfl rfl rfl vs28 (by first | decide | simp) ?_
        refine TrOps.nil ?_
        refine At.seq ?_
        refine Tr.ret ?_
        refine At.pass_ret ?_
        exact At.ret rfl (.tmp rfl <| .cellN rfl rfl vs28 <| .nil) rfl (Le.t (.cons (Le.bo (by rw [cmpR_1 h1])) <| .cons (.refl _) <| .nil))
      · have h1 : cmpT m a b = (0, 0) := pair0 (by simpa using c25)
        refine Tr.skip ?_
        refine At.seq ?_
        refine Tr.seq ?_
        refine PC.start [] ?_
        refine PC.sem (OpSem.loadbN rfl rfl rfl vs39 (by first | decide | simp)) rfl rfl ?_
        refine PC.sem (OpSem.move (.inl rfl) rfl) rfl rfl ?_
        refine PC.sem (OpSem.move (.inl rfl) rfl) rfl rfl ?_
        refine PC.sem (OpSem.call0 (additive_compatible_does m a b) rfl rfl rfl rfl (Les.refl _)) rfl rfl ?_
        refine PC.sem (OpSem.loadbN rfl rfl rfl vs28 (by first | decide | simp)) rfl rfl ?_
        refine PC.sem (OpSem.move (.inr rfl) rfl) rfl rfl ?_
        refine PC.done0 mixed (by kernel_rfl) (by kernel_rfl) (by kernel_rfl) (by kernel_rfl) (by kernel_rfl) ?_
        refine TrOps.storeb rfl rfl rfl rfl rfl rfl rfl vs28 (by first | decide | simp) ?_
        refine TrOps.nil ?_
        refine At.seq ?_
        refine Tr.ret ?_
        exact At.ret rfl (.tmp rfl <| .cellN rfl rfl vs28 <| .nil) rfl (Le.t (.cons (Le.bo (by rw [cmpR_0 h1])) <| .cons (.refl _) <| .nil))

theorem Q_assigns_does (l : List Asg) (vars : List Int) : Does Try.prog false 78 [.d (asgs l), .d (ints vars)] (Bo (chg l vars)) := by
  refine Does.of_body Try.func78 rfl rfl (by simp) Try.call78 (fun w0 O0 => ?_)
  refine Tr.lenLe (n := 0) rfl (fun len0 => ?_)
  refine Tr.lenLe (n := 1) rfl (fun len1 => ?_)
  refine Tr.seq ?_
  refine Tr.region ?_
  refine TrOps.sem (OpSem.move (.inr rfl) rfl) rfl rfl (by decide) ?_
  refine TrOps.nil ?_
  refine At.seq ?_
  refine Tr.seq ?_
  refine Tr.seq ?_
  refine Tr.region ?_
  refine TrOps.sem (OpSem.move (.inr rfl) rfl) rfl rfl (by decide) ?_
  refine TrOps.nil ?_
  refine At.seq ?_
  refine Tr.block ?_
  refine Tr.loop (X := Nat) (fun k => k ≤ l.length ∧ ∀ i : Nat, i < k → decide ((nth l i).1 ∈ vars) = false) (fun k => [(0, .d (asgs l)), (1, .d (ints vars)), (5, I (k))]) (fun k => []) (fun k => l.length - k) 0 ⟨by omega, by simp⟩ ?_ ?_
  · exact .slot rfl (.refl _) <| .slot rfl (.refl _) <| .slot rfl (Le.of_eq (by simp)) <| .nil
  · rintro k ⟨hkl, hinv⟩
    refine Tr.seq ?_
    refine Tr.seq ?_
    refine Tr.region ?_
    refine TrOps.sem (OpSem.move (.inl rfl) rfl) rfl rfl (by decide) ?_
    refine TrOps.sem (OpSem.move (.inl rfl) rfl) rfl rfl (by decide) ?_
    refine TrOps.sem (OpSem.lenL rfl rfl es36) rfl rfl (by decide) ?_
    refine TrOps.sem (OpSem.bin rfl rfl rfl blss) rfl rfl (by decide) ?_
    refine TrOps.nil ?_
    refine At.seq ?_
    refine Tr.cond rfl (fun c9 => ?_) (fun c9 => ?_)
    · have hk : k < l.length := by simpa using c9
      refine Tr.skip ?_
      refine At.seq ?_
      refine Tr.seq ?_
      refine Tr.block ?_
      refine Tr.seq ?_
      refine Tr.region ?_
      refine TrOps.sem (OpSem.move (.inl rfl) rfl) rfl rfl (by decide) ?_
      refine TrOps.sem (OpSem.move (.inl rfl) rfl) rfl rfl (by decide) ?_
      refine TrOps.sem (OpSem.move (.inl rfl) rfl) rfl rfl (by decide) ?_
      refine TrOps.sem (OpSem.idxL rfl rfl rfl es36 (by omega) (by omega)) rfl rfl (by decide) ?_
      refine TrOps.sem (OpSem.fieldp rfl rfl fo109_0) rfl rfl (by decide) ?_
      refine TrOps.sem (OpSem.load1 rfl rfl vs3 rfl) rfl rfl (by decide) ?_
      refine TrOps.sem (OpSem.call0 (R_Has_does vars (nth l k).1) rfl rfl rfl rfl (Les.refl _)) rfl rfl (by decide) ?_
      refine TrOps.nil ?_
      refine At.seq ?_
      refine Tr.cond rfl (fun c18 => ?_) (fun c18 => ?_)
      · refine Tr.seq ?_
        refine Tr.region ?_
        refine TrOps.sem (OpSem.move (.inr rfl) rfl) rfl rfl (by decide) ?_
        refine TrOps.nil ?_
        refine At.seq ?_
        refine Tr.ret ?_
        refine At.block_ret ?_
        refine At.pass_ret ?_
        refine At.pass_ret ?_
        refine At.block_ret ?_
        refine At.pass_ret ?_
        exact At.ret rfl (.tmp rfl <| .nil) rfl (Le.bo (any_iff.2 ⟨k, hk, c18⟩).symm)
      · refine Tr.skip ?_
        refine At.block_normal ?_
        refine At.seq ?_
        refine Tr.region ?_
        refine TrOps.sem (OpSem.move (.inl rfl) rfl) rfl rfl (by decide) ?_
        refine TrOps.sem (OpSem.bin rfl rfl rfl (badd (by omega) (by omega))) rfl rfl (by decide) ?_
        refine TrOps.sem (OpSem.move (.inr rfl) rfl) rfl rfl (by decide) ?_
        refine TrOps.nil ?_
        refine At.again (k + 1) ⟨by omega, all_succ hinv c18⟩ ?_ (by omega)
        exact .slot rfl (.refl _) <| .slot rfl (.refl _) <| .slot rfl (Le.of_eq (by simp)) <| .nil
    · have hk : k = l.length := by simp at c9; omega
      refine Tr.exit ?_
      refine At.pass_exit ?_
      refine At.pass_exit ?_
      refine At.block_same ?_
      refine At.seq ?_
      refine Tr.seq ?_
      refine Tr.region ?_
      refine TrOps.sem (OpSem.move (.inr rfl) rfl) rfl rfl (by decide) ?_
      refine TrOps.nil ?_
      refine At.seq ?_
      refine Tr.ret ?_
      exact At.ret rfl (.tmp rfl <| .nil) rfl (Le.bo (by subst hk; symm; unfold chg; rw [← Bool.not_eq_true, any_iff]; rintro ⟨i, hi, hx⟩; rw [hinv i hi] at hx; cases hx))

theorem Q_Together_does (m : Multi) (a b : List Int) : Does Try.prog false 28 [multi m, .d (ints a), .d (ints b)] (Bo (compat m a b)) := by
  refine Does.of_body Try.func28 rfl rfl (by simp) Try.call28 (fun w0 O0 => ?_)
  refine Tr.lenG (n := 0) (i := 0) rfl rfl (fun len0_0 => ?_)
  refine Tr.lenG (n := 0) (i := 1) rfl rfl (fun len0_1 => ?_)
  refine Tr.lenG (n := 0) (i := 2) rfl rfl (fun len0_2 => ?_)
  refine Tr.lenG (n := 0) (i := 3) rfl rfl (fun len0_3 => ?_)
  refine Tr.lenLe (n := 1) rfl (fun len1 => ?_)
  refine Tr.lenLe (n := 2) rfl (fun len2 => ?_)
  refine Tr.seq ?_
  refine Tr.region ?_
  refine TrOps.semM (OpSem.box 3 rfl rfl rfl rfl) rfl rfl (by decide) ?_
  refine TrOps.sem (OpSem.move (.inr rfl) rfl) rfl rfl (by decide) ?_
  refine TrOps.nil ?_
  refine At.seq ?_
  refine Tr.seq ?_
  refine Tr.seq ?_
  refine Tr.region ?_
  refine TrOps.sem (OpSem.move (.inr rfl) rfl) rfl rfl (by decide) ?_
  refine TrOps.nil ?_
  refine At.seq ?_
  refine Tr.block ?_
  refine Tr.loop (X := Nat) (fun k => k ≤ m.ops.length ∧ ∀ i : Nat, i < k → ¬ (chg (nth m.ops i).post a = true ∧ chg (nth m.ops i).post b = true)) (fun k => [(1, .d (ints a)), (2, .d (ints b)), (3, .r 3 0), (7, I (k))]) (fun k => [(3, .box [.d (ints m.sizes), .d (ints m.init), .d (asgs m.goal), .d (opsD m.ops)])]) (fun k => m.ops.length - k) 0 ⟨by omega, by simp⟩ ?_ ?_
  · exact .slot rfl (.refl _) <| .slot rfl (.refl _) <| .slot rfl (.refl _) <| .slot rfl (Le.of_eq (by simp)) <| .mem rfl <| .nil
  · rintro k ⟨hkl, hinv⟩
    refine Tr.seq ?_
    refine Tr.seq ?_
    refine Tr.region ?_
    refine TrOps.sem (OpSem.move (.inl rfl) rfl) rfl rfl (by decide) ?_
    refine TrOps.sem (OpSem.fieldr rfl rfl fo39_3) rfl rfl (by decide) ?_
    refine TrOps.sem (OpSem.loadb1 rfl rfl rfl vs37 rfl) rfl rfl (by decide) ?_
    refine TrOps.sem (OpSem.lenL rfl rfl es37) rfl rfl (by decide) ?_
    refine TrOps.sem (OpSem.bin rfl rfl rfl blss) rfl rfl (by decide) ?_
    refine TrOps.nil ?_
    refine At.seq ?_
    refine Tr.cond rfl (fun c12 => ?_) (fun c12 => ?_)
    · have hk : k < m.ops.length := by simpa using c12
      refine Tr.skip ?_
      refine At.seq ?_
      refine Tr.seq ?_
      refine Tr.block ?_
      refine Tr.seq ?_
      refine Tr.region ?_
      refine TrOps.sem (OpSem.fieldr rfl rfl fo39_3) rfl rfl (by decide) ?_
      refine TrOps.sem (OpSem.loadb1 rfl rfl rfl vs37 rfl) rfl rfl (by decide) ?_
      refine TrOps.sem (OpSem.move (.inl rfl) rfl) rfl rfl (by decide) ?_
      refine TrOps.sem (OpSem.idxL rfl rfl rfl es37 (by omega) (by omega)) rfl rfl (by decide) ?_
      refine TrOps.sem (OpSem.fieldp rfl rfl fo86_1) rfl rfl (by decide) ?_
      refine TrOps.sem (OpSem.load1 rfl rfl vs36 rfl) rfl rfl (by decide) ?_
      refine TrOps.sem (OpSem.move (.inl rfl) rfl) rfl rfl (by decide) ?_
      refine TrOps.sem (OpSem.call0 (Q_assigns_does (nth m.ops k).post a) rfl rfl rfl rfl (Les.refl _)) rfl rfl (by decide) ?_
      refine TrOps.sem (OpSem.move (.inl rfl) rfl) rfl rfl (by decide) ?_
      refine TrOps.split (n := 23) rfl (fun c23 => ?_) (fun c23 => ?_)
      · refine TrOps.gT rfl rfl rfl rfl c23 ?_
        refine TrOps.sem (OpSem.fieldr rfl rfl fo39_3) rfl rfl (by decide) ?_
        refine TrOps.gT rfl rfl rfl rfl c23 ?_
        refine TrOps.sem (OpSem.loadb1 rfl rfl rfl vs37 rfl) rfl rfl (by decide) ?_
        refine TrOps.gT rfl rfl rfl rfl c23 ?_
        refine TrOps.sem (OpSem.move (.inl rfl) rfl) rfl rfl (by decide) ?_
        refine TrOps.gT rfl rfl rfl rfl c23 ?_
        refine TrOps.sem (OpSem.idxL rfl rfl rfl es37 (by omega) (by omega)) rfl rfl (by decide) ?_
        refine TrOps.gT rfl rfl rfl rfl c23 ?_
        refine TrOps.sem (OpSem.fieldp rfl rfl fo86_1) rfl rfl (by decide) ?_
        refine TrOps.gT rfl rfl rfl rfl c23 ?_
        refine TrOps.sem (OpSem.load1 rfl rfl vs36 rfl) rfl rfl (by decide) ?_
        refine TrOps.gT rfl rfl rfl rfl c23 ?_
        refine TrOps.sem (OpSem.move (.inl rfl) rfl) rfl rfl (by decide) ?_
        refine TrOps.gT rfl rfl rfl rfl c23 ?_
        refine TrOps.sem (OpSem.call0 (Q_assigns_does (nth m.ops k).post b) rfl rfl rfl rfl (Les.refl _)) rfl rfl (by decide) ?_
        refine TrOps.sem (OpSem.pickT rfl rfl c23 rfl) rfl rfl (by decide) ?_
        refine TrOps.nil ?_
        refine At.seq ?_
        refine Tr.cond rfl (fun c32 => ?_) (fun c32 => ?_)
        · refine Tr.seq ?_
          refine Tr.region ?_
          refine TrOps.sem (OpSem.move (.inr rfl) rfl) rfl rfl (by decide) ?_
          refine TrOps.nil ?_
          refine At.seq ?_
          refine Tr.ret ?_
          refine At.block_ret ?_
          refine At.pass_ret ?_
          refine At.pass_ret ?_
          refine At.block_ret ?_
          refine At.pass_ret ?_
          exact At.ret rfl (.tmp rfl <| .nil) rfl (Le.bo (compat_1 hk ⟨c23, c32⟩))
        · refine Tr.skip ?_
          refine At.block_normal ?_
          refine At.seq ?_
          refine Tr.region ?_
          refine TrOps.sem (OpSem.move (.inl rfl) rfl) rfl rfl (by decide) ?_
          refine TrOps.sem (OpSem.bin rfl rfl rfl (badd (by omega) (by omega))) rfl rfl (by decide) ?_
          refine TrOps.sem (OpSem.move (.inr rfl) rfl) rfl rfl (by decide) ?_
          refine TrOps.nil ?_
          have hb : ¬ (chg (nth m.ops k).post a = true ∧ chg (nth m.ops k).post b = true) := by first | (intro h; rw [h.2] at c32; cases c32) | (intro h; rw [h.1] at c23; cases c23)
          refine At.again (k + 1) ⟨by omega, all_succ hinv hb⟩ ?_ (by omega)
          exact .slot rfl (.refl _) <| .slot rfl (.refl _) <| .slot rfl (.refl _) <| .slot rfl (Le.of_eq (by simp)) <| .mem rfl <| .nil
      · refine TrOps.gF rfl rfl rfl rfl c23 rfl (by decide) ?_
        refine TrOps.gF rfl rfl rfl rfl c23 rfl (by decide) ?_
        refine TrOps.gF rfl rfl rfl rfl c23 rfl (by decide) ?_
        refine TrOps.gF rfl rfl rfl rfl c23 rfl (by decide) ?_
        refine TrOps.gF rfl rfl rfl rfl c23 rfl (by decide) ?_
        refine TrOps.gF rfl rfl rfl rfl c23 rfl (by decide) ?_
        refine TrOps.gF rfl rfl rfl rfl c23 rfl (by decide) ?_
        refine TrOps.gF rfl rfl rfl rfl c23 rfl (by decide) ?_
        refine TrOps.sem (OpSem.pickF rfl rfl c23 rfl) rfl rfl (by decide) ?_
        refine TrOps.nil ?_
        refine At.seq ?_
        refine Tr.condF rfl rfl ?_
        refine Tr.skip ?_
        refine At.block_normal ?_
        refine At.seq ?_
        refine Tr.region ?_
        refine TrOps.sem (OpSem.move (.inl rfl) rfl) rfl rfl (by decide) ?_
        refine TrOps.sem (OpSem.bin rfl rfl rfl (badd (by omega) (by omega))) rfl rfl (by decide) ?_
        refine TrOps.sem (OpSem.move (.inr rfl) rfl) rfl rfl (by decide) ?_
        refine TrOps.nil ?_
        have hb : ¬ (chg (nth m.ops k).post a = true ∧ chg (nth m.ops k).post b = true) := by first | (intro h; rw [h.2] at c32; cases c32) | (intro h; rw [h.1] at c23; cases c23)
        refine At.again (k + 1) ⟨by omega, all_succ hinv hb⟩ ?_ (by omega)
        exact .slot rfl (.refl _) <| .slot rfl (.refl _) <| .slot rfl (.refl _) <| .slot rfl (Le.of_eq (by simp)) <| .mem rfl <| .nil
    · have hk : k = m.ops.length := by simp at c12; omega
      refine Tr.exit ?_
      refine At.pass_exit ?_
      refine At.pass_exit ?_
      refine At.block_same ?_
      refine At.seq ?_
      refine Tr.seq ?_
      refine Tr.region ?_
      refine TrOps.sem (OpSem.move (.inr rfl) rfl) rfl rfl (by decide) ?_
      refine TrOps.nil ?_
      refine At.seq ?_
      refine Tr.ret ?_
      exact At.ret rfl (.tmp rfl <| .nil) rfl (Le.bo (by subst hk; exact compat_0 hinv))

theorem relaxed_Plus_does (a b : Int) (ha : 0 ≤ a ∧ a ≤ 1000000000) (hb : 0 ≤ b ∧ b ≤ 1000000000) : Does Try.prog false 68 [I (a), I (b)] (I (plusI a b)) := by
  refine Does.of_body Try.func68 rfl rfl (by simp) Try.call68 (fun w0 O0 => ?_)
  refine Tr.seq ?_
  refine Tr.region ?_
  refine TrOps.sem (OpSem.move (.inr rfl) rfl) rfl rfl (by decide) ?_
  refine TrOps.nil ?_
  refine At.seq ?_
  refine Tr.seq ?_
  refine Tr.seq ?_
  refine Tr.region ?_
  refine TrOps.sem (OpSem.move (.inl rfl) rfl) rfl rfl (by decide) ?_
  refine TrOps.sem (OpSem.bin rfl rfl rfl beql) rfl rfl (by decide) ?_
  refine TrOps.sem (OpSem.move (.inl rfl) rfl) rfl rfl (by decide) ?_
  refine TrOps.split (n := 7) rfl (fun c7 => ?_) (fun c7 => ?_)
  · refine TrOps.gF rfl rfl rfl rfl c7 rfl (by decide) ?_
    refine TrOps.gF rfl rfl rfl rfl c7 rfl (by decide) ?_
    refine TrOps.sem (OpSem.pickT rfl rfl c7 rfl) rfl rfl (by decide) ?_
    refine TrOps.nil ?_
    refine At.seq ?_
    refine Tr.condT rfl rfl ?_
    refine Tr.seq ?_
    refine Tr.region ?_
    refine TrOps.sem (OpSem.move (.inr rfl) rfl) rfl rfl (by decide) ?_
    refine TrOps.nil ?_
    refine At.seq ?_
    refine Tr.ret ?_
    refine At.pass_ret ?_
    exact At.ret rfl (.tmp rfl <| .nil) rfl (Le.i (plusI_1 (.inl (by simpa using c7))))
  · refine TrOps.gT rfl rfl rfl rfl c7 ?_
    refine TrOps.sem (OpSem.move (.inl rfl) rfl) rfl rfl (by decide) ?_
    refine TrOps.gT rfl rfl rfl rfl c7 ?_
    refine TrOps.sem (OpSem.bin rfl rfl rfl beql) rfl rfl (by decide) ?_
    refine TrOps.sem (OpSem.pickF rfl rfl c7 rfl) rfl rfl (by decide) ?_
    refine TrOps.nil ?_
    refine At.seq ?_
    refine Tr.cond rfl (fun c10 => ?_) (fun c10 => ?_)
    · refine Tr.seq ?_
      refine Tr.region ?_
      refine TrOps.sem (OpSem.move (.inr rfl) rfl) rfl rfl (by decide) ?_
      refine TrOps.nil ?_
      refine At.seq ?_
      refine Tr.ret ?_
      refine At.pass_ret ?_
      exact At.ret rfl (.tmp rfl <| .nil) rfl (Le.i (plusI_1 (.inr (by simpa using c10))))
    · refine Tr.skip ?_
      refine At.seq ?_
      refine Tr.seq ?_
      refine Tr.region ?_
      refine TrOps.sem (OpSem.move (.inl rfl) rfl) rfl rfl (by decide) ?_
      refine TrOps.sem (OpSem.move (.inl rfl) rfl) rfl rfl (by decide) ?_
      refine TrOps.sem (OpSem.bin rfl rfl rfl (badd (by omega) (by omega))) rfl rfl (by decide) ?_
      refine TrOps.sem (OpSem.min2 rfl rfl rfl) rfl rfl (by decide) ?_
      refine TrOps.sem (OpSem.move (.inr rfl) rfl) rfl rfl (by decide) ?_
      refine TrOps.nil ?_
      refine At.seq ?_
      refine Tr.ret ?_
      exact At.ret rfl (.tmp rfl <| .nil) rfl (Le.i (plusI_0 (by simp at c7 c10; omega)))

theorem additive_Value_1_1_does (m : Multi) (pats : List (List Int)) (i k : Nat) (hi : i < pats.length) (hk : k < pats.length) : Does Try.prog false 66 [I (k), .p [ints m.sizes, ints m.init, asgs m.goal, opsD m.ops], .p [rows pats], .p [.v (.int .i64 i)]] (Bo (!cmpF m pats i k)) := by
  refine Does.of_body Try.func66 rfl rfl (by simp) Try.call66 (fun w0 O0 => ?_)
  refine Tr.seq ?_
  refine Tr.region ?_
  refine TrOps.sem (OpSem.move (.inr rfl) rfl) rfl rfl (by decide) ?_
  refine TrOps.nil ?_
  refine At.seq ?_
  refine Tr.seq ?_
  refine PC.start [] ?_
  refine PC.sem (OpSem.loadN rfl rfl vs39 (by first | decide | simp) rfl) rfl rfl ?_
  refine PC.sem (OpSem.load1 rfl rfl vs47 rfl) rfl rfl ?_
  refine PC.sem (OpSem.load1 rfl rfl vs3 rfl) rfl rfl ?_
  refine PC.sem (OpSem.idxL rfl rfl rfl es47 (by omega) (by omega)) rfl rfl ?_
  refine PC.sem (OpSem.load1 rfl rfl vs23 rfl) rfl rfl ?_
  refine PC.sem (OpSem.load1 rfl rfl vs47 rfl) rfl rfl ?_
  refine PC.sem (OpSem.move (.inl rfl) rfl) rfl rfl ?_
  refine PC.sem (OpSem.idxL rfl rfl rfl es47 (by omega) (by omega)) rfl rfl ?_
  refine PC.sem (OpSem.load1 rfl rfl vs23 rfl) rfl rfl ?_
  refine PC.done0 mixed (by kernel_rfl) (by kernel_rfl) (by kernel_rfl) (by kernel_rfl) (by kernel_rfl) ?_
  refine TrOps.sem (OpSem.call0 (additive_compatible_does m (nth pats i) (nth pats k)) rfl rfl rfl rfl (Les.refl _)) rfl rfl (by decide) ?_
  refine TrOps.sem (OpSem.not rfl rfl) rfl rfl (by decide) ?_
  refine TrOps.sem (OpSem.move (.inr rfl) rfl) rfl rfl (by decide) ?_
  refine TrOps.nil ?_
  refine At.seq ?_
  refine Tr.ret ?_
  exact At.ret rfl (.tmp rfl <| .nil) rfl (.refl _)

theorem additive_Value_1_does (m : Multi) (pats : List (List Int)) (V : List Int) (hV : ValsOk V) (hl : V.length = pats.length) (h6 : pats.length ≤ 6) (i : Nat) (ch : List Nat) (hi : i ≤ pats.length) (hch : ∀ k, k ∈ ch → k < pats.length) (hcl : ch.length ≤ i) : Does Try.prog false 64 [I (i), .d (ints (chI ch)), .p [rows pats], .a (selfK 64 1 [.p [rows pats], .u, .p [ints m.sizes, ints m.init, asgs m.goal, opsD m.ops], .p [ints V]]), .p [ints m.sizes, ints m.init, asgs m.goal, opsD m.ops], .p [ints V]] (I (bestV V (cmpF m pats) (pats.length - i) i ch)) := by
  refine Does.of_body Try.func64 rfl rfl (by simp) Try.call64 (fun w0 O0 => ?_)
  refine Tr.lenLe (n := 1) rfl (fun len1 => ?_)
  refine Tr.seq ?_
  refine Tr.region ?_
  refine TrOps.semM (OpSem.box 6 rfl rfl rfl rfl) rfl rfl (by decide) ?_
  refine TrOps.sem (OpSem.move (.inr rfl) rfl) rfl rfl (by decide) ?_
  refine TrOps.nil ?_
  refine At.seq ?_
  refine Tr.seq ?_
  refine Tr.seq ?_
  refine Tr.region ?_
  refine TrOps.sem (OpSem.loadb1 rfl rfl rfl vs3 rfl) rfl rfl (by decide) ?_
  refine TrOps.sem (OpSem.load1 rfl rfl vs47 rfl) rfl rfl (by decide) ?_
  refine TrOps.sem (OpSem.lenL rfl rfl es47) rfl rfl (by decide) ?_
  refine TrOps.sem (OpSem.bin rfl rfl rfl beql) rfl rfl (by decide) ?_
  refine TrOps.nil ?_
  refine At.seq ?_
  refine Tr.cond rfl (fun c13 => ?_) (fun c13 => ?_)
  · have hi2 : i = pats.length := by simp at c13; omega
    refine Tr.seq ?_
    refine Tr.region ?_
    refine TrOps.sem (OpSem.move (.inr rfl) rfl) rfl rfl (by decide) ?_
    refine TrOps.nil ?_
    refine At.seq ?_
    refine Tr.ret ?_
    refine At.pass_ret ?_
    exact At.ret rfl (.tmp rfl <| .nil) rfl (Le.i (by subst hi2; simp [bestV]))
  · have hi2 : i < pats.length := by simp at c13; omega
    have hb1 := bestV_in hV (C := cmpF m pats) (n := pats.length - (i + 1)) (i := i + 1) (ch := ch) (by omega)
    have hb2 := bestV_in hV (C := cmpF m pats) (n := pats.length - (i + 1)) (i := i + 1) (ch := ch ++ [i]) (by omega)
    have hvi := hV i (by omega)
    have hcI : (chI ch).length = ch.length := by simp [chI]
    refine Tr.skip ?_
    refine At.seq ?_
    refine Tr.seq ?_
    refine Tr.region ?_
    refine TrOps.sem (OpSem.loadSelf rfl rfl vs88) rfl rfl (by decide) ?_
    refine TrOps.sem (OpSem.loadb1 rfl rfl rfl vs3 rfl) rfl rfl (by decide) ?_
    refine TrOps.sem (OpSem.bin rfl rfl rfl (badd (by omega) (by omega))) rfl rfl (by decide) ?_
    refine TrOps.sem (OpSem.move (.inl rfl) rfl) rfl rfl (by decide) ?_
    refine TrOps.sem (OpSem.call0 (additive_Value_1_does m pats V hV hl h6 (i + 1) ch (by omega) hch (by first | omega | (simp; omega))) rfl rfl rfl rfl (Les.refl _)) rfl rfl (by decide) ?_
    refine TrOps.sem (OpSem.move (.inr rfl) rfl) rfl rfl (by decide) ?_
    refine TrOps.nil ?_
    refine At.seq ?_
    refine Tr.seq ?_
    refine Tr.seq ?_
    refine Tr.region ?_
    refine TrOps.sem (OpSem.move (.inl rfl) rfl) rfl rfl (by decide) ?_
    refine TrOps.sem (OpSem.makeFunc rfl rfl rfl) rfl rfl (by decide) ?_
    refine TrOps.sem (OpSem.call (slices_ContainsFunc_int_int_does (chI ch) 66 [.p [ints m.sizes, ints m.init, asgs m.goal, opsD m.ops], .p [rows pats], .p [.v (.int .i64 i)]] (fun k => !cmpF m pats i k.toNat) (caught_p3 _ _ _) (fun x hx => by obtain ⟨k, hk, rfl⟩ := List.mem_map.1 hx; exact additive_Value_1_1_does m pats i k hi2 (hch k hk))) (.inr rfl) rfl rfl rfl rfl (Les.refl _)) rfl rfl (by decide) ?_
    refine TrOps.sem (OpSem.not rfl rfl) rfl rfl (by decide) ?_
    refine TrOps.nil ?_
    refine At.seq ?_
    refine Tr.cond rfl (fun c22 => ?_) (fun c22 => ?_)
    · refine PC.start [] ?_
      refine PC.sem (OpSem.move (.inl rfl) rfl) rfl rfl ?_
      refine PC.sem (OpSem.load1 rfl rfl vs23 rfl) rfl rfl ?_
      refine PC.sem (OpSem.loadb1 rfl rfl rfl vs3 rfl) rfl rfl ?_
      refine PC.sem (OpSem.idxL rfl rfl rfl es23 (by omega) (by omega)) rfl rfl ?_
      refine PC.sem (OpSem.load1 rfl rfl vs3 rfl) rfl rfl ?_
      refine PC.sem (OpSem.loadSelf rfl rfl vs88) rfl rfl ?_
      refine PC.sem (OpSem.loadb1 rfl rfl rfl vs3 rfl) rfl rfl ?_
      refine PC.sem (OpSem.bin rfl rfl rfl (badd (by omega) (by omega))) rfl rfl ?_
      refine PC.sem (OpSem.move (.inl rfl) rfl) rfl rfl ?_
      refine PC.sem (OpSem.move (.inl rfl) rfl) rfl rfl ?_
      refine PC.sem (OpSem.lenL rfl rfl es23) rfl rfl ?_
      refine PC.sem (OpSem.move (.inl rfl) rfl) rfl rfl ?_
      refine PC.sem (OpSem.lenL rfl rfl es23) rfl rfl ?_
      refine PC.sem (OpSem.clipL rfl rfl rfl rfl es23) rfl rfl ?_
      refine PC.sem (OpSem.loadb1 rfl rfl rfl vs3 rfl) rfl rfl ?_
      refine PC.sem (OpSem.buildSlice rfl rfl es23 ze23 rfl rfl (by decide) (by decide) rfl rfl) rfl rfl ?_
      refine PC.sem (OpSem.appendCF rfl rfl rfl es23 el23 zc3 rfl (by decide) by3 (by intro r hr; simp at hr; rcases hr with ⟨a, _, rfl⟩ | rfl <;> simp [D.one, Value.oneCell']) (by simp) (by simp [maxLen, hcI]; omega) (by simp [hcI]; omega)) rfl rfl ?_
      refine PC.sem (OpSem.call0 (additive_Value_1_does m pats V hV hl h6 (i + 1) (ch ++ [i]) (by omega) (fun k hk => by rcases List.mem_append.1 hk with h | h; exact hch k h; simp at h; omega) (by first | omega | (simp; omega))) rfl rfl rfl rfl (.cons (.refl _) <| .cons (Le.d (by rw [chI_app]; simp)) <| .cons (.refl _) <| .cons (.refl _) <| .cons (.refl _) <| .cons (.refl _) .nil)) rfl rfl ?_
      refine PC.sem (OpSem.call0 (relaxed_Plus_does _ _ ⟨hvi.1, hvi.2.1⟩ hb2) rfl rfl rfl rfl (Les.refl _)) rfl rfl ?_
      refine PC.done0 mixed (by kernel_rfl) (by kernel_rfl) (by kernel_rfl) (by kernel_rfl) (by kernel_rfl) ?_
      refine TrOps.sem (OpSem.max2 rfl rfl rfl) rfl rfl (by decide) ?_
      refine TrOps.sem (OpSem.move (.inr rfl) rfl) rfl rfl (by decide) ?_
      refine TrOps.nil ?_
      refine At.seq ?_
      refine Tr.seq ?_
      refine Tr.region ?_
      refine TrOps.sem (OpSem.move (.inl rfl) rfl) rfl rfl (by decide) ?_
      refine TrOps.sem (OpSem.move (.inr rfl) rfl) rfl rfl (by decide) ?_
      refine TrOps.nil ?_
      refine At.seq ?_
      refine Tr.ret ?_
      exact At.ret rfl (.tmp rfl <| .nil) rfl (Le.i (bestV_f hi2 (by rw [← chI_any]; simpa using c22)))
    · refine Tr.skip ?_
      refine At.seq ?_
      refine Tr.seq ?_
      refine Tr.region ?_
      refine TrOps.sem (OpSem.move (.inl rfl) rfl) rfl rfl (by decide) ?_
      refine TrOps.sem (OpSem.move (.inr rfl) rfl) rfl rfl (by decide) ?_
      refine TrOps.nil ?_
      refine At.seq ?_
      refine Tr.ret ?_
      exact At.ret rfl (.tmp rfl <| .nil) rfl (Le.i (bestV_t hi2 (by rw [← chI_any]; simpa using c22)))
termination_by pats.length - i
decreasing_by all_goals omega

theorem additive_Value_does (m : Multi) (pats : List (List Int)) (s : List Int) : Does Try.prog false 23 [multi m, .d (rows pats), .d (ints s)] (.t [I (addR m pats s), flt (addF m pats s)]) := by
  refine Does.of_body Try.func23 rfl rfl (by simp) Try.call23 (fun w0 O0 => ?_)
  refine Tr.lenG (n := 0) (i := 0) rfl rfl (fun len0_0 => ?_)
  refine Tr.lenG (n := 0) (i := 1) rfl rfl (fun len0_1 => ?_)
  refine Tr.lenG (n := 0) (i := 2) rfl rfl (fun len0_2 => ?_)
  refine Tr.lenG (n := 0) (i := 3) rfl rfl (fun len0_3 => ?_)
  refine Tr.lenLe (n := 1) rfl (fun len1 => ?_)
  refine Tr.lenLe (n := 2) rfl (fun len2 => ?_)
  refine Tr.seq ?_
  refine Tr.region ?_
  refine TrOps.semM (OpSem.box 3 rfl rfl rfl rfl) rfl rfl (by decide) ?_
  refine TrOps.semM (OpSem.box 4 rfl rfl rfl rfl) rfl rfl (by decide) ?_
  refine TrOps.sem (OpSem.move (.inr rfl) rfl) rfl rfl (by decide) ?_
  refine TrOps.semM (OpSem.alloc 7 rfl zc28 rfl) rfl rfl (by decide) ?_
  refine TrOps.nil ?_
  refine At.seq ?_
  refine Tr.seq ?_
  refine Tr.seq ?_
  refine Tr.region ?_
  refine TrOps.sem (OpSem.loadbN rfl rfl rfl vs39 (by first | decide | simp)) rfl rfl (by decide) ?_
  refine TrOps.sem (OpSem.move (.inl rfl) rfl) rfl rfl (by decide) ?_
  refine TrOps.sem (OpSem.call0 (multi_StateFault_does ..) rfl rfl rfl rfl (Les.refl _)) rfl rfl (by decide) ?_
  refine TrOps.semM (OpSem.alloc 8 rfl zc28 rfl) rfl rfl (by decide) ?_
  refine TrOps.storeb rfl rfl rfl rfl rfl rfl rfl vs28 (by first | decide | simp) ?_
  refine TrOps.nil ?_
  refine At.seq ?_
  refine Tr.seq ?_
  refine Tr.region ?_
  refine TrOps.sem (OpSem.loadbN rfl rfl rfl vs28 (by first | decide | simp)) rfl rfl (by decide) ?_
  refine TrOps.sem (OpSem.build rfl rfl pl28 zc28 rfl rfl) rfl rfl (by decide) ?_
  refine TrOps.sem (OpSem.neS2 rfl rfl rfl io28) rfl rfl (by decide) ?_
  refine TrOps.nil ?_
  refine At.seq ?_
  refine Tr.cond rfl (fun c20 => ?_) (fun c20 => ?_)
  · have h1 : stateFault m s ≠ (0, 0) := fun h => by simp [h] at c20
    refine Tr.seq ?_
    refine PC.start [] ?_
    refine PC.sem (OpSem.loadbN rfl rfl rfl vs28 (by first | decide | simp)) rfl rfl ?_
    refine PC.sem (OpSem.move (.inr rfl) rfl) rfl rfl ?_
    refine PC.done0 mixed (by kernel_rfl) (by kernel_rfl) (by kernel_rfl) (by kernel_rfl) (by kernel_rfl) ?_
    refine TrOps.storeb rfl rfl rfl rfl rfl rfl rfl vs28 (by first | decide | simp) ?_
    refine TrOps.nil ?_
    refine At.seq ?_
    refine Tr.ret ?_
    refine At.pass_ret ?_
    exact At.ret rfl (.tmp rfl <| .cellN rfl rfl vs28 <| .nil) rfl (Le.t (.cons (Le.i (by rw [addR_1 (by rw [← addF_1 h1]; exact h1)])) <| .cons (Le.flt (addF_1 h1)) <| .nil))
  · have h0 : stateFault m s = (0, 0) := pair0 (by simpa using c20)
    refine Tr.skip ?_
    refine At.seq ?_
    refine Tr.seq ?_
    refine Tr.seq ?_
    refine Tr.region ?_
    refine TrOps.sem (OpSem.loadb1 rfl rfl rfl vs47 rfl) rfl rfl (by decide) ?_
    refine TrOps.sem (OpSem.lenL rfl rfl es47) rfl rfl (by decide) ?_
    refine TrOps.sem (OpSem.bin rfl rfl rfl bgtr) rfl rfl (by decide) ?_
    refine TrOps.nil ?_
    refine At.seq ?_
    refine Tr.cond rfl (fun c24 => ?_) (fun c24 => ?_)
    · have h1 : 6 < pats.length := by simp at c24; omega
      refine Tr.seq ?_
      refine Tr.region ?_
      refine TrOps.sem (OpSem.build rfl rfl pl28 zc28 rfl rfl) rfl rfl (by decide) ?_
      refine TrOps.sem (OpSem.move (.inr rfl) rfl) rfl rfl (by decide) ?_
      refine TrOps.storeb rfl rfl rfl rfl rfl rfl rfl vs28 (by first | decide | simp) ?_
      refine TrOps.nil ?_
      refine At.seq ?_
      refine Tr.ret ?_
      refine At.pass_ret ?_
      have hF := addF_2 h0 h1
      exact At.ret rfl (.tmp rfl <| .cellN rfl rfl vs28 <| .nil) rfl (Le.t (.cons (Le.i (by rw [addR_1 (by rw [← hF]; decide)])) <| .cons (Le.flt hF) <| .nil))
    · have h6 : pats.length ≤ 6 := by simp at c24; omega
      refine Tr.skip ?_
      refine At.seq ?_
      refine Tr.seq ?_
      refine Tr.region ?_
      refine TrOps.semM (OpSem.alloc 9 rfl zc23 rfl) rfl rfl (by decide) ?_
      refine TrOps.nil ?_
      refine At.seq ?_
      refine Tr.seq ?_
      refine Tr.seq ?_
      refine Tr.ownNilBox 90 9 0 1 3 rfl rfl rfl ?_
      refine Tr.region ?_
      refine TrOps.sem (OpSem.loadb1 rfl rfl rfl vs47 rfl) rfl rfl (by decide) ?_
      refine TrOps.sem (OpSem.lenL rfl rfl es47) rfl rfl (by decide) ?_
      refine TrOps.sem (OpSem.move (.inl rfl) rfl) rfl rfl (by decide) ?_
      refine TrOps.nil ?_
      refine At.seq ?_
      refine Tr.block ?_
      refine Tr.loop (X := Nat) (fun k => k ≤ pats.length ∧ ∀ j : Nat, j < k → valF m (nth pats j) s = (0, 0)) (fun k => [(2, .d (ints s)), (3, .r 3 0), (4, .r 4 0), (7, .r 7 0), (9, .r 9 0), (26, .d (rows pats)), (27, I (pats.length)), (28, I (k))]) (fun k => [(9, .box [.o 90]), (90, .own 1 3 ((valsTo m pats s k).map fun n => [D.v (.int .i64 n)])), (3, .box [.d (ints m.sizes), .d (ints m.init), .d (asgs m.goal), .d (opsD m.ops)]), (4, .box [.d (rows pats)]), (7, .box [I (0), I (0)])]) (fun k => pats.length - k) 0 ⟨by omega, by simp⟩ ?_ ?_
      · exact .slot rfl (.refl _) <| .slot rfl (.refl _) <| .slot rfl (.refl _) <| .slot rfl (.refl _) <| .slot rfl (.refl _) <| .slot rfl (.refl _) <| .slot rfl (.refl _) <| .slot rfl (Le.of_eq (by simp)) <| .mem rfl <| .memEq rfl rfl <| .mem rfl <| .mem rfl <| .mem rfl <| .nil
      · rintro k ⟨hkl, hinv⟩
        refine Tr.seq ?_
        refine Tr.region ?_
        refine TrOps.sem (OpSem.bin rfl rfl rfl blss) rfl rfl (by decide) ?_
        refine TrOps.nil ?_
        refine At.seq ?_
        refine Tr.seq ?_
        refine Tr.cond rfl (fun c29 => ?_) (fun c29 => ?_)
        · have hk : k < pats.length := by simpa using c29
          refine Tr.skip ?_
          refine At.seq ?_
          refine Tr.seq ?_
          refine Tr.block ?_
          refine Tr.seq ?_
          refine Tr.region ?_
          refine TrOps.sem (OpSem.move (.inl rfl) rfl) rfl rfl (by decide) ?_
          refine TrOps.sem (OpSem.idxL rfl rfl rfl es47 (by omega) (by omega)) rfl rfl (by decide) ?_
          refine TrOps.sem (OpSem.load1 rfl rfl vs23 rfl) rfl rfl (by decide) ?_
          refine TrOps.sem (OpSem.move (.inr rfl) rfl) rfl rfl (by decide) ?_
          refine TrOps.sem (OpSem.move (.inr rfl) rfl) rfl rfl (by decide) ?_
          refine TrOps.nil ?_
          refine At.seq ?_
          refine Tr.seq ?_
          refine Tr.region ?_
          refine TrOps.sem (OpSem.loadbN rfl rfl rfl vs39 (by first | decide | simp)) rfl rfl (by decide) ?_
          refine TrOps.sem (OpSem.move (.inl rfl) rfl) rfl rfl (by decide) ?_
          refine TrOps.sem (OpSem.move (.inl rfl) rfl) rfl rfl (by decide) ?_
          refine TrOps.sem (OpSem.call0 (project_Value_does m (nth pats k) s) rfl rfl rfl rfl (Les.refl _)) rfl rfl (by decide) ?_
          refine TrOps.sem (OpSem.move (.inl rfl) rfl) rfl rfl (by decide) ?_
          refine TrOps.sem (OpSem.extract rfl rfl rfl) rfl rfl (by decide) ?_
          refine TrOps.sem (OpSem.extract rfl rfl rfl) rfl rfl (by decide) ?_
          refine TrOps.semM (OpSem.alloc 13 rfl zc28 rfl) rfl rfl (by decide) ?_
          refine TrOps.sem (OpSem.move (.inr rfl) rfl) rfl rfl (by decide) ?_
          refine TrOps.storeb rfl rfl rfl rfl rfl rfl rfl vs28 (by first | decide | simp) ?_
          refine TrOps.nil ?_
          refine At.seq ?_
          refine Tr.seq ?_
          refine Tr.seq ?_
          refine Tr.region ?_
          refine TrOps.sem (OpSem.loadbN rfl rfl rfl vs28 (by first | decide | simp)) rfl rfl (by decide) ?_
          refine TrOps.sem (OpSem.build rfl rfl pl28 zc28 rfl rfl) rfl rfl (by decide) ?_
          refine TrOps.sem (OpSem.neS2 rfl rfl rfl io28) rfl rfl (by decide) ?_
          refine TrOps.nil ?_
          refine At.seq ?_
          refine Tr.cond rfl (fun c42 => ?_) (fun c42 => ?_)
          · have hne : valF m (nth pats k) s ≠ (0, 0) := fun h => by simp [h] at c42
            have hF := (patsF_bad hk (patsF_of hinv) hne).trans (addF_3 h0 (by omega))
            have hFn : addF m pats s ≠ (0, 0) := by rw [← hF]; intro e; exact valF_ne hne (congrArg Prod.fst e)
            refine Tr.seq ?_
            refine PC.start [] ?_
            refine PC.sem (OpSem.fieldr rfl rfl fo28_0) rfl rfl ?_
            refine PC.sem (OpSem.loadb1 rfl rfl rfl vs3 rfl) rfl rfl ?_
            refine PC.sem (OpSem.move (.inl rfl) rfl) rfl rfl ?_
            refine PC.sem (OpSem.build rfl rfl pl28 zc28 rfl rfl) rfl rfl ?_
            refine PC.sem (OpSem.move (.inr rfl) rfl) rfl rfl ?_
            refine PC.done0 mixed (by kernel_rfl) (by kernel_rfl) (by kernel_rfl) (by kernel_rfl) (by kernel_rfl) ?_
            refine TrOps.storeb rfl rfl rfl rfl rfl rfl rfl vs28 (by first | decide | simp) ?_
            refine TrOps.nil ?_
            refine At.seq ?_
            refine Tr.ret ?_
            refine At.pass_ret ?_
            refine At.block_ret ?_
            refine At.pass_ret ?_
            refine At.pass_ret ?_
            refine At.block_ret ?_
            refine At.pass_ret ?_
            exact At.ret rfl (.tmp rfl <| .cellN rfl rfl vs28 <| .nil) rfl (Le.t (.cons (Le.i (by rw [addR_1 hFn])) <| .cons (Le.flt hF) <| .nil))
          · have hb : valF m (nth pats k) s = (0, 0) := pair0 (by simpa using c42)
            refine Tr.skip ?_
            refine At.seq ?_
            refine Tr.region ?_
            refine TrOps.sem (OpSem.loadb1 rfl rfl rfl vs23 rfl) rfl rfl (by decide) ?_
            refine TrOps.sem (OpSem.move (.inl rfl) rfl) rfl rfl (by decide) ?_
            refine TrOps.sem (OpSem.buildSlice rfl rfl es23 ze23 rfl rfl (by decide) (by decide) rfl rfl) rfl rfl (by decide) ?_
            refine TrOps.append rfl rfl rfl (by decide) rfl rfl rfl es23 el23 zc3 rfl by3 (by simp [D.one, Value.oneCell']) (by simp [maxLen, valsTo_len]; omega) (by simp [valsTo_len]; omega) ?_
            refine TrOps.storeb rfl rfl rfl rfl rfl rfl rfl vs23 (by first | decide | simp) ?_
            refine TrOps.nil ?_
            refine At.block_normal ?_
            refine At.seq ?_
            refine Tr.region ?_
            refine TrOps.sem (OpSem.bin rfl rfl rfl (badd (by omega) (by omega))) rfl rfl (by decide) ?_
            refine TrOps.sem (OpSem.move (.inl rfl) rfl) rfl rfl (by decide) ?_
            refine TrOps.nil ?_
            refine At.again (k + 1) ⟨by omega, all_succ hinv hb⟩ ?_ (by omega)
            exact .slot rfl (.refl _) <| .slot rfl (.refl _) <| .slot rfl (.refl _) <| .slot rfl (.refl _) <| .slot rfl (.refl _) <| .slot rfl (.refl _) <| .slot rfl (.refl _) <| .slot rfl (Le.of_eq (by simp)) <| .mem rfl <| .memEq rfl (by rw [valsTo_s]; simp) <| .mem rfl <| .mem rfl <| .mem rfl <| .nil
        · have hk : k = pats.length := by simp at c29; omega
          subst hk
          have hF := addF_of h0 h6 hinv
          obtain ⟨hv, hst, hpo⟩ := addF_pats hF
          refine Tr.exit ?_
          refine At.pass_exit ?_
          refine At.pass_exit ?_
          refine At.block_same ?_
          refine At.seq ?_
          refine Tr.seq ?_
          refine Tr.region ?_
          refine TrOps.semM (OpSem.alloc 14 rfl zc88 rfl) rfl rfl (by decide) ?_
          refine TrOps.nil ?_
          refine At.seq ?_
          refine Tr.seq ?_
          refine Tr.region ?_
          refine TrOps.sem (OpSem.makeFunc rfl rfl rfl) rfl rfl (by decide) ?_
          refine TrOps.storeb rfl rfl rfl rfl rfl rfl rfl vs88 (by first | decide | simp) ?_
          refine TrOps.nil ?_
          refine At.seq ?_
          refine Tr.seq ?_
          refine Tr.freeze 90 rfl ?_
          refine Tr.freezeR 4 rfl rfl ?_
          refine Tr.freezeR 3 rfl rfl ?_
          refine Tr.freezeR 9 rfl rfl ?_
          refine Tr.freezeSelf (caps := [.p [rows pats], .u, .p [ints m.sizes, ints m.init, asgs m.goal, opsD m.ops], .p [ints (valsTo m pats s pats.length)]]) 14 1 rfl rfl rfl (by kernel_rfl) (by intro i s s1 hi hs hv; rcases i with _ | _ | _ | _ | _ | _ | i <;> simp at hs <;> subst hs <;> first | (exact absurd rfl hi) | (simpa [S.view] using hv.symm)) ?_
          refine Tr.region ?_
          refine TrOps.sem (OpSem.loadSelf rfl rfl vs88) rfl rfl (by decide) ?_
          refine TrOps.sem (OpSem.call0 (additive_Value_1_does m pats (valsL m pats s) (valsL_ok hv hpo hst) valsL_len h6 0 [] (by omega) (fun k hk => by simp at hk) (by simp)) rfl rfl rfl rfl (.cons (.refl _) <| .cons (.nil 1) <| .cons (.refl _) <| .cons (Le.of_eq (by rw [valsTo_end hinv])) <| .cons (.refl _) <| .cons (Le.of_eq (by rw [valsTo_end hinv])) .nil)) rfl rfl (by decide) ?_
          refine TrOps.sem (OpSem.build rfl rfl pl28 zc28 rfl rfl) rfl rfl (by decide) ?_
          refine TrOps.sem (OpSem.move (.inr rfl) rfl) rfl rfl (by decide) ?_
          refine TrOps.storeb rfl rfl rfl rfl rfl rfl rfl vs28 (by first | decide | simp) ?_
          refine TrOps.nil ?_
          refine At.seq ?_
          refine Tr.ret ?_
          exact At.ret rfl (.tmp rfl <| .cellN rfl rfl vs28 <| .nil) rfl (Le.t (.cons (Le.i (by rw [addR_0 hF]; rfl)) <| .cons (Le.flt (by rw [hF])) <| .nil))

end Go.Proofs.Ytpnmkmgnkdmniaa
