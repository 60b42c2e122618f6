/- Walks, written by gen.py out of hints. -/
import Derived.Test.YtpnmkmgnkdmniaaTypes
import Derived.Test.YtpnmkmgnkdmniaaAbst
import Derived.Test.YtpnmkmgnkdmniaaLawProj
import Derived.Test.YtpnmkmgnkdmniaaEngH
set_option linter.unusedVariables false
set_option linter.unusedSimpArgs false
namespace Go.Proofs.Ytpnmkmgnkdmniaa
open Go.Eng
set_option maxRecDepth 10000
set_option maxHeartbeats 1000000

theorem strips_Steps_does (n : Int) (plan : List Int) : Does Try.prog false 100 [I (n), .d (ints plan)] (flt (stepsF n plan)) := by
  refine Does.of_body Try.func100 rfl rfl (by simp) Try.call100 (fun w0 O0 => ?_)
  refine Tr.lenLe (n := 1) rfl (fun len1 => ?_)
  refine Tr.seq ?_
  refine Tr.region ?_
  refine TrOps.semM (OpSem.alloc 4 rfl zc28 rfl) rfl rfl (by decide) ?_
  refine TrOps.nil ?_
  refine At.seq ?_
  refine Tr.seq ?_
  refine Tr.seq ?_
  refine Tr.region ?_
  refine TrOps.sem (OpSem.move (.inl rfl) rfl) rfl rfl (by decide) ?_
  refine TrOps.sem (OpSem.lenL rfl rfl es23) rfl rfl (by decide) ?_
  refine TrOps.sem (OpSem.bin rfl rfl rfl bgtr) rfl rfl (by decide) ?_
  refine TrOps.nil ?_
  refine At.seq ?_
  refine Tr.cond rfl (fun c9 => ?_) (fun c9 => ?_)
  · refine Tr.seq ?_
    refine Tr.region ?_
    refine TrOps.sem (OpSem.build rfl rfl pl28 zc28 rfl rfl) rfl rfl (by decide) ?_
    refine TrOps.storeb rfl rfl rfl rfl rfl rfl rfl vs28 (by first | decide | simp) ?_
    refine TrOps.nil ?_
    refine At.seq ?_
    refine Tr.ret ?_
    refine At.pass_ret ?_
    exact At.ret rfl (.cellN rfl rfl vs28 <| .nil) rfl (Le.flt (stepsF_2 (by simp at c9; omega)))
  · have h1 : ¬ 60 < plan.length := by simp at c9; omega
    refine Tr.skip ?_
    refine At.seq ?_
    refine Tr.seq ?_
    refine Tr.seq ?_
    refine Tr.region ?_
    refine TrOps.sem (OpSem.move (.inl rfl) rfl) rfl rfl (by decide) ?_
    refine TrOps.sem (OpSem.lenL rfl rfl es23) rfl rfl (by decide) ?_
    refine TrOps.sem (OpSem.move (.inl rfl) rfl) rfl rfl (by decide) ?_
    refine TrOps.nil ?_
    refine At.seq ?_
    refine Tr.block ?_
    refine Tr.loop (X := Nat) (fun k => k ≤ plan.length ∧ ∀ i : Nat, i < k → 0 ≤ nth plan i ∧ nth plan i < n) (fun k => [(0, I (n)), (4, .r 4 0), (11, .d (ints plan)), (12, I (plan.length)), (13, I (k))]) (fun k => [(4, .box [I (0), I (0)])]) (fun k => plan.length - k) 0 ⟨by omega, by simp⟩ ?_ ?_
    · exact .slot rfl (.refl _) <| .slot rfl (.refl _) <| .slot rfl (.refl _) <| .slot rfl (.refl _) <| .slot rfl (Le.of_eq (by simp)) <| .mem rfl <| .nil
    · rintro k ⟨hkl, hinv⟩
      refine Tr.seq ?_
      refine Tr.region ?_
      refine TrOps.sem (OpSem.bin rfl rfl rfl blss) rfl rfl (by decide) ?_
      refine TrOps.nil ?_
      refine At.seq ?_
      refine Tr.seq ?_
      refine Tr.cond rfl (fun c14 => ?_) (fun c14 => ?_)
      · have hk : k < plan.length := by simpa using c14
        refine Tr.skip ?_
        refine At.seq ?_
        refine Tr.seq ?_
        refine Tr.block ?_
        refine Tr.seq ?_
        refine Tr.region ?_
        refine TrOps.sem (OpSem.idxL rfl rfl rfl es23 (by omega) (by omega)) rfl rfl (by decide) ?_
        refine TrOps.sem (OpSem.load1 rfl rfl vs3 rfl) rfl rfl (by decide) ?_
        refine TrOps.sem (OpSem.move (.inr rfl) rfl) rfl rfl (by decide) ?_
        refine TrOps.nil ?_
        refine At.seq ?_
        refine Tr.seq ?_
        refine Tr.region ?_
        refine TrOps.sem (OpSem.move (.inl rfl) rfl) rfl rfl (by decide) ?_
        refine TrOps.sem (OpSem.bin rfl rfl rfl blss) rfl rfl (by decide) ?_
        refine TrOps.sem (OpSem.move (.inl rfl) rfl) rfl rfl (by decide) ?_
        refine TrOps.split (n := 19) rfl (fun c19 => ?_) (fun c19 => ?_)
        · refine TrOps.gF rfl rfl rfl rfl c19 rfl (by decide) ?_
          refine TrOps.gF rfl rfl rfl rfl c19 rfl (by decide) ?_
          refine TrOps.gF rfl rfl rfl rfl c19 rfl (by decide) ?_
          refine TrOps.sem (OpSem.pickT rfl rfl c19 rfl) rfl rfl (by decide) ?_
          refine TrOps.nil ?_
          refine At.seq ?_
          refine Tr.condT rfl rfl ?_
          refine Tr.seq ?_
          refine Tr.region ?_
          refine TrOps.sem (OpSem.build rfl rfl pl28 zc28 rfl rfl) rfl rfl (by decide) ?_
          refine TrOps.storeb rfl rfl rfl rfl rfl rfl rfl vs28 (by first | decide | simp) ?_
          refine TrOps.nil ?_
          refine At.seq ?_
          refine Tr.ret ?_
          refine At.block_ret ?_
          refine At.pass_ret ?_
          refine At.pass_ret ?_
          refine At.block_ret ?_
          refine At.pass_ret ?_
          exact At.ret rfl (.cellN rfl rfl vs28 <| .nil) rfl (Le.flt (stepsF_3 h1 (fun h => by have := h k hk; simp at c19; omega)))
        · refine TrOps.gT rfl rfl rfl rfl c19 ?_
          refine TrOps.sem (OpSem.move (.inl rfl) rfl) rfl rfl (by decide) ?_
          refine TrOps.gT rfl rfl rfl rfl c19 ?_
          refine TrOps.sem (OpSem.move (.inl rfl) rfl) rfl rfl (by decide) ?_
          refine TrOps.gT rfl rfl rfl rfl c19 ?_
          refine TrOps.sem (OpSem.bin rfl rfl rfl bgeq) rfl rfl (by decide) ?_
          refine TrOps.sem (OpSem.pickF rfl rfl c19 rfl) rfl rfl (by decide) ?_
          refine TrOps.nil ?_
          refine At.seq ?_
          refine Tr.cond rfl (fun c23 => ?_) (fun c23 => ?_)
          · refine Tr.seq ?_
            refine Tr.region ?_
            refine TrOps.sem (OpSem.build rfl rfl pl28 zc28 rfl rfl) rfl rfl (by decide) ?_
            refine TrOps.storeb rfl rfl rfl rfl rfl rfl rfl vs28 (by first | decide | simp) ?_
            refine TrOps.nil ?_
            refine At.seq ?_
            refine Tr.ret ?_
            refine At.block_ret ?_
            refine At.pass_ret ?_
            refine At.pass_ret ?_
            refine At.block_ret ?_
            refine At.pass_ret ?_
            exact At.ret rfl (.cellN rfl rfl vs28 <| .nil) rfl (Le.flt (stepsF_3 h1 (fun h => by have := h k hk; simp at c23; omega)))
          · have hb : 0 ≤ nth plan k ∧ nth plan k < n := by simp at c19 c23; omega
            refine Tr.skip ?_
            refine At.block_normal ?_
            refine At.seq ?_
            refine Tr.region ?_
            refine TrOps.sem (OpSem.bin rfl rfl rfl (badd (by omega) (by omega))) rfl rfl (by decide) ?_
            refine TrOps.sem (OpSem.move (.inl rfl) rfl) rfl rfl (by decide) ?_
            refine TrOps.nil ?_
            refine At.again (k + 1) ⟨by omega, all_succ hinv hb⟩ ?_ (by omega)
            exact .slot rfl (.refl _) <| .slot rfl (.refl _) <| .slot rfl (.refl _) <| .slot rfl (.refl _) <| .slot rfl (Le.of_eq (by simp)) <| .mem rfl <| .nil
      · have hk : k = plan.length := by simp at c14; omega
        refine Tr.exit ?_
        refine At.pass_exit ?_
        refine At.pass_exit ?_
        refine At.block_same ?_
        refine At.seq ?_
        refine Tr.seq ?_
        refine Tr.region ?_
        refine TrOps.sem (OpSem.build rfl rfl pl28 zc28 rfl rfl) rfl rfl (by decide) ?_
        refine TrOps.storeb rfl rfl rfl rfl rfl rfl rfl vs28 (by first | decide | simp) ?_
        refine TrOps.nil ?_
        refine At.seq ?_
        refine Tr.ret ?_
        exact At.ret rfl (.cellN rfl rfl vs28 <| .nil) rfl (Le.flt (by subst hk; exact stepsF_0 h1 hinv))

theorem multi_planFault_does (m : Multi) (plan : List Int) : Does Try.prog false 60 [multi m, .d (ints plan)] (flt (planF m plan)) := by
  refine Does.of_body Try.func60 rfl rfl (by simp) Try.call60 (fun w0 O0 => ?_)
  refine Tr.lenG (n := 0) (i := 0) rfl rfl (fun len0_0 => ?_)
  refine Tr.lenG (n := 0) (i := 1) rfl rfl (fun len0_1 => ?_)
  refine Tr.lenG (n := 0) (i := 2) rfl rfl (fun len0_2 => ?_)
  refine Tr.lenG (n := 0) (i := 3) rfl rfl (fun len0_3 => ?_)
  refine Tr.lenLe (n := 1) rfl (fun len1 => ?_)
  refine Tr.seq ?_
  refine Tr.region ?_
  refine TrOps.semM (OpSem.box 2 rfl rfl rfl rfl) rfl rfl (by decide) ?_
  refine TrOps.semM (OpSem.alloc 4 rfl zc28 rfl) rfl rfl (by decide) ?_
  refine TrOps.nil ?_
  refine At.seq ?_
  refine Tr.seq ?_
  refine Tr.seq ?_
  refine Tr.region ?_
  refine TrOps.sem (OpSem.loadbN rfl rfl rfl vs39 (by first | decide | simp)) rfl rfl (by decide) ?_
  refine TrOps.sem (OpSem.call0 (multi_Validate_does ..) rfl rfl rfl rfl (Les.refl _)) rfl rfl (by decide) ?_
  refine TrOps.semM (OpSem.alloc 5 rfl zc28 rfl) rfl rfl (by decide) ?_
  refine TrOps.storeb rfl rfl rfl rfl rfl rfl rfl vs28 (by first | decide | simp) ?_
  refine TrOps.nil ?_
  refine At.seq ?_
  refine Tr.seq ?_
  refine Tr.region ?_
  refine TrOps.sem (OpSem.loadbN rfl rfl rfl vs28 (by first | decide | simp)) rfl rfl (by decide) ?_
  refine TrOps.sem (OpSem.build rfl rfl pl28 zc28 rfl rfl) rfl rfl (by decide) ?_
  refine TrOps.sem (OpSem.neS2 rfl rfl rfl io28) rfl rfl (by decide) ?_
  refine TrOps.nil ?_
  refine At.seq ?_
  refine Tr.cond rfl (fun c10 => ?_) (fun c10 => ?_)
  · refine Tr.seq ?_
    refine Tr.region ?_
    refine TrOps.sem (OpSem.loadbN rfl rfl rfl vs28 (by first | decide | simp)) rfl rfl (by decide) ?_
    refine TrOps.storeb rfl rfl rfl rfl rfl rfl rfl vs28 (by first | decide | simp) ?_
    refine TrOps.nil ?_
    refine At.seq ?_
    refine Tr.ret ?_
    refine At.pass_ret ?_
    exact At.ret rfl (.cellN rfl rfl vs28 <| .nil) rfl (Le.flt (planF_1 (fun e => by simp [e] at c10)))
  · refine Tr.skip ?_
    refine At.seq ?_
    refine Tr.seq ?_
    refine Tr.region ?_
    refine TrOps.sem (OpSem.fieldr rfl rfl fo39_3) rfl rfl (by decide) ?_
    refine TrOps.sem (OpSem.loadb1 rfl rfl rfl vs37 rfl) rfl rfl (by decide) ?_
    refine TrOps.sem (OpSem.lenL rfl rfl es37) rfl rfl (by decide) ?_
    refine TrOps.sem (OpSem.move (.inl rfl) rfl) rfl rfl (by decide) ?_
    refine TrOps.sem (OpSem.call0 (strips_Steps_does m.ops.length plan) rfl rfl rfl rfl (Les.refl _)) rfl rfl (by decide) ?_
    refine TrOps.storeb rfl rfl rfl rfl rfl rfl rfl vs28 (by first | decide | simp) ?_
    refine TrOps.nil ?_
    refine At.seq ?_
    refine Tr.ret ?_
    exact At.ret rfl (.cellN rfl rfl vs28 <| .nil) rfl (Le.flt (planF_0 (pair0 (f := validate m) (by simpa using c10))))

theorem multi_Solves_does (m : Multi) (plan : List Int) : Does Try.prog false 21 [multi m, .d (ints plan)] (.t [Bo (solvesR m plan), flt (planF m plan)]) := by
  refine Does.of_body Try.func21 rfl rfl (by simp) Try.call21 (fun w0 O0 => ?_)
  refine Tr.lenG (n := 0) (i := 0) rfl rfl (fun len0_0 => ?_)
  refine Tr.lenG (n := 0) (i := 1) rfl rfl (fun len0_1 => ?_)
  refine Tr.lenG (n := 0) (i := 2) rfl rfl (fun len0_2 => ?_)
  refine Tr.lenG (n := 0) (i := 3) rfl rfl (fun len0_3 => ?_)
  refine Tr.lenLe (n := 1) rfl (fun len1 => ?_)
  refine Tr.seq ?_
  refine Tr.region ?_
  refine TrOps.semM (OpSem.box 2 rfl rfl rfl rfl) rfl rfl (by decide) ?_
  refine TrOps.sem (OpSem.move (.inr rfl) rfl) rfl rfl (by decide) ?_
  refine TrOps.semM (OpSem.alloc 5 rfl zc28 rfl) rfl rfl (by decide) ?_
  refine TrOps.nil ?_
  refine At.seq ?_
  refine Tr.seq ?_
  refine Tr.seq ?_
  refine Tr.region ?_
  refine TrOps.sem (OpSem.loadbN rfl rfl rfl vs39 (by first | decide | simp)) rfl rfl (by decide) ?_
  refine TrOps.sem (OpSem.move (.inl rfl) rfl) rfl rfl (by decide) ?_
  refine TrOps.sem (OpSem.call0 (multi_planFault_does ..) rfl rfl rfl rfl (Les.refl _)) rfl rfl (by decide) ?_
  refine TrOps.semM (OpSem.alloc 6 rfl zc28 rfl) rfl rfl (by decide) ?_
  refine TrOps.storeb rfl rfl rfl rfl rfl rfl rfl vs28 (by first | decide | simp) ?_
  refine TrOps.nil ?_
  refine At.seq ?_
  refine Tr.seq ?_
  refine Tr.region ?_
  refine TrOps.sem (OpSem.loadbN rfl rfl rfl vs28 (by first | decide | simp)) rfl rfl (by decide) ?_
  refine TrOps.sem (OpSem.build rfl rfl pl28 zc28 rfl rfl) rfl rfl (by decide) ?_
  refine TrOps.sem (OpSem.neS2 rfl rfl rfl io28) rfl rfl (by decide) ?_
  refine TrOps.nil ?_
  refine At.seq ?_
  refine Tr.cond rfl (fun c15 => ?_) (fun c15 => ?_)
  · have h1 : planF m plan ≠ (0, 0) := fun h => by simp [h] at c15
    refine Tr.seq ?_
    refine PC.start [] ?_
    refine PC.sem (OpSem.loadbN rfl rfl rfl vs28 (by first | decide | simp)) rfl rfl ?_
    refine PC.sem (OpSem.move (.inr rfl) rfl) rfl rfl ?_
    refine PC.done0 mixed (by kernel_rfl) (by kernel_rfl) (by kernel_rfl) (by kernel_rfl) (by kernel_rfl) ?_
    refine TrOps.storeb rfl rfl rfl rfl rfl rfl rfl vs28 (by first | decide | simp) ?_
    refine TrOps.nil ?_
    refine At.seq ?_
    refine Tr.ret ?_
    refine At.pass_ret ?_
    exact At.ret rfl (.tmp rfl <| .cellN rfl rfl vs28 <| .nil) rfl (Le.t (.cons (Le.bo (by rw [solvesR_1 h1])) <| .cons (.refl _) <| .nil))
  · have h1 : planF m plan = (0, 0) := pair0 (by simpa using c15)
    obtain ⟨hv, hpl, hsp, _⟩ := planF_ok (m := m) (plan := plan) (by rw [h1])
    refine Tr.skip ?_
    refine At.seq ?_
    refine Tr.seq ?_
    refine Tr.region ?_
    refine TrOps.sem (OpSem.fieldr rfl rfl fo39_1) rfl rfl (by decide) ?_
    refine TrOps.sem (OpSem.loadb1 rfl rfl rfl vs23 rfl) rfl rfl (by decide) ?_
    refine TrOps.sem (OpSem.move (.inr rfl) rfl) rfl rfl (by decide) ?_
    refine TrOps.nil ?_
    refine At.seq ?_
    refine Tr.seq ?_
    refine Tr.seq ?_
    refine Tr.region ?_
    refine TrOps.sem (OpSem.move (.inl rfl) rfl) rfl rfl (by decide) ?_
    refine TrOps.sem (OpSem.lenL rfl rfl es23) rfl rfl (by decide) ?_
    refine TrOps.sem (OpSem.move (.inl rfl) rfl) rfl rfl (by decide) ?_
    refine TrOps.nil ?_
    refine At.seq ?_
    refine Tr.block ?_
    refine Tr.loop (X := Nat) (fun k => k ≤ plan.length ∧ okTo m plan k) (fun k => [(2, .r 2 0), (5, .r 5 0), (7, .d (ints (itS m plan k))), (19, .d (ints plan)), (20, I (plan.length)), (21, I (k))]) (fun k => [(2, .box [.d (ints m.sizes), .d (ints m.init), .d (asgs m.goal), .d (opsD m.ops)]), (5, .box [I (0), I (0)])]) (fun k => plan.length - k) 0 ⟨by omega, fun i hi => by omega⟩ ?_ ?_
    · exact .slot rfl (.refl _) <| .slot rfl (.refl _) <| .slot rfl (Le.of_eq rfl) <| .slot rfl (.refl _) <| .slot rfl (.refl _) <| .slot rfl (Le.of_eq (by simp)) <| .mem rfl <| .mem rfl <| .nil
    · rintro k ⟨hkl, hinv⟩
      refine Tr.seq ?_
      refine Tr.region ?_
      refine TrOps.sem (OpSem.bin rfl rfl rfl blss) rfl rfl (by decide) ?_
      refine TrOps.nil ?_
      refine At.seq ?_
      refine Tr.seq ?_
      refine Tr.cond rfl (fun c22 => ?_) (fun c22 => ?_)
      · have hk : k < plan.length := by simpa using c22
        have hb := hsp k hk
        have ho := nth_op hv hb.1 hb.2
        have hst := itS_state hv hsp (k := k) (by omega)
        have hsl := hst.1
        refine Tr.skip ?_
        refine At.seq ?_
        refine Tr.seq ?_
        refine Tr.block ?_
        refine Tr.seq ?_
        refine Tr.region ?_
        refine TrOps.sem (OpSem.idxL rfl rfl rfl es23 (by omega) (by omega)) rfl rfl (by decide) ?_
        refine TrOps.sem (OpSem.load1 rfl rfl vs3 rfl) rfl rfl (by decide) ?_
        refine TrOps.sem (OpSem.move (.inr rfl) rfl) rfl rfl (by decide) ?_
        refine TrOps.nil ?_
        refine At.seq ?_
        refine Tr.seq ?_
        refine Tr.seq ?_
        refine Tr.region ?_
        refine TrOps.sem (OpSem.move (.inl rfl) rfl) rfl rfl (by decide) ?_
        refine TrOps.sem (OpSem.fieldr rfl rfl fo39_3) rfl rfl (by decide) ?_
        refine TrOps.sem (OpSem.loadb1 rfl rfl rfl vs37 rfl) rfl rfl (by decide) ?_
        refine TrOps.sem (OpSem.move (.inl rfl) rfl) rfl rfl (by decide) ?_
        refine TrOps.sem (OpSem.idxL rfl rfl rfl es37 (by omega) (by omega)) rfl rfl (by decide) ?_
        refine TrOps.sem (OpSem.fieldp rfl rfl fo86_0) rfl rfl (by decide) ?_
        refine TrOps.sem (OpSem.load1 rfl rfl vs36 rfl) rfl rfl (by decide) ?_
        refine TrOps.sem (OpSem.call0 (multi_Holds_does (itS m plan k) _ (fun x hx => ⟨(asgs_mem ho.1 hx).1, by have := (asgs_mem ho.1 hx).2.1; omega⟩)) rfl rfl rfl rfl (Les.refl _)) rfl rfl (by decide) ?_
        refine TrOps.sem (OpSem.not rfl rfl) rfl rfl (by decide) ?_
        refine TrOps.nil ?_
        refine At.seq ?_
        refine Tr.cond rfl (fun c33 => ?_) (fun c33 => ?_)
        · refine Tr.seq ?_
          refine Tr.region ?_
          refine TrOps.sem (OpSem.build rfl rfl pl28 zc28 rfl rfl) rfl rfl (by decide) ?_
          refine TrOps.sem (OpSem.move (.inr rfl) rfl) rfl rfl (by decide) ?_
          refine TrOps.storeb rfl rfl rfl rfl rfl rfl rfl vs28 (by first | decide | simp) ?_
          refine TrOps.nil ?_
          refine At.seq ?_
          refine Tr.ret ?_
          refine At.pass_ret ?_
          refine At.block_ret ?_
          refine At.pass_ret ?_
          refine At.pass_ret ?_
          refine At.block_ret ?_
          refine At.pass_ret ?_
          exact At.ret rfl (.tmp rfl <| .cellN rfl rfl vs28 <| .nil) rfl (Le.t (.cons (Le.bo (by rw [solvesR_0 h1, solvesB_1 hk (by simpa using c33)])) <| .cons (Le.flt (by rw [h1])) <| .nil))
        · have hbb : holds (itS m plan k) (nth m.ops (nth plan k)).pre = true := by simpa using c33
          refine Tr.skip ?_
          refine At.seq ?_
          refine Tr.region ?_
          refine TrOps.sem (OpSem.loadbN rfl rfl rfl vs39 (by first | decide | simp)) rfl rfl (by decide) ?_
          refine TrOps.sem (OpSem.move (.inl rfl) rfl) rfl rfl (by decide) ?_
          refine TrOps.sem (OpSem.move (.inl rfl) rfl) rfl rfl (by decide) ?_
          refine TrOps.sem (OpSem.call0 (multi_Next_does m (itS m plan k) (nth plan k) hv hst hb.1 hb.2).fresh rfl rfl rfl rfl (Les.refl _)) rfl rfl (by decide) ?_
          refine TrOps.sem (OpSem.move (.inr rfl) rfl) rfl rfl (by decide) ?_
          refine TrOps.nil ?_
          refine At.block_normal ?_
          refine At.seq ?_
          refine Tr.region ?_
          refine TrOps.sem (OpSem.bin rfl rfl rfl (badd (by omega) (by omega))) rfl rfl (by decide) ?_
          refine TrOps.sem (OpSem.move (.inl rfl) rfl) rfl rfl (by decide) ?_
          refine TrOps.nil ?_
          refine At.again (k + 1) ⟨by omega, all_succ hinv hbb⟩ ?_ (by omega)
          exact .slot rfl (.refl _) <| .slot rfl (.refl _) <| .slot rfl (Le.of_eq rfl) <| .slot rfl (.refl _) <| .slot rfl (.refl _) <| .slot rfl (Le.of_eq (by simp)) <| .mem rfl <| .mem rfl <| .nil
      · have hk : k = plan.length := by simp at c22; omega
        have hst := itS_state hv hsp (k := k) (by omega)
        have hsl := hst.1
        refine Tr.exit ?_
        refine At.pass_exit ?_
        refine At.pass_exit ?_
        refine At.block_same ?_
        refine At.seq ?_
        refine Tr.seq ?_
        refine Tr.region ?_
        refine TrOps.sem (OpSem.move (.inl rfl) rfl) rfl rfl (by decide) ?_
        refine TrOps.sem (OpSem.fieldr rfl rfl fo39_2) rfl rfl (by decide) ?_
        refine TrOps.sem (OpSem.loadb1 rfl rfl rfl vs36 rfl) rfl rfl (by decide) ?_
        refine TrOps.sem (OpSem.call0 (multi_Holds_does (itS m plan k) _ (fun x hx => ⟨(asgs_mem hv.goal hx).1, by have := (asgs_mem hv.goal hx).2.1; omega⟩)) rfl rfl rfl rfl (Les.refl _)) rfl rfl (by decide) ?_
        refine TrOps.sem (OpSem.build rfl rfl pl28 zc28 rfl rfl) rfl rfl (by decide) ?_
        refine TrOps.sem (OpSem.move (.inr rfl) rfl) rfl rfl (by decide) ?_
        refine TrOps.storeb rfl rfl rfl rfl rfl rfl rfl vs28 (by first | decide | simp) ?_
        refine TrOps.nil ?_
        refine At.seq ?_
        refine Tr.ret ?_
        exact At.ret rfl (.tmp rfl <| .cellN rfl rfl vs28 <| .nil) rfl (Le.t (.cons (Le.bo (by subst hk; rw [solvesR_0 h1, solvesB_2 hinv])) <| .cons (Le.flt (by rw [h1])) <| .nil))

theorem law_ProjectPlansRemain_does (m : Multi) (vars plan : List Int) : Does Try.prog false 4 [multi m, .d (ints vars), .d (ints plan)] (Bo true) := by
  refine Does.of_body Try.func4 rfl rfl (by simp) Try.call4 (fun w0 O0 => ?_)
  refine Tr.lenG (n := 0) (i := 0) rfl rfl (fun len0_0 => ?_)
  refine Tr.lenG (n := 0) (i := 1) rfl rfl (fun len0_1 => ?_)
  refine Tr.lenG (n := 0) (i := 2) rfl rfl (fun len0_2 => ?_)
  refine Tr.lenG (n := 0) (i := 3) rfl rfl (fun len0_3 => ?_)
  refine Tr.lenLe (n := 1) rfl (fun len1 => ?_)
  refine Tr.lenLe (n := 2) rfl (fun len2 => ?_)
  refine Tr.seq ?_
  refine Tr.region ?_
  refine TrOps.semM (OpSem.box 3 rfl rfl rfl rfl) rfl rfl (by decide) ?_
  refine TrOps.sem (OpSem.move (.inr rfl) rfl) rfl rfl (by decide) ?_
  refine TrOps.nil ?_
  refine At.seq ?_
  refine Tr.seq ?_
  refine Tr.seq ?_
  refine Tr.region ?_
  refine TrOps.sem (OpSem.call0 (law_projectExample_does) rfl rfl rfl rfl (Les.refl _)) rfl rfl (by decide) ?_
  refine TrOps.sem (OpSem.not rfl rfl) rfl rfl (by decide) ?_
  refine TrOps.nil ?_
  refine At.seq ?_
  refine Tr.condF rfl rfl ?_
  refine Tr.skip ?_
  refine At.seq ?_
  refine Tr.seq ?_
  refine Tr.region ?_
  refine TrOps.sem (OpSem.loadbN rfl rfl rfl vs39 (by first | decide | simp)) rfl rfl (by decide) ?_
  refine TrOps.sem (OpSem.move (.inl rfl) rfl) rfl rfl (by decide) ?_
  refine TrOps.sem (OpSem.call0 (project_Project_does ..) rfl rfl rfl rfl (Les.refl _)) rfl rfl (by decide) ?_
  refine TrOps.sem (OpSem.move (.inl rfl) rfl) rfl rfl (by decide) ?_
  refine TrOps.sem (OpSem.extract rfl rfl rfl) rfl rfl (by decide) ?_
  refine TrOps.sem (OpSem.extract rfl rfl rfl) rfl rfl (by decide) ?_
  refine TrOps.semM (OpSem.alloc 7 rfl zc39 rfl) rfl rfl (by decide) ?_
  refine TrOps.semM (OpSem.alloc 8 rfl zc28 rfl) rfl rfl (by decide) ?_
  refine TrOps.storeb rfl rfl rfl rfl rfl rfl rfl vs39 (by first | decide | simp) ?_
  refine TrOps.storeb rfl rfl rfl rfl rfl rfl rfl vs28 (by first | decide | simp) ?_
  refine TrOps.nil ?_
  refine At.seq ?_
  refine Tr.seq ?_
  refine Tr.region ?_
  refine TrOps.sem (OpSem.loadbN rfl rfl rfl vs39 (by first | decide | simp)) rfl rfl (by decide) ?_
  refine TrOps.sem (OpSem.move (.inl rfl) rfl) rfl rfl (by decide) ?_
  refine TrOps.sem (OpSem.call0 (multi_Solves_does ..) rfl rfl rfl rfl (Les.refl _)) rfl rfl (by decide) ?_
  refine TrOps.sem (OpSem.move (.inl rfl) rfl) rfl rfl (by decide) ?_
  refine TrOps.sem (OpSem.extract rfl rfl rfl) rfl rfl (by decide) ?_
  refine TrOps.sem (OpSem.extract rfl rfl rfl) rfl rfl (by decide) ?_
  refine TrOps.semM (OpSem.alloc 10 rfl zc28 rfl) rfl rfl (by decide) ?_
  refine TrOps.sem (OpSem.move (.inr rfl) rfl) rfl rfl (by decide) ?_
  refine TrOps.storeb rfl rfl rfl rfl rfl rfl rfl vs28 (by first | decide | simp) ?_
  refine TrOps.nil ?_
  refine At.seq ?_
  refine Tr.seq ?_
  refine Tr.seq ?_
  refine Tr.region ?_
  refine TrOps.sem (OpSem.fieldr rfl rfl fo28_0) rfl rfl (by decide) ?_
  refine TrOps.sem (OpSem.loadb1 rfl rfl rfl vs3 rfl) rfl rfl (by decide) ?_
  refine TrOps.sem (OpSem.bin rfl rfl rfl bneq) rfl rfl (by decide) ?_
  refine TrOps.sem (OpSem.move (.inl rfl) rfl) rfl rfl (by decide) ?_
  refine TrOps.split (n := 30) rfl (fun c30 => ?_) (fun c30 => ?_)
  · refine TrOps.gF rfl rfl rfl rfl c30 rfl (by decide) ?_
    refine TrOps.gF rfl rfl rfl rfl c30 rfl (by decide) ?_
    refine TrOps.gF rfl rfl rfl rfl c30 rfl (by decide) ?_
    refine TrOps.sem (OpSem.pickT rfl rfl c30 rfl) rfl rfl (by decide) ?_
    refine TrOps.nil ?_
    refine At.seq ?_
    refine Tr.condT rfl rfl ?_
    refine Tr.seq ?_
    refine Tr.region ?_
    refine TrOps.sem (OpSem.fieldr rfl rfl fo28_0) rfl rfl (by decide) ?_
    refine TrOps.sem (OpSem.loadb1 rfl rfl rfl vs3 rfl) rfl rfl (by decide) ?_
    refine TrOps.sem (OpSem.bin rfl rfl rfl beql) rfl rfl (by decide) ?_
    refine TrOps.sem (OpSem.move (.inl rfl) rfl) rfl rfl (by decide) ?_
    refine TrOps.split (n := 38) rfl (fun c38 => ?_) (fun c38 => ?_)
    · refine TrOps.gF rfl rfl rfl rfl c38 rfl (by decide) ?_
      refine TrOps.gF rfl rfl rfl rfl c38 rfl (by decide) ?_
      refine TrOps.gF rfl rfl rfl rfl c38 rfl (by decide) ?_
      refine TrOps.gF rfl rfl rfl rfl c38 rfl (by decide) ?_
      refine TrOps.sem (OpSem.pickT rfl rfl c38 rfl) rfl rfl (by decide) ?_
      refine TrOps.sem (OpSem.move (.inr rfl) rfl) rfl rfl (by decide) ?_
      refine TrOps.nil ?_
      refine At.seq ?_
      refine Tr.ret ?_
      refine At.pass_ret ?_
      exact At.ret rfl (.tmp rfl <| .nil) rfl (Le.bo (by first | rfl | (have hne : (projFault m vars).1 ≠ 0 := (by simpa using c38); have hne2 : projFault m vars ≠ (0, 0) := fun e => hne (by rw [e]); rw [projR_1 hne2]; rfl) | (simpa using c56) | (rw [solvesR_0 hpf, projR_0 h0]; exact solves_proj hv hp hsp (by rw [← solvesR_0 hpz]; exact hyes))))
    · refine TrOps.gT rfl rfl rfl rfl c38 ?_
      refine TrOps.sem (OpSem.fieldr rfl rfl fo39_0) rfl rfl (by decide) ?_
      refine TrOps.gT rfl rfl rfl rfl c38 ?_
      refine TrOps.sem (OpSem.loadb1 rfl rfl rfl vs23 rfl) rfl rfl (by decide) ?_
      refine TrOps.gT rfl rfl rfl rfl c38 ?_
      refine TrOps.sem (OpSem.lenL rfl rfl es23) rfl rfl (by decide) ?_
      refine TrOps.gT rfl rfl rfl rfl c38 ?_
      refine TrOps.sem (OpSem.bin rfl rfl rfl beql) rfl rfl (by decide) ?_
      refine TrOps.sem (OpSem.pickF rfl rfl c38 rfl) rfl rfl (by decide) ?_
      refine TrOps.sem (OpSem.move (.inr rfl) rfl) rfl rfl (by decide) ?_
      refine TrOps.nil ?_
      refine At.seq ?_
      refine Tr.ret ?_
      refine At.pass_ret ?_
      exact At.ret rfl (.tmp rfl <| .nil) rfl (Le.bo (by first | rfl | (have hne : (projFault m vars).1 ≠ 0 := (by simpa using c38); have hne2 : projFault m vars ≠ (0, 0) := fun e => hne (by rw [e]); rw [projR_1 hne2]; rfl) | (simpa using c56) | (rw [solvesR_0 hpf, projR_0 h0]; exact solves_proj hv hp hsp (by rw [← solvesR_0 hpz]; exact hyes))))
  · have h0 : projFault m vars = (0, 0) := projFault_code (by simpa using c30)
    obtain ⟨hv, hne, hp, _⟩ := projFault_ok (m := m) (vars := vars) (by rw [h0])
    refine TrOps.gT rfl rfl rfl rfl c30 ?_
    refine TrOps.sem (OpSem.fieldr rfl rfl fo28_0) rfl rfl (by decide) ?_
    refine TrOps.gT rfl rfl rfl rfl c30 ?_
    refine TrOps.sem (OpSem.loadb1 rfl rfl rfl vs3 rfl) rfl rfl (by decide) ?_
    refine TrOps.gT rfl rfl rfl rfl c30 ?_
    refine TrOps.sem (OpSem.bin rfl rfl rfl bneq) rfl rfl (by decide) ?_
    refine TrOps.sem (OpSem.pickF rfl rfl c30 rfl) rfl rfl (by decide) ?_
    refine TrOps.nil ?_
    refine At.seq ?_
    refine Tr.cond rfl (fun c34 => ?_) (fun c34 => ?_)
    · refine Tr.seq ?_
      refine Tr.region ?_
      refine TrOps.sem (OpSem.fieldr rfl rfl fo28_0) rfl rfl (by decide) ?_
      refine TrOps.sem (OpSem.loadb1 rfl rfl rfl vs3 rfl) rfl rfl (by decide) ?_
      refine TrOps.sem (OpSem.bin rfl rfl rfl beql) rfl rfl (by decide) ?_
      refine TrOps.sem (OpSem.move (.inl rfl) rfl) rfl rfl (by decide) ?_
      refine TrOps.split (n := 38) rfl (fun c38 => ?_) (fun c38 => ?_)
      · refine TrOps.gF rfl rfl rfl rfl c38 rfl (by decide) ?_
        refine TrOps.gF rfl rfl rfl rfl c38 rfl (by decide) ?_
        refine TrOps.gF rfl rfl rfl rfl c38 rfl (by decide) ?_
        refine TrOps.gF rfl rfl rfl rfl c38 rfl (by decide) ?_
        refine TrOps.sem (OpSem.pickT rfl rfl c38 rfl) rfl rfl (by decide) ?_
        refine TrOps.sem (OpSem.move (.inr rfl) rfl) rfl rfl (by decide) ?_
        refine TrOps.nil ?_
        refine At.seq ?_
        refine Tr.ret ?_
        refine At.pass_ret ?_
        exact At.ret rfl (.tmp rfl <| .nil) rfl (Le.bo (by first | rfl | (have hne : (projFault m vars).1 ≠ 0 := (by simpa using c38); have hne2 : projFault m vars ≠ (0, 0) := fun e => hne (by rw [e]); rw [projR_1 hne2]; rfl) | (simpa using c56) | (rw [solvesR_0 hpf, projR_0 h0]; exact solves_proj hv hp hsp (by rw [← solvesR_0 hpz]; exact hyes))))
      · refine TrOps.gT rfl rfl rfl rfl c38 ?_
        refine TrOps.sem (OpSem.fieldr rfl rfl fo39_0) rfl rfl (by decide) ?_
        refine TrOps.gT rfl rfl rfl rfl c38 ?_
        refine TrOps.sem (OpSem.loadb1 rfl rfl rfl vs23 rfl) rfl rfl (by decide) ?_
        refine TrOps.gT rfl rfl rfl rfl c38 ?_
        refine TrOps.sem (OpSem.lenL rfl rfl es23) rfl rfl (by decide) ?_
        refine TrOps.gT rfl rfl rfl rfl c38 ?_
        refine TrOps.sem (OpSem.bin rfl rfl rfl beql) rfl rfl (by decide) ?_
        refine TrOps.sem (OpSem.pickF rfl rfl c38 rfl) rfl rfl (by decide) ?_
        refine TrOps.sem (OpSem.move (.inr rfl) rfl) rfl rfl (by decide) ?_
        refine TrOps.nil ?_
        refine At.seq ?_
        refine Tr.ret ?_
        refine At.pass_ret ?_
        exact At.ret rfl (.tmp rfl <| .nil) rfl (Le.bo (by first | rfl | (have hne : (projFault m vars).1 ≠ 0 := (by simpa using c38); have hne2 : projFault m vars ≠ (0, 0) := fun e => hne (by rw [e]); rw [projR_1 hne2]; rfl) | (simpa using c56) | (rw [solvesR_0 hpf, projR_0 h0]; exact solves_proj hv hp hsp (by rw [← solvesR_0 hpz]; exact hyes))))
    · refine Tr.skip ?_
      refine At.seq ?_
      refine Tr.seq ?_
      obtain ⟨_, hpl, hsp, hpz⟩ := planF_ok (m := m) (plan := plan) (by simpa using c34)
      have hpf : planF (projR m vars) plan = (0, 0) := by rw [projR_0 h0]; exact planF_proj hv hne hp hpl hsp
      refine Tr.region ?_
      refine TrOps.sem (OpSem.loadbN rfl rfl rfl vs39 (by first | decide | simp)) rfl rfl (by decide) ?_
      refine TrOps.sem (OpSem.move (.inl rfl) rfl) rfl rfl (by decide) ?_
      refine TrOps.sem (OpSem.call0 (multi_Solves_does (projR m vars) plan) rfl rfl rfl rfl (Les.refl _)) rfl rfl (by decide) ?_
      refine TrOps.sem (OpSem.move (.inl rfl) rfl) rfl rfl (by decide) ?_
      refine TrOps.sem (OpSem.extract rfl rfl rfl) rfl rfl (by decide) ?_
      refine TrOps.sem (OpSem.extract rfl rfl rfl) rfl rfl (by decide) ?_
      refine TrOps.semM (OpSem.alloc 12 rfl zc28 rfl) rfl rfl (by decide) ?_
      refine TrOps.sem (OpSem.move (.inr rfl) rfl) rfl rfl (by decide) ?_
      refine TrOps.storeb rfl rfl rfl rfl rfl rfl rfl vs28 (by first | decide | simp) ?_
      refine TrOps.nil ?_
      refine At.seq ?_
      refine Tr.seq ?_
      refine Tr.region ?_
      refine TrOps.sem (OpSem.fieldr rfl rfl fo28_0) rfl rfl (by decide) ?_
      refine TrOps.sem (OpSem.loadb1 rfl rfl rfl vs3 rfl) rfl rfl (by decide) ?_
      refine TrOps.sem (OpSem.bin rfl rfl rfl beql) rfl rfl (by decide) ?_
      refine TrOps.sem (OpSem.move (.inl rfl) rfl) rfl rfl (by decide) ?_
      refine TrOps.gT rfl rfl rfl rfl (by rw [hpf]; rfl) ?_
      refine TrOps.sem (OpSem.move (.inl rfl) rfl) rfl rfl (by decide) ?_
      refine TrOps.gT rfl rfl rfl rfl (by rw [hpf]; rfl) ?_
      refine TrOps.sem (OpSem.not rfl rfl) rfl rfl (by decide) ?_
      refine TrOps.gT rfl rfl rfl rfl (by rw [hpf]; rfl) ?_
      refine TrOps.sem (OpSem.move (.inl rfl) rfl) rfl rfl (by decide) ?_
      refine TrOps.split (n := 56) rfl (fun c56 => ?_) (fun c56 => ?_)
      · refine TrOps.gF rfl rfl rfl rfl c56 rfl (by decide) ?_
        refine TrOps.gT rfl rfl rfl rfl (by rw [hpf]; rfl) ?_
        refine TrOps.sem (OpSem.pickT rfl rfl c56 rfl) rfl rfl (by decide) ?_
        refine TrOps.sem (OpSem.pickT rfl rfl (by rw [hpf]; rfl) rfl) rfl rfl (by decide) ?_
        refine TrOps.sem (OpSem.move (.inr rfl) rfl) rfl rfl (by decide) ?_
        refine TrOps.nil ?_
        refine At.seq ?_
        refine Tr.ret ?_
        exact At.ret rfl (.tmp rfl <| .nil) rfl (Le.bo (by first | rfl | (have hne : (projFault m vars).1 ≠ 0 := (by simpa using c38); have hne2 : projFault m vars ≠ (0, 0) := fun e => hne (by rw [e]); rw [projR_1 hne2]; rfl) | (simpa using c56) | (rw [solvesR_0 hpf, projR_0 h0]; exact solves_proj hv hp hsp (by rw [← solvesR_0 hpz]; exact hyes))))
      · have hyes : solvesR m plan = true := by simpa using c56
        refine TrOps.gT rfl rfl rfl rfl c56 ?_
        refine TrOps.sem (OpSem.move (.inl rfl) rfl) rfl rfl (by decide) ?_
        refine TrOps.gT rfl rfl rfl rfl (by rw [hpf]; rfl) ?_
        refine TrOps.sem (OpSem.pickF rfl rfl c56 rfl) rfl rfl (by decide) ?_
        refine TrOps.sem (OpSem.pickT rfl rfl (by rw [hpf]; rfl) rfl) rfl rfl (by decide) ?_
        refine TrOps.sem (OpSem.move (.inr rfl) rfl) rfl rfl (by decide) ?_
        refine TrOps.nil ?_
        refine At.seq ?_
        refine Tr.ret ?_
        exact At.ret rfl (.tmp rfl <| .nil) rfl (Le.bo (by first | rfl | (have hne : (projFault m vars).1 ≠ 0 := (by simpa using c38); have hne2 : projFault m vars ≠ (0, 0) := fun e => hne (by rw [e]); rw [projR_1 hne2]; rfl) | (simpa using c56) | (rw [solvesR_0 hpf, projR_0 h0]; exact solves_proj hv hp hsp (by rw [← solvesR_0 hpz]; exact hyes))))

theorem law_AbstractionTriangle_does (a : Abs) (c : List Int) (hr : -9223372036854775808 ≤ a.states ∧ a.states ≤ 9223372036854775807) : Does Try.prog false 3 [absS a, .d (ints c)] (Bo true) := by
  refine Does.of_body Try.func3 rfl rfl (by simp) Try.call3 (fun w0 O0 => ?_)
  refine Tr.lenG (n := 0) (i := 2) rfl rfl (fun len0_2 => ?_)
  refine Tr.lenG (n := 0) (i := 4) rfl rfl (fun len0_4 => ?_)
  refine Tr.lenLe (n := 1) rfl (fun len1 => ?_)
  refine Tr.seq ?_
  refine Tr.region ?_
  refine TrOps.semM (OpSem.box 2 rfl rfl rfl rfl) rfl rfl (by decide) ?_
  refine TrOps.sem (OpSem.move (.inr rfl) rfl) rfl rfl (by decide) ?_
  refine TrOps.nil ?_
  refine At.seq ?_
  refine Tr.seq ?_
  refine Tr.seq ?_
  refine Tr.region ?_
  refine TrOps.sem (OpSem.call0 (law_abstractionExample_does) rfl rfl rfl rfl (Les.refl _)) rfl rfl (by decide) ?_
  refine TrOps.sem (OpSem.not rfl rfl) rfl rfl (by decide) ?_
  refine TrOps.nil ?_
  refine At.seq ?_
  refine Tr.condF rfl rfl ?_
  refine Tr.skip ?_
  refine At.seq ?_
  refine Tr.seq ?_
  refine Tr.region ?_
  refine TrOps.sem (OpSem.loadbN rfl rfl rfl vs25 (by first | decide | simp)) rfl rfl (by decide) ?_
  refine TrOps.sem (OpSem.move (.inl rfl) rfl) rfl rfl (by decide) ?_
  refine TrOps.sem (OpSem.call0 (abstraction_Distances_does a c hr) rfl rfl rfl rfl (Les.refl _)) rfl rfl (by decide) ?_
  refine TrOps.sem (OpSem.move (.inl rfl) rfl) rfl rfl (by decide) ?_
  refine TrOps.sem (OpSem.extract rfl rfl rfl) rfl rfl (by decide) ?_
  refine TrOps.sem (OpSem.extract rfl rfl rfl) rfl rfl (by decide) ?_
  refine TrOps.semM (OpSem.alloc 6 rfl zc28 rfl) rfl rfl (by decide) ?_
  refine TrOps.sem (OpSem.move (.inr rfl) rfl) rfl rfl (by decide) ?_
  refine TrOps.storeb rfl rfl rfl rfl rfl rfl rfl vs28 (by first | decide | simp) ?_
  refine TrOps.nil ?_
  refine At.seq ?_
  refine Tr.seq ?_
  refine Tr.seq ?_
  refine Tr.region ?_
  refine TrOps.sem (OpSem.fieldr rfl rfl fo28_0) rfl rfl (by decide) ?_
  refine TrOps.sem (OpSem.loadb1 rfl rfl rfl vs3 rfl) rfl rfl (by decide) ?_
  refine TrOps.sem (OpSem.bin rfl rfl rfl bneq) rfl rfl (by decide) ?_
  refine TrOps.sem (OpSem.move (.inl rfl) rfl) rfl rfl (by decide) ?_
  refine TrOps.split (n := 24) rfl (fun c24 => ?_) (fun c24 => ?_)
  · have h1 : adF a c ≠ (0, 0) := fun e => by rw [e] at c24; simp at c24
    refine TrOps.gF rfl rfl rfl rfl c24 rfl (by decide) ?_
    refine TrOps.gF rfl rfl rfl rfl c24 rfl (by decide) ?_
    refine TrOps.gF rfl rfl rfl rfl c24 rfl (by decide) ?_
    refine TrOps.gF rfl rfl rfl rfl c24 rfl (by decide) ?_
    refine TrOps.gF rfl rfl rfl rfl c24 rfl (by decide) ?_
    refine TrOps.sem (OpSem.pickT rfl rfl c24 rfl) rfl rfl (by decide) ?_
    refine TrOps.sem (OpSem.move (.inl rfl) rfl) rfl rfl (by decide) ?_
    refine TrOps.gF rfl rfl rfl rfl rfl rfl (by decide) ?_
    refine TrOps.gF rfl rfl rfl rfl rfl rfl (by decide) ?_
    refine TrOps.gF rfl rfl rfl rfl rfl rfl (by decide) ?_
    refine TrOps.gF rfl rfl rfl rfl rfl rfl (by decide) ?_
    refine TrOps.sem (OpSem.pickT rfl rfl rfl rfl) rfl rfl (by decide) ?_
    refine TrOps.sem (OpSem.move (.inl rfl) rfl) rfl rfl (by decide) ?_
    refine TrOps.gF rfl rfl rfl rfl rfl rfl (by decide) ?_
    refine TrOps.gF rfl rfl rfl rfl rfl rfl (by decide) ?_
    refine TrOps.gF rfl rfl rfl rfl rfl rfl (by decide) ?_
    refine TrOps.gF rfl rfl rfl rfl rfl rfl (by decide) ?_
    refine TrOps.gF rfl rfl rfl rfl rfl rfl (by decide) ?_
    refine TrOps.sem (OpSem.pickT rfl rfl rfl rfl) rfl rfl (by decide) ?_
    refine TrOps.nil ?_
    refine At.seq ?_
    refine Tr.condT rfl rfl ?_
    refine Tr.seq ?_
    refine Tr.region ?_
    refine TrOps.sem (OpSem.fieldr rfl rfl fo28_0) rfl rfl (by decide) ?_
    refine TrOps.sem (OpSem.loadb1 rfl rfl rfl vs3 rfl) rfl rfl (by decide) ?_
    refine TrOps.sem (OpSem.bin rfl rfl rfl bneq) rfl rfl (by decide) ?_
    refine TrOps.sem (OpSem.move (.inl rfl) rfl) rfl rfl (by decide) ?_
    refine TrOps.gT rfl rfl rfl rfl (by simpa using c24) ?_
    refine TrOps.sem (OpSem.move (.inl rfl) rfl) rfl rfl (by decide) ?_
    refine TrOps.gT rfl rfl rfl rfl (by simpa using c24) ?_
    refine TrOps.sem (OpSem.lenL rfl rfl es23) rfl rfl (by decide) ?_
    refine TrOps.gT rfl rfl rfl rfl (by simpa using c24) ?_
    refine TrOps.sem (OpSem.bin rfl rfl rfl beql) rfl rfl (by decide) ?_
    refine TrOps.sem (OpSem.pickT rfl rfl (by simpa using c24) rfl) rfl rfl (by decide) ?_
    refine TrOps.sem (OpSem.move (.inr rfl) rfl) rfl rfl (by decide) ?_
    refine TrOps.nil ?_
    refine At.seq ?_
    refine Tr.ret ?_
    refine At.pass_ret ?_
    exact At.ret rfl (.tmp rfl <| .nil) rfl (Le.bo (by first | rfl | (rw [adR_1 h1]; rfl)))
  · obtain ⟨ha, hc, h1, h0⟩ := adF_ok (a := a) (c := c) (by simpa using c24)
    have hn := nS_eq ha
    have hg := distL_good ha hc
    have hR := adR_0 h1
    have hgl := hg.1
    have hcl := hc.1
    refine TrOps.gT rfl rfl rfl rfl c24 ?_
    refine TrOps.sem (OpSem.move (.inl rfl) rfl) rfl rfl (by decide) ?_
    refine TrOps.gT rfl rfl rfl rfl c24 ?_
    refine TrOps.sem (OpSem.lenL rfl rfl es23) rfl rfl (by decide) ?_
    refine TrOps.gT rfl rfl rfl rfl c24 ?_
    refine TrOps.sem (OpSem.fieldr rfl rfl fo25_0) rfl rfl (by decide) ?_
    refine TrOps.gT rfl rfl rfl rfl c24 ?_
    refine TrOps.sem (OpSem.loadb1 rfl rfl rfl vs3 rfl) rfl rfl (by decide) ?_
    refine TrOps.gT rfl rfl rfl rfl c24 ?_
    refine TrOps.sem (OpSem.bin rfl rfl rfl bneq) rfl rfl (by decide) ?_
    refine TrOps.sem (OpSem.pickF rfl rfl c24 rfl) rfl rfl (by decide) ?_
    refine TrOps.sem (OpSem.move (.inl rfl) rfl) rfl rfl (by decide) ?_
    refine TrOps.gT rfl rfl rfl rfl (by rw [hR]; simp; omega) ?_
    refine TrOps.sem (OpSem.loadbN rfl rfl rfl vs25 (by first | decide | simp)) rfl rfl (by decide) ?_
    refine TrOps.gT rfl rfl rfl rfl (by rw [hR]; simp; omega) ?_
    refine TrOps.sem (OpSem.call0 (Q_AbstractionFault_does a) rfl rfl rfl rfl (Les.refl _)) rfl rfl (by decide) ?_
    refine TrOps.gT rfl rfl rfl rfl (by rw [hR]; simp; omega) ?_
    refine TrOps.sem (OpSem.field1 rfl rfl f1_28_0 rfl) rfl rfl (by decide) ?_
    refine TrOps.gT rfl rfl rfl rfl (by rw [hR]; simp; omega) ?_
    refine TrOps.sem (OpSem.bin rfl rfl rfl bneq) rfl rfl (by decide) ?_
    refine TrOps.sem (OpSem.pickF rfl rfl (by rw [hR]; simp; omega) rfl) rfl rfl (by decide) ?_
    refine TrOps.sem (OpSem.move (.inl rfl) rfl) rfl rfl (by decide) ?_
    refine TrOps.gT rfl rfl rfl rfl (by rw [h0]; rfl) ?_
    refine TrOps.sem (OpSem.move (.inl rfl) rfl) rfl rfl (by decide) ?_
    refine TrOps.gT rfl rfl rfl rfl (by rw [h0]; rfl) ?_
    refine TrOps.sem (OpSem.lenL rfl rfl es23) rfl rfl (by decide) ?_
    refine TrOps.gT rfl rfl rfl rfl (by rw [h0]; rfl) ?_
    refine TrOps.sem (OpSem.fieldr rfl rfl fo25_1) rfl rfl (by decide) ?_
    refine TrOps.gT rfl rfl rfl rfl (by rw [h0]; rfl) ?_
    refine TrOps.sem (OpSem.loadb1 rfl rfl rfl vs3 rfl) rfl rfl (by decide) ?_
    refine TrOps.gT rfl rfl rfl rfl (by rw [h0]; rfl) ?_
    refine TrOps.sem (OpSem.bin rfl rfl rfl bneq) rfl rfl (by decide) ?_
    refine TrOps.sem (OpSem.pickF rfl rfl (by rw [h0]; rfl) rfl) rfl rfl (by decide) ?_
    refine TrOps.nil ?_
    refine At.seq ?_
    refine Tr.condF rfl (by simp; omega) ?_
    refine Tr.skip ?_
    refine At.seq ?_
    refine Tr.seq ?_
    refine Tr.seq ?_
    refine Tr.weak (s' := .d (ints (distL a c))) 5 rfl (Le.d (by rw [hR])) ?_
    refine Tr.region ?_
    refine TrOps.sem (OpSem.move (.inr rfl) rfl) rfl rfl (by decide) ?_
    refine TrOps.nil ?_
    refine At.seq ?_
    refine Tr.block ?_
    refine Tr.loop (X := Nat) (fun k => k ≤ a.arcs.length) (fun k => [(1, .d (ints c)), (2, .r 2 0), (5, .d (ints (distL a c))), (7, I (k))]) (fun k => [(2, .box [I (a.states), I (a.labels), .d (arcsD a.arcs), I (a.init), .d (ints a.goals)])]) (fun k => a.arcs.length - k) 0 (by omega) ?_ ?_
    · exact .slot rfl (.refl _) <| .slot rfl (.refl _) <| .slot rfl (.refl _) <| .slot rfl (Le.of_eq (by simp)) <| .mem rfl <| .nil
    · rintro k hkl
      refine Tr.seq ?_
      refine Tr.seq ?_
      refine Tr.region ?_
      refine TrOps.sem (OpSem.move (.inl rfl) rfl) rfl rfl (by decide) ?_
      refine TrOps.sem (OpSem.fieldr rfl rfl fo25_2) rfl rfl (by decide) ?_
      refine TrOps.sem (OpSem.loadb1 rfl rfl rfl vs22 rfl) rfl rfl (by decide) ?_
      refine TrOps.sem (OpSem.lenL rfl rfl es22) rfl rfl (by decide) ?_
      refine TrOps.sem (OpSem.bin rfl rfl rfl blss) rfl rfl (by decide) ?_
      refine TrOps.nil ?_
      refine At.seq ?_
      refine Tr.cond rfl (fun c56 => ?_) (fun c56 => ?_)
      · have hk : k < a.arcs.length := by simpa using c56
        have har := ha.arc k hk
        have hw := cost_at hc har.2.1.1 har.2.1.2
        have ht := distL_tri ha hc hk
        have hv1 := hg.2 _ har.2.2.1 (by omega)
        refine Tr.skip ?_
        refine At.seq ?_
        refine Tr.seq ?_
        refine Tr.block ?_
        refine Tr.seq ?_
        refine Tr.region ?_
        refine TrOps.sem (OpSem.fieldr rfl rfl fo25_2) rfl rfl (by decide) ?_
        refine TrOps.sem (OpSem.loadb1 rfl rfl rfl vs22 rfl) rfl rfl (by decide) ?_
        refine TrOps.sem (OpSem.move (.inl rfl) rfl) rfl rfl (by decide) ?_
        refine TrOps.sem (OpSem.idxL rfl rfl rfl es22 (by omega) (by omega)) rfl rfl (by decide) ?_
        refine TrOps.sem (OpSem.loadN rfl rfl vs33 (by first | decide | simp) rfl) rfl rfl (by decide) ?_
        refine TrOps.semM (OpSem.alloc 8 rfl zc33 rfl) rfl rfl (by decide) ?_
        refine TrOps.storeb rfl rfl rfl rfl rfl rfl rfl vs33 (by first | decide | simp) ?_
        refine TrOps.nil ?_
        refine At.seq ?_
        refine Tr.seq ?_
        refine PC.start [] ?_
        refine PC.sem (OpSem.move (.inl rfl) rfl) rfl rfl ?_
        refine PC.sem (OpSem.fieldr rfl rfl fo33_2) rfl rfl ?_
        refine PC.sem (OpSem.loadb1 rfl rfl rfl vs3 rfl) rfl rfl ?_
        refine PC.sem (OpSem.idxL rfl rfl rfl es23 (by omega) (by omega)) rfl rfl ?_
        refine PC.sem (OpSem.load1 rfl rfl vs3 rfl) rfl rfl ?_
        refine PC.sem (OpSem.bin rfl rfl rfl blss) rfl rfl ?_
        refine PC.sem (OpSem.move (.inl rfl) rfl) rfl rfl ?_
        refine PC.split (n := 70) rfl (fun c70 => ?_) (fun c70 => ?_)
        · refine PC.gT (OpSem.move (.inl rfl) rfl) rfl rfl rfl rfl c70 rfl ?_
          refine PC.gT (OpSem.fieldr rfl rfl fo33_0) rfl rfl rfl rfl c70 rfl ?_
          refine PC.gT (OpSem.loadb1 rfl rfl rfl vs3 rfl) rfl rfl rfl rfl c70 rfl ?_
          refine PC.gT (OpSem.idxL rfl rfl rfl es23 (by omega) (by omega)) rfl rfl rfl rfl c70 rfl ?_
          refine PC.gT (OpSem.load1 rfl rfl vs3 rfl) rfl rfl rfl rfl c70 rfl ?_
          refine PC.gT (OpSem.move (.inl rfl) rfl) rfl rfl rfl rfl c70 rfl ?_
          refine PC.gT (OpSem.fieldr rfl rfl fo33_2) rfl rfl rfl rfl c70 rfl ?_
          refine PC.gT (OpSem.loadb1 rfl rfl rfl vs3 rfl) rfl rfl rfl rfl c70 rfl ?_
          refine PC.gT (OpSem.idxL rfl rfl rfl es23 (by omega) (by omega)) rfl rfl rfl rfl c70 rfl ?_
          refine PC.gT (OpSem.load1 rfl rfl vs3 rfl) rfl rfl rfl rfl c70 rfl ?_
          refine PC.gT (OpSem.move (.inl rfl) rfl) rfl rfl rfl rfl c70 rfl ?_
          refine PC.gT (OpSem.fieldr rfl rfl fo33_1) rfl rfl rfl rfl c70 rfl ?_
          refine PC.gT (OpSem.loadb1 rfl rfl rfl vs3 rfl) rfl rfl rfl rfl c70 rfl ?_
          refine PC.gT (OpSem.idxL rfl rfl rfl es23 (by omega) (by omega)) rfl rfl rfl rfl c70 rfl ?_
          refine PC.gT (OpSem.load1 rfl rfl vs3 rfl) rfl rfl rfl rfl c70 rfl ?_
          refine PC.gT (OpSem.bin rfl rfl rfl (badd (by omega) (by omega))) rfl rfl rfl rfl c70 rfl ?_
          refine PC.done0 mixed (by kernel_rfl) (by kernel_rfl) (by kernel_rfl) (by kernel_rfl) (by kernel_rfl) ?_
          refine TrOps.gT rfl rfl rfl rfl c70 ?_
          refine TrOps.sem (OpSem.bin rfl rfl rfl bgtr) rfl rfl (by decide) ?_
          refine TrOps.sem (OpSem.pickT rfl rfl c70 rfl) rfl rfl (by decide) ?_
          refine TrOps.nil ?_
          refine At.seq ?_
          refine Tr.condF rfl (by simp; omega) ?_
          refine Tr.skip ?_
          refine At.block_normal ?_
          refine At.seq ?_
          refine Tr.region ?_
          refine TrOps.sem (OpSem.move (.inl rfl) rfl) rfl rfl (by decide) ?_
          refine TrOps.sem (OpSem.bin rfl rfl rfl (badd (by omega) (by omega))) rfl rfl (by decide) ?_
          refine TrOps.sem (OpSem.move (.inr rfl) rfl) rfl rfl (by decide) ?_
          refine TrOps.nil ?_
          refine At.again (k + 1) (by omega) ?_ (by omega)
          exact .slot rfl (.refl _) <| .slot rfl (.refl _) <| .slot rfl (.refl _) <| .slot rfl (Le.of_eq (by simp)) <| .mem rfl <| .nil
        · refine PC.gF rfl rfl rfl rfl c70 rfl ?_
          refine PC.gF rfl rfl rfl rfl c70 rfl ?_
          refine PC.gF rfl rfl rfl rfl c70 rfl ?_
          refine PC.gF rfl rfl rfl rfl c70 rfl ?_
          refine PC.gF rfl rfl rfl rfl c70 rfl ?_
          refine PC.gF rfl rfl rfl rfl c70 rfl ?_
          refine PC.gF rfl rfl rfl rfl c70 rfl ?_
          refine PC.gF rfl rfl rfl rfl c70 rfl ?_
          refine PC.gF rfl rfl rfl rfl c70 rfl ?_
          refine PC.gF rfl rfl rfl rfl c70 rfl ?_
          refine PC.gF rfl rfl rfl rfl c70 rfl ?_
          refine PC.gF rfl rfl rfl rfl c70 rfl ?_
          refine PC.gF rfl rfl rfl rfl c70 rfl ?_
          refine PC.gF rfl rfl rfl rfl c70 rfl ?_
          refine PC.gF rfl rfl rfl rfl c70 rfl ?_
          refine PC.gF rfl rfl rfl rfl c70 rfl ?_
          refine PC.done0 mixed (by kernel_rfl) (by kernel_rfl) (by kernel_rfl) (by kernel_rfl) (by kernel_rfl) ?_
          refine TrOps.gF rfl rfl rfl rfl c70 rfl (by decide) ?_
          refine TrOps.sem (OpSem.pickF rfl rfl c70 rfl) rfl rfl (by decide) ?_
          refine TrOps.nil ?_
          refine At.seq ?_
          refine Tr.condF rfl rfl ?_
          refine Tr.skip ?_
          refine At.block_normal ?_
          refine At.seq ?_
          refine Tr.region ?_
          refine TrOps.sem (OpSem.move (.inl rfl) rfl) rfl rfl (by decide) ?_
          refine TrOps.sem (OpSem.bin rfl rfl rfl (badd (by omega) (by omega))) rfl rfl (by decide) ?_
          refine TrOps.sem (OpSem.move (.inr rfl) rfl) rfl rfl (by decide) ?_
          refine TrOps.nil ?_
          refine At.again (k + 1) (by omega) ?_ (by omega)
          exact .slot rfl (.refl _) <| .slot rfl (.refl _) <| .slot rfl (.refl _) <| .slot rfl (Le.of_eq (by simp)) <| .mem rfl <| .nil
      · refine Tr.exit ?_
        refine At.pass_exit ?_
        refine At.pass_exit ?_
        refine At.block_same ?_
        refine At.seq ?_
        refine Tr.seq ?_
        refine Tr.seq ?_
        refine Tr.region ?_
        refine TrOps.sem (OpSem.move (.inr rfl) rfl) rfl rfl (by decide) ?_
        refine TrOps.nil ?_
        refine At.seq ?_
        refine Tr.block ?_
        refine Tr.loop (X := Nat) (fun k => k ≤ nS a) (fun k => [(1, .d (ints c)), (2, .r 2 0), (5, .d (ints (distL a c))), (9, I (k))]) (fun k => [(2, .box [I (a.states), I (a.labels), .d (arcsD a.arcs), I (a.init), .d (ints a.goals)])]) (fun k => nS a - k) 0 (by omega) ?_ ?_
        · exact .slot rfl (.refl _) <| .slot rfl (.refl _) <| .slot rfl (.refl _) <| .slot rfl (Le.of_eq (by simp)) <| .mem rfl <| .nil
        · rintro k hkl
          refine Tr.seq ?_
          refine Tr.seq ?_
          refine Tr.region ?_
          refine TrOps.sem (OpSem.move (.inl rfl) rfl) rfl rfl (by decide) ?_
          refine TrOps.sem (OpSem.fieldr rfl rfl fo25_0) rfl rfl (by decide) ?_
          refine TrOps.sem (OpSem.loadb1 rfl rfl rfl vs3 rfl) rfl rfl (by decide) ?_
          refine TrOps.sem (OpSem.bin rfl rfl rfl blss) rfl rfl (by decide) ?_
          refine TrOps.nil ?_
          refine At.seq ?_
          refine Tr.cond rfl (fun c92 => ?_) (fun c92 => ?_)
          · have hk : k < nS a := by simp at c92; omega
            refine Tr.skip ?_
            refine At.seq ?_
            refine Tr.seq ?_
            refine Tr.block ?_
            refine Tr.seq ?_
            refine Tr.seq ?_
            refine Tr.region ?_
            refine TrOps.sem (OpSem.fieldr rfl rfl fo25_4) rfl rfl (by decide) ?_
            refine TrOps.sem (OpSem.loadb1 rfl rfl rfl vs23 rfl) rfl rfl (by decide) ?_
            refine TrOps.sem (OpSem.move (.inl rfl) rfl) rfl rfl (by decide) ?_
            refine TrOps.sem (OpSem.call0 (R_Has_does a.goals k) rfl rfl rfl rfl (Les.refl _)) rfl rfl (by decide) ?_
            refine TrOps.sem (OpSem.move (.inl rfl) rfl) rfl rfl (by decide) ?_
            refine TrOps.split (n := 99) rfl (fun c99 => ?_) (fun c99 => ?_)
            · have hin : (k : Int) ∈ a.goals := by simpa using c99
              refine TrOps.gT rfl rfl rfl rfl c99 ?_
              refine TrOps.sem (OpSem.move (.inl rfl) rfl) rfl rfl (by decide) ?_
              refine TrOps.gT rfl rfl rfl rfl c99 ?_
              refine TrOps.sem (OpSem.move (.inl rfl) rfl) rfl rfl (by decide) ?_
              refine TrOps.gT rfl rfl rfl rfl c99 ?_
              refine TrOps.sem (OpSem.idxL rfl rfl rfl es23 (by omega) (by omega)) rfl rfl (by decide) ?_
              refine TrOps.gT rfl rfl rfl rfl c99 ?_
              refine TrOps.sem (OpSem.load1 rfl rfl vs3 rfl) rfl rfl (by decide) ?_
              refine TrOps.gT rfl rfl rfl rfl c99 ?_
              refine TrOps.sem (OpSem.bin rfl rfl rfl bneq) rfl rfl (by decide) ?_
              refine TrOps.sem (OpSem.pickT rfl rfl c99 rfl) rfl rfl (by decide) ?_
              refine TrOps.nil ?_
              refine At.seq ?_
              refine Tr.condF rfl (by rw [distL_goal ha hc (by omega) (by omega) hin]; rfl) ?_
              refine Tr.skip ?_
              refine At.seq ?_
              refine Tr.seq ?_
              refine Tr.seq ?_
              refine Tr.region ?_
              refine TrOps.sem (OpSem.move (.inl rfl) rfl) rfl rfl (by decide) ?_
              refine TrOps.sem (OpSem.move (.inl rfl) rfl) rfl rfl (by decide) ?_
              refine TrOps.sem (OpSem.idxL rfl rfl rfl es23 (by omega) (by omega)) rfl rfl (by decide) ?_
              refine TrOps.sem (OpSem.load1 rfl rfl vs3 rfl) rfl rfl (by decide) ?_
              refine TrOps.sem (OpSem.bin rfl rfl rfl beql) rfl rfl (by decide) ?_
              refine TrOps.sem (OpSem.move (.inl rfl) rfl) rfl rfl (by decide) ?_
              refine TrOps.split (n := 111) rfl (fun c111 => ?_) (fun c111 => ?_)
              · refine TrOps.gF rfl rfl rfl rfl c111 rfl (by decide) ?_
                refine TrOps.gF rfl rfl rfl rfl c111 rfl (by decide) ?_
                refine TrOps.gF rfl rfl rfl rfl c111 rfl (by decide) ?_
                refine TrOps.gF rfl rfl rfl rfl c111 rfl (by decide) ?_
                refine TrOps.sem (OpSem.pickT rfl rfl c111 rfl) rfl rfl (by decide) ?_
                refine TrOps.nil ?_
                refine At.seq ?_
                refine Tr.condT rfl rfl ?_
                refine Tr.exit ?_
                refine At.pass_exit ?_
                refine At.block_same ?_
                refine At.seq ?_
                refine Tr.region ?_
                refine TrOps.sem (OpSem.move (.inl rfl) rfl) rfl rfl (by decide) ?_
                refine TrOps.sem (OpSem.bin rfl rfl rfl (badd (by omega) (by omega))) rfl rfl (by decide) ?_
                refine TrOps.sem (OpSem.move (.inr rfl) rfl) rfl rfl (by decide) ?_
                refine TrOps.nil ?_
                refine At.again (k + 1) (by omega) ?_ (by omega)
                exact .slot rfl (.refl _) <| .slot rfl (.refl _) <| .slot rfl (.refl _) <| .slot rfl (Le.of_eq (by simp)) <| .mem rfl <| .nil
              · refine TrOps.gT rfl rfl rfl rfl c111 ?_
                refine TrOps.sem (OpSem.fieldr rfl rfl fo25_4) rfl rfl (by decide) ?_
                refine TrOps.gT rfl rfl rfl rfl c111 ?_
                refine TrOps.sem (OpSem.loadb1 rfl rfl rfl vs23 rfl) rfl rfl (by decide) ?_
                refine TrOps.gT rfl rfl rfl rfl c111 ?_
                refine TrOps.sem (OpSem.move (.inl rfl) rfl) rfl rfl (by decide) ?_
                refine TrOps.gT rfl rfl rfl rfl c111 ?_
                refine TrOps.sem (OpSem.call0 (R_Has_does a.goals k) rfl rfl rfl rfl (Les.refl _)) rfl rfl (by decide) ?_
                refine TrOps.sem (OpSem.pickF rfl rfl c111 rfl) rfl rfl (by decide) ?_
                refine TrOps.nil ?_
                refine At.seq ?_
                refine Tr.cond rfl (fun c116 => ?_) (fun c116 => ?_)
                · refine Tr.exit ?_
                  refine At.pass_exit ?_
                  refine At.block_same ?_
                  refine At.seq ?_
                  refine Tr.region ?_
                  refine TrOps.sem (OpSem.move (.inl rfl) rfl) rfl rfl (by decide) ?_
                  refine TrOps.sem (OpSem.bin rfl rfl rfl (badd (by omega) (by omega))) rfl rfl (by decide) ?_
                  refine TrOps.sem (OpSem.move (.inr rfl) rfl) rfl rfl (by decide) ?_
                  refine TrOps.nil ?_
                  refine At.again (k + 1) (by omega) ?_ (by omega)
                  exact .slot rfl (.refl _) <| .slot rfl (.refl _) <| .slot rfl (.refl _) <| .slot rfl (Le.of_eq (by simp)) <| .mem rfl <| .nil
                · refine Tr.skip ?_
                  refine At.seq ?_
                  refine Tr.seq ?_
                  refine Tr.region ?_
                  refine TrOps.sem (OpSem.move (.inr rfl) rfl) rfl rfl (by decide) ?_
                  refine TrOps.nil ?_
                  refine At.seq ?_
                  refine Tr.seq ?_
                  refine Tr.seq ?_
                  refine Tr.region ?_
                  refine TrOps.sem (OpSem.move (.inr rfl) rfl) rfl rfl (by decide) ?_
                  refine TrOps.nil ?_
                  refine At.seq ?_
                  refine Tr.block ?_
                  refine Tr.loop (X := Nat) (fun i => i ≤ a.arcs.length) (fun i => [(1, .d (ints c)), (2, .r 2 0), (5, .d (ints (distL a c))), (9, I (k)), (10, Bo (tightTo a c k i)), (11, I (i))]) (fun i => [(2, .box [I (a.states), I (a.labels), .d (arcsD a.arcs), I (a.init), .d (ints a.goals)])]) (fun i => a.arcs.length - i) 0 (by omega) ?_ ?_
                  · exact .slot rfl (.refl _) <| .slot rfl (.refl _) <| .slot rfl (.refl _) <| .slot rfl (.refl _) <| .slot rfl (Le.bo tightTo_0) <| .slot rfl (Le.of_eq (by simp)) <| .mem rfl <| .nil
                  · rintro i hil
                    refine Tr.seq ?_
                    refine Tr.seq ?_
                    refine Tr.region ?_
                    refine TrOps.sem (OpSem.move (.inl rfl) rfl) rfl rfl (by decide) ?_
                    refine TrOps.sem (OpSem.fieldr rfl rfl fo25_2) rfl rfl (by decide) ?_
                    refine TrOps.sem (OpSem.loadb1 rfl rfl rfl vs22 rfl) rfl rfl (by decide) ?_
                    refine TrOps.sem (OpSem.lenL rfl rfl es22) rfl rfl (by decide) ?_
                    refine TrOps.sem (OpSem.bin rfl rfl rfl blss) rfl rfl (by decide) ?_
                    refine TrOps.nil ?_
                    refine At.seq ?_
                    refine Tr.cond rfl (fun c121 => ?_) (fun c121 => ?_)
                    · have hi : i < a.arcs.length := by simpa using c121
                      have har := ha.arc i hi
                      have hw := cost_at hc har.2.1.1 har.2.1.2
                      have hv1 := hg.2 _ har.2.2.1 (by omega)
                      refine Tr.skip ?_
                      refine At.seq ?_
                      refine Tr.seq ?_
                      refine Tr.block ?_
                      refine Tr.seq ?_
                      refine Tr.region ?_
                      refine TrOps.sem (OpSem.fieldr rfl rfl fo25_2) rfl rfl (by decide) ?_
                      refine TrOps.sem (OpSem.loadb1 rfl rfl rfl vs22 rfl) rfl rfl (by decide) ?_
                      refine TrOps.sem (OpSem.move (.inl rfl) rfl) rfl rfl (by decide) ?_
                      refine TrOps.sem (OpSem.idxL rfl rfl rfl es22 (by omega) (by omega)) rfl rfl (by decide) ?_
                      refine TrOps.sem (OpSem.loadN rfl rfl vs33 (by first | decide | simp) rfl) rfl rfl (by decide) ?_
                      refine TrOps.semM (OpSem.alloc 12 rfl zc33 rfl) rfl rfl (by decide) ?_
                      refine TrOps.storeb rfl rfl rfl rfl rfl rfl rfl vs33 (by first | decide | simp) ?_
                      refine TrOps.nil ?_
                      refine At.seq ?_
                      refine PC.start [] ?_
                      refine PC.sem (OpSem.move (.inl rfl) rfl) rfl rfl ?_
                      refine PC.sem (OpSem.move (.inl rfl) rfl) rfl rfl ?_
                      refine PC.split (n := 130) rfl (fun c130 => ?_) (fun c130 => ?_)
                      · refine PC.gF rfl rfl rfl rfl c130 rfl ?_
                        refine PC.gF rfl rfl rfl rfl c130 rfl ?_
                        refine PC.gF rfl rfl rfl rfl c130 rfl ?_
                        refine PC.gF rfl rfl rfl rfl c130 rfl ?_
                        refine PC.gF rfl rfl rfl rfl c130 rfl ?_
                        refine PC.gU rfl rfl rfl rfl rfl ?_
                        refine PC.gU rfl rfl rfl rfl rfl ?_
                        refine PC.gU rfl rfl rfl rfl rfl ?_
                        refine PC.gU rfl rfl rfl rfl rfl ?_
                        refine PC.gU rfl rfl rfl rfl rfl ?_
                        refine PC.gU rfl rfl rfl rfl rfl ?_
                        refine PC.gF rfl rfl rfl rfl c130 rfl ?_
                        refine PC.gF rfl rfl rfl rfl c130 rfl ?_
                        refine PC.gU rfl rfl rfl rfl rfl ?_
                        refine PC.gU rfl rfl rfl rfl rfl ?_
                        refine PC.gU rfl rfl rfl rfl rfl ?_
                        refine PC.gU rfl rfl rfl rfl rfl ?_
                        refine PC.gU rfl rfl rfl rfl rfl ?_
                        refine PC.gU rfl rfl rfl rfl rfl ?_
                        refine PC.gU rfl rfl rfl rfl rfl ?_
                        refine PC.gU rfl rfl rfl rfl rfl ?_
                        refine PC.gU rfl rfl rfl rfl rfl ?_
                        refine PC.gU rfl rfl rfl rfl rfl ?_
                        refine PC.gU rfl rfl rfl rfl rfl ?_
                        refine PC.gU rfl rfl rfl rfl rfl ?_
                        refine PC.gU rfl rfl rfl rfl rfl ?_
                        refine PC.gU rfl rfl rfl rfl rfl ?_
                        refine PC.gU rfl rfl rfl rfl rfl ?_
                        refine PC.done0 mixed (by kernel_rfl) (by kernel_rfl) (by kernel_rfl) (by kernel_rfl) (by kernel_rfl) ?_
                        refine TrOps.gU rfl rfl rfl rfl rfl (by decide) ?_
                        refine TrOps.gF rfl rfl rfl rfl c130 rfl (by decide) ?_
                        refine TrOps.sem (OpSem.pickT rfl rfl c130 rfl) rfl rfl (by decide) ?_
                        refine TrOps.sem (OpSem.move (.inr rfl) rfl) rfl rfl (by decide) ?_
                        refine TrOps.nil ?_
                        refine At.block_normal ?_
                        refine At.seq ?_
                        refine Tr.region ?_
                        refine TrOps.sem (OpSem.move (.inl rfl) rfl) rfl rfl (by decide) ?_
                        refine TrOps.sem (OpSem.bin rfl rfl rfl (badd (by omega) (by omega))) rfl rfl (by decide) ?_
                        refine TrOps.sem (OpSem.move (.inr rfl) rfl) rfl rfl (by decide) ?_
                        refine TrOps.nil ?_
                        refine At.again (i + 1) (by omega) ?_ (by omega)
                        exact .slot rfl (.refl _) <| .slot rfl (.refl _) <| .slot rfl (.refl _) <| .slot rfl (.refl _) <| .slot rfl (Le.bo (by first | exact tightTo_t c130 | (refine tightTo_n c130 ?_; simp at c135 c143; simp [c135, c143]; done) | (refine tightTo_n c130 ?_; simp at c135 c143; simp; omega) | (refine tightTo_n c130 ?_; simp at c135; simp [c135]; done))) <| .slot rfl (Le.of_eq (by simp)) <| .mem rfl <| .nil
                      · refine PC.gT (OpSem.fieldr rfl rfl fo33_0) rfl rfl rfl rfl c130 rfl ?_
                        refine PC.gT (OpSem.loadb1 rfl rfl rfl vs3 rfl) rfl rfl rfl rfl c130 rfl ?_
                        refine PC.gT (OpSem.move (.inl rfl) rfl) rfl rfl rfl rfl c130 rfl ?_
                        refine PC.gT (OpSem.bin rfl rfl rfl beql) rfl rfl rfl rfl c130 rfl ?_
                        refine PC.gT (OpSem.move (.inl rfl) rfl) rfl rfl rfl rfl c130 rfl ?_
                        refine PC.split (n := 135) rfl (fun c135 => ?_) (fun c135 => ?_)
                        · refine PC.gT (OpSem.move (.inl rfl) rfl) rfl rfl rfl rfl c135 rfl ?_
                          refine PC.gT (OpSem.fieldr rfl rfl fo33_2) rfl rfl rfl rfl c135 rfl ?_
                          refine PC.gT (OpSem.loadb1 rfl rfl rfl vs3 rfl) rfl rfl rfl rfl c135 rfl ?_
                          refine PC.gT (OpSem.idxL rfl rfl rfl es23 (by omega) (by omega)) rfl rfl rfl rfl c135 rfl ?_
                          refine PC.gT (OpSem.load1 rfl rfl vs3 rfl) rfl rfl rfl rfl c135 rfl ?_
                          refine PC.gT (OpSem.bin rfl rfl rfl blss) rfl rfl rfl rfl c135 rfl ?_
                          refine PC.gT (OpSem.pickT rfl rfl c135 rfl) rfl rfl rfl rfl c130 rfl ?_
                          refine PC.gT (OpSem.move (.inl rfl) rfl) rfl rfl rfl rfl c130 rfl ?_
                          refine PC.split (n := 143) rfl (fun c143 => ?_) (fun c143 => ?_)
                          · refine PC.gT (OpSem.move (.inl rfl) rfl) rfl rfl rfl rfl c143 rfl ?_
                            refine PC.gT (OpSem.move (.inl rfl) rfl) rfl rfl rfl rfl c143 rfl ?_
                            refine PC.gT (OpSem.idxL rfl rfl rfl es23 (by omega) (by omega)) rfl rfl rfl rfl c143 rfl ?_
                            refine PC.gT (OpSem.load1 rfl rfl vs3 rfl) rfl rfl rfl rfl c143 rfl ?_
                            refine PC.gT (OpSem.move (.inl rfl) rfl) rfl rfl rfl rfl c143 rfl ?_
                            refine PC.gT (OpSem.fieldr rfl rfl fo33_2) rfl rfl rfl rfl c143 rfl ?_
                            refine PC.gT (OpSem.loadb1 rfl rfl rfl vs3 rfl) rfl rfl rfl rfl c143 rfl ?_
                            refine PC.gT (OpSem.idxL rfl rfl rfl es23 (by omega) (by omega)) rfl rfl rfl rfl c143 rfl ?_
                            refine PC.gT (OpSem.load1 rfl rfl vs3 rfl) rfl rfl rfl rfl c143 rfl ?_
                            refine PC.gT (OpSem.move (.inl rfl) rfl) rfl rfl rfl rfl c143 rfl ?_
                            refine PC.gT (OpSem.fieldr rfl rfl fo33_1) rfl rfl rfl rfl c143 rfl ?_
                            refine PC.gT (OpSem.loadb1 rfl rfl rfl vs3 rfl) rfl rfl rfl rfl c143 rfl ?_
                            refine PC.gT (OpSem.idxL rfl rfl rfl es23 (by omega) (by omega)) rfl rfl rfl rfl c143 rfl ?_
                            refine PC.gT (OpSem.load1 rfl rfl vs3 rfl) rfl rfl rfl rfl c143 rfl ?_
                            refine PC.gT (OpSem.bin rfl rfl rfl (badd (by omega) (by omega))) rfl rfl rfl rfl c143 rfl ?_
                            refine PC.done0 mixed (by kernel_rfl) (by kernel_rfl) (by kernel_rfl) (by kernel_rfl) (by kernel_rfl) ?_
                            refine TrOps.gT rfl rfl rfl rfl c143 ?_
                            refine TrOps.sem (OpSem.bin rfl rfl rfl beql) rfl rfl (by decide) ?_
                            refine TrOps.gT rfl rfl rfl rfl c130 ?_
                            refine TrOps.sem (OpSem.pickT rfl rfl c143 rfl) rfl rfl (by decide) ?_
                            refine TrOps.sem (OpSem.pickF rfl rfl c130 rfl) rfl rfl (by decide) ?_
                            refine TrOps.sem (OpSem.move (.inr rfl) rfl) rfl rfl (by decide) ?_
                            refine TrOps.nil ?_
                            refine At.block_normal ?_
                            refine At.seq ?_
                            refine Tr.region ?_
                            refine TrOps.sem (OpSem.move (.inl rfl) rfl) rfl rfl (by decide) ?_
                            refine TrOps.sem (OpSem.bin rfl rfl rfl (badd (by omega) (by omega))) rfl rfl (by decide) ?_
                            refine TrOps.sem (OpSem.move (.inr rfl) rfl) rfl rfl (by decide) ?_
                            refine TrOps.nil ?_
                            refine At.again (i + 1) (by omega) ?_ (by omega)
                            exact .slot rfl (.refl _) <| .slot rfl (.refl _) <| .slot rfl (.refl _) <| .slot rfl (.refl _) <| .slot rfl (Le.bo (by first | exact tightTo_t c130 | (refine tightTo_n c130 ?_; simp at c135 c143; simp [c135, c143]; done) | (refine tightTo_n c130 ?_; simp at c135 c143; simp; omega) | (refine tightTo_n c130 ?_; simp at c135; simp [c135]; done))) <| .slot rfl (Le.of_eq (by simp)) <| .mem rfl <| .nil
                          · refine PC.gF rfl rfl rfl rfl c143 rfl ?_
                            refine PC.gF rfl rfl rfl rfl c143 rfl ?_
                            refine PC.gF rfl rfl rfl rfl c143 rfl ?_
                            refine PC.gF rfl rfl rfl rfl c143 rfl ?_
                            refine PC.gF rfl rfl rfl rfl c143 rfl ?_
                            refine PC.gF rfl rfl rfl rfl c143 rfl ?_
                            refine PC.gF rfl rfl rfl rfl c143 rfl ?_
                            refine PC.gF rfl rfl rfl rfl c143 rfl ?_
                            refine PC.gF rfl rfl rfl rfl c143 rfl ?_
                            refine PC.gF rfl rfl rfl rfl c143 rfl ?_
                            refine PC.gF rfl rfl rfl rfl c143 rfl ?_
                            refine PC.gF rfl rfl rfl rfl c143 rfl ?_
                            refine PC.gF rfl rfl rfl rfl c143 rfl ?_
                            refine PC.gF rfl rfl rfl rfl c143 rfl ?_
                            refine PC.gF rfl rfl rfl rfl c143 rfl ?_
                            refine PC.done0 mixed (by kernel_rfl) (by kernel_rfl) (by kernel_rfl) (by kernel_rfl) (by kernel_rfl) ?_
                            refine TrOps.gF rfl rfl rfl rfl c143 rfl (by decide) ?_
                            refine TrOps.gT rfl rfl rfl rfl c130 ?_
                            refine TrOps.sem (OpSem.pickF rfl rfl c143 rfl) rfl rfl (by decide) ?_
                            refine TrOps.sem (OpSem.pickF rfl rfl c130 rfl) rfl rfl (by decide) ?_
                            refine TrOps.sem (OpSem.move (.inr rfl) rfl) rfl rfl (by decide) ?_
                            refine TrOps.nil ?_
                            refine At.block_normal ?_
                            refine At.seq ?_
                            refine Tr.region ?_
                            refine TrOps.sem (OpSem.move (.inl rfl) rfl) rfl rfl (by decide) ?_
                            refine TrOps.sem (OpSem.bin rfl rfl rfl (badd (by omega) (by omega))) rfl rfl (by decide) ?_
                            refine TrOps.sem (OpSem.move (.inr rfl) rfl) rfl rfl (by decide) ?_
                            refine TrOps.nil ?_
                            refine At.again (i + 1) (by omega) ?_ (by omega)
                            exact .slot rfl (.refl _) <| .slot rfl (.refl _) <| .slot rfl (.refl _) <| .slot rfl (.refl _) <| .slot rfl (Le.bo (by first | exact tightTo_t c130 | (refine tightTo_n c130 ?_; simp at c135 c143; simp [c135, c143]; done) | (refine tightTo_n c130 ?_; simp at c135 c143; simp; omega) | (refine tightTo_n c130 ?_; simp at c135; simp [c135]; done))) <| .slot rfl (Le.of_eq (by simp)) <| .mem rfl <| .nil
                        · refine PC.gF rfl rfl rfl rfl c135 rfl ?_
                          refine PC.gF rfl rfl rfl rfl c135 rfl ?_
                          refine PC.gF rfl rfl rfl rfl c135 rfl ?_
                          refine PC.gF rfl rfl rfl rfl c135 rfl ?_
                          refine PC.gF rfl rfl rfl rfl c135 rfl ?_
                          refine PC.gF rfl rfl rfl rfl c135 rfl ?_
                          refine PC.gT (OpSem.pickF rfl rfl c135 rfl) rfl rfl rfl rfl c130 rfl ?_
                          refine PC.gT (OpSem.move (.inl rfl) rfl) rfl rfl rfl rfl c130 rfl ?_
                          refine PC.gF rfl rfl rfl rfl rfl rfl ?_
                          refine PC.gF rfl rfl rfl rfl rfl rfl ?_
                          refine PC.gF rfl rfl rfl rfl rfl rfl ?_
                          refine PC.gF rfl rfl rfl rfl rfl rfl ?_
                          refine PC.gF rfl rfl rfl rfl rfl rfl ?_
                          refine PC.gF rfl rfl rfl rfl rfl rfl ?_
                          refine PC.gF rfl rfl rfl rfl rfl rfl ?_
                          refine PC.gF rfl rfl rfl rfl rfl rfl ?_
                          refine PC.gF rfl rfl rfl rfl rfl rfl ?_
                          refine PC.gF rfl rfl rfl rfl rfl rfl ?_
                          refine PC.gF rfl rfl rfl rfl rfl rfl ?_
                          refine PC.gF rfl rfl rfl rfl rfl rfl ?_
                          refine PC.gF rfl rfl rfl rfl rfl rfl ?_
                          refine PC.gF rfl rfl rfl rfl rfl rfl ?_
                          refine PC.gF rfl rfl rfl rfl rfl rfl ?_
                          refine PC.done0 mixed (by kernel_rfl) (by kernel_rfl) (by kernel_rfl) (by kernel_rfl) (by kernel_rfl) ?_
                          refine TrOps.gF rfl rfl rfl rfl rfl rfl (by decide) ?_
                          refine TrOps.gT rfl rfl rfl rfl c130 ?_
                          refine TrOps.sem (OpSem.pickF rfl rfl rfl rfl) rfl rfl (by decide) ?_
                          refine TrOps.sem (OpSem.pickF rfl rfl c130 rfl) rfl rfl (by decide) ?_
                          refine TrOps.sem (OpSem.move (.inr rfl) rfl) rfl rfl (by decide) ?_
                          refine TrOps.nil ?_
                          refine At.block_normal ?_
                          refine At.seq ?_
                          refine Tr.region ?_
                          refine TrOps.sem (OpSem.move (.inl rfl) rfl) rfl rfl (by decide) ?_
                          refine TrOps.sem (OpSem.bin rfl rfl rfl (badd (by omega) (by omega))) rfl rfl (by decide) ?_
                          refine TrOps.sem (OpSem.move (.inr rfl) rfl) rfl rfl (by decide) ?_
                          refine TrOps.nil ?_
                          refine At.again (i + 1) (by omega) ?_ (by omega)
                          exact .slot rfl (.refl _) <| .slot rfl (.refl _) <| .slot rfl (.refl _) <| .slot rfl (.refl _) <| .slot rfl (Le.bo (by first | exact tightTo_t c130 | (refine tightTo_n c130 ?_; simp at c135 c143; simp [c135, c143]; done) | (refine tightTo_n c130 ?_; simp at c135 c143; simp; omega) | (refine tightTo_n c130 ?_; simp at c135; simp [c135]; done))) <| .slot rfl (Le.of_eq (by simp)) <| .mem rfl <| .nil
                    · have hi : i = a.arcs.length := by simp at c121; omega
                      subst hi
                      have htt := tightTo_end ha hc (x := k) (by omega) (by omega) (by simpa using c116) (by simpa using c111)
                      refine Tr.exit ?_
                      refine At.pass_exit ?_
                      refine At.pass_exit ?_
                      refine At.block_same ?_
                      refine At.seq ?_
                      refine Tr.seq ?_
                      refine Tr.region ?_
                      refine TrOps.sem (OpSem.move (.inl rfl) rfl) rfl rfl (by decide) ?_
                      refine TrOps.sem (OpSem.not rfl rfl) rfl rfl (by decide) ?_
                      refine TrOps.nil ?_
                      refine At.seq ?_
                      refine Tr.condF rfl (by rw [htt]; rfl) ?_
                      refine Tr.skip ?_
                      refine At.block_normal ?_
                      refine At.seq ?_
                      refine Tr.region ?_
                      refine TrOps.sem (OpSem.move (.inl rfl) rfl) rfl rfl (by decide) ?_
                      refine TrOps.sem (OpSem.bin rfl rfl rfl (badd (by omega) (by omega))) rfl rfl (by decide) ?_
                      refine TrOps.sem (OpSem.move (.inr rfl) rfl) rfl rfl (by decide) ?_
                      refine TrOps.nil ?_
                      refine At.again (k + 1) (by omega) ?_ (by omega)
                      exact .slot rfl (.refl _) <| .slot rfl (.refl _) <| .slot rfl (.refl _) <| .slot rfl (Le.of_eq (by simp)) <| .mem rfl <| .nil
            · refine TrOps.gF rfl rfl rfl rfl c99 rfl (by decide) ?_
              refine TrOps.gF rfl rfl rfl rfl c99 rfl (by decide) ?_
              refine TrOps.gF rfl rfl rfl rfl c99 rfl (by decide) ?_
              refine TrOps.gF rfl rfl rfl rfl c99 rfl (by decide) ?_
              refine TrOps.gF rfl rfl rfl rfl c99 rfl (by decide) ?_
              refine TrOps.sem (OpSem.pickF rfl rfl c99 rfl) rfl rfl (by decide) ?_
              refine TrOps.nil ?_
              refine At.seq ?_
              refine Tr.condF rfl rfl ?_
              refine Tr.skip ?_
              refine At.seq ?_
              refine Tr.seq ?_
              refine Tr.seq ?_
              refine Tr.region ?_
              refine TrOps.sem (OpSem.move (.inl rfl) rfl) rfl rfl (by decide) ?_
              refine TrOps.sem (OpSem.move (.inl rfl) rfl) rfl rfl (by decide) ?_
              refine TrOps.sem (OpSem.idxL rfl rfl rfl es23 (by omega) (by omega)) rfl rfl (by decide) ?_
              refine TrOps.sem (OpSem.load1 rfl rfl vs3 rfl) rfl rfl (by decide) ?_
              refine TrOps.sem (OpSem.bin rfl rfl rfl beql) rfl rfl (by decide) ?_
              refine TrOps.sem (OpSem.move (.inl rfl) rfl) rfl rfl (by decide) ?_
              refine TrOps.split (n := 111) rfl (fun c111 => ?_) (fun c111 => ?_)
              · refine TrOps.gF rfl rfl rfl rfl c111 rfl (by decide) ?_
                refine TrOps.gF rfl rfl rfl rfl c111 rfl (by decide) ?_
                refine TrOps.gF rfl rfl rfl rfl c111 rfl (by decide) ?_
                refine TrOps.gF rfl rfl rfl rfl c111 rfl (by decide) ?_
                refine TrOps.sem (OpSem.pickT rfl rfl c111 rfl) rfl rfl (by decide) ?_
                refine TrOps.nil ?_
                refine At.seq ?_
                refine Tr.condT rfl rfl ?_
                refine Tr.exit ?_
                refine At.pass_exit ?_
                refine At.block_same ?_
                refine At.seq ?_
                refine Tr.region ?_
                refine TrOps.sem (OpSem.move (.inl rfl) rfl) rfl rfl (by decide) ?_
                refine TrOps.sem (OpSem.bin rfl rfl rfl (badd (by omega) (by omega))) rfl rfl (by decide) ?_
                refine TrOps.sem (OpSem.move (.inr rfl) rfl) rfl rfl (by decide) ?_
                refine TrOps.nil ?_
                refine At.again (k + 1) (by omega) ?_ (by omega)
                exact .slot rfl (.refl _) <| .slot rfl (.refl _) <| .slot rfl (.refl _) <| .slot rfl (Le.of_eq (by simp)) <| .mem rfl <| .nil
              · refine TrOps.gT rfl rfl rfl rfl c111 ?_
                refine TrOps.sem (OpSem.fieldr rfl rfl fo25_4) rfl rfl (by decide) ?_
                refine TrOps.gT rfl rfl rfl rfl c111 ?_
                refine TrOps.sem (OpSem.loadb1 rfl rfl rfl vs23 rfl) rfl rfl (by decide) ?_
                refine TrOps.gT rfl rfl rfl rfl c111 ?_
                refine TrOps.sem (OpSem.move (.inl rfl) rfl) rfl rfl (by decide) ?_
                refine TrOps.gT rfl rfl rfl rfl c111 ?_
                refine TrOps.sem (OpSem.call0 (R_Has_does a.goals k) rfl rfl rfl rfl (Les.refl _)) rfl rfl (by decide) ?_
                refine TrOps.sem (OpSem.pickF rfl rfl c111 rfl) rfl rfl (by decide) ?_
                refine TrOps.nil ?_
                refine At.seq ?_
                refine Tr.cond rfl (fun c116 => ?_) (fun c116 => ?_)
                · refine Tr.exit ?_
                  refine At.pass_exit ?_
                  refine At.block_same ?_
                  refine At.seq ?_
                  refine Tr.region ?_
                  refine TrOps.sem (OpSem.move (.inl rfl) rfl) rfl rfl (by decide) ?_
                  refine TrOps.sem (OpSem.bin rfl rfl rfl (badd (by omega) (by omega))) rfl rfl (by decide) ?_
                  refine TrOps.sem (OpSem.move (.inr rfl) rfl) rfl rfl (by decide) ?_
                  refine TrOps.nil ?_
                  refine At.again (k + 1) (by omega) ?_ (by omega)
                  exact .slot rfl (.refl _) <| .slot rfl (.refl _) <| .slot rfl (.refl _) <| .slot rfl (Le.of_eq (by simp)) <| .mem rfl <| .nil
                · refine Tr.skip ?_
                  refine At.seq ?_
                  refine Tr.seq ?_
                  refine Tr.region ?_
                  refine TrOps.sem (OpSem.move (.inr rfl) rfl) rfl rfl (by decide) ?_
                  refine TrOps.nil ?_
                  refine At.seq ?_
                  refine Tr.seq ?_
                  refine Tr.seq ?_
                  refine Tr.region ?_
                  refine TrOps.sem (OpSem.move (.inr rfl) rfl) rfl rfl (by decide) ?_
                  refine TrOps.nil ?_
                  refine At.seq ?_
                  refine Tr.block ?_
                  refine Tr.loop (X := Nat) (fun i => i ≤ a.arcs.length) (fun i => [(1, .d (ints c)), (2, .r 2 0), (5, .d (ints (distL a c))), (9, I (k)), (10, Bo (tightTo a c k i)), (11, I (i))]) (fun i => [(2, .box [I (a.states), I (a.labels), .d (arcsD a.arcs), I (a.init), .d (ints a.goals)])]) (fun i => a.arcs.length - i) 0 (by omega) ?_ ?_
                  · exact .slot rfl (.refl _) <| .slot rfl (.refl _) <| .slot rfl (.refl _) <| .slot rfl (.refl _) <| .slot rfl (Le.bo tightTo_0) <| .slot rfl (Le.of_eq (by simp)) <| .mem rfl <| .nil
                  · rintro i hil
                    refine Tr.seq ?_
                    refine Tr.seq ?_
                    refine Tr.region ?_
                    refine TrOps.sem (OpSem.move (.inl rfl) rfl) rfl rfl (by decide) ?_
                    refine TrOps.sem (OpSem.fieldr rfl rfl fo25_2) rfl rfl (by decide) ?_
                    refine TrOps.sem (OpSem.loadb1 rfl rfl rfl vs22 rfl) rfl rfl (by decide) ?_
                    refine TrOps.sem (OpSem.lenL rfl rfl es22) rfl rfl (by decide) ?_
                    refine TrOps.sem (OpSem.bin rfl rfl rfl blss) rfl rfl (by decide) ?_
                    refine TrOps.nil ?_
                    refine At.seq ?_
                    refine Tr.cond rfl (fun c121 => ?_) (fun c121 => ?_)
                    · have hi : i < a.arcs.length := by simpa using c121
                      have har := ha.arc i hi
                      have hw := cost_at hc har.2.1.1 har.2.1.2
                      have hv1 := hg.2 _ har.2.2.1 (by omega)
                      refine Tr.skip ?_
                      refine At.seq ?_
                      refine Tr.seq ?_
                      refine Tr.block ?_
                      refine Tr.seq ?_
                      refine Tr.region ?_
                      refine TrOps.sem (OpSem.fieldr rfl rfl fo25_2) rfl rfl (by decide) ?_
                      refine TrOps.sem (OpSem.loadb1 rfl rfl rfl vs22 rfl) rfl rfl (by decide) ?_
                      refine TrOps.sem (OpSem.move (.inl rfl) rfl) rfl rfl (by decide) ?_
                      refine TrOps.sem (OpSem.idxL rfl rfl rfl es22 (by omega) (by omega)) rfl rfl (by decide) ?_
                      refine TrOps.sem (OpSem.loadN rfl rfl vs33 (by first | decide | simp) rfl) rfl rfl (by decide) ?_
                      refine TrOps.semM (OpSem.alloc 12 rfl zc33 rfl) rfl rfl (by decide) ?_
                      refine TrOps.storeb rfl rfl rfl rfl rfl rfl rfl vs33 (by first | decide | simp) ?_
                      refine TrOps.nil ?_
                      refine At.seq ?_
                      refine PC.start [] ?_
                      refine PC.sem (OpSem.move (.inl rfl) rfl) rfl rfl ?_
                      refine PC.sem (OpSem.move (.inl rfl) rfl) rfl rfl ?_
                      refine PC.split (n := 130) rfl (fun c130 => ?_) (fun c130 => ?_)
                      · refine PC.gF rfl rfl rfl rfl c130 rfl ?_
                        refine PC.gF rfl rfl rfl rfl c130 rfl ?_
                        refine PC.gF rfl rfl rfl rfl c130 rfl ?_
                        refine PC.gF rfl rfl rfl rfl c130 rfl ?_
                        refine PC.gF rfl rfl rfl rfl c130 rfl ?_
                        refine PC.gU rfl rfl rfl rfl rfl ?_
                        refine PC.gU rfl rfl rfl rfl rfl ?_
                        refine PC.gU rfl rfl rfl rfl rfl ?_
                        refine PC.gU rfl rfl rfl rfl rfl ?_
                        refine PC.gU rfl rfl rfl rfl rfl ?_
                        refine PC.gU rfl rfl rfl rfl rfl ?_
                        refine PC.gF rfl rfl rfl rfl c130 rfl ?_
                        refine PC.gF rfl rfl rfl rfl c130 rfl ?_
                        refine PC.gU rfl rfl rfl rfl rfl ?_
                        refine PC.gU rfl rfl rfl rfl rfl ?_
                        refine PC.gU rfl rfl rfl rfl rfl ?_
                        refine PC.gU rfl rfl rfl rfl rfl ?_
                        refine PC.gU rfl rfl rfl rfl rfl ?_
                        refine PC.gU rfl rfl rfl rfl rfl ?_
                        refine PC.gU rfl rfl rfl rfl rfl ?_
                        refine PC.gU rfl rfl rfl rfl rfl ?_
                        refine PC.gU rfl rfl rfl rfl rfl ?_
                        refine PC.gU rfl rfl rfl rfl rfl ?_
                        refine PC.gU rfl rfl rfl rfl rfl ?_
                        refine PC.gU rfl rfl rfl rfl rfl ?_
                        refine PC.gU rfl rfl rfl rfl rfl ?_
                        refine PC.gU rfl rfl rfl rfl rfl ?_
                        refine PC.gU rfl rfl rfl rfl rfl ?_
                        refine PC.done0 mixed (by kernel_rfl) (by kernel_rfl) (by kernel_rfl) (by kernel_rfl) (by kernel_rfl) ?_
                        refine TrOps.gU rfl rfl rfl rfl rfl (by decide) ?_
                        refine TrOps.gF rfl rfl rfl rfl c130 rfl (by decide) ?_
                        refine TrOps.sem (OpSem.pickT rfl rfl c130 rfl) rfl rfl (by decide) ?_
                        refine TrOps.sem (OpSem.move (.inr rfl) rfl) rfl rfl (by decide) ?_
                        refine TrOps.nil ?_
                        refine At.block_normal ?_
                        refine At.seq ?_
                        refine Tr.region ?_
                        refine TrOps.sem (OpSem.move (.inl rfl) rfl) rfl rfl (by decide) ?_
                        refine TrOps.sem (OpSem.bin rfl rfl rfl (badd (by omega) (by omega))) rfl rfl (by decide) ?_
                        refine TrOps.sem (OpSem.move (.inr rfl) rfl) rfl rfl (by decide) ?_
                        refine TrOps.nil ?_
                        refine At.again (i + 1) (by omega) ?_ (by omega)
                        exact .slot rfl (.refl _) <| .slot rfl (.refl _) <| .slot rfl (.refl _) <| .slot rfl (.refl _) <| .slot rfl (Le.bo (by first | exact tightTo_t c130 | (refine tightTo_n c130 ?_; simp at c135 c143; simp [c135, c143]; done) | (refine tightTo_n c130 ?_; simp at c135 c143; simp; omega) | (refine tightTo_n c130 ?_; simp at c135; simp [c135]; done))) <| .slot rfl (Le.of_eq (by simp)) <| .mem rfl <| .nil
                      · refine PC.gT (OpSem.fieldr rfl rfl fo33_0) rfl rfl rfl rfl c130 rfl ?_
                        refine PC.gT (OpSem.loadb1 rfl rfl rfl vs3 rfl) rfl rfl rfl rfl c130 rfl ?_
                        refine PC.gT (OpSem.move (.inl rfl) rfl) rfl rfl rfl rfl c130 rfl ?_
                        refine PC.gT (OpSem.bin rfl rfl rfl beql) rfl rfl rfl rfl c130 rfl ?_
                        refine PC.gT (OpSem.move (.inl rfl) rfl) rfl rfl rfl rfl c130 rfl ?_
                        refine PC.split (n := 135) rfl (fun c135 => ?_) (fun c135 => ?_)
                        · refine PC.gT (OpSem.move (.inl rfl) rfl) rfl rfl rfl rfl c135 rfl ?_
                          refine PC.gT (OpSem.fieldr rfl rfl fo33_2) rfl rfl rfl rfl c135 rfl ?_
                          refine PC.gT (OpSem.loadb1 rfl rfl rfl vs3 rfl) rfl rfl rfl rfl c135 rfl ?_
                          refine PC.gT (OpSem.idxL rfl rfl rfl es23 (by omega) (by omega)) rfl rfl rfl rfl c135 rfl ?_
                          refine PC.gT (OpSem.load1 rfl rfl vs3 rfl) rfl rfl rfl rfl c135 rfl ?_
                          refine PC.gT (OpSem.bin rfl rfl rfl blss) rfl rfl rfl rfl c135 rfl ?_
                          refine PC.gT (OpSem.pickT rfl rfl c135 rfl) rfl rfl rfl rfl c130 rfl ?_
                          refine PC.gT (OpSem.move (.inl rfl) rfl) rfl rfl rfl rfl c130 rfl ?_
                          refine PC.split (n := 143) rfl (fun c143 => ?_) (fun c143 => ?_)
                          · refine PC.gT (OpSem.move (.inl rfl) rfl) rfl rfl rfl rfl c143 rfl ?_
                            refine PC.gT (OpSem.move (.inl rfl) rfl) rfl rfl rfl rfl c143 rfl ?_
                            refine PC.gT (OpSem.idxL rfl rfl rfl es23 (by omega) (by omega)) rfl rfl rfl rfl c143 rfl ?_
                            refine PC.gT (OpSem.load1 rfl rfl vs3 rfl) rfl rfl rfl rfl c143 rfl ?_
                            refine PC.gT (OpSem.move (.inl rfl) rfl) rfl rfl rfl rfl c143 rfl ?_
                            refine PC.gT (OpSem.fieldr rfl rfl fo33_2) rfl rfl rfl rfl c143 rfl ?_
                            refine PC.gT (OpSem.loadb1 rfl rfl rfl vs3 rfl) rfl rfl rfl rfl c143 rfl ?_
                            refine PC.gT (OpSem.idxL rfl rfl rfl es23 (by omega) (by omega)) rfl rfl rfl rfl c143 rfl ?_
                            refine PC.gT (OpSem.load1 rfl rfl vs3 rfl) rfl rfl rfl rfl c143 rfl ?_
                            refine PC.gT (OpSem.move (.inl rfl) rfl) rfl rfl rfl rfl c143 rfl ?_
                            refine PC.gT (OpSem.fieldr rfl rfl fo33_1) rfl rfl rfl rfl c143 rfl ?_
                            refine PC.gT (OpSem.loadb1 rfl rfl rfl vs3 rfl) rfl rfl rfl rfl c143 rfl ?_
                            refine PC.gT (OpSem.idxL rfl rfl rfl es23 (by omega) (by omega)) rfl rfl rfl rfl c143 rfl ?_
                            refine PC.gT (OpSem.load1 rfl rfl vs3 rfl) rfl rfl rfl rfl c143 rfl ?_
                            refine PC.gT (OpSem.bin rfl rfl rfl (badd (by omega) (by omega))) rfl rfl rfl rfl c143 rfl ?_
                            refine PC.done0 mixed (by kernel_rfl) (by kernel_rfl) (by kernel_rfl) (by kernel_rfl) (by kernel_rfl) ?_
                            refine TrOps.gT rfl rfl rfl rfl c143 ?_
                            refine TrOps.sem (OpSem.bin rfl rfl rfl beql) rfl rfl (by decide) ?_
                            refine TrOps.gT rfl rfl rfl rfl c130 ?_
                            refine TrOps.sem (OpSem.pickT rfl rfl c143 rfl) rfl rfl (by decide) ?_
                            refine TrOps.sem (OpSem.pickF rfl rfl c130 rfl) rfl rfl (by decide) ?_
                            refine TrOps.sem (OpSem.move (.inr rfl) rfl) rfl rfl (by decide) ?_
                            refine TrOps.nil ?_
                            refine At.block_normal ?_
                            refine At.seq ?_
                            refine Tr.region ?_
                            refine TrOps.sem (OpSem.move (.inl rfl) rfl) rfl rfl (by decide) ?_
                            refine TrOps.sem (OpSem.bin rfl rfl rfl (badd (by omega) (by omega))) rfl rfl (by decide) ?_
                            refine TrOps.sem (OpSem.move (.inr rfl) rfl) rfl rfl (by decide) ?_
                            refine TrOps.nil ?_
                            refine At.again (i + 1) (by omega) ?_ (by omega)
                            exact .slot rfl (.refl _) <| .slot rfl (.refl _) <| .slot rfl (.refl _) <| .slot rfl (.refl _) <| .slot rfl (Le.bo (by first | exact tightTo_t c130 | (refine tightTo_n c130 ?_; simp at c135 c143; simp [c135, c143]; done) | (refine tightTo_n c130 ?_; simp at c135 c143; simp; omega) | (refine tightTo_n c130 ?_; simp at c135; simp [c135]; done))) <| .slot rfl (Le.of_eq (by simp)) <| .mem rfl <| .nil
                          · refine PC.gF rfl rfl rfl rfl c143 rfl ?_
                            refine PC.gF rfl rfl rfl rfl c143 rfl ?_
                            refine PC.gF rfl rfl rfl rfl c143 rfl ?_
                            refine PC.gF rfl rfl rfl rfl c143 rfl ?_
                            refine PC.gF rfl rfl rfl rfl c143 rfl ?_
                            refine PC.gF rfl rfl rfl rfl c143 rfl ?_
                            refine PC.gF rfl rfl rfl rfl c143 rfl ?_
                            refine PC.gF rfl rfl rfl rfl c143 rfl ?_
                            refine PC.gF rfl rfl rfl rfl c143 rfl ?_
                            refine PC.gF rfl rfl rfl rfl c143 rfl ?_
                            refine PC.gF rfl rfl rfl rfl c143 rfl ?_
                            refine PC.gF rfl rfl rfl rfl c143 rfl ?_
                            refine PC.gF rfl rfl rfl rfl c143 rfl ?_
                            refine PC.gF rfl rfl rfl rfl c143 rfl ?_
                            refine PC.gF rfl rfl rfl rfl c143 rfl ?_
                            refine PC.done0 mixed (by kernel_rfl) (by kernel_rfl) (by kernel_rfl) (by kernel_rfl) (by kernel_rfl) ?_
                            refine TrOps.gF rfl rfl rfl rfl c143 rfl (by decide) ?_
                            refine TrOps.gT rfl rfl rfl rfl c130 ?_
                            refine TrOps.sem (OpSem.pickF rfl rfl c143 rfl) rfl rfl (by decide) ?_
                            refine TrOps.sem (OpSem.pickF rfl rfl c130 rfl) rfl rfl (by decide) ?_
                            refine TrOps.sem (OpSem.move (.inr rfl) rfl) rfl rfl (by decide) ?_
                            refine TrOps.nil ?_
                            refine At.block_normal ?_
                            refine At.seq ?_
                            refine Tr.region ?_
                            refine TrOps.sem (OpSem.move (.inl rfl) rfl) rfl rfl (by decide) ?_
                            refine TrOps.sem (OpSem.bin rfl rfl rfl (badd (by omega) (by omega))) rfl rfl (by decide) ?_
                            refine TrOps.sem (OpSem.move (.inr rfl) rfl) rfl rfl (by decide) ?_
                            refine TrOps.nil ?_
                            refine At.again (i + 1) (by omega) ?_ (by omega)
                            exact .slot rfl (.refl _) <| .slot rfl (.refl _) <| .slot rfl (.refl _) <| .slot rfl (.refl _) <| .slot rfl (Le.bo (by first | exact tightTo_t c130 | (refine tightTo_n c130 ?_; simp at c135 c143; simp [c135, c143]; done) | (refine tightTo_n c130 ?_; simp at c135 c143; simp; omega) | (refine tightTo_n c130 ?_; simp at c135; simp [c135]; done))) <| .slot rfl (Le.of_eq (by simp)) <| .mem rfl <| .nil
                        · refine PC.gF rfl rfl rfl rfl c135 rfl ?_
                          refine PC.gF rfl rfl rfl rfl c135 rfl ?_
                          refine PC.gF rfl rfl rfl rfl c135 rfl ?_
                          refine PC.gF rfl rfl rfl rfl c135 rfl ?_
                          refine PC.gF rfl rfl rfl rfl c135 rfl ?_
                          refine PC.gF rfl rfl rfl rfl c135 rfl ?_
                          refine PC.gT (OpSem.pickF rfl rfl c135 rfl) rfl rfl rfl rfl c130 rfl ?_
                          refine PC.gT (OpSem.move (.inl rfl) rfl) rfl rfl rfl rfl c130 rfl ?_
                          refine PC.gF rfl rfl rfl rfl rfl rfl ?_
                          refine PC.gF rfl rfl rfl rfl rfl rfl ?_
                          refine PC.gF rfl rfl rfl rfl rfl rfl ?_
                          refine PC.gF rfl rfl rfl rfl rfl rfl ?_
                          refine PC.gF rfl rfl rfl rfl rfl rfl ?_
                          refine PC.gF rfl rfl rfl rfl rfl rfl ?_
                          refine PC.gF rfl rfl rfl rfl rfl rfl ?_
                          refine PC.gF rfl rfl rfl rfl rfl rfl ?_
                          refine PC.gF rfl rfl rfl rfl rfl rfl ?_
                          refine PC.gF rfl rfl rfl rfl rfl rfl ?_
                          refine PC.gF rfl rfl rfl rfl rfl rfl ?_
                          refine PC.gF rfl rfl rfl rfl rfl rfl ?_
                          refine PC.gF rfl rfl rfl rfl rfl rfl ?_
                          refine PC.gF rfl rfl rfl rfl rfl rfl ?_
                          refine PC.gF rfl rfl rfl rfl rfl rfl ?_
                          refine PC.done0 mixed (by kernel_rfl) (by kernel_rfl) (by kernel_rfl) (by kernel_rfl) (by kernel_rfl) ?_
                          refine TrOps.gF rfl rfl rfl rfl rfl rfl (by decide) ?_
                          refine TrOps.gT rfl rfl rfl rfl c130 ?_
                          refine TrOps.sem (OpSem.pickF rfl rfl rfl rfl) rfl rfl (by decide) ?_
                          refine TrOps.sem (OpSem.pickF rfl rfl c130 rfl) rfl rfl (by decide) ?_
                          refine TrOps.sem (OpSem.move (.inr rfl) rfl) rfl rfl (by decide) ?_
                          refine TrOps.nil ?_
                          refine At.block_normal ?_
                          refine At.seq ?_
                          refine Tr.region ?_
                          refine TrOps.sem (OpSem.move (.inl rfl) rfl) rfl rfl (by decide) ?_
                          refine TrOps.sem (OpSem.bin rfl rfl rfl (badd (by omega) (by omega))) rfl rfl (by decide) ?_
                          refine TrOps.sem (OpSem.move (.inr rfl) rfl) rfl rfl (by decide) ?_
                          refine TrOps.nil ?_
                          refine At.again (i + 1) (by omega) ?_ (by omega)
                          exact .slot rfl (.refl _) <| .slot rfl (.refl _) <| .slot rfl (.refl _) <| .slot rfl (.refl _) <| .slot rfl (Le.bo (by first | exact tightTo_t c130 | (refine tightTo_n c130 ?_; simp at c135 c143; simp [c135, c143]; done) | (refine tightTo_n c130 ?_; simp at c135 c143; simp; omega) | (refine tightTo_n c130 ?_; simp at c135; simp [c135]; done))) <| .slot rfl (Le.of_eq (by simp)) <| .mem rfl <| .nil
                    · have hi : i = a.arcs.length := by simp at c121; omega
                      subst hi
                      have htt := tightTo_end ha hc (x := k) (by omega) (by omega) (by simpa using c116) (by simpa using c111)
                      refine Tr.exit ?_
                      refine At.pass_exit ?_
                      refine At.pass_exit ?_
                      refine At.block_same ?_
                      refine At.seq ?_
                      refine Tr.seq ?_
                      refine Tr.region ?_
                      refine TrOps.sem (OpSem.move (.inl rfl) rfl) rfl rfl (by decide) ?_
                      refine TrOps.sem (OpSem.not rfl rfl) rfl rfl (by decide) ?_
                      refine TrOps.nil ?_
                      refine At.seq ?_
                      refine Tr.condF rfl (by rw [htt]; rfl) ?_
                      refine Tr.skip ?_
                      refine At.block_normal ?_
                      refine At.seq ?_
                      refine Tr.region ?_
                      refine TrOps.sem (OpSem.move (.inl rfl) rfl) rfl rfl (by decide) ?_
                      refine TrOps.sem (OpSem.bin rfl rfl rfl (badd (by omega) (by omega))) rfl rfl (by decide) ?_
                      refine TrOps.sem (OpSem.move (.inr rfl) rfl) rfl rfl (by decide) ?_
                      refine TrOps.nil ?_
                      refine At.again (k + 1) (by omega) ?_ (by omega)
                      exact .slot rfl (.refl _) <| .slot rfl (.refl _) <| .slot rfl (.refl _) <| .slot rfl (Le.of_eq (by simp)) <| .mem rfl <| .nil
          · refine Tr.exit ?_
            refine At.pass_exit ?_
            refine At.pass_exit ?_
            refine At.block_same ?_
            refine At.seq ?_
            refine Tr.seq ?_
            refine Tr.region ?_
            refine TrOps.sem (OpSem.move (.inr rfl) rfl) rfl rfl (by decide) ?_
            refine TrOps.nil ?_
            refine At.seq ?_
            refine Tr.ret ?_
            exact At.ret rfl (.tmp rfl <| .nil) rfl (Le.bo (by first | rfl | (rw [adR_1 h1]; rfl)))

end Go.Proofs.Ytpnmkmgnkdmniaa
