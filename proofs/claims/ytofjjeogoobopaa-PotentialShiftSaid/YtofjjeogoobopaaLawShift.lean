/- Walks, written by gen.py out of hints. -/
import Derived.Test.YtofjjeogoobopaaTypes
import Derived.Test.YtofjjeogoobopaaOwn
import Derived.Test.YtofjjeogoobopaaEngW
set_option linter.unusedVariables false
set_option linter.unusedSimpArgs false
namespace Go.Proofs.Ytofjjeogoobopaa
open Go.Eng
set_option maxRecDepth 10000
set_option maxHeartbeats 1000000

theorem law_PotentialShift_does (m : Multi) (w : List (List Int)) (s : List Int) (v u b : Int) : Does Try.prog false 5 [multi m, .d (rows w), .d (ints s), I (v), I (u), I (b)] (Bo true) := by
  refine Does.of_body Try.func5 rfl rfl (by simp) Try.call5 (fun w0 O0 => ?_)
  refine Tr.lenG (n := 0) (i := 0) rfl rfl (fun len0_0 => ?_)
  refine Tr.lenG (n := 0) (i := 1) rfl rfl (fun len0_1 => ?_)
  refine Tr.lenG (n := 0) (i := 2) rfl rfl (fun len0_2 => ?_)
  refine Tr.lenG (n := 0) (i := 3) rfl rfl (fun len0_3 => ?_)
  refine Tr.lenLe (n := 1) rfl (fun len1 => ?_)
  refine Tr.lenLe (n := 2) rfl (fun len2 => ?_)
  refine Tr.seq ?_
  refine Tr.region ?_
  refine TrOps.semM (OpSem.box 6 rfl rfl rfl rfl) rfl rfl (by decide) ?_
  refine TrOps.sem (OpSem.move (.inr rfl) rfl) rfl rfl (by decide) ?_
  refine TrOps.nil ?_
  refine At.seq ?_
  refine Tr.seq ?_
  refine Tr.seq ?_
  refine Tr.region ?_
  refine TrOps.sem (OpSem.call0 (law_potentialExample_does) rfl rfl rfl rfl (Les.refl _)) rfl rfl (by decide) ?_
  refine TrOps.sem (OpSem.not rfl rfl) rfl rfl (by decide) ?_
  refine TrOps.nil ?_
  refine At.seq ?_
  refine Tr.condF rfl rfl ?_
  refine Tr.skip ?_
  refine At.seq ?_
  refine Tr.seq ?_
  refine Tr.region ?_
  refine TrOps.sem (OpSem.loadbN rfl rfl rfl vs26 (by first | decide | simp)) rfl rfl (by decide) ?_
  refine TrOps.sem (OpSem.move (.inl rfl) rfl) rfl rfl (by decide) ?_
  refine TrOps.sem (OpSem.move (.inl rfl) rfl) rfl rfl (by decide) ?_
  refine TrOps.sem (OpSem.call0 (potential_Value_does ..) rfl rfl rfl rfl (Les.refl _)) rfl rfl (by decide) ?_
  refine TrOps.sem (OpSem.move (.inl rfl) rfl) rfl rfl (by decide) ?_
  refine TrOps.sem (OpSem.extract rfl rfl rfl) rfl rfl (by decide) ?_
  refine TrOps.sem (OpSem.extract rfl rfl rfl) rfl rfl (by decide) ?_
  refine TrOps.semM (OpSem.alloc 14 rfl zc30 rfl) rfl rfl (by decide) ?_
  refine TrOps.sem (OpSem.move (.inr rfl) rfl) rfl rfl (by decide) ?_
  refine TrOps.storeb rfl rfl rfl rfl rfl rfl rfl vs30 (by first | decide | simp) ?_
  refine TrOps.nil ?_
  refine At.seq ?_
  refine Tr.seq ?_
  refine Tr.region ?_
  refine TrOps.sem (OpSem.loadbN rfl rfl rfl vs26 (by first | decide | simp)) rfl rfl (by decide) ?_
  refine TrOps.sem (OpSem.move (.inl rfl) rfl) rfl rfl (by decide) ?_
  refine TrOps.sem (OpSem.call0 (potential_Slack_does ..) rfl rfl rfl rfl (Les.refl _)) rfl rfl (by decide) ?_
  refine TrOps.sem (OpSem.move (.inl rfl) rfl) rfl rfl (by decide) ?_
  refine TrOps.sem (OpSem.extract rfl rfl rfl) rfl rfl (by decide) ?_
  refine TrOps.sem (OpSem.extract rfl rfl rfl) rfl rfl (by decide) ?_
  refine TrOps.sem (OpSem.extract rfl rfl rfl) rfl rfl (by decide) ?_
  refine TrOps.semM (OpSem.alloc 17 rfl zc30 rfl) rfl rfl (by decide) ?_
  refine TrOps.sem (OpSem.move (.inr rfl) rfl) rfl rfl (by decide) ?_
  refine TrOps.sem (OpSem.move (.inr rfl) rfl) rfl rfl (by decide) ?_
  refine TrOps.storeb rfl rfl rfl rfl rfl rfl rfl vs30 (by first | decide | simp) ?_
  refine TrOps.nil ?_
  refine At.seq ?_
  refine Tr.seq ?_
  refine Tr.seq ?_
  refine Tr.region ?_
  refine TrOps.sem (OpSem.fieldr rfl rfl fo30_0) rfl rfl (by decide) ?_
  refine TrOps.sem (OpSem.loadb1 rfl rfl rfl vs3 rfl) rfl rfl (by decide) ?_
  refine TrOps.sem (OpSem.bin rfl rfl rfl bneq) rfl rfl (by decide) ?_
  refine TrOps.sem (OpSem.move (.inl rfl) rfl) rfl rfl (by decide) ?_
  refine TrOps.split (n := 46) rfl (fun c46 => ?_) (fun c46 => ?_)
  · refine TrOps.gF rfl rfl rfl rfl c46 rfl (by decide) ?_
    refine TrOps.gF rfl rfl rfl rfl c46 rfl (by decide) ?_
    refine TrOps.gF rfl rfl rfl rfl c46 rfl (by decide) ?_
    refine TrOps.sem (OpSem.pickT rfl rfl c46 rfl) rfl rfl (by decide) ?_
    refine TrOps.sem (OpSem.move (.inl rfl) rfl) rfl rfl (by decide) ?_
    refine TrOps.gF rfl rfl rfl rfl rfl rfl (by decide) ?_
    refine TrOps.gF rfl rfl rfl rfl rfl rfl (by decide) ?_
    refine TrOps.gF rfl rfl rfl rfl rfl rfl (by decide) ?_
    refine TrOps.gF rfl rfl rfl rfl rfl rfl (by decide) ?_
    refine TrOps.gF rfl rfl rfl rfl rfl rfl (by decide) ?_
    refine TrOps.gF rfl rfl rfl rfl rfl rfl (by decide) ?_
    refine TrOps.sem (OpSem.pickT rfl rfl rfl rfl) rfl rfl (by decide) ?_
    refine TrOps.sem (OpSem.move (.inl rfl) rfl) rfl rfl (by decide) ?_
    refine TrOps.gF rfl rfl rfl rfl rfl rfl (by decide) ?_
    refine TrOps.gF rfl rfl rfl rfl rfl rfl (by decide) ?_
    refine TrOps.gF rfl rfl rfl rfl rfl rfl (by decide) ?_
    refine TrOps.gF rfl rfl rfl rfl rfl rfl (by decide) ?_
    refine TrOps.gF rfl rfl rfl rfl rfl rfl (by decide) ?_
    refine TrOps.gF rfl rfl rfl rfl rfl rfl (by decide) ?_
    refine TrOps.sem (OpSem.pickT rfl rfl rfl rfl) rfl rfl (by decide) ?_
    refine TrOps.sem (OpSem.move (.inl rfl) rfl) rfl rfl (by decide) ?_
    refine TrOps.gF rfl rfl rfl rfl rfl rfl (by decide) ?_
    refine TrOps.gF rfl rfl rfl rfl rfl rfl (by decide) ?_
    refine TrOps.gF rfl rfl rfl rfl rfl rfl (by decide) ?_
    refine TrOps.sem (OpSem.pickT rfl rfl rfl rfl) rfl rfl (by decide) ?_
    refine TrOps.nil ?_
    refine At.seq ?_
    refine Tr.condT rfl rfl ?_
    refine Tr.seq ?_
    refine Tr.region ?_
    refine TrOps.sem (OpSem.fieldr rfl rfl fo30_0) rfl rfl (by decide) ?_
    refine TrOps.sem (OpSem.loadb1 rfl rfl rfl vs3 rfl) rfl rfl (by decide) ?_
    refine TrOps.sem (OpSem.bin rfl rfl rfl beql) rfl rfl (by decide) ?_
    refine TrOps.sem (OpSem.move (.inl rfl) rfl) rfl rfl (by decide) ?_
    refine TrOps.split (n := 75) rfl (fun c75 => ?_) (fun c75 => ?_)
    · refine TrOps.gF rfl rfl rfl rfl c75 rfl (by decide) ?_
      refine TrOps.gF rfl rfl rfl rfl c75 rfl (by decide) ?_
      refine TrOps.sem (OpSem.pickT rfl rfl c75 rfl) rfl rfl (by decide) ?_
      refine TrOps.sem (OpSem.move (.inr rfl) rfl) rfl rfl (by decide) ?_
      refine TrOps.nil ?_
      refine At.seq ?_
      refine Tr.ret ?_
      refine At.pass_ret ?_
      exact At.ret rfl (.tmp rfl <| .nil) rfl (Le.bo (by first | rfl | (have hc : (valFault m w s).1 ≠ 0 := (by simpa using c75); have hne : valFault m w s ≠ (0, 0) := fun e => hc (by rw [e]); simp [valRes, hne]; done) | (rw [hL.2]; rfl) | (simp [hR.2.2.2.1]; done)))
    · refine TrOps.gT rfl rfl rfl rfl c75 ?_
      refine TrOps.sem (OpSem.move (.inl rfl) rfl) rfl rfl (by decide) ?_
      refine TrOps.gT rfl rfl rfl rfl c75 ?_
      refine TrOps.sem (OpSem.bin rfl rfl rfl beql) rfl rfl (by decide) ?_
      refine TrOps.sem (OpSem.pickF rfl rfl c75 rfl) rfl rfl (by decide) ?_
      refine TrOps.sem (OpSem.move (.inr rfl) rfl) rfl rfl (by decide) ?_
      refine TrOps.nil ?_
      refine At.seq ?_
      refine Tr.ret ?_
      refine At.pass_ret ?_
      exact At.ret rfl (.tmp rfl <| .nil) rfl (Le.bo (by first | rfl | (have hc : (valFault m w s).1 ≠ 0 := (by simpa using c75); have hne : valFault m w s ≠ (0, 0) := fun e => hc (by rw [e]); simp [valRes, hne]; done) | (rw [hL.2]; rfl) | (simp [hR.2.2.2.1]; done)))
  · refine TrOps.gT rfl rfl rfl rfl c46 ?_
    refine TrOps.sem (OpSem.fieldr rfl rfl fo30_0) rfl rfl (by decide) ?_
    refine TrOps.gT rfl rfl rfl rfl c46 ?_
    refine TrOps.sem (OpSem.loadb1 rfl rfl rfl vs3 rfl) rfl rfl (by decide) ?_
    refine TrOps.gT rfl rfl rfl rfl c46 ?_
    refine TrOps.sem (OpSem.bin rfl rfl rfl bneq) rfl rfl (by decide) ?_
    refine TrOps.sem (OpSem.pickF rfl rfl c46 rfl) rfl rfl (by decide) ?_
    refine TrOps.sem (OpSem.move (.inl rfl) rfl) rfl rfl (by decide) ?_
    refine TrOps.split (n := 51) rfl (fun c51 => ?_) (fun c51 => ?_)
    · refine TrOps.gF rfl rfl rfl rfl c51 rfl (by decide) ?_
      refine TrOps.gF rfl rfl rfl rfl c51 rfl (by decide) ?_
      refine TrOps.gF rfl rfl rfl rfl c51 rfl (by decide) ?_
      refine TrOps.gF rfl rfl rfl rfl c51 rfl (by decide) ?_
      refine TrOps.gF rfl rfl rfl rfl c51 rfl (by decide) ?_
      refine TrOps.gF rfl rfl rfl rfl c51 rfl (by decide) ?_
      refine TrOps.sem (OpSem.pickT rfl rfl c51 rfl) rfl rfl (by decide) ?_
      refine TrOps.sem (OpSem.move (.inl rfl) rfl) rfl rfl (by decide) ?_
      refine TrOps.gF rfl rfl rfl rfl rfl rfl (by decide) ?_
      refine TrOps.gF rfl rfl rfl rfl rfl rfl (by decide) ?_
      refine TrOps.gF rfl rfl rfl rfl rfl rfl (by decide) ?_
      refine TrOps.gF rfl rfl rfl rfl rfl rfl (by decide) ?_
      refine TrOps.gF rfl rfl rfl rfl rfl rfl (by decide) ?_
      refine TrOps.gF rfl rfl rfl rfl rfl rfl (by decide) ?_
      refine TrOps.sem (OpSem.pickT rfl rfl rfl rfl) rfl rfl (by decide) ?_
      refine TrOps.sem (OpSem.move (.inl rfl) rfl) rfl rfl (by decide) ?_
      refine TrOps.gF rfl rfl rfl rfl rfl rfl (by decide) ?_
      refine TrOps.gF rfl rfl rfl rfl rfl rfl (by decide) ?_
      refine TrOps.gF rfl rfl rfl rfl rfl rfl (by decide) ?_
      refine TrOps.sem (OpSem.pickT rfl rfl rfl rfl) rfl rfl (by decide) ?_
      refine TrOps.nil ?_
      refine At.seq ?_
      refine Tr.condT rfl rfl ?_
      refine Tr.seq ?_
      refine Tr.region ?_
      refine TrOps.sem (OpSem.fieldr rfl rfl fo30_0) rfl rfl (by decide) ?_
      refine TrOps.sem (OpSem.loadb1 rfl rfl rfl vs3 rfl) rfl rfl (by decide) ?_
      refine TrOps.sem (OpSem.bin rfl rfl rfl beql) rfl rfl (by decide) ?_
      refine TrOps.sem (OpSem.move (.inl rfl) rfl) rfl rfl (by decide) ?_
      refine TrOps.split (n := 75) rfl (fun c75 => ?_) (fun c75 => ?_)
      · refine TrOps.gF rfl rfl rfl rfl c75 rfl (by decide) ?_
        refine TrOps.gF rfl rfl rfl rfl c75 rfl (by decide) ?_
        refine TrOps.sem (OpSem.pickT rfl rfl c75 rfl) rfl rfl (by decide) ?_
        refine TrOps.sem (OpSem.move (.inr rfl) rfl) rfl rfl (by decide) ?_
        refine TrOps.nil ?_
        refine At.seq ?_
        refine Tr.ret ?_
        refine At.pass_ret ?_
        exact At.ret rfl (.tmp rfl <| .nil) rfl (Le.bo (by first | rfl | (have hc : (valFault m w s).1 ≠ 0 := (by simpa using c75); have hne : valFault m w s ≠ (0, 0) := fun e => hc (by rw [e]); simp [valRes, hne]; done) | (rw [hL.2]; rfl) | (simp [hR.2.2.2.1]; done)))
      · refine TrOps.gT rfl rfl rfl rfl c75 ?_
        refine TrOps.sem (OpSem.move (.inl rfl) rfl) rfl rfl (by decide) ?_
        refine TrOps.gT rfl rfl rfl rfl c75 ?_
        refine TrOps.sem (OpSem.bin rfl rfl rfl beql) rfl rfl (by decide) ?_
        refine TrOps.sem (OpSem.pickF rfl rfl c75 rfl) rfl rfl (by decide) ?_
        refine TrOps.sem (OpSem.move (.inr rfl) rfl) rfl rfl (by decide) ?_
        refine TrOps.nil ?_
        refine At.seq ?_
        refine Tr.ret ?_
        refine At.pass_ret ?_
        exact At.ret rfl (.tmp rfl <| .nil) rfl (Le.bo (by first | rfl | (have hc : (valFault m w s).1 ≠ 0 := (by simpa using c75); have hne : valFault m w s ≠ (0, 0) := fun e => hc (by rw [e]); simp [valRes, hne]; done) | (rw [hL.2]; rfl) | (simp [hR.2.2.2.1]; done)))
    · refine TrOps.gT rfl rfl rfl rfl c51 ?_
      refine TrOps.sem (OpSem.move (.inl rfl) rfl) rfl rfl (by decide) ?_
      refine TrOps.gT rfl rfl rfl rfl c51 ?_
      refine TrOps.sem (OpSem.move (.inl rfl) rfl) rfl rfl (by decide) ?_
      refine TrOps.gT rfl rfl rfl rfl c51 ?_
      refine TrOps.sem (OpSem.lenL rfl rfl es27) rfl rfl (by decide) ?_
      refine TrOps.gT rfl rfl rfl rfl c51 ?_
      refine TrOps.sem (OpSem.bin rfl rfl rfl (bsub (by omega) (by omega))) rfl rfl (by decide) ?_
      refine TrOps.gT rfl rfl rfl rfl c51 ?_
      refine TrOps.sem (OpSem.call0 (R_In_does ..) rfl rfl rfl rfl (Les.refl _)) rfl rfl (by decide) ?_
      refine TrOps.gT rfl rfl rfl rfl c51 ?_
      refine TrOps.sem (OpSem.not rfl rfl) rfl rfl (by decide) ?_
      refine TrOps.sem (OpSem.pickF rfl rfl c51 rfl) rfl rfl (by decide) ?_
      refine TrOps.sem (OpSem.move (.inl rfl) rfl) rfl rfl (by decide) ?_
      refine TrOps.split (n := 59) rfl (fun c59 => ?_) (fun c59 => ?_)
      · refine TrOps.gF rfl rfl rfl rfl c59 rfl (by decide) ?_
        refine TrOps.gF rfl rfl rfl rfl c59 rfl (by decide) ?_
        refine TrOps.gF rfl rfl rfl rfl c59 rfl (by decide) ?_
        refine TrOps.gF rfl rfl rfl rfl c59 rfl (by decide) ?_
        refine TrOps.gF rfl rfl rfl rfl c59 rfl (by decide) ?_
        refine TrOps.gF rfl rfl rfl rfl c59 rfl (by decide) ?_
        refine TrOps.sem (OpSem.pickT rfl rfl c59 rfl) rfl rfl (by decide) ?_
        refine TrOps.sem (OpSem.move (.inl rfl) rfl) rfl rfl (by decide) ?_
        refine TrOps.gF rfl rfl rfl rfl rfl rfl (by decide) ?_
        refine TrOps.gF rfl rfl rfl rfl rfl rfl (by decide) ?_
        refine TrOps.gF rfl rfl rfl rfl rfl rfl (by decide) ?_
        refine TrOps.sem (OpSem.pickT rfl rfl rfl rfl) rfl rfl (by decide) ?_
        refine TrOps.nil ?_
        refine At.seq ?_
        refine Tr.condT rfl rfl ?_
        refine Tr.seq ?_
        refine Tr.region ?_
        refine TrOps.sem (OpSem.fieldr rfl rfl fo30_0) rfl rfl (by decide) ?_
        refine TrOps.sem (OpSem.loadb1 rfl rfl rfl vs3 rfl) rfl rfl (by decide) ?_
        refine TrOps.sem (OpSem.bin rfl rfl rfl beql) rfl rfl (by decide) ?_
        refine TrOps.sem (OpSem.move (.inl rfl) rfl) rfl rfl (by decide) ?_
        refine TrOps.split (n := 75) rfl (fun c75 => ?_) (fun c75 => ?_)
        · refine TrOps.gF rfl rfl rfl rfl c75 rfl (by decide) ?_
          refine TrOps.gF rfl rfl rfl rfl c75 rfl (by decide) ?_
          refine TrOps.sem (OpSem.pickT rfl rfl c75 rfl) rfl rfl (by decide) ?_
          refine TrOps.sem (OpSem.move (.inr rfl) rfl) rfl rfl (by decide) ?_
          refine TrOps.nil ?_
          refine At.seq ?_
          refine Tr.ret ?_
          refine At.pass_ret ?_
          exact At.ret rfl (.tmp rfl <| .nil) rfl (Le.bo (by first | rfl | (have hc : (valFault m w s).1 ≠ 0 := (by simpa using c75); have hne : valFault m w s ≠ (0, 0) := fun e => hc (by rw [e]); simp [valRes, hne]; done) | (rw [hL.2]; rfl) | (simp [hR.2.2.2.1]; done)))
        · refine TrOps.gT rfl rfl rfl rfl c75 ?_
          refine TrOps.sem (OpSem.move (.inl rfl) rfl) rfl rfl (by decide) ?_
          refine TrOps.gT rfl rfl rfl rfl c75 ?_
          refine TrOps.sem (OpSem.bin rfl rfl rfl beql) rfl rfl (by decide) ?_
          refine TrOps.sem (OpSem.pickF rfl rfl c75 rfl) rfl rfl (by decide) ?_
          refine TrOps.sem (OpSem.move (.inr rfl) rfl) rfl rfl (by decide) ?_
          refine TrOps.nil ?_
          refine At.seq ?_
          refine Tr.ret ?_
          refine At.pass_ret ?_
          exact At.ret rfl (.tmp rfl <| .nil) rfl (Le.bo (by first | rfl | (have hc : (valFault m w s).1 ≠ 0 := (by simpa using c75); have hne : valFault m w s ≠ (0, 0) := fun e => hc (by rw [e]); simp [valRes, hne]; done) | (rw [hL.2]; rfl) | (simp [hR.2.2.2.1]; done)))
      · refine TrOps.gT rfl rfl rfl rfl c59 ?_
        refine TrOps.sem (OpSem.move (.inl rfl) rfl) rfl rfl (by decide) ?_
        refine TrOps.gT rfl rfl rfl rfl c59 ?_
        refine TrOps.sem (OpSem.move (.inl rfl) rfl) rfl rfl (by decide) ?_
        refine TrOps.gT rfl rfl rfl rfl c59 ?_
        refine TrOps.sem (OpSem.lenL rfl rfl es27) rfl rfl (by decide) ?_
        refine TrOps.gT rfl rfl rfl rfl c59 ?_
        refine TrOps.sem (OpSem.bin rfl rfl rfl (bsub (by omega) (by omega))) rfl rfl (by decide) ?_
        refine TrOps.gT rfl rfl rfl rfl c59 ?_
        refine TrOps.sem (OpSem.call0 (R_In_does ..) rfl rfl rfl rfl (Les.refl _)) rfl rfl (by decide) ?_
        refine TrOps.gT rfl rfl rfl rfl c59 ?_
        refine TrOps.sem (OpSem.not rfl rfl) rfl rfl (by decide) ?_
        refine TrOps.sem (OpSem.pickF rfl rfl c59 rfl) rfl rfl (by decide) ?_
        refine TrOps.sem (OpSem.move (.inl rfl) rfl) rfl rfl (by decide) ?_
        refine TrOps.split (n := 67) rfl (fun c67 => ?_) (fun c67 => ?_)
        · refine TrOps.gF rfl rfl rfl rfl c67 rfl (by decide) ?_
          refine TrOps.gF rfl rfl rfl rfl c67 rfl (by decide) ?_
          refine TrOps.gF rfl rfl rfl rfl c67 rfl (by decide) ?_
          refine TrOps.sem (OpSem.pickT rfl rfl c67 rfl) rfl rfl (by decide) ?_
          refine TrOps.nil ?_
          refine At.seq ?_
          refine Tr.condT rfl rfl ?_
          refine Tr.seq ?_
          refine Tr.region ?_
          refine TrOps.sem (OpSem.fieldr rfl rfl fo30_0) rfl rfl (by decide) ?_
          refine TrOps.sem (OpSem.loadb1 rfl rfl rfl vs3 rfl) rfl rfl (by decide) ?_
          refine TrOps.sem (OpSem.bin rfl rfl rfl beql) rfl rfl (by decide) ?_
          refine TrOps.sem (OpSem.move (.inl rfl) rfl) rfl rfl (by decide) ?_
          refine TrOps.split (n := 75) rfl (fun c75 => ?_) (fun c75 => ?_)
          · refine TrOps.gF rfl rfl rfl rfl c75 rfl (by decide) ?_
            refine TrOps.gF rfl rfl rfl rfl c75 rfl (by decide) ?_
            refine TrOps.sem (OpSem.pickT rfl rfl c75 rfl) rfl rfl (by decide) ?_
            refine TrOps.sem (OpSem.move (.inr rfl) rfl) rfl rfl (by decide) ?_
            refine TrOps.nil ?_
            refine At.seq ?_
            refine Tr.ret ?_
            refine At.pass_ret ?_
            exact At.ret rfl (.tmp rfl <| .nil) rfl (Le.bo (by first | rfl | (have hc : (valFault m w s).1 ≠ 0 := (by simpa using c75); have hne : valFault m w s ≠ (0, 0) := fun e => hc (by rw [e]); simp [valRes, hne]; done) | (rw [hL.2]; rfl) | (simp [hR.2.2.2.1]; done)))
          · refine TrOps.gT rfl rfl rfl rfl c75 ?_
            refine TrOps.sem (OpSem.move (.inl rfl) rfl) rfl rfl (by decide) ?_
            refine TrOps.gT rfl rfl rfl rfl c75 ?_
            refine TrOps.sem (OpSem.bin rfl rfl rfl beql) rfl rfl (by decide) ?_
            refine TrOps.sem (OpSem.pickF rfl rfl c75 rfl) rfl rfl (by decide) ?_
            refine TrOps.sem (OpSem.move (.inr rfl) rfl) rfl rfl (by decide) ?_
            refine TrOps.nil ?_
            refine At.seq ?_
            refine Tr.ret ?_
            refine At.pass_ret ?_
            exact At.ret rfl (.tmp rfl <| .nil) rfl (Le.bo (by first | rfl | (have hc : (valFault m w s).1 ≠ 0 := (by simpa using c75); have hne : valFault m w s ≠ (0, 0) := fun e => hc (by rw [e]); simp [valRes, hne]; done) | (rw [hL.2]; rfl) | (simp [hR.2.2.2.1]; done)))
        · refine TrOps.gT rfl rfl rfl rfl c67 ?_
          refine TrOps.sem (OpSem.move (.inl rfl) rfl) rfl rfl (by decide) ?_
          refine TrOps.gT rfl rfl rfl rfl c67 ?_
          refine TrOps.sem (OpSem.call0 (R_In_does ..) rfl rfl rfl rfl (Les.refl _)) rfl rfl (by decide) ?_
          refine TrOps.gT rfl rfl rfl rfl c67 ?_
          refine TrOps.sem (OpSem.not rfl rfl) rfl rfl (by decide) ?_
          refine TrOps.sem (OpSem.pickF rfl rfl c67 rfl) rfl rfl (by decide) ?_
          refine TrOps.nil ?_
          refine At.seq ?_
          refine Tr.cond rfl (fun c71 => ?_) (fun c71 => ?_)
          · refine Tr.seq ?_
            refine Tr.region ?_
            refine TrOps.sem (OpSem.fieldr rfl rfl fo30_0) rfl rfl (by decide) ?_
            refine TrOps.sem (OpSem.loadb1 rfl rfl rfl vs3 rfl) rfl rfl (by decide) ?_
            refine TrOps.sem (OpSem.bin rfl rfl rfl beql) rfl rfl (by decide) ?_
            refine TrOps.sem (OpSem.move (.inl rfl) rfl) rfl rfl (by decide) ?_
            refine TrOps.split (n := 75) rfl (fun c75 => ?_) (fun c75 => ?_)
            · refine TrOps.gF rfl rfl rfl rfl c75 rfl (by decide) ?_
              refine TrOps.gF rfl rfl rfl rfl c75 rfl (by decide) ?_
              refine TrOps.sem (OpSem.pickT rfl rfl c75 rfl) rfl rfl (by decide) ?_
              refine TrOps.sem (OpSem.move (.inr rfl) rfl) rfl rfl (by decide) ?_
              refine TrOps.nil ?_
              refine At.seq ?_
              refine Tr.ret ?_
              refine At.pass_ret ?_
              exact At.ret rfl (.tmp rfl <| .nil) rfl (Le.bo (by first | rfl | (have hc : (valFault m w s).1 ≠ 0 := (by simpa using c75); have hne : valFault m w s ≠ (0, 0) := fun e => hc (by rw [e]); simp [valRes, hne]; done) | (rw [hL.2]; rfl) | (simp [hR.2.2.2.1]; done)))
            · refine TrOps.gT rfl rfl rfl rfl c75 ?_
              refine TrOps.sem (OpSem.move (.inl rfl) rfl) rfl rfl (by decide) ?_
              refine TrOps.gT rfl rfl rfl rfl c75 ?_
              refine TrOps.sem (OpSem.bin rfl rfl rfl beql) rfl rfl (by decide) ?_
              refine TrOps.sem (OpSem.pickF rfl rfl c75 rfl) rfl rfl (by decide) ?_
              refine TrOps.sem (OpSem.move (.inr rfl) rfl) rfl rfl (by decide) ?_
              refine TrOps.nil ?_
              refine At.seq ?_
              refine Tr.ret ?_
              refine At.pass_ret ?_
              exact At.ret rfl (.tmp rfl <| .nil) rfl (Le.bo (by first | rfl | (have hc : (valFault m w s).1 ≠ 0 := (by simpa using c75); have hne : valFault m w s ≠ (0, 0) := fun e => hc (by rw [e]); simp [valRes, hne]; done) | (rw [hL.2]; rfl) | (simp [hR.2.2.2.1]; done)))
          · have hf1 : (valFault m w s).1 = 0 := by simpa using c46
            have hf2 : (slackRes m w).2.2.1 = 0 := by simpa using c51
            have hpf := slack_code hf2
            obtain ⟨hvd, hs, hw⟩ := valFault_ok (valFault_code hf1)
            have hl := hvd.len
            have hwl := hw.len
            have hv : 0 ≤ v ∧ v < w.length := by simp at c59; omega
            have hu : 0 ≤ u ∧ u < w.length := by simp at c67; omega
            have hb : -1000000 ≤ b ∧ b ≤ 1000000 := by simp at c71; omega
            have hlaw := shift_law (b := b) hpf hs hv.1 hv.2 hu.1 hu.2
            refine Tr.skip ?_
            refine At.seq ?_
            refine Tr.seq ?_
            refine Tr.region ?_
            refine TrOps.sem (OpSem.move (.inr rfl) rfl) rfl rfl (by decide) ?_
            refine TrOps.nil ?_
            refine At.seq ?_
            refine Tr.seq ?_
            refine Tr.seq ?_
            refine Tr.ownNil (n := 18) 18 1 22 rfl ?_
            refine Tr.region ?_
            refine TrOps.sem (OpSem.move (.inr rfl) rfl) rfl rfl (by decide) ?_
            refine TrOps.nil ?_
            refine At.seq ?_
            refine Tr.block ?_
            refine Tr.loop (X := Nat) (fun k => k ≤ w.length) (fun k => [(1, .d (rows w)), (2, .d (ints s)), (3, I (v)), (4, I (u)), (5, I (b)), (6, .r 6 0), (13, I (valRes m w s)), (15, .d (ints ((slackRes m w).1))), (16, I ((slackRes m w).2.1)), (18, .o 18), (19, I (k))]) (fun k => [(18, .own 1 22 ((movedTo w v u b k).map fun r => [ints r])), (6, .box [.d (ints m.sizes), .d (ints m.init), .d (asgs m.goal), .d (opsD m.ops)])]) (fun k => w.length - k) 0 (by omega) ?_ ?_
            · exact .slot rfl (.refl _) <| .slot rfl (.refl _) <| .slot rfl (.refl _) <| .slot rfl (.refl _) <| .slot rfl (.refl _) <| .slot rfl (.refl _) <| .slot rfl (.refl _) <| .slot rfl (.refl _) <| .slot rfl (.refl _) <| .slot rfl (.refl _) <| .slot rfl (Le.of_eq (by simp)) <| .memEq rfl rfl <| .mem rfl <| .nil
            · rintro k hkl
              refine Tr.seq ?_
              refine Tr.seq ?_
              refine Tr.region ?_
              refine TrOps.sem (OpSem.move (.inl rfl) rfl) rfl rfl (by decide) ?_
              refine TrOps.sem (OpSem.move (.inl rfl) rfl) rfl rfl (by decide) ?_
              refine TrOps.sem (OpSem.lenL rfl rfl es27) rfl rfl (by decide) ?_
              refine TrOps.sem (OpSem.bin rfl rfl rfl blss) rfl rfl (by decide) ?_
              refine TrOps.nil ?_
              refine At.seq ?_
              refine Tr.cond rfl (fun c82 => ?_) (fun c82 => ?_)
              · have hk : k < w.length := by simpa using c82
                have hrow := hw.rows k hk
                have hrl := hw.lens k hk
                have hsz := hvd.sizes k (by omega)
                have hml := movedTo_len (w := w) (v := v) (u := u) (b := b) (k := k)
                refine Tr.skip ?_
                refine At.seq ?_
                refine Tr.seq ?_
                refine Tr.block ?_
                refine Tr.seq ?_
                refine Tr.region ?_
                refine TrOps.sem (OpSem.move (.inl rfl) rfl) rfl rfl (by decide) ?_
                refine TrOps.sem (OpSem.move (.inl rfl) rfl) rfl rfl (by decide) ?_
                refine TrOps.sem (OpSem.idxL rfl rfl rfl es27 (by omega) (by omega)) rfl rfl (by decide) ?_
                refine TrOps.sem (OpSem.load1 rfl rfl vs22 rfl) rfl rfl (by decide) ?_
                refine TrOps.semM (OpSem.callO 89 (R_Copy_does (nth w k) (by omega)) rfl rfl rfl rfl (Les.refl _)) rfl rfl (by decide) ?_
                refine TrOps.sem (OpSem.move (.inr rfl) rfl) rfl rfl (by decide) ?_
                refine TrOps.nil ?_
                refine At.seq ?_
                refine Tr.seq ?_
                refine Tr.seq ?_
                refine Tr.region ?_
                refine TrOps.sem (OpSem.move (.inr rfl) rfl) rfl rfl (by decide) ?_
                refine TrOps.nil ?_
                refine At.seq ?_
                refine Tr.block ?_
                refine Tr.loop (X := Nat) (fun j => j ≤ (nth w k).length) (fun j => [(1, .d (rows w)), (2, .d (ints s)), (3, I (v)), (4, I (u)), (5, I (b)), (6, .r 6 0), (13, I (valRes m w s)), (15, .d (ints ((slackRes m w).1))), (16, I ((slackRes m w).2.1)), (18, .o 18), (19, I (k)), (20, .o 89), (21, I (j))]) (fun j => [(89, .own 1 3 ((moveTo (nth w k) (dlt v u b k) j).map fun n => [D.v (.int .i64 n)])), (18, .own 1 22 ((movedTo w v u b k).map fun r => [ints r])), (6, .box [.d (ints m.sizes), .d (ints m.init), .d (asgs m.goal), .d (opsD m.ops)])]) (fun j => (nth w k).length - j) 0 (by omega) ?_ ?_
                · exact .slot rfl (.refl _) <| .slot rfl (.refl _) <| .slot rfl (.refl _) <| .slot rfl (.refl _) <| .slot rfl (.refl _) <| .slot rfl (.refl _) <| .slot rfl (.refl _) <| .slot rfl (.refl _) <| .slot rfl (.refl _) <| .slot rfl (.refl _) <| .slot rfl (.refl _) <| .slot rfl (.refl _) <| .slot rfl (Le.of_eq (by simp)) <| .memEq rfl rfl <| .mem rfl <| .mem rfl <| .nil
                · rintro j hjl
                  refine Tr.seq ?_
                  refine Tr.seq ?_
                  refine Tr.region ?_
                  refine TrOps.sem (OpSem.move (.inl rfl) rfl) rfl rfl (by decide) ?_
                  refine TrOps.sem (OpSem.move (.inl rfl) rfl) rfl rfl (by decide) ?_
                  refine TrOps.sem (OpSem.leno rfl rfl rfl es22) rfl rfl (by decide) ?_
                  refine TrOps.sem (OpSem.bin rfl rfl rfl blss) rfl rfl (by decide) ?_
                  refine TrOps.nil ?_
                  refine At.seq ?_
                  refine Tr.cond rfl (fun c93 => ?_) (fun c93 => ?_)
                  · have hj : j < (nth w k).length := by simpa [moveTo_len] using c93
                    have hjr := hrow j hj
                    have hn := nth_moveTo (r := nth w k) (d := dlt v u b k) hj (j := j) (by omega)
                    rw [if_neg (by omega)] at hn
                    have hmt := moveTo_len (r := nth w k) (d := dlt v u b k) (j := j)
                    refine Tr.skip ?_
                    refine At.seq ?_
                    refine Tr.seq ?_
                    refine Tr.block ?_
                    refine Tr.cut [(1, .d (rows w)), (2, .d (ints s)), (3, I (v)), (4, I (u)), (5, I (b)), (13, I (valRes m w s)), (15, .d (ints ((slackRes m w).1))), (16, I ((slackRes m w).2.1)), (18, .o 18), (19, I (k)), (20, .o 89), (21, I (j)), (6, .r 6 0)] [(6, .box [.d (ints m.sizes), .d (ints m.init), .d (asgs m.goal), .d (opsD m.ops)]), (18, .own 1 22 ((movedTo w v u b k).map fun r => [ints r])), (89, .own 1 3 ((moveA (moveTo (nth w k) (dlt v u b k) j) v b k j).map fun n => [D.v (.int .i64 n)]))] ?_ ?_
                    · refine Tr.seq ?_
                      refine Tr.region ?_
                      refine TrOps.sem (OpSem.move (.inl rfl) rfl) rfl rfl (by decide) ?_
                      refine TrOps.sem (OpSem.move (.inl rfl) rfl) rfl rfl (by decide) ?_
                      refine TrOps.sem (OpSem.bin rfl rfl rfl beql) rfl rfl (by decide) ?_
                      refine TrOps.nil ?_
                      refine At.seq ?_
                      refine Tr.cond rfl (fun c98 => ?_) (fun c98 => ?_)
                      · have hkv : (k : Int) = v := by simpa using c98
                        refine Tr.region ?_
                        refine TrOps.sem (OpSem.move (.inl rfl) rfl) rfl rfl (by decide) ?_
                        refine TrOps.sem (OpSem.move (.inl rfl) rfl) rfl rfl (by decide) ?_
                        refine TrOps.sem (OpSem.move (.inl rfl) rfl) rfl rfl (by decide) ?_
                        refine TrOps.sem (OpSem.move (.inl rfl) rfl) rfl rfl (by decide) ?_
                        refine TrOps.sem (OpSem.idxo rfl rfl rfl rfl es22 (by omega) (by simp [moveTo_len]; omega)) rfl rfl (by decide) ?_
                        refine TrOps.sem (OpSem.loadq rfl rfl rfl vs3 (rows_get (by omega) (by rw [moveTo_len]; omega)) rfl) rfl rfl (by decide) ?_
                        refine TrOps.sem (OpSem.move (.inl rfl) rfl) rfl rfl (by decide) ?_
                        refine TrOps.sem (OpSem.bin rfl rfl rfl (badd (by rw [hn]; omega) (by rw [hn]; omega))) rfl rfl (by decide) ?_
                        refine TrOps.sem (OpSem.idxo rfl rfl rfl rfl es22 (by omega) (by simp [moveTo_len]; omega)) rfl rfl (by decide) ?_
                        refine TrOps.storeq rfl rfl rfl rfl rfl rfl rfl vs3 (rows_get (by omega) (by rw [moveTo_len]; omega)) (by simp) ?_
                        refine TrOps.nil ?_
                        refine At.meet ?_
                        exact .slot rfl (.refl _) <| .slot rfl (.refl _) <| .slot rfl (.refl _) <| .slot rfl (.refl _) <| .slot rfl (.refl _) <| .slot rfl (.refl _) <| .slot rfl (.refl _) <| .slot rfl (.refl _) <| .slot rfl (.refl _) <| .slot rfl (.refl _) <| .slot rfl (.refl _) <| .slot rfl (.refl _) <| .slot rfl (.refl _) <| .mem rfl <| .mem rfl <| .memEq rfl (by have := congrArg (Mo.own 1 3) (moveA_1 (r := (moveTo (nth w k) (dlt v u b k) j)) (b := b) (j := j) hkv); simpa only [Int.toNat_natCast, List.set_cons_zero] using this) <| .nil
                      · have hkv : ¬ (k : Int) = v := by simpa using c98
                        refine Tr.skip ?_
                        refine At.meet ?_
                        exact .slot rfl (.refl _) <| .slot rfl (.refl _) <| .slot rfl (.refl _) <| .slot rfl (.refl _) <| .slot rfl (.refl _) <| .slot rfl (.refl _) <| .slot rfl (.refl _) <| .slot rfl (.refl _) <| .slot rfl (.refl _) <| .slot rfl (.refl _) <| .slot rfl (.refl _) <| .slot rfl (.refl _) <| .slot rfl (.refl _) <| .mem rfl <| .mem rfl <| .memEq rfl (congrArg (Mo.own 1 3) (moveA_0 hkv)) <| .nil
                    · have hnA := nth_moveA (r := (moveTo (nth w k) (dlt v u b k) j)) (v := v) (b := b) (k := k) (j := j) (by rw [moveTo_len]; exact hj)
                      rw [hn] at hnA
                      refine Tr.seq ?_
                      refine Tr.region ?_
                      refine TrOps.sem (OpSem.move (.inl rfl) rfl) rfl rfl (by decide) ?_
                      refine TrOps.sem (OpSem.move (.inl rfl) rfl) rfl rfl (by decide) ?_
                      refine TrOps.sem (OpSem.bin rfl rfl rfl beql) rfl rfl (by decide) ?_
                      refine TrOps.nil ?_
                      refine At.seq ?_
                      refine Tr.cond rfl (fun c110 => ?_) (fun c110 => ?_)
                      · have hku : (k : Int) = u := by simpa using c110
                        refine Tr.region ?_
                        refine TrOps.sem (OpSem.move (.inl rfl) rfl) rfl rfl (by decide) ?_
                        refine TrOps.sem (OpSem.move (.inl rfl) rfl) rfl rfl (by decide) ?_
                        refine TrOps.sem (OpSem.move (.inl rfl) rfl) rfl rfl (by decide) ?_
                        refine TrOps.sem (OpSem.move (.inl rfl) rfl) rfl rfl (by decide) ?_
                        refine TrOps.sem (OpSem.idxo rfl rfl rfl rfl es22 (by omega) (by simp [moveA_len, moveTo_len]; omega)) rfl rfl (by decide) ?_
                        refine TrOps.sem (OpSem.loadq rfl rfl rfl vs3 (rows_get (by omega) (by rw [moveA_len, moveTo_len]; omega)) rfl) rfl rfl (by decide) ?_
                        refine TrOps.sem (OpSem.move (.inl rfl) rfl) rfl rfl (by decide) ?_
                        refine TrOps.sem (OpSem.bin rfl rfl rfl (bsub (by rw [hnA]; split <;> omega) (by rw [hnA]; split <;> omega))) rfl rfl (by decide) ?_
                        refine TrOps.sem (OpSem.idxo rfl rfl rfl rfl es22 (by omega) (by simp [moveA_len, moveTo_len]; omega)) rfl rfl (by decide) ?_
                        refine TrOps.storeq rfl rfl rfl rfl rfl rfl rfl vs3 (rows_get (by omega) (by rw [moveA_len, moveTo_len]; omega)) (by simp) ?_
                        refine TrOps.nil ?_
                        refine At.block_normal ?_
                        refine At.seq ?_
                        refine Tr.region ?_
                        refine TrOps.sem (OpSem.move (.inl rfl) rfl) rfl rfl (by decide) ?_
                        refine TrOps.sem (OpSem.bin rfl rfl rfl (badd (by omega) (by omega))) rfl rfl (by decide) ?_
                        refine TrOps.sem (OpSem.move (.inr rfl) rfl) rfl rfl (by decide) ?_
                        refine TrOps.nil ?_
                        refine At.again (j + 1) (by omega) ?_ (by omega)
                        exact .slot rfl (.refl _) <| .slot rfl (.refl _) <| .slot rfl (.refl _) <| .slot rfl (.refl _) <| .slot rfl (.refl _) <| .slot rfl (.refl _) <| .slot rfl (.refl _) <| .slot rfl (.refl _) <| .slot rfl (.refl _) <| .slot rfl (.refl _) <| .slot rfl (.refl _) <| .slot rfl (.refl _) <| .slot rfl (Le.of_eq (by simp)) <| .memEq rfl (by have := congrArg (Mo.own 1 3) (move_1 (v := v) (b := b) hj hku); simpa only [Int.toNat_natCast, List.set_cons_zero] using this) <| .mem rfl <| .mem rfl <| .nil
                      · have hku : ¬ (k : Int) = u := by simpa using c110
                        refine Tr.skip ?_
                        refine At.block_normal ?_
                        refine At.seq ?_
                        refine Tr.region ?_
                        refine TrOps.sem (OpSem.move (.inl rfl) rfl) rfl rfl (by decide) ?_
                        refine TrOps.sem (OpSem.bin rfl rfl rfl (badd (by omega) (by omega))) rfl rfl (by decide) ?_
                        refine TrOps.sem (OpSem.move (.inr rfl) rfl) rfl rfl (by decide) ?_
                        refine TrOps.nil ?_
                        refine At.again (j + 1) (by omega) ?_ (by omega)
                        exact .slot rfl (.refl _) <| .slot rfl (.refl _) <| .slot rfl (.refl _) <| .slot rfl (.refl _) <| .slot rfl (.refl _) <| .slot rfl (.refl _) <| .slot rfl (.refl _) <| .slot rfl (.refl _) <| .slot rfl (.refl _) <| .slot rfl (.refl _) <| .slot rfl (.refl _) <| .slot rfl (.refl _) <| .slot rfl (Le.of_eq (by simp)) <| .memEq rfl (by have := congrArg (Mo.own 1 3) (move_0 (v := v) (b := b) hj hku); simpa only [Int.toNat_natCast, List.set_cons_zero] using this) <| .mem rfl <| .mem rfl <| .nil
                  · have hj : j = (nth w k).length := by simp [moveTo_len] at c93; omega
                    refine Tr.exit ?_
                    refine At.pass_exit ?_
                    refine At.pass_exit ?_
                    refine At.block_same ?_
                    refine At.seq ?_
                    refine Tr.freeze 89 rfl ?_
                    refine Tr.region ?_
                    refine TrOps.sem (OpSem.move (.inl rfl) rfl) rfl rfl (by decide) ?_
                    refine TrOps.sem (OpSem.move (.inl rfl) rfl) rfl rfl (by decide) ?_
                    refine TrOps.sem (OpSem.buildSlice rfl rfl es27 ze27 rfl rfl (by decide) (by decide) rfl rfl) rfl rfl (by decide) ?_
                    refine TrOps.append rfl rfl rfl (by decide) rfl rfl rfl es27 el27 zc22 rfl by22 (by simp [D.one, Value.oneCell']) (by simp [maxLen, hml]; omega) (by simp [hml]; omega) ?_
                    refine TrOps.sem (OpSem.move (.inr rfl) rfl) rfl rfl (by decide) ?_
                    refine TrOps.nil ?_
                    refine At.block_normal ?_
                    refine At.seq ?_
                    refine Tr.region ?_
                    refine TrOps.sem (OpSem.move (.inl rfl) rfl) rfl rfl (by decide) ?_
                    refine TrOps.sem (OpSem.bin rfl rfl rfl (badd (by omega) (by omega))) rfl rfl (by decide) ?_
                    refine TrOps.sem (OpSem.move (.inr rfl) rfl) rfl rfl (by decide) ?_
                    refine TrOps.nil ?_
                    subst hj
                    refine At.again (k + 1) (by omega) ?_ (by omega)
                    exact .slot rfl (.refl _) <| .slot rfl (.refl _) <| .slot rfl (.refl _) <| .slot rfl (.refl _) <| .slot rfl (.refl _) <| .slot rfl (.refl _) <| .slot rfl (.refl _) <| .slot rfl (.refl _) <| .slot rfl (.refl _) <| .slot rfl (.refl _) <| .slot rfl (Le.of_eq (by simp)) <| .memEq rfl (by rw [movedTo_s, List.map_append, moveTo_end]; rfl) <| .mem rfl <| .nil
              · have hk : k = w.length := by simp at c82; omega
                subst hk
                refine Tr.exit ?_
                refine At.pass_exit ?_
                refine At.pass_exit ?_
                refine At.block_same ?_
                refine At.seq ?_
                refine Tr.seq ?_
                refine Tr.freeze 18 rfl ?_
                refine Tr.region ?_
                refine TrOps.sem (OpSem.loadbN rfl rfl rfl vs26 (by first | decide | simp)) rfl rfl (by decide) ?_
                refine TrOps.sem (OpSem.move (.inl rfl) rfl) rfl rfl (by decide) ?_
                refine TrOps.sem (OpSem.move (.inl rfl) rfl) rfl rfl (by decide) ?_
                refine TrOps.sem (OpSem.call0 (potential_Value_does ..) rfl rfl rfl rfl (Les.refl _)) rfl rfl (by decide) ?_
                refine TrOps.sem (OpSem.move (.inl rfl) rfl) rfl rfl (by decide) ?_
                refine TrOps.sem (OpSem.extract rfl rfl rfl) rfl rfl (by decide) ?_
                refine TrOps.sem (OpSem.extract rfl rfl rfl) rfl rfl (by decide) ?_
                refine TrOps.semM (OpSem.alloc 23 rfl zc30 rfl) rfl rfl (by decide) ?_
                refine TrOps.sem (OpSem.move (.inr rfl) rfl) rfl rfl (by decide) ?_
                refine TrOps.storeb rfl rfl rfl rfl rfl rfl rfl vs30 (by first | decide | simp) ?_
                refine TrOps.nil ?_
                refine At.seq ?_
                refine Tr.seq ?_
                refine Tr.region ?_
                refine TrOps.sem (OpSem.loadbN rfl rfl rfl vs26 (by first | decide | simp)) rfl rfl (by decide) ?_
                refine TrOps.sem (OpSem.move (.inl rfl) rfl) rfl rfl (by decide) ?_
                refine TrOps.sem (OpSem.call0 (potential_Slack_does ..) rfl rfl rfl rfl (Les.refl _)) rfl rfl (by decide) ?_
                refine TrOps.sem (OpSem.move (.inl rfl) rfl) rfl rfl (by decide) ?_
                refine TrOps.sem (OpSem.extract rfl rfl rfl) rfl rfl (by decide) ?_
                refine TrOps.sem (OpSem.extract rfl rfl rfl) rfl rfl (by decide) ?_
                refine TrOps.sem (OpSem.extract rfl rfl rfl) rfl rfl (by decide) ?_
                refine TrOps.semM (OpSem.alloc 26 rfl zc30 rfl) rfl rfl (by decide) ?_
                refine TrOps.sem (OpSem.move (.inr rfl) rfl) rfl rfl (by decide) ?_
                refine TrOps.sem (OpSem.move (.inr rfl) rfl) rfl rfl (by decide) ?_
                refine TrOps.storeb rfl rfl rfl rfl rfl rfl rfl vs30 (by first | decide | simp) ?_
                refine TrOps.nil ?_
                refine At.seq ?_
                refine Tr.seq ?_
                refine Tr.seq ?_
                refine Tr.region ?_
                refine TrOps.sem (OpSem.fieldr rfl rfl fo30_0) rfl rfl (by decide) ?_
                refine TrOps.sem (OpSem.loadb1 rfl rfl rfl vs3 rfl) rfl rfl (by decide) ?_
                refine TrOps.sem (OpSem.bin rfl rfl rfl bneq) rfl rfl (by decide) ?_
                refine TrOps.sem (OpSem.move (.inl rfl) rfl) rfl rfl (by decide) ?_
                refine TrOps.split (n := 141) rfl (fun c141 => ?_) (fun c141 => ?_)
                · refine TrOps.gF rfl rfl rfl rfl c141 rfl (by decide) ?_
                  refine TrOps.gF rfl rfl rfl rfl c141 rfl (by decide) ?_
                  refine TrOps.gF rfl rfl rfl rfl c141 rfl (by decide) ?_
                  refine TrOps.sem (OpSem.pickT rfl rfl c141 rfl) rfl rfl (by decide) ?_
                  refine TrOps.nil ?_
                  refine At.seq ?_
                  refine Tr.condT rfl rfl ?_
                  refine Tr.seq ?_
                  have hL := hlaw.resolve_right (fun h => by first | (simp [h.1] at c141; done) | (simp [h.2.1] at c145; done))
                  refine Tr.region ?_
                  refine TrOps.sem (OpSem.fieldr rfl rfl fo30_0) rfl rfl (by decide) ?_
                  refine TrOps.sem (OpSem.loadb1 rfl rfl rfl vs3 rfl) rfl rfl (by decide) ?_
                  refine TrOps.sem (OpSem.bin rfl rfl rfl beql) rfl rfl (by decide) ?_
                  refine TrOps.sem (OpSem.move (.inl rfl) rfl) rfl rfl (by decide) ?_
                  refine TrOps.gT rfl rfl rfl rfl (by rw [hL.1]; rfl) ?_
                  refine TrOps.sem (OpSem.fieldr rfl rfl fo30_0) rfl rfl (by decide) ?_
                  refine TrOps.gT rfl rfl rfl rfl (by rw [hL.1]; rfl) ?_
                  refine TrOps.sem (OpSem.loadb1 rfl rfl rfl vs3 rfl) rfl rfl (by decide) ?_
                  refine TrOps.gT rfl rfl rfl rfl (by rw [hL.1]; rfl) ?_
                  refine TrOps.sem (OpSem.bin rfl rfl rfl beql) rfl rfl (by decide) ?_
                  refine TrOps.sem (OpSem.pickT rfl rfl (by rw [hL.1]; rfl) rfl) rfl rfl (by decide) ?_
                  refine TrOps.sem (OpSem.move (.inr rfl) rfl) rfl rfl (by decide) ?_
                  refine TrOps.nil ?_
                  refine At.seq ?_
                  refine Tr.ret ?_
                  refine At.pass_ret ?_
                  exact At.ret rfl (.tmp rfl <| .nil) rfl (Le.bo (by first | rfl | (have hc : (valFault m w s).1 ≠ 0 := (by simpa using c75); have hne : valFault m w s ≠ (0, 0) := fun e => hc (by rw [e]); simp [valRes, hne]; done) | (rw [hL.2]; rfl) | (simp [hR.2.2.2.1]; done)))
                · refine TrOps.gT rfl rfl rfl rfl c141 ?_
                  refine TrOps.sem (OpSem.fieldr rfl rfl fo30_0) rfl rfl (by decide) ?_
                  refine TrOps.gT rfl rfl rfl rfl c141 ?_
                  refine TrOps.sem (OpSem.loadb1 rfl rfl rfl vs3 rfl) rfl rfl (by decide) ?_
                  refine TrOps.gT rfl rfl rfl rfl c141 ?_
                  refine TrOps.sem (OpSem.bin rfl rfl rfl bneq) rfl rfl (by decide) ?_
                  refine TrOps.sem (OpSem.pickF rfl rfl c141 rfl) rfl rfl (by decide) ?_
                  refine TrOps.nil ?_
                  refine At.seq ?_
                  refine Tr.cond rfl (fun c145 => ?_) (fun c145 => ?_)
                  · refine Tr.seq ?_
                    have hL := hlaw.resolve_right (fun h => by first | (simp [h.1] at c141; done) | (simp [h.2.1] at c145; done))
                    refine Tr.region ?_
                    refine TrOps.sem (OpSem.fieldr rfl rfl fo30_0) rfl rfl (by decide) ?_
                    refine TrOps.sem (OpSem.loadb1 rfl rfl rfl vs3 rfl) rfl rfl (by decide) ?_
                    refine TrOps.sem (OpSem.bin rfl rfl rfl beql) rfl rfl (by decide) ?_
                    refine TrOps.sem (OpSem.move (.inl rfl) rfl) rfl rfl (by decide) ?_
                    refine TrOps.gT rfl rfl rfl rfl (by rw [hL.1]; rfl) ?_
                    refine TrOps.sem (OpSem.fieldr rfl rfl fo30_0) rfl rfl (by decide) ?_
                    refine TrOps.gT rfl rfl rfl rfl (by rw [hL.1]; rfl) ?_
                    refine TrOps.sem (OpSem.loadb1 rfl rfl rfl vs3 rfl) rfl rfl (by decide) ?_
                    refine TrOps.gT rfl rfl rfl rfl (by rw [hL.1]; rfl) ?_
                    refine TrOps.sem (OpSem.bin rfl rfl rfl beql) rfl rfl (by decide) ?_
                    refine TrOps.sem (OpSem.pickT rfl rfl (by rw [hL.1]; rfl) rfl) rfl rfl (by decide) ?_
                    refine TrOps.sem (OpSem.move (.inr rfl) rfl) rfl rfl (by decide) ?_
                    refine TrOps.nil ?_
                    refine At.seq ?_
                    refine Tr.ret ?_
                    refine At.pass_ret ?_
                    exact At.ret rfl (.tmp rfl <| .nil) rfl (Le.bo (by first | rfl | (have hc : (valFault m w s).1 ≠ 0 := (by simpa using c75); have hne : valFault m w s ≠ (0, 0) := fun e => hc (by rw [e]); simp [valRes, hne]; done) | (rw [hL.2]; rfl) | (simp [hR.2.2.2.1]; done)))
                  · refine Tr.skip ?_
                    refine At.seq ?_
                    refine Tr.seq ?_
                    have hR := hlaw.resolve_left (fun h => by simp [h.1] at c141)
                    refine Tr.region ?_
                    refine TrOps.sem (OpSem.move (.inl rfl) rfl) rfl rfl (by decide) ?_
                    refine TrOps.sem (OpSem.move (.inl rfl) rfl) rfl rfl (by decide) ?_
                    refine TrOps.sem (OpSem.bin rfl rfl rfl beql) rfl rfl (by decide) ?_
                    refine TrOps.sem (OpSem.move (.inl rfl) rfl) rfl rfl (by decide) ?_
                    refine TrOps.gT rfl rfl rfl rfl (by rw [hR.2.2.1]; simp) ?_
                    refine TrOps.sem (OpSem.move (.inl rfl) rfl) rfl rfl (by decide) ?_
                    refine TrOps.gT rfl rfl rfl rfl (by rw [hR.2.2.1]; simp) ?_
                    refine TrOps.sem (OpSem.move (.inl rfl) rfl) rfl rfl (by decide) ?_
                    refine TrOps.gT rfl rfl rfl rfl (by rw [hR.2.2.1]; simp) ?_
                    refine TrOps.sem (OpSem.bin rfl rfl rfl beql) rfl rfl (by decide) ?_
                    refine TrOps.sem (OpSem.pickT rfl rfl (by rw [hR.2.2.1]; simp) rfl) rfl rfl (by decide) ?_
                    refine TrOps.sem (OpSem.move (.inl rfl) rfl) rfl rfl (by decide) ?_
                    refine TrOps.gT rfl rfl rfl rfl (by rw [hR.2.2.2.2]; simp) ?_
                    refine TrOps.sem (OpSem.move (.inl rfl) rfl) rfl rfl (by decide) ?_
                    refine TrOps.gT rfl rfl rfl rfl (by rw [hR.2.2.2.2]; simp) ?_
                    refine TrOps.sem (OpSem.move (.inl rfl) rfl) rfl rfl (by decide) ?_
                    refine TrOps.gT rfl rfl rfl rfl (by rw [hR.2.2.2.2]; simp) ?_
                    refine TrOps.sem (OpSem.call0 (R_Ints_does ..) rfl rfl rfl rfl (Les.refl _)) rfl rfl (by decide) ?_
                    refine TrOps.sem (OpSem.pickT rfl rfl (by rw [hR.2.2.2.2]; simp) rfl) rfl rfl (by decide) ?_
                    refine TrOps.sem (OpSem.move (.inr rfl) rfl) rfl rfl (by decide) ?_
                    refine TrOps.nil ?_
                    refine At.seq ?_
                    refine Tr.ret ?_
                    exact At.ret rfl (.tmp rfl <| .nil) rfl (Le.bo (by first | rfl | (have hc : (valFault m w s).1 ≠ 0 := (by simpa using c75); have hne : valFault m w s ≠ (0, 0) := fun e => hc (by rw [e]); simp [valRes, hne]; done) | (rw [hL.2]; rfl) | (simp [hR.2.2.2.1]; done)))

end Go.Proofs.Ytofjjeogoobopaa
