/- Walks, written by gen.py out of hints. -/
import Derived.Test.YtohlmcebphcokaaTypes
import Derived.Test.YtohlmcebphcokaaRank
import Derived.Test.YtohlmcebphcokaaEngJ
set_option linter.unusedVariables false
set_option linter.unusedSimpArgs false
namespace Go.Proofs.Ytohlmcebphcokaa
open Go.Eng
set_option maxRecDepth 10000
set_option maxHeartbeats 1000000

theorem R_MultiCosts_does (m : Multi) (hv : Valid m) : DoesO Try.prog 18 [multi m] 1 3 (((costs m).map fun n => [D.v (.int .i64 n)])) := by
  have hN := nR_in hv
  have hol := hv.opsLen
  refine DoesO.of_body Try.func18 rfl rfl (by simp) Try.call18 (fun w0 O0 => ?_)
  refine Tr.lenG (n := 0) (i := 0) rfl rfl (fun len0_0 => ?_)
  refine Tr.lenG (n := 0) (i := 1) rfl rfl (fun len0_1 => ?_)
  refine Tr.lenG (n := 0) (i := 2) rfl rfl (fun len0_2 => ?_)
  refine Tr.lenG (n := 0) (i := 3) rfl rfl (fun len0_3 => ?_)
  refine Tr.seq ?_
  refine Tr.region ?_
  refine TrOps.semM (OpSem.box 1 rfl rfl rfl rfl) rfl rfl (by decide) ?_
  refine TrOps.sem (OpSem.move (.inr rfl) rfl) rfl rfl (by decide) ?_
  refine TrOps.nil ?_
  refine At.seq ?_
  refine Tr.seq ?_
  refine Tr.region ?_
  refine TrOps.sem (OpSem.move (.inr rfl) rfl) rfl rfl (by decide) ?_
  refine TrOps.nil ?_
  refine At.seq ?_
  refine Tr.seq ?_
  refine Tr.seq ?_
  refine Tr.ownNil (n := 3) 3 1 3 rfl ?_
  refine Tr.region ?_
  refine TrOps.sem (OpSem.move (.inr rfl) rfl) rfl rfl (by decide) ?_
  refine TrOps.nil ?_
  refine At.seq ?_
  refine Tr.block ?_
  refine Tr.loop (X := Nat) (fun k => k ≤ nR m) (fun k => [(1, .r 1 0), (3, .o 3), (4, I (k))]) (fun k => [(3, .own 1 3 ((initC m k).map fun n => [D.v (.int .i64 n)])), (1, .box [.d (ints m.sizes), .d (ints m.init), .d (asgs m.goal), .d (opsD m.ops)])]) (fun k => nR m - k) 0 (by omega) ?_ ?_
  · exact .slot rfl (.refl _) <| .slot rfl (.refl _) <| .slot rfl (Le.of_eq (by simp)) <| .memEq rfl (by simp [initC]) <| .mem rfl <| .nil
  · rintro k hkl
    refine Tr.seq ?_
    refine Tr.seq ?_
    refine Tr.region ?_
    refine TrOps.sem (OpSem.move (.inl rfl) rfl) rfl rfl (by decide) ?_
    refine TrOps.sem (OpSem.loadbN rfl rfl rfl vs26 (by first | decide | simp)) rfl rfl (by decide) ?_
    refine TrOps.sem (OpSem.call0 (R_Ranks_does m hv) rfl rfl rfl rfl (Les.refl _)) rfl rfl (by decide) ?_
    refine TrOps.sem (OpSem.bin rfl rfl rfl blss) rfl rfl (by decide) ?_
    refine TrOps.nil ?_
    refine At.seq ?_
    refine Tr.cond rfl (fun c13 => ?_) (fun c13 => ?_)
    · have hk : k < nR m := by simp at c13; omega
      have hst := unrank_state (n := k) hv.sizes
      have hin : ∀ l : List Asg, AsgsP m.sizes l → ∀ i : Nat, i < l.length → 0 ≤ (nth l i).1 ∧ (nth l i).1 < (unrank m.sizes k).length := fun l hl i hi => ⟨(hl i hi).1, by have := (hl i hi).2.1; rw [hst.1]; exact this⟩
      refine Tr.skip ?_
      refine At.seq ?_
      refine Tr.seq ?_
      refine Tr.block ?_
      refine Tr.seq ?_
      refine PC.start [] ?_
      refine PC.sem (OpSem.loadbN rfl rfl rfl vs26 (by first | decide | simp)) rfl rfl ?_
      refine PC.sem (OpSem.move (.inl rfl) rfl) rfl rfl ?_
      refine PC.sem (OpSem.call0 (R_Unrank_does m k hv (by omega) (by omega)).fresh rfl rfl rfl rfl (Les.refl _)) rfl rfl ?_
      refine PC.sem (OpSem.fieldr rfl rfl fo26_2) rfl rfl ?_
      refine PC.sem (OpSem.loadb1 rfl rfl rfl vs23 rfl) rfl rfl ?_
      refine PC.done0 mixed (by kernel_rfl) (by kernel_rfl) (by kernel_rfl) (by kernel_rfl) (by kernel_rfl) ?_
      refine TrOps.sem (OpSem.call0 (R_MultiHolds_does (unrank m.sizes k) _ (hin _ hv.goal)) rfl rfl rfl rfl (Les.refl _)) rfl rfl (by decide) ?_
      refine TrOps.nil ?_
      refine At.seq ?_
      refine Tr.cond rfl (fun c21 => ?_) (fun c21 => ?_)
      · refine Tr.region ?_
        refine TrOps.sem (OpSem.move (.inl rfl) rfl) rfl rfl (by decide) ?_
        refine TrOps.sem (OpSem.buildSlice rfl rfl es22 ze22 rfl rfl (by decide) (by decide) rfl rfl) rfl rfl (by decide) ?_
        refine TrOps.append rfl rfl rfl (by decide) rfl rfl rfl es22 el22 zc3 rfl by3 (by simp [D.one, Value.oneCell']) (by simp [maxLen, initC_len]; omega) (by simp [initC_len]; omega) ?_
        refine TrOps.sem (OpSem.move (.inr rfl) rfl) rfl rfl (by decide) ?_
        refine TrOps.nil ?_
        refine At.block_normal ?_
        refine At.seq ?_
        refine Tr.region ?_
        refine TrOps.sem (OpSem.move (.inl rfl) rfl) rfl rfl (by decide) ?_
        refine TrOps.sem (OpSem.bin rfl rfl rfl (badd (by omega) (by omega))) rfl rfl (by decide) ?_
        refine TrOps.sem (OpSem.move (.inr rfl) rfl) rfl rfl (by decide) ?_
        refine TrOps.nil ?_
        refine At.again (k + 1) (by omega) ?_ (by omega)
        exact .slot rfl (.refl _) <| .slot rfl (.refl _) <| .slot rfl (Le.of_eq (by simp)) <| .memEq rfl (by rw [initC_s]; simp only [stAt]; simp [c21]) <| .mem rfl <| .nil
      · refine Tr.region ?_
        refine TrOps.sem (OpSem.move (.inl rfl) rfl) rfl rfl (by decide) ?_
        refine TrOps.sem (OpSem.buildSlice rfl rfl es22 ze22 rfl rfl (by decide) (by decide) rfl rfl) rfl rfl (by decide) ?_
        refine TrOps.append rfl rfl rfl (by decide) rfl rfl rfl es22 el22 zc3 rfl by3 (by simp [D.one, Value.oneCell']) (by simp [maxLen, initC_len]; omega) (by simp [initC_len]; omega) ?_
        refine TrOps.sem (OpSem.move (.inr rfl) rfl) rfl rfl (by decide) ?_
        refine TrOps.nil ?_
        refine At.block_normal ?_
        refine At.seq ?_
        refine Tr.region ?_
        refine TrOps.sem (OpSem.move (.inl rfl) rfl) rfl rfl (by decide) ?_
        refine TrOps.sem (OpSem.bin rfl rfl rfl (badd (by omega) (by omega))) rfl rfl (by decide) ?_
        refine TrOps.sem (OpSem.move (.inr rfl) rfl) rfl rfl (by decide) ?_
        refine TrOps.nil ?_
        refine At.again (k + 1) (by omega) ?_ (by omega)
        exact .slot rfl (.refl _) <| .slot rfl (.refl _) <| .slot rfl (Le.of_eq (by simp)) <| .memEq rfl (by rw [initC_s]; simp only [stAt]; simp [c21]) <| .mem rfl <| .nil
    · have hk : k = nR m := by simp at c13; omega
      subst hk
      refine Tr.exit ?_
      refine At.pass_exit ?_
      refine At.pass_exit ?_
      refine At.block_same ?_
      refine At.seq ?_
      refine Tr.seq ?_
      refine Tr.seq ?_
      refine Tr.region ?_
      refine TrOps.sem (OpSem.move (.inr rfl) rfl) rfl rfl (by decide) ?_
      refine TrOps.nil ?_
      refine At.seq ?_
      refine Tr.block ?_
      refine Tr.loop (X := Nat) (fun j => True) (fun j => [(1, .r 1 0), (3, .o 3), (5, Bo (flagC m j))]) (fun j => [(3, .own 1 3 ((itC m j).map fun n => [D.v (.int .i64 n)])), (1, .box [.d (ints m.sizes), .d (ints m.init), .d (asgs m.goal), .d (opsD m.ops)])]) (fun j => (itC m j).sum.toNat + (if flagC m j = true then 1 else 0)) 0 trivial ?_ ?_
      · exact .slot rfl (.refl _) <| .slot rfl (.refl _) <| .slot rfl (.refl _) <| .memEq rfl rfl <| .mem rfl <| .nil
      · rintro j _
        refine Tr.seq ?_
        refine Tr.seq ?_
        refine Tr.region ?_
        refine TrOps.sem (OpSem.move (.inl rfl) rfl) rfl rfl (by decide) ?_
        refine TrOps.nil ?_
        refine At.seq ?_
        refine Tr.cond rfl (fun c28 => ?_) (fun c28 => ?_)
        · refine Tr.skip ?_
          refine At.seq ?_
          refine Tr.block ?_
          refine Tr.seq ?_
          refine Tr.region ?_
          refine TrOps.sem (OpSem.move (.inr rfl) rfl) rfl rfl (by decide) ?_
          refine TrOps.nil ?_
          refine At.seq ?_
          refine Tr.seq ?_
          refine Tr.region ?_
          refine TrOps.sem (OpSem.move (.inr rfl) rfl) rfl rfl (by decide) ?_
          refine TrOps.nil ?_
          refine At.seq ?_
          refine Tr.block ?_
          refine Tr.loop (X := Nat) (fun n => n ≤ nR m) (fun n => [(1, .r 1 0), (3, .o 3), (5, Bo ((sweepTo m (itC m j) n).2)), (6, I (n))]) (fun n => [(3, .own 1 3 (((sweepTo m (itC m j) n).1).map fun n => [D.v (.int .i64 n)])), (1, .box [.d (ints m.sizes), .d (ints m.init), .d (asgs m.goal), .d (opsD m.ops)])]) (fun n => nR m - n) 0 (by omega) ?_ ?_
          · exact .slot rfl (.refl _) <| .slot rfl (.refl _) <| .slot rfl (.refl _) <| .slot rfl (Le.of_eq (by simp)) <| .memEq rfl rfl <| .mem rfl <| .nil
          · rintro n hnl
            have hg := sweepTo_good hv (itC_good hv j) hnl
            refine Tr.seq ?_
            refine Tr.seq ?_
            refine Tr.region ?_
            refine TrOps.sem (OpSem.move (.inl rfl) rfl) rfl rfl (by decide) ?_
            refine TrOps.sem (OpSem.move (.inl rfl) rfl) rfl rfl (by decide) ?_
            refine TrOps.sem (OpSem.leno rfl rfl rfl es22) rfl rfl (by decide) ?_
            refine TrOps.sem (OpSem.bin rfl rfl rfl blss) rfl rfl (by decide) ?_
            refine TrOps.nil ?_
            refine At.seq ?_
            refine Tr.cond rfl (fun c32 => ?_) (fun c32 => ?_)
            · have hn : n < nR m := by have := hg.1; simp at c32; omega
              have hst := unrank_state (n := n) hv.sizes
              have hin : ∀ l : List Asg, AsgsP m.sizes l → ∀ i : Nat, i < l.length → 0 ≤ (nth l i).1 ∧ (nth l i).1 < (unrank m.sizes n).length := fun l hl i hi => ⟨(hl i hi).1, by have := (hl i hi).2.1; rw [hst.1]; exact this⟩
              refine Tr.skip ?_
              refine At.seq ?_
              refine Tr.seq ?_
              refine Tr.block ?_
              refine Tr.seq ?_
              refine Tr.region ?_
              refine TrOps.sem (OpSem.loadbN rfl rfl rfl vs26 (by first | decide | simp)) rfl rfl (by decide) ?_
              refine TrOps.sem (OpSem.move (.inl rfl) rfl) rfl rfl (by decide) ?_
              refine TrOps.semM (OpSem.callO 37 (R_Unrank_does m n hv (by omega) (by omega)) rfl rfl rfl rfl (Les.refl _)) rfl rfl (by decide) ?_
              refine TrOps.sem (OpSem.move (.inr rfl) rfl) rfl rfl (by decide) ?_
              refine TrOps.nil ?_
              refine At.seq ?_
              refine Tr.seq ?_
              refine Tr.region ?_
              refine TrOps.sem (OpSem.move (.inr rfl) rfl) rfl rfl (by decide) ?_
              refine TrOps.nil ?_
              refine At.seq ?_
              refine Tr.block ?_
              refine Tr.loop (X := Nat) (fun i => i ≤ m.ops.length) (fun i => [(1, .r 1 0), (3, .o 3), (5, Bo ((opsTo m (sweepTo m (itC m j) n) n i).2)), (6, I (n)), (7, .o 37), (8, I (i))]) (fun i => [(3, .own 1 3 (((opsTo m (sweepTo m (itC m j) n) n i).1).map fun n => [D.v (.int .i64 n)])), (37, .own 1 3 ((unrank m.sizes n).map fun n => [D.v (.int .i64 n)])), (1, .box [.d (ints m.sizes), .d (ints m.init), .d (asgs m.goal), .d (opsD m.ops)])]) (fun i => m.ops.length - i) 0 (by omega) ?_ ?_
              · exact .slot rfl (.refl _) <| .slot rfl (.refl _) <| .slot rfl (.refl _) <| .slot rfl (.refl _) <| .slot rfl (.refl _) <| .slot rfl (Le.of_eq (by simp)) <| .memEq rfl rfl <| .mem rfl <| .mem rfl <| .nil
              · rintro i hil
                have hgo := opsTo_good hv hg hn hil
                refine Tr.seq ?_
                refine Tr.seq ?_
                refine Tr.region ?_
                refine TrOps.sem (OpSem.move (.inl rfl) rfl) rfl rfl (by decide) ?_
                refine TrOps.sem (OpSem.fieldr rfl rfl fo26_3) rfl rfl (by decide) ?_
                refine TrOps.sem (OpSem.loadb1 rfl rfl rfl vs24 rfl) rfl rfl (by decide) ?_
                refine TrOps.sem (OpSem.lenL rfl rfl es24) rfl rfl (by decide) ?_
                refine TrOps.sem (OpSem.bin rfl rfl rfl blss) rfl rfl (by decide) ?_
                refine TrOps.nil ?_
                refine At.seq ?_
                refine Tr.cond rfl (fun c42 => ?_) (fun c42 => ?_)
                · have hi : i < m.ops.length := by simpa using c42
                  have ho := hv.op i hi
                  have hns := nextS_in hst ho.2.1
                  have hr := rkAt_in hv (n := n) hi
                  have hc1 := hgo.2 _ hr.1 hr.2
                  have hc2 := hgo.2 n (by omega) (by omega)
                  have hlen := hgo.1
                  refine Tr.skip ?_
                  refine At.seq ?_
                  refine Tr.seq ?_
                  refine Tr.block ?_
                  refine Tr.seq ?_
                  refine Tr.seq ?_
                  refine Tr.region ?_
                  refine TrOps.sem (OpSem.move (.inl rfl) rfl) rfl rfl (by decide) ?_
                  refine TrOps.sem (OpSem.fieldr rfl rfl fo26_3) rfl rfl (by decide) ?_
                  refine TrOps.sem (OpSem.loadb1 rfl rfl rfl vs24 rfl) rfl rfl (by decide) ?_
                  refine TrOps.sem (OpSem.move (.inl rfl) rfl) rfl rfl (by decide) ?_
                  refine TrOps.sem (OpSem.idxL rfl rfl rfl es24 (by omega) (by omega)) rfl rfl (by decide) ?_
                  refine TrOps.sem (OpSem.fieldp rfl rfl fo81_0) rfl rfl (by decide) ?_
                  refine TrOps.sem (OpSem.load1 rfl rfl vs23 rfl) rfl rfl (by decide) ?_
                  refine TrOps.sem (OpSem.call (R_MultiHolds_does (unrank m.sizes n) _ (hin _ ho.1)) (.inr rfl) rfl rfl rfl rfl (Les.refl _)) rfl rfl (by decide) ?_
                  refine TrOps.sem (OpSem.not rfl rfl) rfl rfl (by decide) ?_
                  refine TrOps.nil ?_
                  refine At.seq ?_
                  refine Tr.cond rfl (fun c53 => ?_) (fun c53 => ?_)
                  · refine Tr.exit ?_
                    refine At.pass_exit ?_
                    refine At.block_same ?_
                    refine At.seq ?_
                    refine Tr.region ?_
                    refine TrOps.sem (OpSem.move (.inl rfl) rfl) rfl rfl (by decide) ?_
                    refine TrOps.sem (OpSem.bin rfl rfl rfl (badd (by omega) (by omega))) rfl rfl (by decide) ?_
                    refine TrOps.sem (OpSem.move (.inr rfl) rfl) rfl rfl (by decide) ?_
                    refine TrOps.nil ?_
                    have hS : opsTo m (sweepTo m (itC m j) n) n (i + 1) = _ := stepC_0 (by simpa using c53)
                    refine At.again (i + 1) (by omega) ?_ (by omega)
                    exact .slot rfl (.refl _) <| .slot rfl (.refl _) <| .slot rfl (Le.bo (by rw [hS])) <| .slot rfl (.refl _) <| .slot rfl (.refl _) <| .slot rfl (Le.of_eq (by simp)) <| .memEq rfl (by rw [hS]) <| .mem rfl <| .mem rfl <| .nil
                  · refine Tr.skip ?_
                    refine At.seq ?_
                    refine Tr.seq ?_
                    refine PC.start [] ?_
                    refine PC.sem (OpSem.move (.inl rfl) rfl) rfl rfl ?_
                    refine PC.sem (OpSem.loadbN rfl rfl rfl vs26 (by first | decide | simp)) rfl rfl ?_
                    refine PC.sem (OpSem.loadbN rfl rfl rfl vs26 (by first | decide | simp)) rfl rfl ?_
                    refine PC.sem (OpSem.move (.inl rfl) rfl) rfl rfl ?_
                    refine PC.sem (OpSem.move (.inl rfl) rfl) rfl rfl ?_
                    refine PC.sem (OpSem.call (R_MultiAfter_does m (unrank m.sizes n) i hv hst (by omega) (by omega)).fresh (.inl rfl) rfl rfl rfl rfl (Les.refl _)) rfl rfl ?_
                    refine PC.sem (OpSem.call0 (show Does Try.prog false 19 [multi m, .d (ints (nextS (unrank m.sizes n) (nth m.ops i).post))] (I (rkAt m n i)) from R_Rank_does m _ hv hns) rfl rfl rfl rfl (Les.refl _)) rfl rfl ?_
                    refine PC.done0 mixed (by kernel_rfl) (by kernel_rfl) (by kernel_rfl) (by kernel_rfl) (by kernel_rfl) ?_
                    refine TrOps.sem (OpSem.idxo rfl rfl rfl rfl es22 (by omega) (by simp; omega)) rfl rfl (by decide) ?_
                    refine TrOps.sem (OpSem.loadq rfl rfl rfl vs3 (rows_get (by omega) (by omega)) rfl) rfl rfl (by decide) ?_
                    refine TrOps.sem (OpSem.move (.inr rfl) rfl) rfl rfl (by decide) ?_
                    refine TrOps.nil ?_
                    refine At.seq ?_
                    refine Tr.seq ?_
                    refine PC.start [] ?_
                    refine PC.sem (OpSem.move (.inl rfl) rfl) rfl rfl ?_
                    refine PC.sem (OpSem.bin rfl rfl rfl blss) rfl rfl ?_
                    refine PC.sem (OpSem.move (.inl rfl) rfl) rfl rfl ?_
                    refine PC.split (n := 65) rfl (fun c65 => ?_) (fun c65 => ?_)
                    · refine PC.gT (OpSem.move (.inl rfl) rfl) rfl rfl rfl rfl c65 rfl ?_
                      refine PC.gT (OpSem.fieldr rfl rfl fo26_3) rfl rfl rfl rfl c65 rfl ?_
                      refine PC.gT (OpSem.loadb1 rfl rfl rfl vs24 rfl) rfl rfl rfl rfl c65 rfl ?_
                      refine PC.gT (OpSem.move (.inl rfl) rfl) rfl rfl rfl rfl c65 rfl ?_
                      refine PC.gT (OpSem.idxL rfl rfl rfl es24 (by omega) (by omega)) rfl rfl rfl rfl c65 rfl ?_
                      refine PC.gT (OpSem.fieldp rfl rfl fo81_2) rfl rfl rfl rfl c65 rfl ?_
                      refine PC.gT (OpSem.load1 rfl rfl vs3 rfl) rfl rfl rfl rfl c65 rfl ?_
                      refine PC.gT (OpSem.bin rfl rfl rfl (badd (by omega) (by omega))) rfl rfl rfl rfl c65 rfl ?_
                      refine PC.gT (OpSem.move (.inl rfl) rfl) rfl rfl rfl rfl c65 rfl ?_
                      refine PC.gT (OpSem.move (.inl rfl) rfl) rfl rfl rfl rfl c65 rfl ?_
                      refine PC.gT (OpSem.idxo rfl rfl rfl rfl es22 (by omega) (by simp; omega)) rfl rfl rfl rfl c65 rfl ?_
                      refine PC.gT (OpSem.loadq rfl rfl rfl vs3 (rows_get (by omega) (by omega)) rfl) rfl rfl rfl rfl c65 rfl ?_
                      refine PC.done0 mixed (by kernel_rfl) (by kernel_rfl) (by kernel_rfl) (by kernel_rfl) (by kernel_rfl) ?_
                      refine TrOps.gT rfl rfl rfl rfl c65 ?_
                      refine TrOps.sem (OpSem.bin rfl rfl rfl blss) rfl rfl (by decide) ?_
                      refine TrOps.sem (OpSem.pickT rfl rfl c65 rfl) rfl rfl (by decide) ?_
                      refine TrOps.nil ?_
                      refine At.seq ?_
                      refine Tr.cond rfl (fun c79 => ?_) (fun c79 => ?_)
                      · refine Tr.seq ?_
                        refine Tr.region ?_
                        refine TrOps.sem (OpSem.move (.inl rfl) rfl) rfl rfl (by decide) ?_
                        refine TrOps.sem (OpSem.move (.inl rfl) rfl) rfl rfl (by decide) ?_
                        refine TrOps.sem (OpSem.move (.inl rfl) rfl) rfl rfl (by decide) ?_
                        refine TrOps.sem (OpSem.fieldr rfl rfl fo26_3) rfl rfl (by decide) ?_
                        refine TrOps.sem (OpSem.loadb1 rfl rfl rfl vs24 rfl) rfl rfl (by decide) ?_
                        refine TrOps.sem (OpSem.move (.inl rfl) rfl) rfl rfl (by decide) ?_
                        refine TrOps.sem (OpSem.idxL rfl rfl rfl es24 (by omega) (by omega)) rfl rfl (by decide) ?_
                        refine TrOps.sem (OpSem.fieldp rfl rfl fo81_2) rfl rfl (by decide) ?_
                        refine TrOps.sem (OpSem.load1 rfl rfl vs3 rfl) rfl rfl (by decide) ?_
                        refine TrOps.sem (OpSem.bin rfl rfl rfl (badd (by omega) (by omega))) rfl rfl (by decide) ?_
                        refine TrOps.sem (OpSem.idxo rfl rfl rfl rfl es22 (by omega) (by simp; omega)) rfl rfl (by decide) ?_
                        refine TrOps.storeq rfl rfl rfl rfl rfl rfl rfl vs3 (rows_get (by omega) (by omega)) (by simp) ?_
                        refine TrOps.nil ?_
                        refine At.seq ?_
                        refine Tr.region ?_
                        refine TrOps.sem (OpSem.move (.inr rfl) rfl) rfl rfl (by decide) ?_
                        refine TrOps.nil ?_
                        refine At.block_normal ?_
                        refine At.seq ?_
                        refine Tr.region ?_
                        refine TrOps.sem (OpSem.move (.inl rfl) rfl) rfl rfl (by decide) ?_
                        refine TrOps.sem (OpSem.bin rfl rfl rfl (badd (by omega) (by omega))) rfl rfl (by decide) ?_
                        refine TrOps.sem (OpSem.move (.inr rfl) rfl) rfl rfl (by decide) ?_
                        refine TrOps.nil ?_
                        have hS : opsTo m (sweepTo m (itC m j) n) n (i + 1) = _ := stepC_1 (by simpa using c53) (by simpa using c65) (by simpa using c79)
                        refine At.again (i + 1) (by omega) ?_ (by omega)
                        exact .slot rfl (.refl _) <| .slot rfl (.refl _) <| .slot rfl (Le.bo (by rw [hS])) <| .slot rfl (.refl _) <| .slot rfl (.refl _) <| .slot rfl (Le.of_eq (by simp)) <| .memEq rfl (by rw [hS]; exact congrArg (Mo.own 1 3) (rows_set (f := fun n => [D.v (.int .i64 n)]))) <| .mem rfl <| .mem rfl <| .nil
                      · refine Tr.skip ?_
                        refine At.block_normal ?_
                        refine At.seq ?_
                        refine Tr.region ?_
                        refine TrOps.sem (OpSem.move (.inl rfl) rfl) rfl rfl (by decide) ?_
                        refine TrOps.sem (OpSem.bin rfl rfl rfl (badd (by omega) (by omega))) rfl rfl (by decide) ?_
                        refine TrOps.sem (OpSem.move (.inr rfl) rfl) rfl rfl (by decide) ?_
                        refine TrOps.nil ?_
                        have hS : opsTo m (sweepTo m (itC m j) n) n (i + 1) = _ := stepC_2 (fun h => by have := h.2; simp at c79; omega)
                        refine At.again (i + 1) (by omega) ?_ (by omega)
                        exact .slot rfl (.refl _) <| .slot rfl (.refl _) <| .slot rfl (Le.bo (by rw [hS])) <| .slot rfl (.refl _) <| .slot rfl (.refl _) <| .slot rfl (Le.of_eq (by simp)) <| .memEq rfl (by rw [hS]) <| .mem rfl <| .mem rfl <| .nil
                    · refine PC.gF rfl rfl rfl rfl c65 rfl ?_
                      refine PC.gF rfl rfl rfl rfl c65 rfl ?_
                      refine PC.gF rfl rfl rfl rfl c65 rfl ?_
                      refine PC.gF rfl rfl rfl rfl c65 rfl ?_
                      refine PC.gF rfl rfl rfl rfl c65 rfl ?_
                      refine PC.gF rfl rfl rfl rfl c65 rfl ?_
                      refine PC.gF rfl rfl rfl rfl c65 rfl ?_
                      refine PC.gF rfl rfl rfl rfl c65 rfl ?_
                      refine PC.gF rfl rfl rfl rfl c65 rfl ?_
                      refine PC.gF rfl rfl rfl rfl c65 rfl ?_
                      refine PC.gF rfl rfl rfl rfl c65 rfl ?_
                      refine PC.gF rfl rfl rfl rfl c65 rfl ?_
                      refine PC.done0 mixed (by kernel_rfl) (by kernel_rfl) (by kernel_rfl) (by kernel_rfl) (by kernel_rfl) ?_
                      refine TrOps.gF rfl rfl rfl rfl c65 rfl (by decide) ?_
                      refine TrOps.sem (OpSem.pickF rfl rfl c65 rfl) rfl rfl (by decide) ?_
                      refine TrOps.nil ?_
                      refine At.seq ?_
                      refine Tr.condF rfl rfl ?_
                      refine Tr.skip ?_
                      refine At.block_normal ?_
                      refine At.seq ?_
                      refine Tr.region ?_
                      refine TrOps.sem (OpSem.move (.inl rfl) rfl) rfl rfl (by decide) ?_
                      refine TrOps.sem (OpSem.bin rfl rfl rfl (badd (by omega) (by omega))) rfl rfl (by decide) ?_
                      refine TrOps.sem (OpSem.move (.inr rfl) rfl) rfl rfl (by decide) ?_
                      refine TrOps.nil ?_
                      have hS : opsTo m (sweepTo m (itC m j) n) n (i + 1) = _ := stepC_2 (fun h => by have := h.1; simp at c65; omega)
                      refine At.again (i + 1) (by omega) ?_ (by omega)
                      exact .slot rfl (.refl _) <| .slot rfl (.refl _) <| .slot rfl (Le.bo (by rw [hS])) <| .slot rfl (.refl _) <| .slot rfl (.refl _) <| .slot rfl (Le.of_eq (by simp)) <| .memEq rfl (by rw [hS]) <| .mem rfl <| .mem rfl <| .nil
                · have hi : i = m.ops.length := by simp at c42; omega
                  subst hi
                  refine Tr.exit ?_
                  refine At.pass_exit ?_
                  refine At.pass_exit ?_
                  refine At.block_same ?_
                  refine At.block_normal ?_
                  refine At.seq ?_
                  refine Tr.region ?_
                  refine TrOps.sem (OpSem.move (.inl rfl) rfl) rfl rfl (by decide) ?_
                  refine TrOps.sem (OpSem.bin rfl rfl rfl (badd (by omega) (by omega))) rfl rfl (by decide) ?_
                  refine TrOps.sem (OpSem.move (.inr rfl) rfl) rfl rfl (by decide) ?_
                  refine TrOps.nil ?_
                  refine At.again (n + 1) (by omega) ?_ (by omega)
                  exact .slot rfl (.refl _) <| .slot rfl (.refl _) <| .slot rfl (.refl _) <| .slot rfl (Le.of_eq (by simp)) <| .memEq rfl rfl <| .mem rfl <| .nil
            · have hn : n = nR m := by have := hg.1; simp at c32; omega
              subst hn
              refine Tr.exit ?_
              refine At.pass_exit ?_
              refine At.pass_exit ?_
              refine At.block_same ?_
              refine At.block_normal ?_
              refine At.again (j + 1) trivial ?_ (flag_lt hv c28)
              exact .slot rfl (.refl _) <| .slot rfl (.refl _) <| .slot rfl (.refl _) <| .mem rfl <| .mem rfl <| .nil
        · refine Tr.exit ?_
          refine At.pass_exit ?_
          refine At.pass_exit ?_
          refine At.block_same ?_
          refine At.seq ?_
          refine Tr.seq ?_
          refine Tr.region ?_
          refine TrOps.sem (OpSem.move (.inl rfl) rfl) rfl rfl (by decide) ?_
          refine TrOps.sem (OpSem.move (.inr rfl) rfl) rfl rfl (by decide) ?_
          refine TrOps.nil ?_
          refine At.seq ?_
          refine Tr.ret ?_
          exact At.retO2 rfl rfl rfl (by simp) (by rw [flag_end hv c28])

end Go.Proofs.Ytohlmcebphcokaa
