/- Walks, written by gen.py out of hints. -/
import Derived.Test.YtohlmcebphcokaaTypes
import Derived.Test.YtohlmcebphcokaaLawPart
import Derived.Test.YtohlmcebphcokaaAtom
import Derived.Test.YtohlmcebphcokaaEngY2
set_option linter.unusedVariables false
set_option linter.unusedSimpArgs false
namespace Go.Proofs.Ytohlmcebphcokaa
open Go.Eng
set_option maxRecDepth 10000
set_option maxHeartbeats 1000000

theorem law_atoms_does (m : Multi) (f : Int) (hv : Valid m) (hf : 0 ≤ f) : Does Try.prog false 20 [multi m, I (f)] (.t [.d (abssD (atomsL m f)), Bo true]) := by
  have hln := hv.len
  have hn6 := nAt_in hv hf
  have hmod := Int.emod_nonneg f (show (m.sizes.length : Int) ≠ 0 by omega)
  have hmod2 := Int.emod_lt_of_pos f (show (0 : Int) < m.sizes.length by omega)
  refine Does.of_body Try.func20 rfl rfl (by simp) Try.call20 (fun w0 O0 => ?_)
  refine Tr.lenG (n := 0) (i := 0) rfl rfl (fun len0_0 => ?_)
  refine Tr.lenG (n := 0) (i := 1) rfl rfl (fun len0_1 => ?_)
  refine Tr.lenG (n := 0) (i := 2) rfl rfl (fun len0_2 => ?_)
  refine Tr.lenG (n := 0) (i := 3) rfl rfl (fun len0_3 => ?_)
  refine Tr.seq ?_
  refine Tr.region ?_
  refine TrOps.semM (OpSem.box 2 rfl rfl rfl rfl) rfl rfl (by decide) ?_
  refine TrOps.sem (OpSem.move (.inr rfl) rfl) rfl rfl (by decide) ?_
  refine TrOps.sem (OpSem.move (.inr rfl) rfl) rfl rfl (by decide) ?_
  refine TrOps.nil ?_
  refine At.seq ?_
  refine Tr.seq ?_
  refine Tr.region ?_
  refine TrOps.sem (OpSem.move (.inr rfl) rfl) rfl rfl (by decide) ?_
  refine TrOps.nil ?_
  refine At.seq ?_
  refine Tr.seq ?_
  refine Tr.seq ?_
  refine Tr.ownNil (n := 6) 6 5 46 rfl ?_
  refine Tr.region ?_
  refine TrOps.sem (OpSem.move (.inr rfl) rfl) rfl rfl (by decide) ?_
  refine TrOps.nil ?_
  refine At.seq ?_
  refine Tr.block ?_
  refine Tr.loop (X := Nat) (fun k => k ≤ nAt m) (fun k => [(1, I (f)), (2, .r 2 0), (6, .o 6), (7, I (k))]) (fun k => [(6, .own 5 46 ((atomsTo m f k).map absC)), (2, .box [.d (ints m.sizes), .d (ints m.init), .d (asgs m.goal), .d (opsD m.ops)])]) (fun k => nAt m - k) 0 (by omega) ?_ ?_
  · exact .slot rfl (.refl _) <| .slot rfl (.refl _) <| .slot rfl (.refl _) <| .slot rfl (Le.of_eq (by simp)) <| .memEq rfl (by simp [atomsTo]) <| .mem rfl <| .nil
  · rintro k hkl
    refine Tr.seq ?_
    refine Tr.seq ?_
    refine Tr.region ?_
    refine TrOps.sem (OpSem.move (.inl rfl) rfl) rfl rfl (by decide) ?_
    refine TrOps.sem (OpSem.fieldr rfl rfl fo26_0) rfl rfl (by decide) ?_
    refine TrOps.sem (OpSem.loadb1 rfl rfl rfl vs22 rfl) rfl rfl (by decide) ?_
    refine TrOps.sem (OpSem.lenL rfl rfl es22) rfl rfl (by decide) ?_
    refine TrOps.sem (OpSem.bin rfl rfl rfl blss) rfl rfl (by decide) ?_
    refine TrOps.sem (OpSem.move (.inl rfl) rfl) rfl rfl (by decide) ?_
    refine TrOps.split (n := 15) rfl (fun c15 => ?_) (fun c15 => ?_)
    · refine TrOps.gT rfl rfl rfl rfl c15 ?_
      refine TrOps.sem (OpSem.move (.inl rfl) rfl) rfl rfl (by decide) ?_
      refine TrOps.gT rfl rfl rfl rfl c15 ?_
      refine TrOps.sem (OpSem.bin rfl rfl rfl blss) rfl rfl (by decide) ?_
      refine TrOps.sem (OpSem.pickT rfl rfl c15 rfl) rfl rfl (by decide) ?_
      refine TrOps.nil ?_
      refine At.seq ?_
      refine Tr.cond rfl (fun c18 => ?_) (fun c18 => ?_)
      · have hk : k < nAt m := by simp at c15 c18; unfold nAt; omega
        have hva := vAt_in hv hf (i := k)
        obtain ⟨hAF, hAR⟩ := atomF_0 (v := vAt m f k) (validate_of hv) (by omega)
        refine Tr.skip ?_
        refine At.seq ?_
        refine Tr.seq ?_
        refine Tr.block ?_
        refine Tr.seq ?_
        refine PC.start [] ?_
        refine PC.sem (OpSem.loadbN rfl rfl rfl vs26 (by first | decide | simp)) rfl rfl ?_
        refine PC.sem (OpSem.move (.inl rfl) rfl) rfl rfl ?_
        refine PC.sem (OpSem.fieldr rfl rfl fo26_0) rfl rfl ?_
        refine PC.sem (OpSem.loadb1 rfl rfl rfl vs22 rfl) rfl rfl ?_
        refine PC.sem (OpSem.lenL rfl rfl es22) rfl rfl ?_
        refine PC.sem (OpSem.bin rfl rfl rfl (brem (by omega) (by omega))) rfl rfl ?_
        refine PC.sem (OpSem.move (.inl rfl) rfl) rfl rfl ?_
        refine PC.sem (OpSem.bin rfl rfl rfl (badd (by omega) (by omega))) rfl rfl ?_
        refine PC.sem (OpSem.fieldr rfl rfl fo26_0) rfl rfl ?_
        refine PC.sem (OpSem.loadb1 rfl rfl rfl vs22 rfl) rfl rfl ?_
        refine PC.sem (OpSem.lenL rfl rfl es22) rfl rfl ?_
        refine PC.sem (OpSem.bin rfl rfl rfl (brem (by omega) (by omega))) rfl rfl ?_
        refine PC.sem (OpSem.call0 (abstraction_Atomic_does m (vAt m f k)) rfl rfl rfl rfl (Les.refl _)) rfl rfl ?_
        refine PC.sem (OpSem.move (.inl rfl) rfl) rfl rfl ?_
        refine PC.sem (OpSem.extract rfl rfl rfl) rfl rfl ?_
        refine PC.sem (OpSem.extract rfl rfl rfl) rfl rfl ?_
        refine PC.semM (OpSem.alloc 8 rfl zc46 rfl) rfl rfl ?_
        refine PC.semM (OpSem.alloc 9 rfl zc29 rfl) rfl rfl ?_
        refine PC.doneLn 18 15 8 (.box [I (0), I (0), .d (.v (.slice none 0 0)), I (0), .d (.v (.slice none 0 0))]) 9 (.box [I (0), I (0)]) mixed (by kernel_rfl) (by kernel_rfl) (by kernel_rfl) (by kernel_rfl) (by kernel_rfl) rfl rfl rfl rfl rfl (by repeat' (first | exact .nil | (apply DropR.hit; rfl) | (apply DropR.miss; rfl))) (by kernel_rfl) (by kernel_rfl) (by kernel_rfl) ?_ ?_
        · refine TrOps.storeb rfl rfl rfl rfl rfl rfl rfl vs46 (by first | decide | simp) ?_
          refine TrOps.storeb rfl rfl rfl rfl rfl rfl rfl vs29 (by first | decide | simp) ?_
          refine TrOps.nil ?_
          refine At.seq ?_
          refine Tr.seq ?_
          refine Tr.seq ?_
          refine Tr.region ?_
          refine TrOps.sem (OpSem.fieldr rfl rfl fo29_0) rfl rfl (by decide) ?_
          refine TrOps.sem (OpSem.loadb1 rfl rfl rfl vs3 rfl) rfl rfl (by decide) ?_
          refine TrOps.sem (OpSem.bin rfl rfl rfl bneq) rfl rfl (by decide) ?_
          refine TrOps.nil ?_
          refine At.seq ?_
          refine Tr.condF rfl (by rw [hAF]; rfl) ?_
          refine Tr.skip ?_
          refine At.seq ?_
          refine Tr.region ?_
          refine TrOps.sem (OpSem.move (.inl rfl) rfl) rfl rfl (by decide) ?_
          refine TrOps.sem (OpSem.loadbN rfl rfl rfl vs46 (by first | decide | simp)) rfl rfl (by decide) ?_
          refine TrOps.sem (OpSem.buildSlice rfl rfl es34 ze34 rfl rfl (by decide) (by decide) rfl rfl) rfl rfl (by decide) ?_
          refine TrOps.append rfl rfl rfl (by decide) rfl rfl rfl es34 el34 zc46 rfl by46 (by simp [D.one, Value.oneCell']) (by simp [maxLen, atomsTo_len]; unfold nAt at hk; omega) (by simp [atomsTo_len]; unfold nAt at hk; omega) ?_
          refine TrOps.sem (OpSem.move (.inr rfl) rfl) rfl rfl (by decide) ?_
          refine TrOps.nil ?_
          refine At.block_normal ?_
          refine At.seq ?_
          refine Tr.region ?_
          refine TrOps.sem (OpSem.move (.inl rfl) rfl) rfl rfl (by decide) ?_
          refine TrOps.sem (OpSem.bin rfl rfl rfl (badd (by omega) (by omega))) rfl rfl (by decide) ?_
          refine TrOps.sem (OpSem.move (.inr rfl) rfl) rfl rfl (by decide) ?_
          refine TrOps.nil ?_
          refine At.again (k + 1) (by omega) ?_ (by omega)
          exact .slot rfl (.refl _) <| .slot rfl (.refl _) <| .slot rfl (.refl _) <| .slot rfl (Le.of_eq (by simp)) <| .memEq rfl (by simp [atomsTo_s, hAR]) <| .mem rfl <| .nil
        · refine TrOps.storeb rfl rfl rfl rfl rfl rfl rfl vs46 (by first | decide | simp) ?_
          refine TrOps.sem (OpSem.extract rfl rfl rfl) rfl rfl (by decide) ?_
          refine TrOps.storeb rfl rfl rfl rfl rfl rfl rfl vs29 (by first | decide | simp) ?_
          refine TrOps.nil ?_
          refine At.seq ?_
          refine Tr.seq ?_
          refine Tr.seq ?_
          refine Tr.region ?_
          refine TrOps.sem (OpSem.fieldr rfl rfl fo29_0) rfl rfl (by decide) ?_
          refine TrOps.sem (OpSem.loadb1 rfl rfl rfl vs3 rfl) rfl rfl (by decide) ?_
          refine TrOps.sem (OpSem.bin rfl rfl rfl bneq) rfl rfl (by decide) ?_
          refine TrOps.nil ?_
          refine At.seq ?_
          refine Tr.condF rfl (by rw [hAF]; rfl) ?_
          refine Tr.skip ?_
          refine At.seq ?_
          refine Tr.region ?_
          refine TrOps.sem (OpSem.move (.inl rfl) rfl) rfl rfl (by decide) ?_
          refine TrOps.sem (OpSem.loadbN rfl rfl rfl vs46 (by first | decide | simp)) rfl rfl (by decide) ?_
          refine TrOps.sem (OpSem.buildSlice rfl rfl es34 ze34 rfl rfl (by decide) (by decide) rfl rfl) rfl rfl (by decide) ?_
          refine TrOps.append rfl rfl rfl (by decide) rfl rfl rfl es34 el34 zc46 rfl by46 (by simp [D.one, Value.oneCell']) (by simp [maxLen, atomsTo_len]; unfold nAt at hk; omega) (by simp [atomsTo_len]; unfold nAt at hk; omega) ?_
          refine TrOps.sem (OpSem.move (.inr rfl) rfl) rfl rfl (by decide) ?_
          refine TrOps.nil ?_
          refine At.block_normal ?_
          refine At.seq ?_
          refine Tr.region ?_
          refine TrOps.sem (OpSem.move (.inl rfl) rfl) rfl rfl (by decide) ?_
          refine TrOps.sem (OpSem.bin rfl rfl rfl (badd (by omega) (by omega))) rfl rfl (by decide) ?_
          refine TrOps.sem (OpSem.move (.inr rfl) rfl) rfl rfl (by decide) ?_
          refine TrOps.nil ?_
          refine At.again (k + 1) (by omega) ?_ (by omega)
          exact .slot rfl (.refl _) <| .slot rfl (.refl _) <| .slot rfl (.refl _) <| .slot rfl (Le.of_eq (by simp)) <| .memEq rfl (by simp [atomsTo_s, hAR]) <| .mem rfl <| .nil
      · have hk : k = nAt m := by simp at c15 c18; unfold nAt at hkl ⊢; omega
        refine Tr.exit ?_
        refine At.pass_exit ?_
        refine At.pass_exit ?_
        refine At.block_same ?_
        refine At.seq ?_
        refine Tr.seq ?_
        refine Tr.freeze 6 rfl ?_
        refine Tr.region ?_
        refine TrOps.sem (OpSem.move (.inl rfl) rfl) rfl rfl (by decide) ?_
        refine TrOps.sem (OpSem.move (.inr rfl) rfl) rfl rfl (by decide) ?_
        refine TrOps.sem (OpSem.move (.inr rfl) rfl) rfl rfl (by decide) ?_
        refine TrOps.nil ?_
        refine At.seq ?_
        refine Tr.ret ?_
        exact At.ret rfl (.tmp rfl <| .tmp rfl <| .nil) rfl (by rw [hk]; exact .refl _)
    · have hk : k = nAt m := by simp at c15; unfold nAt at hkl ⊢; omega
      refine TrOps.gF rfl rfl rfl rfl c15 rfl (by decide) ?_
      refine TrOps.gF rfl rfl rfl rfl c15 rfl (by decide) ?_
      refine TrOps.sem (OpSem.pickF rfl rfl c15 rfl) rfl rfl (by decide) ?_
      refine TrOps.nil ?_
      refine At.seq ?_
      refine Tr.condF rfl rfl ?_
      refine Tr.exit ?_
      refine At.pass_exit ?_
      refine At.pass_exit ?_
      refine At.block_same ?_
      refine At.seq ?_
      refine Tr.seq ?_
      refine Tr.freeze 6 rfl ?_
      refine Tr.region ?_
      refine TrOps.sem (OpSem.move (.inl rfl) rfl) rfl rfl (by decide) ?_
      refine TrOps.sem (OpSem.move (.inr rfl) rfl) rfl rfl (by decide) ?_
      refine TrOps.sem (OpSem.move (.inr rfl) rfl) rfl rfl (by decide) ?_
      refine TrOps.nil ?_
      refine At.seq ?_
      refine Tr.ret ?_
      exact At.ret rfl (.tmp rfl <| .tmp rfl <| .nil) rfl (by rw [hk]; exact .refl _)

theorem law_PartitionAdmissible_does (m : Multi) (f : Int) : Does Try.prog false 3 [multi m, I (f)] (Bo true) := by
  refine Does.of_body Try.func3 rfl rfl (by simp) Try.call3 (fun w0 O0 => ?_)
  refine Tr.lenG (n := 0) (i := 0) rfl rfl (fun len0_0 => ?_)
  refine Tr.lenG (n := 0) (i := 1) rfl rfl (fun len0_1 => ?_)
  refine Tr.lenG (n := 0) (i := 2) rfl rfl (fun len0_2 => ?_)
  refine Tr.lenG (n := 0) (i := 3) rfl rfl (fun len0_3 => ?_)
  refine Tr.seq ?_
  refine Tr.region ?_
  refine TrOps.semM (OpSem.box 2 rfl rfl rfl rfl) rfl rfl (by decide) ?_
  refine TrOps.sem (OpSem.move (.inr rfl) rfl) rfl rfl (by decide) ?_
  refine TrOps.nil ?_
  refine At.seq ?_
  refine Tr.seq ?_
  refine Tr.seq ?_
  refine Tr.region ?_
  refine TrOps.sem (OpSem.call0 (law_partitionExample_does) rfl rfl rfl rfl (Les.refl _)) rfl rfl (by decide) ?_
  refine TrOps.sem (OpSem.not rfl rfl) rfl rfl (by decide) ?_
  refine TrOps.nil ?_
  refine At.seq ?_
  refine Tr.condF rfl rfl ?_
  refine Tr.skip ?_
  refine At.seq ?_
  refine Tr.seq ?_
  refine Tr.seq ?_
  refine Tr.region ?_
  refine TrOps.sem (OpSem.loadbN rfl rfl rfl vs26 (by first | decide | simp)) rfl rfl (by decide) ?_
  refine TrOps.sem (OpSem.call0 (R_MultiFault_does ..) rfl rfl rfl rfl (Les.refl _)) rfl rfl (by decide) ?_
  refine TrOps.sem (OpSem.field1 rfl rfl f1_29_0 rfl) rfl rfl (by decide) ?_
  refine TrOps.sem (OpSem.bin rfl rfl rfl bneq) rfl rfl (by decide) ?_
  refine TrOps.sem (OpSem.move (.inl rfl) rfl) rfl rfl (by decide) ?_
  refine TrOps.split (n := 26) rfl (fun c26 => ?_) (fun c26 => ?_)
  · refine TrOps.gF rfl rfl rfl rfl c26 rfl (by decide) ?_
    refine TrOps.gF rfl rfl rfl rfl c26 rfl (by decide) ?_
    refine TrOps.sem (OpSem.pickT rfl rfl c26 rfl) rfl rfl (by decide) ?_
    refine TrOps.sem (OpSem.move (.inl rfl) rfl) rfl rfl (by decide) ?_
    refine TrOps.gF rfl rfl rfl rfl rfl rfl (by decide) ?_
    refine TrOps.gF rfl rfl rfl rfl rfl rfl (by decide) ?_
    refine TrOps.gF rfl rfl rfl rfl rfl rfl (by decide) ?_
    refine TrOps.sem (OpSem.pickT rfl rfl rfl rfl) rfl rfl (by decide) ?_
    refine TrOps.nil ?_
    refine At.seq ?_
    refine Tr.condT rfl rfl ?_
    refine Tr.seq ?_
    refine Tr.region ?_
    refine TrOps.sem (OpSem.move (.inr rfl) rfl) rfl rfl (by decide) ?_
    refine TrOps.nil ?_
    refine At.seq ?_
    refine Tr.ret ?_
    refine At.pass_ret ?_
    exact At.ret rfl (.tmp rfl <| .nil) rfl (Le.bo (by first | rfl | (rw [hk]; exact decide_eq_true (bTo_le hv hf))))
  · have h0 : validate m = (0, 0) := validate_code (by simpa using c26)
    have hv := valid_of h0
    refine TrOps.gT rfl rfl rfl rfl c26 ?_
    refine TrOps.sem (OpSem.move (.inl rfl) rfl) rfl rfl (by decide) ?_
    refine TrOps.gT rfl rfl rfl rfl c26 ?_
    refine TrOps.sem (OpSem.bin rfl rfl rfl blss) rfl rfl (by decide) ?_
    refine TrOps.sem (OpSem.pickF rfl rfl c26 rfl) rfl rfl (by decide) ?_
    refine TrOps.sem (OpSem.move (.inl rfl) rfl) rfl rfl (by decide) ?_
    refine TrOps.split (n := 30) rfl (fun c30 => ?_) (fun c30 => ?_)
    · refine TrOps.gF rfl rfl rfl rfl c30 rfl (by decide) ?_
      refine TrOps.gF rfl rfl rfl rfl c30 rfl (by decide) ?_
      refine TrOps.gF rfl rfl rfl rfl c30 rfl (by decide) ?_
      refine TrOps.sem (OpSem.pickT rfl rfl c30 rfl) rfl rfl (by decide) ?_
      refine TrOps.nil ?_
      refine At.seq ?_
      refine Tr.condT rfl rfl ?_
      refine Tr.seq ?_
      refine Tr.region ?_
      refine TrOps.sem (OpSem.move (.inr rfl) rfl) rfl rfl (by decide) ?_
      refine TrOps.nil ?_
      refine At.seq ?_
      refine Tr.ret ?_
      refine At.pass_ret ?_
      exact At.ret rfl (.tmp rfl <| .nil) rfl (Le.bo (by first | rfl | (rw [hk]; exact decide_eq_true (bTo_le hv hf))))
    · have hf : 0 ≤ f := by simpa using c30
      have hol := hv.opsLen
      have hcl := (costs_good hv).1
      have hrk := rank_in hv.sizes hv.init
      have hNR := nR_in hv
      have hn := nAt_in hv hf
      have hlab := atoms_lab hv hf
      have hU := atoms_uni hv hf
      have hll := atomsL_len (m := m) (f := f)
      have hVl := satV_len hv hf
      have hUl := uniL_len hv hf
      have hrng : ∀ k : Nat, k < (atomsL m f).length → -9223372036854775808 ≤ (nth (atomsL m f) k).states ∧ (nth (atomsL m f) k).states ≤ 9223372036854775807 := fun k hk => by rw [hll] at hk; rw [atomsL_at hk]; have hva := vAt_in hv hf (i := k); have := size_in hv hva.1 hva.2; show _ ≤ nth m.sizes (vAt m f k) ∧ nth m.sizes (vAt m f k) ≤ _; omega
      have hva0 := vAt_in hv hf (i := 0)
      have hat0 : nth (atomsL m f) 0 = atomA m (vAt m f 0) := by have := atomsL_at (m := m) (f := f) (i := 0) (by omega); simpa using this
      obtain ⟨hA0, _⟩ := atom_ad hv hva0.1 hva0.2
      have hAR0 := adR_0 hA0
      have hini0 : (nth (atomsL m f) 0).init = nth m.init (vAt m f 0) := by rw [hat0]; rfl
      have hia0 := init_at hv hf (i := 0)
      have hs0 := size_in hv hva0.1 hva0.2
      have hd0l : (distL (atomA m (vAt m f 0)) (costsL m)).length = (nth m.sizes (vAt m f 0)).toNat := (distL_good (atom_ok hv hva0.1 hva0.2) (costsL_for hv hva0.1 hva0.2)).1
      refine TrOps.gT rfl rfl rfl rfl c30 ?_
      refine TrOps.sem (OpSem.loadbN rfl rfl rfl vs26 (by first | decide | simp)) rfl rfl (by decide) ?_
      refine TrOps.gT rfl rfl rfl rfl c30 ?_
      refine TrOps.sem (OpSem.call0 (law_small_does m hv) rfl rfl rfl rfl (Les.refl _)) rfl rfl (by decide) ?_
      refine TrOps.gT rfl rfl rfl rfl c30 ?_
      refine TrOps.sem (OpSem.not rfl rfl) rfl rfl (by decide) ?_
      refine TrOps.sem (OpSem.pickF rfl rfl c30 rfl) rfl rfl (by decide) ?_
      refine TrOps.nil ?_
      refine At.seq ?_
      refine Tr.cond rfl (fun c34 => ?_) (fun c34 => ?_)
      · refine Tr.seq ?_
        refine Tr.region ?_
        refine TrOps.sem (OpSem.move (.inr rfl) rfl) rfl rfl (by decide) ?_
        refine TrOps.nil ?_
        refine At.seq ?_
        refine Tr.ret ?_
        refine At.pass_ret ?_
        exact At.ret rfl (.tmp rfl <| .nil) rfl (Le.bo (by first | rfl | (rw [hk]; exact decide_eq_true (bTo_le hv hf))))
      · refine Tr.skip ?_
        refine At.seq ?_
        refine Tr.seq ?_
        refine PC.start [] ?_
        refine PC.sem (OpSem.loadbN rfl rfl rfl vs26 (by first | decide | simp)) rfl rfl ?_
        refine PC.sem (OpSem.call0 (R_MultiCosts_does m hv).fresh rfl rfl rfl rfl (Les.refl _)) rfl rfl ?_
        refine PC.sem (OpSem.loadbN rfl rfl rfl vs26 (by first | decide | simp)) rfl rfl ?_
        refine PC.sem (OpSem.fieldr rfl rfl fo26_1) rfl rfl ?_
        refine PC.sem (OpSem.loadb1 rfl rfl rfl vs22 rfl) rfl rfl ?_
        refine PC.done0 mixed (by kernel_rfl) (by kernel_rfl) (by kernel_rfl) (by kernel_rfl) (by kernel_rfl) ?_
        refine TrOps.sem (OpSem.call0 (R_Rank_does m m.init hv hv.init) rfl rfl rfl rfl (Les.refl _)) rfl rfl (by decide) ?_
        refine TrOps.sem (OpSem.idxL rfl rfl rfl es22 (by omega) (by omega)) rfl rfl (by decide) ?_
        refine TrOps.sem (OpSem.load1 rfl rfl vs3 rfl) rfl rfl (by decide) ?_
        refine TrOps.sem (OpSem.move (.inr rfl) rfl) rfl rfl (by decide) ?_
        refine TrOps.nil ?_
        refine At.seq ?_
        refine Tr.seq ?_
        refine Tr.region ?_
        refine TrOps.sem (OpSem.loadbN rfl rfl rfl vs26 (by first | decide | simp)) rfl rfl (by decide) ?_
        refine TrOps.sem (OpSem.move (.inl rfl) rfl) rfl rfl (by decide) ?_
        refine TrOps.sem (OpSem.call0 (law_atoms_does m f hv hf) rfl rfl rfl rfl (Les.refl _)) rfl rfl (by decide) ?_
        refine TrOps.sem (OpSem.move (.inl rfl) rfl) rfl rfl (by decide) ?_
        refine TrOps.sem (OpSem.extract rfl rfl rfl) rfl rfl (by decide) ?_
        refine TrOps.sem (OpSem.extract rfl rfl rfl) rfl rfl (by decide) ?_
        refine TrOps.sem (OpSem.move (.inr rfl) rfl) rfl rfl (by decide) ?_
        refine TrOps.sem (OpSem.move (.inr rfl) rfl) rfl rfl (by decide) ?_
        refine TrOps.nil ?_
        refine At.seq ?_
        refine Tr.seq ?_
        refine Tr.region ?_
        refine TrOps.sem (OpSem.move (.inl rfl) rfl) rfl rfl (by decide) ?_
        refine TrOps.sem (OpSem.loadbN rfl rfl rfl vs26 (by first | decide | simp)) rfl rfl (by decide) ?_
        refine TrOps.sem (OpSem.call0 (law_costsOf_does m (by omega)).fresh rfl rfl rfl rfl (Les.refl _)) rfl rfl (by decide) ?_
        refine TrOps.sem (OpSem.call0 (partition_Saturated_does (atomsL m f) (costsL m) hrng) rfl rfl rfl rfl (Les.refl _)) rfl rfl (by decide) ?_
        refine TrOps.sem (OpSem.move (.inl rfl) rfl) rfl rfl (by decide) ?_
        refine TrOps.sem (OpSem.extract rfl rfl rfl) rfl rfl (by decide) ?_
        refine TrOps.sem (OpSem.extract rfl rfl rfl) rfl rfl (by decide) ?_
        refine TrOps.sem (OpSem.extract rfl rfl rfl) rfl rfl (by decide) ?_
        refine TrOps.semM (OpSem.alloc 10 rfl zc29 rfl) rfl rfl (by decide) ?_
        refine TrOps.sem (OpSem.move (.inr rfl) rfl) rfl rfl (by decide) ?_
        refine TrOps.sem (OpSem.move (.inr rfl) rfl) rfl rfl (by decide) ?_
        refine TrOps.storeb rfl rfl rfl rfl rfl rfl rfl vs29 (by first | decide | simp) ?_
        refine TrOps.nil ?_
        refine At.seq ?_
        refine Tr.seq ?_
        refine Tr.region ?_
        refine TrOps.sem (OpSem.loadbN rfl rfl rfl vs26 (by first | decide | simp)) rfl rfl (by decide) ?_
        refine TrOps.sem (OpSem.call0 (law_costsOf_does m (by omega)).fresh rfl rfl rfl rfl (Les.refl _)) rfl rfl (by decide) ?_
        refine TrOps.sem (OpSem.move (.inl rfl) rfl) rfl rfl (by decide) ?_
        refine TrOps.sem (OpSem.lenL rfl rfl es34) rfl rfl (by decide) ?_
        refine TrOps.sem (OpSem.call0 (partition_Uniform_does (costsL m) (nAt m)) rfl rfl rfl rfl (.cons (.refl _) <| .cons (Le.i (by rw [atomsL_len])) <| .nil)) rfl rfl (by decide) ?_
        refine TrOps.sem (OpSem.move (.inl rfl) rfl) rfl rfl (by decide) ?_
        refine TrOps.sem (OpSem.extract rfl rfl rfl) rfl rfl (by decide) ?_
        refine TrOps.sem (OpSem.extract rfl rfl rfl) rfl rfl (by decide) ?_
        refine TrOps.semM (OpSem.alloc 12 rfl zc29 rfl) rfl rfl (by decide) ?_
        refine TrOps.sem (OpSem.move (.inr rfl) rfl) rfl rfl (by decide) ?_
        refine TrOps.storeb rfl rfl rfl rfl rfl rfl rfl vs29 (by first | decide | simp) ?_
        refine TrOps.nil ?_
        refine At.seq ?_
        refine Tr.seq ?_
        refine Tr.seq ?_
        refine Tr.region ?_
        refine TrOps.sem (OpSem.move (.inl rfl) rfl) rfl rfl (by decide) ?_
        refine TrOps.sem (OpSem.not rfl rfl) rfl rfl (by decide) ?_
        refine TrOps.sem (OpSem.move (.inl rfl) rfl) rfl rfl (by decide) ?_
        refine TrOps.gT rfl rfl rfl rfl rfl ?_
        refine TrOps.sem (OpSem.fieldr rfl rfl fo29_0) rfl rfl (by decide) ?_
        refine TrOps.gT rfl rfl rfl rfl rfl ?_
        refine TrOps.sem (OpSem.loadb1 rfl rfl rfl vs3 rfl) rfl rfl (by decide) ?_
        refine TrOps.gT rfl rfl rfl rfl rfl ?_
        refine TrOps.sem (OpSem.bin rfl rfl rfl bneq) rfl rfl (by decide) ?_
        refine TrOps.sem (OpSem.pickF rfl rfl rfl rfl) rfl rfl (by decide) ?_
        refine TrOps.sem (OpSem.move (.inl rfl) rfl) rfl rfl (by decide) ?_
        refine TrOps.gT rfl rfl rfl rfl (by rw [hlab]; rfl) ?_
        refine TrOps.sem (OpSem.fieldr rfl rfl fo29_0) rfl rfl (by decide) ?_
        refine TrOps.gT rfl rfl rfl rfl (by rw [hlab]; rfl) ?_
        refine TrOps.sem (OpSem.loadb1 rfl rfl rfl vs3 rfl) rfl rfl (by decide) ?_
        refine TrOps.gT rfl rfl rfl rfl (by rw [hlab]; rfl) ?_
        refine TrOps.sem (OpSem.bin rfl rfl rfl bneq) rfl rfl (by decide) ?_
        refine TrOps.sem (OpSem.pickF rfl rfl (by rw [hlab]; rfl) rfl) rfl rfl (by decide) ?_
        refine TrOps.sem (OpSem.move (.inl rfl) rfl) rfl rfl (by decide) ?_
        refine TrOps.gT rfl rfl rfl rfl (by rw [hU]; rfl) ?_
        refine TrOps.sem (OpSem.move (.inl rfl) rfl) rfl rfl (by decide) ?_
        refine TrOps.gT rfl rfl rfl rfl (by rw [hU]; rfl) ?_
        refine TrOps.sem (OpSem.lenL rfl rfl es22) rfl rfl (by decide) ?_
        refine TrOps.gT rfl rfl rfl rfl (by rw [hU]; rfl) ?_
        refine TrOps.sem (OpSem.move (.inl rfl) rfl) rfl rfl (by decide) ?_
        refine TrOps.gT rfl rfl rfl rfl (by rw [hU]; rfl) ?_
        refine TrOps.sem (OpSem.lenL rfl rfl es34) rfl rfl (by decide) ?_
        refine TrOps.gT rfl rfl rfl rfl (by rw [hU]; rfl) ?_
        refine TrOps.sem (OpSem.bin rfl rfl rfl bneq) rfl rfl (by decide) ?_
        refine TrOps.sem (OpSem.pickF rfl rfl (by rw [hU]; rfl) rfl) rfl rfl (by decide) ?_
        refine TrOps.sem (OpSem.move (.inl rfl) rfl) rfl rfl (by decide) ?_
        refine TrOps.gT rfl rfl rfl rfl (by rw [hVl, hll]; simp) ?_
        refine TrOps.sem (OpSem.move (.inl rfl) rfl) rfl rfl (by decide) ?_
        refine TrOps.gT rfl rfl rfl rfl (by rw [hVl, hll]; simp) ?_
        refine TrOps.sem (OpSem.lenL rfl rfl es37) rfl rfl (by decide) ?_
        refine TrOps.gT rfl rfl rfl rfl (by rw [hVl, hll]; simp) ?_
        refine TrOps.sem (OpSem.move (.inl rfl) rfl) rfl rfl (by decide) ?_
        refine TrOps.gT rfl rfl rfl rfl (by rw [hVl, hll]; simp) ?_
        refine TrOps.sem (OpSem.lenL rfl rfl es34) rfl rfl (by decide) ?_
        refine TrOps.gT rfl rfl rfl rfl (by rw [hVl, hll]; simp) ?_
        refine TrOps.sem (OpSem.bin rfl rfl rfl bneq) rfl rfl (by decide) ?_
        refine TrOps.sem (OpSem.pickF rfl rfl (by rw [hVl, hll]; simp) rfl) rfl rfl (by decide) ?_
        refine TrOps.nil ?_
        refine At.seq ?_
        refine Tr.condF rfl (by rw [hUl, hll]; simp) ?_
        refine Tr.skip ?_
        refine At.seq ?_
        refine Tr.seq ?_
        refine Tr.region ?_
        refine TrOps.sem (OpSem.move (.inr rfl) rfl) rfl rfl (by decide) ?_
        refine TrOps.sem (OpSem.move (.inr rfl) rfl) rfl rfl (by decide) ?_
        refine TrOps.nil ?_
        refine At.seq ?_
        refine Tr.seq ?_
        refine Tr.seq ?_
        refine Tr.region ?_
        refine TrOps.sem (OpSem.move (.inr rfl) rfl) rfl rfl (by decide) ?_
        refine TrOps.nil ?_
        refine At.seq ?_
        refine Tr.block ?_
        refine Tr.loop (X := Nat) (fun k => k ≤ nAt m) (fun k => [(2, .r 2 0), (5, I ((nth (costs m) (rank m.sizes m.init)))), (6, .d (abssD (atomsL m f))), (9, .d (ints (satV (atomsL m f) (costsL m)))), (11, .d (rows (uniL (costsL m) (nAt m)))), (13, I (aTo m f k)), (14, I (bTo m f k)), (15, I (k))]) (fun k => [(2, .box [.d (ints m.sizes), .d (ints m.init), .d (asgs m.goal), .d (opsD m.ops)])]) (fun k => nAt m - k) 0 (by omega) ?_ ?_
        · exact .slot rfl (.refl _) <| .slot rfl (.refl _) <| .slot rfl (.refl _) <| .slot rfl (.refl _) <| .slot rfl (.refl _) <| .slot rfl (Le.i (by simp [aTo, sumV]; omega)) <| .slot rfl (Le.i (by simp [bTo, sumV]; omega)) <| .slot rfl (Le.of_eq (by simp)) <| .mem rfl <| .nil
        · rintro k hkl
          refine Tr.seq ?_
          refine Tr.seq ?_
          refine Tr.region ?_
          refine TrOps.sem (OpSem.move (.inl rfl) rfl) rfl rfl (by decide) ?_
          refine TrOps.sem (OpSem.move (.inl rfl) rfl) rfl rfl (by decide) ?_
          refine TrOps.sem (OpSem.lenL rfl rfl es34) rfl rfl (by decide) ?_
          refine TrOps.sem (OpSem.bin rfl rfl rfl blss) rfl rfl (by decide) ?_
          refine TrOps.nil ?_
          refine At.seq ?_
          refine Tr.cond rfl (fun c94 => ?_) (fun c94 => ?_)
          · have hk : k < nAt m := by rw [hll] at c94; simpa using c94
            have hat := atomsL_at (f := f) hk
            obtain ⟨u1, u2, u3⟩ := uni_ad hv hf hk
            have hvi := satV_at hv hf hk
            have hia := init_at hv hf (i := k)
            have hdS := dSat_in hv hf hk hia
            have hdU := dUni_in hv hf hk hia
            have haI := aTo_in hv hf (k := k) (by omega)
            have hbI := bTo_in hv hf (k := k) (by omega)
            have hva := vAt_in hv hf (i := k)
            have hsk := size_in hv hva.1 hva.2
            have hini : (nth (atomsL m f) k).init = nth m.init (vAt m f k) := by rw [hat]; rfl
            have hvb : 0 ≤ nth (satV (atomsL m f) (costsL m)) k ∧ nth (satV (atomsL m f) (costsL m)) k ≤ 1000000000 := by rw [hvi]; exact hdS
            have hub : 0 ≤ nth (dUni m f k) (nth (atomsL m f) k).init ∧ nth (dUni m f k) (nth (atomsL m f) k).init ≤ 1000000000 := by rw [hini]; exact hdU
            have hdl : (dUni m f k).length = (nth m.sizes (vAt m f k)).toNat := (distL_good (atom_ok hv hva.1 hva.2) (uni_for hv hf hk)).1
            refine Tr.skip ?_
            refine At.seq ?_
            refine Tr.seq ?_
            refine Tr.block ?_
            refine Tr.seq ?_
            refine PC.start [] ?_
            refine PC.sem (OpSem.move (.inl rfl) rfl) rfl rfl ?_
            refine PC.sem (OpSem.move (.inl rfl) rfl) rfl rfl ?_
            refine PC.sem (OpSem.idxL rfl rfl rfl es34 (by omega) (by omega)) rfl rfl ?_
            refine PC.sem (OpSem.loadN rfl rfl vs46 (by first | decide | simp) rfl) rfl rfl ?_
            refine PC.sem (OpSem.move (.inl rfl) rfl) rfl rfl ?_
            refine PC.sem (OpSem.move (.inl rfl) rfl) rfl rfl ?_
            refine PC.sem (OpSem.idxL rfl rfl rfl es37 (by omega) (by omega)) rfl rfl ?_
            refine PC.sem (OpSem.load1 rfl rfl vs22 rfl) rfl rfl ?_
            refine PC.sem (OpSem.call0 (abstraction_Distances_does (nth (atomsL m f) k) (nth (uniL (costsL m) (nAt m)) k) (hrng k (by rw [atomsL_len]; exact hk))) rfl rfl rfl rfl (Les.refl _)) rfl rfl ?_
            refine PC.sem (OpSem.move (.inl rfl) rfl) rfl rfl ?_
            refine PC.sem (OpSem.extract rfl rfl rfl) rfl rfl ?_
            refine PC.sem (OpSem.extract rfl rfl rfl) rfl rfl ?_
            refine PC.semM (OpSem.alloc 17 rfl zc29 rfl) rfl rfl ?_
            refine PC.sem (OpSem.move (.inr rfl) rfl) rfl rfl ?_
            refine PC.done1 17 (.box [I (0), I (0)]) mixed (by kernel_rfl) (by kernel_rfl) (by kernel_rfl) (by kernel_rfl) (by kernel_rfl) ?_
            refine TrOps.storeb rfl rfl rfl rfl rfl rfl rfl vs29 (by first | decide | simp) ?_
            refine TrOps.nil ?_
            refine At.seq ?_
            refine Tr.seq ?_
            refine Tr.seq ?_
            refine Tr.weak (s' := .d (ints (dUni m f k))) 16 rfl (Le.d (by rw [hat, u1, u3])) ?_
            refine Tr.region ?_
            refine TrOps.sem (OpSem.fieldr rfl rfl fo29_0) rfl rfl (by decide) ?_
            refine TrOps.sem (OpSem.loadb1 rfl rfl rfl vs3 rfl) rfl rfl (by decide) ?_
            refine TrOps.sem (OpSem.bin rfl rfl rfl bneq) rfl rfl (by decide) ?_
            refine TrOps.sem (OpSem.move (.inl rfl) rfl) rfl rfl (by decide) ?_
            refine TrOps.gT rfl rfl rfl rfl (by rw [hat, u1, u2]; rfl) ?_
            refine TrOps.sem (OpSem.move (.inl rfl) rfl) rfl rfl (by decide) ?_
            refine TrOps.gT rfl rfl rfl rfl (by rw [hat, u1, u2]; rfl) ?_
            refine TrOps.sem (OpSem.move (.inl rfl) rfl) rfl rfl (by decide) ?_
            refine TrOps.gT rfl rfl rfl rfl (by rw [hat, u1, u2]; rfl) ?_
            refine TrOps.sem (OpSem.idxL rfl rfl rfl es34 (by omega) (by omega)) rfl rfl (by decide) ?_
            refine TrOps.gT rfl rfl rfl rfl (by rw [hat, u1, u2]; rfl) ?_
            refine TrOps.sem (OpSem.fieldp rfl rfl fo46_3) rfl rfl (by decide) ?_
            refine TrOps.gT rfl rfl rfl rfl (by rw [hat, u1, u2]; rfl) ?_
            refine TrOps.sem (OpSem.load1 rfl rfl vs3 rfl) rfl rfl (by decide) ?_
            refine TrOps.gT rfl rfl rfl rfl (by rw [hat, u1, u2]; rfl) ?_
            refine TrOps.sem (OpSem.move (.inl rfl) rfl) rfl rfl (by decide) ?_
            refine TrOps.gT rfl rfl rfl rfl (by rw [hat, u1, u2]; rfl) ?_
            refine TrOps.sem (OpSem.lenL rfl rfl es22) rfl rfl (by decide) ?_
            refine TrOps.gT rfl rfl rfl rfl (by rw [hat, u1, u2]; rfl) ?_
            refine TrOps.sem (OpSem.bin rfl rfl rfl (bsub (by omega) (by omega))) rfl rfl (by decide) ?_
            refine TrOps.gT rfl rfl rfl rfl (by rw [hat, u1, u2]; rfl) ?_
            refine TrOps.sem (OpSem.call0 (R_In_does ..) rfl rfl rfl rfl (Les.refl _)) rfl rfl (by decide) ?_
            refine TrOps.gT rfl rfl rfl rfl (by rw [hat, u1, u2]; rfl) ?_
            refine TrOps.sem (OpSem.not rfl rfl) rfl rfl (by decide) ?_
            refine TrOps.sem (OpSem.pickF rfl rfl (by rw [hat, u1, u2]; rfl) rfl) rfl rfl (by decide) ?_
            refine TrOps.nil ?_
            refine At.seq ?_
            refine Tr.condF rfl (by rw [hini]; simp; omega) ?_
            refine Tr.skip ?_
            refine At.seq ?_
            refine PC.start [] ?_
            refine PC.sem (OpSem.move (.inl rfl) rfl) rfl rfl ?_
            refine PC.sem (OpSem.move (.inl rfl) rfl) rfl rfl ?_
            refine PC.sem (OpSem.move (.inl rfl) rfl) rfl rfl ?_
            refine PC.sem (OpSem.idxL rfl rfl rfl es22 (by omega) (by omega)) rfl rfl ?_
            refine PC.sem (OpSem.load1 rfl rfl vs3 rfl) rfl rfl ?_
            refine PC.sem (OpSem.bin rfl rfl rfl (badd (by omega) (by omega))) rfl rfl ?_
            refine PC.sem (OpSem.min2 rfl rfl rfl) rfl rfl ?_
            refine PC.sem (OpSem.move (.inl rfl) rfl) rfl rfl ?_
            refine PC.sem (OpSem.move (.inl rfl) rfl) rfl rfl ?_
            refine PC.sem (OpSem.move (.inl rfl) rfl) rfl rfl ?_
            refine PC.sem (OpSem.move (.inl rfl) rfl) rfl rfl ?_
            refine PC.sem (OpSem.idxL rfl rfl rfl es34 (by omega) (by omega)) rfl rfl ?_
            refine PC.sem (OpSem.fieldp rfl rfl fo46_3) rfl rfl ?_
            refine PC.sem (OpSem.load1 rfl rfl vs3 rfl) rfl rfl ?_
            refine PC.sem (OpSem.idxL rfl rfl rfl es22 (by rw [hini]; omega) (by rw [hini]; omega)) rfl rfl ?_
            refine PC.sem (OpSem.load1 rfl rfl vs3 rfl) rfl rfl ?_
            refine PC.sem (OpSem.bin rfl rfl rfl (badd (by omega) (by omega))) rfl rfl ?_
            refine PC.sem (OpSem.min2 rfl rfl rfl) rfl rfl ?_
            refine PC.sem (OpSem.move (.inr rfl) rfl) rfl rfl ?_
            refine PC.done0 mixed (by kernel_rfl) (by kernel_rfl) (by kernel_rfl) (by kernel_rfl) (by kernel_rfl) ?_
            refine TrOps.sem (OpSem.move (.inr rfl) rfl) rfl rfl (by decide) ?_
            refine TrOps.nil ?_
            refine At.block_normal ?_
            refine At.seq ?_
            refine Tr.region ?_
            refine TrOps.sem (OpSem.move (.inl rfl) rfl) rfl rfl (by decide) ?_
            refine TrOps.sem (OpSem.bin rfl rfl rfl (badd (by omega) (by omega))) rfl rfl (by decide) ?_
            refine TrOps.sem (OpSem.move (.inr rfl) rfl) rfl rfl (by decide) ?_
            refine TrOps.nil ?_
            refine At.again (k + 1) (by omega) ?_ (by omega)
            exact .slot rfl (.refl _) <| .slot rfl (.refl _) <| .slot rfl (.refl _) <| .slot rfl (.refl _) <| .slot rfl (.refl _) <| .slot rfl (Le.i (by rw [hvi]; exact aTo_s hv hf hk)) <| .slot rfl (Le.i (by rw [hini]; exact bTo_s hv hf hk)) <| .slot rfl (Le.of_eq (by simp)) <| .mem rfl <| .nil
          · have hk : k = nAt m := by rw [hll] at c94; simp at c94; omega
            refine Tr.exit ?_
            refine At.pass_exit ?_
            refine At.pass_exit ?_
            refine At.block_same ?_
            refine At.seq ?_
            refine Tr.seq ?_
            refine PC.start [] ?_
            refine PC.sem (OpSem.move (.inl rfl) rfl) rfl rfl ?_
            refine PC.sem (OpSem.idxL rfl rfl rfl es34 (by omega) (by omega)) rfl rfl ?_
            refine PC.sem (OpSem.loadN rfl rfl vs46 (by first | decide | simp) rfl) rfl rfl ?_
            refine PC.sem (OpSem.loadbN rfl rfl rfl vs26 (by first | decide | simp)) rfl rfl ?_
            refine PC.sem (OpSem.call0 (law_costsOf_does m (by omega)).fresh rfl rfl rfl rfl (Les.refl _)) rfl rfl ?_
            refine PC.sem (OpSem.call0 (abstraction_Distances_does (nth (atomsL m f) 0) (costsL m) (hrng 0 (by rw [atomsL_len]; omega))) rfl rfl rfl rfl (Les.refl _)) rfl rfl ?_
            refine PC.sem (OpSem.move (.inl rfl) rfl) rfl rfl ?_
            refine PC.sem (OpSem.extract rfl rfl rfl) rfl rfl ?_
            refine PC.sem (OpSem.extract rfl rfl rfl) rfl rfl ?_
            refine PC.semM (OpSem.alloc 19 rfl zc29 rfl) rfl rfl ?_
            refine PC.sem (OpSem.move (.inr rfl) rfl) rfl rfl ?_
            refine PC.done1 19 (.box [I (0), I (0)]) mixed (by kernel_rfl) (by kernel_rfl) (by kernel_rfl) (by kernel_rfl) (by kernel_rfl) ?_
            refine TrOps.storeb rfl rfl rfl rfl rfl rfl rfl vs29 (by first | decide | simp) ?_
            refine TrOps.nil ?_
            refine At.seq ?_
            refine Tr.seq ?_
            refine Tr.weak (s' := .d (ints (distL (atomA m (vAt m f 0)) (costsL m)))) 18 rfl (Le.d (by rw [hat0, hAR0])) ?_
            refine Tr.region ?_
            refine TrOps.sem (OpSem.fieldr rfl rfl fo29_0) rfl rfl (by decide) ?_
            refine TrOps.sem (OpSem.loadb1 rfl rfl rfl vs3 rfl) rfl rfl (by decide) ?_
            refine TrOps.sem (OpSem.bin rfl rfl rfl beql) rfl rfl (by decide) ?_
            refine TrOps.sem (OpSem.move (.inl rfl) rfl) rfl rfl (by decide) ?_
            refine TrOps.gT rfl rfl rfl rfl (by rw [hat0, hA0]; rfl) ?_
            refine TrOps.sem (OpSem.move (.inl rfl) rfl) rfl rfl (by decide) ?_
            refine TrOps.gT rfl rfl rfl rfl (by rw [hat0, hA0]; rfl) ?_
            refine TrOps.sem (OpSem.idxL rfl rfl rfl es34 (by omega) (by omega)) rfl rfl (by decide) ?_
            refine TrOps.gT rfl rfl rfl rfl (by rw [hat0, hA0]; rfl) ?_
            refine TrOps.sem (OpSem.fieldp rfl rfl fo46_3) rfl rfl (by decide) ?_
            refine TrOps.gT rfl rfl rfl rfl (by rw [hat0, hA0]; rfl) ?_
            refine TrOps.sem (OpSem.load1 rfl rfl vs3 rfl) rfl rfl (by decide) ?_
            refine TrOps.gT rfl rfl rfl rfl (by rw [hat0, hA0]; rfl) ?_
            refine TrOps.sem (OpSem.move (.inl rfl) rfl) rfl rfl (by decide) ?_
            refine TrOps.gT rfl rfl rfl rfl (by rw [hat0, hA0]; rfl) ?_
            refine TrOps.sem (OpSem.lenL rfl rfl es22) rfl rfl (by decide) ?_
            refine TrOps.gT rfl rfl rfl rfl (by rw [hat0, hA0]; rfl) ?_
            refine TrOps.sem (OpSem.bin rfl rfl rfl (bsub (by omega) (by omega))) rfl rfl (by decide) ?_
            refine TrOps.gT rfl rfl rfl rfl (by rw [hat0, hA0]; rfl) ?_
            refine TrOps.sem (OpSem.call0 (R_In_does ..) rfl rfl rfl rfl (Les.refl _)) rfl rfl (by decide) ?_
            refine TrOps.sem (OpSem.pickT rfl rfl (by rw [hat0, hA0]; rfl) rfl) rfl rfl (by decide) ?_
            refine TrOps.sem (OpSem.move (.inl rfl) rfl) rfl rfl (by decide) ?_
            refine TrOps.gT rfl rfl rfl rfl (by rw [hini0]; simp; omega) ?_
            refine TrOps.sem (OpSem.move (.inl rfl) rfl) rfl rfl (by decide) ?_
            refine TrOps.gT rfl rfl rfl rfl (by rw [hini0]; simp; omega) ?_
            refine TrOps.sem (OpSem.move (.inl rfl) rfl) rfl rfl (by decide) ?_
            refine TrOps.gT rfl rfl rfl rfl (by rw [hini0]; simp; omega) ?_
            refine TrOps.sem (OpSem.move (.inl rfl) rfl) rfl rfl (by decide) ?_
            refine TrOps.gT rfl rfl rfl rfl (by rw [hini0]; simp; omega) ?_
            refine TrOps.sem (OpSem.idxL rfl rfl rfl es34 (by omega) (by omega)) rfl rfl (by decide) ?_
            refine TrOps.gT rfl rfl rfl rfl (by rw [hini0]; simp; omega) ?_
            refine TrOps.sem (OpSem.fieldp rfl rfl fo46_3) rfl rfl (by decide) ?_
            refine TrOps.gT rfl rfl rfl rfl (by rw [hini0]; simp; omega) ?_
            refine TrOps.sem (OpSem.load1 rfl rfl vs3 rfl) rfl rfl (by decide) ?_
            refine TrOps.gT rfl rfl rfl rfl (by rw [hini0]; simp; omega) ?_
            refine TrOps.sem (OpSem.idxL rfl rfl rfl es22 (by rw [hini0]; omega) (by rw [hini0]; omega)) rfl rfl (by decide) ?_
            refine TrOps.gT rfl rfl rfl rfl (by rw [hini0]; simp; omega) ?_
            refine TrOps.sem (OpSem.load1 rfl rfl vs3 rfl) rfl rfl (by decide) ?_
            refine TrOps.gT rfl rfl rfl rfl (by rw [hini0]; simp; omega) ?_
            refine TrOps.sem (OpSem.bin rfl rfl rfl bgeq) rfl rfl (by decide) ?_
            refine TrOps.sem (OpSem.pickT rfl rfl (by rw [hini0]; simp; omega) rfl) rfl rfl (by decide) ?_
            refine TrOps.sem (OpSem.move (.inl rfl) rfl) rfl rfl (by decide) ?_
            refine TrOps.gT rfl rfl rfl rfl (by rw [hk, hini0]; exact decide_eq_true (aTo_ge hv hf)) ?_
            refine TrOps.sem (OpSem.move (.inl rfl) rfl) rfl rfl (by decide) ?_
            refine TrOps.gT rfl rfl rfl rfl (by rw [hk, hini0]; exact decide_eq_true (aTo_ge hv hf)) ?_
            refine TrOps.sem (OpSem.move (.inl rfl) rfl) rfl rfl (by decide) ?_
            refine TrOps.gT rfl rfl rfl rfl (by rw [hk, hini0]; exact decide_eq_true (aTo_ge hv hf)) ?_
            refine TrOps.sem (OpSem.bin rfl rfl rfl bleq) rfl rfl (by decide) ?_
            refine TrOps.sem (OpSem.pickT rfl rfl (by rw [hk, hini0]; exact decide_eq_true (aTo_ge hv hf)) rfl) rfl rfl (by decide) ?_
            refine TrOps.sem (OpSem.move (.inl rfl) rfl) rfl rfl (by decide) ?_
            refine TrOps.gT rfl rfl rfl rfl (by rw [hk]; exact decide_eq_true (aTo_le hv hf)) ?_
            refine TrOps.sem (OpSem.move (.inl rfl) rfl) rfl rfl (by decide) ?_
            refine TrOps.gT rfl rfl rfl rfl (by rw [hk]; exact decide_eq_true (aTo_le hv hf)) ?_
            refine TrOps.sem (OpSem.move (.inl rfl) rfl) rfl rfl (by decide) ?_
            refine TrOps.gT rfl rfl rfl rfl (by rw [hk]; exact decide_eq_true (aTo_le hv hf)) ?_
            refine TrOps.sem (OpSem.bin rfl rfl rfl bleq) rfl rfl (by decide) ?_
            refine TrOps.sem (OpSem.pickT rfl rfl (by rw [hk]; exact decide_eq_true (aTo_le hv hf)) rfl) rfl rfl (by decide) ?_
            refine TrOps.sem (OpSem.move (.inr rfl) rfl) rfl rfl (by decide) ?_
            refine TrOps.nil ?_
            refine At.seq ?_
            refine Tr.ret ?_
            exact At.ret rfl (.tmp rfl <| .nil) rfl (Le.bo (by first | rfl | (rw [hk]; exact decide_eq_true (bTo_le hv hf))))

end Go.Proofs.Ytohlmcebphcokaa
