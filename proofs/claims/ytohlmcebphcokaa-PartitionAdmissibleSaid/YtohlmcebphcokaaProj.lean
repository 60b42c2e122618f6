/- Walks, written by gen.py out of hints. -/
import Derived.Test.YtohlmcebphcokaaTypes
import Derived.Test.YtohlmcebphcokaaCosts
import Derived.Test.YtohlmcebphcokaaPotB
import Derived.Test.YtohlmcebphcokaaEng14
import Derived.Test.YtohlmcebphcokaaEngM
set_option linter.unusedVariables false
set_option linter.unusedSimpArgs false
namespace Go.Proofs.Ytohlmcebphcokaa
open Go.Eng
set_option maxRecDepth 10000
set_option maxHeartbeats 1000000

theorem project_Check_does (m : Multi) (vars : List Int) (i : Int) : Does Try.prog false 94 [multi m, .d (ints vars), I (i)] (flt (patFault m.sizes vars i)) := by
  refine Does.of_body Try.func94 rfl rfl (by simp) Try.call94 (fun w0 O0 => ?_)
  refine Tr.lenG (n := 0) (i := 0) rfl rfl (fun len0_0 => ?_)
  refine Tr.lenG (n := 0) (i := 1) rfl rfl (fun len0_1 => ?_)
  refine Tr.lenG (n := 0) (i := 2) rfl rfl (fun len0_2 => ?_)
  refine Tr.lenG (n := 0) (i := 3) rfl rfl (fun len0_3 => ?_)
  refine Tr.lenLe (n := 1) rfl (fun len1 => ?_)
  refine Tr.seq ?_
  refine Tr.region ?_
  refine TrOps.semM (OpSem.box 3 rfl rfl rfl rfl) rfl rfl (by decide) ?_
  refine TrOps.semM (OpSem.alloc 6 rfl zc29 rfl) rfl rfl (by decide) ?_
  refine TrOps.nil ?_
  refine At.seq ?_
  refine Tr.seq ?_
  refine Tr.seq ?_
  refine Tr.region ?_
  refine TrOps.sem (OpSem.move (.inl rfl) rfl) rfl rfl (by decide) ?_
  refine TrOps.sem (OpSem.lenL rfl rfl es22) rfl rfl (by decide) ?_
  refine TrOps.sem (OpSem.bin rfl rfl rfl beql) rfl rfl (by decide) ?_
  refine TrOps.nil ?_
  refine At.seq ?_
  refine Tr.cond rfl (fun c11 => ?_) (fun c11 => ?_)
  · refine Tr.seq ?_
    refine Tr.region ?_
    refine TrOps.sem (OpSem.move (.inl rfl) rfl) rfl rfl (by decide) ?_
    refine TrOps.sem (OpSem.build rfl rfl pl29 zc29 rfl rfl) rfl rfl (by decide) ?_
    refine TrOps.storeb rfl rfl rfl rfl rfl rfl rfl vs29 (by first | decide | simp) ?_
    refine TrOps.nil ?_
    refine At.seq ?_
    refine Tr.ret ?_
    refine At.pass_ret ?_
    exact At.ret rfl (.cellN rfl rfl vs29 <| .nil) rfl (Le.flt (patFault_bad (patCode_9 (by simp only [decide_eq_true_eq] at c11; omega)) (by decide)))
  · have h0 : vars.length ≠ 0 := by simp only [decide_eq_false_iff_not] at c11; omega
    refine Tr.skip ?_
    refine At.seq ?_
    refine Tr.seq ?_
    refine Tr.seq ?_
    refine Tr.region ?_
    refine TrOps.sem (OpSem.move (.inl rfl) rfl) rfl rfl (by decide) ?_
    refine TrOps.sem (OpSem.lenL rfl rfl es22) rfl rfl (by decide) ?_
    refine TrOps.sem (OpSem.move (.inl rfl) rfl) rfl rfl (by decide) ?_
    refine TrOps.nil ?_
    refine At.seq ?_
    refine Tr.block ?_
    refine Tr.loop (X := Nat) (fun k => k ≤ vars.length ∧ ∀ j : Nat, j < k → PatOk m.sizes vars j) (fun k => [(1, .d (ints vars)), (2, I (i)), (3, .r 3 0), (6, .r 6 0), (14, .d (ints vars)), (15, I (vars.length)), (16, I (k))]) (fun k => [(3, .box [.d (ints m.sizes), .d (ints m.init), .d (asgs m.goal), .d (opsD m.ops)]), (6, .box [I (0), I (0)])]) (fun k => vars.length - k) 0 ⟨by omega, by simp⟩ ?_ ?_
    · exact .slot rfl (.refl _) <| .slot rfl (.refl _) <| .slot rfl (.refl _) <| .slot rfl (.refl _) <| .slot rfl (.refl _) <| .slot rfl (.refl _) <| .slot rfl (Le.of_eq (by simp)) <| .mem rfl <| .mem rfl <| .nil
    · rintro k ⟨hkl, hinv⟩
      refine Tr.seq ?_
      refine Tr.region ?_
      refine TrOps.sem (OpSem.bin rfl rfl rfl blss) rfl rfl (by decide) ?_
      refine TrOps.nil ?_
      refine At.seq ?_
      refine Tr.seq ?_
      refine Tr.cond rfl (fun c17 => ?_) (fun c17 => ?_)
      · have hk : k < vars.length := by simpa using c17
        refine Tr.skip ?_
        refine At.seq ?_
        refine Tr.seq ?_
        refine Tr.block ?_
        refine Tr.seq ?_
        refine Tr.region ?_
        refine TrOps.sem (OpSem.move (.inl rfl) rfl) rfl rfl (by decide) ?_
        refine TrOps.sem (OpSem.idxL rfl rfl rfl es22 (by omega) (by omega)) rfl rfl (by decide) ?_
        refine TrOps.sem (OpSem.load1 rfl rfl vs3 rfl) rfl rfl (by decide) ?_
        refine TrOps.sem (OpSem.move (.inr rfl) rfl) rfl rfl (by decide) ?_
        refine TrOps.sem (OpSem.move (.inr rfl) rfl) rfl rfl (by decide) ?_
        refine TrOps.nil ?_
        refine At.seq ?_
        refine Tr.seq ?_
        refine Tr.region ?_
        refine TrOps.sem (OpSem.move (.inl rfl) rfl) rfl rfl (by decide) ?_
        refine TrOps.sem (OpSem.bin rfl rfl rfl blss) rfl rfl (by decide) ?_
        refine TrOps.sem (OpSem.move (.inl rfl) rfl) rfl rfl (by decide) ?_
        refine TrOps.split (n := 23) rfl (fun c23 => ?_) (fun c23 => ?_)
        · refine TrOps.gF rfl rfl rfl rfl c23 rfl (by decide) ?_
          refine TrOps.gF rfl rfl rfl rfl c23 rfl (by decide) ?_
          refine TrOps.gF rfl rfl rfl rfl c23 rfl (by decide) ?_
          refine TrOps.gF rfl rfl rfl rfl c23 rfl (by decide) ?_
          refine TrOps.gF rfl rfl rfl rfl c23 rfl (by decide) ?_
          refine TrOps.sem (OpSem.pickT rfl rfl c23 rfl) rfl rfl (by decide) ?_
          refine TrOps.sem (OpSem.move (.inl rfl) rfl) rfl rfl (by decide) ?_
          refine TrOps.gF rfl rfl rfl rfl rfl rfl (by decide) ?_
          refine TrOps.gF rfl rfl rfl rfl rfl rfl (by decide) ?_
          refine TrOps.gF rfl rfl rfl rfl rfl rfl (by decide) ?_
          refine TrOps.gU rfl rfl rfl rfl rfl (by decide) ?_
          refine TrOps.gU rfl rfl rfl rfl rfl (by decide) ?_
          refine TrOps.gU rfl rfl rfl rfl rfl (by decide) ?_
          refine TrOps.gU rfl rfl rfl rfl rfl (by decide) ?_
          refine TrOps.gU rfl rfl rfl rfl rfl (by decide) ?_
          refine TrOps.gU rfl rfl rfl rfl rfl (by decide) ?_
          refine TrOps.gU rfl rfl rfl rfl rfl (by decide) ?_
          refine TrOps.gF rfl rfl rfl rfl rfl rfl (by decide) ?_
          refine TrOps.sem (OpSem.pickT rfl rfl rfl rfl) rfl rfl (by decide) ?_
          refine TrOps.nil ?_
          refine At.seq ?_
          refine Tr.condT rfl rfl ?_
          refine Tr.seq ?_
          refine Tr.region ?_
          refine TrOps.sem (OpSem.move (.inl rfl) rfl) rfl rfl (by decide) ?_
          refine TrOps.sem (OpSem.build rfl rfl pl29 zc29 rfl rfl) rfl rfl (by decide) ?_
          refine TrOps.storeb rfl rfl rfl rfl rfl rfl rfl vs29 (by first | decide | simp) ?_
          refine TrOps.nil ?_
          refine At.seq ?_
          refine Tr.ret ?_
          refine At.block_ret ?_
          refine At.pass_ret ?_
          refine At.pass_ret ?_
          refine At.block_ret ?_
          refine At.pass_ret ?_
          exact At.ret rfl (.cellN rfl rfl vs29 <| .nil) rfl (Le.flt (patFault_bad (patCode_5 h0 k hk (fun hb => by have h3 := hb.2.2; have h1 := hb.1; have h2 := hb.2.1; first | (simp only [decide_eq_true_eq] at c23; omega) | (simp only [decide_eq_true_eq] at c30; omega) | (simp only [decide_eq_true_eq] at c33 c42; omega))) (by decide)))
        · refine TrOps.gT rfl rfl rfl rfl c23 ?_
          refine TrOps.sem (OpSem.move (.inl rfl) rfl) rfl rfl (by decide) ?_
          refine TrOps.gT rfl rfl rfl rfl c23 ?_
          refine TrOps.sem (OpSem.fieldr rfl rfl fo26_0) rfl rfl (by decide) ?_
          refine TrOps.gT rfl rfl rfl rfl c23 ?_
          refine TrOps.sem (OpSem.loadb1 rfl rfl rfl vs22 rfl) rfl rfl (by decide) ?_
          refine TrOps.gT rfl rfl rfl rfl c23 ?_
          refine TrOps.sem (OpSem.lenL rfl rfl es22) rfl rfl (by decide) ?_
          refine TrOps.gT rfl rfl rfl rfl c23 ?_
          refine TrOps.sem (OpSem.bin rfl rfl rfl bgeq) rfl rfl (by decide) ?_
          refine TrOps.sem (OpSem.pickF rfl rfl c23 rfl) rfl rfl (by decide) ?_
          refine TrOps.sem (OpSem.move (.inl rfl) rfl) rfl rfl (by decide) ?_
          refine TrOps.split (n := 30) rfl (fun c30 => ?_) (fun c30 => ?_)
          · refine TrOps.gF rfl rfl rfl rfl c30 rfl (by decide) ?_
            refine TrOps.gF rfl rfl rfl rfl c30 rfl (by decide) ?_
            refine TrOps.gF rfl rfl rfl rfl c30 rfl (by decide) ?_
            refine TrOps.gU rfl rfl rfl rfl rfl (by decide) ?_
            refine TrOps.gU rfl rfl rfl rfl rfl (by decide) ?_
            refine TrOps.gU rfl rfl rfl rfl rfl (by decide) ?_
            refine TrOps.gU rfl rfl rfl rfl rfl (by decide) ?_
            refine TrOps.gU rfl rfl rfl rfl rfl (by decide) ?_
            refine TrOps.gU rfl rfl rfl rfl rfl (by decide) ?_
            refine TrOps.gU rfl rfl rfl rfl rfl (by decide) ?_
            refine TrOps.gF rfl rfl rfl rfl c30 rfl (by decide) ?_
            refine TrOps.sem (OpSem.pickT rfl rfl c30 rfl) rfl rfl (by decide) ?_
            refine TrOps.nil ?_
            refine At.seq ?_
            refine Tr.condT rfl rfl ?_
            refine Tr.seq ?_
            refine Tr.region ?_
            refine TrOps.sem (OpSem.move (.inl rfl) rfl) rfl rfl (by decide) ?_
            refine TrOps.sem (OpSem.build rfl rfl pl29 zc29 rfl rfl) rfl rfl (by decide) ?_
            refine TrOps.storeb rfl rfl rfl rfl rfl rfl rfl vs29 (by first | decide | simp) ?_
            refine TrOps.nil ?_
            refine At.seq ?_
            refine Tr.ret ?_
            refine At.block_ret ?_
            refine At.pass_ret ?_
            refine At.pass_ret ?_
            refine At.block_ret ?_
            refine At.pass_ret ?_
            exact At.ret rfl (.cellN rfl rfl vs29 <| .nil) rfl (Le.flt (patFault_bad (patCode_5 h0 k hk (fun hb => by have h3 := hb.2.2; have h1 := hb.1; have h2 := hb.2.1; first | (simp only [decide_eq_true_eq] at c23; omega) | (simp only [decide_eq_true_eq] at c30; omega) | (simp only [decide_eq_true_eq] at c33 c42; omega))) (by decide)))
          · refine TrOps.gT rfl rfl rfl rfl c30 ?_
            refine TrOps.sem (OpSem.move (.inl rfl) rfl) rfl rfl (by decide) ?_
            refine TrOps.gT rfl rfl rfl rfl c30 ?_
            refine TrOps.sem (OpSem.bin rfl rfl rfl bgtr) rfl rfl (by decide) ?_
            refine TrOps.gT rfl rfl rfl rfl c30 ?_
            refine TrOps.sem (OpSem.move (.inl rfl) rfl) rfl rfl (by decide) ?_
            refine TrOps.split (n := 33) rfl (fun c33 => ?_) (fun c33 => ?_)
            · refine TrOps.gT rfl rfl rfl rfl c33 ?_
              refine TrOps.sem (OpSem.move (.inl rfl) rfl) rfl rfl (by decide) ?_
              refine TrOps.gT rfl rfl rfl rfl c33 ?_
              refine TrOps.sem (OpSem.move (.inl rfl) rfl) rfl rfl (by decide) ?_
              refine TrOps.gT rfl rfl rfl rfl c33 ?_
              refine TrOps.sem (OpSem.move (.inl rfl) rfl) rfl rfl (by decide) ?_
              refine TrOps.gT rfl rfl rfl rfl c33 ?_
              refine TrOps.sem (OpSem.bin rfl rfl rfl (bsub (by omega) (by omega))) rfl rfl (by decide) ?_
              refine TrOps.gT rfl rfl rfl rfl c33 ?_
              refine TrOps.sem (OpSem.idxL rfl rfl rfl es22 (by simp only [decide_eq_true_eq] at c33; omega) (by omega)) rfl rfl (by decide) ?_
              refine TrOps.gT rfl rfl rfl rfl c33 ?_
              refine TrOps.sem (OpSem.load1 rfl rfl vs3 rfl) rfl rfl (by decide) ?_
              refine TrOps.gT rfl rfl rfl rfl c33 ?_
              refine TrOps.sem (OpSem.bin rfl rfl rfl bleq) rfl rfl (by decide) ?_
              refine TrOps.gT rfl rfl rfl rfl c30 ?_
              refine TrOps.sem (OpSem.pickT rfl rfl c33 rfl) rfl rfl (by decide) ?_
              refine TrOps.sem (OpSem.pickF rfl rfl c30 rfl) rfl rfl (by decide) ?_
              refine TrOps.nil ?_
              refine At.seq ?_
              refine Tr.cond rfl (fun c42 => ?_) (fun c42 => ?_)
              · refine Tr.seq ?_
                refine Tr.region ?_
                refine TrOps.sem (OpSem.move (.inl rfl) rfl) rfl rfl (by decide) ?_
                refine TrOps.sem (OpSem.build rfl rfl pl29 zc29 rfl rfl) rfl rfl (by decide) ?_
                refine TrOps.storeb rfl rfl rfl rfl rfl rfl rfl vs29 (by first | decide | simp) ?_
                refine TrOps.nil ?_
                refine At.seq ?_
                refine Tr.ret ?_
                refine At.block_ret ?_
                refine At.pass_ret ?_
                refine At.pass_ret ?_
                refine At.block_ret ?_
                refine At.pass_ret ?_
                exact At.ret rfl (.cellN rfl rfl vs29 <| .nil) rfl (Le.flt (patFault_bad (patCode_5 h0 k hk (fun hb => by have h3 := hb.2.2; have h1 := hb.1; have h2 := hb.2.1; first | (simp only [decide_eq_true_eq] at c23; omega) | (simp only [decide_eq_true_eq] at c30; omega) | (simp only [decide_eq_true_eq] at c33 c42; omega))) (by decide)))
              · refine Tr.skip ?_
                refine At.block_normal ?_
                refine At.seq ?_
                refine Tr.region ?_
                refine TrOps.sem (OpSem.bin rfl rfl rfl (badd (by omega) (by omega))) rfl rfl (by decide) ?_
                refine TrOps.sem (OpSem.move (.inl rfl) rfl) rfl rfl (by decide) ?_
                refine TrOps.nil ?_
                have hb : PatOk m.sizes vars k := by first | (simp only [decide_eq_true_eq, decide_eq_false_iff_not] at c23 c30 c33 c42; exact ⟨by omega, by omega, fun _ => by omega⟩) | (simp only [decide_eq_true_eq, decide_eq_false_iff_not] at c23 c30 c33; exact ⟨by omega, by omega, fun hp => by omega⟩)
                refine At.again (k + 1) ⟨by omega, all_succ hinv hb⟩ ?_ (by omega)
                exact .slot rfl (.refl _) <| .slot rfl (.refl _) <| .slot rfl (.refl _) <| .slot rfl (.refl _) <| .slot rfl (.refl _) <| .slot rfl (.refl _) <| .slot rfl (Le.of_eq (by simp)) <| .mem rfl <| .mem rfl <| .nil
            · refine TrOps.gF rfl rfl rfl rfl c33 rfl (by decide) ?_
              refine TrOps.gF rfl rfl rfl rfl c33 rfl (by decide) ?_
              refine TrOps.gF rfl rfl rfl rfl c33 rfl (by decide) ?_
              refine TrOps.gF rfl rfl rfl rfl c33 rfl (by decide) ?_
              refine TrOps.gF rfl rfl rfl rfl c33 rfl (by decide) ?_
              refine TrOps.gF rfl rfl rfl rfl c33 rfl (by decide) ?_
              refine TrOps.gF rfl rfl rfl rfl c33 rfl (by decide) ?_
              refine TrOps.gT rfl rfl rfl rfl c30 ?_
              refine TrOps.sem (OpSem.pickF rfl rfl c33 rfl) rfl rfl (by decide) ?_
              refine TrOps.sem (OpSem.pickF rfl rfl c30 rfl) rfl rfl (by decide) ?_
              refine TrOps.nil ?_
              refine At.seq ?_
              refine Tr.condF rfl rfl ?_
              refine Tr.skip ?_
              refine At.block_normal ?_
              refine At.seq ?_
              refine Tr.region ?_
              refine TrOps.sem (OpSem.bin rfl rfl rfl (badd (by omega) (by omega))) rfl rfl (by decide) ?_
              refine TrOps.sem (OpSem.move (.inl rfl) rfl) rfl rfl (by decide) ?_
              refine TrOps.nil ?_
              have hb : PatOk m.sizes vars k := by first | (simp only [decide_eq_true_eq, decide_eq_false_iff_not] at c23 c30 c33 c42; exact ⟨by omega, by omega, fun _ => by omega⟩) | (simp only [decide_eq_true_eq, decide_eq_false_iff_not] at c23 c30 c33; exact ⟨by omega, by omega, fun hp => by omega⟩)
              refine At.again (k + 1) ⟨by omega, all_succ hinv hb⟩ ?_ (by omega)
              exact .slot rfl (.refl _) <| .slot rfl (.refl _) <| .slot rfl (.refl _) <| .slot rfl (.refl _) <| .slot rfl (.refl _) <| .slot rfl (.refl _) <| .slot rfl (Le.of_eq (by simp)) <| .mem rfl <| .mem rfl <| .nil
      · have hk : k = vars.length := by simp at c17; omega
        refine Tr.exit ?_
        refine At.pass_exit ?_
        refine At.pass_exit ?_
        refine At.block_same ?_
        refine At.seq ?_
        refine Tr.seq ?_
        refine Tr.region ?_
        refine TrOps.sem (OpSem.build rfl rfl pl29 zc29 rfl rfl) rfl rfl (by decide) ?_
        refine TrOps.storeb rfl rfl rfl rfl rfl rfl rfl vs29 (by first | decide | simp) ?_
        refine TrOps.nil ?_
        refine At.seq ?_
        refine Tr.ret ?_
        exact At.ret rfl (.cellN rfl rfl vs29 <| .nil) rfl (Le.flt (patFault_ok (by subst hk; exact patCode_0 h0 hinv)))

theorem project_Select_does (s vars : List Int) (hv : ∀ i : Nat, i < vars.length → 0 ≤ nth vars i ∧ nth vars i < s.length) (hl : vars.length ≤ 1000) : DoesO Try.prog 99 [.d (ints s), .d (ints vars)] 1 3 (((selTo s vars vars.length).map fun n => [D.v (.int .i64 n)])) := by
  refine DoesO.of_body Try.func99 rfl rfl (by simp) Try.call99 (fun w0 O0 => ?_)
  refine Tr.lenLe (n := 0) rfl (fun len0 => ?_)
  refine Tr.lenLe (n := 1) rfl (fun len1 => ?_)
  refine Tr.seq ?_
  refine Tr.region ?_
  refine TrOps.sem (OpSem.move (.inr rfl) rfl) rfl rfl (by decide) ?_
  refine TrOps.nil ?_
  refine At.seq ?_
  refine Tr.seq ?_
  refine Tr.region ?_
  refine TrOps.sem (OpSem.move (.inr rfl) rfl) rfl rfl (by decide) ?_
  refine TrOps.nil ?_
  refine At.seq ?_
  refine Tr.seq ?_
  refine Tr.seq ?_
  refine Tr.ownNil (n := 5) 5 1 3 rfl ?_
  refine Tr.region ?_
  refine TrOps.sem (OpSem.move (.inl rfl) rfl) rfl rfl (by decide) ?_
  refine TrOps.sem (OpSem.lenL rfl rfl es22) rfl rfl (by decide) ?_
  refine TrOps.sem (OpSem.move (.inl rfl) rfl) rfl rfl (by decide) ?_
  refine TrOps.nil ?_
  refine At.seq ?_
  refine Tr.block ?_
  refine Tr.loop (X := Nat) (fun k => k ≤ vars.length) (fun k => [(0, .d (ints s)), (5, .o 5), (8, .d (ints vars)), (9, I (vars.length)), (10, I (k))]) (fun k => [(5, .own 1 3 ((selTo s vars k).map fun n => [D.v (.int .i64 n)]))]) (fun k => vars.length - k) 0 (by omega) ?_ ?_
  · exact .slot rfl (.refl _) <| .slot rfl (.refl _) <| .slot rfl (.refl _) <| .slot rfl (.refl _) <| .slot rfl (Le.of_eq (by simp)) <| .memEq rfl (by simp [selTo]) <| .nil
  · rintro k hkl
    refine Tr.seq ?_
    refine Tr.region ?_
    refine TrOps.sem (OpSem.bin rfl rfl rfl blss) rfl rfl (by decide) ?_
    refine TrOps.nil ?_
    refine At.seq ?_
    refine Tr.seq ?_
    refine Tr.cond rfl (fun c11 => ?_) (fun c11 => ?_)
    · have hk : k < vars.length := by simpa using c11
      have hvk := hv k hk
      have hsl := selTo_len (s := s) (vars := vars) (k := k)
      refine Tr.skip ?_
      refine At.seq ?_
      refine Tr.seq ?_
      refine Tr.block ?_
      refine Tr.seq ?_
      refine Tr.region ?_
      refine TrOps.sem (OpSem.idxL rfl rfl rfl es22 (by omega) (by omega)) rfl rfl (by decide) ?_
      refine TrOps.sem (OpSem.load1 rfl rfl vs3 rfl) rfl rfl (by decide) ?_
      refine TrOps.sem (OpSem.move (.inr rfl) rfl) rfl rfl (by decide) ?_
      refine TrOps.nil ?_
      refine At.seq ?_
      refine Tr.region ?_
      refine TrOps.sem (OpSem.move (.inl rfl) rfl) rfl rfl (by decide) ?_
      refine TrOps.sem (OpSem.move (.inl rfl) rfl) rfl rfl (by decide) ?_
      refine TrOps.sem (OpSem.move (.inl rfl) rfl) rfl rfl (by decide) ?_
      refine TrOps.sem (OpSem.idxL rfl rfl rfl es22 (by omega) (by omega)) rfl rfl (by decide) ?_
      refine TrOps.sem (OpSem.load1 rfl rfl vs3 rfl) rfl rfl (by decide) ?_
      refine TrOps.sem (OpSem.buildSlice rfl rfl es22 ze22 rfl rfl (by decide) (by decide) rfl rfl) rfl rfl (by decide) ?_
      refine TrOps.append rfl rfl rfl (by decide) rfl rfl rfl es22 el22 zc3 rfl by3 (by simp [D.one, Value.oneCell']) (by simp [maxLen, hsl]; omega) (by simp [hsl]; omega) ?_
      refine TrOps.sem (OpSem.move (.inr rfl) rfl) rfl rfl (by decide) ?_
      refine TrOps.nil ?_
      refine At.block_normal ?_
      refine At.seq ?_
      refine Tr.region ?_
      refine TrOps.sem (OpSem.bin rfl rfl rfl (badd (by omega) (by omega))) rfl rfl (by decide) ?_
      refine TrOps.sem (OpSem.move (.inl rfl) rfl) rfl rfl (by decide) ?_
      refine TrOps.nil ?_
      refine At.again (k + 1) (by omega) ?_ (by omega)
      exact .slot rfl (.refl _) <| .slot rfl (.refl _) <| .slot rfl (.refl _) <| .slot rfl (.refl _) <| .slot rfl (Le.of_eq (by simp)) <| .memEq rfl (by rw [selTo_s]; simp) <| .nil
    · have hk : k = vars.length := by simp at c11; omega
      refine Tr.exit ?_
      refine At.pass_exit ?_
      refine At.pass_exit ?_
      refine At.block_same ?_
      refine At.seq ?_
      refine Tr.seq ?_
      refine Tr.region ?_
      refine TrOps.sem (OpSem.move (.inl rfl) rfl) rfl rfl (by decide) ?_
      refine TrOps.sem (OpSem.move (.inr rfl) rfl) rfl rfl (by decide) ?_
      refine TrOps.nil ?_
      refine At.seq ?_
      refine Tr.ret ?_
      exact At.retO2 rfl rfl rfl (by simp) (by rw [hk])

theorem Q_Part_does (s vars : List Int) (hv : ∀ i : Nat, i < vars.length → 0 ≤ nth vars i ∧ nth vars i < s.length) (hl : vars.length ≤ 1000) : DoesO Try.prog 92 [.d (ints s), .d (ints vars)] 1 3 (((selTo s vars vars.length).map fun n => [D.v (.int .i64 n)])) := by
  refine DoesO.of_body Try.func92 rfl rfl (by simp) Try.call92 (fun w0 O0 => ?_)
  refine Tr.lenLe (n := 0) rfl (fun len0 => ?_)
  refine Tr.lenLe (n := 1) rfl (fun len1 => ?_)
  refine Tr.seq ?_
  refine Tr.region ?_
  refine TrOps.sem (OpSem.move (.inr rfl) rfl) rfl rfl (by decide) ?_
  refine TrOps.nil ?_
  refine At.seq ?_
  refine Tr.seq ?_
  refine Tr.region ?_
  refine TrOps.sem (OpSem.move (.inr rfl) rfl) rfl rfl (by decide) ?_
  refine TrOps.nil ?_
  refine At.seq ?_
  refine Tr.seq ?_
  refine Tr.seq ?_
  refine Tr.ownNil (n := 5) 5 1 3 rfl ?_
  refine Tr.region ?_
  refine TrOps.sem (OpSem.move (.inr rfl) rfl) rfl rfl (by decide) ?_
  refine TrOps.nil ?_
  refine At.seq ?_
  refine Tr.block ?_
  refine Tr.loop (X := Nat) (fun k => k ≤ vars.length) (fun k => [(0, .d (ints s)), (1, .d (ints vars)), (5, .o 5), (6, I (k))]) (fun k => [(5, .own 1 3 ((selTo s vars k).map fun n => [D.v (.int .i64 n)]))]) (fun k => vars.length - k) 0 (by omega) ?_ ?_
  · exact .slot rfl (.refl _) <| .slot rfl (.refl _) <| .slot rfl (.refl _) <| .slot rfl (Le.of_eq (by simp)) <| .memEq rfl (by simp [selTo]) <| .nil
  · rintro k hkl
    refine Tr.seq ?_
    refine Tr.seq ?_
    refine Tr.region ?_
    refine TrOps.sem (OpSem.move (.inl rfl) rfl) rfl rfl (by decide) ?_
    refine TrOps.sem (OpSem.move (.inl rfl) rfl) rfl rfl (by decide) ?_
    refine TrOps.sem (OpSem.lenL rfl rfl es22) rfl rfl (by decide) ?_
    refine TrOps.sem (OpSem.bin rfl rfl rfl blss) rfl rfl (by decide) ?_
    refine TrOps.nil ?_
    refine At.seq ?_
    refine Tr.cond rfl (fun c10 => ?_) (fun c10 => ?_)
    · have hk : k < vars.length := by simpa using c10
      have hvk := hv k hk
      have hsl := selTo_len (s := s) (vars := vars) (k := k)
      refine Tr.skip ?_
      refine At.seq ?_
      refine Tr.seq ?_
      refine Tr.block ?_
      refine Tr.region ?_
      refine TrOps.sem (OpSem.move (.inl rfl) rfl) rfl rfl (by decide) ?_
      refine TrOps.sem (OpSem.move (.inl rfl) rfl) rfl rfl (by decide) ?_
      refine TrOps.sem (OpSem.move (.inl rfl) rfl) rfl rfl (by decide) ?_
      refine TrOps.sem (OpSem.move (.inl rfl) rfl) rfl rfl (by decide) ?_
      refine TrOps.sem (OpSem.idxL rfl rfl rfl es22 (by omega) (by omega)) rfl rfl (by decide) ?_
      refine TrOps.sem (OpSem.load1 rfl rfl vs3 rfl) rfl rfl (by decide) ?_
      refine TrOps.sem (OpSem.idxL rfl rfl rfl es22 (by omega) (by omega)) rfl rfl (by decide) ?_
      refine TrOps.sem (OpSem.load1 rfl rfl vs3 rfl) rfl rfl (by decide) ?_
      refine TrOps.sem (OpSem.buildSlice rfl rfl es22 ze22 rfl rfl (by decide) (by decide) rfl rfl) rfl rfl (by decide) ?_
      refine TrOps.append rfl rfl rfl (by decide) rfl rfl rfl es22 el22 zc3 rfl by3 (by simp [D.one, Value.oneCell']) (by simp [maxLen, hsl]; omega) (by simp [hsl]; omega) ?_
      refine TrOps.sem (OpSem.move (.inr rfl) rfl) rfl rfl (by decide) ?_
      refine TrOps.nil ?_
      refine At.block_normal ?_
      refine At.seq ?_
      refine Tr.region ?_
      refine TrOps.sem (OpSem.move (.inl rfl) rfl) rfl rfl (by decide) ?_
      refine TrOps.sem (OpSem.bin rfl rfl rfl (badd (by omega) (by omega))) rfl rfl (by decide) ?_
      refine TrOps.sem (OpSem.move (.inr rfl) rfl) rfl rfl (by decide) ?_
      refine TrOps.nil ?_
      refine At.again (k + 1) (by omega) ?_ (by omega)
      exact .slot rfl (.refl _) <| .slot rfl (.refl _) <| .slot rfl (.refl _) <| .slot rfl (Le.of_eq (by simp)) <| .memEq rfl (by rw [selTo_s]; simp) <| .nil
    · have hk : k = vars.length := by simp at c10; omega
      refine Tr.exit ?_
      refine At.pass_exit ?_
      refine At.pass_exit ?_
      refine At.block_same ?_
      refine At.seq ?_
      refine Tr.seq ?_
      refine Tr.region ?_
      refine TrOps.sem (OpSem.move (.inl rfl) rfl) rfl rfl (by decide) ?_
      refine TrOps.sem (OpSem.move (.inr rfl) rfl) rfl rfl (by decide) ?_
      refine TrOps.nil ?_
      refine At.seq ?_
      refine Tr.ret ?_
      exact At.retO2 rfl rfl rfl (by simp) (by rw [hk])

theorem project_check_does (m : Multi) (vars : List Int) : Does Try.prog false 64 [multi m, .d (ints vars)] (flt (projFault m vars)) := by
  refine Does.of_body Try.func64 rfl rfl (by simp) Try.call64 (fun w0 O0 => ?_)
  refine Tr.lenG (n := 0) (i := 0) rfl rfl (fun len0_0 => ?_)
  refine Tr.lenG (n := 0) (i := 1) rfl rfl (fun len0_1 => ?_)
  refine Tr.lenG (n := 0) (i := 2) rfl rfl (fun len0_2 => ?_)
  refine Tr.lenG (n := 0) (i := 3) rfl rfl (fun len0_3 => ?_)
  refine Tr.lenLe (n := 1) rfl (fun len1 => ?_)
  refine Tr.seq ?_
  refine Tr.region ?_
  refine TrOps.semM (OpSem.box 2 rfl rfl rfl rfl) rfl rfl (by decide) ?_
  refine TrOps.semM (OpSem.alloc 4 rfl zc29 rfl) rfl rfl (by decide) ?_
  refine TrOps.nil ?_
  refine At.seq ?_
  refine Tr.seq ?_
  refine Tr.seq ?_
  refine Tr.region ?_
  refine TrOps.sem (OpSem.loadbN rfl rfl rfl vs26 (by first | decide | simp)) rfl rfl (by decide) ?_
  refine TrOps.sem (OpSem.call0 (multi_Validate_does ..) rfl rfl rfl rfl (Les.refl _)) rfl rfl (by decide) ?_
  refine TrOps.semM (OpSem.alloc 5 rfl zc29 rfl) rfl rfl (by decide) ?_
  refine TrOps.storeb rfl rfl rfl rfl rfl rfl rfl vs29 (by first | decide | simp) ?_
  refine TrOps.nil ?_
  refine At.seq ?_
  refine Tr.seq ?_
  refine Tr.region ?_
  refine TrOps.sem (OpSem.loadbN rfl rfl rfl vs29 (by first | decide | simp)) rfl rfl (by decide) ?_
  refine TrOps.sem (OpSem.build rfl rfl pl29 zc29 rfl rfl) rfl rfl (by decide) ?_
  refine TrOps.sem (OpSem.neS2 rfl rfl rfl io29) rfl rfl (by decide) ?_
  refine TrOps.nil ?_
  refine At.seq ?_
  refine Tr.cond rfl (fun c10 => ?_) (fun c10 => ?_)
  · refine Tr.seq ?_
    refine Tr.region ?_
    refine TrOps.sem (OpSem.loadbN rfl rfl rfl vs29 (by first | decide | simp)) rfl rfl (by decide) ?_
    refine TrOps.storeb rfl rfl rfl rfl rfl rfl rfl vs29 (by first | decide | simp) ?_
    refine TrOps.nil ?_
    refine At.seq ?_
    refine Tr.ret ?_
    refine At.pass_ret ?_
    exact At.ret rfl (.cellN rfl rfl vs29 <| .nil) rfl (Le.flt (projFault_2 (fun e => by simp [e] at c10)))
  · refine Tr.skip ?_
    refine At.seq ?_
    refine Tr.seq ?_
    refine Tr.region ?_
    refine TrOps.sem (OpSem.loadbN rfl rfl rfl vs26 (by first | decide | simp)) rfl rfl (by decide) ?_
    refine TrOps.sem (OpSem.move (.inl rfl) rfl) rfl rfl (by decide) ?_
    refine TrOps.sem (OpSem.call0 (project_Check_does ..) rfl rfl rfl rfl (Les.refl _)) rfl rfl (by decide) ?_
    refine TrOps.storeb rfl rfl rfl rfl rfl rfl rfl vs29 (by first | decide | simp) ?_
    refine TrOps.nil ?_
    refine At.seq ?_
    refine Tr.ret ?_
    exact At.ret rfl (.cellN rfl rfl vs29 <| .nil) rfl (Le.flt (projFault_1 (pair0 (by simpa using c10))))

theorem project_large_does (m : Multi) (vars : List Int) (hv : Valid m) (hp : PatP m.sizes vars) : Does Try.prog false 65 [multi m, .d (ints vars)] (Bo (decide (2000 < prodTo m.sizes vars vars.length))) := by
  have hl := hv.len
  have hpl := pat_len hp
  refine Does.of_body Try.func65 rfl rfl (by simp) Try.call65 (fun w0 O0 => ?_)
  refine Tr.lenG (n := 0) (i := 0) rfl rfl (fun len0_0 => ?_)
  refine Tr.lenG (n := 0) (i := 1) rfl rfl (fun len0_1 => ?_)
  refine Tr.lenG (n := 0) (i := 2) rfl rfl (fun len0_2 => ?_)
  refine Tr.lenG (n := 0) (i := 3) rfl rfl (fun len0_3 => ?_)
  refine Tr.lenLe (n := 1) rfl (fun len1 => ?_)
  refine Tr.seq ?_
  refine Tr.region ?_
  refine TrOps.semM (OpSem.box 2 rfl rfl rfl rfl) rfl rfl (by decide) ?_
  refine TrOps.sem (OpSem.move (.inr rfl) rfl) rfl rfl (by decide) ?_
  refine TrOps.nil ?_
  refine At.seq ?_
  refine Tr.seq ?_
  refine Tr.region ?_
  refine TrOps.sem (OpSem.move (.inr rfl) rfl) rfl rfl (by decide) ?_
  refine TrOps.nil ?_
  refine At.seq ?_
  refine Tr.seq ?_
  refine Tr.seq ?_
  refine Tr.region ?_
  refine TrOps.sem (OpSem.move (.inl rfl) rfl) rfl rfl (by decide) ?_
  refine TrOps.sem (OpSem.lenL rfl rfl es22) rfl rfl (by decide) ?_
  refine TrOps.sem (OpSem.move (.inl rfl) rfl) rfl rfl (by decide) ?_
  refine TrOps.nil ?_
  refine At.seq ?_
  refine Tr.block ?_
  refine Tr.loop (X := Nat) (fun k => k ≤ vars.length) (fun k => [(2, .r 2 0), (5, I (prodTo m.sizes vars k)), (8, .d (ints vars)), (9, I (vars.length)), (10, I (k))]) (fun k => [(2, .box [.d (ints m.sizes), .d (ints m.init), .d (asgs m.goal), .d (opsD m.ops)])]) (fun k => vars.length - k) 0 (by omega) ?_ ?_
  · exact .slot rfl (.refl _) <| .slot rfl (.refl _) <| .slot rfl (.refl _) <| .slot rfl (.refl _) <| .slot rfl (Le.of_eq (by simp)) <| .mem rfl <| .nil
  · rintro k hkl
    refine Tr.seq ?_
    refine Tr.region ?_
    refine TrOps.sem (OpSem.bin rfl rfl rfl blss) rfl rfl (by decide) ?_
    refine TrOps.nil ?_
    refine At.seq ?_
    refine Tr.seq ?_
    refine Tr.cond rfl (fun c11 => ?_) (fun c11 => ?_)
    · have hk : k < vars.length := by simpa using c11
      have h1 := prodTo_in hv.sizes hp (k := k + 1) (by omega)
      have h2 := pow6_le (k := k + 1) (by omega)
      simp only [prodTo] at h1
      have hpk := hp k hk
      refine Tr.skip ?_
      refine At.seq ?_
      refine Tr.seq ?_
      refine Tr.block ?_
      refine Tr.seq ?_
      refine Tr.region ?_
      refine TrOps.sem (OpSem.idxL rfl rfl rfl es22 (by omega) (by omega)) rfl rfl (by decide) ?_
      refine TrOps.sem (OpSem.load1 rfl rfl vs3 rfl) rfl rfl (by decide) ?_
      refine TrOps.sem (OpSem.move (.inr rfl) rfl) rfl rfl (by decide) ?_
      refine TrOps.nil ?_
      refine At.seq ?_
      refine Tr.region ?_
      refine TrOps.sem (OpSem.move (.inl rfl) rfl) rfl rfl (by decide) ?_
      refine TrOps.sem (OpSem.fieldr rfl rfl fo26_0) rfl rfl (by decide) ?_
      refine TrOps.sem (OpSem.loadb1 rfl rfl rfl vs22 rfl) rfl rfl (by decide) ?_
      refine TrOps.sem (OpSem.move (.inl rfl) rfl) rfl rfl (by decide) ?_
      refine TrOps.sem (OpSem.idxL rfl rfl rfl es22 (by omega) (by omega)) rfl rfl (by decide) ?_
      refine TrOps.sem (OpSem.load1 rfl rfl vs3 rfl) rfl rfl (by decide) ?_
      refine TrOps.sem (OpSem.bin rfl rfl rfl (bmul (by omega) (by omega))) rfl rfl (by decide) ?_
      refine TrOps.sem (OpSem.move (.inr rfl) rfl) rfl rfl (by decide) ?_
      refine TrOps.nil ?_
      refine At.block_normal ?_
      refine At.seq ?_
      refine Tr.region ?_
      refine TrOps.sem (OpSem.bin rfl rfl rfl (badd (by omega) (by omega))) rfl rfl (by decide) ?_
      refine TrOps.sem (OpSem.move (.inl rfl) rfl) rfl rfl (by decide) ?_
      refine TrOps.nil ?_
      refine At.again (k + 1) (by omega) ?_ (by omega)
      exact .slot rfl (.refl _) <| .slot rfl (.refl _) <| .slot rfl (.refl _) <| .slot rfl (.refl _) <| .slot rfl (Le.of_eq (by simp)) <| .mem rfl <| .nil
    · have hk : k = vars.length := by simp at c11; omega
      refine Tr.exit ?_
      refine At.pass_exit ?_
      refine At.pass_exit ?_
      refine At.block_same ?_
      refine At.seq ?_
      refine Tr.seq ?_
      refine Tr.region ?_
      refine TrOps.sem (OpSem.move (.inl rfl) rfl) rfl rfl (by decide) ?_
      refine TrOps.sem (OpSem.bin rfl rfl rfl bgtr) rfl rfl (by decide) ?_
      refine TrOps.sem (OpSem.move (.inr rfl) rfl) rfl rfl (by decide) ?_
      refine TrOps.nil ?_
      refine At.seq ?_
      refine Tr.ret ?_
      exact At.ret rfl (.tmp rfl <| .nil) rfl (Le.bo (by rw [hk]))

theorem project_restrict_does (l : List Asg) (vars : List Int) (hl : l.length ≤ 100) (hv : vars.length ≤ 100) : Does Try.prog false 100 [.d (asgs l), .d (ints vars)] (.d (asgs (restrictTo l vars l.length))) := by
  refine Does.of_body Try.func100 rfl rfl (by simp) Try.call100 (fun w0 O0 => ?_)
  refine Tr.lenLe (n := 0) rfl (fun len0 => ?_)
  refine Tr.lenLe (n := 1) rfl (fun len1 => ?_)
  refine Tr.seq ?_
  refine Tr.region ?_
  refine TrOps.sem (OpSem.move (.inr rfl) rfl) rfl rfl (by decide) ?_
  refine TrOps.nil ?_
  refine At.seq ?_
  refine Tr.seq ?_
  refine Tr.region ?_
  refine TrOps.sem (OpSem.move (.inr rfl) rfl) rfl rfl (by decide) ?_
  refine TrOps.nil ?_
  refine At.seq ?_
  refine Tr.seq ?_
  refine Tr.seq ?_
  refine Tr.ownNil (n := 5) 5 2 90 rfl ?_
  refine Tr.region ?_
  refine TrOps.sem (OpSem.move (.inl rfl) rfl) rfl rfl (by decide) ?_
  refine TrOps.sem (OpSem.lenL rfl rfl es23) rfl rfl (by decide) ?_
  refine TrOps.sem (OpSem.move (.inl rfl) rfl) rfl rfl (by decide) ?_
  refine TrOps.nil ?_
  refine At.seq ?_
  refine Tr.block ?_
  refine Tr.loop (X := Nat) (fun k => k ≤ l.length) (fun k => [(1, .d (ints vars)), (5, .o 5), (10, .d (asgs l)), (11, I (l.length)), (12, I (k))]) (fun k => [(5, .own 2 90 ((restrictTo l vars k).map asg))]) (fun k => l.length - k) 0 (by omega) ?_ ?_
  · exact .slot rfl (.refl _) <| .slot rfl (.refl _) <| .slot rfl (.refl _) <| .slot rfl (.refl _) <| .slot rfl (Le.of_eq (by simp)) <| .memEq rfl (by simp [restrictTo]) <| .nil
  · rintro k hkl
    refine Tr.seq ?_
    refine Tr.region ?_
    refine TrOps.sem (OpSem.bin rfl rfl rfl blss) rfl rfl (by decide) ?_
    refine TrOps.nil ?_
    refine At.seq ?_
    refine Tr.seq ?_
    refine Tr.cond rfl (fun c13 => ?_) (fun c13 => ?_)
    · have hk : k < l.length := by simpa using c13
      have hrl := restrictTo_len (l := l) (vars := vars) (k := k)
      have hkv : k * vars.length ≤ 100 * 100 := Nat.mul_le_mul (by omega) hv
      refine Tr.skip ?_
      refine At.seq ?_
      refine Tr.seq ?_
      refine Tr.block ?_
      refine Tr.seq ?_
      refine Tr.region ?_
      refine TrOps.sem (OpSem.idxL rfl rfl rfl es23 (by omega) (by omega)) rfl rfl (by decide) ?_
      refine TrOps.sem (OpSem.loadN rfl rfl vs90 (by first | decide | simp) rfl) rfl rfl (by decide) ?_
      refine TrOps.semM (OpSem.alloc 7 rfl zc90 rfl) rfl rfl (by decide) ?_
      refine TrOps.storeb rfl rfl rfl rfl rfl rfl rfl vs90 (by first | decide | simp) ?_
      refine TrOps.nil ?_
      refine At.seq ?_
      refine Tr.seq ?_
      refine Tr.region ?_
      refine TrOps.sem (OpSem.move (.inl rfl) rfl) rfl rfl (by decide) ?_
      refine TrOps.sem (OpSem.lenL rfl rfl es22) rfl rfl (by decide) ?_
      refine TrOps.sem (OpSem.move (.inl rfl) rfl) rfl rfl (by decide) ?_
      refine TrOps.nil ?_
      refine At.seq ?_
      refine Tr.block ?_
      refine Tr.loop (X := Nat) (fun j => j ≤ vars.length) (fun j => [(1, .d (ints vars)), (5, .o 5), (7, .r 7 0), (10, .d (asgs l)), (11, I (l.length)), (12, I (k)), (16, .d (ints vars)), (17, I (vars.length)), (18, I (j))]) (fun j => [(5, .own 2 90 ((restrictTo l vars k ++ matchR (nth l k) vars j).map asg)), (7, .box [I ((nth l k).1), I ((nth l k).2)])]) (fun j => vars.length - j) 0 (by omega) ?_ ?_
      · exact .slot rfl (.refl _) <| .slot rfl (.refl _) <| .slot rfl (.refl _) <| .slot rfl (.refl _) <| .slot rfl (.refl _) <| .slot rfl (.refl _) <| .slot rfl (.refl _) <| .slot rfl (.refl _) <| .slot rfl (Le.of_eq (by simp)) <| .memEq rfl (by simp only [matchR, List.append_nil]; rfl) <| .mem rfl <| .nil
      · rintro j hjl
        refine Tr.seq ?_
        refine Tr.region ?_
        refine TrOps.sem (OpSem.bin rfl rfl rfl blss) rfl rfl (by decide) ?_
        refine TrOps.nil ?_
        refine At.seq ?_
        refine Tr.seq ?_
        refine Tr.cond rfl (fun c19 => ?_) (fun c19 => ?_)
        · have hj : j < vars.length := by simpa using c19
          have hml := matchR_len (a := nth l k) (vars := vars) (j := j)
          refine Tr.skip ?_
          refine At.seq ?_
          refine Tr.seq ?_
          refine Tr.block ?_
          refine Tr.seq ?_
          refine Tr.region ?_
          refine TrOps.sem (OpSem.move (.inl rfl) rfl) rfl rfl (by decide) ?_
          refine TrOps.sem (OpSem.idxL rfl rfl rfl es22 (by omega) (by omega)) rfl rfl (by decide) ?_
          refine TrOps.sem (OpSem.load1 rfl rfl vs3 rfl) rfl rfl (by decide) ?_
          refine TrOps.sem (OpSem.move (.inr rfl) rfl) rfl rfl (by decide) ?_
          refine TrOps.sem (OpSem.move (.inr rfl) rfl) rfl rfl (by decide) ?_
          refine TrOps.nil ?_
          refine At.seq ?_
          refine Tr.seq ?_
          refine Tr.region ?_
          refine TrOps.sem (OpSem.fieldr rfl rfl fo90_0) rfl rfl (by decide) ?_
          refine TrOps.sem (OpSem.loadb1 rfl rfl rfl vs3 rfl) rfl rfl (by decide) ?_
          refine TrOps.sem (OpSem.move (.inl rfl) rfl) rfl rfl (by decide) ?_
          refine TrOps.sem (OpSem.bin rfl rfl rfl beql) rfl rfl (by decide) ?_
          refine TrOps.nil ?_
          refine At.seq ?_
          refine Tr.cond rfl (fun c26 => ?_) (fun c26 => ?_)
          · refine Tr.region ?_
            refine TrOps.sem (OpSem.move (.inl rfl) rfl) rfl rfl (by decide) ?_
            refine TrOps.sem (OpSem.move (.inl rfl) rfl) rfl rfl (by decide) ?_
            refine TrOps.sem (OpSem.fieldr rfl rfl fo90_1) rfl rfl (by decide) ?_
            refine TrOps.sem (OpSem.loadb1 rfl rfl rfl vs3 rfl) rfl rfl (by decide) ?_
            refine TrOps.sem (OpSem.build rfl rfl pl90 zc90 rfl rfl) rfl rfl (by decide) ?_
            refine TrOps.sem (OpSem.buildSlice rfl rfl es23 ze23 rfl rfl (by decide) (by decide) rfl rfl) rfl rfl (by decide) ?_
            refine TrOps.append rfl rfl rfl (by decide) rfl rfl rfl es23 el23 zc90 rfl by90 (by simp [D.one, Value.oneCell']) (by simp [maxLen]; omega) (by simp; omega) ?_
            refine TrOps.sem (OpSem.move (.inr rfl) rfl) rfl rfl (by decide) ?_
            refine TrOps.nil ?_
            refine At.block_normal ?_
            refine At.seq ?_
            refine Tr.region ?_
            refine TrOps.sem (OpSem.bin rfl rfl rfl (badd (by omega) (by omega))) rfl rfl (by decide) ?_
            refine TrOps.sem (OpSem.move (.inl rfl) rfl) rfl rfl (by decide) ?_
            refine TrOps.nil ?_
            refine At.again (j + 1) (by omega) ?_ (by omega)
            exact .slot rfl (.refl _) <| .slot rfl (.refl _) <| .slot rfl (.refl _) <| .slot rfl (.refl _) <| .slot rfl (.refl _) <| .slot rfl (.refl _) <| .slot rfl (.refl _) <| .slot rfl (.refl _) <| .slot rfl (Le.of_eq (by simp)) <| .memEq rfl (by simp only [matchR]; rw [if_pos (by simpa using c26)]; simp) <| .mem rfl <| .nil
          · refine Tr.skip ?_
            refine At.block_normal ?_
            refine At.seq ?_
            refine Tr.region ?_
            refine TrOps.sem (OpSem.bin rfl rfl rfl (badd (by omega) (by omega))) rfl rfl (by decide) ?_
            refine TrOps.sem (OpSem.move (.inl rfl) rfl) rfl rfl (by decide) ?_
            refine TrOps.nil ?_
            refine At.again (j + 1) (by omega) ?_ (by omega)
            exact .slot rfl (.refl _) <| .slot rfl (.refl _) <| .slot rfl (.refl _) <| .slot rfl (.refl _) <| .slot rfl (.refl _) <| .slot rfl (.refl _) <| .slot rfl (.refl _) <| .slot rfl (.refl _) <| .slot rfl (Le.of_eq (by simp)) <| .memEq rfl (by simp only [matchR]; rw [if_neg (by simpa using c26)]) <| .mem rfl <| .nil
        · have hj : j = vars.length := by simp at c19; omega
          refine Tr.exit ?_
          refine At.pass_exit ?_
          refine At.pass_exit ?_
          refine At.block_same ?_
          refine At.block_normal ?_
          refine At.seq ?_
          refine Tr.region ?_
          refine TrOps.sem (OpSem.bin rfl rfl rfl (badd (by omega) (by omega))) rfl rfl (by decide) ?_
          refine TrOps.sem (OpSem.move (.inl rfl) rfl) rfl rfl (by decide) ?_
          refine TrOps.nil ?_
          subst hj
          refine At.again (k + 1) (by omega) ?_ (by omega)
          exact .slot rfl (.refl _) <| .slot rfl (.refl _) <| .slot rfl (.refl _) <| .slot rfl (.refl _) <| .slot rfl (Le.of_eq (by simp)) <| .memEq rfl rfl <| .nil
    · have hk : k = l.length := by simp at c13; omega
      refine Tr.exit ?_
      refine At.pass_exit ?_
      refine At.pass_exit ?_
      refine At.block_same ?_
      refine At.seq ?_
      refine Tr.seq ?_
      refine Tr.freeze 5 rfl ?_
      refine Tr.region ?_
      refine TrOps.sem (OpSem.move (.inl rfl) rfl) rfl rfl (by decide) ?_
      refine TrOps.sem (OpSem.move (.inr rfl) rfl) rfl rfl (by decide) ?_
      refine TrOps.nil ?_
      refine At.seq ?_
      refine Tr.ret ?_
      exact At.ret rfl (.tmp rfl <| .nil) rfl (Le.d (by rw [hk]))

theorem project_Rank_does (sizes s : List Int) (hz : SizesP sizes) (hs : StateP sizes s) (hl : sizes.length ≤ 8) : Does Try.prog false 97 [.d (ints sizes), .d (ints s)] (I (rank sizes s)) := by
  have hsl := hs.1
  refine Does.of_body Try.func97 rfl rfl (by simp) Try.call97 (fun w0 O0 => ?_)
  refine Tr.lenLe (n := 0) rfl (fun len0 => ?_)
  refine Tr.lenLe (n := 1) rfl (fun len1 => ?_)
  refine Tr.seq ?_
  refine Tr.region ?_
  refine TrOps.sem (OpSem.move (.inr rfl) rfl) rfl rfl (by decide) ?_
  refine TrOps.nil ?_
  refine At.seq ?_
  refine Tr.seq ?_
  refine Tr.region ?_
  refine TrOps.sem (OpSem.move (.inr rfl) rfl) rfl rfl (by decide) ?_
  refine TrOps.nil ?_
  refine At.seq ?_
  refine Tr.seq ?_
  refine Tr.seq ?_
  refine Tr.region ?_
  refine TrOps.sem (OpSem.move (.inl rfl) rfl) rfl rfl (by decide) ?_
  refine TrOps.sem (OpSem.lenL rfl rfl es22) rfl rfl (by decide) ?_
  refine TrOps.sem (OpSem.move (.inl rfl) rfl) rfl rfl (by decide) ?_
  refine TrOps.nil ?_
  refine At.seq ?_
  refine Tr.block ?_
  refine Tr.loop (X := Nat) (fun k => k ≤ s.length) (fun k => [(0, .d (ints sizes)), (5, I (rankTo sizes s k)), (8, .d (ints s)), (9, I (s.length)), (10, I (k))]) (fun k => []) (fun k => s.length - k) 0 (by omega) ?_ ?_
  · exact .slot rfl (.refl _) <| .slot rfl (.refl _) <| .slot rfl (.refl _) <| .slot rfl (.refl _) <| .slot rfl (Le.of_eq (by simp)) <| .nil
  · rintro k hkl
    refine Tr.seq ?_
    refine Tr.region ?_
    refine TrOps.sem (OpSem.bin rfl rfl rfl blss) rfl rfl (by decide) ?_
    refine TrOps.nil ?_
    refine At.seq ?_
    refine Tr.seq ?_
    refine Tr.cond rfl (fun c11 => ?_) (fun c11 => ?_)
    · have hk : k < s.length := by simpa using c11
      have h0 := rankTo_in hz hs (k := k) (by omega)
      have h1 := rankTo_in hz hs (k := k + 1) (by omega)
      have h2 := pow6_le (k := k + 1) (by omega)
      have h3 := ranksTo_in hz (k := k + 1) (by omega)
      simp only [rankTo] at h1
      have hzk := hz k (by omega)
      have h4 := Int.mul_nonneg h0.1 (show 0 ≤ nth sizes k by omega)
      have hx := hs.2 k (by omega)
      refine Tr.skip ?_
      refine At.seq ?_
      refine Tr.seq ?_
      refine Tr.block ?_
      refine Tr.seq ?_
      refine Tr.region ?_
      refine TrOps.sem (OpSem.move (.inl rfl) rfl) rfl rfl (by decide) ?_
      refine TrOps.sem (OpSem.idxL rfl rfl rfl es22 (by omega) (by omega)) rfl rfl (by decide) ?_
      refine TrOps.sem (OpSem.load1 rfl rfl vs3 rfl) rfl rfl (by decide) ?_
      refine TrOps.sem (OpSem.move (.inr rfl) rfl) rfl rfl (by decide) ?_
      refine TrOps.sem (OpSem.move (.inr rfl) rfl) rfl rfl (by decide) ?_
      refine TrOps.nil ?_
      refine At.seq ?_
      refine Tr.region ?_
      refine TrOps.sem (OpSem.move (.inl rfl) rfl) rfl rfl (by decide) ?_
      refine TrOps.sem (OpSem.move (.inl rfl) rfl) rfl rfl (by decide) ?_
      refine TrOps.sem (OpSem.move (.inl rfl) rfl) rfl rfl (by decide) ?_
      refine TrOps.sem (OpSem.idxL rfl rfl rfl es22 (by omega) (by omega)) rfl rfl (by decide) ?_
      refine TrOps.sem (OpSem.load1 rfl rfl vs3 rfl) rfl rfl (by decide) ?_
      refine TrOps.sem (OpSem.bin rfl rfl rfl (bmul (by omega) (by omega))) rfl rfl (by decide) ?_
      refine TrOps.sem (OpSem.move (.inl rfl) rfl) rfl rfl (by decide) ?_
      refine TrOps.sem (OpSem.bin rfl rfl rfl (badd (by omega) (by omega))) rfl rfl (by decide) ?_
      refine TrOps.sem (OpSem.move (.inr rfl) rfl) rfl rfl (by decide) ?_
      refine TrOps.nil ?_
      refine At.block_normal ?_
      refine At.seq ?_
      refine Tr.region ?_
      refine TrOps.sem (OpSem.bin rfl rfl rfl (badd (by omega) (by omega))) rfl rfl (by decide) ?_
      refine TrOps.sem (OpSem.move (.inl rfl) rfl) rfl rfl (by decide) ?_
      refine TrOps.nil ?_
      refine At.again (k + 1) (by omega) ?_ (by omega)
      exact .slot rfl (.refl _) <| .slot rfl (.refl _) <| .slot rfl (.refl _) <| .slot rfl (.refl _) <| .slot rfl (Le.of_eq (by simp)) <| .nil
    · have hk : k = s.length := by simp at c11; omega
      refine Tr.exit ?_
      refine At.pass_exit ?_
      refine At.pass_exit ?_
      refine At.block_same ?_
      refine At.seq ?_
      refine Tr.seq ?_
      refine Tr.region ?_
      refine TrOps.sem (OpSem.move (.inl rfl) rfl) rfl rfl (by decide) ?_
      refine TrOps.sem (OpSem.move (.inr rfl) rfl) rfl rfl (by decide) ?_
      refine TrOps.nil ?_
      refine At.seq ?_
      refine Tr.ret ?_
      exact At.ret rfl (.tmp rfl <| .nil) rfl (Le.i (by rw [hk]; rfl))

theorem Q_kept_does (l : List Asg) (vars : List Int) (hl : l.length ≤ 100) (hv : vars.length ≤ 100) : Does Try.prog false 93 [.d (asgs l), .d (ints vars)] (.d (asgs (keptTo l vars vars.length))) := by
  refine Does.of_body Try.func93 rfl rfl (by simp) Try.call93 (fun w0 O0 => ?_)
  refine Tr.lenLe (n := 0) rfl (fun len0 => ?_)
  refine Tr.lenLe (n := 1) rfl (fun len1 => ?_)
  refine Tr.seq ?_
  refine Tr.region ?_
  refine TrOps.sem (OpSem.move (.inr rfl) rfl) rfl rfl (by decide) ?_
  refine TrOps.nil ?_
  refine At.seq ?_
  refine Tr.seq ?_
  refine Tr.region ?_
  refine TrOps.sem (OpSem.move (.inr rfl) rfl) rfl rfl (by decide) ?_
  refine TrOps.nil ?_
  refine At.seq ?_
  refine Tr.seq ?_
  refine Tr.seq ?_
  refine Tr.ownNil (n := 5) 5 2 90 rfl ?_
  refine Tr.region ?_
  refine TrOps.sem (OpSem.move (.inr rfl) rfl) rfl rfl (by decide) ?_
  refine TrOps.nil ?_
  refine At.seq ?_
  refine Tr.block ?_
  refine Tr.loop (X := Nat) (fun k => k ≤ vars.length) (fun k => [(0, .d (asgs l)), (1, .d (ints vars)), (5, .o 5), (6, I (k))]) (fun k => [(5, .own 2 90 ((keptTo l vars k).map asg))]) (fun k => vars.length - k) 0 (by omega) ?_ ?_
  · exact .slot rfl (.refl _) <| .slot rfl (.refl _) <| .slot rfl (.refl _) <| .slot rfl (Le.of_eq (by simp)) <| .memEq rfl (by simp [keptTo]) <| .nil
  · rintro k hkl
    refine Tr.seq ?_
    refine Tr.seq ?_
    refine Tr.region ?_
    refine TrOps.sem (OpSem.move (.inl rfl) rfl) rfl rfl (by decide) ?_
    refine TrOps.sem (OpSem.move (.inl rfl) rfl) rfl rfl (by decide) ?_
    refine TrOps.sem (OpSem.lenL rfl rfl es22) rfl rfl (by decide) ?_
    refine TrOps.sem (OpSem.bin rfl rfl rfl blss) rfl rfl (by decide) ?_
    refine TrOps.nil ?_
    refine At.seq ?_
    refine Tr.cond rfl (fun c11 => ?_) (fun c11 => ?_)
    · have hk : k < vars.length := by simpa using c11
      have hrl := keptTo_len (l := l) (vars := vars) (k := k)
      have hkv : k * l.length ≤ 100 * 100 := Nat.mul_le_mul (by omega) hl
      refine Tr.skip ?_
      refine At.seq ?_
      refine Tr.seq ?_
      refine Tr.block ?_
      refine Tr.seq ?_
      refine Tr.region ?_
      refine TrOps.sem (OpSem.move (.inr rfl) rfl) rfl rfl (by decide) ?_
      refine TrOps.nil ?_
      refine At.seq ?_
      refine Tr.block ?_
      refine Tr.loop (X := Nat) (fun j => j ≤ l.length) (fun j => [(0, .d (asgs l)), (1, .d (ints vars)), (5, .o 5), (6, I (k)), (7, I (j))]) (fun j => [(5, .own 2 90 ((keptTo l vars k ++ matchK (nth vars k) k l j).map asg))]) (fun j => l.length - j) 0 (by omega) ?_ ?_
      · exact .slot rfl (.refl _) <| .slot rfl (.refl _) <| .slot rfl (.refl _) <| .slot rfl (.refl _) <| .slot rfl (Le.of_eq (by simp)) <| .memEq rfl (by simp [matchK]) <| .nil
      · rintro j hjl
        refine Tr.seq ?_
        refine Tr.seq ?_
        refine Tr.region ?_
        refine TrOps.sem (OpSem.move (.inl rfl) rfl) rfl rfl (by decide) ?_
        refine TrOps.sem (OpSem.move (.inl rfl) rfl) rfl rfl (by decide) ?_
        refine TrOps.sem (OpSem.lenL rfl rfl es23) rfl rfl (by decide) ?_
        refine TrOps.sem (OpSem.bin rfl rfl rfl blss) rfl rfl (by decide) ?_
        refine TrOps.nil ?_
        refine At.seq ?_
        refine Tr.cond rfl (fun c17 => ?_) (fun c17 => ?_)
        · have hj : j < l.length := by simpa using c17
          have hml := matchK_len (v := nth vars k) (i := k) (l := l) (j := j)
          refine Tr.skip ?_
          refine At.seq ?_
          refine Tr.seq ?_
          refine Tr.block ?_
          refine Tr.seq ?_
          refine PC.start [] ?_
          refine PC.sem (OpSem.move (.inl rfl) rfl) rfl rfl ?_
          refine PC.sem (OpSem.move (.inl rfl) rfl) rfl rfl ?_
          refine PC.sem (OpSem.idxL rfl rfl rfl es23 (by omega) (by omega)) rfl rfl ?_
          refine PC.sem (OpSem.fieldp rfl rfl fo90_0) rfl rfl ?_
          refine PC.sem (OpSem.load1 rfl rfl vs3 rfl) rfl rfl ?_
          refine PC.sem (OpSem.move (.inl rfl) rfl) rfl rfl ?_
          refine PC.sem (OpSem.move (.inl rfl) rfl) rfl rfl ?_
          refine PC.sem (OpSem.idxL rfl rfl rfl es22 (by omega) (by omega)) rfl rfl ?_
          refine PC.sem (OpSem.load1 rfl rfl vs3 rfl) rfl rfl ?_
          refine PC.done0 mixed (by kernel_rfl) (by kernel_rfl) (by kernel_rfl) (by kernel_rfl) (by kernel_rfl) ?_
          refine TrOps.sem (OpSem.bin rfl rfl rfl beql) rfl rfl (by decide) ?_
          refine TrOps.nil ?_
          refine At.seq ?_
          refine Tr.cond rfl (fun c29 => ?_) (fun c29 => ?_)
          · refine Tr.region ?_
            refine TrOps.sem (OpSem.move (.inl rfl) rfl) rfl rfl (by decide) ?_
            refine TrOps.sem (OpSem.move (.inl rfl) rfl) rfl rfl (by decide) ?_
            refine TrOps.sem (OpSem.move (.inl rfl) rfl) rfl rfl (by decide) ?_
            refine TrOps.sem (OpSem.move (.inl rfl) rfl) rfl rfl (by decide) ?_
            refine TrOps.sem (OpSem.idxL rfl rfl rfl es23 (by omega) (by omega)) rfl rfl (by decide) ?_
            refine TrOps.sem (OpSem.fieldp rfl rfl fo90_1) rfl rfl (by decide) ?_
            refine TrOps.sem (OpSem.load1 rfl rfl vs3 rfl) rfl rfl (by decide) ?_
            refine TrOps.sem (OpSem.build rfl rfl pl90 zc90 rfl rfl) rfl rfl (by decide) ?_
            refine TrOps.sem (OpSem.buildSlice rfl rfl es23 ze23 rfl rfl (by decide) (by decide) rfl rfl) rfl rfl (by decide) ?_
            refine TrOps.append rfl rfl rfl (by decide) rfl rfl rfl es23 el23 zc90 rfl by90 (by simp [D.one, Value.oneCell']) (by simp [maxLen]; omega) (by simp; omega) ?_
            refine TrOps.sem (OpSem.move (.inr rfl) rfl) rfl rfl (by decide) ?_
            refine TrOps.nil ?_
            refine At.block_normal ?_
            refine At.seq ?_
            refine Tr.region ?_
            refine TrOps.sem (OpSem.move (.inl rfl) rfl) rfl rfl (by decide) ?_
            refine TrOps.sem (OpSem.bin rfl rfl rfl (badd (by omega) (by omega))) rfl rfl (by decide) ?_
            refine TrOps.sem (OpSem.move (.inr rfl) rfl) rfl rfl (by decide) ?_
            refine TrOps.nil ?_
            refine At.again (j + 1) (by omega) ?_ (by omega)
            exact .slot rfl (.refl _) <| .slot rfl (.refl _) <| .slot rfl (.refl _) <| .slot rfl (.refl _) <| .slot rfl (Le.of_eq (by simp)) <| .memEq rfl (by simp only [matchK]; rw [if_pos (by simpa using c29)]; simp) <| .nil
          · refine Tr.skip ?_
            refine At.block_normal ?_
            refine At.seq ?_
            refine Tr.region ?_
            refine TrOps.sem (OpSem.move (.inl rfl) rfl) rfl rfl (by decide) ?_
            refine TrOps.sem (OpSem.bin rfl rfl rfl (badd (by omega) (by omega))) rfl rfl (by decide) ?_
            refine TrOps.sem (OpSem.move (.inr rfl) rfl) rfl rfl (by decide) ?_
            refine TrOps.nil ?_
            refine At.again (j + 1) (by omega) ?_ (by omega)
            exact .slot rfl (.refl _) <| .slot rfl (.refl _) <| .slot rfl (.refl _) <| .slot rfl (.refl _) <| .slot rfl (Le.of_eq (by simp)) <| .memEq rfl (by simp only [matchK]; rw [if_neg (by simpa using c29)]) <| .nil
        · have hj : j = l.length := by simp at c17; omega
          refine Tr.exit ?_
          refine At.pass_exit ?_
          refine At.pass_exit ?_
          refine At.block_same ?_
          refine At.block_normal ?_
          refine At.seq ?_
          refine Tr.region ?_
          refine TrOps.sem (OpSem.move (.inl rfl) rfl) rfl rfl (by decide) ?_
          refine TrOps.sem (OpSem.bin rfl rfl rfl (badd (by omega) (by omega))) rfl rfl (by decide) ?_
          refine TrOps.sem (OpSem.move (.inr rfl) rfl) rfl rfl (by decide) ?_
          refine TrOps.nil ?_
          subst hj
          refine At.again (k + 1) (by omega) ?_ (by omega)
          exact .slot rfl (.refl _) <| .slot rfl (.refl _) <| .slot rfl (.refl _) <| .slot rfl (Le.of_eq (by simp)) <| .memEq rfl rfl <| .nil
    · have hk : k = vars.length := by simp at c11; omega
      refine Tr.exit ?_
      refine At.pass_exit ?_
      refine At.pass_exit ?_
      refine At.block_same ?_
      refine At.seq ?_
      refine Tr.seq ?_
      refine Tr.freeze 5 rfl ?_
      refine Tr.region ?_
      refine TrOps.sem (OpSem.move (.inl rfl) rfl) rfl rfl (by decide) ?_
      refine TrOps.sem (OpSem.move (.inr rfl) rfl) rfl rfl (by decide) ?_
      refine TrOps.nil ?_
      refine At.seq ?_
      refine Tr.ret ?_
      exact At.ret rfl (.tmp rfl <| .nil) rfl (Le.d (by rw [hk]))

theorem project_States_does (sizes : List Int) (hz : SizesP sizes) (hl : sizes.length ≤ 8) : Does Try.prog false 95 [.d (ints sizes)] (.d (rows (statesL sizes))) := by
  refine Does.of_body Try.func95 rfl rfl (by simp) Try.call95 (fun w0 O0 => ?_)
  refine Tr.lenLe (n := 0) rfl (fun len0 => ?_)
  refine Tr.seq ?_
  refine Tr.region ?_
  refine TrOps.sem (OpSem.move (.inr rfl) rfl) rfl rfl (by decide) ?_
  refine TrOps.nil ?_
  refine At.seq ?_
  refine Tr.seq ?_
  refine Tr.region ?_
  refine TrOps.sem (OpSem.le (s' := .d (rows [[]])) (OpSem.buildSlice rfl rfl es37 ze37 rfl rfl (by decide) (by decide) rfl rfl) (Le.ofD (.rows (.cons (.cons (.nil 1) .nil) .nil)))) rfl rfl (by decide) ?_
  refine TrOps.sem (OpSem.move (.inr rfl) rfl) rfl rfl (by decide) ?_
  refine TrOps.nil ?_
  refine At.seq ?_
  refine Tr.seq ?_
  refine Tr.seq ?_
  refine Tr.region ?_
  refine TrOps.sem (OpSem.move (.inl rfl) rfl) rfl rfl (by decide) ?_
  refine TrOps.sem (OpSem.lenL rfl rfl es22) rfl rfl (by decide) ?_
  refine TrOps.sem (OpSem.move (.inl rfl) rfl) rfl rfl (by decide) ?_
  refine TrOps.nil ?_
  refine At.seq ?_
  refine Tr.block ?_
  refine Tr.loop (X := Nat) (fun k => k ≤ sizes.length) (fun k => [(3, .d (rows (statesTo sizes k))), (11, .d (ints sizes)), (12, I (sizes.length)), (13, I (k))]) (fun k => []) (fun k => sizes.length - k) 0 (by omega) ?_ ?_
  · exact .slot rfl (Le.of_eq rfl) <| .slot rfl (.refl _) <| .slot rfl (.refl _) <| .slot rfl (Le.of_eq (by simp)) <| .nil
  · rintro k hkl
    refine Tr.seq ?_
    refine Tr.region ?_
    refine TrOps.sem (OpSem.bin rfl rfl rfl blss) rfl rfl (by decide) ?_
    refine TrOps.nil ?_
    refine At.seq ?_
    refine Tr.seq ?_
    refine Tr.cond rfl (fun c14 => ?_) (fun c14 => ?_)
    · have hk : k < sizes.length := by simpa using c14
      have hzk := hz k hk
      have hb2 : (statesTo sizes k).length * (nth sizes k).toNat ≤ 1679616 := by have h1 := statesTo_len hz (k := k + 1) (by omega); have h2 := ranksTo_in hz (k := k + 1) (by omega); have h3 := pow6_le (k := k + 1) (by omega); simp only [statesTo, expTo_len] at h1; omega
      have hb3 : (statesTo sizes k).length ≤ 1679616 := by have := Nat.le_mul_of_pos_right (statesTo sizes k).length (show 0 < (nth sizes k).toNat by omega); omega
      refine Tr.skip ?_
      refine At.seq ?_
      refine Tr.seq ?_
      refine Tr.block ?_
      refine Tr.seq ?_
      refine Tr.region ?_
      refine TrOps.sem (OpSem.idxL rfl rfl rfl es22 (by omega) (by omega)) rfl rfl (by decide) ?_
      refine TrOps.sem (OpSem.load1 rfl rfl vs3 rfl) rfl rfl (by decide) ?_
      refine TrOps.sem (OpSem.move (.inr rfl) rfl) rfl rfl (by decide) ?_
      refine TrOps.nil ?_
      refine At.seq ?_
      refine Tr.seq ?_
      refine Tr.region ?_
      refine TrOps.sem (OpSem.move (.inr rfl) rfl) rfl rfl (by decide) ?_
      refine TrOps.nil ?_
      refine At.seq ?_
      refine Tr.seq ?_
      refine Tr.seq ?_
      refine Tr.ownNil (n := 6) 6 1 22 rfl ?_
      refine Tr.region ?_
      refine TrOps.sem (OpSem.move (.inl rfl) rfl) rfl rfl (by decide) ?_
      refine TrOps.sem (OpSem.lenL rfl rfl es37) rfl rfl (by decide) ?_
      refine TrOps.sem (OpSem.move (.inl rfl) rfl) rfl rfl (by decide) ?_
      refine TrOps.nil ?_
      refine At.seq ?_
      refine Tr.block ?_
      refine Tr.loop (X := Nat) (fun i => i ≤ (statesTo sizes k).length) (fun i => [(3, .d (rows (statesTo sizes k))), (5, I ((nth sizes k))), (6, .o 6), (11, .d (ints sizes)), (12, I (sizes.length)), (13, I (k)), (17, .d (rows (statesTo sizes k))), (18, I ((statesTo sizes k).length)), (19, I (i))]) (fun i => [(6, .own 1 22 ((expTo (statesTo sizes k) (nth sizes k).toNat i).map fun r => [ints r]))]) (fun i => (statesTo sizes k).length - i) 0 (by omega) ?_ ?_
      · exact .slot rfl (.refl _) <| .slot rfl (.refl _) <| .slot rfl (.refl _) <| .slot rfl (.refl _) <| .slot rfl (.refl _) <| .slot rfl (.refl _) <| .slot rfl (.refl _) <| .slot rfl (.refl _) <| .slot rfl (Le.of_eq (by simp)) <| .memEq rfl rfl <| .nil
      · rintro i hil
        refine Tr.seq ?_
        refine Tr.region ?_
        refine TrOps.sem (OpSem.bin rfl rfl rfl blss) rfl rfl (by decide) ?_
        refine TrOps.nil ?_
        refine At.seq ?_
        refine Tr.seq ?_
        refine Tr.cond rfl (fun c20 => ?_) (fun c20 => ?_)
        · have hi : i < (statesTo sizes k).length := by simpa using c20
          have hpre := (statesTo_at hz (k := k) (by omega) i hi).1.1
          have hb1 : (i + 1) * (nth sizes k).toNat ≤ (statesTo sizes k).length * (nth sizes k).toNat := Nat.mul_le_mul_right _ (by omega)
          rw [Nat.succ_mul] at hb1
          refine Tr.skip ?_
          refine At.seq ?_
          refine Tr.seq ?_
          refine Tr.block ?_
          refine Tr.seq ?_
          refine Tr.region ?_
          refine TrOps.sem (OpSem.idxL rfl rfl rfl es37 (by omega) (by omega)) rfl rfl (by decide) ?_
          refine TrOps.sem (OpSem.load1 rfl rfl vs22 rfl) rfl rfl (by decide) ?_
          refine TrOps.sem (OpSem.move (.inr rfl) rfl) rfl rfl (by decide) ?_
          refine TrOps.nil ?_
          refine At.seq ?_
          refine Tr.seq ?_
          refine Tr.region ?_
          refine TrOps.sem (OpSem.move (.inl rfl) rfl) rfl rfl (by decide) ?_
          refine TrOps.sem (OpSem.move (.inl rfl) rfl) rfl rfl (by decide) ?_
          refine TrOps.nil ?_
          refine At.seq ?_
          refine Tr.block ?_
          refine Tr.loop (X := Nat) (fun v => v ≤ (nth sizes k).toNat) (fun v => [(3, .d (rows (statesTo sizes k))), (5, I ((nth sizes k))), (6, .o 6), (8, .d (ints (nth (statesTo sizes k) i))), (11, .d (ints sizes)), (12, I (sizes.length)), (13, I (k)), (17, .d (rows (statesTo sizes k))), (18, I ((statesTo sizes k).length)), (19, I (i)), (23, I ((nth sizes k))), (24, I (v))]) (fun v => [(6, .own 1 22 (((expTo (statesTo sizes k) (nth sizes k).toNat i) ++ expR (nth (statesTo sizes k) i) v).map fun r => [ints r]))]) (fun v => (nth sizes k).toNat - v) 0 (by omega) ?_ ?_
          · exact .slot rfl (.refl _) <| .slot rfl (.refl _) <| .slot rfl (.refl _) <| .slot rfl (.refl _) <| .slot rfl (.refl _) <| .slot rfl (.refl _) <| .slot rfl (.refl _) <| .slot rfl (.refl _) <| .slot rfl (.refl _) <| .slot rfl (.refl _) <| .slot rfl (.refl _) <| .slot rfl (Le.of_eq (by simp)) <| .memEq rfl (by simp [expR]) <| .nil
          · rintro v hvl
            refine Tr.seq ?_
            refine Tr.region ?_
            refine TrOps.sem (OpSem.bin rfl rfl rfl blss) rfl rfl (by decide) ?_
            refine TrOps.nil ?_
            refine At.seq ?_
            refine Tr.seq ?_
            refine Tr.cond rfl (fun c25 => ?_) (fun c25 => ?_)
            · have hv : v < (nth sizes k).toNat := by simp at c25; omega
              refine Tr.skip ?_
              refine At.seq ?_
              refine Tr.seq ?_
              refine Tr.block ?_
              refine Tr.seq ?_
              refine Tr.region ?_
              refine TrOps.sem (OpSem.move (.inl rfl) rfl) rfl rfl (by decide) ?_
              refine TrOps.sem (OpSem.move (.inr rfl) rfl) rfl rfl (by decide) ?_
              refine TrOps.nil ?_
              refine At.seq ?_
              refine Tr.region ?_
              refine TrOps.sem (OpSem.move (.inl rfl) rfl) rfl rfl (by decide) ?_
              refine TrOps.sem (OpSem.move (.inl rfl) rfl) rfl rfl (by decide) ?_
              refine TrOps.sem (OpSem.move (.inl rfl) rfl) rfl rfl (by decide) ?_
              refine TrOps.sem (OpSem.lenL rfl rfl es22) rfl rfl (by decide) ?_
              refine TrOps.sem (OpSem.move (.inl rfl) rfl) rfl rfl (by decide) ?_
              refine TrOps.sem (OpSem.lenL rfl rfl es22) rfl rfl (by decide) ?_
              refine TrOps.sem (OpSem.clipL rfl rfl rfl rfl es22) rfl rfl (by decide) ?_
              refine TrOps.sem (OpSem.move (.inl rfl) rfl) rfl rfl (by decide) ?_
              refine TrOps.sem (OpSem.buildSlice rfl rfl es22 ze22 rfl rfl (by decide) (by decide) rfl rfl) rfl rfl (by decide) ?_
              refine TrOps.semM (OpSem.appendC 36 rfl rfl rfl es22 el22 zc3 rfl (by decide) by3 (by intro r hr; simp at hr; rcases hr with ⟨a, _, rfl⟩ | rfl <;> simp [D.one, Value.oneCell']) (by simp) (by simp [maxLen]; omega) (by simp; omega)) rfl rfl (by decide) ?_
              refine TrOps.freeze 36 rfl ?_
              refine TrOps.sem (OpSem.buildSlice rfl rfl es37 ze37 rfl rfl (by decide) (by decide) rfl rfl) rfl rfl (by decide) ?_
              refine TrOps.append rfl rfl rfl (by decide) rfl rfl rfl es37 el37 zc22 rfl by22 (by simp [D.one]) (by simp [maxLen, expTo_len, expR_len]; omega) (by simp [expTo_len, expR_len]; omega) ?_
              refine TrOps.sem (OpSem.move (.inr rfl) rfl) rfl rfl (by decide) ?_
              refine TrOps.nil ?_
              refine At.block_normal ?_
              refine At.seq ?_
              refine Tr.region ?_
              refine TrOps.sem (OpSem.bin rfl rfl rfl (badd (by omega) (by omega))) rfl rfl (by decide) ?_
              refine TrOps.sem (OpSem.move (.inl rfl) rfl) rfl rfl (by decide) ?_
              refine TrOps.nil ?_
              refine At.again (v + 1) (by omega) ?_ (by omega)
              exact .slot rfl (.refl _) <| .slot rfl (.refl _) <| .slot rfl (.refl _) <| .slot rfl (.refl _) <| .slot rfl (.refl _) <| .slot rfl (.refl _) <| .slot rfl (.refl _) <| .slot rfl (.refl _) <| .slot rfl (.refl _) <| .slot rfl (.refl _) <| .slot rfl (.refl _) <| .slot rfl (Le.of_eq (by simp)) <| .memEq rfl (by rw [expR_s]; simp) <| .nil
            · have hv : v = (nth sizes k).toNat := by simp at c25; omega
              refine Tr.exit ?_
              refine At.pass_exit ?_
              refine At.pass_exit ?_
              refine At.block_same ?_
              refine At.block_normal ?_
              refine At.seq ?_
              refine Tr.region ?_
              refine TrOps.sem (OpSem.bin rfl rfl rfl (badd (by omega) (by omega))) rfl rfl (by decide) ?_
              refine TrOps.sem (OpSem.move (.inl rfl) rfl) rfl rfl (by decide) ?_
              refine TrOps.nil ?_
              subst hv
              refine At.again (i + 1) (by omega) ?_ (by omega)
              exact .slot rfl (.refl _) <| .slot rfl (.refl _) <| .slot rfl (.refl _) <| .slot rfl (.refl _) <| .slot rfl (.refl _) <| .slot rfl (.refl _) <| .slot rfl (.refl _) <| .slot rfl (.refl _) <| .slot rfl (Le.of_eq (by simp)) <| .memEq rfl rfl <| .nil
        · have hi : i = (statesTo sizes k).length := by simp at c20; omega
          refine Tr.exit ?_
          refine At.pass_exit ?_
          refine At.pass_exit ?_
          refine At.block_same ?_
          refine At.seq ?_
          refine Tr.freeze 6 rfl ?_
          refine Tr.region ?_
          refine TrOps.sem (OpSem.move (.inl rfl) rfl) rfl rfl (by decide) ?_
          refine TrOps.sem (OpSem.move (.inr rfl) rfl) rfl rfl (by decide) ?_
          refine TrOps.nil ?_
          refine At.block_normal ?_
          refine At.seq ?_
          refine Tr.region ?_
          refine TrOps.sem (OpSem.bin rfl rfl rfl (badd (by omega) (by omega))) rfl rfl (by decide) ?_
          refine TrOps.sem (OpSem.move (.inl rfl) rfl) rfl rfl (by decide) ?_
          refine TrOps.nil ?_
          refine At.again (k + 1) (by omega) ?_ (by omega)
          exact .slot rfl (Le.d (by rw [hi]; rfl)) <| .slot rfl (.refl _) <| .slot rfl (.refl _) <| .slot rfl (Le.of_eq (by simp)) <| .nil
    · have hk : k = sizes.length := by simp at c14; omega
      refine Tr.exit ?_
      refine At.pass_exit ?_
      refine At.pass_exit ?_
      refine At.block_same ?_
      refine At.seq ?_
      refine Tr.seq ?_
      refine Tr.region ?_
      refine TrOps.sem (OpSem.move (.inl rfl) rfl) rfl rfl (by decide) ?_
      refine TrOps.sem (OpSem.move (.inr rfl) rfl) rfl rfl (by decide) ?_
      refine TrOps.nil ?_
      refine At.seq ?_
      refine Tr.ret ?_
      exact At.ret rfl (.tmp rfl <| .nil) rfl (Le.d (by rw [hk]; rfl))

theorem project_To_does (m : Multi) (vars : List Int) (hv : Valid m) (hp : PatP m.sizes vars) : Does Try.prog false 67 [multi m, .d (ints vars)] (multi (projM m vars)) := by
  have hl := hv.len
  have hpl := pat_len hp
  have hol := hv.opsLen
  have hgl := asgs_len hv.goal
  have hin1 : ∀ i : Nat, i < vars.length → 0 ≤ nth vars i ∧ nth vars i < m.sizes.length := fun i hi => ⟨(hp i hi).1, (hp i hi).2.1⟩
  have hin2 : ∀ i : Nat, i < vars.length → 0 ≤ nth vars i ∧ nth vars i < m.init.length := by rw [hv.init.1]; exact hin1
  refine Does.of_body Try.func67 rfl rfl (by simp) Try.call67 (fun w0 O0 => ?_)
  refine Tr.lenG (n := 0) (i := 0) rfl rfl (fun len0_0 => ?_)
  refine Tr.lenG (n := 0) (i := 1) rfl rfl (fun len0_1 => ?_)
  refine Tr.lenG (n := 0) (i := 2) rfl rfl (fun len0_2 => ?_)
  refine Tr.lenG (n := 0) (i := 3) rfl rfl (fun len0_3 => ?_)
  refine Tr.lenLe (n := 1) rfl (fun len1 => ?_)
  refine Tr.seq ?_
  refine Tr.region ?_
  refine TrOps.semM (OpSem.box 2 rfl rfl rfl rfl) rfl rfl (by decide) ?_
  refine TrOps.semM (OpSem.alloc 4 rfl zc26 rfl) rfl rfl (by decide) ?_
  refine TrOps.nil ?_
  refine At.seq ?_
  refine Tr.seq ?_
  refine PC.start [] ?_
  refine PC.sem (OpSem.fieldr rfl rfl fo26_0) rfl rfl ?_
  refine PC.sem (OpSem.loadb1 rfl rfl rfl vs22 rfl) rfl rfl ?_
  refine PC.sem (OpSem.move (.inl rfl) rfl) rfl rfl ?_
  refine PC.sem (OpSem.call0 (project_Select_does m.sizes vars hin1 (by omega)).fresh rfl rfl rfl rfl (Les.refl _)) rfl rfl ?_
  refine PC.sem (OpSem.fieldr rfl rfl fo26_1) rfl rfl ?_
  refine PC.sem (OpSem.loadb1 rfl rfl rfl vs22 rfl) rfl rfl ?_
  refine PC.sem (OpSem.move (.inl rfl) rfl) rfl rfl ?_
  refine PC.sem (OpSem.call0 (project_Select_does m.init vars hin2 (by omega)).fresh rfl rfl rfl rfl (Les.refl _)) rfl rfl ?_
  refine PC.sem (OpSem.fieldr rfl rfl fo26_2) rfl rfl ?_
  refine PC.sem (OpSem.loadb1 rfl rfl rfl vs23 rfl) rfl rfl ?_
  refine PC.sem (OpSem.move (.inl rfl) rfl) rfl rfl ?_
  refine PC.sem (OpSem.call0 (project_restrict_does m.goal vars (by omega) (by omega)) rfl rfl rfl rfl (Les.refl _)) rfl rfl ?_
  refine PC.sem (OpSem.build rfl rfl pl26 zc26 rfl rfl) rfl rfl ?_
  refine PC.semM (OpSem.alloc 5 rfl zc26 rfl) rfl rfl ?_
  refine PC.done1 5 (.box [.d (.v (.slice none 0 0)), .d (.v (.slice none 0 0)), .d (.v (.slice none 0 0)), .d (.v (.slice none 0 0))]) mixed (by kernel_rfl) (by kernel_rfl) (by kernel_rfl) (by kernel_rfl) (by kernel_rfl) ?_
  refine TrOps.storeb rfl rfl rfl rfl rfl rfl rfl vs26 (by first | decide | simp) ?_
  refine TrOps.nil ?_
  refine At.seq ?_
  refine Tr.seq ?_
  refine Tr.seq ?_
  refine Tr.ownNilBox 90 5 3 3 81 rfl rfl rfl ?_
  refine Tr.region ?_
  refine TrOps.sem (OpSem.fieldr rfl rfl fo26_3) rfl rfl (by decide) ?_
  refine TrOps.sem (OpSem.loadb1 rfl rfl rfl vs24 rfl) rfl rfl (by decide) ?_
  refine TrOps.sem (OpSem.lenL rfl rfl es24) rfl rfl (by decide) ?_
  refine TrOps.sem (OpSem.move (.inl rfl) rfl) rfl rfl (by decide) ?_
  refine TrOps.nil ?_
  refine At.seq ?_
  refine Tr.block ?_
  refine Tr.loop (X := Nat) (fun k => k ≤ m.ops.length) (fun k => [(1, .d (ints vars)), (4, .r 4 0), (5, .r 5 0), (22, .d (opsD m.ops)), (23, I (m.ops.length)), (24, I (k))]) (fun k => [(5, .box [.d (ints (selTo m.sizes vars vars.length)), .d (ints (selTo m.init vars vars.length)), .d (asgs (restrictTo m.goal vars m.goal.length)), .o 90]), (90, .own 3 81 ((opTo m vars k).map opC)), (4, .box [.d (.v (.slice none 0 0)), .d (.v (.slice none 0 0)), .d (.v (.slice none 0 0)), .d (.v (.slice none 0 0))])]) (fun k => m.ops.length - k) 0 (by omega) ?_ ?_
  · exact .slot rfl (.refl _) <| .slot rfl (.refl _) <| .slot rfl (.refl _) <| .slot rfl (.refl _) <| .slot rfl (.refl _) <| .slot rfl (Le.of_eq (by simp)) <| .mem rfl <| .memEq rfl rfl <| .mem rfl <| .nil
  · rintro k hkl
    refine Tr.seq ?_
    refine Tr.region ?_
    refine TrOps.sem (OpSem.bin rfl rfl rfl blss) rfl rfl (by decide) ?_
    refine TrOps.nil ?_
    refine At.seq ?_
    refine Tr.seq ?_
    refine Tr.cond rfl (fun c25 => ?_) (fun c25 => ?_)
    · have hk : k < m.ops.length := by simpa using c25
      have ho := hv.op k hk
      have hl1 := asgs_len ho.1
      have hl2 := asgs_len ho.2.1
      refine Tr.skip ?_
      refine At.seq ?_
      refine Tr.seq ?_
      refine Tr.block ?_
      refine Tr.seq ?_
      refine Tr.region ?_
      refine TrOps.sem (OpSem.idxL rfl rfl rfl es24 (by omega) (by omega)) rfl rfl (by decide) ?_
      refine TrOps.sem (OpSem.loadN rfl rfl vs81 (by first | decide | simp) rfl) rfl rfl (by decide) ?_
      refine TrOps.semM (OpSem.alloc 7 rfl zc81 rfl) rfl rfl (by decide) ?_
      refine TrOps.storeb rfl rfl rfl rfl rfl rfl rfl vs81 (by first | decide | simp) ?_
      refine TrOps.nil ?_
      refine At.seq ?_
      refine PC.start [] ?_
      refine PC.sem (OpSem.fieldr rfl rfl fo26_3) rfl rfl ?_
      refine PC.sem (OpSem.loadb1 rfl rfl rfl vs24 rfl) rfl rfl ?_
      refine PC.sem (OpSem.fieldr rfl rfl fo81_0) rfl rfl ?_
      refine PC.sem (OpSem.loadb1 rfl rfl rfl vs23 rfl) rfl rfl ?_
      refine PC.sem (OpSem.move (.inl rfl) rfl) rfl rfl ?_
      refine PC.sem (OpSem.call0 (project_restrict_does (nth m.ops k).pre vars (by omega) (by omega)) rfl rfl rfl rfl (Les.refl _)) rfl rfl ?_
      refine PC.sem (OpSem.fieldr rfl rfl fo81_1) rfl rfl ?_
      refine PC.sem (OpSem.loadb1 rfl rfl rfl vs23 rfl) rfl rfl ?_
      refine PC.sem (OpSem.move (.inl rfl) rfl) rfl rfl ?_
      refine PC.sem (OpSem.call0 (project_restrict_does (nth m.ops k).post vars (by omega) (by omega)) rfl rfl rfl rfl (Les.refl _)) rfl rfl ?_
      refine PC.sem (OpSem.fieldr rfl rfl fo81_2) rfl rfl ?_
      refine PC.sem (OpSem.loadb1 rfl rfl rfl vs3 rfl) rfl rfl ?_
      refine PC.sem (OpSem.build rfl rfl pl81 zc81 rfl rfl) rfl rfl ?_
      refine PC.sem (OpSem.buildSlice rfl rfl es24 ze24 rfl rfl (by decide) (by decide) rfl rfl) rfl rfl ?_
      refine PC.done0 mixed (by kernel_rfl) (by kernel_rfl) (by kernel_rfl) (by kernel_rfl) (by kernel_rfl) ?_
      refine TrOps.append rfl rfl rfl (by decide) rfl rfl rfl es24 el24 zc81 rfl by81 (by simp [D.one, Value.oneCell']) (by simp [maxLen, opTo_len]; omega) (by simp [opTo_len]; omega) ?_
      refine TrOps.sem (OpSem.fieldr rfl rfl fo26_3) rfl rfl (by decide) ?_
      refine TrOps.storeb rfl rfl rfl rfl rfl rfl rfl vs24 (by first | decide | simp) ?_
      refine TrOps.nil ?_
      refine At.block_normal ?_
      refine At.seq ?_
      refine Tr.region ?_
      refine TrOps.sem (OpSem.bin rfl rfl rfl (badd (by omega) (by omega))) rfl rfl (by decide) ?_
      refine TrOps.sem (OpSem.move (.inl rfl) rfl) rfl rfl (by decide) ?_
      refine TrOps.nil ?_
      refine At.again (k + 1) (by omega) ?_ (by omega)
      exact .slot rfl (.refl _) <| .slot rfl (.refl _) <| .slot rfl (.refl _) <| .slot rfl (.refl _) <| .slot rfl (.refl _) <| .slot rfl (Le.of_eq (by simp)) <| .mem rfl <| .memEq rfl (by rw [opTo_s]; simp [restr]) <| .mem rfl <| .nil
    · have hk : k = m.ops.length := by simp at c25; omega
      refine Tr.exit ?_
      refine At.pass_exit ?_
      refine At.pass_exit ?_
      refine At.block_same ?_
      refine At.seq ?_
      refine Tr.seq ?_
      refine Tr.region ?_
      refine TrOps.sem (OpSem.loadbN rfl rfl rfl vs26 (by first | decide | simp)) rfl rfl (by decide) ?_
      refine TrOps.storeb rfl rfl rfl rfl rfl rfl rfl vs26 (by first | decide | simp) ?_
      refine TrOps.nil ?_
      refine At.seq ?_
      refine Tr.ret ?_
      exact At.ret rfl (.cellN rfl rfl vs26 <| .nil) rfl (Le.g (.cons (Le.d (by rw [selTo_end]; rfl)) <| .cons (Le.d (by rw [selTo_end]; rfl)) <| .cons (Le.d (by rfl)) <| .cons (Le.d (by rw [hk, opTo_end])) <| .nil))

theorem Q_Projection_does (m : Multi) (vars : List Int) (hv : Valid m) (hp : PatP m.sizes vars) : Does Try.prog false 63 [multi m, .d (ints vars)] (multi (projM m vars)) := by
  have hl := hv.len
  have hpl := pat_len hp
  have hol := hv.opsLen
  have hgl := asgs_len hv.goal
  have hin1 : ∀ i : Nat, i < vars.length → 0 ≤ nth vars i ∧ nth vars i < m.sizes.length := fun i hi => ⟨(hp i hi).1, (hp i hi).2.1⟩
  have hin2 : ∀ i : Nat, i < vars.length → 0 ≤ nth vars i ∧ nth vars i < m.init.length := by rw [hv.init.1]; exact hin1
  refine Does.of_body Try.func63 rfl rfl (by simp) Try.call63 (fun w0 O0 => ?_)
  refine Tr.lenG (n := 0) (i := 0) rfl rfl (fun len0_0 => ?_)
  refine Tr.lenG (n := 0) (i := 1) rfl rfl (fun len0_1 => ?_)
  refine Tr.lenG (n := 0) (i := 2) rfl rfl (fun len0_2 => ?_)
  refine Tr.lenG (n := 0) (i := 3) rfl rfl (fun len0_3 => ?_)
  refine Tr.lenLe (n := 1) rfl (fun len1 => ?_)
  refine Tr.seq ?_
  refine Tr.region ?_
  refine TrOps.semM (OpSem.box 2 rfl rfl rfl rfl) rfl rfl (by decide) ?_
  refine TrOps.semM (OpSem.alloc 4 rfl zc26 rfl) rfl rfl (by decide) ?_
  refine TrOps.nil ?_
  refine At.seq ?_
  refine Tr.seq ?_
  refine PC.start [] ?_
  refine PC.sem (OpSem.fieldr rfl rfl fo26_0) rfl rfl ?_
  refine PC.sem (OpSem.loadb1 rfl rfl rfl vs22 rfl) rfl rfl ?_
  refine PC.sem (OpSem.move (.inl rfl) rfl) rfl rfl ?_
  refine PC.sem (OpSem.call0 (Q_Part_does m.sizes vars hin1 (by omega)).fresh rfl rfl rfl rfl (Les.refl _)) rfl rfl ?_
  refine PC.sem (OpSem.fieldr rfl rfl fo26_1) rfl rfl ?_
  refine PC.sem (OpSem.loadb1 rfl rfl rfl vs22 rfl) rfl rfl ?_
  refine PC.sem (OpSem.move (.inl rfl) rfl) rfl rfl ?_
  refine PC.sem (OpSem.call0 (Q_Part_does m.init vars hin2 (by omega)).fresh rfl rfl rfl rfl (Les.refl _)) rfl rfl ?_
  refine PC.sem (OpSem.fieldr rfl rfl fo26_2) rfl rfl ?_
  refine PC.sem (OpSem.loadb1 rfl rfl rfl vs23 rfl) rfl rfl ?_
  refine PC.sem (OpSem.move (.inl rfl) rfl) rfl rfl ?_
  refine PC.sem (OpSem.call0 (Q_kept_does m.goal vars (by omega) (by omega)) rfl rfl rfl rfl (Les.refl _)) rfl rfl ?_
  refine PC.sem (OpSem.build rfl rfl pl26 zc26 rfl rfl) rfl rfl ?_
  refine PC.semM (OpSem.alloc 5 rfl zc26 rfl) rfl rfl ?_
  refine PC.done1 5 (.box [.d (.v (.slice none 0 0)), .d (.v (.slice none 0 0)), .d (.v (.slice none 0 0)), .d (.v (.slice none 0 0))]) mixed (by kernel_rfl) (by kernel_rfl) (by kernel_rfl) (by kernel_rfl) (by kernel_rfl) ?_
  refine TrOps.storeb rfl rfl rfl rfl rfl rfl rfl vs26 (by first | decide | simp) ?_
  refine TrOps.nil ?_
  refine At.seq ?_
  refine Tr.seq ?_
  refine Tr.seq ?_
  refine Tr.ownNilBox 90 5 3 3 81 rfl rfl rfl ?_
  refine Tr.region ?_
  refine TrOps.sem (OpSem.move (.inr rfl) rfl) rfl rfl (by decide) ?_
  refine TrOps.nil ?_
  refine At.seq ?_
  refine Tr.block ?_
  refine Tr.loop (X := Nat) (fun k => k ≤ m.ops.length) (fun k => [(1, .d (ints vars)), (2, .r 2 0), (4, .r 4 0), (5, .r 5 0), (6, I (k))]) (fun k => [(5, .box [.d (ints (selTo m.sizes vars vars.length)), .d (ints (selTo m.init vars vars.length)), .d (asgs (keptTo m.goal vars vars.length)), .o 90]), (90, .own 3 81 ((opTo m vars k).map opC)), (2, .box [.d (ints m.sizes), .d (ints m.init), .d (asgs m.goal), .d (opsD m.ops)]), (4, .box [.d (.v (.slice none 0 0)), .d (.v (.slice none 0 0)), .d (.v (.slice none 0 0)), .d (.v (.slice none 0 0))])]) (fun k => m.ops.length - k) 0 (by omega) ?_ ?_
  · exact .slot rfl (.refl _) <| .slot rfl (.refl _) <| .slot rfl (.refl _) <| .slot rfl (.refl _) <| .slot rfl (Le.of_eq (by simp)) <| .mem rfl <| .memEq rfl rfl <| .mem rfl <| .mem rfl <| .nil
  · rintro k hkl
    refine Tr.seq ?_
    refine Tr.seq ?_
    refine Tr.region ?_
    refine TrOps.sem (OpSem.move (.inl rfl) rfl) rfl rfl (by decide) ?_
    refine TrOps.sem (OpSem.fieldr rfl rfl fo26_3) rfl rfl (by decide) ?_
    refine TrOps.sem (OpSem.loadb1 rfl rfl rfl vs24 rfl) rfl rfl (by decide) ?_
    refine TrOps.sem (OpSem.lenL rfl rfl es24) rfl rfl (by decide) ?_
    refine TrOps.sem (OpSem.bin rfl rfl rfl blss) rfl rfl (by decide) ?_
    refine TrOps.nil ?_
    refine At.seq ?_
    refine Tr.cond rfl (fun c25 => ?_) (fun c25 => ?_)
    · have hk : k < m.ops.length := by simpa using c25
      have ho := hv.op k hk
      have hl1 := asgs_len ho.1
      have hl2 := asgs_len ho.2.1
      refine Tr.skip ?_
      refine At.seq ?_
      refine Tr.seq ?_
      refine Tr.block ?_
      refine Tr.seq ?_
      refine Tr.region ?_
      refine TrOps.sem (OpSem.fieldr rfl rfl fo26_3) rfl rfl (by decide) ?_
      refine TrOps.sem (OpSem.loadb1 rfl rfl rfl vs24 rfl) rfl rfl (by decide) ?_
      refine TrOps.sem (OpSem.move (.inl rfl) rfl) rfl rfl (by decide) ?_
      refine TrOps.sem (OpSem.idxL rfl rfl rfl es24 (by omega) (by omega)) rfl rfl (by decide) ?_
      refine TrOps.sem (OpSem.loadN rfl rfl vs81 (by first | decide | simp) rfl) rfl rfl (by decide) ?_
      refine TrOps.semM (OpSem.alloc 7 rfl zc81 rfl) rfl rfl (by decide) ?_
      refine TrOps.storeb rfl rfl rfl rfl rfl rfl rfl vs81 (by first | decide | simp) ?_
      refine TrOps.nil ?_
      refine At.seq ?_
      refine PC.start [] ?_
      refine PC.sem (OpSem.fieldr rfl rfl fo26_3) rfl rfl ?_
      refine PC.sem (OpSem.loadb1 rfl rfl rfl vs24 rfl) rfl rfl ?_
      refine PC.sem (OpSem.fieldr rfl rfl fo81_0) rfl rfl ?_
      refine PC.sem (OpSem.loadb1 rfl rfl rfl vs23 rfl) rfl rfl ?_
      refine PC.sem (OpSem.move (.inl rfl) rfl) rfl rfl ?_
      refine PC.sem (OpSem.call0 (Q_kept_does (nth m.ops k).pre vars (by omega) (by omega)) rfl rfl rfl rfl (Les.refl _)) rfl rfl ?_
      refine PC.sem (OpSem.fieldr rfl rfl fo81_1) rfl rfl ?_
      refine PC.sem (OpSem.loadb1 rfl rfl rfl vs23 rfl) rfl rfl ?_
      refine PC.sem (OpSem.move (.inl rfl) rfl) rfl rfl ?_
      refine PC.sem (OpSem.call0 (Q_kept_does (nth m.ops k).post vars (by omega) (by omega)) rfl rfl rfl rfl (Les.refl _)) rfl rfl ?_
      refine PC.sem (OpSem.fieldr rfl rfl fo81_2) rfl rfl ?_
      refine PC.sem (OpSem.loadb1 rfl rfl rfl vs3 rfl) rfl rfl ?_
      refine PC.sem (OpSem.build rfl rfl pl81 zc81 rfl rfl) rfl rfl ?_
      refine PC.sem (OpSem.buildSlice rfl rfl es24 ze24 rfl rfl (by decide) (by decide) rfl rfl) rfl rfl ?_
      refine PC.done0 mixed (by kernel_rfl) (by kernel_rfl) (by kernel_rfl) (by kernel_rfl) (by kernel_rfl) ?_
      refine TrOps.append rfl rfl rfl (by decide) rfl rfl rfl es24 el24 zc81 rfl by81 (by simp [D.one, Value.oneCell']) (by simp [maxLen, opTo_len]; omega) (by simp [opTo_len]; omega) ?_
      refine TrOps.sem (OpSem.fieldr rfl rfl fo26_3) rfl rfl (by decide) ?_
      refine TrOps.storeb rfl rfl rfl rfl rfl rfl rfl vs24 (by first | decide | simp) ?_
      refine TrOps.nil ?_
      refine At.block_normal ?_
      refine At.seq ?_
      refine Tr.region ?_
      refine TrOps.sem (OpSem.move (.inl rfl) rfl) rfl rfl (by decide) ?_
      refine TrOps.sem (OpSem.bin rfl rfl rfl (badd (by omega) (by omega))) rfl rfl (by decide) ?_
      refine TrOps.sem (OpSem.move (.inr rfl) rfl) rfl rfl (by decide) ?_
      refine TrOps.nil ?_
      refine At.again (k + 1) (by omega) ?_ (by omega)
      exact .slot rfl (.refl _) <| .slot rfl (.refl _) <| .slot rfl (.refl _) <| .slot rfl (.refl _) <| .slot rfl (Le.of_eq (by simp)) <| .mem rfl <| .memEq rfl (by rw [opTo_s]; rw [kept_restr hp (asgsP_sorted ho.1)]; rw [kept_restr hp (asgsP_sorted ho.2.1)]; simp [restr]) <| .mem rfl <| .mem rfl <| .nil
    · have hk : k = m.ops.length := by simp at c25; omega
      refine Tr.exit ?_
      refine At.pass_exit ?_
      refine At.pass_exit ?_
      refine At.block_same ?_
      refine At.seq ?_
      refine Tr.seq ?_
      refine Tr.region ?_
      refine TrOps.sem (OpSem.loadbN rfl rfl rfl vs26 (by first | decide | simp)) rfl rfl (by decide) ?_
      refine TrOps.storeb rfl rfl rfl rfl rfl rfl rfl vs26 (by first | decide | simp) ?_
      refine TrOps.nil ?_
      refine At.seq ?_
      refine Tr.ret ?_
      exact At.ret rfl (.cellN rfl rfl vs26 <| .nil) rfl (Le.g (.cons (Le.d (by rw [selTo_end]; rfl)) <| .cons (Le.d (by rw [selTo_end]; rfl)) <| .cons (Le.d (by rw [kept_restr hp (asgsP_sorted hv.goal)]; rfl)) <| .cons (Le.d (by rw [hk, opTo_end])) <| .nil))

theorem project_distances_does (m : Multi) (hv : Valid m) (hN2 : nR m ≤ 2000) : DoesO Try.prog 66 [multi m] 1 3 (((costs m).map fun n => [D.v (.int .i64 n)])) := by
  have hN := nR_in hv
  have hol := hv.opsLen
  have hl := hv.len
  have hsl := statesL_len hv
  refine DoesO.of_body Try.func66 rfl rfl (by simp) Try.call66 (fun w0 O0 => ?_)
  refine Tr.lenG (n := 0) (i := 0) rfl rfl (fun len0_0 => ?_)
  refine Tr.lenG (n := 0) (i := 1) rfl rfl (fun len0_1 => ?_)
  refine Tr.lenG (n := 0) (i := 2) rfl rfl (fun len0_2 => ?_)
  refine Tr.lenG (n := 0) (i := 3) rfl rfl (fun len0_3 => ?_)
  refine Tr.seq ?_
  refine Tr.region ?_
  refine TrOps.semM (OpSem.box 1 rfl rfl rfl rfl) rfl rfl (by decide) ?_
  refine TrOps.sem (OpSem.move (.inr rfl) rfl) rfl rfl (by decide) ?_
  refine TrOps.nil ?_
  refine At.seq ?_
  refine Tr.seq ?_
  refine Tr.region ?_
  refine TrOps.sem (OpSem.fieldr rfl rfl fo26_0) rfl rfl (by decide) ?_
  refine TrOps.sem (OpSem.loadb1 rfl rfl rfl vs22 rfl) rfl rfl (by decide) ?_
  refine TrOps.sem (OpSem.call0 (project_States_does m.sizes hv.sizes hl.2) rfl rfl rfl rfl (Les.refl _)) rfl rfl (by decide) ?_
  refine TrOps.sem (OpSem.move (.inr rfl) rfl) rfl rfl (by decide) ?_
  refine TrOps.nil ?_
  refine At.seq ?_
  refine Tr.seq ?_
  refine Tr.region ?_
  refine TrOps.sem (OpSem.move (.inl rfl) rfl) rfl rfl (by decide) ?_
  refine TrOps.sem (OpSem.lenL rfl rfl es37) rfl rfl (by decide) ?_
  refine TrOps.semM (OpSem.makeSlice 18 rfl rfl rfl es22 ze22 rfl rfl (by decide) bye22 (by omega) (by simp; omega) (by simp; omega)) rfl rfl (by decide) ?_
  refine TrOps.sem (OpSem.move (.inr rfl) rfl) rfl rfl (by decide) ?_
  refine TrOps.nil ?_
  refine At.seq ?_
  refine Tr.seq ?_
  refine Tr.seq ?_
  refine Tr.region ?_
  refine TrOps.sem (OpSem.move (.inl rfl) rfl) rfl rfl (by decide) ?_
  refine TrOps.sem (OpSem.lenL rfl rfl es37) rfl rfl (by decide) ?_
  refine TrOps.sem (OpSem.move (.inl rfl) rfl) rfl rfl (by decide) ?_
  refine TrOps.nil ?_
  refine At.seq ?_
  refine Tr.block ?_
  refine Tr.loop (X := Nat) (fun k => k ≤ nR m) (fun k => [(1, .r 1 0), (3, .d (rows (statesL m.sizes))), (4, .o 18), (19, .d (rows (statesL m.sizes))), (20, I ((statesL m.sizes).length)), (21, I (k))]) (fun k => [(18, .own 1 3 ((fillTo m k).map fun n => [D.v (.int .i64 n)])), (1, .box [.d (ints m.sizes), .d (ints m.init), .d (asgs m.goal), .d (opsD m.ops)])]) (fun k => nR m - k) 0 (by omega) ?_ ?_
  · exact .slot rfl (.refl _) <| .slot rfl (.refl _) <| .slot rfl (.refl _) <| .slot rfl (.refl _) <| .slot rfl (.refl _) <| .slot rfl (Le.of_eq (by simp)) <| .memEq rfl (by rw [fillTo_0]; simp [hsl]; rfl) <| .mem rfl <| .nil
  · rintro k hkl
    refine Tr.seq ?_
    refine Tr.region ?_
    refine TrOps.sem (OpSem.bin rfl rfl rfl blss) rfl rfl (by decide) ?_
    refine TrOps.nil ?_
    refine At.seq ?_
    refine Tr.seq ?_
    refine Tr.cond rfl (fun c22 => ?_) (fun c22 => ?_)
    · have hk : k < nR m := by simp at c22; omega
      have hst := unrank_state (n := k) hv.sizes
      have hin : ∀ l : List Asg, AsgsP m.sizes l → ∀ x, x ∈ l → 0 ≤ x.1 ∧ x.1 < (unrank m.sizes k).length := fun l hl x hx => by have h1 := asgsP_mem hl hx; rw [hst.1]; exact ⟨h1.1, h1.2.1⟩
      refine Tr.skip ?_
      refine At.seq ?_
      refine Tr.seq ?_
      refine Tr.block ?_
      refine Tr.seq ?_
      refine Tr.region ?_
      refine TrOps.sem (OpSem.move (.inl rfl) rfl) rfl rfl (by decide) ?_
      refine TrOps.sem (OpSem.idxL rfl rfl rfl es37 (by omega) (by omega)) rfl rfl (by decide) ?_
      refine TrOps.sem (OpSem.le (s' := .d (ints (unrank m.sizes k))) (OpSem.load1 rfl rfl vs22 rfl) (Le.d (by rw [statesL_at hv (by omega)]))) rfl rfl (by decide) ?_
      refine TrOps.sem (OpSem.move (.inr rfl) rfl) rfl rfl (by decide) ?_
      refine TrOps.sem (OpSem.move (.inr rfl) rfl) rfl rfl (by decide) ?_
      refine TrOps.nil ?_
      refine At.seq ?_
      refine Tr.seq ?_
      refine Tr.region ?_
      refine TrOps.sem (OpSem.move (.inl rfl) rfl) rfl rfl (by decide) ?_
      refine TrOps.sem (OpSem.fieldr rfl rfl fo26_2) rfl rfl (by decide) ?_
      refine TrOps.sem (OpSem.loadb1 rfl rfl rfl vs23 rfl) rfl rfl (by decide) ?_
      refine TrOps.sem (OpSem.call0 (multi_Holds_does (unrank m.sizes k) _ (hin _ hv.goal)) rfl rfl rfl rfl (Les.refl _)) rfl rfl (by decide) ?_
      refine TrOps.sem (OpSem.not rfl rfl) rfl rfl (by decide) ?_
      refine TrOps.nil ?_
      refine At.seq ?_
      refine Tr.cond rfl (fun c30 => ?_) (fun c30 => ?_)
      · refine Tr.region ?_
        refine TrOps.sem (OpSem.move (.inl rfl) rfl) rfl rfl (by decide) ?_
        refine TrOps.sem (OpSem.move (.inl rfl) rfl) rfl rfl (by decide) ?_
        refine TrOps.sem (OpSem.idxo rfl rfl rfl rfl es22 (by omega) (by simp [fillTo_len]; omega)) rfl rfl (by decide) ?_
        refine TrOps.storeq rfl rfl rfl rfl rfl rfl rfl vs3 (rows_get (by omega) (by rw [fillTo_len]; omega)) (by simp) ?_
        refine TrOps.nil ?_
        refine At.block_normal ?_
        refine At.seq ?_
        refine Tr.region ?_
        refine TrOps.sem (OpSem.bin rfl rfl rfl (badd (by omega) (by omega))) rfl rfl (by decide) ?_
        refine TrOps.sem (OpSem.move (.inl rfl) rfl) rfl rfl (by decide) ?_
        refine TrOps.nil ?_
        have hS := fillTo_f hk (by simpa using c30)
        refine At.again (k + 1) (by omega) ?_ (by omega)
        exact .slot rfl (.refl _) <| .slot rfl (.refl _) <| .slot rfl (.refl _) <| .slot rfl (.refl _) <| .slot rfl (.refl _) <| .slot rfl (Le.of_eq (by simp)) <| .memEq rfl (by rw [hS]; exact congrArg (Mo.own 1 3) (rows_set (f := fun n => [D.v (.int .i64 n)]))) <| .mem rfl <| .nil
      · refine Tr.skip ?_
        refine At.block_normal ?_
        refine At.seq ?_
        refine Tr.region ?_
        refine TrOps.sem (OpSem.bin rfl rfl rfl (badd (by omega) (by omega))) rfl rfl (by decide) ?_
        refine TrOps.sem (OpSem.move (.inl rfl) rfl) rfl rfl (by decide) ?_
        refine TrOps.nil ?_
        have hS := fillTo_t (m := m) (k := k) (by simpa using c30)
        refine At.again (k + 1) (by omega) ?_ (by omega)
        exact .slot rfl (.refl _) <| .slot rfl (.refl _) <| .slot rfl (.refl _) <| .slot rfl (.refl _) <| .slot rfl (.refl _) <| .slot rfl (Le.of_eq (by simp)) <| .memEq rfl (by rw [hS] <;> rfl) <| .mem rfl <| .nil
    · have hk : k = nR m := by simp at c22; omega
      subst hk
      refine Tr.exit ?_
      refine At.pass_exit ?_
      refine At.pass_exit ?_
      refine At.block_same ?_
      refine At.seq ?_
      refine Tr.seq ?_
      refine Tr.seq ?_
      refine Tr.region ?_
      refine TrOps.sem (OpSem.move (.inr rfl) rfl) rfl rfl (by decide) ?_
      refine TrOps.nil ?_
      refine At.seq ?_
      refine Tr.block ?_
      refine Tr.loop (X := Nat) (fun j => True) (fun j => [(1, .r 1 0), (3, .d (rows (statesL m.sizes))), (4, .o 18), (7, Bo (flagC m j))]) (fun j => [(18, .own 1 3 ((itC m j).map fun n => [D.v (.int .i64 n)])), (1, .box [.d (ints m.sizes), .d (ints m.init), .d (asgs m.goal), .d (opsD m.ops)])]) (fun j => (itC m j).sum.toNat + (if flagC m j = true then 1 else 0)) 0 trivial ?_ ?_
      · exact .slot rfl (.refl _) <| .slot rfl (.refl _) <| .slot rfl (.refl _) <| .slot rfl (.refl _) <| .memEq rfl (by rw [fillTo_end]; rfl) <| .mem rfl <| .nil
      · rintro j _
        refine Tr.seq ?_
        refine Tr.seq ?_
        refine Tr.region ?_
        refine TrOps.sem (OpSem.move (.inl rfl) rfl) rfl rfl (by decide) ?_
        refine TrOps.nil ?_
        refine At.seq ?_
        refine Tr.cond rfl (fun c35 => ?_) (fun c35 => ?_)
        · refine Tr.skip ?_
          refine At.seq ?_
          refine Tr.block ?_
          refine Tr.seq ?_
          refine Tr.region ?_
          refine TrOps.sem (OpSem.move (.inr rfl) rfl) rfl rfl (by decide) ?_
          refine TrOps.nil ?_
          refine At.seq ?_
          refine Tr.seq ?_
          refine Tr.region ?_
          refine TrOps.sem (OpSem.move (.inl rfl) rfl) rfl rfl (by decide) ?_
          refine TrOps.sem (OpSem.lenL rfl rfl es37) rfl rfl (by decide) ?_
          refine TrOps.sem (OpSem.move (.inl rfl) rfl) rfl rfl (by decide) ?_
          refine TrOps.nil ?_
          refine At.seq ?_
          refine Tr.block ?_
          refine Tr.loop (X := Nat) (fun n => n ≤ nR m) (fun n => [(1, .r 1 0), (3, .d (rows (statesL m.sizes))), (4, .o 18), (7, Bo ((sweepTo m (itC m j) n).2)), (36, .d (rows (statesL m.sizes))), (37, I ((statesL m.sizes).length)), (38, I (n))]) (fun n => [(18, .own 1 3 (((sweepTo m (itC m j) n).1).map fun n => [D.v (.int .i64 n)])), (1, .box [.d (ints m.sizes), .d (ints m.init), .d (asgs m.goal), .d (opsD m.ops)])]) (fun n => nR m - n) 0 (by omega) ?_ ?_
          · exact .slot rfl (.refl _) <| .slot rfl (.refl _) <| .slot rfl (.refl _) <| .slot rfl (.refl _) <| .slot rfl (.refl _) <| .slot rfl (.refl _) <| .slot rfl (Le.of_eq (by simp)) <| .memEq rfl rfl <| .mem rfl <| .nil
          · rintro n hnl
            refine Tr.seq ?_
            refine Tr.region ?_
            refine TrOps.sem (OpSem.bin rfl rfl rfl blss) rfl rfl (by decide) ?_
            refine TrOps.nil ?_
            refine At.seq ?_
            refine Tr.seq ?_
            refine Tr.cond rfl (fun c39 => ?_) (fun c39 => ?_)
            · have hn : n < nR m := by simp at c39; omega
              have hst := unrank_state (n := n) hv.sizes
              have hin : ∀ l : List Asg, AsgsP m.sizes l → ∀ x, x ∈ l → 0 ≤ x.1 ∧ x.1 < (unrank m.sizes n).length := fun l hl x hx => by have h1 := asgsP_mem hl hx; rw [hst.1]; exact ⟨h1.1, h1.2.1⟩
              have hg := sweepTo_good hv (itC_good hv j) hnl
              refine Tr.skip ?_
              refine At.seq ?_
              refine Tr.seq ?_
              refine Tr.block ?_
              refine Tr.seq ?_
              refine Tr.region ?_
              refine TrOps.sem (OpSem.move (.inl rfl) rfl) rfl rfl (by decide) ?_
              refine TrOps.sem (OpSem.idxL rfl rfl rfl es37 (by omega) (by omega)) rfl rfl (by decide) ?_
              refine TrOps.sem (OpSem.le (s' := .d (ints (unrank m.sizes n))) (OpSem.load1 rfl rfl vs22 rfl) (Le.d (by rw [statesL_at hv (by omega)]))) rfl rfl (by decide) ?_
              refine TrOps.sem (OpSem.move (.inr rfl) rfl) rfl rfl (by decide) ?_
              refine TrOps.sem (OpSem.move (.inr rfl) rfl) rfl rfl (by decide) ?_
              refine TrOps.nil ?_
              refine At.seq ?_
              refine Tr.seq ?_
              refine Tr.region ?_
              refine TrOps.sem (OpSem.fieldr rfl rfl fo26_3) rfl rfl (by decide) ?_
              refine TrOps.sem (OpSem.loadb1 rfl rfl rfl vs24 rfl) rfl rfl (by decide) ?_
              refine TrOps.sem (OpSem.lenL rfl rfl es24) rfl rfl (by decide) ?_
              refine TrOps.sem (OpSem.move (.inl rfl) rfl) rfl rfl (by decide) ?_
              refine TrOps.nil ?_
              refine At.seq ?_
              refine Tr.block ?_
              refine Tr.loop (X := Nat) (fun i => i ≤ m.ops.length) (fun i => [(1, .r 1 0), (3, .d (rows (statesL m.sizes))), (4, .o 18), (7, Bo ((opsTo m (sweepTo m (itC m j) n) n i).2)), (8, I (n)), (9, .d (ints (unrank m.sizes n))), (36, .d (rows (statesL m.sizes))), (37, I ((statesL m.sizes).length)), (38, I (n)), (44, .d (opsD m.ops)), (45, I (m.ops.length)), (46, I (i))]) (fun i => [(18, .own 1 3 (((opsTo m (sweepTo m (itC m j) n) n i).1).map fun n => [D.v (.int .i64 n)])), (1, .box [.d (ints m.sizes), .d (ints m.init), .d (asgs m.goal), .d (opsD m.ops)])]) (fun i => m.ops.length - i) 0 (by omega) ?_ ?_
              · exact .slot rfl (.refl _) <| .slot rfl (.refl _) <| .slot rfl (.refl _) <| .slot rfl (.refl _) <| .slot rfl (.refl _) <| .slot rfl (.refl _) <| .slot rfl (.refl _) <| .slot rfl (.refl _) <| .slot rfl (.refl _) <| .slot rfl (.refl _) <| .slot rfl (.refl _) <| .slot rfl (Le.of_eq (by simp)) <| .memEq rfl rfl <| .mem rfl <| .nil
              · rintro i hil
                have hgo := opsTo_good hv hg hn hil
                refine Tr.seq ?_
                refine Tr.region ?_
                refine TrOps.sem (OpSem.bin rfl rfl rfl blss) rfl rfl (by decide) ?_
                refine TrOps.nil ?_
                refine At.seq ?_
                refine Tr.seq ?_
                refine Tr.cond rfl (fun c47 => ?_) (fun c47 => ?_)
                · have hi : i < m.ops.length := by simpa using c47
                  have ho := hv.op i hi
                  have hns := nextS_in hst ho.2.1
                  have hr := rkAt_in hv (n := n) hi
                  have hc1 := hgo.2 _ hr.1 hr.2
                  have hc2 := hgo.2 n (by omega) (by omega)
                  have hlen := hgo.1
                  refine Tr.skip ?_
                  refine At.seq ?_
                  refine Tr.seq ?_
                  refine Tr.block ?_
                  refine Tr.seq ?_
                  refine Tr.region ?_
                  refine TrOps.sem (OpSem.move (.inl rfl) rfl) rfl rfl (by decide) ?_
                  refine TrOps.sem (OpSem.idxL rfl rfl rfl es24 (by omega) (by omega)) rfl rfl (by decide) ?_
                  refine TrOps.sem (OpSem.loadN rfl rfl vs81 (by first | decide | simp) rfl) rfl rfl (by decide) ?_
                  refine TrOps.semM (OpSem.alloc 11 rfl zc81 rfl) rfl rfl (by decide) ?_
                  refine TrOps.sem (OpSem.move (.inr rfl) rfl) rfl rfl (by decide) ?_
                  refine TrOps.storeb rfl rfl rfl rfl rfl rfl rfl vs81 (by first | decide | simp) ?_
                  refine TrOps.nil ?_
                  refine At.seq ?_
                  refine Tr.seq ?_
                  refine Tr.seq ?_
                  refine Tr.region ?_
                  refine TrOps.sem (OpSem.move (.inl rfl) rfl) rfl rfl (by decide) ?_
                  refine TrOps.sem (OpSem.fieldr rfl rfl fo81_0) rfl rfl (by decide) ?_
                  refine TrOps.sem (OpSem.loadb1 rfl rfl rfl vs23 rfl) rfl rfl (by decide) ?_
                  refine TrOps.sem (OpSem.call0 (multi_Holds_does (unrank m.sizes n) _ (hin _ ho.1)) rfl rfl rfl rfl (Les.refl _)) rfl rfl (by decide) ?_
                  refine TrOps.sem (OpSem.not rfl rfl) rfl rfl (by decide) ?_
                  refine TrOps.nil ?_
                  refine At.seq ?_
                  refine Tr.cond rfl (fun c55 => ?_) (fun c55 => ?_)
                  · refine Tr.exit ?_
                    refine At.pass_exit ?_
                    refine At.block_same ?_
                    refine At.seq ?_
                    refine Tr.region ?_
                    refine TrOps.sem (OpSem.bin rfl rfl rfl (badd (by omega) (by omega))) rfl rfl (by decide) ?_
                    refine TrOps.sem (OpSem.move (.inl rfl) rfl) rfl rfl (by decide) ?_
                    refine TrOps.nil ?_
                    have hS : opsTo m (sweepTo m (itC m j) n) n (i + 1) = _ := stepC_0 (by simpa using c55)
                    refine At.again (i + 1) (by omega) ?_ (by omega)
                    exact .slot rfl (.refl _) <| .slot rfl (.refl _) <| .slot rfl (.refl _) <| .slot rfl (Le.bo (by rw [hS])) <| .slot rfl (.refl _) <| .slot rfl (.refl _) <| .slot rfl (.refl _) <| .slot rfl (.refl _) <| .slot rfl (.refl _) <| .slot rfl (.refl _) <| .slot rfl (.refl _) <| .slot rfl (Le.of_eq (by simp)) <| .memEq rfl (by rw [hS] <;> rfl) <| .mem rfl <| .nil
                  · refine Tr.skip ?_
                    refine At.seq ?_
                    refine Tr.seq ?_
                    refine PC.start [] ?_
                    refine PC.sem (OpSem.move (.inl rfl) rfl) rfl rfl ?_
                    refine PC.sem (OpSem.fieldr rfl rfl fo26_0) rfl rfl ?_
                    refine PC.sem (OpSem.loadb1 rfl rfl rfl vs22 rfl) rfl rfl ?_
                    refine PC.sem (OpSem.loadbN rfl rfl rfl vs26 (by first | decide | simp)) rfl rfl ?_
                    refine PC.sem (OpSem.move (.inl rfl) rfl) rfl rfl ?_
                    refine PC.sem (OpSem.move (.inl rfl) rfl) rfl rfl ?_
                    refine PC.sem (OpSem.call0 (multi_Next_does m (unrank m.sizes n) i hv hst (by omega) (by omega)).fresh rfl rfl rfl rfl (Les.refl _)) rfl rfl ?_
                    refine PC.sem (OpSem.call0 (show Does Try.prog false 97 [.d (ints m.sizes), .d (ints (nextS (unrank m.sizes n) (nth m.ops i).post))] (I (rkAt m n i)) from project_Rank_does m.sizes _ hv.sizes hns hl.2) rfl rfl rfl rfl (Les.refl _)) rfl rfl ?_
                    refine PC.done0 mixed (by kernel_rfl) (by kernel_rfl) (by kernel_rfl) (by kernel_rfl) (by kernel_rfl) ?_
                    refine TrOps.sem (OpSem.idxo rfl rfl rfl rfl es22 (by omega) (by simp; omega)) rfl rfl (by decide) ?_
                    refine TrOps.sem (OpSem.loadq rfl rfl rfl vs3 (rows_get (by omega) (by omega)) rfl) rfl rfl (by decide) ?_
                    refine TrOps.sem (OpSem.move (.inr rfl) rfl) rfl rfl (by decide) ?_
                    refine TrOps.nil ?_
                    refine At.seq ?_
                    refine Tr.seq ?_
                    refine PC.start [] ?_
                    refine PC.sem (OpSem.move (.inl rfl) rfl) rfl rfl ?_
                    refine PC.sem (OpSem.bin rfl rfl rfl bneq) rfl rfl ?_
                    refine PC.sem (OpSem.move (.inl rfl) rfl) rfl rfl ?_
                    refine PC.split (n := 68) rfl (fun c68 => ?_) (fun c68 => ?_)
                    · refine PC.gT (OpSem.move (.inl rfl) rfl) rfl rfl rfl rfl c68 rfl ?_
                      refine PC.gT (OpSem.fieldr rfl rfl fo81_2) rfl rfl rfl rfl c68 rfl ?_
                      refine PC.gT (OpSem.loadb1 rfl rfl rfl vs3 rfl) rfl rfl rfl rfl c68 rfl ?_
                      refine PC.gT (OpSem.bin rfl rfl rfl (badd (by omega) (by omega))) rfl rfl rfl rfl c68 rfl ?_
                      refine PC.gT (OpSem.move (.inl rfl) rfl) rfl rfl rfl rfl c68 rfl ?_
                      refine PC.gT (OpSem.move (.inl rfl) rfl) rfl rfl rfl rfl c68 rfl ?_
                      refine PC.gT (OpSem.idxo rfl rfl rfl rfl es22 (by omega) (by simp; omega)) rfl rfl rfl rfl c68 rfl ?_
                      refine PC.gT (OpSem.loadq rfl rfl rfl vs3 (rows_get (by omega) (by omega)) rfl) rfl rfl rfl rfl c68 rfl ?_
                      refine PC.done0 mixed (by kernel_rfl) (by kernel_rfl) (by kernel_rfl) (by kernel_rfl) (by kernel_rfl) ?_
                      refine TrOps.gT rfl rfl rfl rfl c68 ?_
                      refine TrOps.sem (OpSem.bin rfl rfl rfl blss) rfl rfl (by decide) ?_
                      refine TrOps.sem (OpSem.pickT rfl rfl c68 rfl) rfl rfl (by decide) ?_
                      refine TrOps.nil ?_
                      refine At.seq ?_
                      refine Tr.cond rfl (fun c78 => ?_) (fun c78 => ?_)
                      · refine Tr.region ?_
                        refine TrOps.sem (OpSem.move (.inl rfl) rfl) rfl rfl (by decide) ?_
                        refine TrOps.sem (OpSem.move (.inl rfl) rfl) rfl rfl (by decide) ?_
                        refine TrOps.sem (OpSem.move (.inl rfl) rfl) rfl rfl (by decide) ?_
                        refine TrOps.sem (OpSem.fieldr rfl rfl fo81_2) rfl rfl (by decide) ?_
                        refine TrOps.sem (OpSem.loadb1 rfl rfl rfl vs3 rfl) rfl rfl (by decide) ?_
                        refine TrOps.sem (OpSem.bin rfl rfl rfl (badd (by omega) (by omega))) rfl rfl (by decide) ?_
                        refine TrOps.sem (OpSem.idxo rfl rfl rfl rfl es22 (by omega) (by simp; omega)) rfl rfl (by decide) ?_
                        refine TrOps.storeq rfl rfl rfl rfl rfl rfl rfl vs3 (rows_get (by omega) (by omega)) (by simp) ?_
                        refine TrOps.sem (OpSem.move (.inr rfl) rfl) rfl rfl (by decide) ?_
                        refine TrOps.nil ?_
                        refine At.block_normal ?_
                        refine At.seq ?_
                        refine Tr.region ?_
                        refine TrOps.sem (OpSem.bin rfl rfl rfl (badd (by omega) (by omega))) rfl rfl (by decide) ?_
                        refine TrOps.sem (OpSem.move (.inl rfl) rfl) rfl rfl (by decide) ?_
                        refine TrOps.nil ?_
                        have hS : opsTo m (sweepTo m (itC m j) n) n (i + 1) = _ := stepC_1 (by simpa using c55) (by simp at c68; omega) (by simpa using c78)
                        refine At.again (i + 1) (by omega) ?_ (by omega)
                        exact .slot rfl (.refl _) <| .slot rfl (.refl _) <| .slot rfl (.refl _) <| .slot rfl (Le.bo (by rw [hS])) <| .slot rfl (.refl _) <| .slot rfl (.refl _) <| .slot rfl (.refl _) <| .slot rfl (.refl _) <| .slot rfl (.refl _) <| .slot rfl (.refl _) <| .slot rfl (.refl _) <| .slot rfl (Le.of_eq (by simp)) <| .memEq rfl (by rw [hS]; exact congrArg (Mo.own 1 3) (rows_set (f := fun n => [D.v (.int .i64 n)]))) <| .mem rfl <| .nil
                      · refine Tr.skip ?_
                        refine At.block_normal ?_
                        refine At.seq ?_
                        refine Tr.region ?_
                        refine TrOps.sem (OpSem.bin rfl rfl rfl (badd (by omega) (by omega))) rfl rfl (by decide) ?_
                        refine TrOps.sem (OpSem.move (.inl rfl) rfl) rfl rfl (by decide) ?_
                        refine TrOps.nil ?_
                        have hS : opsTo m (sweepTo m (itC m j) n) n (i + 1) = _ := stepC_2 (fun h => by have := h.2; simp at c78; omega)
                        refine At.again (i + 1) (by omega) ?_ (by omega)
                        exact .slot rfl (.refl _) <| .slot rfl (.refl _) <| .slot rfl (.refl _) <| .slot rfl (Le.bo (by rw [hS])) <| .slot rfl (.refl _) <| .slot rfl (.refl _) <| .slot rfl (.refl _) <| .slot rfl (.refl _) <| .slot rfl (.refl _) <| .slot rfl (.refl _) <| .slot rfl (.refl _) <| .slot rfl (Le.of_eq (by simp)) <| .memEq rfl (by rw [hS] <;> rfl) <| .mem rfl <| .nil
                    · refine PC.gF rfl rfl rfl rfl c68 rfl ?_
                      refine PC.gF rfl rfl rfl rfl c68 rfl ?_
                      refine PC.gF rfl rfl rfl rfl c68 rfl ?_
                      refine PC.gF rfl rfl rfl rfl c68 rfl ?_
                      refine PC.gF rfl rfl rfl rfl c68 rfl ?_
                      refine PC.gF rfl rfl rfl rfl c68 rfl ?_
                      refine PC.gF rfl rfl rfl rfl c68 rfl ?_
                      refine PC.gF rfl rfl rfl rfl c68 rfl ?_
                      refine PC.done0 mixed (by kernel_rfl) (by kernel_rfl) (by kernel_rfl) (by kernel_rfl) (by kernel_rfl) ?_
                      refine TrOps.gF rfl rfl rfl rfl c68 rfl (by decide) ?_
                      refine TrOps.sem (OpSem.pickF rfl rfl c68 rfl) rfl rfl (by decide) ?_
                      refine TrOps.nil ?_
                      refine At.seq ?_
                      refine Tr.condF rfl rfl ?_
                      refine Tr.skip ?_
                      refine At.block_normal ?_
                      refine At.seq ?_
                      refine Tr.region ?_
                      refine TrOps.sem (OpSem.bin rfl rfl rfl (badd (by omega) (by omega))) rfl rfl (by decide) ?_
                      refine TrOps.sem (OpSem.move (.inl rfl) rfl) rfl rfl (by decide) ?_
                      refine TrOps.nil ?_
                      have hS : opsTo m (sweepTo m (itC m j) n) n (i + 1) = _ := stepC_2 (fun h => by have := h.1; simp at c68; omega)
                      refine At.again (i + 1) (by omega) ?_ (by omega)
                      exact .slot rfl (.refl _) <| .slot rfl (.refl _) <| .slot rfl (.refl _) <| .slot rfl (Le.bo (by rw [hS])) <| .slot rfl (.refl _) <| .slot rfl (.refl _) <| .slot rfl (.refl _) <| .slot rfl (.refl _) <| .slot rfl (.refl _) <| .slot rfl (.refl _) <| .slot rfl (.refl _) <| .slot rfl (Le.of_eq (by simp)) <| .memEq rfl (by rw [hS] <;> rfl) <| .mem rfl <| .nil
                · have hi : i = m.ops.length := by simp at c47; omega
                  subst hi
                  refine Tr.exit ?_
                  refine At.pass_exit ?_
                  refine At.pass_exit ?_
                  refine At.block_same ?_
                  refine At.block_normal ?_
                  refine At.seq ?_
                  refine Tr.region ?_
                  refine TrOps.sem (OpSem.bin rfl rfl rfl (badd (by omega) (by omega))) rfl rfl (by decide) ?_
                  refine TrOps.sem (OpSem.move (.inl rfl) rfl) rfl rfl (by decide) ?_
                  refine TrOps.nil ?_
                  refine At.again (n + 1) (by omega) ?_ (by omega)
                  exact .slot rfl (.refl _) <| .slot rfl (.refl _) <| .slot rfl (.refl _) <| .slot rfl (.refl _) <| .slot rfl (.refl _) <| .slot rfl (.refl _) <| .slot rfl (Le.of_eq (by simp)) <| .memEq rfl rfl <| .mem rfl <| .nil
            · have hn : n = nR m := by simp at c39; omega
              subst hn
              refine Tr.exit ?_
              refine At.pass_exit ?_
              refine At.pass_exit ?_
              refine At.block_same ?_
              refine At.block_normal ?_
              refine At.again (j + 1) trivial ?_ (flag_lt hv c35)
              exact .slot rfl (.refl _) <| .slot rfl (.refl _) <| .slot rfl (.refl _) <| .slot rfl (.refl _) <| .mem rfl <| .mem rfl <| .nil
        · refine Tr.exit ?_
          refine At.pass_exit ?_
          refine At.pass_exit ?_
          refine At.block_same ?_
          refine At.seq ?_
          refine Tr.seq ?_
          refine Tr.region ?_
          refine TrOps.sem (OpSem.move (.inl rfl) rfl) rfl rfl (by decide) ?_
          refine TrOps.sem (OpSem.move (.inr rfl) rfl) rfl rfl (by decide) ?_
          refine TrOps.nil ?_
          refine At.seq ?_
          refine Tr.ret ?_
          exact At.retO2 rfl rfl rfl (by simp) (by rw [flag_end hv c35])

theorem R_IsSet_does (l : List Int) (n : Int) (hn : -9223372036854775807 ≤ n ∧ n ≤ 9223372036854775807) : Does Try.prog false 75 [.d (ints l), I (n)] (Bo (decide (SetP n l))) := by
  refine Does.of_body Try.func75 rfl rfl (by simp) Try.call75 (fun w0 O0 => ?_)
  refine Tr.lenLe (n := 0) rfl (fun len0 => ?_)
  refine Tr.seq ?_
  refine Tr.region ?_
  refine TrOps.sem (OpSem.move (.inr rfl) rfl) rfl rfl (by decide) ?_
  refine TrOps.nil ?_
  refine At.seq ?_
  refine Tr.seq ?_
  refine Tr.seq ?_
  refine Tr.region ?_
  refine TrOps.sem (OpSem.move (.inr rfl) rfl) rfl rfl (by decide) ?_
  refine TrOps.nil ?_
  refine At.seq ?_
  refine Tr.block ?_
  refine Tr.loop (X := Nat) (fun k => k ≤ l.length ∧ ∀ i : Nat, i < k → SetOk n l i) (fun k => [(0, .d (ints l)), (1, I (n)), (5, I (k))]) (fun k => []) (fun k => l.length - k) 0 ⟨by omega, by simp⟩ ?_ ?_
  · exact .slot rfl (.refl _) <| .slot rfl (.refl _) <| .slot rfl (Le.of_eq (by simp)) <| .nil
  · rintro k ⟨hkl, hinv⟩
    refine Tr.seq ?_
    refine Tr.seq ?_
    refine Tr.region ?_
    refine TrOps.sem (OpSem.move (.inl rfl) rfl) rfl rfl (by decide) ?_
    refine TrOps.sem (OpSem.move (.inl rfl) rfl) rfl rfl (by decide) ?_
    refine TrOps.sem (OpSem.lenL rfl rfl es22) rfl rfl (by decide) ?_
    refine TrOps.sem (OpSem.bin rfl rfl rfl blss) rfl rfl (by decide) ?_
    refine TrOps.nil ?_
    refine At.seq ?_
    refine Tr.cond rfl (fun c9 => ?_) (fun c9 => ?_)
    · have hk : k < l.length := by simpa using c9
      refine Tr.skip ?_
      refine At.seq ?_
      refine Tr.seq ?_
      refine Tr.block ?_
      refine Tr.seq ?_
      refine PC.start [] ?_
      refine PC.sem (OpSem.move (.inl rfl) rfl) rfl rfl ?_
      refine PC.sem (OpSem.move (.inl rfl) rfl) rfl rfl ?_
      refine PC.sem (OpSem.idxL rfl rfl rfl es22 (by omega) (by omega)) rfl rfl ?_
      refine PC.sem (OpSem.load1 rfl rfl vs3 rfl) rfl rfl ?_
      refine PC.sem (OpSem.move (.inl rfl) rfl) rfl rfl ?_
      refine PC.sem (OpSem.bin rfl rfl rfl (bsub (by omega) (by omega))) rfl rfl ?_
      refine PC.sem (OpSem.call0 (R_In_does ..) rfl rfl rfl rfl (Les.refl _)) rfl rfl ?_
      refine PC.sem (OpSem.not rfl rfl) rfl rfl ?_
      refine PC.sem (OpSem.move (.inl rfl) rfl) rfl rfl ?_
      refine PC.split (n := 20) rfl (fun c20 => ?_) (fun c20 => ?_)
      · refine PC.gF rfl rfl rfl rfl c20 rfl ?_
        refine PC.gF rfl rfl rfl rfl c20 rfl ?_
        refine PC.gF rfl rfl rfl rfl c20 rfl ?_
        refine PC.gU rfl rfl rfl rfl rfl ?_
        refine PC.gU rfl rfl rfl rfl rfl ?_
        refine PC.gU rfl rfl rfl rfl rfl ?_
        refine PC.gU rfl rfl rfl rfl rfl ?_
        refine PC.gU rfl rfl rfl rfl rfl ?_
        refine PC.gU rfl rfl rfl rfl rfl ?_
        refine PC.gU rfl rfl rfl rfl rfl ?_
        refine PC.gU rfl rfl rfl rfl rfl ?_
        refine PC.gU rfl rfl rfl rfl rfl ?_
        refine PC.done0 mixed (by kernel_rfl) (by kernel_rfl) (by kernel_rfl) (by kernel_rfl) (by kernel_rfl) ?_
        refine TrOps.gU rfl rfl rfl rfl rfl (by decide) ?_
        refine TrOps.gF rfl rfl rfl rfl c20 rfl (by decide) ?_
        refine TrOps.sem (OpSem.pickT rfl rfl c20 rfl) rfl rfl (by decide) ?_
        refine TrOps.nil ?_
        refine At.seq ?_
        refine Tr.condT rfl rfl ?_
        refine Tr.seq ?_
        refine Tr.region ?_
        refine TrOps.sem (OpSem.move (.inr rfl) rfl) rfl rfl (by decide) ?_
        refine TrOps.nil ?_
        refine At.seq ?_
        refine Tr.ret ?_
        refine At.block_ret ?_
        refine At.pass_ret ?_
        refine At.pass_ret ?_
        refine At.block_ret ?_
        refine At.pass_ret ?_
        exact At.ret rfl (.tmp rfl <| .nil) rfl (Le.bo (decide_eq_false (fun h => by have := h k hk; simp at c20; omega)).symm)
      · refine PC.gT (OpSem.move (.inl rfl) rfl) rfl rfl rfl rfl c20 rfl ?_
        refine PC.gT (OpSem.bin rfl rfl rfl bgtr) rfl rfl rfl rfl c20 rfl ?_
        refine PC.gT (OpSem.move (.inl rfl) rfl) rfl rfl rfl rfl c20 rfl ?_
        refine PC.split (n := 23) rfl (fun c23 => ?_) (fun c23 => ?_)
        · have hkp : 0 < k := by simp at c23; omega
          refine PC.gT (OpSem.move (.inl rfl) rfl) rfl rfl rfl rfl c23 rfl ?_
          refine PC.gT (OpSem.move (.inl rfl) rfl) rfl rfl rfl rfl c23 rfl ?_
          refine PC.gT (OpSem.idxL rfl rfl rfl es22 (by omega) (by omega)) rfl rfl rfl rfl c23 rfl ?_
          refine PC.gT (OpSem.load1 rfl rfl vs3 rfl) rfl rfl rfl rfl c23 rfl ?_
          refine PC.gT (OpSem.move (.inl rfl) rfl) rfl rfl rfl rfl c23 rfl ?_
          refine PC.gT (OpSem.move (.inl rfl) rfl) rfl rfl rfl rfl c23 rfl ?_
          refine PC.gT (OpSem.bin rfl rfl rfl (bsub (by omega) (by omega))) rfl rfl rfl rfl c23 rfl ?_
          refine PC.gT (OpSem.idxL rfl rfl rfl es22 (by omega) (by omega)) rfl rfl rfl rfl c23 rfl ?_
          refine PC.gT (OpSem.load1 rfl rfl vs3 rfl) rfl rfl rfl rfl c23 rfl ?_
          refine PC.done0 mixed (by kernel_rfl) (by kernel_rfl) (by kernel_rfl) (by kernel_rfl) (by kernel_rfl) ?_
          refine TrOps.gT rfl rfl rfl rfl c23 ?_
          refine TrOps.sem (OpSem.bin rfl rfl rfl bleq) rfl rfl (by decide) ?_
          refine TrOps.gT rfl rfl rfl rfl c20 ?_
          refine TrOps.sem (OpSem.pickT rfl rfl c23 rfl) rfl rfl (by decide) ?_
          refine TrOps.sem (OpSem.pickF rfl rfl c20 rfl) rfl rfl (by decide) ?_
          refine TrOps.nil ?_
          refine At.seq ?_
          refine Tr.cond rfl (fun c35 => ?_) (fun c35 => ?_)
          · refine Tr.seq ?_
            refine Tr.region ?_
            refine TrOps.sem (OpSem.move (.inr rfl) rfl) rfl rfl (by decide) ?_
            refine TrOps.nil ?_
            refine At.seq ?_
            refine Tr.ret ?_
            refine At.block_ret ?_
            refine At.pass_ret ?_
            refine At.pass_ret ?_
            refine At.block_ret ?_
            refine At.pass_ret ?_
            exact At.ret rfl (.tmp rfl <| .nil) rfl (Le.bo (decide_eq_false (fun h => by have h1 := (h k hk).2.2 hkp; simp at c35; omega)).symm)
          · refine Tr.skip ?_
            refine At.block_normal ?_
            refine At.seq ?_
            refine Tr.region ?_
            refine TrOps.sem (OpSem.move (.inl rfl) rfl) rfl rfl (by decide) ?_
            refine TrOps.sem (OpSem.bin rfl rfl rfl (badd (by omega) (by omega))) rfl rfl (by decide) ?_
            refine TrOps.sem (OpSem.move (.inr rfl) rfl) rfl rfl (by decide) ?_
            refine TrOps.nil ?_
            have hb : SetOk n l k := by first | (simp at c20 c35; exact ⟨by omega, by omega, fun h => by omega⟩) | (simp at c20 c23; exact ⟨by omega, by omega, fun h => by omega⟩)
            refine At.again (k + 1) ⟨by omega, all_succ hinv hb⟩ ?_ (by omega)
            exact .slot rfl (.refl _) <| .slot rfl (.refl _) <| .slot rfl (Le.of_eq (by simp)) <| .nil
        · refine PC.gF rfl rfl rfl rfl c23 rfl ?_
          refine PC.gF rfl rfl rfl rfl c23 rfl ?_
          refine PC.gF rfl rfl rfl rfl c23 rfl ?_
          refine PC.gF rfl rfl rfl rfl c23 rfl ?_
          refine PC.gF rfl rfl rfl rfl c23 rfl ?_
          refine PC.gF rfl rfl rfl rfl c23 rfl ?_
          refine PC.gF rfl rfl rfl rfl c23 rfl ?_
          refine PC.gF rfl rfl rfl rfl c23 rfl ?_
          refine PC.gF rfl rfl rfl rfl c23 rfl ?_
          refine PC.done0 mixed (by kernel_rfl) (by kernel_rfl) (by kernel_rfl) (by kernel_rfl) (by kernel_rfl) ?_
          refine TrOps.gF rfl rfl rfl rfl c23 rfl (by decide) ?_
          refine TrOps.gT rfl rfl rfl rfl c20 ?_
          refine TrOps.sem (OpSem.pickF rfl rfl c23 rfl) rfl rfl (by decide) ?_
          refine TrOps.sem (OpSem.pickF rfl rfl c20 rfl) rfl rfl (by decide) ?_
          refine TrOps.nil ?_
          refine At.seq ?_
          refine Tr.condF rfl rfl ?_
          refine Tr.skip ?_
          refine At.block_normal ?_
          refine At.seq ?_
          refine Tr.region ?_
          refine TrOps.sem (OpSem.move (.inl rfl) rfl) rfl rfl (by decide) ?_
          refine TrOps.sem (OpSem.bin rfl rfl rfl (badd (by omega) (by omega))) rfl rfl (by decide) ?_
          refine TrOps.sem (OpSem.move (.inr rfl) rfl) rfl rfl (by decide) ?_
          refine TrOps.nil ?_
          have hb : SetOk n l k := by first | (simp at c20 c35; exact ⟨by omega, by omega, fun h => by omega⟩) | (simp at c20 c23; exact ⟨by omega, by omega, fun h => by omega⟩)
          refine At.again (k + 1) ⟨by omega, all_succ hinv hb⟩ ?_ (by omega)
          exact .slot rfl (.refl _) <| .slot rfl (.refl _) <| .slot rfl (Le.of_eq (by simp)) <| .nil
    · have hk : k = l.length := by simp at c9; omega
      refine Tr.exit ?_
      refine At.pass_exit ?_
      refine At.pass_exit ?_
      refine At.block_same ?_
      refine At.seq ?_
      refine Tr.seq ?_
      refine Tr.region ?_
      refine TrOps.sem (OpSem.move (.inr rfl) rfl) rfl rfl (by decide) ?_
      refine TrOps.nil ?_
      refine At.seq ?_
      refine Tr.ret ?_
      exact At.ret rfl (.tmp rfl <| .nil) rfl (Le.bo (decide_eq_true (by subst hk; exact hinv)).symm)

theorem project_Distances_does (m : Multi) (vars : List Int) : Does Try.prog false 31 [multi m, .d (ints vars)] (.t [.d (ints (distR m vars)), flt (distF m vars)]) := by
  refine Does.of_body Try.func31 rfl rfl (by simp) Try.call31 (fun w0 O0 => ?_)
  refine Tr.lenG (n := 0) (i := 0) rfl rfl (fun len0_0 => ?_)
  refine Tr.lenG (n := 0) (i := 1) rfl rfl (fun len0_1 => ?_)
  refine Tr.lenG (n := 0) (i := 2) rfl rfl (fun len0_2 => ?_)
  refine Tr.lenG (n := 0) (i := 3) rfl rfl (fun len0_3 => ?_)
  refine Tr.lenLe (n := 1) rfl (fun len1 => ?_)
  refine Tr.seq ?_
  refine Tr.region ?_
  refine TrOps.semM (OpSem.box 2 rfl rfl rfl rfl) rfl rfl (by decide) ?_
  refine TrOps.sem (OpSem.move (.inr rfl) rfl) rfl rfl (by decide) ?_
  refine TrOps.semM (OpSem.alloc 5 rfl zc29 rfl) rfl rfl (by decide) ?_
  refine TrOps.nil ?_
  refine At.seq ?_
  refine Tr.seq ?_
  refine Tr.region ?_
  refine TrOps.sem (OpSem.loadbN rfl rfl rfl vs26 (by first | decide | simp)) rfl rfl (by decide) ?_
  refine TrOps.sem (OpSem.move (.inl rfl) rfl) rfl rfl (by decide) ?_
  refine TrOps.sem (OpSem.call0 (project_check_does ..) rfl rfl rfl rfl (Les.refl _)) rfl rfl (by decide) ?_
  refine TrOps.semM (OpSem.alloc 6 rfl zc29 rfl) rfl rfl (by decide) ?_
  refine TrOps.storeb rfl rfl rfl rfl rfl rfl rfl vs29 (by first | decide | simp) ?_
  refine TrOps.nil ?_
  refine At.seq ?_
  refine Tr.cut [(1, .d (ints vars)), (2, .r 2 0), (4, .d (.v (.slice none 0 0))), (5, .r 5 0), (6, .r 6 0)] [(2, .box [.d (ints m.sizes), .d (ints m.init), .d (asgs m.goal), .d (opsD m.ops)]), (5, .box [I (0), I (0)]), (6, .box [I ((distF m vars).1), I ((distF m vars).2)])] ?_ ?_
  · refine Tr.seq ?_
    refine Tr.region ?_
    refine TrOps.sem (OpSem.loadbN rfl rfl rfl vs29 (by first | decide | simp)) rfl rfl (by decide) ?_
    refine TrOps.sem (OpSem.build rfl rfl pl29 zc29 rfl rfl) rfl rfl (by decide) ?_
    refine TrOps.sem (OpSem.eqS2 rfl rfl rfl io29) rfl rfl (by decide) ?_
    refine TrOps.sem (OpSem.move (.inl rfl) rfl) rfl rfl (by decide) ?_
    refine TrOps.split (n := 13) rfl (fun c13 => ?_) (fun c13 => ?_)
    · have h1 : projFault m vars = (0, 0) := pair0 (by simpa using c13)
      obtain ⟨hv, hne, hp, _⟩ := projFault_ok (m := m) (vars := vars) (by rw [h1])
      refine TrOps.gT rfl rfl rfl rfl c13 ?_
      refine TrOps.sem (OpSem.loadbN rfl rfl rfl vs26 (by first | decide | simp)) rfl rfl (by decide) ?_
      refine TrOps.gT rfl rfl rfl rfl c13 ?_
      refine TrOps.sem (OpSem.move (.inl rfl) rfl) rfl rfl (by decide) ?_
      refine TrOps.gT rfl rfl rfl rfl c13 ?_
      refine TrOps.sem (OpSem.call0 (project_large_does m vars hv hp) rfl rfl rfl rfl (Les.refl _)) rfl rfl (by decide) ?_
      refine TrOps.sem (OpSem.pickT rfl rfl c13 rfl) rfl rfl (by decide) ?_
      refine TrOps.nil ?_
      refine At.seq ?_
      refine Tr.cond rfl (fun c17 => ?_) (fun c17 => ?_)
      · refine Tr.region ?_
        refine TrOps.sem (OpSem.build rfl rfl pl29 zc29 rfl rfl) rfl rfl (by decide) ?_
        refine TrOps.storeb rfl rfl rfl rfl rfl rfl rfl vs29 (by first | decide | simp) ?_
        refine TrOps.nil ?_
        have he := bigF_1 h1 (by simpa using c17)
        refine At.meet ?_
        exact .slot rfl (.refl _) <| .slot rfl (.refl _) <| .slot rfl (.refl _) <| .slot rfl (.refl _) <| .slot rfl (.refl _) <| .mem rfl <| .mem rfl <| .boxLe rfl (.cons (Le.i (congrArg Prod.fst (he))) <| .cons (Le.i (congrArg Prod.snd (he))) <| .nil) <| .nil
      · refine Tr.skip ?_
        have he := bigF_2 (m := m) (vars := vars) (f := projFault m vars) (fun h => by simp at c17; omega)
        refine At.meet ?_
        exact .slot rfl (.refl _) <| .slot rfl (.refl _) <| .slot rfl (.refl _) <| .slot rfl (.refl _) <| .slot rfl (.refl _) <| .mem rfl <| .mem rfl <| .boxLe rfl (.cons (Le.i (congrArg Prod.fst (he))) <| .cons (Le.i (congrArg Prod.snd (he))) <| .nil) <| .nil
    · refine TrOps.gF rfl rfl rfl rfl c13 rfl (by decide) ?_
      refine TrOps.gF rfl rfl rfl rfl c13 rfl (by decide) ?_
      refine TrOps.gF rfl rfl rfl rfl c13 rfl (by decide) ?_
      refine TrOps.sem (OpSem.pickF rfl rfl c13 rfl) rfl rfl (by decide) ?_
      refine TrOps.nil ?_
      refine At.seq ?_
      refine Tr.condF rfl rfl ?_
      refine Tr.skip ?_
      have he := bigF_2 (m := m) (vars := vars) (f := projFault m vars) (fun h => by simp [h.1] at c13)
      refine At.meet ?_
      exact .slot rfl (.refl _) <| .slot rfl (.refl _) <| .slot rfl (.refl _) <| .slot rfl (.refl _) <| .slot rfl (.refl _) <| .mem rfl <| .mem rfl <| .boxLe rfl (.cons (Le.i (congrArg Prod.fst (he))) <| .cons (Le.i (congrArg Prod.snd (he))) <| .nil) <| .nil
  · refine Tr.seq ?_
    refine Tr.seq ?_
    refine Tr.region ?_
    refine TrOps.sem (OpSem.loadbN rfl rfl rfl vs29 (by first | decide | simp)) rfl rfl (by decide) ?_
    refine TrOps.sem (OpSem.build rfl rfl pl29 zc29 rfl rfl) rfl rfl (by decide) ?_
    refine TrOps.sem (OpSem.neS2 rfl rfl rfl io29) rfl rfl (by decide) ?_
    refine TrOps.nil ?_
    refine At.seq ?_
    refine Tr.cond rfl (fun c21 => ?_) (fun c21 => ?_)
    · have h1 : distF m vars ≠ (0, 0) := fun h => by simp [h] at c21
      refine Tr.seq ?_
      refine PC.start [] ?_
      refine PC.sem (OpSem.loadbN rfl rfl rfl vs29 (by first | decide | simp)) rfl rfl ?_
      refine PC.sem (OpSem.move (.inr rfl) rfl) rfl rfl ?_
      refine PC.done0 mixed (by kernel_rfl) (by kernel_rfl) (by kernel_rfl) (by kernel_rfl) (by kernel_rfl) ?_
      refine TrOps.storeb rfl rfl rfl rfl rfl rfl rfl vs29 (by first | decide | simp) ?_
      refine TrOps.nil ?_
      refine At.seq ?_
      refine Tr.ret ?_
      refine At.pass_ret ?_
      exact At.ret rfl (.tmp rfl <| .cellN rfl rfl vs29 <| .nil) rfl (Le.t (.cons (by rw [distR_1 h1]; exact Le.nil 1) <| .cons (.refl _) <| .nil))
    · have h1 : distF m vars = (0, 0) := pair0 (by simpa using c21)
      obtain ⟨hv, hne, hp, hb⟩ := distF_ok h1
      refine Tr.skip ?_
      refine At.seq ?_
      refine Tr.seq ?_
      refine PC.start [] ?_
      refine PC.sem (OpSem.loadbN rfl rfl rfl vs26 (by first | decide | simp)) rfl rfl ?_
      refine PC.sem (OpSem.move (.inl rfl) rfl) rfl rfl ?_
      refine PC.sem (OpSem.call0 (project_To_does m vars hv hp) rfl rfl rfl rfl (Les.refl _)) rfl rfl ?_
      refine PC.sem (OpSem.call0 (project_distances_does (projM m vars) (valid_proj hv hne hp) (nR_proj hv hne hp hb)).fresh rfl rfl rfl rfl (Les.refl _)) rfl rfl ?_
      refine PC.sem (OpSem.loadbN rfl rfl rfl vs29 (by first | decide | simp)) rfl rfl ?_
      refine PC.sem (OpSem.move (.inr rfl) rfl) rfl rfl ?_
      refine PC.done0 mixed (by kernel_rfl) (by kernel_rfl) (by kernel_rfl) (by kernel_rfl) (by kernel_rfl) ?_
      refine TrOps.storeb rfl rfl rfl rfl rfl rfl rfl vs29 (by first | decide | simp) ?_
      refine TrOps.nil ?_
      refine At.seq ?_
      refine Tr.ret ?_
      exact At.ret rfl (.tmp rfl <| .cellN rfl rfl vs29 <| .nil) rfl (Le.t (.cons (Le.d (by rw [distR_0 h1])) <| .cons (.refl _) <| .nil))

end Go.Proofs.Ytohlmcebphcokaa
