/- The engine and the walks that this claim uses, part 12. Written by prune.py out of our own texts. -/
import Derived.Test.YtohlmcebphcokaaC11
section
/- Walks, written by gen.py out of hints. -/



set_option linter.unusedVariables false
set_option linter.unusedSimpArgs false
namespace Go.Proofs.Ytohlmcebphcokaa
open Go.Eng
set_option maxRecDepth 10000
set_option maxHeartbeats 1000000

theorem law_AbstractionProductMatchesSpec_does (a b : Abs) (hra : -9223372036854775808 ≤ a.states ∧ a.states ≤ 9223372036854775807) (hrb : -9223372036854775808 ≤ b.states ∧ b.states ≤ 9223372036854775807) : Does Try.prog false 11 [absS a, absS b] (Bo true) := by
  refine Does.of_body Try.func11 rfl rfl (by simp) Try.call11 (fun w0 O0 => ?_)
  refine Tr.lenG (n := 0) (i := 2) rfl rfl (fun len0_2 => ?_)
  refine Tr.lenG (n := 0) (i := 4) rfl rfl (fun len0_4 => ?_)
  refine Tr.lenG (n := 1) (i := 2) rfl rfl (fun len1_2 => ?_)
  refine Tr.lenG (n := 1) (i := 4) rfl rfl (fun len1_4 => ?_)
  refine Tr.seq ?_
  refine Tr.region ?_
  refine TrOps.semM (OpSem.box 2 rfl rfl rfl rfl) rfl rfl (by decide) ?_
  refine TrOps.semM (OpSem.box 3 rfl rfl rfl rfl) rfl rfl (by decide) ?_
  refine TrOps.sem (OpSem.move (.inr rfl) rfl) rfl rfl (by decide) ?_
  refine TrOps.nil ?_
  refine At.seq ?_
  refine Tr.seq ?_
  refine Tr.seq ?_
  refine Tr.region ?_
  refine TrOps.sem (OpSem.call0 (law_abstractionExample_does) rfl rfl rfl rfl (Les.refl _)) rfl rfl (by decide) ?_
  refine TrOps.sem (OpSem.not rfl rfl) rfl rfl (by decide) ?_
  refine TrOps.nil ?_
  refine At.seq ?_
  refine Tr.condF rfl rfl ?_
  refine Tr.skip ?_
  refine At.seq ?_
  refine Tr.seq ?_
  refine Tr.region ?_
  refine TrOps.sem (OpSem.loadbN rfl rfl rfl vs46 (by first | decide | simp)) rfl rfl (by decide) ?_
  refine TrOps.sem (OpSem.loadbN rfl rfl rfl vs46 (by first | decide | simp)) rfl rfl (by decide) ?_
  refine TrOps.sem (OpSem.call0 (abstraction_Product_does a b hra hrb) rfl rfl rfl rfl (Les.refl _)) rfl rfl (by decide) ?_
  refine TrOps.sem (OpSem.move (.inl rfl) rfl) rfl rfl (by decide) ?_
  refine TrOps.sem (OpSem.extract rfl rfl rfl) rfl rfl (by decide) ?_
  refine TrOps.sem (OpSem.extract rfl rfl rfl) rfl rfl (by decide) ?_
  refine TrOps.semM (OpSem.alloc 5 rfl zc46 rfl) rfl rfl (by decide) ?_
  refine TrOps.semM (OpSem.alloc 6 rfl zc29 rfl) rfl rfl (by decide) ?_
  refine TrOps.storeb rfl rfl rfl rfl rfl rfl rfl vs46 (by first | decide | simp) ?_
  refine TrOps.storeb rfl rfl rfl rfl rfl rfl rfl vs29 (by first | decide | simp) ?_
  refine TrOps.nil ?_
  refine At.seq ?_
  refine Tr.seq ?_
  refine Tr.region ?_
  refine TrOps.sem (OpSem.loadbN rfl rfl rfl vs46 (by first | decide | simp)) rfl rfl (by decide) ?_
  refine TrOps.sem (OpSem.call0 (Q_AbstractionFault_does a) rfl rfl rfl rfl (Les.refl _)) rfl rfl (by decide) ?_
  refine TrOps.semM (OpSem.alloc 7 rfl zc29 rfl) rfl rfl (by decide) ?_
  refine TrOps.storeb rfl rfl rfl rfl rfl rfl rfl vs29 (by first | decide | simp) ?_
  refine TrOps.nil ?_
  refine At.seq ?_
  refine Tr.cut [(2, .r 2 0), (3, .r 3 0), (4, Bo (false)), (5, .r 5 0), (6, .r 6 0), (7, .r 7 0)] [(2, .box [I (a.states), I (a.labels), .d (arcsD a.arcs), I (a.init), .d (ints a.goals)]), (3, .box [I (b.states), I (b.labels), .d (arcsD b.arcs), I (b.init), .d (ints b.goals)]), (5, .box [I ((prdR a b).states), I ((prdR a b).labels), .d (arcsD ((prdR a b).arcs)), I ((prdR a b).init), .d (ints ((prdR a b).goals))]), (6, .box [I ((prdF a b).1), I ((prdF a b).2)]), (7, .box [I ((prdF1 a b).1), I ((prdF1 a b).2)])] ?_ ?_
  · refine Tr.seq ?_
    refine Tr.region ?_
    refine TrOps.sem (OpSem.fieldr rfl rfl fo29_0) rfl rfl (by decide) ?_
    refine TrOps.sem (OpSem.loadb1 rfl rfl rfl vs3 rfl) rfl rfl (by decide) ?_
    refine TrOps.sem (OpSem.bin rfl rfl rfl beql) rfl rfl (by decide) ?_
    refine TrOps.sem (OpSem.move (.inl rfl) rfl) rfl rfl (by decide) ?_
    refine TrOps.split (n := 22) rfl (fun c22 => ?_) (fun c22 => ?_)
    · refine TrOps.gT rfl rfl rfl rfl c22 ?_
      refine TrOps.sem (OpSem.loadbN rfl rfl rfl vs46 (by first | decide | simp)) rfl rfl (by decide) ?_
      refine TrOps.gT rfl rfl rfl rfl c22 ?_
      refine TrOps.sem (OpSem.call0 (Q_AbstractionFault_does b) rfl rfl rfl rfl (Les.refl _)) rfl rfl (by decide) ?_
      refine TrOps.gT rfl rfl rfl rfl c22 ?_
      refine TrOps.sem (OpSem.field1 rfl rfl f1_29_0 rfl) rfl rfl (by decide) ?_
      refine TrOps.gT rfl rfl rfl rfl c22 ?_
      refine TrOps.sem (OpSem.bin rfl rfl rfl bneq) rfl rfl (by decide) ?_
      refine TrOps.sem (OpSem.pickT rfl rfl c22 rfl) rfl rfl (by decide) ?_
      refine TrOps.nil ?_
      refine At.seq ?_
      refine Tr.cond rfl (fun c27 => ?_) (fun c27 => ?_)
      · refine Tr.region ?_
        refine TrOps.sem (OpSem.loadbN rfl rfl rfl vs46 (by first | decide | simp)) rfl rfl (by decide) ?_
        refine TrOps.sem (OpSem.call0 (Q_AbstractionFault_does b) rfl rfl rfl rfl (Les.refl _)) rfl rfl (by decide) ?_
        refine TrOps.sem (OpSem.field1 rfl rfl f1_29_0 rfl) rfl rfl (by decide) ?_
        refine TrOps.sem (OpSem.call0 (R_At_does ..) rfl rfl rfl rfl (Les.refl _)) rfl rfl (by decide) ?_
        refine TrOps.storeb rfl rfl rfl rfl rfl rfl rfl vs29 (by first | decide | simp) ?_
        refine TrOps.nil ?_
        have he : ((absFault b).1, -5) = prdF1 a b := by have q := absFault_c (a := a) (by simpa using c22); unfold prdF1; rw [if_neg (fun hn => hn q), if_pos (fun h => by simp [h] at c27)]
        refine At.meet ?_
        exact .slot rfl (.refl _) <| .slot rfl (.refl _) <| .slot rfl (.refl _) <| .slot rfl (.refl _) <| .slot rfl (.refl _) <| .slot rfl (.refl _) <| .mem rfl <| .mem rfl <| .mem rfl <| .mem rfl <| .boxLe rfl (.cons (Le.i (congrArg Prod.fst (he))) <| .cons (Le.i (congrArg Prod.snd (he))) <| .nil) <| .nil
      · refine Tr.skip ?_
        have he : absFault a = prdF1 a b := by have q := absFault_c (a := a) (by simpa using c22); have q2 := absFault_c (a := b) (by simpa using c27); unfold prdF1; rw [if_neg (fun hn => hn q), if_neg (fun hn => hn q2), q]
        refine At.meet ?_
        exact .slot rfl (.refl _) <| .slot rfl (.refl _) <| .slot rfl (.refl _) <| .slot rfl (.refl _) <| .slot rfl (.refl _) <| .slot rfl (.refl _) <| .mem rfl <| .mem rfl <| .mem rfl <| .mem rfl <| .boxLe rfl (.cons (Le.i (congrArg Prod.fst (he))) <| .cons (Le.i (congrArg Prod.snd (he))) <| .nil) <| .nil
    · refine TrOps.gF rfl rfl rfl rfl c22 rfl (by decide) ?_
      refine TrOps.gF rfl rfl rfl rfl c22 rfl (by decide) ?_
      refine TrOps.gF rfl rfl rfl rfl c22 rfl (by decide) ?_
      refine TrOps.gF rfl rfl rfl rfl c22 rfl (by decide) ?_
      refine TrOps.sem (OpSem.pickF rfl rfl c22 rfl) rfl rfl (by decide) ?_
      refine TrOps.nil ?_
      refine At.seq ?_
      refine Tr.condF rfl rfl ?_
      refine Tr.skip ?_
      have he : absFault a = prdF1 a b := by unfold prdF1; rw [if_pos (fun h => by simp [h] at c22)]
      refine At.meet ?_
      exact .slot rfl (.refl _) <| .slot rfl (.refl _) <| .slot rfl (.refl _) <| .slot rfl (.refl _) <| .slot rfl (.refl _) <| .slot rfl (.refl _) <| .mem rfl <| .mem rfl <| .mem rfl <| .mem rfl <| .boxLe rfl (.cons (Le.i (congrArg Prod.fst (he))) <| .cons (Le.i (congrArg Prod.snd (he))) <| .nil) <| .nil
  · refine Tr.cut [(2, .r 2 0), (3, .r 3 0), (4, Bo (false)), (5, .r 5 0), (6, .r 6 0), (7, .r 7 0)] [(2, .box [I (a.states), I (a.labels), .d (arcsD a.arcs), I (a.init), .d (ints a.goals)]), (3, .box [I (b.states), I (b.labels), .d (arcsD b.arcs), I (b.init), .d (ints b.goals)]), (5, .box [I ((prdR a b).states), I ((prdR a b).labels), .d (arcsD ((prdR a b).arcs)), I ((prdR a b).init), .d (ints ((prdR a b).goals))]), (6, .box [I ((prdF a b).1), I ((prdF a b).2)]), (7, .box [I ((prdF2 a b).1), I ((prdF2 a b).2)])] ?_ ?_
    · refine Tr.seq ?_
      refine Tr.region ?_
      refine TrOps.sem (OpSem.fieldr rfl rfl fo29_0) rfl rfl (by decide) ?_
      refine TrOps.sem (OpSem.loadb1 rfl rfl rfl vs3 rfl) rfl rfl (by decide) ?_
      refine TrOps.sem (OpSem.bin rfl rfl rfl beql) rfl rfl (by decide) ?_
      refine TrOps.sem (OpSem.move (.inl rfl) rfl) rfl rfl (by decide) ?_
      refine TrOps.split (n := 35) rfl (fun c35 => ?_) (fun c35 => ?_)
      · refine TrOps.gT rfl rfl rfl rfl c35 ?_
        refine TrOps.sem (OpSem.fieldr rfl rfl fo46_1) rfl rfl (by decide) ?_
        refine TrOps.gT rfl rfl rfl rfl c35 ?_
        refine TrOps.sem (OpSem.loadb1 rfl rfl rfl vs3 rfl) rfl rfl (by decide) ?_
        refine TrOps.gT rfl rfl rfl rfl c35 ?_
        refine TrOps.sem (OpSem.fieldr rfl rfl fo46_1) rfl rfl (by decide) ?_
        refine TrOps.gT rfl rfl rfl rfl c35 ?_
        refine TrOps.sem (OpSem.loadb1 rfl rfl rfl vs3 rfl) rfl rfl (by decide) ?_
        refine TrOps.gT rfl rfl rfl rfl c35 ?_
        refine TrOps.sem (OpSem.bin rfl rfl rfl bneq) rfl rfl (by decide) ?_
        refine TrOps.sem (OpSem.pickT rfl rfl c35 rfl) rfl rfl (by decide) ?_
        refine TrOps.nil ?_
        refine At.seq ?_
        refine Tr.cond rfl (fun c41 => ?_) (fun c41 => ?_)
        · refine Tr.region ?_
          refine TrOps.sem (OpSem.call0 (R_At_does ..) rfl rfl rfl rfl (Les.refl _)) rfl rfl (by decide) ?_
          refine TrOps.storeb rfl rfl rfl rfl rfl rfl rfl vs29 (by first | decide | simp) ?_
          refine TrOps.nil ?_
          have he : (9, -6) = prdF2 a b := by have q := prdF1_code (a := a) (b := b) (by simpa using c35); unfold prdF2; rw [if_neg (fun hn => hn q), if_pos (by simpa using c41)]
          refine At.meet ?_
          exact .slot rfl (.refl _) <| .slot rfl (.refl _) <| .slot rfl (.refl _) <| .slot rfl (.refl _) <| .slot rfl (.refl _) <| .slot rfl (.refl _) <| .mem rfl <| .mem rfl <| .mem rfl <| .mem rfl <| .boxLe rfl (.cons (Le.i (congrArg Prod.fst (he))) <| .cons (Le.i (congrArg Prod.snd (he))) <| .nil) <| .nil
        · refine Tr.skip ?_
          have he : prdF1 a b = prdF2 a b := by have q := prdF1_code (a := a) (b := b) (by simpa using c35); unfold prdF2; rw [if_neg (fun hn => hn q), if_neg (by simpa using c41), q]
          refine At.meet ?_
          exact .slot rfl (.refl _) <| .slot rfl (.refl _) <| .slot rfl (.refl _) <| .slot rfl (.refl _) <| .slot rfl (.refl _) <| .slot rfl (.refl _) <| .mem rfl <| .mem rfl <| .mem rfl <| .mem rfl <| .boxLe rfl (.cons (Le.i (congrArg Prod.fst (he))) <| .cons (Le.i (congrArg Prod.snd (he))) <| .nil) <| .nil
      · refine TrOps.gF rfl rfl rfl rfl c35 rfl (by decide) ?_
        refine TrOps.gF rfl rfl rfl rfl c35 rfl (by decide) ?_
        refine TrOps.gF rfl rfl rfl rfl c35 rfl (by decide) ?_
        refine TrOps.gF rfl rfl rfl rfl c35 rfl (by decide) ?_
        refine TrOps.gF rfl rfl rfl rfl c35 rfl (by decide) ?_
        refine TrOps.sem (OpSem.pickF rfl rfl c35 rfl) rfl rfl (by decide) ?_
        refine TrOps.nil ?_
        refine At.seq ?_
        refine Tr.condF rfl rfl ?_
        refine Tr.skip ?_
        have he : prdF1 a b = prdF2 a b := by unfold prdF2; rw [if_pos (fun h => by simp [h] at c35)]
        refine At.meet ?_
        exact .slot rfl (.refl _) <| .slot rfl (.refl _) <| .slot rfl (.refl _) <| .slot rfl (.refl _) <| .slot rfl (.refl _) <| .slot rfl (.refl _) <| .mem rfl <| .mem rfl <| .mem rfl <| .mem rfl <| .boxLe rfl (.cons (Le.i (congrArg Prod.fst (he))) <| .cons (Le.i (congrArg Prod.snd (he))) <| .nil) <| .nil
    · refine Tr.cut [(2, .r 2 0), (3, .r 3 0), (4, Bo (false)), (5, .r 5 0), (6, .r 6 0), (7, .r 7 0)] [(2, .box [I (a.states), I (a.labels), .d (arcsD a.arcs), I (a.init), .d (ints a.goals)]), (3, .box [I (b.states), I (b.labels), .d (arcsD b.arcs), I (b.init), .d (ints b.goals)]), (5, .box [I ((prdR a b).states), I ((prdR a b).labels), .d (arcsD ((prdR a b).arcs)), I ((prdR a b).init), .d (ints ((prdR a b).goals))]), (6, .box [I ((prdF a b).1), I ((prdF a b).2)]), (7, .box [I ((prdF3 a b).1), I ((prdF3 a b).2)])] ?_ ?_
      · refine Tr.seq ?_
        refine Tr.region ?_
        refine TrOps.sem (OpSem.fieldr rfl rfl fo29_0) rfl rfl (by decide) ?_
        refine TrOps.sem (OpSem.loadb1 rfl rfl rfl vs3 rfl) rfl rfl (by decide) ?_
        refine TrOps.sem (OpSem.bin rfl rfl rfl beql) rfl rfl (by decide) ?_
        refine TrOps.sem (OpSem.move (.inl rfl) rfl) rfl rfl (by decide) ?_
        refine TrOps.split (n := 46) rfl (fun c46 => ?_) (fun c46 => ?_)
        · have q0 := prdF2_code (a := a) (b := b) (by simpa using c46)
          have q1 := prdF1_inv (prdF2_inv q0).1
          have hs1 := (absFault_ok (congrArg Prod.fst q1.1)).1.head.1
          have hs2 := (absFault_ok (congrArg Prod.fst q1.2)).1.head.1
          have hpp : 0 ≤ a.states * b.states ∧ a.states * b.states ≤ 3600 := mul_in (by omega) (by omega)
          refine TrOps.gT rfl rfl rfl rfl c46 ?_
          refine TrOps.sem (OpSem.fieldr rfl rfl fo46_0) rfl rfl (by decide) ?_
          refine TrOps.gT rfl rfl rfl rfl c46 ?_
          refine TrOps.sem (OpSem.loadb1 rfl rfl rfl vs3 rfl) rfl rfl (by decide) ?_
          refine TrOps.gT rfl rfl rfl rfl c46 ?_
          refine TrOps.sem (OpSem.fieldr rfl rfl fo46_0) rfl rfl (by decide) ?_
          refine TrOps.gT rfl rfl rfl rfl c46 ?_
          refine TrOps.sem (OpSem.loadb1 rfl rfl rfl vs3 rfl) rfl rfl (by decide) ?_
          refine TrOps.gT rfl rfl rfl rfl c46 ?_
          refine TrOps.sem (OpSem.bin rfl rfl rfl (bmul (by omega) (by omega))) rfl rfl (by decide) ?_
          refine TrOps.gT rfl rfl rfl rfl c46 ?_
          refine TrOps.sem (OpSem.bin rfl rfl rfl bgtr) rfl rfl (by decide) ?_
          refine TrOps.sem (OpSem.pickT rfl rfl c46 rfl) rfl rfl (by decide) ?_
          refine TrOps.nil ?_
          refine At.seq ?_
          refine Tr.cond rfl (fun c53 => ?_) (fun c53 => ?_)
          · refine Tr.region ?_
            refine TrOps.sem (OpSem.call0 (R_At_does ..) rfl rfl rfl rfl (Les.refl _)) rfl rfl (by decide) ?_
            refine TrOps.storeb rfl rfl rfl rfl rfl rfl rfl vs29 (by first | decide | simp) ?_
            refine TrOps.nil ?_
            have he : (10, -7) = prdF3 a b := by have q := prdF2_code (a := a) (b := b) (by simpa using c46); unfold prdF3; rw [if_neg (fun hn => hn q), if_pos (by simpa using c53)]
            refine At.meet ?_
            exact .slot rfl (.refl _) <| .slot rfl (.refl _) <| .slot rfl (.refl _) <| .slot rfl (.refl _) <| .slot rfl (.refl _) <| .slot rfl (.refl _) <| .mem rfl <| .mem rfl <| .mem rfl <| .mem rfl <| .boxLe rfl (.cons (Le.i (congrArg Prod.fst (he))) <| .cons (Le.i (congrArg Prod.snd (he))) <| .nil) <| .nil
          · refine Tr.skip ?_
            have he : prdF2 a b = prdF3 a b := by have q := prdF2_code (a := a) (b := b) (by simpa using c46); unfold prdF3; rw [if_neg (fun hn => hn q), if_neg (by simpa using c53), q]
            refine At.meet ?_
            exact .slot rfl (.refl _) <| .slot rfl (.refl _) <| .slot rfl (.refl _) <| .slot rfl (.refl _) <| .slot rfl (.refl _) <| .slot rfl (.refl _) <| .mem rfl <| .mem rfl <| .mem rfl <| .mem rfl <| .boxLe rfl (.cons (Le.i (congrArg Prod.fst (he))) <| .cons (Le.i (congrArg Prod.snd (he))) <| .nil) <| .nil
        · refine TrOps.gF rfl rfl rfl rfl c46 rfl (by decide) ?_
          refine TrOps.gF rfl rfl rfl rfl c46 rfl (by decide) ?_
          refine TrOps.gF rfl rfl rfl rfl c46 rfl (by decide) ?_
          refine TrOps.gF rfl rfl rfl rfl c46 rfl (by decide) ?_
          refine TrOps.gF rfl rfl rfl rfl c46 rfl (by decide) ?_
          refine TrOps.gF rfl rfl rfl rfl c46 rfl (by decide) ?_
          refine TrOps.sem (OpSem.pickF rfl rfl c46 rfl) rfl rfl (by decide) ?_
          refine TrOps.nil ?_
          refine At.seq ?_
          refine Tr.condF rfl rfl ?_
          refine Tr.skip ?_
          have he : prdF2 a b = prdF3 a b := by unfold prdF3; rw [if_pos (fun h => by simp [h] at c46)]
          refine At.meet ?_
          exact .slot rfl (.refl _) <| .slot rfl (.refl _) <| .slot rfl (.refl _) <| .slot rfl (.refl _) <| .slot rfl (.refl _) <| .slot rfl (.refl _) <| .mem rfl <| .mem rfl <| .mem rfl <| .mem rfl <| .boxLe rfl (.cons (Le.i (congrArg Prod.fst (he))) <| .cons (Le.i (congrArg Prod.snd (he))) <| .nil) <| .nil
      · refine Tr.seq ?_
        refine Tr.region ?_
        refine TrOps.sem (OpSem.build rfl rfl pl46 zc46 rfl rfl) rfl rfl (by decide) ?_
        refine TrOps.semM (OpSem.alloc 8 rfl zc46 rfl) rfl rfl (by decide) ?_
        refine TrOps.storeb rfl rfl rfl rfl rfl rfl rfl vs46 (by first | decide | simp) ?_
        refine TrOps.nil ?_
        refine At.seq ?_
        refine Tr.cut [(2, .r 2 0), (3, .r 3 0), (4, Bo (false)), (5, .r 5 0), (6, .r 6 0), (7, .r 7 0), (8, .r 8 0)] [(2, .box [I (a.states), I (a.labels), .d (arcsD a.arcs), I (a.init), .d (ints a.goals)]), (3, .box [I (b.states), I (b.labels), .d (arcsD b.arcs), I (b.init), .d (ints b.goals)]), (5, .box [I ((prdR a b).states), I ((prdR a b).labels), .d (arcsD ((prdR a b).arcs)), I ((prdR a b).init), .d (ints ((prdR a b).goals))]), (6, .box [I ((prdF a b).1), I ((prdF a b).2)]), (7, .box [I ((prdF a b).1), I ((prdF a b).2)]), (8, .box [I ((if prdF3 a b = (0, 0) then timA a b else absZ).states), I ((if prdF3 a b = (0, 0) then timA a b else absZ).labels), .d (arcsD ((if prdF3 a b = (0, 0) then timA a b else absZ).arcs)), I ((if prdF3 a b = (0, 0) then timA a b else absZ).init), .d (ints ((if prdF3 a b = (0, 0) then timA a b else absZ).goals))])] ?_ ?_
        · refine Tr.seq ?_
          refine Tr.region ?_
          refine TrOps.sem (OpSem.fieldr rfl rfl fo29_0) rfl rfl (by decide) ?_
          refine TrOps.sem (OpSem.loadb1 rfl rfl rfl vs3 rfl) rfl rfl (by decide) ?_
          refine TrOps.sem (OpSem.bin rfl rfl rfl beql) rfl rfl (by decide) ?_
          refine TrOps.nil ?_
          refine At.seq ?_
          refine Tr.cond rfl (fun c58 => ?_) (fun c58 => ?_)
          · have q3 := prdF3_code (a := a) (b := b) (by simpa using c58)
            refine Tr.seq ?_
            refine Tr.region ?_
            refine TrOps.sem (OpSem.loadbN rfl rfl rfl vs46 (by first | decide | simp)) rfl rfl (by decide) ?_
            refine TrOps.sem (OpSem.loadbN rfl rfl rfl vs46 (by first | decide | simp)) rfl rfl (by decide) ?_
            refine TrOps.sem (OpSem.call0 (Q_TimesOf_does a b (prdF3_ok q3)) rfl rfl rfl rfl (Les.refl _)) rfl rfl (by decide) ?_
            refine TrOps.storeb rfl rfl rfl rfl rfl rfl rfl vs46 (by first | decide | simp) ?_
            refine TrOps.nil ?_
            refine At.seq ?_
            refine Tr.seq ?_
            refine Tr.region ?_
            refine TrOps.sem (OpSem.fieldr rfl rfl fo46_2) rfl rfl (by decide) ?_
            refine TrOps.sem (OpSem.loadb1 rfl rfl rfl vs44 rfl) rfl rfl (by decide) ?_
            refine TrOps.sem (OpSem.lenL rfl rfl es44) rfl rfl (by decide) ?_
            refine TrOps.sem (OpSem.bin rfl rfl rfl bgtr) rfl rfl (by decide) ?_
            refine TrOps.nil ?_
            refine At.seq ?_
            refine Tr.cond rfl (fun c65 => ?_) (fun c65 => ?_)
            · refine Tr.region ?_
              refine TrOps.sem (OpSem.call0 (R_At_does ..) rfl rfl rfl rfl (Les.refl _)) rfl rfl (by decide) ?_
              refine TrOps.storeb rfl rfl rfl rfl rfl rfl rfl vs29 (by first | decide | simp) ?_
              refine TrOps.nil ?_
              have he : (10, -7) = prdF a b := (prdF_big (prdF3_ok q3) (by simp at c65; omega)).symm
              refine At.meet ?_
              exact .slot rfl (.refl _) <| .slot rfl (.refl _) <| .slot rfl (.refl _) <| .slot rfl (.refl _) <| .slot rfl (.refl _) <| .slot rfl (.refl _) <| .slot rfl (.refl _) <| .mem rfl <| .mem rfl <| .mem rfl <| .mem rfl <| .boxLe rfl (.cons (Le.i (congrArg Prod.fst (he))) <| .cons (Le.i (congrArg Prod.snd (he))) <| .nil) <| .boxLe rfl (by rw [if_pos q3]; exact .refl _) <| .nil
            · refine Tr.skip ?_
              have he : prdF3 a b = prdF a b := by rw [q3]; exact (prdF_of (prdF3_ok q3) (by simp at c65; omega)).symm
              refine At.meet ?_
              exact .slot rfl (.refl _) <| .slot rfl (.refl _) <| .slot rfl (.refl _) <| .slot rfl (.refl _) <| .slot rfl (.refl _) <| .slot rfl (.refl _) <| .slot rfl (.refl _) <| .mem rfl <| .mem rfl <| .mem rfl <| .mem rfl <| .boxLe rfl (.cons (Le.i (congrArg Prod.fst (he))) <| .cons (Le.i (congrArg Prod.snd (he))) <| .nil) <| .boxLe rfl (by rw [if_pos q3]; exact .refl _) <| .nil
          · refine Tr.skip ?_
            have hn3 : prdF3 a b ≠ (0, 0) := fun h => by simp [h] at c58
            have he : prdF3 a b = prdF a b := by unfold prdF; rw [if_pos hn3]
            refine At.meet ?_
            exact .slot rfl (.refl _) <| .slot rfl (.refl _) <| .slot rfl (.refl _) <| .slot rfl (.refl _) <| .slot rfl (.refl _) <| .slot rfl (.refl _) <| .slot rfl (.refl _) <| .mem rfl <| .mem rfl <| .mem rfl <| .mem rfl <| .boxLe rfl (.cons (Le.i (congrArg Prod.fst (he))) <| .cons (Le.i (congrArg Prod.snd (he))) <| .nil) <| .boxLe rfl (by rw [if_neg hn3]; exact .cons (.refl _) <| .cons (.refl _) <| .cons (Le.nil 3) <| .cons (.refl _) <| .cons (Le.nil 1) <| .nil) <| .nil
        · refine Tr.seq ?_
          refine Tr.seq ?_
          refine Tr.region ?_
          refine TrOps.sem (OpSem.fieldr rfl rfl fo29_0) rfl rfl (by decide) ?_
          refine TrOps.sem (OpSem.loadb1 rfl rfl rfl vs3 rfl) rfl rfl (by decide) ?_
          refine TrOps.sem (OpSem.bin rfl rfl rfl bneq) rfl rfl (by decide) ?_
          refine TrOps.nil ?_
          refine At.seq ?_
          refine Tr.cond rfl (fun c69 => ?_) (fun c69 => ?_)
          · have hne : prdF a b ≠ (0, 0) := fun h => by simp [h] at c69
            refine Tr.seq ?_
            refine Tr.region ?_
            refine TrOps.sem (OpSem.loadbN rfl rfl rfl vs29 (by first | decide | simp)) rfl rfl (by decide) ?_
            refine TrOps.sem (OpSem.loadbN rfl rfl rfl vs29 (by first | decide | simp)) rfl rfl (by decide) ?_
            refine TrOps.sem (OpSem.eqS2 rfl rfl rfl io29) rfl rfl (by decide) ?_
            refine TrOps.sem (OpSem.move (.inl rfl) rfl) rfl rfl (by decide) ?_
            refine TrOps.gT rfl rfl rfl rfl (by simp) ?_
            refine TrOps.sem (OpSem.loadbN rfl rfl rfl vs46 (by first | decide | simp)) rfl rfl (by decide) ?_
            refine TrOps.gT rfl rfl rfl rfl (by simp) ?_
            refine TrOps.sem (OpSem.build rfl rfl pl46 zc46 rfl rfl) rfl rfl (by decide) ?_
            refine TrOps.gT rfl rfl rfl rfl (by simp) ?_
            refine TrOps.sem (OpSem.call0 (Q_Abstractions_does (prdR a b) absZ) rfl rfl rfl rfl (Les.cons (.refl _) <| .cons (Le.g (.cons (.refl _) <| .cons (.refl _) <| .cons (Le.nil 3) <| .cons (.refl _) <| .cons (Le.nil 1) <| .nil)) <| .nil)) rfl rfl (by decide) ?_
            refine TrOps.sem (OpSem.pickT rfl rfl (by simp) rfl) rfl rfl (by decide) ?_
            refine TrOps.sem (OpSem.move (.inr rfl) rfl) rfl rfl (by decide) ?_
            refine TrOps.nil ?_
            refine At.seq ?_
            refine Tr.ret ?_
            refine At.pass_ret ?_
            exact At.ret rfl (.tmp rfl <| .nil) rfl (Le.bo (by first | rfl | (rw [prdR_1 hne]; simp; done) | simp))
          · have h0 : prdF a b = (0, 0) := prdF_code (a := a) (b := b) (by simpa using c69)
            refine Tr.skip ?_
            refine At.seq ?_
            refine Tr.seq ?_
            refine Tr.region ?_
            refine TrOps.sem (OpSem.fieldr rfl rfl fo29_0) rfl rfl (by decide) ?_
            refine TrOps.sem (OpSem.loadb1 rfl rfl rfl vs3 rfl) rfl rfl (by decide) ?_
            refine TrOps.sem (OpSem.bin rfl rfl rfl beql) rfl rfl (by decide) ?_
            refine TrOps.sem (OpSem.move (.inl rfl) rfl) rfl rfl (by decide) ?_
            refine TrOps.gT rfl rfl rfl rfl (by rw [h0]; rfl) ?_
            refine TrOps.sem (OpSem.loadbN rfl rfl rfl vs46 (by first | decide | simp)) rfl rfl (by decide) ?_
            refine TrOps.gT rfl rfl rfl rfl (by rw [h0]; rfl) ?_
            refine TrOps.sem (OpSem.loadbN rfl rfl rfl vs46 (by first | decide | simp)) rfl rfl (by decide) ?_
            refine TrOps.gT rfl rfl rfl rfl (by rw [h0]; rfl) ?_
            refine TrOps.sem (OpSem.call0 (law_sameGraph_does (timA a b) (prd_ok (prdF3_ok (prdF_inv h0).1) (prdF_inv h0).2)) rfl rfl rfl rfl (Les.cons (Le.of_eq (by rw [prdR_0 h0]; rfl)) <| .cons (Le.of_eq (by rw [if_pos (prdF_inv h0).1]; rfl)) <| .nil)) rfl rfl (by decide) ?_
            refine TrOps.sem (OpSem.pickT rfl rfl (by rw [h0]; rfl) rfl) rfl rfl (by decide) ?_
            refine TrOps.sem (OpSem.move (.inr rfl) rfl) rfl rfl (by decide) ?_
            refine TrOps.nil ?_
            refine At.seq ?_
            refine Tr.ret ?_
            exact At.ret rfl (.tmp rfl <| .nil) rfl (Le.bo (by first | rfl | (rw [prdR_1 hne]; simp; done) | simp))

theorem law_AbstractionProductIsCloser_does (a b : Abs) (c : List Int) (hra : -9223372036854775808 ≤ a.states ∧ a.states ≤ 9223372036854775807) (hrb : -9223372036854775808 ≤ b.states ∧ b.states ≤ 9223372036854775807) : Does Try.prog false 13 [absS a, absS b, .d (ints c)] (Bo true) := by
  refine Does.of_body Try.func13 rfl rfl (by simp) Try.call13 (fun w0 O0 => ?_)
  refine Tr.lenG (n := 0) (i := 2) rfl rfl (fun len0_2 => ?_)
  refine Tr.lenG (n := 0) (i := 4) rfl rfl (fun len0_4 => ?_)
  refine Tr.lenG (n := 1) (i := 2) rfl rfl (fun len1_2 => ?_)
  refine Tr.lenG (n := 1) (i := 4) rfl rfl (fun len1_4 => ?_)
  refine Tr.lenLe (n := 2) rfl (fun len2 => ?_)
  refine Tr.seq ?_
  refine Tr.region ?_
  refine TrOps.semM (OpSem.box 3 rfl rfl rfl rfl) rfl rfl (by decide) ?_
  refine TrOps.semM (OpSem.box 4 rfl rfl rfl rfl) rfl rfl (by decide) ?_
  refine TrOps.sem (OpSem.move (.inr rfl) rfl) rfl rfl (by decide) ?_
  refine TrOps.nil ?_
  refine At.seq ?_
  refine Tr.seq ?_
  refine Tr.seq ?_
  refine Tr.region ?_
  refine TrOps.sem (OpSem.call0 (law_abstractionExample_does) rfl rfl rfl rfl (Les.refl _)) rfl rfl (by decide) ?_
  refine TrOps.sem (OpSem.not rfl rfl) rfl rfl (by decide) ?_
  refine TrOps.nil ?_
  refine At.seq ?_
  refine Tr.condF rfl rfl ?_
  refine Tr.skip ?_
  refine At.seq ?_
  refine Tr.seq ?_
  refine Tr.region ?_
  refine TrOps.sem (OpSem.loadbN rfl rfl rfl vs46 (by first | decide | simp)) rfl rfl (by decide) ?_
  refine TrOps.sem (OpSem.loadbN rfl rfl rfl vs46 (by first | decide | simp)) rfl rfl (by decide) ?_
  refine TrOps.sem (OpSem.call0 (abstraction_Product_does a b hra hrb) rfl rfl rfl rfl (Les.refl _)) rfl rfl (by decide) ?_
  refine TrOps.sem (OpSem.move (.inl rfl) rfl) rfl rfl (by decide) ?_
  refine TrOps.sem (OpSem.extract rfl rfl rfl) rfl rfl (by decide) ?_
  refine TrOps.sem (OpSem.extract rfl rfl rfl) rfl rfl (by decide) ?_
  refine TrOps.semM (OpSem.alloc 7 rfl zc46 rfl) rfl rfl (by decide) ?_
  refine TrOps.semM (OpSem.alloc 8 rfl zc29 rfl) rfl rfl (by decide) ?_
  refine TrOps.storeb rfl rfl rfl rfl rfl rfl rfl vs46 (by first | decide | simp) ?_
  refine TrOps.storeb rfl rfl rfl rfl rfl rfl rfl vs29 (by first | decide | simp) ?_
  refine TrOps.nil ?_
  refine At.seq ?_
  refine Tr.seq ?_
  refine Tr.region ?_
  refine TrOps.sem (OpSem.loadbN rfl rfl rfl vs46 (by first | decide | simp)) rfl rfl (by decide) ?_
  refine TrOps.sem (OpSem.move (.inl rfl) rfl) rfl rfl (by decide) ?_
  refine TrOps.sem (OpSem.call0 (abstraction_Distances_does (prdR a b) c prdR_rng) rfl rfl rfl rfl (Les.refl _)) rfl rfl (by decide) ?_
  refine TrOps.sem (OpSem.move (.inl rfl) rfl) rfl rfl (by decide) ?_
  refine TrOps.sem (OpSem.extract rfl rfl rfl) rfl rfl (by decide) ?_
  refine TrOps.sem (OpSem.extract rfl rfl rfl) rfl rfl (by decide) ?_
  refine TrOps.semM (OpSem.alloc 10 rfl zc29 rfl) rfl rfl (by decide) ?_
  refine TrOps.sem (OpSem.move (.inr rfl) rfl) rfl rfl (by decide) ?_
  refine TrOps.storeb rfl rfl rfl rfl rfl rfl rfl vs29 (by first | decide | simp) ?_
  refine TrOps.nil ?_
  refine At.seq ?_
  refine Tr.seq ?_
  refine Tr.seq ?_
  refine PC.start [] ?_
  refine PC.sem (OpSem.fieldr rfl rfl fo29_0) rfl rfl ?_
  refine PC.sem (OpSem.loadb1 rfl rfl rfl vs3 rfl) rfl rfl ?_
  refine PC.sem (OpSem.bin rfl rfl rfl bneq) rfl rfl ?_
  refine PC.sem (OpSem.move (.inl rfl) rfl) rfl rfl ?_
  refine PC.split (n := 33) rfl (fun c33 => ?_) (fun c33 => ?_)
  · have hne : prdF a b ≠ (0, 0) := fun h => by simp [h] at c33
    refine PC.gF rfl rfl rfl rfl c33 rfl ?_
    refine PC.gF rfl rfl rfl rfl c33 rfl ?_
    refine PC.gF rfl rfl rfl rfl c33 rfl ?_
    refine PC.sem (OpSem.pickT rfl rfl c33 rfl) rfl rfl ?_
    refine PC.sem (OpSem.move (.inl rfl) rfl) rfl rfl ?_
    refine PC.gF rfl rfl rfl rfl rfl rfl ?_
    refine PC.gF rfl rfl rfl rfl rfl rfl ?_
    refine PC.gF rfl rfl rfl rfl rfl rfl ?_
    refine PC.gF rfl rfl rfl rfl rfl rfl ?_
    refine PC.gF rfl rfl rfl rfl rfl rfl ?_
    refine PC.gF rfl rfl rfl rfl rfl rfl ?_
    refine PC.done0 mixed (by kernel_rfl) (by kernel_rfl) (by kernel_rfl) (by kernel_rfl) (by kernel_rfl) ?_
    refine TrOps.gF rfl rfl rfl rfl rfl rfl (by decide) ?_
    refine TrOps.gF rfl rfl rfl rfl rfl rfl (by decide) ?_
    refine TrOps.sem (OpSem.pickT rfl rfl rfl rfl) rfl rfl (by decide) ?_
    refine TrOps.nil ?_
    refine At.seq ?_
    refine Tr.condT rfl rfl ?_
    refine Tr.seq ?_
    refine Tr.region ?_
    refine TrOps.sem (OpSem.fieldr rfl rfl fo29_0) rfl rfl (by decide) ?_
    refine TrOps.sem (OpSem.loadb1 rfl rfl rfl vs3 rfl) rfl rfl (by decide) ?_
    refine TrOps.sem (OpSem.bin rfl rfl rfl beql) rfl rfl (by decide) ?_
    refine TrOps.sem (OpSem.move (.inl rfl) rfl) rfl rfl (by decide) ?_
    refine TrOps.split (n := 51) rfl (fun c51 => ?_) (fun c51 => ?_)
    · refine TrOps.gF rfl rfl rfl rfl c51 rfl (by decide) ?_
      refine TrOps.gF rfl rfl rfl rfl c51 rfl (by decide) ?_
      refine TrOps.gF rfl rfl rfl rfl c51 rfl (by decide) ?_
      refine TrOps.sem (OpSem.pickT rfl rfl c51 rfl) rfl rfl (by decide) ?_
      refine TrOps.sem (OpSem.move (.inr rfl) rfl) rfl rfl (by decide) ?_
      refine TrOps.nil ?_
      refine At.seq ?_
      refine Tr.ret ?_
      refine At.pass_ret ?_
      exact At.ret rfl (.tmp rfl <| .nil) rfl (Le.bo (by first | rfl | (rw [prdR_1 hne]; rfl) | (exfalso; simp [h0] at c51; done) | (rw [h0]; rfl) | simp))
    · refine TrOps.gT rfl rfl rfl rfl c51 ?_
      refine TrOps.sem (OpSem.fieldr rfl rfl fo46_0) rfl rfl (by decide) ?_
      refine TrOps.gT rfl rfl rfl rfl c51 ?_
      refine TrOps.sem (OpSem.loadb1 rfl rfl rfl vs3 rfl) rfl rfl (by decide) ?_
      refine TrOps.gT rfl rfl rfl rfl c51 ?_
      refine TrOps.sem (OpSem.bin rfl rfl rfl beql) rfl rfl (by decide) ?_
      refine TrOps.sem (OpSem.pickF rfl rfl c51 rfl) rfl rfl (by decide) ?_
      refine TrOps.sem (OpSem.move (.inr rfl) rfl) rfl rfl (by decide) ?_
      refine TrOps.nil ?_
      refine At.seq ?_
      refine Tr.ret ?_
      refine At.pass_ret ?_
      exact At.ret rfl (.tmp rfl <| .nil) rfl (Le.bo (by first | rfl | (rw [prdR_1 hne]; rfl) | (exfalso; simp [h0] at c51; done) | (rw [h0]; rfl) | simp))
  · have h0 : prdF a b = (0, 0) := prdF_code (by simpa using c33)
    refine PC.gT (OpSem.fieldr rfl rfl fo29_0) rfl rfl rfl rfl c33 rfl ?_
    refine PC.gT (OpSem.loadb1 rfl rfl rfl vs3 rfl) rfl rfl rfl rfl c33 rfl ?_
    refine PC.gT (OpSem.bin rfl rfl rfl bneq) rfl rfl rfl rfl c33 rfl ?_
    refine PC.sem (OpSem.pickF rfl rfl c33 rfl) rfl rfl ?_
    refine PC.sem (OpSem.move (.inl rfl) rfl) rfl rfl ?_
    refine PC.split (n := 38) rfl (fun c38 => ?_) (fun c38 => ?_)
    · refine PC.gF rfl rfl rfl rfl c38 rfl ?_
      refine PC.gF rfl rfl rfl rfl c38 rfl ?_
      refine PC.gF rfl rfl rfl rfl c38 rfl ?_
      refine PC.gF rfl rfl rfl rfl c38 rfl ?_
      refine PC.gF rfl rfl rfl rfl c38 rfl ?_
      refine PC.gF rfl rfl rfl rfl c38 rfl ?_
      refine PC.done0 mixed (by kernel_rfl) (by kernel_rfl) (by kernel_rfl) (by kernel_rfl) (by kernel_rfl) ?_
      refine TrOps.gF rfl rfl rfl rfl c38 rfl (by decide) ?_
      refine TrOps.gF rfl rfl rfl rfl c38 rfl (by decide) ?_
      refine TrOps.sem (OpSem.pickT rfl rfl c38 rfl) rfl rfl (by decide) ?_
      refine TrOps.nil ?_
      refine At.seq ?_
      refine Tr.condT rfl rfl ?_
      refine Tr.seq ?_
      refine Tr.region ?_
      refine TrOps.sem (OpSem.fieldr rfl rfl fo29_0) rfl rfl (by decide) ?_
      refine TrOps.sem (OpSem.loadb1 rfl rfl rfl vs3 rfl) rfl rfl (by decide) ?_
      refine TrOps.sem (OpSem.bin rfl rfl rfl beql) rfl rfl (by decide) ?_
      refine TrOps.sem (OpSem.move (.inl rfl) rfl) rfl rfl (by decide) ?_
      refine TrOps.split (n := 51) rfl (fun c51 => ?_) (fun c51 => ?_)
      · refine TrOps.gF rfl rfl rfl rfl c51 rfl (by decide) ?_
        refine TrOps.gF rfl rfl rfl rfl c51 rfl (by decide) ?_
        refine TrOps.gF rfl rfl rfl rfl c51 rfl (by decide) ?_
        refine TrOps.sem (OpSem.pickT rfl rfl c51 rfl) rfl rfl (by decide) ?_
        refine TrOps.sem (OpSem.move (.inr rfl) rfl) rfl rfl (by decide) ?_
        refine TrOps.nil ?_
        refine At.seq ?_
        refine Tr.ret ?_
        refine At.pass_ret ?_
        exact At.ret rfl (.tmp rfl <| .nil) rfl (Le.bo (by first | rfl | (rw [prdR_1 hne]; rfl) | (exfalso; simp [h0] at c51; done) | (rw [h0]; rfl) | simp))
      · refine TrOps.gT rfl rfl rfl rfl c51 ?_
        refine TrOps.sem (OpSem.fieldr rfl rfl fo46_0) rfl rfl (by decide) ?_
        refine TrOps.gT rfl rfl rfl rfl c51 ?_
        refine TrOps.sem (OpSem.loadb1 rfl rfl rfl vs3 rfl) rfl rfl (by decide) ?_
        refine TrOps.gT rfl rfl rfl rfl c51 ?_
        refine TrOps.sem (OpSem.bin rfl rfl rfl beql) rfl rfl (by decide) ?_
        refine TrOps.sem (OpSem.pickF rfl rfl c51 rfl) rfl rfl (by decide) ?_
        refine TrOps.sem (OpSem.move (.inr rfl) rfl) rfl rfl (by decide) ?_
        refine TrOps.nil ?_
        refine At.seq ?_
        refine Tr.ret ?_
        refine At.pass_ret ?_
        exact At.ret rfl (.tmp rfl <| .nil) rfl (Le.bo (by first | rfl | (rw [prdR_1 hne]; rfl) | (exfalso; simp [h0] at c51; done) | (rw [h0]; rfl) | simp))
    · have hd : adF (prdR a b) c = (0, 0) := (adF_ok (a := prdR a b) (c := c) (by simpa using c38)).2.2.1
      have hL := prd_len h0 hd
      have hst := hL.1.st
      have hs2 := hL.1.ob.head.1
      have hs1 := hL.1.oa.head.1
      obtain ⟨z1, z2, z3, z4⟩ := hL.2.2.2
      have hpp := prd_st hL.1
      refine PC.gT (OpSem.loadbN rfl rfl rfl vs46 (by first | decide | simp)) rfl rfl rfl rfl c38 rfl ?_
      refine PC.gT (OpSem.call0 (Q_AbstractionFault_does a) rfl rfl rfl rfl (Les.refl _)) rfl rfl rfl rfl c38 rfl ?_
      refine PC.gT (OpSem.field1 rfl rfl f1_29_0 rfl) rfl rfl rfl rfl c38 rfl ?_
      refine PC.gT (OpSem.loadbN rfl rfl rfl vs46 (by first | decide | simp)) rfl rfl rfl rfl c38 rfl ?_
      refine PC.gT (OpSem.call0 (Q_AbstractionFault_does b) rfl rfl rfl rfl (Les.refl _)) rfl rfl rfl rfl c38 rfl ?_
      refine PC.gT (OpSem.field1 rfl rfl f1_29_0 rfl) rfl rfl rfl rfl c38 rfl ?_
      refine PC.done0 mixed (by kernel_rfl) (by kernel_rfl) (by kernel_rfl) (by kernel_rfl) (by kernel_rfl) ?_
      refine TrOps.gT rfl rfl rfl rfl c38 ?_
      refine TrOps.sem (OpSem.bin rfl rfl rfl (badd (by rw [hL.2.1.1, hL.2.1.2]; decide) (by rw [hL.2.1.1, hL.2.1.2]; decide))) rfl rfl (by decide) ?_
      refine TrOps.gT rfl rfl rfl rfl c38 ?_
      refine TrOps.sem (OpSem.bin rfl rfl rfl bneq) rfl rfl (by decide) ?_
      refine TrOps.sem (OpSem.pickF rfl rfl c38 rfl) rfl rfl (by decide) ?_
      refine TrOps.nil ?_
      refine At.seq ?_
      refine Tr.condF rfl (by rw [hL.2.1.1, hL.2.1.2]; rfl) ?_
      refine Tr.skip ?_
      refine At.seq ?_
      refine Tr.seq ?_
      refine Tr.region ?_
      refine TrOps.sem (OpSem.loadbN rfl rfl rfl vs46 (by first | decide | simp)) rfl rfl (by decide) ?_
      refine TrOps.sem (OpSem.move (.inl rfl) rfl) rfl rfl (by decide) ?_
      refine TrOps.sem (OpSem.call0 (abstraction_Distances_does a c hra) rfl rfl rfl rfl (Les.refl _)) rfl rfl (by decide) ?_
      refine TrOps.sem (OpSem.move (.inl rfl) rfl) rfl rfl (by decide) ?_
      refine TrOps.sem (OpSem.extract rfl rfl rfl) rfl rfl (by decide) ?_
      refine TrOps.sem (OpSem.extract rfl rfl rfl) rfl rfl (by decide) ?_
      refine TrOps.semM (OpSem.alloc 12 rfl zc29 rfl) rfl rfl (by decide) ?_
      refine TrOps.sem (OpSem.move (.inr rfl) rfl) rfl rfl (by decide) ?_
      refine TrOps.storeb rfl rfl rfl rfl rfl rfl rfl vs29 (by first | decide | simp) ?_
      refine TrOps.nil ?_
      refine At.seq ?_
      refine Tr.seq ?_
      refine Tr.region ?_
      refine TrOps.sem (OpSem.loadbN rfl rfl rfl vs46 (by first | decide | simp)) rfl rfl (by decide) ?_
      refine TrOps.sem (OpSem.move (.inl rfl) rfl) rfl rfl (by decide) ?_
      refine TrOps.sem (OpSem.call0 (abstraction_Distances_does b c hrb) rfl rfl rfl rfl (Les.refl _)) rfl rfl (by decide) ?_
      refine TrOps.sem (OpSem.move (.inl rfl) rfl) rfl rfl (by decide) ?_
      refine TrOps.sem (OpSem.extract rfl rfl rfl) rfl rfl (by decide) ?_
      refine TrOps.sem (OpSem.extract rfl rfl rfl) rfl rfl (by decide) ?_
      refine TrOps.semM (OpSem.alloc 14 rfl zc29 rfl) rfl rfl (by decide) ?_
      refine TrOps.sem (OpSem.move (.inr rfl) rfl) rfl rfl (by decide) ?_
      refine TrOps.storeb rfl rfl rfl rfl rfl rfl rfl vs29 (by first | decide | simp) ?_
      refine TrOps.nil ?_
      refine At.seq ?_
      refine Tr.seq ?_
      refine Tr.seq ?_
      refine Tr.region ?_
      refine TrOps.sem (OpSem.fieldr rfl rfl fo29_0) rfl rfl (by decide) ?_
      refine TrOps.sem (OpSem.loadb1 rfl rfl rfl vs3 rfl) rfl rfl (by decide) ?_
      refine TrOps.sem (OpSem.bin rfl rfl rfl bneq) rfl rfl (by decide) ?_
      refine TrOps.sem (OpSem.move (.inl rfl) rfl) rfl rfl (by decide) ?_
      refine TrOps.gT rfl rfl rfl rfl (by rw [hL.2.2.1.1]; rfl) ?_
      refine TrOps.sem (OpSem.fieldr rfl rfl fo29_0) rfl rfl (by decide) ?_
      refine TrOps.gT rfl rfl rfl rfl (by rw [hL.2.2.1.1]; rfl) ?_
      refine TrOps.sem (OpSem.loadb1 rfl rfl rfl vs3 rfl) rfl rfl (by decide) ?_
      refine TrOps.gT rfl rfl rfl rfl (by rw [hL.2.2.1.1]; rfl) ?_
      refine TrOps.sem (OpSem.bin rfl rfl rfl bneq) rfl rfl (by decide) ?_
      refine TrOps.sem (OpSem.pickF rfl rfl (by rw [hL.2.2.1.1]; rfl) rfl) rfl rfl (by decide) ?_
      refine TrOps.sem (OpSem.move (.inl rfl) rfl) rfl rfl (by decide) ?_
      refine TrOps.gT rfl rfl rfl rfl (by rw [hL.2.2.1.2]; rfl) ?_
      refine TrOps.sem (OpSem.move (.inl rfl) rfl) rfl rfl (by decide) ?_
      refine TrOps.gT rfl rfl rfl rfl (by rw [hL.2.2.1.2]; rfl) ?_
      refine TrOps.sem (OpSem.lenL rfl rfl es22) rfl rfl (by decide) ?_
      refine TrOps.gT rfl rfl rfl rfl (by rw [hL.2.2.1.2]; rfl) ?_
      refine TrOps.sem (OpSem.fieldr rfl rfl fo46_0) rfl rfl (by decide) ?_
      refine TrOps.gT rfl rfl rfl rfl (by rw [hL.2.2.1.2]; rfl) ?_
      refine TrOps.sem (OpSem.loadb1 rfl rfl rfl vs3 rfl) rfl rfl (by decide) ?_
      refine TrOps.gT rfl rfl rfl rfl (by rw [hL.2.2.1.2]; rfl) ?_
      refine TrOps.sem (OpSem.bin rfl rfl rfl bneq) rfl rfl (by decide) ?_
      refine TrOps.sem (OpSem.pickF rfl rfl (by rw [hL.2.2.1.2]; rfl) rfl) rfl rfl (by decide) ?_
      refine TrOps.sem (OpSem.move (.inl rfl) rfl) rfl rfl (by decide) ?_
      refine TrOps.gT rfl rfl rfl rfl (by simp; omega) ?_
      refine TrOps.sem (OpSem.move (.inl rfl) rfl) rfl rfl (by decide) ?_
      refine TrOps.gT rfl rfl rfl rfl (by simp; omega) ?_
      refine TrOps.sem (OpSem.lenL rfl rfl es22) rfl rfl (by decide) ?_
      refine TrOps.gT rfl rfl rfl rfl (by simp; omega) ?_
      refine TrOps.sem (OpSem.fieldr rfl rfl fo46_0) rfl rfl (by decide) ?_
      refine TrOps.gT rfl rfl rfl rfl (by simp; omega) ?_
      refine TrOps.sem (OpSem.loadb1 rfl rfl rfl vs3 rfl) rfl rfl (by decide) ?_
      refine TrOps.gT rfl rfl rfl rfl (by simp; omega) ?_
      refine TrOps.sem (OpSem.bin rfl rfl rfl bneq) rfl rfl (by decide) ?_
      refine TrOps.sem (OpSem.pickF rfl rfl (by simp; omega) rfl) rfl rfl (by decide) ?_
      refine TrOps.sem (OpSem.move (.inl rfl) rfl) rfl rfl (by decide) ?_
      refine TrOps.gT rfl rfl rfl rfl (by simp; omega) ?_
      refine TrOps.sem (OpSem.move (.inl rfl) rfl) rfl rfl (by decide) ?_
      refine TrOps.gT rfl rfl rfl rfl (by simp; omega) ?_
      refine TrOps.sem (OpSem.lenL rfl rfl es22) rfl rfl (by decide) ?_
      refine TrOps.gT rfl rfl rfl rfl (by simp; omega) ?_
      refine TrOps.sem (OpSem.fieldr rfl rfl fo46_0) rfl rfl (by decide) ?_
      refine TrOps.gT rfl rfl rfl rfl (by simp; omega) ?_
      refine TrOps.sem (OpSem.loadb1 rfl rfl rfl vs3 rfl) rfl rfl (by decide) ?_
      refine TrOps.gT rfl rfl rfl rfl (by simp; omega) ?_
      refine TrOps.sem (OpSem.fieldr rfl rfl fo46_0) rfl rfl (by decide) ?_
      refine TrOps.gT rfl rfl rfl rfl (by simp; omega) ?_
      refine TrOps.sem (OpSem.loadb1 rfl rfl rfl vs3 rfl) rfl rfl (by decide) ?_
      refine TrOps.gT rfl rfl rfl rfl (by simp; omega) ?_
      refine TrOps.sem (OpSem.bin rfl rfl rfl (bmul (by omega) (by omega))) rfl rfl (by decide) ?_
      refine TrOps.gT rfl rfl rfl rfl (by simp; omega) ?_
      refine TrOps.sem (OpSem.bin rfl rfl rfl bneq) rfl rfl (by decide) ?_
      refine TrOps.sem (OpSem.pickF rfl rfl (by simp; omega) rfl) rfl rfl (by decide) ?_
      refine TrOps.nil ?_
      refine At.seq ?_
      refine Tr.condF rfl (by simp; omega) ?_
      refine Tr.skip ?_
      refine At.seq ?_
      refine Tr.seq ?_
      refine Tr.seq ?_
      refine Tr.region ?_
      refine TrOps.sem (OpSem.move (.inr rfl) rfl) rfl rfl (by decide) ?_
      refine TrOps.nil ?_
      refine At.seq ?_
      refine Tr.block ?_
      refine Tr.loop (X := Nat) (fun n => (n : Int) ≤ a.states * b.states) (fun n => [(4, .r 4 0), (9, .d (ints (adR (prdR a b) c))), (11, .d (ints (adR a c))), (13, .d (ints (adR b c))), (15, I (n))]) (fun n => [(4, .box [I (b.states), I (b.labels), .d (arcsD b.arcs), I (b.init), .d (ints b.goals)])]) (fun n => (a.states * b.states).toNat - n) 0 (by omega) ?_ ?_
      · exact .slot rfl (.refl _) <| .slot rfl (.refl _) <| .slot rfl (.refl _) <| .slot rfl (.refl _) <| .slot rfl (Le.of_eq (by simp)) <| .mem rfl <| .nil
      · rintro n hnle
        refine Tr.seq ?_
        refine Tr.seq ?_
        refine Tr.region ?_
        refine TrOps.sem (OpSem.move (.inl rfl) rfl) rfl rfl (by decide) ?_
        refine TrOps.sem (OpSem.move (.inl rfl) rfl) rfl rfl (by decide) ?_
        refine TrOps.sem (OpSem.lenL rfl rfl es22) rfl rfl (by decide) ?_
        refine TrOps.sem (OpSem.bin rfl rfl rfl blss) rfl rfl (by decide) ?_
        refine TrOps.nil ?_
        refine At.seq ?_
        refine Tr.cond rfl (fun c103 => ?_) (fun c103 => ?_)
        · have hn : (n : Int) < a.states * b.states := by rw [← z3]; simpa using c103
          have hz := z4 n (by omega) hn
          have hpo := pair_of (n := (n : Int)) (r := a.states) (s := b.states) (by omega) hn (by omega)
          refine Tr.skip ?_
          refine At.seq ?_
          refine Tr.seq ?_
          refine Tr.block ?_
          refine Tr.seq ?_
          refine PC.start [] ?_
          refine PC.sem (OpSem.move (.inl rfl) rfl) rfl rfl ?_
          refine PC.sem (OpSem.move (.inl rfl) rfl) rfl rfl ?_
          refine PC.sem (OpSem.idxL rfl rfl rfl es22 (by omega) (by omega)) rfl rfl ?_
          refine PC.sem (OpSem.load1 rfl rfl vs3 rfl) rfl rfl ?_
          refine PC.sem (OpSem.move (.inl rfl) rfl) rfl rfl ?_
          refine PC.sem (OpSem.move (.inl rfl) rfl) rfl rfl ?_
          refine PC.sem (OpSem.fieldr rfl rfl fo46_0) rfl rfl ?_
          refine PC.sem (OpSem.loadb1 rfl rfl rfl vs3 rfl) rfl rfl ?_
          refine PC.sem (OpSem.bin rfl rfl rfl (bquo (by omega) (by omega) (by omega))) rfl rfl ?_
          refine PC.sem (OpSem.idxL rfl rfl rfl es22 (by omega) (by omega)) rfl rfl ?_
          refine PC.sem (OpSem.load1 rfl rfl vs3 rfl) rfl rfl ?_
          refine PC.sem (OpSem.bin rfl rfl rfl blss) rfl rfl ?_
          refine PC.sem (OpSem.move (.inl rfl) rfl) rfl rfl ?_
          refine PC.gT (OpSem.move (.inl rfl) rfl) rfl rfl rfl rfl (by simp; omega) rfl ?_
          refine PC.gT (OpSem.move (.inl rfl) rfl) rfl rfl rfl rfl (by simp; omega) rfl ?_
          refine PC.gT (OpSem.idxL rfl rfl rfl es22 (by omega) (by omega)) rfl rfl rfl rfl (by simp; omega) rfl ?_
          refine PC.gT (OpSem.load1 rfl rfl vs3 rfl) rfl rfl rfl rfl (by simp; omega) rfl ?_
          refine PC.gT (OpSem.move (.inl rfl) rfl) rfl rfl rfl rfl (by simp; omega) rfl ?_
          refine PC.gT (OpSem.move (.inl rfl) rfl) rfl rfl rfl rfl (by simp; omega) rfl ?_
          refine PC.gT (OpSem.fieldr rfl rfl fo46_0) rfl rfl rfl rfl (by simp; omega) rfl ?_
          refine PC.gT (OpSem.loadb1 rfl rfl rfl vs3 rfl) rfl rfl rfl rfl (by simp; omega) rfl ?_
          refine PC.gT (OpSem.bin rfl rfl rfl (brem (by omega) (by omega))) rfl rfl rfl rfl (by simp; omega) rfl ?_
          refine PC.gT (OpSem.idxL rfl rfl rfl es22 (by omega) (by omega)) rfl rfl rfl rfl (by simp; omega) rfl ?_
          refine PC.gT (OpSem.load1 rfl rfl vs3 rfl) rfl rfl rfl rfl (by simp; omega) rfl ?_
          refine PC.done0 mixed (by kernel_rfl) (by kernel_rfl) (by kernel_rfl) (by kernel_rfl) (by kernel_rfl) ?_
          refine TrOps.gT rfl rfl rfl rfl (by simp; omega) ?_
          refine TrOps.sem (OpSem.bin rfl rfl rfl blss) rfl rfl (by decide) ?_
          refine TrOps.sem (OpSem.pickF rfl rfl (by simp; omega) rfl) rfl rfl (by decide) ?_
          refine TrOps.nil ?_
          refine At.seq ?_
          refine Tr.condF rfl (by simp; omega) ?_
          refine Tr.skip ?_
          refine At.block_normal ?_
          refine At.seq ?_
          refine Tr.region ?_
          refine TrOps.sem (OpSem.move (.inl rfl) rfl) rfl rfl (by decide) ?_
          refine TrOps.sem (OpSem.bin rfl rfl rfl (badd (by omega) (by omega))) rfl rfl (by decide) ?_
          refine TrOps.sem (OpSem.move (.inr rfl) rfl) rfl rfl (by decide) ?_
          refine TrOps.nil ?_
          refine At.again (n + 1) (by omega) ?_ (by omega)
          exact .slot rfl (.refl _) <| .slot rfl (.refl _) <| .slot rfl (.refl _) <| .slot rfl (.refl _) <| .slot rfl (Le.of_eq (by simp)) <| .mem rfl <| .nil
        · refine Tr.exit ?_
          refine At.pass_exit ?_
          refine At.pass_exit ?_
          refine At.block_same ?_
          refine At.seq ?_
          refine Tr.seq ?_
          refine Tr.region ?_
          refine TrOps.sem (OpSem.move (.inr rfl) rfl) rfl rfl (by decide) ?_
          refine TrOps.nil ?_
          refine At.seq ?_
          refine Tr.ret ?_
          exact At.ret rfl (.tmp rfl <| .nil) rfl (Le.bo (by first | rfl | (rw [prdR_1 hne]; rfl) | (exfalso; simp [h0] at c51; done) | (rw [h0]; rfl) | simp))

theorem law_AbstractionProductSymmetric_does (a b : Abs) (c : List Int) (hra : -9223372036854775808 ≤ a.states ∧ a.states ≤ 9223372036854775807) (hrb : -9223372036854775808 ≤ b.states ∧ b.states ≤ 9223372036854775807) : Does Try.prog false 10 [absS a, absS b, .d (ints c)] (Bo true) := by
  refine Does.of_body Try.func10 rfl rfl (by simp) Try.call10 (fun w0 O0 => ?_)
  refine Tr.lenG (n := 0) (i := 2) rfl rfl (fun len0_2 => ?_)
  refine Tr.lenG (n := 0) (i := 4) rfl rfl (fun len0_4 => ?_)
  refine Tr.lenG (n := 1) (i := 2) rfl rfl (fun len1_2 => ?_)
  refine Tr.lenG (n := 1) (i := 4) rfl rfl (fun len1_4 => ?_)
  refine Tr.lenLe (n := 2) rfl (fun len2 => ?_)
  refine Tr.seq ?_
  refine Tr.region ?_
  refine TrOps.semM (OpSem.box 3 rfl rfl rfl rfl) rfl rfl (by decide) ?_
  refine TrOps.semM (OpSem.box 4 rfl rfl rfl rfl) rfl rfl (by decide) ?_
  refine TrOps.sem (OpSem.move (.inr rfl) rfl) rfl rfl (by decide) ?_
  refine TrOps.nil ?_
  refine At.seq ?_
  refine Tr.seq ?_
  refine Tr.seq ?_
  refine Tr.region ?_
  refine TrOps.sem (OpSem.call0 (law_abstractionExample_does) rfl rfl rfl rfl (Les.refl _)) rfl rfl (by decide) ?_
  refine TrOps.sem (OpSem.not rfl rfl) rfl rfl (by decide) ?_
  refine TrOps.nil ?_
  refine At.seq ?_
  refine Tr.condF rfl rfl ?_
  refine Tr.skip ?_
  refine At.seq ?_
  refine Tr.seq ?_
  refine Tr.region ?_
  refine TrOps.sem (OpSem.loadbN rfl rfl rfl vs46 (by first | decide | simp)) rfl rfl (by decide) ?_
  refine TrOps.sem (OpSem.loadbN rfl rfl rfl vs46 (by first | decide | simp)) rfl rfl (by decide) ?_
  refine TrOps.sem (OpSem.call0 (abstraction_Product_does a b hra hrb) rfl rfl rfl rfl (Les.refl _)) rfl rfl (by decide) ?_
  refine TrOps.sem (OpSem.move (.inl rfl) rfl) rfl rfl (by decide) ?_
  refine TrOps.sem (OpSem.extract rfl rfl rfl) rfl rfl (by decide) ?_
  refine TrOps.sem (OpSem.extract rfl rfl rfl) rfl rfl (by decide) ?_
  refine TrOps.semM (OpSem.alloc 7 rfl zc46 rfl) rfl rfl (by decide) ?_
  refine TrOps.semM (OpSem.alloc 8 rfl zc29 rfl) rfl rfl (by decide) ?_
  refine TrOps.storeb rfl rfl rfl rfl rfl rfl rfl vs46 (by first | decide | simp) ?_
  refine TrOps.storeb rfl rfl rfl rfl rfl rfl rfl vs29 (by first | decide | simp) ?_
  refine TrOps.nil ?_
  refine At.seq ?_
  refine Tr.seq ?_
  refine Tr.region ?_
  refine TrOps.sem (OpSem.loadbN rfl rfl rfl vs46 (by first | decide | simp)) rfl rfl (by decide) ?_
  refine TrOps.sem (OpSem.move (.inl rfl) rfl) rfl rfl (by decide) ?_
  refine TrOps.sem (OpSem.call0 (abstraction_Distances_does (prdR a b) c prdR_rng) rfl rfl rfl rfl (Les.refl _)) rfl rfl (by decide) ?_
  refine TrOps.sem (OpSem.move (.inl rfl) rfl) rfl rfl (by decide) ?_
  refine TrOps.sem (OpSem.extract rfl rfl rfl) rfl rfl (by decide) ?_
  refine TrOps.sem (OpSem.extract rfl rfl rfl) rfl rfl (by decide) ?_
  refine TrOps.semM (OpSem.alloc 10 rfl zc29 rfl) rfl rfl (by decide) ?_
  refine TrOps.sem (OpSem.move (.inr rfl) rfl) rfl rfl (by decide) ?_
  refine TrOps.storeb rfl rfl rfl rfl rfl rfl rfl vs29 (by first | decide | simp) ?_
  refine TrOps.nil ?_
  refine At.seq ?_
  refine Tr.seq ?_
  refine Tr.seq ?_
  refine Tr.region ?_
  refine TrOps.sem (OpSem.fieldr rfl rfl fo29_0) rfl rfl (by decide) ?_
  refine TrOps.sem (OpSem.loadb1 rfl rfl rfl vs3 rfl) rfl rfl (by decide) ?_
  refine TrOps.sem (OpSem.bin rfl rfl rfl bneq) rfl rfl (by decide) ?_
  refine TrOps.sem (OpSem.move (.inl rfl) rfl) rfl rfl (by decide) ?_
  refine TrOps.split (n := 32) rfl (fun c32 => ?_) (fun c32 => ?_)
  · have hne : prdF a b ≠ (0, 0) := fun h => by simp [h] at c32
    refine TrOps.gF rfl rfl rfl rfl c32 rfl (by decide) ?_
    refine TrOps.gF rfl rfl rfl rfl c32 rfl (by decide) ?_
    refine TrOps.gF rfl rfl rfl rfl c32 rfl (by decide) ?_
    refine TrOps.sem (OpSem.pickT rfl rfl c32 rfl) rfl rfl (by decide) ?_
    refine TrOps.nil ?_
    refine At.seq ?_
    refine Tr.condT rfl rfl ?_
    refine Tr.seq ?_
    refine Tr.region ?_
    refine TrOps.sem (OpSem.fieldr rfl rfl fo29_0) rfl rfl (by decide) ?_
    refine TrOps.sem (OpSem.loadb1 rfl rfl rfl vs3 rfl) rfl rfl (by decide) ?_
    refine TrOps.sem (OpSem.bin rfl rfl rfl beql) rfl rfl (by decide) ?_
    refine TrOps.sem (OpSem.move (.inl rfl) rfl) rfl rfl (by decide) ?_
    refine TrOps.split (n := 40) rfl (fun c40 => ?_) (fun c40 => ?_)
    · refine TrOps.gF rfl rfl rfl rfl c40 rfl (by decide) ?_
      refine TrOps.gF rfl rfl rfl rfl c40 rfl (by decide) ?_
      refine TrOps.gF rfl rfl rfl rfl c40 rfl (by decide) ?_
      refine TrOps.sem (OpSem.pickT rfl rfl c40 rfl) rfl rfl (by decide) ?_
      refine TrOps.sem (OpSem.move (.inr rfl) rfl) rfl rfl (by decide) ?_
      refine TrOps.nil ?_
      refine At.seq ?_
      refine Tr.ret ?_
      refine At.pass_ret ?_
      exact At.ret rfl (.tmp rfl <| .nil) rfl (Le.bo (by first | rfl | (rw [prdR_1 hne]; rfl) | (exfalso; simp [h0] at c40; done) | (rw [h0]; rfl) | (rw [hS.2.2.2.1]; simp; done) | simp))
    · refine TrOps.gT rfl rfl rfl rfl c40 ?_
      refine TrOps.sem (OpSem.fieldr rfl rfl fo46_0) rfl rfl (by decide) ?_
      refine TrOps.gT rfl rfl rfl rfl c40 ?_
      refine TrOps.sem (OpSem.loadb1 rfl rfl rfl vs3 rfl) rfl rfl (by decide) ?_
      refine TrOps.gT rfl rfl rfl rfl c40 ?_
      refine TrOps.sem (OpSem.bin rfl rfl rfl beql) rfl rfl (by decide) ?_
      refine TrOps.sem (OpSem.pickF rfl rfl c40 rfl) rfl rfl (by decide) ?_
      refine TrOps.sem (OpSem.move (.inr rfl) rfl) rfl rfl (by decide) ?_
      refine TrOps.nil ?_
      refine At.seq ?_
      refine Tr.ret ?_
      refine At.pass_ret ?_
      exact At.ret rfl (.tmp rfl <| .nil) rfl (Le.bo (by first | rfl | (rw [prdR_1 hne]; rfl) | (exfalso; simp [h0] at c40; done) | (rw [h0]; rfl) | (rw [hS.2.2.2.1]; simp; done) | simp))
  · have h0 : prdF a b = (0, 0) := prdF_code (by simpa using c32)
    refine TrOps.gT rfl rfl rfl rfl c32 ?_
    refine TrOps.sem (OpSem.fieldr rfl rfl fo29_0) rfl rfl (by decide) ?_
    refine TrOps.gT rfl rfl rfl rfl c32 ?_
    refine TrOps.sem (OpSem.loadb1 rfl rfl rfl vs3 rfl) rfl rfl (by decide) ?_
    refine TrOps.gT rfl rfl rfl rfl c32 ?_
    refine TrOps.sem (OpSem.bin rfl rfl rfl bneq) rfl rfl (by decide) ?_
    refine TrOps.sem (OpSem.pickF rfl rfl c32 rfl) rfl rfl (by decide) ?_
    refine TrOps.nil ?_
    refine At.seq ?_
    refine Tr.cond rfl (fun c36 => ?_) (fun c36 => ?_)
    · refine Tr.seq ?_
      refine Tr.region ?_
      refine TrOps.sem (OpSem.fieldr rfl rfl fo29_0) rfl rfl (by decide) ?_
      refine TrOps.sem (OpSem.loadb1 rfl rfl rfl vs3 rfl) rfl rfl (by decide) ?_
      refine TrOps.sem (OpSem.bin rfl rfl rfl beql) rfl rfl (by decide) ?_
      refine TrOps.sem (OpSem.move (.inl rfl) rfl) rfl rfl (by decide) ?_
      refine TrOps.split (n := 40) rfl (fun c40 => ?_) (fun c40 => ?_)
      · refine TrOps.gF rfl rfl rfl rfl c40 rfl (by decide) ?_
        refine TrOps.gF rfl rfl rfl rfl c40 rfl (by decide) ?_
        refine TrOps.gF rfl rfl rfl rfl c40 rfl (by decide) ?_
        refine TrOps.sem (OpSem.pickT rfl rfl c40 rfl) rfl rfl (by decide) ?_
        refine TrOps.sem (OpSem.move (.inr rfl) rfl) rfl rfl (by decide) ?_
        refine TrOps.nil ?_
        refine At.seq ?_
        refine Tr.ret ?_
        refine At.pass_ret ?_
        exact At.ret rfl (.tmp rfl <| .nil) rfl (Le.bo (by first | rfl | (rw [prdR_1 hne]; rfl) | (exfalso; simp [h0] at c40; done) | (rw [h0]; rfl) | (rw [hS.2.2.2.1]; simp; done) | simp))
      · refine TrOps.gT rfl rfl rfl rfl c40 ?_
        refine TrOps.sem (OpSem.fieldr rfl rfl fo46_0) rfl rfl (by decide) ?_
        refine TrOps.gT rfl rfl rfl rfl c40 ?_
        refine TrOps.sem (OpSem.loadb1 rfl rfl rfl vs3 rfl) rfl rfl (by decide) ?_
        refine TrOps.gT rfl rfl rfl rfl c40 ?_
        refine TrOps.sem (OpSem.bin rfl rfl rfl beql) rfl rfl (by decide) ?_
        refine TrOps.sem (OpSem.pickF rfl rfl c40 rfl) rfl rfl (by decide) ?_
        refine TrOps.sem (OpSem.move (.inr rfl) rfl) rfl rfl (by decide) ?_
        refine TrOps.nil ?_
        refine At.seq ?_
        refine Tr.ret ?_
        refine At.pass_ret ?_
        exact At.ret rfl (.tmp rfl <| .nil) rfl (Le.bo (by first | rfl | (rw [prdR_1 hne]; rfl) | (exfalso; simp [h0] at c40; done) | (rw [h0]; rfl) | (rw [hS.2.2.2.1]; simp; done) | simp))
    · have hd : adF (prdR a b) c = (0, 0) := (adF_ok (a := prdR a b) (c := c) (by simpa using c36)).2.2.1
      have hS := prd_sym h0 hd
      obtain ⟨z1, z2⟩ := hS.2.2.2.2.1
      obtain ⟨z3, z4⟩ := hS.2.2.2.2.2.1
      have hL1 := prd_len h0 hd
      have hL2 := prd_len hS.1 hS.2.1
      have w1 := hL1.1.st
      have w2 := hL2.1.st
      obtain ⟨_, _, w3, _⟩ := hL1.2.2.2
      obtain ⟨_, _, w4, _⟩ := hL2.2.2.2
      refine Tr.skip ?_
      refine At.seq ?_
      refine Tr.seq ?_
      refine Tr.region ?_
      refine TrOps.sem (OpSem.loadbN rfl rfl rfl vs46 (by first | decide | simp)) rfl rfl (by decide) ?_
      refine TrOps.sem (OpSem.loadbN rfl rfl rfl vs46 (by first | decide | simp)) rfl rfl (by decide) ?_
      refine TrOps.sem (OpSem.call0 (abstraction_Product_does b a hrb hra) rfl rfl rfl rfl (Les.refl _)) rfl rfl (by decide) ?_
      refine TrOps.sem (OpSem.move (.inl rfl) rfl) rfl rfl (by decide) ?_
      refine TrOps.sem (OpSem.extract rfl rfl rfl) rfl rfl (by decide) ?_
      refine TrOps.sem (OpSem.extract rfl rfl rfl) rfl rfl (by decide) ?_
      refine TrOps.semM (OpSem.alloc 11 rfl zc46 rfl) rfl rfl (by decide) ?_
      refine TrOps.semM (OpSem.alloc 12 rfl zc29 rfl) rfl rfl (by decide) ?_
      refine TrOps.storeb rfl rfl rfl rfl rfl rfl rfl vs46 (by first | decide | simp) ?_
      refine TrOps.storeb rfl rfl rfl rfl rfl rfl rfl vs29 (by first | decide | simp) ?_
      refine TrOps.nil ?_
      refine At.seq ?_
      refine Tr.seq ?_
      refine Tr.region ?_
      refine TrOps.sem (OpSem.loadbN rfl rfl rfl vs46 (by first | decide | simp)) rfl rfl (by decide) ?_
      refine TrOps.sem (OpSem.move (.inl rfl) rfl) rfl rfl (by decide) ?_
      refine TrOps.sem (OpSem.call0 (abstraction_Distances_does (prdR b a) c prdR_rng) rfl rfl rfl rfl (Les.refl _)) rfl rfl (by decide) ?_
      refine TrOps.sem (OpSem.move (.inl rfl) rfl) rfl rfl (by decide) ?_
      refine TrOps.sem (OpSem.extract rfl rfl rfl) rfl rfl (by decide) ?_
      refine TrOps.sem (OpSem.extract rfl rfl rfl) rfl rfl (by decide) ?_
      refine TrOps.semM (OpSem.alloc 14 rfl zc29 rfl) rfl rfl (by decide) ?_
      refine TrOps.sem (OpSem.move (.inr rfl) rfl) rfl rfl (by decide) ?_
      refine TrOps.storeb rfl rfl rfl rfl rfl rfl rfl vs29 (by first | decide | simp) ?_
      refine TrOps.nil ?_
      refine At.seq ?_
      refine Tr.seq ?_
      refine Tr.seq ?_
      refine Tr.region ?_
      refine TrOps.sem (OpSem.fieldr rfl rfl fo29_0) rfl rfl (by decide) ?_
      refine TrOps.sem (OpSem.loadb1 rfl rfl rfl vs3 rfl) rfl rfl (by decide) ?_
      refine TrOps.sem (OpSem.bin rfl rfl rfl bneq) rfl rfl (by decide) ?_
      refine TrOps.sem (OpSem.move (.inl rfl) rfl) rfl rfl (by decide) ?_
      refine TrOps.gT rfl rfl rfl rfl (by rw [hS.1]; rfl) ?_
      refine TrOps.sem (OpSem.fieldr rfl rfl fo29_0) rfl rfl (by decide) ?_
      refine TrOps.gT rfl rfl rfl rfl (by rw [hS.1]; rfl) ?_
      refine TrOps.sem (OpSem.loadb1 rfl rfl rfl vs3 rfl) rfl rfl (by decide) ?_
      refine TrOps.gT rfl rfl rfl rfl (by rw [hS.1]; rfl) ?_
      refine TrOps.sem (OpSem.bin rfl rfl rfl bneq) rfl rfl (by decide) ?_
      refine TrOps.sem (OpSem.pickF rfl rfl (by rw [hS.1]; rfl) rfl) rfl rfl (by decide) ?_
      refine TrOps.sem (OpSem.move (.inl rfl) rfl) rfl rfl (by decide) ?_
      refine TrOps.gT rfl rfl rfl rfl (by rw [hS.2.1]; rfl) ?_
      refine TrOps.sem (OpSem.fieldr rfl rfl fo46_3) rfl rfl (by decide) ?_
      refine TrOps.gT rfl rfl rfl rfl (by rw [hS.2.1]; rfl) ?_
      refine TrOps.sem (OpSem.loadb1 rfl rfl rfl vs3 rfl) rfl rfl (by decide) ?_
      refine TrOps.gT rfl rfl rfl rfl (by rw [hS.2.1]; rfl) ?_
      refine TrOps.sem (OpSem.move (.inl rfl) rfl) rfl rfl (by decide) ?_
      refine TrOps.gT rfl rfl rfl rfl (by rw [hS.2.1]; rfl) ?_
      refine TrOps.sem (OpSem.lenL rfl rfl es22) rfl rfl (by decide) ?_
      refine TrOps.gT rfl rfl rfl rfl (by rw [hS.2.1]; rfl) ?_
      refine TrOps.sem (OpSem.bin rfl rfl rfl (bsub (by omega) (by omega))) rfl rfl (by decide) ?_
      refine TrOps.gT rfl rfl rfl rfl (by rw [hS.2.1]; rfl) ?_
      refine TrOps.sem (OpSem.call0 (R_In_does ..) rfl rfl rfl rfl (Les.refl _)) rfl rfl (by decide) ?_
      refine TrOps.gT rfl rfl rfl rfl (by rw [hS.2.1]; rfl) ?_
      refine TrOps.sem (OpSem.not rfl rfl) rfl rfl (by decide) ?_
      refine TrOps.sem (OpSem.pickF rfl rfl (by rw [hS.2.1]; rfl) rfl) rfl rfl (by decide) ?_
      refine TrOps.sem (OpSem.move (.inl rfl) rfl) rfl rfl (by decide) ?_
      refine TrOps.gT rfl rfl rfl rfl (by simp; omega) ?_
      refine TrOps.sem (OpSem.fieldr rfl rfl fo46_3) rfl rfl (by decide) ?_
      refine TrOps.gT rfl rfl rfl rfl (by simp; omega) ?_
      refine TrOps.sem (OpSem.loadb1 rfl rfl rfl vs3 rfl) rfl rfl (by decide) ?_
      refine TrOps.gT rfl rfl rfl rfl (by simp; omega) ?_
      refine TrOps.sem (OpSem.move (.inl rfl) rfl) rfl rfl (by decide) ?_
      refine TrOps.gT rfl rfl rfl rfl (by simp; omega) ?_
      refine TrOps.sem (OpSem.lenL rfl rfl es22) rfl rfl (by decide) ?_
      refine TrOps.gT rfl rfl rfl rfl (by simp; omega) ?_
      refine TrOps.sem (OpSem.bin rfl rfl rfl (bsub (by omega) (by omega))) rfl rfl (by decide) ?_
      refine TrOps.gT rfl rfl rfl rfl (by simp; omega) ?_
      refine TrOps.sem (OpSem.call0 (R_In_does ..) rfl rfl rfl rfl (Les.refl _)) rfl rfl (by decide) ?_
      refine TrOps.gT rfl rfl rfl rfl (by simp; omega) ?_
      refine TrOps.sem (OpSem.not rfl rfl) rfl rfl (by decide) ?_
      refine TrOps.sem (OpSem.pickF rfl rfl (by simp; omega) rfl) rfl rfl (by decide) ?_
      refine TrOps.nil ?_
      refine At.seq ?_
      refine Tr.condF rfl (by simp; omega) ?_
      refine Tr.skip ?_
      refine At.seq ?_
      refine Tr.seq ?_
      refine PC.start [] ?_
      refine PC.sem (OpSem.move (.inl rfl) rfl) rfl rfl ?_
      refine PC.sem (OpSem.fieldr rfl rfl fo46_3) rfl rfl ?_
      refine PC.sem (OpSem.loadb1 rfl rfl rfl vs3 rfl) rfl rfl ?_
      refine PC.sem (OpSem.idxL rfl rfl rfl es22 (by omega) (by omega)) rfl rfl ?_
      refine PC.sem (OpSem.load1 rfl rfl vs3 rfl) rfl rfl ?_
      refine PC.sem (OpSem.move (.inl rfl) rfl) rfl rfl ?_
      refine PC.sem (OpSem.fieldr rfl rfl fo46_3) rfl rfl ?_
      refine PC.sem (OpSem.loadb1 rfl rfl rfl vs3 rfl) rfl rfl ?_
      refine PC.sem (OpSem.idxL rfl rfl rfl es22 (by omega) (by omega)) rfl rfl ?_
      refine PC.sem (OpSem.load1 rfl rfl vs3 rfl) rfl rfl ?_
      refine PC.sem (OpSem.bin rfl rfl rfl beql) rfl rfl ?_
      refine PC.sem (OpSem.move (.inl rfl) rfl) rfl rfl ?_
      refine PC.gT (OpSem.fieldr rfl rfl fo46_2) rfl rfl rfl rfl (by rw [hS.2.2.2.2.2.2]; simp) rfl ?_
      refine PC.gT (OpSem.loadb1 rfl rfl rfl vs44 rfl) rfl rfl rfl rfl (by rw [hS.2.2.2.2.2.2]; simp) rfl ?_
      refine PC.gT (OpSem.lenL rfl rfl es44) rfl rfl rfl rfl (by rw [hS.2.2.2.2.2.2]; simp) rfl ?_
      refine PC.gT (OpSem.fieldr rfl rfl fo46_2) rfl rfl rfl rfl (by rw [hS.2.2.2.2.2.2]; simp) rfl ?_
      refine PC.gT (OpSem.loadb1 rfl rfl rfl vs44 rfl) rfl rfl rfl rfl (by rw [hS.2.2.2.2.2.2]; simp) rfl ?_
      refine PC.gT (OpSem.lenL rfl rfl es44) rfl rfl rfl rfl (by rw [hS.2.2.2.2.2.2]; simp) rfl ?_
      refine PC.gT (OpSem.bin rfl rfl rfl beql) rfl rfl rfl rfl (by rw [hS.2.2.2.2.2.2]; simp) rfl ?_
      refine PC.sem (OpSem.pickT rfl rfl (by rw [hS.2.2.2.2.2.2]; simp) rfl) rfl rfl ?_
      refine PC.sem (OpSem.move (.inl rfl) rfl) rfl rfl ?_
      refine PC.gT (OpSem.fieldr rfl rfl fo46_4) rfl rfl rfl rfl (by rw [hS.2.2.1]; simp) rfl ?_
      refine PC.gT (OpSem.loadb1 rfl rfl rfl vs22 rfl) rfl rfl rfl rfl (by rw [hS.2.2.1]; simp) rfl ?_
      refine PC.gT (OpSem.lenL rfl rfl es22) rfl rfl rfl rfl (by rw [hS.2.2.1]; simp) rfl ?_
      refine PC.gT (OpSem.fieldr rfl rfl fo46_4) rfl rfl rfl rfl (by rw [hS.2.2.1]; simp) rfl ?_
      refine PC.gT (OpSem.loadb1 rfl rfl rfl vs22 rfl) rfl rfl rfl rfl (by rw [hS.2.2.1]; simp) rfl ?_
      refine PC.gT (OpSem.lenL rfl rfl es22) rfl rfl rfl rfl (by rw [hS.2.2.1]; simp) rfl ?_
      refine PC.done0 mixed (by kernel_rfl) (by kernel_rfl) (by kernel_rfl) (by kernel_rfl) (by kernel_rfl) ?_
      refine TrOps.gT rfl rfl rfl rfl (by rw [hS.2.2.1]; simp) ?_
      refine TrOps.sem (OpSem.bin rfl rfl rfl beql) rfl rfl (by decide) ?_
      refine TrOps.sem (OpSem.pickT rfl rfl (by rw [hS.2.2.1]; simp) rfl) rfl rfl (by decide) ?_
      refine TrOps.sem (OpSem.move (.inr rfl) rfl) rfl rfl (by decide) ?_
      refine TrOps.nil ?_
      refine At.seq ?_
      refine Tr.ret ?_
      exact At.ret rfl (.tmp rfl <| .nil) rfl (Le.bo (by first | rfl | (rw [prdR_1 hne]; rfl) | (exfalso; simp [h0] at c40; done) | (rw [h0]; rfl) | (rw [hS.2.2.2.1]; simp; done) | simp))

theorem law_LabelsReductionExact_does (a b : Abs) (c : List Int) (ex : Int) (hra : -9223372036854775808 ≤ a.states ∧ a.states ≤ 9223372036854775807) (hrb : -9223372036854775808 ≤ b.states ∧ b.states ≤ 9223372036854775807) : Does Try.prog false 14 [absS a, absS b, .d (ints c), I (ex)] (Bo true) := by
  refine Does.of_body Try.func14 rfl rfl (by simp) Try.call14 (fun w0 O0 => ?_)
  refine Tr.lenG (n := 0) (i := 2) rfl rfl (fun len0_2 => ?_)
  refine Tr.lenG (n := 0) (i := 4) rfl rfl (fun len0_4 => ?_)
  refine Tr.lenG (n := 1) (i := 2) rfl rfl (fun len1_2 => ?_)
  refine Tr.lenG (n := 1) (i := 4) rfl rfl (fun len1_4 => ?_)
  refine Tr.lenLe (n := 2) rfl (fun len2 => ?_)
  refine Tr.seq ?_
  refine Tr.region ?_
  refine TrOps.semM (OpSem.box 4 rfl rfl rfl rfl) rfl rfl (by decide) ?_
  refine TrOps.semM (OpSem.box 5 rfl rfl rfl rfl) rfl rfl (by decide) ?_
  refine TrOps.sem (OpSem.move (.inr rfl) rfl) rfl rfl (by decide) ?_
  refine TrOps.nil ?_
  refine At.seq ?_
  refine Tr.seq ?_
  refine Tr.seq ?_
  refine Tr.region ?_
  refine TrOps.sem (OpSem.call0 (law_labelsExample_does) rfl rfl rfl rfl (Les.refl _)) rfl rfl (by decide) ?_
  refine TrOps.sem (OpSem.not rfl rfl) rfl rfl (by decide) ?_
  refine TrOps.nil ?_
  refine At.seq ?_
  refine Tr.condF rfl rfl ?_
  refine Tr.skip ?_
  refine At.seq ?_
  refine Tr.seq ?_
  refine Tr.region ?_
  refine TrOps.sem (OpSem.loadbN rfl rfl rfl vs46 (by first | decide | simp)) rfl rfl (by decide) ?_
  refine TrOps.sem (OpSem.loadbN rfl rfl rfl vs46 (by first | decide | simp)) rfl rfl (by decide) ?_
  refine TrOps.sem (OpSem.call0 (abstraction_Product_does a b hra hrb) rfl rfl rfl rfl (Les.refl _)) rfl rfl (by decide) ?_
  refine TrOps.sem (OpSem.move (.inl rfl) rfl) rfl rfl (by decide) ?_
  refine TrOps.sem (OpSem.extract rfl rfl rfl) rfl rfl (by decide) ?_
  refine TrOps.sem (OpSem.extract rfl rfl rfl) rfl rfl (by decide) ?_
  refine TrOps.semM (OpSem.alloc 9 rfl zc46 rfl) rfl rfl (by decide) ?_
  refine TrOps.semM (OpSem.alloc 10 rfl zc29 rfl) rfl rfl (by decide) ?_
  refine TrOps.storeb rfl rfl rfl rfl rfl rfl rfl vs46 (by first | decide | simp) ?_
  refine TrOps.storeb rfl rfl rfl rfl rfl rfl rfl vs29 (by first | decide | simp) ?_
  refine TrOps.nil ?_
  refine At.seq ?_
  refine Tr.seq ?_
  refine Tr.region ?_
  refine TrOps.sem (OpSem.loadbN rfl rfl rfl vs46 (by first | decide | simp)) rfl rfl (by decide) ?_
  refine TrOps.sem (OpSem.move (.inl rfl) rfl) rfl rfl (by decide) ?_
  refine TrOps.sem (OpSem.call0 (abstraction_Distances_does (prdR a b) c prdR_rng) rfl rfl rfl rfl (Les.refl _)) rfl rfl (by decide) ?_
  refine TrOps.sem (OpSem.move (.inl rfl) rfl) rfl rfl (by decide) ?_
  refine TrOps.sem (OpSem.extract rfl rfl rfl) rfl rfl (by decide) ?_
  refine TrOps.sem (OpSem.extract rfl rfl rfl) rfl rfl (by decide) ?_
  refine TrOps.semM (OpSem.alloc 12 rfl zc29 rfl) rfl rfl (by decide) ?_
  refine TrOps.sem (OpSem.move (.inr rfl) rfl) rfl rfl (by decide) ?_
  refine TrOps.storeb rfl rfl rfl rfl rfl rfl rfl vs29 (by first | decide | simp) ?_
  refine TrOps.nil ?_
  refine At.seq ?_
  refine Tr.seq ?_
  refine Tr.region ?_
  refine TrOps.sem (OpSem.loadbN rfl rfl rfl vs46 (by first | decide | simp)) rfl rfl (by decide) ?_
  refine TrOps.sem (OpSem.loadbN rfl rfl rfl vs46 (by first | decide | simp)) rfl rfl (by decide) ?_
  refine TrOps.sem (OpSem.le (s' := .d (abssD [a, b])) (OpSem.buildSlice rfl rfl es34 ze34 rfl rfl (by decide) (by decide) rfl rfl) (Le.of_eq rfl)) rfl rfl (by decide) ?_
  refine TrOps.sem (OpSem.move (.inl rfl) rfl) rfl rfl (by decide) ?_
  refine TrOps.sem (OpSem.move (.inl rfl) rfl) rfl rfl (by decide) ?_
  refine TrOps.sem (OpSem.call0 (labels_Reduce_does [a, b] c ex (fun k hk => by rcases k with _ | _ | k <;> first | exact hra | exact hrb | (simp at hk; omega))) rfl rfl rfl rfl (Les.refl _)) rfl rfl (by decide) ?_
  refine TrOps.sem (OpSem.move (.inl rfl) rfl) rfl rfl (by decide) ?_
  refine TrOps.sem (OpSem.extract rfl rfl rfl) rfl rfl (by decide) ?_
  refine TrOps.sem (OpSem.extract rfl rfl rfl) rfl rfl (by decide) ?_
  refine TrOps.semM (OpSem.alloc 14 rfl zc29 rfl) rfl rfl (by decide) ?_
  refine TrOps.sem (OpSem.move (.inr rfl) rfl) rfl rfl (by decide) ?_
  refine TrOps.storeb rfl rfl rfl rfl rfl rfl rfl vs29 (by first | decide | simp) ?_
  refine TrOps.nil ?_
  refine At.seq ?_
  refine Tr.seq ?_
  refine Tr.seq ?_
  refine Tr.region ?_
  refine TrOps.sem (OpSem.fieldr rfl rfl fo29_0) rfl rfl (by decide) ?_
  refine TrOps.sem (OpSem.loadb1 rfl rfl rfl vs3 rfl) rfl rfl (by decide) ?_
  refine TrOps.sem (OpSem.bin rfl rfl rfl bneq) rfl rfl (by decide) ?_
  refine TrOps.sem (OpSem.move (.inl rfl) rfl) rfl rfl (by decide) ?_
  refine TrOps.split (n := 49) rfl (fun c49 => ?_) (fun c49 => ?_)
  · have hne : prdF a b ≠ (0, 0) := fun h => by simp [h] at c49
    refine TrOps.gF rfl rfl rfl rfl c49 rfl (by decide) ?_
    refine TrOps.gF rfl rfl rfl rfl c49 rfl (by decide) ?_
    refine TrOps.gF rfl rfl rfl rfl c49 rfl (by decide) ?_
    refine TrOps.sem (OpSem.pickT rfl rfl c49 rfl) rfl rfl (by decide) ?_
    refine TrOps.sem (OpSem.move (.inl rfl) rfl) rfl rfl (by decide) ?_
    refine TrOps.gF rfl rfl rfl rfl rfl rfl (by decide) ?_
    refine TrOps.gF rfl rfl rfl rfl rfl rfl (by decide) ?_
    refine TrOps.gF rfl rfl rfl rfl rfl rfl (by decide) ?_
    refine TrOps.sem (OpSem.pickT rfl rfl rfl rfl) rfl rfl (by decide) ?_
    refine TrOps.nil ?_
    refine At.seq ?_
    refine Tr.condT rfl rfl ?_
    refine Tr.seq ?_
    refine Tr.region ?_
    refine TrOps.sem (OpSem.fieldr rfl rfl fo29_0) rfl rfl (by decide) ?_
    refine TrOps.sem (OpSem.loadb1 rfl rfl rfl vs3 rfl) rfl rfl (by decide) ?_
    refine TrOps.sem (OpSem.bin rfl rfl rfl beql) rfl rfl (by decide) ?_
    refine TrOps.sem (OpSem.move (.inl rfl) rfl) rfl rfl (by decide) ?_
    refine TrOps.split (n := 62) rfl (fun c62 => ?_) (fun c62 => ?_)
    · refine TrOps.gF rfl rfl rfl rfl c62 rfl (by decide) ?_
      refine TrOps.gF rfl rfl rfl rfl c62 rfl (by decide) ?_
      refine TrOps.gF rfl rfl rfl rfl c62 rfl (by decide) ?_
      refine TrOps.sem (OpSem.pickT rfl rfl c62 rfl) rfl rfl (by decide) ?_
      refine TrOps.sem (OpSem.move (.inr rfl) rfl) rfl rfl (by decide) ?_
      refine TrOps.nil ?_
      refine At.seq ?_
      refine Tr.ret ?_
      refine At.pass_ret ?_
      exact At.ret rfl (.tmp rfl <| .nil) rfl (Le.bo (by first | rfl | (rw [prdR_1 hne]; rfl) | (exfalso; simp [h0] at c62; done) | (rw [h0]; rfl) | (rw [hX.2.2]; simp; done) | simp))
    · refine TrOps.gT rfl rfl rfl rfl c62 ?_
      refine TrOps.sem (OpSem.fieldr rfl rfl fo46_0) rfl rfl (by decide) ?_
      refine TrOps.gT rfl rfl rfl rfl c62 ?_
      refine TrOps.sem (OpSem.loadb1 rfl rfl rfl vs3 rfl) rfl rfl (by decide) ?_
      refine TrOps.gT rfl rfl rfl rfl c62 ?_
      refine TrOps.sem (OpSem.bin rfl rfl rfl beql) rfl rfl (by decide) ?_
      refine TrOps.sem (OpSem.pickF rfl rfl c62 rfl) rfl rfl (by decide) ?_
      refine TrOps.sem (OpSem.move (.inr rfl) rfl) rfl rfl (by decide) ?_
      refine TrOps.nil ?_
      refine At.seq ?_
      refine Tr.ret ?_
      refine At.pass_ret ?_
      exact At.ret rfl (.tmp rfl <| .nil) rfl (Le.bo (by first | rfl | (rw [prdR_1 hne]; rfl) | (exfalso; simp [h0] at c62; done) | (rw [h0]; rfl) | (rw [hX.2.2]; simp; done) | simp))
  · have h0 : prdF a b = (0, 0) := prdF_code (by simpa using c49)
    refine TrOps.gT rfl rfl rfl rfl c49 ?_
    refine TrOps.sem (OpSem.fieldr rfl rfl fo29_0) rfl rfl (by decide) ?_
    refine TrOps.gT rfl rfl rfl rfl c49 ?_
    refine TrOps.sem (OpSem.loadb1 rfl rfl rfl vs3 rfl) rfl rfl (by decide) ?_
    refine TrOps.gT rfl rfl rfl rfl c49 ?_
    refine TrOps.sem (OpSem.bin rfl rfl rfl bneq) rfl rfl (by decide) ?_
    refine TrOps.sem (OpSem.pickF rfl rfl c49 rfl) rfl rfl (by decide) ?_
    refine TrOps.sem (OpSem.move (.inl rfl) rfl) rfl rfl (by decide) ?_
    refine TrOps.split (n := 54) rfl (fun c54 => ?_) (fun c54 => ?_)
    · refine TrOps.gF rfl rfl rfl rfl c54 rfl (by decide) ?_
      refine TrOps.gF rfl rfl rfl rfl c54 rfl (by decide) ?_
      refine TrOps.gF rfl rfl rfl rfl c54 rfl (by decide) ?_
      refine TrOps.sem (OpSem.pickT rfl rfl c54 rfl) rfl rfl (by decide) ?_
      refine TrOps.nil ?_
      refine At.seq ?_
      refine Tr.condT rfl rfl ?_
      refine Tr.seq ?_
      refine Tr.region ?_
      refine TrOps.sem (OpSem.fieldr rfl rfl fo29_0) rfl rfl (by decide) ?_
      refine TrOps.sem (OpSem.loadb1 rfl rfl rfl vs3 rfl) rfl rfl (by decide) ?_
      refine TrOps.sem (OpSem.bin rfl rfl rfl beql) rfl rfl (by decide) ?_
      refine TrOps.sem (OpSem.move (.inl rfl) rfl) rfl rfl (by decide) ?_
      refine TrOps.split (n := 62) rfl (fun c62 => ?_) (fun c62 => ?_)
      · refine TrOps.gF rfl rfl rfl rfl c62 rfl (by decide) ?_
        refine TrOps.gF rfl rfl rfl rfl c62 rfl (by decide) ?_
        refine TrOps.gF rfl rfl rfl rfl c62 rfl (by decide) ?_
        refine TrOps.sem (OpSem.pickT rfl rfl c62 rfl) rfl rfl (by decide) ?_
        refine TrOps.sem (OpSem.move (.inr rfl) rfl) rfl rfl (by decide) ?_
        refine TrOps.nil ?_
        refine At.seq ?_
        refine Tr.ret ?_
        refine At.pass_ret ?_
        exact At.ret rfl (.tmp rfl <| .nil) rfl (Le.bo (by first | rfl | (rw [prdR_1 hne]; rfl) | (exfalso; simp [h0] at c62; done) | (rw [h0]; rfl) | (rw [hX.2.2]; simp; done) | simp))
      · refine TrOps.gT rfl rfl rfl rfl c62 ?_
        refine TrOps.sem (OpSem.fieldr rfl rfl fo46_0) rfl rfl (by decide) ?_
        refine TrOps.gT rfl rfl rfl rfl c62 ?_
        refine TrOps.sem (OpSem.loadb1 rfl rfl rfl vs3 rfl) rfl rfl (by decide) ?_
        refine TrOps.gT rfl rfl rfl rfl c62 ?_
        refine TrOps.sem (OpSem.bin rfl rfl rfl beql) rfl rfl (by decide) ?_
        refine TrOps.sem (OpSem.pickF rfl rfl c62 rfl) rfl rfl (by decide) ?_
        refine TrOps.sem (OpSem.move (.inr rfl) rfl) rfl rfl (by decide) ?_
        refine TrOps.nil ?_
        refine At.seq ?_
        refine Tr.ret ?_
        refine At.pass_ret ?_
        exact At.ret rfl (.tmp rfl <| .nil) rfl (Le.bo (by first | rfl | (rw [prdR_1 hne]; rfl) | (exfalso; simp [h0] at c62; done) | (rw [h0]; rfl) | (rw [hX.2.2]; simp; done) | simp))
    · have hd : adF (prdR a b) c = (0, 0) := (adF_ok (a := prdR a b) (c := c) (by simpa using c54)).2.2.1
      refine TrOps.gT rfl rfl rfl rfl c54 ?_
      refine TrOps.sem (OpSem.fieldr rfl rfl fo29_0) rfl rfl (by decide) ?_
      refine TrOps.gT rfl rfl rfl rfl c54 ?_
      refine TrOps.sem (OpSem.loadb1 rfl rfl rfl vs3 rfl) rfl rfl (by decide) ?_
      refine TrOps.gT rfl rfl rfl rfl c54 ?_
      refine TrOps.sem (OpSem.bin rfl rfl rfl bneq) rfl rfl (by decide) ?_
      refine TrOps.sem (OpSem.pickF rfl rfl c54 rfl) rfl rfl (by decide) ?_
      refine TrOps.nil ?_
      refine At.seq ?_
      refine Tr.cond rfl (fun c58 => ?_) (fun c58 => ?_)
      · refine Tr.seq ?_
        refine Tr.region ?_
        refine TrOps.sem (OpSem.fieldr rfl rfl fo29_0) rfl rfl (by decide) ?_
        refine TrOps.sem (OpSem.loadb1 rfl rfl rfl vs3 rfl) rfl rfl (by decide) ?_
        refine TrOps.sem (OpSem.bin rfl rfl rfl beql) rfl rfl (by decide) ?_
        refine TrOps.sem (OpSem.move (.inl rfl) rfl) rfl rfl (by decide) ?_
        refine TrOps.split (n := 62) rfl (fun c62 => ?_) (fun c62 => ?_)
        · refine TrOps.gF rfl rfl rfl rfl c62 rfl (by decide) ?_
          refine TrOps.gF rfl rfl rfl rfl c62 rfl (by decide) ?_
          refine TrOps.gF rfl rfl rfl rfl c62 rfl (by decide) ?_
          refine TrOps.sem (OpSem.pickT rfl rfl c62 rfl) rfl rfl (by decide) ?_
          refine TrOps.sem (OpSem.move (.inr rfl) rfl) rfl rfl (by decide) ?_
          refine TrOps.nil ?_
          refine At.seq ?_
          refine Tr.ret ?_
          refine At.pass_ret ?_
          exact At.ret rfl (.tmp rfl <| .nil) rfl (Le.bo (by first | rfl | (rw [prdR_1 hne]; rfl) | (exfalso; simp [h0] at c62; done) | (rw [h0]; rfl) | (rw [hX.2.2]; simp; done) | simp))
        · refine TrOps.gT rfl rfl rfl rfl c62 ?_
          refine TrOps.sem (OpSem.fieldr rfl rfl fo46_0) rfl rfl (by decide) ?_
          refine TrOps.gT rfl rfl rfl rfl c62 ?_
          refine TrOps.sem (OpSem.loadb1 rfl rfl rfl vs3 rfl) rfl rfl (by decide) ?_
          refine TrOps.gT rfl rfl rfl rfl c62 ?_
          refine TrOps.sem (OpSem.bin rfl rfl rfl beql) rfl rfl (by decide) ?_
          refine TrOps.sem (OpSem.pickF rfl rfl c62 rfl) rfl rfl (by decide) ?_
          refine TrOps.sem (OpSem.move (.inr rfl) rfl) rfl rfl (by decide) ?_
          refine TrOps.nil ?_
          refine At.seq ?_
          refine Tr.ret ?_
          refine At.pass_ret ?_
          exact At.ret rfl (.tmp rfl <| .nil) rfl (Le.bo (by first | rfl | (rw [prdR_1 hne]; rfl) | (exfalso; simp [h0] at c62; done) | (rw [h0]; rfl) | (rw [hX.2.2]; simp; done) | simp))
      · have hr0 : redF [a, b] c ex = (0, 0) := redF_code (by simpa using c58)
        have hE := red_exact h0 hd hr0
        refine Tr.skip ?_
        refine At.seq ?_
        refine Tr.seq ?_
        refine Tr.region ?_
        refine TrOps.sem (OpSem.loadbN rfl rfl rfl vs46 (by first | decide | simp)) rfl rfl (by decide) ?_
        refine TrOps.sem (OpSem.move (.inl rfl) rfl) rfl rfl (by decide) ?_
        refine TrOps.sem (OpSem.call0 (labels_Apply_does a (redL [a, b] c ex) hra) rfl rfl rfl rfl (Les.refl _)) rfl rfl (by decide) ?_
        refine TrOps.sem (OpSem.move (.inl rfl) rfl) rfl rfl (by decide) ?_
        refine TrOps.sem (OpSem.extract rfl rfl rfl) rfl rfl (by decide) ?_
        refine TrOps.sem (OpSem.extract rfl rfl rfl) rfl rfl (by decide) ?_
        refine TrOps.semM (OpSem.alloc 15 rfl zc46 rfl) rfl rfl (by decide) ?_
        refine TrOps.semM (OpSem.alloc 16 rfl zc29 rfl) rfl rfl (by decide) ?_
        refine TrOps.storeb rfl rfl rfl rfl rfl rfl rfl vs46 (by first | decide | simp) ?_
        refine TrOps.storeb rfl rfl rfl rfl rfl rfl rfl vs29 (by first | decide | simp) ?_
        refine TrOps.nil ?_
        refine At.seq ?_
        refine Tr.seq ?_
        refine Tr.region ?_
        refine TrOps.sem (OpSem.loadbN rfl rfl rfl vs46 (by first | decide | simp)) rfl rfl (by decide) ?_
        refine TrOps.sem (OpSem.move (.inl rfl) rfl) rfl rfl (by decide) ?_
        refine TrOps.sem (OpSem.call0 (labels_Apply_does b (redL [a, b] c ex) hrb) rfl rfl rfl rfl (Les.refl _)) rfl rfl (by decide) ?_
        refine TrOps.sem (OpSem.move (.inl rfl) rfl) rfl rfl (by decide) ?_
        refine TrOps.sem (OpSem.extract rfl rfl rfl) rfl rfl (by decide) ?_
        refine TrOps.sem (OpSem.extract rfl rfl rfl) rfl rfl (by decide) ?_
        refine TrOps.semM (OpSem.alloc 17 rfl zc46 rfl) rfl rfl (by decide) ?_
        refine TrOps.semM (OpSem.alloc 18 rfl zc29 rfl) rfl rfl (by decide) ?_
        refine TrOps.storeb rfl rfl rfl rfl rfl rfl rfl vs46 (by first | decide | simp) ?_
        refine TrOps.storeb rfl rfl rfl rfl rfl rfl rfl vs29 (by first | decide | simp) ?_
        refine TrOps.nil ?_
        refine At.seq ?_
        refine Tr.seq ?_
        refine Tr.region ?_
        refine TrOps.sem (OpSem.loadbN rfl rfl rfl vs46 (by first | decide | simp)) rfl rfl (by decide) ?_
        refine TrOps.sem (OpSem.loadbN rfl rfl rfl vs46 (by first | decide | simp)) rfl rfl (by decide) ?_
        refine TrOps.sem (OpSem.call0 (abstraction_Product_does (aplR a (redL [a, b] c ex)) (aplR b (redL [a, b] c ex)) (aplR_rng hra) (aplR_rng hrb)) rfl rfl rfl rfl (Les.refl _)) rfl rfl (by decide) ?_
        refine TrOps.sem (OpSem.move (.inl rfl) rfl) rfl rfl (by decide) ?_
        refine TrOps.sem (OpSem.extract rfl rfl rfl) rfl rfl (by decide) ?_
        refine TrOps.sem (OpSem.extract rfl rfl rfl) rfl rfl (by decide) ?_
        refine TrOps.semM (OpSem.alloc 19 rfl zc46 rfl) rfl rfl (by decide) ?_
        refine TrOps.semM (OpSem.alloc 20 rfl zc29 rfl) rfl rfl (by decide) ?_
        refine TrOps.storeb rfl rfl rfl rfl rfl rfl rfl vs46 (by first | decide | simp) ?_
        refine TrOps.storeb rfl rfl rfl rfl rfl rfl rfl vs29 (by first | decide | simp) ?_
        refine TrOps.nil ?_
        refine At.seq ?_
        refine Tr.seq ?_
        refine Tr.seq ?_
        refine Tr.region ?_
        refine TrOps.sem (OpSem.fieldr rfl rfl fo29_0) rfl rfl (by decide) ?_
        refine TrOps.sem (OpSem.loadb1 rfl rfl rfl vs3 rfl) rfl rfl (by decide) ?_
        refine TrOps.sem (OpSem.bin rfl rfl rfl beql) rfl rfl (by decide) ?_
        refine TrOps.nil ?_
        refine At.seq ?_
        refine Tr.cond rfl (fun c87 => ?_) (fun c87 => ?_)
        · refine Tr.seq ?_
          refine Tr.region ?_
          refine TrOps.sem (OpSem.move (.inr rfl) rfl) rfl rfl (by decide) ?_
          refine TrOps.nil ?_
          refine At.seq ?_
          refine Tr.ret ?_
          refine At.pass_ret ?_
          exact At.ret rfl (.tmp rfl <| .nil) rfl (Le.bo (by first | rfl | (rw [prdR_1 hne]; rfl) | (exfalso; simp [h0] at c62; done) | (rw [h0]; rfl) | (rw [hX.2.2]; simp; done) | simp))
        · have hX := hE.2.2 (by simpa using c87)
          refine Tr.skip ?_
          refine At.seq ?_
          refine Tr.seq ?_
          refine Tr.region ?_
          refine TrOps.sem (OpSem.loadbN rfl rfl rfl vs46 (by first | decide | simp)) rfl rfl (by decide) ?_
          refine TrOps.sem (OpSem.move (.inl rfl) rfl) rfl rfl (by decide) ?_
          refine TrOps.sem (OpSem.call0 (abstraction_Distances_does (prdR (aplR a (redL [a, b] c ex)) (aplR b (redL [a, b] c ex))) c prdR_rng) rfl rfl rfl rfl (Les.refl _)) rfl rfl (by decide) ?_
          refine TrOps.sem (OpSem.move (.inl rfl) rfl) rfl rfl (by decide) ?_
          refine TrOps.sem (OpSem.extract rfl rfl rfl) rfl rfl (by decide) ?_
          refine TrOps.sem (OpSem.extract rfl rfl rfl) rfl rfl (by decide) ?_
          refine TrOps.semM (OpSem.alloc 22 rfl zc29 rfl) rfl rfl (by decide) ?_
          refine TrOps.sem (OpSem.move (.inr rfl) rfl) rfl rfl (by decide) ?_
          refine TrOps.storeb rfl rfl rfl rfl rfl rfl rfl vs29 (by first | decide | simp) ?_
          refine TrOps.nil ?_
          refine At.seq ?_
          refine Tr.seq ?_
          refine Tr.region ?_
          refine TrOps.sem (OpSem.fieldr rfl rfl fo29_0) rfl rfl (by decide) ?_
          refine TrOps.sem (OpSem.loadb1 rfl rfl rfl vs3 rfl) rfl rfl (by decide) ?_
          refine TrOps.sem (OpSem.fieldr rfl rfl fo29_0) rfl rfl (by decide) ?_
          refine TrOps.sem (OpSem.loadb1 rfl rfl rfl vs3 rfl) rfl rfl (by decide) ?_
          refine TrOps.sem (OpSem.bin rfl rfl rfl (badd (by rw [hE.1, hE.2.1]; decide) (by rw [hE.1, hE.2.1]; decide))) rfl rfl (by decide) ?_
          refine TrOps.sem (OpSem.fieldr rfl rfl fo29_0) rfl rfl (by decide) ?_
          refine TrOps.sem (OpSem.loadb1 rfl rfl rfl vs3 rfl) rfl rfl (by decide) ?_
          refine TrOps.sem (OpSem.bin rfl rfl rfl (badd (by rw [hE.1, hE.2.1, hX.1]; decide) (by rw [hE.1, hE.2.1, hX.1]; decide))) rfl rfl (by decide) ?_
          refine TrOps.sem (OpSem.fieldr rfl rfl fo29_0) rfl rfl (by decide) ?_
          refine TrOps.sem (OpSem.loadb1 rfl rfl rfl vs3 rfl) rfl rfl (by decide) ?_
          refine TrOps.sem (OpSem.bin rfl rfl rfl (badd (by rw [hE.1, hE.2.1, hX.1, hX.2.1]; decide) (by rw [hE.1, hE.2.1, hX.1, hX.2.1]; decide))) rfl rfl (by decide) ?_
          refine TrOps.sem (OpSem.bin rfl rfl rfl beql) rfl rfl (by decide) ?_
          refine TrOps.sem (OpSem.move (.inl rfl) rfl) rfl rfl (by decide) ?_
          refine TrOps.gT rfl rfl rfl rfl (by rw [hE.1, hE.2.1, hX.1, hX.2.1]; rfl) ?_
          refine TrOps.sem (OpSem.move (.inl rfl) rfl) rfl rfl (by decide) ?_
          refine TrOps.gT rfl rfl rfl rfl (by rw [hE.1, hE.2.1, hX.1, hX.2.1]; rfl) ?_
          refine TrOps.sem (OpSem.move (.inl rfl) rfl) rfl rfl (by decide) ?_
          refine TrOps.gT rfl rfl rfl rfl (by rw [hE.1, hE.2.1, hX.1, hX.2.1]; rfl) ?_
          refine TrOps.sem (OpSem.call0 (R_Ints_does (adR (prdR a b) c) (adR (prdR (aplR a (redL [a, b] c ex)) (aplR b (redL [a, b] c ex))) c)) rfl rfl rfl rfl (Les.refl _)) rfl rfl (by decide) ?_
          refine TrOps.sem (OpSem.pickT rfl rfl (by rw [hE.1, hE.2.1, hX.1, hX.2.1]; rfl) rfl) rfl rfl (by decide) ?_
          refine TrOps.sem (OpSem.move (.inr rfl) rfl) rfl rfl (by decide) ?_
          refine TrOps.nil ?_
          refine At.seq ?_
          refine Tr.ret ?_
          exact At.ret rfl (.tmp rfl <| .nil) rfl (Le.bo (by first | rfl | (rw [prdR_1 hne]; rfl) | (exfalso; simp [h0] at c62; done) | (rw [h0]; rfl) | (rw [hX.2.2]; simp; done) | simp))

theorem law_AbstractionProductIsTask_does (m : Multi) : Does Try.prog false 12 [multi m] (Bo true) := by
  refine Does.of_body Try.func12 rfl rfl (by simp) Try.call12 (fun w0 O0 => ?_)
  refine Tr.lenG (n := 0) (i := 0) rfl rfl (fun len0_0 => ?_)
  refine Tr.lenG (n := 0) (i := 1) rfl rfl (fun len0_1 => ?_)
  refine Tr.lenG (n := 0) (i := 2) rfl rfl (fun len0_2 => ?_)
  refine Tr.lenG (n := 0) (i := 3) rfl rfl (fun len0_3 => ?_)
  refine Tr.seq ?_
  refine Tr.region ?_
  refine TrOps.semM (OpSem.box 1 rfl rfl rfl rfl) rfl rfl (by decide) ?_
  refine TrOps.sem (OpSem.move (.inr rfl) rfl) rfl rfl (by decide) ?_
  refine TrOps.nil ?_
  refine At.seq ?_
  refine Tr.seq ?_
  refine Tr.seq ?_
  refine Tr.region ?_
  refine TrOps.sem (OpSem.call0 (law_abstractionExample_does) rfl rfl rfl rfl (Les.refl _)) rfl rfl (by decide) ?_
  refine TrOps.sem (OpSem.not rfl rfl) rfl rfl (by decide) ?_
  refine TrOps.nil ?_
  refine At.seq ?_
  refine Tr.condF rfl rfl ?_
  refine Tr.skip ?_
  refine At.seq ?_
  refine Tr.seq ?_
  refine Tr.seq ?_
  refine Tr.region ?_
  refine TrOps.sem (OpSem.loadbN rfl rfl rfl vs26 (by first | decide | simp)) rfl rfl (by decide) ?_
  refine TrOps.sem (OpSem.call0 (R_MultiFault_does ..) rfl rfl rfl rfl (Les.refl _)) rfl rfl (by decide) ?_
  refine TrOps.sem (OpSem.field1 rfl rfl f1_29_0 rfl) rfl rfl (by decide) ?_
  refine TrOps.sem (OpSem.bin rfl rfl rfl bneq) rfl rfl (by decide) ?_
  refine TrOps.sem (OpSem.move (.inl rfl) rfl) rfl rfl (by decide) ?_
  refine TrOps.split (n := 13) rfl (fun c13 => ?_) (fun c13 => ?_)
  · refine TrOps.gF rfl rfl rfl rfl c13 rfl (by decide) ?_
    refine TrOps.gF rfl rfl rfl rfl c13 rfl (by decide) ?_
    refine TrOps.gF rfl rfl rfl rfl c13 rfl (by decide) ?_
    refine TrOps.sem (OpSem.pickT rfl rfl c13 rfl) rfl rfl (by decide) ?_
    refine TrOps.nil ?_
    refine At.seq ?_
    refine Tr.condT rfl rfl ?_
    refine Tr.seq ?_
    refine Tr.region ?_
    refine TrOps.sem (OpSem.move (.inr rfl) rfl) rfl rfl (by decide) ?_
    refine TrOps.nil ?_
    refine At.seq ?_
    refine Tr.ret ?_
    refine At.pass_ret ?_
    exact At.ret rfl (.tmp rfl <| .nil) rfl (Le.bo (by first | rfl | (exact decide_eq_true (by omega)) | (rw [hE.2.1]; simp)))
  · have hval : validate m = (0, 0) := validate_code (by simpa using c13)
    have hv := valid_of hval
    have hol := hv.opsLen
    have hrk := ranks_in hv
    have hl := hv.len
    refine TrOps.gT rfl rfl rfl rfl c13 ?_
    refine TrOps.sem (OpSem.loadbN rfl rfl rfl vs26 (by first | decide | simp)) rfl rfl (by decide) ?_
    refine TrOps.gT rfl rfl rfl rfl c13 ?_
    refine TrOps.sem (OpSem.call0 (R_Ranks_does m hv) rfl rfl rfl rfl (Les.refl _)) rfl rfl (by decide) ?_
    refine TrOps.gT rfl rfl rfl rfl c13 ?_
    refine TrOps.sem (OpSem.bin rfl rfl rfl bgtr) rfl rfl (by decide) ?_
    refine TrOps.sem (OpSem.pickF rfl rfl c13 rfl) rfl rfl (by decide) ?_
    refine TrOps.nil ?_
    refine At.seq ?_
    refine Tr.cond rfl (fun c17 => ?_) (fun c17 => ?_)
    · refine Tr.seq ?_
      refine Tr.region ?_
      refine TrOps.sem (OpSem.move (.inr rfl) rfl) rfl rfl (by decide) ?_
      refine TrOps.nil ?_
      refine At.seq ?_
      refine Tr.ret ?_
      refine At.pass_ret ?_
      exact At.ret rfl (.tmp rfl <| .nil) rfl (Le.bo (by first | rfl | (exact decide_eq_true (by omega)) | (rw [hE.2.1]; simp)))
    · have hr : ranks m.sizes ≤ 60 := by simp at c17; omega
      refine Tr.skip ?_
      refine At.seq ?_
      refine Tr.seq ?_
      refine Tr.region ?_
      refine TrOps.sem (OpSem.loadbN rfl rfl rfl vs26 (by first | decide | simp)) rfl rfl (by decide) ?_
      refine TrOps.sem (OpSem.call0 (law_product_does m hval hr) rfl rfl rfl rfl (Les.refl _)) rfl rfl (by decide) ?_
      refine TrOps.sem (OpSem.move (.inl rfl) rfl) rfl rfl (by decide) ?_
      refine TrOps.sem (OpSem.extract rfl rfl rfl) rfl rfl (by decide) ?_
      refine TrOps.sem (OpSem.extract rfl rfl rfl) rfl rfl (by decide) ?_
      refine TrOps.semM (OpSem.alloc 3 rfl zc46 rfl) rfl rfl (by decide) ?_
      refine TrOps.storeb rfl rfl rfl rfl rfl rfl rfl vs46 (by first | decide | simp) ?_
      refine TrOps.sem (OpSem.move (.inr rfl) rfl) rfl rfl (by decide) ?_
      refine TrOps.nil ?_
      refine At.seq ?_
      refine Tr.seq ?_
      refine Tr.seq ?_
      refine Tr.region ?_
      refine TrOps.sem (OpSem.move (.inl rfl) rfl) rfl rfl (by decide) ?_
      refine TrOps.sem (OpSem.not rfl rfl) rfl rfl (by decide) ?_
      refine TrOps.nil ?_
      refine At.seq ?_
      refine Tr.cond rfl (fun c24 => ?_) (fun c24 => ?_)
      · have hbig := pF_big hval hr (by simpa using c24)
        have hmm := mul_in2 (x := (m.ops.length : Int)) (y := ranks m.sizes) (by omega) (by omega)
        refine Tr.seq ?_
        refine PC.start [] ?_
        refine PC.sem (OpSem.fieldr rfl rfl fo26_3) rfl rfl ?_
        refine PC.sem (OpSem.loadb1 rfl rfl rfl vs24 rfl) rfl rfl ?_
        refine PC.sem (OpSem.lenL rfl rfl es24) rfl rfl ?_
        refine PC.sem (OpSem.loadbN rfl rfl rfl vs26 (by first | decide | simp)) rfl rfl ?_
        refine PC.sem (OpSem.call0 (R_Ranks_does m hv) rfl rfl rfl rfl (Les.refl _)) rfl rfl ?_
        refine PC.done0 mixed (by kernel_rfl) (by kernel_rfl) (by kernel_rfl) (by kernel_rfl) (by kernel_rfl) ?_
        refine TrOps.sem (OpSem.bin rfl rfl rfl (bmul (by omega) (by omega))) rfl rfl (by decide) ?_
        refine TrOps.sem (OpSem.bin rfl rfl rfl bgtr) rfl rfl (by decide) ?_
        refine TrOps.sem (OpSem.move (.inr rfl) rfl) rfl rfl (by decide) ?_
        refine TrOps.nil ?_
        refine At.seq ?_
        refine Tr.ret ?_
        refine At.pass_ret ?_
        exact At.ret rfl (.tmp rfl <| .nil) rfl (Le.bo (by first | rfl | (exact decide_eq_true (by omega)) | (rw [hE.2.1]; simp)))
      · have hE := pR_end hval hr (by simpa using c24)
        refine Tr.skip ?_
        refine At.seq ?_
        refine Tr.seq ?_
        refine PC.start [] ?_
        refine PC.sem (OpSem.loadbN rfl rfl rfl vs46 (by first | decide | simp)) rfl rfl ?_
        refine PC.sem (OpSem.loadbN rfl rfl rfl vs26 (by first | decide | simp)) rfl rfl ?_
        refine PC.sem (OpSem.call0 (law_costsOf_does m (by omega)).fresh rfl rfl rfl rfl (Les.refl _)) rfl rfl ?_
        refine PC.sem (OpSem.call0 (abstraction_Distances_does (pR m m.sizes.length) (costsL m) (pR_rng hval hr (by omega) (by omega))) rfl rfl rfl rfl (Les.refl _)) rfl rfl ?_
        refine PC.sem (OpSem.move (.inl rfl) rfl) rfl rfl ?_
        refine PC.sem (OpSem.extract rfl rfl rfl) rfl rfl ?_
        refine PC.sem (OpSem.extract rfl rfl rfl) rfl rfl ?_
        refine PC.semM (OpSem.alloc 6 rfl zc29 rfl) rfl rfl ?_
        refine PC.sem (OpSem.move (.inr rfl) rfl) rfl rfl ?_
        refine PC.done1 6 (.box [I (0), I (0)]) mixed (by kernel_rfl) (by kernel_rfl) (by kernel_rfl) (by kernel_rfl) (by kernel_rfl) ?_
        refine TrOps.storeb rfl rfl rfl rfl rfl rfl rfl vs29 (by first | decide | simp) ?_
        refine TrOps.nil ?_
        refine At.seq ?_
        refine Tr.seq ?_
        refine PC.start [] ?_
        refine PC.sem (OpSem.fieldr rfl rfl fo29_0) rfl rfl ?_
        refine PC.sem (OpSem.loadb1 rfl rfl rfl vs3 rfl) rfl rfl ?_
        refine PC.sem (OpSem.bin rfl rfl rfl beql) rfl rfl ?_
        refine PC.sem (OpSem.move (.inl rfl) rfl) rfl rfl ?_
        refine PC.gT (OpSem.fieldr rfl rfl fo46_3) rfl rfl rfl rfl (by rw [hE.1]; rfl) rfl ?_
        refine PC.gT (OpSem.loadb1 rfl rfl rfl vs3 rfl) rfl rfl rfl rfl (by rw [hE.1]; rfl) rfl ?_
        refine PC.gT (OpSem.loadbN rfl rfl rfl vs26 (by first | decide | simp)) rfl rfl rfl rfl (by rw [hE.1]; rfl) rfl ?_
        refine PC.gT (OpSem.fieldr rfl rfl fo26_1) rfl rfl rfl rfl (by rw [hE.1]; rfl) rfl ?_
        refine PC.gT (OpSem.loadb1 rfl rfl rfl vs22 rfl) rfl rfl rfl rfl (by rw [hE.1]; rfl) rfl ?_
        refine PC.gT (OpSem.call0 (R_Rank_does m m.init hv hv.init) rfl rfl rfl rfl (Les.refl _)) rfl rfl rfl rfl (by rw [hE.1]; rfl) rfl ?_
        refine PC.gT (OpSem.bin rfl rfl rfl beql) rfl rfl rfl rfl (by rw [hE.1]; rfl) rfl ?_
        refine PC.sem (OpSem.pickT rfl rfl (by rw [hE.1]; rfl) rfl) rfl rfl ?_
        refine PC.sem (OpSem.move (.inl rfl) rfl) rfl rfl ?_
        refine PC.gT (OpSem.move (.inl rfl) rfl) rfl rfl rfl rfl (by rw [hE.2.2]; simp) rfl ?_
        refine PC.gT (OpSem.loadbN rfl rfl rfl vs26 (by first | decide | simp)) rfl rfl rfl rfl (by rw [hE.2.2]; simp) rfl ?_
        refine PC.gT (OpSem.call0 (R_MultiCosts_does m hv).fresh rfl rfl rfl rfl (Les.refl _)) rfl rfl rfl rfl (by rw [hE.2.2]; simp) rfl ?_
        refine PC.done0 mixed (by kernel_rfl) (by kernel_rfl) (by kernel_rfl) (by kernel_rfl) (by kernel_rfl) ?_
        refine TrOps.gT rfl rfl rfl rfl (by rw [hE.2.2]; simp) ?_
        refine TrOps.sem (OpSem.call0 (R_Ints_does (adR (pR m m.sizes.length) (costsL m)) (costs m)) rfl rfl rfl rfl (Les.refl _)) rfl rfl (by decide) ?_
        refine TrOps.sem (OpSem.pickT rfl rfl (by rw [hE.2.2]; simp) rfl) rfl rfl (by decide) ?_
        refine TrOps.sem (OpSem.move (.inr rfl) rfl) rfl rfl (by decide) ?_
        refine TrOps.nil ?_
        refine At.seq ?_
        refine Tr.ret ?_
        exact At.ret rfl (.tmp rfl <| .nil) rfl (Le.bo (by first | rfl | (exact decide_eq_true (by omega)) | (rw [hE.2.1]; simp)))

end Go.Proofs.Ytohlmcebphcokaa
end
