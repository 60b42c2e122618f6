/- The engine and the walks that this claim uses, part 10. Written by prune.py out of our own texts. -/
import Derived.Test.YtohlmcebphcokaaC9
section
/- Walks, written by gen.py out of hints. -/






set_option linter.unusedVariables false
set_option linter.unusedSimpArgs false
namespace Go.Proofs.Ytohlmcebphcokaa
open Go.Eng
set_option maxRecDepth 10000
set_option maxHeartbeats 1000000

theorem abstraction_At_does (f : Int × Int) (i : Int) : Does Try.prog false 79 [flt f, I (i)] (flt (if f = (0, 0) then (0, 0) else (f.1, i))) := by
  refine Does.of_body Try.func79 rfl rfl (by simp) Try.call79 (fun w0 O0 => ?_)
  refine Tr.seq ?_
  refine Tr.region ?_
  refine TrOps.semM (OpSem.box 2 rfl rfl rfl rfl) rfl rfl (by decide) ?_
  refine TrOps.semM (OpSem.alloc 4 rfl zc29 rfl) rfl rfl (by decide) ?_
  refine TrOps.nil ?_
  refine At.seq ?_
  refine Tr.cut [(0, flt f), (1, I (i)), (2, .r 2 0), (4, .r 4 0)] [(2, .box [I ((if f = (0, 0) then ((0, 0) : Int × Int) else (f.1, i)).1), I ((if f = (0, 0) then ((0, 0) : Int × Int) else (f.1, i)).2)]), (4, .box [I (0), I (0)])] ?_ ?_
  · refine Tr.seq ?_
    refine Tr.region ?_
    refine TrOps.sem (OpSem.loadbN rfl rfl rfl vs29 (by first | decide | simp)) rfl rfl (by decide) ?_
    refine TrOps.sem (OpSem.build rfl rfl pl29 zc29 rfl rfl) rfl rfl (by decide) ?_
    refine TrOps.sem (OpSem.neS2 rfl rfl rfl io29) rfl rfl (by decide) ?_
    refine TrOps.nil ?_
    refine At.seq ?_
    refine Tr.cond rfl (fun c7 => ?_) (fun c7 => ?_)
    · refine Tr.region ?_
      refine TrOps.sem (OpSem.move (.inl rfl) rfl) rfl rfl (by decide) ?_
      refine TrOps.sem (OpSem.fieldr rfl rfl fo29_1) rfl rfl (by decide) ?_
      refine TrOps.storeb rfl rfl rfl rfl rfl rfl rfl vs3 (by first | decide | simp) ?_
      refine TrOps.nil ?_
      have he : (f.1, i) = (if f = (0, 0) then ((0, 0) : Int × Int) else (f.1, i)) := by rw [if_neg (fun h => by rw [h] at c7; simp at c7)]
      refine At.meet ?_
      exact .slot rfl (.refl _) <| .slot rfl (.refl _) <| .slot rfl (.refl _) <| .slot rfl (.refl _) <| .boxLe rfl (.cons (Le.i (by rw [← he])) <| .cons (Le.i (by rw [← he])) <| .nil) <| .mem rfl <| .nil
    · refine Tr.skip ?_
      have he : f = (if f = (0, 0) then ((0, 0) : Int × Int) else (f.1, i)) := by have q := pair0 (f := f) (by simpa using c7); rw [if_pos q, q]
      refine At.meet ?_
      exact .slot rfl (.refl _) <| .slot rfl (.refl _) <| .slot rfl (.refl _) <| .slot rfl (.refl _) <| .boxLe rfl (.cons (Le.i (congrArg Prod.fst (he))) <| .cons (Le.i (congrArg Prod.snd (he))) <| .nil) <| .mem rfl <| .nil
  · refine Tr.seq ?_
    refine Tr.region ?_
    refine TrOps.sem (OpSem.loadbN rfl rfl rfl vs29 (by first | decide | simp)) rfl rfl (by decide) ?_
    refine TrOps.storeb rfl rfl rfl rfl rfl rfl rfl vs29 (by first | decide | simp) ?_
    refine TrOps.nil ?_
    refine At.seq ?_
    refine Tr.ret ?_
    exact At.ret rfl (.cellN rfl rfl vs29 <| .nil) rfl (.refl _)

theorem abstraction_Times_does (a b : Abs) (h : PrdP a b) : Does Try.prog false 80 [absS a, absS b] (absS (timA a b)) := by
  have hA := h.oa
  have hB := h.ob
  have hal := hA.len
  have hbl := hB.len
  have hst := h.st
  have hs1 := hA.head.1
  have hs2 := hB.head.1
  have hi1 := hA.head.2.2
  have hi2 := hB.head.2.2
  have hga := goals_len hA
  have hgb := goals_len hB
  have hpi := pair_in hi1 hi2
  have hmi : 0 ≤ a.init * b.states := Int.mul_nonneg hi1.1 (by omega)
  have hps := prd_st h
  refine Does.of_body Try.func80 rfl rfl (by simp) Try.call80 (fun w0 O0 => ?_)
  refine Tr.lenG (n := 0) (i := 2) rfl rfl (fun len0_2 => ?_)
  refine Tr.lenG (n := 0) (i := 4) rfl rfl (fun len0_4 => ?_)
  refine Tr.lenG (n := 1) (i := 2) rfl rfl (fun len1_2 => ?_)
  refine Tr.lenG (n := 1) (i := 4) rfl rfl (fun len1_4 => ?_)
  refine Tr.seq ?_
  refine Tr.region ?_
  refine TrOps.semM (OpSem.box 2 rfl rfl rfl rfl) rfl rfl (by decide) ?_
  refine TrOps.semM (OpSem.box 3 rfl rfl rfl rfl) rfl rfl (by decide) ?_
  refine TrOps.semM (OpSem.alloc 4 rfl zc46 rfl) rfl rfl (by decide) ?_
  refine TrOps.nil ?_
  refine At.seq ?_
  refine Tr.seq ?_
  refine Tr.region ?_
  refine TrOps.sem (OpSem.fieldr rfl rfl fo46_0) rfl rfl (by decide) ?_
  refine TrOps.sem (OpSem.loadb1 rfl rfl rfl vs3 rfl) rfl rfl (by decide) ?_
  refine TrOps.sem (OpSem.fieldr rfl rfl fo46_0) rfl rfl (by decide) ?_
  refine TrOps.sem (OpSem.loadb1 rfl rfl rfl vs3 rfl) rfl rfl (by decide) ?_
  refine TrOps.sem (OpSem.bin rfl rfl rfl (bmul (by omega) (by omega))) rfl rfl (by decide) ?_
  refine TrOps.sem (OpSem.fieldr rfl rfl fo46_1) rfl rfl (by decide) ?_
  refine TrOps.sem (OpSem.loadb1 rfl rfl rfl vs3 rfl) rfl rfl (by decide) ?_
  refine TrOps.sem (OpSem.fieldr rfl rfl fo46_3) rfl rfl (by decide) ?_
  refine TrOps.sem (OpSem.loadb1 rfl rfl rfl vs3 rfl) rfl rfl (by decide) ?_
  refine TrOps.sem (OpSem.fieldr rfl rfl fo46_0) rfl rfl (by decide) ?_
  refine TrOps.sem (OpSem.loadb1 rfl rfl rfl vs3 rfl) rfl rfl (by decide) ?_
  refine TrOps.sem (OpSem.bin rfl rfl rfl (bmul (by omega) (by omega))) rfl rfl (by decide) ?_
  refine TrOps.sem (OpSem.fieldr rfl rfl fo46_3) rfl rfl (by decide) ?_
  refine TrOps.sem (OpSem.loadb1 rfl rfl rfl vs3 rfl) rfl rfl (by decide) ?_
  refine TrOps.sem (OpSem.bin rfl rfl rfl (badd (by omega) (by omega))) rfl rfl (by decide) ?_
  refine TrOps.sem (OpSem.build rfl rfl pl46 zc46 rfl rfl) rfl rfl (by decide) ?_
  refine TrOps.semM (OpSem.alloc 5 rfl zc46 rfl) rfl rfl (by decide) ?_
  refine TrOps.storeb rfl rfl rfl rfl rfl rfl rfl vs46 (by first | decide | simp) ?_
  refine TrOps.nil ?_
  refine At.seq ?_
  refine Tr.seq ?_
  refine Tr.seq ?_
  refine Tr.ownNilBox 91 5 4 1 3 rfl rfl rfl ?_
  refine Tr.ownNilBox 92 5 2 3 93 rfl rfl rfl ?_
  refine Tr.region ?_
  refine TrOps.sem (OpSem.fieldr rfl rfl fo46_4) rfl rfl (by decide) ?_
  refine TrOps.sem (OpSem.loadb1 rfl rfl rfl vs22 rfl) rfl rfl (by decide) ?_
  refine TrOps.sem (OpSem.lenL rfl rfl es22) rfl rfl (by decide) ?_
  refine TrOps.sem (OpSem.move (.inl rfl) rfl) rfl rfl (by decide) ?_
  refine TrOps.nil ?_
  refine At.seq ?_
  refine Tr.block ?_
  refine Tr.loop (X := Nat) (fun i => i ≤ a.goals.length) (fun i => [(2, .r 2 0), (3, .r 3 0), (4, .r 4 0), (5, .r 5 0), (31, .d (ints a.goals)), (32, I (a.goals.length)), (33, I (i))]) (fun i => [(5, .box [I (a.states * b.states), I (a.labels), .o 92, I (a.init * b.states + b.init), .o 91]), (91, .own 1 3 ((timH a b i).map fun n => [D.v (.int .i64 n)])), (92, .own 3 93 (([] : List Arc).map arcC)), (2, .box [I (a.states), I (a.labels), .d (arcsD a.arcs), I (a.init), .d (ints a.goals)]), (3, .box [I (b.states), I (b.labels), .d (arcsD b.arcs), I (b.init), .d (ints b.goals)]), (4, .box [I (0), I (0), .d (.v (.slice none 0 0)), I (0), .d (.v (.slice none 0 0))])]) (fun i => a.goals.length - i) 0 (by omega) ?_ ?_
  · exact .slot rfl (.refl _) <| .slot rfl (.refl _) <| .slot rfl (.refl _) <| .slot rfl (.refl _) <| .slot rfl (.refl _) <| .slot rfl (.refl _) <| .slot rfl (Le.of_eq (by simp)) <| .mem rfl <| .memEq rfl (by first | (simp [timH]; done) | (simp [timH]; rfl)) <| .memEq rfl rfl <| .mem rfl <| .mem rfl <| .mem rfl <| .nil
  · rintro i hil
    refine Tr.seq ?_
    refine Tr.region ?_
    refine TrOps.sem (OpSem.bin rfl rfl rfl blss) rfl rfl (by decide) ?_
    refine TrOps.nil ?_
    refine At.seq ?_
    refine Tr.seq ?_
    refine Tr.cond rfl (fun c34 => ?_) (fun c34 => ?_)
    · have hi : i < a.goals.length := by simpa using c34
      have hgx := setP_mem hA.goals (nth_mem (l := a.goals) (n := i) (by omega) (by omega))
      have hHl := timH_len (a := a) (b := b) (by omega) (by omega) (i := i)
      refine Tr.skip ?_
      refine At.seq ?_
      refine Tr.seq ?_
      refine Tr.block ?_
      refine Tr.seq ?_
      refine Tr.region ?_
      refine TrOps.sem (OpSem.idxL rfl rfl rfl es22 (by omega) (by omega)) rfl rfl (by decide) ?_
      refine TrOps.sem (OpSem.load1 rfl rfl vs3 rfl) rfl rfl (by decide) ?_
      refine TrOps.sem (OpSem.move (.inr rfl) rfl) rfl rfl (by decide) ?_
      refine TrOps.nil ?_
      refine At.seq ?_
      refine Tr.seq ?_
      refine Tr.region ?_
      refine TrOps.sem (OpSem.fieldr rfl rfl fo46_4) rfl rfl (by decide) ?_
      refine TrOps.sem (OpSem.loadb1 rfl rfl rfl vs22 rfl) rfl rfl (by decide) ?_
      refine TrOps.sem (OpSem.lenL rfl rfl es22) rfl rfl (by decide) ?_
      refine TrOps.sem (OpSem.move (.inl rfl) rfl) rfl rfl (by decide) ?_
      refine TrOps.nil ?_
      refine At.seq ?_
      refine Tr.block ?_
      refine Tr.loop (X := Nat) (fun j => j ≤ b.goals.length) (fun j => [(2, .r 2 0), (3, .r 3 0), (4, .r 4 0), (5, .r 5 0), (7, I ((nth a.goals i))), (31, .d (ints a.goals)), (32, I (a.goals.length)), (33, I (i)), (38, .d (ints b.goals)), (39, I (b.goals.length)), (40, I (j))]) (fun j => [(5, .box [I (a.states * b.states), I (a.labels), .o 92, I (a.init * b.states + b.init), .o 91]), (91, .own 1 3 ((timH a b i ++ timG a b (nth a.goals i) j).map fun n => [D.v (.int .i64 n)])), (92, .own 3 93 (([] : List Arc).map arcC)), (2, .box [I (a.states), I (a.labels), .d (arcsD a.arcs), I (a.init), .d (ints a.goals)]), (3, .box [I (b.states), I (b.labels), .d (arcsD b.arcs), I (b.init), .d (ints b.goals)]), (4, .box [I (0), I (0), .d (.v (.slice none 0 0)), I (0), .d (.v (.slice none 0 0))])]) (fun j => b.goals.length - j) 0 (by omega) ?_ ?_
      · exact .slot rfl (.refl _) <| .slot rfl (.refl _) <| .slot rfl (.refl _) <| .slot rfl (.refl _) <| .slot rfl (.refl _) <| .slot rfl (.refl _) <| .slot rfl (.refl _) <| .slot rfl (.refl _) <| .slot rfl (.refl _) <| .slot rfl (.refl _) <| .slot rfl (Le.of_eq (by simp)) <| .mem rfl <| .memEq rfl (by first | (simp [timG]; done) | (simp [timG]; rfl)) <| .memEq rfl rfl <| .mem rfl <| .mem rfl <| .mem rfl <| .nil
      · rintro j hjl
        refine Tr.seq ?_
        refine Tr.region ?_
        refine TrOps.sem (OpSem.bin rfl rfl rfl blss) rfl rfl (by decide) ?_
        refine TrOps.nil ?_
        refine At.seq ?_
        refine Tr.seq ?_
        refine Tr.cond rfl (fun c41 => ?_) (fun c41 => ?_)
        · have hj : j < b.goals.length := by simpa using c41
          have hgy := setP_mem hB.goals (nth_mem (l := b.goals) (n := j) (by omega) (by omega))
          have hGl := timG_len (a := a) (b := b) (x := nth a.goals i) (j := j)
          have hpg := pair_in hgx hgy
          have hmg : 0 ≤ nth a.goals i * b.states := Int.mul_nonneg hgx.1 (by omega)
          refine Tr.skip ?_
          refine At.seq ?_
          refine Tr.seq ?_
          refine Tr.block ?_
          refine Tr.seq ?_
          refine Tr.region ?_
          refine TrOps.sem (OpSem.idxL rfl rfl rfl es22 (by omega) (by omega)) rfl rfl (by decide) ?_
          refine TrOps.sem (OpSem.load1 rfl rfl vs3 rfl) rfl rfl (by decide) ?_
          refine TrOps.sem (OpSem.move (.inr rfl) rfl) rfl rfl (by decide) ?_
          refine TrOps.nil ?_
          refine At.seq ?_
          refine Tr.region ?_
          refine TrOps.sem (OpSem.fieldr rfl rfl fo46_4) rfl rfl (by decide) ?_
          refine TrOps.sem (OpSem.loadb1 rfl rfl rfl vs22 rfl) rfl rfl (by decide) ?_
          refine TrOps.sem (OpSem.move (.inl rfl) rfl) rfl rfl (by decide) ?_
          refine TrOps.sem (OpSem.fieldr rfl rfl fo46_0) rfl rfl (by decide) ?_
          refine TrOps.sem (OpSem.loadb1 rfl rfl rfl vs3 rfl) rfl rfl (by decide) ?_
          refine TrOps.sem (OpSem.bin rfl rfl rfl (bmul (by omega) (by omega))) rfl rfl (by decide) ?_
          refine TrOps.sem (OpSem.move (.inl rfl) rfl) rfl rfl (by decide) ?_
          refine TrOps.sem (OpSem.bin rfl rfl rfl (badd (by omega) (by omega))) rfl rfl (by decide) ?_
          refine TrOps.sem (OpSem.buildSlice rfl rfl es22 ze22 rfl rfl (by decide) (by decide) rfl rfl) rfl rfl (by decide) ?_
          refine TrOps.append rfl rfl rfl (by decide) rfl rfl rfl es22 el22 zc3 rfl by3 (by simp [D.one, Value.oneCell']) (by simp [maxLen]; omega) (by simp; omega) ?_
          refine TrOps.sem (OpSem.fieldr rfl rfl fo46_4) rfl rfl (by decide) ?_
          refine TrOps.storeb rfl rfl rfl rfl rfl rfl rfl vs22 (by first | decide | simp) ?_
          refine TrOps.nil ?_
          refine At.block_normal ?_
          refine At.seq ?_
          refine Tr.region ?_
          refine TrOps.sem (OpSem.bin rfl rfl rfl (badd (by omega) (by omega))) rfl rfl (by decide) ?_
          refine TrOps.sem (OpSem.move (.inl rfl) rfl) rfl rfl (by decide) ?_
          refine TrOps.nil ?_
          refine At.again (j + 1) (by omega) ?_ (by omega)
          exact .slot rfl (.refl _) <| .slot rfl (.refl _) <| .slot rfl (.refl _) <| .slot rfl (.refl _) <| .slot rfl (.refl _) <| .slot rfl (.refl _) <| .slot rfl (.refl _) <| .slot rfl (.refl _) <| .slot rfl (.refl _) <| .slot rfl (.refl _) <| .slot rfl (Le.of_eq (by simp)) <| .mem rfl <| .memEq rfl (by rw [← timG_s hj]; simp) <| .memEq rfl rfl <| .mem rfl <| .mem rfl <| .mem rfl <| .nil
        · have hj : j = b.goals.length := by simp at c41; omega
          have hHs := timH_s (b := b) hi
          refine Tr.exit ?_
          refine At.pass_exit ?_
          refine At.pass_exit ?_
          refine At.block_same ?_
          refine At.block_normal ?_
          refine At.seq ?_
          refine Tr.region ?_
          refine TrOps.sem (OpSem.bin rfl rfl rfl (badd (by omega) (by omega))) rfl rfl (by decide) ?_
          refine TrOps.sem (OpSem.move (.inl rfl) rfl) rfl rfl (by decide) ?_
          refine TrOps.nil ?_
          refine At.again (i + 1) (by omega) ?_ (by omega)
          exact .slot rfl (.refl _) <| .slot rfl (.refl _) <| .slot rfl (.refl _) <| .slot rfl (.refl _) <| .slot rfl (.refl _) <| .slot rfl (.refl _) <| .slot rfl (Le.of_eq (by simp)) <| .mem rfl <| .memEq rfl (by rw [← hHs, ← hj]) <| .memEq rfl rfl <| .mem rfl <| .mem rfl <| .mem rfl <| .nil
    · have hi : i = a.goals.length := by simp at c34; omega
      subst hi
      refine Tr.exit ?_
      refine At.pass_exit ?_
      refine At.pass_exit ?_
      refine At.block_same ?_
      refine At.seq ?_
      refine Tr.seq ?_
      refine Tr.seq ?_
      refine Tr.freeze 91 rfl ?_
      refine Tr.region ?_
      refine TrOps.sem (OpSem.fieldr rfl rfl fo46_2) rfl rfl (by decide) ?_
      refine TrOps.sem (OpSem.loadb1 rfl rfl rfl vs44 rfl) rfl rfl (by decide) ?_
      refine TrOps.sem (OpSem.lenL rfl rfl es44) rfl rfl (by decide) ?_
      refine TrOps.sem (OpSem.move (.inl rfl) rfl) rfl rfl (by decide) ?_
      refine TrOps.nil ?_
      refine At.seq ?_
      refine Tr.block ?_
      refine Tr.loop (X := Nat) (fun i => i ≤ a.arcs.length) (fun i => [(3, .r 3 0), (4, .r 4 0), (5, .r 5 0), (58, .d (arcsD a.arcs)), (59, I (a.arcs.length)), (60, I (i))]) (fun i => [(5, .box [I (a.states * b.states), I (a.labels), .o 92, I (a.init * b.states + b.init), .d (ints (timH a b a.goals.length))]), (92, .own 3 93 ((timI a b i).map arcC)), (3, .box [I (b.states), I (b.labels), .d (arcsD b.arcs), I (b.init), .d (ints b.goals)]), (4, .box [I (0), I (0), .d (.v (.slice none 0 0)), I (0), .d (.v (.slice none 0 0))])]) (fun i => a.arcs.length - i) 0 (by omega) ?_ ?_
      · exact .slot rfl (.refl _) <| .slot rfl (.refl _) <| .slot rfl (.refl _) <| .slot rfl (.refl _) <| .slot rfl (.refl _) <| .slot rfl (Le.of_eq (by simp)) <| .mem rfl <| .memEq rfl (by first | (simp [timI]; done) | (simp [timI]; rfl)) <| .mem rfl <| .mem rfl <| .nil
      · rintro i hil
        refine Tr.seq ?_
        refine Tr.region ?_
        refine TrOps.sem (OpSem.bin rfl rfl rfl blss) rfl rfl (by decide) ?_
        refine TrOps.nil ?_
        refine At.seq ?_
        refine Tr.seq ?_
        refine Tr.cond rfl (fun c61 => ?_) (fun c61 => ?_)
        · have hi : i < a.arcs.length := by simpa using c61
          have hx := hA.arc i hi
          have hIl := timI_len (a := a) (b := b) (by omega) (by omega) (i := i)
          refine Tr.skip ?_
          refine At.seq ?_
          refine Tr.seq ?_
          refine Tr.block ?_
          refine Tr.seq ?_
          refine Tr.region ?_
          refine TrOps.sem (OpSem.idxL rfl rfl rfl es44 (by omega) (by omega)) rfl rfl (by decide) ?_
          refine TrOps.sem (OpSem.loadN rfl rfl vs93 (by first | decide | simp) rfl) rfl rfl (by decide) ?_
          refine TrOps.semM (OpSem.alloc 11 rfl zc93 rfl) rfl rfl (by decide) ?_
          refine TrOps.storeb rfl rfl rfl rfl rfl rfl rfl vs93 (by first | decide | simp) ?_
          refine TrOps.nil ?_
          refine At.seq ?_
          refine Tr.seq ?_
          refine Tr.region ?_
          refine TrOps.sem (OpSem.fieldr rfl rfl fo46_2) rfl rfl (by decide) ?_
          refine TrOps.sem (OpSem.loadb1 rfl rfl rfl vs44 rfl) rfl rfl (by decide) ?_
          refine TrOps.sem (OpSem.lenL rfl rfl es44) rfl rfl (by decide) ?_
          refine TrOps.sem (OpSem.move (.inl rfl) rfl) rfl rfl (by decide) ?_
          refine TrOps.nil ?_
          refine At.seq ?_
          refine Tr.block ?_
          refine Tr.loop (X := Nat) (fun j => j ≤ b.arcs.length) (fun j => [(3, .r 3 0), (4, .r 4 0), (5, .r 5 0), (11, .r 11 0), (58, .d (arcsD a.arcs)), (59, I (a.arcs.length)), (60, I (i)), (65, .d (arcsD b.arcs)), (66, I (b.arcs.length)), (67, I (j))]) (fun j => [(5, .box [I (a.states * b.states), I (a.labels), .o 92, I (a.init * b.states + b.init), .d (ints (timH a b a.goals.length))]), (92, .own 3 93 ((timI a b i ++ timJ b (nth a.arcs i) j).map arcC)), (3, .box [I (b.states), I (b.labels), .d (arcsD b.arcs), I (b.init), .d (ints b.goals)]), (4, .box [I (0), I (0), .d (.v (.slice none 0 0)), I (0), .d (.v (.slice none 0 0))]), (11, .box [I ((nth a.arcs i).fr), I ((nth a.arcs i).lab), I ((nth a.arcs i).to)])]) (fun j => b.arcs.length - j) 0 (by omega) ?_ ?_
          · exact .slot rfl (.refl _) <| .slot rfl (.refl _) <| .slot rfl (.refl _) <| .slot rfl (.refl _) <| .slot rfl (.refl _) <| .slot rfl (.refl _) <| .slot rfl (.refl _) <| .slot rfl (.refl _) <| .slot rfl (.refl _) <| .slot rfl (Le.of_eq (by simp)) <| .mem rfl <| .memEq rfl (by first | (simp [timJ]; done) | (simp [timJ]; rfl)) <| .mem rfl <| .mem rfl <| .mem rfl <| .nil
          · rintro j hjl
            refine Tr.seq ?_
            refine Tr.region ?_
            refine TrOps.sem (OpSem.bin rfl rfl rfl blss) rfl rfl (by decide) ?_
            refine TrOps.nil ?_
            refine At.seq ?_
            refine Tr.seq ?_
            refine Tr.cond rfl (fun c68 => ?_) (fun c68 => ?_)
            · have hj : j < b.arcs.length := by simpa using c68
              have hy := hB.arc j hj
              have hJl := timJ_len (b := b) (x := nth a.arcs i) (j := j)
              have hp1 := pair_in hx.1 hy.1
              have hp2 := pair_in hx.2.2 hy.2.2
              have hm1 : 0 ≤ (nth a.arcs i).fr * b.states := Int.mul_nonneg hx.1.1 (by omega)
              have hm2 : 0 ≤ (nth a.arcs i).to * b.states := Int.mul_nonneg hx.2.2.1 (by omega)
              refine Tr.skip ?_
              refine At.seq ?_
              refine Tr.seq ?_
              refine Tr.block ?_
              refine Tr.seq ?_
              refine Tr.region ?_
              refine TrOps.sem (OpSem.idxL rfl rfl rfl es44 (by omega) (by omega)) rfl rfl (by decide) ?_
              refine TrOps.sem (OpSem.loadN rfl rfl vs93 (by first | decide | simp) rfl) rfl rfl (by decide) ?_
              refine TrOps.semM (OpSem.alloc 13 rfl zc93 rfl) rfl rfl (by decide) ?_
              refine TrOps.storeb rfl rfl rfl rfl rfl rfl rfl vs93 (by first | decide | simp) ?_
              refine TrOps.nil ?_
              refine At.seq ?_
              refine Tr.seq ?_
              refine Tr.region ?_
              refine TrOps.sem (OpSem.fieldr rfl rfl fo93_1) rfl rfl (by decide) ?_
              refine TrOps.sem (OpSem.loadb1 rfl rfl rfl vs3 rfl) rfl rfl (by decide) ?_
              refine TrOps.sem (OpSem.fieldr rfl rfl fo93_1) rfl rfl (by decide) ?_
              refine TrOps.sem (OpSem.loadb1 rfl rfl rfl vs3 rfl) rfl rfl (by decide) ?_
              refine TrOps.sem (OpSem.bin rfl rfl rfl beql) rfl rfl (by decide) ?_
              refine TrOps.nil ?_
              refine At.seq ?_
              refine Tr.cond rfl (fun c75 => ?_) (fun c75 => ?_)
              · have hlab : (nth a.arcs i).lab = (nth b.arcs j).lab := by simpa using c75
                have hJs := timJ_t (x := nth a.arcs i) hj hlab
                refine Tr.region ?_
                refine TrOps.sem (OpSem.fieldr rfl rfl fo46_2) rfl rfl (by decide) ?_
                refine TrOps.sem (OpSem.loadb1 rfl rfl rfl vs44 rfl) rfl rfl (by decide) ?_
                refine TrOps.sem (OpSem.fieldr rfl rfl fo93_0) rfl rfl (by decide) ?_
                refine TrOps.sem (OpSem.loadb1 rfl rfl rfl vs3 rfl) rfl rfl (by decide) ?_
                refine TrOps.sem (OpSem.fieldr rfl rfl fo46_0) rfl rfl (by decide) ?_
                refine TrOps.sem (OpSem.loadb1 rfl rfl rfl vs3 rfl) rfl rfl (by decide) ?_
                refine TrOps.sem (OpSem.bin rfl rfl rfl (bmul (by omega) (by omega))) rfl rfl (by decide) ?_
                refine TrOps.sem (OpSem.fieldr rfl rfl fo93_0) rfl rfl (by decide) ?_
                refine TrOps.sem (OpSem.loadb1 rfl rfl rfl vs3 rfl) rfl rfl (by decide) ?_
                refine TrOps.sem (OpSem.bin rfl rfl rfl (badd (by omega) (by omega))) rfl rfl (by decide) ?_
                refine TrOps.sem (OpSem.fieldr rfl rfl fo93_1) rfl rfl (by decide) ?_
                refine TrOps.sem (OpSem.loadb1 rfl rfl rfl vs3 rfl) rfl rfl (by decide) ?_
                refine TrOps.sem (OpSem.fieldr rfl rfl fo93_2) rfl rfl (by decide) ?_
                refine TrOps.sem (OpSem.loadb1 rfl rfl rfl vs3 rfl) rfl rfl (by decide) ?_
                refine TrOps.sem (OpSem.fieldr rfl rfl fo46_0) rfl rfl (by decide) ?_
                refine TrOps.sem (OpSem.loadb1 rfl rfl rfl vs3 rfl) rfl rfl (by decide) ?_
                refine TrOps.sem (OpSem.bin rfl rfl rfl (bmul (by omega) (by omega))) rfl rfl (by decide) ?_
                refine TrOps.sem (OpSem.fieldr rfl rfl fo93_2) rfl rfl (by decide) ?_
                refine TrOps.sem (OpSem.loadb1 rfl rfl rfl vs3 rfl) rfl rfl (by decide) ?_
                refine TrOps.sem (OpSem.bin rfl rfl rfl (badd (by omega) (by omega))) rfl rfl (by decide) ?_
                refine TrOps.sem (OpSem.build rfl rfl pl93 zc93 rfl rfl) rfl rfl (by decide) ?_
                refine TrOps.sem (OpSem.buildSlice rfl rfl es44 ze44 rfl rfl (by decide) (by decide) rfl rfl) rfl rfl (by decide) ?_
                refine TrOps.append rfl rfl rfl (by decide) rfl rfl rfl es44 el44 zc93 rfl by93 (by simp [D.one, Value.oneCell']) (by simp [maxLen]; omega) (by simp; omega) ?_
                refine TrOps.sem (OpSem.fieldr rfl rfl fo46_2) rfl rfl (by decide) ?_
                refine TrOps.storeb rfl rfl rfl rfl rfl rfl rfl vs44 (by first | decide | simp) ?_
                refine TrOps.nil ?_
                refine At.block_normal ?_
                refine At.seq ?_
                refine Tr.region ?_
                refine TrOps.sem (OpSem.bin rfl rfl rfl (badd (by omega) (by omega))) rfl rfl (by decide) ?_
                refine TrOps.sem (OpSem.move (.inl rfl) rfl) rfl rfl (by decide) ?_
                refine TrOps.nil ?_
                refine At.again (j + 1) (by omega) ?_ (by omega)
                exact .slot rfl (.refl _) <| .slot rfl (.refl _) <| .slot rfl (.refl _) <| .slot rfl (.refl _) <| .slot rfl (.refl _) <| .slot rfl (.refl _) <| .slot rfl (.refl _) <| .slot rfl (.refl _) <| .slot rfl (.refl _) <| .slot rfl (Le.of_eq (by simp)) <| .mem rfl <| .memEq rfl (by rw [← hJs]; simp [prA]) <| .mem rfl <| .mem rfl <| .mem rfl <| .nil
              · have hlab : (nth a.arcs i).lab ≠ (nth b.arcs j).lab := by simpa using c75
                have hJs := timJ_f (x := nth a.arcs i) hj hlab
                refine Tr.skip ?_
                refine At.block_normal ?_
                refine At.seq ?_
                refine Tr.region ?_
                refine TrOps.sem (OpSem.bin rfl rfl rfl (badd (by omega) (by omega))) rfl rfl (by decide) ?_
                refine TrOps.sem (OpSem.move (.inl rfl) rfl) rfl rfl (by decide) ?_
                refine TrOps.nil ?_
                refine At.again (j + 1) (by omega) ?_ (by omega)
                exact .slot rfl (.refl _) <| .slot rfl (.refl _) <| .slot rfl (.refl _) <| .slot rfl (.refl _) <| .slot rfl (.refl _) <| .slot rfl (.refl _) <| .slot rfl (.refl _) <| .slot rfl (.refl _) <| .slot rfl (.refl _) <| .slot rfl (Le.of_eq (by simp)) <| .mem rfl <| .memEq rfl (by rw [hJs]; rfl) <| .mem rfl <| .mem rfl <| .mem rfl <| .nil
            · have hj : j = b.arcs.length := by simp at c68; omega
              have hIs := timI_s (b := b) hi
              refine Tr.exit ?_
              refine At.pass_exit ?_
              refine At.pass_exit ?_
              refine At.block_same ?_
              refine At.block_normal ?_
              refine At.seq ?_
              refine Tr.region ?_
              refine TrOps.sem (OpSem.bin rfl rfl rfl (badd (by omega) (by omega))) rfl rfl (by decide) ?_
              refine TrOps.sem (OpSem.move (.inl rfl) rfl) rfl rfl (by decide) ?_
              refine TrOps.nil ?_
              refine At.again (i + 1) (by omega) ?_ (by omega)
              exact .slot rfl (.refl _) <| .slot rfl (.refl _) <| .slot rfl (.refl _) <| .slot rfl (.refl _) <| .slot rfl (.refl _) <| .slot rfl (Le.of_eq (by simp)) <| .mem rfl <| .memEq rfl (by rw [← hIs, ← hj]) <| .mem rfl <| .mem rfl <| .nil
        · have hi : i = a.arcs.length := by simp at c61; omega
          subst hi
          have hIl := timI_len (a := a) (b := b) (by omega) (by omega) (i := a.arcs.length)
          refine Tr.exit ?_
          refine At.pass_exit ?_
          refine At.pass_exit ?_
          refine At.block_same ?_
          refine At.seq ?_
          refine Tr.seq ?_
          refine Tr.region ?_
          refine TrOps.sem (OpSem.loadbN rfl rfl rfl vs46 (by first | decide | simp)) rfl rfl (by decide) ?_
          refine TrOps.callAbs (fun q n c => sorted_all (timI a b a.arcs.length) (a.states * b.states) a.labels (a.init * b.states + b.init) q n c (by omega)) rfl rfl rfl (by decide) rfl rfl rfl (plain_arcs _) ?_
          refine TrOps.freeze 92 rfl ?_
          refine TrOps.storeb rfl rfl rfl rfl rfl rfl rfl vs46 (by first | decide | simp) ?_
          refine TrOps.nil ?_
          refine At.seq ?_
          refine Tr.ret ?_
          exact At.ret rfl (.cellN rfl rfl vs46 <| .nil) rfl (.refl _)

theorem abstraction_Product_does (a b : Abs) (hra : -9223372036854775808 ≤ a.states ∧ a.states ≤ 9223372036854775807) (hrb : -9223372036854775808 ≤ b.states ∧ b.states ≤ 9223372036854775807) : Does Try.prog false 41 [absS a, absS b] (.t [absS (prdR a b), flt (prdF a b)]) := by
  refine Does.of_body Try.func41 rfl rfl (by simp) Try.call41 (fun w0 O0 => ?_)
  refine Tr.lenG (n := 0) (i := 2) rfl rfl (fun len0_2 => ?_)
  refine Tr.lenG (n := 0) (i := 4) rfl rfl (fun len0_4 => ?_)
  refine Tr.lenG (n := 1) (i := 2) rfl rfl (fun len1_2 => ?_)
  refine Tr.lenG (n := 1) (i := 4) rfl rfl (fun len1_4 => ?_)
  refine Tr.seq ?_
  refine Tr.region ?_
  refine TrOps.semM (OpSem.box 2 rfl rfl rfl rfl) rfl rfl (by decide) ?_
  refine TrOps.semM (OpSem.box 3 rfl rfl rfl rfl) rfl rfl (by decide) ?_
  refine TrOps.semM (OpSem.alloc 4 rfl zc46 rfl) rfl rfl (by decide) ?_
  refine TrOps.semM (OpSem.alloc 5 rfl zc29 rfl) rfl rfl (by decide) ?_
  refine TrOps.nil ?_
  refine At.seq ?_
  refine Tr.seq ?_
  refine Tr.region ?_
  refine TrOps.sem (OpSem.loadbN rfl rfl rfl vs46 (by first | decide | simp)) rfl rfl (by decide) ?_
  refine TrOps.sem (OpSem.call0 (abstraction_Validate_does a hra) rfl rfl rfl rfl (Les.refl _)) rfl rfl (by decide) ?_
  refine TrOps.semM (OpSem.alloc 6 rfl zc29 rfl) rfl rfl (by decide) ?_
  refine TrOps.storeb rfl rfl rfl rfl rfl rfl rfl vs29 (by first | decide | simp) ?_
  refine TrOps.nil ?_
  refine At.seq ?_
  refine Tr.cut [(2, .r 2 0), (3, .r 3 0), (4, .r 4 0), (5, .r 5 0), (6, .r 6 0)] [(2, .box [I (a.states), I (a.labels), .d (arcsD a.arcs), I (a.init), .d (ints a.goals)]), (3, .box [I (b.states), I (b.labels), .d (arcsD b.arcs), I (b.init), .d (ints b.goals)]), (4, .box [I (0), I (0), .d (.v (.slice none 0 0)), I (0), .d (.v (.slice none 0 0))]), (5, .box [I (0), I (0)]), (6, .box [I ((prdF1 a b).1), I ((prdF1 a b).2)])] ?_ ?_
  · refine Tr.seq ?_
    refine Tr.region ?_
    refine TrOps.sem (OpSem.loadbN rfl rfl rfl vs29 (by first | decide | simp)) rfl rfl (by decide) ?_
    refine TrOps.sem (OpSem.build rfl rfl pl29 zc29 rfl rfl) rfl rfl (by decide) ?_
    refine TrOps.sem (OpSem.eqS2 rfl rfl rfl io29) rfl rfl (by decide) ?_
    refine TrOps.nil ?_
    refine At.seq ?_
    refine Tr.cond rfl (fun c12 => ?_) (fun c12 => ?_)
    · refine Tr.region ?_
      refine TrOps.sem (OpSem.loadbN rfl rfl rfl vs46 (by first | decide | simp)) rfl rfl (by decide) ?_
      refine TrOps.sem (OpSem.call0 (abstraction_Validate_does b hrb) rfl rfl rfl rfl (Les.refl _)) rfl rfl (by decide) ?_
      refine TrOps.sem (OpSem.call0 (abstraction_At_does (absFault b) (-5)) rfl rfl rfl rfl (Les.refl _)) rfl rfl (by decide) ?_
      refine TrOps.storeb rfl rfl rfl rfl rfl rfl rfl vs29 (by first | decide | simp) ?_
      refine TrOps.nil ?_
      have he : (if absFault b = (0, 0) then ((0, 0) : Int × Int) else ((absFault b).1, -5)) = prdF1 a b := by have q := pair0 (f := absFault a) (by simpa using c12); unfold prdF1; simp [q]
      refine At.meet ?_
      exact .slot rfl (.refl _) <| .slot rfl (.refl _) <| .slot rfl (.refl _) <| .slot rfl (.refl _) <| .slot rfl (.refl _) <| .mem rfl <| .mem rfl <| .mem rfl <| .mem rfl <| .boxLe rfl (.cons (Le.i (congrArg Prod.fst (he))) <| .cons (Le.i (congrArg Prod.snd (he))) <| .nil) <| .nil
    · refine Tr.skip ?_
      have he : absFault a = prdF1 a b := by unfold prdF1; rw [if_pos (fun h => by rw [h] at c12; simp at c12)]
      refine At.meet ?_
      exact .slot rfl (.refl _) <| .slot rfl (.refl _) <| .slot rfl (.refl _) <| .slot rfl (.refl _) <| .slot rfl (.refl _) <| .mem rfl <| .mem rfl <| .mem rfl <| .mem rfl <| .boxLe rfl (.cons (Le.i (congrArg Prod.fst (he))) <| .cons (Le.i (congrArg Prod.snd (he))) <| .nil) <| .nil
  · refine Tr.cut [(2, .r 2 0), (3, .r 3 0), (4, .r 4 0), (5, .r 5 0), (6, .r 6 0)] [(2, .box [I (a.states), I (a.labels), .d (arcsD a.arcs), I (a.init), .d (ints a.goals)]), (3, .box [I (b.states), I (b.labels), .d (arcsD b.arcs), I (b.init), .d (ints b.goals)]), (4, .box [I (0), I (0), .d (.v (.slice none 0 0)), I (0), .d (.v (.slice none 0 0))]), (5, .box [I (0), I (0)]), (6, .box [I ((prdF2 a b).1), I ((prdF2 a b).2)])] ?_ ?_
    · refine Tr.seq ?_
      refine Tr.region ?_
      refine TrOps.sem (OpSem.loadbN rfl rfl rfl vs29 (by first | decide | simp)) rfl rfl (by decide) ?_
      refine TrOps.sem (OpSem.build rfl rfl pl29 zc29 rfl rfl) rfl rfl (by decide) ?_
      refine TrOps.sem (OpSem.eqS2 rfl rfl rfl io29) rfl rfl (by decide) ?_
      refine TrOps.sem (OpSem.move (.inl rfl) rfl) rfl rfl (by decide) ?_
      refine TrOps.split (n := 19) rfl (fun c19 => ?_) (fun c19 => ?_)
      · refine TrOps.gT rfl rfl rfl rfl c19 ?_
        refine TrOps.sem (OpSem.fieldr rfl rfl fo46_1) rfl rfl (by decide) ?_
        refine TrOps.gT rfl rfl rfl rfl c19 ?_
        refine TrOps.sem (OpSem.loadb1 rfl rfl rfl vs3 rfl) rfl rfl (by decide) ?_
        refine TrOps.gT rfl rfl rfl rfl c19 ?_
        refine TrOps.sem (OpSem.fieldr rfl rfl fo46_1) rfl rfl (by decide) ?_
        refine TrOps.gT rfl rfl rfl rfl c19 ?_
        refine TrOps.sem (OpSem.loadb1 rfl rfl rfl vs3 rfl) rfl rfl (by decide) ?_
        refine TrOps.gT rfl rfl rfl rfl c19 ?_
        refine TrOps.sem (OpSem.bin rfl rfl rfl bneq) rfl rfl (by decide) ?_
        refine TrOps.sem (OpSem.pickT rfl rfl c19 rfl) rfl rfl (by decide) ?_
        refine TrOps.nil ?_
        refine At.seq ?_
        refine Tr.cond rfl (fun c25 => ?_) (fun c25 => ?_)
        · refine Tr.region ?_
          refine TrOps.sem (OpSem.build rfl rfl pl29 zc29 rfl rfl) rfl rfl (by decide) ?_
          refine TrOps.storeb rfl rfl rfl rfl rfl rfl rfl vs29 (by first | decide | simp) ?_
          refine TrOps.nil ?_
          have he : (9, -6) = prdF2 a b := by have q := pair0 (f := prdF1 a b) (by simpa using c19); unfold prdF2; rw [if_neg (fun hn => hn q), if_pos (by simpa using c25)]
          refine At.meet ?_
          exact .slot rfl (.refl _) <| .slot rfl (.refl _) <| .slot rfl (.refl _) <| .slot rfl (.refl _) <| .slot rfl (.refl _) <| .mem rfl <| .mem rfl <| .mem rfl <| .mem rfl <| .boxLe rfl (.cons (Le.i (congrArg Prod.fst (he))) <| .cons (Le.i (congrArg Prod.snd (he))) <| .nil) <| .nil
        · refine Tr.skip ?_
          have he : prdF1 a b = prdF2 a b := by have q := pair0 (f := prdF1 a b) (by simpa using c19); unfold prdF2; rw [if_neg (fun hn => hn q), if_neg (by simpa using c25), q]
          refine At.meet ?_
          exact .slot rfl (.refl _) <| .slot rfl (.refl _) <| .slot rfl (.refl _) <| .slot rfl (.refl _) <| .slot rfl (.refl _) <| .mem rfl <| .mem rfl <| .mem rfl <| .mem rfl <| .boxLe rfl (.cons (Le.i (congrArg Prod.fst (he))) <| .cons (Le.i (congrArg Prod.snd (he))) <| .nil) <| .nil
      · refine TrOps.gF rfl rfl rfl rfl c19 rfl (by decide) ?_
        refine TrOps.gF rfl rfl rfl rfl c19 rfl (by decide) ?_
        refine TrOps.gF rfl rfl rfl rfl c19 rfl (by decide) ?_
        refine TrOps.gF rfl rfl rfl rfl c19 rfl (by decide) ?_
        refine TrOps.gF rfl rfl rfl rfl c19 rfl (by decide) ?_
        refine TrOps.sem (OpSem.pickF rfl rfl c19 rfl) rfl rfl (by decide) ?_
        refine TrOps.nil ?_
        refine At.seq ?_
        refine Tr.condF rfl rfl ?_
        refine Tr.skip ?_
        have he : prdF1 a b = prdF2 a b := by unfold prdF2; rw [if_pos (fun h => by rw [h] at c19; simp at c19)]
        refine At.meet ?_
        exact .slot rfl (.refl _) <| .slot rfl (.refl _) <| .slot rfl (.refl _) <| .slot rfl (.refl _) <| .slot rfl (.refl _) <| .mem rfl <| .mem rfl <| .mem rfl <| .mem rfl <| .boxLe rfl (.cons (Le.i (congrArg Prod.fst (he))) <| .cons (Le.i (congrArg Prod.snd (he))) <| .nil) <| .nil
    · refine Tr.cut [(2, .r 2 0), (3, .r 3 0), (4, .r 4 0), (5, .r 5 0), (6, .r 6 0)] [(2, .box [I (a.states), I (a.labels), .d (arcsD a.arcs), I (a.init), .d (ints a.goals)]), (3, .box [I (b.states), I (b.labels), .d (arcsD b.arcs), I (b.init), .d (ints b.goals)]), (4, .box [I (0), I (0), .d (.v (.slice none 0 0)), I (0), .d (.v (.slice none 0 0))]), (5, .box [I (0), I (0)]), (6, .box [I ((prdF3 a b).1), I ((prdF3 a b).2)])] ?_ ?_
      · refine Tr.seq ?_
        refine Tr.region ?_
        refine TrOps.sem (OpSem.loadbN rfl rfl rfl vs29 (by first | decide | simp)) rfl rfl (by decide) ?_
        refine TrOps.sem (OpSem.build rfl rfl pl29 zc29 rfl rfl) rfl rfl (by decide) ?_
        refine TrOps.sem (OpSem.eqS2 rfl rfl rfl io29) rfl rfl (by decide) ?_
        refine TrOps.sem (OpSem.move (.inl rfl) rfl) rfl rfl (by decide) ?_
        refine TrOps.split (n := 30) rfl (fun c30 => ?_) (fun c30 => ?_)
        · have q0 := pair0 (f := prdF2 a b) (by simpa using c30)
          have q1 := prdF1_inv (prdF2_inv q0).1
          have hs1 := (absFault_ok (congrArg Prod.fst q1.1)).1.head.1
          have hs2 := (absFault_ok (congrArg Prod.fst q1.2)).1.head.1
          have hpp : 0 ≤ a.states * b.states ∧ a.states * b.states ≤ 3600 := mul_in (by omega) (by omega)
          refine TrOps.gT rfl rfl rfl rfl c30 ?_
          refine TrOps.sem (OpSem.fieldr rfl rfl fo46_0) rfl rfl (by decide) ?_
          refine TrOps.gT rfl rfl rfl rfl c30 ?_
          refine TrOps.sem (OpSem.loadb1 rfl rfl rfl vs3 rfl) rfl rfl (by decide) ?_
          refine TrOps.gT rfl rfl rfl rfl c30 ?_
          refine TrOps.sem (OpSem.fieldr rfl rfl fo46_0) rfl rfl (by decide) ?_
          refine TrOps.gT rfl rfl rfl rfl c30 ?_
          refine TrOps.sem (OpSem.loadb1 rfl rfl rfl vs3 rfl) rfl rfl (by decide) ?_
          refine TrOps.gT rfl rfl rfl rfl c30 ?_
          refine TrOps.sem (OpSem.bin rfl rfl rfl (bmul (by omega) (by omega))) rfl rfl (by decide) ?_
          refine TrOps.gT rfl rfl rfl rfl c30 ?_
          refine TrOps.sem (OpSem.bin rfl rfl rfl bgtr) rfl rfl (by decide) ?_
          refine TrOps.sem (OpSem.pickT rfl rfl c30 rfl) rfl rfl (by decide) ?_
          refine TrOps.nil ?_
          refine At.seq ?_
          refine Tr.cond rfl (fun c37 => ?_) (fun c37 => ?_)
          · refine Tr.region ?_
            refine TrOps.sem (OpSem.build rfl rfl pl29 zc29 rfl rfl) rfl rfl (by decide) ?_
            refine TrOps.storeb rfl rfl rfl rfl rfl rfl rfl vs29 (by first | decide | simp) ?_
            refine TrOps.nil ?_
            have he : (10, -7) = prdF3 a b := by unfold prdF3; rw [if_neg (fun hn => hn q0), if_pos (by simpa using c37)]
            refine At.meet ?_
            exact .slot rfl (.refl _) <| .slot rfl (.refl _) <| .slot rfl (.refl _) <| .slot rfl (.refl _) <| .slot rfl (.refl _) <| .mem rfl <| .mem rfl <| .mem rfl <| .mem rfl <| .boxLe rfl (.cons (Le.i (congrArg Prod.fst (he))) <| .cons (Le.i (congrArg Prod.snd (he))) <| .nil) <| .nil
          · refine Tr.skip ?_
            have he : prdF2 a b = prdF3 a b := by unfold prdF3; rw [if_neg (fun hn => hn q0), if_neg (by simpa using c37), q0]
            refine At.meet ?_
            exact .slot rfl (.refl _) <| .slot rfl (.refl _) <| .slot rfl (.refl _) <| .slot rfl (.refl _) <| .slot rfl (.refl _) <| .mem rfl <| .mem rfl <| .mem rfl <| .mem rfl <| .boxLe rfl (.cons (Le.i (congrArg Prod.fst (he))) <| .cons (Le.i (congrArg Prod.snd (he))) <| .nil) <| .nil
        · refine TrOps.gF rfl rfl rfl rfl c30 rfl (by decide) ?_
          refine TrOps.gF rfl rfl rfl rfl c30 rfl (by decide) ?_
          refine TrOps.gF rfl rfl rfl rfl c30 rfl (by decide) ?_
          refine TrOps.gF rfl rfl rfl rfl c30 rfl (by decide) ?_
          refine TrOps.gF rfl rfl rfl rfl c30 rfl (by decide) ?_
          refine TrOps.gF rfl rfl rfl rfl c30 rfl (by decide) ?_
          refine TrOps.sem (OpSem.pickF rfl rfl c30 rfl) rfl rfl (by decide) ?_
          refine TrOps.nil ?_
          refine At.seq ?_
          refine Tr.condF rfl rfl ?_
          refine Tr.skip ?_
          have he : prdF2 a b = prdF3 a b := by unfold prdF3; rw [if_pos (fun h => by rw [h] at c30; simp at c30)]
          refine At.meet ?_
          exact .slot rfl (.refl _) <| .slot rfl (.refl _) <| .slot rfl (.refl _) <| .slot rfl (.refl _) <| .slot rfl (.refl _) <| .mem rfl <| .mem rfl <| .mem rfl <| .mem rfl <| .boxLe rfl (.cons (Le.i (congrArg Prod.fst (he))) <| .cons (Le.i (congrArg Prod.snd (he))) <| .nil) <| .nil
      · refine Tr.seq ?_
        refine Tr.seq ?_
        refine Tr.region ?_
        refine TrOps.sem (OpSem.loadbN rfl rfl rfl vs29 (by first | decide | simp)) rfl rfl (by decide) ?_
        refine TrOps.sem (OpSem.build rfl rfl pl29 zc29 rfl rfl) rfl rfl (by decide) ?_
        refine TrOps.sem (OpSem.neS2 rfl rfl rfl io29) rfl rfl (by decide) ?_
        refine TrOps.nil ?_
        refine At.seq ?_
        refine Tr.cond rfl (fun c41 => ?_) (fun c41 => ?_)
        · have hne : prdF3 a b ≠ (0, 0) := fun h => by rw [h] at c41; simp at c41
          have he : prdF3 a b = prdF a b := by unfold prdF; rw [if_pos hne]
          have hne2 : prdF a b ≠ (0, 0) := by rw [← he]; exact hne
          refine Tr.seq ?_
          refine PC.start [4] ?_
          refine PC.sem (OpSem.build rfl rfl pl46 zc46 rfl rfl) rfl rfl ?_
          refine PC.sem (OpSem.loadbN rfl rfl rfl vs29 (by first | decide | simp)) rfl rfl ?_
          refine PC.storeb 100002 rfl rfl rfl rfl rfl rfl rfl vs46 (by first | decide | simp) ?_
          refine PC.done mixed (by kernel_rfl) (by kernel_rfl) (by kernel_rfl) (by kernel_rfl) ?_
          refine TrOps.storeb rfl rfl rfl rfl rfl rfl rfl vs29 (by first | decide | simp) ?_
          refine TrOps.nil ?_
          refine At.seq ?_
          refine Tr.ret ?_
          refine At.pass_ret ?_
          exact At.ret rfl (.cellN rfl rfl vs46 <| .cellN rfl rfl vs29 <| .nil) rfl (Le.t (.cons (by rw [prdR_1 hne2]; exact Le.g (.cons (.refl _) <| .cons (.refl _) <| .cons (Le.nil 3) <| .cons (.refl _) <| .cons (Le.nil 1) <| .nil)) <| .cons (Le.flt (by rw [← he])) <| .nil))
        · have h0 : prdF3 a b = (0, 0) := pair0 (f := prdF3 a b) (by simpa using c41)
          have hP := prdF3_ok h0
          refine Tr.skip ?_
          refine At.seq ?_
          refine Tr.seq ?_
          refine Tr.region ?_
          refine TrOps.sem (OpSem.loadbN rfl rfl rfl vs46 (by first | decide | simp)) rfl rfl (by decide) ?_
          refine TrOps.sem (OpSem.loadbN rfl rfl rfl vs46 (by first | decide | simp)) rfl rfl (by decide) ?_
          refine TrOps.sem (OpSem.call0 (abstraction_Times_does a b hP) rfl rfl rfl rfl (Les.refl _)) rfl rfl (by decide) ?_
          refine TrOps.semM (OpSem.alloc 7 rfl zc46 rfl) rfl rfl (by decide) ?_
          refine TrOps.storeb rfl rfl rfl rfl rfl rfl rfl vs46 (by first | decide | simp) ?_
          refine TrOps.nil ?_
          refine At.seq ?_
          refine Tr.seq ?_
          refine Tr.seq ?_
          refine Tr.region ?_
          refine TrOps.sem (OpSem.fieldr rfl rfl fo46_2) rfl rfl (by decide) ?_
          refine TrOps.sem (OpSem.loadb1 rfl rfl rfl vs44 rfl) rfl rfl (by decide) ?_
          refine TrOps.sem (OpSem.lenL rfl rfl es44) rfl rfl (by decide) ?_
          refine TrOps.sem (OpSem.bin rfl rfl rfl bgtr) rfl rfl (by decide) ?_
          refine TrOps.nil ?_
          refine At.seq ?_
          refine Tr.cond rfl (fun c50 => ?_) (fun c50 => ?_)
          · have he : (10, -7) = prdF a b := (prdF_big hP (by simp at c50; omega)).symm
            have hne2 : prdF a b ≠ (0, 0) := by rw [← he]; decide
            refine Tr.seq ?_
            refine Tr.region ?_
            refine TrOps.sem (OpSem.build rfl rfl pl46 zc46 rfl rfl) rfl rfl (by decide) ?_
            refine TrOps.sem (OpSem.build rfl rfl pl29 zc29 rfl rfl) rfl rfl (by decide) ?_
            refine TrOps.storeb rfl rfl rfl rfl rfl rfl rfl vs46 (by first | decide | simp) ?_
            refine TrOps.storeb rfl rfl rfl rfl rfl rfl rfl vs29 (by first | decide | simp) ?_
            refine TrOps.nil ?_
            refine At.seq ?_
            refine Tr.ret ?_
            refine At.pass_ret ?_
            exact At.ret rfl (.cellN rfl rfl vs46 <| .cellN rfl rfl vs29 <| .nil) rfl (Le.t (.cons (by rw [prdR_1 hne2]; exact Le.g (.cons (.refl _) <| .cons (.refl _) <| .cons (Le.nil 3) <| .cons (.refl _) <| .cons (Le.nil 1) <| .nil)) <| .cons (Le.flt he) <| .nil))
          · have he : prdF a b = (0, 0) := prdF_of hP (by simp at c50; omega)
            refine Tr.skip ?_
            refine At.seq ?_
            refine Tr.seq ?_
            refine PC.start [4] ?_
            refine PC.sem (OpSem.loadbN rfl rfl rfl vs46 (by first | decide | simp)) rfl rfl ?_
            refine PC.sem (OpSem.loadbN rfl rfl rfl vs29 (by first | decide | simp)) rfl rfl ?_
            refine PC.storeb 100002 rfl rfl rfl rfl rfl rfl rfl vs46 (by first | decide | simp) ?_
            refine PC.done mixed (by kernel_rfl) (by kernel_rfl) (by kernel_rfl) (by kernel_rfl) ?_
            refine TrOps.storeb rfl rfl rfl rfl rfl rfl rfl vs29 (by first | decide | simp) ?_
            refine TrOps.nil ?_
            refine At.seq ?_
            refine Tr.ret ?_
            exact At.ret rfl (.cellN rfl rfl vs46 <| .cellN rfl rfl vs29 <| .nil) rfl (Le.t (.cons (Le.of_eq (by rw [prdR_0 he]; rfl)) <| .cons (Le.flt (by rw [he, h0])) <| .nil))

theorem Q_TimesOf_does (a b : Abs) (h : PrdP a b) : Does Try.prog false 42 [absS a, absS b] (absS (timA a b)) := by
  have hA := h.oa
  have hB := h.ob
  have hal := hA.len
  have hbl := hB.len
  have hst := h.st
  have hs1 := hA.head.1
  have hs2 := hB.head.1
  have hi1 := hA.head.2.2
  have hi2 := hB.head.2.2
  have hga := goals_len hA
  have hgb := goals_len hB
  have hpi := pair_in hi1 hi2
  have hmi : 0 ≤ a.init * b.states := Int.mul_nonneg hi1.1 (by omega)
  have hps := prd_st h
  have hnl : a.labels ≤ 40 := hA.head.2.1.2
  have hci : b.states * a.init = a.init * b.states := Int.mul_comm _ _
  refine Does.of_body Try.func42 rfl rfl (by simp) Try.call42 (fun w0 O0 => ?_)
  refine Tr.lenG (n := 0) (i := 2) rfl rfl (fun len0_2 => ?_)
  refine Tr.lenG (n := 0) (i := 4) rfl rfl (fun len0_4 => ?_)
  refine Tr.lenG (n := 1) (i := 2) rfl rfl (fun len1_2 => ?_)
  refine Tr.lenG (n := 1) (i := 4) rfl rfl (fun len1_4 => ?_)
  refine Tr.seq ?_
  refine Tr.region ?_
  refine TrOps.semM (OpSem.box 2 rfl rfl rfl rfl) rfl rfl (by decide) ?_
  refine TrOps.semM (OpSem.box 3 rfl rfl rfl rfl) rfl rfl (by decide) ?_
  refine TrOps.semM (OpSem.alloc 4 rfl zc46 rfl) rfl rfl (by decide) ?_
  refine TrOps.nil ?_
  refine At.seq ?_
  refine Tr.seq ?_
  refine Tr.region ?_
  refine TrOps.sem (OpSem.fieldr rfl rfl fo46_0) rfl rfl (by decide) ?_
  refine TrOps.sem (OpSem.loadb1 rfl rfl rfl vs3 rfl) rfl rfl (by decide) ?_
  refine TrOps.sem (OpSem.fieldr rfl rfl fo46_0) rfl rfl (by decide) ?_
  refine TrOps.sem (OpSem.loadb1 rfl rfl rfl vs3 rfl) rfl rfl (by decide) ?_
  refine TrOps.sem (OpSem.bin rfl rfl rfl (bmul (by omega) (by omega))) rfl rfl (by decide) ?_
  refine TrOps.sem (OpSem.fieldr rfl rfl fo46_1) rfl rfl (by decide) ?_
  refine TrOps.sem (OpSem.loadb1 rfl rfl rfl vs3 rfl) rfl rfl (by decide) ?_
  refine TrOps.sem (OpSem.fieldr rfl rfl fo46_0) rfl rfl (by decide) ?_
  refine TrOps.sem (OpSem.loadb1 rfl rfl rfl vs3 rfl) rfl rfl (by decide) ?_
  refine TrOps.sem (OpSem.fieldr rfl rfl fo46_3) rfl rfl (by decide) ?_
  refine TrOps.sem (OpSem.loadb1 rfl rfl rfl vs3 rfl) rfl rfl (by decide) ?_
  refine TrOps.sem (OpSem.bin rfl rfl rfl (bmul (by omega) (by omega))) rfl rfl (by decide) ?_
  refine TrOps.sem (OpSem.fieldr rfl rfl fo46_3) rfl rfl (by decide) ?_
  refine TrOps.sem (OpSem.loadb1 rfl rfl rfl vs3 rfl) rfl rfl (by decide) ?_
  refine TrOps.sem (OpSem.bin rfl rfl rfl (badd (by omega) (by omega))) rfl rfl (by decide) ?_
  refine TrOps.sem (OpSem.build rfl rfl pl46 zc46 rfl rfl) rfl rfl (by decide) ?_
  refine TrOps.semM (OpSem.alloc 5 rfl zc46 rfl) rfl rfl (by decide) ?_
  refine TrOps.storeb rfl rfl rfl rfl rfl rfl rfl vs46 (by first | decide | simp) ?_
  refine TrOps.nil ?_
  refine At.seq ?_
  refine Tr.seq ?_
  refine Tr.seq ?_
  refine Tr.ownNilBox 91 5 4 1 3 rfl rfl rfl ?_
  refine Tr.ownNilBox 92 5 2 3 93 rfl rfl rfl ?_
  refine Tr.region ?_
  refine TrOps.sem (OpSem.move (.inr rfl) rfl) rfl rfl (by decide) ?_
  refine TrOps.nil ?_
  refine At.seq ?_
  refine Tr.block ?_
  refine Tr.loop (X := Nat) (fun n => (n : Int) ≤ a.states * b.states) (fun n => [(2, .r 2 0), (3, .r 3 0), (4, .r 4 0), (5, .r 5 0), (6, I (n))]) (fun n => [(5, .box [I (a.states * b.states), I (a.labels), .o 92, I (a.init * b.states + b.init), .o 91]), (91, .own 1 3 ((gN a b n).map fun n => [D.v (.int .i64 n)])), (92, .own 3 93 ((rN a b n).map arcC)), (2, .box [I (a.states), I (a.labels), .d (arcsD a.arcs), I (a.init), .d (ints a.goals)]), (3, .box [I (b.states), I (b.labels), .d (arcsD b.arcs), I (b.init), .d (ints b.goals)]), (4, .box [I (0), I (0), .d (.v (.slice none 0 0)), I (0), .d (.v (.slice none 0 0))])]) (fun n => (a.states * b.states).toNat - n) 0 (by omega) ?_ ?_
  · exact .slot rfl (.refl _) <| .slot rfl (.refl _) <| .slot rfl (.refl _) <| .slot rfl (.refl _) <| .slot rfl (Le.of_eq (by simp)) <| .boxLe rfl (.cons (.refl _) <| .cons (.refl _) <| .cons (.refl _) <| .cons (Le.i (by rw [hci])) <| .cons (.refl _) <| .nil) <| .memEq rfl (by first | (simp [gN]; done) | (simp [gN]; rfl)) <| .memEq rfl (by first | (simp [rN]; done) | (simp [rN]; rfl)) <| .mem rfl <| .mem rfl <| .mem rfl <| .nil
  · rintro n hnle
    refine Tr.seq ?_
    refine Tr.seq ?_
    refine Tr.region ?_
    refine TrOps.sem (OpSem.move (.inl rfl) rfl) rfl rfl (by decide) ?_
    refine TrOps.sem (OpSem.fieldr rfl rfl fo46_0) rfl rfl (by decide) ?_
    refine TrOps.sem (OpSem.loadb1 rfl rfl rfl vs3 rfl) rfl rfl (by decide) ?_
    refine TrOps.sem (OpSem.bin rfl rfl rfl blss) rfl rfl (by decide) ?_
    refine TrOps.nil ?_
    refine At.seq ?_
    refine Tr.cond rfl (fun c31 => ?_) (fun c31 => ?_)
    · have hn : (n : Int) < a.states * b.states := by simpa using c31
      have hpo := pair_of (n := (n : Int)) (r := a.states) (s := b.states) (by omega) hn (by omega)
      have hNl := rN_len (a := a) (b := b) (n := n) (by omega) (by omega) (by omega)
      have hGl := gN_len (a := a) (b := b) (n := n)
      refine Tr.skip ?_
      refine At.seq ?_
      refine Tr.seq ?_
      refine Tr.block ?_
      refine Tr.seq ?_
      refine PC.start [] ?_
      refine PC.sem (OpSem.move (.inl rfl) rfl) rfl rfl ?_
      refine PC.sem (OpSem.fieldr rfl rfl fo46_0) rfl rfl ?_
      refine PC.sem (OpSem.loadb1 rfl rfl rfl vs3 rfl) rfl rfl ?_
      refine PC.sem (OpSem.bin rfl rfl rfl (bquo (by omega) (by omega) (by omega))) rfl rfl ?_
      refine PC.sem (OpSem.move (.inl rfl) rfl) rfl rfl ?_
      refine PC.sem (OpSem.fieldr rfl rfl fo46_0) rfl rfl ?_
      refine PC.sem (OpSem.loadb1 rfl rfl rfl vs3 rfl) rfl rfl ?_
      refine PC.sem (OpSem.bin rfl rfl rfl (brem (by omega) (by omega))) rfl rfl ?_
      refine PC.sem (OpSem.move (.inr rfl) rfl) rfl rfl ?_
      refine PC.done0 mixed (by kernel_rfl) (by kernel_rfl) (by kernel_rfl) (by kernel_rfl) (by kernel_rfl) ?_
      refine TrOps.sem (OpSem.move (.inr rfl) rfl) rfl rfl (by decide) ?_
      refine TrOps.nil ?_
      refine At.seq ?_
      refine Tr.cut [(2, .r 2 0), (3, .r 3 0), (4, .r 4 0), (5, .r 5 0), (6, I (n)), (7, I ((n : Int) / b.states)), (8, I ((n : Int) % b.states))] [(2, .box [I (a.states), I (a.labels), .d (arcsD a.arcs), I (a.init), .d (ints a.goals)]), (3, .box [I (b.states), I (b.labels), .d (arcsD b.arcs), I (b.init), .d (ints b.goals)]), (4, .box [I (0), I (0), .d (.v (.slice none 0 0)), I (0), .d (.v (.slice none 0 0))]), (5, .box [I (a.states * b.states), I (a.labels), .o 92, I (a.init * b.states + b.init), .o 91]), (91, .own 1 3 ((gN a b (n + 1)).map fun n => [D.v (.int .i64 n)])), (92, .own 3 93 ((rN a b n).map arcC))] ?_ ?_
      · refine Tr.seq ?_
        refine Tr.region ?_
        refine TrOps.sem (OpSem.fieldr rfl rfl fo46_4) rfl rfl (by decide) ?_
        refine TrOps.sem (OpSem.loadb1 rfl rfl rfl vs22 rfl) rfl rfl (by decide) ?_
        refine TrOps.sem (OpSem.move (.inl rfl) rfl) rfl rfl (by decide) ?_
        refine TrOps.sem (OpSem.call0 (R_Has_does a.goals ((n : Int) / b.states)) rfl rfl rfl rfl (Les.refl _)) rfl rfl (by decide) ?_
        refine TrOps.sem (OpSem.move (.inl rfl) rfl) rfl rfl (by decide) ?_
        refine TrOps.split (n := 46) rfl (fun c46 => ?_) (fun c46 => ?_)
        · have hg1 : (n : Int) / b.states ∈ a.goals := of_decide_eq_true c46
          refine TrOps.gT rfl rfl rfl rfl c46 ?_
          refine TrOps.sem (OpSem.fieldr rfl rfl fo46_4) rfl rfl (by decide) ?_
          refine TrOps.gT rfl rfl rfl rfl c46 ?_
          refine TrOps.sem (OpSem.loadb1 rfl rfl rfl vs22 rfl) rfl rfl (by decide) ?_
          refine TrOps.gT rfl rfl rfl rfl c46 ?_
          refine TrOps.sem (OpSem.move (.inl rfl) rfl) rfl rfl (by decide) ?_
          refine TrOps.gT rfl rfl rfl rfl c46 ?_
          refine TrOps.sem (OpSem.call0 (R_Has_does b.goals ((n : Int) % b.states)) rfl rfl rfl rfl (Les.refl _)) rfl rfl (by decide) ?_
          refine TrOps.sem (OpSem.pickT rfl rfl c46 rfl) rfl rfl (by decide) ?_
          refine TrOps.nil ?_
          refine At.seq ?_
          refine Tr.cond rfl (fun c51 => ?_) (fun c51 => ?_)
          · have hg2 : (n : Int) % b.states ∈ b.goals := of_decide_eq_true c51
            refine Tr.region ?_
            refine TrOps.sem (OpSem.fieldr rfl rfl fo46_4) rfl rfl (by decide) ?_
            refine TrOps.sem (OpSem.loadb1 rfl rfl rfl vs22 rfl) rfl rfl (by decide) ?_
            refine TrOps.sem (OpSem.move (.inl rfl) rfl) rfl rfl (by decide) ?_
            refine TrOps.sem (OpSem.buildSlice rfl rfl es22 ze22 rfl rfl (by decide) (by decide) rfl rfl) rfl rfl (by decide) ?_
            refine TrOps.append rfl rfl rfl (by decide) rfl rfl rfl es22 el22 zc3 rfl by3 (by simp [D.one, Value.oneCell']) (by simp [maxLen]; omega) (by simp; omega) ?_
            refine TrOps.sem (OpSem.fieldr rfl rfl fo46_4) rfl rfl (by decide) ?_
            refine TrOps.storeb rfl rfl rfl rfl rfl rfl rfl vs22 (by first | decide | simp) ?_
            refine TrOps.nil ?_
            refine At.meet ?_
            exact .slot rfl (.refl _) <| .slot rfl (.refl _) <| .slot rfl (.refl _) <| .slot rfl (.refl _) <| .slot rfl (.refl _) <| .slot rfl (.refl _) <| .slot rfl (.refl _) <| .mem rfl <| .mem rfl <| .mem rfl <| .mem rfl <| .memEq rfl (by rw [← gN_t ⟨hg1, hg2⟩]; simp) <| .memEq rfl rfl <| .nil
          · have hg2 : (n : Int) % b.states ∉ b.goals := of_decide_eq_false c51
            refine Tr.skip ?_
            refine At.meet ?_
            exact .slot rfl (.refl _) <| .slot rfl (.refl _) <| .slot rfl (.refl _) <| .slot rfl (.refl _) <| .slot rfl (.refl _) <| .slot rfl (.refl _) <| .slot rfl (.refl _) <| .mem rfl <| .mem rfl <| .mem rfl <| .mem rfl <| .memEq rfl (by rw [← gN_f (fun hh => hg2 hh.2)]) <| .memEq rfl rfl <| .nil
        · have hg1 : (n : Int) / b.states ∉ a.goals := of_decide_eq_false c46
          refine TrOps.gF rfl rfl rfl rfl c46 rfl (by decide) ?_
          refine TrOps.gF rfl rfl rfl rfl c46 rfl (by decide) ?_
          refine TrOps.gF rfl rfl rfl rfl c46 rfl (by decide) ?_
          refine TrOps.gF rfl rfl rfl rfl c46 rfl (by decide) ?_
          refine TrOps.sem (OpSem.pickF rfl rfl c46 rfl) rfl rfl (by decide) ?_
          refine TrOps.nil ?_
          refine At.seq ?_
          refine Tr.condF rfl rfl ?_
          refine Tr.skip ?_
          refine At.meet ?_
          exact .slot rfl (.refl _) <| .slot rfl (.refl _) <| .slot rfl (.refl _) <| .slot rfl (.refl _) <| .slot rfl (.refl _) <| .slot rfl (.refl _) <| .slot rfl (.refl _) <| .mem rfl <| .mem rfl <| .mem rfl <| .mem rfl <| .memEq rfl (by rw [← gN_f (fun hh => hg1 hh.1)]) <| .memEq rfl rfl <| .nil
      · refine Tr.seq ?_
        refine Tr.region ?_
        refine TrOps.sem (OpSem.move (.inr rfl) rfl) rfl rfl (by decide) ?_
        refine TrOps.nil ?_
        refine At.seq ?_
        refine Tr.block ?_
        refine Tr.loop (X := Nat) (fun l => (l : Int) ≤ a.labels) (fun l => [(2, .r 2 0), (3, .r 3 0), (4, .r 4 0), (5, .r 5 0), (6, I (n)), (7, I ((n : Int) / b.states)), (8, I ((n : Int) % b.states)), (9, I (l))]) (fun l => [(5, .box [I (a.states * b.states), I (a.labels), .o 92, I (a.init * b.states + b.init), .o 91]), (91, .own 1 3 ((gN a b (n + 1)).map fun n => [D.v (.int .i64 n)])), (92, .own 3 93 ((rN a b n ++ rL a b n l).map arcC)), (2, .box [I (a.states), I (a.labels), .d (arcsD a.arcs), I (a.init), .d (ints a.goals)]), (3, .box [I (b.states), I (b.labels), .d (arcsD b.arcs), I (b.init), .d (ints b.goals)]), (4, .box [I (0), I (0), .d (.v (.slice none 0 0)), I (0), .d (.v (.slice none 0 0))])]) (fun l => a.labels.toNat - l) 0 (by have := hA.head.2.1; omega) ?_ ?_
        · exact .slot rfl (.refl _) <| .slot rfl (.refl _) <| .slot rfl (.refl _) <| .slot rfl (.refl _) <| .slot rfl (.refl _) <| .slot rfl (.refl _) <| .slot rfl (.refl _) <| .slot rfl (Le.of_eq (by simp)) <| .mem rfl <| .memEq rfl rfl <| .memEq rfl (by first | (simp [rL]; done) | (simp [rL]; rfl)) <| .mem rfl <| .mem rfl <| .mem rfl <| .nil
        · rintro l hll
          refine Tr.seq ?_
          refine Tr.seq ?_
          refine Tr.region ?_
          refine TrOps.sem (OpSem.move (.inl rfl) rfl) rfl rfl (by decide) ?_
          refine TrOps.sem (OpSem.fieldr rfl rfl fo46_1) rfl rfl (by decide) ?_
          refine TrOps.sem (OpSem.loadb1 rfl rfl rfl vs3 rfl) rfl rfl (by decide) ?_
          refine TrOps.sem (OpSem.bin rfl rfl rfl blss) rfl rfl (by decide) ?_
          refine TrOps.nil ?_
          refine At.seq ?_
          refine Tr.cond rfl (fun c61 => ?_) (fun c61 => ?_)
          · have hl : (l : Int) < a.labels := by simpa using c61
            have hLl := rL_len (a := a) (b := b) (n := n) (l := l) (by omega) (by omega)
            refine Tr.skip ?_
            refine At.seq ?_
            refine Tr.seq ?_
            refine Tr.block ?_
            refine Tr.seq ?_
            refine Tr.region ?_
            refine TrOps.sem (OpSem.move (.inr rfl) rfl) rfl rfl (by decide) ?_
            refine TrOps.nil ?_
            refine At.seq ?_
            refine Tr.block ?_
            refine Tr.loop (X := Nat) (fun i => i ≤ a.arcs.length) (fun i => [(2, .r 2 0), (3, .r 3 0), (4, .r 4 0), (5, .r 5 0), (6, I (n)), (7, I ((n : Int) / b.states)), (8, I ((n : Int) % b.states)), (9, I (l)), (10, I (i))]) (fun i => [(5, .box [I (a.states * b.states), I (a.labels), .o 92, I (a.init * b.states + b.init), .o 91]), (91, .own 1 3 ((gN a b (n + 1)).map fun n => [D.v (.int .i64 n)])), (92, .own 3 93 ((rN a b n ++ rL a b n l ++ rI a b n l i).map arcC)), (2, .box [I (a.states), I (a.labels), .d (arcsD a.arcs), I (a.init), .d (ints a.goals)]), (3, .box [I (b.states), I (b.labels), .d (arcsD b.arcs), I (b.init), .d (ints b.goals)]), (4, .box [I (0), I (0), .d (.v (.slice none 0 0)), I (0), .d (.v (.slice none 0 0))])]) (fun i => a.arcs.length - i) 0 (by omega) ?_ ?_
            · exact .slot rfl (.refl _) <| .slot rfl (.refl _) <| .slot rfl (.refl _) <| .slot rfl (.refl _) <| .slot rfl (.refl _) <| .slot rfl (.refl _) <| .slot rfl (.refl _) <| .slot rfl (.refl _) <| .slot rfl (Le.of_eq (by simp)) <| .mem rfl <| .memEq rfl rfl <| .memEq rfl (by first | (simp [rI]; done) | (simp [rI]; rfl)) <| .mem rfl <| .mem rfl <| .mem rfl <| .nil
            · rintro i hil
              refine Tr.seq ?_
              refine Tr.seq ?_
              refine Tr.region ?_
              refine TrOps.sem (OpSem.move (.inl rfl) rfl) rfl rfl (by decide) ?_
              refine TrOps.sem (OpSem.fieldr rfl rfl fo46_2) rfl rfl (by decide) ?_
              refine TrOps.sem (OpSem.loadb1 rfl rfl rfl vs44 rfl) rfl rfl (by decide) ?_
              refine TrOps.sem (OpSem.lenL rfl rfl es44) rfl rfl (by decide) ?_
              refine TrOps.sem (OpSem.bin rfl rfl rfl blss) rfl rfl (by decide) ?_
              refine TrOps.nil ?_
              refine At.seq ?_
              refine Tr.cond rfl (fun c68 => ?_) (fun c68 => ?_)
              · have hi : i < a.arcs.length := by simpa using c68
                have hx := hA.arc i hi
                have hIl := rI_len (a := a) (b := b) (n := n) (lab := l) (i := i) (by omega)
                refine Tr.skip ?_
                refine At.seq ?_
                refine Tr.seq ?_
                refine Tr.block ?_
                refine Tr.seq ?_
                refine Tr.region ?_
                refine TrOps.sem (OpSem.move (.inr rfl) rfl) rfl rfl (by decide) ?_
                refine TrOps.nil ?_
                refine At.seq ?_
                refine Tr.block ?_
                refine Tr.loop (X := Nat) (fun k => k ≤ b.arcs.length) (fun k => [(2, .r 2 0), (3, .r 3 0), (4, .r 4 0), (5, .r 5 0), (6, I (n)), (7, I ((n : Int) / b.states)), (8, I ((n : Int) % b.states)), (9, I (l)), (10, I (i)), (11, I (k))]) (fun k => [(5, .box [I (a.states * b.states), I (a.labels), .o 92, I (a.init * b.states + b.init), .o 91]), (91, .own 1 3 ((gN a b (n + 1)).map fun n => [D.v (.int .i64 n)])), (92, .own 3 93 ((rN a b n ++ rL a b n l ++ rI a b n l i ++ rK a b n l i k).map arcC)), (2, .box [I (a.states), I (a.labels), .d (arcsD a.arcs), I (a.init), .d (ints a.goals)]), (3, .box [I (b.states), I (b.labels), .d (arcsD b.arcs), I (b.init), .d (ints b.goals)]), (4, .box [I (0), I (0), .d (.v (.slice none 0 0)), I (0), .d (.v (.slice none 0 0))])]) (fun k => b.arcs.length - k) 0 (by omega) ?_ ?_
                · exact .slot rfl (.refl _) <| .slot rfl (.refl _) <| .slot rfl (.refl _) <| .slot rfl (.refl _) <| .slot rfl (.refl _) <| .slot rfl (.refl _) <| .slot rfl (.refl _) <| .slot rfl (.refl _) <| .slot rfl (.refl _) <| .slot rfl (Le.of_eq (by simp)) <| .mem rfl <| .memEq rfl rfl <| .memEq rfl (by first | (simp [rK_0]; done) | (simp [rK_0]; rfl)) <| .mem rfl <| .mem rfl <| .mem rfl <| .nil
                · rintro k hkl
                  refine Tr.seq ?_
                  refine Tr.seq ?_
                  refine Tr.region ?_
                  refine TrOps.sem (OpSem.move (.inl rfl) rfl) rfl rfl (by decide) ?_
                  refine TrOps.sem (OpSem.fieldr rfl rfl fo46_2) rfl rfl (by decide) ?_
                  refine TrOps.sem (OpSem.loadb1 rfl rfl rfl vs44 rfl) rfl rfl (by decide) ?_
                  refine TrOps.sem (OpSem.lenL rfl rfl es44) rfl rfl (by decide) ?_
                  refine TrOps.sem (OpSem.bin rfl rfl rfl blss) rfl rfl (by decide) ?_
                  refine TrOps.sem (OpSem.move (.inl rfl) rfl) rfl rfl (by decide) ?_
                  refine TrOps.split (n := 76) rfl (fun c76 => ?_) (fun c76 => ?_)
                  · have hk : k < b.arcs.length := by simpa using c76
                    refine TrOps.gT rfl rfl rfl rfl c76 ?_
                    refine TrOps.sem (OpSem.fieldr rfl rfl fo46_2) rfl rfl (by decide) ?_
                    refine TrOps.gT rfl rfl rfl rfl c76 ?_
                    refine TrOps.sem (OpSem.loadb1 rfl rfl rfl vs44 rfl) rfl rfl (by decide) ?_
                    refine TrOps.gT rfl rfl rfl rfl c76 ?_
                    refine TrOps.sem (OpSem.move (.inl rfl) rfl) rfl rfl (by decide) ?_
                    refine TrOps.gT rfl rfl rfl rfl c76 ?_
                    refine TrOps.sem (OpSem.idxL rfl rfl rfl es44 (by omega) (by omega)) rfl rfl (by decide) ?_
                    refine TrOps.gT rfl rfl rfl rfl c76 ?_
                    refine TrOps.sem (OpSem.fieldp rfl rfl fo93_0) rfl rfl (by decide) ?_
                    refine TrOps.gT rfl rfl rfl rfl c76 ?_
                    refine TrOps.sem (OpSem.load1 rfl rfl vs3 rfl) rfl rfl (by decide) ?_
                    refine TrOps.gT rfl rfl rfl rfl c76 ?_
                    refine TrOps.sem (OpSem.move (.inl rfl) rfl) rfl rfl (by decide) ?_
                    refine TrOps.gT rfl rfl rfl rfl c76 ?_
                    refine TrOps.sem (OpSem.bin rfl rfl rfl beql) rfl rfl (by decide) ?_
                    refine TrOps.sem (OpSem.pickT rfl rfl c76 rfl) rfl rfl (by decide) ?_
                    refine TrOps.sem (OpSem.move (.inl rfl) rfl) rfl rfl (by decide) ?_
                    refine TrOps.split (n := 86) rfl (fun c86 => ?_) (fun c86 => ?_)
                    · have hf1 : (nth a.arcs i).fr = (n : Int) / b.states := by simpa using c86
                      refine TrOps.gT rfl rfl rfl rfl c86 ?_
                      refine TrOps.sem (OpSem.fieldr rfl rfl fo46_2) rfl rfl (by decide) ?_
                      refine TrOps.gT rfl rfl rfl rfl c86 ?_
                      refine TrOps.sem (OpSem.loadb1 rfl rfl rfl vs44 rfl) rfl rfl (by decide) ?_
                      refine TrOps.gT rfl rfl rfl rfl c86 ?_
                      refine TrOps.sem (OpSem.move (.inl rfl) rfl) rfl rfl (by decide) ?_
                      refine TrOps.gT rfl rfl rfl rfl c86 ?_
                      refine TrOps.sem (OpSem.idxL rfl rfl rfl es44 (by omega) (by omega)) rfl rfl (by decide) ?_
                      refine TrOps.gT rfl rfl rfl rfl c86 ?_
                      refine TrOps.sem (OpSem.fieldp rfl rfl fo93_1) rfl rfl (by decide) ?_
                      refine TrOps.gT rfl rfl rfl rfl c86 ?_
                      refine TrOps.sem (OpSem.load1 rfl rfl vs3 rfl) rfl rfl (by decide) ?_
                      refine TrOps.gT rfl rfl rfl rfl c86 ?_
                      refine TrOps.sem (OpSem.move (.inl rfl) rfl) rfl rfl (by decide) ?_
                      refine TrOps.gT rfl rfl rfl rfl c86 ?_
                      refine TrOps.sem (OpSem.bin rfl rfl rfl beql) rfl rfl (by decide) ?_
                      refine TrOps.sem (OpSem.pickT rfl rfl c86 rfl) rfl rfl (by decide) ?_
                      refine TrOps.nil ?_
                      refine At.seq ?_
                      refine Tr.cond rfl (fun c95 => ?_) (fun c95 => ?_)
                      · have hf2 : (nth a.arcs i).lab = (l : Int) := by simpa using c95
                        have hKl := rK_len (a := a) (b := b) (n := n) (lab := l) (i := i) (k := k)
                        have hy := hB.arc k hk
                        have hp2 := pair_in hx.2.2 hy.2.2
                        have hm2 : 0 ≤ (nth a.arcs i).to * b.states := Int.mul_nonneg hx.2.2.1 (by omega)
                        refine Tr.skip ?_
                        refine At.seq ?_
                        refine Tr.seq ?_
                        refine Tr.block ?_
                        refine Tr.seq ?_
                        refine Tr.region ?_
                        refine TrOps.sem (OpSem.fieldr rfl rfl fo46_2) rfl rfl (by decide) ?_
                        refine TrOps.sem (OpSem.loadb1 rfl rfl rfl vs44 rfl) rfl rfl (by decide) ?_
                        refine TrOps.sem (OpSem.move (.inl rfl) rfl) rfl rfl (by decide) ?_
                        refine TrOps.sem (OpSem.idxL rfl rfl rfl es44 (by omega) (by omega)) rfl rfl (by decide) ?_
                        refine TrOps.sem (OpSem.fieldp rfl rfl fo93_0) rfl rfl (by decide) ?_
                        refine TrOps.sem (OpSem.load1 rfl rfl vs3 rfl) rfl rfl (by decide) ?_
                        refine TrOps.sem (OpSem.move (.inl rfl) rfl) rfl rfl (by decide) ?_
                        refine TrOps.sem (OpSem.bin rfl rfl rfl beql) rfl rfl (by decide) ?_
                        refine TrOps.sem (OpSem.move (.inl rfl) rfl) rfl rfl (by decide) ?_
                        refine TrOps.split (n := 106) rfl (fun c106 => ?_) (fun c106 => ?_)
                        · have hy1 : (nth b.arcs k).fr = (n : Int) % b.states := by simpa using c106
                          refine TrOps.gT rfl rfl rfl rfl c106 ?_
                          refine TrOps.sem (OpSem.fieldr rfl rfl fo46_2) rfl rfl (by decide) ?_
                          refine TrOps.gT rfl rfl rfl rfl c106 ?_
                          refine TrOps.sem (OpSem.loadb1 rfl rfl rfl vs44 rfl) rfl rfl (by decide) ?_
                          refine TrOps.gT rfl rfl rfl rfl c106 ?_
                          refine TrOps.sem (OpSem.move (.inl rfl) rfl) rfl rfl (by decide) ?_
                          refine TrOps.gT rfl rfl rfl rfl c106 ?_
                          refine TrOps.sem (OpSem.idxL rfl rfl rfl es44 (by omega) (by omega)) rfl rfl (by decide) ?_
                          refine TrOps.gT rfl rfl rfl rfl c106 ?_
                          refine TrOps.sem (OpSem.fieldp rfl rfl fo93_1) rfl rfl (by decide) ?_
                          refine TrOps.gT rfl rfl rfl rfl c106 ?_
                          refine TrOps.sem (OpSem.load1 rfl rfl vs3 rfl) rfl rfl (by decide) ?_
                          refine TrOps.gT rfl rfl rfl rfl c106 ?_
                          refine TrOps.sem (OpSem.move (.inl rfl) rfl) rfl rfl (by decide) ?_
                          refine TrOps.gT rfl rfl rfl rfl c106 ?_
                          refine TrOps.sem (OpSem.bin rfl rfl rfl beql) rfl rfl (by decide) ?_
                          refine TrOps.sem (OpSem.pickT rfl rfl c106 rfl) rfl rfl (by decide) ?_
                          refine TrOps.nil ?_
                          refine At.seq ?_
                          refine Tr.cond rfl (fun c115 => ?_) (fun c115 => ?_)
                          · have hy2 : (nth b.arcs k).lab = (l : Int) := by simpa using c115
                            have hKs := rK_t hk ⟨hf1, hf2⟩ ⟨hy1, hy2⟩
                            refine PC.start [] ?_
                            refine PC.sem (OpSem.fieldr rfl rfl fo46_2) rfl rfl ?_
                            refine PC.sem (OpSem.loadb1 rfl rfl rfl vs44 rfl) rfl rfl ?_
                            refine PC.sem (OpSem.move (.inl rfl) rfl) rfl rfl ?_
                            refine PC.sem (OpSem.move (.inl rfl) rfl) rfl rfl ?_
                            refine PC.sem (OpSem.fieldr rfl rfl fo46_2) rfl rfl ?_
                            refine PC.sem (OpSem.loadb1 rfl rfl rfl vs44 rfl) rfl rfl ?_
                            refine PC.sem (OpSem.move (.inl rfl) rfl) rfl rfl ?_
                            refine PC.sem (OpSem.idxL rfl rfl rfl es44 (by omega) (by omega)) rfl rfl ?_
                            refine PC.sem (OpSem.fieldp rfl rfl fo93_2) rfl rfl ?_
                            refine PC.sem (OpSem.load1 rfl rfl vs3 rfl) rfl rfl ?_
                            refine PC.sem (OpSem.fieldr rfl rfl fo46_0) rfl rfl ?_
                            refine PC.sem (OpSem.loadb1 rfl rfl rfl vs3 rfl) rfl rfl ?_
                            refine PC.sem (OpSem.bin rfl rfl rfl (bmul (by omega) (by omega))) rfl rfl ?_
                            refine PC.sem (OpSem.fieldr rfl rfl fo46_2) rfl rfl ?_
                            refine PC.sem (OpSem.loadb1 rfl rfl rfl vs44 rfl) rfl rfl ?_
                            refine PC.sem (OpSem.move (.inl rfl) rfl) rfl rfl ?_
                            refine PC.sem (OpSem.idxL rfl rfl rfl es44 (by omega) (by omega)) rfl rfl ?_
                            refine PC.sem (OpSem.fieldp rfl rfl fo93_2) rfl rfl ?_
                            refine PC.sem (OpSem.load1 rfl rfl vs3 rfl) rfl rfl ?_
                            refine PC.sem (OpSem.bin rfl rfl rfl (badd (by omega) (by omega))) rfl rfl ?_
                            refine PC.sem (OpSem.build rfl rfl pl93 zc93 rfl rfl) rfl rfl ?_
                            refine PC.sem (OpSem.buildSlice rfl rfl es44 ze44 rfl rfl (by decide) (by decide) rfl rfl) rfl rfl ?_
                            refine PC.done0 mixed (by kernel_rfl) (by kernel_rfl) (by kernel_rfl) (by kernel_rfl) (by kernel_rfl) ?_
                            refine TrOps.append rfl rfl rfl (by decide) rfl rfl rfl es44 el44 zc93 rfl by93 (by simp [D.one, Value.oneCell']) (by simp [maxLen]; omega) (by simp; omega) ?_
                            refine TrOps.sem (OpSem.fieldr rfl rfl fo46_2) rfl rfl (by decide) ?_
                            refine TrOps.storeb rfl rfl rfl rfl rfl rfl rfl vs44 (by first | decide | simp) ?_
                            refine TrOps.nil ?_
                            refine At.block_normal ?_
                            refine At.seq ?_
                            refine Tr.region ?_
                            refine TrOps.sem (OpSem.move (.inl rfl) rfl) rfl rfl (by decide) ?_
                            refine TrOps.sem (OpSem.bin rfl rfl rfl (badd (by omega) (by omega))) rfl rfl (by decide) ?_
                            refine TrOps.sem (OpSem.move (.inr rfl) rfl) rfl rfl (by decide) ?_
                            refine TrOps.nil ?_
                            refine At.again (k + 1) (by omega) ?_ (by omega)
                            exact .slot rfl (.refl _) <| .slot rfl (.refl _) <| .slot rfl (.refl _) <| .slot rfl (.refl _) <| .slot rfl (.refl _) <| .slot rfl (.refl _) <| .slot rfl (.refl _) <| .slot rfl (.refl _) <| .slot rfl (.refl _) <| .slot rfl (Le.of_eq (by simp)) <| .mem rfl <| .memEq rfl rfl <| .memEq rfl (by rw [← hKs]; simp) <| .mem rfl <| .mem rfl <| .mem rfl <| .nil
                          · have hy2 : (nth b.arcs k).lab ≠ (l : Int) := by simpa using c115
                            have hKs := rK_f (a := a) (n := n) (lab := l) (i := i) hk (fun hh => hy2 hh.2)
                            refine Tr.skip ?_
                            refine At.block_normal ?_
                            refine At.seq ?_
                            refine Tr.region ?_
                            refine TrOps.sem (OpSem.move (.inl rfl) rfl) rfl rfl (by decide) ?_
                            refine TrOps.sem (OpSem.bin rfl rfl rfl (badd (by omega) (by omega))) rfl rfl (by decide) ?_
                            refine TrOps.sem (OpSem.move (.inr rfl) rfl) rfl rfl (by decide) ?_
                            refine TrOps.nil ?_
                            refine At.again (k + 1) (by omega) ?_ (by omega)
                            exact .slot rfl (.refl _) <| .slot rfl (.refl _) <| .slot rfl (.refl _) <| .slot rfl (.refl _) <| .slot rfl (.refl _) <| .slot rfl (.refl _) <| .slot rfl (.refl _) <| .slot rfl (.refl _) <| .slot rfl (.refl _) <| .slot rfl (Le.of_eq (by simp)) <| .mem rfl <| .memEq rfl rfl <| .memEq rfl (by rw [← hKs]) <| .mem rfl <| .mem rfl <| .mem rfl <| .nil
                        · have hy1 : (nth b.arcs k).fr ≠ (n : Int) % b.states := by simpa using c106
                          have hKs := rK_f (a := a) (n := n) (lab := l) (i := i) hk (fun hh => hy1 hh.1)
                          refine TrOps.gF rfl rfl rfl rfl c106 rfl (by decide) ?_
                          refine TrOps.gF rfl rfl rfl rfl c106 rfl (by decide) ?_
                          refine TrOps.gF rfl rfl rfl rfl c106 rfl (by decide) ?_
                          refine TrOps.gF rfl rfl rfl rfl c106 rfl (by decide) ?_
                          refine TrOps.gF rfl rfl rfl rfl c106 rfl (by decide) ?_
                          refine TrOps.gF rfl rfl rfl rfl c106 rfl (by decide) ?_
                          refine TrOps.gF rfl rfl rfl rfl c106 rfl (by decide) ?_
                          refine TrOps.gF rfl rfl rfl rfl c106 rfl (by decide) ?_
                          refine TrOps.sem (OpSem.pickF rfl rfl c106 rfl) rfl rfl (by decide) ?_
                          refine TrOps.nil ?_
                          refine At.seq ?_
                          refine Tr.condF rfl rfl ?_
                          refine Tr.skip ?_
                          refine At.block_normal ?_
                          refine At.seq ?_
                          refine Tr.region ?_
                          refine TrOps.sem (OpSem.move (.inl rfl) rfl) rfl rfl (by decide) ?_
                          refine TrOps.sem (OpSem.bin rfl rfl rfl (badd (by omega) (by omega))) rfl rfl (by decide) ?_
                          refine TrOps.sem (OpSem.move (.inr rfl) rfl) rfl rfl (by decide) ?_
                          refine TrOps.nil ?_
                          refine At.again (k + 1) (by omega) ?_ (by omega)
                          exact .slot rfl (.refl _) <| .slot rfl (.refl _) <| .slot rfl (.refl _) <| .slot rfl (.refl _) <| .slot rfl (.refl _) <| .slot rfl (.refl _) <| .slot rfl (.refl _) <| .slot rfl (.refl _) <| .slot rfl (.refl _) <| .slot rfl (Le.of_eq (by simp)) <| .mem rfl <| .memEq rfl rfl <| .memEq rfl (by rw [← hKs]) <| .mem rfl <| .mem rfl <| .mem rfl <| .nil
                      · have hf2 : (nth a.arcs i).lab ≠ (l : Int) := by simpa using c95
                        have hKe : rK a b n l i k = rK a b n l i b.arcs.length := by rw [rK_no (fun hh => hf2 hh.2), rK_no (fun hh => hf2 hh.2)]
                        refine Tr.exit ?_
                        refine At.pass_exit ?_
                        refine At.pass_exit ?_
                        refine At.block_same ?_
                        refine At.block_normal ?_
                        refine At.seq ?_
                        refine Tr.region ?_
                        refine TrOps.sem (OpSem.move (.inl rfl) rfl) rfl rfl (by decide) ?_
                        refine TrOps.sem (OpSem.bin rfl rfl rfl (badd (by omega) (by omega))) rfl rfl (by decide) ?_
                        refine TrOps.sem (OpSem.move (.inr rfl) rfl) rfl rfl (by decide) ?_
                        refine TrOps.nil ?_
                        refine At.again (i + 1) (by omega) ?_ (by omega)
                        exact .slot rfl (.refl _) <| .slot rfl (.refl _) <| .slot rfl (.refl _) <| .slot rfl (.refl _) <| .slot rfl (.refl _) <| .slot rfl (.refl _) <| .slot rfl (.refl _) <| .slot rfl (.refl _) <| .slot rfl (Le.of_eq (by simp)) <| .mem rfl <| .memEq rfl rfl <| .memEq rfl (by rw [← rI_s (a := a) (b := b) (n := n) (lab := l) (i := i), ← hKe]; simp) <| .mem rfl <| .mem rfl <| .mem rfl <| .nil
                    · have hf1 : (nth a.arcs i).fr ≠ (n : Int) / b.states := by simpa using c86
                      have hKe : rK a b n l i k = rK a b n l i b.arcs.length := by rw [rK_no (fun hh => hf1 hh.1), rK_no (fun hh => hf1 hh.1)]
                      refine TrOps.gF rfl rfl rfl rfl c86 rfl (by decide) ?_
                      refine TrOps.gF rfl rfl rfl rfl c86 rfl (by decide) ?_
                      refine TrOps.gF rfl rfl rfl rfl c86 rfl (by decide) ?_
                      refine TrOps.gF rfl rfl rfl rfl c86 rfl (by decide) ?_
                      refine TrOps.gF rfl rfl rfl rfl c86 rfl (by decide) ?_
                      refine TrOps.gF rfl rfl rfl rfl c86 rfl (by decide) ?_
                      refine TrOps.gF rfl rfl rfl rfl c86 rfl (by decide) ?_
                      refine TrOps.gF rfl rfl rfl rfl c86 rfl (by decide) ?_
                      refine TrOps.sem (OpSem.pickF rfl rfl c86 rfl) rfl rfl (by decide) ?_
                      refine TrOps.nil ?_
                      refine At.seq ?_
                      refine Tr.condF rfl rfl ?_
                      refine Tr.exit ?_
                      refine At.pass_exit ?_
                      refine At.pass_exit ?_
                      refine At.block_same ?_
                      refine At.block_normal ?_
                      refine At.seq ?_
                      refine Tr.region ?_
                      refine TrOps.sem (OpSem.move (.inl rfl) rfl) rfl rfl (by decide) ?_
                      refine TrOps.sem (OpSem.bin rfl rfl rfl (badd (by omega) (by omega))) rfl rfl (by decide) ?_
                      refine TrOps.sem (OpSem.move (.inr rfl) rfl) rfl rfl (by decide) ?_
                      refine TrOps.nil ?_
                      refine At.again (i + 1) (by omega) ?_ (by omega)
                      exact .slot rfl (.refl _) <| .slot rfl (.refl _) <| .slot rfl (.refl _) <| .slot rfl (.refl _) <| .slot rfl (.refl _) <| .slot rfl (.refl _) <| .slot rfl (.refl _) <| .slot rfl (.refl _) <| .slot rfl (Le.of_eq (by simp)) <| .mem rfl <| .memEq rfl rfl <| .memEq rfl (by rw [← rI_s (a := a) (b := b) (n := n) (lab := l) (i := i), ← hKe]; simp) <| .mem rfl <| .mem rfl <| .mem rfl <| .nil
                  · have hk : k = b.arcs.length := by simp at c76; omega
                    have hKe : rK a b n l i k = rK a b n l i b.arcs.length := by rw [hk]
                    refine TrOps.gF rfl rfl rfl rfl c76 rfl (by decide) ?_
                    refine TrOps.gF rfl rfl rfl rfl c76 rfl (by decide) ?_
                    refine TrOps.gF rfl rfl rfl rfl c76 rfl (by decide) ?_
                    refine TrOps.gF rfl rfl rfl rfl c76 rfl (by decide) ?_
                    refine TrOps.gF rfl rfl rfl rfl c76 rfl (by decide) ?_
                    refine TrOps.gF rfl rfl rfl rfl c76 rfl (by decide) ?_
                    refine TrOps.gF rfl rfl rfl rfl c76 rfl (by decide) ?_
                    refine TrOps.gF rfl rfl rfl rfl c76 rfl (by decide) ?_
                    refine TrOps.sem (OpSem.pickF rfl rfl c76 rfl) rfl rfl (by decide) ?_
                    refine TrOps.sem (OpSem.move (.inl rfl) rfl) rfl rfl (by decide) ?_
                    refine TrOps.gF rfl rfl rfl rfl rfl rfl (by decide) ?_
                    refine TrOps.gF rfl rfl rfl rfl rfl rfl (by decide) ?_
                    refine TrOps.gF rfl rfl rfl rfl rfl rfl (by decide) ?_
                    refine TrOps.gF rfl rfl rfl rfl rfl rfl (by decide) ?_
                    refine TrOps.gF rfl rfl rfl rfl rfl rfl (by decide) ?_
                    refine TrOps.gF rfl rfl rfl rfl rfl rfl (by decide) ?_
                    refine TrOps.gF rfl rfl rfl rfl rfl rfl (by decide) ?_
                    refine TrOps.gF rfl rfl rfl rfl rfl rfl (by decide) ?_
                    refine TrOps.sem (OpSem.pickF rfl rfl rfl rfl) rfl rfl (by decide) ?_
                    refine TrOps.nil ?_
                    refine At.seq ?_
                    refine Tr.condF rfl rfl ?_
                    refine Tr.exit ?_
                    refine At.pass_exit ?_
                    refine At.pass_exit ?_
                    refine At.block_same ?_
                    refine At.block_normal ?_
                    refine At.seq ?_
                    refine Tr.region ?_
                    refine TrOps.sem (OpSem.move (.inl rfl) rfl) rfl rfl (by decide) ?_
                    refine TrOps.sem (OpSem.bin rfl rfl rfl (badd (by omega) (by omega))) rfl rfl (by decide) ?_
                    refine TrOps.sem (OpSem.move (.inr rfl) rfl) rfl rfl (by decide) ?_
                    refine TrOps.nil ?_
                    refine At.again (i + 1) (by omega) ?_ (by omega)
                    exact .slot rfl (.refl _) <| .slot rfl (.refl _) <| .slot rfl (.refl _) <| .slot rfl (.refl _) <| .slot rfl (.refl _) <| .slot rfl (.refl _) <| .slot rfl (.refl _) <| .slot rfl (.refl _) <| .slot rfl (Le.of_eq (by simp)) <| .mem rfl <| .memEq rfl rfl <| .memEq rfl (by rw [← rI_s (a := a) (b := b) (n := n) (lab := l) (i := i), ← hKe]; simp) <| .mem rfl <| .mem rfl <| .mem rfl <| .nil
              · have hi : i = a.arcs.length := by simp at c68; omega
                have hLs := rL_s (a := a) (b := b) (n := n) (l := l)
                refine Tr.exit ?_
                refine At.pass_exit ?_
                refine At.pass_exit ?_
                refine At.block_same ?_
                refine At.block_normal ?_
                refine At.seq ?_
                refine Tr.region ?_
                refine TrOps.sem (OpSem.move (.inl rfl) rfl) rfl rfl (by decide) ?_
                refine TrOps.sem (OpSem.bin rfl rfl rfl (badd (by omega) (by omega))) rfl rfl (by decide) ?_
                refine TrOps.sem (OpSem.move (.inr rfl) rfl) rfl rfl (by decide) ?_
                refine TrOps.nil ?_
                refine At.again (l + 1) (by omega) ?_ (by omega)
                exact .slot rfl (.refl _) <| .slot rfl (.refl _) <| .slot rfl (.refl _) <| .slot rfl (.refl _) <| .slot rfl (.refl _) <| .slot rfl (.refl _) <| .slot rfl (.refl _) <| .slot rfl (Le.of_eq (by simp)) <| .mem rfl <| .memEq rfl rfl <| .memEq rfl (by rw [← hLs, ← hi]; simp) <| .mem rfl <| .mem rfl <| .mem rfl <| .nil
          · have hl : l = a.labels.toNat := by simp at c61; omega
            have hNs := rN_s (a := a) (b := b) (n := n)
            refine Tr.exit ?_
            refine At.pass_exit ?_
            refine At.pass_exit ?_
            refine At.block_same ?_
            refine At.block_normal ?_
            refine At.seq ?_
            refine Tr.region ?_
            refine TrOps.sem (OpSem.move (.inl rfl) rfl) rfl rfl (by decide) ?_
            refine TrOps.sem (OpSem.bin rfl rfl rfl (badd (by omega) (by omega))) rfl rfl (by decide) ?_
            refine TrOps.sem (OpSem.move (.inr rfl) rfl) rfl rfl (by decide) ?_
            refine TrOps.nil ?_
            refine At.again (n + 1) (by omega) ?_ (by omega)
            exact .slot rfl (.refl _) <| .slot rfl (.refl _) <| .slot rfl (.refl _) <| .slot rfl (.refl _) <| .slot rfl (Le.of_eq (by simp)) <| .mem rfl <| .memEq rfl rfl <| .memEq rfl (by rw [← hNs, ← hl]) <| .mem rfl <| .mem rfl <| .mem rfl <| .nil
    · have hn : n = (a.states * b.states).toNat := by simp at c31; omega
      refine Tr.exit ?_
      refine At.pass_exit ?_
      refine At.pass_exit ?_
      refine At.block_same ?_
      refine At.seq ?_
      refine Tr.seq ?_
      refine Tr.freeze 91 rfl ?_
      refine Tr.freeze 92 rfl ?_
      refine Tr.region ?_
      refine TrOps.sem (OpSem.loadbN rfl rfl rfl vs46 (by first | decide | simp)) rfl rfl (by decide) ?_
      refine TrOps.storeb rfl rfl rfl rfl rfl rfl rfl vs46 (by first | decide | simp) ?_
      refine TrOps.nil ?_
      refine At.seq ?_
      refine Tr.ret ?_
      have hge : gN a b n = (timA a b).goals := by rw [hn]; exact gN_end h
      have hre : rN a b n = (timA a b).arcs := by rw [hn]; exact rN_end h
      exact At.ret rfl (.cellN rfl rfl vs46 <| .nil) rfl (Le.of_eq (by rw [hge, hre]; rfl))

theorem law_sameGraph_does (a : Abs) (h : AbsOk a) : Does Try.prog false 43 [absS a, absS a] (Bo true) := by
  refine Does.of_body Try.func43 rfl rfl (by simp) Try.call43 (fun w0 O0 => ?_)
  refine Tr.lenG (n := 0) (i := 2) rfl rfl (fun len0_2 => ?_)
  refine Tr.lenG (n := 0) (i := 4) rfl rfl (fun len0_4 => ?_)
  refine Tr.lenG (n := 1) (i := 2) rfl rfl (fun len1_2 => ?_)
  refine Tr.lenG (n := 1) (i := 4) rfl rfl (fun len1_4 => ?_)
  refine Tr.seq ?_
  refine Tr.region ?_
  refine TrOps.semM (OpSem.box 2 rfl rfl rfl rfl) rfl rfl (by decide) ?_
  refine TrOps.semM (OpSem.box 3 rfl rfl rfl rfl) rfl rfl (by decide) ?_
  refine TrOps.sem (OpSem.move (.inr rfl) rfl) rfl rfl (by decide) ?_
  refine TrOps.nil ?_
  refine At.seq ?_
  refine Tr.seq ?_
  refine Tr.seq ?_
  refine Tr.region ?_
  refine TrOps.sem (OpSem.loadbN rfl rfl rfl vs46 (by first | decide | simp)) rfl rfl (by decide) ?_
  refine TrOps.sem (OpSem.call0 (Q_AbstractionFault_does a) rfl rfl rfl rfl (Les.refl _)) rfl rfl (by decide) ?_
  refine TrOps.sem (OpSem.field1 rfl rfl f1_29_0 rfl) rfl rfl (by decide) ?_
  refine TrOps.sem (OpSem.bin rfl rfl rfl bneq) rfl rfl (by decide) ?_
  refine TrOps.sem (OpSem.move (.inl rfl) rfl) rfl rfl (by decide) ?_
  refine TrOps.gT rfl rfl rfl rfl (by rw [absFault_of h]; rfl) ?_
  refine TrOps.sem (OpSem.fieldr rfl rfl fo46_0) rfl rfl (by decide) ?_
  refine TrOps.gT rfl rfl rfl rfl (by rw [absFault_of h]; rfl) ?_
  refine TrOps.sem (OpSem.loadb1 rfl rfl rfl vs3 rfl) rfl rfl (by decide) ?_
  refine TrOps.gT rfl rfl rfl rfl (by rw [absFault_of h]; rfl) ?_
  refine TrOps.sem (OpSem.fieldr rfl rfl fo46_0) rfl rfl (by decide) ?_
  refine TrOps.gT rfl rfl rfl rfl (by rw [absFault_of h]; rfl) ?_
  refine TrOps.sem (OpSem.loadb1 rfl rfl rfl vs3 rfl) rfl rfl (by decide) ?_
  refine TrOps.gT rfl rfl rfl rfl (by rw [absFault_of h]; rfl) ?_
  refine TrOps.sem (OpSem.bin rfl rfl rfl bneq) rfl rfl (by decide) ?_
  refine TrOps.sem (OpSem.pickF rfl rfl (by rw [absFault_of h]; rfl) rfl) rfl rfl (by decide) ?_
  refine TrOps.sem (OpSem.move (.inl rfl) rfl) rfl rfl (by decide) ?_
  refine TrOps.gT rfl rfl rfl rfl (by simp) ?_
  refine TrOps.sem (OpSem.fieldr rfl rfl fo46_1) rfl rfl (by decide) ?_
  refine TrOps.gT rfl rfl rfl rfl (by simp) ?_
  refine TrOps.sem (OpSem.loadb1 rfl rfl rfl vs3 rfl) rfl rfl (by decide) ?_
  refine TrOps.gT rfl rfl rfl rfl (by simp) ?_
  refine TrOps.sem (OpSem.fieldr rfl rfl fo46_1) rfl rfl (by decide) ?_
  refine TrOps.gT rfl rfl rfl rfl (by simp) ?_
  refine TrOps.sem (OpSem.loadb1 rfl rfl rfl vs3 rfl) rfl rfl (by decide) ?_
  refine TrOps.gT rfl rfl rfl rfl (by simp) ?_
  refine TrOps.sem (OpSem.bin rfl rfl rfl bneq) rfl rfl (by decide) ?_
  refine TrOps.sem (OpSem.pickF rfl rfl (by simp) rfl) rfl rfl (by decide) ?_
  refine TrOps.sem (OpSem.move (.inl rfl) rfl) rfl rfl (by decide) ?_
  refine TrOps.gT rfl rfl rfl rfl (by simp) ?_
  refine TrOps.sem (OpSem.fieldr rfl rfl fo46_3) rfl rfl (by decide) ?_
  refine TrOps.gT rfl rfl rfl rfl (by simp) ?_
  refine TrOps.sem (OpSem.loadb1 rfl rfl rfl vs3 rfl) rfl rfl (by decide) ?_
  refine TrOps.gT rfl rfl rfl rfl (by simp) ?_
  refine TrOps.sem (OpSem.fieldr rfl rfl fo46_3) rfl rfl (by decide) ?_
  refine TrOps.gT rfl rfl rfl rfl (by simp) ?_
  refine TrOps.sem (OpSem.loadb1 rfl rfl rfl vs3 rfl) rfl rfl (by decide) ?_
  refine TrOps.gT rfl rfl rfl rfl (by simp) ?_
  refine TrOps.sem (OpSem.bin rfl rfl rfl bneq) rfl rfl (by decide) ?_
  refine TrOps.sem (OpSem.pickF rfl rfl (by simp) rfl) rfl rfl (by decide) ?_
  refine TrOps.sem (OpSem.move (.inl rfl) rfl) rfl rfl (by decide) ?_
  refine TrOps.gT rfl rfl rfl rfl (by simp) ?_
  refine TrOps.sem (OpSem.fieldr rfl rfl fo46_4) rfl rfl (by decide) ?_
  refine TrOps.gT rfl rfl rfl rfl (by simp) ?_
  refine TrOps.sem (OpSem.loadb1 rfl rfl rfl vs22 rfl) rfl rfl (by decide) ?_
  refine TrOps.gT rfl rfl rfl rfl (by simp) ?_
  refine TrOps.sem (OpSem.fieldr rfl rfl fo46_4) rfl rfl (by decide) ?_
  refine TrOps.gT rfl rfl rfl rfl (by simp) ?_
  refine TrOps.sem (OpSem.loadb1 rfl rfl rfl vs22 rfl) rfl rfl (by decide) ?_
  refine TrOps.gT rfl rfl rfl rfl (by simp) ?_
  refine TrOps.sem (OpSem.call0 (R_Ints_does a.goals a.goals) rfl rfl rfl rfl (Les.refl _)) rfl rfl (by decide) ?_
  refine TrOps.gT rfl rfl rfl rfl (by simp) ?_
  refine TrOps.sem (OpSem.not rfl rfl) rfl rfl (by decide) ?_
  refine TrOps.sem (OpSem.pickF rfl rfl (by simp) rfl) rfl rfl (by decide) ?_
  refine TrOps.nil ?_
  refine At.seq ?_
  refine Tr.condF rfl (by simp) ?_
  refine Tr.skip ?_
  refine At.seq ?_
  refine Tr.seq ?_
  refine Tr.seq ?_
  refine Tr.region ?_
  refine TrOps.sem (OpSem.move (.inr rfl) rfl) rfl rfl (by decide) ?_
  refine TrOps.nil ?_
  refine At.seq ?_
  refine Tr.block ?_
  refine Tr.loop (X := Nat) (fun k => k ≤ a.arcs.length) (fun k => [(2, .r 2 0), (3, .r 3 0), (5, I (k))]) (fun k => [(2, .box [I (a.states), I (a.labels), .d (arcsD a.arcs), I (a.init), .d (ints a.goals)]), (3, .box [I (a.states), I (a.labels), .d (arcsD a.arcs), I (a.init), .d (ints a.goals)])]) (fun k => a.arcs.length - k) 0 (by omega) ?_ ?_
  · exact .slot rfl (.refl _) <| .slot rfl (.refl _) <| .slot rfl (Le.of_eq (by simp)) <| .mem rfl <| .mem rfl <| .nil
  · rintro k hkl
    refine Tr.seq ?_
    refine Tr.seq ?_
    refine Tr.region ?_
    refine TrOps.sem (OpSem.move (.inl rfl) rfl) rfl rfl (by decide) ?_
    refine TrOps.sem (OpSem.fieldr rfl rfl fo46_2) rfl rfl (by decide) ?_
    refine TrOps.sem (OpSem.loadb1 rfl rfl rfl vs44 rfl) rfl rfl (by decide) ?_
    refine TrOps.sem (OpSem.lenL rfl rfl es44) rfl rfl (by decide) ?_
    refine TrOps.sem (OpSem.bin rfl rfl rfl blss) rfl rfl (by decide) ?_
    refine TrOps.nil ?_
    refine At.seq ?_
    refine Tr.cond rfl (fun c44 => ?_) (fun c44 => ?_)
    · have hk : k < a.arcs.length := by simpa using c44
      refine Tr.skip ?_
      refine At.seq ?_
      refine Tr.seq ?_
      refine Tr.block ?_
      refine Tr.seq ?_
      refine PC.start [] ?_
      refine PC.sem (OpSem.loadbN rfl rfl rfl vs46 (by first | decide | simp)) rfl rfl ?_
      refine PC.sem (OpSem.fieldr rfl rfl fo46_2) rfl rfl ?_
      refine PC.sem (OpSem.loadb1 rfl rfl rfl vs44 rfl) rfl rfl ?_
      refine PC.sem (OpSem.move (.inl rfl) rfl) rfl rfl ?_
      refine PC.sem (OpSem.idxL rfl rfl rfl es44 (by omega) (by omega)) rfl rfl ?_
      refine PC.sem (OpSem.fieldp rfl rfl fo93_0) rfl rfl ?_
      refine PC.sem (OpSem.load1 rfl rfl vs3 rfl) rfl rfl ?_
      refine PC.sem (OpSem.fieldr rfl rfl fo46_2) rfl rfl ?_
      refine PC.sem (OpSem.loadb1 rfl rfl rfl vs44 rfl) rfl rfl ?_
      refine PC.sem (OpSem.move (.inl rfl) rfl) rfl rfl ?_
      refine PC.sem (OpSem.idxL rfl rfl rfl es44 (by omega) (by omega)) rfl rfl ?_
      refine PC.sem (OpSem.fieldp rfl rfl fo93_1) rfl rfl ?_
      refine PC.sem (OpSem.load1 rfl rfl vs3 rfl) rfl rfl ?_
      refine PC.sem (OpSem.fieldr rfl rfl fo46_2) rfl rfl ?_
      refine PC.sem (OpSem.loadb1 rfl rfl rfl vs44 rfl) rfl rfl ?_
      refine PC.sem (OpSem.move (.inl rfl) rfl) rfl rfl ?_
      refine PC.sem (OpSem.idxL rfl rfl rfl es44 (by omega) (by omega)) rfl rfl ?_
      refine PC.sem (OpSem.fieldp rfl rfl fo93_2) rfl rfl ?_
      refine PC.sem (OpSem.load1 rfl rfl vs3 rfl) rfl rfl ?_
      refine PC.done0 mixed (by kernel_rfl) (by kernel_rfl) (by kernel_rfl) (by kernel_rfl) (by kernel_rfl) ?_
      refine TrOps.sem (OpSem.call0 (Q_HasArc_does a (nth a.arcs k).fr (nth a.arcs k).lab (nth a.arcs k).to) rfl rfl rfl rfl (Les.refl _)) rfl rfl (by decide) ?_
      refine TrOps.sem (OpSem.not rfl rfl) rfl rfl (by decide) ?_
      refine TrOps.nil ?_
      refine At.seq ?_
      refine Tr.condF rfl (by rw [decide_eq_true (arc_self hk)]; rfl) ?_
      refine Tr.skip ?_
      refine At.block_normal ?_
      refine At.seq ?_
      refine Tr.region ?_
      refine TrOps.sem (OpSem.move (.inl rfl) rfl) rfl rfl (by decide) ?_
      refine TrOps.sem (OpSem.bin rfl rfl rfl (badd (by omega) (by omega))) rfl rfl (by decide) ?_
      refine TrOps.sem (OpSem.move (.inr rfl) rfl) rfl rfl (by decide) ?_
      refine TrOps.nil ?_
      refine At.again (k + 1) (by omega) ?_ (by omega)
      exact .slot rfl (.refl _) <| .slot rfl (.refl _) <| .slot rfl (Le.of_eq (by simp)) <| .mem rfl <| .mem rfl <| .nil
    · have hk : k = a.arcs.length := by simp at c44; omega
      refine Tr.exit ?_
      refine At.pass_exit ?_
      refine At.pass_exit ?_
      refine At.block_same ?_
      refine At.seq ?_
      refine Tr.seq ?_
      refine Tr.seq ?_
      refine Tr.region ?_
      refine TrOps.sem (OpSem.move (.inr rfl) rfl) rfl rfl (by decide) ?_
      refine TrOps.nil ?_
      refine At.seq ?_
      refine Tr.block ?_
      refine Tr.loop (X := Nat) (fun k => k ≤ a.arcs.length) (fun k => [(2, .r 2 0), (3, .r 3 0), (6, I (k))]) (fun k => [(2, .box [I (a.states), I (a.labels), .d (arcsD a.arcs), I (a.init), .d (ints a.goals)]), (3, .box [I (a.states), I (a.labels), .d (arcsD a.arcs), I (a.init), .d (ints a.goals)])]) (fun k => a.arcs.length - k) 0 (by omega) ?_ ?_
      · exact .slot rfl (.refl _) <| .slot rfl (.refl _) <| .slot rfl (Le.of_eq (by simp)) <| .mem rfl <| .mem rfl <| .nil
      · rintro k hkl
        refine Tr.seq ?_
        refine Tr.seq ?_
        refine Tr.region ?_
        refine TrOps.sem (OpSem.move (.inl rfl) rfl) rfl rfl (by decide) ?_
        refine TrOps.sem (OpSem.fieldr rfl rfl fo46_2) rfl rfl (by decide) ?_
        refine TrOps.sem (OpSem.loadb1 rfl rfl rfl vs44 rfl) rfl rfl (by decide) ?_
        refine TrOps.sem (OpSem.lenL rfl rfl es44) rfl rfl (by decide) ?_
        refine TrOps.sem (OpSem.bin rfl rfl rfl blss) rfl rfl (by decide) ?_
        refine TrOps.nil ?_
        refine At.seq ?_
        refine Tr.cond rfl (fun c72 => ?_) (fun c72 => ?_)
        · have hk : k < a.arcs.length := by simpa using c72
          refine Tr.skip ?_
          refine At.seq ?_
          refine Tr.seq ?_
          refine Tr.block ?_
          refine Tr.seq ?_
          refine PC.start [] ?_
          refine PC.sem (OpSem.loadbN rfl rfl rfl vs46 (by first | decide | simp)) rfl rfl ?_
          refine PC.sem (OpSem.fieldr rfl rfl fo46_2) rfl rfl ?_
          refine PC.sem (OpSem.loadb1 rfl rfl rfl vs44 rfl) rfl rfl ?_
          refine PC.sem (OpSem.move (.inl rfl) rfl) rfl rfl ?_
          refine PC.sem (OpSem.idxL rfl rfl rfl es44 (by omega) (by omega)) rfl rfl ?_
          refine PC.sem (OpSem.fieldp rfl rfl fo93_0) rfl rfl ?_
          refine PC.sem (OpSem.load1 rfl rfl vs3 rfl) rfl rfl ?_
          refine PC.sem (OpSem.fieldr rfl rfl fo46_2) rfl rfl ?_
          refine PC.sem (OpSem.loadb1 rfl rfl rfl vs44 rfl) rfl rfl ?_
          refine PC.sem (OpSem.move (.inl rfl) rfl) rfl rfl ?_
          refine PC.sem (OpSem.idxL rfl rfl rfl es44 (by omega) (by omega)) rfl rfl ?_
          refine PC.sem (OpSem.fieldp rfl rfl fo93_1) rfl rfl ?_
          refine PC.sem (OpSem.load1 rfl rfl vs3 rfl) rfl rfl ?_
          refine PC.sem (OpSem.fieldr rfl rfl fo46_2) rfl rfl ?_
          refine PC.sem (OpSem.loadb1 rfl rfl rfl vs44 rfl) rfl rfl ?_
          refine PC.sem (OpSem.move (.inl rfl) rfl) rfl rfl ?_
          refine PC.sem (OpSem.idxL rfl rfl rfl es44 (by omega) (by omega)) rfl rfl ?_
          refine PC.sem (OpSem.fieldp rfl rfl fo93_2) rfl rfl ?_
          refine PC.sem (OpSem.load1 rfl rfl vs3 rfl) rfl rfl ?_
          refine PC.done0 mixed (by kernel_rfl) (by kernel_rfl) (by kernel_rfl) (by kernel_rfl) (by kernel_rfl) ?_
          refine TrOps.sem (OpSem.call0 (Q_HasArc_does a (nth a.arcs k).fr (nth a.arcs k).lab (nth a.arcs k).to) rfl rfl rfl rfl (Les.refl _)) rfl rfl (by decide) ?_
          refine TrOps.sem (OpSem.not rfl rfl) rfl rfl (by decide) ?_
          refine TrOps.nil ?_
          refine At.seq ?_
          refine Tr.condF rfl (by rw [decide_eq_true (arc_self hk)]; rfl) ?_
          refine Tr.skip ?_
          refine At.block_normal ?_
          refine At.seq ?_
          refine Tr.region ?_
          refine TrOps.sem (OpSem.move (.inl rfl) rfl) rfl rfl (by decide) ?_
          refine TrOps.sem (OpSem.bin rfl rfl rfl (badd (by omega) (by omega))) rfl rfl (by decide) ?_
          refine TrOps.sem (OpSem.move (.inr rfl) rfl) rfl rfl (by decide) ?_
          refine TrOps.nil ?_
          refine At.again (k + 1) (by omega) ?_ (by omega)
          exact .slot rfl (.refl _) <| .slot rfl (.refl _) <| .slot rfl (Le.of_eq (by simp)) <| .mem rfl <| .mem rfl <| .nil
        · have hk : k = a.arcs.length := by simp at c72; omega
          refine Tr.exit ?_
          refine At.pass_exit ?_
          refine At.pass_exit ?_
          refine At.block_same ?_
          refine At.seq ?_
          refine Tr.seq ?_
          refine Tr.region ?_
          refine TrOps.sem (OpSem.move (.inr rfl) rfl) rfl rfl (by decide) ?_
          refine TrOps.nil ?_
          refine At.seq ?_
          refine Tr.ret ?_
          exact At.ret rfl (.tmp rfl <| .nil) rfl (.refl _)

theorem law_product_does (m : Multi) (hval : validate m = (0, 0)) (hr : ranks m.sizes ≤ 60) : Does Try.prog false 45 [multi m] (.t [absS (pR m m.sizes.length), Bo (decide ((pF m m.sizes.length).1 = 0))]) := by
  have hv := valid_of hval
  have hl := hv.len
  have hp1 := pR_1 hval hr
  refine Does.of_body Try.func45 rfl rfl (by simp) Try.call45 (fun w0 O0 => ?_)
  refine Tr.lenG (n := 0) (i := 0) rfl rfl (fun len0_0 => ?_)
  refine Tr.lenG (n := 0) (i := 1) rfl rfl (fun len0_1 => ?_)
  refine Tr.lenG (n := 0) (i := 2) rfl rfl (fun len0_2 => ?_)
  refine Tr.lenG (n := 0) (i := 3) rfl rfl (fun len0_3 => ?_)
  refine Tr.seq ?_
  refine Tr.region ?_
  refine TrOps.semM (OpSem.box 1 rfl rfl rfl rfl) rfl rfl (by decide) ?_
  refine TrOps.semM (OpSem.alloc 2 rfl zc46 rfl) rfl rfl (by decide) ?_
  refine TrOps.sem (OpSem.move (.inr rfl) rfl) rfl rfl (by decide) ?_
  refine TrOps.nil ?_
  refine At.seq ?_
  refine Tr.seq ?_
  refine Tr.region ?_
  refine TrOps.sem (OpSem.loadbN rfl rfl rfl vs26 (by first | decide | simp)) rfl rfl (by decide) ?_
  refine TrOps.sem (OpSem.call0 (abstraction_Atomic_does m 0) rfl rfl rfl rfl (Les.refl _)) rfl rfl (by decide) ?_
  refine TrOps.sem (OpSem.move (.inl rfl) rfl) rfl rfl (by decide) ?_
  refine TrOps.sem (OpSem.extract rfl rfl rfl) rfl rfl (by decide) ?_
  refine TrOps.sem (OpSem.extract rfl rfl rfl) rfl rfl (by decide) ?_
  refine TrOps.semM (OpSem.alloc 4 rfl zc46 rfl) rfl rfl (by decide) ?_
  refine TrOps.semM (OpSem.alloc 5 rfl zc29 rfl) rfl rfl (by decide) ?_
  refine TrOps.storeb rfl rfl rfl rfl rfl rfl rfl vs46 (by first | decide | simp) ?_
  refine TrOps.storeb rfl rfl rfl rfl rfl rfl rfl vs29 (by first | decide | simp) ?_
  refine TrOps.nil ?_
  refine At.seq ?_
  refine Tr.cut [(2, .r 2 0), (4, .r 4 0), (5, .r 5 0)] [(2, .box [I (0), I (0), .d (.v (.slice none 0 0)), I (0), .d (.v (.slice none 0 0))]), (4, .box [I ((pR m m.sizes.length).states), I ((pR m m.sizes.length).labels), .d (arcsD ((pR m m.sizes.length).arcs)), I ((pR m m.sizes.length).init), .d (ints ((pR m m.sizes.length).goals))]), (5, .box [I ((pF m m.sizes.length).1), I ((pF m m.sizes.length).2)])] ?_ ?_
  · refine Tr.seq ?_
    refine Tr.region ?_
    refine TrOps.sem (OpSem.move (.inr rfl) rfl) rfl rfl (by decide) ?_
    refine TrOps.nil ?_
    refine At.seq ?_
    refine Tr.block ?_
    refine Tr.loop (X := Nat) (fun v => 1 ≤ v ∧ v ≤ m.sizes.length) (fun v => [(1, .r 1 0), (2, .r 2 0), (4, .r 4 0), (5, .r 5 0), (6, I (v))]) (fun v => [(4, .box [I ((pR m v).states), I ((pR m v).labels), .d (arcsD ((pR m v).arcs)), I ((pR m v).init), .d (ints ((pR m v).goals))]), (5, .box [I ((pF m v).1), I ((pF m v).2)]), (2, .box [I (0), I (0), .d (.v (.slice none 0 0)), I (0), .d (.v (.slice none 0 0))]), (1, .box [.d (ints m.sizes), .d (ints m.init), .d (asgs m.goal), .d (opsD m.ops)])]) (fun v => m.sizes.length - v) 1 ⟨by omega, by omega⟩ ?_ ?_
    · exact .slot rfl (.refl _) <| .slot rfl (.refl _) <| .slot rfl (.refl _) <| .slot rfl (.refl _) <| .slot rfl (Le.of_eq (by simp)) <| .boxLe rfl (by rw [← hp1.1]; exact Les.refl _) <| .boxLe rfl (by rw [← hp1.2]; exact Les.refl _) <| .mem rfl <| .mem rfl <| .nil
    · rintro v ⟨hv0, hvl⟩
      refine Tr.seq ?_
      refine Tr.seq ?_
      refine Tr.region ?_
      refine TrOps.sem (OpSem.move (.inl rfl) rfl) rfl rfl (by decide) ?_
      refine TrOps.sem (OpSem.fieldr rfl rfl fo26_0) rfl rfl (by decide) ?_
      refine TrOps.sem (OpSem.loadb1 rfl rfl rfl vs22 rfl) rfl rfl (by decide) ?_
      refine TrOps.sem (OpSem.lenL rfl rfl es22) rfl rfl (by decide) ?_
      refine TrOps.sem (OpSem.bin rfl rfl rfl blss) rfl rfl (by decide) ?_
      refine TrOps.sem (OpSem.move (.inl rfl) rfl) rfl rfl (by decide) ?_
      refine TrOps.split (n := 19) rfl (fun c19 => ?_) (fun c19 => ?_)
      · have hv1 : v < m.sizes.length := by simpa using c19
        refine TrOps.gT rfl rfl rfl rfl c19 ?_
        refine TrOps.sem (OpSem.fieldr rfl rfl fo29_0) rfl rfl (by decide) ?_
        refine TrOps.gT rfl rfl rfl rfl c19 ?_
        refine TrOps.sem (OpSem.loadb1 rfl rfl rfl vs3 rfl) rfl rfl (by decide) ?_
        refine TrOps.gT rfl rfl rfl rfl c19 ?_
        refine TrOps.sem (OpSem.bin rfl rfl rfl beql) rfl rfl (by decide) ?_
        refine TrOps.sem (OpSem.pickT rfl rfl c19 rfl) rfl rfl (by decide) ?_
        refine TrOps.nil ?_
        refine At.seq ?_
        refine Tr.cond rfl (fun c23 => ?_) (fun c23 => ?_)
        · have hok := pF_ok (m := m) (v := v) (by simpa using c23)
          have hs := pR_s hval hr (v := v) (by omega) hv1 hok
          refine Tr.skip ?_
          refine At.seq ?_
          refine Tr.seq ?_
          refine Tr.block ?_
          refine Tr.seq ?_
          refine Tr.region ?_
          refine TrOps.sem (OpSem.loadbN rfl rfl rfl vs26 (by first | decide | simp)) rfl rfl (by decide) ?_
          refine TrOps.sem (OpSem.move (.inl rfl) rfl) rfl rfl (by decide) ?_
          refine TrOps.sem (OpSem.call0 (abstraction_Atomic_does m v) rfl rfl rfl rfl (Les.refl _)) rfl rfl (by decide) ?_
          refine TrOps.sem (OpSem.move (.inl rfl) rfl) rfl rfl (by decide) ?_
          refine TrOps.sem (OpSem.extract rfl rfl rfl) rfl rfl (by decide) ?_
          refine TrOps.sem (OpSem.extract rfl rfl rfl) rfl rfl (by decide) ?_
          refine TrOps.semM (OpSem.alloc 7 rfl zc46 rfl) rfl rfl (by decide) ?_
          refine TrOps.semM (OpSem.alloc 8 rfl zc29 rfl) rfl rfl (by decide) ?_
          refine TrOps.storeb rfl rfl rfl rfl rfl rfl rfl vs46 (by first | decide | simp) ?_
          refine TrOps.storeb rfl rfl rfl rfl rfl rfl rfl vs29 (by first | decide | simp) ?_
          refine TrOps.nil ?_
          refine At.seq ?_
          refine Tr.seq ?_
          refine Tr.seq ?_
          refine Tr.region ?_
          refine TrOps.sem (OpSem.fieldr rfl rfl fo29_0) rfl rfl (by decide) ?_
          refine TrOps.sem (OpSem.loadb1 rfl rfl rfl vs3 rfl) rfl rfl (by decide) ?_
          refine TrOps.sem (OpSem.bin rfl rfl rfl bneq) rfl rfl (by decide) ?_
          refine TrOps.nil ?_
          refine At.seq ?_
          refine Tr.condF rfl (by rw [(atomR_v hval hr hv1).2]; rfl) ?_
          refine Tr.skip ?_
          refine At.seq ?_
          refine Tr.region ?_
          refine TrOps.sem (OpSem.loadbN rfl rfl rfl vs46 (by first | decide | simp)) rfl rfl (by decide) ?_
          refine TrOps.sem (OpSem.loadbN rfl rfl rfl vs46 (by first | decide | simp)) rfl rfl (by decide) ?_
          refine TrOps.sem (OpSem.call0 (abstraction_Product_does (pR m v) (atomR m v) (pR_rng hval hr (by omega) (by omega)) (by rw [(atomR_v hval hr hv1).1]; have := size_in hv (v := v) (by omega) (by omega); show _ ≤ nth m.sizes v ∧ nth m.sizes v ≤ _; omega)) rfl rfl rfl rfl (Les.refl _)) rfl rfl (by decide) ?_
          refine TrOps.sem (OpSem.move (.inl rfl) rfl) rfl rfl (by decide) ?_
          refine TrOps.sem (OpSem.extract rfl rfl rfl) rfl rfl (by decide) ?_
          refine TrOps.sem (OpSem.extract rfl rfl rfl) rfl rfl (by decide) ?_
          refine TrOps.storeb rfl rfl rfl rfl rfl rfl rfl vs46 (by first | decide | simp) ?_
          refine TrOps.storeb rfl rfl rfl rfl rfl rfl rfl vs29 (by first | decide | simp) ?_
          refine TrOps.nil ?_
          refine At.block_normal ?_
          refine At.seq ?_
          refine Tr.region ?_
          refine TrOps.sem (OpSem.move (.inl rfl) rfl) rfl rfl (by decide) ?_
          refine TrOps.sem (OpSem.bin rfl rfl rfl (badd (by omega) (by omega))) rfl rfl (by decide) ?_
          refine TrOps.sem (OpSem.move (.inr rfl) rfl) rfl rfl (by decide) ?_
          refine TrOps.nil ?_
          refine At.again (v + 1) ⟨by omega, by omega⟩ ?_ (by omega)
          exact .slot rfl (.refl _) <| .slot rfl (.refl _) <| .slot rfl (.refl _) <| .slot rfl (.refl _) <| .slot rfl (Le.of_eq (by simp)) <| .boxLe rfl (by rw [← hs.1]; exact Les.refl _) <| .boxLe rfl (by rw [← hs.2]; exact Les.refl _) <| .mem rfl <| .mem rfl <| .nil
        · refine Tr.exit ?_
          refine At.pass_exit ?_
          refine At.pass_exit ?_
          refine At.block_same ?_
          have hs := pR_stop hval hr (v := v) (by omega) (by simpa using c23)
          refine At.meet ?_
          exact .slot rfl (.refl _) <| .slot rfl (.refl _) <| .slot rfl (.refl _) <| .mem rfl <| .boxLe rfl (by rw [hs.1]; exact Les.refl _) <| .boxLe rfl (.cons (Le.i (congrArg Prod.fst (hs.2))) <| .cons (Le.i (congrArg Prod.snd (hs.2))) <| .nil) <| .nil
      · have hvn : v = m.sizes.length := by simp at c19; omega
        refine TrOps.gF rfl rfl rfl rfl c19 rfl (by decide) ?_
        refine TrOps.gF rfl rfl rfl rfl c19 rfl (by decide) ?_
        refine TrOps.gF rfl rfl rfl rfl c19 rfl (by decide) ?_
        refine TrOps.sem (OpSem.pickF rfl rfl c19 rfl) rfl rfl (by decide) ?_
        refine TrOps.nil ?_
        refine At.seq ?_
        refine Tr.condF rfl rfl ?_
        refine Tr.exit ?_
        refine At.pass_exit ?_
        refine At.pass_exit ?_
        refine At.block_same ?_
        refine At.meet ?_
        exact .slot rfl (.refl _) <| .slot rfl (.refl _) <| .slot rfl (.refl _) <| .mem rfl <| .boxLe rfl (by rw [hvn]; exact Les.refl _) <| .boxLe rfl (by rw [hvn]; exact Les.refl _) <| .nil
  · refine Tr.seq ?_
    refine PC.start [2] ?_
    refine PC.sem (OpSem.loadbN rfl rfl rfl vs46 (by first | decide | simp)) rfl rfl ?_
    refine PC.sem (OpSem.fieldr rfl rfl fo29_0) rfl rfl ?_
    refine PC.sem (OpSem.loadb1 rfl rfl rfl vs3 rfl) rfl rfl ?_
    refine PC.sem (OpSem.bin rfl rfl rfl beql) rfl rfl ?_
    refine PC.storeb 100004 rfl rfl rfl rfl rfl rfl rfl vs46 (by first | decide | simp) ?_
    refine PC.done mixed (by kernel_rfl) (by kernel_rfl) (by kernel_rfl) (by kernel_rfl) ?_
    refine TrOps.sem (OpSem.move (.inr rfl) rfl) rfl rfl (by decide) ?_
    refine TrOps.nil ?_
    refine At.seq ?_
    refine Tr.ret ?_
    exact At.ret rfl (.cellN rfl rfl vs46 <| .tmp rfl <| .nil) rfl (Le.t (.cons (Le.of_eq rfl) <| .cons (Le.of_eq rfl) <| .nil))

end Go.Proofs.Ytohlmcebphcokaa
end
