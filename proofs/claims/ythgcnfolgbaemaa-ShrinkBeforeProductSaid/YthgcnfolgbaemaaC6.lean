/- The engine and the walks that this claim uses, part 6. Written by prune.py out of our own texts. -/
import Derived.Test.YthgcnfolgbaemaaC5
section
/- Walks, written by gen.py out of hints. -/






set_option linter.unusedVariables false
set_option linter.unusedSimpArgs false
namespace Go.Proofs.Ythgcnfolgbaemaa
open Go.Eng
set_option maxRecDepth 10000
set_option maxHeartbeats 1000000

theorem abstraction_At_does (f : Int × Int) (i : Int) : Does Try.prog false 39 [flt f, I (i)] (flt (if f = (0, 0) then (0, 0) else (f.1, i))) := by
  refine Does.of_body Try.func39 rfl rfl (by simp) Try.call39 (fun w0 O0 => ?_)
  refine Tr.seq ?_
  refine Tr.region ?_
  refine TrOps.semM (OpSem.box 2 rfl rfl rfl rfl) rfl rfl (by decide) ?_
  refine TrOps.semM (OpSem.alloc 4 rfl zc28 rfl) rfl rfl (by decide) ?_
  refine TrOps.nil ?_
  refine At.seq ?_
  refine Tr.cut [(0, flt f), (1, I (i)), (2, .r 2 0), (4, .r 4 0)] [(2, .box [I ((if f = (0, 0) then ((0, 0) : Int × Int) else (f.1, i)).1), I ((if f = (0, 0) then ((0, 0) : Int × Int) else (f.1, i)).2)]), (4, .box [I (0), I (0)])] ?_ ?_
  · refine Tr.seq ?_
    refine Tr.region ?_
    refine TrOps.sem (OpSem.loadbN rfl rfl rfl vs28 (by first | decide | simp)) rfl rfl (by decide) ?_
    refine TrOps.sem (OpSem.build rfl rfl pl28 zc28 rfl rfl) rfl rfl (by decide) ?_
    refine TrOps.sem (OpSem.neS2 rfl rfl rfl io28) rfl rfl (by decide) ?_
    refine TrOps.nil ?_
    refine At.seq ?_
    refine Tr.cond rfl (fun c7 => ?_) (fun c7 => ?_)
    · refine Tr.region ?_
      refine TrOps.sem (OpSem.move (.inl rfl) rfl) rfl rfl (by decide) ?_
      refine TrOps.sem (OpSem.fieldr rfl rfl fo28_1) rfl rfl (by decide) ?_
      refine TrOps.storeb rfl rfl rfl rfl rfl rfl rfl vs3 (by first | decide | simp) ?_
      refine TrOps.nil ?_
      have he : (f.1, i) = (if f = (0, 0) then ((0, 0) : Int × Int) else (f.1, i)) := by rw [if_neg (fun h => by rw [h] at c7; simp at c7)]
      refine At.meet ?_
      exact .slot rfl (.refl _) <| .slot rfl (.refl _) <| .slot rfl (.refl _) <| .slot rfl (.refl _) <| .boxLe rfl (.cons (Le.i (by rw [← he])) <| .cons (Le.i (by rw [← he])) <| .nil) <| .mem rfl <| .nil
    · refine Tr.skip ?_
      have he : f = (if f = (0, 0) then ((0, 0) : Int × Int) else (f.1, i)) := by have q := pair0 (f := f) (by simpa using c7); rw [if_pos q, q]
      refine At.meet ?_
      exact .slot rfl (.refl _) <| .slot rfl (.refl _) <| .slot rfl (.refl _) <| .slot rfl (.refl _) <| .boxLe rfl (.cons (Le.i (congrArg Prod.fst (he))) <| .cons (Le.i (congrArg Prod.snd (he))) <| .nil) <| .mem rfl <| .nil
  · refine Tr.seq ?_
    refine Tr.region ?_
    refine TrOps.sem (OpSem.loadbN rfl rfl rfl vs28 (by first | decide | simp)) rfl rfl (by decide) ?_
    refine TrOps.storeb rfl rfl rfl rfl rfl rfl rfl vs28 (by first | decide | simp) ?_
    refine TrOps.nil ?_
    refine At.seq ?_
    refine Tr.ret ?_
    exact At.ret rfl (.cellN rfl rfl vs28 <| .nil) rfl (.refl _)

theorem abstraction_Times_does (a b : Abs) (h : PrdP a b) : Does Try.prog false 40 [absS a, absS b] (absS (timA a b)) := by
  have hA := h.oa
  have hB := h.ob
  have hal := hA.len
  have hbl := hB.len
  have hst := h.st
  have hs1 := hA.head.1
  have hs2 := hB.head.1
  have hi1 := hA.head.2.2
  have hi2 := hB.head.2.2
  have hga := goals_len hA
  have hgb := goals_len hB
  have hpi := pair_in hi1 hi2
  have hmi : 0 ≤ a.init * b.states := Int.mul_nonneg hi1.1 (by omega)
  have hps := prd_st h
  refine Does.of_body Try.func40 rfl rfl (by simp) Try.call40 (fun w0 O0 => ?_)
  refine Tr.lenG (n := 0) (i := 2) rfl rfl (fun len0_2 => ?_)
  refine Tr.lenG (n := 0) (i := 4) rfl rfl (fun len0_4 => ?_)
  refine Tr.lenG (n := 1) (i := 2) rfl rfl (fun len1_2 => ?_)
  refine Tr.lenG (n := 1) (i := 4) rfl rfl (fun len1_4 => ?_)
  refine Tr.seq ?_
  refine Tr.region ?_
  refine TrOps.semM (OpSem.box 2 rfl rfl rfl rfl) rfl rfl (by decide) ?_
  refine TrOps.semM (OpSem.box 3 rfl rfl rfl rfl) rfl rfl (by decide) ?_
  refine TrOps.semM (OpSem.alloc 4 rfl zc25 rfl) rfl rfl (by decide) ?_
  refine TrOps.nil ?_
  refine At.seq ?_
  refine Tr.seq ?_
  refine Tr.region ?_
  refine TrOps.sem (OpSem.fieldr rfl rfl fo25_0) rfl rfl (by decide) ?_
  refine TrOps.sem (OpSem.loadb1 rfl rfl rfl vs3 rfl) rfl rfl (by decide) ?_
  refine TrOps.sem (OpSem.fieldr rfl rfl fo25_0) rfl rfl (by decide) ?_
  refine TrOps.sem (OpSem.loadb1 rfl rfl rfl vs3 rfl) rfl rfl (by decide) ?_
  refine TrOps.sem (OpSem.bin rfl rfl rfl (bmul (by omega) (by omega))) rfl rfl (by decide) ?_
  refine TrOps.sem (OpSem.fieldr rfl rfl fo25_1) rfl rfl (by decide) ?_
  refine TrOps.sem (OpSem.loadb1 rfl rfl rfl vs3 rfl) rfl rfl (by decide) ?_
  refine TrOps.sem (OpSem.fieldr rfl rfl fo25_3) rfl rfl (by decide) ?_
  refine TrOps.sem (OpSem.loadb1 rfl rfl rfl vs3 rfl) rfl rfl (by decide) ?_
  refine TrOps.sem (OpSem.fieldr rfl rfl fo25_0) rfl rfl (by decide) ?_
  refine TrOps.sem (OpSem.loadb1 rfl rfl rfl vs3 rfl) rfl rfl (by decide) ?_
  refine TrOps.sem (OpSem.bin rfl rfl rfl (bmul (by omega) (by omega))) rfl rfl (by decide) ?_
  refine TrOps.sem (OpSem.fieldr rfl rfl fo25_3) rfl rfl (by decide) ?_
  refine TrOps.sem (OpSem.loadb1 rfl rfl rfl vs3 rfl) rfl rfl (by decide) ?_
  refine TrOps.sem (OpSem.bin rfl rfl rfl (badd (by omega) (by omega))) rfl rfl (by decide) ?_
  refine TrOps.sem (OpSem.build rfl rfl pl25 zc25 rfl rfl) rfl rfl (by decide) ?_
  refine TrOps.semM (OpSem.alloc 5 rfl zc25 rfl) rfl rfl (by decide) ?_
  refine TrOps.storeb rfl rfl rfl rfl rfl rfl rfl vs25 (by first | decide | simp) ?_
  refine TrOps.nil ?_
  refine At.seq ?_
  refine Tr.seq ?_
  refine Tr.seq ?_
  refine Tr.ownNilBox 91 5 4 1 3 rfl rfl rfl ?_
  refine Tr.ownNilBox 92 5 2 3 57 rfl rfl rfl ?_
  refine Tr.region ?_
  refine TrOps.sem (OpSem.fieldr rfl rfl fo25_4) rfl rfl (by decide) ?_
  refine TrOps.sem (OpSem.loadb1 rfl rfl rfl vs23 rfl) rfl rfl (by decide) ?_
  refine TrOps.sem (OpSem.lenL rfl rfl es23) rfl rfl (by decide) ?_
  refine TrOps.sem (OpSem.move (.inl rfl) rfl) rfl rfl (by decide) ?_
  refine TrOps.nil ?_
  refine At.seq ?_
  refine Tr.block ?_
  refine Tr.loop (X := Nat) (fun i => i ≤ a.goals.length) (fun i => [(2, .r 2 0), (3, .r 3 0), (4, .r 4 0), (5, .r 5 0), (31, .d (ints a.goals)), (32, I (a.goals.length)), (33, I (i))]) (fun i => [(5, .box [I (a.states * b.states), I (a.labels), .o 92, I (a.init * b.states + b.init), .o 91]), (91, .own 1 3 ((timH a b i).map fun n => [D.v (.int .i64 n)])), (92, .own 3 57 (([] : List Arc).map arcC)), (2, .box [I (a.states), I (a.labels), .d (arcsD a.arcs), I (a.init), .d (ints a.goals)]), (3, .box [I (b.states), I (b.labels), .d (arcsD b.arcs), I (b.init), .d (ints b.goals)]), (4, .box [I (0), I (0), .d (.v (.slice none 0 0)), I (0), .d (.v (.slice none 0 0))])]) (fun i => a.goals.length - i) 0 (by omega) ?_ ?_
  · exact .slot rfl (.refl _) <| .slot rfl (.refl _) <| .slot rfl (.refl _) <| .slot rfl (.refl _) <| .slot rfl (.refl _) <| .slot rfl (.refl _) <| .slot rfl (Le.of_eq (by simp)) <| .mem rfl <| .memEq rfl (by first | (simp [timH]; done) | (simp [timH]; rfl)) <| .memEq rfl rfl <| .mem rfl <| .mem rfl <| .mem rfl <| .nil
  · rintro i hil
    refine Tr.seq ?_
    refine Tr.region ?_
    refine TrOps.sem (OpSem.bin rfl rfl rfl blss) rfl rfl (by decide) ?_
    refine TrOps.nil ?_
    refine At.seq ?_
    refine Tr.seq ?_
    refine Tr.cond rfl (fun c34 => ?_) (fun c34 => ?_)
    · have hi : i < a.goals.length := by simpa using c34
      have hgx := setP_mem hA.goals (nth_mem (l := a.goals) (n := i) (by omega) (by omega))
      have hHl := timH_len (a := a) (b := b) (by omega) (by omega) (i := i)
      refine Tr.skip ?_
      refine At.seq ?_
      refine Tr.seq ?_
      refine Tr.block ?_
      refine Tr.seq ?_
      refine Tr.region ?_
      refine TrOps.sem (OpSem.idxL rfl rfl rfl es23 (by omega) (by omega)) rfl rfl (by decide) ?_
      refine TrOps.sem (OpSem.load1 rfl rfl vs3 rfl) rfl rfl (by decide) ?_
      refine TrOps.sem (OpSem.move (.inr rfl) rfl) rfl rfl (by decide) ?_
      refine TrOps.nil ?_
      refine At.seq ?_
      refine Tr.seq ?_
      refine Tr.region ?_
      refine TrOps.sem (OpSem.fieldr rfl rfl fo25_4) rfl rfl (by decide) ?_
      refine TrOps.sem (OpSem.loadb1 rfl rfl rfl vs23 rfl) rfl rfl (by decide) ?_
      refine TrOps.sem (OpSem.lenL rfl rfl es23) rfl rfl (by decide) ?_
      refine TrOps.sem (OpSem.move (.inl rfl) rfl) rfl rfl (by decide) ?_
      refine TrOps.nil ?_
      refine At.seq ?_
      refine Tr.block ?_
      refine Tr.loop (X := Nat) (fun j => j ≤ b.goals.length) (fun j => [(2, .r 2 0), (3, .r 3 0), (4, .r 4 0), (5, .r 5 0), (7, I ((nth a.goals i))), (31, .d (ints a.goals)), (32, I (a.goals.length)), (33, I (i)), (38, .d (ints b.goals)), (39, I (b.goals.length)), (40, I (j))]) (fun j => [(5, .box [I (a.states * b.states), I (a.labels), .o 92, I (a.init * b.states + b.init), .o 91]), (91, .own 1 3 ((timH a b i ++ timG a b (nth a.goals i) j).map fun n => [D.v (.int .i64 n)])), (92, .own 3 57 (([] : List Arc).map arcC)), (2, .box [I (a.states), I (a.labels), .d (arcsD a.arcs), I (a.init), .d (ints a.goals)]), (3, .box [I (b.states), I (b.labels), .d (arcsD b.arcs), I (b.init), .d (ints b.goals)]), (4, .box [I (0), I (0), .d (.v (.slice none 0 0)), I (0), .d (.v (.slice none 0 0))])]) (fun j => b.goals.length - j) 0 (by omega) ?_ ?_
      · exact .slot rfl (.refl _) <| .slot rfl (.refl _) <| .slot rfl (.refl _) <| .slot rfl (.refl _) <| .slot rfl (.refl _) <| .slot rfl (.refl _) <| .slot rfl (.refl _) <| .slot rfl (.refl _) <| .slot rfl (.refl _) <| .slot rfl (.refl _) <| .slot rfl (Le.of_eq (by simp)) <| .mem rfl <| .memEq rfl (by first | (simp [timG]; done) | (simp [timG]; rfl)) <| .memEq rfl rfl <| .mem rfl <| .mem rfl <| .mem rfl <| .nil
      · rintro j hjl
        refine Tr.seq ?_
        refine Tr.region ?_
        refine TrOps.sem (OpSem.bin rfl rfl rfl blss) rfl rfl (by decide) ?_
        refine TrOps.nil ?_
        refine At.seq ?_
        refine Tr.seq ?_
        refine Tr.cond rfl (fun c41 => ?_) (fun c41 => ?_)
        · have hj : j < b.goals.length := by simpa using c41
          have hgy := setP_mem hB.goals (nth_mem (l := b.goals) (n := j) (by omega) (by omega))
          have hGl := timG_len (a := a) (b := b) (x := nth a.goals i) (j := j)
          have hpg := pair_in hgx hgy
          have hmg : 0 ≤ nth a.goals i * b.states := Int.mul_nonneg hgx.1 (by omega)
          refine Tr.skip ?_
          refine At.seq ?_
          refine Tr.seq ?_
          refine Tr.block ?_
          refine Tr.seq ?_
          refine Tr.region ?_
          refine TrOps.sem (OpSem.idxL rfl rfl rfl es23 (by omega) (by omega)) rfl rfl (by decide) ?_
          refine TrOps.sem (OpSem.load1 rfl rfl vs3 rfl) rfl rfl (by decide) ?_
          refine TrOps.sem (OpSem.move (.inr rfl) rfl) rfl rfl (by decide) ?_
          refine TrOps.nil ?_
          refine At.seq ?_
          refine Tr.region ?_
          refine TrOps.sem (OpSem.fieldr rfl rfl fo25_4) rfl rfl (by decide) ?_
          refine TrOps.sem (OpSem.loadb1 rfl rfl rfl vs23 rfl) rfl rfl (by decide) ?_
          refine TrOps.sem (OpSem.move (.inl rfl) rfl) rfl rfl (by decide) ?_
          refine TrOps.sem (OpSem.fieldr rfl rfl fo25_0) rfl rfl (by decide) ?_
          refine TrOps.sem (OpSem.loadb1 rfl rfl rfl vs3 rfl) rfl rfl (by decide) ?_
          refine TrOps.sem (OpSem.bin rfl rfl rfl (bmul (by omega) (by omega))) rfl rfl (by decide) ?_
          refine TrOps.sem (OpSem.move (.inl rfl) rfl) rfl rfl (by decide) ?_
          refine TrOps.sem (OpSem.bin rfl rfl rfl (badd (by omega) (by omega))) rfl rfl (by decide) ?_
          refine TrOps.sem (OpSem.buildSlice rfl rfl es23 ze23 rfl rfl (by decide) (by decide) rfl rfl) rfl rfl (by decide) ?_
          refine TrOps.append rfl rfl rfl (by decide) rfl rfl rfl es23 el23 zc3 rfl by3 (by simp [D.one, Value.oneCell']) (by simp [maxLen]; omega) (by simp; omega) ?_
          refine TrOps.sem (OpSem.fieldr rfl rfl fo25_4) rfl rfl (by decide) ?_
          refine TrOps.storeb rfl rfl rfl rfl rfl rfl rfl vs23 (by first | decide | simp) ?_
          refine TrOps.nil ?_
          refine At.block_normal ?_
          refine At.seq ?_
          refine Tr.region ?_
          refine TrOps.sem (OpSem.bin rfl rfl rfl (badd (by omega) (by omega))) rfl rfl (by decide) ?_
          refine TrOps.sem (OpSem.move (.inl rfl) rfl) rfl rfl (by decide) ?_
          refine TrOps.nil ?_
          refine At.again (j + 1) (by omega) ?_ (by omega)
          exact .slot rfl (.refl _) <| .slot rfl (.refl _) <| .slot rfl (.refl _) <| .slot rfl (.refl _) <| .slot rfl (.refl _) <| .slot rfl (.refl _) <| .slot rfl (.refl _) <| .slot rfl (.refl _) <| .slot rfl (.refl _) <| .slot rfl (.refl _) <| .slot rfl (Le.of_eq (by simp)) <| .mem rfl <| .memEq rfl (by rw [← timG_s hj]; simp) <| .memEq rfl rfl <| .mem rfl <| .mem rfl <| .mem rfl <| .nil
        · have hj : j = b.goals.length := by simp at c41; omega
          have hHs := timH_s (b := b) hi
          refine Tr.exit ?_
          refine At.pass_exit ?_
          refine At.pass_exit ?_
          refine At.block_same ?_
          refine At.block_normal ?_
          refine At.seq ?_
          refine Tr.region ?_
          refine TrOps.sem (OpSem.bin rfl rfl rfl (badd (by omega) (by omega))) rfl rfl (by decide) ?_
          refine TrOps.sem (OpSem.move (.inl rfl) rfl) rfl rfl (by decide) ?_
          refine TrOps.nil ?_
          refine At.again (i + 1) (by omega) ?_ (by omega)
          exact .slot rfl (.refl _) <| .slot rfl (.refl _) <| .slot rfl (.refl _) <| .slot rfl (.refl _) <| .slot rfl (.refl _) <| .slot rfl (.refl _) <| .slot rfl (Le.of_eq (by simp)) <| .mem rfl <| .memEq rfl (by rw [← hHs, ← hj]) <| .memEq rfl rfl <| .mem rfl <| .mem rfl <| .mem rfl <| .nil
    · have hi : i = a.goals.length := by simp at c34; omega
      subst hi
      refine Tr.exit ?_
      refine At.pass_exit ?_
      refine At.pass_exit ?_
      refine At.block_same ?_
      refine At.seq ?_
      refine Tr.seq ?_
      refine Tr.seq ?_
      refine Tr.freeze 91 rfl ?_
      refine Tr.region ?_
      refine TrOps.sem (OpSem.fieldr rfl rfl fo25_2) rfl rfl (by decide) ?_
      refine TrOps.sem (OpSem.loadb1 rfl rfl rfl vs22 rfl) rfl rfl (by decide) ?_
      refine TrOps.sem (OpSem.lenL rfl rfl es22) rfl rfl (by decide) ?_
      refine TrOps.sem (OpSem.move (.inl rfl) rfl) rfl rfl (by decide) ?_
      refine TrOps.nil ?_
      refine At.seq ?_
      refine Tr.block ?_
      refine Tr.loop (X := Nat) (fun i => i ≤ a.arcs.length) (fun i => [(3, .r 3 0), (4, .r 4 0), (5, .r 5 0), (58, .d (arcsD a.arcs)), (59, I (a.arcs.length)), (60, I (i))]) (fun i => [(5, .box [I (a.states * b.states), I (a.labels), .o 92, I (a.init * b.states + b.init), .d (ints (timH a b a.goals.length))]), (92, .own 3 57 ((timI a b i).map arcC)), (3, .box [I (b.states), I (b.labels), .d (arcsD b.arcs), I (b.init), .d (ints b.goals)]), (4, .box [I (0), I (0), .d (.v (.slice none 0 0)), I (0), .d (.v (.slice none 0 0))])]) (fun i => a.arcs.length - i) 0 (by omega) ?_ ?_
      · exact .slot rfl (.refl _) <| .slot rfl (.refl _) <| .slot rfl (.refl _) <| .slot rfl (.refl _) <| .slot rfl (.refl _) <| .slot rfl (Le.of_eq (by simp)) <| .mem rfl <| .memEq rfl (by first | (simp [timI]; done) | (simp [timI]; rfl)) <| .mem rfl <| .mem rfl <| .nil
      · rintro i hil
        refine Tr.seq ?_
        refine Tr.region ?_
        refine TrOps.sem (OpSem.bin rfl rfl rfl blss) rfl rfl (by decide) ?_
        refine TrOps.nil ?_
        refine At.seq ?_
        refine Tr.seq ?_
        refine Tr.cond rfl (fun c61 => ?_) (fun c61 => ?_)
        · have hi : i < a.arcs.length := by simpa using c61
          have hx := hA.arc i hi
          have hIl := timI_len (a := a) (b := b) (by omega) (by omega) (i := i)
          refine Tr.skip ?_
          refine At.seq ?_
          refine Tr.seq ?_
          refine Tr.block ?_
          refine Tr.seq ?_
          refine Tr.region ?_
          refine TrOps.sem (OpSem.idxL rfl rfl rfl es22 (by omega) (by omega)) rfl rfl (by decide) ?_
          refine TrOps.sem (OpSem.loadN rfl rfl vs57 (by first | decide | simp) rfl) rfl rfl (by decide) ?_
          refine TrOps.semM (OpSem.alloc 11 rfl zc57 rfl) rfl rfl (by decide) ?_
          refine TrOps.storeb rfl rfl rfl rfl rfl rfl rfl vs57 (by first | decide | simp) ?_
          refine TrOps.nil ?_
          refine At.seq ?_
          refine Tr.seq ?_
          refine Tr.region ?_
          refine TrOps.sem (OpSem.fieldr rfl rfl fo25_2) rfl rfl (by decide) ?_
          refine TrOps.sem (OpSem.loadb1 rfl rfl rfl vs22 rfl) rfl rfl (by decide) ?_
          refine TrOps.sem (OpSem.lenL rfl rfl es22) rfl rfl (by decide) ?_
          refine TrOps.sem (OpSem.move (.inl rfl) rfl) rfl rfl (by decide) ?_
          refine TrOps.nil ?_
          refine At.seq ?_
          refine Tr.block ?_
          refine Tr.loop (X := Nat) (fun j => j ≤ b.arcs.length) (fun j => [(3, .r 3 0), (4, .r 4 0), (5, .r 5 0), (11, .r 11 0), (58, .d (arcsD a.arcs)), (59, I (a.arcs.length)), (60, I (i)), (65, .d (arcsD b.arcs)), (66, I (b.arcs.length)), (67, I (j))]) (fun j => [(5, .box [I (a.states * b.states), I (a.labels), .o 92, I (a.init * b.states + b.init), .d (ints (timH a b a.goals.length))]), (92, .own 3 57 ((timI a b i ++ timJ b (nth a.arcs i) j).map arcC)), (3, .box [I (b.states), I (b.labels), .d (arcsD b.arcs), I (b.init), .d (ints b.goals)]), (4, .box [I (0), I (0), .d (.v (.slice none 0 0)), I (0), .d (.v (.slice none 0 0))]), (11, .box [I ((nth a.arcs i).fr), I ((nth a.arcs i).lab), I ((nth a.arcs i).to)])]) (fun j => b.arcs.length - j) 0 (by omega) ?_ ?_
          · exact .slot rfl (.refl _) <| .slot rfl (.refl _) <| .slot rfl (.refl _) <| .slot rfl (.refl _) <| .slot rfl (.refl _) <| .slot rfl (.refl _) <| .slot rfl (.refl _) <| .slot rfl (.refl _) <| .slot rfl (.refl _) <| .slot rfl (Le.of_eq (by simp)) <| .mem rfl <| .memEq rfl (by first | (simp [timJ]; done) | (simp [timJ]; rfl)) <| .mem rfl <| .mem rfl <| .mem rfl <| .nil
          · rintro j hjl
            refine Tr.seq ?_
            refine Tr.region ?_
            refine TrOps.sem (OpSem.bin rfl rfl rfl blss) rfl rfl (by decide) ?_
            refine TrOps.nil ?_
            refine At.seq ?_
            refine Tr.seq ?_
            refine Tr.cond rfl (fun c68 => ?_) (fun c68 => ?_)
            · have hj : j < b.arcs.length := by simpa using c68
              have hy := hB.arc j hj
              have hJl := timJ_len (b := b) (x := nth a.arcs i) (j := j)
              have hp1 := pair_in hx.1 hy.1
              have hp2 := pair_in hx.2.2 hy.2.2
              have hm1 : 0 ≤ (nth a.arcs i).fr * b.states := Int.mul_nonneg hx.1.1 (by omega)
              have hm2 : 0 ≤ (nth a.arcs i).to * b.states := Int.mul_nonneg hx.2.2.1 (by omega)
              refine Tr.skip ?_
              refine At.seq ?_
              refine Tr.seq ?_
              refine Tr.block ?_
              refine Tr.seq ?_
              refine Tr.region ?_
              refine TrOps.sem (OpSem.idxL rfl rfl rfl es22 (by omega) (by omega)) rfl rfl (by decide) ?_
              refine TrOps.sem (OpSem.loadN rfl rfl vs57 (by first | decide | simp) rfl) rfl rfl (by decide) ?_
              refine TrOps.semM (OpSem.alloc 13 rfl zc57 rfl) rfl rfl (by decide) ?_
              refine TrOps.storeb rfl rfl rfl rfl rfl rfl rfl vs57 (by first | decide | simp) ?_
              refine TrOps.nil ?_
              refine At.seq ?_
              refine Tr.seq ?_
              refine Tr.region ?_
              refine TrOps.sem (OpSem.fieldr rfl rfl fo57_1) rfl rfl (by decide) ?_
              refine TrOps.sem (OpSem.loadb1 rfl rfl rfl vs3 rfl) rfl rfl (by decide) ?_
              refine TrOps.sem (OpSem.fieldr rfl rfl fo57_1) rfl rfl (by decide) ?_
              refine TrOps.sem (OpSem.loadb1 rfl rfl rfl vs3 rfl) rfl rfl (by decide) ?_
              refine TrOps.sem (OpSem.bin rfl rfl rfl beql) rfl rfl (by decide) ?_
              refine TrOps.nil ?_
              refine At.seq ?_
              refine Tr.cond rfl (fun c75 => ?_) (fun c75 => ?_)
              · have hlab : (nth a.arcs i).lab = (nth b.arcs j).lab := by simpa using c75
                have hJs := timJ_t (x := nth a.arcs i) hj hlab
                refine Tr.region ?_
                refine TrOps.sem (OpSem.fieldr rfl rfl fo25_2) rfl rfl (by decide) ?_
                refine TrOps.sem (OpSem.loadb1 rfl rfl rfl vs22 rfl) rfl rfl (by decide) ?_
                refine TrOps.sem (OpSem.fieldr rfl rfl fo57_0) rfl rfl (by decide) ?_
                refine TrOps.sem (OpSem.loadb1 rfl rfl rfl vs3 rfl) rfl rfl (by decide) ?_
                refine TrOps.sem (OpSem.fieldr rfl rfl fo25_0) rfl rfl (by decide) ?_
                refine TrOps.sem (OpSem.loadb1 rfl rfl rfl vs3 rfl) rfl rfl (by decide) ?_
                refine TrOps.sem (OpSem.bin rfl rfl rfl (bmul (by omega) (by omega))) rfl rfl (by decide) ?_
                refine TrOps.sem (OpSem.fieldr rfl rfl fo57_0) rfl rfl (by decide) ?_
                refine TrOps.sem (OpSem.loadb1 rfl rfl rfl vs3 rfl) rfl rfl (by decide) ?_
                refine TrOps.sem (OpSem.bin rfl rfl rfl (badd (by omega) (by omega))) rfl rfl (by decide) ?_
                refine TrOps.sem (OpSem.fieldr rfl rfl fo57_1) rfl rfl (by decide) ?_
                refine TrOps.sem (OpSem.loadb1 rfl rfl rfl vs3 rfl) rfl rfl (by decide) ?_
                refine TrOps.sem (OpSem.fieldr rfl rfl fo57_2) rfl rfl (by decide) ?_
                refine TrOps.sem (OpSem.loadb1 rfl rfl rfl vs3 rfl) rfl rfl (by decide) ?_
                refine TrOps.sem (OpSem.fieldr rfl rfl fo25_0) rfl rfl (by decide) ?_
                refine TrOps.sem (OpSem.loadb1 rfl rfl rfl vs3 rfl) rfl rfl (by decide) ?_
                refine TrOps.sem (OpSem.bin rfl rfl rfl (bmul (by omega) (by omega))) rfl rfl (by decide) ?_
                refine TrOps.sem (OpSem.fieldr rfl rfl fo57_2) rfl rfl (by decide) ?_
                refine TrOps.sem (OpSem.loadb1 rfl rfl rfl vs3 rfl) rfl rfl (by decide) ?_
                refine TrOps.sem (OpSem.bin rfl rfl rfl (badd (by omega) (by omega))) rfl rfl (by decide) ?_
                refine TrOps.sem (OpSem.build rfl rfl pl57 zc57 rfl rfl) rfl rfl (by decide) ?_
                refine TrOps.sem (OpSem.buildSlice rfl rfl es22 ze22 rfl rfl (by decide) (by decide) rfl rfl) rfl rfl (by decide) ?_
                refine TrOps.append rfl rfl rfl (by decide) rfl rfl rfl es22 el22 zc57 rfl by57 (by simp [D.one, Value.oneCell']) (by simp [maxLen]; omega) (by simp; omega) ?_
                refine TrOps.sem (OpSem.fieldr rfl rfl fo25_2) rfl rfl (by decide) ?_
                refine TrOps.storeb rfl rfl rfl rfl rfl rfl rfl vs22 (by first | decide | simp) ?_
                refine TrOps.nil ?_
                refine At.block_normal ?_
                refine At.seq ?_
                refine Tr.region ?_
                refine TrOps.sem (OpSem.bin rfl rfl rfl (badd (by omega) (by omega))) rfl rfl (by decide) ?_
                refine TrOps.sem (OpSem.move (.inl rfl) rfl) rfl rfl (by decide) ?_
                refine TrOps.nil ?_
                refine At.again (j + 1) (by omega) ?_ (by omega)
                exact .slot rfl (.refl _) <| .slot rfl (.refl _) <| .slot rfl (.refl _) <| .slot rfl (.refl _) <| .slot rfl (.refl _) <| .slot rfl (.refl _) <| .slot rfl (.refl _) <| .slot rfl (.refl _) <| .slot rfl (.refl _) <| .slot rfl (Le.of_eq (by simp)) <| .mem rfl <| .memEq rfl (by rw [← hJs]; simp [prA]) <| .mem rfl <| .mem rfl <| .mem rfl <| .nil
              · have hlab : (nth a.arcs i).lab ≠ (nth b.arcs j).lab := by simpa using c75
                have hJs := timJ_f (x := nth a.arcs i) hj hlab
                refine Tr.skip ?_
                refine At.block_normal ?_
                refine At.seq ?_
                refine Tr.region ?_
                refine TrOps.sem (OpSem.bin rfl rfl rfl (badd (by omega) (by omega))) rfl rfl (by decide) ?_
                refine TrOps.sem (OpSem.move (.inl rfl) rfl) rfl rfl (by decide) ?_
                refine TrOps.nil ?_
                refine At.again (j + 1) (by omega) ?_ (by omega)
                exact .slot rfl (.refl _) <| .slot rfl (.refl _) <| .slot rfl (.refl _) <| .slot rfl (.refl _) <| .slot rfl (.refl _) <| .slot rfl (.refl _) <| .slot rfl (.refl _) <| .slot rfl (.refl _) <| .slot rfl (.refl _) <| .slot rfl (Le.of_eq (by simp)) <| .mem rfl <| .memEq rfl (by rw [hJs]; rfl) <| .mem rfl <| .mem rfl <| .mem rfl <| .nil
            · have hj : j = b.arcs.length := by simp at c68; omega
              have hIs := timI_s (b := b) hi
              refine Tr.exit ?_
              refine At.pass_exit ?_
              refine At.pass_exit ?_
              refine At.block_same ?_
              refine At.block_normal ?_
              refine At.seq ?_
              refine Tr.region ?_
              refine TrOps.sem (OpSem.bin rfl rfl rfl (badd (by omega) (by omega))) rfl rfl (by decide) ?_
              refine TrOps.sem (OpSem.move (.inl rfl) rfl) rfl rfl (by decide) ?_
              refine TrOps.nil ?_
              refine At.again (i + 1) (by omega) ?_ (by omega)
              exact .slot rfl (.refl _) <| .slot rfl (.refl _) <| .slot rfl (.refl _) <| .slot rfl (.refl _) <| .slot rfl (.refl _) <| .slot rfl (Le.of_eq (by simp)) <| .mem rfl <| .memEq rfl (by rw [← hIs, ← hj]) <| .mem rfl <| .mem rfl <| .nil
        · have hi : i = a.arcs.length := by simp at c61; omega
          subst hi
          have hIl := timI_len (a := a) (b := b) (by omega) (by omega) (i := a.arcs.length)
          refine Tr.exit ?_
          refine At.pass_exit ?_
          refine At.pass_exit ?_
          refine At.block_same ?_
          refine At.seq ?_
          refine Tr.seq ?_
          refine Tr.region ?_
          refine TrOps.sem (OpSem.loadbN rfl rfl rfl vs25 (by first | decide | simp)) rfl rfl (by decide) ?_
          refine TrOps.callAbs (fun q n c => sorted_all (timI a b a.arcs.length) (a.states * b.states) a.labels (a.init * b.states + b.init) q n c (by omega)) rfl rfl rfl (by decide) rfl rfl rfl (plain_arcs _) ?_
          refine TrOps.freeze 92 rfl ?_
          refine TrOps.storeb rfl rfl rfl rfl rfl rfl rfl vs25 (by first | decide | simp) ?_
          refine TrOps.nil ?_
          refine At.seq ?_
          refine Tr.ret ?_
          exact At.ret rfl (.cellN rfl rfl vs25 <| .nil) rfl (.refl _)

theorem abstraction_Product_does (a b : Abs) (hra : -9223372036854775808 ≤ a.states ∧ a.states ≤ 9223372036854775807) (hrb : -9223372036854775808 ≤ b.states ∧ b.states ≤ 9223372036854775807) : Does Try.prog false 23 [absS a, absS b] (.t [absS (prdR a b), flt (prdF a b)]) := by
  refine Does.of_body Try.func23 rfl rfl (by simp) Try.call23 (fun w0 O0 => ?_)
  refine Tr.lenG (n := 0) (i := 2) rfl rfl (fun len0_2 => ?_)
  refine Tr.lenG (n := 0) (i := 4) rfl rfl (fun len0_4 => ?_)
  refine Tr.lenG (n := 1) (i := 2) rfl rfl (fun len1_2 => ?_)
  refine Tr.lenG (n := 1) (i := 4) rfl rfl (fun len1_4 => ?_)
  refine Tr.seq ?_
  refine Tr.region ?_
  refine TrOps.semM (OpSem.box 2 rfl rfl rfl rfl) rfl rfl (by decide) ?_
  refine TrOps.semM (OpSem.box 3 rfl rfl rfl rfl) rfl rfl (by decide) ?_
  refine TrOps.semM (OpSem.alloc 4 rfl zc25 rfl) rfl rfl (by decide) ?_
  refine TrOps.semM (OpSem.alloc 5 rfl zc28 rfl) rfl rfl (by decide) ?_
  refine TrOps.nil ?_
  refine At.seq ?_
  refine Tr.seq ?_
  refine Tr.region ?_
  refine TrOps.sem (OpSem.loadbN rfl rfl rfl vs25 (by first | decide | simp)) rfl rfl (by decide) ?_
  refine TrOps.sem (OpSem.call0 (abstraction_Validate_does a hra) rfl rfl rfl rfl (Les.refl _)) rfl rfl (by decide) ?_
  refine TrOps.semM (OpSem.alloc 6 rfl zc28 rfl) rfl rfl (by decide) ?_
  refine TrOps.storeb rfl rfl rfl rfl rfl rfl rfl vs28 (by first | decide | simp) ?_
  refine TrOps.nil ?_
  refine At.seq ?_
  refine Tr.cut [(2, .r 2 0), (3, .r 3 0), (4, .r 4 0), (5, .r 5 0), (6, .r 6 0)] [(2, .box [I (a.states), I (a.labels), .d (arcsD a.arcs), I (a.init), .d (ints a.goals)]), (3, .box [I (b.states), I (b.labels), .d (arcsD b.arcs), I (b.init), .d (ints b.goals)]), (4, .box [I (0), I (0), .d (.v (.slice none 0 0)), I (0), .d (.v (.slice none 0 0))]), (5, .box [I (0), I (0)]), (6, .box [I ((prdF1 a b).1), I ((prdF1 a b).2)])] ?_ ?_
  · refine Tr.seq ?_
    refine Tr.region ?_
    refine TrOps.sem (OpSem.loadbN rfl rfl rfl vs28 (by first | decide | simp)) rfl rfl (by decide) ?_
    refine TrOps.sem (OpSem.build rfl rfl pl28 zc28 rfl rfl) rfl rfl (by decide) ?_
    refine TrOps.sem (OpSem.eqS2 rfl rfl rfl io28) rfl rfl (by decide) ?_
    refine TrOps.nil ?_
    refine At.seq ?_
    refine Tr.cond rfl (fun c12 => ?_) (fun c12 => ?_)
    · refine Tr.region ?_
      refine TrOps.sem (OpSem.loadbN rfl rfl rfl vs25 (by first | decide | simp)) rfl rfl (by decide) ?_
      refine TrOps.sem (OpSem.call0 (abstraction_Validate_does b hrb) rfl rfl rfl rfl (Les.refl _)) rfl rfl (by decide) ?_
      refine TrOps.sem (OpSem.call0 (abstraction_At_does (absFault b) (-5)) rfl rfl rfl rfl (Les.refl _)) rfl rfl (by decide) ?_
      refine TrOps.storeb rfl rfl rfl rfl rfl rfl rfl vs28 (by first | decide | simp) ?_
      refine TrOps.nil ?_
      have he : (if absFault b = (0, 0) then ((0, 0) : Int × Int) else ((absFault b).1, -5)) = prdF1 a b := by have q := pair0 (f := absFault a) (by simpa using c12); unfold prdF1; simp [q]
      refine At.meet ?_
      exact .slot rfl (.refl _) <| .slot rfl (.refl _) <| .slot rfl (.refl _) <| .slot rfl (.refl _) <| .slot rfl (.refl _) <| .mem rfl <| .mem rfl <| .mem rfl <| .mem rfl <| .boxLe rfl (.cons (Le.i (congrArg Prod.fst (he))) <| .cons (Le.i (congrArg Prod.snd (he))) <| .nil) <| .nil
    · refine Tr.skip ?_
      have he : absFault a = prdF1 a b := by unfold prdF1; rw [if_pos (fun h => by rw [h] at c12; simp at c12)]
      refine At.meet ?_
      exact .slot rfl (.refl _) <| .slot rfl (.refl _) <| .slot rfl (.refl _) <| .slot rfl (.refl _) <| .slot rfl (.refl _) <| .mem rfl <| .mem rfl <| .mem rfl <| .mem rfl <| .boxLe rfl (.cons (Le.i (congrArg Prod.fst (he))) <| .cons (Le.i (congrArg Prod.snd (he))) <| .nil) <| .nil
  · refine Tr.cut [(2, .r 2 0), (3, .r 3 0), (4, .r 4 0), (5, .r 5 0), (6, .r 6 0)] [(2, .box [I (a.states), I (a.labels), .d (arcsD a.arcs), I (a.init), .d (ints a.goals)]), (3, .box [I (b.states), I (b.labels), .d (arcsD b.arcs), I (b.init), .d (ints b.goals)]), (4, .box [I (0), I (0), .d (.v (.slice none 0 0)), I (0), .d (.v (.slice none 0 0))]), (5, .box [I (0), I (0)]), (6, .box [I ((prdF2 a b).1), I ((prdF2 a b).2)])] ?_ ?_
    · refine Tr.seq ?_
      refine Tr.region ?_
      refine TrOps.sem (OpSem.loadbN rfl rfl rfl vs28 (by first | decide | simp)) rfl rfl (by decide) ?_
      refine TrOps.sem (OpSem.build rfl rfl pl28 zc28 rfl rfl) rfl rfl (by decide) ?_
      refine TrOps.sem (OpSem.eqS2 rfl rfl rfl io28) rfl rfl (by decide) ?_
      refine TrOps.sem (OpSem.move (.inl rfl) rfl) rfl rfl (by decide) ?_
      refine TrOps.split (n := 19) rfl (fun c19 => ?_) (fun c19 => ?_)
      · refine TrOps.gT rfl rfl rfl rfl c19 ?_
        refine TrOps.sem (OpSem.fieldr rfl rfl fo25_1) rfl rfl (by decide) ?_
        refine TrOps.gT rfl rfl rfl rfl c19 ?_
        refine TrOps.sem (OpSem.loadb1 rfl rfl rfl vs3 rfl) rfl rfl (by decide) ?_
        refine TrOps.gT rfl rfl rfl rfl c19 ?_
        refine TrOps.sem (OpSem.fieldr rfl rfl fo25_1) rfl rfl (by decide) ?_
        refine TrOps.gT rfl rfl rfl rfl c19 ?_
        refine TrOps.sem (OpSem.loadb1 rfl rfl rfl vs3 rfl) rfl rfl (by decide) ?_
        refine TrOps.gT rfl rfl rfl rfl c19 ?_
        refine TrOps.sem (OpSem.bin rfl rfl rfl bneq) rfl rfl (by decide) ?_
        refine TrOps.sem (OpSem.pickT rfl rfl c19 rfl) rfl rfl (by decide) ?_
        refine TrOps.nil ?_
        refine At.seq ?_
        refine Tr.cond rfl (fun c25 => ?_) (fun c25 => ?_)
        · refine Tr.region ?_
          refine TrOps.sem (OpSem.build rfl rfl pl28 zc28 rfl rfl) rfl rfl (by decide) ?_
          refine TrOps.storeb rfl rfl rfl rfl rfl rfl rfl vs28 (by first | decide | simp) ?_
          refine TrOps.nil ?_
          have he : (9, -6) = prdF2 a b := by have q := pair0 (f := prdF1 a b) (by simpa using c19); unfold prdF2; rw [if_neg (fun hn => hn q), if_pos (by simpa using c25)]
          refine At.meet ?_
          exact .slot rfl (.refl _) <| .slot rfl (.refl _) <| .slot rfl (.refl _) <| .slot rfl (.refl _) <| .slot rfl (.refl _) <| .mem rfl <| .mem rfl <| .mem rfl <| .mem rfl <| .boxLe rfl (.cons (Le.i (congrArg Prod.fst (he))) <| .cons (Le.i (congrArg Prod.snd (he))) <| .nil) <| .nil
        · refine Tr.skip ?_
          have he : prdF1 a b = prdF2 a b := by have q := pair0 (f := prdF1 a b) (by simpa using c19); unfold prdF2; rw [if_neg (fun hn => hn q), if_neg (by simpa using c25), q]
          refine At.meet ?_
          exact .slot rfl (.refl _) <| .slot rfl (.refl _) <| .slot rfl (.refl _) <| .slot rfl (.refl _) <| .slot rfl (.refl _) <| .mem rfl <| .mem rfl <| .mem rfl <| .mem rfl <| .boxLe rfl (.cons (Le.i (congrArg Prod.fst (he))) <| .cons (Le.i (congrArg Prod.snd (he))) <| .nil) <| .nil
      · refine TrOps.gF rfl rfl rfl rfl c19 rfl (by decide) ?_
        refine TrOps.gF rfl rfl rfl rfl c19 rfl (by decide) ?_
        refine TrOps.gF rfl rfl rfl rfl c19 rfl (by decide) ?_
        refine TrOps.gF rfl rfl rfl rfl c19 rfl (by decide) ?_
        refine TrOps.gF rfl rfl rfl rfl c19 rfl (by decide) ?_
        refine TrOps.sem (OpSem.pickF rfl rfl c19 rfl) rfl rfl (by decide) ?_
        refine TrOps.nil ?_
        refine At.seq ?_
        refine Tr.condF rfl rfl ?_
        refine Tr.skip ?_
        have he : prdF1 a b = prdF2 a b := by unfold prdF2; rw [if_pos (fun h => by rw [h] at c19; simp at c19)]
        refine At.meet ?_
        exact .slot rfl (.refl _) <| .slot rfl (.refl _) <| .slot rfl (.refl _) <| .slot rfl (.refl _) <| .slot rfl (.refl _) <| .mem rfl <| .mem rfl <| .mem rfl <| .mem rfl <| .boxLe rfl (.cons (Le.i (congrArg Prod.fst (he))) <| .cons (Le.i (congrArg Prod.snd (he))) <| .nil) <| .nil
    · refine Tr.cut [(2, .r 2 0), (3, .r 3 0), (4, .r 4 0), (5, .r 5 0), (6, .r 6 0)] [(2, .box [I (a.states), I (a.labels), .d (arcsD a.arcs), I (a.init), .d (ints a.goals)]), (3, .box [I (b.states), I (b.labels), .d (arcsD b.arcs), I (b.init), .d (ints b.goals)]), (4, .box [I (0), I (0), .d (.v (.slice none 0 0)), I (0), .d (.v (.slice none 0 0))]), (5, .box [I (0), I (0)]), (6, .box [I ((prdF3 a b).1), I ((prdF3 a b).2)])] ?_ ?_
      · refine Tr.seq ?_
        refine Tr.region ?_
        refine TrOps.sem (OpSem.loadbN rfl rfl rfl vs28 (by first | decide | simp)) rfl rfl (by decide) ?_
        refine TrOps.sem (OpSem.build rfl rfl pl28 zc28 rfl rfl) rfl rfl (by decide) ?_
        refine TrOps.sem (OpSem.eqS2 rfl rfl rfl io28) rfl rfl (by decide) ?_
        refine TrOps.sem (OpSem.move (.inl rfl) rfl) rfl rfl (by decide) ?_
        refine TrOps.split (n := 30) rfl (fun c30 => ?_) (fun c30 => ?_)
        · have q0 := pair0 (f := prdF2 a b) (by simpa using c30)
          have q1 := prdF1_inv (prdF2_inv q0).1
          have hs1 := (absFault_ok (congrArg Prod.fst q1.1)).1.head.1
          have hs2 := (absFault_ok (congrArg Prod.fst q1.2)).1.head.1
          have hpp : 0 ≤ a.states * b.states ∧ a.states * b.states ≤ 3600 := mul_in (by omega) (by omega)
          refine TrOps.gT rfl rfl rfl rfl c30 ?_
          refine TrOps.sem (OpSem.fieldr rfl rfl fo25_0) rfl rfl (by decide) ?_
          refine TrOps.gT rfl rfl rfl rfl c30 ?_
          refine TrOps.sem (OpSem.loadb1 rfl rfl rfl vs3 rfl) rfl rfl (by decide) ?_
          refine TrOps.gT rfl rfl rfl rfl c30 ?_
          refine TrOps.sem (OpSem.fieldr rfl rfl fo25_0) rfl rfl (by decide) ?_
          refine TrOps.gT rfl rfl rfl rfl c30 ?_
          refine TrOps.sem (OpSem.loadb1 rfl rfl rfl vs3 rfl) rfl rfl (by decide) ?_
          refine TrOps.gT rfl rfl rfl rfl c30 ?_
          refine TrOps.sem (OpSem.bin rfl rfl rfl (bmul (by omega) (by omega))) rfl rfl (by decide) ?_
          refine TrOps.gT rfl rfl rfl rfl c30 ?_
          refine TrOps.sem (OpSem.bin rfl rfl rfl bgtr) rfl rfl (by decide) ?_
          refine TrOps.sem (OpSem.pickT rfl rfl c30 rfl) rfl rfl (by decide) ?_
          refine TrOps.nil ?_
          refine At.seq ?_
          refine Tr.cond rfl (fun c37 => ?_) (fun c37 => ?_)
          · refine Tr.region ?_
            refine TrOps.sem (OpSem.build rfl rfl pl28 zc28 rfl rfl) rfl rfl (by decide) ?_
            refine TrOps.storeb rfl rfl rfl rfl rfl rfl rfl vs28 (by first | decide | simp) ?_
            refine TrOps.nil ?_
            have he : (10, -7) = prdF3 a b := by unfold prdF3; rw [if_neg (fun hn => hn q0), if_pos (by simpa using c37)]
            refine At.meet ?_
            exact .slot rfl (.refl _) <| .slot rfl (.refl _) <| .slot rfl (.refl _) <| .slot rfl (.refl _) <| .slot rfl (.refl _) <| .mem rfl <| .mem rfl <| .mem rfl <| .mem rfl <| .boxLe rfl (.cons (Le.i (congrArg Prod.fst (he))) <| .cons (Le.i (congrArg Prod.snd (he))) <| .nil) <| .nil
          · refine Tr.skip ?_
            have he : prdF2 a b = prdF3 a b := by unfold prdF3; rw [if_neg (fun hn => hn q0), if_neg (by simpa using c37), q0]
            refine At.meet ?_
            exact .slot rfl (.refl _) <| .slot rfl (.refl _) <| .slot rfl (.refl _) <| .slot rfl (.refl _) <| .slot rfl (.refl _) <| .mem rfl <| .mem rfl <| .mem rfl <| .mem rfl <| .boxLe rfl (.cons (Le.i (congrArg Prod.fst (he))) <| .cons (Le.i (congrArg Prod.snd (he))) <| .nil) <| .nil
        · refine TrOps.gF rfl rfl rfl rfl c30 rfl (by decide) ?_
          refine TrOps.gF rfl rfl rfl rfl c30 rfl (by decide) ?_
          refine TrOps.gF rfl rfl rfl rfl c30 rfl (by decide) ?_
          refine TrOps.gF rfl rfl rfl rfl c30 rfl (by decide) ?_
          refine TrOps.gF rfl rfl rfl rfl c30 rfl (by decide) ?_
          refine TrOps.gF rfl rfl rfl rfl c30 rfl (by decide) ?_
          refine TrOps.sem (OpSem.pickF rfl rfl c30 rfl) rfl rfl (by decide) ?_
          refine TrOps.nil ?_
          refine At.seq ?_
          refine Tr.condF rfl rfl ?_
          refine Tr.skip ?_
          have he : prdF2 a b = prdF3 a b := by unfold prdF3; rw [if_pos (fun h => by rw [h] at c30; simp at c30)]
          refine At.meet ?_
          exact .slot rfl (.refl _) <| .slot rfl (.refl _) <| .slot rfl (.refl _) <| .slot rfl (.refl _) <| .slot rfl (.refl _) <| .mem rfl <| .mem rfl <| .mem rfl <| .mem rfl <| .boxLe rfl (.cons (Le.i (congrArg Prod.fst (he))) <| .cons (Le.i (congrArg Prod.snd (he))) <| .nil) <| .nil
      · refine Tr.seq ?_
        refine Tr.seq ?_
        refine Tr.region ?_
        refine TrOps.sem (OpSem.loadbN rfl rfl rfl vs28 (by first | decide | simp)) rfl rfl (by decide) ?_
        refine TrOps.sem (OpSem.build rfl rfl pl28 zc28 rfl rfl) rfl rfl (by decide) ?_
        refine TrOps.sem (OpSem.neS2 rfl rfl rfl io28) rfl rfl (by decide) ?_
        refine TrOps.nil ?_
        refine At.seq ?_
        refine Tr.cond rfl (fun c41 => ?_) (fun c41 => ?_)
        · have hne : prdF3 a b ≠ (0, 0) := fun h => by rw [h] at c41; simp at c41
          have he : prdF3 a b = prdF a b := by unfold prdF; rw [if_pos hne]
          have hne2 : prdF a b ≠ (0, 0) := by rw [← he]; exact hne
          refine Tr.seq ?_
          refine PC.start [4] ?_
          refine PC.sem (OpSem.build rfl rfl pl25 zc25 rfl rfl) rfl rfl ?_
          refine PC.sem (OpSem.loadbN rfl rfl rfl vs28 (by first | decide | simp)) rfl rfl ?_
          refine PC.storeb 100002 rfl rfl rfl rfl rfl rfl rfl vs25 (by first | decide | simp) ?_
          refine PC.done mixed (by kernel_rfl) (by kernel_rfl) (by kernel_rfl) (by kernel_rfl) ?_
          refine TrOps.storeb rfl rfl rfl rfl rfl rfl rfl vs28 (by first | decide | simp) ?_
          refine TrOps.nil ?_
          refine At.seq ?_
          refine Tr.ret ?_
          refine At.pass_ret ?_
          exact At.ret rfl (.cellN rfl rfl vs25 <| .cellN rfl rfl vs28 <| .nil) rfl (Le.t (.cons (by rw [prdR_1 hne2]; exact Le.g (.cons (.refl _) <| .cons (.refl _) <| .cons (Le.nil 3) <| .cons (.refl _) <| .cons (Le.nil 1) <| .nil)) <| .cons (Le.flt (by rw [← he])) <| .nil))
        · have h0 : prdF3 a b = (0, 0) := pair0 (f := prdF3 a b) (by simpa using c41)
          have hP := prdF3_ok h0
          refine Tr.skip ?_
          refine At.seq ?_
          refine Tr.seq ?_
          refine Tr.region ?_
          refine TrOps.sem (OpSem.loadbN rfl rfl rfl vs25 (by first | decide | simp)) rfl rfl (by decide) ?_
          refine TrOps.sem (OpSem.loadbN rfl rfl rfl vs25 (by first | decide | simp)) rfl rfl (by decide) ?_
          refine TrOps.sem (OpSem.call0 (abstraction_Times_does a b hP) rfl rfl rfl rfl (Les.refl _)) rfl rfl (by decide) ?_
          refine TrOps.semM (OpSem.alloc 7 rfl zc25 rfl) rfl rfl (by decide) ?_
          refine TrOps.storeb rfl rfl rfl rfl rfl rfl rfl vs25 (by first | decide | simp) ?_
          refine TrOps.nil ?_
          refine At.seq ?_
          refine Tr.seq ?_
          refine Tr.seq ?_
          refine Tr.region ?_
          refine TrOps.sem (OpSem.fieldr rfl rfl fo25_2) rfl rfl (by decide) ?_
          refine TrOps.sem (OpSem.loadb1 rfl rfl rfl vs22 rfl) rfl rfl (by decide) ?_
          refine TrOps.sem (OpSem.lenL rfl rfl es22) rfl rfl (by decide) ?_
          refine TrOps.sem (OpSem.bin rfl rfl rfl bgtr) rfl rfl (by decide) ?_
          refine TrOps.nil ?_
          refine At.seq ?_
          refine Tr.cond rfl (fun c50 => ?_) (fun c50 => ?_)
          · have he : (10, -7) = prdF a b := (prdF_big hP (by simp at c50; omega)).symm
            have hne2 : prdF a b ≠ (0, 0) := by rw [← he]; decide
            refine Tr.seq ?_
            refine Tr.region ?_
            refine TrOps.sem (OpSem.build rfl rfl pl25 zc25 rfl rfl) rfl rfl (by decide) ?_
            refine TrOps.sem (OpSem.build rfl rfl pl28 zc28 rfl rfl) rfl rfl (by decide) ?_
            refine TrOps.storeb rfl rfl rfl rfl rfl rfl rfl vs25 (by first | decide | simp) ?_
            refine TrOps.storeb rfl rfl rfl rfl rfl rfl rfl vs28 (by first | decide | simp) ?_
            refine TrOps.nil ?_
            refine At.seq ?_
            refine Tr.ret ?_
            refine At.pass_ret ?_
            exact At.ret rfl (.cellN rfl rfl vs25 <| .cellN rfl rfl vs28 <| .nil) rfl (Le.t (.cons (by rw [prdR_1 hne2]; exact Le.g (.cons (.refl _) <| .cons (.refl _) <| .cons (Le.nil 3) <| .cons (.refl _) <| .cons (Le.nil 1) <| .nil)) <| .cons (Le.flt he) <| .nil))
          · have he : prdF a b = (0, 0) := prdF_of hP (by simp at c50; omega)
            refine Tr.skip ?_
            refine At.seq ?_
            refine Tr.seq ?_
            refine PC.start [4] ?_
            refine PC.sem (OpSem.loadbN rfl rfl rfl vs25 (by first | decide | simp)) rfl rfl ?_
            refine PC.sem (OpSem.loadbN rfl rfl rfl vs28 (by first | decide | simp)) rfl rfl ?_
            refine PC.storeb 100002 rfl rfl rfl rfl rfl rfl rfl vs25 (by first | decide | simp) ?_
            refine PC.done mixed (by kernel_rfl) (by kernel_rfl) (by kernel_rfl) (by kernel_rfl) ?_
            refine TrOps.storeb rfl rfl rfl rfl rfl rfl rfl vs28 (by first | decide | simp) ?_
            refine TrOps.nil ?_
            refine At.seq ?_
            refine Tr.ret ?_
            exact At.ret rfl (.cellN rfl rfl vs25 <| .cellN rfl rfl vs28 <| .nil) rfl (Le.t (.cons (Le.of_eq (by rw [prdR_0 he]; rfl)) <| .cons (Le.flt (by rw [he, h0])) <| .nil))

end Go.Proofs.Ythgcnfolgbaemaa
end

section
/- Quotients of abstractions; bisimulations and distances. -/


set_option linter.unusedVariables false
set_option linter.unusedSimpArgs false
set_option linter.unusedSectionVars false
namespace Go.Eng
open Go
/-! ### Partitions -/
def topTo (p : List Int) : Nat → Int
  | 0 => 0
  | k + 1 => max (topTo p k) (nth p k + 1)
def PartP (p : List Int) : Prop := ∀ k : Nat, k < p.length → 0 ≤ nth p k ∧ nth p k ≤ topTo p k
instance {p : List Int} : Decidable (PartP p) := by unfold PartP; exact inferInstance
theorem topTo_ge {p : List Int} {i : Nat} : ∀ {k : Nat}, i < k → nth p i + 1 ≤ topTo p k
  | 0, h => by omega
  | k + 1, h => by
    simp only [topTo]
    by_cases e : i = k
    · subst e; omega
    · have := topTo_ge (p := p) (i := i) (k := k) (by omega); omega
theorem topTo_le {p : List Int} (h : PartP p) : ∀ {k : Nat}, k ≤ p.length → topTo p k ≤ k
  | 0, _ => by simp [topTo]
  | k + 1, hk => by
    have := topTo_le h (k := k) (by omega)
    have := h k (by omega)
    simp only [topTo]; omega
/-! ### The quotient -/
def qArcTo (a : Abs) (p : List Int) (k : Nat) : List Arc := (a.arcs.take k).map fun (r : Arc) => ⟨nth p r.fr, r.lab, nth p r.to⟩
def qGoTo (a : Abs) (p : List Int) (k : Nat) : List Int := (a.goals.take k).map fun g => nth p g
def quoA (a : Abs) (p : List Int) : Abs := ⟨topTo p p.length, a.labels, dd (sortL (qArcTo a p a.arcs.length)), nth p a.init, dd (sortI (qGoTo a p a.goals.length))⟩
def quoF (a : Abs) (p : List Int) : Int × Int := if absFault a ≠ (0, 0) then absFault a else if (p.length : Int) ≠ a.states then (9, -4) else if ¬ PartP p then (5, -4) else (0, 0)
def quoR (a : Abs) (p : List Int) : Abs := if quoF a p = (0, 0) then quoA a p else absZ
theorem quoR_0 {a : Abs} {p : List Int} (h : quoF a p = (0, 0)) : quoR a p = quoA a p := by unfold quoR; rw [if_pos h]
theorem quoR_1 {a : Abs} {p : List Int} (h : quoF a p ≠ (0, 0)) : quoR a p = absZ := by unfold quoR; rw [if_neg h]
theorem quoF_inv {a : Abs} {p : List Int} (h : quoF a p = (0, 0)) : AbsOk a ∧ (p.length : Int) = a.states ∧ PartP p := by
  unfold quoF at h
  by_cases h1 : absFault a = (0, 0)
  · rw [if_neg (fun hn => hn h1)] at h
    by_cases h2 : (p.length : Int) = a.states
    · rw [if_neg (fun hn => hn h2)] at h
      by_cases h3 : PartP p
      · exact ⟨(absFault_ok (congrArg Prod.fst h1)).1, h2, h3⟩
      · rw [if_pos h3] at h; simp at h
    · rw [if_pos h2] at h; simp at h
  · rw [if_pos h1] at h; exact absurd h h1
theorem quoF_of {a : Abs} {p : List Int} (h1 : AbsOk a) (h2 : (p.length : Int) = a.states) (h3 : PartP p) : quoF a p = (0, 0) := by
  unfold quoF
  rw [if_neg (fun hn => hn (absFault_of h1)), if_neg (fun hn => hn h2), if_neg (fun hn => hn h3)]
theorem quoF_1 {a : Abs} {p : List Int} (h : absFault a ≠ (0, 0)) : absFault a = quoF a p := by unfold quoF; rw [if_pos h]
theorem quoF_2 {a : Abs} {p : List Int} (h : absFault a = (0, 0)) (h2 : (p.length : Int) ≠ a.states) : (9, -4) = quoF a p := by unfold quoF; rw [if_neg (fun hn => hn h), if_pos h2]
theorem quoF_3 {a : Abs} {p : List Int} (h : absFault a = (0, 0)) (h2 : (p.length : Int) = a.states) (h3 : ¬ PartP p) : (5, -4) = quoF a p := by unfold quoF; rw [if_neg (fun hn => hn h), if_neg (fun hn => hn h2), if_pos h3]
theorem qArc_len {a : Abs} {p : List Int} {k : Nat} (hk : k ≤ a.arcs.length) : (qArcTo a p k).length = k := by simp [qArcTo]; omega
theorem qGo_len {a : Abs} {p : List Int} {k : Nat} (hk : k ≤ a.goals.length) : (qGoTo a p k).length = k := by simp [qGoTo]; omega
theorem qArc_s {a : Abs} {p : List Int} {k : Nat} (hk : k < a.arcs.length) : qArcTo a p (k + 1) = qArcTo a p k ++ [⟨nth p (nth a.arcs k).fr, (nth a.arcs k).lab, nth p (nth a.arcs k).to⟩] := by
  unfold qArcTo; rw [tk_s hk]; simp
theorem qGo_s {a : Abs} {p : List Int} {k : Nat} (hk : k < a.goals.length) : qGoTo a p (k + 1) = qGoTo a p k ++ [nth p (nth a.goals k)] := by
  unfold qGoTo; rw [tk_s hk]; simp
theorem quo_arc {a : Abs} {p : List Int} {z : Arc} : z ∈ (quoA a p).arcs ↔ ∃ r, r ∈ a.arcs ∧ z = ⟨nth p r.fr, r.lab, nth p r.to⟩ := by
  show z ∈ dd (sortL (qArcTo a p a.arcs.length)) ↔ _
  rw [sd_mem]
  unfold qArcTo
  rw [List.take_length, List.mem_map]
  exact ⟨fun ⟨r, h1, h2⟩ => ⟨r, h1, h2.symm⟩, fun ⟨r, h1, h2⟩ => ⟨r, h1, h2.symm⟩⟩
theorem quo_goal {a : Abs} {p : List Int} {z : Int} : z ∈ (quoA a p).goals ↔ ∃ g, g ∈ a.goals ∧ z = nth p g := by
  show z ∈ dd (sortI (qGoTo a p a.goals.length)) ↔ _
  rw [dd_mem, sortI_mem]
  unfold qGoTo
  rw [List.take_length, List.mem_map]
  exact ⟨fun ⟨r, h1, h2⟩ => ⟨r, h1, h2.symm⟩, fun ⟨r, h1, h2⟩ => ⟨r, h1, h2.symm⟩⟩
theorem dd_strictI {l : List Int} (h : l.Pairwise (· ≤ ·)) : (dd l).Pairwise (· < ·) := by
  have hp : ∀ i j : Nat, i < j → j < l.length → nth l i ≤ nth l j := fun i j hij hj => by
    rw [nth_eq hj, nth_eq (by omega)]
    exact List.pairwise_iff_getElem.1 h i j (by omega) hj hij
  have key : ∀ k : Nat, k ≤ l.length → (ddTo l k).Pairwise (· < ·) := by
    intro k
    induction k with
    | zero => intro _; simp [ddTo]
    | succ k ih =>
      intro hk
      have ih := ih (by omega)
      simp only [ddTo]
      split
      · exact ih
      · rename_i hne
        rw [List.pairwise_append]
        refine ⟨ih, by simp, fun y hy z hz => ?_⟩
        rw [List.mem_singleton] at hz
        subst hz
        rw [ddTo_mem (by omega)] at hy
        obtain ⟨i, hi, rfl⟩ := List.getElem_of_mem hy
        rw [List.length_take] at hi
        have e : (l.take k)[i] = nth l i := by rw [List.getElem_take, nth_eq (by omega)]
        rw [e]
        have h0 : 0 < k := by omega
        have hn : nth l k ≠ nth l (k - 1 : Int) := fun he => hne ⟨h0, he⟩
        have e1 : ((k : Int) - 1) = ((k - 1 : Nat) : Int) := by omega
        rw [e1] at hn
        have l1 := hp (k - 1) k (by omega) (by omega)
        by_cases hik : i = k - 1
        · rw [hik]; omega
        · have l2 := hp i (k - 1) (by omega) (by omega); omega
  exact key _ (Nat.le_refl _)
theorem quo_goals_sorted {a : Abs} {p : List Int} : (quoA a p).goals.Pairwise (· < ·) := dd_strictI sortI_sorted
theorem quo_st {a : Abs} {p : List Int} (h : quoF a p = (0, 0)) : 1 ≤ (quoA a p).states ∧ (quoA a p).states ≤ a.states := by
  obtain ⟨ha, hl, hp⟩ := quoF_inv h
  have hst := ha.head.1
  have h1 := topTo_le hp (k := p.length) (Nat.le_refl _)
  have h2 := topTo_ge (p := p) (i := 0) (k := p.length) (by omega)
  have h3 := (hp 0 (by omega)).1
  show 1 ≤ topTo p p.length ∧ topTo p p.length ≤ a.states
  omega
/-- The part of a state. -/
theorem part_in {a : Abs} {p : List Int} (h : quoF a p = (0, 0)) {x : Int} (h0 : 0 ≤ x) (h1 : x < a.states) : 0 ≤ nth p x ∧ nth p x < (quoA a p).states := by
  obtain ⟨ha, hl, hp⟩ := quoF_inv h
  obtain ⟨i, rfl⟩ := Int.eq_ofNat_of_zero_le h0
  have h2 := hp i (by omega)
  have h3 := topTo_ge (p := p) (i := i) (k := p.length) (by omega)
  show _ ∧ _ < topTo p p.length
  omega
theorem quo_ok {a : Abs} {p : List Int} (h : quoF a p = (0, 0)) : AbsOk (quoA a p) := by
  obtain ⟨ha, hl, hp⟩ := quoF_inv h
  have hst := quo_st h
  have hh := ha.head
  refine absOk_of ⟨by omega, hh.2.1, part_in h hh.2.2.1 hh.2.2.2⟩ quo_goals_sorted (fun z hz => ?_) ?_ sd_strict fun z hz => ?_
  · obtain ⟨g, hg, rfl⟩ := quo_goal.1 hz
    have := setP_mem ha.goals hg
    exact part_in h this.1 this.2
  · have h1 := sd_len (l := qArcTo a p a.arcs.length)
    rw [qArc_len (Nat.le_refl _)] at h1
    have := ha.len
    show (dd (sortL (qArcTo a p a.arcs.length))).length ≤ 400
    omega
  · obtain ⟨r, hr, rfl⟩ := quo_arc.1 hz
    have h1 := mem_in ha hr
    exact ⟨part_in h h1.1.1 h1.1.2, h1.2.1, part_in h h1.2.2.1 h1.2.2.2⟩
/-! ### Distances under a map of states -/
theorem map_le {a b : Abs} {c : List Int} (ha : AbsOk a) (hb : AbsOk b) (hca : CostFor a c) (hcb : CostFor b c) {f : Int → Int} (hf : ∀ x : Int, 0 ≤ x → x < a.states → 0 ≤ f x ∧ f x < b.states)
    (hg : ∀ x, x ∈ a.goals → f x ∈ b.goals) (hr : ∀ r, r ∈ a.arcs → (⟨f r.fr, r.lab, f r.to⟩ : Arc) ∈ b.arcs) {x : Int} (h0 : 0 ≤ x) (h1 : x < a.states) : nth (distL b c) (f x) ≤ nth (distL a c) x := by
  have na := nS_eq ha
  have nb := nS_eq hb
  refine distL_ge ha hca (f := fun x => nth (distL b c) (f x)) (fun x q0 q1 => ?_) (fun x q0 q1 hx => ?_) (fun i hi => ?_) h0 (by omega)
  · have := hf x q0 (by omega)
    exact ((distL_good hb hcb).2 _ this.1 (by omega)).2
  · have := hf x q0 (by omega)
    exact Int.le_of_eq (distL_goal hb hcb this.1 (by omega) (hg x hx))
  · have := tri_mem hb hcb (hr _ (nth_mem (l := a.arcs) (n := i) (by omega) (by omega)))
    exact this
def mxL (l : List Int) : Int := l.foldr max 0
theorem mxL_ge : ∀ {l : List Int} {x : Int}, x ∈ l → x ≤ mxL l
  | y :: l, x, h => by
    simp only [mxL, List.foldr_cons]
    rcases List.mem_cons.1 h with rfl | h
    · omega
    · have := mxL_ge h; unfold mxL at this; omega
theorem mxL_at : ∀ {l : List Int}, mxL l = 0 ∨ mxL l ∈ l
  | [] => .inl rfl
  | y :: l => by
    simp only [mxL, List.foldr_cons]
    rcases mxL_at (l := l) with h | h <;> unfold mxL at h
    · rcases Int.le_total y 0 with hy | hy
      · left; rw [h]; omega
      · right; rw [h, Int.max_eq_left hy]; simp
    · rcases Int.le_total y (l.foldr max 0) with hy | hy
      · right; rw [Int.max_eq_right hy]; exact List.mem_cons_of_mem _ h
      · right; rw [Int.max_eq_left hy]; simp
theorem mxL_nn : ∀ {l : List Int}, 0 ≤ mxL l
  | [] => Int.le_refl _
  | y :: l => by have := mxL_nn (l := l); unfold mxL at *; simp only [List.foldr_cons]; omega
/-- A map that is a bisimulation keeps distances. -/
theorem map_eq {a b : Abs} {c : List Int} (ha : AbsOk a) (hb : AbsOk b) (hca : CostFor a c) (hcb : CostFor b c) {f : Int → Int} (hf : ∀ x : Int, 0 ≤ x → x < a.states → 0 ≤ f x ∧ f x < b.states)
    (hg : ∀ x : Int, 0 ≤ x → x < a.states → (x ∈ a.goals ↔ f x ∈ b.goals)) (hr : ∀ r, r ∈ a.arcs → (⟨f r.fr, r.lab, f r.to⟩ : Arc) ∈ b.arcs)
    (hz : ∀ z, z ∈ b.arcs → ∀ x : Int, 0 ≤ x → x < a.states → f x = z.fr → ∃ r, r ∈ a.arcs ∧ r.fr = x ∧ r.lab = z.lab ∧ f r.to = z.to) {x : Int} (h0 : 0 ≤ x) (h1 : x < a.states) : nth (distL b c) (f x) = nth (distL a c) x := by
  have na := nS_eq ha
  have nb := nS_eq hb
  have hle := map_le ha hb hca hcb hf (fun x hx => (hg x (setP_mem ha.goals hx).1 (setP_mem ha.goals hx).2).1 hx) hr h0 h1
  refine Int.le_antisymm hle ?_
  let g : Int → Int := fun q => mxL (((List.range (nS a)).filter fun (x : Nat) => decide (f x = q)).map fun (x : Nat) => nth (distL a c) x)
  have gge : ∀ x : Int, 0 ≤ x → x < a.states → nth (distL a c) x ≤ g (f x) := fun x q0 q1 => by
    obtain ⟨i, rfl⟩ := Int.eq_ofNat_of_zero_le q0
    exact mxL_ge (List.mem_map.2 ⟨i, List.mem_filter.2 ⟨List.mem_range.2 (by omega), by simp⟩, rfl⟩)
  have gat : ∀ q, g q = 0 ∨ ∃ x : Int, 0 ≤ x ∧ x < a.states ∧ f x = q ∧ g q = nth (distL a c) x := fun q => by
    rcases mxL_at (l := ((List.range (nS a)).filter fun (x : Nat) => decide (f x = q)).map fun (x : Nat) => nth (distL a c) x) with h | h
    · exact .inl h
    · obtain ⟨i, hi, he⟩ := List.mem_map.1 h
      rw [List.mem_filter, List.mem_range] at hi
      exact .inr ⟨i, by omega, by omega, by simpa using hi.2, he.symm⟩
  have key := distL_ge hb hcb (f := g) (fun q q0 q1 => ?_) (fun q q0 q1 hq => ?_) (fun i hi => ?_) (hf x h0 h1).1 (by have := (hf x h0 h1).2; omega)
  · exact Int.le_trans (gge x h0 h1) key
  · rcases gat q with h | ⟨x, x0, x1, _, h⟩
    · omega
    · rw [h]; exact ((distL_good ha hca).2 x x0 (by omega)).2
  · rcases gat q with h | ⟨x, x0, x1, hx, h⟩
    · omega
    · rw [h]
      exact Int.le_of_eq (distL_goal ha hca x0 (by omega) ((hg x x0 x1).2 (hx ▸ hq)))
  · have hm := nth_mem (l := b.arcs) (n := i) (by omega) (by omega)
    have hc0 := cost_at hcb (hb.arc i hi).2.1.1 (hb.arc i hi).2.1.2
    rcases gat (nth b.arcs i).fr with h | ⟨x, x0, x1, hx, h⟩
    · have : 0 ≤ g (nth b.arcs i).to := mxL_nn
      omega
    · obtain ⟨r, hr1, hr2, hr3, hr4⟩ := hz _ hm x x0 x1 hx
      have h2 := tri_mem ha hca hr1
      have h3 := mem_in ha hr1
      have h4 := gge r.to h3.2.2.1 h3.2.2.2
      rw [hr4] at h4
      rw [hr2, hr3] at h2
      omega
/-! ### Bisimulations -/
/-- States of one part are alike. -/
structure BisP (a : Abs) (p : List Int) : Prop where
  goal : ∀ x y : Int, 0 ≤ x → x < a.states → 0 ≤ y → y < a.states → nth p x = nth p y → (x ∈ a.goals ↔ y ∈ a.goals)
  arc : ∀ r, r ∈ a.arcs → ∀ y : Int, 0 ≤ y → y < a.states → nth p r.fr = nth p y → ∃ s, s ∈ a.arcs ∧ s.fr = y ∧ s.lab = r.lab ∧ nth p s.to = nth p r.to
theorem prtN_goal {a : Abs} {x y : Nat} (hx : x < nS a) (hy : y < nS a) : ∀ {k : Nat}, nth (prtN a k) x = nth (prtN a k) y → ((x : Int) ∈ a.goals ↔ (y : Int) ∈ a.goals)
  | 0, h => by
    have h : nth (numL (goalP a)) x = nth (numL (goalP a)) y := h
    have hl : (goalP a).length = nS a := by simp [goalP]
    rw [numL_eq (by omega) (by omega), nth_eq (by omega), nth_eq (by omega)] at h
    simp only [goalP, List.getElem_map, List.getElem_range] at h
    by_cases hm : (x : Int) ∈ a.goals
    · rw [if_pos hm] at h
      refine ⟨fun _ => Decidable.byContradiction fun hn => ?_, fun _ => hm⟩
      rw [if_neg hn] at h; simp at h
    · rw [if_neg hm] at h
      refine ⟨fun hh => absurd hh hm, fun hn => ?_⟩
      rw [if_pos hn] at h; simp at h
  | k + 1, h => prtN_goal hx hy (k := k) (prtN_fin hx hy h)
theorem bisL_bis {a : Abs} (ha : AbsOk a) : BisP a (bisL a) := {
  goal x y x0 x1 y0 y1 h := by
    have na := nS_eq ha
    obtain ⟨u, rfl⟩ := Int.eq_ofNat_of_zero_le x0
    obtain ⟨v, rfl⟩ := Int.eq_ofNat_of_zero_le y0
    exact prtN_goal (by omega) (by omega) h
  arc r hr y y0 y1 h := by
    have na := nS_eq ha
    have hi := mem_in ha hr
    obtain ⟨u, hu⟩ := Int.eq_ofNat_of_zero_le hi.1.1
    obtain ⟨v, rfl⟩ := Int.eq_ofNat_of_zero_le y0
    have hux : u < nS a := by have := hi.1.2; omega
    rw [hu] at h
    rw [← bisL_fix (a := a), refL_eq hux (by omega)] at h
    have h2 := (sig_eq.1 h.2) ⟨0, r.lab, nth (bisL a) r.to⟩
    obtain ⟨s, s1, s2, s3⟩ := mem_sig.1 (h2.1 (mem_sig.2 ⟨r, hr, hu, rfl⟩))
    simp only [Arc.mk.injEq, true_and] at s3
    exact ⟨s, s1, s2, s3.1.symm, s3.2.symm⟩ }
theorem numL_part {α : Type} [DecidableEq α] [Inhabited α] {l : List α} : PartP (numL l) ∧ topTo (numL l) l.length = (dsTo l l.length).length := by
  have key : ∀ k : Nat, k ≤ l.length → (∀ i : Nat, i < k → 0 ≤ nth (numL l) i ∧ nth (numL l) i ≤ topTo (numL l) i) ∧ topTo (numL l) k = (dsTo l k).length := by
    intro k
    induction k with
    | zero => exact fun _ => ⟨fun i hi => by omega, rfl⟩
    | succ k ih =>
      intro hk
      obtain ⟨i1, i2⟩ := ih (by omega)
      have hv : nth (numL l) k = (idD (dsTo l l.length) (nth l k) : Int) := numL_at (by omega)
      by_cases hm : nth l k ∈ dsTo l k
      · have he : nth (numL l) k = (idD (dsTo l k) (nth l k) : Int) := by rw [hv, idD_old hm (n := l.length) (by omega)]
        have hlt : idD (dsTo l k) (nth l k) < (dsTo l k).length := List.idxOf_lt_length_of_mem hm
        refine ⟨fun i hi => ?_, ?_⟩
        · by_cases e : i = k
          · subst e; rw [i2, he]; omega
          · exact i1 i (by omega)
        · rw [ds_old hm]; simp only [topTo]; rw [i2, he]; omega
      · have he : nth (numL l) k = ((dsTo l k).length : Int) := by rw [hv, ← idD_new hm (n := l.length) (by omega)]
        refine ⟨fun i hi => ?_, ?_⟩
        · by_cases e : i = k
          · subst e; rw [i2, he]; omega
          · exact i1 i (by omega)
        · rw [ds_new hm]; simp only [topTo]; rw [i2, he]; simp; omega
  obtain ⟨h1, h2⟩ := key l.length (Nat.le_refl _)
  exact ⟨fun k hk => h1 k (by rw [numL_len] at hk; exact hk), h2⟩
theorem bisL_num {a : Abs} : numL (bisL a) = bisL a := prtN_num
theorem bisL_part {a : Abs} : PartP (bisL a) := by have := (numL_part (l := bisL a)).1; rwa [bisL_num] at this
theorem bisL_quo {a : Abs} (ha : AbsOk a) : quoF a (bisL a) = (0, 0) := quoF_of ha (by rw [bisL_len]; exact (nS_eq ha).1) bisL_part
def allL (n : Int) : List Int := (List.range n.toNat).map fun (i : Nat) => (i : Int)
end Go.Eng
end

section
/- Shrinking: what the walks need. -/

set_option linter.unusedVariables false
set_option linter.unusedSimpArgs false
set_option linter.unusedSectionVars false
namespace Go.Eng
open Go
noncomputable def bisR (a : Abs) : List Int := if absFault a = (0, 0) then bisL a else []
theorem bisR_0 {a : Abs} (h : absFault a = (0, 0)) : bisR a = bisL a := by unfold bisR; rw [if_pos h]
theorem bisR_1 {a : Abs} (h : absFault a ≠ (0, 0)) : bisR a = [] := by unfold bisR; rw [if_neg h]
/-- The keys of goals so far. -/
def gpTo (a : Abs) (k : Nat) : List Asg := (List.range (nS a)).map fun (x : Nat) => (if (x : Int) ∈ a.goals.take k then 1 else 0, 0)
theorem gpTo_len {a : Abs} {k : Nat} : (gpTo a k).length = nS a := by simp [gpTo]
theorem gpTo_0 {a : Abs} : gpTo a 0 = List.replicate (nS a) (0, 0) := by
  apply List.ext_getElem (by simp [gpTo])
  intro i h1 h2; simp [gpTo]
theorem gpTo_end {a : Abs} : gpTo a a.goals.length = goalP a := by unfold gpTo goalP; rw [List.take_length]
theorem gp_set {a : Abs} {k : Nat} (hk : k < a.goals.length) (h0 : 0 ≤ nth a.goals k) (h1 : nth a.goals k < nS a) :
    ((gpTo a k).map asg).set (nth a.goals k).toNat ((asg (nth (gpTo a k) (nth a.goals k))).set 0 (.v (.int .i64 1))) = (gpTo a (k + 1)).map asg := by
  obtain ⟨g, hg⟩ := Int.eq_ofNat_of_zero_le h0
  have hgl : g < nS a := by omega
  rw [hg]
  apply List.ext_getElem (by simp [gpTo])
  intro i h2 h3
  have hi : i < nS a := by simpa [gpTo] using h3
  rw [List.getElem_set]
  simp only [List.getElem_map, Int.toNat_natCast]
  have hs : a.goals.take (k + 1) = a.goals.take k ++ [(g : Int)] := by rw [tk_s hk, hg]
  by_cases e : g = i
  · subst e
    rw [if_pos rfl, nth_eq (by rw [gpTo_len]; exact hgl)]
    simp only [gpTo, List.getElem_map, List.getElem_range, hs, List.mem_append, List.mem_singleton, or_true, if_true]
    rfl
  · rw [if_neg e]
    simp only [gpTo, List.getElem_map, List.getElem_range, hs, List.mem_append, List.mem_singleton]
    have : ¬ (i : Int) = (g : Int) := by omega
    simp only [this, or_false]
theorem bis_lt {a : Abs} {k : Nat} (h : prtN a (k + 1) ≠ prtN a k) : nS a - cnt (prtN a (k + 1)) < nS a - cnt (prtN a k) := by
  have h1 := prtN_step h
  have h2 := cnt_le (p := prtN a (k + 1))
  rw [prtN_len] at h2
  omega
theorem pre_top {p : List Int} : ∀ {k : Nat}, (∀ i : Nat, i < k → nth p i ≤ topTo p i) → topTo p k ≤ k
  | 0, _ => by simp [topTo]
  | k + 1, h => by
    have := pre_top (p := p) (k := k) (fun i hi => h i (by omega))
    have := h k (by omega)
    simp only [topTo]; omega
def allTo (k : Nat) : List Int := (List.range k).map fun (i : Nat) => (i : Int)
theorem exS_bis : bisL lineA = [0, 1, 2] := by
  rw [← bisL_of (a := lineA) (k := 1) (by decide +kernel)]
  decide +kernel
theorem exS_fault : absFault lineA = (0, 0) := by decide +kernel
theorem exS_bisR : bisR lineA = [0, 1, 2] := by rw [bisR_0 exS_fault, exS_bis]
theorem exS_quoF : quoF lineA [0, 1, 0] = (0, 0) := by decide +kernel
theorem exS_arcs : (quoA lineA [0, 1, 0]).arcs = [⟨0, 0, 1⟩, ⟨0, 1, 0⟩, ⟨1, 1, 0⟩] := by
  refine arcs_uniq sd_strict (by decide) fun y => ?_
  rw [quo_arc]
  constructor
  · rintro ⟨r, hr, rfl⟩
    simp only [List.mem_cons, List.not_mem_nil, or_false] at hr
    rcases hr with rfl | rfl | rfl <;> decide
  · intro hy
    simp only [List.mem_cons, List.not_mem_nil, or_false] at hy
    rcases hy with rfl | rfl | rfl
    · exact ⟨⟨0, 0, 1⟩, by decide, rfl⟩
    · exact ⟨⟨2, 1, 2⟩, by decide, rfl⟩
    · exact ⟨⟨1, 1, 2⟩, by decide, rfl⟩
theorem exS_goals : (quoA lineA [0, 1, 0]).goals = [0] := by
  refine pw_uniq (r := (· < ·)) (fun x y h1 h2 => by omega) quo_goals_sorted (by simp) fun y => ?_
  rw [quo_goal]
  constructor
  · rintro ⟨r, hr, rfl⟩
    simp only [List.mem_cons, List.not_mem_nil, or_false] at hr
    subst hr; decide
  · intro hy
    simp only [List.mem_cons, List.not_mem_nil, or_false] at hy
    subst hy
    exact ⟨2, by decide, rfl⟩
theorem exS_quoR : quoR lineA [0, 1, 0] = ⟨2, 2, [⟨0, 0, 1⟩, ⟨0, 1, 0⟩, ⟨1, 1, 0⟩], 0, [0]⟩ := by
  rw [quoR_0 exS_quoF]
  exact abs_ext (by decide) rfl exS_arcs rfl exS_goals
/-! ### The reference's quotient -/
def gFl (a : Abs) (p : List Int) (q : Int) : Nat → Bool
  | 0 => false
  | x + 1 => gFl a p q x || (decide (nth p x = q) && decide ((x : Int) ∈ a.goals))
def gQ (a : Abs) (p : List Int) : Nat → List Int
  | 0 => []
  | q + 1 => if gFl a p q p.length = true then gQ a p q ++ [(q : Int)] else gQ a p q
def qI (a : Abs) (p : List Int) (i : Nat) : Arc := ⟨nth p (nth a.arcs i).fr, (nth a.arcs i).lab, nth p (nth a.arcs i).to⟩
def quoF1 (a : Abs) (p : List Int) : Int × Int := if absFault a ≠ (0, 0) then absFault a else if (p.length : Int) ≠ a.states then (9, -4) else (0, 0)
theorem quoR_rng {a : Abs} {p : List Int} (hr : -9223372036854775808 ≤ a.states ∧ a.states ≤ 9223372036854775807) : -9223372036854775808 ≤ (quoR a p).states ∧ (quoR a p).states ≤ 9223372036854775807 := by
  by_cases h : quoF a p = (0, 0)
  · rw [quoR_0 h]
    have := quo_st h
    omega
  · rw [quoR_1 h]; decide
end Go.Eng
end
