/- The engine and the walks that this claim uses, part 3. Written by prune.py out of our own texts. -/
import Derived.Test.YthgcnfolgbaemaaC2
section
/- Walks, written by gen.py out of hints. -/



set_option linter.unusedVariables false
set_option linter.unusedSimpArgs false
namespace Go.Proofs.Ythgcnfolgbaemaa
open Go.Eng
set_option maxRecDepth 10000
set_option maxHeartbeats 1000000

theorem math_bits_Mul64_does (n : Int) (h0 : 0 ≤ n) (h1 : n ≤ 1000) : Does Try.prog false 86 [.d (.v (.int .u64 (1))), .d (.v (.int .u64 (n)))] (.t [U 0, U n]) := by
  refine Does.of_body Try.func86 rfl rfl (by simp) Try.call86 (fun w0 O0 => ?_)
  refine Tr.seq ?_
  refine Tr.region ?_
  refine TrOps.sem (OpSem.move (.inr rfl) rfl) rfl rfl (by decide) ?_
  refine TrOps.sem (OpSem.move (.inr rfl) rfl) rfl rfl (by decide) ?_
  refine TrOps.nil ?_
  refine At.seq ?_
  refine Tr.seq ?_
  refine Tr.region ?_
  refine TrOps.sem (OpSem.move (.inl rfl) rfl) rfl rfl (by decide) ?_
  refine TrOps.sem (OpSem.bin rfl rfl rfl (bandLow (by omega) (by omega))) rfl rfl (by decide) ?_
  refine TrOps.sem (OpSem.move (.inr rfl) rfl) rfl rfl (by decide) ?_
  refine TrOps.nil ?_
  refine At.seq ?_
  refine Tr.seq ?_
  refine Tr.region ?_
  refine TrOps.sem (OpSem.move (.inl rfl) rfl) rfl rfl (by decide) ?_
  refine TrOps.sem (OpSem.le (s' := U 0) (OpSem.bin rfl rfl rfl (bshrK (by decide) (by decide))) (Le.uu (by rfl))) rfl rfl (by decide) ?_
  refine TrOps.sem (OpSem.move (.inr rfl) rfl) rfl rfl (by decide) ?_
  refine TrOps.nil ?_
  refine At.seq ?_
  refine Tr.seq ?_
  refine Tr.region ?_
  refine TrOps.sem (OpSem.move (.inl rfl) rfl) rfl rfl (by decide) ?_
  refine TrOps.sem (OpSem.bin rfl rfl rfl (bandLow (by omega) (by omega))) rfl rfl (by decide) ?_
  refine TrOps.sem (OpSem.move (.inr rfl) rfl) rfl rfl (by decide) ?_
  refine TrOps.nil ?_
  refine At.seq ?_
  refine Tr.seq ?_
  refine Tr.region ?_
  refine TrOps.sem (OpSem.move (.inl rfl) rfl) rfl rfl (by decide) ?_
  refine TrOps.sem (OpSem.le (s' := U 0) (OpSem.bin rfl rfl rfl (bshrK (by decide) (by decide))) (Le.uu (by show n / 4294967296 = 0; omega))) rfl rfl (by decide) ?_
  refine TrOps.sem (OpSem.move (.inr rfl) rfl) rfl rfl (by decide) ?_
  refine TrOps.nil ?_
  refine At.seq ?_
  refine Tr.seq ?_
  refine Tr.region ?_
  refine TrOps.sem (OpSem.move (.inl rfl) rfl) rfl rfl (by decide) ?_
  refine TrOps.sem (OpSem.move (.inl rfl) rfl) rfl rfl (by decide) ?_
  refine TrOps.sem (OpSem.bin rfl rfl rfl (bmulu (by omega) (by omega))) rfl rfl (by decide) ?_
  refine TrOps.sem (OpSem.move (.inr rfl) rfl) rfl rfl (by decide) ?_
  refine TrOps.nil ?_
  refine At.seq ?_
  refine Tr.seq ?_
  refine Tr.region ?_
  refine TrOps.sem (OpSem.move (.inl rfl) rfl) rfl rfl (by decide) ?_
  refine TrOps.sem (OpSem.move (.inl rfl) rfl) rfl rfl (by decide) ?_
  refine TrOps.sem (OpSem.bin rfl rfl rfl (bmulu (by omega) (by omega))) rfl rfl (by decide) ?_
  refine TrOps.sem (OpSem.move (.inl rfl) rfl) rfl rfl (by decide) ?_
  refine TrOps.sem (OpSem.le (s' := U 0) (OpSem.bin rfl rfl rfl (bshrK (by decide) (by decide))) (Le.uu (by show (1 * n) / 4294967296 = 0; omega))) rfl rfl (by decide) ?_
  refine TrOps.sem (OpSem.bin rfl rfl rfl (baddu (by omega) (by omega))) rfl rfl (by decide) ?_
  refine TrOps.sem (OpSem.move (.inr rfl) rfl) rfl rfl (by decide) ?_
  refine TrOps.nil ?_
  refine At.seq ?_
  refine Tr.seq ?_
  refine Tr.region ?_
  refine TrOps.sem (OpSem.move (.inl rfl) rfl) rfl rfl (by decide) ?_
  refine TrOps.sem (OpSem.bin rfl rfl rfl (bandLow (by omega) (by omega))) rfl rfl (by decide) ?_
  refine TrOps.sem (OpSem.move (.inr rfl) rfl) rfl rfl (by decide) ?_
  refine TrOps.nil ?_
  refine At.seq ?_
  refine Tr.seq ?_
  refine Tr.region ?_
  refine TrOps.sem (OpSem.move (.inl rfl) rfl) rfl rfl (by decide) ?_
  refine TrOps.sem (OpSem.le (s' := U 0) (OpSem.bin rfl rfl rfl (bshrK (by decide) (by decide))) (Le.uu (by show (0 * n + 0) / 4294967296 = 0; omega))) rfl rfl (by decide) ?_
  refine TrOps.sem (OpSem.move (.inr rfl) rfl) rfl rfl (by decide) ?_
  refine TrOps.nil ?_
  refine At.seq ?_
  refine Tr.seq ?_
  refine Tr.region ?_
  refine TrOps.sem (OpSem.move (.inl rfl) rfl) rfl rfl (by decide) ?_
  refine TrOps.sem (OpSem.move (.inl rfl) rfl) rfl rfl (by decide) ?_
  refine TrOps.sem (OpSem.move (.inl rfl) rfl) rfl rfl (by decide) ?_
  refine TrOps.sem (OpSem.bin rfl rfl rfl (bmulu (by omega) (by omega))) rfl rfl (by decide) ?_
  refine TrOps.sem (OpSem.bin rfl rfl rfl (baddu (by omega) (by omega))) rfl rfl (by decide) ?_
  refine TrOps.sem (OpSem.move (.inr rfl) rfl) rfl rfl (by decide) ?_
  refine TrOps.nil ?_
  refine At.seq ?_
  refine Tr.seq ?_
  refine Tr.region ?_
  refine TrOps.sem (OpSem.move (.inl rfl) rfl) rfl rfl (by decide) ?_
  refine TrOps.sem (OpSem.move (.inl rfl) rfl) rfl rfl (by decide) ?_
  refine TrOps.sem (OpSem.bin rfl rfl rfl (bmulu (by omega) (by omega))) rfl rfl (by decide) ?_
  refine TrOps.sem (OpSem.move (.inl rfl) rfl) rfl rfl (by decide) ?_
  refine TrOps.sem (OpSem.bin rfl rfl rfl (baddu (by omega) (by omega))) rfl rfl (by decide) ?_
  refine TrOps.sem (OpSem.move (.inl rfl) rfl) rfl rfl (by decide) ?_
  refine TrOps.sem (OpSem.le (s' := U 0) (OpSem.bin rfl rfl rfl (bshrK (by decide) (by decide))) (Le.uu (by show (0 * n + 0 + 1 * 0) / 4294967296 = 0; omega))) rfl rfl (by decide) ?_
  refine TrOps.sem (OpSem.bin rfl rfl rfl (baddu (by omega) (by omega))) rfl rfl (by decide) ?_
  refine TrOps.sem (OpSem.move (.inr rfl) rfl) rfl rfl (by decide) ?_
  refine TrOps.nil ?_
  refine At.seq ?_
  refine Tr.seq ?_
  refine Tr.region ?_
  refine TrOps.sem (OpSem.move (.inl rfl) rfl) rfl rfl (by decide) ?_
  refine TrOps.sem (OpSem.move (.inl rfl) rfl) rfl rfl (by decide) ?_
  refine TrOps.sem (OpSem.bin rfl rfl rfl (bmulu (by omega) (by omega))) rfl rfl (by decide) ?_
  refine TrOps.sem (OpSem.move (.inr rfl) rfl) rfl rfl (by decide) ?_
  refine TrOps.nil ?_
  refine At.seq ?_
  refine Tr.ret ?_
  exact At.ret rfl (.tmp rfl <| .tmp rfl <| .nil) rfl (Le.t (.cons (Le.uu (by omega)) <| .cons (Le.uu (by omega)) <| .nil))

theorem math_bits_Mul_does (n : Int) (h0 : 0 ≤ n) (h1 : n ≤ 1000) : Does Try.prog false 70 [.d (.v (.int .u64 (1))), .d (.v (.int .u64 (n)))] (.t [U 0, U n]) := by
  refine Does.of_body Try.func70 rfl rfl (by simp) Try.call70 (fun w0 O0 => ?_)
  refine Tr.seq ?_
  refine Tr.region ?_
  refine TrOps.sem (OpSem.move (.inr rfl) rfl) rfl rfl (by decide) ?_
  refine TrOps.sem (OpSem.move (.inr rfl) rfl) rfl rfl (by decide) ?_
  refine TrOps.nil ?_
  refine At.seq ?_
  refine Tr.seq ?_
  refine Tr.condF rfl rfl ?_
  refine Tr.skip ?_
  refine At.seq ?_
  refine Tr.seq ?_
  refine Tr.region ?_
  refine TrOps.sem (OpSem.move (.inl rfl) rfl) rfl rfl (by decide) ?_
  refine TrOps.sem (OpSem.move (.inl rfl) rfl) rfl rfl (by decide) ?_
  refine TrOps.sem (OpSem.call0 (math_bits_Mul64_does n h0 h1) rfl rfl rfl rfl (Les.refl _)) rfl rfl (by decide) ?_
  refine TrOps.sem (OpSem.move (.inl rfl) rfl) rfl rfl (by decide) ?_
  refine TrOps.sem (OpSem.extract rfl rfl rfl) rfl rfl (by decide) ?_
  refine TrOps.sem (OpSem.extract rfl rfl rfl) rfl rfl (by decide) ?_
  refine TrOps.sem (OpSem.move (.inr rfl) rfl) rfl rfl (by decide) ?_
  refine TrOps.sem (OpSem.move (.inr rfl) rfl) rfl rfl (by decide) ?_
  refine TrOps.nil ?_
  refine At.seq ?_
  refine Tr.seq ?_
  refine Tr.region ?_
  refine TrOps.sem (OpSem.move (.inl rfl) rfl) rfl rfl (by decide) ?_
  refine TrOps.sem (OpSem.move (.inl rfl) rfl) rfl rfl (by decide) ?_
  refine TrOps.sem (OpSem.move (.inr rfl) rfl) rfl rfl (by decide) ?_
  refine TrOps.sem (OpSem.move (.inr rfl) rfl) rfl rfl (by decide) ?_
  refine TrOps.nil ?_
  refine At.seq ?_
  refine Tr.ret ?_
  exact At.ret rfl (.tmp rfl <| .tmp rfl <| .nil) rfl (.refl _)

theorem slices_Repeat_int_int_does (c n : Int) (h0 : 1 ≤ n) (h1 : n ≤ 1000) : DoesO Try.prog 54 [.d (ints ([c] : List Int)), I (n)] 1 3 (((List.replicate n.toNat c).map fun n => [D.v (.int .i64 n)])) := by
  refine DoesO.of_body Try.func54 rfl rfl (by simp) Try.call54 (fun w0 O0 => ?_)
  refine Tr.lenLe (n := 0) rfl (fun len0 => ?_)
  refine Tr.seq ?_
  refine Tr.region ?_
  refine TrOps.sem (OpSem.move (.inr rfl) rfl) rfl rfl (by decide) ?_
  refine TrOps.nil ?_
  refine At.seq ?_
  refine Tr.seq ?_
  refine Tr.seq ?_
  refine Tr.region ?_
  refine TrOps.sem (OpSem.move (.inl rfl) rfl) rfl rfl (by decide) ?_
  refine TrOps.sem (OpSem.bin rfl rfl rfl blss) rfl rfl (by decide) ?_
  refine TrOps.nil ?_
  refine At.seq ?_
  refine Tr.condF rfl (by simp; omega) ?_
  refine Tr.skip ?_
  refine At.seq ?_
  refine Tr.seq ?_
  refine Tr.region ?_
  refine TrOps.sem (OpSem.move (.inl rfl) rfl) rfl rfl (by decide) ?_
  refine TrOps.sem (OpSem.le (s' := I 1) (OpSem.lenL rfl rfl es23) (Le.of_eq rfl)) rfl rfl (by decide) ?_
  refine TrOps.sem (OpSem.conv rfl rfl cv3_79 (wrap_u64 (by omega) (by omega))) rfl rfl (by decide) ?_
  refine TrOps.sem (OpSem.move (.inl rfl) rfl) rfl rfl (by decide) ?_
  refine TrOps.sem (OpSem.conv rfl rfl cv3_79 (wrap_u64 (by omega) (by omega))) rfl rfl (by decide) ?_
  refine TrOps.sem (OpSem.call0 (math_bits_Mul_does n (by omega) (by omega)) rfl rfl rfl rfl (Les.refl _)) rfl rfl (by decide) ?_
  refine TrOps.sem (OpSem.move (.inl rfl) rfl) rfl rfl (by decide) ?_
  refine TrOps.sem (OpSem.extract rfl rfl rfl) rfl rfl (by decide) ?_
  refine TrOps.sem (OpSem.extract rfl rfl rfl) rfl rfl (by decide) ?_
  refine TrOps.sem (OpSem.move (.inr rfl) rfl) rfl rfl (by decide) ?_
  refine TrOps.sem (OpSem.move (.inr rfl) rfl) rfl rfl (by decide) ?_
  refine TrOps.nil ?_
  refine At.seq ?_
  refine Tr.seq ?_
  refine Tr.seq ?_
  refine Tr.region ?_
  refine TrOps.sem (OpSem.move (.inl rfl) rfl) rfl rfl (by decide) ?_
  refine TrOps.sem (OpSem.bin rfl rfl rfl bgtrK) rfl rfl (by decide) ?_
  refine TrOps.sem (OpSem.move (.inl rfl) rfl) rfl rfl (by decide) ?_
  refine TrOps.gT rfl rfl rfl rfl (by decide) ?_
  refine TrOps.sem (OpSem.move (.inl rfl) rfl) rfl rfl (by decide) ?_
  refine TrOps.gT rfl rfl rfl rfl (by decide) ?_
  refine TrOps.sem (OpSem.bin rfl rfl rfl bgtrK) rfl rfl (by decide) ?_
  refine TrOps.sem (OpSem.pickF rfl rfl (by decide) rfl) rfl rfl (by decide) ?_
  refine TrOps.nil ?_
  refine At.seq ?_
  refine Tr.condF rfl (by simp; omega) ?_
  refine Tr.skip ?_
  refine At.seq ?_
  refine Tr.seq ?_
  refine Tr.region ?_
  refine TrOps.sem (OpSem.move (.inl rfl) rfl) rfl rfl (by decide) ?_
  refine TrOps.sem (OpSem.conv rfl rfl cv79_3 (wrap_i64 (by omega) (by omega))) rfl rfl (by decide) ?_
  refine TrOps.semM (OpSem.makeSlice 30 rfl rfl rfl es23 ze23 rfl rfl (by decide) bye23 (by omega) (by simp; omega) (by omega)) rfl rfl (by decide) ?_
  refine TrOps.sem (OpSem.move (.inr rfl) rfl) rfl rfl (by decide) ?_
  refine TrOps.nil ?_
  refine At.seq ?_
  refine Tr.seq ?_
  refine Tr.region ?_
  refine TrOps.sem (OpSem.move (.inl rfl) rfl) rfl rfl (by decide) ?_
  refine TrOps.sem (OpSem.move (.inl rfl) rfl) rfl rfl (by decide) ?_
  refine TrOps.ofSt (OpSt.le (s' := I 1) (OpSt.copyO rfl rfl rfl es23 (by simp [D.one, Value.oneCell']) (by simp) (by simp; omega)) (Le.of_eq rfl)) rfl rfl rfl (by decide) ?_
  refine TrOps.sem (OpSem.move (.inr rfl) rfl) rfl rfl (by decide) ?_
  refine TrOps.nil ?_
  refine At.seq ?_
  refine Tr.seq ?_
  refine Tr.block ?_
  refine Tr.loop (X := Nat) (fun k => 1 ≤ k ∧ k ≤ n.toNat) (fun k => [(7, .o 30), (8, I (k))]) (fun k => [(30, .own 1 3 ((repTo c n.toNat k).map fun n => [D.v (.int .i64 n)]))]) (fun k => n.toNat - k) 1 ⟨by omega, by omega⟩ ?_ ?_
  · exact .slot rfl (.refl _) <| .slot rfl (Le.of_eq (by simp)) <| .memEq rfl (by simp [repTo, el23]) <| .nil
  · rintro k ⟨hk1, hk2⟩
    refine Tr.seq ?_
    refine Tr.seq ?_
    refine Tr.region ?_
    refine TrOps.sem (OpSem.move (.inl rfl) rfl) rfl rfl (by decide) ?_
    refine TrOps.sem (OpSem.move (.inl rfl) rfl) rfl rfl (by decide) ?_
    refine TrOps.sem (OpSem.leno rfl rfl rfl es23) rfl rfl (by decide) ?_
    refine TrOps.sem (OpSem.bin rfl rfl rfl blss) rfl rfl (by decide) ?_
    refine TrOps.nil ?_
    refine At.seq ?_
    refine Tr.cond rfl (fun c37 => ?_) (fun c37 => ?_)
    · have hk : k < n.toNat := by simp [repTo_len hk2] at c37; omega
      refine Tr.skip ?_
      refine At.seq ?_
      refine Tr.block ?_
      refine Tr.toWin 7 rfl rfl (by simp [repTo_len hk2]; omega) ?_
      refine PC.start [30] ?_
      refine PC.sem (OpSem.move (.inl rfl) rfl) rfl rfl ?_
      refine PC.sem (OpSem.move (.inl rfl) rfl) rfl rfl ?_
      refine PC.sem (OpSem.move (.inl rfl) rfl) rfl rfl ?_
      refine PC.sem (OpSem.slicewL rfl rfl rfl es23 (by omega) (by simp [repTo_len hk2]; omega)) rfl rfl ?_
      refine PC.sem (OpSem.move (.inl rfl) rfl) rfl rfl ?_
      refine PC.sem (OpSem.move (.inl rfl) rfl) rfl rfl ?_
      refine PC.sem (OpSem.slicewH rfl rfl rfl es23 (by omega) (by simp [repTo_len hk2]; omega) (by simp [repTo_len hk2]; omega)) rfl rfl ?_
      refine PC.ofSt (OpSt.le (s' := I ((min k (n.toNat - k) : Nat) : Int)) (OpSt.copyW rfl rfl rfl es23 (by simp [repTo_len hk2]; omega) (by simp [repTo_len hk2]; omega) (by simp [repTo_len hk2]; omega)) (Le.i (by simp [repTo_len hk2]))) rfl rfl rfl ?_
      refine PC.done mixed (by kernel_rfl) (by kernel_rfl) (by kernel_rfl) (by kernel_rfl) ?_
      refine TrOps.sem (OpSem.bin rfl rfl rfl (badd (by omega) (by omega))) rfl rfl (by decide) ?_
      refine TrOps.sem (OpSem.move (.inr rfl) rfl) rfl rfl (by decide) ?_
      refine TrOps.nil ?_
      refine At.block_normal ?_
      refine At.ofWin 7 rfl rfl (by simp [repTo_len hk2]; omega) (by simp [repTo_len hk2]; omega) ?_
      refine At.again (k + min k (n.toNat - k)) ⟨by omega, by omega⟩ ?_ (by omega)
      exact .slot rfl (.refl _) <| .slot rfl (Le.i (by simp)) <| .memEq rfl (by rw [← repTo_s (c := c) (n := n.toNat) (k := k) (m := min k (n.toNat - k)) (by omega) (by omega)]; simp [repTo_len hk2]) <| .nil
    · have hk : k = n.toNat := by simp [repTo_len hk2] at c37; omega
      refine Tr.exit ?_
      refine At.pass_exit ?_
      refine At.pass_exit ?_
      refine At.block_same ?_
      refine At.seq ?_
      refine Tr.seq ?_
      refine Tr.region ?_
      refine TrOps.sem (OpSem.move (.inl rfl) rfl) rfl rfl (by decide) ?_
      refine TrOps.sem (OpSem.move (.inr rfl) rfl) rfl rfl (by decide) ?_
      refine TrOps.nil ?_
      refine At.seq ?_
      refine Tr.ret ?_
      exact At.retO2 rfl rfl rfl (by simp) (by rw [hk, repTo_end])

theorem cmp_isNaN_int_does (x : Int) : Does Try.prog false 71 [I (x)] (Bo false) := by
  refine Does.of_body Try.func71 rfl rfl (by simp) Try.call71 (fun w0 O0 => ?_)
  refine Tr.seq ?_
  refine Tr.region ?_
  refine TrOps.sem (OpSem.move (.inr rfl) rfl) rfl rfl (by decide) ?_
  refine TrOps.nil ?_
  refine At.seq ?_
  refine Tr.seq ?_
  refine Tr.region ?_
  refine TrOps.sem (OpSem.move (.inl rfl) rfl) rfl rfl (by decide) ?_
  refine TrOps.sem (OpSem.move (.inl rfl) rfl) rfl rfl (by decide) ?_
  refine TrOps.sem (OpSem.bin rfl rfl rfl bneq) rfl rfl (by decide) ?_
  refine TrOps.sem (OpSem.move (.inr rfl) rfl) rfl rfl (by decide) ?_
  refine TrOps.nil ?_
  refine At.seq ?_
  refine Tr.ret ?_
  exact At.ret rfl (.tmp rfl <| .nil) rfl (Le.bo (by simp))

theorem cmp_Compare_int_does (x y : Int) : Does Try.prog false 56 [I (x), I (y)] (I (cmpI x y)) := by
  refine Does.of_body Try.func56 rfl rfl (by simp) Try.call56 (fun w0 O0 => ?_)
  refine Tr.seq ?_
  refine Tr.region ?_
  refine TrOps.sem (OpSem.move (.inr rfl) rfl) rfl rfl (by decide) ?_
  refine TrOps.nil ?_
  refine At.seq ?_
  refine Tr.seq ?_
  refine Tr.region ?_
  refine TrOps.sem (OpSem.move (.inl rfl) rfl) rfl rfl (by decide) ?_
  refine TrOps.sem (OpSem.call0 (cmp_isNaN_int_does x) rfl rfl rfl rfl (Les.refl _)) rfl rfl (by decide) ?_
  refine TrOps.sem (OpSem.move (.inr rfl) rfl) rfl rfl (by decide) ?_
  refine TrOps.nil ?_
  refine At.seq ?_
  refine Tr.seq ?_
  refine Tr.region ?_
  refine TrOps.sem (OpSem.move (.inl rfl) rfl) rfl rfl (by decide) ?_
  refine TrOps.sem (OpSem.call0 (cmp_isNaN_int_does y) rfl rfl rfl rfl (Les.refl _)) rfl rfl (by decide) ?_
  refine TrOps.sem (OpSem.move (.inr rfl) rfl) rfl rfl (by decide) ?_
  refine TrOps.nil ?_
  refine At.seq ?_
  refine Tr.seq ?_
  refine Tr.seq ?_
  refine Tr.region ?_
  refine TrOps.sem (OpSem.move (.inl rfl) rfl) rfl rfl (by decide) ?_
  refine TrOps.nil ?_
  refine At.seq ?_
  refine Tr.condF rfl rfl ?_
  refine Tr.skip ?_
  refine At.seq ?_
  refine Tr.seq ?_
  refine Tr.seq ?_
  refine Tr.region ?_
  refine TrOps.sem (OpSem.move (.inl rfl) rfl) rfl rfl (by decide) ?_
  refine TrOps.nil ?_
  refine At.seq ?_
  refine Tr.condF rfl rfl ?_
  refine Tr.skip ?_
  refine At.seq ?_
  refine Tr.seq ?_
  refine Tr.seq ?_
  refine Tr.region ?_
  refine TrOps.sem (OpSem.move (.inl rfl) rfl) rfl rfl (by decide) ?_
  refine TrOps.sem (OpSem.move (.inl rfl) rfl) rfl rfl (by decide) ?_
  refine TrOps.sem (OpSem.bin rfl rfl rfl blss) rfl rfl (by decide) ?_
  refine TrOps.nil ?_
  refine At.seq ?_
  refine Tr.cond rfl (fun c16 => ?_) (fun c16 => ?_)
  · refine Tr.seq ?_
    refine Tr.region ?_
    refine TrOps.sem (OpSem.move (.inr rfl) rfl) rfl rfl (by decide) ?_
    refine TrOps.nil ?_
    refine At.seq ?_
    refine Tr.ret ?_
    refine At.pass_ret ?_
    exact At.ret rfl (.tmp rfl <| .nil) rfl (Le.i (cmpI_1 (by simpa using c16)))
  · refine Tr.skip ?_
    refine At.seq ?_
    refine Tr.seq ?_
    refine Tr.seq ?_
    refine Tr.region ?_
    refine TrOps.sem (OpSem.move (.inl rfl) rfl) rfl rfl (by decide) ?_
    refine TrOps.sem (OpSem.move (.inl rfl) rfl) rfl rfl (by decide) ?_
    refine TrOps.sem (OpSem.bin rfl rfl rfl bgtr) rfl rfl (by decide) ?_
    refine TrOps.nil ?_
    refine At.seq ?_
    refine Tr.cond rfl (fun c19 => ?_) (fun c19 => ?_)
    · refine Tr.seq ?_
      refine Tr.region ?_
      refine TrOps.sem (OpSem.move (.inr rfl) rfl) rfl rfl (by decide) ?_
      refine TrOps.nil ?_
      refine At.seq ?_
      refine Tr.ret ?_
      refine At.pass_ret ?_
      exact At.ret rfl (.tmp rfl <| .nil) rfl (Le.i (cmpI_2 (by simpa using c16) (by simpa using c19)))
    · refine Tr.skip ?_
      refine At.seq ?_
      refine Tr.seq ?_
      refine Tr.region ?_
      refine TrOps.sem (OpSem.move (.inr rfl) rfl) rfl rfl (by decide) ?_
      refine TrOps.nil ?_
      refine At.seq ?_
      refine Tr.ret ?_
      exact At.ret rfl (.tmp rfl <| .nil) rfl (Le.i (cmpI_3 (by simpa using c16) (by simpa using c19)))

theorem cmp_Or_int_does (l : List Int) : Does Try.prog false 55 [.d (ints l)] (I (orI l)) := by
  refine Does.of_body Try.func55 rfl rfl (by simp) Try.call55 (fun w0 O0 => ?_)
  refine Tr.lenLe (n := 0) rfl (fun len0 => ?_)
  refine Tr.seq ?_
  refine Tr.region ?_
  refine TrOps.sem (OpSem.move (.inr rfl) rfl) rfl rfl (by decide) ?_
  refine TrOps.nil ?_
  refine At.seq ?_
  refine Tr.seq ?_
  refine Tr.region ?_
  refine TrOps.sem (OpSem.move (.inr rfl) rfl) rfl rfl (by decide) ?_
  refine TrOps.nil ?_
  refine At.seq ?_
  refine Tr.seq ?_
  refine Tr.seq ?_
  refine Tr.region ?_
  refine TrOps.sem (OpSem.move (.inl rfl) rfl) rfl rfl (by decide) ?_
  refine TrOps.sem (OpSem.lenL rfl rfl es23) rfl rfl (by decide) ?_
  refine TrOps.sem (OpSem.move (.inl rfl) rfl) rfl rfl (by decide) ?_
  refine TrOps.nil ?_
  refine At.seq ?_
  refine Tr.block ?_
  refine Tr.loop (X := Nat) (fun k => k ≤ l.length ∧ ∀ i : Nat, i < k → nth l i = 0) (fun k => [(3, I (0)), (6, .d (ints l)), (7, I (l.length)), (8, I (k))]) (fun k => []) (fun k => l.length - k) 0 ⟨by omega, by simp⟩ ?_ ?_
  · exact .slot rfl (.refl _) <| .slot rfl (.refl _) <| .slot rfl (.refl _) <| .slot rfl (Le.of_eq (by simp)) <| .nil
  · rintro k ⟨hkl, hinv⟩
    refine Tr.seq ?_
    refine Tr.region ?_
    refine TrOps.sem (OpSem.bin rfl rfl rfl blss) rfl rfl (by decide) ?_
    refine TrOps.nil ?_
    refine At.seq ?_
    refine Tr.seq ?_
    refine Tr.cond rfl (fun c9 => ?_) (fun c9 => ?_)
    · have hk : k < l.length := by simpa using c9
      refine Tr.skip ?_
      refine At.seq ?_
      refine Tr.seq ?_
      refine Tr.block ?_
      refine Tr.seq ?_
      refine Tr.region ?_
      refine TrOps.sem (OpSem.idxL rfl rfl rfl es23 (by omega) (by omega)) rfl rfl (by decide) ?_
      refine TrOps.sem (OpSem.load1 rfl rfl vs3 rfl) rfl rfl (by decide) ?_
      refine TrOps.sem (OpSem.move (.inr rfl) rfl) rfl rfl (by decide) ?_
      refine TrOps.nil ?_
      refine At.seq ?_
      refine Tr.seq ?_
      refine Tr.region ?_
      refine TrOps.sem (OpSem.move (.inl rfl) rfl) rfl rfl (by decide) ?_
      refine TrOps.sem (OpSem.move (.inl rfl) rfl) rfl rfl (by decide) ?_
      refine TrOps.sem (OpSem.bin rfl rfl rfl bneq) rfl rfl (by decide) ?_
      refine TrOps.nil ?_
      refine At.seq ?_
      refine Tr.cond rfl (fun c14 => ?_) (fun c14 => ?_)
      · refine Tr.seq ?_
        refine Tr.region ?_
        refine TrOps.sem (OpSem.move (.inl rfl) rfl) rfl rfl (by decide) ?_
        refine TrOps.sem (OpSem.move (.inr rfl) rfl) rfl rfl (by decide) ?_
        refine TrOps.nil ?_
        refine At.seq ?_
        refine Tr.ret ?_
        refine At.block_ret ?_
        refine At.pass_ret ?_
        refine At.pass_ret ?_
        refine At.block_ret ?_
        refine At.pass_ret ?_
        exact At.ret rfl (.tmp rfl <| .nil) rfl (Le.i (orI_some hk hinv (by simpa using c14)))
      · have hb : nth l k = 0 := by simpa using c14
        refine Tr.skip ?_
        refine At.block_normal ?_
        refine At.seq ?_
        refine Tr.region ?_
        refine TrOps.sem (OpSem.bin rfl rfl rfl (badd (by omega) (by omega))) rfl rfl (by decide) ?_
        refine TrOps.sem (OpSem.move (.inl rfl) rfl) rfl rfl (by decide) ?_
        refine TrOps.nil ?_
        refine At.again (k + 1) ⟨by omega, all_succ hinv hb⟩ ?_ (by omega)
        exact .slot rfl (.refl _) <| .slot rfl (.refl _) <| .slot rfl (.refl _) <| .slot rfl (Le.of_eq (by simp)) <| .nil
    · have hk : k = l.length := by simp at c9; omega
      refine Tr.exit ?_
      refine At.pass_exit ?_
      refine At.pass_exit ?_
      refine At.block_same ?_
      refine At.seq ?_
      refine Tr.seq ?_
      refine Tr.region ?_
      refine TrOps.sem (OpSem.move (.inl rfl) rfl) rfl rfl (by decide) ?_
      refine TrOps.sem (OpSem.move (.inr rfl) rfl) rfl rfl (by decide) ?_
      refine TrOps.nil ?_
      refine At.seq ?_
      refine Tr.ret ?_
      exact At.ret rfl (.tmp rfl <| .nil) rfl (Le.i (by subst hk; exact orI_none hinv))

theorem abstraction_Compare_does (x y : Arc) : Does Try.prog false 43 [arcS x, arcS y] (I (cmpArc x y)) := by
  refine Does.of_body Try.func43 rfl rfl (by simp) Try.call43 (fun w0 O0 => ?_)
  refine Tr.seq ?_
  refine Tr.region ?_
  refine TrOps.semM (OpSem.box 2 rfl rfl rfl rfl) rfl rfl (by decide) ?_
  refine TrOps.semM (OpSem.box 3 rfl rfl rfl rfl) rfl rfl (by decide) ?_
  refine TrOps.sem (OpSem.move (.inr rfl) rfl) rfl rfl (by decide) ?_
  refine TrOps.nil ?_
  refine At.seq ?_
  refine Tr.seq ?_
  refine PC.start [] ?_
  refine PC.sem (OpSem.fieldr rfl rfl fo57_0) rfl rfl ?_
  refine PC.sem (OpSem.loadb1 rfl rfl rfl vs3 rfl) rfl rfl ?_
  refine PC.sem (OpSem.fieldr rfl rfl fo57_0) rfl rfl ?_
  refine PC.sem (OpSem.loadb1 rfl rfl rfl vs3 rfl) rfl rfl ?_
  refine PC.sem (OpSem.call0 (cmp_Compare_int_does x.fr y.fr) rfl rfl rfl rfl (Les.refl _)) rfl rfl ?_
  refine PC.sem (OpSem.fieldr rfl rfl fo57_1) rfl rfl ?_
  refine PC.sem (OpSem.loadb1 rfl rfl rfl vs3 rfl) rfl rfl ?_
  refine PC.sem (OpSem.fieldr rfl rfl fo57_1) rfl rfl ?_
  refine PC.sem (OpSem.loadb1 rfl rfl rfl vs3 rfl) rfl rfl ?_
  refine PC.sem (OpSem.call0 (cmp_Compare_int_does x.lab y.lab) rfl rfl rfl rfl (Les.refl _)) rfl rfl ?_
  refine PC.sem (OpSem.fieldr rfl rfl fo57_2) rfl rfl ?_
  refine PC.sem (OpSem.loadb1 rfl rfl rfl vs3 rfl) rfl rfl ?_
  refine PC.sem (OpSem.fieldr rfl rfl fo57_2) rfl rfl ?_
  refine PC.sem (OpSem.loadb1 rfl rfl rfl vs3 rfl) rfl rfl ?_
  refine PC.done0 mixed (by kernel_rfl) (by kernel_rfl) (by kernel_rfl) (by kernel_rfl) (by kernel_rfl) ?_
  refine TrOps.sem (OpSem.call0 (cmp_Compare_int_does x.to y.to) rfl rfl rfl rfl (Les.refl _)) rfl rfl (by decide) ?_
  refine TrOps.sem (OpSem.buildSlice rfl rfl es23 ze23 rfl rfl (by decide) (by decide) rfl rfl) rfl rfl (by decide) ?_
  refine TrOps.sem (OpSem.call0 (cmp_Or_int_does [cmpI x.fr y.fr, cmpI x.lab y.lab, cmpI x.to y.to]) rfl rfl rfl rfl (Les.refl _)) rfl rfl (by decide) ?_
  refine TrOps.sem (OpSem.move (.inr rfl) rfl) rfl rfl (by decide) ?_
  refine TrOps.nil ?_
  refine At.seq ?_
  refine Tr.ret ?_
  exact At.ret rfl (.tmp rfl <| .nil) rfl (.refl _)

theorem abstraction_Validate_1_does (n size : Int) : Does Try.prog false 41 [I (n), I (size)] (Bo (decide (0 ≤ n ∧ n < size))) := by
  refine Does.of_body Try.func41 rfl rfl (by simp) Try.call41 (fun w0 O0 => ?_)
  refine Tr.seq ?_
  refine Tr.region ?_
  refine TrOps.sem (OpSem.move (.inr rfl) rfl) rfl rfl (by decide) ?_
  refine TrOps.nil ?_
  refine At.seq ?_
  refine Tr.seq ?_
  refine Tr.region ?_
  refine TrOps.sem (OpSem.move (.inl rfl) rfl) rfl rfl (by decide) ?_
  refine TrOps.sem (OpSem.bin rfl rfl rfl bgeq) rfl rfl (by decide) ?_
  refine TrOps.sem (OpSem.move (.inl rfl) rfl) rfl rfl (by decide) ?_
  refine TrOps.split (n := 7) rfl (fun c7 => ?_) (fun c7 => ?_)
  · refine TrOps.gT rfl rfl rfl rfl c7 ?_
    refine TrOps.sem (OpSem.move (.inl rfl) rfl) rfl rfl (by decide) ?_
    refine TrOps.gT rfl rfl rfl rfl c7 ?_
    refine TrOps.sem (OpSem.move (.inl rfl) rfl) rfl rfl (by decide) ?_
    refine TrOps.gT rfl rfl rfl rfl c7 ?_
    refine TrOps.sem (OpSem.bin rfl rfl rfl blss) rfl rfl (by decide) ?_
    refine TrOps.sem (OpSem.pickT rfl rfl c7 rfl) rfl rfl (by decide) ?_
    refine TrOps.sem (OpSem.move (.inr rfl) rfl) rfl rfl (by decide) ?_
    refine TrOps.nil ?_
    refine At.seq ?_
    refine Tr.ret ?_
    exact At.ret rfl (.tmp rfl <| .nil) rfl (Le.bo (by simp at *; omega))
  · refine TrOps.gF rfl rfl rfl rfl c7 rfl (by decide) ?_
    refine TrOps.gF rfl rfl rfl rfl c7 rfl (by decide) ?_
    refine TrOps.gF rfl rfl rfl rfl c7 rfl (by decide) ?_
    refine TrOps.sem (OpSem.pickF rfl rfl c7 rfl) rfl rfl (by decide) ?_
    refine TrOps.sem (OpSem.move (.inr rfl) rfl) rfl rfl (by decide) ?_
    refine TrOps.nil ?_
    refine At.seq ?_
    refine Tr.ret ?_
    exact At.ret rfl (.tmp rfl <| .nil) rfl (Le.bo (by simp at *; omega))

theorem strips_IsSet_does (l : List Int) (n : Int) : Does Try.prog false 42 [.d (ints l), I (n)] (Bo (decide (SetP n l))) := by
  refine Does.of_body Try.func42 rfl rfl (by simp) Try.call42 (fun w0 O0 => ?_)
  refine Tr.lenLe (n := 0) rfl (fun len0 => ?_)
  refine Tr.seq ?_
  refine Tr.region ?_
  refine TrOps.sem (OpSem.move (.inr rfl) rfl) rfl rfl (by decide) ?_
  refine TrOps.nil ?_
  refine At.seq ?_
  refine Tr.seq ?_
  refine Tr.seq ?_
  refine Tr.region ?_
  refine TrOps.sem (OpSem.move (.inl rfl) rfl) rfl rfl (by decide) ?_
  refine TrOps.sem (OpSem.lenL rfl rfl es23) rfl rfl (by decide) ?_
  refine TrOps.sem (OpSem.move (.inl rfl) rfl) rfl rfl (by decide) ?_
  refine TrOps.nil ?_
  refine At.seq ?_
  refine Tr.block ?_
  refine Tr.loop (X := Nat) (fun k => k ≤ l.length ∧ ∀ i : Nat, i < k → SetOk n l i) (fun k => [(0, .d (ints l)), (1, I (n)), (7, .d (ints l)), (8, I (l.length)), (9, I (k))]) (fun k => []) (fun k => l.length - k) 0 ⟨by omega, by simp⟩ ?_ ?_
  · exact .slot rfl (.refl _) <| .slot rfl (.refl _) <| .slot rfl (.refl _) <| .slot rfl (.refl _) <| .slot rfl (Le.of_eq (by simp)) <| .nil
  · rintro k ⟨hkl, hinv⟩
    refine Tr.seq ?_
    refine Tr.region ?_
    refine TrOps.sem (OpSem.bin rfl rfl rfl blss) rfl rfl (by decide) ?_
    refine TrOps.nil ?_
    refine At.seq ?_
    refine Tr.seq ?_
    refine Tr.cond rfl (fun c10 => ?_) (fun c10 => ?_)
    · have hk : k < l.length := by simpa using c10
      refine Tr.skip ?_
      refine At.seq ?_
      refine Tr.seq ?_
      refine Tr.block ?_
      refine Tr.seq ?_
      refine Tr.region ?_
      refine TrOps.sem (OpSem.move (.inl rfl) rfl) rfl rfl (by decide) ?_
      refine TrOps.sem (OpSem.idxL rfl rfl rfl es23 (by omega) (by omega)) rfl rfl (by decide) ?_
      refine TrOps.sem (OpSem.load1 rfl rfl vs3 rfl) rfl rfl (by decide) ?_
      refine TrOps.sem (OpSem.move (.inr rfl) rfl) rfl rfl (by decide) ?_
      refine TrOps.sem (OpSem.move (.inr rfl) rfl) rfl rfl (by decide) ?_
      refine TrOps.nil ?_
      refine At.seq ?_
      refine Tr.seq ?_
      refine Tr.region ?_
      refine TrOps.sem (OpSem.move (.inl rfl) rfl) rfl rfl (by decide) ?_
      refine TrOps.sem (OpSem.bin rfl rfl rfl blss) rfl rfl (by decide) ?_
      refine TrOps.sem (OpSem.move (.inl rfl) rfl) rfl rfl (by decide) ?_
      refine TrOps.split (n := 16) rfl (fun c16 => ?_) (fun c16 => ?_)
      · refine TrOps.gF rfl rfl rfl rfl c16 rfl (by decide) ?_
        refine TrOps.gF rfl rfl rfl rfl c16 rfl (by decide) ?_
        refine TrOps.gF rfl rfl rfl rfl c16 rfl (by decide) ?_
        refine TrOps.sem (OpSem.pickT rfl rfl c16 rfl) rfl rfl (by decide) ?_
        refine TrOps.sem (OpSem.move (.inl rfl) rfl) rfl rfl (by decide) ?_
        refine TrOps.gF rfl rfl rfl rfl rfl rfl (by decide) ?_
        refine TrOps.gF rfl rfl rfl rfl rfl rfl (by decide) ?_
        refine TrOps.gF rfl rfl rfl rfl rfl rfl (by decide) ?_
        refine TrOps.gU rfl rfl rfl rfl rfl (by decide) ?_
        refine TrOps.gU rfl rfl rfl rfl rfl (by decide) ?_
        refine TrOps.gU rfl rfl rfl rfl rfl (by decide) ?_
        refine TrOps.gU rfl rfl rfl rfl rfl (by decide) ?_
        refine TrOps.gU rfl rfl rfl rfl rfl (by decide) ?_
        refine TrOps.gU rfl rfl rfl rfl rfl (by decide) ?_
        refine TrOps.gU rfl rfl rfl rfl rfl (by decide) ?_
        refine TrOps.gF rfl rfl rfl rfl rfl rfl (by decide) ?_
        refine TrOps.sem (OpSem.pickT rfl rfl rfl rfl) rfl rfl (by decide) ?_
        refine TrOps.nil ?_
        refine At.seq ?_
        refine Tr.condT rfl rfl ?_
        refine Tr.seq ?_
        refine Tr.region ?_
        refine TrOps.sem (OpSem.move (.inr rfl) rfl) rfl rfl (by decide) ?_
        refine TrOps.nil ?_
        refine At.seq ?_
        refine Tr.ret ?_
        refine At.block_ret ?_
        refine At.pass_ret ?_
        refine At.pass_ret ?_
        refine At.block_ret ?_
        refine At.pass_ret ?_
        exact At.ret rfl (.tmp rfl <| .nil) rfl (Le.bo (by first | exact (decide_eq_true (by subst hk; exact hinv)).symm | exact (decide_eq_false (fun h => by have h1 := (h k hk).2.2 hkp; simp at c33; omega)).symm | exact (decide_eq_false (fun h => by have := h k hk; simp at c21; omega)).symm | exact (decide_eq_false (fun h => by have := h k hk; simp at c16; omega)).symm))
      · refine TrOps.gT rfl rfl rfl rfl c16 ?_
        refine TrOps.sem (OpSem.move (.inl rfl) rfl) rfl rfl (by decide) ?_
        refine TrOps.gT rfl rfl rfl rfl c16 ?_
        refine TrOps.sem (OpSem.move (.inl rfl) rfl) rfl rfl (by decide) ?_
        refine TrOps.gT rfl rfl rfl rfl c16 ?_
        refine TrOps.sem (OpSem.bin rfl rfl rfl bgeq) rfl rfl (by decide) ?_
        refine TrOps.sem (OpSem.pickF rfl rfl c16 rfl) rfl rfl (by decide) ?_
        refine TrOps.sem (OpSem.move (.inl rfl) rfl) rfl rfl (by decide) ?_
        refine TrOps.split (n := 21) rfl (fun c21 => ?_) (fun c21 => ?_)
        · refine TrOps.gF rfl rfl rfl rfl c21 rfl (by decide) ?_
          refine TrOps.gF rfl rfl rfl rfl c21 rfl (by decide) ?_
          refine TrOps.gF rfl rfl rfl rfl c21 rfl (by decide) ?_
          refine TrOps.gU rfl rfl rfl rfl rfl (by decide) ?_
          refine TrOps.gU rfl rfl rfl rfl rfl (by decide) ?_
          refine TrOps.gU rfl rfl rfl rfl rfl (by decide) ?_
          refine TrOps.gU rfl rfl rfl rfl rfl (by decide) ?_
          refine TrOps.gU rfl rfl rfl rfl rfl (by decide) ?_
          refine TrOps.gU rfl rfl rfl rfl rfl (by decide) ?_
          refine TrOps.gU rfl rfl rfl rfl rfl (by decide) ?_
          refine TrOps.gF rfl rfl rfl rfl c21 rfl (by decide) ?_
          refine TrOps.sem (OpSem.pickT rfl rfl c21 rfl) rfl rfl (by decide) ?_
          refine TrOps.nil ?_
          refine At.seq ?_
          refine Tr.condT rfl rfl ?_
          refine Tr.seq ?_
          refine Tr.region ?_
          refine TrOps.sem (OpSem.move (.inr rfl) rfl) rfl rfl (by decide) ?_
          refine TrOps.nil ?_
          refine At.seq ?_
          refine Tr.ret ?_
          refine At.block_ret ?_
          refine At.pass_ret ?_
          refine At.pass_ret ?_
          refine At.block_ret ?_
          refine At.pass_ret ?_
          exact At.ret rfl (.tmp rfl <| .nil) rfl (Le.bo (by first | exact (decide_eq_true (by subst hk; exact hinv)).symm | exact (decide_eq_false (fun h => by have h1 := (h k hk).2.2 hkp; simp at c33; omega)).symm | exact (decide_eq_false (fun h => by have := h k hk; simp at c21; omega)).symm | exact (decide_eq_false (fun h => by have := h k hk; simp at c16; omega)).symm))
        · refine TrOps.gT rfl rfl rfl rfl c21 ?_
          refine TrOps.sem (OpSem.move (.inl rfl) rfl) rfl rfl (by decide) ?_
          refine TrOps.gT rfl rfl rfl rfl c21 ?_
          refine TrOps.sem (OpSem.bin rfl rfl rfl bgtr) rfl rfl (by decide) ?_
          refine TrOps.gT rfl rfl rfl rfl c21 ?_
          refine TrOps.sem (OpSem.move (.inl rfl) rfl) rfl rfl (by decide) ?_
          refine TrOps.split (n := 24) rfl (fun c24 => ?_) (fun c24 => ?_)
          · have hkp : 0 < k := by simp at c24; omega
            refine TrOps.gT rfl rfl rfl rfl c24 ?_
            refine TrOps.sem (OpSem.move (.inl rfl) rfl) rfl rfl (by decide) ?_
            refine TrOps.gT rfl rfl rfl rfl c24 ?_
            refine TrOps.sem (OpSem.move (.inl rfl) rfl) rfl rfl (by decide) ?_
            refine TrOps.gT rfl rfl rfl rfl c24 ?_
            refine TrOps.sem (OpSem.move (.inl rfl) rfl) rfl rfl (by decide) ?_
            refine TrOps.gT rfl rfl rfl rfl c24 ?_
            refine TrOps.sem (OpSem.bin rfl rfl rfl (bsub (by omega) (by omega))) rfl rfl (by decide) ?_
            refine TrOps.gT rfl rfl rfl rfl c24 ?_
            refine TrOps.sem (OpSem.idxL rfl rfl rfl es23 (by omega) (by omega)) rfl rfl (by decide) ?_
            refine TrOps.gT rfl rfl rfl rfl c24 ?_
            refine TrOps.sem (OpSem.load1 rfl rfl vs3 rfl) rfl rfl (by decide) ?_
            refine TrOps.gT rfl rfl rfl rfl c24 ?_
            refine TrOps.sem (OpSem.bin rfl rfl rfl bleq) rfl rfl (by decide) ?_
            refine TrOps.gT rfl rfl rfl rfl c21 ?_
            refine TrOps.sem (OpSem.pickT rfl rfl c24 rfl) rfl rfl (by decide) ?_
            refine TrOps.sem (OpSem.pickF rfl rfl c21 rfl) rfl rfl (by decide) ?_
            refine TrOps.nil ?_
            refine At.seq ?_
            refine Tr.cond rfl (fun c33 => ?_) (fun c33 => ?_)
            · refine Tr.seq ?_
              refine Tr.region ?_
              refine TrOps.sem (OpSem.move (.inr rfl) rfl) rfl rfl (by decide) ?_
              refine TrOps.nil ?_
              refine At.seq ?_
              refine Tr.ret ?_
              refine At.block_ret ?_
              refine At.pass_ret ?_
              refine At.pass_ret ?_
              refine At.block_ret ?_
              refine At.pass_ret ?_
              exact At.ret rfl (.tmp rfl <| .nil) rfl (Le.bo (by first | exact (decide_eq_true (by subst hk; exact hinv)).symm | exact (decide_eq_false (fun h => by have h1 := (h k hk).2.2 hkp; simp at c33; omega)).symm | exact (decide_eq_false (fun h => by have := h k hk; simp at c21; omega)).symm | exact (decide_eq_false (fun h => by have := h k hk; simp at c16; omega)).symm))
            · refine Tr.skip ?_
              refine At.block_normal ?_
              refine At.seq ?_
              refine Tr.region ?_
              refine TrOps.sem (OpSem.bin rfl rfl rfl (badd (by omega) (by omega))) rfl rfl (by decide) ?_
              refine TrOps.sem (OpSem.move (.inl rfl) rfl) rfl rfl (by decide) ?_
              refine TrOps.nil ?_
              have hb : SetOk n l k := by first | (simp at c16 c21 c33; exact ⟨by omega, by omega, fun h => by omega⟩) | (simp at c16 c21 c24; exact ⟨by omega, by omega, fun h => by omega⟩)
              refine At.again (k + 1) ⟨by omega, all_succ hinv hb⟩ ?_ (by omega)
              exact .slot rfl (.refl _) <| .slot rfl (.refl _) <| .slot rfl (.refl _) <| .slot rfl (.refl _) <| .slot rfl (Le.of_eq (by simp)) <| .nil
          · refine TrOps.gF rfl rfl rfl rfl c24 rfl (by decide) ?_
            refine TrOps.gF rfl rfl rfl rfl c24 rfl (by decide) ?_
            refine TrOps.gF rfl rfl rfl rfl c24 rfl (by decide) ?_
            refine TrOps.gF rfl rfl rfl rfl c24 rfl (by decide) ?_
            refine TrOps.gF rfl rfl rfl rfl c24 rfl (by decide) ?_
            refine TrOps.gF rfl rfl rfl rfl c24 rfl (by decide) ?_
            refine TrOps.gF rfl rfl rfl rfl c24 rfl (by decide) ?_
            refine TrOps.gT rfl rfl rfl rfl c21 ?_
            refine TrOps.sem (OpSem.pickF rfl rfl c24 rfl) rfl rfl (by decide) ?_
            refine TrOps.sem (OpSem.pickF rfl rfl c21 rfl) rfl rfl (by decide) ?_
            refine TrOps.nil ?_
            refine At.seq ?_
            refine Tr.condF rfl rfl ?_
            refine Tr.skip ?_
            refine At.block_normal ?_
            refine At.seq ?_
            refine Tr.region ?_
            refine TrOps.sem (OpSem.bin rfl rfl rfl (badd (by omega) (by omega))) rfl rfl (by decide) ?_
            refine TrOps.sem (OpSem.move (.inl rfl) rfl) rfl rfl (by decide) ?_
            refine TrOps.nil ?_
            have hb : SetOk n l k := by first | (simp at c16 c21 c33; exact ⟨by omega, by omega, fun h => by omega⟩) | (simp at c16 c21 c24; exact ⟨by omega, by omega, fun h => by omega⟩)
            refine At.again (k + 1) ⟨by omega, all_succ hinv hb⟩ ?_ (by omega)
            exact .slot rfl (.refl _) <| .slot rfl (.refl _) <| .slot rfl (.refl _) <| .slot rfl (.refl _) <| .slot rfl (Le.of_eq (by simp)) <| .nil
    · have hk : k = l.length := by simp at c10; omega
      refine Tr.exit ?_
      refine At.pass_exit ?_
      refine At.pass_exit ?_
      refine At.block_same ?_
      refine At.seq ?_
      refine Tr.seq ?_
      refine Tr.region ?_
      refine TrOps.sem (OpSem.move (.inr rfl) rfl) rfl rfl (by decide) ?_
      refine TrOps.nil ?_
      refine At.seq ?_
      refine Tr.ret ?_
      exact At.ret rfl (.tmp rfl <| .nil) rfl (Le.bo (by first | exact (decide_eq_true (by subst hk; exact hinv)).symm | exact (decide_eq_false (fun h => by have h1 := (h k hk).2.2 hkp; simp at c33; omega)).symm | exact (decide_eq_false (fun h => by have := h k hk; simp at c21; omega)).symm | exact (decide_eq_false (fun h => by have := h k hk; simp at c16; omega)).symm))

theorem abstraction_Validate_does (a : Abs) (hr : -9223372036854775808 ≤ a.states ∧ a.states ≤ 9223372036854775807) : Does Try.prog false 25 [absS a] (flt (absFault a)) := by
  have hw : 0 ≤ IntKind.i64.wrap (a.states - 1) ∧ IntKind.i64.wrap (a.states - 1) < 60 ↔ 1 ≤ a.states ∧ a.states ≤ 60 := wrap_pred hr
  refine Does.of_body Try.func25 rfl rfl (by simp) Try.call25 (fun w0 O0 => ?_)
  refine Tr.lenG (n := 0) (i := 2) rfl rfl (fun len0_2 => ?_)
  refine Tr.lenG (n := 0) (i := 4) rfl rfl (fun len0_4 => ?_)
  refine Tr.seq ?_
  refine Tr.region ?_
  refine TrOps.semM (OpSem.box 1 rfl rfl rfl rfl) rfl rfl (by decide) ?_
  refine TrOps.semM (OpSem.alloc 2 rfl zc28 rfl) rfl rfl (by decide) ?_
  refine TrOps.nil ?_
  refine At.seq ?_
  refine Tr.seq ?_
  refine Tr.region ?_
  refine TrOps.sem (OpSem.move (.inr rfl) rfl) rfl rfl (by decide) ?_
  refine TrOps.nil ?_
  refine At.seq ?_
  refine Tr.seq ?_
  refine Tr.block ?_
  refine Tr.seq ?_
  refine Tr.region ?_
  refine TrOps.sem (OpSem.move (.inl rfl) rfl) rfl rfl (by decide) ?_
  refine TrOps.sem (OpSem.fieldr rfl rfl fo25_0) rfl rfl (by decide) ?_
  refine TrOps.sem (OpSem.loadb1 rfl rfl rfl vs3 rfl) rfl rfl (by decide) ?_
  refine TrOps.sem (OpSem.bin rfl rfl rfl bsubW) rfl rfl (by decide) ?_
  refine TrOps.sem (OpSem.call0 (abstraction_Validate_1_does ..) rfl rfl rfl rfl (Les.refl _)) rfl rfl (by decide) ?_
  refine TrOps.sem (OpSem.not rfl rfl) rfl rfl (by decide) ?_
  refine TrOps.sem (OpSem.move (.inl rfl) rfl) rfl rfl (by decide) ?_
  refine TrOps.split (n := 13) rfl (fun c13 => ?_) (fun c13 => ?_)
  · refine TrOps.gF rfl rfl rfl rfl c13 rfl (by decide) ?_
    refine TrOps.gF rfl rfl rfl rfl c13 rfl (by decide) ?_
    refine TrOps.gF rfl rfl rfl rfl c13 rfl (by decide) ?_
    refine TrOps.gF rfl rfl rfl rfl c13 rfl (by decide) ?_
    refine TrOps.gF rfl rfl rfl rfl c13 rfl (by decide) ?_
    refine TrOps.sem (OpSem.pickT rfl rfl c13 rfl) rfl rfl (by decide) ?_
    refine TrOps.sem (OpSem.move (.inl rfl) rfl) rfl rfl (by decide) ?_
    refine TrOps.gF rfl rfl rfl rfl rfl rfl (by decide) ?_
    refine TrOps.gF rfl rfl rfl rfl rfl rfl (by decide) ?_
    refine TrOps.gF rfl rfl rfl rfl rfl rfl (by decide) ?_
    refine TrOps.gF rfl rfl rfl rfl rfl rfl (by decide) ?_
    refine TrOps.gF rfl rfl rfl rfl rfl rfl (by decide) ?_
    refine TrOps.gF rfl rfl rfl rfl rfl rfl (by decide) ?_
    refine TrOps.gF rfl rfl rfl rfl rfl rfl (by decide) ?_
    refine TrOps.sem (OpSem.pickT rfl rfl rfl rfl) rfl rfl (by decide) ?_
    refine TrOps.sem (OpSem.move (.inr rfl) rfl) rfl rfl (by decide) ?_
    refine TrOps.nil ?_
    refine At.seq ?_
    refine Tr.condT rfl rfl ?_
    refine Tr.seq ?_
    refine Tr.region ?_
    refine TrOps.sem (OpSem.build rfl rfl pl28 zc28 rfl rfl) rfl rfl (by decide) ?_
    refine TrOps.storeb rfl rfl rfl rfl rfl rfl rfl vs28 (by first | decide | simp) ?_
    refine TrOps.nil ?_
    refine At.seq ?_
    refine Tr.ret ?_
    refine At.block_ret ?_
    refine At.pass_ret ?_
    exact At.ret rfl (.cellN rfl rfl vs28 <| .nil) rfl (Le.flt (absFault_1 (fun h => by simp at c13; exact absurd (hw.2 h.1) (by omega))))
  · refine TrOps.gT rfl rfl rfl rfl c13 ?_
    refine TrOps.sem (OpSem.move (.inl rfl) rfl) rfl rfl (by decide) ?_
    refine TrOps.gT rfl rfl rfl rfl c13 ?_
    refine TrOps.sem (OpSem.fieldr rfl rfl fo25_1) rfl rfl (by decide) ?_
    refine TrOps.gT rfl rfl rfl rfl c13 ?_
    refine TrOps.sem (OpSem.loadb1 rfl rfl rfl vs3 rfl) rfl rfl (by decide) ?_
    refine TrOps.gT rfl rfl rfl rfl c13 ?_
    refine TrOps.sem (OpSem.call0 (abstraction_Validate_1_does ..) rfl rfl rfl rfl (Les.refl _)) rfl rfl (by decide) ?_
    refine TrOps.gT rfl rfl rfl rfl c13 ?_
    refine TrOps.sem (OpSem.not rfl rfl) rfl rfl (by decide) ?_
    refine TrOps.sem (OpSem.pickF rfl rfl c13 rfl) rfl rfl (by decide) ?_
    refine TrOps.sem (OpSem.move (.inl rfl) rfl) rfl rfl (by decide) ?_
    refine TrOps.split (n := 20) rfl (fun c20 => ?_) (fun c20 => ?_)
    · refine TrOps.gF rfl rfl rfl rfl c20 rfl (by decide) ?_
      refine TrOps.gF rfl rfl rfl rfl c20 rfl (by decide) ?_
      refine TrOps.gF rfl rfl rfl rfl c20 rfl (by decide) ?_
      refine TrOps.gF rfl rfl rfl rfl c20 rfl (by decide) ?_
      refine TrOps.gF rfl rfl rfl rfl c20 rfl (by decide) ?_
      refine TrOps.gF rfl rfl rfl rfl c20 rfl (by decide) ?_
      refine TrOps.gF rfl rfl rfl rfl c20 rfl (by decide) ?_
      refine TrOps.sem (OpSem.pickT rfl rfl c20 rfl) rfl rfl (by decide) ?_
      refine TrOps.sem (OpSem.move (.inr rfl) rfl) rfl rfl (by decide) ?_
      refine TrOps.nil ?_
      refine At.seq ?_
      refine Tr.condT rfl rfl ?_
      refine Tr.seq ?_
      refine Tr.region ?_
      refine TrOps.sem (OpSem.build rfl rfl pl28 zc28 rfl rfl) rfl rfl (by decide) ?_
      refine TrOps.storeb rfl rfl rfl rfl rfl rfl rfl vs28 (by first | decide | simp) ?_
      refine TrOps.nil ?_
      refine At.seq ?_
      refine Tr.ret ?_
      refine At.block_ret ?_
      refine At.pass_ret ?_
      exact At.ret rfl (.cellN rfl rfl vs28 <| .nil) rfl (Le.flt (absFault_1 (fun h => by have := h.2; simp at c20; omega)))
    · refine TrOps.gT rfl rfl rfl rfl c20 ?_
      refine TrOps.sem (OpSem.move (.inl rfl) rfl) rfl rfl (by decide) ?_
      refine TrOps.gT rfl rfl rfl rfl c20 ?_
      refine TrOps.sem (OpSem.fieldr rfl rfl fo25_3) rfl rfl (by decide) ?_
      refine TrOps.gT rfl rfl rfl rfl c20 ?_
      refine TrOps.sem (OpSem.loadb1 rfl rfl rfl vs3 rfl) rfl rfl (by decide) ?_
      refine TrOps.gT rfl rfl rfl rfl c20 ?_
      refine TrOps.sem (OpSem.fieldr rfl rfl fo25_0) rfl rfl (by decide) ?_
      refine TrOps.gT rfl rfl rfl rfl c20 ?_
      refine TrOps.sem (OpSem.loadb1 rfl rfl rfl vs3 rfl) rfl rfl (by decide) ?_
      refine TrOps.gT rfl rfl rfl rfl c20 ?_
      refine TrOps.sem (OpSem.call0 (abstraction_Validate_1_does ..) rfl rfl rfl rfl (Les.refl _)) rfl rfl (by decide) ?_
      refine TrOps.gT rfl rfl rfl rfl c20 ?_
      refine TrOps.sem (OpSem.not rfl rfl) rfl rfl (by decide) ?_
      refine TrOps.sem (OpSem.pickF rfl rfl c20 rfl) rfl rfl (by decide) ?_
      refine TrOps.sem (OpSem.move (.inr rfl) rfl) rfl rfl (by decide) ?_
      refine TrOps.nil ?_
      refine At.seq ?_
      refine Tr.cond rfl (fun c6 => ?_) (fun c6 => ?_)
      · refine Tr.seq ?_
        refine Tr.region ?_
        refine TrOps.sem (OpSem.build rfl rfl pl28 zc28 rfl rfl) rfl rfl (by decide) ?_
        refine TrOps.storeb rfl rfl rfl rfl rfl rfl rfl vs28 (by first | decide | simp) ?_
        refine TrOps.nil ?_
        refine At.seq ?_
        refine Tr.ret ?_
        refine At.block_ret ?_
        refine At.pass_ret ?_
        exact At.ret rfl (.cellN rfl rfl vs28 <| .nil) rfl (Le.flt (absFault_1 (fun h => by have := h.2; simp at c6; omega)))
      · have h1 : headOk a := by simp at c13 c20 c6; exact ⟨hw.1 c13, by omega, by omega⟩
        refine Tr.seq ?_
        refine Tr.region ?_
        refine TrOps.sem (OpSem.fieldr rfl rfl fo25_4) rfl rfl (by decide) ?_
        refine TrOps.sem (OpSem.loadb1 rfl rfl rfl vs23 rfl) rfl rfl (by decide) ?_
        refine TrOps.sem (OpSem.fieldr rfl rfl fo25_0) rfl rfl (by decide) ?_
        refine TrOps.sem (OpSem.loadb1 rfl rfl rfl vs3 rfl) rfl rfl (by decide) ?_
        refine TrOps.sem (OpSem.call0 (strips_IsSet_does a.goals a.states) rfl rfl rfl rfl (Les.refl _)) rfl rfl (by decide) ?_
        refine TrOps.sem (OpSem.not rfl rfl) rfl rfl (by decide) ?_
        refine TrOps.sem (OpSem.move (.inr rfl) rfl) rfl rfl (by decide) ?_
        refine TrOps.nil ?_
        refine At.seq ?_
        refine Tr.cond rfl (fun c30 => ?_) (fun c30 => ?_)
        · refine Tr.seq ?_
          refine Tr.region ?_
          refine TrOps.sem (OpSem.build rfl rfl pl28 zc28 rfl rfl) rfl rfl (by decide) ?_
          refine TrOps.storeb rfl rfl rfl rfl rfl rfl rfl vs28 (by first | decide | simp) ?_
          refine TrOps.nil ?_
          refine At.seq ?_
          refine Tr.ret ?_
          refine At.block_ret ?_
          refine At.pass_ret ?_
          exact At.ret rfl (.cellN rfl rfl vs28 <| .nil) rfl (Le.flt (absFault_2 h1 (by simpa using c30)))
        · have h2 : SetP a.states a.goals := by simpa using c30
          refine Tr.seq ?_
          refine Tr.region ?_
          refine TrOps.sem (OpSem.fieldr rfl rfl fo25_2) rfl rfl (by decide) ?_
          refine TrOps.sem (OpSem.loadb1 rfl rfl rfl vs22 rfl) rfl rfl (by decide) ?_
          refine TrOps.sem (OpSem.lenL rfl rfl es22) rfl rfl (by decide) ?_
          refine TrOps.sem (OpSem.bin rfl rfl rfl bgtr) rfl rfl (by decide) ?_
          refine TrOps.sem (OpSem.move (.inr rfl) rfl) rfl rfl (by decide) ?_
          refine TrOps.nil ?_
          refine At.seq ?_
          refine Tr.cond rfl (fun c38 => ?_) (fun c38 => ?_)
          · refine Tr.seq ?_
            refine Tr.region ?_
            refine TrOps.sem (OpSem.build rfl rfl pl28 zc28 rfl rfl) rfl rfl (by decide) ?_
            refine TrOps.storeb rfl rfl rfl rfl rfl rfl rfl vs28 (by first | decide | simp) ?_
            refine TrOps.nil ?_
            refine At.seq ?_
            refine Tr.ret ?_
            refine At.block_ret ?_
            refine At.pass_ret ?_
            exact At.ret rfl (.cellN rfl rfl vs28 <| .nil) rfl (Le.flt (absFault_3 h1 h2 (by simp at c38; omega)))
          · have h3 : ¬ 400 < a.arcs.length := by simp at c38; omega
            refine Tr.skip ?_
            refine At.block_normal ?_
            refine At.seq ?_
            refine Tr.seq ?_
            refine Tr.seq ?_
            refine Tr.region ?_
            refine TrOps.sem (OpSem.fieldr rfl rfl fo25_2) rfl rfl (by decide) ?_
            refine TrOps.sem (OpSem.loadb1 rfl rfl rfl vs22 rfl) rfl rfl (by decide) ?_
            refine TrOps.sem (OpSem.lenL rfl rfl es22) rfl rfl (by decide) ?_
            refine TrOps.sem (OpSem.move (.inl rfl) rfl) rfl rfl (by decide) ?_
            refine TrOps.nil ?_
            refine At.seq ?_
            refine Tr.block ?_
            refine Tr.loop (X := Nat) (fun k => k ≤ a.arcs.length ∧ ∀ i : Nat, i < k → arcFault a i = (0, 0)) (fun k => [(1, .r 1 0), (2, .r 2 0), (3, .f 41 [] []), (45, .d (arcsD a.arcs)), (46, I (a.arcs.length)), (47, I (k))]) (fun k => [(1, .box [I (a.states), I (a.labels), .d (arcsD a.arcs), I (a.init), .d (ints a.goals)]), (2, .box [I (0), I (0)])]) (fun k => a.arcs.length - k) 0 ⟨by omega, by simp⟩ ?_ ?_
            · exact .slot rfl (.refl _) <| .slot rfl (.refl _) <| .slot rfl (.refl _) <| .slot rfl (.refl _) <| .slot rfl (.refl _) <| .slot rfl (Le.of_eq (by simp)) <| .mem rfl <| .mem rfl <| .nil
            · rintro k ⟨hkl, hinv⟩
              refine Tr.seq ?_
              refine Tr.region ?_
              refine TrOps.sem (OpSem.bin rfl rfl rfl blss) rfl rfl (by decide) ?_
              refine TrOps.nil ?_
              refine At.seq ?_
              refine Tr.seq ?_
              refine Tr.cond rfl (fun c48 => ?_) (fun c48 => ?_)
              · have hk : k < a.arcs.length := by simpa using c48
                refine Tr.skip ?_
                refine At.seq ?_
                refine Tr.seq ?_
                refine Tr.block ?_
                refine Tr.seq ?_
                refine Tr.region ?_
                refine TrOps.sem (OpSem.move (.inl rfl) rfl) rfl rfl (by decide) ?_
                refine TrOps.sem (OpSem.idxL rfl rfl rfl es22 (by omega) (by omega)) rfl rfl (by decide) ?_
                refine TrOps.sem (OpSem.loadN rfl rfl vs57 (by first | decide | simp) rfl) rfl rfl (by decide) ?_
                refine TrOps.semM (OpSem.alloc 5 rfl zc57 rfl) rfl rfl (by decide) ?_
                refine TrOps.sem (OpSem.move (.inr rfl) rfl) rfl rfl (by decide) ?_
                refine TrOps.storeb rfl rfl rfl rfl rfl rfl rfl vs57 (by first | decide | simp) ?_
                refine TrOps.nil ?_
                refine At.seq ?_
                refine Tr.block ?_
                refine Tr.seq ?_
                refine Tr.region ?_
                refine TrOps.sem (OpSem.move (.inl rfl) rfl) rfl rfl (by decide) ?_
                refine TrOps.sem (OpSem.fieldr rfl rfl fo57_0) rfl rfl (by decide) ?_
                refine TrOps.sem (OpSem.loadb1 rfl rfl rfl vs3 rfl) rfl rfl (by decide) ?_
                refine TrOps.sem (OpSem.fieldr rfl rfl fo25_0) rfl rfl (by decide) ?_
                refine TrOps.sem (OpSem.loadb1 rfl rfl rfl vs3 rfl) rfl rfl (by decide) ?_
                refine TrOps.sem (OpSem.call0 (abstraction_Validate_1_does ..) rfl rfl rfl rfl (Les.refl _)) rfl rfl (by decide) ?_
                refine TrOps.sem (OpSem.not rfl rfl) rfl rfl (by decide) ?_
                refine TrOps.sem (OpSem.move (.inl rfl) rfl) rfl rfl (by decide) ?_
                refine TrOps.split (n := 60) rfl (fun c60 => ?_) (fun c60 => ?_)
                · refine TrOps.gF rfl rfl rfl rfl c60 rfl (by decide) ?_
                  refine TrOps.gF rfl rfl rfl rfl c60 rfl (by decide) ?_
                  refine TrOps.gF rfl rfl rfl rfl c60 rfl (by decide) ?_
                  refine TrOps.gF rfl rfl rfl rfl c60 rfl (by decide) ?_
                  refine TrOps.gF rfl rfl rfl rfl c60 rfl (by decide) ?_
                  refine TrOps.gF rfl rfl rfl rfl c60 rfl (by decide) ?_
                  refine TrOps.gF rfl rfl rfl rfl c60 rfl (by decide) ?_
                  refine TrOps.sem (OpSem.pickT rfl rfl c60 rfl) rfl rfl (by decide) ?_
                  refine TrOps.sem (OpSem.move (.inl rfl) rfl) rfl rfl (by decide) ?_
                  refine TrOps.gF rfl rfl rfl rfl rfl rfl (by decide) ?_
                  refine TrOps.gF rfl rfl rfl rfl rfl rfl (by decide) ?_
                  refine TrOps.gF rfl rfl rfl rfl rfl rfl (by decide) ?_
                  refine TrOps.gF rfl rfl rfl rfl rfl rfl (by decide) ?_
                  refine TrOps.gF rfl rfl rfl rfl rfl rfl (by decide) ?_
                  refine TrOps.gF rfl rfl rfl rfl rfl rfl (by decide) ?_
                  refine TrOps.gF rfl rfl rfl rfl rfl rfl (by decide) ?_
                  refine TrOps.sem (OpSem.pickT rfl rfl rfl rfl) rfl rfl (by decide) ?_
                  refine TrOps.sem (OpSem.move (.inr rfl) rfl) rfl rfl (by decide) ?_
                  refine TrOps.nil ?_
                  refine At.seq ?_
                  refine Tr.condT rfl rfl ?_
                  refine Tr.seq ?_
                  refine Tr.region ?_
                  refine TrOps.sem (OpSem.move (.inl rfl) rfl) rfl rfl (by decide) ?_
                  refine TrOps.sem (OpSem.build rfl rfl pl28 zc28 rfl rfl) rfl rfl (by decide) ?_
                  refine TrOps.storeb rfl rfl rfl rfl rfl rfl rfl vs28 (by first | decide | simp) ?_
                  refine TrOps.nil ?_
                  refine At.seq ?_
                  refine Tr.ret ?_
                  refine At.block_ret ?_
                  refine At.block_ret ?_
                  refine At.pass_ret ?_
                  refine At.pass_ret ?_
                  refine At.block_ret ?_
                  refine At.pass_ret ?_
                  exact At.ret rfl (.cellN rfl rfl vs28 <| .nil) rfl (Le.flt (absFault_5 h1 h2 h3 hk hinv (arcFault_3 (fun h => by have := h.1; simp at c60; omega)) (by decide)))
                · refine TrOps.gT rfl rfl rfl rfl c60 ?_
                  refine TrOps.sem (OpSem.move (.inl rfl) rfl) rfl rfl (by decide) ?_
                  refine TrOps.gT rfl rfl rfl rfl c60 ?_
                  refine TrOps.sem (OpSem.fieldr rfl rfl fo57_1) rfl rfl (by decide) ?_
                  refine TrOps.gT rfl rfl rfl rfl c60 ?_
                  refine TrOps.sem (OpSem.loadb1 rfl rfl rfl vs3 rfl) rfl rfl (by decide) ?_
                  refine TrOps.gT rfl rfl rfl rfl c60 ?_
                  refine TrOps.sem (OpSem.fieldr rfl rfl fo25_1) rfl rfl (by decide) ?_
                  refine TrOps.gT rfl rfl rfl rfl c60 ?_
                  refine TrOps.sem (OpSem.loadb1 rfl rfl rfl vs3 rfl) rfl rfl (by decide) ?_
                  refine TrOps.gT rfl rfl rfl rfl c60 ?_
                  refine TrOps.sem (OpSem.call0 (abstraction_Validate_1_does ..) rfl rfl rfl rfl (Les.refl _)) rfl rfl (by decide) ?_
                  refine TrOps.gT rfl rfl rfl rfl c60 ?_
                  refine TrOps.sem (OpSem.not rfl rfl) rfl rfl (by decide) ?_
                  refine TrOps.sem (OpSem.pickF rfl rfl c60 rfl) rfl rfl (by decide) ?_
                  refine TrOps.sem (OpSem.move (.inl rfl) rfl) rfl rfl (by decide) ?_
                  refine TrOps.split (n := 69) rfl (fun c69 => ?_) (fun c69 => ?_)
                  · refine TrOps.gF rfl rfl rfl rfl c69 rfl (by decide) ?_
                    refine TrOps.gF rfl rfl rfl rfl c69 rfl (by decide) ?_
                    refine TrOps.gF rfl rfl rfl rfl c69 rfl (by decide) ?_
                    refine TrOps.gF rfl rfl rfl rfl c69 rfl (by decide) ?_
                    refine TrOps.gF rfl rfl rfl rfl c69 rfl (by decide) ?_
                    refine TrOps.gF rfl rfl rfl rfl c69 rfl (by decide) ?_
                    refine TrOps.gF rfl rfl rfl rfl c69 rfl (by decide) ?_
                    refine TrOps.sem (OpSem.pickT rfl rfl c69 rfl) rfl rfl (by decide) ?_
                    refine TrOps.sem (OpSem.move (.inr rfl) rfl) rfl rfl (by decide) ?_
                    refine TrOps.nil ?_
                    refine At.seq ?_
                    refine Tr.condT rfl rfl ?_
                    refine Tr.seq ?_
                    refine Tr.region ?_
                    refine TrOps.sem (OpSem.move (.inl rfl) rfl) rfl rfl (by decide) ?_
                    refine TrOps.sem (OpSem.build rfl rfl pl28 zc28 rfl rfl) rfl rfl (by decide) ?_
                    refine TrOps.storeb rfl rfl rfl rfl rfl rfl rfl vs28 (by first | decide | simp) ?_
                    refine TrOps.nil ?_
                    refine At.seq ?_
                    refine Tr.ret ?_
                    refine At.block_ret ?_
                    refine At.block_ret ?_
                    refine At.pass_ret ?_
                    refine At.pass_ret ?_
                    refine At.block_ret ?_
                    refine At.pass_ret ?_
                    exact At.ret rfl (.cellN rfl rfl vs28 <| .nil) rfl (Le.flt (absFault_5 h1 h2 h3 hk hinv (arcFault_3 (fun h => by have := h.2; simp at c69; omega)) (by decide)))
                  · refine TrOps.gT rfl rfl rfl rfl c69 ?_
                    refine TrOps.sem (OpSem.move (.inl rfl) rfl) rfl rfl (by decide) ?_
                    refine TrOps.gT rfl rfl rfl rfl c69 ?_
                    refine TrOps.sem (OpSem.fieldr rfl rfl fo57_2) rfl rfl (by decide) ?_
                    refine TrOps.gT rfl rfl rfl rfl c69 ?_
                    refine TrOps.sem (OpSem.loadb1 rfl rfl rfl vs3 rfl) rfl rfl (by decide) ?_
                    refine TrOps.gT rfl rfl rfl rfl c69 ?_
                    refine TrOps.sem (OpSem.fieldr rfl rfl fo25_0) rfl rfl (by decide) ?_
                    refine TrOps.gT rfl rfl rfl rfl c69 ?_
                    refine TrOps.sem (OpSem.loadb1 rfl rfl rfl vs3 rfl) rfl rfl (by decide) ?_
                    refine TrOps.gT rfl rfl rfl rfl c69 ?_
                    refine TrOps.sem (OpSem.call0 (abstraction_Validate_1_does ..) rfl rfl rfl rfl (Les.refl _)) rfl rfl (by decide) ?_
                    refine TrOps.gT rfl rfl rfl rfl c69 ?_
                    refine TrOps.sem (OpSem.not rfl rfl) rfl rfl (by decide) ?_
                    refine TrOps.sem (OpSem.pickF rfl rfl c69 rfl) rfl rfl (by decide) ?_
                    refine TrOps.sem (OpSem.move (.inr rfl) rfl) rfl rfl (by decide) ?_
                    refine TrOps.nil ?_
                    refine At.seq ?_
                    refine Tr.cond rfl (fun c52 => ?_) (fun c52 => ?_)
                    · refine Tr.seq ?_
                      refine Tr.region ?_
                      refine TrOps.sem (OpSem.move (.inl rfl) rfl) rfl rfl (by decide) ?_
                      refine TrOps.sem (OpSem.build rfl rfl pl28 zc28 rfl rfl) rfl rfl (by decide) ?_
                      refine TrOps.storeb rfl rfl rfl rfl rfl rfl rfl vs28 (by first | decide | simp) ?_
                      refine TrOps.nil ?_
                      refine At.seq ?_
                      refine Tr.ret ?_
                      refine At.block_ret ?_
                      refine At.block_ret ?_
                      refine At.pass_ret ?_
                      refine At.pass_ret ?_
                      refine At.block_ret ?_
                      refine At.pass_ret ?_
                      exact At.ret rfl (.cellN rfl rfl vs28 <| .nil) rfl (Le.flt (absFault_5 h1 h2 h3 hk hinv (arcFault_3 (fun h => by have := h.2; simp at c52; omega)) (by decide)))
                    · have h4 : arcIn a (nth a.arcs k) := by simp at c60 c69 c52; exact ⟨by omega, by omega, by omega⟩
                      refine Tr.seq ?_
                      refine PC.start [] ?_
                      refine PC.sem (OpSem.move (.inl rfl) rfl) rfl rfl ?_
                      refine PC.sem (OpSem.bin rfl rfl rfl bgtr) rfl rfl ?_
                      refine PC.sem (OpSem.move (.inl rfl) rfl) rfl rfl ?_
                      refine PC.split (n := 83) rfl (fun c83 => ?_) (fun c83 => ?_)
                      · have hkp : 0 < k := by simp at c83; omega
                        refine PC.gT (OpSem.fieldr rfl rfl fo25_2) rfl rfl rfl rfl c83 rfl ?_
                        refine PC.gT (OpSem.loadb1 rfl rfl rfl vs22 rfl) rfl rfl rfl rfl c83 rfl ?_
                        refine PC.gT (OpSem.move (.inl rfl) rfl) rfl rfl rfl rfl c83 rfl ?_
                        refine PC.gT (OpSem.bin rfl rfl rfl (bsub (by omega) (by omega))) rfl rfl rfl rfl c83 rfl ?_
                        refine PC.gT (OpSem.idxL rfl rfl rfl es22 (by omega) (by omega)) rfl rfl rfl rfl c83 rfl ?_
                        refine PC.gT (OpSem.loadN rfl rfl vs57 (by first | decide | simp) rfl) rfl rfl rfl rfl c83 rfl ?_
                        refine PC.gT (OpSem.loadbN rfl rfl rfl vs57 (by first | decide | simp)) rfl rfl rfl rfl c83 rfl ?_
                        refine PC.done0 mixed (by kernel_rfl) (by kernel_rfl) (by kernel_rfl) (by kernel_rfl) (by kernel_rfl) ?_
                        refine TrOps.gT rfl rfl rfl rfl c83 ?_
                        refine TrOps.sem (OpSem.call0 (abstraction_Compare_does (nth a.arcs (k - 1 : Int)) (nth a.arcs k)) rfl rfl rfl rfl (Les.refl _)) rfl rfl (by decide) ?_
                        refine TrOps.gT rfl rfl rfl rfl c83 ?_
                        refine TrOps.sem (OpSem.bin rfl rfl rfl bgeq) rfl rfl (by decide) ?_
                        refine TrOps.sem (OpSem.pickT rfl rfl c83 rfl) rfl rfl (by decide) ?_
                        refine TrOps.sem (OpSem.move (.inr rfl) rfl) rfl rfl (by decide) ?_
                        refine TrOps.nil ?_
                        refine At.seq ?_
                        refine Tr.cond rfl (fun c80 => ?_) (fun c80 => ?_)
                        · refine Tr.seq ?_
                          refine Tr.region ?_
                          refine TrOps.sem (OpSem.move (.inl rfl) rfl) rfl rfl (by decide) ?_
                          refine TrOps.sem (OpSem.build rfl rfl pl28 zc28 rfl rfl) rfl rfl (by decide) ?_
                          refine TrOps.storeb rfl rfl rfl rfl rfl rfl rfl vs28 (by first | decide | simp) ?_
                          refine TrOps.nil ?_
                          refine At.seq ?_
                          refine Tr.ret ?_
                          refine At.block_ret ?_
                          refine At.block_ret ?_
                          refine At.pass_ret ?_
                          refine At.pass_ret ?_
                          refine At.block_ret ?_
                          refine At.pass_ret ?_
                          exact At.ret rfl (.cellN rfl rfl vs28 <| .nil) rfl (Le.flt (absFault_5 h1 h2 h3 hk hinv (arcFault_5 h4 ⟨hkp, cmpArc_ge.1 (by simpa using c80)⟩) (by decide)))
                        · have hb := arcFault_0 h4 (fun h => h.2 (cmpArc_lt.1 (by simpa using c80)))
                          refine Tr.skip ?_
                          refine At.block_normal ?_
                          refine At.block_normal ?_
                          refine At.seq ?_
                          refine Tr.region ?_
                          refine TrOps.sem (OpSem.bin rfl rfl rfl (badd (by omega) (by omega))) rfl rfl (by decide) ?_
                          refine TrOps.sem (OpSem.move (.inl rfl) rfl) rfl rfl (by decide) ?_
                          refine TrOps.nil ?_
                          refine At.again (k + 1) ⟨by omega, all_succ hinv hb⟩ ?_ (by omega)
                          exact .slot rfl (.refl _) <| .slot rfl (.refl _) <| .slot rfl (.refl _) <| .slot rfl (.refl _) <| .slot rfl (.refl _) <| .slot rfl (Le.of_eq (by simp)) <| .mem rfl <| .mem rfl <| .nil
                      · have hb := arcFault_0 h4 (fun h => by simp at c83; omega)
                        refine PC.gF rfl rfl rfl rfl c83 rfl ?_
                        refine PC.gF rfl rfl rfl rfl c83 rfl ?_
                        refine PC.gF rfl rfl rfl rfl c83 rfl ?_
                        refine PC.gF rfl rfl rfl rfl c83 rfl ?_
                        refine PC.gF rfl rfl rfl rfl c83 rfl ?_
                        refine PC.gF rfl rfl rfl rfl c83 rfl ?_
                        refine PC.gF rfl rfl rfl rfl c83 rfl ?_
                        refine PC.done0 mixed (by kernel_rfl) (by kernel_rfl) (by kernel_rfl) (by kernel_rfl) (by kernel_rfl) ?_
                        refine TrOps.gF rfl rfl rfl rfl c83 rfl (by decide) ?_
                        refine TrOps.gF rfl rfl rfl rfl c83 rfl (by decide) ?_
                        refine TrOps.sem (OpSem.pickF rfl rfl c83 rfl) rfl rfl (by decide) ?_
                        refine TrOps.sem (OpSem.move (.inr rfl) rfl) rfl rfl (by decide) ?_
                        refine TrOps.nil ?_
                        refine At.seq ?_
                        refine Tr.condF rfl rfl ?_
                        refine Tr.skip ?_
                        refine At.block_normal ?_
                        refine At.block_normal ?_
                        refine At.seq ?_
                        refine Tr.region ?_
                        refine TrOps.sem (OpSem.bin rfl rfl rfl (badd (by omega) (by omega))) rfl rfl (by decide) ?_
                        refine TrOps.sem (OpSem.move (.inl rfl) rfl) rfl rfl (by decide) ?_
                        refine TrOps.nil ?_
                        refine At.again (k + 1) ⟨by omega, all_succ hinv hb⟩ ?_ (by omega)
                        exact .slot rfl (.refl _) <| .slot rfl (.refl _) <| .slot rfl (.refl _) <| .slot rfl (.refl _) <| .slot rfl (.refl _) <| .slot rfl (Le.of_eq (by simp)) <| .mem rfl <| .mem rfl <| .nil
              · have hk : k = a.arcs.length := by simp at c48; omega
                refine Tr.exit ?_
                refine At.pass_exit ?_
                refine At.pass_exit ?_
                refine At.block_same ?_
                refine At.seq ?_
                refine Tr.seq ?_
                refine Tr.region ?_
                refine TrOps.sem (OpSem.build rfl rfl pl28 zc28 rfl rfl) rfl rfl (by decide) ?_
                refine TrOps.storeb rfl rfl rfl rfl rfl rfl rfl vs28 (by first | decide | simp) ?_
                refine TrOps.nil ?_
                refine At.seq ?_
                refine Tr.ret ?_
                exact At.ret rfl (.cellN rfl rfl vs28 <| .nil) rfl (Le.flt (by subst hk; exact absFault_0 h1 h2 h3 hinv))

theorem abstraction_Costs_1_does (x : Int) : Does Try.prog false 53 [I (x)] (Bo (decide (x < 0 ∨ 1000000 < x))) := by
  refine Does.of_body Try.func53 rfl rfl (by simp) Try.call53 (fun w0 O0 => ?_)
  refine Tr.seq ?_
  refine Tr.region ?_
  refine TrOps.sem (OpSem.move (.inr rfl) rfl) rfl rfl (by decide) ?_
  refine TrOps.nil ?_
  refine At.seq ?_
  refine Tr.seq ?_
  refine Tr.region ?_
  refine TrOps.sem (OpSem.move (.inl rfl) rfl) rfl rfl (by decide) ?_
  refine TrOps.sem (OpSem.bin rfl rfl rfl blss) rfl rfl (by decide) ?_
  refine TrOps.sem (OpSem.move (.inl rfl) rfl) rfl rfl (by decide) ?_
  refine TrOps.split (n := 5) rfl (fun c5 => ?_) (fun c5 => ?_)
  · refine TrOps.gF rfl rfl rfl rfl c5 rfl (by decide) ?_
    refine TrOps.gF rfl rfl rfl rfl c5 rfl (by decide) ?_
    refine TrOps.sem (OpSem.pickT rfl rfl c5 rfl) rfl rfl (by decide) ?_
    refine TrOps.sem (OpSem.move (.inr rfl) rfl) rfl rfl (by decide) ?_
    refine TrOps.nil ?_
    refine At.seq ?_
    refine Tr.ret ?_
    exact At.ret rfl (.tmp rfl <| .nil) rfl (Le.bo (by simp at *; omega))
  · refine TrOps.gT rfl rfl rfl rfl c5 ?_
    refine TrOps.sem (OpSem.move (.inl rfl) rfl) rfl rfl (by decide) ?_
    refine TrOps.gT rfl rfl rfl rfl c5 ?_
    refine TrOps.sem (OpSem.bin rfl rfl rfl bgtr) rfl rfl (by decide) ?_
    refine TrOps.sem (OpSem.pickF rfl rfl c5 rfl) rfl rfl (by decide) ?_
    refine TrOps.sem (OpSem.move (.inr rfl) rfl) rfl rfl (by decide) ?_
    refine TrOps.nil ?_
    refine At.seq ?_
    refine Tr.ret ?_
    exact At.ret rfl (.tmp rfl <| .nil) rfl (Le.bo (by simp at *; omega))

theorem abstraction_Costs_does (c : List Int) (n i : Int) : Does Try.prog false 37 [.d (ints c), I (n), I (i)] (flt (costFault c n i)) := by
  refine Does.of_body Try.func37 rfl rfl (by simp) Try.call37 (fun w0 O0 => ?_)
  refine Tr.lenLe (n := 0) rfl (fun len0 => ?_)
  refine Tr.seq ?_
  refine Tr.region ?_
  refine TrOps.semM (OpSem.alloc 6 rfl zc28 rfl) rfl rfl (by decide) ?_
  refine TrOps.nil ?_
  refine At.seq ?_
  refine Tr.seq ?_
  refine Tr.seq ?_
  refine Tr.region ?_
  refine TrOps.sem (OpSem.move (.inl rfl) rfl) rfl rfl (by decide) ?_
  refine TrOps.sem (OpSem.lenL rfl rfl es23) rfl rfl (by decide) ?_
  refine TrOps.sem (OpSem.move (.inl rfl) rfl) rfl rfl (by decide) ?_
  refine TrOps.sem (OpSem.bin rfl rfl rfl bneq) rfl rfl (by decide) ?_
  refine TrOps.nil ?_
  refine At.seq ?_
  refine Tr.cond rfl (fun c10 => ?_) (fun c10 => ?_)
  · refine Tr.seq ?_
    refine Tr.region ?_
    refine TrOps.sem (OpSem.move (.inl rfl) rfl) rfl rfl (by decide) ?_
    refine TrOps.sem (OpSem.build rfl rfl pl28 zc28 rfl rfl) rfl rfl (by decide) ?_
    refine TrOps.storeb rfl rfl rfl rfl rfl rfl rfl vs28 (by first | decide | simp) ?_
    refine TrOps.nil ?_
    refine At.seq ?_
    refine Tr.ret ?_
    refine At.pass_ret ?_
    exact At.ret rfl (.cellN rfl rfl vs28 <| .nil) rfl (Le.flt (costFault_bad (costCode_9 (by simpa using c10)) (by decide)))
  · have hl : (c.length : Int) = n := by simpa using c10
    refine Tr.skip ?_
    refine At.seq ?_
    refine Tr.seq ?_
    refine Tr.seq ?_
    refine Tr.region ?_
    refine TrOps.sem (OpSem.move (.inl rfl) rfl) rfl rfl (by decide) ?_
    refine TrOps.sem (OpSem.call0 (slices_ContainsFunc_int_int_does c 53 [] (fun x => decide (x < 0 ∨ 1000000 < x)) (fun n hn => rfl) (fun x _ => abstraction_Costs_1_does x)) rfl rfl rfl rfl (Les.refl _)) rfl rfl (by decide) ?_
    refine TrOps.nil ?_
    refine At.seq ?_
    refine Tr.cond rfl (fun c14 => ?_) (fun c14 => ?_)
    · refine Tr.seq ?_
      refine Tr.region ?_
      refine TrOps.sem (OpSem.move (.inl rfl) rfl) rfl rfl (by decide) ?_
      refine TrOps.sem (OpSem.build rfl rfl pl28 zc28 rfl rfl) rfl rfl (by decide) ?_
      refine TrOps.storeb rfl rfl rfl rfl rfl rfl rfl vs28 (by first | decide | simp) ?_
      refine TrOps.nil ?_
      refine At.seq ?_
      refine Tr.ret ?_
      refine At.pass_ret ?_
      exact At.ret rfl (.cellN rfl rfl vs28 <| .nil) rfl (Le.flt (costFault_bad (costCode_3 hl (costs_any' c14)) (by decide)))
    · refine Tr.skip ?_
      refine At.seq ?_
      refine Tr.seq ?_
      refine Tr.region ?_
      refine TrOps.sem (OpSem.build rfl rfl pl28 zc28 rfl rfl) rfl rfl (by decide) ?_
      refine TrOps.storeb rfl rfl rfl rfl rfl rfl rfl vs28 (by first | decide | simp) ?_
      refine TrOps.nil ?_
      refine At.seq ?_
      refine Tr.ret ?_
      exact At.ret rfl (.cellN rfl rfl vs28 <| .nil) rfl (Le.flt (costFault_ok (costCode_0 hl (costs_any c14))))

theorem abstraction_From_does (a : Abs) (c : List Int) (ha : AbsOk a) (hc : CostFor a c) : DoesO Try.prog 38 [absS a, .d (ints c)] 1 3 (((distL a c).map fun n => [D.v (.int .i64 n)])) := by
  have hn := nS_eq ha
  have hE := edgesOk ha hc
  have hG := initG_good (a := a)
  have hcl := hc.1
  refine DoesO.of_body Try.func38 rfl rfl (by simp) Try.call38 (fun w0 O0 => ?_)
  refine Tr.lenG (n := 0) (i := 2) rfl rfl (fun len0_2 => ?_)
  refine Tr.lenG (n := 0) (i := 4) rfl rfl (fun len0_4 => ?_)
  refine Tr.lenLe (n := 1) rfl (fun len1 => ?_)
  refine Tr.seq ?_
  refine Tr.region ?_
  refine TrOps.semM (OpSem.box 2 rfl rfl rfl rfl) rfl rfl (by decide) ?_
  refine TrOps.sem (OpSem.move (.inr rfl) rfl) rfl rfl (by decide) ?_
  refine TrOps.nil ?_
  refine At.seq ?_
  refine Tr.seq ?_
  refine Tr.region ?_
  refine TrOps.sem (OpSem.buildSlice rfl rfl es23 ze23 rfl rfl (by decide) (by decide) rfl rfl) rfl rfl (by decide) ?_
  refine TrOps.sem (OpSem.fieldr rfl rfl fo25_0) rfl rfl (by decide) ?_
  refine TrOps.sem (OpSem.loadb1 rfl rfl rfl vs3 rfl) rfl rfl (by decide) ?_
  refine TrOps.semM (OpSem.callO 15 (slices_Repeat_int_int_does 1000000000 a.states (by omega) (by omega)) rfl rfl rfl rfl (Les.refl _)) rfl rfl (by decide) ?_
  refine TrOps.sem (OpSem.move (.inr rfl) rfl) rfl rfl (by decide) ?_
  refine TrOps.nil ?_
  refine At.seq ?_
  refine Tr.seq ?_
  refine Tr.seq ?_
  refine Tr.region ?_
  refine TrOps.sem (OpSem.fieldr rfl rfl fo25_4) rfl rfl (by decide) ?_
  refine TrOps.sem (OpSem.loadb1 rfl rfl rfl vs23 rfl) rfl rfl (by decide) ?_
  refine TrOps.sem (OpSem.lenL rfl rfl es23) rfl rfl (by decide) ?_
  refine TrOps.sem (OpSem.move (.inl rfl) rfl) rfl rfl (by decide) ?_
  refine TrOps.nil ?_
  refine At.seq ?_
  refine Tr.block ?_
  refine Tr.loop (X := Nat) (fun k => k ≤ a.goals.length) (fun k => [(1, .d (ints c)), (2, .r 2 0), (5, .o 15), (17, .d (ints a.goals)), (18, I (a.goals.length)), (19, I (k))]) (fun k => [(15, .own 1 3 ((goalSet a k).map fun n => [D.v (.int .i64 n)])), (2, .box [I (a.states), I (a.labels), .d (arcsD a.arcs), I (a.init), .d (ints a.goals)])]) (fun k => a.goals.length - k) 0 (by omega) ?_ ?_
  · exact .slot rfl (.refl _) <| .slot rfl (.refl _) <| .slot rfl (.refl _) <| .slot rfl (.refl _) <| .slot rfl (.refl _) <| .slot rfl (Le.of_eq (by simp)) <| .memEq rfl rfl <| .mem rfl <| .nil
  · rintro k hkl
    refine Tr.seq ?_
    refine Tr.region ?_
    refine TrOps.sem (OpSem.bin rfl rfl rfl blss) rfl rfl (by decide) ?_
    refine TrOps.nil ?_
    refine At.seq ?_
    refine Tr.seq ?_
    refine Tr.cond rfl (fun c20 => ?_) (fun c20 => ?_)
    · have hk : k < a.goals.length := by simpa using c20
      have hgk := ha.goals k hk
      have hgl := goalSet_len (a := a) (k := k)
      refine Tr.skip ?_
      refine At.seq ?_
      refine Tr.seq ?_
      refine Tr.block ?_
      refine Tr.seq ?_
      refine Tr.region ?_
      refine TrOps.sem (OpSem.idxL rfl rfl rfl es23 (by omega) (by omega)) rfl rfl (by decide) ?_
      refine TrOps.sem (OpSem.load1 rfl rfl vs3 rfl) rfl rfl (by decide) ?_
      refine TrOps.sem (OpSem.move (.inr rfl) rfl) rfl rfl (by decide) ?_
      refine TrOps.nil ?_
      refine At.seq ?_
      refine Tr.region ?_
      refine TrOps.sem (OpSem.move (.inl rfl) rfl) rfl rfl (by decide) ?_
      refine TrOps.sem (OpSem.move (.inl rfl) rfl) rfl rfl (by decide) ?_
      refine TrOps.sem (OpSem.idxo rfl rfl rfl rfl es23 (by omega) (by simp; omega)) rfl rfl (by decide) ?_
      refine TrOps.storeq rfl rfl rfl rfl rfl rfl rfl vs3 (rows_get (by omega) (by omega)) (by simp) ?_
      refine TrOps.nil ?_
      refine At.block_normal ?_
      refine At.seq ?_
      refine Tr.region ?_
      refine TrOps.sem (OpSem.bin rfl rfl rfl (badd (by omega) (by omega))) rfl rfl (by decide) ?_
      refine TrOps.sem (OpSem.move (.inl rfl) rfl) rfl rfl (by decide) ?_
      refine TrOps.nil ?_
      refine At.again (k + 1) (by omega) ?_ (by omega)
      exact .slot rfl (.refl _) <| .slot rfl (.refl _) <| .slot rfl (.refl _) <| .slot rfl (.refl _) <| .slot rfl (.refl _) <| .slot rfl (Le.of_eq (by simp)) <| .memEq rfl (congrArg (Mo.own 1 3) (rows_set (f := fun n => [D.v (.int .i64 n)]))) <| .mem rfl <| .nil
    · have hk : k = a.goals.length := by simp at c20; omega
      refine Tr.exit ?_
      refine At.pass_exit ?_
      refine At.pass_exit ?_
      refine At.block_same ?_
      refine At.seq ?_
      refine Tr.seq ?_
      refine Tr.seq ?_
      refine Tr.region ?_
      refine TrOps.sem (OpSem.move (.inr rfl) rfl) rfl rfl (by decide) ?_
      refine TrOps.nil ?_
      refine At.seq ?_
      refine Tr.block ?_
      refine Tr.loop (X := Nat) (fun j => True) (fun j => [(1, .d (ints c)), (2, .r 2 0), (5, .o 15), (8, Bo (flagE (edgesOf a c) (initG a) j))]) (fun j => [(15, .own 1 3 ((itE (edgesOf a c) (initG a) j).map fun n => [D.v (.int .i64 n)])), (2, .box [I (a.states), I (a.labels), .d (arcsD a.arcs), I (a.init), .d (ints a.goals)])]) (fun j => (itE (edgesOf a c) (initG a) j).sum.toNat + (if flagE (edgesOf a c) (initG a) j = true then 1 else 0)) 0 trivial ?_ ?_
      · exact .slot rfl (.refl _) <| .slot rfl (.refl _) <| .slot rfl (.refl _) <| .slot rfl (.refl _) <| .memEq rfl (by rw [hk, goalSet_end ha.goals]; rfl) <| .mem rfl <| .nil
      · rintro j _
        refine Tr.seq ?_
        refine Tr.seq ?_
        refine Tr.region ?_
        refine TrOps.sem (OpSem.move (.inl rfl) rfl) rfl rfl (by decide) ?_
        refine TrOps.nil ?_
        refine At.seq ?_
        refine Tr.cond rfl (fun c27 => ?_) (fun c27 => ?_)
        · refine Tr.skip ?_
          refine At.seq ?_
          refine Tr.block ?_
          refine Tr.seq ?_
          refine Tr.region ?_
          refine TrOps.sem (OpSem.move (.inr rfl) rfl) rfl rfl (by decide) ?_
          refine TrOps.nil ?_
          refine At.seq ?_
          refine Tr.seq ?_
          refine Tr.region ?_
          refine TrOps.sem (OpSem.fieldr rfl rfl fo25_2) rfl rfl (by decide) ?_
          refine TrOps.sem (OpSem.loadb1 rfl rfl rfl vs22 rfl) rfl rfl (by decide) ?_
          refine TrOps.sem (OpSem.lenL rfl rfl es22) rfl rfl (by decide) ?_
          refine TrOps.sem (OpSem.move (.inl rfl) rfl) rfl rfl (by decide) ?_
          refine TrOps.nil ?_
          refine At.seq ?_
          refine Tr.block ?_
          refine Tr.loop (X := Nat) (fun i => i ≤ a.arcs.length) (fun i => [(1, .d (ints c)), (2, .r 2 0), (5, .o 15), (8, Bo ((roundTo (edgesOf a c) (itE (edgesOf a c) (initG a) j) i).2)), (29, .d (arcsD a.arcs)), (30, I (a.arcs.length)), (31, I (i))]) (fun i => [(15, .own 1 3 (((roundTo (edgesOf a c) (itE (edgesOf a c) (initG a) j) i).1).map fun n => [D.v (.int .i64 n)])), (2, .box [I (a.states), I (a.labels), .d (arcsD a.arcs), I (a.init), .d (ints a.goals)])]) (fun i => a.arcs.length - i) 0 (by omega) ?_ ?_
          · exact .slot rfl (.refl _) <| .slot rfl (.refl _) <| .slot rfl (.refl _) <| .slot rfl (.refl _) <| .slot rfl (.refl _) <| .slot rfl (.refl _) <| .slot rfl (Le.of_eq (by simp)) <| .memEq rfl rfl <| .mem rfl <| .nil
          · rintro i hil
            have hgr := roundTo_good hE (itE_good hE hG j) (k := i) (by rw [edgesOf_len]; exact hil)
            refine Tr.seq ?_
            refine Tr.region ?_
            refine TrOps.sem (OpSem.bin rfl rfl rfl blss) rfl rfl (by decide) ?_
            refine TrOps.nil ?_
            refine At.seq ?_
            refine Tr.seq ?_
            refine Tr.cond rfl (fun c32 => ?_) (fun c32 => ?_)
            · have hi : i < a.arcs.length := by simpa using c32
              have har := ha.arc i hi
              have hw := cost_at hc har.2.1.1 har.2.1.2
              have he := edgesOf_at (c := c) hi
              have hv1 := hgr.2 _ har.2.2.1 (by omega)
              have hv2 := hgr.2 _ har.1.1 (by omega)
              have hrl := hgr.1
              refine Tr.skip ?_
              refine At.seq ?_
              refine Tr.seq ?_
              refine Tr.block ?_
              refine Tr.seq ?_
              refine Tr.region ?_
              refine TrOps.sem (OpSem.idxL rfl rfl rfl es22 (by omega) (by omega)) rfl rfl (by decide) ?_
              refine TrOps.sem (OpSem.loadN rfl rfl vs57 (by first | decide | simp) rfl) rfl rfl (by decide) ?_
              refine TrOps.semM (OpSem.alloc 10 rfl zc57 rfl) rfl rfl (by decide) ?_
              refine TrOps.storeb rfl rfl rfl rfl rfl rfl rfl vs57 (by first | decide | simp) ?_
              refine TrOps.nil ?_
              refine At.seq ?_
              refine Tr.seq ?_
              refine Tr.region ?_
              refine TrOps.sem (OpSem.move (.inl rfl) rfl) rfl rfl (by decide) ?_
              refine TrOps.sem (OpSem.fieldr rfl rfl fo57_2) rfl rfl (by decide) ?_
              refine TrOps.sem (OpSem.loadb1 rfl rfl rfl vs3 rfl) rfl rfl (by decide) ?_
              refine TrOps.sem (OpSem.idxo rfl rfl rfl rfl es23 (by omega) (by simp; omega)) rfl rfl (by decide) ?_
              refine TrOps.sem (OpSem.loadq rfl rfl rfl vs3 (rows_get (by omega) (by omega)) rfl) rfl rfl (by decide) ?_
              refine TrOps.sem (OpSem.move (.inr rfl) rfl) rfl rfl (by decide) ?_
              refine TrOps.nil ?_
              refine At.seq ?_
              refine Tr.seq ?_
              refine PC.start [] ?_
              refine PC.sem (OpSem.move (.inl rfl) rfl) rfl rfl ?_
              refine PC.sem (OpSem.bin rfl rfl rfl bneq) rfl rfl ?_
              refine PC.sem (OpSem.move (.inl rfl) rfl) rfl rfl ?_
              refine PC.split (n := 42) rfl (fun c42 => ?_) (fun c42 => ?_)
              · refine PC.gT (OpSem.move (.inl rfl) rfl) rfl rfl rfl rfl c42 rfl ?_
                refine PC.gT (OpSem.move (.inl rfl) rfl) rfl rfl rfl rfl c42 rfl ?_
                refine PC.gT (OpSem.fieldr rfl rfl fo57_1) rfl rfl rfl rfl c42 rfl ?_
                refine PC.gT (OpSem.loadb1 rfl rfl rfl vs3 rfl) rfl rfl rfl rfl c42 rfl ?_
                refine PC.gT (OpSem.idxL rfl rfl rfl es23 (by omega) (by omega)) rfl rfl rfl rfl c42 rfl ?_
                refine PC.gT (OpSem.load1 rfl rfl vs3 rfl) rfl rfl rfl rfl c42 rfl ?_
                refine PC.gT (OpSem.bin rfl rfl rfl (badd (by omega) (by omega))) rfl rfl rfl rfl c42 rfl ?_
                refine PC.gT (OpSem.move (.inl rfl) rfl) rfl rfl rfl rfl c42 rfl ?_
                refine PC.gT (OpSem.fieldr rfl rfl fo57_0) rfl rfl rfl rfl c42 rfl ?_
                refine PC.gT (OpSem.loadb1 rfl rfl rfl vs3 rfl) rfl rfl rfl rfl c42 rfl ?_
                refine PC.gT (OpSem.idxo rfl rfl rfl rfl es23 (by omega) (by simp; omega)) rfl rfl rfl rfl c42 rfl ?_
                refine PC.gT (OpSem.loadq rfl rfl rfl vs3 (rows_get (by omega) (by omega)) rfl) rfl rfl rfl rfl c42 rfl ?_
                refine PC.done0 mixed (by kernel_rfl) (by kernel_rfl) (by kernel_rfl) (by kernel_rfl) (by kernel_rfl) ?_
                refine TrOps.gT rfl rfl rfl rfl c42 ?_
                refine TrOps.sem (OpSem.bin rfl rfl rfl blss) rfl rfl (by decide) ?_
                refine TrOps.sem (OpSem.pickT rfl rfl c42 rfl) rfl rfl (by decide) ?_
                refine TrOps.nil ?_
                refine At.seq ?_
                refine Tr.cond rfl (fun c56 => ?_) (fun c56 => ?_)
                · refine PC.start [] ?_
                  refine PC.sem (OpSem.move (.inl rfl) rfl) rfl rfl ?_
                  refine PC.sem (OpSem.fieldr rfl rfl fo57_0) rfl rfl ?_
                  refine PC.sem (OpSem.loadb1 rfl rfl rfl vs3 rfl) rfl rfl ?_
                  refine PC.sem (OpSem.move (.inl rfl) rfl) rfl rfl ?_
                  refine PC.sem (OpSem.move (.inl rfl) rfl) rfl rfl ?_
                  refine PC.sem (OpSem.fieldr rfl rfl fo57_1) rfl rfl ?_
                  refine PC.sem (OpSem.loadb1 rfl rfl rfl vs3 rfl) rfl rfl ?_
                  refine PC.sem (OpSem.idxL rfl rfl rfl es23 (by omega) (by omega)) rfl rfl ?_
                  refine PC.sem (OpSem.load1 rfl rfl vs3 rfl) rfl rfl ?_
                  refine PC.sem (OpSem.bin rfl rfl rfl (badd (by omega) (by omega))) rfl rfl ?_
                  refine PC.done0 mixed (by kernel_rfl) (by kernel_rfl) (by kernel_rfl) (by kernel_rfl) (by kernel_rfl) ?_
                  refine TrOps.sem (OpSem.idxo rfl rfl rfl rfl es23 (by omega) (by simp; omega)) rfl rfl (by decide) ?_
                  refine TrOps.storeq rfl rfl rfl rfl rfl rfl rfl vs3 (rows_get (by omega) (by omega)) (by simp) ?_
                  refine TrOps.sem (OpSem.move (.inr rfl) rfl) rfl rfl (by decide) ?_
                  refine TrOps.nil ?_
                  refine At.block_normal ?_
                  refine At.seq ?_
                  refine Tr.region ?_
                  refine TrOps.sem (OpSem.bin rfl rfl rfl (badd (by omega) (by omega))) rfl rfl (by decide) ?_
                  refine TrOps.sem (OpSem.move (.inl rfl) rfl) rfl rfl (by decide) ?_
                  refine TrOps.nil ?_
                  have hS : roundTo (edgesOf a c) (itE (edgesOf a c) (initG a) j) (i + 1) = _ := (congrArg (stepE _) he).trans (stepE_1 (by simp at c42; simp only; omega) (by simpa using c56))
                  refine At.again (i + 1) (by omega) ?_ (by omega)
                  exact .slot rfl (.refl _) <| .slot rfl (.refl _) <| .slot rfl (.refl _) <| .slot rfl (Le.bo (by rw [hS])) <| .slot rfl (.refl _) <| .slot rfl (.refl _) <| .slot rfl (Le.of_eq (by simp)) <| .memEq rfl (by rw [hS]; exact congrArg (Mo.own 1 3) (rows_set (f := fun n => [D.v (.int .i64 n)]))) <| .mem rfl <| .nil
                · refine Tr.skip ?_
                  refine At.block_normal ?_
                  refine At.seq ?_
                  refine Tr.region ?_
                  refine TrOps.sem (OpSem.bin rfl rfl rfl (badd (by omega) (by omega))) rfl rfl (by decide) ?_
                  refine TrOps.sem (OpSem.move (.inl rfl) rfl) rfl rfl (by decide) ?_
                  refine TrOps.nil ?_
                  have hS : roundTo (edgesOf a c) (itE (edgesOf a c) (initG a) j) (i + 1) = _ := (congrArg (stepE _) he).trans (stepE_2 (fun h => by have := h.2; simp at c56; simp only at this; omega))
                  refine At.again (i + 1) (by omega) ?_ (by omega)
                  exact .slot rfl (.refl _) <| .slot rfl (.refl _) <| .slot rfl (.refl _) <| .slot rfl (Le.bo (by rw [hS])) <| .slot rfl (.refl _) <| .slot rfl (.refl _) <| .slot rfl (Le.of_eq (by simp)) <| .memEq rfl (by rw [hS] <;> rfl) <| .mem rfl <| .nil
              · refine PC.gF rfl rfl rfl rfl c42 rfl ?_
                refine PC.gF rfl rfl rfl rfl c42 rfl ?_
                refine PC.gF rfl rfl rfl rfl c42 rfl ?_
                refine PC.gF rfl rfl rfl rfl c42 rfl ?_
                refine PC.gF rfl rfl rfl rfl c42 rfl ?_
                refine PC.gF rfl rfl rfl rfl c42 rfl ?_
                refine PC.gF rfl rfl rfl rfl c42 rfl ?_
                refine PC.gF rfl rfl rfl rfl c42 rfl ?_
                refine PC.gF rfl rfl rfl rfl c42 rfl ?_
                refine PC.gF rfl rfl rfl rfl c42 rfl ?_
                refine PC.gF rfl rfl rfl rfl c42 rfl ?_
                refine PC.gF rfl rfl rfl rfl c42 rfl ?_
                refine PC.done0 mixed (by kernel_rfl) (by kernel_rfl) (by kernel_rfl) (by kernel_rfl) (by kernel_rfl) ?_
                refine TrOps.gF rfl rfl rfl rfl c42 rfl (by decide) ?_
                refine TrOps.sem (OpSem.pickF rfl rfl c42 rfl) rfl rfl (by decide) ?_
                refine TrOps.nil ?_
                refine At.seq ?_
                refine Tr.condF rfl rfl ?_
                refine Tr.skip ?_
                refine At.block_normal ?_
                refine At.seq ?_
                refine Tr.region ?_
                refine TrOps.sem (OpSem.bin rfl rfl rfl (badd (by omega) (by omega))) rfl rfl (by decide) ?_
                refine TrOps.sem (OpSem.move (.inl rfl) rfl) rfl rfl (by decide) ?_
                refine TrOps.nil ?_
                have hS : roundTo (edgesOf a c) (itE (edgesOf a c) (initG a) j) (i + 1) = _ := (congrArg (stepE _) he).trans (stepE_2 (fun h => by have := h.1; simp at c42; simp only at this; omega))
                refine At.again (i + 1) (by omega) ?_ (by omega)
                exact .slot rfl (.refl _) <| .slot rfl (.refl _) <| .slot rfl (.refl _) <| .slot rfl (Le.bo (by rw [hS])) <| .slot rfl (.refl _) <| .slot rfl (.refl _) <| .slot rfl (Le.of_eq (by simp)) <| .memEq rfl (by rw [hS] <;> rfl) <| .mem rfl <| .nil
            · have hi : i = a.arcs.length := by simp at c32; omega
              subst hi
              refine Tr.exit ?_
              refine At.pass_exit ?_
              refine At.pass_exit ?_
              refine At.block_same ?_
              refine At.block_normal ?_
              have hEl := edgesOf_len (a := a) (c := c)
              refine At.again (j + 1) trivial ?_ (flagE_lt hE hG c27)
              exact .slot rfl (.refl _) <| .slot rfl (.refl _) <| .slot rfl (.refl _) <| .slot rfl (Le.bo (by rw [← hEl]; rfl)) <| .memEq rfl (by rw [← hEl]; rfl) <| .mem rfl <| .nil
        · refine Tr.exit ?_
          refine At.pass_exit ?_
          refine At.pass_exit ?_
          refine At.block_same ?_
          refine At.seq ?_
          refine Tr.seq ?_
          refine Tr.region ?_
          refine TrOps.sem (OpSem.move (.inl rfl) rfl) rfl rfl (by decide) ?_
          refine TrOps.sem (OpSem.move (.inr rfl) rfl) rfl rfl (by decide) ?_
          refine TrOps.nil ?_
          refine At.seq ?_
          refine Tr.ret ?_
          exact At.retO2 rfl rfl rfl (by simp) (by rw [flagE_end hE hG c27]; rfl)

theorem abstraction_Distances_does (a : Abs) (c : List Int) (hr : -9223372036854775808 ≤ a.states ∧ a.states ≤ 9223372036854775807) : Does Try.prog false 20 [absS a, .d (ints c)] (.t [.d (ints (adR a c)), flt (adF a c)]) := by
  refine Does.of_body Try.func20 rfl rfl (by simp) Try.call20 (fun w0 O0 => ?_)
  refine Tr.lenG (n := 0) (i := 2) rfl rfl (fun len0_2 => ?_)
  refine Tr.lenG (n := 0) (i := 4) rfl rfl (fun len0_4 => ?_)
  refine Tr.lenLe (n := 1) rfl (fun len1 => ?_)
  refine Tr.seq ?_
  refine Tr.region ?_
  refine TrOps.semM (OpSem.box 2 rfl rfl rfl rfl) rfl rfl (by decide) ?_
  refine TrOps.sem (OpSem.move (.inr rfl) rfl) rfl rfl (by decide) ?_
  refine TrOps.semM (OpSem.alloc 5 rfl zc28 rfl) rfl rfl (by decide) ?_
  refine TrOps.nil ?_
  refine At.seq ?_
  refine Tr.seq ?_
  refine Tr.region ?_
  refine TrOps.sem (OpSem.loadbN rfl rfl rfl vs25 (by first | decide | simp)) rfl rfl (by decide) ?_
  refine TrOps.sem (OpSem.call0 (abstraction_Validate_does a hr) rfl rfl rfl rfl (Les.refl _)) rfl rfl (by decide) ?_
  refine TrOps.semM (OpSem.alloc 6 rfl zc28 rfl) rfl rfl (by decide) ?_
  refine TrOps.storeb rfl rfl rfl rfl rfl rfl rfl vs28 (by first | decide | simp) ?_
  refine TrOps.nil ?_
  refine At.seq ?_
  refine Tr.cut [(1, .d (ints c)), (2, .r 2 0), (4, .d (.v (.slice none 0 0))), (5, .r 5 0), (6, .r 6 0)] [(2, .box [I (a.states), I (a.labels), .d (arcsD a.arcs), I (a.init), .d (ints a.goals)]), (5, .box [I (0), I (0)]), (6, .box [I ((adF a c).1), I ((adF a c).2)])] ?_ ?_
  · refine Tr.seq ?_
    refine Tr.region ?_
    refine TrOps.sem (OpSem.loadbN rfl rfl rfl vs28 (by first | decide | simp)) rfl rfl (by decide) ?_
    refine TrOps.sem (OpSem.build rfl rfl pl28 zc28 rfl rfl) rfl rfl (by decide) ?_
    refine TrOps.sem (OpSem.eqS2 rfl rfl rfl io28) rfl rfl (by decide) ?_
    refine TrOps.nil ?_
    refine At.seq ?_
    refine Tr.cond rfl (fun c11 => ?_) (fun c11 => ?_)
    · refine Tr.region ?_
      refine TrOps.sem (OpSem.move (.inl rfl) rfl) rfl rfl (by decide) ?_
      refine TrOps.sem (OpSem.fieldr rfl rfl fo25_1) rfl rfl (by decide) ?_
      refine TrOps.sem (OpSem.loadb1 rfl rfl rfl vs3 rfl) rfl rfl (by decide) ?_
      refine TrOps.sem (OpSem.call0 (abstraction_Costs_does ..) rfl rfl rfl rfl (Les.refl _)) rfl rfl (by decide) ?_
      refine TrOps.storeb rfl rfl rfl rfl rfl rfl rfl vs28 (by first | decide | simp) ?_
      refine TrOps.nil ?_
      have he := adF_1 (c := c) (pair0 (f := absFault a) (by simpa using c11))
      refine At.meet ?_
      exact .slot rfl (.refl _) <| .slot rfl (.refl _) <| .slot rfl (.refl _) <| .slot rfl (.refl _) <| .slot rfl (.refl _) <| .mem rfl <| .mem rfl <| .boxLe rfl (.cons (Le.i (congrArg Prod.fst (he))) <| .cons (Le.i (congrArg Prod.snd (he))) <| .nil) <| .nil
    · refine Tr.skip ?_
      have he := adF_2 (a := a) (c := c) (fun h => by simp [h] at c11)
      refine At.meet ?_
      exact .slot rfl (.refl _) <| .slot rfl (.refl _) <| .slot rfl (.refl _) <| .slot rfl (.refl _) <| .slot rfl (.refl _) <| .mem rfl <| .mem rfl <| .boxLe rfl (.cons (Le.i (congrArg Prod.fst (he))) <| .cons (Le.i (congrArg Prod.snd (he))) <| .nil) <| .nil
  · refine Tr.seq ?_
    refine Tr.seq ?_
    refine Tr.region ?_
    refine TrOps.sem (OpSem.loadbN rfl rfl rfl vs28 (by first | decide | simp)) rfl rfl (by decide) ?_
    refine TrOps.sem (OpSem.build rfl rfl pl28 zc28 rfl rfl) rfl rfl (by decide) ?_
    refine TrOps.sem (OpSem.neS2 rfl rfl rfl io28) rfl rfl (by decide) ?_
    refine TrOps.nil ?_
    refine At.seq ?_
    refine Tr.cond rfl (fun c18 => ?_) (fun c18 => ?_)
    · have h1 : adF a c ≠ (0, 0) := fun h => by simp [h] at c18
      refine Tr.seq ?_
      refine PC.start [] ?_
      refine PC.sem (OpSem.loadbN rfl rfl rfl vs28 (by first | decide | simp)) rfl rfl ?_
      refine PC.sem (OpSem.move (.inr rfl) rfl) rfl rfl ?_
      refine PC.done0 mixed (by kernel_rfl) (by kernel_rfl) (by kernel_rfl) (by kernel_rfl) (by kernel_rfl) ?_
      refine TrOps.storeb rfl rfl rfl rfl rfl rfl rfl vs28 (by first | decide | simp) ?_
      refine TrOps.nil ?_
      refine At.seq ?_
      refine Tr.ret ?_
      refine At.pass_ret ?_
      exact At.ret rfl (.tmp rfl <| .cellN rfl rfl vs28 <| .nil) rfl (Le.t (.cons (by rw [adR_1 h1]; exact Le.nil 1) <| .cons (.refl _) <| .nil))
    · have h1 : adF a c = (0, 0) := pair0 (by simpa using c18)
      obtain ⟨ha, hc, _, _⟩ := adF_ok (a := a) (c := c) (by rw [h1])
      refine Tr.skip ?_
      refine At.seq ?_
      refine Tr.seq ?_
      refine PC.start [] ?_
      refine PC.sem (OpSem.loadbN rfl rfl rfl vs25 (by first | decide | simp)) rfl rfl ?_
      refine PC.sem (OpSem.move (.inl rfl) rfl) rfl rfl ?_
      refine PC.sem (OpSem.call0 (abstraction_From_does a c ha hc).fresh rfl rfl rfl rfl (Les.refl _)) rfl rfl ?_
      refine PC.sem (OpSem.loadbN rfl rfl rfl vs28 (by first | decide | simp)) rfl rfl ?_
      refine PC.sem (OpSem.move (.inr rfl) rfl) rfl rfl ?_
      refine PC.done0 mixed (by kernel_rfl) (by kernel_rfl) (by kernel_rfl) (by kernel_rfl) (by kernel_rfl) ?_
      refine TrOps.storeb rfl rfl rfl rfl rfl rfl rfl vs28 (by first | decide | simp) ?_
      refine TrOps.nil ?_
      refine At.seq ?_
      refine Tr.ret ?_
      exact At.ret rfl (.tmp rfl <| .cellN rfl rfl vs28 <| .nil) rfl (Le.t (.cons (Le.d (by rw [adR_0 h1])) <| .cons (.refl _) <| .nil))

end Go.Proofs.Ythgcnfolgbaemaa
end
