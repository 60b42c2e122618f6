/- The engine and the walks that this claim uses, part 4. Written by prune.py out of our own texts. -/
import Derived.Test.YtohlmcebphcokaaB3
import Derived.Shelf.Lay
import Derived.Ground.SlsfProg
import Derived.WalkKit
import Derived.Deep.Cut
import Derived.Deep.RegionHeld3
import Derived.Deep.Draws
import Derived.Sort.Grow
section
/- Walks, written by gen.py out of hints. -/




set_option linter.unusedVariables false
set_option linter.unusedSimpArgs false
namespace Go.Proofs.Ytohlmcebphcokaa
open Go.Eng
set_option maxRecDepth 10000
set_option maxHeartbeats 1000000

theorem slices_Equal_2_int_2_int_does (s t : List Asg) : Does Try.prog false 101 [.d (asgs s), .d (asgs t)] (Bo (decide (s = t))) := by
  refine Does.of_body Try.func101 rfl rfl (by simp) Try.call101 (fun w0 O0 => ?_)
  refine Tr.lenLe (n := 0) rfl (fun len0 => ?_)
  refine Tr.lenLe (n := 1) rfl (fun len1 => ?_)
  refine Tr.seq ?_
  refine Tr.region ?_
  refine TrOps.sem (OpSem.move (.inr rfl) rfl) rfl rfl (by decide) ?_
  refine TrOps.nil ?_
  refine At.seq ?_
  refine Tr.seq ?_
  refine Tr.seq ?_
  refine Tr.region ?_
  refine TrOps.sem (OpSem.move (.inl rfl) rfl) rfl rfl (by decide) ?_
  refine TrOps.sem (OpSem.lenL rfl rfl es119) rfl rfl (by decide) ?_
  refine TrOps.sem (OpSem.move (.inl rfl) rfl) rfl rfl (by decide) ?_
  refine TrOps.sem (OpSem.lenL rfl rfl es119) rfl rfl (by decide) ?_
  refine TrOps.sem (OpSem.bin rfl rfl rfl bneq) rfl rfl (by decide) ?_
  refine TrOps.nil ?_
  refine At.seq ?_
  refine Tr.cond rfl (fun c10 => ?_) (fun c10 => ?_)
  · have hl : s.length ≠ t.length := by simp at c10; omega
    refine Tr.seq ?_
    refine Tr.region ?_
    refine TrOps.sem (OpSem.move (.inr rfl) rfl) rfl rfl (by decide) ?_
    refine TrOps.nil ?_
    refine At.seq ?_
    refine Tr.ret ?_
    refine At.pass_ret ?_
    exact At.ret rfl (.tmp rfl <| .nil) rfl (Le.bo (decide_eq_false (fun e => hl (by rw [e]))).symm)
  · have hl : s.length = t.length := by simp at c10; omega
    refine Tr.skip ?_
    refine At.seq ?_
    refine Tr.seq ?_
    refine Tr.seq ?_
    refine Tr.region ?_
    refine TrOps.sem (OpSem.move (.inl rfl) rfl) rfl rfl (by decide) ?_
    refine TrOps.sem (OpSem.lenL rfl rfl es119) rfl rfl (by decide) ?_
    refine TrOps.sem (OpSem.move (.inl rfl) rfl) rfl rfl (by decide) ?_
    refine TrOps.nil ?_
    refine At.seq ?_
    refine Tr.block ?_
    refine Tr.loop (X := Nat) (fun k => k ≤ s.length ∧ ∀ i : Nat, i < k → nth s i = nth t i) (fun k => [(0, .d (asgs s)), (1, .d (asgs t)), (12, I (s.length)), (13, I (k))]) (fun k => []) (fun k => s.length - k) 0 ⟨by omega, by simp⟩ ?_ ?_
    · exact .slot rfl (.refl _) <| .slot rfl (.refl _) <| .slot rfl (.refl _) <| .slot rfl (Le.of_eq (by simp)) <| .nil
    · rintro k ⟨hkl, hinv⟩
      refine Tr.seq ?_
      refine Tr.region ?_
      refine TrOps.sem (OpSem.bin rfl rfl rfl blss) rfl rfl (by decide) ?_
      refine TrOps.nil ?_
      refine At.seq ?_
      refine Tr.seq ?_
      refine Tr.cond rfl (fun c14 => ?_) (fun c14 => ?_)
      · have hk : k < s.length := by simpa using c14
        refine Tr.skip ?_
        refine At.seq ?_
        refine Tr.seq ?_
        refine Tr.block ?_
        refine Tr.seq ?_
        refine Tr.region ?_
        refine TrOps.sem (OpSem.move (.inl rfl) rfl) rfl rfl (by decide) ?_
        refine TrOps.sem (OpSem.move (.inr rfl) rfl) rfl rfl (by decide) ?_
        refine TrOps.nil ?_
        refine At.seq ?_
        refine Tr.seq ?_
        refine PC.start [] ?_
        refine PC.sem (OpSem.move (.inl rfl) rfl) rfl rfl ?_
        refine PC.sem (OpSem.move (.inl rfl) rfl) rfl rfl ?_
        refine PC.sem (OpSem.idxL rfl rfl rfl es119 (by omega) (by omega)) rfl rfl ?_
        refine PC.sem (OpSem.loadN rfl rfl vs120 (by first | decide | simp) rfl) rfl rfl ?_
        refine PC.sem (OpSem.move (.inl rfl) rfl) rfl rfl ?_
        refine PC.sem (OpSem.move (.inl rfl) rfl) rfl rfl ?_
        refine PC.sem (OpSem.idxL rfl rfl rfl es119 (by omega) (by omega)) rfl rfl ?_
        refine PC.sem (OpSem.loadN rfl rfl vs120 (by first | decide | simp) rfl) rfl rfl ?_
        refine PC.done0 mixed (by kernel_rfl) (by kernel_rfl) (by kernel_rfl) (by kernel_rfl) (by kernel_rfl) ?_
        refine TrOps.sem (OpSem.neA2 rfl rfl rfl ar120) rfl rfl (by decide) ?_
        refine TrOps.nil ?_
        refine At.seq ?_
        refine Tr.cond rfl (fun c24 => ?_) (fun c24 => ?_)
        · refine Tr.seq ?_
          refine Tr.region ?_
          refine TrOps.sem (OpSem.move (.inr rfl) rfl) rfl rfl (by decide) ?_
          refine TrOps.nil ?_
          refine At.seq ?_
          refine Tr.ret ?_
          refine At.block_ret ?_
          refine At.pass_ret ?_
          refine At.pass_ret ?_
          refine At.block_ret ?_
          refine At.pass_ret ?_
          exact At.ret rfl (.tmp rfl <| .nil) rfl (Le.bo (decide_eq_false (fun e => by subst e; simp at c24)).symm)
        · have hb : nth s k = nth t k := Prod.ext (by simp at c24; exact c24.1) (by simp at c24; exact c24.2)
          refine Tr.skip ?_
          refine At.block_normal ?_
          refine At.seq ?_
          refine Tr.region ?_
          refine TrOps.sem (OpSem.bin rfl rfl rfl (badd (by omega) (by omega))) rfl rfl (by decide) ?_
          refine TrOps.sem (OpSem.move (.inl rfl) rfl) rfl rfl (by decide) ?_
          refine TrOps.nil ?_
          refine At.again (k + 1) ⟨by omega, all_succ hinv hb⟩ ?_ (by omega)
          exact .slot rfl (.refl _) <| .slot rfl (.refl _) <| .slot rfl (.refl _) <| .slot rfl (Le.of_eq (by simp)) <| .nil
      · have hk : k = s.length := by simp at c14; omega
        refine Tr.exit ?_
        refine At.pass_exit ?_
        refine At.pass_exit ?_
        refine At.block_same ?_
        refine At.seq ?_
        refine Tr.seq ?_
        refine Tr.region ?_
        refine TrOps.sem (OpSem.move (.inr rfl) rfl) rfl rfl (by decide) ?_
        refine TrOps.nil ?_
        refine At.seq ?_
        refine Tr.ret ?_
        exact At.ret rfl (.tmp rfl <| .nil) rfl (Le.bo (decide_eq_true (ext_get (by omega) (by subst hk; exact hinv))).symm)

theorem labels_ends_does (a : Abs) (x : Int) (hl : a.arcs.length ≤ 1000) : DoesO Try.prog 102 [absS a, I (x)] 2 120 (((endsL a x).map asg)) := by
  have hel := fun k => endsTo_len (a := a) (x := x) (k := k)
  refine DoesO.of_body Try.func102 rfl rfl (by simp) Try.call102 (fun w0 O0 => ?_)
  refine Tr.lenG (n := 0) (i := 2) rfl rfl (fun len0_2 => ?_)
  refine Tr.lenG (n := 0) (i := 4) rfl rfl (fun len0_4 => ?_)
  refine Tr.seq ?_
  refine Tr.region ?_
  refine TrOps.semM (OpSem.box 2 rfl rfl rfl rfl) rfl rfl (by decide) ?_
  refine TrOps.sem (OpSem.move (.inr rfl) rfl) rfl rfl (by decide) ?_
  refine TrOps.nil ?_
  refine At.seq ?_
  refine Tr.seq ?_
  refine Tr.region ?_
  refine TrOps.sem (OpSem.move (.inr rfl) rfl) rfl rfl (by decide) ?_
  refine TrOps.nil ?_
  refine At.seq ?_
  refine Tr.seq ?_
  refine Tr.seq ?_
  refine Tr.ownNil (n := 5) 5 2 120 rfl ?_
  refine Tr.region ?_
  refine TrOps.sem (OpSem.fieldr rfl rfl fo46_2) rfl rfl (by decide) ?_
  refine TrOps.sem (OpSem.loadb1 rfl rfl rfl vs44 rfl) rfl rfl (by decide) ?_
  refine TrOps.sem (OpSem.lenL rfl rfl es44) rfl rfl (by decide) ?_
  refine TrOps.sem (OpSem.move (.inl rfl) rfl) rfl rfl (by decide) ?_
  refine TrOps.nil ?_
  refine At.seq ?_
  refine Tr.block ?_
  refine Tr.loop (X := Nat) (fun k => k ≤ a.arcs.length) (fun k => [(1, I (x)), (5, .o 5), (9, .d (arcsD a.arcs)), (10, I (a.arcs.length)), (11, I (k))]) (fun k => [(5, .own 2 120 ((endsTo a x k).map asg))]) (fun k => a.arcs.length - k) 0 (by omega) ?_ ?_
  · exact .slot rfl (.refl _) <| .slot rfl (.refl _) <| .slot rfl (.refl _) <| .slot rfl (.refl _) <| .slot rfl (Le.of_eq (by simp)) <| .memEq rfl (by simp [endsTo]) <| .nil
  · rintro k hkl
    refine Tr.seq ?_
    refine Tr.region ?_
    refine TrOps.sem (OpSem.bin rfl rfl rfl blss) rfl rfl (by decide) ?_
    refine TrOps.nil ?_
    refine At.seq ?_
    refine Tr.seq ?_
    refine Tr.cond rfl (fun c12 => ?_) (fun c12 => ?_)
    · have hk : k < a.arcs.length := by simpa using c12
      refine Tr.skip ?_
      refine At.seq ?_
      refine Tr.seq ?_
      refine Tr.block ?_
      refine Tr.seq ?_
      refine Tr.region ?_
      refine TrOps.sem (OpSem.idxL rfl rfl rfl es44 (by omega) (by omega)) rfl rfl (by decide) ?_
      refine TrOps.sem (OpSem.loadN rfl rfl vs93 (by first | decide | simp) rfl) rfl rfl (by decide) ?_
      refine TrOps.semM (OpSem.alloc 7 rfl zc93 rfl) rfl rfl (by decide) ?_
      refine TrOps.storeb rfl rfl rfl rfl rfl rfl rfl vs93 (by first | decide | simp) ?_
      refine TrOps.nil ?_
      refine At.seq ?_
      refine Tr.seq ?_
      refine Tr.region ?_
      refine TrOps.sem (OpSem.fieldr rfl rfl fo93_1) rfl rfl (by decide) ?_
      refine TrOps.sem (OpSem.loadb1 rfl rfl rfl vs3 rfl) rfl rfl (by decide) ?_
      refine TrOps.sem (OpSem.move (.inl rfl) rfl) rfl rfl (by decide) ?_
      refine TrOps.sem (OpSem.bin rfl rfl rfl beql) rfl rfl (by decide) ?_
      refine TrOps.nil ?_
      refine At.seq ?_
      refine Tr.cond rfl (fun c18 => ?_) (fun c18 => ?_)
      · have hb : (nth a.arcs k).lab = x := by simpa using c18
        have hlk := hel k
        refine Tr.region ?_
        refine TrOps.sem (OpSem.move (.inl rfl) rfl) rfl rfl (by decide) ?_
        refine TrOps.sem (OpSem.fieldr rfl rfl fo93_0) rfl rfl (by decide) ?_
        refine TrOps.sem (OpSem.loadb1 rfl rfl rfl vs3 rfl) rfl rfl (by decide) ?_
        refine TrOps.sem (OpSem.fieldr rfl rfl fo93_2) rfl rfl (by decide) ?_
        refine TrOps.sem (OpSem.loadb1 rfl rfl rfl vs3 rfl) rfl rfl (by decide) ?_
        refine TrOps.sem (OpSem.buildA rfl rfl ar120 zc120 rfl rfl) rfl rfl (by decide) ?_
        refine TrOps.sem (OpSem.buildSlice rfl rfl es119 ze119 rfl rfl (by decide) (by decide) rfl rfl) rfl rfl (by decide) ?_
        refine TrOps.append rfl rfl rfl (by decide) rfl rfl rfl es119 el119 zc120 rfl by120 (by simp [D.one, Value.oneCell']) (by simp [maxLen]; omega) (by simp; omega) ?_
        refine TrOps.sem (OpSem.move (.inr rfl) rfl) rfl rfl (by decide) ?_
        refine TrOps.nil ?_
        refine At.block_normal ?_
        refine At.seq ?_
        refine Tr.region ?_
        refine TrOps.sem (OpSem.bin rfl rfl rfl (badd (by omega) (by omega))) rfl rfl (by decide) ?_
        refine TrOps.sem (OpSem.move (.inl rfl) rfl) rfl rfl (by decide) ?_
        refine TrOps.nil ?_
        refine At.again (k + 1) (by omega) ?_ (by omega)
        exact .slot rfl (.refl _) <| .slot rfl (.refl _) <| .slot rfl (.refl _) <| .slot rfl (.refl _) <| .slot rfl (Le.of_eq (by simp)) <| .memEq rfl (by rw [← endsTo_t hk hb]; simp) <| .nil
      · have hb : (nth a.arcs k).lab ≠ x := by simpa using c18
        refine Tr.skip ?_
        refine At.block_normal ?_
        refine At.seq ?_
        refine Tr.region ?_
        refine TrOps.sem (OpSem.bin rfl rfl rfl (badd (by omega) (by omega))) rfl rfl (by decide) ?_
        refine TrOps.sem (OpSem.move (.inl rfl) rfl) rfl rfl (by decide) ?_
        refine TrOps.nil ?_
        refine At.again (k + 1) (by omega) ?_ (by omega)
        exact .slot rfl (.refl _) <| .slot rfl (.refl _) <| .slot rfl (.refl _) <| .slot rfl (.refl _) <| .slot rfl (Le.of_eq (by simp)) <| .memEq rfl (by rw [← endsTo_f hk hb]; rfl) <| .nil
    · have hk : k = a.arcs.length := by simp at c12; omega
      refine Tr.exit ?_
      refine At.pass_exit ?_
      refine At.pass_exit ?_
      refine At.block_same ?_
      refine At.seq ?_
      refine Tr.seq ?_
      refine Tr.region ?_
      refine TrOps.sem (OpSem.move (.inl rfl) rfl) rfl rfl (by decide) ?_
      refine TrOps.sem (OpSem.move (.inr rfl) rfl) rfl rfl (by decide) ?_
      refine TrOps.nil ?_
      refine At.seq ?_
      refine Tr.ret ?_
      exact At.retO2 rfl rfl rfl (by simp) (by rw [hk]; rfl)

theorem labels_equivalent_does (l : List Abs) (c : List Int) (ex x y : Int) (hx : 0 ≤ x ∧ x < c.length) (hy : 0 ≤ y ∧ y < c.length) (hA : ∀ k : Nat, k < l.length → AbsOk (nth l k)) : Does Try.prog false 69 [.d (abssD l), .d (ints c), I (ex), I (x), I (y)] (Bo (decide (EqvP l c ex x y))) := by
  refine Does.of_body Try.func69 rfl rfl (by simp) Try.call69 (fun w0 O0 => ?_)
  refine Tr.lenLe (n := 0) rfl (fun len0 => ?_)
  refine Tr.lenLe (n := 1) rfl (fun len1 => ?_)
  refine Tr.seq ?_
  refine Tr.region ?_
  refine TrOps.sem (OpSem.move (.inr rfl) rfl) rfl rfl (by decide) ?_
  refine TrOps.nil ?_
  refine At.seq ?_
  refine Tr.seq ?_
  refine Tr.seq ?_
  refine PC.start [] ?_
  refine PC.sem (OpSem.move (.inl rfl) rfl) rfl rfl ?_
  refine PC.sem (OpSem.move (.inl rfl) rfl) rfl rfl ?_
  refine PC.sem (OpSem.idxL rfl rfl rfl es22 (by omega) (by omega)) rfl rfl ?_
  refine PC.sem (OpSem.load1 rfl rfl vs3 rfl) rfl rfl ?_
  refine PC.sem (OpSem.move (.inl rfl) rfl) rfl rfl ?_
  refine PC.sem (OpSem.move (.inl rfl) rfl) rfl rfl ?_
  refine PC.sem (OpSem.idxL rfl rfl rfl es22 (by omega) (by omega)) rfl rfl ?_
  refine PC.sem (OpSem.load1 rfl rfl vs3 rfl) rfl rfl ?_
  refine PC.done0 mixed (by kernel_rfl) (by kernel_rfl) (by kernel_rfl) (by kernel_rfl) (by kernel_rfl) ?_
  refine TrOps.sem (OpSem.bin rfl rfl rfl bneq) rfl rfl (by decide) ?_
  refine TrOps.nil ?_
  refine At.seq ?_
  refine Tr.cond rfl (fun c21 => ?_) (fun c21 => ?_)
  · have hne : nth c x ≠ nth c y := by simpa using c21
    refine Tr.seq ?_
    refine Tr.region ?_
    refine TrOps.sem (OpSem.move (.inr rfl) rfl) rfl rfl (by decide) ?_
    refine TrOps.nil ?_
    refine At.seq ?_
    refine Tr.ret ?_
    refine At.pass_ret ?_
    exact At.ret rfl (.tmp rfl <| .nil) rfl (Le.bo (eqv_1 hne))
  · have hc : nth c x = nth c y := by simpa using c21
    refine Tr.skip ?_
    refine At.seq ?_
    refine Tr.seq ?_
    refine Tr.seq ?_
    refine Tr.region ?_
    refine TrOps.sem (OpSem.move (.inl rfl) rfl) rfl rfl (by decide) ?_
    refine TrOps.sem (OpSem.lenL rfl rfl es34) rfl rfl (by decide) ?_
    refine TrOps.sem (OpSem.move (.inl rfl) rfl) rfl rfl (by decide) ?_
    refine TrOps.nil ?_
    refine At.seq ?_
    refine Tr.block ?_
    refine Tr.loop (X := Nat) (fun k => k ≤ l.length ∧ ∀ i : Nat, i < k → (i : Int) ≠ ex → endsL (nth l i) x = endsL (nth l i) y) (fun k => [(2, I (ex)), (3, I (x)), (4, I (y)), (22, .d (abssD l)), (23, I (l.length)), (24, I (k))]) (fun k => []) (fun k => l.length - k) 0 ⟨by omega, by simp⟩ ?_ ?_
    · exact .slot rfl (.refl _) <| .slot rfl (.refl _) <| .slot rfl (.refl _) <| .slot rfl (.refl _) <| .slot rfl (.refl _) <| .slot rfl (Le.of_eq (by simp)) <| .nil
    · rintro k ⟨hkl, hinv⟩
      refine Tr.seq ?_
      refine Tr.region ?_
      refine TrOps.sem (OpSem.bin rfl rfl rfl blss) rfl rfl (by decide) ?_
      refine TrOps.nil ?_
      refine At.seq ?_
      refine Tr.seq ?_
      refine Tr.cond rfl (fun c25 => ?_) (fun c25 => ?_)
      · have hk : k < l.length := by simpa using c25
        refine Tr.skip ?_
        refine At.seq ?_
        refine Tr.seq ?_
        refine Tr.block ?_
        refine Tr.seq ?_
        refine Tr.region ?_
        refine TrOps.sem (OpSem.move (.inl rfl) rfl) rfl rfl (by decide) ?_
        refine TrOps.sem (OpSem.idxL rfl rfl rfl es34 (by omega) (by omega)) rfl rfl (by decide) ?_
        refine TrOps.sem (OpSem.loadN rfl rfl vs46 (by first | decide | simp) rfl) rfl rfl (by decide) ?_
        refine TrOps.semM (OpSem.alloc 12 rfl zc46 rfl) rfl rfl (by decide) ?_
        refine TrOps.sem (OpSem.move (.inr rfl) rfl) rfl rfl (by decide) ?_
        refine TrOps.storeb rfl rfl rfl rfl rfl rfl rfl vs46 (by first | decide | simp) ?_
        refine TrOps.nil ?_
        refine At.seq ?_
        refine Tr.seq ?_
        refine PC.start [] ?_
        refine PC.sem (OpSem.move (.inl rfl) rfl) rfl rfl ?_
        refine PC.sem (OpSem.move (.inl rfl) rfl) rfl rfl ?_
        refine PC.sem (OpSem.bin rfl rfl rfl bneq) rfl rfl ?_
        refine PC.sem (OpSem.move (.inl rfl) rfl) rfl rfl ?_
        refine PC.split (n := 32) rfl (fun c32 => ?_) (fun c32 => ?_)
        · have hke : (k : Int) ≠ ex := by simpa using c32
          refine PC.gT (OpSem.loadbN rfl rfl rfl vs46 (by first | decide | simp)) rfl rfl rfl rfl c32 rfl ?_
          refine PC.gT (OpSem.move (.inl rfl) rfl) rfl rfl rfl rfl c32 rfl ?_
          refine PC.gT (OpSem.call0 (labels_ends_does (nth l k) x (by have := (hA k hk).len; omega)).fresh rfl rfl rfl rfl (Les.refl _)) rfl rfl rfl rfl c32 rfl ?_
          refine PC.gT (OpSem.loadbN rfl rfl rfl vs46 (by first | decide | simp)) rfl rfl rfl rfl c32 rfl ?_
          refine PC.gT (OpSem.move (.inl rfl) rfl) rfl rfl rfl rfl c32 rfl ?_
          refine PC.done0 mixed (by kernel_rfl) (by kernel_rfl) (by kernel_rfl) (by kernel_rfl) (by kernel_rfl) ?_
          refine TrOps.gT rfl rfl rfl rfl c32 ?_
          refine TrOps.sem (OpSem.call0 (labels_ends_does (nth l k) y (by have := (hA k hk).len; omega)).fresh rfl rfl rfl rfl (Les.refl _)) rfl rfl (by decide) ?_
          refine TrOps.gT rfl rfl rfl rfl c32 ?_
          refine TrOps.sem (OpSem.call0 (slices_Equal_2_int_2_int_does (endsL (nth l k) x) (endsL (nth l k) y)) rfl rfl rfl rfl (Les.refl _)) rfl rfl (by decide) ?_
          refine TrOps.gT rfl rfl rfl rfl c32 ?_
          refine TrOps.sem (OpSem.not rfl rfl) rfl rfl (by decide) ?_
          refine TrOps.sem (OpSem.pickT rfl rfl c32 rfl) rfl rfl (by decide) ?_
          refine TrOps.nil ?_
          refine At.seq ?_
          refine Tr.cond rfl (fun c41 => ?_) (fun c41 => ?_)
          · have hne : endsL (nth l k) x ≠ endsL (nth l k) y := by simpa using c41
            refine Tr.seq ?_
            refine Tr.region ?_
            refine TrOps.sem (OpSem.move (.inr rfl) rfl) rfl rfl (by decide) ?_
            refine TrOps.nil ?_
            refine At.seq ?_
            refine Tr.ret ?_
            refine At.block_ret ?_
            refine At.pass_ret ?_
            refine At.pass_ret ?_
            refine At.block_ret ?_
            refine At.pass_ret ?_
            exact At.ret rfl (.tmp rfl <| .nil) rfl (Le.bo (eqv_2 hk hke hne))
          · have hb : (k : Int) ≠ ex → endsL (nth l k) x = endsL (nth l k) y := fun _ => by simpa using c41
            refine Tr.skip ?_
            refine At.block_normal ?_
            refine At.seq ?_
            refine Tr.region ?_
            refine TrOps.sem (OpSem.bin rfl rfl rfl (badd (by omega) (by omega))) rfl rfl (by decide) ?_
            refine TrOps.sem (OpSem.move (.inl rfl) rfl) rfl rfl (by decide) ?_
            refine TrOps.nil ?_
            refine At.again (k + 1) ⟨by omega, all_succ hinv hb⟩ ?_ (by omega)
            exact .slot rfl (.refl _) <| .slot rfl (.refl _) <| .slot rfl (.refl _) <| .slot rfl (.refl _) <| .slot rfl (.refl _) <| .slot rfl (Le.of_eq (by simp)) <| .nil
        · have hb : (k : Int) ≠ ex → endsL (nth l k) x = endsL (nth l k) y := fun h => absurd (by simpa using c32) h
          refine PC.gF rfl rfl rfl rfl c32 rfl ?_
          refine PC.gF rfl rfl rfl rfl c32 rfl ?_
          refine PC.gF rfl rfl rfl rfl c32 rfl ?_
          refine PC.gF rfl rfl rfl rfl c32 rfl ?_
          refine PC.gF rfl rfl rfl rfl c32 rfl ?_
          refine PC.done0 mixed (by kernel_rfl) (by kernel_rfl) (by kernel_rfl) (by kernel_rfl) (by kernel_rfl) ?_
          refine TrOps.gF rfl rfl rfl rfl c32 rfl (by decide) ?_
          refine TrOps.gF rfl rfl rfl rfl c32 rfl (by decide) ?_
          refine TrOps.gF rfl rfl rfl rfl c32 rfl (by decide) ?_
          refine TrOps.sem (OpSem.pickF rfl rfl c32 rfl) rfl rfl (by decide) ?_
          refine TrOps.nil ?_
          refine At.seq ?_
          refine Tr.condF rfl rfl ?_
          refine Tr.skip ?_
          refine At.block_normal ?_
          refine At.seq ?_
          refine Tr.region ?_
          refine TrOps.sem (OpSem.bin rfl rfl rfl (badd (by omega) (by omega))) rfl rfl (by decide) ?_
          refine TrOps.sem (OpSem.move (.inl rfl) rfl) rfl rfl (by decide) ?_
          refine TrOps.nil ?_
          refine At.again (k + 1) ⟨by omega, all_succ hinv hb⟩ ?_ (by omega)
          exact .slot rfl (.refl _) <| .slot rfl (.refl _) <| .slot rfl (.refl _) <| .slot rfl (.refl _) <| .slot rfl (.refl _) <| .slot rfl (Le.of_eq (by simp)) <| .nil
      · have hk : k = l.length := by simp at c25; omega
        refine Tr.exit ?_
        refine At.pass_exit ?_
        refine At.pass_exit ?_
        refine At.block_same ?_
        refine At.seq ?_
        refine Tr.seq ?_
        refine Tr.region ?_
        refine TrOps.sem (OpSem.move (.inr rfl) rfl) rfl rfl (by decide) ?_
        refine TrOps.nil ?_
        refine At.seq ?_
        refine Tr.ret ?_
        exact At.ret rfl (.tmp rfl <| .nil) rfl (Le.bo (by subst hk; exact eqv_0 hc hinv))

theorem labels_exception_does (l : List Abs) (ex : Int) : Does Try.prog false 68 [.d (abssD l), I (ex)] (flt (if ex < -1 ∨ (l.length : Int) ≤ ex then (3, -8) else (0, 0))) := by
  refine Does.of_body Try.func68 rfl rfl (by simp) Try.call68 (fun w0 O0 => ?_)
  refine Tr.lenLe (n := 0) rfl (fun len0 => ?_)
  refine Tr.seq ?_
  refine Tr.region ?_
  refine TrOps.semM (OpSem.alloc 4 rfl zc29 rfl) rfl rfl (by decide) ?_
  refine TrOps.nil ?_
  refine At.seq ?_
  refine Tr.seq ?_
  refine Tr.seq ?_
  refine Tr.region ?_
  refine TrOps.sem (OpSem.move (.inl rfl) rfl) rfl rfl (by decide) ?_
  refine TrOps.sem (OpSem.bin rfl rfl rfl blss) rfl rfl (by decide) ?_
  refine TrOps.sem (OpSem.move (.inl rfl) rfl) rfl rfl (by decide) ?_
  refine TrOps.split (n := 7) rfl (fun c7 => ?_) (fun c7 => ?_)
  · refine TrOps.gF rfl rfl rfl rfl c7 rfl (by decide) ?_
    refine TrOps.gF rfl rfl rfl rfl c7 rfl (by decide) ?_
    refine TrOps.gF rfl rfl rfl rfl c7 rfl (by decide) ?_
    refine TrOps.gF rfl rfl rfl rfl c7 rfl (by decide) ?_
    refine TrOps.sem (OpSem.pickT rfl rfl c7 rfl) rfl rfl (by decide) ?_
    refine TrOps.nil ?_
    refine At.seq ?_
    refine Tr.condT rfl rfl ?_
    refine Tr.seq ?_
    refine Tr.region ?_
    refine TrOps.sem (OpSem.build rfl rfl pl29 zc29 rfl rfl) rfl rfl (by decide) ?_
    refine TrOps.storeb rfl rfl rfl rfl rfl rfl rfl vs29 (by first | decide | simp) ?_
    refine TrOps.nil ?_
    refine At.seq ?_
    refine Tr.ret ?_
    refine At.pass_ret ?_
    exact At.ret rfl (.cellN rfl rfl vs29 <| .nil) rfl (Le.flt (by rw [if_pos (by simp at *; omega)]))
  · refine TrOps.gT rfl rfl rfl rfl c7 ?_
    refine TrOps.sem (OpSem.move (.inl rfl) rfl) rfl rfl (by decide) ?_
    refine TrOps.gT rfl rfl rfl rfl c7 ?_
    refine TrOps.sem (OpSem.move (.inl rfl) rfl) rfl rfl (by decide) ?_
    refine TrOps.gT rfl rfl rfl rfl c7 ?_
    refine TrOps.sem (OpSem.lenL rfl rfl es34) rfl rfl (by decide) ?_
    refine TrOps.gT rfl rfl rfl rfl c7 ?_
    refine TrOps.sem (OpSem.bin rfl rfl rfl bgeq) rfl rfl (by decide) ?_
    refine TrOps.sem (OpSem.pickF rfl rfl c7 rfl) rfl rfl (by decide) ?_
    refine TrOps.nil ?_
    refine At.seq ?_
    refine Tr.cond rfl (fun c12 => ?_) (fun c12 => ?_)
    · refine Tr.seq ?_
      refine Tr.region ?_
      refine TrOps.sem (OpSem.build rfl rfl pl29 zc29 rfl rfl) rfl rfl (by decide) ?_
      refine TrOps.storeb rfl rfl rfl rfl rfl rfl rfl vs29 (by first | decide | simp) ?_
      refine TrOps.nil ?_
      refine At.seq ?_
      refine Tr.ret ?_
      refine At.pass_ret ?_
      exact At.ret rfl (.cellN rfl rfl vs29 <| .nil) rfl (Le.flt (by rw [if_pos (by simp at *; omega)]))
    · refine Tr.skip ?_
      refine At.seq ?_
      refine Tr.seq ?_
      refine Tr.region ?_
      refine TrOps.sem (OpSem.build rfl rfl pl29 zc29 rfl rfl) rfl rfl (by decide) ?_
      refine TrOps.storeb rfl rfl rfl rfl rfl rfl rfl vs29 (by first | decide | simp) ?_
      refine TrOps.nil ?_
      refine At.seq ?_
      refine Tr.ret ?_
      exact At.ret rfl (.cellN rfl rfl vs29 <| .nil) rfl (Le.flt (by rw [if_neg (by simp at *; omega)]))

theorem labels_Reduce_does (l : List Abs) (c : List Int) (ex : Int) (hr : ∀ k : Nat, k < l.length → -9223372036854775808 ≤ (nth l k).states ∧ (nth l k).states ≤ 9223372036854775807) : Does Try.prog false 34 [.d (abssD l), .d (ints c), I (ex)] (.t [.d (ints (redL l c ex)), flt (redF l c ex)]) := by
  refine Does.of_body Try.func34 rfl rfl (by simp) Try.call34 (fun w0 O0 => ?_)
  refine Tr.lenLe (n := 0) rfl (fun len0 => ?_)
  refine Tr.lenLe (n := 1) rfl (fun len1 => ?_)
  refine Tr.seq ?_
  refine Tr.region ?_
  refine TrOps.sem (OpSem.move (.inr rfl) rfl) rfl rfl (by decide) ?_
  refine TrOps.semM (OpSem.alloc 7 rfl zc29 rfl) rfl rfl (by decide) ?_
  refine TrOps.nil ?_
  refine At.seq ?_
  refine Tr.seq ?_
  refine Tr.region ?_
  refine TrOps.sem (OpSem.move (.inl rfl) rfl) rfl rfl (by decide) ?_
  refine TrOps.sem (OpSem.move (.inl rfl) rfl) rfl rfl (by decide) ?_
  refine TrOps.sem (OpSem.call0 (labels_Check_does l c hr) rfl rfl rfl rfl (Les.refl _)) rfl rfl (by decide) ?_
  refine TrOps.semM (OpSem.alloc 8 rfl zc29 rfl) rfl rfl (by decide) ?_
  refine TrOps.storeb rfl rfl rfl rfl rfl rfl rfl vs29 (by first | decide | simp) ?_
  refine TrOps.nil ?_
  refine At.seq ?_
  refine Tr.cut [(0, .d (abssD l)), (1, .d (ints c)), (2, I (ex)), (7, .r 7 0), (8, .r 8 0)] [(7, .box [I (0), I (0)]), (8, .box [I ((redF l c ex).1), I ((redF l c ex).2)])] ?_ ?_
  · refine Tr.seq ?_
    refine Tr.region ?_
    refine TrOps.sem (OpSem.loadbN rfl rfl rfl vs29 (by first | decide | simp)) rfl rfl (by decide) ?_
    refine TrOps.sem (OpSem.build rfl rfl pl29 zc29 rfl rfl) rfl rfl (by decide) ?_
    refine TrOps.sem (OpSem.eqS2 rfl rfl rfl io29) rfl rfl (by decide) ?_
    refine TrOps.nil ?_
    refine At.seq ?_
    refine Tr.cond rfl (fun c17 => ?_) (fun c17 => ?_)
    · refine Tr.region ?_
      refine TrOps.sem (OpSem.move (.inl rfl) rfl) rfl rfl (by decide) ?_
      refine TrOps.sem (OpSem.move (.inl rfl) rfl) rfl rfl (by decide) ?_
      refine TrOps.sem (OpSem.call0 (labels_exception_does l ex) rfl rfl rfl rfl (Les.refl _)) rfl rfl (by decide) ?_
      refine TrOps.storeb rfl rfl rfl rfl rfl rfl rfl vs29 (by first | decide | simp) ?_
      refine TrOps.nil ?_
      have he : (if ex < -1 ∨ (l.length : Int) ≤ ex then ((3, -8) : Int × Int) else (0, 0)) = redF l c ex := by have h := pair0 (f := labF l c) (by simpa using c17); unfold redF; simp [h]
      refine At.meet ?_
      exact .slot rfl (.refl _) <| .slot rfl (.refl _) <| .slot rfl (.refl _) <| .slot rfl (.refl _) <| .slot rfl (.refl _) <| .mem rfl <| .boxLe rfl (.cons (Le.i (congrArg Prod.fst (he))) <| .cons (Le.i (congrArg Prod.snd (he))) <| .nil) <| .nil
    · refine Tr.skip ?_
      have he : labF l c = redF l c ex := redF_1 (fun h => by rw [h] at c17; simp at c17)
      refine At.meet ?_
      exact .slot rfl (.refl _) <| .slot rfl (.refl _) <| .slot rfl (.refl _) <| .slot rfl (.refl _) <| .slot rfl (.refl _) <| .mem rfl <| .boxLe rfl (.cons (Le.i (congrArg Prod.fst (he))) <| .cons (Le.i (congrArg Prod.snd (he))) <| .nil) <| .nil
  · refine Tr.seq ?_
    refine Tr.seq ?_
    refine Tr.region ?_
    refine TrOps.sem (OpSem.loadbN rfl rfl rfl vs29 (by first | decide | simp)) rfl rfl (by decide) ?_
    refine TrOps.sem (OpSem.build rfl rfl pl29 zc29 rfl rfl) rfl rfl (by decide) ?_
    refine TrOps.sem (OpSem.neS2 rfl rfl rfl io29) rfl rfl (by decide) ?_
    refine TrOps.nil ?_
    refine At.seq ?_
    refine Tr.cond rfl (fun c23 => ?_) (fun c23 => ?_)
    · have hne : redF l c ex ≠ (0, 0) := fun h => by simp [h] at c23
      refine Tr.seq ?_
      refine PC.start [] ?_
      refine PC.sem (OpSem.loadbN rfl rfl rfl vs29 (by first | decide | simp)) rfl rfl ?_
      refine PC.sem (OpSem.move (.inr rfl) rfl) rfl rfl ?_
      refine PC.done0 mixed (by kernel_rfl) (by kernel_rfl) (by kernel_rfl) (by kernel_rfl) (by kernel_rfl) ?_
      refine TrOps.storeb rfl rfl rfl rfl rfl rfl rfl vs29 (by first | decide | simp) ?_
      refine TrOps.nil ?_
      refine At.seq ?_
      refine Tr.ret ?_
      refine At.pass_ret ?_
      exact At.ret rfl (.tmp rfl <| .cellN rfl rfl vs29 <| .nil) rfl (Le.t (.cons (by rw [redL_1 hne]; exact Le.nil 1) <| .cons (.refl _) <| .nil))
    · have h0 : redF l c ex = (0, 0) := pair0 (by simpa using c23)
      have hok := redF_ok h0
      have hcl := (labF_ok hok.1).2.1
      refine Tr.skip ?_
      refine At.seq ?_
      refine Tr.seq ?_
      refine Tr.region ?_
      refine TrOps.sem (OpSem.move (.inr rfl) rfl) rfl rfl (by decide) ?_
      refine TrOps.nil ?_
      refine At.seq ?_
      refine Tr.seq ?_
      refine Tr.seq ?_
      refine Tr.ownNil (n := 9) 9 1 3 rfl ?_
      refine Tr.region ?_
      refine TrOps.sem (OpSem.move (.inl rfl) rfl) rfl rfl (by decide) ?_
      refine TrOps.sem (OpSem.lenL rfl rfl es22) rfl rfl (by decide) ?_
      refine TrOps.sem (OpSem.move (.inl rfl) rfl) rfl rfl (by decide) ?_
      refine TrOps.nil ?_
      refine At.seq ?_
      refine Tr.block ?_
      refine Tr.loop (X := Nat) (fun k => k ≤ c.length) (fun k => [(0, .d (abssD l)), (1, .d (ints c)), (2, I (ex)), (7, .r 7 0), (8, .r 8 0), (9, .o 9), (26, I (c.length)), (27, I (k))]) (fun k => [(9, .own 1 3 ((redTo l c ex k).map fun n => [D.v (.int .i64 n)])), (7, .box [I (0), I (0)]), (8, .box [I ((redF l c ex).1), I ((redF l c ex).2)])]) (fun k => c.length - k) 0 (by omega) ?_ ?_
      · exact .slot rfl (.refl _) <| .slot rfl (.refl _) <| .slot rfl (.refl _) <| .slot rfl (.refl _) <| .slot rfl (.refl _) <| .slot rfl (.refl _) <| .slot rfl (.refl _) <| .slot rfl (Le.of_eq (by simp)) <| .memEq rfl (by simp [redTo]) <| .mem rfl <| .mem rfl <| .nil
      · rintro k hkl
        refine Tr.seq ?_
        refine Tr.region ?_
        refine TrOps.sem (OpSem.bin rfl rfl rfl blss) rfl rfl (by decide) ?_
        refine TrOps.nil ?_
        refine At.seq ?_
        refine Tr.seq ?_
        refine Tr.cond rfl (fun c28 => ?_) (fun c28 => ?_)
        · have hk : k < c.length := by simpa using c28
          refine Tr.skip ?_
          refine At.seq ?_
          refine Tr.seq ?_
          refine Tr.block ?_
          refine Tr.seq ?_
          refine Tr.region ?_
          refine TrOps.sem (OpSem.move (.inl rfl) rfl) rfl rfl (by decide) ?_
          refine TrOps.sem (OpSem.move (.inr rfl) rfl) rfl rfl (by decide) ?_
          refine TrOps.nil ?_
          refine At.seq ?_
          refine Tr.seq ?_
          refine Tr.region ?_
          refine TrOps.sem (OpSem.move (.inr rfl) rfl) rfl rfl (by decide) ?_
          refine TrOps.nil ?_
          refine At.seq ?_
          refine Tr.seq ?_
          refine Tr.block ?_
          refine Tr.loop (X := Nat) (fun j => j ≤ k ∧ ∀ i : Nat, i < j → ¬ EqvP l c ex i k) (fun j => [(0, .d (abssD l)), (1, .d (ints c)), (2, I (ex)), (7, .r 7 0), (8, .r 8 0), (9, .o 9), (10, I (k)), (11, I (j)), (26, I (c.length)), (27, I (k))]) (fun j => [(9, .own 1 3 ((redTo l c ex k).map fun n => [D.v (.int .i64 n)])), (7, .box [I (0), I (0)]), (8, .box [I ((redF l c ex).1), I ((redF l c ex).2)])]) (fun j => k - j) 0 ⟨by omega, by simp⟩ ?_ ?_
          · exact .slot rfl (.refl _) <| .slot rfl (.refl _) <| .slot rfl (.refl _) <| .slot rfl (.refl _) <| .slot rfl (.refl _) <| .slot rfl (.refl _) <| .slot rfl (.refl _) <| .slot rfl (Le.of_eq (by simp)) <| .slot rfl (.refl _) <| .slot rfl (.refl _) <| .mem rfl <| .mem rfl <| .mem rfl <| .nil
          · rintro j ⟨hjl, hjn⟩
            refine Tr.seq ?_
            refine Tr.seq ?_
            refine Tr.region ?_
            refine TrOps.sem (OpSem.move (.inl rfl) rfl) rfl rfl (by decide) ?_
            refine TrOps.sem (OpSem.move (.inl rfl) rfl) rfl rfl (by decide) ?_
            refine TrOps.sem (OpSem.move (.inl rfl) rfl) rfl rfl (by decide) ?_
            refine TrOps.sem (OpSem.move (.inl rfl) rfl) rfl rfl (by decide) ?_
            refine TrOps.sem (OpSem.move (.inl rfl) rfl) rfl rfl (by decide) ?_
            refine TrOps.sem (OpSem.call0 (labels_equivalent_does l c ex j k ⟨by omega, by omega⟩ ⟨by omega, by omega⟩ (lab_arcs hok.1)) rfl rfl rfl rfl (Les.refl _)) rfl rfl (by decide) ?_
            refine TrOps.sem (OpSem.not rfl rfl) rfl rfl (by decide) ?_
            refine TrOps.nil ?_
            refine At.seq ?_
            refine Tr.cond rfl (fun c36 => ?_) (fun c36 => ?_)
            · have hne : ¬ EqvP l c ex j k := by simpa using c36
              have hjk : j ≠ k := fun h => hne (by rw [h]; exact EqvP.refl)
              refine Tr.skip ?_
              refine At.seq ?_
              refine Tr.block ?_
              refine Tr.region ?_
              refine TrOps.sem (OpSem.move (.inl rfl) rfl) rfl rfl (by decide) ?_
              refine TrOps.sem (OpSem.bin rfl rfl rfl (badd (by omega) (by omega))) rfl rfl (by decide) ?_
              refine TrOps.sem (OpSem.move (.inr rfl) rfl) rfl rfl (by decide) ?_
              refine TrOps.nil ?_
              refine At.block_normal ?_
              refine At.again (j + 1) ⟨by omega, all_succ hjn hne⟩ ?_ (by omega)
              exact .slot rfl (.refl _) <| .slot rfl (.refl _) <| .slot rfl (.refl _) <| .slot rfl (.refl _) <| .slot rfl (.refl _) <| .slot rfl (.refl _) <| .slot rfl (.refl _) <| .slot rfl (Le.of_eq (by simp)) <| .slot rfl (.refl _) <| .slot rfl (.refl _) <| .mem rfl <| .mem rfl <| .mem rfl <| .nil
            · have hlo : lowE l c ex k = j := lowE_of hjl (by simpa using c36) hjn
              have hrl := redTo_len (l := l) (c := c) (ex := ex) (k := k)
              refine Tr.exit ?_
              refine At.pass_exit ?_
              refine At.pass_exit ?_
              refine At.block_same ?_
              refine At.seq ?_
              refine Tr.region ?_
              refine TrOps.sem (OpSem.move (.inl rfl) rfl) rfl rfl (by decide) ?_
              refine TrOps.sem (OpSem.move (.inl rfl) rfl) rfl rfl (by decide) ?_
              refine TrOps.sem (OpSem.buildSlice rfl rfl es22 ze22 rfl rfl (by decide) (by decide) rfl rfl) rfl rfl (by decide) ?_
              refine TrOps.append rfl rfl rfl (by decide) rfl rfl rfl es22 el22 zc3 rfl by3 (by simp [D.one, Value.oneCell']) (by simp [maxLen, redTo_len]; omega) (by simp [redTo_len]; omega) ?_
              refine TrOps.sem (OpSem.move (.inr rfl) rfl) rfl rfl (by decide) ?_
              refine TrOps.nil ?_
              refine At.block_normal ?_
              refine At.seq ?_
              refine Tr.region ?_
              refine TrOps.sem (OpSem.bin rfl rfl rfl (badd (by omega) (by omega))) rfl rfl (by decide) ?_
              refine TrOps.sem (OpSem.move (.inl rfl) rfl) rfl rfl (by decide) ?_
              refine TrOps.nil ?_
              refine At.again (k + 1) (by omega) ?_ (by omega)
              exact .slot rfl (.refl _) <| .slot rfl (.refl _) <| .slot rfl (.refl _) <| .slot rfl (.refl _) <| .slot rfl (.refl _) <| .slot rfl (.refl _) <| .slot rfl (.refl _) <| .slot rfl (Le.of_eq (by simp)) <| .memEq rfl (by rw [redTo_s, hlo]; simp) <| .mem rfl <| .mem rfl <| .nil
        · have hk : k = c.length := by simp at c28; omega
          refine Tr.exit ?_
          refine At.pass_exit ?_
          refine At.pass_exit ?_
          refine At.block_same ?_
          refine At.seq ?_
          refine Tr.seq ?_
          refine PC.start [] ?_
          refine PC.sem (OpSem.move (.inl rfl) rfl) rfl rfl ?_
          refine PC.sem (OpSem.loadbN rfl rfl rfl vs29 (by first | decide | simp)) rfl rfl ?_
          refine PC.sem (OpSem.move (.inr rfl) rfl) rfl rfl ?_
          refine PC.done0 mixed (by kernel_rfl) (by kernel_rfl) (by kernel_rfl) (by kernel_rfl) (by kernel_rfl) ?_
          refine TrOps.storeb rfl rfl rfl rfl rfl rfl rfl vs29 (by first | decide | simp) ?_
          refine TrOps.nil ?_
          refine At.seq ?_
          refine Tr.ret ?_
          exact At.ret rfl (.tmp rfl <| .cellN rfl rfl vs29 <| .nil) rfl (Le.t (.cons (Le.d (by rw [redL_0 h0, hk])) <| .cons (.refl _) <| .nil))

theorem labels_Equivalent_does (l : List Abs) (c : List Int) (ex x y : Int) (hr : ∀ k : Nat, k < l.length → -9223372036854775808 ≤ (nth l k).states ∧ (nth l k).states ≤ 9223372036854775807) : Does Try.prog false 37 [.d (abssD l), .d (ints c), I (ex), I (x), I (y)] (.t [Bo (decide (eqvF l c ex x y = (0, 0) ∧ EqvP l c ex x y)), flt (eqvF l c ex x y)]) := by
  refine Does.of_body Try.func37 rfl rfl (by simp) Try.call37 (fun w0 O0 => ?_)
  refine Tr.lenLe (n := 0) rfl (fun len0 => ?_)
  refine Tr.lenLe (n := 1) rfl (fun len1 => ?_)
  refine Tr.seq ?_
  refine Tr.region ?_
  refine TrOps.sem (OpSem.move (.inr rfl) rfl) rfl rfl (by decide) ?_
  refine TrOps.semM (OpSem.alloc 11 rfl zc29 rfl) rfl rfl (by decide) ?_
  refine TrOps.nil ?_
  refine At.seq ?_
  refine Tr.seq ?_
  refine Tr.region ?_
  refine TrOps.sem (OpSem.move (.inl rfl) rfl) rfl rfl (by decide) ?_
  refine TrOps.sem (OpSem.move (.inl rfl) rfl) rfl rfl (by decide) ?_
  refine TrOps.sem (OpSem.call0 (labels_Check_does l c hr) rfl rfl rfl rfl (Les.refl _)) rfl rfl (by decide) ?_
  refine TrOps.semM (OpSem.alloc 12 rfl zc29 rfl) rfl rfl (by decide) ?_
  refine TrOps.storeb rfl rfl rfl rfl rfl rfl rfl vs29 (by first | decide | simp) ?_
  refine TrOps.nil ?_
  refine At.seq ?_
  refine Tr.cut [(0, .d (abssD l)), (1, .d (ints c)), (2, I (ex)), (3, I (x)), (4, I (y)), (11, .r 11 0), (12, .r 12 0)] [(11, .box [I (0), I (0)]), (12, .box [I ((redF l c ex).1), I ((redF l c ex).2)])] ?_ ?_
  · refine Tr.seq ?_
    refine Tr.region ?_
    refine TrOps.sem (OpSem.loadbN rfl rfl rfl vs29 (by first | decide | simp)) rfl rfl (by decide) ?_
    refine TrOps.sem (OpSem.build rfl rfl pl29 zc29 rfl rfl) rfl rfl (by decide) ?_
    refine TrOps.sem (OpSem.eqS2 rfl rfl rfl io29) rfl rfl (by decide) ?_
    refine TrOps.nil ?_
    refine At.seq ?_
    refine Tr.cond rfl (fun c20 => ?_) (fun c20 => ?_)
    · refine Tr.region ?_
      refine TrOps.sem (OpSem.move (.inl rfl) rfl) rfl rfl (by decide) ?_
      refine TrOps.sem (OpSem.move (.inl rfl) rfl) rfl rfl (by decide) ?_
      refine TrOps.sem (OpSem.call0 (labels_exception_does l ex) rfl rfl rfl rfl (Les.refl _)) rfl rfl (by decide) ?_
      refine TrOps.storeb rfl rfl rfl rfl rfl rfl rfl vs29 (by first | decide | simp) ?_
      refine TrOps.nil ?_
      have he : (if ex < -1 ∨ (l.length : Int) ≤ ex then ((3, -8) : Int × Int) else (0, 0)) = redF l c ex := by have h := pair0 (f := labF l c) (by simpa using c20); unfold redF; simp [h]
      refine At.meet ?_
      exact .slot rfl (.refl _) <| .slot rfl (.refl _) <| .slot rfl (.refl _) <| .slot rfl (.refl _) <| .slot rfl (.refl _) <| .slot rfl (.refl _) <| .slot rfl (.refl _) <| .mem rfl <| .boxLe rfl (.cons (Le.i (congrArg Prod.fst (he))) <| .cons (Le.i (congrArg Prod.snd (he))) <| .nil) <| .nil
    · refine Tr.skip ?_
      have he : labF l c = redF l c ex := redF_1 (fun h => by rw [h] at c20; simp at c20)
      refine At.meet ?_
      exact .slot rfl (.refl _) <| .slot rfl (.refl _) <| .slot rfl (.refl _) <| .slot rfl (.refl _) <| .slot rfl (.refl _) <| .slot rfl (.refl _) <| .slot rfl (.refl _) <| .mem rfl <| .boxLe rfl (.cons (Le.i (congrArg Prod.fst (he))) <| .cons (Le.i (congrArg Prod.snd (he))) <| .nil) <| .nil
  · refine Tr.seq ?_
    refine Tr.seq ?_
    refine Tr.region ?_
    refine TrOps.sem (OpSem.move (.inl rfl) rfl) rfl rfl (by decide) ?_
    refine TrOps.sem (OpSem.move (.inl rfl) rfl) rfl rfl (by decide) ?_
    refine TrOps.sem (OpSem.le (s' := .d (ints [x, y])) (OpSem.buildSlice rfl rfl es22 ze22 rfl rfl (by decide) (by decide) rfl rfl) (Le.of_eq rfl)) rfl rfl (by decide) ?_
    refine TrOps.sem (OpSem.lenL rfl rfl es22) rfl rfl (by decide) ?_
    refine TrOps.sem (OpSem.move (.inl rfl) rfl) rfl rfl (by decide) ?_
    refine TrOps.nil ?_
    refine At.seq ?_
    refine Tr.block ?_
    refine Tr.loop (X := Nat) (fun k => k ≤ 2) (fun k => [(0, .d (abssD l)), (1, .d (ints c)), (2, I (ex)), (3, I (x)), (4, I (y)), (11, .r 11 0), (12, .r 12 0), (26, .d (ints ([x, y] : List Int))), (27, I (2)), (28, I (k))]) (fun k => [(11, .box [I (0), I (0)]), (12, .box [I ((outTo (redF l c ex) c.length [x, y] k).1), I ((outTo (redF l c ex) c.length [x, y] k).2)])]) (fun k => 2 - k) 0 (by omega) ?_ ?_
    · exact .slot rfl (.refl _) <| .slot rfl (.refl _) <| .slot rfl (.refl _) <| .slot rfl (.refl _) <| .slot rfl (.refl _) <| .slot rfl (.refl _) <| .slot rfl (.refl _) <| .slot rfl (.refl _) <| .slot rfl (.refl _) <| .slot rfl (Le.of_eq (by simp)) <| .mem rfl <| .memEq rfl (by simp [outTo]) <| .nil
    · rintro k hkl
      refine Tr.seq ?_
      refine Tr.region ?_
      refine TrOps.sem (OpSem.bin rfl rfl rfl blss) rfl rfl (by decide) ?_
      refine TrOps.nil ?_
      refine At.seq ?_
      refine Tr.seq ?_
      refine Tr.cond rfl (fun c29 => ?_) (fun c29 => ?_)
      · have hk : k < 2 := by simp at c29; omega
        refine Tr.skip ?_
        refine At.seq ?_
        refine Tr.cut [(0, .d (abssD l)), (1, .d (ints c)), (2, I (ex)), (3, I (x)), (4, I (y)), (11, .r 11 0), (12, .r 12 0), (26, .d (ints ([x, y] : List Int))), (27, I (2)), (28, I (k))] [(11, .box [I (0), I (0)]), (12, .box [I ((outTo (redF l c ex) c.length [x, y] (k + 1)).1), I ((outTo (redF l c ex) c.length [x, y] (k + 1)).2)])] ?_ ?_
        · refine Tr.block ?_
          refine Tr.seq ?_
          refine Tr.region ?_
          refine TrOps.sem (OpSem.idxL rfl rfl rfl es22 (by omega) (by simp; omega)) rfl rfl (by decide) ?_
          refine TrOps.sem (OpSem.load1 rfl rfl vs3 rfl) rfl rfl (by decide) ?_
          refine TrOps.sem (OpSem.move (.inr rfl) rfl) rfl rfl (by decide) ?_
          refine TrOps.nil ?_
          refine At.seq ?_
          refine Tr.seq ?_
          refine Tr.region ?_
          refine TrOps.sem (OpSem.loadbN rfl rfl rfl vs29 (by first | decide | simp)) rfl rfl (by decide) ?_
          refine TrOps.sem (OpSem.build rfl rfl pl29 zc29 rfl rfl) rfl rfl (by decide) ?_
          refine TrOps.sem (OpSem.eqS2 rfl rfl rfl io29) rfl rfl (by decide) ?_
          refine TrOps.sem (OpSem.move (.inl rfl) rfl) rfl rfl (by decide) ?_
          refine TrOps.split (n := 35) rfl (fun c35 => ?_) (fun c35 => ?_)
          · refine TrOps.gT rfl rfl rfl rfl c35 ?_
            refine TrOps.sem (OpSem.move (.inl rfl) rfl) rfl rfl (by decide) ?_
            refine TrOps.gT rfl rfl rfl rfl c35 ?_
            refine TrOps.sem (OpSem.bin rfl rfl rfl blss) rfl rfl (by decide) ?_
            refine TrOps.gT rfl rfl rfl rfl c35 ?_
            refine TrOps.sem (OpSem.move (.inl rfl) rfl) rfl rfl (by decide) ?_
            refine TrOps.split (n := 38) rfl (fun c38 => ?_) (fun c38 => ?_)
            · refine TrOps.gF rfl rfl rfl rfl c38 rfl (by decide) ?_
              refine TrOps.gF rfl rfl rfl rfl c38 rfl (by decide) ?_
              refine TrOps.gF rfl rfl rfl rfl c38 rfl (by decide) ?_
              refine TrOps.gF rfl rfl rfl rfl c38 rfl (by decide) ?_
              refine TrOps.gT rfl rfl rfl rfl c35 ?_
              refine TrOps.sem (OpSem.pickT rfl rfl c38 rfl) rfl rfl (by decide) ?_
              refine TrOps.sem (OpSem.pickT rfl rfl c35 rfl) rfl rfl (by decide) ?_
              refine TrOps.nil ?_
              refine At.seq ?_
              refine Tr.condT rfl rfl ?_
              refine Tr.region ?_
              refine TrOps.sem (OpSem.build rfl rfl pl29 zc29 rfl rfl) rfl rfl (by decide) ?_
              refine TrOps.storeb rfl rfl rfl rfl rfl rfl rfl vs29 (by first | decide | simp) ?_
              refine TrOps.nil ?_
              refine At.block_normal ?_
              have he := outTo_1 (q := [x, y]) (pair0 (f := outTo (redF l c ex) c.length [x, y] k) (by simpa using c35)) (.inl (by simpa using c38))
              refine At.meet ?_
              exact .slot rfl (.refl _) <| .slot rfl (.refl _) <| .slot rfl (.refl _) <| .slot rfl (.refl _) <| .slot rfl (.refl _) <| .slot rfl (.refl _) <| .slot rfl (.refl _) <| .slot rfl (.refl _) <| .slot rfl (.refl _) <| .slot rfl (.refl _) <| .mem rfl <| .boxLe rfl (.cons (Le.i (congrArg Prod.fst (he))) <| .cons (Le.i (congrArg Prod.snd (he))) <| .nil) <| .nil
            · refine TrOps.gT rfl rfl rfl rfl c38 ?_
              refine TrOps.sem (OpSem.move (.inl rfl) rfl) rfl rfl (by decide) ?_
              refine TrOps.gT rfl rfl rfl rfl c38 ?_
              refine TrOps.sem (OpSem.move (.inl rfl) rfl) rfl rfl (by decide) ?_
              refine TrOps.gT rfl rfl rfl rfl c38 ?_
              refine TrOps.sem (OpSem.lenL rfl rfl es22) rfl rfl (by decide) ?_
              refine TrOps.gT rfl rfl rfl rfl c38 ?_
              refine TrOps.sem (OpSem.bin rfl rfl rfl bgeq) rfl rfl (by decide) ?_
              refine TrOps.gT rfl rfl rfl rfl c35 ?_
              refine TrOps.sem (OpSem.pickF rfl rfl c38 rfl) rfl rfl (by decide) ?_
              refine TrOps.sem (OpSem.pickT rfl rfl c35 rfl) rfl rfl (by decide) ?_
              refine TrOps.nil ?_
              refine At.seq ?_
              refine Tr.cond rfl (fun c44 => ?_) (fun c44 => ?_)
              · refine Tr.region ?_
                refine TrOps.sem (OpSem.build rfl rfl pl29 zc29 rfl rfl) rfl rfl (by decide) ?_
                refine TrOps.storeb rfl rfl rfl rfl rfl rfl rfl vs29 (by first | decide | simp) ?_
                refine TrOps.nil ?_
                refine At.block_normal ?_
                have he := outTo_1 (q := [x, y]) (pair0 (f := outTo (redF l c ex) c.length [x, y] k) (by simpa using c35)) (.inr (by simpa using c44))
                refine At.meet ?_
                exact .slot rfl (.refl _) <| .slot rfl (.refl _) <| .slot rfl (.refl _) <| .slot rfl (.refl _) <| .slot rfl (.refl _) <| .slot rfl (.refl _) <| .slot rfl (.refl _) <| .slot rfl (.refl _) <| .slot rfl (.refl _) <| .slot rfl (.refl _) <| .mem rfl <| .boxLe rfl (.cons (Le.i (congrArg Prod.fst (he))) <| .cons (Le.i (congrArg Prod.snd (he))) <| .nil) <| .nil
              · refine Tr.skip ?_
                refine At.block_normal ?_
                have he := outTo_0 (f := redF l c ex) (n := c.length) (q := [x, y]) (k := k) (fun h => by have := h.2; simp at c38 c44; omega)
                refine At.meet ?_
                exact .slot rfl (.refl _) <| .slot rfl (.refl _) <| .slot rfl (.refl _) <| .slot rfl (.refl _) <| .slot rfl (.refl _) <| .slot rfl (.refl _) <| .slot rfl (.refl _) <| .slot rfl (.refl _) <| .slot rfl (.refl _) <| .slot rfl (.refl _) <| .mem rfl <| .boxLe rfl (.cons (Le.i (congrArg Prod.fst (he))) <| .cons (Le.i (congrArg Prod.snd (he))) <| .nil) <| .nil
          · refine TrOps.gF rfl rfl rfl rfl c35 rfl (by decide) ?_
            refine TrOps.gF rfl rfl rfl rfl c35 rfl (by decide) ?_
            refine TrOps.gF rfl rfl rfl rfl c35 rfl (by decide) ?_
            refine TrOps.gU rfl rfl rfl rfl rfl (by decide) ?_
            refine TrOps.gU rfl rfl rfl rfl rfl (by decide) ?_
            refine TrOps.gU rfl rfl rfl rfl rfl (by decide) ?_
            refine TrOps.gU rfl rfl rfl rfl rfl (by decide) ?_
            refine TrOps.gF rfl rfl rfl rfl c35 rfl (by decide) ?_
            refine TrOps.sem (OpSem.pickF rfl rfl c35 rfl) rfl rfl (by decide) ?_
            refine TrOps.nil ?_
            refine At.seq ?_
            refine Tr.condF rfl rfl ?_
            refine Tr.skip ?_
            refine At.block_normal ?_
            have he := outTo_0 (f := redF l c ex) (n := c.length) (q := [x, y]) (k := k) (fun h => by rw [h.1] at c35; simp at c35)
            refine At.meet ?_
            exact .slot rfl (.refl _) <| .slot rfl (.refl _) <| .slot rfl (.refl _) <| .slot rfl (.refl _) <| .slot rfl (.refl _) <| .slot rfl (.refl _) <| .slot rfl (.refl _) <| .slot rfl (.refl _) <| .slot rfl (.refl _) <| .slot rfl (.refl _) <| .mem rfl <| .boxLe rfl (.cons (Le.i (congrArg Prod.fst (he))) <| .cons (Le.i (congrArg Prod.snd (he))) <| .nil) <| .nil
        · refine Tr.region ?_
          refine TrOps.sem (OpSem.bin rfl rfl rfl (badd (by omega) (by omega))) rfl rfl (by decide) ?_
          refine TrOps.sem (OpSem.move (.inl rfl) rfl) rfl rfl (by decide) ?_
          refine TrOps.nil ?_
          refine At.again (k + 1) (by omega) ?_ (by omega)
          exact .slot rfl (.refl _) <| .slot rfl (.refl _) <| .slot rfl (.refl _) <| .slot rfl (.refl _) <| .slot rfl (.refl _) <| .slot rfl (.refl _) <| .slot rfl (.refl _) <| .slot rfl (.refl _) <| .slot rfl (.refl _) <| .slot rfl (Le.of_eq (by simp)) <| .mem rfl <| .mem rfl <| .nil
      · have hk : k = 2 := by simp at c29; omega
        refine Tr.exit ?_
        refine At.pass_exit ?_
        refine At.pass_exit ?_
        refine At.block_same ?_
        refine At.seq ?_
        refine Tr.seq ?_
        refine Tr.seq ?_
        refine Tr.region ?_
        refine TrOps.sem (OpSem.loadbN rfl rfl rfl vs29 (by first | decide | simp)) rfl rfl (by decide) ?_
        refine TrOps.sem (OpSem.build rfl rfl pl29 zc29 rfl rfl) rfl rfl (by decide) ?_
        refine TrOps.sem (OpSem.neS2 rfl rfl rfl io29) rfl rfl (by decide) ?_
        refine TrOps.nil ?_
        refine At.seq ?_
        refine Tr.cond rfl (fun c49 => ?_) (fun c49 => ?_)
        · have hne : eqvF l c ex x y ≠ (0, 0) := fun h => by rw [← eqvF_out, ← hk] at h; simp [h] at c49
          refine Tr.seq ?_
          refine PC.start [] ?_
          refine PC.sem (OpSem.loadbN rfl rfl rfl vs29 (by first | decide | simp)) rfl rfl ?_
          refine PC.sem (OpSem.move (.inr rfl) rfl) rfl rfl ?_
          refine PC.done0 mixed (by kernel_rfl) (by kernel_rfl) (by kernel_rfl) (by kernel_rfl) (by kernel_rfl) ?_
          refine TrOps.storeb rfl rfl rfl rfl rfl rfl rfl vs29 (by first | decide | simp) ?_
          refine TrOps.nil ?_
          refine At.seq ?_
          refine Tr.ret ?_
          refine At.pass_ret ?_
          exact At.ret rfl (.tmp rfl <| .cellN rfl rfl vs29 <| .nil) rfl (Le.t (.cons (Le.bo (by simp [hne])) <| .cons (Le.flt (by rw [hk]; exact eqvF_out)) <| .nil))
        · have h0 : eqvF l c ex x y = (0, 0) := by rw [← eqvF_out, ← hk]; exact pair0 (by simpa using c49)
          have hok := eqvF_ok h0
          refine Tr.skip ?_
          refine At.seq ?_
          refine Tr.seq ?_
          refine PC.start [] ?_
          refine PC.sem (OpSem.move (.inl rfl) rfl) rfl rfl ?_
          refine PC.sem (OpSem.move (.inl rfl) rfl) rfl rfl ?_
          refine PC.sem (OpSem.move (.inl rfl) rfl) rfl rfl ?_
          refine PC.sem (OpSem.move (.inl rfl) rfl) rfl rfl ?_
          refine PC.sem (OpSem.move (.inl rfl) rfl) rfl rfl ?_
          refine PC.sem (OpSem.call0 (labels_equivalent_does l c ex x y hok.2.1 hok.2.2 (lab_arcs (redF_ok hok.1).1)) rfl rfl rfl rfl (Les.refl _)) rfl rfl ?_
          refine PC.sem (OpSem.loadbN rfl rfl rfl vs29 (by first | decide | simp)) rfl rfl ?_
          refine PC.sem (OpSem.move (.inr rfl) rfl) rfl rfl ?_
          refine PC.done0 mixed (by kernel_rfl) (by kernel_rfl) (by kernel_rfl) (by kernel_rfl) (by kernel_rfl) ?_
          refine TrOps.storeb rfl rfl rfl rfl rfl rfl rfl vs29 (by first | decide | simp) ?_
          refine TrOps.nil ?_
          refine At.seq ?_
          refine Tr.ret ?_
          exact At.ret rfl (.tmp rfl <| .cellN rfl rfl vs29 <| .nil) rfl (Le.t (.cons (Le.bo (by simp [h0])) <| .cons (Le.flt (by rw [hk]; exact eqvF_out)) <| .nil))

theorem Q_HasArc_does (a : Abs) (f x t : Int) : Does Try.prog false 71 [absS a, I (f), I (x), I (t)] (Bo (decide ((⟨f, x, t⟩ : Arc) ∈ a.arcs))) := by
  refine Does.of_body Try.func71 rfl rfl (by simp) Try.call71 (fun w0 O0 => ?_)
  refine Tr.lenG (n := 0) (i := 2) rfl rfl (fun len0_2 => ?_)
  refine Tr.lenG (n := 0) (i := 4) rfl rfl (fun len0_4 => ?_)
  refine Tr.seq ?_
  refine Tr.region ?_
  refine TrOps.semM (OpSem.box 4 rfl rfl rfl rfl) rfl rfl (by decide) ?_
  refine TrOps.sem (OpSem.move (.inr rfl) rfl) rfl rfl (by decide) ?_
  refine TrOps.nil ?_
  refine At.seq ?_
  refine Tr.seq ?_
  refine Tr.seq ?_
  refine Tr.region ?_
  refine TrOps.sem (OpSem.move (.inr rfl) rfl) rfl rfl (by decide) ?_
  refine TrOps.nil ?_
  refine At.seq ?_
  refine Tr.block ?_
  refine Tr.loop (X := Nat) (fun k => k ≤ a.arcs.length ∧ ∀ i : Nat, i < k → nth a.arcs i ≠ (⟨f, x, t⟩ : Arc)) (fun k => [(1, I (f)), (2, I (x)), (3, I (t)), (4, .r 4 0), (9, I (k))]) (fun k => [(4, .box [I (a.states), I (a.labels), .d (arcsD a.arcs), I (a.init), .d (ints a.goals)])]) (fun k => a.arcs.length - k) 0 ⟨by omega, by simp⟩ ?_ ?_
  · exact .slot rfl (.refl _) <| .slot rfl (.refl _) <| .slot rfl (.refl _) <| .slot rfl (.refl _) <| .slot rfl (Le.of_eq (by simp)) <| .mem rfl <| .nil
  · rintro k ⟨hkl, hinv⟩
    refine Tr.seq ?_
    refine Tr.seq ?_
    refine Tr.region ?_
    refine TrOps.sem (OpSem.move (.inl rfl) rfl) rfl rfl (by decide) ?_
    refine TrOps.sem (OpSem.fieldr rfl rfl fo46_2) rfl rfl (by decide) ?_
    refine TrOps.sem (OpSem.loadb1 rfl rfl rfl vs44 rfl) rfl rfl (by decide) ?_
    refine TrOps.sem (OpSem.lenL rfl rfl es44) rfl rfl (by decide) ?_
    refine TrOps.sem (OpSem.bin rfl rfl rfl blss) rfl rfl (by decide) ?_
    refine TrOps.nil ?_
    refine At.seq ?_
    refine Tr.cond rfl (fun c14 => ?_) (fun c14 => ?_)
    · have hk : k < a.arcs.length := by simpa using c14
      refine Tr.skip ?_
      refine At.seq ?_
      refine Tr.seq ?_
      refine Tr.block ?_
      refine Tr.seq ?_
      refine Tr.region ?_
      refine TrOps.sem (OpSem.fieldr rfl rfl fo46_2) rfl rfl (by decide) ?_
      refine TrOps.sem (OpSem.loadb1 rfl rfl rfl vs44 rfl) rfl rfl (by decide) ?_
      refine TrOps.sem (OpSem.move (.inl rfl) rfl) rfl rfl (by decide) ?_
      refine TrOps.sem (OpSem.idxL rfl rfl rfl es44 (by omega) (by omega)) rfl rfl (by decide) ?_
      refine TrOps.sem (OpSem.loadN rfl rfl vs93 (by first | decide | simp) rfl) rfl rfl (by decide) ?_
      refine TrOps.sem (OpSem.move (.inl rfl) rfl) rfl rfl (by decide) ?_
      refine TrOps.sem (OpSem.move (.inl rfl) rfl) rfl rfl (by decide) ?_
      refine TrOps.sem (OpSem.move (.inl rfl) rfl) rfl rfl (by decide) ?_
      refine TrOps.sem (OpSem.build rfl rfl pl93 zc93 rfl rfl) rfl rfl (by decide) ?_
      refine TrOps.sem (OpSem.eqS3 rfl rfl rfl io93) rfl rfl (by decide) ?_
      refine TrOps.nil ?_
      refine At.seq ?_
      refine Tr.cond rfl (fun c26 => ?_) (fun c26 => ?_)
      · have hb : nth a.arcs k = (⟨f, x, t⟩ : Arc) := arc_ext (by simp at c26; exact c26.1) (by simp at c26; exact c26.2.1) (by simp at c26; exact c26.2.2)
        refine Tr.seq ?_
        refine Tr.region ?_
        refine TrOps.sem (OpSem.move (.inr rfl) rfl) rfl rfl (by decide) ?_
        refine TrOps.nil ?_
        refine At.seq ?_
        refine Tr.ret ?_
        refine At.block_ret ?_
        refine At.pass_ret ?_
        refine At.pass_ret ?_
        refine At.block_ret ?_
        refine At.pass_ret ?_
        exact At.ret rfl (.tmp rfl <| .nil) rfl (Le.bo (decide_eq_true (by rw [← hb]; exact nth_mem (by omega) (by omega))).symm)
      · have hb : nth a.arcs k ≠ (⟨f, x, t⟩ : Arc) := fun h => by rw [h] at c26; simp at c26
        refine Tr.skip ?_
        refine At.block_normal ?_
        refine At.seq ?_
        refine Tr.region ?_
        refine TrOps.sem (OpSem.move (.inl rfl) rfl) rfl rfl (by decide) ?_
        refine TrOps.sem (OpSem.bin rfl rfl rfl (badd (by omega) (by omega))) rfl rfl (by decide) ?_
        refine TrOps.sem (OpSem.move (.inr rfl) rfl) rfl rfl (by decide) ?_
        refine TrOps.nil ?_
        refine At.again (k + 1) ⟨by omega, all_succ hinv hb⟩ ?_ (by omega)
        exact .slot rfl (.refl _) <| .slot rfl (.refl _) <| .slot rfl (.refl _) <| .slot rfl (.refl _) <| .slot rfl (Le.of_eq (by simp)) <| .mem rfl <| .nil
    · have hk : k = a.arcs.length := by simp at c14; omega
      refine Tr.exit ?_
      refine At.pass_exit ?_
      refine At.pass_exit ?_
      refine At.block_same ?_
      refine At.seq ?_
      refine Tr.seq ?_
      refine Tr.region ?_
      refine TrOps.sem (OpSem.move (.inr rfl) rfl) rfl rfl (by decide) ?_
      refine TrOps.nil ?_
      refine At.seq ?_
      refine Tr.ret ?_
      exact At.ret rfl (.tmp rfl <| .nil) rfl (Le.bo (decide_eq_false (fun h => by obtain ⟨i, hi, he⟩ := List.getElem_of_mem h; exact hinv i (by omega) (by rw [nth_eq hi, he]))).symm)

end Go.Proofs.Ytohlmcebphcokaa
end

section
/- Walks, written by gen.py out of hints. -/










set_option linter.unusedVariables false
set_option linter.unusedSimpArgs false
namespace Go.Proofs.Ytohlmcebphcokaa
open Go.Eng
set_option maxRecDepth 10000
set_option maxHeartbeats 1000000


open Go.Shelf Go.RowKit Go.Lib
theorem or3 (x y z : Int) (b : Nat) (w : World) (h0 : w.cell? ⟨b, 0, none⟩ = some (.int .i64 x)) (h1 : w.cell? ⟨b, 1, none⟩ = some (.int .i64 y)) (h2 : w.cell? ⟨b, 2, none⟩ = some (.int .i64 z)) :
    Calls Try.prog 108 #[.slice (some ⟨b, 0, none⟩) 3 3] w fun e w' => e = .returned (.int .i64 (if x ≠ 0 then x else if y ≠ 0 then y else z)) ∧ w' = w := by
  by_cases hx : x = 0
  · subst hx
    by_cases hy : y = 0
    · subst hy
      by_cases hz : z = 0
      · subst hz
        go_enter Try.func108, Try.ntmps108
        go_wp2
        refine wp_loop_rounds 4 ?_
        rw [rounds_succ]
        go_wp2
        rw [rounds_succ]
        go_wp2
        rw [rounds_succ]
        go_wp2
        rw [rounds_succ]
        go_wp2
        go_ret
        exact ⟨by simp, rfl⟩
      · go_enter Try.func108, Try.ntmps108
        go_wp2
        refine wp_loop_rounds 4 ?_
        rw [rounds_succ]
        go_wp2
        rw [rounds_succ]
        go_wp2
        rw [rounds_succ]
        go_wp2
        go_ret
        exact ⟨by simp, rfl⟩
    · go_enter Try.func108, Try.ntmps108
      go_wp2
      refine wp_loop_rounds 4 ?_
      rw [rounds_succ]
      go_wp2
      rw [rounds_succ]
      go_wp2
      go_ret
      exact ⟨by simp [hy], rfl⟩
  · go_enter Try.func108, Try.ntmps108
    go_wp2
    refine wp_loop_rounds 4 ?_
    rw [rounds_succ]
    go_wp2
    go_ret
    exact ⟨by simp [hx], rfl⟩
theorem cmp3 (x y : Int) (w : World) : Calls Try.prog 109 #[.int .i64 x, .int .i64 y] w fun e w' => e = .returned (.int .i64 (cmpI x y)) ∧ w' = w := by
  have hn : ∀ (z : Int) (w : World), Calls Try.prog 116 #[.int .i64 z] w fun e w' => e = .returned (.bool false) ∧ w' = w := by
    intro z w
    go_enter Try.func116, Try.ntmps116
    go_wp2
    go_ret
    exact ⟨by simp, rfl⟩
  rcases Int.lt_trichotomy x y with h | h | h
  · go_enter Try.func109, Try.ntmps109
    go_wp2_with (go_at_call 116; refine (hn _ _).mono ?_; rintro e w' ⟨rfl, rfl⟩)
    all_goals go_ret
    all_goals exact ⟨by first | rfl | (unfold cmpI; simp; omega) | (simp at *; omega), rfl⟩
  · subst h
    go_enter Try.func109, Try.ntmps109
    go_wp2_with (go_at_call 116; refine (hn _ _).mono ?_; rintro e w' ⟨rfl, rfl⟩)
    all_goals go_ret
    all_goals exact ⟨by first | rfl | (unfold cmpI; simp) | (simp at *; omega), rfl⟩
  · go_enter Try.func109, Try.ntmps109
    go_wp2_with (go_at_call 116; refine (hn _ _).mono ?_; rintro e w' ⟨rfl, rfl⟩)
    all_goals go_ret
    all_goals exact ⟨by first | rfl | (unfold cmpI; simp; omega) | (simp at *; omega), rfl⟩
theorem or3' (x y z c : Int) (hc : (if x ≠ 0 then x else if y ≠ 0 then y else z) = c) (b : Nat) (w : World) (h0 : w.cell? ⟨b, 0, none⟩ = some (.int .i64 x)) (h1 : w.cell? ⟨b, 1, none⟩ = some (.int .i64 y)) (h2 : w.cell? ⟨b, 2, none⟩ = some (.int .i64 z)) :
    Calls Try.prog 108 #[.slice (some ⟨b, 0, none⟩) 3 3] w fun e w' => e = .returned (.int .i64 c) ∧ w' = w := by
  subst hc; exact or3 x y z b w h0 h1 h2
theorem cell3 (W : World) (A B : Obj) (vs : Array Value) (T i : Nat) (v : Value) (h : vs[i]? = some v) : (((W.alloc A).alloc B).alloc (.cells vs T)).drew.cell? ⟨W.heap.size + 1 + 1, i, none⟩ = some v := by
  have hb : (((W.heap.push A).push B).push (.cells vs T))[W.heap.size + 1 + 1]? = some (.cells vs T) := by
    rw [Array.getElem?_push, if_pos (by simp)]
  unfold World.cell? World.drew World.alloc
  simp only [hb]
  exact h
theorem compare3 (x y : Arc) (W : World) : Calls Try.prog 87 #[.agg #[.int .i64 x.fr, .int .i64 x.lab, .int .i64 x.to], .agg #[.int .i64 y.fr, .int .i64 y.lab, .int .i64 y.to]] W fun e w' => e = .returned (.int .i64 (cmpArc x y)) ∧ ∃ q os', w' = _root_.Go.Sort.grow (W.drewN q) os' := by
  have hr : (if cmpI x.fr y.fr ≠ 0 then cmpI x.fr y.fr else if cmpI x.lab y.lab ≠ 0 then cmpI x.lab y.lab else cmpI x.to y.to) = cmpArc x y := by
    unfold cmpArc orI
    simp only [List.find?_cons, List.find?_nil]
    by_cases h1 : cmpI x.fr y.fr = 0 <;> by_cases h2 : cmpI x.lab y.lab = 0 <;> by_cases h3 : cmpI x.to y.to = 0 <;> simp [h1, h2, h3]
  go_enter Try.func87, Try.ntmps87
  go_upto_region 1 with fail
  go_region_held3 (fun w' => w'.cell? ⟨W.heap.size, 0, none⟩ = some (.int .i64 x.fr) ∧ w'.cell? ⟨W.heap.size, 1, none⟩ = some (.int .i64 x.lab) ∧ w'.cell? ⟨W.heap.size, 2, none⟩ = some (.int .i64 x.to) ∧ w'.cell? ⟨W.heap.size + 1, 0, none⟩ = some (.int .i64 y.fr) ∧ w'.cell? ⟨W.heap.size + 1, 1, none⟩ = some (.int .i64 y.lab) ∧ w'.cell? ⟨W.heap.size + 1, 2, none⟩ = some (.int .i64 y.to)) (go_keep)
    (first | (go_at_call 109; refine (cmp3 _ _ _).mono ?_; rintro e w' ⟨rfl, rfl⟩) | (go_at_call 108; refine (or3' (cmpI x.fr y.fr) (cmpI x.lab y.lab) (cmpI x.to y.to) (cmpArc x y) hr _ _ ?_ ?_ ?_).mono ?_; exact cell3 _ _ _ _ _ _ _ rfl; exact cell3 _ _ _ _ _ _ _ rfl; exact cell3 _ _ _ _ _ _ _ rfl; rintro e w' ⟨rfl, rfl⟩))

  go_wp2
  go_ret

  exact ⟨by simp, 1, _, by rw [Go.Sort.alloc_eq_grow, Go.Sort.alloc_eq_grow, Go.Sort.alloc_eq_grow, Go.Sort.grow_grow, Go.Sort.grow_grow, Go.Sort.drew_grow]; rfl⟩

shelf_lay_g SlLaysF0.n6 Slsf 6 at Try 104 as Try.sortArc
def arcEnc (x : Arc) : List Value := [.int .i64 x.fr, .int .i64 x.lab, .int .i64 x.to]
theorem sortArc_W (l : List Arc) (hl : l.length < 4611686018427387904) : DoesWS Try.prog 104 (fun v => [v, .func (.func 87) #[] #[]]) (.tuple #[]) 3 93 (l.map arcC) ((sortL l).map arcC) :=
  sortFunc_W (α := Arc) Try.sortArc 3 93 Try.isAgg93 Try.sizeOf93 arcEnc (fun _ => rfl) (fun x v hv => by simp [arcEnc] at hv; rcases hv with rfl | rfl | rfl <;> rfl) cmpArc ltArc_swo ltArc_tot 87 (enters_of Try.func87 (by kernel_rfl) rfl) (fun _ _ _ _ _ _ _ _ x y => compare3 x y _) Try.call104 l hl


end Go.Proofs.Ytohlmcebphcokaa
end

section
/- Walks, written by gen.py out of hints. -/



set_option linter.unusedVariables false
set_option linter.unusedSimpArgs false
namespace Go.Proofs.Ytohlmcebphcokaa
open Go.Eng
set_option maxRecDepth 10000
set_option maxHeartbeats 1000000

theorem slices_Compact_Arc_Arc_W (l : List Arc) (hne : l ≠ []) (hml : (l.length : Int) ≤ 9223372036854775807) : DoesW Try.prog 105 (fun v => [v]) (fun v => v) 3 93 (l.map arcC) ((dd l).map arcC) := by
  have hpos : 0 < l.length := List.length_pos_iff.2 hne
  refine DoesW.of_body (as_ := [.o 0]) Try.func105 rfl rfl (by simp) Try.call105 (fun _ => rfl) (by intro O H w h1 i x s hx hs; rcases i with _ | i <;> simp at hx hs; subst hx; subst hs; exact .o 0 h1) (by simpa using hne) (by simpa using dd_ne hne) (fun O0 Oc W => ?_)
  refine Tr.seq ?_
  refine Tr.region ?_
  refine TrOps.sem (OpSem.move (.inr rfl) rfl) rfl rfl (by decide) ?_
  refine TrOps.nil ?_
  refine At.seq ?_
  refine Tr.seq ?_
  refine Tr.seq ?_
  refine Tr.region ?_
  refine TrOps.sem (OpSem.move (.inl rfl) rfl) rfl rfl (by decide) ?_
  refine TrOps.sem (OpSem.leno rfl rfl rfl es44) rfl rfl (by decide) ?_
  refine TrOps.sem (OpSem.bin rfl rfl rfl blss) rfl rfl (by decide) ?_
  refine TrOps.nil ?_
  refine At.seq ?_
  refine Tr.cond rfl (fun c8 => ?_) (fun c8 => ?_)
  · have hlt : l.length < 2 := by simp at c8; omega
    refine Tr.seq ?_
    refine Tr.region ?_
    refine TrOps.sem (OpSem.move (.inl rfl) rfl) rfl rfl (by decide) ?_
    refine TrOps.sem (OpSem.move (.inr rfl) rfl) rfl rfl (by decide) ?_
    refine TrOps.nil ?_
    refine At.seq ?_
    refine Tr.ret ?_
    refine At.pass_ret ?_
    exact At.retW rfl (.tmp rfl <| .nil) rfl rfl (by simp [plainB]) (by rw [dd_one hlt]) (fun H => rfl)
  · have hge : 2 ≤ l.length := by simp at c8; omega
    refine Tr.skip ?_
    refine At.seq ?_
    refine Tr.seq ?_
    refine Tr.seq ?_
    refine Tr.region ?_
    refine TrOps.sem (OpSem.move (.inr rfl) rfl) rfl rfl (by decide) ?_
    refine TrOps.nil ?_
    refine At.seq ?_
    refine Tr.block ?_
    refine Tr.loop (X := Nat) (fun k => 1 ≤ k ∧ k ≤ l.length ∧ ∀ i : Nat, 0 < i → i < k → nth l i ≠ nth l (i - 1 : Int)) (fun k => [(0, .o 0), (3, I (k))]) (fun k => [(0, .own 3 93 (l.map arcC)), (1000, .fr (frK Oc W))]) (fun k => l.length - k) 1 ⟨by omega, by omega, fun i h0 h1 => by omega⟩ ?_ ?_
    · exact .slot rfl (.refl _) <| .slot rfl (.refl _) <| .mem rfl <| .mem rfl <| .nil
    · rintro k ⟨hk1, hkl, hinv⟩
      refine Tr.seq ?_
      refine Tr.seq ?_
      refine Tr.region ?_
      refine TrOps.sem (OpSem.move (.inl rfl) rfl) rfl rfl (by decide) ?_
      refine TrOps.sem (OpSem.move (.inl rfl) rfl) rfl rfl (by decide) ?_
      refine TrOps.sem (OpSem.leno rfl rfl rfl es44) rfl rfl (by decide) ?_
      refine TrOps.sem (OpSem.bin rfl rfl rfl blss) rfl rfl (by decide) ?_
      refine TrOps.nil ?_
      refine At.seq ?_
      refine Tr.cond rfl (fun c13 => ?_) (fun c13 => ?_)
      · have hk : k < l.length := by simpa using c13
        refine Tr.skip ?_
        refine At.seq ?_
        refine Tr.seq ?_
        refine Tr.block ?_
        refine Tr.seq ?_
        refine PC.start [] ?_
        refine PC.sem (OpSem.move (.inl rfl) rfl) rfl rfl ?_
        refine PC.sem (OpSem.move (.inl rfl) rfl) rfl rfl ?_
        refine PC.sem (OpSem.idxo rfl rfl rfl rfl es44 (by omega) (by simp; omega)) rfl rfl ?_
        refine PC.sem (OpSem.loadqN (r := arcC (nth l k)) rfl rfl rfl vs93 (arcs_at (by omega) (by omega))) rfl rfl ?_
        refine PC.sem (OpSem.move (.inl rfl) rfl) rfl rfl ?_
        refine PC.sem (OpSem.move (.inl rfl) rfl) rfl rfl ?_
        refine PC.sem (OpSem.bin rfl rfl rfl (bsub (by omega) (by omega))) rfl rfl ?_
        refine PC.sem (OpSem.idxo rfl rfl rfl rfl es44 (by omega) (by simp; omega)) rfl rfl ?_
        refine PC.sem (OpSem.loadqN (r := arcC (nth l (k - 1 : Int))) rfl rfl rfl vs93 (arcs_at (by omega) (by omega))) rfl rfl ?_
        refine PC.done0 mixed (by kernel_rfl) (by kernel_rfl) (by kernel_rfl) (by kernel_rfl) (by kernel_rfl) ?_
        refine TrOps.sem (OpSem.eqS3 rfl rfl rfl io93) rfl rfl (by decide) ?_
        refine TrOps.nil ?_
        refine At.seq ?_
        refine Tr.cond rfl (fun c25 => ?_) (fun c25 => ?_)
        · have hdu : nth l k = nth l (k - 1 : Int) := arc_ext3 (by simpa using c25)
          have hk0 : (ddTo l (k + 1)).length = k := by rw [show ddTo l (k + 1) = ddTo l k from if_pos ⟨by omega, hdu⟩, ddTo_take (by omega) hinv]; simp; omega
          refine Tr.seq ?_
          refine Tr.region ?_
          refine TrOps.sem (OpSem.move (.inl rfl) rfl) rfl rfl (by decide) ?_
          refine TrOps.sem (OpSem.move (.inl rfl) rfl) rfl rfl (by decide) ?_
          refine TrOps.sem (OpSem.sliceoL rfl rfl rfl rfl es44 (by omega) (by simp; omega)) rfl rfl (by decide) ?_
          refine TrOps.sem (OpSem.move (.inr rfl) rfl) rfl rfl (by decide) ?_
          refine TrOps.nil ?_
          refine At.seq ?_
          refine Tr.seq ?_
          refine Tr.seq ?_
          refine Tr.region ?_
          refine TrOps.sem (OpSem.move (.inr rfl) rfl) rfl rfl (by decide) ?_
          refine TrOps.nil ?_
          refine At.seq ?_
          refine Tr.block ?_
          refine Tr.loop (X := Nat) (fun j => k + j + 1 ≤ l.length) (fun j => [(0, .o 0), (3, I (((ddTo l (k + j + 1)).length : Int))), (4, .w 0 3 k (l.length - k)), (5, I (((j + 1 : Nat) : Int)))]) (fun j => [(0, .own 3 93 ((dmTo l k j).map arcC)), (1000, .fr (frK Oc W))]) (fun j => l.length - (k + j + 1)) 0 (by omega) ?_ ?_
          · exact .slot rfl (.refl _) <| .slot rfl (Le.i (by rw [Nat.add_zero, hk0])) <| .slot rfl (Le.of_eq (by simp)) <| .slot rfl (Le.of_eq (by simp)) <| .memEq rfl (by simp [dmTo]) <| .mem rfl <| .nil
          · rintro j hjl
            refine Tr.seq ?_
            refine Tr.seq ?_
            refine Tr.region ?_
            refine TrOps.sem (OpSem.move (.inl rfl) rfl) rfl rfl (by decide) ?_
            refine TrOps.sem (OpSem.move (.inl rfl) rfl) rfl rfl (by decide) ?_
            refine TrOps.sem (OpSem.lenw rfl rfl es44) rfl rfl (by decide) ?_
            refine TrOps.sem (OpSem.bin rfl rfl rfl blss) rfl rfl (by decide) ?_
            refine TrOps.nil ?_
            refine At.seq ?_
            refine Tr.cond rfl (fun c32 => ?_) (fun c32 => ?_)
            · have hj : k + j + 1 < l.length := by simp at c32; omega
              have hdl := dk_len (by omega) hdu (j := j)
              have a1 := dmTo_at (by omega) hdu (i := k + j + 1) (j := j) (by omega)
              have a2 := dmTo_at (by omega) hdu (i := k + j) (j := j) (by omega)
              refine Tr.skip ?_
              refine At.seq ?_
              refine Tr.seq ?_
              refine Tr.block ?_
              refine Tr.seq ?_
              refine PC.start [] ?_
              refine PC.sem (OpSem.move (.inl rfl) rfl) rfl rfl ?_
              refine PC.sem (OpSem.move (.inl rfl) rfl) rfl rfl ?_
              refine PC.sem (OpSem.idxw rfl rfl rfl es44 (by omega) (by omega)) rfl rfl ?_
              refine PC.sem (OpSem.loadqN (r := arcC (nth l (k + j + 1 : Nat))) rfl rfl rfl vs93 (arcs_dm a1 (by rw [dmTo_len]; omega) (by omega))) rfl rfl ?_
              refine PC.sem (OpSem.move (.inl rfl) rfl) rfl rfl ?_
              refine PC.sem (OpSem.move (.inl rfl) rfl) rfl rfl ?_
              refine PC.sem (OpSem.bin rfl rfl rfl (bsub (by omega) (by omega))) rfl rfl ?_
              refine PC.sem (OpSem.idxw rfl rfl rfl es44 (by omega) (by omega)) rfl rfl ?_
              refine PC.sem (OpSem.loadqN (r := arcC (nth l (k + j : Nat))) rfl rfl rfl vs93 (arcs_dm a2 (by rw [dmTo_len]; omega) (by omega))) rfl rfl ?_
              refine PC.done0 mixed (by kernel_rfl) (by kernel_rfl) (by kernel_rfl) (by kernel_rfl) (by kernel_rfl) ?_
              refine TrOps.sem (OpSem.neS3 rfl rfl rfl io93) rfl rfl (by decide) ?_
              refine TrOps.nil ?_
              refine At.seq ?_
              refine Tr.cond rfl (fun c44 => ?_) (fun c44 => ?_)
              · have hnq : nth l (k + j + 1 : Nat) ≠ nth l (k + j : Nat) := fun h => by rw [h] at c44; simp at c44
                refine Tr.seq ?_
                refine Tr.region ?_
                refine TrOps.sem (OpSem.move (.inl rfl) rfl) rfl rfl (by decide) ?_
                refine TrOps.sem (OpSem.move (.inl rfl) rfl) rfl rfl (by decide) ?_
                refine TrOps.sem (OpSem.move (.inl rfl) rfl) rfl rfl (by decide) ?_
                refine TrOps.sem (OpSem.move (.inl rfl) rfl) rfl rfl (by decide) ?_
                refine TrOps.sem (OpSem.idxw rfl rfl rfl es44 (by omega) (by omega)) rfl rfl (by decide) ?_
                refine TrOps.sem (OpSem.loadqN (r := arcC (nth l (k + j + 1 : Nat))) rfl rfl rfl vs93 (arcs_dm a1 (by rw [dmTo_len]; omega) (by omega))) rfl rfl (by decide) ?_
                refine TrOps.sem (OpSem.idxo rfl rfl rfl rfl es44 (by omega) (by simp [dmTo_len]; omega)) rfl rfl (by decide) ?_
                refine TrOps.ofSt0 (OpSt.storeqN (r' := arcC (nth l (k + j + 1 : Nat))) rfl rfl rfl rfl vs93 (by simp [dmTo_len]; omega) rfl) rfl rfl rfl ?_
                refine TrOps.nil ?_
                refine At.seq ?_
                refine Tr.region ?_
                refine TrOps.sem (OpSem.move (.inl rfl) rfl) rfl rfl (by decide) ?_
                refine TrOps.sem (OpSem.bin rfl rfl rfl (badd (by omega) (by omega))) rfl rfl (by decide) ?_
                refine TrOps.sem (OpSem.move (.inr rfl) rfl) rfl rfl (by decide) ?_
                refine TrOps.nil ?_
                refine At.block_normal ?_
                refine At.seq ?_
                refine Tr.region ?_
                refine TrOps.sem (OpSem.move (.inl rfl) rfl) rfl rfl (by decide) ?_
                refine TrOps.sem (OpSem.bin rfl rfl rfl (badd (by omega) (by omega))) rfl rfl (by decide) ?_
                refine TrOps.sem (OpSem.move (.inr rfl) rfl) rfl rfl (by decide) ?_
                refine TrOps.nil ?_
                refine At.again (j + 1) (by omega) ?_ (by omega)
                exact .slot rfl (.refl _) <| .slot rfl (Le.i (by rw [ddTo_step (by omega) hdu, if_neg hnq]; simp)) <| .slot rfl (.refl _) <| .slot rfl (Le.i (by omega)) <| .memEq rfl (by rw [dmTo_s (k := k) (j := j) hnq]; exact congrArg _ (map_set3 (L := dmTo l k j) (n := (ddTo l (k + j + 1)).length) (by rw [dmTo_len (l := l) (k0 := k) (j := j)]; omega)).symm) <| .mem rfl <| .nil
              · have hq : nth l (k + j + 1 : Nat) = nth l (k + j : Nat) := arc_ext3 (by simpa using c44)
                refine Tr.skip ?_
                refine At.block_normal ?_
                refine At.seq ?_
                refine Tr.region ?_
                refine TrOps.sem (OpSem.move (.inl rfl) rfl) rfl rfl (by decide) ?_
                refine TrOps.sem (OpSem.bin rfl rfl rfl (badd (by omega) (by omega))) rfl rfl (by decide) ?_
                refine TrOps.sem (OpSem.move (.inr rfl) rfl) rfl rfl (by decide) ?_
                refine TrOps.nil ?_
                refine At.again (j + 1) (by omega) ?_ (by omega)
                exact .slot rfl (.refl _) <| .slot rfl (Le.i (by rw [ddTo_step (by omega) hdu, if_pos hq])) <| .slot rfl (.refl _) <| .slot rfl (Le.i (by omega)) <| .memEq rfl (by rw [dmTo_e (k := k) (j := j) hq]) <| .mem rfl <| .nil
            · have hj : k + j + 1 = l.length := by simp at c32; omega
              have hdl := dk_len (by omega) hdu (j := j)
              refine Tr.exit ?_
              refine At.pass_exit ?_
              refine At.pass_exit ?_
              refine At.block_same ?_
              refine At.seq ?_
              refine Tr.seq ?_
              refine Tr.region ?_
              refine TrOps.sem (OpSem.move (.inl rfl) rfl) rfl rfl (by decide) ?_
              refine TrOps.sem (OpSem.move (.inl rfl) rfl) rfl rfl (by decide) ?_
              refine TrOps.sem (OpSem.sliceoL rfl rfl rfl rfl es44 (by omega) (by simp [dmTo_len]; omega)) rfl rfl (by decide) ?_
              refine TrOps.ofSt0 (OpSt.clearW rfl rfl es44 ze44 rfl rfl (by decide) (by simp [dmTo_len]; omega)) rfl rfl rfl ?_
              refine TrOps.nil ?_
              refine At.seq ?_
              refine Tr.seq ?_
              refine Tr.region ?_
              refine TrOps.sem (OpSem.move (.inl rfl) rfl) rfl rfl (by decide) ?_
              refine TrOps.sem (OpSem.move (.inl rfl) rfl) rfl rfl (by decide) ?_
              refine TrOps.semM (OpSem.cutO rfl rfl rfl rfl es44 (by omega) (by simp [dmTo_len]; omega) (by simp [dmTo_len]; omega)) rfl rfl (by decide) ?_
              refine TrOps.sem (OpSem.move (.inr rfl) rfl) rfl rfl (by decide) ?_
              refine TrOps.nil ?_
              refine At.seq ?_
              refine Tr.ret ?_
              refine At.block_ret ?_
              refine At.pass_ret ?_
              refine At.pass_ret ?_
              refine At.block_ret ?_
              refine At.pass_ret ?_
              exact At.retW rfl (.tmp rfl <| .nil) rfl rfl (by rw [cut_dd (by omega) hdu hk hinv hj]; exact plain_arcs _) (cut_dd (by omega) hdu hk hinv hj) (fun H => rfl)
        · have hdu : nth l k ≠ nth l (k - 1 : Int) := fun h => by rw [h] at c25; simp at c25
          refine Tr.skip ?_
          refine At.block_normal ?_
          refine At.seq ?_
          refine Tr.region ?_
          refine TrOps.sem (OpSem.move (.inl rfl) rfl) rfl rfl (by decide) ?_
          refine TrOps.sem (OpSem.bin rfl rfl rfl (badd (by omega) (by omega))) rfl rfl (by decide) ?_
          refine TrOps.sem (OpSem.move (.inr rfl) rfl) rfl rfl (by decide) ?_
          refine TrOps.nil ?_
          refine At.again (k + 1) ⟨by omega, by omega, fun i h0 hi => by by_cases h : i = k; (subst h; exact hdu); exact hinv i h0 (by omega)⟩ ?_ (by omega)
          exact .slot rfl (.refl _) <| .slot rfl (Le.i (by omega)) <| .mem rfl <| .mem rfl <| .nil
      · have hk : k = l.length := by simp at c13; omega
        refine Tr.exit ?_
        refine At.pass_exit ?_
        refine At.pass_exit ?_
        refine At.block_same ?_
        refine At.seq ?_
        refine Tr.seq ?_
        refine Tr.region ?_
        refine TrOps.sem (OpSem.move (.inl rfl) rfl) rfl rfl (by decide) ?_
        refine TrOps.sem (OpSem.move (.inr rfl) rfl) rfl rfl (by decide) ?_
        refine TrOps.nil ?_
        refine At.seq ?_
        refine Tr.ret ?_
        exact At.retW rfl (.tmp rfl <| .nil) rfl rfl (by simp [plainB]) (by rw [dd_all (by rw [← hk]; exact hinv)]) (fun H => rfl)

end Go.Proofs.Ytohlmcebphcokaa
end

section
/- Walks, written by gen.py out of hints. -/


set_option linter.unusedVariables false
set_option linter.unusedSimpArgs false
namespace Go.Proofs.Ytohlmcebphcokaa
open Go.Eng
set_option maxRecDepth 10000
set_option maxHeartbeats 1000000

theorem abstraction_Sorted_W (l : List Arc) (st lab ini : Int) (gv : Value) (hgv : gv.oneCell' = true) (hne : l ≠ []) (hml : (l.length : Int) < 4611686018427387904) : DoesW Try.prog 74 (fun v => [.agg #[.int .i64 st, .int .i64 lab, v, .int .i64 ini, gv]]) (fun v => .agg #[.int .i64 st, .int .i64 lab, v, .int .i64 ini, gv]) 3 93 (l.map arcC) ((dd (sortL l)).map arcC) := by
  have hsn : sortL l ≠ [] := fun h => hne (List.length_eq_zero_iff.1 (by rw [← sortL_len, h]; rfl))
  refine DoesW.of_body (as_ := [.g [I (st), I (lab), .o 0, I (ini), .d (.v gv)]]) Try.func74 rfl rfl (by simp) Try.call74 (fun _ => rfl) (by intro O H w h1 i x s hx hs; rcases i with _ | i <;> simp at hx hs; subst hx; subst hs; exact repAbsV h1 hgv) (by simpa using hne) (by simpa using dd_ne hsn) (fun O0 Oc W => ?_)
  refine Tr.seq ?_
  refine Tr.region ?_
  refine TrOps.semM (OpSem.box 1 rfl rfl rfl rfl) rfl rfl (by decide) ?_
  refine TrOps.semM (OpSem.alloc 2 rfl zc46 rfl) rfl rfl (by decide) ?_
  refine TrOps.nil ?_
  refine At.seq ?_
  refine Tr.seq ?_
  refine Tr.region ?_
  refine TrOps.sem (OpSem.fieldr rfl rfl fo46_2) rfl rfl (by decide) ?_
  refine TrOps.sem (OpSem.loadb1 rfl rfl rfl vs44 rfl) rfl rfl (by decide) ?_
  refine TrOps.ofSt (OpSt.callWS (s := .t []) (sortArc_W l (by omega)) rfl rfl rfl (fun H => rfl) (plain_arcs _) (fun O H w => .t [] [] rfl (fun i x s h => by simp at h))) rfl rfl rfl (by decide) ?_
  refine TrOps.nil ?_
  refine At.seq ?_
  refine Tr.seq ?_
  refine Tr.region ?_
  refine TrOps.sem (OpSem.fieldr rfl rfl fo46_2) rfl rfl (by decide) ?_
  refine TrOps.sem (OpSem.loadb1 rfl rfl rfl vs44 rfl) rfl rfl (by decide) ?_
  refine TrOps.callW (s := .o 0) (slices_Compact_Arc_Arc_W (sortL l) hsn (by rw [sortL_len]; omega)) rfl rfl rfl (by decide) rfl rfl rfl (fun H => rfl) (plain_arcs _) (fun O H w h1 => .o 0 h1) ?_
  refine TrOps.sem (OpSem.fieldr rfl rfl fo46_2) rfl rfl (by decide) ?_
  refine TrOps.storeb rfl rfl rfl rfl rfl rfl rfl vs44 (by first | decide | simp) ?_
  refine TrOps.nil ?_
  refine At.seq ?_
  refine Tr.seq ?_
  refine Tr.region ?_
  refine TrOps.sem (OpSem.loadbN rfl rfl rfl vs46 (by first | decide | simp)) rfl rfl (by decide) ?_
  refine TrOps.storeb rfl rfl rfl rfl rfl rfl rfl vs46 (by first | decide | simp) ?_
  refine TrOps.nil ?_
  refine At.seq ?_
  refine Tr.ret ?_
  exact At.retW rfl (.cellN rfl rfl vs46 <| .nil) rfl rfl (plain_arcs _) (rfl) (fun H => rfl)

end Go.Proofs.Ytohlmcebphcokaa
end

section
/- Walks, written by gen.py out of hints. -/


set_option linter.unusedVariables false
set_option linter.unusedSimpArgs false
namespace Go.Proofs.Ytohlmcebphcokaa
open Go.Eng
set_option maxRecDepth 10000
set_option maxHeartbeats 1000000


open Go.Shelf Go.RowKit Go.Lib
theorem compact_nil (p : Option Addr) (cap : Nat) (w : World) : Calls Try.prog 105 #[.slice p 0 cap] w fun e w' => e = .returned (.slice p 0 cap) ∧ w' = w := by
  go_enter Try.func105, Try.ntmps105
  go_wp2
  go_ret
  exact ⟨by simp, rfl⟩
theorem heap_at (w : World) (A B : Obj) : ((w.alloc A).alloc B).heap[w.heap.size + 1]? = some B := by
  have h := heap_alloc_new (w.alloc A) B
  have e : (w.alloc A).heap.size = w.heap.size + 1 := by show (w.heap.push A).size = _; simp
  rw [e] at h; exact h
theorem sorted_nil (st lab ini : Int) (q : Option Addr) (n c : Nat) (p : Option Addr) (cap : Nat) (w : World) : Calls Try.prog 74 #[.agg #[.int .i64 st, .int .i64 lab, .slice p 0 cap, .int .i64 ini, .slice q n c]] w fun e w' => e = .returned (.agg #[.int .i64 st, .int .i64 lab, .slice p 0 cap, .int .i64 ini, .slice q n c]) ∧ ∃ os, w' = Go.Sort.grow w os := by
  go_enter Try.func74, Try.ntmps74
  go_wp2_with (first | (go_at_call 104; refine (AnyF.slices_SortFunc_none Try.sortArc p cap _ _).mono ?_; rintro e w' ⟨rfl, rfl⟩) | (go_at_call 105; refine (compact_nil p cap _).mono ?_; rintro e w' ⟨rfl, rfl⟩))
  refine bodyPost_ret (results_cell_row rfl _ _ (w.heap.size + 1) 46 _ (0, 0) _ rfl (heap_at _ _ _) rfl rfl (by kernel_rfl)) rfl ?_
  exact ⟨by simp, _, by rw [Go.Sort.alloc_eq_grow, Go.Sort.alloc_eq_grow, Go.Sort.grow_grow]⟩
theorem sorted_all (l : List Arc) (st lab ini : Int) (q : Option Addr) (n c : Nat) (hml : (l.length : Int) < 4611686018427387904) :
    DoesW Try.prog 74 (fun v => [.agg #[.int .i64 st, .int .i64 lab, v, .int .i64 ini, .slice q n c]]) (fun v => .agg #[.int .i64 st, .int .i64 lab, v, .int .i64 ini, .slice q n c]) 3 93 (l.map arcC) ((dd (sortL l)).map arcC) := by
  by_cases hne : l = []
  · subst hne
    refine ⟨Try.call74, fun w v hv => ?_⟩
    have he : ∃ p cap, v = .slice p 0 cap := by
      rcases hv with ⟨rfl, _⟩ | ⟨b, cap, xs, rfl, _⟩
      · exact ⟨_, _, rfl⟩
      · exact ⟨_, _, rfl⟩
    obtain ⟨p, cap, rfl⟩ := he
    refine (sorted_nil st lab ini q n c p cap w).mono ?_
    rintro e w' ⟨rfl, os, rfl⟩
    have hg : ∀ b, b < w.heap.size → (Go.Sort.grow w os).heap[b]? = w.heap[b]? := fun b hb => by
      unfold Go.Sort.grow
      show (w.heap ++ os)[b]? = _
      rw [Array.getElem?_append_left hb]
    refine ⟨_, rfl, ⟨rfl, rfl, rfl, by rw [Go.Sort.size_grow]; omega, fun b hb _ => hg b hb⟩, ?_, .inr (.inl rfl)⟩
    have e0 : dd (sortL ([] : List Arc)) = [] := by simp [sortL, sortBy, dd, ddTo]
    rw [e0]
    rcases hv with h | ⟨b, cap', xs, h1, h2, h3, h4⟩
    · exact .inl h
    · exact .inr ⟨b, cap', xs, h1, h2, by rw [hg b (Array.getElem?_eq_some_iff.1 h3).1]; exact h3, h4⟩
  · exact abstraction_Sorted_W l st lab ini (.slice q n c) rfl hne hml


end Go.Proofs.Ytohlmcebphcokaa
end

section
/- Walks, written by gen.py out of hints. -/





set_option linter.unusedVariables false
set_option linter.unusedSimpArgs false
namespace Go.Proofs.Ytohlmcebphcokaa
open Go.Eng
set_option maxRecDepth 10000
set_option maxHeartbeats 1000000

theorem labels_Apply_1_does (x : Int) (a : Abs) : Does Try.prog false 73 [I (x), .p [.v (.int .i64 a.states), .v (.int .i64 a.labels), arcsD a.arcs, .v (.int .i64 a.init), ints a.goals]] (Bo (decide (x < 0 ∨ a.labels ≤ x))) := by
  refine Does.of_body Try.func73 rfl rfl (by simp) Try.call73 (fun w0 O0 => ?_)
  refine Tr.seq ?_
  refine Tr.region ?_
  refine TrOps.sem (OpSem.move (.inr rfl) rfl) rfl rfl (by decide) ?_
  refine TrOps.nil ?_
  refine At.seq ?_
  refine Tr.seq ?_
  refine Tr.region ?_
  refine TrOps.sem (OpSem.move (.inl rfl) rfl) rfl rfl (by decide) ?_
  refine TrOps.sem (OpSem.bin rfl rfl rfl blss) rfl rfl (by decide) ?_
  refine TrOps.sem (OpSem.move (.inl rfl) rfl) rfl rfl (by decide) ?_
  refine TrOps.split (n := 6) rfl (fun c6 => ?_) (fun c6 => ?_)
  · refine TrOps.gF rfl rfl rfl rfl c6 rfl (by decide) ?_
    refine TrOps.gF rfl rfl rfl rfl c6 rfl (by decide) ?_
    refine TrOps.gF rfl rfl rfl rfl c6 rfl (by decide) ?_
    refine TrOps.gF rfl rfl rfl rfl c6 rfl (by decide) ?_
    refine TrOps.sem (OpSem.pickT rfl rfl c6 rfl) rfl rfl (by decide) ?_
    refine TrOps.sem (OpSem.move (.inr rfl) rfl) rfl rfl (by decide) ?_
    refine TrOps.nil ?_
    refine At.seq ?_
    refine Tr.ret ?_
    exact At.ret rfl (.tmp rfl <| .nil) rfl (Le.bo (by simp at *; omega))
  · refine TrOps.gT rfl rfl rfl rfl c6 ?_
    refine TrOps.sem (OpSem.move (.inl rfl) rfl) rfl rfl (by decide) ?_
    refine TrOps.gT rfl rfl rfl rfl c6 ?_
    refine TrOps.sem (OpSem.fieldp rfl rfl fo46_1) rfl rfl (by decide) ?_
    refine TrOps.gT rfl rfl rfl rfl c6 ?_
    refine TrOps.sem (OpSem.load1 rfl rfl vs3 rfl) rfl rfl (by decide) ?_
    refine TrOps.gT rfl rfl rfl rfl c6 ?_
    refine TrOps.sem (OpSem.bin rfl rfl rfl bgeq) rfl rfl (by decide) ?_
    refine TrOps.sem (OpSem.pickF rfl rfl c6 rfl) rfl rfl (by decide) ?_
    refine TrOps.sem (OpSem.move (.inr rfl) rfl) rfl rfl (by decide) ?_
    refine TrOps.nil ?_
    refine At.seq ?_
    refine Tr.ret ?_
    exact At.ret rfl (.tmp rfl <| .nil) rfl (Le.bo (by simp at *; omega))

theorem labels_Apply_does (a : Abs) (to : List Int) (hr : -9223372036854775808 ≤ a.states ∧ a.states ≤ 9223372036854775807) : Does Try.prog false 38 [absS a, .d (ints to)] (.t [absS (aplR a to), flt (aplF a to)]) := by
  refine Does.of_body Try.func38 rfl rfl (by simp) Try.call38 (fun w0 O0 => ?_)
  refine Tr.lenG (n := 0) (i := 2) rfl rfl (fun len0_2 => ?_)
  refine Tr.lenG (n := 0) (i := 4) rfl rfl (fun len0_4 => ?_)
  refine Tr.lenLe (n := 1) rfl (fun len1 => ?_)
  refine Tr.seq ?_
  refine Tr.region ?_
  refine TrOps.semM (OpSem.box 2 rfl rfl rfl rfl) rfl rfl (by decide) ?_
  refine TrOps.semM (OpSem.alloc 4 rfl zc46 rfl) rfl rfl (by decide) ?_
  refine TrOps.semM (OpSem.alloc 5 rfl zc29 rfl) rfl rfl (by decide) ?_
  refine TrOps.nil ?_
  refine At.seq ?_
  refine Tr.seq ?_
  refine Tr.region ?_
  refine TrOps.sem (OpSem.loadbN rfl rfl rfl vs46 (by first | decide | simp)) rfl rfl (by decide) ?_
  refine TrOps.sem (OpSem.call0 (abstraction_Validate_does a hr) rfl rfl rfl rfl (Les.refl _)) rfl rfl (by decide) ?_
  refine TrOps.semM (OpSem.alloc 6 rfl zc29 rfl) rfl rfl (by decide) ?_
  refine TrOps.storeb rfl rfl rfl rfl rfl rfl rfl vs29 (by first | decide | simp) ?_
  refine TrOps.nil ?_
  refine At.seq ?_
  refine Tr.cut [(1, .d (ints to)), (2, .r 2 0), (4, .r 4 0), (5, .r 5 0), (6, .r 6 0)] [(2, .box [I (a.states), I (a.labels), .d (arcsD a.arcs), I (a.init), .d (ints a.goals)]), (4, .box [I (0), I (0), .d (.v (.slice none 0 0)), I (0), .d (.v (.slice none 0 0))]), (5, .box [I (0), I (0)]), (6, .box [I ((aplF1 a to).1), I ((aplF1 a to).2)])] ?_ ?_
  · refine Tr.seq ?_
    refine Tr.region ?_
    refine TrOps.sem (OpSem.loadbN rfl rfl rfl vs29 (by first | decide | simp)) rfl rfl (by decide) ?_
    refine TrOps.sem (OpSem.build rfl rfl pl29 zc29 rfl rfl) rfl rfl (by decide) ?_
    refine TrOps.sem (OpSem.eqS2 rfl rfl rfl io29) rfl rfl (by decide) ?_
    refine TrOps.sem (OpSem.move (.inl rfl) rfl) rfl rfl (by decide) ?_
    refine TrOps.split (n := 15) rfl (fun c15 => ?_) (fun c15 => ?_)
    · refine TrOps.gT rfl rfl rfl rfl c15 ?_
      refine TrOps.sem (OpSem.move (.inl rfl) rfl) rfl rfl (by decide) ?_
      refine TrOps.gT rfl rfl rfl rfl c15 ?_
      refine TrOps.sem (OpSem.lenL rfl rfl es22) rfl rfl (by decide) ?_
      refine TrOps.gT rfl rfl rfl rfl c15 ?_
      refine TrOps.sem (OpSem.fieldr rfl rfl fo46_1) rfl rfl (by decide) ?_
      refine TrOps.gT rfl rfl rfl rfl c15 ?_
      refine TrOps.sem (OpSem.loadb1 rfl rfl rfl vs3 rfl) rfl rfl (by decide) ?_
      refine TrOps.gT rfl rfl rfl rfl c15 ?_
      refine TrOps.sem (OpSem.bin rfl rfl rfl bneq) rfl rfl (by decide) ?_
      refine TrOps.sem (OpSem.pickT rfl rfl c15 rfl) rfl rfl (by decide) ?_
      refine TrOps.nil ?_
      refine At.seq ?_
      refine Tr.cond rfl (fun c21 => ?_) (fun c21 => ?_)
      · refine Tr.region ?_
        refine TrOps.sem (OpSem.build rfl rfl pl29 zc29 rfl rfl) rfl rfl (by decide) ?_
        refine TrOps.storeb rfl rfl rfl rfl rfl rfl rfl vs29 (by first | decide | simp) ?_
        refine TrOps.nil ?_
        have he := (aplF1_len (to := to) (pair0 (f := absFault a) (by simpa using c15)) (by simpa using c21)).symm
        refine At.meet ?_
        exact .slot rfl (.refl _) <| .slot rfl (.refl _) <| .slot rfl (.refl _) <| .slot rfl (.refl _) <| .slot rfl (.refl _) <| .mem rfl <| .mem rfl <| .mem rfl <| .boxLe rfl (.cons (Le.i (congrArg Prod.fst (he))) <| .cons (Le.i (congrArg Prod.snd (he))) <| .nil) <| .nil
      · refine Tr.skip ?_
        have he := (aplF1_ok (to := to) (pair0 (f := absFault a) (by simpa using c15)) (by simpa using c21)).symm
        rw [pair0 (f := absFault a) (by simpa using c15)]
        refine At.meet ?_
        exact .slot rfl (.refl _) <| .slot rfl (.refl _) <| .slot rfl (.refl _) <| .slot rfl (.refl _) <| .slot rfl (.refl _) <| .mem rfl <| .mem rfl <| .mem rfl <| .boxLe rfl (.cons (Le.i (congrArg Prod.fst (he))) <| .cons (Le.i (congrArg Prod.snd (he))) <| .nil) <| .nil
    · refine TrOps.gF rfl rfl rfl rfl c15 rfl (by decide) ?_
      refine TrOps.gF rfl rfl rfl rfl c15 rfl (by decide) ?_
      refine TrOps.gF rfl rfl rfl rfl c15 rfl (by decide) ?_
      refine TrOps.gF rfl rfl rfl rfl c15 rfl (by decide) ?_
      refine TrOps.gF rfl rfl rfl rfl c15 rfl (by decide) ?_
      refine TrOps.sem (OpSem.pickF rfl rfl c15 rfl) rfl rfl (by decide) ?_
      refine TrOps.nil ?_
      refine At.seq ?_
      refine Tr.condF rfl rfl ?_
      refine Tr.skip ?_
      have he := (aplF1_bad (a := a) (to := to) (fun h => by rw [h] at c15; simp at c15)).symm
      refine At.meet ?_
      exact .slot rfl (.refl _) <| .slot rfl (.refl _) <| .slot rfl (.refl _) <| .slot rfl (.refl _) <| .slot rfl (.refl _) <| .mem rfl <| .mem rfl <| .mem rfl <| .boxLe rfl (.cons (Le.i (congrArg Prod.fst (he))) <| .cons (Le.i (congrArg Prod.snd (he))) <| .nil) <| .nil
  · refine Tr.cut [(1, .d (ints to)), (2, .p [.v (.int .i64 a.states), .v (.int .i64 a.labels), arcsD a.arcs, .v (.int .i64 a.init), ints a.goals]), (4, .r 4 0), (5, .r 5 0), (6, .r 6 0)] [(4, .box [I (0), I (0), .d (.v (.slice none 0 0)), I (0), .d (.v (.slice none 0 0))]), (5, .box [I (0), I (0)]), (6, .box [I ((aplF a to).1), I ((aplF a to).2)])] ?_ ?_
    · refine Tr.seq ?_
      refine Tr.freezeR 2 rfl rfl ?_
      refine Tr.region ?_
      refine TrOps.sem (OpSem.loadbN rfl rfl rfl vs29 (by first | decide | simp)) rfl rfl (by decide) ?_
      refine TrOps.sem (OpSem.build rfl rfl pl29 zc29 rfl rfl) rfl rfl (by decide) ?_
      refine TrOps.sem (OpSem.eqS2 rfl rfl rfl io29) rfl rfl (by decide) ?_
      refine TrOps.sem (OpSem.move (.inl rfl) rfl) rfl rfl (by decide) ?_
      refine TrOps.split (n := 26) rfl (fun c26 => ?_) (fun c26 => ?_)
      · refine TrOps.gT rfl rfl rfl rfl c26 ?_
        refine TrOps.sem (OpSem.move (.inl rfl) rfl) rfl rfl (by decide) ?_
        refine TrOps.gT rfl rfl rfl rfl c26 ?_
        refine TrOps.sem (OpSem.makeFunc rfl rfl rfl) rfl rfl (by decide) ?_
        refine TrOps.gT rfl rfl rfl rfl c26 ?_
        refine TrOps.sem (OpSem.call (slices_ContainsFunc_int_int_does to 73 [.p [.v (.int .i64 a.states), .v (.int .i64 a.labels), arcsD a.arcs, .v (.int .i64 a.init), ints a.goals]] (fun x => decide (x < 0 ∨ a.labels ≤ x)) (caught_p _) (fun x _ => labels_Apply_1_does x a)) (.inr rfl) rfl rfl rfl rfl (Les.refl _)) rfl rfl (by decide) ?_
        refine TrOps.sem (OpSem.pickT rfl rfl c26 rfl) rfl rfl (by decide) ?_
        refine TrOps.nil ?_
        refine At.seq ?_
        refine Tr.cond rfl (fun c30 => ?_) (fun c30 => ?_)
        · refine Tr.region ?_
          refine TrOps.sem (OpSem.build rfl rfl pl29 zc29 rfl rfl) rfl rfl (by decide) ?_
          refine TrOps.storeb rfl rfl rfl rfl rfl rfl rfl vs29 (by first | decide | simp) ?_
          refine TrOps.nil ?_
          have he := (aplF_rng (a := a) (to := to) (pair0 (by simpa using c26)) (by simpa using c30)).symm
          refine At.meet ?_
          exact .slot rfl (.refl _) <| .slot rfl (.refl _) <| .slot rfl (.refl _) <| .slot rfl (.refl _) <| .slot rfl (.refl _) <| .mem rfl <| .mem rfl <| .boxLe rfl (.cons (Le.i (congrArg Prod.fst (he))) <| .cons (Le.i (congrArg Prod.snd (he))) <| .nil) <| .nil
        · refine Tr.skip ?_
          have he := (aplF_ok (a := a) (to := to) (pair0 (by simpa using c26)) (by simpa using c30)).symm
          refine At.meet ?_
          exact .slot rfl (.refl _) <| .slot rfl (.refl _) <| .slot rfl (.refl _) <| .slot rfl (.refl _) <| .slot rfl (.refl _) <| .mem rfl <| .mem rfl <| .boxLe rfl (.cons (Le.i (congrArg Prod.fst ((by rw [← he]; exact pair0 (by simpa using c26))))) <| .cons (Le.i (congrArg Prod.snd ((by rw [← he]; exact pair0 (by simpa using c26))))) <| .nil) <| .nil
      · refine TrOps.gF rfl rfl rfl rfl c26 rfl (by decide) ?_
        refine TrOps.gF rfl rfl rfl rfl c26 rfl (by decide) ?_
        refine TrOps.gF rfl rfl rfl rfl c26 rfl (by decide) ?_
        refine TrOps.sem (OpSem.pickF rfl rfl c26 rfl) rfl rfl (by decide) ?_
        refine TrOps.nil ?_
        refine At.seq ?_
        refine Tr.condF rfl rfl ?_
        refine Tr.skip ?_
        have he := (aplF_bad (a := a) (to := to) (fun h => by rw [h] at c26; simp at c26)).symm
        refine At.meet ?_
        exact .slot rfl (.refl _) <| .slot rfl (.refl _) <| .slot rfl (.refl _) <| .slot rfl (.refl _) <| .slot rfl (.refl _) <| .mem rfl <| .mem rfl <| .boxLe rfl (.cons (Le.i (congrArg Prod.fst (he))) <| .cons (Le.i (congrArg Prod.snd (he))) <| .nil) <| .nil
    · refine Tr.seq ?_
      refine Tr.seq ?_
      refine Tr.region ?_
      refine TrOps.sem (OpSem.loadbN rfl rfl rfl vs29 (by first | decide | simp)) rfl rfl (by decide) ?_
      refine TrOps.sem (OpSem.build rfl rfl pl29 zc29 rfl rfl) rfl rfl (by decide) ?_
      refine TrOps.sem (OpSem.neS2 rfl rfl rfl io29) rfl rfl (by decide) ?_
      refine TrOps.nil ?_
      refine At.seq ?_
      refine Tr.cond rfl (fun c34 => ?_) (fun c34 => ?_)
      · have h1 : aplF a to ≠ (0, 0) := fun h => by simp [h] at c34
        refine Tr.seq ?_
        refine PC.start [4] ?_
        refine PC.sem (OpSem.build rfl rfl pl46 zc46 rfl rfl) rfl rfl ?_
        refine PC.sem (OpSem.loadbN rfl rfl rfl vs29 (by first | decide | simp)) rfl rfl ?_
        refine PC.storeb 100002 rfl rfl rfl rfl rfl rfl rfl vs46 (by first | decide | simp) ?_
        refine PC.done mixed (by kernel_rfl) (by kernel_rfl) (by kernel_rfl) (by kernel_rfl) ?_
        refine TrOps.storeb rfl rfl rfl rfl rfl rfl rfl vs29 (by first | decide | simp) ?_
        refine TrOps.nil ?_
        refine At.seq ?_
        refine Tr.ret ?_
        refine At.pass_ret ?_
        exact At.ret rfl (.cellN rfl rfl vs46 <| .cellN rfl rfl vs29 <| .nil) rfl (Le.t (.cons (by rw [aplR_1 h1]; exact Le.g (.cons (.refl _) <| .cons (.refl _) <| .cons (Le.nil 3) <| .cons (.refl _) <| .cons (Le.nil 1) <| .nil)) <| .cons (.refl _) <| .nil))
      · have h1 : aplF a to = (0, 0) := pair0 (by simpa using c34)
        obtain ⟨hA, hto, hin⟩ := aplF_inv h1
        have hal := hA.len
        have hgl := goals_len hA
        have hst := hA.head.1
        refine Tr.skip ?_
        refine At.seq ?_
        refine Tr.seq ?_
        refine PC.start [] ?_
        refine PC.sem (OpSem.fieldp rfl rfl fo46_0) rfl rfl ?_
        refine PC.sem (OpSem.load1 rfl rfl vs3 rfl) rfl rfl ?_
        refine PC.sem (OpSem.fieldp rfl rfl fo46_1) rfl rfl ?_
        refine PC.sem (OpSem.load1 rfl rfl vs3 rfl) rfl rfl ?_
        refine PC.sem (OpSem.fieldp rfl rfl fo46_3) rfl rfl ?_
        refine PC.sem (OpSem.load1 rfl rfl vs3 rfl) rfl rfl ?_
        refine PC.sem (OpSem.fieldp rfl rfl fo46_4) rfl rfl ?_
        refine PC.sem (OpSem.load1 rfl rfl vs22 rfl) rfl rfl ?_
        refine PC.sem (OpSem.call0 (slices_Clone_int_int_does a.goals (by omega)).fresh rfl rfl rfl rfl (Les.refl _)) rfl rfl ?_
        refine PC.sem (OpSem.build rfl rfl pl46 zc46 rfl rfl) rfl rfl ?_
        refine PC.semM (OpSem.alloc 7 rfl zc46 rfl) rfl rfl ?_
        refine PC.done1 7 (.box [I (0), I (0), .d (.v (.slice none 0 0)), I (0), .d (.v (.slice none 0 0))]) mixed (by kernel_rfl) (by kernel_rfl) (by kernel_rfl) (by kernel_rfl) (by kernel_rfl) ?_
        refine TrOps.storeb rfl rfl rfl rfl rfl rfl rfl vs46 (by first | decide | simp) ?_
        refine TrOps.nil ?_
        refine At.seq ?_
        refine Tr.seq ?_
        refine Tr.seq ?_
        refine Tr.ownNilBox 90 7 2 3 93 rfl rfl rfl ?_
        refine Tr.region ?_
        refine TrOps.sem (OpSem.fieldp rfl rfl fo46_2) rfl rfl (by decide) ?_
        refine TrOps.sem (OpSem.load1 rfl rfl vs44 rfl) rfl rfl (by decide) ?_
        refine TrOps.sem (OpSem.lenL rfl rfl es44) rfl rfl (by decide) ?_
        refine TrOps.sem (OpSem.move (.inl rfl) rfl) rfl rfl (by decide) ?_
        refine TrOps.nil ?_
        refine At.seq ?_
        refine Tr.block ?_
        refine Tr.loop (X := Nat) (fun k => k ≤ a.arcs.length) (fun k => [(1, .d (ints to)), (4, .r 4 0), (5, .r 5 0), (6, .r 6 0), (7, .r 7 0), (48, .d (arcsD a.arcs)), (49, I (a.arcs.length)), (50, I (k))]) (fun k => [(90, .own 3 93 ((relTo a to k).map arcC)), (7, .box [I (a.states), I (a.labels), .o 90, I (a.init), .d (ints a.goals)]), (4, .box [I (0), I (0), .d (.v (.slice none 0 0)), I (0), .d (.v (.slice none 0 0))]), (5, .box [I (0), I (0)]), (6, .box [I ((aplF a to).1), I ((aplF a to).2)])]) (fun k => a.arcs.length - k) 0 (by omega) ?_ ?_
        · exact .slot rfl (.refl _) <| .slot rfl (.refl _) <| .slot rfl (.refl _) <| .slot rfl (.refl _) <| .slot rfl (.refl _) <| .slot rfl (.refl _) <| .slot rfl (.refl _) <| .slot rfl (Le.of_eq (by simp)) <| .memEq rfl (by simp [relTo]) <| .mem rfl <| .mem rfl <| .mem rfl <| .mem rfl <| .nil
        · rintro k hkl
          refine Tr.seq ?_
          refine Tr.region ?_
          refine TrOps.sem (OpSem.bin rfl rfl rfl blss) rfl rfl (by decide) ?_
          refine TrOps.nil ?_
          refine At.seq ?_
          refine Tr.seq ?_
          refine Tr.cond rfl (fun c51 => ?_) (fun c51 => ?_)
          · have hk : k < a.arcs.length := by simpa using c51
            have harc := (hA.arc k hk).2.1
            have hrl := relTo_len (to := to) (Nat.le_of_lt hk)
            refine Tr.skip ?_
            refine At.seq ?_
            refine Tr.seq ?_
            refine Tr.block ?_
            refine Tr.seq ?_
            refine Tr.region ?_
            refine TrOps.sem (OpSem.idxL rfl rfl rfl es44 (by omega) (by omega)) rfl rfl (by decide) ?_
            refine TrOps.sem (OpSem.loadN rfl rfl vs93 (by first | decide | simp) rfl) rfl rfl (by decide) ?_
            refine TrOps.semM (OpSem.alloc 9 rfl zc93 rfl) rfl rfl (by decide) ?_
            refine TrOps.storeb rfl rfl rfl rfl rfl rfl rfl vs93 (by first | decide | simp) ?_
            refine TrOps.nil ?_
            refine At.seq ?_
            refine PC.start [] ?_
            refine PC.sem (OpSem.fieldr rfl rfl fo46_2) rfl rfl ?_
            refine PC.sem (OpSem.loadb1 rfl rfl rfl vs44 rfl) rfl rfl ?_
            refine PC.sem (OpSem.fieldr rfl rfl fo93_0) rfl rfl ?_
            refine PC.sem (OpSem.loadb1 rfl rfl rfl vs3 rfl) rfl rfl ?_
            refine PC.sem (OpSem.move (.inl rfl) rfl) rfl rfl ?_
            refine PC.sem (OpSem.fieldr rfl rfl fo93_1) rfl rfl ?_
            refine PC.sem (OpSem.loadb1 rfl rfl rfl vs3 rfl) rfl rfl ?_
            refine PC.sem (OpSem.idxL rfl rfl rfl es22 (by omega) (by omega)) rfl rfl ?_
            refine PC.sem (OpSem.load1 rfl rfl vs3 rfl) rfl rfl ?_
            refine PC.sem (OpSem.fieldr rfl rfl fo93_2) rfl rfl ?_
            refine PC.sem (OpSem.loadb1 rfl rfl rfl vs3 rfl) rfl rfl ?_
            refine PC.sem (OpSem.build rfl rfl pl93 zc93 rfl rfl) rfl rfl ?_
            refine PC.sem (OpSem.buildSlice rfl rfl es44 ze44 rfl rfl (by decide) (by decide) rfl rfl) rfl rfl ?_
            refine PC.done0 mixed (by kernel_rfl) (by kernel_rfl) (by kernel_rfl) (by kernel_rfl) (by kernel_rfl) ?_
            refine TrOps.append rfl rfl rfl (by decide) rfl rfl rfl es44 el44 zc93 rfl by93 (by simp [D.one, Value.oneCell']) (by simp [maxLen]; omega) (by simp; omega) ?_
            refine TrOps.sem (OpSem.fieldr rfl rfl fo46_2) rfl rfl (by decide) ?_
            refine TrOps.storeb rfl rfl rfl rfl rfl rfl rfl vs44 (by first | decide | simp) ?_
            refine TrOps.nil ?_
            refine At.block_normal ?_
            refine At.seq ?_
            refine Tr.region ?_
            refine TrOps.sem (OpSem.bin rfl rfl rfl (badd (by omega) (by omega))) rfl rfl (by decide) ?_
            refine TrOps.sem (OpSem.move (.inl rfl) rfl) rfl rfl (by decide) ?_
            refine TrOps.nil ?_
            refine At.again (k + 1) (by omega) ?_ (by omega)
            exact .slot rfl (.refl _) <| .slot rfl (.refl _) <| .slot rfl (.refl _) <| .slot rfl (.refl _) <| .slot rfl (.refl _) <| .slot rfl (.refl _) <| .slot rfl (.refl _) <| .slot rfl (Le.of_eq (by simp)) <| .memEq rfl (by simp [relTo_s hk]) <| .mem rfl <| .mem rfl <| .mem rfl <| .mem rfl <| .nil
          · have hk : k = a.arcs.length := by simp at c51; omega
            subst hk
            refine Tr.exit ?_
            refine At.pass_exit ?_
            refine At.pass_exit ?_
            refine At.block_same ?_
            refine At.seq ?_
            refine Tr.seq ?_
            refine Tr.orders [[0, 1, 2, 3, 4], [0, 1, 3, 2, 4], [0, 2, 1, 3, 4], [2, 0, 1, 3, 4]] mixed (by kernel_rfl) ⟨?_, ?_, ?_, ?_, trivial⟩
            · refine TrOps.sem (OpSem.loadbN rfl rfl rfl vs46 (by first | decide | simp)) rfl rfl (by decide) ?_
              refine TrOps.callAbs (fun q n c => sorted_all (relTo a to a.arcs.length) a.states a.labels a.init q n c (by simp [relTo]; omega)) rfl rfl rfl (by decide) rfl rfl rfl (plain_arcs _) ?_
              refine TrOps.freeze 90 rfl ?_
              refine TrOps.sem (OpSem.loadbN rfl rfl rfl vs29 (by first | decide | simp)) rfl rfl (by decide) ?_
              refine TrOps.storeb rfl rfl rfl rfl rfl rfl rfl vs46 (by first | decide | simp) ?_
              refine TrOps.storeb rfl rfl rfl rfl rfl rfl rfl vs29 (by first | decide | simp) ?_
              refine TrOps.nil ?_
              refine At.seq ?_
              refine Tr.ret ?_
              exact At.ret rfl (.cellN rfl rfl vs46 <| .cellN rfl rfl vs29 <| .nil) rfl (Le.t (.cons (Le.of_eq (by rw [aplR_0 h1]; rfl)) <| .cons (.refl _) <| .nil))
            · refine TrOps.sem (OpSem.loadbN rfl rfl rfl vs46 (by first | decide | simp)) rfl rfl (by decide) ?_
              refine TrOps.callAbs (fun q n c => sorted_all (relTo a to a.arcs.length) a.states a.labels a.init q n c (by simp [relTo]; omega)) rfl rfl rfl (by decide) rfl rfl rfl (plain_arcs _) ?_
              refine TrOps.freeze 90 rfl ?_
              refine TrOps.storeb rfl rfl rfl rfl rfl rfl rfl vs46 (by first | decide | simp) ?_
              refine TrOps.sem (OpSem.loadbN rfl rfl rfl vs29 (by first | decide | simp)) rfl rfl (by decide) ?_
              refine TrOps.storeb rfl rfl rfl rfl rfl rfl rfl vs29 (by first | decide | simp) ?_
              refine TrOps.nil ?_
              refine At.seq ?_
              refine Tr.ret ?_
              exact At.ret rfl (.cellN rfl rfl vs46 <| .cellN rfl rfl vs29 <| .nil) rfl (Le.t (.cons (Le.of_eq (by rw [aplR_0 h1]; rfl)) <| .cons (.refl _) <| .nil))
            · refine TrOps.sem (OpSem.loadbN rfl rfl rfl vs46 (by first | decide | simp)) rfl rfl (by decide) ?_
              refine TrOps.sem (OpSem.loadbN rfl rfl rfl vs29 (by first | decide | simp)) rfl rfl (by decide) ?_
              refine TrOps.callAbs (fun q n c => sorted_all (relTo a to a.arcs.length) a.states a.labels a.init q n c (by simp [relTo]; omega)) rfl rfl rfl (by decide) rfl rfl rfl (plain_arcs _) ?_
              refine TrOps.freeze 90 rfl ?_
              refine TrOps.storeb rfl rfl rfl rfl rfl rfl rfl vs46 (by first | decide | simp) ?_
              refine TrOps.storeb rfl rfl rfl rfl rfl rfl rfl vs29 (by first | decide | simp) ?_
              refine TrOps.nil ?_
              refine At.seq ?_
              refine Tr.ret ?_
              exact At.ret rfl (.cellN rfl rfl vs46 <| .cellN rfl rfl vs29 <| .nil) rfl (Le.t (.cons (Le.of_eq (by rw [aplR_0 h1]; rfl)) <| .cons (.refl _) <| .nil))
            · refine TrOps.sem (OpSem.loadbN rfl rfl rfl vs29 (by first | decide | simp)) rfl rfl (by decide) ?_
              refine TrOps.sem (OpSem.loadbN rfl rfl rfl vs46 (by first | decide | simp)) rfl rfl (by decide) ?_
              refine TrOps.callAbs (fun q n c => sorted_all (relTo a to a.arcs.length) a.states a.labels a.init q n c (by simp [relTo]; omega)) rfl rfl rfl (by decide) rfl rfl rfl (plain_arcs _) ?_
              refine TrOps.freeze 90 rfl ?_
              refine TrOps.storeb rfl rfl rfl rfl rfl rfl rfl vs46 (by first | decide | simp) ?_
              refine TrOps.storeb rfl rfl rfl rfl rfl rfl rfl vs29 (by first | decide | simp) ?_
              refine TrOps.nil ?_
              refine At.seq ?_
              refine Tr.ret ?_
              exact At.ret rfl (.cellN rfl rfl vs46 <| .cellN rfl rfl vs29 <| .nil) rfl (Le.t (.cons (Le.of_eq (by rw [aplR_0 h1]; rfl)) <| .cons (.refl _) <| .nil))

end Go.Proofs.Ytohlmcebphcokaa
end

section
/- Walks, written by gen.py out of hints. -/




set_option linter.unusedVariables false
set_option linter.unusedSimpArgs false
namespace Go.Proofs.Ytohlmcebphcokaa
open Go.Eng
set_option maxRecDepth 10000
set_option maxHeartbeats 1000000

theorem Q_Abstractions_does (a b : Abs) : Does Try.prog false 29 [absS a, absS b] (Bo (decide (a = b))) := by
  refine Does.of_body Try.func29 rfl rfl (by simp) Try.call29 (fun w0 O0 => ?_)
  refine Tr.lenG (n := 0) (i := 2) rfl rfl (fun len0_2 => ?_)
  refine Tr.lenG (n := 0) (i := 4) rfl rfl (fun len0_4 => ?_)
  refine Tr.lenG (n := 1) (i := 2) rfl rfl (fun len1_2 => ?_)
  refine Tr.lenG (n := 1) (i := 4) rfl rfl (fun len1_4 => ?_)
  refine Tr.seq ?_
  refine Tr.region ?_
  refine TrOps.semM (OpSem.box 2 rfl rfl rfl rfl) rfl rfl (by decide) ?_
  refine TrOps.semM (OpSem.box 3 rfl rfl rfl rfl) rfl rfl (by decide) ?_
  refine TrOps.sem (OpSem.move (.inr rfl) rfl) rfl rfl (by decide) ?_
  refine TrOps.nil ?_
  refine At.seq ?_
  refine Tr.seq ?_
  refine Tr.seq ?_
  refine Tr.region ?_
  refine TrOps.sem (OpSem.fieldr rfl rfl fo46_0) rfl rfl (by decide) ?_
  refine TrOps.sem (OpSem.loadb1 rfl rfl rfl vs3 rfl) rfl rfl (by decide) ?_
  refine TrOps.sem (OpSem.fieldr rfl rfl fo46_0) rfl rfl (by decide) ?_
  refine TrOps.sem (OpSem.loadb1 rfl rfl rfl vs3 rfl) rfl rfl (by decide) ?_
  refine TrOps.sem (OpSem.bin rfl rfl rfl bneq) rfl rfl (by decide) ?_
  refine TrOps.sem (OpSem.move (.inl rfl) rfl) rfl rfl (by decide) ?_
  refine TrOps.split (n := 11) rfl (fun c11 => ?_) (fun c11 => ?_)
  · refine TrOps.gF rfl rfl rfl rfl c11 rfl (by decide) ?_
    refine TrOps.gF rfl rfl rfl rfl c11 rfl (by decide) ?_
    refine TrOps.gF rfl rfl rfl rfl c11 rfl (by decide) ?_
    refine TrOps.gF rfl rfl rfl rfl c11 rfl (by decide) ?_
    refine TrOps.gF rfl rfl rfl rfl c11 rfl (by decide) ?_
    refine TrOps.sem (OpSem.pickT rfl rfl c11 rfl) rfl rfl (by decide) ?_
    refine TrOps.sem (OpSem.move (.inl rfl) rfl) rfl rfl (by decide) ?_
    refine TrOps.gF rfl rfl rfl rfl rfl rfl (by decide) ?_
    refine TrOps.gF rfl rfl rfl rfl rfl rfl (by decide) ?_
    refine TrOps.gF rfl rfl rfl rfl rfl rfl (by decide) ?_
    refine TrOps.gF rfl rfl rfl rfl rfl rfl (by decide) ?_
    refine TrOps.gF rfl rfl rfl rfl rfl rfl (by decide) ?_
    refine TrOps.sem (OpSem.pickT rfl rfl rfl rfl) rfl rfl (by decide) ?_
    refine TrOps.sem (OpSem.move (.inl rfl) rfl) rfl rfl (by decide) ?_
    refine TrOps.gF rfl rfl rfl rfl rfl rfl (by decide) ?_
    refine TrOps.gF rfl rfl rfl rfl rfl rfl (by decide) ?_
    refine TrOps.gF rfl rfl rfl rfl rfl rfl (by decide) ?_
    refine TrOps.gF rfl rfl rfl rfl rfl rfl (by decide) ?_
    refine TrOps.gF rfl rfl rfl rfl rfl rfl (by decide) ?_
    refine TrOps.gF rfl rfl rfl rfl rfl rfl (by decide) ?_
    refine TrOps.sem (OpSem.pickT rfl rfl rfl rfl) rfl rfl (by decide) ?_
    refine TrOps.sem (OpSem.move (.inl rfl) rfl) rfl rfl (by decide) ?_
    refine TrOps.gF rfl rfl rfl rfl rfl rfl (by decide) ?_
    refine TrOps.gF rfl rfl rfl rfl rfl rfl (by decide) ?_
    refine TrOps.gF rfl rfl rfl rfl rfl rfl (by decide) ?_
    refine TrOps.gF rfl rfl rfl rfl rfl rfl (by decide) ?_
    refine TrOps.gF rfl rfl rfl rfl rfl rfl (by decide) ?_
    refine TrOps.gF rfl rfl rfl rfl rfl rfl (by decide) ?_
    refine TrOps.gF rfl rfl rfl rfl rfl rfl (by decide) ?_
    refine TrOps.sem (OpSem.pickT rfl rfl rfl rfl) rfl rfl (by decide) ?_
    refine TrOps.nil ?_
    refine At.seq ?_
    refine Tr.condT rfl rfl ?_
    refine Tr.seq ?_
    refine Tr.region ?_
    refine TrOps.sem (OpSem.move (.inr rfl) rfl) rfl rfl (by decide) ?_
    refine TrOps.nil ?_
    refine At.seq ?_
    refine Tr.ret ?_
    refine At.pass_ret ?_
    exact At.ret rfl (.tmp rfl <| .nil) rfl (Le.bo (decide_eq_false (fun e => by subst e; simp at c11)).symm)
  · refine TrOps.gT rfl rfl rfl rfl c11 ?_
    refine TrOps.sem (OpSem.fieldr rfl rfl fo46_1) rfl rfl (by decide) ?_
    refine TrOps.gT rfl rfl rfl rfl c11 ?_
    refine TrOps.sem (OpSem.loadb1 rfl rfl rfl vs3 rfl) rfl rfl (by decide) ?_
    refine TrOps.gT rfl rfl rfl rfl c11 ?_
    refine TrOps.sem (OpSem.fieldr rfl rfl fo46_1) rfl rfl (by decide) ?_
    refine TrOps.gT rfl rfl rfl rfl c11 ?_
    refine TrOps.sem (OpSem.loadb1 rfl rfl rfl vs3 rfl) rfl rfl (by decide) ?_
    refine TrOps.gT rfl rfl rfl rfl c11 ?_
    refine TrOps.sem (OpSem.bin rfl rfl rfl bneq) rfl rfl (by decide) ?_
    refine TrOps.sem (OpSem.pickF rfl rfl c11 rfl) rfl rfl (by decide) ?_
    refine TrOps.sem (OpSem.move (.inl rfl) rfl) rfl rfl (by decide) ?_
    refine TrOps.split (n := 18) rfl (fun c18 => ?_) (fun c18 => ?_)
    · refine TrOps.gF rfl rfl rfl rfl c18 rfl (by decide) ?_
      refine TrOps.gF rfl rfl rfl rfl c18 rfl (by decide) ?_
      refine TrOps.gF rfl rfl rfl rfl c18 rfl (by decide) ?_
      refine TrOps.gF rfl rfl rfl rfl c18 rfl (by decide) ?_
      refine TrOps.gF rfl rfl rfl rfl c18 rfl (by decide) ?_
      refine TrOps.sem (OpSem.pickT rfl rfl c18 rfl) rfl rfl (by decide) ?_
      refine TrOps.sem (OpSem.move (.inl rfl) rfl) rfl rfl (by decide) ?_
      refine TrOps.gF rfl rfl rfl rfl rfl rfl (by decide) ?_
      refine TrOps.gF rfl rfl rfl rfl rfl rfl (by decide) ?_
      refine TrOps.gF rfl rfl rfl rfl rfl rfl (by decide) ?_
      refine TrOps.gF rfl rfl rfl rfl rfl rfl (by decide) ?_
      refine TrOps.gF rfl rfl rfl rfl rfl rfl (by decide) ?_
      refine TrOps.gF rfl rfl rfl rfl rfl rfl (by decide) ?_
      refine TrOps.sem (OpSem.pickT rfl rfl rfl rfl) rfl rfl (by decide) ?_
      refine TrOps.sem (OpSem.move (.inl rfl) rfl) rfl rfl (by decide) ?_
      refine TrOps.gF rfl rfl rfl rfl rfl rfl (by decide) ?_
      refine TrOps.gF rfl rfl rfl rfl rfl rfl (by decide) ?_
      refine TrOps.gF rfl rfl rfl rfl rfl rfl (by decide) ?_
      refine TrOps.gF rfl rfl rfl rfl rfl rfl (by decide) ?_
      refine TrOps.gF rfl rfl rfl rfl rfl rfl (by decide) ?_
      refine TrOps.gF rfl rfl rfl rfl rfl rfl (by decide) ?_
      refine TrOps.gF rfl rfl rfl rfl rfl rfl (by decide) ?_
      refine TrOps.sem (OpSem.pickT rfl rfl rfl rfl) rfl rfl (by decide) ?_
      refine TrOps.nil ?_
      refine At.seq ?_
      refine Tr.condT rfl rfl ?_
      refine Tr.seq ?_
      refine Tr.region ?_
      refine TrOps.sem (OpSem.move (.inr rfl) rfl) rfl rfl (by decide) ?_
      refine TrOps.nil ?_
      refine At.seq ?_
      refine Tr.ret ?_
      refine At.pass_ret ?_
      exact At.ret rfl (.tmp rfl <| .nil) rfl (Le.bo (decide_eq_false (fun e => by subst e; simp at c18)).symm)
    · refine TrOps.gT rfl rfl rfl rfl c18 ?_
      refine TrOps.sem (OpSem.fieldr rfl rfl fo46_3) rfl rfl (by decide) ?_
      refine TrOps.gT rfl rfl rfl rfl c18 ?_
      refine TrOps.sem (OpSem.loadb1 rfl rfl rfl vs3 rfl) rfl rfl (by decide) ?_
      refine TrOps.gT rfl rfl rfl rfl c18 ?_
      refine TrOps.sem (OpSem.fieldr rfl rfl fo46_3) rfl rfl (by decide) ?_
      refine TrOps.gT rfl rfl rfl rfl c18 ?_
      refine TrOps.sem (OpSem.loadb1 rfl rfl rfl vs3 rfl) rfl rfl (by decide) ?_
      refine TrOps.gT rfl rfl rfl rfl c18 ?_
      refine TrOps.sem (OpSem.bin rfl rfl rfl bneq) rfl rfl (by decide) ?_
      refine TrOps.sem (OpSem.pickF rfl rfl c18 rfl) rfl rfl (by decide) ?_
      refine TrOps.sem (OpSem.move (.inl rfl) rfl) rfl rfl (by decide) ?_
      refine TrOps.split (n := 25) rfl (fun c25 => ?_) (fun c25 => ?_)
      · refine TrOps.gF rfl rfl rfl rfl c25 rfl (by decide) ?_
        refine TrOps.gF rfl rfl rfl rfl c25 rfl (by decide) ?_
        refine TrOps.gF rfl rfl rfl rfl c25 rfl (by decide) ?_
        refine TrOps.gF rfl rfl rfl rfl c25 rfl (by decide) ?_
        refine TrOps.gF rfl rfl rfl rfl c25 rfl (by decide) ?_
        refine TrOps.gF rfl rfl rfl rfl c25 rfl (by decide) ?_
        refine TrOps.sem (OpSem.pickT rfl rfl c25 rfl) rfl rfl (by decide) ?_
        refine TrOps.sem (OpSem.move (.inl rfl) rfl) rfl rfl (by decide) ?_
        refine TrOps.gF rfl rfl rfl rfl rfl rfl (by decide) ?_
        refine TrOps.gF rfl rfl rfl rfl rfl rfl (by decide) ?_
        refine TrOps.gF rfl rfl rfl rfl rfl rfl (by decide) ?_
        refine TrOps.gF rfl rfl rfl rfl rfl rfl (by decide) ?_
        refine TrOps.gF rfl rfl rfl rfl rfl rfl (by decide) ?_
        refine TrOps.gF rfl rfl rfl rfl rfl rfl (by decide) ?_
        refine TrOps.gF rfl rfl rfl rfl rfl rfl (by decide) ?_
        refine TrOps.sem (OpSem.pickT rfl rfl rfl rfl) rfl rfl (by decide) ?_
        refine TrOps.nil ?_
        refine At.seq ?_
        refine Tr.condT rfl rfl ?_
        refine Tr.seq ?_
        refine Tr.region ?_
        refine TrOps.sem (OpSem.move (.inr rfl) rfl) rfl rfl (by decide) ?_
        refine TrOps.nil ?_
        refine At.seq ?_
        refine Tr.ret ?_
        refine At.pass_ret ?_
        exact At.ret rfl (.tmp rfl <| .nil) rfl (Le.bo (decide_eq_false (fun e => by subst e; simp at c25)).symm)
      · refine TrOps.gT rfl rfl rfl rfl c25 ?_
        refine TrOps.sem (OpSem.fieldr rfl rfl fo46_4) rfl rfl (by decide) ?_
        refine TrOps.gT rfl rfl rfl rfl c25 ?_
        refine TrOps.sem (OpSem.loadb1 rfl rfl rfl vs22 rfl) rfl rfl (by decide) ?_
        refine TrOps.gT rfl rfl rfl rfl c25 ?_
        refine TrOps.sem (OpSem.fieldr rfl rfl fo46_4) rfl rfl (by decide) ?_
        refine TrOps.gT rfl rfl rfl rfl c25 ?_
        refine TrOps.sem (OpSem.loadb1 rfl rfl rfl vs22 rfl) rfl rfl (by decide) ?_
        refine TrOps.gT rfl rfl rfl rfl c25 ?_
        refine TrOps.sem (OpSem.call0 (R_Ints_does a.goals b.goals) rfl rfl rfl rfl (Les.refl _)) rfl rfl (by decide) ?_
        refine TrOps.gT rfl rfl rfl rfl c25 ?_
        refine TrOps.sem (OpSem.not rfl rfl) rfl rfl (by decide) ?_
        refine TrOps.sem (OpSem.pickF rfl rfl c25 rfl) rfl rfl (by decide) ?_
        refine TrOps.sem (OpSem.move (.inl rfl) rfl) rfl rfl (by decide) ?_
        refine TrOps.split (n := 33) rfl (fun c33 => ?_) (fun c33 => ?_)
        · refine TrOps.gF rfl rfl rfl rfl c33 rfl (by decide) ?_
          refine TrOps.gF rfl rfl rfl rfl c33 rfl (by decide) ?_
          refine TrOps.gF rfl rfl rfl rfl c33 rfl (by decide) ?_
          refine TrOps.gF rfl rfl rfl rfl c33 rfl (by decide) ?_
          refine TrOps.gF rfl rfl rfl rfl c33 rfl (by decide) ?_
          refine TrOps.gF rfl rfl rfl rfl c33 rfl (by decide) ?_
          refine TrOps.gF rfl rfl rfl rfl c33 rfl (by decide) ?_
          refine TrOps.sem (OpSem.pickT rfl rfl c33 rfl) rfl rfl (by decide) ?_
          refine TrOps.nil ?_
          refine At.seq ?_
          refine Tr.condT rfl rfl ?_
          refine Tr.seq ?_
          refine Tr.region ?_
          refine TrOps.sem (OpSem.move (.inr rfl) rfl) rfl rfl (by decide) ?_
          refine TrOps.nil ?_
          refine At.seq ?_
          refine Tr.ret ?_
          refine At.pass_ret ?_
          exact At.ret rfl (.tmp rfl <| .nil) rfl (Le.bo (decide_eq_false (fun e => by subst e; simp at c33)).symm)
        · refine TrOps.gT rfl rfl rfl rfl c33 ?_
          refine TrOps.sem (OpSem.fieldr rfl rfl fo46_2) rfl rfl (by decide) ?_
          refine TrOps.gT rfl rfl rfl rfl c33 ?_
          refine TrOps.sem (OpSem.loadb1 rfl rfl rfl vs44 rfl) rfl rfl (by decide) ?_
          refine TrOps.gT rfl rfl rfl rfl c33 ?_
          refine TrOps.sem (OpSem.lenL rfl rfl es44) rfl rfl (by decide) ?_
          refine TrOps.gT rfl rfl rfl rfl c33 ?_
          refine TrOps.sem (OpSem.fieldr rfl rfl fo46_2) rfl rfl (by decide) ?_
          refine TrOps.gT rfl rfl rfl rfl c33 ?_
          refine TrOps.sem (OpSem.loadb1 rfl rfl rfl vs44 rfl) rfl rfl (by decide) ?_
          refine TrOps.gT rfl rfl rfl rfl c33 ?_
          refine TrOps.sem (OpSem.lenL rfl rfl es44) rfl rfl (by decide) ?_
          refine TrOps.gT rfl rfl rfl rfl c33 ?_
          refine TrOps.sem (OpSem.bin rfl rfl rfl bneq) rfl rfl (by decide) ?_
          refine TrOps.sem (OpSem.pickF rfl rfl c33 rfl) rfl rfl (by decide) ?_
          refine TrOps.nil ?_
          refine At.seq ?_
          refine Tr.cond rfl (fun c41 => ?_) (fun c41 => ?_)
          · refine Tr.seq ?_
            refine Tr.region ?_
            refine TrOps.sem (OpSem.move (.inr rfl) rfl) rfl rfl (by decide) ?_
            refine TrOps.nil ?_
            refine At.seq ?_
            refine Tr.ret ?_
            refine At.pass_ret ?_
            exact At.ret rfl (.tmp rfl <| .nil) rfl (Le.bo (decide_eq_false (fun e => by subst e; simp at c41)).symm)
          · have hl : a.arcs.length = b.arcs.length := by simp at c41; omega
            refine Tr.skip ?_
            refine At.seq ?_
            refine Tr.seq ?_
            refine Tr.seq ?_
            refine Tr.region ?_
            refine TrOps.sem (OpSem.move (.inr rfl) rfl) rfl rfl (by decide) ?_
            refine TrOps.nil ?_
            refine At.seq ?_
            refine Tr.block ?_
            refine Tr.loop (X := Nat) (fun k => k ≤ a.arcs.length ∧ ∀ i : Nat, i < k → nth a.arcs i = nth b.arcs i) (fun k => [(2, .r 2 0), (3, .r 3 0), (5, I (k))]) (fun k => [(2, .box [I (a.states), I (a.labels), .d (arcsD a.arcs), I (a.init), .d (ints a.goals)]), (3, .box [I (b.states), I (b.labels), .d (arcsD b.arcs), I (b.init), .d (ints b.goals)])]) (fun k => a.arcs.length - k) 0 ⟨by omega, by simp⟩ ?_ ?_
            · exact .slot rfl (.refl _) <| .slot rfl (.refl _) <| .slot rfl (Le.of_eq (by simp)) <| .mem rfl <| .mem rfl <| .nil
            · rintro k ⟨hkl, hinv⟩
              refine Tr.seq ?_
              refine Tr.seq ?_
              refine Tr.region ?_
              refine TrOps.sem (OpSem.move (.inl rfl) rfl) rfl rfl (by decide) ?_
              refine TrOps.sem (OpSem.fieldr rfl rfl fo46_2) rfl rfl (by decide) ?_
              refine TrOps.sem (OpSem.loadb1 rfl rfl rfl vs44 rfl) rfl rfl (by decide) ?_
              refine TrOps.sem (OpSem.lenL rfl rfl es44) rfl rfl (by decide) ?_
              refine TrOps.sem (OpSem.bin rfl rfl rfl blss) rfl rfl (by decide) ?_
              refine TrOps.nil ?_
              refine At.seq ?_
              refine Tr.cond rfl (fun c46 => ?_) (fun c46 => ?_)
              · have hk : k < a.arcs.length := by simpa using c46
                refine Tr.skip ?_
                refine At.seq ?_
                refine Tr.seq ?_
                refine Tr.block ?_
                refine Tr.seq ?_
                refine PC.start [] ?_
                refine PC.sem (OpSem.fieldr rfl rfl fo46_2) rfl rfl ?_
                refine PC.sem (OpSem.loadb1 rfl rfl rfl vs44 rfl) rfl rfl ?_
                refine PC.sem (OpSem.move (.inl rfl) rfl) rfl rfl ?_
                refine PC.sem (OpSem.idxL rfl rfl rfl es44 (by omega) (by omega)) rfl rfl ?_
                refine PC.sem (OpSem.loadN rfl rfl vs93 (by first | decide | simp) rfl) rfl rfl ?_
                refine PC.sem (OpSem.fieldr rfl rfl fo46_2) rfl rfl ?_
                refine PC.sem (OpSem.loadb1 rfl rfl rfl vs44 rfl) rfl rfl ?_
                refine PC.sem (OpSem.move (.inl rfl) rfl) rfl rfl ?_
                refine PC.sem (OpSem.idxL rfl rfl rfl es44 (by omega) (by omega)) rfl rfl ?_
                refine PC.sem (OpSem.loadN rfl rfl vs93 (by first | decide | simp) rfl) rfl rfl ?_
                refine PC.done0 mixed (by kernel_rfl) (by kernel_rfl) (by kernel_rfl) (by kernel_rfl) (by kernel_rfl) ?_
                refine TrOps.sem (OpSem.neS3 rfl rfl rfl io93) rfl rfl (by decide) ?_
                refine TrOps.nil ?_
                refine At.seq ?_
                refine Tr.cond rfl (fun c59 => ?_) (fun c59 => ?_)
                · refine Tr.seq ?_
                  refine Tr.region ?_
                  refine TrOps.sem (OpSem.move (.inr rfl) rfl) rfl rfl (by decide) ?_
                  refine TrOps.nil ?_
                  refine At.seq ?_
                  refine Tr.ret ?_
                  refine At.block_ret ?_
                  refine At.pass_ret ?_
                  refine At.pass_ret ?_
                  refine At.block_ret ?_
                  refine At.pass_ret ?_
                  exact At.ret rfl (.tmp rfl <| .nil) rfl (Le.bo (decide_eq_false (fun e => by subst e; simp at c59)).symm)
                · have hb : nth a.arcs k = nth b.arcs k := arc_ext (by simp at c59; exact c59.1) (by simp at c59; exact c59.2.1) (by simp at c59; exact c59.2.2)
                  refine Tr.skip ?_
                  refine At.block_normal ?_
                  refine At.seq ?_
                  refine Tr.region ?_
                  refine TrOps.sem (OpSem.move (.inl rfl) rfl) rfl rfl (by decide) ?_
                  refine TrOps.sem (OpSem.bin rfl rfl rfl (badd (by omega) (by omega))) rfl rfl (by decide) ?_
                  refine TrOps.sem (OpSem.move (.inr rfl) rfl) rfl rfl (by decide) ?_
                  refine TrOps.nil ?_
                  refine At.again (k + 1) ⟨by omega, all_succ hinv hb⟩ ?_ (by omega)
                  exact .slot rfl (.refl _) <| .slot rfl (.refl _) <| .slot rfl (Le.of_eq (by simp)) <| .mem rfl <| .mem rfl <| .nil
              · have hk : k = a.arcs.length := by simp at c46; omega
                refine Tr.exit ?_
                refine At.pass_exit ?_
                refine At.pass_exit ?_
                refine At.block_same ?_
                refine At.seq ?_
                refine Tr.seq ?_
                refine Tr.region ?_
                refine TrOps.sem (OpSem.move (.inr rfl) rfl) rfl rfl (by decide) ?_
                refine TrOps.nil ?_
                refine At.seq ?_
                refine Tr.ret ?_
                exact At.ret rfl (.tmp rfl <| .nil) rfl (Le.bo (decide_eq_true (abs_ext (by simpa using c11) (by simpa using c18) (ext_get (by simp at c41; omega) (by subst hk; exact hinv)) (by simpa using c25) (by simpa using c33))).symm)

end Go.Proofs.Ytohlmcebphcokaa
end

section
/- Products of abstractions. -/

set_option linter.unusedVariables false
set_option linter.unusedSimpArgs false
set_option linter.unusedSectionVars false
namespace Go.Eng
open Go
/-! ### Lists -/
theorem nodup_le {α : Type} [DecidableEq α] : ∀ {l l' : List α}, l.Nodup → (∀ x, x ∈ l → x ∈ l') → l.length ≤ l'.length
  | [], _, _, _ => by simp
  | x :: l, l', hn, h => by
    rw [List.nodup_cons] at hn
    have hx := h x (by simp)
    have := nodup_le (l := l) (l' := l'.erase x) hn.2 (fun y hy => (List.mem_erase_of_ne (fun e => by subst e; exact hn.1 hy)).2 (h y (by simp [hy])))
    rw [List.length_erase_of_mem hx] at this
    have : 0 < l'.length := List.length_pos_of_mem hx
    simp only [List.length_cons]; omega
theorem inj_le {α β : Type} [DecidableEq β] {l : List α} {l' : List β} (g : α → β) (hn : l.Nodup) (hm : ∀ x, x ∈ l → g x ∈ l') (hi : ∀ x y, x ∈ l → y ∈ l → g x = g y → x = y) : l.length ≤ l'.length := by
  have h1 : (l.map g).Nodup := by
    unfold List.Nodup at *
    rw [List.pairwise_map]
    refine List.Pairwise.imp ?_ (List.Pairwise.and_mem.1 hn)
    rintro x y ⟨hx, hy, hne⟩ he
    exact hne (hi x y hx hy he)
  have := nodup_le h1 (l' := l') (fun y hy => by obtain ⟨x, hx, rfl⟩ := List.mem_map.1 hy; exact hm x hx)
  rwa [List.length_map] at this
theorem tk_s {α : Type} [Inhabited α] {l : List α} {k : Nat} (hk : k < l.length) : l.take (k + 1) = l.take k ++ [nth l k] := by
  rw [List.take_add_one, List.getElem?_eq_getElem hk, nth_eq hk]; rfl
theorem fm_s {α β : Type} [Inhabited α] {l : List α} {f : α → List β} {k : Nat} (hk : k < l.length) : (l.take (k + 1)).flatMap f = (l.take k).flatMap f ++ f (nth l k) := by
  rw [tk_s hk, List.flatMap_append]; simp
theorem fm_len {α β : Type} {l : List α} {f : α → List β} {n : Nat} (h : ∀ x, x ∈ l → (f x).length ≤ n) : (l.flatMap f).length ≤ l.length * n := by
  induction l with
  | nil => simp
  | cons x l ih =>
    have h1 := h x (by simp)
    have h2 := ih fun y hy => h y (by simp [hy])
    rw [List.flatMap_cons, List.length_append, List.length_cons, Nat.succ_mul]; omega
/-! ### The program's product -/
def prA (n : Int) (x y : Arc) : Arc := ⟨x.fr * n + y.fr, x.lab, x.to * n + y.to⟩
def timJ (b : Abs) (x : Arc) (j : Nat) : List Arc := ((b.arcs.take j).filter fun y => decide (x.lab = y.lab)).map (prA b.states x)
def timI (a b : Abs) (i : Nat) : List Arc := (a.arcs.take i).flatMap fun x => timJ b x b.arcs.length
theorem timJ_t {b : Abs} {x : Arc} {j : Nat} (hj : j < b.arcs.length) (h : x.lab = (nth b.arcs j).lab) : timJ b x j ++ [prA b.states x (nth b.arcs j)] = timJ b x (j + 1) := by
  unfold timJ
  rw [tk_s hj, List.filter_append, List.map_append]
  simp [h]
theorem timJ_f {b : Abs} {x : Arc} {j : Nat} (hj : j < b.arcs.length) (h : x.lab ≠ (nth b.arcs j).lab) : timJ b x j = timJ b x (j + 1) := by
  unfold timJ
  rw [tk_s hj, List.filter_append, List.map_append]
  simp [h]
theorem timJ_len {b : Abs} {x : Arc} {j : Nat} : (timJ b x j).length ≤ b.arcs.length := by
  unfold timJ
  have := List.length_filter_le (fun y : Arc => decide (x.lab = y.lab)) (b.arcs.take j)
  simp only [List.length_map, List.length_take] at *
  omega
theorem timI_s {a b : Abs} {i : Nat} (hi : i < a.arcs.length) : timI a b i ++ timJ b (nth a.arcs i) b.arcs.length = timI a b (i + 1) := (fm_s hi).symm
theorem timI_len {a b : Abs} (ha : a.arcs.length ≤ 400) (hb : b.arcs.length ≤ 400) {i : Nat} : (timI a b i).length ≤ 160000 := by
  have h := fm_len (l := a.arcs.take i) (f := fun x => timJ b x b.arcs.length) (n := 400) (fun x _ => Nat.le_trans timJ_len hb)
  have : (a.arcs.take i).length ≤ 400 := by simp; omega
  have := Nat.mul_le_mul_right 400 this
  unfold timI; omega
def timG (a b : Abs) (x : Int) (j : Nat) : List Int := (b.goals.take j).map fun y => x * b.states + y
def timH (a b : Abs) (i : Nat) : List Int := (a.goals.take i).flatMap fun x => timG a b x b.goals.length
theorem timG_s {a b : Abs} {x : Int} {j : Nat} (hj : j < b.goals.length) : timG a b x j ++ [x * b.states + nth b.goals j] = timG a b x (j + 1) := by
  unfold timG; rw [tk_s hj, List.map_append]; rfl
theorem timG_len {a b : Abs} {x : Int} {j : Nat} : (timG a b x j).length ≤ b.goals.length := by unfold timG; simp; omega
theorem timH_s {a b : Abs} {i : Nat} (hi : i < a.goals.length) : timH a b i ++ timG a b (nth a.goals i) b.goals.length = timH a b (i + 1) := (fm_s hi).symm
theorem timH_len {a b : Abs} (ha : a.goals.length ≤ 60) (hb : b.goals.length ≤ 60) {i : Nat} : (timH a b i).length ≤ 3600 := by
  have h := fm_len (l := a.goals.take i) (f := fun x => timG a b x b.goals.length) (n := 60) (fun x _ => Nat.le_trans timG_len hb)
  have : (a.goals.take i).length ≤ 60 := by simp; omega
  have := Nat.mul_le_mul_right 60 this
  unfold timH; omega
def timA (a b : Abs) : Abs := ⟨a.states * b.states, a.labels, dd (sortL (timI a b a.arcs.length)), a.init * b.states + b.init, timH a b a.goals.length⟩
theorem tim_mem {a b : Abs} {z : Arc} : z ∈ (timA a b).arcs ↔ ∃ x y, x ∈ a.arcs ∧ y ∈ b.arcs ∧ x.lab = y.lab ∧ z = prA b.states x y := by
  show z ∈ dd (sortL _) ↔ _
  rw [sd_mem]
  unfold timI timJ
  rw [List.take_length, List.take_length, List.mem_flatMap]
  constructor
  · rintro ⟨x, hx, hz⟩
    obtain ⟨y, hy, rfl⟩ := List.mem_map.1 hz
    rw [List.mem_filter] at hy
    exact ⟨x, y, hx, hy.1, by simpa using hy.2, rfl⟩
  · rintro ⟨x, y, hx, hy, hl, rfl⟩
    exact ⟨x, hx, List.mem_map.2 ⟨y, List.mem_filter.2 ⟨hy, by simpa using hl⟩, rfl⟩⟩
theorem tim_goal {a b : Abs} {n : Int} : n ∈ (timA a b).goals ↔ ∃ x y, x ∈ a.goals ∧ y ∈ b.goals ∧ n = x * b.states + y := by
  show n ∈ timH a b a.goals.length ↔ _
  unfold timH timG
  rw [List.take_length, List.take_length, List.mem_flatMap]
  constructor
  · rintro ⟨x, hx, hz⟩
    obtain ⟨y, hy, rfl⟩ := List.mem_map.1 hz
    exact ⟨x, y, hx, hy, rfl⟩
  · rintro ⟨x, y, hx, hy, rfl⟩
    exact ⟨x, hx, List.mem_map.2 ⟨y, hy, rfl⟩⟩
/-- Pairs of numbers as one. -/
theorem pair_div {x y s : Int} (h0 : 0 ≤ y) (h1 : y < s) : (x * s + y) / s = x ∧ (x * s + y) % s = y := by
  have hs : 0 < s := by omega
  rw [Int.add_comm]
  refine ⟨?_, ?_⟩
  · rw [Int.add_mul_ediv_right _ _ (by omega), Int.ediv_eq_zero_of_lt h0 h1]; omega
  · rw [Int.add_mul_emod_self_right, Int.emod_eq_of_lt h0 h1]
theorem pair_in {x y r s : Int} (hx : 0 ≤ x ∧ x < r) (hy : 0 ≤ y ∧ y < s) : 0 ≤ x * s + y ∧ x * s + y < r * s := by
  have h1 : 0 ≤ x * s := Int.mul_nonneg hx.1 (by omega)
  have h2 : (x + 1) * s ≤ r * s := Int.mul_le_mul_of_nonneg_right (by omega) (by omega)
  rw [Int.add_mul] at h2
  omega
theorem pair_lt {x y x' y' s : Int} (hy : 0 ≤ y ∧ y < s) (hy' : 0 ≤ y' ∧ y' < s) (h : x < x' ∨ (x = x' ∧ y < y')) : x * s + y < x' * s + y' := by
  rcases h with h | ⟨rfl, h⟩
  · have h2 : (x + 1) * s ≤ x' * s := Int.mul_le_mul_of_nonneg_right (by omega) (by omega)
    rw [Int.add_mul] at h2
    omega
  · omega
theorem pair_of {n r s : Int} (h0 : 0 ≤ n) (h1 : n < r * s) (hs : 0 < s) : n = n / s * s + n % s ∧ (0 ≤ n / s ∧ n / s < r) ∧ (0 ≤ n % s ∧ n % s < s) := by
  have e : n / s * s + n % s = n := by rw [Int.mul_comm]; exact Int.mul_ediv_add_emod n s
  refine ⟨e.symm, ⟨Int.ediv_nonneg h0 (by omega), Int.ediv_lt_of_lt_mul hs h1⟩, Int.emod_nonneg _ (by omega), Int.emod_lt_of_pos _ hs⟩
section
variable {a b : Abs} (ha : AbsOk a) (hb : AbsOk b)
include ha hb
theorem tim_goals_sorted : (timA a b).goals.Pairwise (· < ·) := by
  show (timH a b a.goals.length).Pairwise _
  unfold timH timG
  rw [List.take_length, List.take_length, List.pairwise_flatMap]
  have hga := setP_sorted ha.goals
  have hgb := setP_sorted hb.goals
  refine ⟨fun x hx => ?_, ?_⟩
  · rw [List.pairwise_map]
    exact hgb.imp fun h => by omega
  · refine List.Pairwise.imp ?_ hga
    intro x x' hlt z hz z' hz'
    obtain ⟨y, hy, rfl⟩ := List.mem_map.1 hz
    obtain ⟨y', hy', rfl⟩ := List.mem_map.1 hz'
    exact pair_lt (setP_mem hb.goals hy) (setP_mem hb.goals hy') (.inl hlt)
theorem tim_arcIn (hl : a.labels = b.labels) {z : Arc} (hz : z ∈ (timA a b).arcs) : arcIn (timA a b) z := by
  obtain ⟨x, y, hx, hy, hlab, rfl⟩ := tim_mem.1 hz
  have h1 := mem_in ha hx
  have h2 := mem_in hb hy
  exact ⟨pair_in h1.1 h2.1, h1.2.1, pair_in h1.2.2 h2.2.2⟩
end
/-! ### Faults -/
def prdF1 (a b : Abs) : Int × Int := if absFault a ≠ (0, 0) then absFault a else if absFault b ≠ (0, 0) then ((absFault b).1, -5) else (0, 0)
def prdF2 (a b : Abs) : Int × Int := if prdF1 a b ≠ (0, 0) then prdF1 a b else if a.labels ≠ b.labels then (9, -6) else (0, 0)
def prdF3 (a b : Abs) : Int × Int := if prdF2 a b ≠ (0, 0) then prdF2 a b else if 60 < a.states * b.states then (10, -7) else (0, 0)
def prdF (a b : Abs) : Int × Int := if prdF3 a b ≠ (0, 0) then prdF3 a b else if 400 < (timA a b).arcs.length then (10, -7) else (0, 0)
def prdR (a b : Abs) : Abs := if prdF a b = (0, 0) then timA a b else absZ
theorem if2 {f g : Int × Int} {p : Prop} [Decidable p] (h : (if f ≠ (0, 0) then f else if p then g else (0, 0)) = (0, 0)) (hg : g ≠ (0, 0)) : f = (0, 0) ∧ ¬ p := by
  split at h
  · rename_i hn; exact absurd h hn
  · rename_i hn
    split at h
    · exact absurd h hg
    · rename_i h2; exact ⟨Decidable.not_not.1 hn, h2⟩
theorem if2c {f g : Int × Int} {p : Prop} [Decidable p] (hf : f.1 = 0 → f = (0, 0)) (hg : g.1 ≠ 0) (h : (if f ≠ (0, 0) then f else if p then g else (0, 0)).1 = 0) : (if f ≠ (0, 0) then f else if p then g else (0, 0)) = (0, 0) := by
  split
  · rename_i hn; rw [if_pos hn] at h; exact hf h
  · rename_i hn
    rw [if_neg hn] at h
    split
    · rename_i h2; rw [if_pos h2] at h; exact absurd h hg
    · rfl
theorem absFault_c {a : Abs} (h : (absFault a).1 = 0) : absFault a = (0, 0) := (absFault_ok h).2
theorem prdF1_code {a b : Abs} (h : (prdF1 a b).1 = 0) : prdF1 a b = (0, 0) := by
  unfold prdF1 at h ⊢
  split
  · rename_i hn; rw [if_pos hn] at h; exact absFault_c h
  · rename_i hn
    rw [if_neg hn] at h
    split
    · rename_i h2; rw [if_pos h2] at h; exact absurd (absFault_c h) h2
    · rfl
theorem prdF2_code {a b : Abs} (h : (prdF2 a b).1 = 0) : prdF2 a b = (0, 0) := if2c prdF1_code (by decide) h
theorem prdF3_code {a b : Abs} (h : (prdF3 a b).1 = 0) : prdF3 a b = (0, 0) := if2c prdF2_code (by decide) h
theorem prdF_code {a b : Abs} (h : (prdF a b).1 = 0) : prdF a b = (0, 0) := if2c prdF3_code (by decide) h
theorem prdF1_inv {a b : Abs} (h : prdF1 a b = (0, 0)) : absFault a = (0, 0) ∧ absFault b = (0, 0) := by
  unfold prdF1 at h
  split at h
  · rename_i hn; exact absurd h hn
  · rename_i hn
    split at h
    · rename_i h2; exact absurd (absFault_c (congrArg Prod.fst h)) h2
    · rename_i h2; exact ⟨Decidable.not_not.1 hn, Decidable.not_not.1 h2⟩
theorem prdF2_inv {a b : Abs} (h : prdF2 a b = (0, 0)) : prdF1 a b = (0, 0) ∧ a.labels = b.labels := by
  obtain ⟨h1, h2⟩ := if2 h (by decide)
  exact ⟨h1, Decidable.not_not.1 h2⟩
theorem prdF3_inv {a b : Abs} (h : prdF3 a b = (0, 0)) : prdF2 a b = (0, 0) ∧ a.states * b.states ≤ 60 := by
  obtain ⟨h1, h2⟩ := if2 h (by decide)
  exact ⟨h1, by omega⟩
theorem prdF_inv {a b : Abs} (h : prdF a b = (0, 0)) : prdF3 a b = (0, 0) ∧ (timA a b).arcs.length ≤ 400 := by
  obtain ⟨h1, h2⟩ := if2 h (by decide)
  exact ⟨h1, by omega⟩
/-- What a product needs. -/
structure PrdP (a b : Abs) : Prop where
  oa : AbsOk a
  ob : AbsOk b
  lab : a.labels = b.labels
  st : a.states * b.states ≤ 60
theorem prdF3_ok {a b : Abs} (h : prdF3 a b = (0, 0)) : PrdP a b := by
  obtain ⟨h1, h2⟩ := prdF3_inv h
  obtain ⟨h3, h4⟩ := prdF2_inv h1
  obtain ⟨h5, h6⟩ := prdF1_inv h3
  exact ⟨(absFault_ok (congrArg Prod.fst h5)).1, (absFault_ok (congrArg Prod.fst h6)).1, h4, h2⟩
theorem prdF3_of {a b : Abs} (h : PrdP a b) : prdF3 a b = (0, 0) := by
  have h1 : prdF1 a b = (0, 0) := by unfold prdF1; rw [absFault_of h.oa, absFault_of h.ob]; rfl
  have h2 : prdF2 a b = (0, 0) := by unfold prdF2; rw [h1, if_neg (fun hn => hn rfl), if_neg (fun hn => hn h.lab)]
  unfold prdF3; rw [h2, if_neg (fun hn => hn rfl), if_neg (by have := h.st; omega)]
theorem prdF_of {a b : Abs} (h : PrdP a b) (hl : (timA a b).arcs.length ≤ 400) : prdF a b = (0, 0) := by
  unfold prdF; rw [prdF3_of h, if_neg (fun hn => hn rfl), if_neg (by omega)]
theorem prdF_big {a b : Abs} (h : PrdP a b) (hl : 400 < (timA a b).arcs.length) : prdF a b = (10, -7) := by
  unfold prdF; rw [prdF3_of h, if_neg (fun hn => hn rfl), if_pos hl]
theorem prd_st {a b : Abs} (h : PrdP a b) : 1 ≤ a.states * b.states := by
  have h1 := h.oa.head.1
  have h2 := h.ob.head.1
  have := Int.mul_le_mul_of_nonneg_right (a := 1) (b := a.states) (c := b.states) (by omega) (by omega)
  omega
theorem prd_ok {a b : Abs} (h : PrdP a b) (hl : (timA a b).arcs.length ≤ 400) : AbsOk (timA a b) := by
  have h1 := h.oa.head
  have h2 := h.ob.head
  refine absOk_of ⟨⟨prd_st h, h.st⟩, h1.2.1, pair_in h1.2.2 h2.2.2⟩ (tim_goals_sorted h.oa h.ob) (fun z hz => ?_) hl sd_strict fun x hx => tim_arcIn h.oa h.ob h.lab hx
  obtain ⟨x, y, hx, hy, rfl⟩ := tim_goal.1 hz
  exact pair_in (setP_mem h.oa.goals hx) (setP_mem h.ob.goals hy)
theorem prdR_0 {a b : Abs} (h : prdF a b = (0, 0)) : prdR a b = timA a b := by unfold prdR; rw [if_pos h]
theorem prdR_1 {a b : Abs} (h : prdF a b ≠ (0, 0)) : prdR a b = absZ := by unfold prdR; rw [if_neg h]
/-! ### The reference's product -/
def rK (a b : Abs) (n lab : Int) (i k : Nat) : List Arc := if (nth a.arcs i).fr = n / b.states ∧ (nth a.arcs i).lab = lab then ((b.arcs.take k).filter fun y => decide (y.fr = n % b.states ∧ y.lab = lab)).map (fun y => ⟨n, lab, (nth a.arcs i).to * b.states + y.to⟩) else []
def rI (a b : Abs) (n lab : Int) (i : Nat) : List Arc := (List.range i).flatMap fun i' => rK a b n lab i' b.arcs.length
def rL (a b : Abs) (n : Int) (l : Nat) : List Arc := (List.range l).flatMap fun (lab : Nat) => rI a b n lab a.arcs.length
def rN (a b : Abs) (n : Nat) : List Arc := (List.range n).flatMap fun (n' : Nat) => rL a b n' a.labels.toNat
theorem rng_s {β : Type} {f : Nat → List β} {n : Nat} : (List.range n).flatMap f ++ f n = (List.range (n + 1)).flatMap f := by
  rw [List.range_succ, List.flatMap_append]; simp
theorem rN_s {a b : Abs} {n : Nat} : rN a b n ++ rL a b n a.labels.toNat = rN a b (n + 1) := rng_s (f := fun n' : Nat => rL a b n' a.labels.toNat)
theorem rL_s {a b : Abs} {n : Int} {l : Nat} : rL a b n l ++ rI a b n l a.arcs.length = rL a b n (l + 1) := rng_s (f := fun lab : Nat => rI a b n lab a.arcs.length)
theorem rI_s {a b : Abs} {n lab : Int} {i : Nat} : rI a b n lab i ++ rK a b n lab i b.arcs.length = rI a b n lab (i + 1) := rng_s (f := fun i' => rK a b n lab i' b.arcs.length)
theorem rK_t {a b : Abs} {n lab : Int} {i k : Nat} (hk : k < b.arcs.length) (h : (nth a.arcs i).fr = n / b.states ∧ (nth a.arcs i).lab = lab) (h' : (nth b.arcs k).fr = n % b.states ∧ (nth b.arcs k).lab = lab) :
    rK a b n lab i k ++ [⟨n, lab, (nth a.arcs i).to * b.states + (nth b.arcs k).to⟩] = rK a b n lab i (k + 1) := by
  unfold rK
  rw [if_pos h, if_pos h, tk_s hk, List.filter_append, List.map_append]
  simp [h']
theorem rK_f {a b : Abs} {n lab : Int} {i k : Nat} (hk : k < b.arcs.length) (h' : ¬ ((nth b.arcs k).fr = n % b.states ∧ (nth b.arcs k).lab = lab)) : rK a b n lab i k = rK a b n lab i (k + 1) := by
  unfold rK
  rw [tk_s hk, List.filter_append, List.map_append]
  have : (List.filter (fun y => decide (y.fr = n % b.states ∧ y.lab = lab)) [nth b.arcs k]) = [] := by
    rw [List.filter_cons_of_neg (by simpa using h')]; rfl
  rw [this]; simp
theorem rK_0 {a b : Abs} {n lab : Int} {i : Nat} : rK a b n lab i 0 = [] := by unfold rK; split <;> simp
theorem rK_no {a b : Abs} {n lab : Int} {i k : Nat} (h : ¬ ((nth a.arcs i).fr = n / b.states ∧ (nth a.arcs i).lab = lab)) : rK a b n lab i k = [] := by unfold rK; rw [if_neg h]
theorem rK_len {a b : Abs} {n lab : Int} {i k : Nat} : (rK a b n lab i k).length ≤ b.arcs.length := by
  unfold rK
  split
  · have := List.length_filter_le (fun y : Arc => decide (y.fr = n % b.states ∧ y.lab = lab)) (b.arcs.take k)
    simp only [List.length_map, List.length_take] at *
    omega
  · simp
theorem rI_len {a b : Abs} {n lab : Int} {i : Nat} (hb : b.arcs.length ≤ 400) : (rI a b n lab i).length ≤ i * 400 := by
  have := fm_len (l := List.range i) (f := fun i' => rK a b n lab i' b.arcs.length) (n := 400) (fun x _ => Nat.le_trans rK_len hb)
  rw [List.length_range] at this; exact this
theorem rL_len {a b : Abs} {n : Int} {l : Nat} (ha : a.arcs.length ≤ 400) (hb : b.arcs.length ≤ 400) : (rL a b n l).length ≤ l * 160000 := by
  have := fm_len (l := List.range l) (f := fun lab : Nat => rI a b n lab a.arcs.length) (n := 160000) (fun x _ => Nat.le_trans (rI_len hb) (by omega))
  rw [List.length_range] at this; exact this
theorem rN_len {a b : Abs} {n : Nat} (ha : a.arcs.length ≤ 400) (hb : b.arcs.length ≤ 400) (hl : a.labels ≤ 40) : (rN a b n).length ≤ n * 6400000 := by
  have h40 : a.labels.toNat ≤ 40 := by omega
  have := fm_len (l := List.range n) (f := fun n' : Nat => rL a b n' a.labels.toNat) (n := 6400000) (fun x _ => Nat.le_trans (rL_len ha hb) (by omega))
  rw [List.length_range] at this; exact this
theorem mem_rK {a b : Abs} {n lab : Int} {i : Nat} {z : Arc} : z ∈ rK a b n lab i b.arcs.length ↔ ((nth a.arcs i).fr = n / b.states ∧ (nth a.arcs i).lab = lab) ∧ ∃ y, y ∈ b.arcs ∧ (y.fr = n % b.states ∧ y.lab = lab) ∧ z = ⟨n, lab, (nth a.arcs i).to * b.states + y.to⟩ := by
  unfold rK
  rw [List.take_length]
  split
  · rename_i h
    rw [List.mem_map]
    constructor
    · rintro ⟨y, hy, rfl⟩
      rw [List.mem_filter] at hy
      exact ⟨h, y, hy.1, by simpa using hy.2, rfl⟩
    · rintro ⟨_, y, hy, h2, rfl⟩
      exact ⟨y, List.mem_filter.2 ⟨hy, by simpa using h2⟩, rfl⟩
  · rename_i h
    constructor
    · intro hz; simp at hz
    · rintro ⟨h2, _⟩; exact absurd h2 h
theorem mem_rI {a b : Abs} {n lab : Int} {m : Nat} {z : Arc} : z ∈ rI a b n lab m ↔ ∃ i : Nat, i < m ∧ z ∈ rK a b n lab i b.arcs.length := by
  unfold rI; rw [List.mem_flatMap]; simp
theorem mem_rL {a b : Abs} {n : Int} {m : Nat} {z : Arc} : z ∈ rL a b n m ↔ ∃ l : Nat, l < m ∧ z ∈ rI a b n l a.arcs.length := by
  unfold rL; rw [List.mem_flatMap]; simp
theorem mem_rN {a b : Abs} {m : Nat} {z : Arc} : z ∈ rN a b m ↔ ∃ n : Nat, n < m ∧ z ∈ rL a b n a.labels.toNat := by
  unfold rN; rw [List.mem_flatMap]; simp
section
variable {a b : Abs} (h : PrdP a b)
include h
theorem rN_sorted {m : Nat} : (rN a b m).Pairwise arcLt := by
  have hrg : ∀ n : Nat, (List.range n).Pairwise (· < ·) := fun n => List.pairwise_lt_range
  have hsa : ∀ i j : Nat, i < j → j < a.arcs.length → arcLt (nth a.arcs i) (nth a.arcs j) := fun i j hij hj => by
    rw [nth_eq hj, nth_eq (by omega)]
    exact List.pairwise_iff_getElem.1 (absOk_sorted h.oa) i j (by omega) hj hij
  have hK : ∀ (n lab : Int) (i : Nat), (rK a b n lab i b.arcs.length).Pairwise arcLt := fun n lab i => by
    unfold rK
    rw [List.take_length]
    split
    · rw [List.pairwise_map]
      refine List.Pairwise.imp ?_ (List.Pairwise.and_mem.1 ((absOk_sorted h.ob).filter _))
      rintro y y' ⟨hy, hy', hlt⟩
      have e1 : y.fr = n % b.states ∧ y.lab = lab := by simpa using (List.mem_filter.1 hy).2
      have e2 : y'.fr = n % b.states ∧ y'.lab = lab := by simpa using (List.mem_filter.1 hy').2
      have hto : y.to < y'.to := by unfold arcLt at hlt; omega
      exact .inr ⟨rfl, .inr ⟨rfl, Int.add_lt_add_left hto _⟩⟩
    · simp
  have hI : ∀ (n lab : Int), (rI a b n lab a.arcs.length).Pairwise arcLt := fun n lab => by
    unfold rI
    rw [List.pairwise_flatMap]
    refine ⟨fun i _ => hK n lab i, List.Pairwise.imp ?_ (List.Pairwise.and_mem.1 (hrg _))⟩
    rintro i j ⟨hi, hj, hij⟩ z hz z' hz'
    rw [List.mem_range] at hi hj
    obtain ⟨q1, y, hy, q2, rfl⟩ := mem_rK.1 hz
    obtain ⟨q1', y', hy', q2', rfl⟩ := mem_rK.1 hz'
    have hlt := hsa i j hij hj
    have k1 := (mem_in h.ob hy).2.2
    have k2 := (mem_in h.ob hy').2.2
    have := pair_lt (x := (nth a.arcs i).to) (x' := (nth a.arcs j).to) k1 k2 (.inl (by unfold arcLt at hlt; omega))
    exact .inr ⟨rfl, .inr ⟨rfl, this⟩⟩
  have hL : ∀ n : Int, (rL a b n a.labels.toNat).Pairwise arcLt := fun n => by
    unfold rL
    rw [List.pairwise_flatMap]
    refine ⟨fun l _ => hI n l, List.Pairwise.imp ?_ (hrg _)⟩
    intro l l' hll z hz z' hz'
    obtain ⟨i, hi, hz⟩ := mem_rI.1 hz
    obtain ⟨i', hi', hz'⟩ := mem_rI.1 hz'
    obtain ⟨_, y, _, _, rfl⟩ := mem_rK.1 hz
    obtain ⟨_, y', _, _, rfl⟩ := mem_rK.1 hz'
    exact .inr ⟨rfl, .inl (by show (l : Int) < l'; omega)⟩
  unfold rN
  rw [List.pairwise_flatMap]
  refine ⟨fun n _ => hL n, List.Pairwise.imp ?_ (hrg _)⟩
  intro n n' hnn z hz z' hz'
  obtain ⟨l, hl, hz⟩ := mem_rL.1 hz
  obtain ⟨l', hl', hz'⟩ := mem_rL.1 hz'
  obtain ⟨i, hi, hz⟩ := mem_rI.1 hz
  obtain ⟨i', hi', hz'⟩ := mem_rI.1 hz'
  obtain ⟨_, y, _, _, rfl⟩ := mem_rK.1 hz
  obtain ⟨_, y', _, _, rfl⟩ := mem_rK.1 hz'
  exact .inl (by show (n : Int) < n'; omega)
theorem rN_end : rN a b (a.states * b.states).toNat = (timA a b).arcs := by
  refine arcs_uniq (rN_sorted h) sd_strict fun z => ?_
  rw [tim_mem, mem_rN]
  have hst := prd_st h
  have hsb := h.ob.head.1
  constructor
  · rintro ⟨n, hn, hz⟩
    obtain ⟨l, hl, hz⟩ := mem_rL.1 hz
    obtain ⟨i, hi, hz⟩ := mem_rI.1 hz
    obtain ⟨q1, y, hy, q2, rfl⟩ := mem_rK.1 hz
    refine ⟨nth a.arcs i, y, nth_mem (by omega) (by omega), hy, by rw [q1.2, q2.2], ?_⟩
    have hp := pair_of (n := (n : Int)) (r := a.states) (s := b.states) (by omega) (by omega) (by omega)
    unfold prA
    rw [q1.1, q2.1, q1.2, ← hp.1]
  · rintro ⟨x, y, hx, hy, hlab, rfl⟩
    have k1 := mem_in h.oa hx
    have k2 := mem_in h.ob hy
    obtain ⟨i, hi, rfl⟩ := List.getElem_of_mem hx
    have hp := pair_in k1.1 k2.1
    refine ⟨(a.arcs[i].fr * b.states + y.fr).toNat, by omega, mem_rL.2 ⟨a.arcs[i].lab.toNat, by omega, mem_rI.2 ⟨i, hi, mem_rK.2 ?_⟩⟩⟩
    have hd := pair_div (x := a.arcs[i].fr) k2.1.1 k2.1.2
    rw [Int.toNat_of_nonneg hp.1, Int.toNat_of_nonneg k1.2.1.1, nth_eq hi]
    exact ⟨⟨hd.1.symm, rfl⟩, y, hy, ⟨hd.2.symm, hlab.symm⟩, rfl⟩
/-- The goals, one number by one. -/
theorem gN_end : ((List.range (a.states * b.states).toNat).map fun n : Nat => (n : Int)).filter (fun n => decide (n / b.states ∈ a.goals ∧ n % b.states ∈ b.goals)) = (timA a b).goals := by
  have hst := prd_st h
  have hsb := h.ob.head.1
  refine pw_uniq (r := fun x y : Int => x < y) (fun x y => by omega) (List.Pairwise.filter _ (List.pairwise_map.2 (List.pairwise_lt_range.imp fun hlt => by omega))) (tim_goals_sorted h.oa h.ob) fun n => ?_
  rw [List.mem_filter, List.mem_map, tim_goal]
  constructor
  · rintro ⟨⟨m, hm, rfl⟩, hd⟩
    rw [List.mem_range] at hm
    have hd' : (m : Int) / b.states ∈ a.goals ∧ (m : Int) % b.states ∈ b.goals := by simpa using hd
    have hp := pair_of (n := (m : Int)) (r := a.states) (s := b.states) (by omega) (by omega) (by omega)
    exact ⟨_, _, hd'.1, hd'.2, hp.1⟩
  · rintro ⟨x, y, hx, hy, rfl⟩
    have k1 := setP_mem h.oa.goals hx
    have k2 := setP_mem h.ob.goals hy
    have hp := pair_in k1 k2
    have hd := pair_div (x := x) k2.1 k2.2
    refine ⟨⟨(x * b.states + y).toNat, List.mem_range.2 (by omega), Int.toNat_of_nonneg hp.1⟩, ?_⟩
    rw [hd.1, hd.2]
    simpa using ⟨hx, hy⟩
end
def gN (a b : Abs) (n : Nat) : List Int := ((List.range n).map fun n : Nat => (n : Int)).filter (fun n => decide (n / b.states ∈ a.goals ∧ n % b.states ∈ b.goals))
theorem gN_t {a b : Abs} {n : Nat} (h : (n : Int) / b.states ∈ a.goals ∧ (n : Int) % b.states ∈ b.goals) : gN a b n ++ [(n : Int)] = gN a b (n + 1) := by
  unfold gN; rw [List.range_succ, List.map_append, List.filter_append]; simp [h]
theorem gN_f {a b : Abs} {n : Nat} (h : ¬ ((n : Int) / b.states ∈ a.goals ∧ (n : Int) % b.states ∈ b.goals)) : gN a b n = gN a b (n + 1) := by
  unfold gN; rw [List.range_succ, List.map_append, List.filter_append]
  have : List.filter (fun n => decide (n / b.states ∈ a.goals ∧ n % b.states ∈ b.goals)) (List.map (fun n : Nat => (n : Int)) [n]) = [] := by
    show List.filter _ [(n : Int)] = []
    rw [List.filter_cons_of_neg (by simpa using h)]; rfl
  rw [this]; simp
theorem gN_len {a b : Abs} {n : Nat} : (gN a b n).length ≤ n := by
  unfold gN
  have := List.length_filter_le (fun n : Int => decide (n / b.states ∈ a.goals ∧ n % b.states ∈ b.goals)) ((List.range n).map fun n : Nat => (n : Int))
  simpa using this
theorem mul_in {x y : Int} (hx : 0 ≤ x ∧ x ≤ 60) (hy : 0 ≤ y ∧ y ≤ 60) : 0 ≤ x * y ∧ x * y ≤ 3600 := by
  have h1 := Int.mul_nonneg hx.1 hy.1
  have h2 : x * y ≤ 60 * y := Int.mul_le_mul_of_nonneg_right hx.2 hy.1
  omega
theorem arc_self {a : Abs} {k : Nat} (hk : k < a.arcs.length) : (⟨(nth a.arcs k).fr, (nth a.arcs k).lab, (nth a.arcs k).to⟩ : Arc) ∈ a.arcs := nth_mem (l := a.arcs) (n := k) (by omega) (by omega)
/-! ### Distances in products -/
theorem prdR_rng {a b : Abs} : -9223372036854775808 ≤ (prdR a b).states ∧ (prdR a b).states ≤ 9223372036854775807 := by
  by_cases h : prdF a b = (0, 0)
  · rw [prdR_0 h]
    have h1 := prdF3_ok (prdF_inv h).1
    have := h1.st
    have := prd_st h1
    show -9223372036854775808 ≤ a.states * b.states ∧ a.states * b.states ≤ 9223372036854775807
    omega
  · rw [prdR_1 h]; decide
theorem aplR_rng {a : Abs} {to : List Int} (h : -9223372036854775808 ≤ a.states ∧ a.states ≤ 9223372036854775807) : -9223372036854775808 ≤ (aplR a to).states ∧ (aplR a to).states ≤ 9223372036854775807 := by
  by_cases h0 : aplF a to = (0, 0)
  · rw [aplR_0 h0]; exact h
  · rw [aplR_1 h0]; decide
theorem tri_mem {a : Abs} {c : List Int} (ha : AbsOk a) (hc : CostFor a c) {x : Arc} (hx : x ∈ a.arcs) : nth (distL a c) x.fr ≤ nth (distL a c) x.to + nth c x.lab := by
  obtain ⟨i, hi, rfl⟩ := List.getElem_of_mem hx
  have := distL_tri ha hc hi
  rwa [nth_eq hi] at this
section
variable {a b : Abs} {c : List Int} (h : PrdP a b)
include h
theorem cost_a (hc : CostFor (timA a b) c) : CostFor a c := hc
theorem cost_b (hc : CostFor (timA a b) c) : CostFor b c := ⟨hc.1.trans h.lab, hc.2⟩
theorem nS_tim : (nS (timA a b) : Int) = a.states * b.states := by
  have := prd_st h
  show ((a.states * b.states).toNat : Int) = _
  omega
theorem prd_closer (hl : (timA a b).arcs.length ≤ 400) (hc : CostFor (timA a b) c) {n : Int} (h0 : 0 ≤ n) (h1 : n < a.states * b.states) :
    nth (distL a c) (n / b.states) ≤ nth (distL (timA a b) c) n ∧ nth (distL b c) (n % b.states) ≤ nth (distL (timA a b) c) n := by
  have hp := prd_ok h hl
  have hn := nS_tim h
  have hb1 := h.ob.head.1
  have ha1 := h.oa.head.1
  have hca := cost_a h hc
  have hcb := cost_b h hc
  have na := nS_eq h.oa
  have nb := nS_eq h.ob
  have ga := distL_good h.oa hca
  have gb := distL_good h.ob hcb
  refine ⟨distL_ge hp hc (f := fun n => nth (distL a c) (n / b.states)) (fun x q0 q1 => ?_) (fun x q0 q1 hg => ?_) (fun i hi => ?_) h0 (by omega), distL_ge hp hc (f := fun n => nth (distL b c) (n % b.states)) (fun x q0 q1 => ?_) (fun x q0 q1 hg => ?_) (fun i hi => ?_) h0 (by omega)⟩
  · have hpo := pair_of (n := x) (r := a.states) (s := b.states) q0 (by omega) (by omega)
    exact (ga.2 _ hpo.2.1.1 (by omega)).2
  · obtain ⟨u, v, hu, hv, rfl⟩ := tim_goal.1 hg
    have k := setP_mem h.ob.goals hv
    have ku := setP_mem h.oa.goals hu
    simp only [(pair_div (x := u) k.1 k.2).1]
    rw [distL_goal h.oa hca ku.1 (by omega) hu]; exact Int.le_refl _
  · obtain ⟨u, v, hu, hv, hlab, he⟩ := tim_mem.1 (nth_mem (l := (timA a b).arcs) (n := i) (by omega) (by omega))
    have kv := mem_in h.ob hv
    simp only [he, prA, (pair_div (x := u.fr) kv.1.1 kv.1.2).1, (pair_div (x := u.to) kv.2.2.1 kv.2.2.2).1]
    exact tri_mem h.oa hca hu
  · have hpo := pair_of (n := x) (r := a.states) (s := b.states) q0 (by omega) (by omega)
    exact (gb.2 _ hpo.2.2.1 (by omega)).2
  · obtain ⟨u, v, hu, hv, rfl⟩ := tim_goal.1 hg
    have k := setP_mem h.ob.goals hv
    simp only [(pair_div (x := u) k.1 k.2).2]
    rw [distL_goal h.ob hcb k.1 (by omega) hv]; exact Int.le_refl _
  · obtain ⟨u, v, hu, hv, hlab, he⟩ := tim_mem.1 (nth_mem (l := (timA a b).arcs) (n := i) (by omega) (by omega))
    have kv := mem_in h.ob hv
    simp only [he, prA, (pair_div (x := u.fr) kv.1.1 kv.1.2).2, (pair_div (x := u.to) kv.2.2.1 kv.2.2.2).2, hlab]
    exact tri_mem h.ob hcb hv
theorem PrdP.symm : PrdP b a := ⟨h.ob, h.oa, h.lab.symm, by rw [Int.mul_comm]; exact h.st⟩
theorem sym_len : (timA a b).arcs.length ≤ (timA b a).arcs.length := by
  have hsw : ∀ x y, x ∈ a.arcs → y ∈ b.arcs → (⟨((prA b.states x y).fr % b.states) * a.states + (prA b.states x y).fr / b.states, (prA b.states x y).lab, ((prA b.states x y).to % b.states) * a.states + (prA b.states x y).to / b.states⟩ : Arc) = ⟨y.fr * a.states + x.fr, x.lab, y.to * a.states + x.to⟩ := fun x y hx hy => by
    have kv := mem_in h.ob hy
    simp only [prA, (pair_div (x := x.fr) kv.1.1 kv.1.2).1, (pair_div (x := x.to) kv.2.2.1 kv.2.2.2).1, (pair_div (x := x.fr) kv.1.1 kv.1.2).2, (pair_div (x := x.to) kv.2.2.1 kv.2.2.2).2]
  refine inj_le (fun z : Arc => (⟨(z.fr % b.states) * a.states + z.fr / b.states, z.lab, (z.to % b.states) * a.states + z.to / b.states⟩ : Arc)) (arcs_nodup sd_strict) (fun z hz => ?_) (fun z z' hz hz' he => ?_)
  · obtain ⟨x, y, hx, hy, hlab, rfl⟩ := tim_mem.1 hz
    simp only [hsw x y hx hy]
    exact tim_mem.2 ⟨y, x, hy, hx, hlab.symm, by unfold prA; rw [hlab]⟩
  · obtain ⟨x, y, hx, hy, hlab, rfl⟩ := tim_mem.1 hz
    obtain ⟨x', y', hx', hy', hlab', rfl⟩ := tim_mem.1 hz'
    simp only [hsw x y hx hy, hsw x' y' hx' hy', Arc.mk.injEq] at he
    obtain ⟨e1, e2, e3⟩ := he
    have kx := mem_in h.oa hx
    have kx' := mem_in h.oa hx'
    have d1 := pair_div (x := y.fr) kx.1.1 kx.1.2
    have d2 := pair_div (x := y.to) kx.2.2.1 kx.2.2.2
    have d1' := pair_div (x := y'.fr) kx'.1.1 kx'.1.2
    have d2' := pair_div (x := y'.to) kx'.2.2.1 kx'.2.2.2
    rw [e1] at d1
    rw [e3] at d2
    unfold prA
    rw [← d1.2, ← d1.1, ← d2.2, ← d2.1, d1'.1, d1'.2, d2'.1, d2'.2, e2]
theorem sym_glen : (timA a b).goals.length ≤ (timA b a).goals.length := by
  refine inj_le (fun z : Int => (z % b.states) * a.states + z / b.states) (List.Pairwise.imp (fun {x y} hxy he => by omega) (tim_goals_sorted h.oa h.ob)) (fun z hz => ?_) (fun z z' hz hz' he => ?_)
  · obtain ⟨x, y, hx, hy, rfl⟩ := tim_goal.1 hz
    have kv := setP_mem h.ob.goals hy
    simp only [(pair_div (x := x) kv.1 kv.2).1, (pair_div (x := x) kv.1 kv.2).2]
    exact tim_goal.2 ⟨y, x, hy, hx, rfl⟩
  · obtain ⟨x, y, hx, hy, rfl⟩ := tim_goal.1 hz
    obtain ⟨x', y', hx', hy', rfl⟩ := tim_goal.1 hz'
    have kv := setP_mem h.ob.goals hy
    have kv' := setP_mem h.ob.goals hy'
    have ku := setP_mem h.oa.goals hx
    have ku' := setP_mem h.oa.goals hx'
    simp only [(pair_div (x := x) kv.1 kv.2).1, (pair_div (x := x) kv.1 kv.2).2, (pair_div (x := x') kv'.1 kv'.2).1, (pair_div (x := x') kv'.1 kv'.2).2] at he
    have d1 := pair_div (x := y) ku.1 ku.2
    have d2 := pair_div (x := y') ku'.1 ku'.2
    rw [he] at d1
    rw [← d1.1, ← d1.2, d2.1, d2.2]
theorem sym_le (hl : (timA a b).arcs.length ≤ 400) (hc : CostFor (timA a b) c) (hl' : (timA b a).arcs.length ≤ 400) {x y : Int} (hx : 0 ≤ x ∧ x < a.states) (hy : 0 ≤ y ∧ y < b.states) :
    nth (distL (timA b a) c) (y * a.states + x) ≤ nth (distL (timA a b) c) (x * b.states + y) := by
  have hp := prd_ok h hl
  have hs := h.symm
  have hq := prd_ok hs hl'
  have hcq : CostFor (timA b a) c := show CostFor b c from cost_b h hc
  have hn := nS_tim h
  have hm := nS_tim hs
  have hb1 := h.ob.head.1
  have ha1 := h.oa.head.1
  have gq := distL_good hq hcq
  have hin := pair_in hx hy
  have := distL_ge hp hc (f := fun n => nth (distL (timA b a) c) ((n % b.states) * a.states + n / b.states)) (fun n q0 q1 => ?_) (fun n q0 q1 hg => ?_) (fun i hi => ?_) (x := x * b.states + y) hin.1 (by omega)
  · simp only [(pair_div (x := x) hy.1 hy.2).1, (pair_div (x := x) hy.1 hy.2).2] at this
    exact this
  · have hpo := pair_of (n := n) (r := a.states) (s := b.states) q0 (by omega) (by omega)
    have := pair_in hpo.2.2 hpo.2.1
    exact (gq.2 _ this.1 (by omega)).2
  · obtain ⟨u, v, hu, hv, rfl⟩ := tim_goal.1 hg
    have k := setP_mem h.ob.goals hv
    have ku := setP_mem h.oa.goals hu
    simp only [(pair_div (x := u) k.1 k.2).1, (pair_div (x := u) k.1 k.2).2]
    have := pair_in k ku
    rw [distL_goal hq hcq this.1 (by omega) (tim_goal.2 ⟨v, u, hv, hu, rfl⟩)]; exact Int.le_refl _
  · obtain ⟨u, v, hu, hv, hlab, he⟩ := tim_mem.1 (nth_mem (l := (timA a b).arcs) (n := i) (by omega) (by omega))
    have kv := mem_in h.ob hv
    simp only [he, prA, (pair_div (x := u.fr) kv.1.1 kv.1.2).1, (pair_div (x := u.to) kv.2.2.1 kv.2.2.2).1, (pair_div (x := u.fr) kv.1.1 kv.1.2).2, (pair_div (x := u.to) kv.2.2.1 kv.2.2.2).2]
    have hm2 : prA a.states v u ∈ (timA b a).arcs := tim_mem.2 ⟨v, u, hv, hu, hlab.symm, rfl⟩
    have := tri_mem hq hcq hm2
    simp only [prA, ← hlab] at this
    exact this
end
theorem prd_sym {a b : Abs} {c : List Int} (h0 : prdF a b = (0, 0)) (hd : adF (prdR a b) c = (0, 0)) : prdF b a = (0, 0) ∧ adF (prdR b a) c = (0, 0) ∧ (prdR a b).arcs.length = (prdR b a).arcs.length ∧ (prdR a b).goals.length = (prdR b a).goals.length ∧
    (0 ≤ (prdR a b).init ∧ (prdR a b).init < (adR (prdR a b) c).length) ∧ (0 ≤ (prdR b a).init ∧ (prdR b a).init < (adR (prdR b a) c).length) ∧ nth (adR (prdR a b) c) (prdR a b).init = nth (adR (prdR b a) c) (prdR b a).init := by
  obtain ⟨h3, hl⟩ := prdF_inv h0
  have h := prdF3_ok h3
  have hs := h.symm
  have e1 : (timA a b).arcs.length = (timA b a).arcs.length := Nat.le_antisymm (sym_len h) (sym_len hs)
  have hl' : (timA b a).arcs.length ≤ 400 := by omega
  have h0' := prdF_of hs hl'
  rw [prdR_0 h0] at *
  rw [prdR_0 h0'] at *
  obtain ⟨hp, hc, _, _⟩ := adF_ok (congrArg Prod.fst hd)
  have hcq : CostFor (timA b a) c := show CostFor b c from cost_b h hc
  have hq := prd_ok hs hl'
  have hd' : adF (timA b a) c = (0, 0) := by
    rw [← adF_1 (absFault_of hq)]
    exact (costFault_ok (costCode_0 hcq.1 hcq.2)).symm
  have ia := h.oa.head.2.2
  have ib := h.ob.head.2.2
  have l1 := (distL_good hp hc).1
  have l2 := (distL_good hq hcq).1
  have n1 := nS_tim h
  have n2 := nS_tim hs
  have p1 := pair_in ia ib
  have p2 := pair_in ib ia
  rw [adR_0 hd, adR_0 hd']
  refine ⟨h0', hd', e1, Nat.le_antisymm (sym_glen h) (sym_glen hs), ⟨p1.1, by rw [l1]; show a.init * b.states + b.init < _; omega⟩, ⟨p2.1, by rw [l2]; show b.init * a.states + a.init < _; omega⟩, ?_⟩
  exact Int.le_antisymm (sym_le hs hl' hcq hl ib ia) (sym_le h hl hc hl' ia ib)
theorem prd_len {a b : Abs} {c : List Int} (h0 : prdF a b = (0, 0)) (hd : adF (prdR a b) c = (0, 0)) : PrdP a b ∧ (absFault a = (0, 0) ∧ absFault b = (0, 0)) ∧ (adF a c = (0, 0) ∧ adF b c = (0, 0)) ∧ ((adR a c).length : Int) = a.states ∧ ((adR b c).length : Int) = b.states ∧ ((adR (prdR a b) c).length : Int) = a.states * b.states ∧
    ∀ n : Int, 0 ≤ n → n < a.states * b.states → nth (adR a c) (n / b.states) ≤ nth (adR (prdR a b) c) n ∧ nth (adR b c) (n % b.states) ≤ nth (adR (prdR a b) c) n := by
  obtain ⟨h3, hl⟩ := prdF_inv h0
  have h := prdF3_ok h3
  rw [prdR_0 h0] at *
  obtain ⟨hp, hc, _, _⟩ := adF_ok (congrArg Prod.fst hd)
  have hca := cost_a h hc
  have hcb := cost_b h hc
  have hda : adF a c = (0, 0) := by rw [← adF_1 (absFault_of h.oa)]; exact (costFault_ok (costCode_0 hca.1 hca.2)).symm
  have hdb : adF b c = (0, 0) := by rw [← adF_1 (absFault_of h.ob)]; exact (costFault_ok (costCode_0 hcb.1 hcb.2)).symm
  rw [adR_0 hd, adR_0 hda, adR_0 hdb]
  have na := nS_eq h.oa
  have nb := nS_eq h.ob
  have np := nS_tim h
  refine ⟨h, ⟨absFault_of h.oa, absFault_of h.ob⟩, ⟨hda, hdb⟩, by rw [(distL_good h.oa hca).1]; omega, by rw [(distL_good h.ob hcb).1]; omega, by rw [(distL_good hp hc).1]; omega, fun n q0 q1 => prd_closer h hl hc q0 q1⟩
/-! ### Exact label reduction -/
theorem red_apl {l : List Abs} {c : List Int} {ex : Int} (h : redF l c ex = (0, 0)) {k : Nat} (hk : k < l.length) : aplF (nth l k) (redL l c ex) = (0, 0) := by
  have hl := (redF_ok h).1
  obtain ⟨ha, hlab⟩ := (labF_ok hl).2.2.2 k hk
  have hlen : (redL l c ex).length = c.length := by rw [redL_0 h, redTo_len]
  refine aplF_ok (aplF1_ok (absFault_of ha) (by rw [hlen, hlab])) ?_
  rintro ⟨x, hx, hb⟩
  rw [redL_0 h] at hx
  obtain ⟨i, hi, rfl⟩ := List.getElem_of_mem hx
  rw [redTo_len] at hi
  have e : (redTo l c ex c.length)[i]'(by rw [redTo_len]; exact hi) = lowE l c ex i := by rw [← nth_eq]; exact redTo_at hi
  rw [e] at hb
  have := (lowE_ex l c ex i).1
  omega
theorem red_exact {a b : Abs} {c : List Int} {ex : Int} (h0 : prdF a b = (0, 0)) (hd : adF (prdR a b) c = (0, 0)) (hr : redF [a, b] c ex = (0, 0)) :
    aplF a (redL [a, b] c ex) = (0, 0) ∧ aplF b (redL [a, b] c ex) = (0, 0) ∧
    ((prdF (aplR a (redL [a, b] c ex)) (aplR b (redL [a, b] c ex))).1 ≠ 10 → prdF (aplR a (redL [a, b] c ex)) (aplR b (redL [a, b] c ex)) = (0, 0) ∧ adF (prdR (aplR a (redL [a, b] c ex)) (aplR b (redL [a, b] c ex))) c = (0, 0) ∧
      adR (prdR (aplR a (redL [a, b] c ex)) (aplR b (redL [a, b] c ex))) c = adR (prdR a b) c) := by
  have f1 : aplF a (redL [a, b] c ex) = (0, 0) := red_apl hr (k := 0) (by simp)
  have f2 : aplF b (redL [a, b] c ex) = (0, 0) := red_apl hr (k := 1) (by simp)
  refine ⟨f1, f2, ?_⟩
  rw [aplR_0 f1, aplR_0 f2]
  have hlow : ∀ x : Int, 0 ≤ x → x < c.length → nth (redL [a, b] c ex) x = lowE [a, b] c ex x.toNat := fun x q0 q1 => by
    rw [redL_0 hr]
    have := redTo_at (l := [a, b]) (c := c) (ex := ex) (k := c.length) (b := x.toNat) (by omega)
    rwa [Int.toNat_of_nonneg q0] at this
  have hEq : ∀ x : Int, 0 ≤ x → x < c.length → EqvP [a, b] c ex (nth (redL [a, b] c ex) x) x := fun x q0 q1 => by
    rw [hlow x q0 q1]
    have := (lowE_ex [a, b] c ex x.toNat).2.1
    rwa [Int.toNat_of_nonneg q0] at this
  generalize redL [a, b] c ex = to at *
  obtain ⟨h3, hl⟩ := prdF_inv h0
  have h := prdF3_ok h3
  rw [prdR_0 h0] at *
  obtain ⟨hp, hc, _, _⟩ := adF_ok (congrArg Prod.fst hd)
  have hcl : (c.length : Int) = a.labels := hc.1
  have oX := rel_ok f1
  have oY := rel_ok f2
  have hX : PrdP (relA a to) (relA b to) := ⟨oX, oY, h.lab, h.st⟩
  intro hne
  by_cases hbig : 400 < (timA (relA a to) (relA b to)).arcs.length
  · exact absurd (by rw [prdF_big hX hbig]) hne
  · have hl' : (timA (relA a to) (relA b to)).arcs.length ≤ 400 := by omega
    have h0' := prdF_of hX hl'
    rw [prdR_0 h0']
    have hq := prd_ok hX hl'
    have hcq : CostFor (timA (relA a to) (relA b to)) c := hc
    have hd' : adF (timA (relA a to) (relA b to)) c = (0, 0) := by rw [← adF_1 (absFault_of hq)]; exact (costFault_ok (costCode_0 hcq.1 hcq.2)).symm
    refine ⟨h0', hd', ?_⟩
    rw [adR_0 hd, adR_0 hd']
    refine distL_cong hq hcq hp hc rfl (fun x => Iff.rfl) fun e => ?_
    rw [edges_mem, edges_mem]
    have hla : ∀ x, x ∈ a.arcs → 0 ≤ x.lab ∧ x.lab < c.length := fun x hx => by have := (mem_in h.oa hx).2.1; omega
    have hlb : ∀ x, x ∈ b.arcs → 0 ≤ x.lab ∧ x.lab < c.length := fun x hx => by have := (mem_in h.ob hx).2.1; have := h.lab; omega
    constructor
    · rintro ⟨z, hz, rfl⟩
      obtain ⟨x', y', hx', hy', hlab, rfl⟩ := tim_mem.1 hz
      obtain ⟨x, hx, rfl⟩ := rel_mem.1 hx'
      obtain ⟨y, hy, rfl⟩ := rel_mem.1 hy'
      simp only at hlab
      have ex1 := hEq x.lab (hla x hx).1 (hla x hx).2
      have ey1 := hEq y.lab (hlb y hy).1 (hlb y hy).2
      have hxy : EqvP [a, b] c ex x.lab y.lab := (hlab ▸ ex1).symm.trans ey1
      by_cases hex : ex = 1
      · have he : endsL a x.lab = endsL a y.lab := hxy.2 0 (by simp) (by omega)
        have hm := (ends_eq h.oa).1 he x.fr x.to
        refine ⟨prA b.states ⟨x.fr, y.lab, x.to⟩ y, tim_mem.2 ⟨_, _, hm.1 hx, hy, rfl, rfl⟩, ?_⟩
        have hcc : nth c (nth to x.lab) = nth c y.lab := by rw [hlab]; exact ey1.1
        show (⟨_, _, nth c (nth to x.lab)⟩ : Edge) = ⟨_, _, nth c y.lab⟩
        rw [hcc]; rfl
      · have he : endsL b x.lab = endsL b y.lab := hxy.2 1 (by simp) (by omega)
        have hm := (ends_eq h.ob).1 he y.fr y.to
        refine ⟨prA b.states x ⟨y.fr, x.lab, y.to⟩, tim_mem.2 ⟨_, _, hx, hm.2 hy, rfl, rfl⟩, ?_⟩
        show (⟨_, _, nth c (nth to x.lab)⟩ : Edge) = ⟨_, _, nth c x.lab⟩
        rw [ex1.1]; rfl
    · rintro ⟨z, hz, rfl⟩
      obtain ⟨x, y, hx, hy, hlab, rfl⟩ := tim_mem.1 hz
      have ex1 := hEq x.lab (hla x hx).1 (hla x hx).2
      refine ⟨prA b.states ⟨x.fr, nth to x.lab, x.to⟩ ⟨y.fr, nth to y.lab, y.to⟩, tim_mem.2 ⟨_, _, rel_mem.2 ⟨x, hx, rfl⟩, rel_mem.2 ⟨y, hy, rfl⟩, by rw [hlab], rfl⟩, ?_⟩
      show (⟨_, _, nth c x.lab⟩ : Edge) = ⟨_, _, nth c (nth to x.lab)⟩
      rw [ex1.1]; rfl
end Go.Eng
end

section
/- Walks, written by gen.py out of hints. -/





set_option linter.unusedVariables false
set_option linter.unusedSimpArgs false
namespace Go.Proofs.Ytohlmcebphcokaa
open Go.Eng
set_option maxRecDepth 10000
set_option maxHeartbeats 1000000

theorem abstraction_At_does (f : Int × Int) (i : Int) : Does Try.prog false 79 [flt f, I (i)] (flt (if f = (0, 0) then (0, 0) else (f.1, i))) := by
  refine Does.of_body Try.func79 rfl rfl (by simp) Try.call79 (fun w0 O0 => ?_)
  refine Tr.seq ?_
  refine Tr.region ?_
  refine TrOps.semM (OpSem.box 2 rfl rfl rfl rfl) rfl rfl (by decide) ?_
  refine TrOps.semM (OpSem.alloc 4 rfl zc29 rfl) rfl rfl (by decide) ?_
  refine TrOps.nil ?_
  refine At.seq ?_
  refine Tr.cut [(0, flt f), (1, I (i)), (2, .r 2 0), (4, .r 4 0)] [(2, .box [I ((if f = (0, 0) then ((0, 0) : Int × Int) else (f.1, i)).1), I ((if f = (0, 0) then ((0, 0) : Int × Int) else (f.1, i)).2)]), (4, .box [I (0), I (0)])] ?_ ?_
  · refine Tr.seq ?_
    refine Tr.region ?_
    refine TrOps.sem (OpSem.loadbN rfl rfl rfl vs29 (by first | decide | simp)) rfl rfl (by decide) ?_
    refine TrOps.sem (OpSem.build rfl rfl pl29 zc29 rfl rfl) rfl rfl (by decide) ?_
    refine TrOps.sem (OpSem.neS2 rfl rfl rfl io29) rfl rfl (by decide) ?_
    refine TrOps.nil ?_
    refine At.seq ?_
    refine Tr.cond rfl (fun c7 => ?_) (fun c7 => ?_)
    · refine Tr.region ?_
      refine TrOps.sem (OpSem.move (.inl rfl) rfl) rfl rfl (by decide) ?_
      refine TrOps.sem (OpSem.fieldr rfl rfl fo29_1) rfl rfl (by decide) ?_
      refine TrOps.storeb rfl rfl rfl rfl rfl rfl rfl vs3 (by first | decide | simp) ?_
      refine TrOps.nil ?_
      have he : (f.1, i) = (if f = (0, 0) then ((0, 0) : Int × Int) else (f.1, i)) := by rw [if_neg (fun h => by rw [h] at c7; simp at c7)]
      refine At.meet ?_
      exact .slot rfl (.refl _) <| .slot rfl (.refl _) <| .slot rfl (.refl _) <| .slot rfl (.refl _) <| .boxLe rfl (.cons (Le.i (by rw [← he])) <| .cons (Le.i (by rw [← he])) <| .nil) <| .mem rfl <| .nil
    · refine Tr.skip ?_
      have he : f = (if f = (0, 0) then ((0, 0) : Int × Int) else (f.1, i)) := by have q := pair0 (f := f) (by simpa using c7); rw [if_pos q, q]
      refine At.meet ?_
      exact .slot rfl (.refl _) <| .slot rfl (.refl _) <| .slot rfl (.refl _) <| .slot rfl (.refl _) <| .boxLe rfl (.cons (Le.i (congrArg Prod.fst (he))) <| .cons (Le.i (congrArg Prod.snd (he))) <| .nil) <| .mem rfl <| .nil
  · refine Tr.seq ?_
    refine Tr.region ?_
    refine TrOps.sem (OpSem.loadbN rfl rfl rfl vs29 (by first | decide | simp)) rfl rfl (by decide) ?_
    refine TrOps.storeb rfl rfl rfl rfl rfl rfl rfl vs29 (by first | decide | simp) ?_
    refine TrOps.nil ?_
    refine At.seq ?_
    refine Tr.ret ?_
    exact At.ret rfl (.cellN rfl rfl vs29 <| .nil) rfl (.refl _)

theorem abstraction_Times_does (a b : Abs) (h : PrdP a b) : Does Try.prog false 80 [absS a, absS b] (absS (timA a b)) := by
  have hA := h.oa
  have hB := h.ob
  have hal := hA.len
  have hbl := hB.len
  have hst := h.st
  have hs1 := hA.head.1
  have hs2 := hB.head.1
  have hi1 := hA.head.2.2
  have hi2 := hB.head.2.2
  have hga := goals_len hA
  have hgb := goals_len hB
  have hpi := pair_in hi1 hi2
  have hmi : 0 ≤ a.init * b.states := Int.mul_nonneg hi1.1 (by omega)
  have hps := prd_st h
  refine Does.of_body Try.func80 rfl rfl (by simp) Try.call80 (fun w0 O0 => ?_)
  refine Tr.lenG (n := 0) (i := 2) rfl rfl (fun len0_2 => ?_)
  refine Tr.lenG (n := 0) (i := 4) rfl rfl (fun len0_4 => ?_)
  refine Tr.lenG (n := 1) (i := 2) rfl rfl (fun len1_2 => ?_)
  refine Tr.lenG (n := 1) (i := 4) rfl rfl (fun len1_4 => ?_)
  refine Tr.seq ?_
  refine Tr.region ?_
  refine TrOps.semM (OpSem.box 2 rfl rfl rfl rfl) rfl rfl (by decide) ?_
  refine TrOps.semM (OpSem.box 3 rfl rfl rfl rfl) rfl rfl (by decide) ?_
  refine TrOps.semM (OpSem.alloc 4 rfl zc46 rfl) rfl rfl (by decide) ?_
  refine TrOps.nil ?_
  refine At.seq ?_
  refine Tr.seq ?_
  refine Tr.region ?_
  refine TrOps.sem (OpSem.fieldr rfl rfl fo46_0) rfl rfl (by decide) ?_
  refine TrOps.sem (OpSem.loadb1 rfl rfl rfl vs3 rfl) rfl rfl (by decide) ?_
  refine TrOps.sem (OpSem.fieldr rfl rfl fo46_0) rfl rfl (by decide) ?_
  refine TrOps.sem (OpSem.loadb1 rfl rfl rfl vs3 rfl) rfl rfl (by decide) ?_
  refine TrOps.sem (OpSem.bin rfl rfl rfl (bmul (by omega) (by omega))) rfl rfl (by decide) ?_
  refine TrOps.sem (OpSem.fieldr rfl rfl fo46_1) rfl rfl (by decide) ?_
  refine TrOps.sem (OpSem.loadb1 rfl rfl rfl vs3 rfl) rfl rfl (by decide) ?_
  refine TrOps.sem (OpSem.fieldr rfl rfl fo46_3) rfl rfl (by decide) ?_
  refine TrOps.sem (OpSem.loadb1 rfl rfl rfl vs3 rfl) rfl rfl (by decide) ?_
  refine TrOps.sem (OpSem.fieldr rfl rfl fo46_0) rfl rfl (by decide) ?_
  refine TrOps.sem (OpSem.loadb1 rfl rfl rfl vs3 rfl) rfl rfl (by decide) ?_
  refine TrOps.sem (OpSem.bin rfl rfl rfl (bmul (by omega) (by omega))) rfl rfl (by decide) ?_
  refine TrOps.sem (OpSem.fieldr rfl rfl fo46_3) rfl rfl (by decide) ?_
  refine TrOps.sem (OpSem.loadb1 rfl rfl rfl vs3 rfl) rfl rfl (by decide) ?_
  refine TrOps.sem (OpSem.bin rfl rfl rfl (badd (by omega) (by omega))) rfl rfl (by decide) ?_
  refine TrOps.sem (OpSem.build rfl rfl pl46 zc46 rfl rfl) rfl rfl (by decide) ?_
  refine TrOps.semM (OpSem.alloc 5 rfl zc46 rfl) rfl rfl (by decide) ?_
  refine TrOps.storeb rfl rfl rfl rfl rfl rfl rfl vs46 (by first | decide | simp) ?_
  refine TrOps.nil ?_
  refine At.seq ?_
  refine Tr.seq ?_
  refine Tr.seq ?_
  refine Tr.ownNilBox 91 5 4 1 3 rfl rfl rfl ?_
  refine Tr.ownNilBox 92 5 2 3 93 rfl rfl rfl ?_
  refine Tr.region ?_
  refine TrOps.sem (OpSem.fieldr rfl rfl fo46_4) rfl rfl (by decide) ?_
  refine TrOps.sem (OpSem.loadb1 rfl rfl rfl vs22 rfl) rfl rfl (by decide) ?_
  refine TrOps.sem (OpSem.lenL rfl rfl es22) rfl rfl (by decide) ?_
  refine TrOps.sem (OpSem.move (.inl rfl) rfl) rfl rfl (by decide) ?_
  refine TrOps.nil ?_
  refine At.seq ?_
  refine Tr.block ?_
  refine Tr.loop (X := Nat) (fun i => i ≤ a.goals.length) (fun i => [(2, .r 2 0), (3, .r 3 0), (4, .r 4 0), (5, .r 5 0), (31, .d (ints a.goals)), (32, I (a.goals.length)), (33, I (i))]) (fun i => [(5, .box [I (a.states * b.states), I (a.labels), .o 92, I (a.init * b.states + b.init), .o 91]), (91, .own 1 3 ((timH a b i).map fun n => [D.v (.int .i64 n)])), (92, .own 3 93 (([] : List Arc).map arcC)), (2, .box [I (a.states), I (a.labels), .d (arcsD a.arcs), I (a.init), .d (ints a.goals)]), (3, .box [I (b.states), I (b.labels), .d (arcsD b.arcs), I (b.init), .d (ints b.goals)]), (4, .box [I (0), I (0), .d (.v (.slice none 0 0)), I (0), .d (.v (.slice none 0 0))])]) (fun i => a.goals.length - i) 0 (by omega) ?_ ?_
  · exact .slot rfl (.refl _) <| .slot rfl (.refl _) <| .slot rfl (.refl _) <| .slot rfl (.refl _) <| .slot rfl (.refl _) <| .slot rfl (.refl _) <| .slot rfl (Le.of_eq (by simp)) <| .mem rfl <| .memEq rfl (by first | (simp [timH]; done) | (simp [timH]; rfl)) <| .memEq rfl rfl <| .mem rfl <| .mem rfl <| .mem rfl <| .nil
  · rintro i hil
    refine Tr.seq ?_
    refine Tr.region ?_
    refine TrOps.sem (OpSem.bin rfl rfl rfl blss) rfl rfl (by decide) ?_
    refine TrOps.nil ?_
    refine At.seq ?_
    refine Tr.seq ?_
    refine Tr.cond rfl (fun c34 => ?_) (fun c34 => ?_)
    · have hi : i < a.goals.length := by simpa using c34
      have hgx := setP_mem hA.goals (nth_mem (l := a.goals) (n := i) (by omega) (by omega))
      have hHl := timH_len (a := a) (b := b) (by omega) (by omega) (i := i)
      refine Tr.skip ?_
      refine At.seq ?_
      refine Tr.seq ?_
      refine Tr.block ?_
      refine Tr.seq ?_
      refine Tr.region ?_
      refine TrOps.sem (OpSem.idxL rfl rfl rfl es22 (by omega) (by omega)) rfl rfl (by decide) ?_
      refine TrOps.sem (OpSem.load1 rfl rfl vs3 rfl) rfl rfl (by decide) ?_
      refine TrOps.sem (OpSem.move (.inr rfl) rfl) rfl rfl (by decide) ?_
      refine TrOps.nil ?_
      refine At.seq ?_
      refine Tr.seq ?_
      refine Tr.region ?_
      refine TrOps.sem (OpSem.fieldr rfl rfl fo46_4) rfl rfl (by decide) ?_
      refine TrOps.sem (OpSem.loadb1 rfl rfl rfl vs22 rfl) rfl rfl (by decide) ?_
      refine TrOps.sem (OpSem.lenL rfl rfl es22) rfl rfl (by decide) ?_
      refine TrOps.sem (OpSem.move (.inl rfl) rfl) rfl rfl (by decide) ?_
      refine TrOps.nil ?_
      refine At.seq ?_
      refine Tr.block ?_
      refine Tr.loop (X := Nat) (fun j => j ≤ b.goals.length) (fun j => [(2, .r 2 0), (3, .r 3 0), (4, .r 4 0), (5, .r 5 0), (7, I ((nth a.goals i))), (31, .d (ints a.goals)), (32, I (a.goals.length)), (33, I (i)), (38, .d (ints b.goals)), (39, I (b.goals.length)), (40, I (j))]) (fun j => [(5, .box [I (a.states * b.states), I (a.labels), .o 92, I (a.init * b.states + b.init), .o 91]), (91, .own 1 3 ((timH a b i ++ timG a b (nth a.goals i) j).map fun n => [D.v (.int .i64 n)])), (92, .own 3 93 (([] : List Arc).map arcC)), (2, .box [I (a.states), I (a.labels), .d (arcsD a.arcs), I (a.init), .d (ints a.goals)]), (3, .box [I (b.states), I (b.labels), .d (arcsD b.arcs), I (b.init), .d (ints b.goals)]), (4, .box [I (0), I (0), .d (.v (.slice none 0 0)), I (0), .d (.v (.slice none 0 0))])]) (fun j => b.goals.length - j) 0 (by omega) ?_ ?_
      · exact .slot rfl (.refl _) <| .slot rfl (.refl _) <| .slot rfl (.refl _) <| .slot rfl (.refl _) <| .slot rfl (.refl _) <| .slot rfl (.refl _) <| .slot rfl (.refl _) <| .slot rfl (.refl _) <| .slot rfl (.refl _) <| .slot rfl (.refl _) <| .slot rfl (Le.of_eq (by simp)) <| .mem rfl <| .memEq rfl (by first | (simp [timG]; done) | (simp [timG]; rfl)) <| .memEq rfl rfl <| .mem rfl <| .mem rfl <| .mem rfl <| .nil
      · rintro j hjl
        refine Tr.seq ?_
        refine Tr.region ?_
        refine TrOps.sem (OpSem.bin rfl rfl rfl blss) rfl rfl (by decide) ?_
        refine TrOps.nil ?_
        refine At.seq ?_
        refine Tr.seq ?_
        refine Tr.cond rfl (fun c41 => ?_) (fun c41 => ?_)
        · have hj : j < b.goals.length := by simpa using c41
          have hgy := setP_mem hB.goals (nth_mem (l := b.goals) (n := j) (by omega) (by omega))
          have hGl := timG_len (a := a) (b := b) (x := nth a.goals i) (j := j)
          have hpg := pair_in hgx hgy
          have hmg : 0 ≤ nth a.goals i * b.states := Int.mul_nonneg hgx.1 (by omega)
          refine Tr.skip ?_
          refine At.seq ?_
          refine Tr.seq ?_
          refine Tr.block ?_
          refine Tr.seq ?_
          refine Tr.region ?_
          refine TrOps.sem (OpSem.idxL rfl rfl rfl es22 (by omega) (by omega)) rfl rfl (by decide) ?_
          refine TrOps.sem (OpSem.load1 rfl rfl vs3 rfl) rfl rfl (by decide) ?_
          refine TrOps.sem (OpSem.move (.inr rfl) rfl) rfl rfl (by decide) ?_
          refine TrOps.nil ?_
          refine At.seq ?_
          refine Tr.region ?_
          refine TrOps.sem (OpSem.fieldr rfl rfl fo46_4) rfl rfl (by decide) ?_
          refine TrOps.sem (OpSem.loadb1 rfl rfl rfl vs22 rfl) rfl rfl (by decide) ?_
          refine TrOps.sem (OpSem.move (.inl rfl) rfl) rfl rfl (by decide) ?_
          refine TrOps.sem (OpSem.fieldr rfl rfl fo46_0) rfl rfl (by decide) ?_
          refine TrOps.sem (OpSem.loadb1 rfl rfl rfl vs3 rfl) rfl rfl (by decide) ?_
          refine TrOps.sem (OpSem.bin rfl rfl rfl (bmul (by omega) (by omega))) rfl rfl (by decide) ?_
          refine TrOps.sem (OpSem.move (.inl rfl) rfl) rfl rfl (by decide) ?_
          refine TrOps.sem (OpSem.bin rfl rfl rfl (badd (by omega) (by omega))) rfl rfl (by decide) ?_
          refine TrOps.sem (OpSem.buildSlice rfl rfl es22 ze22 rfl rfl (by decide) (by decide) rfl rfl) rfl rfl (by decide) ?_
          refine TrOps.append rfl rfl rfl (by decide) rfl rfl rfl es22 el22 zc3 rfl by3 (by simp [D.one, Value.oneCell']) (by simp [maxLen]; omega) (by simp; omega) ?_
          refine TrOps.sem (OpSem.fieldr rfl rfl fo46_4) rfl rfl (by decide) ?_
          refine TrOps.storeb rfl rfl rfl rfl rfl rfl rfl vs22 (by first | decide | simp) ?_
          refine TrOps.nil ?_
          refine At.block_normal ?_
          refine At.seq ?_
          refine Tr.region ?_
          refine TrOps.sem (OpSem.bin rfl rfl rfl (badd (by omega) (by omega))) rfl rfl (by decide) ?_
          refine TrOps.sem (OpSem.move (.inl rfl) rfl) rfl rfl (by decide) ?_
          refine TrOps.nil ?_
          refine At.again (j + 1) (by omega) ?_ (by omega)
          exact .slot rfl (.refl _) <| .slot rfl (.refl _) <| .slot rfl (.refl _) <| .slot rfl (.refl _) <| .slot rfl (.refl _) <| .slot rfl (.refl _) <| .slot rfl (.refl _) <| .slot rfl (.refl _) <| .slot rfl (.refl _) <| .slot rfl (.refl _) <| .slot rfl (Le.of_eq (by simp)) <| .mem rfl <| .memEq rfl (by rw [← timG_s hj]; simp) <| .memEq rfl rfl <| .mem rfl <| .mem rfl <| .mem rfl <| .nil
        · have hj : j = b.goals.length := by simp at c41; omega
          have hHs := timH_s (b := b) hi
          refine Tr.exit ?_
          refine At.pass_exit ?_
          refine At.pass_exit ?_
          refine At.block_same ?_
          refine At.block_normal ?_
          refine At.seq ?_
          refine Tr.region ?_
          refine TrOps.sem (OpSem.bin rfl rfl rfl (badd (by omega) (by omega))) rfl rfl (by decide) ?_
          refine TrOps.sem (OpSem.move (.inl rfl) rfl) rfl rfl (by decide) ?_
          refine TrOps.nil ?_
          refine At.again (i + 1) (by omega) ?_ (by omega)
          exact .slot rfl (.refl _) <| .slot rfl (.refl _) <| .slot rfl (.refl _) <| .slot rfl (.refl _) <| .slot rfl (.refl _) <| .slot rfl (.refl _) <| .slot rfl (Le.of_eq (by simp)) <| .mem rfl <| .memEq rfl (by rw [← hHs, ← hj]) <| .memEq rfl rfl <| .mem rfl <| .mem rfl <| .mem rfl <| .nil
    · have hi : i = a.goals.length := by simp at c34; omega
      subst hi
      refine Tr.exit ?_
      refine At.pass_exit ?_
      refine At.pass_exit ?_
      refine At.block_same ?_
      refine At.seq ?_
      refine Tr.seq ?_
      refine Tr.seq ?_
      refine Tr.freeze 91 rfl ?_
      refine Tr.region ?_
      refine TrOps.sem (OpSem.fieldr rfl rfl fo46_2) rfl rfl (by decide) ?_
      refine TrOps.sem (OpSem.loadb1 rfl rfl rfl vs44 rfl) rfl rfl (by decide) ?_
      refine TrOps.sem (OpSem.lenL rfl rfl es44) rfl rfl (by decide) ?_
      refine TrOps.sem (OpSem.move (.inl rfl) rfl) rfl rfl (by decide) ?_
      refine TrOps.nil ?_
      refine At.seq ?_
      refine Tr.block ?_
      refine Tr.loop (X := Nat) (fun i => i ≤ a.arcs.length) (fun i => [(3, .r 3 0), (4, .r 4 0), (5, .r 5 0), (58, .d (arcsD a.arcs)), (59, I (a.arcs.length)), (60, I (i))]) (fun i => [(5, .box [I (a.states * b.states), I (a.labels), .o 92, I (a.init * b.states + b.init), .d (ints (timH a b a.goals.length))]), (92, .own 3 93 ((timI a b i).map arcC)), (3, .box [I (b.states), I (b.labels), .d (arcsD b.arcs), I (b.init), .d (ints b.goals)]), (4, .box [I (0), I (0), .d (.v (.slice none 0 0)), I (0), .d (.v (.slice none 0 0))])]) (fun i => a.arcs.length - i) 0 (by omega) ?_ ?_
      · exact .slot rfl (.refl _) <| .slot rfl (.refl _) <| .slot rfl (.refl _) <| .slot rfl (.refl _) <| .slot rfl (.refl _) <| .slot rfl (Le.of_eq (by simp)) <| .mem rfl <| .memEq rfl (by first | (simp [timI]; done) | (simp [timI]; rfl)) <| .mem rfl <| .mem rfl <| .nil
      · rintro i hil
        refine Tr.seq ?_
        refine Tr.region ?_
        refine TrOps.sem (OpSem.bin rfl rfl rfl blss) rfl rfl (by decide) ?_
        refine TrOps.nil ?_
        refine At.seq ?_
        refine Tr.seq ?_
        refine Tr.cond rfl (fun c61 => ?_) (fun c61 => ?_)
        · have hi : i < a.arcs.length := by simpa using c61
          have hx := hA.arc i hi
          have hIl := timI_len (a := a) (b := b) (by omega) (by omega) (i := i)
          refine Tr.skip ?_
          refine At.seq ?_
          refine Tr.seq ?_
          refine Tr.block ?_
          refine Tr.seq ?_
          refine Tr.region ?_
          refine TrOps.sem (OpSem.idxL rfl rfl rfl es44 (by omega) (by omega)) rfl rfl (by decide) ?_
          refine TrOps.sem (OpSem.loadN rfl rfl vs93 (by first | decide | simp) rfl) rfl rfl (by decide) ?_
          refine TrOps.semM (OpSem.alloc 11 rfl zc93 rfl) rfl rfl (by decide) ?_
          refine TrOps.storeb rfl rfl rfl rfl rfl rfl rfl vs93 (by first | decide | simp) ?_
          refine TrOps.nil ?_
          refine At.seq ?_
          refine Tr.seq ?_
          refine Tr.region ?_
          refine TrOps.sem (OpSem.fieldr rfl rfl fo46_2) rfl rfl (by decide) ?_
          refine TrOps.sem (OpSem.loadb1 rfl rfl rfl vs44 rfl) rfl rfl (by decide) ?_
          refine TrOps.sem (OpSem.lenL rfl rfl es44) rfl rfl (by decide) ?_
          refine TrOps.sem (OpSem.move (.inl rfl) rfl) rfl rfl (by decide) ?_
          refine TrOps.nil ?_
          refine At.seq ?_
          refine Tr.block ?_
          refine Tr.loop (X := Nat) (fun j => j ≤ b.arcs.length) (fun j => [(3, .r 3 0), (4, .r 4 0), (5, .r 5 0), (11, .r 11 0), (58, .d (arcsD a.arcs)), (59, I (a.arcs.length)), (60, I (i)), (65, .d (arcsD b.arcs)), (66, I (b.arcs.length)), (67, I (j))]) (fun j => [(5, .box [I (a.states * b.states), I (a.labels), .o 92, I (a.init * b.states + b.init), .d (ints (timH a b a.goals.length))]), (92, .own 3 93 ((timI a b i ++ timJ b (nth a.arcs i) j).map arcC)), (3, .box [I (b.states), I (b.labels), .d (arcsD b.arcs), I (b.init), .d (ints b.goals)]), (4, .box [I (0), I (0), .d (.v (.slice none 0 0)), I (0), .d (.v (.slice none 0 0))]), (11, .box [I ((nth a.arcs i).fr), I ((nth a.arcs i).lab), I ((nth a.arcs i).to)])]) (fun j => b.arcs.length - j) 0 (by omega) ?_ ?_
          · exact .slot rfl (.refl _) <| .slot rfl (.refl _) <| .slot rfl (.refl _) <| .slot rfl (.refl _) <| .slot rfl (.refl _) <| .slot rfl (.refl _) <| .slot rfl (.refl _) <| .slot rfl (.refl _) <| .slot rfl (.refl _) <| .slot rfl (Le.of_eq (by simp)) <| .mem rfl <| .memEq rfl (by first | (simp [timJ]; done) | (simp [timJ]; rfl)) <| .mem rfl <| .mem rfl <| .mem rfl <| .nil
          · rintro j hjl
            refine Tr.seq ?_
            refine Tr.region ?_
            refine TrOps.sem (OpSem.bin rfl rfl rfl blss) rfl rfl (by decide) ?_
            refine TrOps.nil ?_
            refine At.seq ?_
            refine Tr.seq ?_
            refine Tr.cond rfl (fun c68 => ?_) (fun c68 => ?_)
            · have hj : j < b.arcs.length := by simpa using c68
              have hy := hB.arc j hj
              have hJl := timJ_len (b := b) (x := nth a.arcs i) (j := j)
              have hp1 := pair_in hx.1 hy.1
              have hp2 := pair_in hx.2.2 hy.2.2
              have hm1 : 0 ≤ (nth a.arcs i).fr * b.states := Int.mul_nonneg hx.1.1 (by omega)
              have hm2 : 0 ≤ (nth a.arcs i).to * b.states := Int.mul_nonneg hx.2.2.1 (by omega)
              refine Tr.skip ?_
              refine At.seq ?_
              refine Tr.seq ?_
              refine Tr.block ?_
              refine Tr.seq ?_
              refine Tr.region ?_
              refine TrOps.sem (OpSem.idxL rfl rfl rfl es44 (by omega) (by omega)) rfl rfl (by decide) ?_
              refine TrOps.sem (OpSem.loadN rfl rfl vs93 (by first | decide | simp) rfl) rfl rfl (by decide) ?_
              refine TrOps.semM (OpSem.alloc 13 rfl zc93 rfl) rfl rfl (by decide) ?_
              refine TrOps.storeb rfl rfl rfl rfl rfl rfl rfl vs93 (by first | decide | simp) ?_
              refine TrOps.nil ?_
              refine At.seq ?_
              refine Tr.seq ?_
              refine Tr.region ?_
              refine TrOps.sem (OpSem.fieldr rfl rfl fo93_1) rfl rfl (by decide) ?_
              refine TrOps.sem (OpSem.loadb1 rfl rfl rfl vs3 rfl) rfl rfl (by decide) ?_
              refine TrOps.sem (OpSem.fieldr rfl rfl fo93_1) rfl rfl (by decide) ?_
              refine TrOps.sem (OpSem.loadb1 rfl rfl rfl vs3 rfl) rfl rfl (by decide) ?_
              refine TrOps.sem (OpSem.bin rfl rfl rfl beql) rfl rfl (by decide) ?_
              refine TrOps.nil ?_
              refine At.seq ?_
              refine Tr.cond rfl (fun c75 => ?_) (fun c75 => ?_)
              · have hlab : (nth a.arcs i).lab = (nth b.arcs j).lab := by simpa using c75
                have hJs := timJ_t (x := nth a.arcs i) hj hlab
                refine Tr.region ?_
                refine TrOps.sem (OpSem.fieldr rfl rfl fo46_2) rfl rfl (by decide) ?_
                refine TrOps.sem (OpSem.loadb1 rfl rfl rfl vs44 rfl) rfl rfl (by decide) ?_
                refine TrOps.sem (OpSem.fieldr rfl rfl fo93_0) rfl rfl (by decide) ?_
                refine TrOps.sem (OpSem.loadb1 rfl rfl rfl vs3 rfl) rfl rfl (by decide) ?_
                refine TrOps.sem (OpSem.fieldr rfl rfl fo46_0) rfl rfl (by decide) ?_
                refine TrOps.sem (OpSem.loadb1 rfl rfl rfl vs3 rfl) rfl rfl (by decide) ?_
                refine TrOps.sem (OpSem.bin rfl rfl rfl (bmul (by omega) (by omega))) rfl rfl (by decide) ?_
                refine TrOps.sem (OpSem.fieldr rfl rfl fo93_0) rfl rfl (by decide) ?_
                refine TrOps.sem (OpSem.loadb1 rfl rfl rfl vs3 rfl) rfl rfl (by decide) ?_
                refine TrOps.sem (OpSem.bin rfl rfl rfl (badd (by omega) (by omega))) rfl rfl (by decide) ?_
                refine TrOps.sem (OpSem.fieldr rfl rfl fo93_1) rfl rfl (by decide) ?_
                refine TrOps.sem (OpSem.loadb1 rfl rfl rfl vs3 rfl) rfl rfl (by decide) ?_
                refine TrOps.sem (OpSem.fieldr rfl rfl fo93_2) rfl rfl (by decide) ?_
                refine TrOps.sem (OpSem.loadb1 rfl rfl rfl vs3 rfl) rfl rfl (by decide) ?_
                refine TrOps.sem (OpSem.fieldr rfl rfl fo46_0) rfl rfl (by decide) ?_
                refine TrOps.sem (OpSem.loadb1 rfl rfl rfl vs3 rfl) rfl rfl (by decide) ?_
                refine TrOps.sem (OpSem.bin rfl rfl rfl (bmul (by omega) (by omega))) rfl rfl (by decide) ?_
                refine TrOps.sem (OpSem.fieldr rfl rfl fo93_2) rfl rfl (by decide) ?_
                refine TrOps.sem (OpSem.loadb1 rfl rfl rfl vs3 rfl) rfl rfl (by decide) ?_
                refine TrOps.sem (OpSem.bin rfl rfl rfl (badd (by omega) (by omega))) rfl rfl (by decide) ?_
                refine TrOps.sem (OpSem.build rfl rfl pl93 zc93 rfl rfl) rfl rfl (by decide) ?_
                refine TrOps.sem (OpSem.buildSlice rfl rfl es44 ze44 rfl rfl (by decide) (by decide) rfl rfl) rfl rfl (by decide) ?_
                refine TrOps.append rfl rfl rfl (by decide) rfl rfl rfl es44 el44 zc93 rfl by93 (by simp [D.one, Value.oneCell']) (by simp [maxLen]; omega) (by simp; omega) ?_
                refine TrOps.sem (OpSem.fieldr rfl rfl fo46_2) rfl rfl (by decide) ?_
                refine TrOps.storeb rfl rfl rfl rfl rfl rfl rfl vs44 (by first | decide | simp) ?_
                refine TrOps.nil ?_
                refine At.block_normal ?_
                refine At.seq ?_
                refine Tr.region ?_
                refine TrOps.sem (OpSem.bin rfl rfl rfl (badd (by omega) (by omega))) rfl rfl (by decide) ?_
                refine TrOps.sem (OpSem.move (.inl rfl) rfl) rfl rfl (by decide) ?_
                refine TrOps.nil ?_
                refine At.again (j + 1) (by omega) ?_ (by omega)
                exact .slot rfl (.refl _) <| .slot rfl (.refl _) <| .slot rfl (.refl _) <| .slot rfl (.refl _) <| .slot rfl (.refl _) <| .slot rfl (.refl _) <| .slot rfl (.refl _) <| .slot rfl (.refl _) <| .slot rfl (.refl _) <| .slot rfl (Le.of_eq (by simp)) <| .mem rfl <| .memEq rfl (by rw [← hJs]; simp [prA]) <| .mem rfl <| .mem rfl <| .mem rfl <| .nil
              · have hlab : (nth a.arcs i).lab ≠ (nth b.arcs j).lab := by simpa using c75
                have hJs := timJ_f (x := nth a.arcs i) hj hlab
                refine Tr.skip ?_
                refine At.block_normal ?_
                refine At.seq ?_
                refine Tr.region ?_
                refine TrOps.sem (OpSem.bin rfl rfl rfl (badd (by omega) (by omega))) rfl rfl (by decide) ?_
                refine TrOps.sem (OpSem.move (.inl rfl) rfl) rfl rfl (by decide) ?_
                refine TrOps.nil ?_
                refine At.again (j + 1) (by omega) ?_ (by omega)
                exact .slot rfl (.refl _) <| .slot rfl (.refl _) <| .slot rfl (.refl _) <| .slot rfl (.refl _) <| .slot rfl (.refl _) <| .slot rfl (.refl _) <| .slot rfl (.refl _) <| .slot rfl (.refl _) <| .slot rfl (.refl _) <| .slot rfl (Le.of_eq (by simp)) <| .mem rfl <| .memEq rfl (by rw [hJs]; rfl) <| .mem rfl <| .mem rfl <| .mem rfl <| .nil
            · have hj : j = b.arcs.length := by simp at c68; omega
              have hIs := timI_s (b := b) hi
              refine Tr.exit ?_
              refine At.pass_exit ?_
              refine At.pass_exit ?_
              refine At.block_same ?_
              refine At.block_normal ?_
              refine At.seq ?_
              refine Tr.region ?_
              refine TrOps.sem (OpSem.bin rfl rfl rfl (badd (by omega) (by omega))) rfl rfl (by decide) ?_
              refine TrOps.sem (OpSem.move (.inl rfl) rfl) rfl rfl (by decide) ?_
              refine TrOps.nil ?_
              refine At.again (i + 1) (by omega) ?_ (by omega)
              exact .slot rfl (.refl _) <| .slot rfl (.refl _) <| .slot rfl (.refl _) <| .slot rfl (.refl _) <| .slot rfl (.refl _) <| .slot rfl (Le.of_eq (by simp)) <| .mem rfl <| .memEq rfl (by rw [← hIs, ← hj]) <| .mem rfl <| .mem rfl <| .nil
        · have hi : i = a.arcs.length := by simp at c61; omega
          subst hi
          have hIl := timI_len (a := a) (b := b) (by omega) (by omega) (i := a.arcs.length)
          refine Tr.exit ?_
          refine At.pass_exit ?_
          refine At.pass_exit ?_
          refine At.block_same ?_
          refine At.seq ?_
          refine Tr.seq ?_
          refine Tr.region ?_
          refine TrOps.sem (OpSem.loadbN rfl rfl rfl vs46 (by first | decide | simp)) rfl rfl (by decide) ?_
          refine TrOps.callAbs (fun q n c => sorted_all (timI a b a.arcs.length) (a.states * b.states) a.labels (a.init * b.states + b.init) q n c (by omega)) rfl rfl rfl (by decide) rfl rfl rfl (plain_arcs _) ?_
          refine TrOps.freeze 92 rfl ?_
          refine TrOps.storeb rfl rfl rfl rfl rfl rfl rfl vs46 (by first | decide | simp) ?_
          refine TrOps.nil ?_
          refine At.seq ?_
          refine Tr.ret ?_
          exact At.ret rfl (.cellN rfl rfl vs46 <| .nil) rfl (.refl _)

theorem abstraction_Product_does (a b : Abs) (hra : -9223372036854775808 ≤ a.states ∧ a.states ≤ 9223372036854775807) (hrb : -9223372036854775808 ≤ b.states ∧ b.states ≤ 9223372036854775807) : Does Try.prog false 41 [absS a, absS b] (.t [absS (prdR a b), flt (prdF a b)]) := by
  refine Does.of_body Try.func41 rfl rfl (by simp) Try.call41 (fun w0 O0 => ?_)
  refine Tr.lenG (n := 0) (i := 2) rfl rfl (fun len0_2 => ?_)
  refine Tr.lenG (n := 0) (i := 4) rfl rfl (fun len0_4 => ?_)
  refine Tr.lenG (n := 1) (i := 2) rfl rfl (fun len1_2 => ?_)
  refine Tr.lenG (n := 1) (i := 4) rfl rfl (fun len1_4 => ?_)
  refine Tr.seq ?_
  refine Tr.region ?_
  refine TrOps.semM (OpSem.box 2 rfl rfl rfl rfl) rfl rfl (by decide) ?_
  refine TrOps.semM (OpSem.box 3 rfl rfl rfl rfl) rfl rfl (by decide) ?_
  refine TrOps.semM (OpSem.alloc 4 rfl zc46 rfl) rfl rfl (by decide) ?_
  refine TrOps.semM (OpSem.alloc 5 rfl zc29 rfl) rfl rfl (by decide) ?_
  refine TrOps.nil ?_
  refine At.seq ?_
  refine Tr.seq ?_
  refine Tr.region ?_
  refine TrOps.sem (OpSem.loadbN rfl rfl rfl vs46 (by first | decide | simp)) rfl rfl (by decide) ?_
  refine TrOps.sem (OpSem.call0 (abstraction_Validate_does a hra) rfl rfl rfl rfl (Les.refl _)) rfl rfl (by decide) ?_
  refine TrOps.semM (OpSem.alloc 6 rfl zc29 rfl) rfl rfl (by decide) ?_
  refine TrOps.storeb rfl rfl rfl rfl rfl rfl rfl vs29 (by first | decide | simp) ?_
  refine TrOps.nil ?_
  refine At.seq ?_
  refine Tr.cut [(2, .r 2 0), (3, .r 3 0), (4, .r 4 0), (5, .r 5 0), (6, .r 6 0)] [(2, .box [I (a.states), I (a.labels), .d (arcsD a.arcs), I (a.init), .d (ints a.goals)]), (3, .box [I (b.states), I (b.labels), .d (arcsD b.arcs), I (b.init), .d (ints b.goals)]), (4, .box [I (0), I (0), .d (.v (.slice none 0 0)), I (0), .d (.v (.slice none 0 0))]), (5, .box [I (0), I (0)]), (6, .box [I ((prdF1 a b).1), I ((prdF1 a b).2)])] ?_ ?_
  · refine Tr.seq ?_
    refine Tr.region ?_
    refine TrOps.sem (OpSem.loadbN rfl rfl rfl vs29 (by first | decide | simp)) rfl rfl (by decide) ?_
    refine TrOps.sem (OpSem.build rfl rfl pl29 zc29 rfl rfl) rfl rfl (by decide) ?_
    refine TrOps.sem (OpSem.eqS2 rfl rfl rfl io29) rfl rfl (by decide) ?_
    refine TrOps.nil ?_
    refine At.seq ?_
    refine Tr.cond rfl (fun c12 => ?_) (fun c12 => ?_)
    · refine Tr.region ?_
      refine TrOps.sem (OpSem.loadbN rfl rfl rfl vs46 (by first | decide | simp)) rfl rfl (by decide) ?_
      refine TrOps.sem (OpSem.call0 (abstraction_Validate_does b hrb) rfl rfl rfl rfl (Les.refl _)) rfl rfl (by decide) ?_
      refine TrOps.sem (OpSem.call0 (abstraction_At_does (absFault b) (-5)) rfl rfl rfl rfl (Les.refl _)) rfl rfl (by decide) ?_
      refine TrOps.storeb rfl rfl rfl rfl rfl rfl rfl vs29 (by first | decide | simp) ?_
      refine TrOps.nil ?_
      have he : (if absFault b = (0, 0) then ((0, 0) : Int × Int) else ((absFault b).1, -5)) = prdF1 a b := by have q := pair0 (f := absFault a) (by simpa using c12); unfold prdF1; simp [q]
      refine At.meet ?_
      exact .slot rfl (.refl _) <| .slot rfl (.refl _) <| .slot rfl (.refl _) <| .slot rfl (.refl _) <| .slot rfl (.refl _) <| .mem rfl <| .mem rfl <| .mem rfl <| .mem rfl <| .boxLe rfl (.cons (Le.i (congrArg Prod.fst (he))) <| .cons (Le.i (congrArg Prod.snd (he))) <| .nil) <| .nil
    · refine Tr.skip ?_
      have he : absFault a = prdF1 a b := by unfold prdF1; rw [if_pos (fun h => by rw [h] at c12; simp at c12)]
      refine At.meet ?_
      exact .slot rfl (.refl _) <| .slot rfl (.refl _) <| .slot rfl (.refl _) <| .slot rfl (.refl _) <| .slot rfl (.refl _) <| .mem rfl <| .mem rfl <| .mem rfl <| .mem rfl <| .boxLe rfl (.cons (Le.i (congrArg Prod.fst (he))) <| .cons (Le.i (congrArg Prod.snd (he))) <| .nil) <| .nil
  · refine Tr.cut [(2, .r 2 0), (3, .r 3 0), (4, .r 4 0), (5, .r 5 0), (6, .r 6 0)] [(2, .box [I (a.states), I (a.labels), .d (arcsD a.arcs), I (a.init), .d (ints a.goals)]), (3, .box [I (b.states), I (b.labels), .d (arcsD b.arcs), I (b.init), .d (ints b.goals)]), (4, .box [I (0), I (0), .d (.v (.slice none 0 0)), I (0), .d (.v (.slice none 0 0))]), (5, .box [I (0), I (0)]), (6, .box [I ((prdF2 a b).1), I ((prdF2 a b).2)])] ?_ ?_
    · refine Tr.seq ?_
      refine Tr.region ?_
      refine TrOps.sem (OpSem.loadbN rfl rfl rfl vs29 (by first | decide | simp)) rfl rfl (by decide) ?_
      refine TrOps.sem (OpSem.build rfl rfl pl29 zc29 rfl rfl) rfl rfl (by decide) ?_
      refine TrOps.sem (OpSem.eqS2 rfl rfl rfl io29) rfl rfl (by decide) ?_
      refine TrOps.sem (OpSem.move (.inl rfl) rfl) rfl rfl (by decide) ?_
      refine TrOps.split (n := 19) rfl (fun c19 => ?_) (fun c19 => ?_)
      · refine TrOps.gT rfl rfl rfl rfl c19 ?_
        refine TrOps.sem (OpSem.fieldr rfl rfl fo46_1) rfl rfl (by decide) ?_
        refine TrOps.gT rfl rfl rfl rfl c19 ?_
        refine TrOps.sem (OpSem.loadb1 rfl rfl rfl vs3 rfl) rfl rfl (by decide) ?_
        refine TrOps.gT rfl rfl rfl rfl c19 ?_
        refine TrOps.sem (OpSem.fieldr rfl rfl fo46_1) rfl rfl (by decide) ?_
        refine TrOps.gT rfl rfl rfl rfl c19 ?_
        refine TrOps.sem (OpSem.loadb1 rfl rfl rfl vs3 rfl) rfl rfl (by decide) ?_
        refine TrOps.gT rfl rfl rfl rfl c19 ?_
        refine TrOps.sem (OpSem.bin rfl rfl rfl bneq) rfl rfl (by decide) ?_
        refine TrOps.sem (OpSem.pickT rfl rfl c19 rfl) rfl rfl (by decide) ?_
        refine TrOps.nil ?_
        refine At.seq ?_
        refine Tr.cond rfl (fun c25 => ?_) (fun c25 => ?_)
        · refine Tr.region ?_
          refine TrOps.sem (OpSem.build rfl rfl pl29 zc29 rfl rfl) rfl rfl (by decide) ?_
          refine TrOps.storeb rfl rfl rfl rfl rfl rfl rfl vs29 (by first | decide | simp) ?_
          refine TrOps.nil ?_
          have he : (9, -6) = prdF2 a b := by have q := pair0 (f := prdF1 a b) (by simpa using c19); unfold prdF2; rw [if_neg (fun hn => hn q), if_pos (by simpa using c25)]
          refine At.meet ?_
          exact .slot rfl (.refl _) <| .slot rfl (.refl _) <| .slot rfl (.refl _) <| .slot rfl (.refl _) <| .slot rfl (.refl _) <| .mem rfl <| .mem rfl <| .mem rfl <| .mem rfl <| .boxLe rfl (.cons (Le.i (congrArg Prod.fst (he))) <| .cons (Le.i (congrArg Prod.snd (he))) <| .nil) <| .nil
        · refine Tr.skip ?_
          have he : prdF1 a b = prdF2 a b := by have q := pair0 (f := prdF1 a b) (by simpa using c19); unfold prdF2; rw [if_neg (fun hn => hn q), if_neg (by simpa using c25), q]
          refine At.meet ?_
          exact .slot rfl (.refl _) <| .slot rfl (.refl _) <| .slot rfl (.refl _) <| .slot rfl (.refl _) <| .slot rfl (.refl _) <| .mem rfl <| .mem rfl <| .mem rfl <| .mem rfl <| .boxLe rfl (.cons (Le.i (congrArg Prod.fst (he))) <| .cons (Le.i (congrArg Prod.snd (he))) <| .nil) <| .nil
      · refine TrOps.gF rfl rfl rfl rfl c19 rfl (by decide) ?_
        refine TrOps.gF rfl rfl rfl rfl c19 rfl (by decide) ?_
        refine TrOps.gF rfl rfl rfl rfl c19 rfl (by decide) ?_
        refine TrOps.gF rfl rfl rfl rfl c19 rfl (by decide) ?_
        refine TrOps.gF rfl rfl rfl rfl c19 rfl (by decide) ?_
        refine TrOps.sem (OpSem.pickF rfl rfl c19 rfl) rfl rfl (by decide) ?_
        refine TrOps.nil ?_
        refine At.seq ?_
        refine Tr.condF rfl rfl ?_
        refine Tr.skip ?_
        have he : prdF1 a b = prdF2 a b := by unfold prdF2; rw [if_pos (fun h => by rw [h] at c19; simp at c19)]
        refine At.meet ?_
        exact .slot rfl (.refl _) <| .slot rfl (.refl _) <| .slot rfl (.refl _) <| .slot rfl (.refl _) <| .slot rfl (.refl _) <| .mem rfl <| .mem rfl <| .mem rfl <| .mem rfl <| .boxLe rfl (.cons (Le.i (congrArg Prod.fst (he))) <| .cons (Le.i (congrArg Prod.snd (he))) <| .nil) <| .nil
    · refine Tr.cut [(2, .r 2 0), (3, .r 3 0), (4, .r 4 0), (5, .r 5 0), (6, .r 6 0)] [(2, .box [I (a.states), I (a.labels), .d (arcsD a.arcs), I (a.init), .d (ints a.goals)]), (3, .box [I (b.states), I (b.labels), .d (arcsD b.arcs), I (b.init), .d (ints b.goals)]), (4, .box [I (0), I (0), .d (.v (.slice none 0 0)), I (0), .d (.v (.slice none 0 0))]), (5, .box [I (0), I (0)]), (6, .box [I ((prdF3 a b).1), I ((prdF3 a b).2)])] ?_ ?_
      · refine Tr.seq ?_
        refine Tr.region ?_
        refine TrOps.sem (OpSem.loadbN rfl rfl rfl vs29 (by first | decide | simp)) rfl rfl (by decide) ?_
        refine TrOps.sem (OpSem.build rfl rfl pl29 zc29 rfl rfl) rfl rfl (by decide) ?_
        refine TrOps.sem (OpSem.eqS2 rfl rfl rfl io29) rfl rfl (by decide) ?_
        refine TrOps.sem (OpSem.move (.inl rfl) rfl) rfl rfl (by decide) ?_
        refine TrOps.split (n := 30) rfl (fun c30 => ?_) (fun c30 => ?_)
        · have q0 := pair0 (f := prdF2 a b) (by simpa using c30)
          have q1 := prdF1_inv (prdF2_inv q0).1
          have hs1 := (absFault_ok (congrArg Prod.fst q1.1)).1.head.1
          have hs2 := (absFault_ok (congrArg Prod.fst q1.2)).1.head.1
          have hpp : 0 ≤ a.states * b.states ∧ a.states * b.states ≤ 3600 := mul_in (by omega) (by omega)
          refine TrOps.gT rfl rfl rfl rfl c30 ?_
          refine TrOps.sem (OpSem.fieldr rfl rfl fo46_0) rfl rfl (by decide) ?_
          refine TrOps.gT rfl rfl rfl rfl c30 ?_
          refine TrOps.sem (OpSem.loadb1 rfl rfl rfl vs3 rfl) rfl rfl (by decide) ?_
          refine TrOps.gT rfl rfl rfl rfl c30 ?_
          refine TrOps.sem (OpSem.fieldr rfl rfl fo46_0) rfl rfl (by decide) ?_
          refine TrOps.gT rfl rfl rfl rfl c30 ?_
          refine TrOps.sem (OpSem.loadb1 rfl rfl rfl vs3 rfl) rfl rfl (by decide) ?_
          refine TrOps.gT rfl rfl rfl rfl c30 ?_
          refine TrOps.sem (OpSem.bin rfl rfl rfl (bmul (by omega) (by omega))) rfl rfl (by decide) ?_
          refine TrOps.gT rfl rfl rfl rfl c30 ?_
          refine TrOps.sem (OpSem.bin rfl rfl rfl bgtr) rfl rfl (by decide) ?_
          refine TrOps.sem (OpSem.pickT rfl rfl c30 rfl) rfl rfl (by decide) ?_
          refine TrOps.nil ?_
          refine At.seq ?_
          refine Tr.cond rfl (fun c37 => ?_) (fun c37 => ?_)
          · refine Tr.region ?_
            refine TrOps.sem (OpSem.build rfl rfl pl29 zc29 rfl rfl) rfl rfl (by decide) ?_
            refine TrOps.storeb rfl rfl rfl rfl rfl rfl rfl vs29 (by first | decide | simp) ?_
            refine TrOps.nil ?_
            have he : (10, -7) = prdF3 a b := by unfold prdF3; rw [if_neg (fun hn => hn q0), if_pos (by simpa using c37)]
            refine At.meet ?_
            exact .slot rfl (.refl _) <| .slot rfl (.refl _) <| .slot rfl (.refl _) <| .slot rfl (.refl _) <| .slot rfl (.refl _) <| .mem rfl <| .mem rfl <| .mem rfl <| .mem rfl <| .boxLe rfl (.cons (Le.i (congrArg Prod.fst (he))) <| .cons (Le.i (congrArg Prod.snd (he))) <| .nil) <| .nil
          · refine Tr.skip ?_
            have he : prdF2 a b = prdF3 a b := by unfold prdF3; rw [if_neg (fun hn => hn q0), if_neg (by simpa using c37), q0]
            refine At.meet ?_
            exact .slot rfl (.refl _) <| .slot rfl (.refl _) <| .slot rfl (.refl _) <| .slot rfl (.refl _) <| .slot rfl (.refl _) <| .mem rfl <| .mem rfl <| .mem rfl <| .mem rfl <| .boxLe rfl (.cons (Le.i (congrArg Prod.fst (he))) <| .cons (Le.i (congrArg Prod.snd (he))) <| .nil) <| .nil
        · refine TrOps.gF rfl rfl rfl rfl c30 rfl (by decide) ?_
          refine TrOps.gF rfl rfl rfl rfl c30 rfl (by decide) ?_
          refine TrOps.gF rfl rfl rfl rfl c30 rfl (by decide) ?_
          refine TrOps.gF rfl rfl rfl rfl c30 rfl (by decide) ?_
          refine TrOps.gF rfl rfl rfl rfl c30 rfl (by decide) ?_
          refine TrOps.gF rfl rfl rfl rfl c30 rfl (by decide) ?_
          refine TrOps.sem (OpSem.pickF rfl rfl c30 rfl) rfl rfl (by decide) ?_
          refine TrOps.nil ?_
          refine At.seq ?_
          refine Tr.condF rfl rfl ?_
          refine Tr.skip ?_
          have he : prdF2 a b = prdF3 a b := by unfold prdF3; rw [if_pos (fun h => by rw [h] at c30; simp at c30)]
          refine At.meet ?_
          exact .slot rfl (.refl _) <| .slot rfl (.refl _) <| .slot rfl (.refl _) <| .slot rfl (.refl _) <| .slot rfl (.refl _) <| .mem rfl <| .mem rfl <| .mem rfl <| .mem rfl <| .boxLe rfl (.cons (Le.i (congrArg Prod.fst (he))) <| .cons (Le.i (congrArg Prod.snd (he))) <| .nil) <| .nil
      · refine Tr.seq ?_
        refine Tr.seq ?_
        refine Tr.region ?_
        refine TrOps.sem (OpSem.loadbN rfl rfl rfl vs29 (by first | decide | simp)) rfl rfl (by decide) ?_
        refine TrOps.sem (OpSem.build rfl rfl pl29 zc29 rfl rfl) rfl rfl (by decide) ?_
        refine TrOps.sem (OpSem.neS2 rfl rfl rfl io29) rfl rfl (by decide) ?_
        refine TrOps.nil ?_
        refine At.seq ?_
        refine Tr.cond rfl (fun c41 => ?_) (fun c41 => ?_)
        · have hne : prdF3 a b ≠ (0, 0) := fun h => by rw [h] at c41; simp at c41
          have he : prdF3 a b = prdF a b := by unfold prdF; rw [if_pos hne]
          have hne2 : prdF a b ≠ (0, 0) := by rw [← he]; exact hne
          refine Tr.seq ?_
          refine PC.start [4] ?_
          refine PC.sem (OpSem.build rfl rfl pl46 zc46 rfl rfl) rfl rfl ?_
          refine PC.sem (OpSem.loadbN rfl rfl rfl vs29 (by first | decide | simp)) rfl rfl ?_
          refine PC.storeb 100002 rfl rfl rfl rfl rfl rfl rfl vs46 (by first | decide | simp) ?_
          refine PC.done mixed (by kernel_rfl) (by kernel_rfl) (by kernel_rfl) (by kernel_rfl) ?_
          refine TrOps.storeb rfl rfl rfl rfl rfl rfl rfl vs29 (by first | decide | simp) ?_
          refine TrOps.nil ?_
          refine At.seq ?_
          refine Tr.ret ?_
          refine At.pass_ret ?_
          exact At.ret rfl (.cellN rfl rfl vs46 <| .cellN rfl rfl vs29 <| .nil) rfl (Le.t (.cons (by rw [prdR_1 hne2]; exact Le.g (.cons (.refl _) <| .cons (.refl _) <| .cons (Le.nil 3) <| .cons (.refl _) <| .cons (Le.nil 1) <| .nil)) <| .cons (Le.flt (by rw [← he])) <| .nil))
        · have h0 : prdF3 a b = (0, 0) := pair0 (f := prdF3 a b) (by simpa using c41)
          have hP := prdF3_ok h0
          refine Tr.skip ?_
          refine At.seq ?_
          refine Tr.seq ?_
          refine Tr.region ?_
          refine TrOps.sem (OpSem.loadbN rfl rfl rfl vs46 (by first | decide | simp)) rfl rfl (by decide) ?_
          refine TrOps.sem (OpSem.loadbN rfl rfl rfl vs46 (by first | decide | simp)) rfl rfl (by decide) ?_
          refine TrOps.sem (OpSem.call0 (abstraction_Times_does a b hP) rfl rfl rfl rfl (Les.refl _)) rfl rfl (by decide) ?_
          refine TrOps.semM (OpSem.alloc 7 rfl zc46 rfl) rfl rfl (by decide) ?_
          refine TrOps.storeb rfl rfl rfl rfl rfl rfl rfl vs46 (by first | decide | simp) ?_
          refine TrOps.nil ?_
          refine At.seq ?_
          refine Tr.seq ?_
          refine Tr.seq ?_
          refine Tr.region ?_
          refine TrOps.sem (OpSem.fieldr rfl rfl fo46_2) rfl rfl (by decide) ?_
          refine TrOps.sem (OpSem.loadb1 rfl rfl rfl vs44 rfl) rfl rfl (by decide) ?_
          refine TrOps.sem (OpSem.lenL rfl rfl es44) rfl rfl (by decide) ?_
          refine TrOps.sem (OpSem.bin rfl rfl rfl bgtr) rfl rfl (by decide) ?_
          refine TrOps.nil ?_
          refine At.seq ?_
          refine Tr.cond rfl (fun c50 => ?_) (fun c50 => ?_)
          · have he : (10, -7) = prdF a b := (prdF_big hP (by simp at c50; omega)).symm
            have hne2 : prdF a b ≠ (0, 0) := by rw [← he]; decide
            refine Tr.seq ?_
            refine Tr.region ?_
            refine TrOps.sem (OpSem.build rfl rfl pl46 zc46 rfl rfl) rfl rfl (by decide) ?_
            refine TrOps.sem (OpSem.build rfl rfl pl29 zc29 rfl rfl) rfl rfl (by decide) ?_
            refine TrOps.storeb rfl rfl rfl rfl rfl rfl rfl vs46 (by first | decide | simp) ?_
            refine TrOps.storeb rfl rfl rfl rfl rfl rfl rfl vs29 (by first | decide | simp) ?_
            refine TrOps.nil ?_
            refine At.seq ?_
            refine Tr.ret ?_
            refine At.pass_ret ?_
            exact At.ret rfl (.cellN rfl rfl vs46 <| .cellN rfl rfl vs29 <| .nil) rfl (Le.t (.cons (by rw [prdR_1 hne2]; exact Le.g (.cons (.refl _) <| .cons (.refl _) <| .cons (Le.nil 3) <| .cons (.refl _) <| .cons (Le.nil 1) <| .nil)) <| .cons (Le.flt he) <| .nil))
          · have he : prdF a b = (0, 0) := prdF_of hP (by simp at c50; omega)
            refine Tr.skip ?_
            refine At.seq ?_
            refine Tr.seq ?_
            refine PC.start [4] ?_
            refine PC.sem (OpSem.loadbN rfl rfl rfl vs46 (by first | decide | simp)) rfl rfl ?_
            refine PC.sem (OpSem.loadbN rfl rfl rfl vs29 (by first | decide | simp)) rfl rfl ?_
            refine PC.storeb 100002 rfl rfl rfl rfl rfl rfl rfl vs46 (by first | decide | simp) ?_
            refine PC.done mixed (by kernel_rfl) (by kernel_rfl) (by kernel_rfl) (by kernel_rfl) ?_
            refine TrOps.storeb rfl rfl rfl rfl rfl rfl rfl vs29 (by first | decide | simp) ?_
            refine TrOps.nil ?_
            refine At.seq ?_
            refine Tr.ret ?_
            exact At.ret rfl (.cellN rfl rfl vs46 <| .cellN rfl rfl vs29 <| .nil) rfl (Le.t (.cons (Le.of_eq (by rw [prdR_0 he]; rfl)) <| .cons (Le.flt (by rw [he, h0])) <| .nil))

theorem Q_TimesOf_does (a b : Abs) (h : PrdP a b) : Does Try.prog false 42 [absS a, absS b] (absS (timA a b)) := by
  have hA := h.oa
  have hB := h.ob
  have hal := hA.len
  have hbl := hB.len
  have hst := h.st
  have hs1 := hA.head.1
  have hs2 := hB.head.1
  have hi1 := hA.head.2.2
  have hi2 := hB.head.2.2
  have hga := goals_len hA
  have hgb := goals_len hB
  have hpi := pair_in hi1 hi2
  have hmi : 0 ≤ a.init * b.states := Int.mul_nonneg hi1.1 (by omega)
  have hps := prd_st h
  have hnl : a.labels ≤ 40 := hA.head.2.1.2
  have hci : b.states * a.init = a.init * b.states := Int.mul_comm _ _
  refine Does.of_body Try.func42 rfl rfl (by simp) Try.call42 (fun w0 O0 => ?_)
  refine Tr.lenG (n := 0) (i := 2) rfl rfl (fun len0_2 => ?_)
  refine Tr.lenG (n := 0) (i := 4) rfl rfl (fun len0_4 => ?_)
  refine Tr.lenG (n := 1) (i := 2) rfl rfl (fun len1_2 => ?_)
  refine Tr.lenG (n := 1) (i := 4) rfl rfl (fun len1_4 => ?_)
  refine Tr.seq ?_
  refine Tr.region ?_
  refine TrOps.semM (OpSem.box 2 rfl rfl rfl rfl) rfl rfl (by decide) ?_
  refine TrOps.semM (OpSem.box 3 rfl rfl rfl rfl) rfl rfl (by decide) ?_
  refine TrOps.semM (OpSem.alloc 4 rfl zc46 rfl) rfl rfl (by decide) ?_
  refine TrOps.nil ?_
  refine At.seq ?_
  refine Tr.seq ?_
  refine Tr.region ?_
  refine TrOps.sem (OpSem.fieldr rfl rfl fo46_0) rfl rfl (by decide) ?_
  refine TrOps.sem (OpSem.loadb1 rfl rfl rfl vs3 rfl) rfl rfl (by decide) ?_
  refine TrOps.sem (OpSem.fieldr rfl rfl fo46_0) rfl rfl (by decide) ?_
  refine TrOps.sem (OpSem.loadb1 rfl rfl rfl vs3 rfl) rfl rfl (by decide) ?_
  refine TrOps.sem (OpSem.bin rfl rfl rfl (bmul (by omega) (by omega))) rfl rfl (by decide) ?_
  refine TrOps.sem (OpSem.fieldr rfl rfl fo46_1) rfl rfl (by decide) ?_
  refine TrOps.sem (OpSem.loadb1 rfl rfl rfl vs3 rfl) rfl rfl (by decide) ?_
  refine TrOps.sem (OpSem.fieldr rfl rfl fo46_0) rfl rfl (by decide) ?_
  refine TrOps.sem (OpSem.loadb1 rfl rfl rfl vs3 rfl) rfl rfl (by decide) ?_
  refine TrOps.sem (OpSem.fieldr rfl rfl fo46_3) rfl rfl (by decide) ?_
  refine TrOps.sem (OpSem.loadb1 rfl rfl rfl vs3 rfl) rfl rfl (by decide) ?_
  refine TrOps.sem (OpSem.bin rfl rfl rfl (bmul (by omega) (by omega))) rfl rfl (by decide) ?_
  refine TrOps.sem (OpSem.fieldr rfl rfl fo46_3) rfl rfl (by decide) ?_
  refine TrOps.sem (OpSem.loadb1 rfl rfl rfl vs3 rfl) rfl rfl (by decide) ?_
  refine TrOps.sem (OpSem.bin rfl rfl rfl (badd (by omega) (by omega))) rfl rfl (by decide) ?_
  refine TrOps.sem (OpSem.build rfl rfl pl46 zc46 rfl rfl) rfl rfl (by decide) ?_
  refine TrOps.semM (OpSem.alloc 5 rfl zc46 rfl) rfl rfl (by decide) ?_
  refine TrOps.storeb rfl rfl rfl rfl rfl rfl rfl vs46 (by first | decide | simp) ?_
  refine TrOps.nil ?_
  refine At.seq ?_
  refine Tr.seq ?_
  refine Tr.seq ?_
  refine Tr.ownNilBox 91 5 4 1 3 rfl rfl rfl ?_
  refine Tr.ownNilBox 92 5 2 3 93 rfl rfl rfl ?_
  refine Tr.region ?_
  refine TrOps.sem (OpSem.move (.inr rfl) rfl) rfl rfl (by decide) ?_
  refine TrOps.nil ?_
  refine At.seq ?_
  refine Tr.block ?_
  refine Tr.loop (X := Nat) (fun n => (n : Int) ≤ a.states * b.states) (fun n => [(2, .r 2 0), (3, .r 3 0), (4, .r 4 0), (5, .r 5 0), (6, I (n))]) (fun n => [(5, .box [I (a.states * b.states), I (a.labels), .o 92, I (a.init * b.states + b.init), .o 91]), (91, .own 1 3 ((gN a b n).map fun n => [D.v (.int .i64 n)])), (92, .own 3 93 ((rN a b n).map arcC)), (2, .box [I (a.states), I (a.labels), .d (arcsD a.arcs), I (a.init), .d (ints a.goals)]), (3, .box [I (b.states), I (b.labels), .d (arcsD b.arcs), I (b.init), .d (ints b.goals)]), (4, .box [I (0), I (0), .d (.v (.slice none 0 0)), I (0), .d (.v (.slice none 0 0))])]) (fun n => (a.states * b.states).toNat - n) 0 (by omega) ?_ ?_
  · exact .slot rfl (.refl _) <| .slot rfl (.refl _) <| .slot rfl (.refl _) <| .slot rfl (.refl _) <| .slot rfl (Le.of_eq (by simp)) <| .boxLe rfl (.cons (.refl _) <| .cons (.refl _) <| .cons (.refl _) <| .cons (Le.i (by rw [hci])) <| .cons (.refl _) <| .nil) <| .memEq rfl (by first | (simp [gN]; done) | (simp [gN]; rfl)) <| .memEq rfl (by first | (simp [rN]; done) | (simp [rN]; rfl)) <| .mem rfl <| .mem rfl <| .mem rfl <| .nil
  · rintro n hnle
    refine Tr.seq ?_
    refine Tr.seq ?_
    refine Tr.region ?_
    refine TrOps.sem (OpSem.move (.inl rfl) rfl) rfl rfl (by decide) ?_
    refine TrOps.sem (OpSem.fieldr rfl rfl fo46_0) rfl rfl (by decide) ?_
    refine TrOps.sem (OpSem.loadb1 rfl rfl rfl vs3 rfl) rfl rfl (by decide) ?_
    refine TrOps.sem (OpSem.bin rfl rfl rfl blss) rfl rfl (by decide) ?_
    refine TrOps.nil ?_
    refine At.seq ?_
    refine Tr.cond rfl (fun c31 => ?_) (fun c31 => ?_)
    · have hn : (n : Int) < a.states * b.states := by simpa using c31
      have hpo := pair_of (n := (n : Int)) (r := a.states) (s := b.states) (by omega) hn (by omega)
      have hNl := rN_len (a := a) (b := b) (n := n) (by omega) (by omega) (by omega)
      have hGl := gN_len (a := a) (b := b) (n := n)
      refine Tr.skip ?_
      refine At.seq ?_
      refine Tr.seq ?_
      refine Tr.block ?_
      refine Tr.seq ?_
      refine PC.start [] ?_
      refine PC.sem (OpSem.move (.inl rfl) rfl) rfl rfl ?_
      refine PC.sem (OpSem.fieldr rfl rfl fo46_0) rfl rfl ?_
      refine PC.sem (OpSem.loadb1 rfl rfl rfl vs3 rfl) rfl rfl ?_
      refine PC.sem (OpSem.bin rfl rfl rfl (bquo (by omega) (by omega) (by omega))) rfl rfl ?_
      refine PC.sem (OpSem.move (.inl rfl) rfl) rfl rfl ?_
      refine PC.sem (OpSem.fieldr rfl rfl fo46_0) rfl rfl ?_
      refine PC.sem (OpSem.loadb1 rfl rfl rfl vs3 rfl) rfl rfl ?_
      refine PC.sem (OpSem.bin rfl rfl rfl (brem (by omega) (by omega))) rfl rfl ?_
      refine PC.sem (OpSem.move (.inr rfl) rfl) rfl rfl ?_
      refine PC.done0 mixed (by kernel_rfl) (by kernel_rfl) (by kernel_rfl) (by kernel_rfl) (by kernel_rfl) ?_
      refine TrOps.sem (OpSem.move (.inr rfl) rfl) rfl rfl (by decide) ?_
      refine TrOps.nil ?_
      refine At.seq ?_
      refine Tr.cut [(2, .r 2 0), (3, .r 3 0), (4, .r 4 0), (5, .r 5 0), (6, I (n)), (7, I ((n : Int) / b.states)), (8, I ((n : Int) % b.states))] [(2, .box [I (a.states), I (a.labels), .d (arcsD a.arcs), I (a.init), .d (ints a.goals)]), (3, .box [I (b.states), I (b.labels), .d (arcsD b.arcs), I (b.init), .d (ints b.goals)]), (4, .box [I (0), I (0), .d (.v (.slice none 0 0)), I (0), .d (.v (.slice none 0 0))]), (5, .box [I (a.states * b.states), I (a.labels), .o 92, I (a.init * b.states + b.init), .o 91]), (91, .own 1 3 ((gN a b (n + 1)).map fun n => [D.v (.int .i64 n)])), (92, .own 3 93 ((rN a b n).map arcC))] ?_ ?_
      · refine Tr.seq ?_
        refine Tr.region ?_
        refine TrOps.sem (OpSem.fieldr rfl rfl fo46_4) rfl rfl (by decide) ?_
        refine TrOps.sem (OpSem.loadb1 rfl rfl rfl vs22 rfl) rfl rfl (by decide) ?_
        refine TrOps.sem (OpSem.move (.inl rfl) rfl) rfl rfl (by decide) ?_
        refine TrOps.sem (OpSem.call0 (R_Has_does a.goals ((n : Int) / b.states)) rfl rfl rfl rfl (Les.refl _)) rfl rfl (by decide) ?_
        refine TrOps.sem (OpSem.move (.inl rfl) rfl) rfl rfl (by decide) ?_
        refine TrOps.split (n := 46) rfl (fun c46 => ?_) (fun c46 => ?_)
        · have hg1 : (n : Int) / b.states ∈ a.goals := of_decide_eq_true c46
          refine TrOps.gT rfl rfl rfl rfl c46 ?_
          refine TrOps.sem (OpSem.fieldr rfl rfl fo46_4) rfl rfl (by decide) ?_
          refine TrOps.gT rfl rfl rfl rfl c46 ?_
          refine TrOps.sem (OpSem.loadb1 rfl rfl rfl vs22 rfl) rfl rfl (by decide) ?_
          refine TrOps.gT rfl rfl rfl rfl c46 ?_
          refine TrOps.sem (OpSem.move (.inl rfl) rfl) rfl rfl (by decide) ?_
          refine TrOps.gT rfl rfl rfl rfl c46 ?_
          refine TrOps.sem (OpSem.call0 (R_Has_does b.goals ((n : Int) % b.states)) rfl rfl rfl rfl (Les.refl _)) rfl rfl (by decide) ?_
          refine TrOps.sem (OpSem.pickT rfl rfl c46 rfl) rfl rfl (by decide) ?_
          refine TrOps.nil ?_
          refine At.seq ?_
          refine Tr.cond rfl (fun c51 => ?_) (fun c51 => ?_)
          · have hg2 : (n : Int) % b.states ∈ b.goals := of_decide_eq_true c51
            refine Tr.region ?_
            refine TrOps.sem (OpSem.fieldr rfl rfl fo46_4) rfl rfl (by decide) ?_
            refine TrOps.sem (OpSem.loadb1 rfl rfl rfl vs22 rfl) rfl rfl (by decide) ?_
            refine TrOps.sem (OpSem.move (.inl rfl) rfl) rfl rfl (by decide) ?_
            refine TrOps.sem (OpSem.buildSlice rfl rfl es22 ze22 rfl rfl (by decide) (by decide) rfl rfl) rfl rfl (by decide) ?_
            refine TrOps.append rfl rfl rfl (by decide) rfl rfl rfl es22 el22 zc3 rfl by3 (by simp [D.one, Value.oneCell']) (by simp [maxLen]; omega) (by simp; omega) ?_
            refine TrOps.sem (OpSem.fieldr rfl rfl fo46_4) rfl rfl (by decide) ?_
            refine TrOps.storeb rfl rfl rfl rfl rfl rfl rfl vs22 (by first | decide | simp) ?_
            refine TrOps.nil ?_
            refine At.meet ?_
            exact .slot rfl (.refl _) <| .slot rfl (.refl _) <| .slot rfl (.refl _) <| .slot rfl (.refl _) <| .slot rfl (.refl _) <| .slot rfl (.refl _) <| .slot rfl (.refl _) <| .mem rfl <| .mem rfl <| .mem rfl <| .mem rfl <| .memEq rfl (by rw [← gN_t ⟨hg1, hg2⟩]; simp) <| .memEq rfl rfl <| .nil
          · have hg2 : (n : Int) % b.states ∉ b.goals := of_decide_eq_false c51
            refine Tr.skip ?_
            refine At.meet ?_
            exact .slot rfl (.refl _) <| .slot rfl (.refl _) <| .slot rfl (.refl _) <| .slot rfl (.refl _) <| .slot rfl (.refl _) <| .slot rfl (.refl _) <| .slot rfl (.refl _) <| .mem rfl <| .mem rfl <| .mem rfl <| .mem rfl <| .memEq rfl (by rw [← gN_f (fun hh => hg2 hh.2)]) <| .memEq rfl rfl <| .nil
        · have hg1 : (n : Int) / b.states ∉ a.goals := of_decide_eq_false c46
          refine TrOps.gF rfl rfl rfl rfl c46 rfl (by decide) ?_
          refine TrOps.gF rfl rfl rfl rfl c46 rfl (by decide) ?_
          refine TrOps.gF rfl rfl rfl rfl c46 rfl (by decide) ?_
          refine TrOps.gF rfl rfl rfl rfl c46 rfl (by decide) ?_
          refine TrOps.sem (OpSem.pickF rfl rfl c46 rfl) rfl rfl (by decide) ?_
          refine TrOps.nil ?_
          refine At.seq ?_
          refine Tr.condF rfl rfl ?_
          refine Tr.skip ?_
          refine At.meet ?_
          exact .slot rfl (.refl _) <| .slot rfl (.refl _) <| .slot rfl (.refl _) <| .slot rfl (.refl _) <| .slot rfl (.refl _) <| .slot rfl (.refl _) <| .slot rfl (.refl _) <| .mem rfl <| .mem rfl <| .mem rfl <| .mem rfl <| .memEq rfl (by rw [← gN_f (fun hh => hg1 hh.1)]) <| .memEq rfl rfl <| .nil
      · refine Tr.seq ?_
        refine Tr.region ?_
        refine TrOps.sem (OpSem.move (.inr rfl) rfl) rfl rfl (by decide) ?_
        refine TrOps.nil ?_
        refine At.seq ?_
        refine Tr.block ?_
        refine Tr.loop (X := Nat) (fun l => (l : Int) ≤ a.labels) (fun l => [(2, .r 2 0), (3, .r 3 0), (4, .r 4 0), (5, .r 5 0), (6, I (n)), (7, I ((n : Int) / b.states)), (8, I ((n : Int) % b.states)), (9, I (l))]) (fun l => [(5, .box [I (a.states * b.states), I (a.labels), .o 92, I (a.init * b.states + b.init), .o 91]), (91, .own 1 3 ((gN a b (n + 1)).map fun n => [D.v (.int .i64 n)])), (92, .own 3 93 ((rN a b n ++ rL a b n l).map arcC)), (2, .box [I (a.states), I (a.labels), .d (arcsD a.arcs), I (a.init), .d (ints a.goals)]), (3, .box [I (b.states), I (b.labels), .d (arcsD b.arcs), I (b.init), .d (ints b.goals)]), (4, .box [I (0), I (0), .d (.v (.slice none 0 0)), I (0), .d (.v (.slice none 0 0))])]) (fun l => a.labels.toNat - l) 0 (by have := hA.head.2.1; omega) ?_ ?_
        · exact .slot rfl (.refl _) <| .slot rfl (.refl _) <| .slot rfl (.refl _) <| .slot rfl (.refl _) <| .slot rfl (.refl _) <| .slot rfl (.refl _) <| .slot rfl (.refl _) <| .slot rfl (Le.of_eq (by simp)) <| .mem rfl <| .memEq rfl rfl <| .memEq rfl (by first | (simp [rL]; done) | (simp [rL]; rfl)) <| .mem rfl <| .mem rfl <| .mem rfl <| .nil
        · rintro l hll
          refine Tr.seq ?_
          refine Tr.seq ?_
          refine Tr.region ?_
          refine TrOps.sem (OpSem.move (.inl rfl) rfl) rfl rfl (by decide) ?_
          refine TrOps.sem (OpSem.fieldr rfl rfl fo46_1) rfl rfl (by decide) ?_
          refine TrOps.sem (OpSem.loadb1 rfl rfl rfl vs3 rfl) rfl rfl (by decide) ?_
          refine TrOps.sem (OpSem.bin rfl rfl rfl blss) rfl rfl (by decide) ?_
          refine TrOps.nil ?_
          refine At.seq ?_
          refine Tr.cond rfl (fun c61 => ?_) (fun c61 => ?_)
          · have hl : (l : Int) < a.labels := by simpa using c61
            have hLl := rL_len (a := a) (b := b) (n := n) (l := l) (by omega) (by omega)
            refine Tr.skip ?_
            refine At.seq ?_
            refine Tr.seq ?_
            refine Tr.block ?_
            refine Tr.seq ?_
            refine Tr.region ?_
            refine TrOps.sem (OpSem.move (.inr rfl) rfl) rfl rfl (by decide) ?_
            refine TrOps.nil ?_
            refine At.seq ?_
            refine Tr.block ?_
            refine Tr.loop (X := Nat) (fun i => i ≤ a.arcs.length) (fun i => [(2, .r 2 0), (3, .r 3 0), (4, .r 4 0), (5, .r 5 0), (6, I (n)), (7, I ((n : Int) / b.states)), (8, I ((n : Int) % b.states)), (9, I (l)), (10, I (i))]) (fun i => [(5, .box [I (a.states * b.states), I (a.labels), .o 92, I (a.init * b.states + b.init), .o 91]), (91, .own 1 3 ((gN a b (n + 1)).map fun n => [D.v (.int .i64 n)])), (92, .own 3 93 ((rN a b n ++ rL a b n l ++ rI a b n l i).map arcC)), (2, .box [I (a.states), I (a.labels), .d (arcsD a.arcs), I (a.init), .d (ints a.goals)]), (3, .box [I (b.states), I (b.labels), .d (arcsD b.arcs), I (b.init), .d (ints b.goals)]), (4, .box [I (0), I (0), .d (.v (.slice none 0 0)), I (0), .d (.v (.slice none 0 0))])]) (fun i => a.arcs.length - i) 0 (by omega) ?_ ?_
            · exact .slot rfl (.refl _) <| .slot rfl (.refl _) <| .slot rfl (.refl _) <| .slot rfl (.refl _) <| .slot rfl (.refl _) <| .slot rfl (.refl _) <| .slot rfl (.refl _) <| .slot rfl (.refl _) <| .slot rfl (Le.of_eq (by simp)) <| .mem rfl <| .memEq rfl rfl <| .memEq rfl (by first | (simp [rI]; done) | (simp [rI]; rfl)) <| .mem rfl <| .mem rfl <| .mem rfl <| .nil
            · rintro i hil
              refine Tr.seq ?_
              refine Tr.seq ?_
              refine Tr.region ?_
              refine TrOps.sem (OpSem.move (.inl rfl) rfl) rfl rfl (by decide) ?_
              refine TrOps.sem (OpSem.fieldr rfl rfl fo46_2) rfl rfl (by decide) ?_
              refine TrOps.sem (OpSem.loadb1 rfl rfl rfl vs44 rfl) rfl rfl (by decide) ?_
              refine TrOps.sem (OpSem.lenL rfl rfl es44) rfl rfl (by decide) ?_
              refine TrOps.sem (OpSem.bin rfl rfl rfl blss) rfl rfl (by decide) ?_
              refine TrOps.nil ?_
              refine At.seq ?_
              refine Tr.cond rfl (fun c68 => ?_) (fun c68 => ?_)
              · have hi : i < a.arcs.length := by simpa using c68
                have hx := hA.arc i hi
                have hIl := rI_len (a := a) (b := b) (n := n) (lab := l) (i := i) (by omega)
                refine Tr.skip ?_
                refine At.seq ?_
                refine Tr.seq ?_
                refine Tr.block ?_
                refine Tr.seq ?_
                refine Tr.region ?_
                refine TrOps.sem (OpSem.move (.inr rfl) rfl) rfl rfl (by decide) ?_
                refine TrOps.nil ?_
                refine At.seq ?_
                refine Tr.block ?_
                refine Tr.loop (X := Nat) (fun k => k ≤ b.arcs.length) (fun k => [(2, .r 2 0), (3, .r 3 0), (4, .r 4 0), (5, .r 5 0), (6, I (n)), (7, I ((n : Int) / b.states)), (8, I ((n : Int) % b.states)), (9, I (l)), (10, I (i)), (11, I (k))]) (fun k => [(5, .box [I (a.states * b.states), I (a.labels), .o 92, I (a.init * b.states + b.init), .o 91]), (91, .own 1 3 ((gN a b (n + 1)).map fun n => [D.v (.int .i64 n)])), (92, .own 3 93 ((rN a b n ++ rL a b n l ++ rI a b n l i ++ rK a b n l i k).map arcC)), (2, .box [I (a.states), I (a.labels), .d (arcsD a.arcs), I (a.init), .d (ints a.goals)]), (3, .box [I (b.states), I (b.labels), .d (arcsD b.arcs), I (b.init), .d (ints b.goals)]), (4, .box [I (0), I (0), .d (.v (.slice none 0 0)), I (0), .d (.v (.slice none 0 0))])]) (fun k => b.arcs.length - k) 0 (by omega) ?_ ?_
                · exact .slot rfl (.refl _) <| .slot rfl (.refl _) <| .slot rfl (.refl _) <| .slot rfl (.refl _) <| .slot rfl (.refl _) <| .slot rfl (.refl _) <| .slot rfl (.refl _) <| .slot rfl (.refl _) <| .slot rfl (.refl _) <| .slot rfl (Le.of_eq (by simp)) <| .mem rfl <| .memEq rfl rfl <| .memEq rfl (by first | (simp [rK_0]; done) | (simp [rK_0]; rfl)) <| .mem rfl <| .mem rfl <| .mem rfl <| .nil
                · rintro k hkl
                  refine Tr.seq ?_
                  refine Tr.seq ?_
                  refine Tr.region ?_
                  refine TrOps.sem (OpSem.move (.inl rfl) rfl) rfl rfl (by decide) ?_
                  refine TrOps.sem (OpSem.fieldr rfl rfl fo46_2) rfl rfl (by decide) ?_
                  refine TrOps.sem (OpSem.loadb1 rfl rfl rfl vs44 rfl) rfl rfl (by decide) ?_
                  refine TrOps.sem (OpSem.lenL rfl rfl es44) rfl rfl (by decide) ?_
                  refine TrOps.sem (OpSem.bin rfl rfl rfl blss) rfl rfl (by decide) ?_
                  refine TrOps.sem (OpSem.move (.inl rfl) rfl) rfl rfl (by decide) ?_
                  refine TrOps.split (n := 76) rfl (fun c76 => ?_) (fun c76 => ?_)
                  · have hk : k < b.arcs.length := by simpa using c76
                    refine TrOps.gT rfl rfl rfl rfl c76 ?_
                    refine TrOps.sem (OpSem.fieldr rfl rfl fo46_2) rfl rfl (by decide) ?_
                    refine TrOps.gT rfl rfl rfl rfl c76 ?_
                    refine TrOps.sem (OpSem.loadb1 rfl rfl rfl vs44 rfl) rfl rfl (by decide) ?_
                    refine TrOps.gT rfl rfl rfl rfl c76 ?_
                    refine TrOps.sem (OpSem.move (.inl rfl) rfl) rfl rfl (by decide) ?_
                    refine TrOps.gT rfl rfl rfl rfl c76 ?_
                    refine TrOps.sem (OpSem.idxL rfl rfl rfl es44 (by omega) (by omega)) rfl rfl (by decide) ?_
                    refine TrOps.gT rfl rfl rfl rfl c76 ?_
                    refine TrOps.sem (OpSem.fieldp rfl rfl fo93_0) rfl rfl (by decide) ?_
                    refine TrOps.gT rfl rfl rfl rfl c76 ?_
                    refine TrOps.sem (OpSem.load1 rfl rfl vs3 rfl) rfl rfl (by decide) ?_
                    refine TrOps.gT rfl rfl rfl rfl c76 ?_
                    refine TrOps.sem (OpSem.move (.inl rfl) rfl) rfl rfl (by decide) ?_
                    refine TrOps.gT rfl rfl rfl rfl c76 ?_
                    refine TrOps.sem (OpSem.bin rfl rfl rfl beql) rfl rfl (by decide) ?_
                    refine TrOps.sem (OpSem.pickT rfl rfl c76 rfl) rfl rfl (by decide) ?_
                    refine TrOps.sem (OpSem.move (.inl rfl) rfl) rfl rfl (by decide) ?_
                    refine TrOps.split (n := 86) rfl (fun c86 => ?_) (fun c86 => ?_)
                    · have hf1 : (nth a.arcs i).fr = (n : Int) / b.states := by simpa using c86
                      refine TrOps.gT rfl rfl rfl rfl c86 ?_
                      refine TrOps.sem (OpSem.fieldr rfl rfl fo46_2) rfl rfl (by decide) ?_
                      refine TrOps.gT rfl rfl rfl rfl c86 ?_
                      refine TrOps.sem (OpSem.loadb1 rfl rfl rfl vs44 rfl) rfl rfl (by decide) ?_
                      refine TrOps.gT rfl rfl rfl rfl c86 ?_
                      refine TrOps.sem (OpSem.move (.inl rfl) rfl) rfl rfl (by decide) ?_
                      refine TrOps.gT rfl rfl rfl rfl c86 ?_
                      refine TrOps.sem (OpSem.idxL rfl rfl rfl es44 (by omega) (by omega)) rfl rfl (by decide) ?_
                      refine TrOps.gT rfl rfl rfl rfl c86 ?_
                      refine TrOps.sem (OpSem.fieldp rfl rfl fo93_1) rfl rfl (by decide) ?_
                      refine TrOps.gT rfl rfl rfl rfl c86 ?_
                      refine TrOps.sem (OpSem.load1 rfl rfl vs3 rfl) rfl rfl (by decide) ?_
                      refine TrOps.gT rfl rfl rfl rfl c86 ?_
                      refine TrOps.sem (OpSem.move (.inl rfl) rfl) rfl rfl (by decide) ?_
                      refine TrOps.gT rfl rfl rfl rfl c86 ?_
                      refine TrOps.sem (OpSem.bin rfl rfl rfl beql) rfl rfl (by decide) ?_
                      refine TrOps.sem (OpSem.pickT rfl rfl c86 rfl) rfl rfl (by decide) ?_
                      refine TrOps.nil ?_
                      refine At.seq ?_
                      refine Tr.cond rfl (fun c95 => ?_) (fun c95 => ?_)
                      · have hf2 : (nth a.arcs i).lab = (l : Int) := by simpa using c95
                        have hKl := rK_len (a := a) (b := b) (n := n) (lab := l) (i := i) (k := k)
                        have hy := hB.arc k hk
                        have hp2 := pair_in hx.2.2 hy.2.2
                        have hm2 : 0 ≤ (nth a.arcs i).to * b.states := Int.mul_nonneg hx.2.2.1 (by omega)
                        refine Tr.skip ?_
                        refine At.seq ?_
                        refine Tr.seq ?_
                        refine Tr.block ?_
                        refine Tr.seq ?_
                        refine Tr.region ?_
                        refine TrOps.sem (OpSem.fieldr rfl rfl fo46_2) rfl rfl (by decide) ?_
                        refine TrOps.sem (OpSem.loadb1 rfl rfl rfl vs44 rfl) rfl rfl (by decide) ?_
                        refine TrOps.sem (OpSem.move (.inl rfl) rfl) rfl rfl (by decide) ?_
                        refine TrOps.sem (OpSem.idxL rfl rfl rfl es44 (by omega) (by omega)) rfl rfl (by decide) ?_
                        refine TrOps.sem (OpSem.fieldp rfl rfl fo93_0) rfl rfl (by decide) ?_
                        refine TrOps.sem (OpSem.load1 rfl rfl vs3 rfl) rfl rfl (by decide) ?_
                        refine TrOps.sem (OpSem.move (.inl rfl) rfl) rfl rfl (by decide) ?_
                        refine TrOps.sem (OpSem.bin rfl rfl rfl beql) rfl rfl (by decide) ?_
                        refine TrOps.sem (OpSem.move (.inl rfl) rfl) rfl rfl (by decide) ?_
                        refine TrOps.split (n := 106) rfl (fun c106 => ?_) (fun c106 => ?_)
                        · have hy1 : (nth b.arcs k).fr = (n : Int) % b.states := by simpa using c106
                          refine TrOps.gT rfl rfl rfl rfl c106 ?_
                          refine TrOps.sem (OpSem.fieldr rfl rfl fo46_2) rfl rfl (by decide) ?_
                          refine TrOps.gT rfl rfl rfl rfl c106 ?_
                          refine TrOps.sem (OpSem.loadb1 rfl rfl rfl vs44 rfl) rfl rfl (by decide) ?_
                          refine TrOps.gT rfl rfl rfl rfl c106 ?_
                          refine TrOps.sem (OpSem.move (.inl rfl) rfl) rfl rfl (by decide) ?_
                          refine TrOps.gT rfl rfl rfl rfl c106 ?_
                          refine TrOps.sem (OpSem.idxL rfl rfl rfl es44 (by omega) (by omega)) rfl rfl (by decide) ?_
                          refine TrOps.gT rfl rfl rfl rfl c106 ?_
                          refine TrOps.sem (OpSem.fieldp rfl rfl fo93_1) rfl rfl (by decide) ?_
                          refine TrOps.gT rfl rfl rfl rfl c106 ?_
                          refine TrOps.sem (OpSem.load1 rfl rfl vs3 rfl) rfl rfl (by decide) ?_
                          refine TrOps.gT rfl rfl rfl rfl c106 ?_
                          refine TrOps.sem (OpSem.move (.inl rfl) rfl) rfl rfl (by decide) ?_
                          refine TrOps.gT rfl rfl rfl rfl c106 ?_
                          refine TrOps.sem (OpSem.bin rfl rfl rfl beql) rfl rfl (by decide) ?_
                          refine TrOps.sem (OpSem.pickT rfl rfl c106 rfl) rfl rfl (by decide) ?_
                          refine TrOps.nil ?_
                          refine At.seq ?_
                          refine Tr.cond rfl (fun c115 => ?_) (fun c115 => ?_)
                          · have hy2 : (nth b.arcs k).lab = (l : Int) := by simpa using c115
                            have hKs := rK_t hk ⟨hf1, hf2⟩ ⟨hy1, hy2⟩
                            refine PC.start [] ?_
                            refine PC.sem (OpSem.fieldr rfl rfl fo46_2) rfl rfl ?_
                            refine PC.sem (OpSem.loadb1 rfl rfl rfl vs44 rfl) rfl rfl ?_
                            refine PC.sem (OpSem.move (.inl rfl) rfl) rfl rfl ?_
                            refine PC.sem (OpSem.move (.inl rfl) rfl) rfl rfl ?_
                            refine PC.sem (OpSem.fieldr rfl rfl fo46_2) rfl rfl ?_
                            refine PC.sem (OpSem.loadb1 rfl rfl rfl vs44 rfl) rfl rfl ?_
                            refine PC.sem (OpSem.move (.inl rfl) rfl) rfl rfl ?_
                            refine PC.sem (OpSem.idxL rfl rfl rfl es44 (by omega) (by omega)) rfl rfl ?_
                            refine PC.sem (OpSem.fieldp rfl rfl fo93_2) rfl rfl ?_
                            refine PC.sem (OpSem.load1 rfl rfl vs3 rfl) rfl rfl ?_
                            refine PC.sem (OpSem.fieldr rfl rfl fo46_0) rfl rfl ?_
                            refine PC.sem (OpSem.loadb1 rfl rfl rfl vs3 rfl) rfl rfl ?_
                            refine PC.sem (OpSem.bin rfl rfl rfl (bmul (by omega) (by omega))) rfl rfl ?_
                            refine PC.sem (OpSem.fieldr rfl rfl fo46_2) rfl rfl ?_
                            refine PC.sem (OpSem.loadb1 rfl rfl rfl vs44 rfl) rfl rfl ?_
                            refine PC.sem (OpSem.move (.inl rfl) rfl) rfl rfl ?_
                            refine PC.sem (OpSem.idxL rfl rfl rfl es44 (by omega) (by omega)) rfl rfl ?_
                            refine PC.sem (OpSem.fieldp rfl rfl fo93_2) rfl rfl ?_
                            refine PC.sem (OpSem.load1 rfl rfl vs3 rfl) rfl rfl ?_
                            refine PC.sem (OpSem.bin rfl rfl rfl (badd (by omega) (by omega))) rfl rfl ?_
                            refine PC.sem (OpSem.build rfl rfl pl93 zc93 rfl rfl) rfl rfl ?_
                            refine PC.sem (OpSem.buildSlice rfl rfl es44 ze44 rfl rfl (by decide) (by decide) rfl rfl) rfl rfl ?_
                            refine PC.done0 mixed (by kernel_rfl) (by kernel_rfl) (by kernel_rfl) (by kernel_rfl) (by kernel_rfl) ?_
                            refine TrOps.append rfl rfl rfl (by decide) rfl rfl rfl es44 el44 zc93 rfl by93 (by simp [D.one, Value.oneCell']) (by simp [maxLen]; omega) (by simp; omega) ?_
                            refine TrOps.sem (OpSem.fieldr rfl rfl fo46_2) rfl rfl (by decide) ?_
                            refine TrOps.storeb rfl rfl rfl rfl rfl rfl rfl vs44 (by first | decide | simp) ?_
                            refine TrOps.nil ?_
                            refine At.block_normal ?_
                            refine At.seq ?_
                            refine Tr.region ?_
                            refine TrOps.sem (OpSem.move (.inl rfl) rfl) rfl rfl (by decide) ?_
                            refine TrOps.sem (OpSem.bin rfl rfl rfl (badd (by omega) (by omega))) rfl rfl (by decide) ?_
                            refine TrOps.sem (OpSem.move (.inr rfl) rfl) rfl rfl (by decide) ?_
                            refine TrOps.nil ?_
                            refine At.again (k + 1) (by omega) ?_ (by omega)
                            exact .slot rfl (.refl _) <| .slot rfl (.refl _) <| .slot rfl (.refl _) <| .slot rfl (.refl _) <| .slot rfl (.refl _) <| .slot rfl (.refl _) <| .slot rfl (.refl _) <| .slot rfl (.refl _) <| .slot rfl (.refl _) <| .slot rfl (Le.of_eq (by simp)) <| .mem rfl <| .memEq rfl rfl <| .memEq rfl (by rw [← hKs]; simp) <| .mem rfl <| .mem rfl <| .mem rfl <| .nil
                          · have hy2 : (nth b.arcs k).lab ≠ (l : Int) := by simpa using c115
                            have hKs := rK_f (a := a) (n := n) (lab := l) (i := i) hk (fun hh => hy2 hh.2)
                            refine Tr.skip ?_
                            refine At.block_normal ?_
                            refine At.seq ?_
                            refine Tr.region ?_
                            refine TrOps.sem (OpSem.move (.inl rfl) rfl) rfl rfl (by decide) ?_
                            refine TrOps.sem (OpSem.bin rfl rfl rfl (badd (by omega) (by omega))) rfl rfl (by decide) ?_
                            refine TrOps.sem (OpSem.move (.inr rfl) rfl) rfl rfl (by decide) ?_
                            refine TrOps.nil ?_
                            refine At.again (k + 1) (by omega) ?_ (by omega)
                            exact .slot rfl (.refl _) <| .slot rfl (.refl _) <| .slot rfl (.refl _) <| .slot rfl (.refl _) <| .slot rfl (.refl _) <| .slot rfl (.refl _) <| .slot rfl (.refl _) <| .slot rfl (.refl _) <| .slot rfl (.refl _) <| .slot rfl (Le.of_eq (by simp)) <| .mem rfl <| .memEq rfl rfl <| .memEq rfl (by rw [← hKs]) <| .mem rfl <| .mem rfl <| .mem rfl <| .nil
                        · have hy1 : (nth b.arcs k).fr ≠ (n : Int) % b.states := by simpa using c106
                          have hKs := rK_f (a := a) (n := n) (lab := l) (i := i) hk (fun hh => hy1 hh.1)
                          refine TrOps.gF rfl rfl rfl rfl c106 rfl (by decide) ?_
                          refine TrOps.gF rfl rfl rfl rfl c106 rfl (by decide) ?_
                          refine TrOps.gF rfl rfl rfl rfl c106 rfl (by decide) ?_
                          refine TrOps.gF rfl rfl rfl rfl c106 rfl (by decide) ?_
                          refine TrOps.gF rfl rfl rfl rfl c106 rfl (by decide) ?_
                          refine TrOps.gF rfl rfl rfl rfl c106 rfl (by decide) ?_
                          refine TrOps.gF rfl rfl rfl rfl c106 rfl (by decide) ?_
                          refine TrOps.gF rfl rfl rfl rfl c106 rfl (by decide) ?_
                          refine TrOps.sem (OpSem.pickF rfl rfl c106 rfl) rfl rfl (by decide) ?_
                          refine TrOps.nil ?_
                          refine At.seq ?_
                          refine Tr.condF rfl rfl ?_
                          refine Tr.skip ?_
                          refine At.block_normal ?_
                          refine At.seq ?_
                          refine Tr.region ?_
                          refine TrOps.sem (OpSem.move (.inl rfl) rfl) rfl rfl (by decide) ?_
                          refine TrOps.sem (OpSem.bin rfl rfl rfl (badd (by omega) (by omega))) rfl rfl (by decide) ?_
                          refine TrOps.sem (OpSem.move (.inr rfl) rfl) rfl rfl (by decide) ?_
                          refine TrOps.nil ?_
                          refine At.again (k + 1) (by omega) ?_ (by omega)
                          exact .slot rfl (.refl _) <| .slot rfl (.refl _) <| .slot rfl (.refl _) <| .slot rfl (.refl _) <| .slot rfl (.refl _) <| .slot rfl (.refl _) <| .slot rfl (.refl _) <| .slot rfl (.refl _) <| .slot rfl (.refl _) <| .slot rfl (Le.of_eq (by simp)) <| .mem rfl <| .memEq rfl rfl <| .memEq rfl (by rw [← hKs]) <| .mem rfl <| .mem rfl <| .mem rfl <| .nil
                      · have hf2 : (nth a.arcs i).lab ≠ (l : Int) := by simpa using c95
                        have hKe : rK a b n l i k = rK a b n l i b.arcs.length := by rw [rK_no (fun hh => hf2 hh.2), rK_no (fun hh => hf2 hh.2)]
                        refine Tr.exit ?_
                        refine At.pass_exit ?_
                        refine At.pass_exit ?_
                        refine At.block_same ?_
                        refine At.block_normal ?_
                        refine At.seq ?_
                        refine Tr.region ?_
                        refine TrOps.sem (OpSem.move (.inl rfl) rfl) rfl rfl (by decide) ?_
                        refine TrOps.sem (OpSem.bin rfl rfl rfl (badd (by omega) (by omega))) rfl rfl (by decide) ?_
                        refine TrOps.sem (OpSem.move (.inr rfl) rfl) rfl rfl (by decide) ?_
                        refine TrOps.nil ?_
                        refine At.again (i + 1) (by omega) ?_ (by omega)
                        exact .slot rfl (.refl _) <| .slot rfl (.refl _) <| .slot rfl (.refl _) <| .slot rfl (.refl _) <| .slot rfl (.refl _) <| .slot rfl (.refl _) <| .slot rfl (.refl _) <| .slot rfl (.refl _) <| .slot rfl (Le.of_eq (by simp)) <| .mem rfl <| .memEq rfl rfl <| .memEq rfl (by rw [← rI_s (a := a) (b := b) (n := n) (lab := l) (i := i), ← hKe]; simp) <| .mem rfl <| .mem rfl <| .mem rfl <| .nil
                    · have hf1 : (nth a.arcs i).fr ≠ (n : Int) / b.states := by simpa using c86
                      have hKe : rK a b n l i k = rK a b n l i b.arcs.length := by rw [rK_no (fun hh => hf1 hh.1), rK_no (fun hh => hf1 hh.1)]
                      refine TrOps.gF rfl rfl rfl rfl c86 rfl (by decide) ?_
                      refine TrOps.gF rfl rfl rfl rfl c86 rfl (by decide) ?_
                      refine TrOps.gF rfl rfl rfl rfl c86 rfl (by decide) ?_
                      refine TrOps.gF rfl rfl rfl rfl c86 rfl (by decide) ?_
                      refine TrOps.gF rfl rfl rfl rfl c86 rfl (by decide) ?_
                      refine TrOps.gF rfl rfl rfl rfl c86 rfl (by decide) ?_
                      refine TrOps.gF rfl rfl rfl rfl c86 rfl (by decide) ?_
                      refine TrOps.gF rfl rfl rfl rfl c86 rfl (by decide) ?_
                      refine TrOps.sem (OpSem.pickF rfl rfl c86 rfl) rfl rfl (by decide) ?_
                      refine TrOps.nil ?_
                      refine At.seq ?_
                      refine Tr.condF rfl rfl ?_
                      refine Tr.exit ?_
                      refine At.pass_exit ?_
                      refine At.pass_exit ?_
                      refine At.block_same ?_
                      refine At.block_normal ?_
                      refine At.seq ?_
                      refine Tr.region ?_
                      refine TrOps.sem (OpSem.move (.inl rfl) rfl) rfl rfl (by decide) ?_
                      refine TrOps.sem (OpSem.bin rfl rfl rfl (badd (by omega) (by omega))) rfl rfl (by decide) ?_
                      refine TrOps.sem (OpSem.move (.inr rfl) rfl) rfl rfl (by decide) ?_
                      refine TrOps.nil ?_
                      refine At.again (i + 1) (by omega) ?_ (by omega)
                      exact .slot rfl (.refl _) <| .slot rfl (.refl _) <| .slot rfl (.refl _) <| .slot rfl (.refl _) <| .slot rfl (.refl _) <| .slot rfl (.refl _) <| .slot rfl (.refl _) <| .slot rfl (.refl _) <| .slot rfl (Le.of_eq (by simp)) <| .mem rfl <| .memEq rfl rfl <| .memEq rfl (by rw [← rI_s (a := a) (b := b) (n := n) (lab := l) (i := i), ← hKe]; simp) <| .mem rfl <| .mem rfl <| .mem rfl <| .nil
                  · have hk : k = b.arcs.length := by simp at c76; omega
                    have hKe : rK a b n l i k = rK a b n l i b.arcs.length := by rw [hk]
                    refine TrOps.gF rfl rfl rfl rfl c76 rfl (by decide) ?_
                    refine TrOps.gF rfl rfl rfl rfl c76 rfl (by decide) ?_
                    refine TrOps.gF rfl rfl rfl rfl c76 rfl (by decide) ?_
                    refine TrOps.gF rfl rfl rfl rfl c76 rfl (by decide) ?_
                    refine TrOps.gF rfl rfl rfl rfl c76 rfl (by decide) ?_
                    refine TrOps.gF rfl rfl rfl rfl c76 rfl (by decide) ?_
                    refine TrOps.gF rfl rfl rfl rfl c76 rfl (by decide) ?_
                    refine TrOps.gF rfl rfl rfl rfl c76 rfl (by decide) ?_
                    refine TrOps.sem (OpSem.pickF rfl rfl c76 rfl) rfl rfl (by decide) ?_
                    refine TrOps.sem (OpSem.move (.inl rfl) rfl) rfl rfl (by decide) ?_
                    refine TrOps.gF rfl rfl rfl rfl rfl rfl (by decide) ?_
                    refine TrOps.gF rfl rfl rfl rfl rfl rfl (by decide) ?_
                    refine TrOps.gF rfl rfl rfl rfl rfl rfl (by decide) ?_
                    refine TrOps.gF rfl rfl rfl rfl rfl rfl (by decide) ?_
                    refine TrOps.gF rfl rfl rfl rfl rfl rfl (by decide) ?_
                    refine TrOps.gF rfl rfl rfl rfl rfl rfl (by decide) ?_
                    refine TrOps.gF rfl rfl rfl rfl rfl rfl (by decide) ?_
                    refine TrOps.gF rfl rfl rfl rfl rfl rfl (by decide) ?_
                    refine TrOps.sem (OpSem.pickF rfl rfl rfl rfl) rfl rfl (by decide) ?_
                    refine TrOps.nil ?_
                    refine At.seq ?_
                    refine Tr.condF rfl rfl ?_
                    refine Tr.exit ?_
                    refine At.pass_exit ?_
                    refine At.pass_exit ?_
                    refine At.block_same ?_
                    refine At.block_normal ?_
                    refine At.seq ?_
                    refine Tr.region ?_
                    refine TrOps.sem (OpSem.move (.inl rfl) rfl) rfl rfl (by decide) ?_
                    refine TrOps.sem (OpSem.bin rfl rfl rfl (badd (by omega) (by omega))) rfl rfl (by decide) ?_
                    refine TrOps.sem (OpSem.move (.inr rfl) rfl) rfl rfl (by decide) ?_
                    refine TrOps.nil ?_
                    refine At.again (i + 1) (by omega) ?_ (by omega)
                    exact .slot rfl (.refl _) <| .slot rfl (.refl _) <| .slot rfl (.refl _) <| .slot rfl (.refl _) <| .slot rfl (.refl _) <| .slot rfl (.refl _) <| .slot rfl (.refl _) <| .slot rfl (.refl _) <| .slot rfl (Le.of_eq (by simp)) <| .mem rfl <| .memEq rfl rfl <| .memEq rfl (by rw [← rI_s (a := a) (b := b) (n := n) (lab := l) (i := i), ← hKe]; simp) <| .mem rfl <| .mem rfl <| .mem rfl <| .nil
              · have hi : i = a.arcs.length := by simp at c68; omega
                have hLs := rL_s (a := a) (b := b) (n := n) (l := l)
                refine Tr.exit ?_
                refine At.pass_exit ?_
                refine At.pass_exit ?_
                refine At.block_same ?_
                refine At.block_normal ?_
                refine At.seq ?_
                refine Tr.region ?_
                refine TrOps.sem (OpSem.move (.inl rfl) rfl) rfl rfl (by decide) ?_
                refine TrOps.sem (OpSem.bin rfl rfl rfl (badd (by omega) (by omega))) rfl rfl (by decide) ?_
                refine TrOps.sem (OpSem.move (.inr rfl) rfl) rfl rfl (by decide) ?_
                refine TrOps.nil ?_
                refine At.again (l + 1) (by omega) ?_ (by omega)
                exact .slot rfl (.refl _) <| .slot rfl (.refl _) <| .slot rfl (.refl _) <| .slot rfl (.refl _) <| .slot rfl (.refl _) <| .slot rfl (.refl _) <| .slot rfl (.refl _) <| .slot rfl (Le.of_eq (by simp)) <| .mem rfl <| .memEq rfl rfl <| .memEq rfl (by rw [← hLs, ← hi]; simp) <| .mem rfl <| .mem rfl <| .mem rfl <| .nil
          · have hl : l = a.labels.toNat := by simp at c61; omega
            have hNs := rN_s (a := a) (b := b) (n := n)
            refine Tr.exit ?_
            refine At.pass_exit ?_
            refine At.pass_exit ?_
            refine At.block_same ?_
            refine At.block_normal ?_
            refine At.seq ?_
            refine Tr.region ?_
            refine TrOps.sem (OpSem.move (.inl rfl) rfl) rfl rfl (by decide) ?_
            refine TrOps.sem (OpSem.bin rfl rfl rfl (badd (by omega) (by omega))) rfl rfl (by decide) ?_
            refine TrOps.sem (OpSem.move (.inr rfl) rfl) rfl rfl (by decide) ?_
            refine TrOps.nil ?_
            refine At.again (n + 1) (by omega) ?_ (by omega)
            exact .slot rfl (.refl _) <| .slot rfl (.refl _) <| .slot rfl (.refl _) <| .slot rfl (.refl _) <| .slot rfl (Le.of_eq (by simp)) <| .mem rfl <| .memEq rfl rfl <| .memEq rfl (by rw [← hNs, ← hl]) <| .mem rfl <| .mem rfl <| .mem rfl <| .nil
    · have hn : n = (a.states * b.states).toNat := by simp at c31; omega
      refine Tr.exit ?_
      refine At.pass_exit ?_
      refine At.pass_exit ?_
      refine At.block_same ?_
      refine At.seq ?_
      refine Tr.seq ?_
      refine Tr.freeze 91 rfl ?_
      refine Tr.freeze 92 rfl ?_
      refine Tr.region ?_
      refine TrOps.sem (OpSem.loadbN rfl rfl rfl vs46 (by first | decide | simp)) rfl rfl (by decide) ?_
      refine TrOps.storeb rfl rfl rfl rfl rfl rfl rfl vs46 (by first | decide | simp) ?_
      refine TrOps.nil ?_
      refine At.seq ?_
      refine Tr.ret ?_
      have hge : gN a b n = (timA a b).goals := by rw [hn]; exact gN_end h
      have hre : rN a b n = (timA a b).arcs := by rw [hn]; exact rN_end h
      exact At.ret rfl (.cellN rfl rfl vs46 <| .nil) rfl (Le.of_eq (by rw [hge, hre]; rfl))

theorem law_sameGraph_does (a : Abs) (h : AbsOk a) : Does Try.prog false 43 [absS a, absS a] (Bo true) := by
  refine Does.of_body Try.func43 rfl rfl (by simp) Try.call43 (fun w0 O0 => ?_)
  refine Tr.lenG (n := 0) (i := 2) rfl rfl (fun len0_2 => ?_)
  refine Tr.lenG (n := 0) (i := 4) rfl rfl (fun len0_4 => ?_)
  refine Tr.lenG (n := 1) (i := 2) rfl rfl (fun len1_2 => ?_)
  refine Tr.lenG (n := 1) (i := 4) rfl rfl (fun len1_4 => ?_)
  refine Tr.seq ?_
  refine Tr.region ?_
  refine TrOps.semM (OpSem.box 2 rfl rfl rfl rfl) rfl rfl (by decide) ?_
  refine TrOps.semM (OpSem.box 3 rfl rfl rfl rfl) rfl rfl (by decide) ?_
  refine TrOps.sem (OpSem.move (.inr rfl) rfl) rfl rfl (by decide) ?_
  refine TrOps.nil ?_
  refine At.seq ?_
  refine Tr.seq ?_
  refine Tr.seq ?_
  refine Tr.region ?_
  refine TrOps.sem (OpSem.loadbN rfl rfl rfl vs46 (by first | decide | simp)) rfl rfl (by decide) ?_
  refine TrOps.sem (OpSem.call0 (Q_AbstractionFault_does a) rfl rfl rfl rfl (Les.refl _)) rfl rfl (by decide) ?_
  refine TrOps.sem (OpSem.field1 rfl rfl f1_29_0 rfl) rfl rfl (by decide) ?_
  refine TrOps.sem (OpSem.bin rfl rfl rfl bneq) rfl rfl (by decide) ?_
  refine TrOps.sem (OpSem.move (.inl rfl) rfl) rfl rfl (by decide) ?_
  refine TrOps.gT rfl rfl rfl rfl (by rw [absFault_of h]; rfl) ?_
  refine TrOps.sem (OpSem.fieldr rfl rfl fo46_0) rfl rfl (by decide) ?_
  refine TrOps.gT rfl rfl rfl rfl (by rw [absFault_of h]; rfl) ?_
  refine TrOps.sem (OpSem.loadb1 rfl rfl rfl vs3 rfl) rfl rfl (by decide) ?_
  refine TrOps.gT rfl rfl rfl rfl (by rw [absFault_of h]; rfl) ?_
  refine TrOps.sem (OpSem.fieldr rfl rfl fo46_0) rfl rfl (by decide) ?_
  refine TrOps.gT rfl rfl rfl rfl (by rw [absFault_of h]; rfl) ?_
  refine TrOps.sem (OpSem.loadb1 rfl rfl rfl vs3 rfl) rfl rfl (by decide) ?_
  refine TrOps.gT rfl rfl rfl rfl (by rw [absFault_of h]; rfl) ?_
  refine TrOps.sem (OpSem.bin rfl rfl rfl bneq) rfl rfl (by decide) ?_
  refine TrOps.sem (OpSem.pickF rfl rfl (by rw [absFault_of h]; rfl) rfl) rfl rfl (by decide) ?_
  refine TrOps.sem (OpSem.move (.inl rfl) rfl) rfl rfl (by decide) ?_
  refine TrOps.gT rfl rfl rfl rfl (by simp) ?_
  refine TrOps.sem (OpSem.fieldr rfl rfl fo46_1) rfl rfl (by decide) ?_
  refine TrOps.gT rfl rfl rfl rfl (by simp) ?_
  refine TrOps.sem (OpSem.loadb1 rfl rfl rfl vs3 rfl) rfl rfl (by decide) ?_
  refine TrOps.gT rfl rfl rfl rfl (by simp) ?_
  refine TrOps.sem (OpSem.fieldr rfl rfl fo46_1) rfl rfl (by decide) ?_
  refine TrOps.gT rfl rfl rfl rfl (by simp) ?_
  refine TrOps.sem (OpSem.loadb1 rfl rfl rfl vs3 rfl) rfl rfl (by decide) ?_
  refine TrOps.gT rfl rfl rfl rfl (by simp) ?_
  refine TrOps.sem (OpSem.bin rfl rfl rfl bneq) rfl rfl (by decide) ?_
  refine TrOps.sem (OpSem.pickF rfl rfl (by simp) rfl) rfl rfl (by decide) ?_
  refine TrOps.sem (OpSem.move (.inl rfl) rfl) rfl rfl (by decide) ?_
  refine TrOps.gT rfl rfl rfl rfl (by simp) ?_
  refine TrOps.sem (OpSem.fieldr rfl rfl fo46_3) rfl rfl (by decide) ?_
  refine TrOps.gT rfl rfl rfl rfl (by simp) ?_
  refine TrOps.sem (OpSem.loadb1 rfl rfl rfl vs3 rfl) rfl rfl (by decide) ?_
  refine TrOps.gT rfl rfl rfl rfl (by simp) ?_
  refine TrOps.sem (OpSem.fieldr rfl rfl fo46_3) rfl rfl (by decide) ?_
  refine TrOps.gT rfl rfl rfl rfl (by simp) ?_
  refine TrOps.sem (OpSem.loadb1 rfl rfl rfl vs3 rfl) rfl rfl (by decide) ?_
  refine TrOps.gT rfl rfl rfl rfl (by simp) ?_
  refine TrOps.sem (OpSem.bin rfl rfl rfl bneq) rfl rfl (by decide) ?_
  refine TrOps.sem (OpSem.pickF rfl rfl (by simp) rfl) rfl rfl (by decide) ?_
  refine TrOps.sem (OpSem.move (.inl rfl) rfl) rfl rfl (by decide) ?_
  refine TrOps.gT rfl rfl rfl rfl (by simp) ?_
  refine TrOps.sem (OpSem.fieldr rfl rfl fo46_4) rfl rfl (by decide) ?_
  refine TrOps.gT rfl rfl rfl rfl (by simp) ?_
  refine TrOps.sem (OpSem.loadb1 rfl rfl rfl vs22 rfl) rfl rfl (by decide) ?_
  refine TrOps.gT rfl rfl rfl rfl (by simp) ?_
  refine TrOps.sem (OpSem.fieldr rfl rfl fo46_4) rfl rfl (by decide) ?_
  refine TrOps.gT rfl rfl rfl rfl (by simp) ?_
  refine TrOps.sem (OpSem.loadb1 rfl rfl rfl vs22 rfl) rfl rfl (by decide) ?_
  refine TrOps.gT rfl rfl rfl rfl (by simp) ?_
  refine TrOps.sem (OpSem.call0 (R_Ints_does a.goals a.goals) rfl rfl rfl rfl (Les.refl _)) rfl rfl (by decide) ?_
  refine TrOps.gT rfl rfl rfl rfl (by simp) ?_
  refine TrOps.sem (OpSem.not rfl rfl) rfl rfl (by decide) ?_
  refine TrOps.sem (OpSem.pickF rfl rfl (by simp) rfl) rfl rfl (by decide) ?_
  refine TrOps.nil ?_
  refine At.seq ?_
  refine Tr.condF rfl (by simp) ?_
  refine Tr.skip ?_
  refine At.seq ?_
  refine Tr.seq ?_
  refine Tr.seq ?_
  refine Tr.region ?_
  refine TrOps.sem (OpSem.move (.inr rfl) rfl) rfl rfl (by decide) ?_
  refine TrOps.nil ?_
  refine At.seq ?_
  refine Tr.block ?_
  refine Tr.loop (X := Nat) (fun k => k ≤ a.arcs.length) (fun k => [(2, .r 2 0), (3, .r 3 0), (5, I (k))]) (fun k => [(2, .box [I (a.states), I (a.labels), .d (arcsD a.arcs), I (a.init), .d (ints a.goals)]), (3, .box [I (a.states), I (a.labels), .d (arcsD a.arcs), I (a.init), .d (ints a.goals)])]) (fun k => a.arcs.length - k) 0 (by omega) ?_ ?_
  · exact .slot rfl (.refl _) <| .slot rfl (.refl _) <| .slot rfl (Le.of_eq (by simp)) <| .mem rfl <| .mem rfl <| .nil
  · rintro k hkl
    refine Tr.seq ?_
    refine Tr.seq ?_
    refine Tr.region ?_
    refine TrOps.sem (OpSem.move (.inl rfl) rfl) rfl rfl (by decide) ?_
    refine TrOps.sem (OpSem.fieldr rfl rfl fo46_2) rfl rfl (by decide) ?_
    refine TrOps.sem (OpSem.loadb1 rfl rfl rfl vs44 rfl) rfl rfl (by decide) ?_
    refine TrOps.sem (OpSem.lenL rfl rfl es44) rfl rfl (by decide) ?_
    refine TrOps.sem (OpSem.bin rfl rfl rfl blss) rfl rfl (by decide) ?_
    refine TrOps.nil ?_
    refine At.seq ?_
    refine Tr.cond rfl (fun c44 => ?_) (fun c44 => ?_)
    · have hk : k < a.arcs.length := by simpa using c44
      refine Tr.skip ?_
      refine At.seq ?_
      refine Tr.seq ?_
      refine Tr.block ?_
      refine Tr.seq ?_
      refine PC.start [] ?_
      refine PC.sem (OpSem.loadbN rfl rfl rfl vs46 (by first | decide | simp)) rfl rfl ?_
      refine PC.sem (OpSem.fieldr rfl rfl fo46_2) rfl rfl ?_
      refine PC.sem (OpSem.loadb1 rfl rfl rfl vs44 rfl) rfl rfl ?_
      refine PC.sem (OpSem.move (.inl rfl) rfl) rfl rfl ?_
      refine PC.sem (OpSem.idxL rfl rfl rfl es44 (by omega) (by omega)) rfl rfl ?_
      refine PC.sem (OpSem.fieldp rfl rfl fo93_0) rfl rfl ?_
      refine PC.sem (OpSem.load1 rfl rfl vs3 rfl) rfl rfl ?_
      refine PC.sem (OpSem.fieldr rfl rfl fo46_2) rfl rfl ?_
      refine PC.sem (OpSem.loadb1 rfl rfl rfl vs44 rfl) rfl rfl ?_
      refine PC.sem (OpSem.move (.inl rfl) rfl) rfl rfl ?_
      refine PC.sem (OpSem.idxL rfl rfl rfl es44 (by omega) (by omega)) rfl rfl ?_
      refine PC.sem (OpSem.fieldp rfl rfl fo93_1) rfl rfl ?_
      refine PC.sem (OpSem.load1 rfl rfl vs3 rfl) rfl rfl ?_
      refine PC.sem (OpSem.fieldr rfl rfl fo46_2) rfl rfl ?_
      refine PC.sem (OpSem.loadb1 rfl rfl rfl vs44 rfl) rfl rfl ?_
      refine PC.sem (OpSem.move (.inl rfl) rfl) rfl rfl ?_
      refine PC.sem (OpSem.idxL rfl rfl rfl es44 (by omega) (by omega)) rfl rfl ?_
      refine PC.sem (OpSem.fieldp rfl rfl fo93_2) rfl rfl ?_
      refine PC.sem (OpSem.load1 rfl rfl vs3 rfl) rfl rfl ?_
      refine PC.done0 mixed (by kernel_rfl) (by kernel_rfl) (by kernel_rfl) (by kernel_rfl) (by kernel_rfl) ?_
      refine TrOps.sem (OpSem.call0 (Q_HasArc_does a (nth a.arcs k).fr (nth a.arcs k).lab (nth a.arcs k).to) rfl rfl rfl rfl (Les.refl _)) rfl rfl (by decide) ?_
      refine TrOps.sem (OpSem.not rfl rfl) rfl rfl (by decide) ?_
      refine TrOps.nil ?_
      refine At.seq ?_
      refine Tr.condF rfl (by rw [decide_eq_true (arc_self hk)]; rfl) ?_
      refine Tr.skip ?_
      refine At.block_normal ?_
      refine At.seq ?_
      refine Tr.region ?_
      refine TrOps.sem (OpSem.move (.inl rfl) rfl) rfl rfl (by decide) ?_
      refine TrOps.sem (OpSem.bin rfl rfl rfl (badd (by omega) (by omega))) rfl rfl (by decide) ?_
      refine TrOps.sem (OpSem.move (.inr rfl) rfl) rfl rfl (by decide) ?_
      refine TrOps.nil ?_
      refine At.again (k + 1) (by omega) ?_ (by omega)
      exact .slot rfl (.refl _) <| .slot rfl (.refl _) <| .slot rfl (Le.of_eq (by simp)) <| .mem rfl <| .mem rfl <| .nil
    · have hk : k = a.arcs.length := by simp at c44; omega
      refine Tr.exit ?_
      refine At.pass_exit ?_
      refine At.pass_exit ?_
      refine At.block_same ?_
      refine At.seq ?_
      refine Tr.seq ?_
      refine Tr.seq ?_
      refine Tr.region ?_
      refine TrOps.sem (OpSem.move (.inr rfl) rfl) rfl rfl (by decide) ?_
      refine TrOps.nil ?_
      refine At.seq ?_
      refine Tr.block ?_
      refine Tr.loop (X := Nat) (fun k => k ≤ a.arcs.length) (fun k => [(2, .r 2 0), (3, .r 3 0), (6, I (k))]) (fun k => [(2, .box [I (a.states), I (a.labels), .d (arcsD a.arcs), I (a.init), .d (ints a.goals)]), (3, .box [I (a.states), I (a.labels), .d (arcsD a.arcs), I (a.init), .d (ints a.goals)])]) (fun k => a.arcs.length - k) 0 (by omega) ?_ ?_
      · exact .slot rfl (.refl _) <| .slot rfl (.refl _) <| .slot rfl (Le.of_eq (by simp)) <| .mem rfl <| .mem rfl <| .nil
      · rintro k hkl
        refine Tr.seq ?_
        refine Tr.seq ?_
        refine Tr.region ?_
        refine TrOps.sem (OpSem.move (.inl rfl) rfl) rfl rfl (by decide) ?_
        refine TrOps.sem (OpSem.fieldr rfl rfl fo46_2) rfl rfl (by decide) ?_
        refine TrOps.sem (OpSem.loadb1 rfl rfl rfl vs44 rfl) rfl rfl (by decide) ?_
        refine TrOps.sem (OpSem.lenL rfl rfl es44) rfl rfl (by decide) ?_
        refine TrOps.sem (OpSem.bin rfl rfl rfl blss) rfl rfl (by decide) ?_
        refine TrOps.nil ?_
        refine At.seq ?_
        refine Tr.cond rfl (fun c72 => ?_) (fun c72 => ?_)
        · have hk : k < a.arcs.length := by simpa using c72
          refine Tr.skip ?_
          refine At.seq ?_
          refine Tr.seq ?_
          refine Tr.block ?_
          refine Tr.seq ?_
          refine PC.start [] ?_
          refine PC.sem (OpSem.loadbN rfl rfl rfl vs46 (by first | decide | simp)) rfl rfl ?_
          refine PC.sem (OpSem.fieldr rfl rfl fo46_2) rfl rfl ?_
          refine PC.sem (OpSem.loadb1 rfl rfl rfl vs44 rfl) rfl rfl ?_
          refine PC.sem (OpSem.move (.inl rfl) rfl) rfl rfl ?_
          refine PC.sem (OpSem.idxL rfl rfl rfl es44 (by omega) (by omega)) rfl rfl ?_
          refine PC.sem (OpSem.fieldp rfl rfl fo93_0) rfl rfl ?_
          refine PC.sem (OpSem.load1 rfl rfl vs3 rfl) rfl rfl ?_
          refine PC.sem (OpSem.fieldr rfl rfl fo46_2) rfl rfl ?_
          refine PC.sem (OpSem.loadb1 rfl rfl rfl vs44 rfl) rfl rfl ?_
          refine PC.sem (OpSem.move (.inl rfl) rfl) rfl rfl ?_
          refine PC.sem (OpSem.idxL rfl rfl rfl es44 (by omega) (by omega)) rfl rfl ?_
          refine PC.sem (OpSem.fieldp rfl rfl fo93_1) rfl rfl ?_
          refine PC.sem (OpSem.load1 rfl rfl vs3 rfl) rfl rfl ?_
          refine PC.sem (OpSem.fieldr rfl rfl fo46_2) rfl rfl ?_
          refine PC.sem (OpSem.loadb1 rfl rfl rfl vs44 rfl) rfl rfl ?_
          refine PC.sem (OpSem.move (.inl rfl) rfl) rfl rfl ?_
          refine PC.sem (OpSem.idxL rfl rfl rfl es44 (by omega) (by omega)) rfl rfl ?_
          refine PC.sem (OpSem.fieldp rfl rfl fo93_2) rfl rfl ?_
          refine PC.sem (OpSem.load1 rfl rfl vs3 rfl) rfl rfl ?_
          refine PC.done0 mixed (by kernel_rfl) (by kernel_rfl) (by kernel_rfl) (by kernel_rfl) (by kernel_rfl) ?_
          refine TrOps.sem (OpSem.call0 (Q_HasArc_does a (nth a.arcs k).fr (nth a.arcs k).lab (nth a.arcs k).to) rfl rfl rfl rfl (Les.refl _)) rfl rfl (by decide) ?_
          refine TrOps.sem (OpSem.not rfl rfl) rfl rfl (by decide) ?_
          refine TrOps.nil ?_
          refine At.seq ?_
          refine Tr.condF rfl (by rw [decide_eq_true (arc_self hk)]; rfl) ?_
          refine Tr.skip ?_
          refine At.block_normal ?_
          refine At.seq ?_
          refine Tr.region ?_
          refine TrOps.sem (OpSem.move (.inl rfl) rfl) rfl rfl (by decide) ?_
          refine TrOps.sem (OpSem.bin rfl rfl rfl (badd (by omega) (by omega))) rfl rfl (by decide) ?_
          refine TrOps.sem (OpSem.move (.inr rfl) rfl) rfl rfl (by decide) ?_
          refine TrOps.nil ?_
          refine At.again (k + 1) (by omega) ?_ (by omega)
          exact .slot rfl (.refl _) <| .slot rfl (.refl _) <| .slot rfl (Le.of_eq (by simp)) <| .mem rfl <| .mem rfl <| .nil
        · have hk : k = a.arcs.length := by simp at c72; omega
          refine Tr.exit ?_
          refine At.pass_exit ?_
          refine At.pass_exit ?_
          refine At.block_same ?_
          refine At.seq ?_
          refine Tr.seq ?_
          refine Tr.region ?_
          refine TrOps.sem (OpSem.move (.inr rfl) rfl) rfl rfl (by decide) ?_
          refine TrOps.nil ?_
          refine At.seq ?_
          refine Tr.ret ?_
          exact At.ret rfl (.tmp rfl <| .nil) rfl (.refl _)

end Go.Proofs.Ytohlmcebphcokaa
end

section
/- Walks, written by gen.py out of hints. -/




set_option linter.unusedVariables false
set_option linter.unusedSimpArgs false
namespace Go.Proofs.Ytohlmcebphcokaa
open Go.Eng
set_option maxRecDepth 10000
set_option maxHeartbeats 1000000

theorem law_labelsExample_does  : Does Try.prog false 33 [] (Bo true) := by
  refine Does.of_body Try.func33 rfl rfl (by simp) Try.call33 (fun w0 O0 => ?_)
  refine Tr.seq ?_
  refine Tr.region ?_
  refine TrOps.sem (OpSem.move (.inr rfl) rfl) rfl rfl (by decide) ?_
  refine TrOps.nil ?_
  refine At.seq ?_
  refine Tr.seq ?_
  refine Tr.region ?_
  refine TrOps.sem (OpSem.build rfl rfl pl93 zc93 rfl rfl) rfl rfl (by decide) ?_
  refine TrOps.sem (OpSem.build rfl rfl pl93 zc93 rfl rfl) rfl rfl (by decide) ?_
  refine TrOps.sem (OpSem.le (s' := .d (arcsD exL.arcs)) (OpSem.buildSlice rfl rfl es44 ze44 rfl rfl (by decide) (by decide) rfl rfl) (Le.of_eq rfl)) rfl rfl (by decide) ?_
  refine TrOps.sem (OpSem.le (s' := .d (ints [1])) (OpSem.buildSlice rfl rfl es22 ze22 rfl rfl (by decide) (by decide) rfl rfl) (Le.of_eq rfl)) rfl rfl (by decide) ?_
  refine TrOps.sem (OpSem.le (s' := absS exL) (OpSem.build rfl rfl pl46 zc46 rfl rfl) (Le.of_eq rfl)) rfl rfl (by decide) ?_
  refine TrOps.semM (OpSem.alloc 1 rfl zc46 rfl) rfl rfl (by decide) ?_
  refine TrOps.storeb rfl rfl rfl rfl rfl rfl rfl vs46 (by first | decide | simp) ?_
  refine TrOps.nil ?_
  refine At.seq ?_
  refine Tr.seq ?_
  refine Tr.region ?_
  refine TrOps.sem (OpSem.loadbN rfl rfl rfl vs46 (by first | decide | simp)) rfl rfl (by decide) ?_
  refine TrOps.sem (OpSem.le (s' := .d (abssD [exL])) (OpSem.buildSlice rfl rfl es34 ze34 rfl rfl (by decide) (by decide) rfl rfl) (Le.of_eq rfl)) rfl rfl (by decide) ?_
  refine TrOps.sem (OpSem.le (s' := .d (ints [1, 1, 1])) (OpSem.buildSlice rfl rfl es22 ze22 rfl rfl (by decide) (by decide) rfl rfl) (Le.of_eq rfl)) rfl rfl (by decide) ?_
  refine TrOps.sem (OpSem.call0 (labels_Reduce_does [exL] [1, 1, 1] (-1) (fun k hk => by cases k with | zero => decide | succ k => simp at hk)) rfl rfl rfl rfl (Les.refl _)) rfl rfl (by decide) ?_
  refine TrOps.sem (OpSem.move (.inl rfl) rfl) rfl rfl (by decide) ?_
  refine TrOps.sem (OpSem.extract rfl rfl rfl) rfl rfl (by decide) ?_
  refine TrOps.sem (OpSem.extract rfl rfl rfl) rfl rfl (by decide) ?_
  refine TrOps.semM (OpSem.alloc 3 rfl zc29 rfl) rfl rfl (by decide) ?_
  refine TrOps.sem (OpSem.move (.inr rfl) rfl) rfl rfl (by decide) ?_
  refine TrOps.storeb rfl rfl rfl rfl rfl rfl rfl vs29 (by first | decide | simp) ?_
  refine TrOps.nil ?_
  refine At.seq ?_
  refine Tr.seq ?_
  refine Tr.region ?_
  refine TrOps.sem (OpSem.loadbN rfl rfl rfl vs46 (by first | decide | simp)) rfl rfl (by decide) ?_
  refine TrOps.sem (OpSem.le (s' := .d (ints [0, 1, 0])) (OpSem.buildSlice rfl rfl es22 ze22 rfl rfl (by decide) (by decide) rfl rfl) (Le.of_eq rfl)) rfl rfl (by decide) ?_
  refine TrOps.sem (OpSem.call0 (labels_Apply_does exL [0, 1, 0] (by decide)) rfl rfl rfl rfl (Les.refl _)) rfl rfl (by decide) ?_
  refine TrOps.sem (OpSem.move (.inl rfl) rfl) rfl rfl (by decide) ?_
  refine TrOps.sem (OpSem.extract rfl rfl rfl) rfl rfl (by decide) ?_
  refine TrOps.sem (OpSem.extract rfl rfl rfl) rfl rfl (by decide) ?_
  refine TrOps.semM (OpSem.alloc 4 rfl zc46 rfl) rfl rfl (by decide) ?_
  refine TrOps.semM (OpSem.alloc 5 rfl zc29 rfl) rfl rfl (by decide) ?_
  refine TrOps.storeb rfl rfl rfl rfl rfl rfl rfl vs46 (by first | decide | simp) ?_
  refine TrOps.storeb rfl rfl rfl rfl rfl rfl rfl vs29 (by first | decide | simp) ?_
  refine TrOps.nil ?_
  refine At.seq ?_
  refine Tr.seq ?_
  refine Tr.region ?_
  refine TrOps.sem (OpSem.loadbN rfl rfl rfl vs46 (by first | decide | simp)) rfl rfl (by decide) ?_
  refine TrOps.sem (OpSem.le (s' := .d (abssD [exL])) (OpSem.buildSlice rfl rfl es34 ze34 rfl rfl (by decide) (by decide) rfl rfl) (Le.of_eq rfl)) rfl rfl (by decide) ?_
  refine TrOps.sem (OpSem.le (s' := .d (ints [1, 1, 1])) (OpSem.buildSlice rfl rfl es22 ze22 rfl rfl (by decide) (by decide) rfl rfl) (Le.of_eq rfl)) rfl rfl (by decide) ?_
  refine TrOps.sem (OpSem.call0 (labels_Equivalent_does [exL] [1, 1, 1] (-1) 0 2 (fun k hk => by cases k with | zero => decide | succ k => simp at hk)) rfl rfl rfl rfl (Les.refl _)) rfl rfl (by decide) ?_
  refine TrOps.sem (OpSem.move (.inl rfl) rfl) rfl rfl (by decide) ?_
  refine TrOps.sem (OpSem.extract rfl rfl rfl) rfl rfl (by decide) ?_
  refine TrOps.sem (OpSem.extract rfl rfl rfl) rfl rfl (by decide) ?_
  refine TrOps.semM (OpSem.alloc 7 rfl zc29 rfl) rfl rfl (by decide) ?_
  refine TrOps.sem (OpSem.move (.inr rfl) rfl) rfl rfl (by decide) ?_
  refine TrOps.storeb rfl rfl rfl rfl rfl rfl rfl vs29 (by first | decide | simp) ?_
  refine TrOps.nil ?_
  refine At.seq ?_
  refine Tr.seq ?_
  refine Tr.region ?_
  refine TrOps.sem (OpSem.fieldr rfl rfl fo29_0) rfl rfl (by decide) ?_
  refine TrOps.sem (OpSem.loadb1 rfl rfl rfl vs3 rfl) rfl rfl (by decide) ?_
  refine TrOps.sem (OpSem.bin rfl rfl rfl beql) rfl rfl (by decide) ?_
  refine TrOps.sem (OpSem.move (.inl rfl) rfl) rfl rfl (by decide) ?_
  refine TrOps.gT rfl rfl rfl rfl (by rw [exL_red]; rfl) ?_
  refine TrOps.sem (OpSem.fieldr rfl rfl fo29_0) rfl rfl (by decide) ?_
  refine TrOps.gT rfl rfl rfl rfl (by rw [exL_red]; rfl) ?_
  refine TrOps.sem (OpSem.loadb1 rfl rfl rfl vs3 rfl) rfl rfl (by decide) ?_
  refine TrOps.gT rfl rfl rfl rfl (by rw [exL_red]; rfl) ?_
  refine TrOps.sem (OpSem.bin rfl rfl rfl beql) rfl rfl (by decide) ?_
  refine TrOps.sem (OpSem.pickT rfl rfl (by rw [exL_red]; rfl) rfl) rfl rfl (by decide) ?_
  refine TrOps.sem (OpSem.move (.inl rfl) rfl) rfl rfl (by decide) ?_
  refine TrOps.gT rfl rfl rfl rfl (by rw [exL_apl]; rfl) ?_
  refine TrOps.sem (OpSem.fieldr rfl rfl fo29_0) rfl rfl (by decide) ?_
  refine TrOps.gT rfl rfl rfl rfl (by rw [exL_apl]; rfl) ?_
  refine TrOps.sem (OpSem.loadb1 rfl rfl rfl vs3 rfl) rfl rfl (by decide) ?_
  refine TrOps.gT rfl rfl rfl rfl (by rw [exL_apl]; rfl) ?_
  refine TrOps.sem (OpSem.bin rfl rfl rfl beql) rfl rfl (by decide) ?_
  refine TrOps.sem (OpSem.pickT rfl rfl (by rw [exL_apl]; rfl) rfl) rfl rfl (by decide) ?_
  refine TrOps.sem (OpSem.move (.inl rfl) rfl) rfl rfl (by decide) ?_
  refine TrOps.gT rfl rfl rfl rfl (by rw [exL_eqv.1]; rfl) ?_
  refine TrOps.sem (OpSem.move (.inl rfl) rfl) rfl rfl (by decide) ?_
  refine TrOps.sem (OpSem.pickT rfl rfl (by rw [exL_eqv.1]; rfl) rfl) rfl rfl (by decide) ?_
  refine TrOps.sem (OpSem.move (.inl rfl) rfl) rfl rfl (by decide) ?_
  refine TrOps.gT rfl rfl rfl rfl (decide_eq_true exL_eqv) ?_
  refine TrOps.sem (OpSem.move (.inl rfl) rfl) rfl rfl (by decide) ?_
  refine TrOps.gT rfl rfl rfl rfl (decide_eq_true exL_eqv) ?_
  refine TrOps.sem (OpSem.le (s' := .d (ints [0, 1, 0])) (OpSem.buildSlice rfl rfl es22 ze22 rfl rfl (by decide) (by decide) rfl rfl) (Le.of_eq rfl)) rfl rfl (by decide) ?_
  refine TrOps.gT rfl rfl rfl rfl (decide_eq_true exL_eqv) ?_
  refine TrOps.sem (OpSem.call0 (R_Ints_does (redL [exL] [1, 1, 1] (-1)) [0, 1, 0]) rfl rfl rfl rfl (Les.refl _)) rfl rfl (by decide) ?_
  refine TrOps.sem (OpSem.pickT rfl rfl (decide_eq_true exL_eqv) rfl) rfl rfl (by decide) ?_
  refine TrOps.sem (OpSem.move (.inl rfl) rfl) rfl rfl (by decide) ?_
  refine TrOps.gT rfl rfl rfl rfl (by rw [exL_redL]; rfl) ?_
  refine TrOps.sem (OpSem.fieldr rfl rfl fo46_2) rfl rfl (by decide) ?_
  refine TrOps.gT rfl rfl rfl rfl (by rw [exL_redL]; rfl) ?_
  refine TrOps.sem (OpSem.loadb1 rfl rfl rfl vs44 rfl) rfl rfl (by decide) ?_
  refine TrOps.gT rfl rfl rfl rfl (by rw [exL_redL]; rfl) ?_
  refine TrOps.sem (OpSem.lenL rfl rfl es44) rfl rfl (by decide) ?_
  refine TrOps.gT rfl rfl rfl rfl (by rw [exL_redL]; rfl) ?_
  refine TrOps.sem (OpSem.bin rfl rfl rfl beql) rfl rfl (by decide) ?_
  refine TrOps.sem (OpSem.pickT rfl rfl (by rw [exL_redL]; rfl) rfl) rfl rfl (by decide) ?_
  refine TrOps.sem (OpSem.move (.inr rfl) rfl) rfl rfl (by decide) ?_
  refine TrOps.nil ?_
  refine At.seq ?_
  refine Tr.ret ?_
  exact At.ret rfl (.tmp rfl <| .nil) rfl (Le.bo (by rw [exL_rel]; rfl))

end Go.Proofs.Ytohlmcebphcokaa
end
