/- The engine and the walks that this claim uses, part 8. Written by prune.py out of our own texts. -/
import Derived.Test.YtohlmcebphcokaaC7
import Derived.Shelf.SlGeneric
import Derived.Ground.SlsfProg
import Derived.WalkKit
import Derived.Deep.Cut
import Derived.Deep.RegionHeld3
import Derived.Deep.Draws
import Derived.Sort.Grow
section
/- Walks, written by gen.py out of hints. -/




set_option linter.unusedVariables false
set_option linter.unusedSimpArgs false
namespace Go.Proofs.Ytohlmcebphcokaa
open Go.Eng
set_option maxRecDepth 10000
set_option maxHeartbeats 1000000

theorem slices_Equal_2_int_2_int_does (s t : List Asg) : Does Try.prog false 101 [.d (asgs s), .d (asgs t)] (Bo (decide (s = t))) := by
  refine Does.of_body Try.func101 rfl rfl (by simp) Try.call101 (fun w0 O0 => ?_)
  refine Tr.lenLe (n := 0) rfl (fun len0 => ?_)
  refine Tr.lenLe (n := 1) rfl (fun len1 => ?_)
  refine Tr.seq ?_
  refine Tr.region ?_
  refine TrOps.sem (OpSem.move (.inr rfl) rfl) rfl rfl (by decide) ?_
  refine TrOps.nil ?_
  refine At.seq ?_
  refine Tr.seq ?_
  refine Tr.seq ?_
  refine Tr.region ?_
  refine TrOps.sem (OpSem.move (.inl rfl) rfl) rfl rfl (by decide) ?_
  refine TrOps.sem (OpSem.lenL rfl rfl es119) rfl rfl (by decide) ?_
  refine TrOps.sem (OpSem.move (.inl rfl) rfl) rfl rfl (by decide) ?_
  refine TrOps.sem (OpSem.lenL rfl rfl es119) rfl rfl (by decide) ?_
  refine TrOps.sem (OpSem.bin rfl rfl rfl bneq) rfl rfl (by decide) ?_
  refine TrOps.nil ?_
  refine At.seq ?_
  refine Tr.cond rfl (fun c10 => ?_) (fun c10 => ?_)
  · have hl : s.length ≠ t.length := by simp at c10; omega
    refine Tr.seq ?_
    refine Tr.region ?_
    refine TrOps.sem (OpSem.move (.inr rfl) rfl) rfl rfl (by decide) ?_
    refine TrOps.nil ?_
    refine At.seq ?_
    refine Tr.ret ?_
    refine At.pass_ret ?_
    exact At.ret rfl (.tmp rfl <| .nil) rfl (Le.bo (decide_eq_false (fun e => hl (by rw [e]))).symm)
  · have hl : s.length = t.length := by simp at c10; omega
    refine Tr.skip ?_
    refine At.seq ?_
    refine Tr.seq ?_
    refine Tr.seq ?_
    refine Tr.region ?_
    refine TrOps.sem (OpSem.move (.inl rfl) rfl) rfl rfl (by decide) ?_
    refine TrOps.sem (OpSem.lenL rfl rfl es119) rfl rfl (by decide) ?_
    refine TrOps.sem (OpSem.move (.inl rfl) rfl) rfl rfl (by decide) ?_
    refine TrOps.nil ?_
    refine At.seq ?_
    refine Tr.block ?_
    refine Tr.loop (X := Nat) (fun k => k ≤ s.length ∧ ∀ i : Nat, i < k → nth s i = nth t i) (fun k => [(0, .d (asgs s)), (1, .d (asgs t)), (12, I (s.length)), (13, I (k))]) (fun k => []) (fun k => s.length - k) 0 ⟨by omega, by simp⟩ ?_ ?_
    · exact .slot rfl (.refl _) <| .slot rfl (.refl _) <| .slot rfl (.refl _) <| .slot rfl (Le.of_eq (by simp)) <| .nil
    · rintro k ⟨hkl, hinv⟩
      refine Tr.seq ?_
      refine Tr.region ?_
      refine TrOps.sem (OpSem.bin rfl rfl rfl blss) rfl rfl (by decide) ?_
      refine TrOps.nil ?_
      refine At.seq ?_
      refine Tr.seq ?_
      refine Tr.cond rfl (fun c14 => ?_) (fun c14 => ?_)
      · have hk : k < s.length := by simpa using c14
        refine Tr.skip ?_
        refine At.seq ?_
        refine Tr.seq ?_
        refine Tr.block ?_
        refine Tr.seq ?_
        refine Tr.region ?_
        refine TrOps.sem (OpSem.move (.inl rfl) rfl) rfl rfl (by decide) ?_
        refine TrOps.sem (OpSem.move (.inr rfl) rfl) rfl rfl (by decide) ?_
        refine TrOps.nil ?_
        refine At.seq ?_
        refine Tr.seq ?_
        refine PC.start [] ?_
        refine PC.sem (OpSem.move (.inl rfl) rfl) rfl rfl ?_
        refine PC.sem (OpSem.move (.inl rfl) rfl) rfl rfl ?_
        refine PC.sem (OpSem.idxL rfl rfl rfl es119 (by omega) (by omega)) rfl rfl ?_
        refine PC.sem (OpSem.loadN rfl rfl vs120 (by first | decide | simp) rfl) rfl rfl ?_
        refine PC.sem (OpSem.move (.inl rfl) rfl) rfl rfl ?_
        refine PC.sem (OpSem.move (.inl rfl) rfl) rfl rfl ?_
        refine PC.sem (OpSem.idxL rfl rfl rfl es119 (by omega) (by omega)) rfl rfl ?_
        refine PC.sem (OpSem.loadN rfl rfl vs120 (by first | decide | simp) rfl) rfl rfl ?_
        refine PC.done0 mixed (by kernel_rfl) (by kernel_rfl) (by kernel_rfl) (by kernel_rfl) (by kernel_rfl) ?_
        refine TrOps.sem (OpSem.neA2 rfl rfl rfl ar120) rfl rfl (by decide) ?_
        refine TrOps.nil ?_
        refine At.seq ?_
        refine Tr.cond rfl (fun c24 => ?_) (fun c24 => ?_)
        · refine Tr.seq ?_
          refine Tr.region ?_
          refine TrOps.sem (OpSem.move (.inr rfl) rfl) rfl rfl (by decide) ?_
          refine TrOps.nil ?_
          refine At.seq ?_
          refine Tr.ret ?_
          refine At.block_ret ?_
          refine At.pass_ret ?_
          refine At.pass_ret ?_
          refine At.block_ret ?_
          refine At.pass_ret ?_
          exact At.ret rfl (.tmp rfl <| .nil) rfl (Le.bo (decide_eq_false (fun e => by subst e; simp at c24)).symm)
        · have hb : nth s k = nth t k := Prod.ext (by simp at c24; exact c24.1) (by simp at c24; exact c24.2)
          refine Tr.skip ?_
          refine At.block_normal ?_
          refine At.seq ?_
          refine Tr.region ?_
          refine TrOps.sem (OpSem.bin rfl rfl rfl (badd (by omega) (by omega))) rfl rfl (by decide) ?_
          refine TrOps.sem (OpSem.move (.inl rfl) rfl) rfl rfl (by decide) ?_
          refine TrOps.nil ?_
          refine At.again (k + 1) ⟨by omega, all_succ hinv hb⟩ ?_ (by omega)
          exact .slot rfl (.refl _) <| .slot rfl (.refl _) <| .slot rfl (.refl _) <| .slot rfl (Le.of_eq (by simp)) <| .nil
      · have hk : k = s.length := by simp at c14; omega
        refine Tr.exit ?_
        refine At.pass_exit ?_
        refine At.pass_exit ?_
        refine At.block_same ?_
        refine At.seq ?_
        refine Tr.seq ?_
        refine Tr.region ?_
        refine TrOps.sem (OpSem.move (.inr rfl) rfl) rfl rfl (by decide) ?_
        refine TrOps.nil ?_
        refine At.seq ?_
        refine Tr.ret ?_
        exact At.ret rfl (.tmp rfl <| .nil) rfl (Le.bo (decide_eq_true (ext_get (by omega) (by subst hk; exact hinv))).symm)

theorem labels_ends_does (a : Abs) (x : Int) (hl : a.arcs.length ≤ 1000) : DoesO Try.prog 102 [absS a, I (x)] 2 120 (((endsL a x).map asg)) := by
  have hel := fun k => endsTo_len (a := a) (x := x) (k := k)
  refine DoesO.of_body Try.func102 rfl rfl (by simp) Try.call102 (fun w0 O0 => ?_)
  refine Tr.lenG (n := 0) (i := 2) rfl rfl (fun len0_2 => ?_)
  refine Tr.lenG (n := 0) (i := 4) rfl rfl (fun len0_4 => ?_)
  refine Tr.seq ?_
  refine Tr.region ?_
  refine TrOps.semM (OpSem.box 2 rfl rfl rfl rfl) rfl rfl (by decide) ?_
  refine TrOps.sem (OpSem.move (.inr rfl) rfl) rfl rfl (by decide) ?_
  refine TrOps.nil ?_
  refine At.seq ?_
  refine Tr.seq ?_
  refine Tr.region ?_
  refine TrOps.sem (OpSem.move (.inr rfl) rfl) rfl rfl (by decide) ?_
  refine TrOps.nil ?_
  refine At.seq ?_
  refine Tr.seq ?_
  refine Tr.seq ?_
  refine Tr.ownNil (n := 5) 5 2 120 rfl ?_
  refine Tr.region ?_
  refine TrOps.sem (OpSem.fieldr rfl rfl fo46_2) rfl rfl (by decide) ?_
  refine TrOps.sem (OpSem.loadb1 rfl rfl rfl vs44 rfl) rfl rfl (by decide) ?_
  refine TrOps.sem (OpSem.lenL rfl rfl es44) rfl rfl (by decide) ?_
  refine TrOps.sem (OpSem.move (.inl rfl) rfl) rfl rfl (by decide) ?_
  refine TrOps.nil ?_
  refine At.seq ?_
  refine Tr.block ?_
  refine Tr.loop (X := Nat) (fun k => k ≤ a.arcs.length) (fun k => [(1, I (x)), (5, .o 5), (9, .d (arcsD a.arcs)), (10, I (a.arcs.length)), (11, I (k))]) (fun k => [(5, .own 2 120 ((endsTo a x k).map asg))]) (fun k => a.arcs.length - k) 0 (by omega) ?_ ?_
  · exact .slot rfl (.refl _) <| .slot rfl (.refl _) <| .slot rfl (.refl _) <| .slot rfl (.refl _) <| .slot rfl (Le.of_eq (by simp)) <| .memEq rfl (by simp [endsTo]) <| .nil
  · rintro k hkl
    refine Tr.seq ?_
    refine Tr.region ?_
    refine TrOps.sem (OpSem.bin rfl rfl rfl blss) rfl rfl (by decide) ?_
    refine TrOps.nil ?_
    refine At.seq ?_
    refine Tr.seq ?_
    refine Tr.cond rfl (fun c12 => ?_) (fun c12 => ?_)
    · have hk : k < a.arcs.length := by simpa using c12
      refine Tr.skip ?_
      refine At.seq ?_
      refine Tr.seq ?_
      refine Tr.block ?_
      refine Tr.seq ?_
      refine Tr.region ?_
      refine TrOps.sem (OpSem.idxL rfl rfl rfl es44 (by omega) (by omega)) rfl rfl (by decide) ?_
      refine TrOps.sem (OpSem.loadN rfl rfl vs93 (by first | decide | simp) rfl) rfl rfl (by decide) ?_
      refine TrOps.semM (OpSem.alloc 7 rfl zc93 rfl) rfl rfl (by decide) ?_
      refine TrOps.storeb rfl rfl rfl rfl rfl rfl rfl vs93 (by first | decide | simp) ?_
      refine TrOps.nil ?_
      refine At.seq ?_
      refine Tr.seq ?_
      refine Tr.region ?_
      refine TrOps.sem (OpSem.fieldr rfl rfl fo93_1) rfl rfl (by decide) ?_
      refine TrOps.sem (OpSem.loadb1 rfl rfl rfl vs3 rfl) rfl rfl (by decide) ?_
      refine TrOps.sem (OpSem.move (.inl rfl) rfl) rfl rfl (by decide) ?_
      refine TrOps.sem (OpSem.bin rfl rfl rfl beql) rfl rfl (by decide) ?_
      refine TrOps.nil ?_
      refine At.seq ?_
      refine Tr.cond rfl (fun c18 => ?_) (fun c18 => ?_)
      · have hb : (nth a.arcs k).lab = x := by simpa using c18
        have hlk := hel k
        refine Tr.region ?_
        refine TrOps.sem (OpSem.move (.inl rfl) rfl) rfl rfl (by decide) ?_
        refine TrOps.sem (OpSem.fieldr rfl rfl fo93_0) rfl rfl (by decide) ?_
        refine TrOps.sem (OpSem.loadb1 rfl rfl rfl vs3 rfl) rfl rfl (by decide) ?_
        refine TrOps.sem (OpSem.fieldr rfl rfl fo93_2) rfl rfl (by decide) ?_
        refine TrOps.sem (OpSem.loadb1 rfl rfl rfl vs3 rfl) rfl rfl (by decide) ?_
        refine TrOps.sem (OpSem.buildA rfl rfl ar120 zc120 rfl rfl) rfl rfl (by decide) ?_
        refine TrOps.sem (OpSem.buildSlice rfl rfl es119 ze119 rfl rfl (by decide) (by decide) rfl rfl) rfl rfl (by decide) ?_
        refine TrOps.append rfl rfl rfl (by decide) rfl rfl rfl es119 el119 zc120 rfl by120 (by simp [D.one, Value.oneCell']) (by simp [maxLen]; omega) (by simp; omega) ?_
        refine TrOps.sem (OpSem.move (.inr rfl) rfl) rfl rfl (by decide) ?_
        refine TrOps.nil ?_
        refine At.block_normal ?_
        refine At.seq ?_
        refine Tr.region ?_
        refine TrOps.sem (OpSem.bin rfl rfl rfl (badd (by omega) (by omega))) rfl rfl (by decide) ?_
        refine TrOps.sem (OpSem.move (.inl rfl) rfl) rfl rfl (by decide) ?_
        refine TrOps.nil ?_
        refine At.again (k + 1) (by omega) ?_ (by omega)
        exact .slot rfl (.refl _) <| .slot rfl (.refl _) <| .slot rfl (.refl _) <| .slot rfl (.refl _) <| .slot rfl (Le.of_eq (by simp)) <| .memEq rfl (by rw [← endsTo_t hk hb]; simp) <| .nil
      · have hb : (nth a.arcs k).lab ≠ x := by simpa using c18
        refine Tr.skip ?_
        refine At.block_normal ?_
        refine At.seq ?_
        refine Tr.region ?_
        refine TrOps.sem (OpSem.bin rfl rfl rfl (badd (by omega) (by omega))) rfl rfl (by decide) ?_
        refine TrOps.sem (OpSem.move (.inl rfl) rfl) rfl rfl (by decide) ?_
        refine TrOps.nil ?_
        refine At.again (k + 1) (by omega) ?_ (by omega)
        exact .slot rfl (.refl _) <| .slot rfl (.refl _) <| .slot rfl (.refl _) <| .slot rfl (.refl _) <| .slot rfl (Le.of_eq (by simp)) <| .memEq rfl (by rw [← endsTo_f hk hb]; rfl) <| .nil
    · have hk : k = a.arcs.length := by simp at c12; omega
      refine Tr.exit ?_
      refine At.pass_exit ?_
      refine At.pass_exit ?_
      refine At.block_same ?_
      refine At.seq ?_
      refine Tr.seq ?_
      refine Tr.region ?_
      refine TrOps.sem (OpSem.move (.inl rfl) rfl) rfl rfl (by decide) ?_
      refine TrOps.sem (OpSem.move (.inr rfl) rfl) rfl rfl (by decide) ?_
      refine TrOps.nil ?_
      refine At.seq ?_
      refine Tr.ret ?_
      exact At.retO2 rfl rfl rfl (by simp) (by rw [hk]; rfl)

theorem labels_equivalent_does (l : List Abs) (c : List Int) (ex x y : Int) (hx : 0 ≤ x ∧ x < c.length) (hy : 0 ≤ y ∧ y < c.length) (hA : ∀ k : Nat, k < l.length → AbsOk (nth l k)) : Does Try.prog false 69 [.d (abssD l), .d (ints c), I (ex), I (x), I (y)] (Bo (decide (EqvP l c ex x y))) := by
  refine Does.of_body Try.func69 rfl rfl (by simp) Try.call69 (fun w0 O0 => ?_)
  refine Tr.lenLe (n := 0) rfl (fun len0 => ?_)
  refine Tr.lenLe (n := 1) rfl (fun len1 => ?_)
  refine Tr.seq ?_
  refine Tr.region ?_
  refine TrOps.sem (OpSem.move (.inr rfl) rfl) rfl rfl (by decide) ?_
  refine TrOps.nil ?_
  refine At.seq ?_
  refine Tr.seq ?_
  refine Tr.seq ?_
  refine PC.start [] ?_
  refine PC.sem (OpSem.move (.inl rfl) rfl) rfl rfl ?_
  refine PC.sem (OpSem.move (.inl rfl) rfl) rfl rfl ?_
  refine PC.sem (OpSem.idxL rfl rfl rfl es22 (by omega) (by omega)) rfl rfl ?_
  refine PC.sem (OpSem.load1 rfl rfl vs3 rfl) rfl rfl ?_
  refine PC.sem (OpSem.move (.inl rfl) rfl) rfl rfl ?_
  refine PC.sem (OpSem.move (.inl rfl) rfl) rfl rfl ?_
  refine PC.sem (OpSem.idxL rfl rfl rfl es22 (by omega) (by omega)) rfl rfl ?_
  refine PC.sem (OpSem.load1 rfl rfl vs3 rfl) rfl rfl ?_
  refine PC.done0 mixed (by kernel_rfl) (by kernel_rfl) (by kernel_rfl) (by kernel_rfl) (by kernel_rfl) ?_
  refine TrOps.sem (OpSem.bin rfl rfl rfl bneq) rfl rfl (by decide) ?_
  refine TrOps.nil ?_
  refine At.seq ?_
  refine Tr.cond rfl (fun c21 => ?_) (fun c21 => ?_)
  · have hne : nth c x ≠ nth c y := by simpa using c21
    refine Tr.seq ?_
    refine Tr.region ?_
    refine TrOps.sem (OpSem.move (.inr rfl) rfl) rfl rfl (by decide) ?_
    refine TrOps.nil ?_
    refine At.seq ?_
    refine Tr.ret ?_
    refine At.pass_ret ?_
    exact At.ret rfl (.tmp rfl <| .nil) rfl (Le.bo (eqv_1 hne))
  · have hc : nth c x = nth c y := by simpa using c21
    refine Tr.skip ?_
    refine At.seq ?_
    refine Tr.seq ?_
    refine Tr.seq ?_
    refine Tr.region ?_
    refine TrOps.sem (OpSem.move (.inl rfl) rfl) rfl rfl (by decide) ?_
    refine TrOps.sem (OpSem.lenL rfl rfl es34) rfl rfl (by decide) ?_
    refine TrOps.sem (OpSem.move (.inl rfl) rfl) rfl rfl (by decide) ?_
    refine TrOps.nil ?_
    refine At.seq ?_
    refine Tr.block ?_
    refine Tr.loop (X := Nat) (fun k => k ≤ l.length ∧ ∀ i : Nat, i < k → (i : Int) ≠ ex → endsL (nth l i) x = endsL (nth l i) y) (fun k => [(2, I (ex)), (3, I (x)), (4, I (y)), (22, .d (abssD l)), (23, I (l.length)), (24, I (k))]) (fun k => []) (fun k => l.length - k) 0 ⟨by omega, by simp⟩ ?_ ?_
    · exact .slot rfl (.refl _) <| .slot rfl (.refl _) <| .slot rfl (.refl _) <| .slot rfl (.refl _) <| .slot rfl (.refl _) <| .slot rfl (Le.of_eq (by simp)) <| .nil
    · rintro k ⟨hkl, hinv⟩
      refine Tr.seq ?_
      refine Tr.region ?_
      refine TrOps.sem (OpSem.bin rfl rfl rfl blss) rfl rfl (by decide) ?_
      refine TrOps.nil ?_
      refine At.seq ?_
      refine Tr.seq ?_
      refine Tr.cond rfl (fun c25 => ?_) (fun c25 => ?_)
      · have hk : k < l.length := by simpa using c25
        refine Tr.skip ?_
        refine At.seq ?_
        refine Tr.seq ?_
        refine Tr.block ?_
        refine Tr.seq ?_
        refine Tr.region ?_
        refine TrOps.sem (OpSem.move (.inl rfl) rfl) rfl rfl (by decide) ?_
        refine TrOps.sem (OpSem.idxL rfl rfl rfl es34 (by omega) (by omega)) rfl rfl (by decide) ?_
        refine TrOps.sem (OpSem.loadN rfl rfl vs46 (by first | decide | simp) rfl) rfl rfl (by decide) ?_
        refine TrOps.semM (OpSem.alloc 12 rfl zc46 rfl) rfl rfl (by decide) ?_
        refine TrOps.sem (OpSem.move (.inr rfl) rfl) rfl rfl (by decide) ?_
        refine TrOps.storeb rfl rfl rfl rfl rfl rfl rfl vs46 (by first | decide | simp) ?_
        refine TrOps.nil ?_
        refine At.seq ?_
        refine Tr.seq ?_
        refine PC.start [] ?_
        refine PC.sem (OpSem.move (.inl rfl) rfl) rfl rfl ?_
        refine PC.sem (OpSem.move (.inl rfl) rfl) rfl rfl ?_
        refine PC.sem (OpSem.bin rfl rfl rfl bneq) rfl rfl ?_
        refine PC.sem (OpSem.move (.inl rfl) rfl) rfl rfl ?_
        refine PC.split (n := 32) rfl (fun c32 => ?_) (fun c32 => ?_)
        · have hke : (k : Int) ≠ ex := by simpa using c32
          refine PC.gT (OpSem.loadbN rfl rfl rfl vs46 (by first | decide | simp)) rfl rfl rfl rfl c32 rfl ?_
          refine PC.gT (OpSem.move (.inl rfl) rfl) rfl rfl rfl rfl c32 rfl ?_
          refine PC.gT (OpSem.call0 (labels_ends_does (nth l k) x (by have := (hA k hk).len; omega)).fresh rfl rfl rfl rfl (Les.refl _)) rfl rfl rfl rfl c32 rfl ?_
          refine PC.gT (OpSem.loadbN rfl rfl rfl vs46 (by first | decide | simp)) rfl rfl rfl rfl c32 rfl ?_
          refine PC.gT (OpSem.move (.inl rfl) rfl) rfl rfl rfl rfl c32 rfl ?_
          refine PC.done0 mixed (by kernel_rfl) (by kernel_rfl) (by kernel_rfl) (by kernel_rfl) (by kernel_rfl) ?_
          refine TrOps.gT rfl rfl rfl rfl c32 ?_
          refine TrOps.sem (OpSem.call0 (labels_ends_does (nth l k) y (by have := (hA k hk).len; omega)).fresh rfl rfl rfl rfl (Les.refl _)) rfl rfl (by decide) ?_
          refine TrOps.gT rfl rfl rfl rfl c32 ?_
          refine TrOps.sem (OpSem.call0 (slices_Equal_2_int_2_int_does (endsL (nth l k) x) (endsL (nth l k) y)) rfl rfl rfl rfl (Les.refl _)) rfl rfl (by decide) ?_
          refine TrOps.gT rfl rfl rfl rfl c32 ?_
          refine TrOps.sem (OpSem.not rfl rfl) rfl rfl (by decide) ?_
          refine TrOps.sem (OpSem.pickT rfl rfl c32 rfl) rfl rfl (by decide) ?_
          refine TrOps.nil ?_
          refine At.seq ?_
          refine Tr.cond rfl (fun c41 => ?_) (fun c41 => ?_)
          · have hne : endsL (nth l k) x ≠ endsL (nth l k) y := by simpa using c41
            refine Tr.seq ?_
            refine Tr.region ?_
            refine TrOps.sem (OpSem.move (.inr rfl) rfl) rfl rfl (by decide) ?_
            refine TrOps.nil ?_
            refine At.seq ?_
            refine Tr.ret ?_
            refine At.block_ret ?_
            refine At.pass_ret ?_
            refine At.pass_ret ?_
            refine At.block_ret ?_
            refine At.pass_ret ?_
            exact At.ret rfl (.tmp rfl <| .nil) rfl (Le.bo (eqv_2 hk hke hne))
          · have hb : (k : Int) ≠ ex → endsL (nth l k) x = endsL (nth l k) y := fun _ => by simpa using c41
            refine Tr.skip ?_
            refine At.block_normal ?_
            refine At.seq ?_
            refine Tr.region ?_
            refine TrOps.sem (OpSem.bin rfl rfl rfl (badd (by omega) (by omega))) rfl rfl (by decide) ?_
            refine TrOps.sem (OpSem.move (.inl rfl) rfl) rfl rfl (by decide) ?_
            refine TrOps.nil ?_
            refine At.again (k + 1) ⟨by omega, all_succ hinv hb⟩ ?_ (by omega)
            exact .slot rfl (.refl _) <| .slot rfl (.refl _) <| .slot rfl (.refl _) <| .slot rfl (.refl _) <| .slot rfl (.refl _) <| .slot rfl (Le.of_eq (by simp)) <| .nil
        · have hb : (k : Int) ≠ ex → endsL (nth l k) x = endsL (nth l k) y := fun h => absurd (by simpa using c32) h
          refine PC.gF rfl rfl rfl rfl c32 rfl ?_
          refine PC.gF rfl rfl rfl rfl c32 rfl ?_
          refine PC.gF rfl rfl rfl rfl c32 rfl ?_
          refine PC.gF rfl rfl rfl rfl c32 rfl ?_
          refine PC.gF rfl rfl rfl rfl c32 rfl ?_
          refine PC.done0 mixed (by kernel_rfl) (by kernel_rfl) (by kernel_rfl) (by kernel_rfl) (by kernel_rfl) ?_
          refine TrOps.gF rfl rfl rfl rfl c32 rfl (by decide) ?_
          refine TrOps.gF rfl rfl rfl rfl c32 rfl (by decide) ?_
          refine TrOps.gF rfl rfl rfl rfl c32 rfl (by decide) ?_
          refine TrOps.sem (OpSem.pickF rfl rfl c32 rfl) rfl rfl (by decide) ?_
          refine TrOps.nil ?_
          refine At.seq ?_
          refine Tr.condF rfl rfl ?_
          refine Tr.skip ?_
          refine At.block_normal ?_
          refine At.seq ?_
          refine Tr.region ?_
          refine TrOps.sem (OpSem.bin rfl rfl rfl (badd (by omega) (by omega))) rfl rfl (by decide) ?_
          refine TrOps.sem (OpSem.move (.inl rfl) rfl) rfl rfl (by decide) ?_
          refine TrOps.nil ?_
          refine At.again (k + 1) ⟨by omega, all_succ hinv hb⟩ ?_ (by omega)
          exact .slot rfl (.refl _) <| .slot rfl (.refl _) <| .slot rfl (.refl _) <| .slot rfl (.refl _) <| .slot rfl (.refl _) <| .slot rfl (Le.of_eq (by simp)) <| .nil
      · have hk : k = l.length := by simp at c25; omega
        refine Tr.exit ?_
        refine At.pass_exit ?_
        refine At.pass_exit ?_
        refine At.block_same ?_
        refine At.seq ?_
        refine Tr.seq ?_
        refine Tr.region ?_
        refine TrOps.sem (OpSem.move (.inr rfl) rfl) rfl rfl (by decide) ?_
        refine TrOps.nil ?_
        refine At.seq ?_
        refine Tr.ret ?_
        exact At.ret rfl (.tmp rfl <| .nil) rfl (Le.bo (by subst hk; exact eqv_0 hc hinv))

theorem labels_exception_does (l : List Abs) (ex : Int) : Does Try.prog false 68 [.d (abssD l), I (ex)] (flt (if ex < -1 ∨ (l.length : Int) ≤ ex then (3, -8) else (0, 0))) := by
  refine Does.of_body Try.func68 rfl rfl (by simp) Try.call68 (fun w0 O0 => ?_)
  refine Tr.lenLe (n := 0) rfl (fun len0 => ?_)
  refine Tr.seq ?_
  refine Tr.region ?_
  refine TrOps.semM (OpSem.alloc 4 rfl zc29 rfl) rfl rfl (by decide) ?_
  refine TrOps.nil ?_
  refine At.seq ?_
  refine Tr.seq ?_
  refine Tr.seq ?_
  refine Tr.region ?_
  refine TrOps.sem (OpSem.move (.inl rfl) rfl) rfl rfl (by decide) ?_
  refine TrOps.sem (OpSem.bin rfl rfl rfl blss) rfl rfl (by decide) ?_
  refine TrOps.sem (OpSem.move (.inl rfl) rfl) rfl rfl (by decide) ?_
  refine TrOps.split (n := 7) rfl (fun c7 => ?_) (fun c7 => ?_)
  · refine TrOps.gF rfl rfl rfl rfl c7 rfl (by decide) ?_
    refine TrOps.gF rfl rfl rfl rfl c7 rfl (by decide) ?_
    refine TrOps.gF rfl rfl rfl rfl c7 rfl (by decide) ?_
    refine TrOps.gF rfl rfl rfl rfl c7 rfl (by decide) ?_
    refine TrOps.sem (OpSem.pickT rfl rfl c7 rfl) rfl rfl (by decide) ?_
    refine TrOps.nil ?_
    refine At.seq ?_
    refine Tr.condT rfl rfl ?_
    refine Tr.seq ?_
    refine Tr.region ?_
    refine TrOps.sem (OpSem.build rfl rfl pl29 zc29 rfl rfl) rfl rfl (by decide) ?_
    refine TrOps.storeb rfl rfl rfl rfl rfl rfl rfl vs29 (by first | decide | simp) ?_
    refine TrOps.nil ?_
    refine At.seq ?_
    refine Tr.ret ?_
    refine At.pass_ret ?_
    exact At.ret rfl (.cellN rfl rfl vs29 <| .nil) rfl (Le.flt (by rw [if_pos (by simp at *; omega)]))
  · refine TrOps.gT rfl rfl rfl rfl c7 ?_
    refine TrOps.sem (OpSem.move (.inl rfl) rfl) rfl rfl (by decide) ?_
    refine TrOps.gT rfl rfl rfl rfl c7 ?_
    refine TrOps.sem (OpSem.move (.inl rfl) rfl) rfl rfl (by decide) ?_
    refine TrOps.gT rfl rfl rfl rfl c7 ?_
    refine TrOps.sem (OpSem.lenL rfl rfl es34) rfl rfl (by decide) ?_
    refine TrOps.gT rfl rfl rfl rfl c7 ?_
    refine TrOps.sem (OpSem.bin rfl rfl rfl bgeq) rfl rfl (by decide) ?_
    refine TrOps.sem (OpSem.pickF rfl rfl c7 rfl) rfl rfl (by decide) ?_
    refine TrOps.nil ?_
    refine At.seq ?_
    refine Tr.cond rfl (fun c12 => ?_) (fun c12 => ?_)
    · refine Tr.seq ?_
      refine Tr.region ?_
      refine TrOps.sem (OpSem.build rfl rfl pl29 zc29 rfl rfl) rfl rfl (by decide) ?_
      refine TrOps.storeb rfl rfl rfl rfl rfl rfl rfl vs29 (by first | decide | simp) ?_
      refine TrOps.nil ?_
      refine At.seq ?_
      refine Tr.ret ?_
      refine At.pass_ret ?_
      exact At.ret rfl (.cellN rfl rfl vs29 <| .nil) rfl (Le.flt (by rw [if_pos (by simp at *; omega)]))
    · refine Tr.skip ?_
      refine At.seq ?_
      refine Tr.seq ?_
      refine Tr.region ?_
      refine TrOps.sem (OpSem.build rfl rfl pl29 zc29 rfl rfl) rfl rfl (by decide) ?_
      refine TrOps.storeb rfl rfl rfl rfl rfl rfl rfl vs29 (by first | decide | simp) ?_
      refine TrOps.nil ?_
      refine At.seq ?_
      refine Tr.ret ?_
      exact At.ret rfl (.cellN rfl rfl vs29 <| .nil) rfl (Le.flt (by rw [if_neg (by simp at *; omega)]))

theorem labels_Reduce_does (l : List Abs) (c : List Int) (ex : Int) (hr : ∀ k : Nat, k < l.length → -9223372036854775808 ≤ (nth l k).states ∧ (nth l k).states ≤ 9223372036854775807) : Does Try.prog false 34 [.d (abssD l), .d (ints c), I (ex)] (.t [.d (ints (redL l c ex)), flt (redF l c ex)]) := by
  refine Does.of_body Try.func34 rfl rfl (by simp) Try.call34 (fun w0 O0 => ?_)
  refine Tr.lenLe (n := 0) rfl (fun len0 => ?_)
  refine Tr.lenLe (n := 1) rfl (fun len1 => ?_)
  refine Tr.seq ?_
  refine Tr.region ?_
  refine TrOps.sem (OpSem.move (.inr rfl) rfl) rfl rfl (by decide) ?_
  refine TrOps.semM (OpSem.alloc 7 rfl zc29 rfl) rfl rfl (by decide) ?_
  refine TrOps.nil ?_
  refine At.seq ?_
  refine Tr.seq ?_
  refine Tr.region ?_
  refine TrOps.sem (OpSem.move (.inl rfl) rfl) rfl rfl (by decide) ?_
  refine TrOps.sem (OpSem.move (.inl rfl) rfl) rfl rfl (by decide) ?_
  refine TrOps.sem (OpSem.call0 (labels_Check_does l c hr) rfl rfl rfl rfl (Les.refl _)) rfl rfl (by decide) ?_
  refine TrOps.semM (OpSem.alloc 8 rfl zc29 rfl) rfl rfl (by decide) ?_
  refine TrOps.storeb rfl rfl rfl rfl rfl rfl rfl vs29 (by first | decide | simp) ?_
  refine TrOps.nil ?_
  refine At.seq ?_
  refine Tr.cut [(0, .d (abssD l)), (1, .d (ints c)), (2, I (ex)), (7, .r 7 0), (8, .r 8 0)] [(7, .box [I (0), I (0)]), (8, .box [I ((redF l c ex).1), I ((redF l c ex).2)])] ?_ ?_
  · refine Tr.seq ?_
    refine Tr.region ?_
    refine TrOps.sem (OpSem.loadbN rfl rfl rfl vs29 (by first | decide | simp)) rfl rfl (by decide) ?_
    refine TrOps.sem (OpSem.build rfl rfl pl29 zc29 rfl rfl) rfl rfl (by decide) ?_
    refine TrOps.sem (OpSem.eqS2 rfl rfl rfl io29) rfl rfl (by decide) ?_
    refine TrOps.nil ?_
    refine At.seq ?_
    refine Tr.cond rfl (fun c17 => ?_) (fun c17 => ?_)
    · refine Tr.region ?_
      refine TrOps.sem (OpSem.move (.inl rfl) rfl) rfl rfl (by decide) ?_
      refine TrOps.sem (OpSem.move (.inl rfl) rfl) rfl rfl (by decide) ?_
      refine TrOps.sem (OpSem.call0 (labels_exception_does l ex) rfl rfl rfl rfl (Les.refl _)) rfl rfl (by decide) ?_
      refine TrOps.storeb rfl rfl rfl rfl rfl rfl rfl vs29 (by first | decide | simp) ?_
      refine TrOps.nil ?_
      have he : (if ex < -1 ∨ (l.length : Int) ≤ ex then ((3, -8) : Int × Int) else (0, 0)) = redF l c ex := by have h := pair0 (f := labF l c) (by simpa using c17); unfold redF; simp [h]
      refine At.meet ?_
      exact .slot rfl (.refl _) <| .slot rfl (.refl _) <| .slot rfl (.refl _) <| .slot rfl (.refl _) <| .slot rfl (.refl _) <| .mem rfl <| .boxLe rfl (.cons (Le.i (congrArg Prod.fst (he))) <| .cons (Le.i (congrArg Prod.snd (he))) <| .nil) <| .nil
    · refine Tr.skip ?_
      have he : labF l c = redF l c ex := redF_1 (fun h => by rw [h] at c17; simp at c17)
      refine At.meet ?_
      exact .slot rfl (.refl _) <| .slot rfl (.refl _) <| .slot rfl (.refl _) <| .slot rfl (.refl _) <| .slot rfl (.refl _) <| .mem rfl <| .boxLe rfl (.cons (Le.i (congrArg Prod.fst (he))) <| .cons (Le.i (congrArg Prod.snd (he))) <| .nil) <| .nil
  · refine Tr.seq ?_
    refine Tr.seq ?_
    refine Tr.region ?_
    refine TrOps.sem (OpSem.loadbN rfl rfl rfl vs29 (by first | decide | simp)) rfl rfl (by decide) ?_
    refine TrOps.sem (OpSem.build rfl rfl pl29 zc29 rfl rfl) rfl rfl (by decide) ?_
    refine TrOps.sem (OpSem.neS2 rfl rfl rfl io29) rfl rfl (by decide) ?_
    refine TrOps.nil ?_
    refine At.seq ?_
    refine Tr.cond rfl (fun c23 => ?_) (fun c23 => ?_)
    · have hne : redF l c ex ≠ (0, 0) := fun h => by simp [h] at c23
      refine Tr.seq ?_
      refine PC.start [] ?_
      refine PC.sem (OpSem.loadbN rfl rfl rfl vs29 (by first | decide | simp)) rfl rfl ?_
      refine PC.sem (OpSem.move (.inr rfl) rfl) rfl rfl ?_
      refine PC.done0 mixed (by kernel_rfl) (by kernel_rfl) (by kernel_rfl) (by kernel_rfl) (by kernel_rfl) ?_
      refine TrOps.storeb rfl rfl rfl rfl rfl rfl rfl vs29 (by first | decide | simp) ?_
      refine TrOps.nil ?_
      refine At.seq ?_
      refine Tr.ret ?_
      refine At.pass_ret ?_
      exact At.ret rfl (.tmp rfl <| .cellN rfl rfl vs29 <| .nil) rfl (Le.t (.cons (by rw [redL_1 hne]; exact Le.nil 1) <| .cons (.refl _) <| .nil))
    · have h0 : redF l c ex = (0, 0) := pair0 (by simpa using c23)
      have hok := redF_ok h0
      have hcl := (labF_ok hok.1).2.1
      refine Tr.skip ?_
      refine At.seq ?_
      refine Tr.seq ?_
      refine Tr.region ?_
      refine TrOps.sem (OpSem.move (.inr rfl) rfl) rfl rfl (by decide) ?_
      refine TrOps.nil ?_
      refine At.seq ?_
      refine Tr.seq ?_
      refine Tr.seq ?_
      refine Tr.ownNil (n := 9) 9 1 3 rfl ?_
      refine Tr.region ?_
      refine TrOps.sem (OpSem.move (.inl rfl) rfl) rfl rfl (by decide) ?_
      refine TrOps.sem (OpSem.lenL rfl rfl es22) rfl rfl (by decide) ?_
      refine TrOps.sem (OpSem.move (.inl rfl) rfl) rfl rfl (by decide) ?_
      refine TrOps.nil ?_
      refine At.seq ?_
      refine Tr.block ?_
      refine Tr.loop (X := Nat) (fun k => k ≤ c.length) (fun k => [(0, .d (abssD l)), (1, .d (ints c)), (2, I (ex)), (7, .r 7 0), (8, .r 8 0), (9, .o 9), (26, I (c.length)), (27, I (k))]) (fun k => [(9, .own 1 3 ((redTo l c ex k).map fun n => [D.v (.int .i64 n)])), (7, .box [I (0), I (0)]), (8, .box [I ((redF l c ex).1), I ((redF l c ex).2)])]) (fun k => c.length - k) 0 (by omega) ?_ ?_
      · exact .slot rfl (.refl _) <| .slot rfl (.refl _) <| .slot rfl (.refl _) <| .slot rfl (.refl _) <| .slot rfl (.refl _) <| .slot rfl (.refl _) <| .slot rfl (.refl _) <| .slot rfl (Le.of_eq (by simp)) <| .memEq rfl (by simp [redTo]) <| .mem rfl <| .mem rfl <| .nil
      · rintro k hkl
        refine Tr.seq ?_
        refine Tr.region ?_
        refine TrOps.sem (OpSem.bin rfl rfl rfl blss) rfl rfl (by decide) ?_
        refine TrOps.nil ?_
        refine At.seq ?_
        refine Tr.seq ?_
        refine Tr.cond rfl (fun c28 => ?_) (fun c28 => ?_)
        · have hk : k < c.length := by simpa using c28
          refine Tr.skip ?_
          refine At.seq ?_
          refine Tr.seq ?_
          refine Tr.block ?_
          refine Tr.seq ?_
          refine Tr.region ?_
          refine TrOps.sem (OpSem.move (.inl rfl) rfl) rfl rfl (by decide) ?_
          refine TrOps.sem (OpSem.move (.inr rfl) rfl) rfl rfl (by decide) ?_
          refine TrOps.nil ?_
          refine At.seq ?_
          refine Tr.seq ?_
          refine Tr.region ?_
          refine TrOps.sem (OpSem.move (.inr rfl) rfl) rfl rfl (by decide) ?_
          refine TrOps.nil ?_
          refine At.seq ?_
          refine Tr.seq ?_
          refine Tr.block ?_
          refine Tr.loop (X := Nat) (fun j => j ≤ k ∧ ∀ i : Nat, i < j → ¬ EqvP l c ex i k) (fun j => [(0, .d (abssD l)), (1, .d (ints c)), (2, I (ex)), (7, .r 7 0), (8, .r 8 0), (9, .o 9), (10, I (k)), (11, I (j)), (26, I (c.length)), (27, I (k))]) (fun j => [(9, .own 1 3 ((redTo l c ex k).map fun n => [D.v (.int .i64 n)])), (7, .box [I (0), I (0)]), (8, .box [I ((redF l c ex).1), I ((redF l c ex).2)])]) (fun j => k - j) 0 ⟨by omega, by simp⟩ ?_ ?_
          · exact .slot rfl (.refl _) <| .slot rfl (.refl _) <| .slot rfl (.refl _) <| .slot rfl (.refl _) <| .slot rfl (.refl _) <| .slot rfl (.refl _) <| .slot rfl (.refl _) <| .slot rfl (Le.of_eq (by simp)) <| .slot rfl (.refl _) <| .slot rfl (.refl _) <| .mem rfl <| .mem rfl <| .mem rfl <| .nil
          · rintro j ⟨hjl, hjn⟩
            refine Tr.seq ?_
            refine Tr.seq ?_
            refine Tr.region ?_
            refine TrOps.sem (OpSem.move (.inl rfl) rfl) rfl rfl (by decide) ?_
            refine TrOps.sem (OpSem.move (.inl rfl) rfl) rfl rfl (by decide) ?_
            refine TrOps.sem (OpSem.move (.inl rfl) rfl) rfl rfl (by decide) ?_
            refine TrOps.sem (OpSem.move (.inl rfl) rfl) rfl rfl (by decide) ?_
            refine TrOps.sem (OpSem.move (.inl rfl) rfl) rfl rfl (by decide) ?_
            refine TrOps.sem (OpSem.call0 (labels_equivalent_does l c ex j k ⟨by omega, by omega⟩ ⟨by omega, by omega⟩ (lab_arcs hok.1)) rfl rfl rfl rfl (Les.refl _)) rfl rfl (by decide) ?_
            refine TrOps.sem (OpSem.not rfl rfl) rfl rfl (by decide) ?_
            refine TrOps.nil ?_
            refine At.seq ?_
            refine Tr.cond rfl (fun c36 => ?_) (fun c36 => ?_)
            · have hne : ¬ EqvP l c ex j k := by simpa using c36
              have hjk : j ≠ k := fun h => hne (by rw [h]; exact EqvP.refl)
              refine Tr.skip ?_
              refine At.seq ?_
              refine Tr.block ?_
              refine Tr.region ?_
              refine TrOps.sem (OpSem.move (.inl rfl) rfl) rfl rfl (by decide) ?_
              refine TrOps.sem (OpSem.bin rfl rfl rfl (badd (by omega) (by omega))) rfl rfl (by decide) ?_
              refine TrOps.sem (OpSem.move (.inr rfl) rfl) rfl rfl (by decide) ?_
              refine TrOps.nil ?_
              refine At.block_normal ?_
              refine At.again (j + 1) ⟨by omega, all_succ hjn hne⟩ ?_ (by omega)
              exact .slot rfl (.refl _) <| .slot rfl (.refl _) <| .slot rfl (.refl _) <| .slot rfl (.refl _) <| .slot rfl (.refl _) <| .slot rfl (.refl _) <| .slot rfl (.refl _) <| .slot rfl (Le.of_eq (by simp)) <| .slot rfl (.refl _) <| .slot rfl (.refl _) <| .mem rfl <| .mem rfl <| .mem rfl <| .nil
            · have hlo : lowE l c ex k = j := lowE_of hjl (by simpa using c36) hjn
              have hrl := redTo_len (l := l) (c := c) (ex := ex) (k := k)
              refine Tr.exit ?_
              refine At.pass_exit ?_
              refine At.pass_exit ?_
              refine At.block_same ?_
              refine At.seq ?_
              refine Tr.region ?_
              refine TrOps.sem (OpSem.move (.inl rfl) rfl) rfl rfl (by decide) ?_
              refine TrOps.sem (OpSem.move (.inl rfl) rfl) rfl rfl (by decide) ?_
              refine TrOps.sem (OpSem.buildSlice rfl rfl es22 ze22 rfl rfl (by decide) (by decide) rfl rfl) rfl rfl (by decide) ?_
              refine TrOps.append rfl rfl rfl (by decide) rfl rfl rfl es22 el22 zc3 rfl by3 (by simp [D.one, Value.oneCell']) (by simp [maxLen, redTo_len]; omega) (by simp [redTo_len]; omega) ?_
              refine TrOps.sem (OpSem.move (.inr rfl) rfl) rfl rfl (by decide) ?_
              refine TrOps.nil ?_
              refine At.block_normal ?_
              refine At.seq ?_
              refine Tr.region ?_
              refine TrOps.sem (OpSem.bin rfl rfl rfl (badd (by omega) (by omega))) rfl rfl (by decide) ?_
              refine TrOps.sem (OpSem.move (.inl rfl) rfl) rfl rfl (by decide) ?_
              refine TrOps.nil ?_
              refine At.again (k + 1) (by omega) ?_ (by omega)
              exact .slot rfl (.refl _) <| .slot rfl (.refl _) <| .slot rfl (.refl _) <| .slot rfl (.refl _) <| .slot rfl (.refl _) <| .slot rfl (.refl _) <| .slot rfl (.refl _) <| .slot rfl (Le.of_eq (by simp)) <| .memEq rfl (by rw [redTo_s, hlo]; simp) <| .mem rfl <| .mem rfl <| .nil
        · have hk : k = c.length := by simp at c28; omega
          refine Tr.exit ?_
          refine At.pass_exit ?_
          refine At.pass_exit ?_
          refine At.block_same ?_
          refine At.seq ?_
          refine Tr.seq ?_
          refine PC.start [] ?_
          refine PC.sem (OpSem.move (.inl rfl) rfl) rfl rfl ?_
          refine PC.sem (OpSem.loadbN rfl rfl rfl vs29 (by first | decide | simp)) rfl rfl ?_
          refine PC.sem (OpSem.move (.inr rfl) rfl) rfl rfl ?_
          refine PC.done0 mixed (by kernel_rfl) (by kernel_rfl) (by kernel_rfl) (by kernel_rfl) (by kernel_rfl) ?_
          refine TrOps.storeb rfl rfl rfl rfl rfl rfl rfl vs29 (by first | decide | simp) ?_
          refine TrOps.nil ?_
          refine At.seq ?_
          refine Tr.ret ?_
          exact At.ret rfl (.tmp rfl <| .cellN rfl rfl vs29 <| .nil) rfl (Le.t (.cons (Le.d (by rw [redL_0 h0, hk])) <| .cons (.refl _) <| .nil))

theorem labels_Equivalent_does (l : List Abs) (c : List Int) (ex x y : Int) (hr : ∀ k : Nat, k < l.length → -9223372036854775808 ≤ (nth l k).states ∧ (nth l k).states ≤ 9223372036854775807) : Does Try.prog false 37 [.d (abssD l), .d (ints c), I (ex), I (x), I (y)] (.t [Bo (decide (eqvF l c ex x y = (0, 0) ∧ EqvP l c ex x y)), flt (eqvF l c ex x y)]) := by
  refine Does.of_body Try.func37 rfl rfl (by simp) Try.call37 (fun w0 O0 => ?_)
  refine Tr.lenLe (n := 0) rfl (fun len0 => ?_)
  refine Tr.lenLe (n := 1) rfl (fun len1 => ?_)
  refine Tr.seq ?_
  refine Tr.region ?_
  refine TrOps.sem (OpSem.move (.inr rfl) rfl) rfl rfl (by decide) ?_
  refine TrOps.semM (OpSem.alloc 11 rfl zc29 rfl) rfl rfl (by decide) ?_
  refine TrOps.nil ?_
  refine At.seq ?_
  refine Tr.seq ?_
  refine Tr.region ?_
  refine TrOps.sem (OpSem.move (.inl rfl) rfl) rfl rfl (by decide) ?_
  refine TrOps.sem (OpSem.move (.inl rfl) rfl) rfl rfl (by decide) ?_
  refine TrOps.sem (OpSem.call0 (labels_Check_does l c hr) rfl rfl rfl rfl (Les.refl _)) rfl rfl (by decide) ?_
  refine TrOps.semM (OpSem.alloc 12 rfl zc29 rfl) rfl rfl (by decide) ?_
  refine TrOps.storeb rfl rfl rfl rfl rfl rfl rfl vs29 (by first | decide | simp) ?_
  refine TrOps.nil ?_
  refine At.seq ?_
  refine Tr.cut [(0, .d (abssD l)), (1, .d (ints c)), (2, I (ex)), (3, I (x)), (4, I (y)), (11, .r 11 0), (12, .r 12 0)] [(11, .box [I (0), I (0)]), (12, .box [I ((redF l c ex).1), I ((redF l c ex).2)])] ?_ ?_
  · refine Tr.seq ?_
    refine Tr.region ?_
    refine TrOps.sem (OpSem.loadbN rfl rfl rfl vs29 (by first | decide | simp)) rfl rfl (by decide) ?_
    refine TrOps.sem (OpSem.build rfl rfl pl29 zc29 rfl rfl) rfl rfl (by decide) ?_
    refine TrOps.sem (OpSem.eqS2 rfl rfl rfl io29) rfl rfl (by decide) ?_
    refine TrOps.nil ?_
    refine At.seq ?_
    refine Tr.cond rfl (fun c20 => ?_) (fun c20 => ?_)
    · refine Tr.region ?_
      refine TrOps.sem (OpSem.move (.inl rfl) rfl) rfl rfl (by decide) ?_
      refine TrOps.sem (OpSem.move (.inl rfl) rfl) rfl rfl (by decide) ?_
      refine TrOps.sem (OpSem.call0 (labels_exception_does l ex) rfl rfl rfl rfl (Les.refl _)) rfl rfl (by decide) ?_
      refine TrOps.storeb rfl rfl rfl rfl rfl rfl rfl vs29 (by first | decide | simp) ?_
      refine TrOps.nil ?_
      have he : (if ex < -1 ∨ (l.length : Int) ≤ ex then ((3, -8) : Int × Int) else (0, 0)) = redF l c ex := by have h := pair0 (f := labF l c) (by simpa using c20); unfold redF; simp [h]
      refine At.meet ?_
      exact .slot rfl (.refl _) <| .slot rfl (.refl _) <| .slot rfl (.refl _) <| .slot rfl (.refl _) <| .slot rfl (.refl _) <| .slot rfl (.refl _) <| .slot rfl (.refl _) <| .mem rfl <| .boxLe rfl (.cons (Le.i (congrArg Prod.fst (he))) <| .cons (Le.i (congrArg Prod.snd (he))) <| .nil) <| .nil
    · refine Tr.skip ?_
      have he : labF l c = redF l c ex := redF_1 (fun h => by rw [h] at c20; simp at c20)
      refine At.meet ?_
      exact .slot rfl (.refl _) <| .slot rfl (.refl _) <| .slot rfl (.refl _) <| .slot rfl (.refl _) <| .slot rfl (.refl _) <| .slot rfl (.refl _) <| .slot rfl (.refl _) <| .mem rfl <| .boxLe rfl (.cons (Le.i (congrArg Prod.fst (he))) <| .cons (Le.i (congrArg Prod.snd (he))) <| .nil) <| .nil
  · refine Tr.seq ?_
    refine Tr.seq ?_
    refine Tr.region ?_
    refine TrOps.sem (OpSem.move (.inl rfl) rfl) rfl rfl (by decide) ?_
    refine TrOps.sem (OpSem.move (.inl rfl) rfl) rfl rfl (by decide) ?_
    refine TrOps.sem (OpSem.le (s' := .d (ints [x, y])) (OpSem.buildSlice rfl rfl es22 ze22 rfl rfl (by decide) (by decide) rfl rfl) (Le.of_eq rfl)) rfl rfl (by decide) ?_
    refine TrOps.sem (OpSem.lenL rfl rfl es22) rfl rfl (by decide) ?_
    refine TrOps.sem (OpSem.move (.inl rfl) rfl) rfl rfl (by decide) ?_
    refine TrOps.nil ?_
    refine At.seq ?_
    refine Tr.block ?_
    refine Tr.loop (X := Nat) (fun k => k ≤ 2) (fun k => [(0, .d (abssD l)), (1, .d (ints c)), (2, I (ex)), (3, I (x)), (4, I (y)), (11, .r 11 0), (12, .r 12 0), (26, .d (ints ([x, y] : List Int))), (27, I (2)), (28, I (k))]) (fun k => [(11, .box [I (0), I (0)]), (12, .box [I ((outTo (redF l c ex) c.length [x, y] k).1), I ((outTo (redF l c ex) c.length [x, y] k).2)])]) (fun k => 2 - k) 0 (by omega) ?_ ?_
    · exact .slot rfl (.refl _) <| .slot rfl (.refl _) <| .slot rfl (.refl _) <| .slot rfl (.refl _) <| .slot rfl (.refl _) <| .slot rfl (.refl _) <| .slot rfl (.refl _) <| .slot rfl (.refl _) <| .slot rfl (.refl _) <| .slot rfl (Le.of_eq (by simp)) <| .mem rfl <| .memEq rfl (by simp [outTo]) <| .nil
    · rintro k hkl
      refine Tr.seq ?_
      refine Tr.region ?_
      refine TrOps.sem (OpSem.bin rfl rfl rfl blss) rfl rfl (by decide) ?_
      refine TrOps.nil ?_
      refine At.seq ?_
      refine Tr.seq ?_
      refine Tr.cond rfl (fun c29 => ?_) (fun c29 => ?_)
      · have hk : k < 2 := by simp at c29; omega
        refine Tr.skip ?_
        refine At.seq ?_
        refine Tr.cut [(0, .d (abssD l)), (1, .d (ints c)), (2, I (ex)), (3, I (x)), (4, I (y)), (11, .r 11 0), (12, .r 12 0), (26, .d (ints ([x, y] : List Int))), (27, I (2)), (28, I (k))] [(11, .box [I (0), I (0)]), (12, .box [I ((outTo (redF l c ex) c.length [x, y] (k + 1)).1), I ((outTo (redF l c ex) c.length [x, y] (k + 1)).2)])] ?_ ?_
        · refine Tr.block ?_
          refine Tr.seq ?_
          refine Tr.region ?_
          refine TrOps.sem (OpSem.idxL rfl rfl rfl es22 (by omega) (by simp; omega)) rfl rfl (by decide) ?_
          refine TrOps.sem (OpSem.load1 rfl rfl vs3 rfl) rfl rfl (by decide) ?_
          refine TrOps.sem (OpSem.move (.inr rfl) rfl) rfl rfl (by decide) ?_
          refine TrOps.nil ?_
          refine At.seq ?_
          refine Tr.seq ?_
          refine Tr.region ?_
          refine TrOps.sem (OpSem.loadbN rfl rfl rfl vs29 (by first | decide | simp)) rfl rfl (by decide) ?_
          refine TrOps.sem (OpSem.build rfl rfl pl29 zc29 rfl rfl) rfl rfl (by decide) ?_
          refine TrOps.sem (OpSem.eqS2 rfl rfl rfl io29) rfl rfl (by decide) ?_
          refine TrOps.sem (OpSem.move (.inl rfl) rfl) rfl rfl (by decide) ?_
          refine TrOps.split (n := 35) rfl (fun c35 => ?_) (fun c35 => ?_)
          · refine TrOps.gT rfl rfl rfl rfl c35 ?_
            refine TrOps.sem (OpSem.move (.inl rfl) rfl) rfl rfl (by decide) ?_
            refine TrOps.gT rfl rfl rfl rfl c35 ?_
            refine TrOps.sem (OpSem.bin rfl rfl rfl blss) rfl rfl (by decide) ?_
            refine TrOps.gT rfl rfl rfl rfl c35 ?_
            refine TrOps.sem (OpSem.move (.inl rfl) rfl) rfl rfl (by decide) ?_
            refine TrOps.split (n := 38) rfl (fun c38 => ?_) (fun c38 => ?_)
            · refine TrOps.gF rfl rfl rfl rfl c38 rfl (by decide) ?_
              refine TrOps.gF rfl rfl rfl rfl c38 rfl (by decide) ?_
              refine TrOps.gF rfl rfl rfl rfl c38 rfl (by decide) ?_
              refine TrOps.gF rfl rfl rfl rfl c38 rfl (by decide) ?_
              refine TrOps.gT rfl rfl rfl rfl c35 ?_
              refine TrOps.sem (OpSem.pickT rfl rfl c38 rfl) rfl rfl (by decide) ?_
              refine TrOps.sem (OpSem.pickT rfl rfl c35 rfl) rfl rfl (by decide) ?_
              refine TrOps.nil ?_
              refine At.seq ?_
              refine Tr.condT rfl rfl ?_
              refine Tr.region ?_
              refine TrOps.sem (OpSem.build rfl rfl pl29 zc29 rfl rfl) rfl rfl (by decide) ?_
              refine TrOps.storeb rfl rfl rfl rfl rfl rfl rfl vs29 (by first | decide | simp) ?_
              refine TrOps.nil ?_
              refine At.block_normal ?_
              have he := outTo_1 (q := [x, y]) (pair0 (f := outTo (redF l c ex) c.length [x, y] k) (by simpa using c35)) (.inl (by simpa using c38))
              refine At.meet ?_
              exact .slot rfl (.refl _) <| .slot rfl (.refl _) <| .slot rfl (.refl _) <| .slot rfl (.refl _) <| .slot rfl (.refl _) <| .slot rfl (.refl _) <| .slot rfl (.refl _) <| .slot rfl (.refl _) <| .slot rfl (.refl _) <| .slot rfl (.refl _) <| .mem rfl <| .boxLe rfl (.cons (Le.i (congrArg Prod.fst (he))) <| .cons (Le.i (congrArg Prod.snd (he))) <| .nil) <| .nil
            · refine TrOps.gT rfl rfl rfl rfl c38 ?_
              refine TrOps.sem (OpSem.move (.inl rfl) rfl) rfl rfl (by decide) ?_
              refine TrOps.gT rfl rfl rfl rfl c38 ?_
              refine TrOps.sem (OpSem.move (.inl rfl) rfl) rfl rfl (by decide) ?_
              refine TrOps.gT rfl rfl rfl rfl c38 ?_
              refine TrOps.sem (OpSem.lenL rfl rfl es22) rfl rfl (by decide) ?_
              refine TrOps.gT rfl rfl rfl rfl c38 ?_
              refine TrOps.sem (OpSem.bin rfl rfl rfl bgeq) rfl rfl (by decide) ?_
              refine TrOps.gT rfl rfl rfl rfl c35 ?_
              refine TrOps.sem (OpSem.pickF rfl rfl c38 rfl) rfl rfl (by decide) ?_
              refine TrOps.sem (OpSem.pickT rfl rfl c35 rfl) rfl rfl (by decide) ?_
              refine TrOps.nil ?_
              refine At.seq ?_
              refine Tr.cond rfl (fun c44 => ?_) (fun c44 => ?_)
              · refine Tr.region ?_
                refine TrOps.sem (OpSem.build rfl rfl pl29 zc29 rfl rfl) rfl rfl (by decide) ?_
                refine TrOps.storeb rfl rfl rfl rfl rfl rfl rfl vs29 (by first | decide | simp) ?_
                refine TrOps.nil ?_
                refine At.block_normal ?_
                have he := outTo_1 (q := [x, y]) (pair0 (f := outTo (redF l c ex) c.length [x, y] k) (by simpa using c35)) (.inr (by simpa using c44))
                refine At.meet ?_
                exact .slot rfl (.refl _) <| .slot rfl (.refl _) <| .slot rfl (.refl _) <| .slot rfl (.refl _) <| .slot rfl (.refl _) <| .slot rfl (.refl _) <| .slot rfl (.refl _) <| .slot rfl (.refl _) <| .slot rfl (.refl _) <| .slot rfl (.refl _) <| .mem rfl <| .boxLe rfl (.cons (Le.i (congrArg Prod.fst (he))) <| .cons (Le.i (congrArg Prod.snd (he))) <| .nil) <| .nil
              · refine Tr.skip ?_
                refine At.block_normal ?_
                have he := outTo_0 (f := redF l c ex) (n := c.length) (q := [x, y]) (k := k) (fun h => by have := h.2; simp at c38 c44; omega)
                refine At.meet ?_
                exact .slot rfl (.refl _) <| .slot rfl (.refl _) <| .slot rfl (.refl _) <| .slot rfl (.refl _) <| .slot rfl (.refl _) <| .slot rfl (.refl _) <| .slot rfl (.refl _) <| .slot rfl (.refl _) <| .slot rfl (.refl _) <| .slot rfl (.refl _) <| .mem rfl <| .boxLe rfl (.cons (Le.i (congrArg Prod.fst (he))) <| .cons (Le.i (congrArg Prod.snd (he))) <| .nil) <| .nil
          · refine TrOps.gF rfl rfl rfl rfl c35 rfl (by decide) ?_
            refine TrOps.gF rfl rfl rfl rfl c35 rfl (by decide) ?_
            refine TrOps.gF rfl rfl rfl rfl c35 rfl (by decide) ?_
            refine TrOps.gU rfl rfl rfl rfl rfl (by decide) ?_
            refine TrOps.gU rfl rfl rfl rfl rfl (by decide) ?_
            refine TrOps.gU rfl rfl rfl rfl rfl (by decide) ?_
            refine TrOps.gU rfl rfl rfl rfl rfl (by decide) ?_
            refine TrOps.gF rfl rfl rfl rfl c35 rfl (by decide) ?_
            refine TrOps.sem (OpSem.pickF rfl rfl c35 rfl) rfl rfl (by decide) ?_
            refine TrOps.nil ?_
            refine At.seq ?_
            refine Tr.condF rfl rfl ?_
            refine Tr.skip ?_
            refine At.block_normal ?_
            have he := outTo_0 (f := redF l c ex) (n := c.length) (q := [x, y]) (k := k) (fun h => by rw [h.1] at c35; simp at c35)
            refine At.meet ?_
            exact .slot rfl (.refl _) <| .slot rfl (.refl _) <| .slot rfl (.refl _) <| .slot rfl (.refl _) <| .slot rfl (.refl _) <| .slot rfl (.refl _) <| .slot rfl (.refl _) <| .slot rfl (.refl _) <| .slot rfl (.refl _) <| .slot rfl (.refl _) <| .mem rfl <| .boxLe rfl (.cons (Le.i (congrArg Prod.fst (he))) <| .cons (Le.i (congrArg Prod.snd (he))) <| .nil) <| .nil
        · refine Tr.region ?_
          refine TrOps.sem (OpSem.bin rfl rfl rfl (badd (by omega) (by omega))) rfl rfl (by decide) ?_
          refine TrOps.sem (OpSem.move (.inl rfl) rfl) rfl rfl (by decide) ?_
          refine TrOps.nil ?_
          refine At.again (k + 1) (by omega) ?_ (by omega)
          exact .slot rfl (.refl _) <| .slot rfl (.refl _) <| .slot rfl (.refl _) <| .slot rfl (.refl _) <| .slot rfl (.refl _) <| .slot rfl (.refl _) <| .slot rfl (.refl _) <| .slot rfl (.refl _) <| .slot rfl (.refl _) <| .slot rfl (Le.of_eq (by simp)) <| .mem rfl <| .mem rfl <| .nil
      · have hk : k = 2 := by simp at c29; omega
        refine Tr.exit ?_
        refine At.pass_exit ?_
        refine At.pass_exit ?_
        refine At.block_same ?_
        refine At.seq ?_
        refine Tr.seq ?_
        refine Tr.seq ?_
        refine Tr.region ?_
        refine TrOps.sem (OpSem.loadbN rfl rfl rfl vs29 (by first | decide | simp)) rfl rfl (by decide) ?_
        refine TrOps.sem (OpSem.build rfl rfl pl29 zc29 rfl rfl) rfl rfl (by decide) ?_
        refine TrOps.sem (OpSem.neS2 rfl rfl rfl io29) rfl rfl (by decide) ?_
        refine TrOps.nil ?_
        refine At.seq ?_
        refine Tr.cond rfl (fun c49 => ?_) (fun c49 => ?_)
        · have hne : eqvF l c ex x y ≠ (0, 0) := fun h => by rw [← eqvF_out, ← hk] at h; simp [h] at c49
          refine Tr.seq ?_
          refine PC.start [] ?_
          refine PC.sem (OpSem.loadbN rfl rfl rfl vs29 (by first | decide | simp)) rfl rfl ?_
          refine PC.sem (OpSem.move (.inr rfl) rfl) rfl rfl ?_
          refine PC.done0 mixed (by kernel_rfl) (by kernel_rfl) (by kernel_rfl) (by kernel_rfl) (by kernel_rfl) ?_
          refine TrOps.storeb rfl rfl rfl rfl rfl rfl rfl vs29 (by first | decide | simp) ?_
          refine TrOps.nil ?_
          refine At.seq ?_
          refine Tr.ret ?_
          refine At.pass_ret ?_
          exact At.ret rfl (.tmp rfl <| .cellN rfl rfl vs29 <| .nil) rfl (Le.t (.cons (Le.bo (by simp [hne])) <| .cons (Le.flt (by rw [hk]; exact eqvF_out)) <| .nil))
        · have h0 : eqvF l c ex x y = (0, 0) := by rw [← eqvF_out, ← hk]; exact pair0 (by simpa using c49)
          have hok := eqvF_ok h0
          refine Tr.skip ?_
          refine At.seq ?_
          refine Tr.seq ?_
          refine PC.start [] ?_
          refine PC.sem (OpSem.move (.inl rfl) rfl) rfl rfl ?_
          refine PC.sem (OpSem.move (.inl rfl) rfl) rfl rfl ?_
          refine PC.sem (OpSem.move (.inl rfl) rfl) rfl rfl ?_
          refine PC.sem (OpSem.move (.inl rfl) rfl) rfl rfl ?_
          refine PC.sem (OpSem.move (.inl rfl) rfl) rfl rfl ?_
          refine PC.sem (OpSem.call0 (labels_equivalent_does l c ex x y hok.2.1 hok.2.2 (lab_arcs (redF_ok hok.1).1)) rfl rfl rfl rfl (Les.refl _)) rfl rfl ?_
          refine PC.sem (OpSem.loadbN rfl rfl rfl vs29 (by first | decide | simp)) rfl rfl ?_
          refine PC.sem (OpSem.move (.inr rfl) rfl) rfl rfl ?_
          refine PC.done0 mixed (by kernel_rfl) (by kernel_rfl) (by kernel_rfl) (by kernel_rfl) (by kernel_rfl) ?_
          refine TrOps.storeb rfl rfl rfl rfl rfl rfl rfl vs29 (by first | decide | simp) ?_
          refine TrOps.nil ?_
          refine At.seq ?_
          refine Tr.ret ?_
          exact At.ret rfl (.tmp rfl <| .cellN rfl rfl vs29 <| .nil) rfl (Le.t (.cons (Le.bo (by simp [h0])) <| .cons (Le.flt (by rw [hk]; exact eqvF_out)) <| .nil))

theorem Q_HasArc_does (a : Abs) (f x t : Int) : Does Try.prog false 71 [absS a, I (f), I (x), I (t)] (Bo (decide ((⟨f, x, t⟩ : Arc) ∈ a.arcs))) := by
  refine Does.of_body Try.func71 rfl rfl (by simp) Try.call71 (fun w0 O0 => ?_)
  refine Tr.lenG (n := 0) (i := 2) rfl rfl (fun len0_2 => ?_)
  refine Tr.lenG (n := 0) (i := 4) rfl rfl (fun len0_4 => ?_)
  refine Tr.seq ?_
  refine Tr.region ?_
  refine TrOps.semM (OpSem.box 4 rfl rfl rfl rfl) rfl rfl (by decide) ?_
  refine TrOps.sem (OpSem.move (.inr rfl) rfl) rfl rfl (by decide) ?_
  refine TrOps.nil ?_
  refine At.seq ?_
  refine Tr.seq ?_
  refine Tr.seq ?_
  refine Tr.region ?_
  refine TrOps.sem (OpSem.move (.inr rfl) rfl) rfl rfl (by decide) ?_
  refine TrOps.nil ?_
  refine At.seq ?_
  refine Tr.block ?_
  refine Tr.loop (X := Nat) (fun k => k ≤ a.arcs.length ∧ ∀ i : Nat, i < k → nth a.arcs i ≠ (⟨f, x, t⟩ : Arc)) (fun k => [(1, I (f)), (2, I (x)), (3, I (t)), (4, .r 4 0), (9, I (k))]) (fun k => [(4, .box [I (a.states), I (a.labels), .d (arcsD a.arcs), I (a.init), .d (ints a.goals)])]) (fun k => a.arcs.length - k) 0 ⟨by omega, by simp⟩ ?_ ?_
  · exact .slot rfl (.refl _) <| .slot rfl (.refl _) <| .slot rfl (.refl _) <| .slot rfl (.refl _) <| .slot rfl (Le.of_eq (by simp)) <| .mem rfl <| .nil
  · rintro k ⟨hkl, hinv⟩
    refine Tr.seq ?_
    refine Tr.seq ?_
    refine Tr.region ?_
    refine TrOps.sem (OpSem.move (.inl rfl) rfl) rfl rfl (by decide) ?_
    refine TrOps.sem (OpSem.fieldr rfl rfl fo46_2) rfl rfl (by decide) ?_
    refine TrOps.sem (OpSem.loadb1 rfl rfl rfl vs44 rfl) rfl rfl (by decide) ?_
    refine TrOps.sem (OpSem.lenL rfl rfl es44) rfl rfl (by decide) ?_
    refine TrOps.sem (OpSem.bin rfl rfl rfl blss) rfl rfl (by decide) ?_
    refine TrOps.nil ?_
    refine At.seq ?_
    refine Tr.cond rfl (fun c14 => ?_) (fun c14 => ?_)
    · have hk : k < a.arcs.length := by simpa using c14
      refine Tr.skip ?_
      refine At.seq ?_
      refine Tr.seq ?_
      refine Tr.block ?_
      refine Tr.seq ?_
      refine Tr.region ?_
      refine TrOps.sem (OpSem.fieldr rfl rfl fo46_2) rfl rfl (by decide) ?_
      refine TrOps.sem (OpSem.loadb1 rfl rfl rfl vs44 rfl) rfl rfl (by decide) ?_
      refine TrOps.sem (OpSem.move (.inl rfl) rfl) rfl rfl (by decide) ?_
      refine TrOps.sem (OpSem.idxL rfl rfl rfl es44 (by omega) (by omega)) rfl rfl (by decide) ?_
      refine TrOps.sem (OpSem.loadN rfl rfl vs93 (by first | decide | simp) rfl) rfl rfl (by decide) ?_
      refine TrOps.sem (OpSem.move (.inl rfl) rfl) rfl rfl (by decide) ?_
      refine TrOps.sem (OpSem.move (.inl rfl) rfl) rfl rfl (by decide) ?_
      refine TrOps.sem (OpSem.move (.inl rfl) rfl) rfl rfl (by decide) ?_
      refine TrOps.sem (OpSem.build rfl rfl pl93 zc93 rfl rfl) rfl rfl (by decide) ?_
      refine TrOps.sem (OpSem.eqS3 rfl rfl rfl io93) rfl rfl (by decide) ?_
      refine TrOps.nil ?_
      refine At.seq ?_
      refine Tr.cond rfl (fun c26 => ?_) (fun c26 => ?_)
      · have hb : nth a.arcs k = (⟨f, x, t⟩ : Arc) := arc_ext (by simp at c26; exact c26.1) (by simp at c26; exact c26.2.1) (by simp at c26; exact c26.2.2)
        refine Tr.seq ?_
        refine Tr.region ?_
        refine TrOps.sem (OpSem.move (.inr rfl) rfl) rfl rfl (by decide) ?_
        refine TrOps.nil ?_
        refine At.seq ?_
        refine Tr.ret ?_
        refine At.block_ret ?_
        refine At.pass_ret ?_
        refine At.pass_ret ?_
        refine At.block_ret ?_
        refine At.pass_ret ?_
        exact At.ret rfl (.tmp rfl <| .nil) rfl (Le.bo (decide_eq_true (by rw [← hb]; exact nth_mem (by omega) (by omega))).symm)
      · have hb : nth a.arcs k ≠ (⟨f, x, t⟩ : Arc) := fun h => by rw [h] at c26; simp at c26
        refine Tr.skip ?_
        refine At.block_normal ?_
        refine At.seq ?_
        refine Tr.region ?_
        refine TrOps.sem (OpSem.move (.inl rfl) rfl) rfl rfl (by decide) ?_
        refine TrOps.sem (OpSem.bin rfl rfl rfl (badd (by omega) (by omega))) rfl rfl (by decide) ?_
        refine TrOps.sem (OpSem.move (.inr rfl) rfl) rfl rfl (by decide) ?_
        refine TrOps.nil ?_
        refine At.again (k + 1) ⟨by omega, all_succ hinv hb⟩ ?_ (by omega)
        exact .slot rfl (.refl _) <| .slot rfl (.refl _) <| .slot rfl (.refl _) <| .slot rfl (.refl _) <| .slot rfl (Le.of_eq (by simp)) <| .mem rfl <| .nil
    · have hk : k = a.arcs.length := by simp at c14; omega
      refine Tr.exit ?_
      refine At.pass_exit ?_
      refine At.pass_exit ?_
      refine At.block_same ?_
      refine At.seq ?_
      refine Tr.seq ?_
      refine Tr.region ?_
      refine TrOps.sem (OpSem.move (.inr rfl) rfl) rfl rfl (by decide) ?_
      refine TrOps.nil ?_
      refine At.seq ?_
      refine Tr.ret ?_
      exact At.ret rfl (.tmp rfl <| .nil) rfl (Le.bo (decide_eq_false (fun h => by obtain ⟨i, hi, he⟩ := List.getElem_of_mem h; exact hinv i (by omega) (by rw [nth_eq hi, he]))).symm)

end Go.Proofs.Ytohlmcebphcokaa
end

section
/- Walks, written by gen.py out of hints. -/










set_option linter.unusedVariables false
set_option linter.unusedSimpArgs false
namespace Go.Proofs.Ytohlmcebphcokaa
open Go.Eng
set_option maxRecDepth 10000
set_option maxHeartbeats 1000000


open Go.Shelf Go.RowKit Go.Lib
theorem or3 (x y z : Int) (b : Nat) (w : World) (h0 : w.cell? ⟨b, 0, none⟩ = some (.int .i64 x)) (h1 : w.cell? ⟨b, 1, none⟩ = some (.int .i64 y)) (h2 : w.cell? ⟨b, 2, none⟩ = some (.int .i64 z)) :
    Calls Try.prog 108 #[.slice (some ⟨b, 0, none⟩) 3 3] w fun e w' => e = .returned (.int .i64 (if x ≠ 0 then x else if y ≠ 0 then y else z)) ∧ w' = w := by
  by_cases hx : x = 0
  · subst hx
    by_cases hy : y = 0
    · subst hy
      by_cases hz : z = 0
      · subst hz
        go_enter Try.func108, Try.ntmps108
        go_wp2
        refine wp_loop_rounds 4 ?_
        rw [rounds_succ]
        go_wp2
        rw [rounds_succ]
        go_wp2
        rw [rounds_succ]
        go_wp2
        rw [rounds_succ]
        go_wp2
        go_ret
        exact ⟨by simp, rfl⟩
      · go_enter Try.func108, Try.ntmps108
        go_wp2
        refine wp_loop_rounds 4 ?_
        rw [rounds_succ]
        go_wp2
        rw [rounds_succ]
        go_wp2
        rw [rounds_succ]
        go_wp2
        go_ret
        exact ⟨by simp, rfl⟩
    · go_enter Try.func108, Try.ntmps108
      go_wp2
      refine wp_loop_rounds 4 ?_
      rw [rounds_succ]
      go_wp2
      rw [rounds_succ]
      go_wp2
      go_ret
      exact ⟨by simp [hy], rfl⟩
  · go_enter Try.func108, Try.ntmps108
    go_wp2
    refine wp_loop_rounds 4 ?_
    rw [rounds_succ]
    go_wp2
    go_ret
    exact ⟨by simp [hx], rfl⟩
theorem cmp3 (x y : Int) (w : World) : Calls Try.prog 109 #[.int .i64 x, .int .i64 y] w fun e w' => e = .returned (.int .i64 (cmpI x y)) ∧ w' = w := by
  have hn : ∀ (z : Int) (w : World), Calls Try.prog 116 #[.int .i64 z] w fun e w' => e = .returned (.bool false) ∧ w' = w := by
    intro z w
    go_enter Try.func116, Try.ntmps116
    go_wp2
    go_ret
    exact ⟨by simp, rfl⟩
  rcases Int.lt_trichotomy x y with h | h | h
  · go_enter Try.func109, Try.ntmps109
    go_wp2_with (go_at_call 116; refine (hn _ _).mono ?_; rintro e w' ⟨rfl, rfl⟩)
    all_goals go_ret
    all_goals exact ⟨by first | rfl | (unfold cmpI; simp; omega) | (simp at *; omega), rfl⟩
  · subst h
    go_enter Try.func109, Try.ntmps109
    go_wp2_with (go_at_call 116; refine (hn _ _).mono ?_; rintro e w' ⟨rfl, rfl⟩)
    all_goals go_ret
    all_goals exact ⟨by first | rfl | (unfold cmpI; simp) | (simp at *; omega), rfl⟩
  · go_enter Try.func109, Try.ntmps109
    go_wp2_with (go_at_call 116; refine (hn _ _).mono ?_; rintro e w' ⟨rfl, rfl⟩)
    all_goals go_ret
    all_goals exact ⟨by first | rfl | (unfold cmpI; simp; omega) | (simp at *; omega), rfl⟩
theorem or3' (x y z c : Int) (hc : (if x ≠ 0 then x else if y ≠ 0 then y else z) = c) (b : Nat) (w : World) (h0 : w.cell? ⟨b, 0, none⟩ = some (.int .i64 x)) (h1 : w.cell? ⟨b, 1, none⟩ = some (.int .i64 y)) (h2 : w.cell? ⟨b, 2, none⟩ = some (.int .i64 z)) :
    Calls Try.prog 108 #[.slice (some ⟨b, 0, none⟩) 3 3] w fun e w' => e = .returned (.int .i64 c) ∧ w' = w := by
  subst hc; exact or3 x y z b w h0 h1 h2
theorem cell3 (W : World) (A B : Obj) (vs : Array Value) (T i : Nat) (v : Value) (h : vs[i]? = some v) : (((W.alloc A).alloc B).alloc (.cells vs T)).drew.cell? ⟨W.heap.size + 1 + 1, i, none⟩ = some v := by
  have hb : (((W.heap.push A).push B).push (.cells vs T))[W.heap.size + 1 + 1]? = some (.cells vs T) := by
    rw [Array.getElem?_push, if_pos (by simp)]
  unfold World.cell? World.drew World.alloc
  simp only [hb]
  exact h
theorem compare3 (x y : Arc) (W : World) : Calls Try.prog 87 #[.agg #[.int .i64 x.fr, .int .i64 x.lab, .int .i64 x.to], .agg #[.int .i64 y.fr, .int .i64 y.lab, .int .i64 y.to]] W fun e w' => e = .returned (.int .i64 (cmpArc x y)) ∧ ∃ q os', w' = _root_.Go.Sort.grow (W.drewN q) os' := by
  have hr : (if cmpI x.fr y.fr ≠ 0 then cmpI x.fr y.fr else if cmpI x.lab y.lab ≠ 0 then cmpI x.lab y.lab else cmpI x.to y.to) = cmpArc x y := by
    unfold cmpArc orI
    simp only [List.find?_cons, List.find?_nil]
    by_cases h1 : cmpI x.fr y.fr = 0 <;> by_cases h2 : cmpI x.lab y.lab = 0 <;> by_cases h3 : cmpI x.to y.to = 0 <;> simp [h1, h2, h3]
  go_enter Try.func87, Try.ntmps87
  go_upto_region 1 with fail
  go_region_held3 (fun w' => w'.cell? ⟨W.heap.size, 0, none⟩ = some (.int .i64 x.fr) ∧ w'.cell? ⟨W.heap.size, 1, none⟩ = some (.int .i64 x.lab) ∧ w'.cell? ⟨W.heap.size, 2, none⟩ = some (.int .i64 x.to) ∧ w'.cell? ⟨W.heap.size + 1, 0, none⟩ = some (.int .i64 y.fr) ∧ w'.cell? ⟨W.heap.size + 1, 1, none⟩ = some (.int .i64 y.lab) ∧ w'.cell? ⟨W.heap.size + 1, 2, none⟩ = some (.int .i64 y.to)) (go_keep)
    (first | (go_at_call 109; refine (cmp3 _ _ _).mono ?_; rintro e w' ⟨rfl, rfl⟩) | (go_at_call 108; refine (or3' (cmpI x.fr y.fr) (cmpI x.lab y.lab) (cmpI x.to y.to) (cmpArc x y) hr _ _ ?_ ?_ ?_).mono ?_; exact cell3 _ _ _ _ _ _ _ rfl; exact cell3 _ _ _ _ _ _ _ rfl; exact cell3 _ _ _ _ _ _ _ rfl; rintro e w' ⟨rfl, rfl⟩))

  go_wp2
  go_ret

  exact ⟨by simp, 1, _, by rw [Go.Sort.alloc_eq_grow, Go.Sort.alloc_eq_grow, Go.Sort.alloc_eq_grow, Go.Sort.grow_grow, Go.Sort.grow_grow, Go.Sort.drew_grow]; rfl⟩

def Try.sortArc_ren : Go.Shelf.Ren := ⟨fun | 6 => 104 | 15 => 113 | 14 => 112 | 28 => 126 | 29 => 127 | 20 => 118 | 21 => 119 | 22 => 120 | 23 => 121 | 24 => 122 | 25 => 123 | 26 => 124 | 27 => 125 | 46 => 128 | 47 => 129 | 48 => 130 | 49 => 131 | 50 => 132 | 57 => 133 | n => n, fun | 22 => 44 | 24 => 93 | 25 => 112 | 3 => 3 | 39 => 125 | 0 => 0 | 53 => 134 | 55 => 137 | 4 => 4 | 46 => 143 | 45 => 142 | 50 => 147 | 5 => 5 | 9 => 9 | 66 => 151 | 70 => 155 | 76 => 157 | 77 => 158 | n => n, fun | n => n⟩
theorem Try.sortArc : Go.Proofs.SlLaysF0.n6 Try.prog Try.sortArc_ren := {
 mixed := by kernel_rfl
 f6 := ⟨Try.f104.name, by decide, Try.func104.trans (congrArg some (by kernel_rfl))⟩
 f14 := ⟨Try.f112.name, by decide, Try.func112.trans (congrArg some (by kernel_rfl))⟩
 f15 := Try.func113.trans (congrArg some (by kernel_rfl))
 f20 := ⟨Try.f118.name, by decide, Try.func118.trans (congrArg some (by kernel_rfl))⟩
 f21 := ⟨Try.f119.name, by decide, Try.func119.trans (congrArg some (by kernel_rfl))⟩
 f22 := ⟨Try.f120.name, by decide, Try.func120.trans (congrArg some (by kernel_rfl))⟩
 f23 := ⟨Try.f121.name, by decide, Try.func121.trans (congrArg some (by kernel_rfl))⟩
 f24 := ⟨Try.f122.name, by decide, Try.func122.trans (congrArg some (by kernel_rfl))⟩
 f25 := ⟨Try.f123.name, by decide, Try.func123.trans (congrArg some (by kernel_rfl))⟩
 f26 := ⟨Try.f124.name, by decide, Try.func124.trans (congrArg some (by kernel_rfl))⟩
 f27 := ⟨Try.f125.name, by decide, Try.func125.trans (congrArg some (by kernel_rfl))⟩
 f28 := Try.func126.trans (congrArg some (by kernel_rfl))
 f29 := Try.func127.trans (congrArg some (by kernel_rfl))
 f46 := ⟨Try.f128.name, by decide, Try.func128.trans (congrArg some (by kernel_rfl))⟩
 f47 := Try.func129.trans (congrArg some (by kernel_rfl))
 f48 := Try.func130.trans (congrArg some (by kernel_rfl))
 f49 := ⟨Try.f131.name, by decide, Try.func131.trans (congrArg some (by kernel_rfl))⟩
 f50 := ⟨Try.f132.name, by decide, Try.func132.trans (congrArg some (by kernel_rfl))⟩
 f57 := ⟨Try.f133.name, by decide, Try.func133.trans (congrArg some (by kernel_rfl))⟩
 t0 := Try.underlying0
 a0 := Try.isAgg0
 z0 := Try.sizeOf0
 v0 := Try.zeroValue0
 t3 := Try.underlying3
 a3 := Try.isAgg3
 z3 := Try.sizeOf3
 v3 := Try.zeroValue3
 t4 := Try.underlying4
 a4 := Try.isAgg4
 z4 := Try.sizeOf4
 v4 := Try.zeroValue4
 t5 := Try.underlying5
 a5 := Try.isAgg5
 z5 := Try.sizeOf5
 v5 := Try.zeroValue5
 t9 := Try.underlying9
 a9 := Try.isAgg9
 z9 := Try.sizeOf9
 v9 := Try.zeroValue9
 t22 := Try.underlying44
 a22 := Try.isAgg44
 z22 := Try.sizeOf44
 v22 := Try.zeroValue44
 t25 := Try.underlying112
 a25 := Try.isAgg112
 z25 := Try.sizeOf112
 v25 := Try.zeroValue112
 t39 := Try.underlying125
 a39 := Try.isAgg125
 z39 := Try.sizeOf125
 v39 := Try.zeroValue125
 t45 := Try.underlying142
 a45 := Try.isAgg142
 z45 := Try.sizeOf142
 v45 := Try.zeroValue142
 t46 := Try.underlying143
 a46 := Try.isAgg143
 z46 := Try.sizeOf143
 v46 := Try.zeroValue143
 t50 := Try.underlying147
 a50 := Try.isAgg147
 z50 := Try.sizeOf147
 v50 := Try.zeroValue147
 t53 := Try.underlying134
 a53 := Try.isAgg134
 z53 := Try.sizeOf134
 v53 := Try.zeroValue134
 t55 := Try.underlying137
 a55 := Try.isAgg137
 z55 := Try.sizeOf137
 v55 := Try.zeroValue137
 t66 := Try.underlying151
 a66 := Try.isAgg151
 z66 := Try.sizeOf151
 v66 := Try.zeroValue151
 t70 := Try.underlying155
 a70 := Try.isAgg155
 z70 := Try.sizeOf155
 v70 := Try.zeroValue155
 t76 := Try.underlying157
 a76 := Try.isAgg157
 z76 := Try.sizeOf157
 v76 := Try.zeroValue157
 t77 := Try.underlying158
 a77 := Try.isAgg158
 z77 := Try.sizeOf158
 v77 := Try.zeroValue158 }
def arcEnc (x : Arc) : List Value := [.int .i64 x.fr, .int .i64 x.lab, .int .i64 x.to]
theorem sortArc_W (l : List Arc) (hl : l.length < 4611686018427387904) : DoesWS Try.prog 104 (fun v => [v, .func (.func 87) #[] #[]]) (.tuple #[]) 3 93 (l.map arcC) ((sortL l).map arcC) :=
  sortFunc_W (α := Arc) Try.sortArc 3 93 Try.isAgg93 Try.sizeOf93 arcEnc (fun _ => rfl) (fun x v hv => by simp [arcEnc] at hv; rcases hv with rfl | rfl | rfl <;> rfl) cmpArc ltArc_swo ltArc_tot 87 (enters_of Try.func87 (by kernel_rfl) rfl) (fun _ _ _ _ _ _ _ _ x y => compare3 x y _) Try.call104 l hl


end Go.Proofs.Ytohlmcebphcokaa
end

section
/- Walks, written by gen.py out of hints. -/



set_option linter.unusedVariables false
set_option linter.unusedSimpArgs false
namespace Go.Proofs.Ytohlmcebphcokaa
open Go.Eng
set_option maxRecDepth 10000
set_option maxHeartbeats 1000000

theorem slices_Compact_Arc_Arc_W (l : List Arc) (hne : l ≠ []) (hml : (l.length : Int) ≤ 9223372036854775807) : DoesW Try.prog 105 (fun v => [v]) (fun v => v) 3 93 (l.map arcC) ((dd l).map arcC) := by
  have hpos : 0 < l.length := List.length_pos_iff.2 hne
  refine DoesW.of_body (as_ := [.o 0]) Try.func105 rfl rfl (by simp) Try.call105 (fun _ => rfl) (by intro O H w h1 i x s hx hs; rcases i with _ | i <;> simp at hx hs; subst hx; subst hs; exact .o 0 h1) (by simpa using hne) (by simpa using dd_ne hne) (fun O0 Oc W => ?_)
  refine Tr.seq ?_
  refine Tr.region ?_
  refine TrOps.sem (OpSem.move (.inr rfl) rfl) rfl rfl (by decide) ?_
  refine TrOps.nil ?_
  refine At.seq ?_
  refine Tr.seq ?_
  refine Tr.seq ?_
  refine Tr.region ?_
  refine TrOps.sem (OpSem.move (.inl rfl) rfl) rfl rfl (by decide) ?_
  refine TrOps.sem (OpSem.leno rfl rfl rfl es44) rfl rfl (by decide) ?_
  refine TrOps.sem (OpSem.bin rfl rfl rfl blss) rfl rfl (by decide) ?_
  refine TrOps.nil ?_
  refine At.seq ?_
  refine Tr.cond rfl (fun c8 => ?_) (fun c8 => ?_)
  · have hlt : l.length < 2 := by simp at c8; omega
    refine Tr.seq ?_
    refine Tr.region ?_
    refine TrOps.sem (OpSem.move (.inl rfl) rfl) rfl rfl (by decide) ?_
    refine TrOps.sem (OpSem.move (.inr rfl) rfl) rfl rfl (by decide) ?_
    refine TrOps.nil ?_
    refine At.seq ?_
    refine Tr.ret ?_
    refine At.pass_ret ?_
    exact At.retW rfl (.tmp rfl <| .nil) rfl rfl (by simp [plainB]) (by rw [dd_one hlt]) (fun H => rfl)
  · have hge : 2 ≤ l.length := by simp at c8; omega
    refine Tr.skip ?_
    refine At.seq ?_
    refine Tr.seq ?_
    refine Tr.seq ?_
    refine Tr.region ?_
    refine TrOps.sem (OpSem.move (.inr rfl) rfl) rfl rfl (by decide) ?_
    refine TrOps.nil ?_
    refine At.seq ?_
    refine Tr.block ?_
    refine Tr.loop (X := Nat) (fun k => 1 ≤ k ∧ k ≤ l.length ∧ ∀ i : Nat, 0 < i → i < k → nth l i ≠ nth l (i - 1 : Int)) (fun k => [(0, .o 0), (3, I (k))]) (fun k => [(0, .own 3 93 (l.map arcC)), (1000, .fr (frK Oc W))]) (fun k => l.length - k) 1 ⟨by omega, by omega, fun i h0 h1 => by omega⟩ ?_ ?_
    · exact .slot rfl (.refl _) <| .slot rfl (.refl _) <| .mem rfl <| .mem rfl <| .nil
    · rintro k ⟨hk1, hkl, hinv⟩
      refine Tr.seq ?_
      refine Tr.seq ?_
      refine Tr.region ?_
      refine TrOps.sem (OpSem.move (.inl rfl) rfl) rfl rfl (by decide) ?_
      refine TrOps.sem (OpSem.move (.inl rfl) rfl) rfl rfl (by decide) ?_
      refine TrOps.sem (OpSem.leno rfl rfl rfl es44) rfl rfl (by decide) ?_
      refine TrOps.sem (OpSem.bin rfl rfl rfl blss) rfl rfl (by decide) ?_
      refine TrOps.nil ?_
      refine At.seq ?_
      refine Tr.cond rfl (fun c13 => ?_) (fun c13 => ?_)
      · have hk : k < l.length := by simpa using c13
        refine Tr.skip ?_
        refine At.seq ?_
        refine Tr.seq ?_
        refine Tr.block ?_
        refine Tr.seq ?_
        refine PC.start [] ?_
        refine PC.sem (OpSem.move (.inl rfl) rfl) rfl rfl ?_
        refine PC.sem (OpSem.move (.inl rfl) rfl) rfl rfl ?_
        refine PC.sem (OpSem.idxo rfl rfl rfl rfl es44 (by omega) (by simp; omega)) rfl rfl ?_
        refine PC.sem (OpSem.loadqN (r := arcC (nth l k)) rfl rfl rfl vs93 (arcs_at (by omega) (by omega))) rfl rfl ?_
        refine PC.sem (OpSem.move (.inl rfl) rfl) rfl rfl ?_
        refine PC.sem (OpSem.move (.inl rfl) rfl) rfl rfl ?_
        refine PC.sem (OpSem.bin rfl rfl rfl (bsub (by omega) (by omega))) rfl rfl ?_
        refine PC.sem (OpSem.idxo rfl rfl rfl rfl es44 (by omega) (by simp; omega)) rfl rfl ?_
        refine PC.sem (OpSem.loadqN (r := arcC (nth l (k - 1 : Int))) rfl rfl rfl vs93 (arcs_at (by omega) (by omega))) rfl rfl ?_
        refine PC.done0 mixed (by kernel_rfl) (by kernel_rfl) (by kernel_rfl) (by kernel_rfl) (by kernel_rfl) ?_
        refine TrOps.sem (OpSem.eqS3 rfl rfl rfl io93) rfl rfl (by decide) ?_
        refine TrOps.nil ?_
        refine At.seq ?_
        refine Tr.cond rfl (fun c25 => ?_) (fun c25 => ?_)
        · have hdu : nth l k = nth l (k - 1 : Int) := arc_ext3 (by simpa using c25)
          have hk0 : (ddTo l (k + 1)).length = k := by rw [show ddTo l (k + 1) = ddTo l k from if_pos ⟨by omega, hdu⟩, ddTo_take (by omega) hinv]; simp; omega
          refine Tr.seq ?_
          refine Tr.region ?_
          refine TrOps.sem (OpSem.move (.inl rfl) rfl) rfl rfl (by decide) ?_
          refine TrOps.sem (OpSem.move (.inl rfl) rfl) rfl rfl (by decide) ?_
          refine TrOps.sem (OpSem.sliceoL rfl rfl rfl rfl es44 (by omega) (by simp; omega)) rfl rfl (by decide) ?_
          refine TrOps.sem (OpSem.move (.inr rfl) rfl) rfl rfl (by decide) ?_
          refine TrOps.nil ?_
          refine At.seq ?_
          refine Tr.seq ?_
          refine Tr.seq ?_
          refine Tr.region ?_
          refine TrOps.sem (OpSem.move (.inr rfl) rfl) rfl rfl (by decide) ?_
          refine TrOps.nil ?_
          refine At.seq ?_
          refine Tr.block ?_
          refine Tr.loop (X := Nat) (fun j => k + j + 1 ≤ l.length) (fun j => [(0, .o 0), (3, I (((ddTo l (k + j + 1)).length : Int))), (4, .w 0 3 k (l.length - k)), (5, I (((j + 1 : Nat) : Int)))]) (fun j => [(0, .own 3 93 ((dmTo l k j).map arcC)), (1000, .fr (frK Oc W))]) (fun j => l.length - (k + j + 1)) 0 (by omega) ?_ ?_
          · exact .slot rfl (.refl _) <| .slot rfl (Le.i (by rw [Nat.add_zero, hk0])) <| .slot rfl (Le.of_eq (by simp)) <| .slot rfl (Le.of_eq (by simp)) <| .memEq rfl (by simp [dmTo]) <| .mem rfl <| .nil
          · rintro j hjl
            refine Tr.seq ?_
            refine Tr.seq ?_
            refine Tr.region ?_
            refine TrOps.sem (OpSem.move (.inl rfl) rfl) rfl rfl (by decide) ?_
            refine TrOps.sem (OpSem.move (.inl rfl) rfl) rfl rfl (by decide) ?_
            refine TrOps.sem (OpSem.lenw rfl rfl es44) rfl rfl (by decide) ?_
            refine TrOps.sem (OpSem.bin rfl rfl rfl blss) rfl rfl (by decide) ?_
            refine TrOps.nil ?_
            refine At.seq ?_
            refine Tr.cond rfl (fun c32 => ?_) (fun c32 => ?_)
            · have hj : k + j + 1 < l.length := by simp at c32; omega
              have hdl := dk_len (by omega) hdu (j := j)
              have a1 := dmTo_at (by omega) hdu (i := k + j + 1) (j := j) (by omega)
              have a2 := dmTo_at (by omega) hdu (i := k + j) (j := j) (by omega)
              refine Tr.skip ?_
              refine At.seq ?_
              refine Tr.seq ?_
              refine Tr.block ?_
              refine Tr.seq ?_
              refine PC.start [] ?_
              refine PC.sem (OpSem.move (.inl rfl) rfl) rfl rfl ?_
              refine PC.sem (OpSem.move (.inl rfl) rfl) rfl rfl ?_
              refine PC.sem (OpSem.idxw rfl rfl rfl es44 (by omega) (by omega)) rfl rfl ?_
              refine PC.sem (OpSem.loadqN (r := arcC (nth l (k + j + 1 : Nat))) rfl rfl rfl vs93 (arcs_dm a1 (by rw [dmTo_len]; omega) (by omega))) rfl rfl ?_
              refine PC.sem (OpSem.move (.inl rfl) rfl) rfl rfl ?_
              refine PC.sem (OpSem.move (.inl rfl) rfl) rfl rfl ?_
              refine PC.sem (OpSem.bin rfl rfl rfl (bsub (by omega) (by omega))) rfl rfl ?_
              refine PC.sem (OpSem.idxw rfl rfl rfl es44 (by omega) (by omega)) rfl rfl ?_
              refine PC.sem (OpSem.loadqN (r := arcC (nth l (k + j : Nat))) rfl rfl rfl vs93 (arcs_dm a2 (by rw [dmTo_len]; omega) (by omega))) rfl rfl ?_
              refine PC.done0 mixed (by kernel_rfl) (by kernel_rfl) (by kernel_rfl) (by kernel_rfl) (by kernel_rfl) ?_
              refine TrOps.sem (OpSem.neS3 rfl rfl rfl io93) rfl rfl (by decide) ?_
              refine TrOps.nil ?_
              refine At.seq ?_
              refine Tr.cond rfl (fun c44 => ?_) (fun c44 => ?_)
              · have hnq : nth l (k + j + 1 : Nat) ≠ nth l (k + j : Nat) := fun h => by rw [h] at c44; simp at c44
                refine Tr.seq ?_
                refine Tr.region ?_
                refine TrOps.sem (OpSem.move (.inl rfl) rfl) rfl rfl (by decide) ?_
                refine TrOps.sem (OpSem.move (.inl rfl) rfl) rfl rfl (by decide) ?_
                refine TrOps.sem (OpSem.move (.inl rfl) rfl) rfl rfl (by decide) ?_
                refine TrOps.sem (OpSem.move (.inl rfl) rfl) rfl rfl (by decide) ?_
                refine TrOps.sem (OpSem.idxw rfl rfl rfl es44 (by omega) (by omega)) rfl rfl (by decide) ?_
                refine TrOps.sem (OpSem.loadqN (r := arcC (nth l (k + j + 1 : Nat))) rfl rfl rfl vs93 (arcs_dm a1 (by rw [dmTo_len]; omega) (by omega))) rfl rfl (by decide) ?_
                refine TrOps.sem (OpSem.idxo rfl rfl rfl rfl es44 (by omega) (by simp [dmTo_len]; omega)) rfl rfl (by decide) ?_
                refine TrOps.ofSt0 (OpSt.storeqN (r' := arcC (nth l (k + j + 1 : Nat))) rfl rfl rfl rfl vs93 (by simp [dmTo_len]; omega) rfl) rfl rfl rfl ?_
                refine TrOps.nil ?_
                refine At.seq ?_
                refine Tr.region ?_
                refine TrOps.sem (OpSem.move (.inl rfl) rfl) rfl rfl (by decide) ?_
                refine TrOps.sem (OpSem.bin rfl rfl rfl (badd (by omega) (by omega))) rfl rfl (by decide) ?_
                refine TrOps.sem (OpSem.move (.inr rfl) rfl) rfl rfl (by decide) ?_
                refine TrOps.nil ?_
                refine At.block_normal ?_
                refine At.seq ?_
                refine Tr.region ?_
                refine TrOps.sem (OpSem.move (.inl rfl) rfl) rfl rfl (by decide) ?_
                refine TrOps.sem (OpSem.bin rfl rfl rfl (badd (by omega) (by omega))) rfl rfl (by decide) ?_
                refine TrOps.sem (OpSem.move (.inr rfl) rfl) rfl rfl (by decide) ?_
                refine TrOps.nil ?_
                refine At.again (j + 1) (by omega) ?_ (by omega)
                exact .slot rfl (.refl _) <| .slot rfl (Le.i (by rw [ddTo_step (by omega) hdu, if_neg hnq]; simp)) <| .slot rfl (.refl _) <| .slot rfl (Le.i (by omega)) <| .memEq rfl (by rw [dmTo_s (k := k) (j := j) hnq]; exact congrArg _ (map_set3 (L := dmTo l k j) (n := (ddTo l (k + j + 1)).length) (by rw [dmTo_len (l := l) (k0 := k) (j := j)]; omega)).symm) <| .mem rfl <| .nil
              · have hq : nth l (k + j + 1 : Nat) = nth l (k + j : Nat) := arc_ext3 (by simpa using c44)
                refine Tr.skip ?_
                refine At.block_normal ?_
                refine At.seq ?_
                refine Tr.region ?_
                refine TrOps.sem (OpSem.move (.inl rfl) rfl) rfl rfl (by decide) ?_
                refine TrOps.sem (OpSem.bin rfl rfl rfl (badd (by omega) (by omega))) rfl rfl (by decide) ?_
                refine TrOps.sem (OpSem.move (.inr rfl) rfl) rfl rfl (by decide) ?_
                refine TrOps.nil ?_
                refine At.again (j + 1) (by omega) ?_ (by omega)
                exact .slot rfl (.refl _) <| .slot rfl (Le.i (by rw [ddTo_step (by omega) hdu, if_pos hq])) <| .slot rfl (.refl _) <| .slot rfl (Le.i (by omega)) <| .memEq rfl (by rw [dmTo_e (k := k) (j := j) hq]) <| .mem rfl <| .nil
            · have hj : k + j + 1 = l.length := by simp at c32; omega
              have hdl := dk_len (by omega) hdu (j := j)
              refine Tr.exit ?_
              refine At.pass_exit ?_
              refine At.pass_exit ?_
              refine At.block_same ?_
              refine At.seq ?_
              refine Tr.seq ?_
              refine Tr.region ?_
              refine TrOps.sem (OpSem.move (.inl rfl) rfl) rfl rfl (by decide) ?_
              refine TrOps.sem (OpSem.move (.inl rfl) rfl) rfl rfl (by decide) ?_
              refine TrOps.sem (OpSem.sliceoL rfl rfl rfl rfl es44 (by omega) (by simp [dmTo_len]; omega)) rfl rfl (by decide) ?_
              refine TrOps.ofSt0 (OpSt.clearW rfl rfl es44 ze44 rfl rfl (by decide) (by simp [dmTo_len]; omega)) rfl rfl rfl ?_
              refine TrOps.nil ?_
              refine At.seq ?_
              refine Tr.seq ?_
              refine Tr.region ?_
              refine TrOps.sem (OpSem.move (.inl rfl) rfl) rfl rfl (by decide) ?_
              refine TrOps.sem (OpSem.move (.inl rfl) rfl) rfl rfl (by decide) ?_
              refine TrOps.semM (OpSem.cutO rfl rfl rfl rfl es44 (by omega) (by simp [dmTo_len]; omega) (by simp [dmTo_len]; omega)) rfl rfl (by decide) ?_
              refine TrOps.sem (OpSem.move (.inr rfl) rfl) rfl rfl (by decide) ?_
              refine TrOps.nil ?_
              refine At.seq ?_
              refine Tr.ret ?_
              refine At.block_ret ?_
              refine At.pass_ret ?_
              refine At.pass_ret ?_
              refine At.block_ret ?_
              refine At.pass_ret ?_
              exact At.retW rfl (.tmp rfl <| .nil) rfl rfl (by rw [cut_dd (by omega) hdu hk hinv hj]; exact plain_arcs _) (cut_dd (by omega) hdu hk hinv hj) (fun H => rfl)
        · have hdu : nth l k ≠ nth l (k - 1 : Int) := fun h => by rw [h] at c25; simp at c25
          refine Tr.skip ?_
          refine At.block_normal ?_
          refine At.seq ?_
          refine Tr.region ?_
          refine TrOps.sem (OpSem.move (.inl rfl) rfl) rfl rfl (by decide) ?_
          refine TrOps.sem (OpSem.bin rfl rfl rfl (badd (by omega) (by omega))) rfl rfl (by decide) ?_
          refine TrOps.sem (OpSem.move (.inr rfl) rfl) rfl rfl (by decide) ?_
          refine TrOps.nil ?_
          refine At.again (k + 1) ⟨by omega, by omega, fun i h0 hi => by by_cases h : i = k; (subst h; exact hdu); exact hinv i h0 (by omega)⟩ ?_ (by omega)
          exact .slot rfl (.refl _) <| .slot rfl (Le.i (by omega)) <| .mem rfl <| .mem rfl <| .nil
      · have hk : k = l.length := by simp at c13; omega
        refine Tr.exit ?_
        refine At.pass_exit ?_
        refine At.pass_exit ?_
        refine At.block_same ?_
        refine At.seq ?_
        refine Tr.seq ?_
        refine Tr.region ?_
        refine TrOps.sem (OpSem.move (.inl rfl) rfl) rfl rfl (by decide) ?_
        refine TrOps.sem (OpSem.move (.inr rfl) rfl) rfl rfl (by decide) ?_
        refine TrOps.nil ?_
        refine At.seq ?_
        refine Tr.ret ?_
        exact At.retW rfl (.tmp rfl <| .nil) rfl rfl (by simp [plainB]) (by rw [dd_all (by rw [← hk]; exact hinv)]) (fun H => rfl)

end Go.Proofs.Ytohlmcebphcokaa
end

section
/- Walks, written by gen.py out of hints. -/


set_option linter.unusedVariables false
set_option linter.unusedSimpArgs false
namespace Go.Proofs.Ytohlmcebphcokaa
open Go.Eng
set_option maxRecDepth 10000
set_option maxHeartbeats 1000000

theorem abstraction_Sorted_W (l : List Arc) (st lab ini : Int) (gv : Value) (hgv : gv.oneCell' = true) (hne : l ≠ []) (hml : (l.length : Int) < 4611686018427387904) : DoesW Try.prog 74 (fun v => [.agg #[.int .i64 st, .int .i64 lab, v, .int .i64 ini, gv]]) (fun v => .agg #[.int .i64 st, .int .i64 lab, v, .int .i64 ini, gv]) 3 93 (l.map arcC) ((dd (sortL l)).map arcC) := by
  have hsn : sortL l ≠ [] := fun h => hne (List.length_eq_zero_iff.1 (by rw [← sortL_len, h]; rfl))
  refine DoesW.of_body (as_ := [.g [I (st), I (lab), .o 0, I (ini), .d (.v gv)]]) Try.func74 rfl rfl (by simp) Try.call74 (fun _ => rfl) (by intro O H w h1 i x s hx hs; rcases i with _ | i <;> simp at hx hs; subst hx; subst hs; exact repAbsV h1 hgv) (by simpa using hne) (by simpa using dd_ne hsn) (fun O0 Oc W => ?_)
  refine Tr.seq ?_
  refine Tr.region ?_
  refine TrOps.semM (OpSem.box 1 rfl rfl rfl rfl) rfl rfl (by decide) ?_
  refine TrOps.semM (OpSem.alloc 2 rfl zc46 rfl) rfl rfl (by decide) ?_
  refine TrOps.nil ?_
  refine At.seq ?_
  refine Tr.seq ?_
  refine Tr.region ?_
  refine TrOps.sem (OpSem.fieldr rfl rfl fo46_2) rfl rfl (by decide) ?_
  refine TrOps.sem (OpSem.loadb1 rfl rfl rfl vs44 rfl) rfl rfl (by decide) ?_
  refine TrOps.ofSt (OpSt.callWS (s := .t []) (sortArc_W l (by omega)) rfl rfl rfl (fun H => rfl) (plain_arcs _) (fun O H w => .t [] [] rfl (fun i x s h => by simp at h))) rfl rfl rfl (by decide) ?_
  refine TrOps.nil ?_
  refine At.seq ?_
  refine Tr.seq ?_
  refine Tr.region ?_
  refine TrOps.sem (OpSem.fieldr rfl rfl fo46_2) rfl rfl (by decide) ?_
  refine TrOps.sem (OpSem.loadb1 rfl rfl rfl vs44 rfl) rfl rfl (by decide) ?_
  refine TrOps.callW (s := .o 0) (slices_Compact_Arc_Arc_W (sortL l) hsn (by rw [sortL_len]; omega)) rfl rfl rfl (by decide) rfl rfl rfl (fun H => rfl) (plain_arcs _) (fun O H w h1 => .o 0 h1) ?_
  refine TrOps.sem (OpSem.fieldr rfl rfl fo46_2) rfl rfl (by decide) ?_
  refine TrOps.storeb rfl rfl rfl rfl rfl rfl rfl vs44 (by first | decide | simp) ?_
  refine TrOps.nil ?_
  refine At.seq ?_
  refine Tr.seq ?_
  refine Tr.region ?_
  refine TrOps.sem (OpSem.loadbN rfl rfl rfl vs46 (by first | decide | simp)) rfl rfl (by decide) ?_
  refine TrOps.storeb rfl rfl rfl rfl rfl rfl rfl vs46 (by first | decide | simp) ?_
  refine TrOps.nil ?_
  refine At.seq ?_
  refine Tr.ret ?_
  exact At.retW rfl (.cellN rfl rfl vs46 <| .nil) rfl rfl (plain_arcs _) (rfl) (fun H => rfl)

end Go.Proofs.Ytohlmcebphcokaa
end

section
/- Walks, written by gen.py out of hints. -/


set_option linter.unusedVariables false
set_option linter.unusedSimpArgs false
namespace Go.Proofs.Ytohlmcebphcokaa
open Go.Eng
set_option maxRecDepth 10000
set_option maxHeartbeats 1000000


open Go.Shelf Go.RowKit Go.Lib
theorem compact_nil (p : Option Addr) (cap : Nat) (w : World) : Calls Try.prog 105 #[.slice p 0 cap] w fun e w' => e = .returned (.slice p 0 cap) ∧ w' = w := by
  go_enter Try.func105, Try.ntmps105
  go_wp2
  go_ret
  exact ⟨by simp, rfl⟩
theorem heap_at (w : World) (A B : Obj) : ((w.alloc A).alloc B).heap[w.heap.size + 1]? = some B := by
  have h := heap_alloc_new (w.alloc A) B
  have e : (w.alloc A).heap.size = w.heap.size + 1 := by show (w.heap.push A).size = _; simp
  rw [e] at h; exact h
theorem sorted_nil (st lab ini : Int) (q : Option Addr) (n c : Nat) (p : Option Addr) (cap : Nat) (w : World) : Calls Try.prog 74 #[.agg #[.int .i64 st, .int .i64 lab, .slice p 0 cap, .int .i64 ini, .slice q n c]] w fun e w' => e = .returned (.agg #[.int .i64 st, .int .i64 lab, .slice p 0 cap, .int .i64 ini, .slice q n c]) ∧ ∃ os, w' = Go.Sort.grow w os := by
  go_enter Try.func74, Try.ntmps74
  go_wp2_with (first | (go_at_call 104; refine (AnyF.slices_SortFunc_none Try.sortArc p cap _ _).mono ?_; rintro e w' ⟨rfl, rfl⟩) | (go_at_call 105; refine (compact_nil p cap _).mono ?_; rintro e w' ⟨rfl, rfl⟩))
  refine bodyPost_ret (results_cell_row rfl _ _ (w.heap.size + 1) 46 _ (0, 0) _ rfl (heap_at _ _ _) rfl rfl (by kernel_rfl)) rfl ?_
  exact ⟨by simp, _, by rw [Go.Sort.alloc_eq_grow, Go.Sort.alloc_eq_grow, Go.Sort.grow_grow]⟩
theorem sorted_all (l : List Arc) (st lab ini : Int) (q : Option Addr) (n c : Nat) (hml : (l.length : Int) < 4611686018427387904) :
    DoesW Try.prog 74 (fun v => [.agg #[.int .i64 st, .int .i64 lab, v, .int .i64 ini, .slice q n c]]) (fun v => .agg #[.int .i64 st, .int .i64 lab, v, .int .i64 ini, .slice q n c]) 3 93 (l.map arcC) ((dd (sortL l)).map arcC) := by
  by_cases hne : l = []
  · subst hne
    refine ⟨Try.call74, fun w v hv => ?_⟩
    have he : ∃ p cap, v = .slice p 0 cap := by
      rcases hv with ⟨rfl, _⟩ | ⟨b, cap, xs, rfl, _⟩
      · exact ⟨_, _, rfl⟩
      · exact ⟨_, _, rfl⟩
    obtain ⟨p, cap, rfl⟩ := he
    refine (sorted_nil st lab ini q n c p cap w).mono ?_
    rintro e w' ⟨rfl, os, rfl⟩
    have hg : ∀ b, b < w.heap.size → (Go.Sort.grow w os).heap[b]? = w.heap[b]? := fun b hb => by
      unfold Go.Sort.grow
      show (w.heap ++ os)[b]? = _
      rw [Array.getElem?_append_left hb]
    refine ⟨_, rfl, ⟨rfl, rfl, rfl, by rw [Go.Sort.size_grow]; omega, fun b hb _ => hg b hb⟩, ?_, .inr (.inl rfl)⟩
    have e0 : dd (sortL ([] : List Arc)) = [] := by simp [sortL, sortBy, dd, ddTo]
    rw [e0]
    rcases hv with h | ⟨b, cap', xs, h1, h2, h3, h4⟩
    · exact .inl h
    · exact .inr ⟨b, cap', xs, h1, h2, by rw [hg b (Array.getElem?_eq_some_iff.1 h3).1]; exact h3, h4⟩
  · exact abstraction_Sorted_W l st lab ini (.slice q n c) rfl hne hml


end Go.Proofs.Ytohlmcebphcokaa
end
