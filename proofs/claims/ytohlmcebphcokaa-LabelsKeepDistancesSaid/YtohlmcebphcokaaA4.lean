/- The engine and the walks that this claim uses, part 4. Written by prune.py out of our own texts. -/
import Derived.Test.YtohlmcebphcokaaA3
import Derived.Shelf.Lay
import Derived.Ground.SlsfProg
import Derived.WalkKit
import Derived.Deep.Cut
import Derived.Deep.RegionHeld3
import Derived.Deep.Draws
import Derived.Sort.Grow
import Derived.ProofKit
import Derived.OpenShut
import Derived.ChangeOld
import Derived.Below
import Derived.Deep.Slices
section
/- Walks, written by gen.py out of hints. -/




set_option linter.unusedVariables false
set_option linter.unusedSimpArgs false
namespace Go.Proofs.Ytohlmcebphcokaa
open Go.Eng
set_option maxRecDepth 10000
set_option maxHeartbeats 1000000

theorem slices_Equal_2_int_2_int_does (s t : List Asg) : Does Try.prog false 101 [.d (asgs s), .d (asgs t)] (Bo (decide (s = t))) := by
  refine Does.of_body Try.func101 rfl rfl (by simp) Try.call101 (fun w0 O0 => ?_)
  refine Tr.lenLe (n := 0) rfl (fun len0 => ?_)
  refine Tr.lenLe (n := 1) rfl (fun len1 => ?_)
  refine Tr.seq ?_
  refine Tr.region ?_
  refine TrOps.sem (OpSem.move (.inr rfl) rfl) rfl rfl (by decide) ?_
  refine TrOps.nil ?_
  refine At.seq ?_
  refine Tr.seq ?_
  refine Tr.seq ?_
  refine Tr.region ?_
  refine TrOps.sem (OpSem.move (.inl rfl) rfl) rfl rfl (by decide) ?_
  refine TrOps.sem (OpSem.lenL rfl rfl es119) rfl rfl (by decide) ?_
  refine TrOps.sem (OpSem.move (.inl rfl) rfl) rfl rfl (by decide) ?_
  refine TrOps.sem (OpSem.lenL rfl rfl es119) rfl rfl (by decide) ?_
  refine TrOps.sem (OpSem.bin rfl rfl rfl bneq) rfl rfl (by decide) ?_
  refine TrOps.nil ?_
  refine At.seq ?_
  refine Tr.cond rfl (fun c10 => ?_) (fun c10 => ?_)
  · have hl : s.length ≠ t.length := by simp at c10; omega
    refine Tr.seq ?_
    refine Tr.region ?_
    refine TrOps.sem (OpSem.move (.inr rfl) rfl) rfl rfl (by decide) ?_
    refine TrOps.nil ?_
    refine At.seq ?_
    refine Tr.ret ?_
    refine At.pass_ret ?_
    exact At.ret rfl (.tmp rfl <| .nil) rfl (Le.bo (decide_eq_false (fun e => hl (by rw [e]))).symm)
  · have hl : s.length = t.length := by simp at c10; omega
    refine Tr.skip ?_
    refine At.seq ?_
    refine Tr.seq ?_
    refine Tr.seq ?_
    refine Tr.region ?_
    refine TrOps.sem (OpSem.move (.inl rfl) rfl) rfl rfl (by decide) ?_
    refine TrOps.sem (OpSem.lenL rfl rfl es119) rfl rfl (by decide) ?_
    refine TrOps.sem (OpSem.move (.inl rfl) rfl) rfl rfl (by decide) ?_
    refine TrOps.nil ?_
    refine At.seq ?_
    refine Tr.block ?_
    refine Tr.loop (X := Nat) (fun k => k ≤ s.length ∧ ∀ i : Nat, i < k → nth s i = nth t i) (fun k => [(0, .d (asgs s)), (1, .d (asgs t)), (12, I (s.length)), (13, I (k))]) (fun k => []) (fun k => s.length - k) 0 ⟨by omega, by simp⟩ ?_ ?_
    · exact .slot rfl (.refl _) <| .slot rfl (.refl _) <| .slot rfl (.refl _) <| .slot rfl (Le.of_eq (by simp)) <| .nil
    · rintro k ⟨hkl, hinv⟩
      refine Tr.seq ?_
      refine Tr.region ?_
      refine TrOps.sem (OpSem.bin rfl rfl rfl blss) rfl rfl (by decide) ?_
      refine TrOps.nil ?_
      refine At.seq ?_
      refine Tr.seq ?_
      refine Tr.cond rfl (fun c14 => ?_) (fun c14 => ?_)
      · have hk : k < s.length := by simpa using c14
        refine Tr.skip ?_
        refine At.seq ?_
        refine Tr.seq ?_
        refine Tr.block ?_
        refine Tr.seq ?_
        refine Tr.region ?_
        refine TrOps.sem (OpSem.move (.inl rfl) rfl) rfl rfl (by decide) ?_
        refine TrOps.sem (OpSem.move (.inr rfl) rfl) rfl rfl (by decide) ?_
        refine TrOps.nil ?_
        refine At.seq ?_
        refine Tr.seq ?_
        refine PC.start [] ?_
        refine PC.sem (OpSem.move (.inl rfl) rfl) rfl rfl ?_
        refine PC.sem (OpSem.move (.inl rfl) rfl) rfl rfl ?_
        refine PC.sem (OpSem.idxL rfl rfl rfl es119 (by omega) (by omega)) rfl rfl ?_
        refine PC.sem (OpSem.loadN rfl rfl vs120 (by first | decide | simp) rfl) rfl rfl ?_
        refine PC.sem (OpSem.move (.inl rfl) rfl) rfl rfl ?_
        refine PC.sem (OpSem.move (.inl rfl) rfl) rfl rfl ?_
        refine PC.sem (OpSem.idxL rfl rfl rfl es119 (by omega) (by omega)) rfl rfl ?_
        refine PC.sem (OpSem.loadN rfl rfl vs120 (by first | decide | simp) rfl) rfl rfl ?_
        refine PC.done0 mixed (by kernel_rfl) (by kernel_rfl) (by kernel_rfl) (by kernel_rfl) (by kernel_rfl) ?_
        refine TrOps.sem (OpSem.neA2 rfl rfl rfl ar120) rfl rfl (by decide) ?_
        refine TrOps.nil ?_
        refine At.seq ?_
        refine Tr.cond rfl (fun c24 => ?_) (fun c24 => ?_)
        · refine Tr.seq ?_
          refine Tr.region ?_
          refine TrOps.sem (OpSem.move (.inr rfl) rfl) rfl rfl (by decide) ?_
          refine TrOps.nil ?_
          refine At.seq ?_
          refine Tr.ret ?_
          refine At.block_ret ?_
          refine At.pass_ret ?_
          refine At.pass_ret ?_
          refine At.block_ret ?_
          refine At.pass_ret ?_
          exact At.ret rfl (.tmp rfl <| .nil) rfl (Le.bo (decide_eq_false (fun e => by subst e; simp at c24)).symm)
        · have hb : nth s k = nth t k := Prod.ext (by simp at c24; exact c24.1) (by simp at c24; exact c24.2)
          refine Tr.skip ?_
          refine At.block_normal ?_
          refine At.seq ?_
          refine Tr.region ?_
          refine TrOps.sem (OpSem.bin rfl rfl rfl (badd (by omega) (by omega))) rfl rfl (by decide) ?_
          refine TrOps.sem (OpSem.move (.inl rfl) rfl) rfl rfl (by decide) ?_
          refine TrOps.nil ?_
          refine At.again (k + 1) ⟨by omega, all_succ hinv hb⟩ ?_ (by omega)
          exact .slot rfl (.refl _) <| .slot rfl (.refl _) <| .slot rfl (.refl _) <| .slot rfl (Le.of_eq (by simp)) <| .nil
      · have hk : k = s.length := by simp at c14; omega
        refine Tr.exit ?_
        refine At.pass_exit ?_
        refine At.pass_exit ?_
        refine At.block_same ?_
        refine At.seq ?_
        refine Tr.seq ?_
        refine Tr.region ?_
        refine TrOps.sem (OpSem.move (.inr rfl) rfl) rfl rfl (by decide) ?_
        refine TrOps.nil ?_
        refine At.seq ?_
        refine Tr.ret ?_
        exact At.ret rfl (.tmp rfl <| .nil) rfl (Le.bo (decide_eq_true (ext_get (by omega) (by subst hk; exact hinv))).symm)

theorem labels_ends_does (a : Abs) (x : Int) (hl : a.arcs.length ≤ 1000) : DoesO Try.prog 102 [absS a, I (x)] 2 120 (((endsL a x).map asg)) := by
  have hel := fun k => endsTo_len (a := a) (x := x) (k := k)
  refine DoesO.of_body Try.func102 rfl rfl (by simp) Try.call102 (fun w0 O0 => ?_)
  refine Tr.lenG (n := 0) (i := 2) rfl rfl (fun len0_2 => ?_)
  refine Tr.lenG (n := 0) (i := 4) rfl rfl (fun len0_4 => ?_)
  refine Tr.seq ?_
  refine Tr.region ?_
  refine TrOps.semM (OpSem.box 2 rfl rfl rfl rfl) rfl rfl (by decide) ?_
  refine TrOps.sem (OpSem.move (.inr rfl) rfl) rfl rfl (by decide) ?_
  refine TrOps.nil ?_
  refine At.seq ?_
  refine Tr.seq ?_
  refine Tr.region ?_
  refine TrOps.sem (OpSem.move (.inr rfl) rfl) rfl rfl (by decide) ?_
  refine TrOps.nil ?_
  refine At.seq ?_
  refine Tr.seq ?_
  refine Tr.seq ?_
  refine Tr.ownNil (n := 5) 5 2 120 rfl ?_
  refine Tr.region ?_
  refine TrOps.sem (OpSem.fieldr rfl rfl fo46_2) rfl rfl (by decide) ?_
  refine TrOps.sem (OpSem.loadb1 rfl rfl rfl vs44 rfl) rfl rfl (by decide) ?_
  refine TrOps.sem (OpSem.lenL rfl rfl es44) rfl rfl (by decide) ?_
  refine TrOps.sem (OpSem.move (.inl rfl) rfl) rfl rfl (by decide) ?_
  refine TrOps.nil ?_
  refine At.seq ?_
  refine Tr.block ?_
  refine Tr.loop (X := Nat) (fun k => k ≤ a.arcs.length) (fun k => [(1, I (x)), (5, .o 5), (9, .d (arcsD a.arcs)), (10, I (a.arcs.length)), (11, I (k))]) (fun k => [(5, .own 2 120 ((endsTo a x k).map asg))]) (fun k => a.arcs.length - k) 0 (by omega) ?_ ?_
  · exact .slot rfl (.refl _) <| .slot rfl (.refl _) <| .slot rfl (.refl _) <| .slot rfl (.refl _) <| .slot rfl (Le.of_eq (by simp)) <| .memEq rfl (by simp [endsTo]) <| .nil
  · rintro k hkl
    refine Tr.seq ?_
    refine Tr.region ?_
    refine TrOps.sem (OpSem.bin rfl rfl rfl blss) rfl rfl (by decide) ?_
    refine TrOps.nil ?_
    refine At.seq ?_
    refine Tr.seq ?_
    refine Tr.cond rfl (fun c12 => ?_) (fun c12 => ?_)
    · have hk : k < a.arcs.length := by simpa using c12
      refine Tr.skip ?_
      refine At.seq ?_
      refine Tr.seq ?_
      refine Tr.block ?_
      refine Tr.seq ?_
      refine Tr.region ?_
      refine TrOps.sem (OpSem.idxL rfl rfl rfl es44 (by omega) (by omega)) rfl rfl (by decide) ?_
      refine TrOps.sem (OpSem.loadN rfl rfl vs93 (by first | decide | simp) rfl) rfl rfl (by decide) ?_
      refine TrOps.semM (OpSem.alloc 7 rfl zc93 rfl) rfl rfl (by decide) ?_
      refine TrOps.storeb rfl rfl rfl rfl rfl rfl rfl vs93 (by first | decide | simp) ?_
      refine TrOps.nil ?_
      refine At.seq ?_
      refine Tr.seq ?_
      refine Tr.region ?_
      refine TrOps.sem (OpSem.fieldr rfl rfl fo93_1) rfl rfl (by decide) ?_
      refine TrOps.sem (OpSem.loadb1 rfl rfl rfl vs3 rfl) rfl rfl (by decide) ?_
      refine TrOps.sem (OpSem.move (.inl rfl) rfl) rfl rfl (by decide) ?_
      refine TrOps.sem (OpSem.bin rfl rfl rfl beql) rfl rfl (by decide) ?_
      refine TrOps.nil ?_
      refine At.seq ?_
      refine Tr.cond rfl (fun c18 => ?_) (fun c18 => ?_)
      · have hb : (nth a.arcs k).lab = x := by simpa using c18
        have hlk := hel k
        refine Tr.region ?_
        refine TrOps.sem (OpSem.move (.inl rfl) rfl) rfl rfl (by decide) ?_
        refine TrOps.sem (OpSem.fieldr rfl rfl fo93_0) rfl rfl (by decide) ?_
        refine TrOps.sem (OpSem.loadb1 rfl rfl rfl vs3 rfl) rfl rfl (by decide) ?_
        refine TrOps.sem (OpSem.fieldr rfl rfl fo93_2) rfl rfl (by decide) ?_
        refine TrOps.sem (OpSem.loadb1 rfl rfl rfl vs3 rfl) rfl rfl (by decide) ?_
        refine TrOps.sem (OpSem.buildA rfl rfl ar120 zc120 rfl rfl) rfl rfl (by decide) ?_
        refine TrOps.sem (OpSem.buildSlice rfl rfl es119 ze119 rfl rfl (by decide) (by decide) rfl rfl) rfl rfl (by decide) ?_
        refine TrOps.append rfl rfl rfl (by decide) rfl rfl rfl es119 el119 zc120 rfl by120 (by simp [D.one, Value.oneCell']) (by simp [maxLen]; omega) (by simp; omega) ?_
        refine TrOps.sem (OpSem.move (.inr rfl) rfl) rfl rfl (by decide) ?_
        refine TrOps.nil ?_
        refine At.block_normal ?_
        refine At.seq ?_
        refine Tr.region ?_
        refine TrOps.sem (OpSem.bin rfl rfl rfl (badd (by omega) (by omega))) rfl rfl (by decide) ?_
        refine TrOps.sem (OpSem.move (.inl rfl) rfl) rfl rfl (by decide) ?_
        refine TrOps.nil ?_
        refine At.again (k + 1) (by omega) ?_ (by omega)
        exact .slot rfl (.refl _) <| .slot rfl (.refl _) <| .slot rfl (.refl _) <| .slot rfl (.refl _) <| .slot rfl (Le.of_eq (by simp)) <| .memEq rfl (by rw [← endsTo_t hk hb]; simp) <| .nil
      · have hb : (nth a.arcs k).lab ≠ x := by simpa using c18
        refine Tr.skip ?_
        refine At.block_normal ?_
        refine At.seq ?_
        refine Tr.region ?_
        refine TrOps.sem (OpSem.bin rfl rfl rfl (badd (by omega) (by omega))) rfl rfl (by decide) ?_
        refine TrOps.sem (OpSem.move (.inl rfl) rfl) rfl rfl (by decide) ?_
        refine TrOps.nil ?_
        refine At.again (k + 1) (by omega) ?_ (by omega)
        exact .slot rfl (.refl _) <| .slot rfl (.refl _) <| .slot rfl (.refl _) <| .slot rfl (.refl _) <| .slot rfl (Le.of_eq (by simp)) <| .memEq rfl (by rw [← endsTo_f hk hb]; rfl) <| .nil
    · have hk : k = a.arcs.length := by simp at c12; omega
      refine Tr.exit ?_
      refine At.pass_exit ?_
      refine At.pass_exit ?_
      refine At.block_same ?_
      refine At.seq ?_
      refine Tr.seq ?_
      refine Tr.region ?_
      refine TrOps.sem (OpSem.move (.inl rfl) rfl) rfl rfl (by decide) ?_
      refine TrOps.sem (OpSem.move (.inr rfl) rfl) rfl rfl (by decide) ?_
      refine TrOps.nil ?_
      refine At.seq ?_
      refine Tr.ret ?_
      exact At.retO2 rfl rfl rfl (by simp) (by rw [hk]; rfl)

theorem labels_equivalent_does (l : List Abs) (c : List Int) (ex x y : Int) (hx : 0 ≤ x ∧ x < c.length) (hy : 0 ≤ y ∧ y < c.length) (hA : ∀ k : Nat, k < l.length → AbsOk (nth l k)) : Does Try.prog false 69 [.d (abssD l), .d (ints c), I (ex), I (x), I (y)] (Bo (decide (EqvP l c ex x y))) := by
  refine Does.of_body Try.func69 rfl rfl (by simp) Try.call69 (fun w0 O0 => ?_)
  refine Tr.lenLe (n := 0) rfl (fun len0 => ?_)
  refine Tr.lenLe (n := 1) rfl (fun len1 => ?_)
  refine Tr.seq ?_
  refine Tr.region ?_
  refine TrOps.sem (OpSem.move (.inr rfl) rfl) rfl rfl (by decide) ?_
  refine TrOps.nil ?_
  refine At.seq ?_
  refine Tr.seq ?_
  refine Tr.seq ?_
  refine PC.start [] ?_
  refine PC.sem (OpSem.move (.inl rfl) rfl) rfl rfl ?_
  refine PC.sem (OpSem.move (.inl rfl) rfl) rfl rfl ?_
  refine PC.sem (OpSem.idxL rfl rfl rfl es22 (by omega) (by omega)) rfl rfl ?_
  refine PC.sem (OpSem.load1 rfl rfl vs3 rfl) rfl rfl ?_
  refine PC.sem (OpSem.move (.inl rfl) rfl) rfl rfl ?_
  refine PC.sem (OpSem.move (.inl rfl) rfl) rfl rfl ?_
  refine PC.sem (OpSem.idxL rfl rfl rfl es22 (by omega) (by omega)) rfl rfl ?_
  refine PC.sem (OpSem.load1 rfl rfl vs3 rfl) rfl rfl ?_
  refine PC.done0 mixed (by kernel_rfl) (by kernel_rfl) (by kernel_rfl) (by kernel_rfl) (by kernel_rfl) ?_
  refine TrOps.sem (OpSem.bin rfl rfl rfl bneq) rfl rfl (by decide) ?_
  refine TrOps.nil ?_
  refine At.seq ?_
  refine Tr.cond rfl (fun c21 => ?_) (fun c21 => ?_)
  · have hne : nth c x ≠ nth c y := by simpa using c21
    refine Tr.seq ?_
    refine Tr.region ?_
    refine TrOps.sem (OpSem.move (.inr rfl) rfl) rfl rfl (by decide) ?_
    refine TrOps.nil ?_
    refine At.seq ?_
    refine Tr.ret ?_
    refine At.pass_ret ?_
    exact At.ret rfl (.tmp rfl <| .nil) rfl (Le.bo (eqv_1 hne))
  · have hc : nth c x = nth c y := by simpa using c21
    refine Tr.skip ?_
    refine At.seq ?_
    refine Tr.seq ?_
    refine Tr.seq ?_
    refine Tr.region ?_
    refine TrOps.sem (OpSem.move (.inl rfl) rfl) rfl rfl (by decide) ?_
    refine TrOps.sem (OpSem.lenL rfl rfl es34) rfl rfl (by decide) ?_
    refine TrOps.sem (OpSem.move (.inl rfl) rfl) rfl rfl (by decide) ?_
    refine TrOps.nil ?_
    refine At.seq ?_
    refine Tr.block ?_
    refine Tr.loop (X := Nat) (fun k => k ≤ l.length ∧ ∀ i : Nat, i < k → (i : Int) ≠ ex → endsL (nth l i) x = endsL (nth l i) y) (fun k => [(2, I (ex)), (3, I (x)), (4, I (y)), (22, .d (abssD l)), (23, I (l.length)), (24, I (k))]) (fun k => []) (fun k => l.length - k) 0 ⟨by omega, by simp⟩ ?_ ?_
    · exact .slot rfl (.refl _) <| .slot rfl (.refl _) <| .slot rfl (.refl _) <| .slot rfl (.refl _) <| .slot rfl (.refl _) <| .slot rfl (Le.of_eq (by simp)) <| .nil
    · rintro k ⟨hkl, hinv⟩
      refine Tr.seq ?_
      refine Tr.region ?_
      refine TrOps.sem (OpSem.bin rfl rfl rfl blss) rfl rfl (by decide) ?_
      refine TrOps.nil ?_
      refine At.seq ?_
      refine Tr.seq ?_
      refine Tr.cond rfl (fun c25 => ?_) (fun c25 => ?_)
      · have hk : k < l.length := by simpa using c25
        refine Tr.skip ?_
        refine At.seq ?_
        refine Tr.seq ?_
        refine Tr.block ?_
        refine Tr.seq ?_
        refine Tr.region ?_
        refine TrOps.sem (OpSem.move (.inl rfl) rfl) rfl rfl (by decide) ?_
        refine TrOps.sem (OpSem.idxL rfl rfl rfl es34 (by omega) (by omega)) rfl rfl (by decide) ?_
        refine TrOps.sem (OpSem.loadN rfl rfl vs46 (by first | decide | simp) rfl) rfl rfl (by decide) ?_
        refine TrOps.semM (OpSem.alloc 12 rfl zc46 rfl) rfl rfl (by decide) ?_
        refine TrOps.sem (OpSem.move (.inr rfl) rfl) rfl rfl (by decide) ?_
        refine TrOps.storeb rfl rfl rfl rfl rfl rfl rfl vs46 (by first | decide | simp) ?_
        refine TrOps.nil ?_
        refine At.seq ?_
        refine Tr.seq ?_
        refine PC.start [] ?_
        refine PC.sem (OpSem.move (.inl rfl) rfl) rfl rfl ?_
        refine PC.sem (OpSem.move (.inl rfl) rfl) rfl rfl ?_
        refine PC.sem (OpSem.bin rfl rfl rfl bneq) rfl rfl ?_
        refine PC.sem (OpSem.move (.inl rfl) rfl) rfl rfl ?_
        refine PC.split (n := 32) rfl (fun c32 => ?_) (fun c32 => ?_)
        · have hke : (k : Int) ≠ ex := by simpa using c32
          refine PC.gT (OpSem.loadbN rfl rfl rfl vs46 (by first | decide | simp)) rfl rfl rfl rfl c32 rfl ?_
          refine PC.gT (OpSem.move (.inl rfl) rfl) rfl rfl rfl rfl c32 rfl ?_
          refine PC.gT (OpSem.call0 (labels_ends_does (nth l k) x (by have := (hA k hk).len; omega)).fresh rfl rfl rfl rfl (Les.refl _)) rfl rfl rfl rfl c32 rfl ?_
          refine PC.gT (OpSem.loadbN rfl rfl rfl vs46 (by first | decide | simp)) rfl rfl rfl rfl c32 rfl ?_
          refine PC.gT (OpSem.move (.inl rfl) rfl) rfl rfl rfl rfl c32 rfl ?_
          refine PC.done0 mixed (by kernel_rfl) (by kernel_rfl) (by kernel_rfl) (by kernel_rfl) (by kernel_rfl) ?_
          refine TrOps.gT rfl rfl rfl rfl c32 ?_
          refine TrOps.sem (OpSem.call0 (labels_ends_does (nth l k) y (by have := (hA k hk).len; omega)).fresh rfl rfl rfl rfl (Les.refl _)) rfl rfl (by decide) ?_
          refine TrOps.gT rfl rfl rfl rfl c32 ?_
          refine TrOps.sem (OpSem.call0 (slices_Equal_2_int_2_int_does (endsL (nth l k) x) (endsL (nth l k) y)) rfl rfl rfl rfl (Les.refl _)) rfl rfl (by decide) ?_
          refine TrOps.gT rfl rfl rfl rfl c32 ?_
          refine TrOps.sem (OpSem.not rfl rfl) rfl rfl (by decide) ?_
          refine TrOps.sem (OpSem.pickT rfl rfl c32 rfl) rfl rfl (by decide) ?_
          refine TrOps.nil ?_
          refine At.seq ?_
          refine Tr.cond rfl (fun c41 => ?_) (fun c41 => ?_)
          · have hne : endsL (nth l k) x ≠ endsL (nth l k) y := by simpa using c41
            refine Tr.seq ?_
            refine Tr.region ?_
            refine TrOps.sem (OpSem.move (.inr rfl) rfl) rfl rfl (by decide) ?_
            refine TrOps.nil ?_
            refine At.seq ?_
            refine Tr.ret ?_
            refine At.block_ret ?_
            refine At.pass_ret ?_
            refine At.pass_ret ?_
            refine At.block_ret ?_
            refine At.pass_ret ?_
            exact At.ret rfl (.tmp rfl <| .nil) rfl (Le.bo (eqv_2 hk hke hne))
          · have hb : (k : Int) ≠ ex → endsL (nth l k) x = endsL (nth l k) y := fun _ => by simpa using c41
            refine Tr.skip ?_
            refine At.block_normal ?_
            refine At.seq ?_
            refine Tr.region ?_
            refine TrOps.sem (OpSem.bin rfl rfl rfl (badd (by omega) (by omega))) rfl rfl (by decide) ?_
            refine TrOps.sem (OpSem.move (.inl rfl) rfl) rfl rfl (by decide) ?_
            refine TrOps.nil ?_
            refine At.again (k + 1) ⟨by omega, all_succ hinv hb⟩ ?_ (by omega)
            exact .slot rfl (.refl _) <| .slot rfl (.refl _) <| .slot rfl (.refl _) <| .slot rfl (.refl _) <| .slot rfl (.refl _) <| .slot rfl (Le.of_eq (by simp)) <| .nil
        · have hb : (k : Int) ≠ ex → endsL (nth l k) x = endsL (nth l k) y := fun h => absurd (by simpa using c32) h
          refine PC.gF rfl rfl rfl rfl c32 rfl ?_
          refine PC.gF rfl rfl rfl rfl c32 rfl ?_
          refine PC.gF rfl rfl rfl rfl c32 rfl ?_
          refine PC.gF rfl rfl rfl rfl c32 rfl ?_
          refine PC.gF rfl rfl rfl rfl c32 rfl ?_
          refine PC.done0 mixed (by kernel_rfl) (by kernel_rfl) (by kernel_rfl) (by kernel_rfl) (by kernel_rfl) ?_
          refine TrOps.gF rfl rfl rfl rfl c32 rfl (by decide) ?_
          refine TrOps.gF rfl rfl rfl rfl c32 rfl (by decide) ?_
          refine TrOps.gF rfl rfl rfl rfl c32 rfl (by decide) ?_
          refine TrOps.sem (OpSem.pickF rfl rfl c32 rfl) rfl rfl (by decide) ?_
          refine TrOps.nil ?_
          refine At.seq ?_
          refine Tr.condF rfl rfl ?_
          refine Tr.skip ?_
          refine At.block_normal ?_
          refine At.seq ?_
          refine Tr.region ?_
          refine TrOps.sem (OpSem.bin rfl rfl rfl (badd (by omega) (by omega))) rfl rfl (by decide) ?_
          refine TrOps.sem (OpSem.move (.inl rfl) rfl) rfl rfl (by decide) ?_
          refine TrOps.nil ?_
          refine At.again (k + 1) ⟨by omega, all_succ hinv hb⟩ ?_ (by omega)
          exact .slot rfl (.refl _) <| .slot rfl (.refl _) <| .slot rfl (.refl _) <| .slot rfl (.refl _) <| .slot rfl (.refl _) <| .slot rfl (Le.of_eq (by simp)) <| .nil
      · have hk : k = l.length := by simp at c25; omega
        refine Tr.exit ?_
        refine At.pass_exit ?_
        refine At.pass_exit ?_
        refine At.block_same ?_
        refine At.seq ?_
        refine Tr.seq ?_
        refine Tr.region ?_
        refine TrOps.sem (OpSem.move (.inr rfl) rfl) rfl rfl (by decide) ?_
        refine TrOps.nil ?_
        refine At.seq ?_
        refine Tr.ret ?_
        exact At.ret rfl (.tmp rfl <| .nil) rfl (Le.bo (by subst hk; exact eqv_0 hc hinv))

theorem labels_exception_does (l : List Abs) (ex : Int) : Does Try.prog false 68 [.d (abssD l), I (ex)] (flt (if ex < -1 ∨ (l.length : Int) ≤ ex then (3, -8) else (0, 0))) := by
  refine Does.of_body Try.func68 rfl rfl (by simp) Try.call68 (fun w0 O0 => ?_)
  refine Tr.lenLe (n := 0) rfl (fun len0 => ?_)
  refine Tr.seq ?_
  refine Tr.region ?_
  refine TrOps.semM (OpSem.alloc 4 rfl zc29 rfl) rfl rfl (by decide) ?_
  refine TrOps.nil ?_
  refine At.seq ?_
  refine Tr.seq ?_
  refine Tr.seq ?_
  refine Tr.region ?_
  refine TrOps.sem (OpSem.move (.inl rfl) rfl) rfl rfl (by decide) ?_
  refine TrOps.sem (OpSem.bin rfl rfl rfl blss) rfl rfl (by decide) ?_
  refine TrOps.sem (OpSem.move (.inl rfl) rfl) rfl rfl (by decide) ?_
  refine TrOps.split (n := 7) rfl (fun c7 => ?_) (fun c7 => ?_)
  · refine TrOps.gF rfl rfl rfl rfl c7 rfl (by decide) ?_
    refine TrOps.gF rfl rfl rfl rfl c7 rfl (by decide) ?_
    refine TrOps.gF rfl rfl rfl rfl c7 rfl (by decide) ?_
    refine TrOps.gF rfl rfl rfl rfl c7 rfl (by decide) ?_
    refine TrOps.sem (OpSem.pickT rfl rfl c7 rfl) rfl rfl (by decide) ?_
    refine TrOps.nil ?_
    refine At.seq ?_
    refine Tr.condT rfl rfl ?_
    refine Tr.seq ?_
    refine Tr.region ?_
    refine TrOps.sem (OpSem.build rfl rfl pl29 zc29 rfl rfl) rfl rfl (by decide) ?_
    refine TrOps.storeb rfl rfl rfl rfl rfl rfl rfl vs29 (by first | decide | simp) ?_
    refine TrOps.nil ?_
    refine At.seq ?_
    refine Tr.ret ?_
    refine At.pass_ret ?_
    exact At.ret rfl (.cellN rfl rfl vs29 <| .nil) rfl (Le.flt (by rw [if_pos (by simp at *; omega)]))
  · refine TrOps.gT rfl rfl rfl rfl c7 ?_
    refine TrOps.sem (OpSem.move (.inl rfl) rfl) rfl rfl (by decide) ?_
    refine TrOps.gT rfl rfl rfl rfl c7 ?_
    refine TrOps.sem (OpSem.move (.inl rfl) rfl) rfl rfl (by decide) ?_
    refine TrOps.gT rfl rfl rfl rfl c7 ?_
    refine TrOps.sem (OpSem.lenL rfl rfl es34) rfl rfl (by decide) ?_
    refine TrOps.gT rfl rfl rfl rfl c7 ?_
    refine TrOps.sem (OpSem.bin rfl rfl rfl bgeq) rfl rfl (by decide) ?_
    refine TrOps.sem (OpSem.pickF rfl rfl c7 rfl) rfl rfl (by decide) ?_
    refine TrOps.nil ?_
    refine At.seq ?_
    refine Tr.cond rfl (fun c12 => ?_) (fun c12 => ?_)
    · refine Tr.seq ?_
      refine Tr.region ?_
      refine TrOps.sem (OpSem.build rfl rfl pl29 zc29 rfl rfl) rfl rfl (by decide) ?_
      refine TrOps.storeb rfl rfl rfl rfl rfl rfl rfl vs29 (by first | decide | simp) ?_
      refine TrOps.nil ?_
      refine At.seq ?_
      refine Tr.ret ?_
      refine At.pass_ret ?_
      exact At.ret rfl (.cellN rfl rfl vs29 <| .nil) rfl (Le.flt (by rw [if_pos (by simp at *; omega)]))
    · refine Tr.skip ?_
      refine At.seq ?_
      refine Tr.seq ?_
      refine Tr.region ?_
      refine TrOps.sem (OpSem.build rfl rfl pl29 zc29 rfl rfl) rfl rfl (by decide) ?_
      refine TrOps.storeb rfl rfl rfl rfl rfl rfl rfl vs29 (by first | decide | simp) ?_
      refine TrOps.nil ?_
      refine At.seq ?_
      refine Tr.ret ?_
      exact At.ret rfl (.cellN rfl rfl vs29 <| .nil) rfl (Le.flt (by rw [if_neg (by simp at *; omega)]))

theorem labels_Reduce_does (l : List Abs) (c : List Int) (ex : Int) (hr : ∀ k : Nat, k < l.length → -9223372036854775808 ≤ (nth l k).states ∧ (nth l k).states ≤ 9223372036854775807) : Does Try.prog false 34 [.d (abssD l), .d (ints c), I (ex)] (.t [.d (ints (redL l c ex)), flt (redF l c ex)]) := by
  refine Does.of_body Try.func34 rfl rfl (by simp) Try.call34 (fun w0 O0 => ?_)
  refine Tr.lenLe (n := 0) rfl (fun len0 => ?_)
  refine Tr.lenLe (n := 1) rfl (fun len1 => ?_)
  refine Tr.seq ?_
  refine Tr.region ?_
  refine TrOps.sem (OpSem.move (.inr rfl) rfl) rfl rfl (by decide) ?_
  refine TrOps.semM (OpSem.alloc 7 rfl zc29 rfl) rfl rfl (by decide) ?_
  refine TrOps.nil ?_
  refine At.seq ?_
  refine Tr.seq ?_
  refine Tr.region ?_
  refine TrOps.sem (OpSem.move (.inl rfl) rfl) rfl rfl (by decide) ?_
  refine TrOps.sem (OpSem.move (.inl rfl) rfl) rfl rfl (by decide) ?_
  refine TrOps.sem (OpSem.call0 (labels_Check_does l c hr) rfl rfl rfl rfl (Les.refl _)) rfl rfl (by decide) ?_
  refine TrOps.semM (OpSem.alloc 8 rfl zc29 rfl) rfl rfl (by decide) ?_
  refine TrOps.storeb rfl rfl rfl rfl rfl rfl rfl vs29 (by first | decide | simp) ?_
  refine TrOps.nil ?_
  refine At.seq ?_
  refine Tr.cut [(0, .d (abssD l)), (1, .d (ints c)), (2, I (ex)), (7, .r 7 0), (8, .r 8 0)] [(7, .box [I (0), I (0)]), (8, .box [I ((redF l c ex).1), I ((redF l c ex).2)])] ?_ ?_
  · refine Tr.seq ?_
    refine Tr.region ?_
    refine TrOps.sem (OpSem.loadbN rfl rfl rfl vs29 (by first | decide | simp)) rfl rfl (by decide) ?_
    refine TrOps.sem (OpSem.build rfl rfl pl29 zc29 rfl rfl) rfl rfl (by decide) ?_
    refine TrOps.sem (OpSem.eqS2 rfl rfl rfl io29) rfl rfl (by decide) ?_
    refine TrOps.nil ?_
    refine At.seq ?_
    refine Tr.cond rfl (fun c17 => ?_) (fun c17 => ?_)
    · refine Tr.region ?_
      refine TrOps.sem (OpSem.move (.inl rfl) rfl) rfl rfl (by decide) ?_
      refine TrOps.sem (OpSem.move (.inl rfl) rfl) rfl rfl (by decide) ?_
      refine TrOps.sem (OpSem.call0 (labels_exception_does l ex) rfl rfl rfl rfl (Les.refl _)) rfl rfl (by decide) ?_
      refine TrOps.storeb rfl rfl rfl rfl rfl rfl rfl vs29 (by first | decide | simp) ?_
      refine TrOps.nil ?_
      have he : (if ex < -1 ∨ (l.length : Int) ≤ ex then ((3, -8) : Int × Int) else (0, 0)) = redF l c ex := by have h := pair0 (f := labF l c) (by simpa using c17); unfold redF; simp [h]
      refine At.meet ?_
      exact .slot rfl (.refl _) <| .slot rfl (.refl _) <| .slot rfl (.refl _) <| .slot rfl (.refl _) <| .slot rfl (.refl _) <| .mem rfl <| .boxLe rfl (.cons (Le.i (congrArg Prod.fst (he))) <| .cons (Le.i (congrArg Prod.snd (he))) <| .nil) <| .nil
    · refine Tr.skip ?_
      have he : labF l c = redF l c ex := redF_1 (fun h => by rw [h] at c17; simp at c17)
      refine At.meet ?_
      exact .slot rfl (.refl _) <| .slot rfl (.refl _) <| .slot rfl (.refl _) <| .slot rfl (.refl _) <| .slot rfl (.refl _) <| .mem rfl <| .boxLe rfl (.cons (Le.i (congrArg Prod.fst (he))) <| .cons (Le.i (congrArg Prod.snd (he))) <| .nil) <| .nil
  · refine Tr.seq ?_
    refine Tr.seq ?_
    refine Tr.region ?_
    refine TrOps.sem (OpSem.loadbN rfl rfl rfl vs29 (by first | decide | simp)) rfl rfl (by decide) ?_
    refine TrOps.sem (OpSem.build rfl rfl pl29 zc29 rfl rfl) rfl rfl (by decide) ?_
    refine TrOps.sem (OpSem.neS2 rfl rfl rfl io29) rfl rfl (by decide) ?_
    refine TrOps.nil ?_
    refine At.seq ?_
    refine Tr.cond rfl (fun c23 => ?_) (fun c23 => ?_)
    · have hne : redF l c ex ≠ (0, 0) := fun h => by simp [h] at c23
      refine Tr.seq ?_
      refine PC.start [] ?_
      refine PC.sem (OpSem.loadbN rfl rfl rfl vs29 (by first | decide | simp)) rfl rfl ?_
      refine PC.sem (OpSem.move (.inr rfl) rfl) rfl rfl ?_
      refine PC.done0 mixed (by kernel_rfl) (by kernel_rfl) (by kernel_rfl) (by kernel_rfl) (by kernel_rfl) ?_
      refine TrOps.storeb rfl rfl rfl rfl rfl rfl rfl vs29 (by first | decide | simp) ?_
      refine TrOps.nil ?_
      refine At.seq ?_
      refine Tr.ret ?_
      refine At.pass_ret ?_
      exact At.ret rfl (.tmp rfl <| .cellN rfl rfl vs29 <| .nil) rfl (Le.t (.cons (by rw [redL_1 hne]; exact Le.nil 1) <| .cons (.refl _) <| .nil))
    · have h0 : redF l c ex = (0, 0) := pair0 (by simpa using c23)
      have hok := redF_ok h0
      have hcl := (labF_ok hok.1).2.1
      refine Tr.skip ?_
      refine At.seq ?_
      refine Tr.seq ?_
      refine Tr.region ?_
      refine TrOps.sem (OpSem.move (.inr rfl) rfl) rfl rfl (by decide) ?_
      refine TrOps.nil ?_
      refine At.seq ?_
      refine Tr.seq ?_
      refine Tr.seq ?_
      refine Tr.ownNil (n := 9) 9 1 3 rfl ?_
      refine Tr.region ?_
      refine TrOps.sem (OpSem.move (.inl rfl) rfl) rfl rfl (by decide) ?_
      refine TrOps.sem (OpSem.lenL rfl rfl es22) rfl rfl (by decide) ?_
      refine TrOps.sem (OpSem.move (.inl rfl) rfl) rfl rfl (by decide) ?_
      refine TrOps.nil ?_
      refine At.seq ?_
      refine Tr.block ?_
      refine Tr.loop (X := Nat) (fun k => k ≤ c.length) (fun k => [(0, .d (abssD l)), (1, .d (ints c)), (2, I (ex)), (7, .r 7 0), (8, .r 8 0), (9, .o 9), (26, I (c.length)), (27, I (k))]) (fun k => [(9, .own 1 3 ((redTo l c ex k).map fun n => [D.v (.int .i64 n)])), (7, .box [I (0), I (0)]), (8, .box [I ((redF l c ex).1), I ((redF l c ex).2)])]) (fun k => c.length - k) 0 (by omega) ?_ ?_
      · exact .slot rfl (.refl _) <| .slot rfl (.refl _) <| .slot rfl (.refl _) <| .slot rfl (.refl _) <| .slot rfl (.refl _) <| .slot rfl (.refl _) <| .slot rfl (.refl _) <| .slot rfl (Le.of_eq (by simp)) <| .memEq rfl (by simp [redTo]) <| .mem rfl <| .mem rfl <| .nil
      · rintro k hkl
        refine Tr.seq ?_
        refine Tr.region ?_
        refine TrOps.sem (OpSem.bin rfl rfl rfl blss) rfl rfl (by decide) ?_
        refine TrOps.nil ?_
        refine At.seq ?_
        refine Tr.seq ?_
        refine Tr.cond rfl (fun c28 => ?_) (fun c28 => ?_)
        · have hk : k < c.length := by simpa using c28
          refine Tr.skip ?_
          refine At.seq ?_
          refine Tr.seq ?_
          refine Tr.block ?_
          refine Tr.seq ?_
          refine Tr.region ?_
          refine TrOps.sem (OpSem.move (.inl rfl) rfl) rfl rfl (by decide) ?_
          refine TrOps.sem (OpSem.move (.inr rfl) rfl) rfl rfl (by decide) ?_
          refine TrOps.nil ?_
          refine At.seq ?_
          refine Tr.seq ?_
          refine Tr.region ?_
          refine TrOps.sem (OpSem.move (.inr rfl) rfl) rfl rfl (by decide) ?_
          refine TrOps.nil ?_
          refine At.seq ?_
          refine Tr.seq ?_
          refine Tr.block ?_
          refine Tr.loop (X := Nat) (fun j => j ≤ k ∧ ∀ i : Nat, i < j → ¬ EqvP l c ex i k) (fun j => [(0, .d (abssD l)), (1, .d (ints c)), (2, I (ex)), (7, .r 7 0), (8, .r 8 0), (9, .o 9), (10, I (k)), (11, I (j)), (26, I (c.length)), (27, I (k))]) (fun j => [(9, .own 1 3 ((redTo l c ex k).map fun n => [D.v (.int .i64 n)])), (7, .box [I (0), I (0)]), (8, .box [I ((redF l c ex).1), I ((redF l c ex).2)])]) (fun j => k - j) 0 ⟨by omega, by simp⟩ ?_ ?_
          · exact .slot rfl (.refl _) <| .slot rfl (.refl _) <| .slot rfl (.refl _) <| .slot rfl (.refl _) <| .slot rfl (.refl _) <| .slot rfl (.refl _) <| .slot rfl (.refl _) <| .slot rfl (Le.of_eq (by simp)) <| .slot rfl (.refl _) <| .slot rfl (.refl _) <| .mem rfl <| .mem rfl <| .mem rfl <| .nil
          · rintro j ⟨hjl, hjn⟩
            refine Tr.seq ?_
            refine Tr.seq ?_
            refine Tr.region ?_
            refine TrOps.sem (OpSem.move (.inl rfl) rfl) rfl rfl (by decide) ?_
            refine TrOps.sem (OpSem.move (.inl rfl) rfl) rfl rfl (by decide) ?_
            refine TrOps.sem (OpSem.move (.inl rfl) rfl) rfl rfl (by decide) ?_
            refine TrOps.sem (OpSem.move (.inl rfl) rfl) rfl rfl (by decide) ?_
            refine TrOps.sem (OpSem.move (.inl rfl) rfl) rfl rfl (by decide) ?_
            refine TrOps.sem (OpSem.call0 (labels_equivalent_does l c ex j k ⟨by omega, by omega⟩ ⟨by omega, by omega⟩ (lab_arcs hok.1)) rfl rfl rfl rfl (Les.refl _)) rfl rfl (by decide) ?_
            refine TrOps.sem (OpSem.not rfl rfl) rfl rfl (by decide) ?_
            refine TrOps.nil ?_
            refine At.seq ?_
            refine Tr.cond rfl (fun c36 => ?_) (fun c36 => ?_)
            · have hne : ¬ EqvP l c ex j k := by simpa using c36
              have hjk : j ≠ k := fun h => hne (by rw [h]; exact EqvP.refl)
              refine Tr.skip ?_
              refine At.seq ?_
              refine Tr.block ?_
              refine Tr.region ?_
              refine TrOps.sem (OpSem.move (.inl rfl) rfl) rfl rfl (by decide) ?_
              refine TrOps.sem (OpSem.bin rfl rfl rfl (badd (by omega) (by omega))) rfl rfl (by decide) ?_
              refine TrOps.sem (OpSem.move (.inr rfl) rfl) rfl rfl (by decide) ?_
              refine TrOps.nil ?_
              refine At.block_normal ?_
              refine At.again (j + 1) ⟨by omega, all_succ hjn hne⟩ ?_ (by omega)
              exact .slot rfl (.refl _) <| .slot rfl (.refl _) <| .slot rfl (.refl _) <| .slot rfl (.refl _) <| .slot rfl (.refl _) <| .slot rfl (.refl _) <| .slot rfl (.refl _) <| .slot rfl (Le.of_eq (by simp)) <| .slot rfl (.refl _) <| .slot rfl (.refl _) <| .mem rfl <| .mem rfl <| .mem rfl <| .nil
            · have hlo : lowE l c ex k = j := lowE_of hjl (by simpa using c36) hjn
              have hrl := redTo_len (l := l) (c := c) (ex := ex) (k := k)
              refine Tr.exit ?_
              refine At.pass_exit ?_
              refine At.pass_exit ?_
              refine At.block_same ?_
              refine At.seq ?_
              refine Tr.region ?_
              refine TrOps.sem (OpSem.move (.inl rfl) rfl) rfl rfl (by decide) ?_
              refine TrOps.sem (OpSem.move (.inl rfl) rfl) rfl rfl (by decide) ?_
              refine TrOps.sem (OpSem.buildSlice rfl rfl es22 ze22 rfl rfl (by decide) (by decide) rfl rfl) rfl rfl (by decide) ?_
              refine TrOps.append rfl rfl rfl (by decide) rfl rfl rfl es22 el22 zc3 rfl by3 (by simp [D.one, Value.oneCell']) (by simp [maxLen, redTo_len]; omega) (by simp [redTo_len]; omega) ?_
              refine TrOps.sem (OpSem.move (.inr rfl) rfl) rfl rfl (by decide) ?_
              refine TrOps.nil ?_
              refine At.block_normal ?_
              refine At.seq ?_
              refine Tr.region ?_
              refine TrOps.sem (OpSem.bin rfl rfl rfl (badd (by omega) (by omega))) rfl rfl (by decide) ?_
              refine TrOps.sem (OpSem.move (.inl rfl) rfl) rfl rfl (by decide) ?_
              refine TrOps.nil ?_
              refine At.again (k + 1) (by omega) ?_ (by omega)
              exact .slot rfl (.refl _) <| .slot rfl (.refl _) <| .slot rfl (.refl _) <| .slot rfl (.refl _) <| .slot rfl (.refl _) <| .slot rfl (.refl _) <| .slot rfl (.refl _) <| .slot rfl (Le.of_eq (by simp)) <| .memEq rfl (by rw [redTo_s, hlo]; simp) <| .mem rfl <| .mem rfl <| .nil
        · have hk : k = c.length := by simp at c28; omega
          refine Tr.exit ?_
          refine At.pass_exit ?_
          refine At.pass_exit ?_
          refine At.block_same ?_
          refine At.seq ?_
          refine Tr.seq ?_
          refine PC.start [] ?_
          refine PC.sem (OpSem.move (.inl rfl) rfl) rfl rfl ?_
          refine PC.sem (OpSem.loadbN rfl rfl rfl vs29 (by first | decide | simp)) rfl rfl ?_
          refine PC.sem (OpSem.move (.inr rfl) rfl) rfl rfl ?_
          refine PC.done0 mixed (by kernel_rfl) (by kernel_rfl) (by kernel_rfl) (by kernel_rfl) (by kernel_rfl) ?_
          refine TrOps.storeb rfl rfl rfl rfl rfl rfl rfl vs29 (by first | decide | simp) ?_
          refine TrOps.nil ?_
          refine At.seq ?_
          refine Tr.ret ?_
          exact At.ret rfl (.tmp rfl <| .cellN rfl rfl vs29 <| .nil) rfl (Le.t (.cons (Le.d (by rw [redL_0 h0, hk])) <| .cons (.refl _) <| .nil))

theorem labels_Equivalent_does (l : List Abs) (c : List Int) (ex x y : Int) (hr : ∀ k : Nat, k < l.length → -9223372036854775808 ≤ (nth l k).states ∧ (nth l k).states ≤ 9223372036854775807) : Does Try.prog false 37 [.d (abssD l), .d (ints c), I (ex), I (x), I (y)] (.t [Bo (decide (eqvF l c ex x y = (0, 0) ∧ EqvP l c ex x y)), flt (eqvF l c ex x y)]) := by
  refine Does.of_body Try.func37 rfl rfl (by simp) Try.call37 (fun w0 O0 => ?_)
  refine Tr.lenLe (n := 0) rfl (fun len0 => ?_)
  refine Tr.lenLe (n := 1) rfl (fun len1 => ?_)
  refine Tr.seq ?_
  refine Tr.region ?_
  refine TrOps.sem (OpSem.move (.inr rfl) rfl) rfl rfl (by decide) ?_
  refine TrOps.semM (OpSem.alloc 11 rfl zc29 rfl) rfl rfl (by decide) ?_
  refine TrOps.nil ?_
  refine At.seq ?_
  refine Tr.seq ?_
  refine Tr.region ?_
  refine TrOps.sem (OpSem.move (.inl rfl) rfl) rfl rfl (by decide) ?_
  refine TrOps.sem (OpSem.move (.inl rfl) rfl) rfl rfl (by decide) ?_
  refine TrOps.sem (OpSem.call0 (labels_Check_does l c hr) rfl rfl rfl rfl (Les.refl _)) rfl rfl (by decide) ?_
  refine TrOps.semM (OpSem.alloc 12 rfl zc29 rfl) rfl rfl (by decide) ?_
  refine TrOps.storeb rfl rfl rfl rfl rfl rfl rfl vs29 (by first | decide | simp) ?_
  refine TrOps.nil ?_
  refine At.seq ?_
  refine Tr.cut [(0, .d (abssD l)), (1, .d (ints c)), (2, I (ex)), (3, I (x)), (4, I (y)), (11, .r 11 0), (12, .r 12 0)] [(11, .box [I (0), I (0)]), (12, .box [I ((redF l c ex).1), I ((redF l c ex).2)])] ?_ ?_
  · refine Tr.seq ?_
    refine Tr.region ?_
    refine TrOps.sem (OpSem.loadbN rfl rfl rfl vs29 (by first | decide | simp)) rfl rfl (by decide) ?_
    refine TrOps.sem (OpSem.build rfl rfl pl29 zc29 rfl rfl) rfl rfl (by decide) ?_
    refine TrOps.sem (OpSem.eqS2 rfl rfl rfl io29) rfl rfl (by decide) ?_
    refine TrOps.nil ?_
    refine At.seq ?_
    refine Tr.cond rfl (fun c20 => ?_) (fun c20 => ?_)
    · refine Tr.region ?_
      refine TrOps.sem (OpSem.move (.inl rfl) rfl) rfl rfl (by decide) ?_
      refine TrOps.sem (OpSem.move (.inl rfl) rfl) rfl rfl (by decide) ?_
      refine TrOps.sem (OpSem.call0 (labels_exception_does l ex) rfl rfl rfl rfl (Les.refl _)) rfl rfl (by decide) ?_
      refine TrOps.storeb rfl rfl rfl rfl rfl rfl rfl vs29 (by first | decide | simp) ?_
      refine TrOps.nil ?_
      have he : (if ex < -1 ∨ (l.length : Int) ≤ ex then ((3, -8) : Int × Int) else (0, 0)) = redF l c ex := by have h := pair0 (f := labF l c) (by simpa using c20); unfold redF; simp [h]
      refine At.meet ?_
      exact .slot rfl (.refl _) <| .slot rfl (.refl _) <| .slot rfl (.refl _) <| .slot rfl (.refl _) <| .slot rfl (.refl _) <| .slot rfl (.refl _) <| .slot rfl (.refl _) <| .mem rfl <| .boxLe rfl (.cons (Le.i (congrArg Prod.fst (he))) <| .cons (Le.i (congrArg Prod.snd (he))) <| .nil) <| .nil
    · refine Tr.skip ?_
      have he : labF l c = redF l c ex := redF_1 (fun h => by rw [h] at c20; simp at c20)
      refine At.meet ?_
      exact .slot rfl (.refl _) <| .slot rfl (.refl _) <| .slot rfl (.refl _) <| .slot rfl (.refl _) <| .slot rfl (.refl _) <| .slot rfl (.refl _) <| .slot rfl (.refl _) <| .mem rfl <| .boxLe rfl (.cons (Le.i (congrArg Prod.fst (he))) <| .cons (Le.i (congrArg Prod.snd (he))) <| .nil) <| .nil
  · refine Tr.seq ?_
    refine Tr.seq ?_
    refine Tr.region ?_
    refine TrOps.sem (OpSem.move (.inl rfl) rfl) rfl rfl (by decide) ?_
    refine TrOps.sem (OpSem.move (.inl rfl) rfl) rfl rfl (by decide) ?_
    refine TrOps.sem (OpSem.le (s' := .d (ints [x, y])) (OpSem.buildSlice rfl rfl es22 ze22 rfl rfl (by decide) (by decide) rfl rfl) (Le.of_eq rfl)) rfl rfl (by decide) ?_
    refine TrOps.sem (OpSem.lenL rfl rfl es22) rfl rfl (by decide) ?_
    refine TrOps.sem (OpSem.move (.inl rfl) rfl) rfl rfl (by decide) ?_
    refine TrOps.nil ?_
    refine At.seq ?_
    refine Tr.block ?_
    refine Tr.loop (X := Nat) (fun k => k ≤ 2) (fun k => [(0, .d (abssD l)), (1, .d (ints c)), (2, I (ex)), (3, I (x)), (4, I (y)), (11, .r 11 0), (12, .r 12 0), (26, .d (ints ([x, y] : List Int))), (27, I (2)), (28, I (k))]) (fun k => [(11, .box [I (0), I (0)]), (12, .box [I ((outTo (redF l c ex) c.length [x, y] k).1), I ((outTo (redF l c ex) c.length [x, y] k).2)])]) (fun k => 2 - k) 0 (by omega) ?_ ?_
    · exact .slot rfl (.refl _) <| .slot rfl (.refl _) <| .slot rfl (.refl _) <| .slot rfl (.refl _) <| .slot rfl (.refl _) <| .slot rfl (.refl _) <| .slot rfl (.refl _) <| .slot rfl (.refl _) <| .slot rfl (.refl _) <| .slot rfl (Le.of_eq (by simp)) <| .mem rfl <| .memEq rfl (by simp [outTo]) <| .nil
    · rintro k hkl
      refine Tr.seq ?_
      refine Tr.region ?_
      refine TrOps.sem (OpSem.bin rfl rfl rfl blss) rfl rfl (by decide) ?_
      refine TrOps.nil ?_
      refine At.seq ?_
      refine Tr.seq ?_
      refine Tr.cond rfl (fun c29 => ?_) (fun c29 => ?_)
      · have hk : k < 2 := by simp at c29; omega
        refine Tr.skip ?_
        refine At.seq ?_
        refine Tr.cut [(0, .d (abssD l)), (1, .d (ints c)), (2, I (ex)), (3, I (x)), (4, I (y)), (11, .r 11 0), (12, .r 12 0), (26, .d (ints ([x, y] : List Int))), (27, I (2)), (28, I (k))] [(11, .box [I (0), I (0)]), (12, .box [I ((outTo (redF l c ex) c.length [x, y] (k + 1)).1), I ((outTo (redF l c ex) c.length [x, y] (k + 1)).2)])] ?_ ?_
        · refine Tr.block ?_
          refine Tr.seq ?_
          refine Tr.region ?_
          refine TrOps.sem (OpSem.idxL rfl rfl rfl es22 (by omega) (by simp; omega)) rfl rfl (by decide) ?_
          refine TrOps.sem (OpSem.load1 rfl rfl vs3 rfl) rfl rfl (by decide) ?_
          refine TrOps.sem (OpSem.move (.inr rfl) rfl) rfl rfl (by decide) ?_
          refine TrOps.nil ?_
          refine At.seq ?_
          refine Tr.seq ?_
          refine Tr.region ?_
          refine TrOps.sem (OpSem.loadbN rfl rfl rfl vs29 (by first | decide | simp)) rfl rfl (by decide) ?_
          refine TrOps.sem (OpSem.build rfl rfl pl29 zc29 rfl rfl) rfl rfl (by decide) ?_
          refine TrOps.sem (OpSem.eqS2 rfl rfl rfl io29) rfl rfl (by decide) ?_
          refine TrOps.sem (OpSem.move (.inl rfl) rfl) rfl rfl (by decide) ?_
          refine TrOps.split (n := 35) rfl (fun c35 => ?_) (fun c35 => ?_)
          · refine TrOps.gT rfl rfl rfl rfl c35 ?_
            refine TrOps.sem (OpSem.move (.inl rfl) rfl) rfl rfl (by decide) ?_
            refine TrOps.gT rfl rfl rfl rfl c35 ?_
            refine TrOps.sem (OpSem.bin rfl rfl rfl blss) rfl rfl (by decide) ?_
            refine TrOps.gT rfl rfl rfl rfl c35 ?_
            refine TrOps.sem (OpSem.move (.inl rfl) rfl) rfl rfl (by decide) ?_
            refine TrOps.split (n := 38) rfl (fun c38 => ?_) (fun c38 => ?_)
            · refine TrOps.gF rfl rfl rfl rfl c38 rfl (by decide) ?_
              refine TrOps.gF rfl rfl rfl rfl c38 rfl (by decide) ?_
              refine TrOps.gF rfl rfl rfl rfl c38 rfl (by decide) ?_
              refine TrOps.gF rfl rfl rfl rfl c38 rfl (by decide) ?_
              refine TrOps.gT rfl rfl rfl rfl c35 ?_
              refine TrOps.sem (OpSem.pickT rfl rfl c38 rfl) rfl rfl (by decide) ?_
              refine TrOps.sem (OpSem.pickT rfl rfl c35 rfl) rfl rfl (by decide) ?_
              refine TrOps.nil ?_
              refine At.seq ?_
              refine Tr.condT rfl rfl ?_
              refine Tr.region ?_
              refine TrOps.sem (OpSem.build rfl rfl pl29 zc29 rfl rfl) rfl rfl (by decide) ?_
              refine TrOps.storeb rfl rfl rfl rfl rfl rfl rfl vs29 (by first | decide | simp) ?_
              refine TrOps.nil ?_
              refine At.block_normal ?_
              have he := outTo_1 (q := [x, y]) (pair0 (f := outTo (redF l c ex) c.length [x, y] k) (by simpa using c35)) (.inl (by simpa using c38))
              refine At.meet ?_
              exact .slot rfl (.refl _) <| .slot rfl (.refl _) <| .slot rfl (.refl _) <| .slot rfl (.refl _) <| .slot rfl (.refl _) <| .slot rfl (.refl _) <| .slot rfl (.refl _) <| .slot rfl (.refl _) <| .slot rfl (.refl _) <| .slot rfl (.refl _) <| .mem rfl <| .boxLe rfl (.cons (Le.i (congrArg Prod.fst (he))) <| .cons (Le.i (congrArg Prod.snd (he))) <| .nil) <| .nil
            · refine TrOps.gT rfl rfl rfl rfl c38 ?_
              refine TrOps.sem (OpSem.move (.inl rfl) rfl) rfl rfl (by decide) ?_
              refine TrOps.gT rfl rfl rfl rfl c38 ?_
              refine TrOps.sem (OpSem.move (.inl rfl) rfl) rfl rfl (by decide) ?_
              refine TrOps.gT rfl rfl rfl rfl c38 ?_
              refine TrOps.sem (OpSem.lenL rfl rfl es22) rfl rfl (by decide) ?_
              refine TrOps.gT rfl rfl rfl rfl c38 ?_
              refine TrOps.sem (OpSem.bin rfl rfl rfl bgeq) rfl rfl (by decide) ?_
              refine TrOps.gT rfl rfl rfl rfl c35 ?_
              refine TrOps.sem (OpSem.pickF rfl rfl c38 rfl) rfl rfl (by decide) ?_
              refine TrOps.sem (OpSem.pickT rfl rfl c35 rfl) rfl rfl (by decide) ?_
              refine TrOps.nil ?_
              refine At.seq ?_
              refine Tr.cond rfl (fun c44 => ?_) (fun c44 => ?_)
              · refine Tr.region ?_
                refine TrOps.sem (OpSem.build rfl rfl pl29 zc29 rfl rfl) rfl rfl (by decide) ?_
                refine TrOps.storeb rfl rfl rfl rfl rfl rfl rfl vs29 (by first | decide | simp) ?_
                refine TrOps.nil ?_
                refine At.block_normal ?_
                have he := outTo_1 (q := [x, y]) (pair0 (f := outTo (redF l c ex) c.length [x, y] k) (by simpa using c35)) (.inr (by simpa using c44))
                refine At.meet ?_
                exact .slot rfl (.refl _) <| .slot rfl (.refl _) <| .slot rfl (.refl _) <| .slot rfl (.refl _) <| .slot rfl (.refl _) <| .slot rfl (.refl _) <| .slot rfl (.refl _) <| .slot rfl (.refl _) <| .slot rfl (.refl _) <| .slot rfl (.refl _) <| .mem rfl <| .boxLe rfl (.cons (Le.i (congrArg Prod.fst (he))) <| .cons (Le.i (congrArg Prod.snd (he))) <| .nil) <| .nil
              · refine Tr.skip ?_
                refine At.block_normal ?_
                have he := outTo_0 (f := redF l c ex) (n := c.length) (q := [x, y]) (k := k) (fun h => by have := h.2; simp at c38 c44; omega)
                refine At.meet ?_
                exact .slot rfl (.refl _) <| .slot rfl (.refl _) <| .slot rfl (.refl _) <| .slot rfl (.refl _) <| .slot rfl (.refl _) <| .slot rfl (.refl _) <| .slot rfl (.refl _) <| .slot rfl (.refl _) <| .slot rfl (.refl _) <| .slot rfl (.refl _) <| .mem rfl <| .boxLe rfl (.cons (Le.i (congrArg Prod.fst (he))) <| .cons (Le.i (congrArg Prod.snd (he))) <| .nil) <| .nil
          · refine TrOps.gF rfl rfl rfl rfl c35 rfl (by decide) ?_
            refine TrOps.gF rfl rfl rfl rfl c35 rfl (by decide) ?_
            refine TrOps.gF rfl rfl rfl rfl c35 rfl (by decide) ?_
            refine TrOps.gU rfl rfl rfl rfl rfl (by decide) ?_
            refine TrOps.gU rfl rfl rfl rfl rfl (by decide) ?_
            refine TrOps.gU rfl rfl rfl rfl rfl (by decide) ?_
            refine TrOps.gU rfl rfl rfl rfl rfl (by decide) ?_
            refine TrOps.gF rfl rfl rfl rfl c35 rfl (by decide) ?_
            refine TrOps.sem (OpSem.pickF rfl rfl c35 rfl) rfl rfl (by decide) ?_
            refine TrOps.nil ?_
            refine At.seq ?_
            refine Tr.condF rfl rfl ?_
            refine Tr.skip ?_
            refine At.block_normal ?_
            have he := outTo_0 (f := redF l c ex) (n := c.length) (q := [x, y]) (k := k) (fun h => by rw [h.1] at c35; simp at c35)
            refine At.meet ?_
            exact .slot rfl (.refl _) <| .slot rfl (.refl _) <| .slot rfl (.refl _) <| .slot rfl (.refl _) <| .slot rfl (.refl _) <| .slot rfl (.refl _) <| .slot rfl (.refl _) <| .slot rfl (.refl _) <| .slot rfl (.refl _) <| .slot rfl (.refl _) <| .mem rfl <| .boxLe rfl (.cons (Le.i (congrArg Prod.fst (he))) <| .cons (Le.i (congrArg Prod.snd (he))) <| .nil) <| .nil
        · refine Tr.region ?_
          refine TrOps.sem (OpSem.bin rfl rfl rfl (badd (by omega) (by omega))) rfl rfl (by decide) ?_
          refine TrOps.sem (OpSem.move (.inl rfl) rfl) rfl rfl (by decide) ?_
          refine TrOps.nil ?_
          refine At.again (k + 1) (by omega) ?_ (by omega)
          exact .slot rfl (.refl _) <| .slot rfl (.refl _) <| .slot rfl (.refl _) <| .slot rfl (.refl _) <| .slot rfl (.refl _) <| .slot rfl (.refl _) <| .slot rfl (.refl _) <| .slot rfl (.refl _) <| .slot rfl (.refl _) <| .slot rfl (Le.of_eq (by simp)) <| .mem rfl <| .mem rfl <| .nil
      · have hk : k = 2 := by simp at c29; omega
        refine Tr.exit ?_
        refine At.pass_exit ?_
        refine At.pass_exit ?_
        refine At.block_same ?_
        refine At.seq ?_
        refine Tr.seq ?_
        refine Tr.seq ?_
        refine Tr.region ?_
        refine TrOps.sem (OpSem.loadbN rfl rfl rfl vs29 (by first | decide | simp)) rfl rfl (by decide) ?_
        refine TrOps.sem (OpSem.build rfl rfl pl29 zc29 rfl rfl) rfl rfl (by decide) ?_
        refine TrOps.sem (OpSem.neS2 rfl rfl rfl io29) rfl rfl (by decide) ?_
        refine TrOps.nil ?_
        refine At.seq ?_
        refine Tr.cond rfl (fun c49 => ?_) (fun c49 => ?_)
        · have hne : eqvF l c ex x y ≠ (0, 0) := fun h => by rw [← eqvF_out, ← hk] at h; simp [h] at c49
          refine Tr.seq ?_
          refine PC.start [] ?_
          refine PC.sem (OpSem.loadbN rfl rfl rfl vs29 (by first | decide | simp)) rfl rfl ?_
          refine PC.sem (OpSem.move (.inr rfl) rfl) rfl rfl ?_
          refine PC.done0 mixed (by kernel_rfl) (by kernel_rfl) (by kernel_rfl) (by kernel_rfl) (by kernel_rfl) ?_
          refine TrOps.storeb rfl rfl rfl rfl rfl rfl rfl vs29 (by first | decide | simp) ?_
          refine TrOps.nil ?_
          refine At.seq ?_
          refine Tr.ret ?_
          refine At.pass_ret ?_
          exact At.ret rfl (.tmp rfl <| .cellN rfl rfl vs29 <| .nil) rfl (Le.t (.cons (Le.bo (by simp [hne])) <| .cons (Le.flt (by rw [hk]; exact eqvF_out)) <| .nil))
        · have h0 : eqvF l c ex x y = (0, 0) := by rw [← eqvF_out, ← hk]; exact pair0 (by simpa using c49)
          have hok := eqvF_ok h0
          refine Tr.skip ?_
          refine At.seq ?_
          refine Tr.seq ?_
          refine PC.start [] ?_
          refine PC.sem (OpSem.move (.inl rfl) rfl) rfl rfl ?_
          refine PC.sem (OpSem.move (.inl rfl) rfl) rfl rfl ?_
          refine PC.sem (OpSem.move (.inl rfl) rfl) rfl rfl ?_
          refine PC.sem (OpSem.move (.inl rfl) rfl) rfl rfl ?_
          refine PC.sem (OpSem.move (.inl rfl) rfl) rfl rfl ?_
          refine PC.sem (OpSem.call0 (labels_equivalent_does l c ex x y hok.2.1 hok.2.2 (lab_arcs (redF_ok hok.1).1)) rfl rfl rfl rfl (Les.refl _)) rfl rfl ?_
          refine PC.sem (OpSem.loadbN rfl rfl rfl vs29 (by first | decide | simp)) rfl rfl ?_
          refine PC.sem (OpSem.move (.inr rfl) rfl) rfl rfl ?_
          refine PC.done0 mixed (by kernel_rfl) (by kernel_rfl) (by kernel_rfl) (by kernel_rfl) (by kernel_rfl) ?_
          refine TrOps.storeb rfl rfl rfl rfl rfl rfl rfl vs29 (by first | decide | simp) ?_
          refine TrOps.nil ?_
          refine At.seq ?_
          refine Tr.ret ?_
          exact At.ret rfl (.tmp rfl <| .cellN rfl rfl vs29 <| .nil) rfl (Le.t (.cons (Le.bo (by simp [h0])) <| .cons (Le.flt (by rw [hk]; exact eqvF_out)) <| .nil))

theorem Q_HasArc_does (a : Abs) (f x t : Int) : Does Try.prog false 71 [absS a, I (f), I (x), I (t)] (Bo (decide ((⟨f, x, t⟩ : Arc) ∈ a.arcs))) := by
  refine Does.of_body Try.func71 rfl rfl (by simp) Try.call71 (fun w0 O0 => ?_)
  refine Tr.lenG (n := 0) (i := 2) rfl rfl (fun len0_2 => ?_)
  refine Tr.lenG (n := 0) (i := 4) rfl rfl (fun len0_4 => ?_)
  refine Tr.seq ?_
  refine Tr.region ?_
  refine TrOps.semM (OpSem.box 4 rfl rfl rfl rfl) rfl rfl (by decide) ?_
  refine TrOps.sem (OpSem.move (.inr rfl) rfl) rfl rfl (by decide) ?_
  refine TrOps.nil ?_
  refine At.seq ?_
  refine Tr.seq ?_
  refine Tr.seq ?_
  refine Tr.region ?_
  refine TrOps.sem (OpSem.move (.inr rfl) rfl) rfl rfl (by decide) ?_
  refine TrOps.nil ?_
  refine At.seq ?_
  refine Tr.block ?_
  refine Tr.loop (X := Nat) (fun k => k ≤ a.arcs.length ∧ ∀ i : Nat, i < k → nth a.arcs i ≠ (⟨f, x, t⟩ : Arc)) (fun k => [(1, I (f)), (2, I (x)), (3, I (t)), (4, .r 4 0), (9, I (k))]) (fun k => [(4, .box [I (a.states), I (a.labels), .d (arcsD a.arcs), I (a.init), .d (ints a.goals)])]) (fun k => a.arcs.length - k) 0 ⟨by omega, by simp⟩ ?_ ?_
  · exact .slot rfl (.refl _) <| .slot rfl (.refl _) <| .slot rfl (.refl _) <| .slot rfl (.refl _) <| .slot rfl (Le.of_eq (by simp)) <| .mem rfl <| .nil
  · rintro k ⟨hkl, hinv⟩
    refine Tr.seq ?_
    refine Tr.seq ?_
    refine Tr.region ?_
    refine TrOps.sem (OpSem.move (.inl rfl) rfl) rfl rfl (by decide) ?_
    refine TrOps.sem (OpSem.fieldr rfl rfl fo46_2) rfl rfl (by decide) ?_
    refine TrOps.sem (OpSem.loadb1 rfl rfl rfl vs44 rfl) rfl rfl (by decide) ?_
    refine TrOps.sem (OpSem.lenL rfl rfl es44) rfl rfl (by decide) ?_
    refine TrOps.sem (OpSem.bin rfl rfl rfl blss) rfl rfl (by decide) ?_
    refine TrOps.nil ?_
    refine At.seq ?_
    refine Tr.cond rfl (fun c14 => ?_) (fun c14 => ?_)
    · have hk : k < a.arcs.length := by simpa using c14
      refine Tr.skip ?_
      refine At.seq ?_
      refine Tr.seq ?_
      refine Tr.block ?_
      refine Tr.seq ?_
      refine Tr.region ?_
      refine TrOps.sem (OpSem.fieldr rfl rfl fo46_2) rfl rfl (by decide) ?_
      refine TrOps.sem (OpSem.loadb1 rfl rfl rfl vs44 rfl) rfl rfl (by decide) ?_
      refine TrOps.sem (OpSem.move (.inl rfl) rfl) rfl rfl (by decide) ?_
      refine TrOps.sem (OpSem.idxL rfl rfl rfl es44 (by omega) (by omega)) rfl rfl (by decide) ?_
      refine TrOps.sem (OpSem.loadN rfl rfl vs93 (by first | decide | simp) rfl) rfl rfl (by decide) ?_
      refine TrOps.sem (OpSem.move (.inl rfl) rfl) rfl rfl (by decide) ?_
      refine TrOps.sem (OpSem.move (.inl rfl) rfl) rfl rfl (by decide) ?_
      refine TrOps.sem (OpSem.move (.inl rfl) rfl) rfl rfl (by decide) ?_
      refine TrOps.sem (OpSem.build rfl rfl pl93 zc93 rfl rfl) rfl rfl (by decide) ?_
      refine TrOps.sem (OpSem.eqS3 rfl rfl rfl io93) rfl rfl (by decide) ?_
      refine TrOps.nil ?_
      refine At.seq ?_
      refine Tr.cond rfl (fun c26 => ?_) (fun c26 => ?_)
      · have hb : nth a.arcs k = (⟨f, x, t⟩ : Arc) := arc_ext (by simp at c26; exact c26.1) (by simp at c26; exact c26.2.1) (by simp at c26; exact c26.2.2)
        refine Tr.seq ?_
        refine Tr.region ?_
        refine TrOps.sem (OpSem.move (.inr rfl) rfl) rfl rfl (by decide) ?_
        refine TrOps.nil ?_
        refine At.seq ?_
        refine Tr.ret ?_
        refine At.block_ret ?_
        refine At.pass_ret ?_
        refine At.pass_ret ?_
        refine At.block_ret ?_
        refine At.pass_ret ?_
        exact At.ret rfl (.tmp rfl <| .nil) rfl (Le.bo (decide_eq_true (by rw [← hb]; exact nth_mem (by omega) (by omega))).symm)
      · have hb : nth a.arcs k ≠ (⟨f, x, t⟩ : Arc) := fun h => by rw [h] at c26; simp at c26
        refine Tr.skip ?_
        refine At.block_normal ?_
        refine At.seq ?_
        refine Tr.region ?_
        refine TrOps.sem (OpSem.move (.inl rfl) rfl) rfl rfl (by decide) ?_
        refine TrOps.sem (OpSem.bin rfl rfl rfl (badd (by omega) (by omega))) rfl rfl (by decide) ?_
        refine TrOps.sem (OpSem.move (.inr rfl) rfl) rfl rfl (by decide) ?_
        refine TrOps.nil ?_
        refine At.again (k + 1) ⟨by omega, all_succ hinv hb⟩ ?_ (by omega)
        exact .slot rfl (.refl _) <| .slot rfl (.refl _) <| .slot rfl (.refl _) <| .slot rfl (.refl _) <| .slot rfl (Le.of_eq (by simp)) <| .mem rfl <| .nil
    · have hk : k = a.arcs.length := by simp at c14; omega
      refine Tr.exit ?_
      refine At.pass_exit ?_
      refine At.pass_exit ?_
      refine At.block_same ?_
      refine At.seq ?_
      refine Tr.seq ?_
      refine Tr.region ?_
      refine TrOps.sem (OpSem.move (.inr rfl) rfl) rfl rfl (by decide) ?_
      refine TrOps.nil ?_
      refine At.seq ?_
      refine Tr.ret ?_
      exact At.ret rfl (.tmp rfl <| .nil) rfl (Le.bo (decide_eq_false (fun h => by obtain ⟨i, hi, he⟩ := List.getElem_of_mem h; exact hinv i (by omega) (by rw [nth_eq hi, he]))).symm)

theorem Q_Same_does (l : List Abs) (c : List Int) (ex x y : Int) (hx : 0 ≤ x ∧ x < c.length) (hy : 0 ≤ y ∧ y < c.length) (hA : ∀ k : Nat, k < l.length → AbsOk (nth l k)) : Does Try.prog false 36 [.d (abssD l), .d (ints c), I (ex), I (x), I (y)] (Bo (decide (EqvP l c ex x y))) := by
  refine Does.of_body Try.func36 rfl rfl (by simp) Try.call36 (fun w0 O0 => ?_)
  refine Tr.lenLe (n := 0) rfl (fun len0 => ?_)
  refine Tr.lenLe (n := 1) rfl (fun len1 => ?_)
  refine Tr.seq ?_
  refine Tr.region ?_
  refine TrOps.sem (OpSem.move (.inr rfl) rfl) rfl rfl (by decide) ?_
  refine TrOps.nil ?_
  refine At.seq ?_
  refine Tr.seq ?_
  refine Tr.seq ?_
  refine Tr.region ?_
  refine TrOps.sem (OpSem.move (.inr rfl) rfl) rfl rfl (by decide) ?_
  refine TrOps.nil ?_
  refine At.seq ?_
  refine Tr.block ?_
  refine Tr.loop (X := Nat) (fun i => i ≤ l.length ∧ ∀ i' : Nat, i' < i → (i' : Int) ≠ ex → endsL (nth l i') x = endsL (nth l i') y) (fun i => [(0, .d (abssD l)), (1, .d (ints c)), (2, I (ex)), (3, I (x)), (4, I (y)), (11, I (i))]) (fun i => []) (fun i => l.length - i) 0 ⟨by omega, by simp⟩ ?_ ?_
  · exact .slot rfl (.refl _) <| .slot rfl (.refl _) <| .slot rfl (.refl _) <| .slot rfl (.refl _) <| .slot rfl (.refl _) <| .slot rfl (Le.of_eq (by simp)) <| .nil
  · rintro i ⟨hil, hinv⟩
    refine Tr.seq ?_
    refine Tr.seq ?_
    refine Tr.region ?_
    refine TrOps.sem (OpSem.move (.inl rfl) rfl) rfl rfl (by decide) ?_
    refine TrOps.sem (OpSem.move (.inl rfl) rfl) rfl rfl (by decide) ?_
    refine TrOps.sem (OpSem.lenL rfl rfl es34) rfl rfl (by decide) ?_
    refine TrOps.sem (OpSem.bin rfl rfl rfl blss) rfl rfl (by decide) ?_
    refine TrOps.nil ?_
    refine At.seq ?_
    refine Tr.cond rfl (fun c17 => ?_) (fun c17 => ?_)
    · have hi : i < l.length := by simpa using c17
      have ha := hA i hi
      have hh := ha.head.1
      refine Tr.skip ?_
      refine At.seq ?_
      refine Tr.seq ?_
      refine Tr.block ?_
      refine Tr.seq ?_
      refine Tr.region ?_
      refine TrOps.sem (OpSem.move (.inr rfl) rfl) rfl rfl (by decide) ?_
      refine TrOps.nil ?_
      refine At.seq ?_
      refine Tr.block ?_
      refine Tr.loop (X := Nat) (fun p => (p : Int) ≤ (nth l i).states ∧ ∀ p' : Nat, p' < p → ∀ q : Nat, (q : Int) < (nth l i).states → decide ((⟨p', x, q⟩ : Arc) ∈ (nth l i).arcs) = decide ((⟨p', y, q⟩ : Arc) ∈ (nth l i).arcs)) (fun p => [(0, .d (abssD l)), (1, .d (ints c)), (2, I (ex)), (3, I (x)), (4, I (y)), (11, I (i)), (12, I (p))]) (fun p => []) (fun p => (nth l i).states.toNat - p) 0 ⟨by omega, by simp⟩ ?_ ?_
      · exact .slot rfl (.refl _) <| .slot rfl (.refl _) <| .slot rfl (.refl _) <| .slot rfl (.refl _) <| .slot rfl (.refl _) <| .slot rfl (.refl _) <| .slot rfl (Le.of_eq (by simp)) <| .nil
      · rintro p ⟨hpl, hinp⟩
        refine Tr.seq ?_
        refine Tr.seq ?_
        refine Tr.region ?_
        refine TrOps.sem (OpSem.move (.inl rfl) rfl) rfl rfl (by decide) ?_
        refine TrOps.sem (OpSem.move (.inl rfl) rfl) rfl rfl (by decide) ?_
        refine TrOps.sem (OpSem.move (.inl rfl) rfl) rfl rfl (by decide) ?_
        refine TrOps.sem (OpSem.idxL rfl rfl rfl es34 (by omega) (by omega)) rfl rfl (by decide) ?_
        refine TrOps.sem (OpSem.fieldp rfl rfl fo46_0) rfl rfl (by decide) ?_
        refine TrOps.sem (OpSem.load1 rfl rfl vs3 rfl) rfl rfl (by decide) ?_
        refine TrOps.sem (OpSem.bin rfl rfl rfl blss) rfl rfl (by decide) ?_
        refine TrOps.sem (OpSem.move (.inl rfl) rfl) rfl rfl (by decide) ?_
        refine TrOps.split (n := 27) rfl (fun c27 => ?_) (fun c27 => ?_)
        · have hp : (p : Int) < (nth l i).states := by simpa using c27
          refine TrOps.gT rfl rfl rfl rfl c27 ?_
          refine TrOps.sem (OpSem.move (.inl rfl) rfl) rfl rfl (by decide) ?_
          refine TrOps.gT rfl rfl rfl rfl c27 ?_
          refine TrOps.sem (OpSem.move (.inl rfl) rfl) rfl rfl (by decide) ?_
          refine TrOps.gT rfl rfl rfl rfl c27 ?_
          refine TrOps.sem (OpSem.bin rfl rfl rfl bneq) rfl rfl (by decide) ?_
          refine TrOps.sem (OpSem.pickT rfl rfl c27 rfl) rfl rfl (by decide) ?_
          refine TrOps.nil ?_
          refine At.seq ?_
          refine Tr.cond rfl (fun c31 => ?_) (fun c31 => ?_)
          · have hie : (i : Int) ≠ ex := by simpa using c31
            refine Tr.skip ?_
            refine At.seq ?_
            refine Tr.seq ?_
            refine Tr.block ?_
            refine Tr.seq ?_
            refine Tr.region ?_
            refine TrOps.sem (OpSem.move (.inr rfl) rfl) rfl rfl (by decide) ?_
            refine TrOps.nil ?_
            refine At.seq ?_
            refine Tr.block ?_
            refine Tr.loop (X := Nat) (fun q => (q : Int) ≤ (nth l i).states ∧ ∀ q' : Nat, q' < q → decide ((⟨p, x, q'⟩ : Arc) ∈ (nth l i).arcs) = decide ((⟨p, y, q'⟩ : Arc) ∈ (nth l i).arcs)) (fun q => [(0, .d (abssD l)), (1, .d (ints c)), (2, I (ex)), (3, I (x)), (4, I (y)), (11, I (i)), (12, I (p)), (13, I (q))]) (fun q => []) (fun q => (nth l i).states.toNat - q) 0 ⟨by omega, by simp⟩ ?_ ?_
            · exact .slot rfl (.refl _) <| .slot rfl (.refl _) <| .slot rfl (.refl _) <| .slot rfl (.refl _) <| .slot rfl (.refl _) <| .slot rfl (.refl _) <| .slot rfl (.refl _) <| .slot rfl (Le.of_eq (by simp)) <| .nil
            · rintro q ⟨hql, hinq⟩
              refine Tr.seq ?_
              refine Tr.seq ?_
              refine Tr.region ?_
              refine TrOps.sem (OpSem.move (.inl rfl) rfl) rfl rfl (by decide) ?_
              refine TrOps.sem (OpSem.move (.inl rfl) rfl) rfl rfl (by decide) ?_
              refine TrOps.sem (OpSem.move (.inl rfl) rfl) rfl rfl (by decide) ?_
              refine TrOps.sem (OpSem.idxL rfl rfl rfl es34 (by omega) (by omega)) rfl rfl (by decide) ?_
              refine TrOps.sem (OpSem.fieldp rfl rfl fo46_0) rfl rfl (by decide) ?_
              refine TrOps.sem (OpSem.load1 rfl rfl vs3 rfl) rfl rfl (by decide) ?_
              refine TrOps.sem (OpSem.bin rfl rfl rfl blss) rfl rfl (by decide) ?_
              refine TrOps.nil ?_
              refine At.seq ?_
              refine Tr.cond rfl (fun c40 => ?_) (fun c40 => ?_)
              · have hq : (q : Int) < (nth l i).states := by simpa using c40
                refine Tr.skip ?_
                refine At.seq ?_
                refine Tr.seq ?_
                refine Tr.block ?_
                refine Tr.seq ?_
                refine PC.start [] ?_
                refine PC.sem (OpSem.move (.inl rfl) rfl) rfl rfl ?_
                refine PC.sem (OpSem.move (.inl rfl) rfl) rfl rfl ?_
                refine PC.sem (OpSem.idxL rfl rfl rfl es34 (by omega) (by omega)) rfl rfl ?_
                refine PC.sem (OpSem.loadN rfl rfl vs46 (by first | decide | simp) rfl) rfl rfl ?_
                refine PC.sem (OpSem.move (.inl rfl) rfl) rfl rfl ?_
                refine PC.sem (OpSem.move (.inl rfl) rfl) rfl rfl ?_
                refine PC.sem (OpSem.move (.inl rfl) rfl) rfl rfl ?_
                refine PC.sem (OpSem.call0 (Q_HasArc_does (nth l i) p x q) rfl rfl rfl rfl (Les.refl _)) rfl rfl ?_
                refine PC.sem (OpSem.move (.inl rfl) rfl) rfl rfl ?_
                refine PC.sem (OpSem.move (.inl rfl) rfl) rfl rfl ?_
                refine PC.sem (OpSem.idxL rfl rfl rfl es34 (by omega) (by omega)) rfl rfl ?_
                refine PC.sem (OpSem.loadN rfl rfl vs46 (by first | decide | simp) rfl) rfl rfl ?_
                refine PC.sem (OpSem.move (.inl rfl) rfl) rfl rfl ?_
                refine PC.sem (OpSem.move (.inl rfl) rfl) rfl rfl ?_
                refine PC.sem (OpSem.move (.inl rfl) rfl) rfl rfl ?_
                refine PC.done0 mixed (by kernel_rfl) (by kernel_rfl) (by kernel_rfl) (by kernel_rfl) (by kernel_rfl) ?_
                refine TrOps.sem (OpSem.call0 (Q_HasArc_does (nth l i) p y q) rfl rfl rfl rfl (Les.refl _)) rfl rfl (by decide) ?_
                refine TrOps.sem (OpSem.neB rfl rfl rfl ub4) rfl rfl (by decide) ?_
                refine TrOps.nil ?_
                refine At.seq ?_
                refine Tr.cond rfl (fun c59 => ?_) (fun c59 => ?_)
                · have hne : decide ((⟨p, x, q⟩ : Arc) ∈ (nth l i).arcs) ≠ decide ((⟨p, y, q⟩ : Arc) ∈ (nth l i).arcs) := fun h => by rw [h] at c59; simp at c59
                  refine Tr.seq ?_
                  refine Tr.region ?_
                  refine TrOps.sem (OpSem.move (.inr rfl) rfl) rfl rfl (by decide) ?_
                  refine TrOps.nil ?_
                  refine At.seq ?_
                  refine Tr.ret ?_
                  refine At.block_ret ?_
                  refine At.pass_ret ?_
                  refine At.pass_ret ?_
                  refine At.block_ret ?_
                  refine At.block_ret ?_
                  refine At.pass_ret ?_
                  refine At.pass_ret ?_
                  refine At.block_ret ?_
                  refine At.block_ret ?_
                  refine At.pass_ret ?_
                  refine At.pass_ret ?_
                  refine At.block_ret ?_
                  refine At.pass_ret ?_
                  exact At.ret rfl (.tmp rfl <| .nil) rfl (Le.bo (eqv_2 hi hie (fun he => hne (decide_eq_decide.2 ((ends_eq ha).1 he p q)))))
                · have hbq : decide ((⟨p, x, q⟩ : Arc) ∈ (nth l i).arcs) = decide ((⟨p, y, q⟩ : Arc) ∈ (nth l i).arcs) := Decidable.byContradiction fun hn => by simp [hn] at c59
                  refine Tr.skip ?_
                  refine At.block_normal ?_
                  refine At.seq ?_
                  refine Tr.region ?_
                  refine TrOps.sem (OpSem.move (.inl rfl) rfl) rfl rfl (by decide) ?_
                  refine TrOps.sem (OpSem.bin rfl rfl rfl (badd (by omega) (by omega))) rfl rfl (by decide) ?_
                  refine TrOps.sem (OpSem.move (.inr rfl) rfl) rfl rfl (by decide) ?_
                  refine TrOps.nil ?_
                  refine At.again (q + 1) ⟨by omega, all_succ hinq hbq⟩ ?_ (by omega)
                  exact .slot rfl (.refl _) <| .slot rfl (.refl _) <| .slot rfl (.refl _) <| .slot rfl (.refl _) <| .slot rfl (.refl _) <| .slot rfl (.refl _) <| .slot rfl (.refl _) <| .slot rfl (Le.of_eq (by simp)) <| .nil
              · have hq : (q : Int) = (nth l i).states := by simp at c40; omega
                have hbp : ∀ q : Nat, (q : Int) < (nth l i).states → decide ((⟨p, x, q⟩ : Arc) ∈ (nth l i).arcs) = decide ((⟨p, y, q⟩ : Arc) ∈ (nth l i).arcs) := fun z hz => hinq z (by omega)
                refine Tr.exit ?_
                refine At.pass_exit ?_
                refine At.pass_exit ?_
                refine At.block_same ?_
                refine At.block_normal ?_
                refine At.seq ?_
                refine Tr.region ?_
                refine TrOps.sem (OpSem.move (.inl rfl) rfl) rfl rfl (by decide) ?_
                refine TrOps.sem (OpSem.bin rfl rfl rfl (badd (by omega) (by omega))) rfl rfl (by decide) ?_
                refine TrOps.sem (OpSem.move (.inr rfl) rfl) rfl rfl (by decide) ?_
                refine TrOps.nil ?_
                refine At.again (p + 1) ⟨by omega, all_succ hinp hbp⟩ ?_ (by omega)
                exact .slot rfl (.refl _) <| .slot rfl (.refl _) <| .slot rfl (.refl _) <| .slot rfl (.refl _) <| .slot rfl (.refl _) <| .slot rfl (.refl _) <| .slot rfl (Le.of_eq (by simp)) <| .nil
          · have hb : (i : Int) ≠ ex → endsL (nth l i) x = endsL (nth l i) y := fun h => absurd (by simpa using c31) h
            refine Tr.exit ?_
            refine At.pass_exit ?_
            refine At.pass_exit ?_
            refine At.block_same ?_
            refine At.block_normal ?_
            refine At.seq ?_
            refine Tr.region ?_
            refine TrOps.sem (OpSem.move (.inl rfl) rfl) rfl rfl (by decide) ?_
            refine TrOps.sem (OpSem.bin rfl rfl rfl (badd (by omega) (by omega))) rfl rfl (by decide) ?_
            refine TrOps.sem (OpSem.move (.inr rfl) rfl) rfl rfl (by decide) ?_
            refine TrOps.nil ?_
            refine At.again (i + 1) ⟨by omega, all_succ hinv hb⟩ ?_ (by omega)
            exact .slot rfl (.refl _) <| .slot rfl (.refl _) <| .slot rfl (.refl _) <| .slot rfl (.refl _) <| .slot rfl (.refl _) <| .slot rfl (Le.of_eq (by simp)) <| .nil
        · have hp : (p : Int) = (nth l i).states := by simp at c27; omega
          have hb : (i : Int) ≠ ex → endsL (nth l i) x = endsL (nth l i) y := fun _ => ends_eq' ha fun p' hp' => hinp p' (by omega)
          refine TrOps.gF rfl rfl rfl rfl c27 rfl (by decide) ?_
          refine TrOps.gF rfl rfl rfl rfl c27 rfl (by decide) ?_
          refine TrOps.gF rfl rfl rfl rfl c27 rfl (by decide) ?_
          refine TrOps.sem (OpSem.pickF rfl rfl c27 rfl) rfl rfl (by decide) ?_
          refine TrOps.nil ?_
          refine At.seq ?_
          refine Tr.condF rfl rfl ?_
          refine Tr.exit ?_
          refine At.pass_exit ?_
          refine At.pass_exit ?_
          refine At.block_same ?_
          refine At.block_normal ?_
          refine At.seq ?_
          refine Tr.region ?_
          refine TrOps.sem (OpSem.move (.inl rfl) rfl) rfl rfl (by decide) ?_
          refine TrOps.sem (OpSem.bin rfl rfl rfl (badd (by omega) (by omega))) rfl rfl (by decide) ?_
          refine TrOps.sem (OpSem.move (.inr rfl) rfl) rfl rfl (by decide) ?_
          refine TrOps.nil ?_
          refine At.again (i + 1) ⟨by omega, all_succ hinv hb⟩ ?_ (by omega)
          exact .slot rfl (.refl _) <| .slot rfl (.refl _) <| .slot rfl (.refl _) <| .slot rfl (.refl _) <| .slot rfl (.refl _) <| .slot rfl (Le.of_eq (by simp)) <| .nil
    · have hi : i = l.length := by simp at c17; omega
      refine Tr.exit ?_
      refine At.pass_exit ?_
      refine At.pass_exit ?_
      refine At.block_same ?_
      refine At.seq ?_
      refine Tr.seq ?_
      refine PC.start [] ?_
      refine PC.sem (OpSem.move (.inl rfl) rfl) rfl rfl ?_
      refine PC.sem (OpSem.move (.inl rfl) rfl) rfl rfl ?_
      refine PC.sem (OpSem.idxL rfl rfl rfl es22 (by omega) (by omega)) rfl rfl ?_
      refine PC.sem (OpSem.load1 rfl rfl vs3 rfl) rfl rfl ?_
      refine PC.sem (OpSem.move (.inl rfl) rfl) rfl rfl ?_
      refine PC.sem (OpSem.move (.inl rfl) rfl) rfl rfl ?_
      refine PC.sem (OpSem.idxL rfl rfl rfl es22 (by omega) (by omega)) rfl rfl ?_
      refine PC.sem (OpSem.load1 rfl rfl vs3 rfl) rfl rfl ?_
      refine PC.done0 mixed (by kernel_rfl) (by kernel_rfl) (by kernel_rfl) (by kernel_rfl) (by kernel_rfl) ?_
      refine TrOps.sem (OpSem.bin rfl rfl rfl beql) rfl rfl (by decide) ?_
      refine TrOps.sem (OpSem.move (.inr rfl) rfl) rfl rfl (by decide) ?_
      refine TrOps.nil ?_
      refine At.seq ?_
      refine Tr.ret ?_
      exact At.ret rfl (.tmp rfl <| .nil) rfl (Le.bo (by unfold EqvP; subst hi; exact decide_eq_decide.2 ⟨fun h => ⟨h, hinv⟩, fun h => h.1⟩))

end Go.Proofs.Ytohlmcebphcokaa
end

section
/- Walks, written by gen.py out of hints. -/










set_option linter.unusedVariables false
set_option linter.unusedSimpArgs false
namespace Go.Proofs.Ytohlmcebphcokaa
open Go.Eng
set_option maxRecDepth 10000
set_option maxHeartbeats 1000000


open Go.Shelf Go.RowKit Go.Lib
theorem or3 (x y z : Int) (b : Nat) (w : World) (h0 : w.cell? ⟨b, 0, none⟩ = some (.int .i64 x)) (h1 : w.cell? ⟨b, 1, none⟩ = some (.int .i64 y)) (h2 : w.cell? ⟨b, 2, none⟩ = some (.int .i64 z)) :
    Calls Try.prog 108 #[.slice (some ⟨b, 0, none⟩) 3 3] w fun e w' => e = .returned (.int .i64 (if x ≠ 0 then x else if y ≠ 0 then y else z)) ∧ w' = w := by
  by_cases hx : x = 0
  · subst hx
    by_cases hy : y = 0
    · subst hy
      by_cases hz : z = 0
      · subst hz
        go_enter Try.func108, Try.ntmps108
        go_wp2
        refine wp_loop_rounds 4 ?_
        rw [rounds_succ]
        go_wp2
        rw [rounds_succ]
        go_wp2
        rw [rounds_succ]
        go_wp2
        rw [rounds_succ]
        go_wp2
        go_ret
        exact ⟨by simp, rfl⟩
      · go_enter Try.func108, Try.ntmps108
        go_wp2
        refine wp_loop_rounds 4 ?_
        rw [rounds_succ]
        go_wp2
        rw [rounds_succ]
        go_wp2
        rw [rounds_succ]
        go_wp2
        go_ret
        exact ⟨by simp, rfl⟩
    · go_enter Try.func108, Try.ntmps108
      go_wp2
      refine wp_loop_rounds 4 ?_
      rw [rounds_succ]
      go_wp2
      rw [rounds_succ]
      go_wp2
      go_ret
      exact ⟨by simp [hy], rfl⟩
  · go_enter Try.func108, Try.ntmps108
    go_wp2
    refine wp_loop_rounds 4 ?_
    rw [rounds_succ]
    go_wp2
    go_ret
    exact ⟨by simp [hx], rfl⟩
theorem cmp3 (x y : Int) (w : World) : Calls Try.prog 109 #[.int .i64 x, .int .i64 y] w fun e w' => e = .returned (.int .i64 (cmpI x y)) ∧ w' = w := by
  have hn : ∀ (z : Int) (w : World), Calls Try.prog 116 #[.int .i64 z] w fun e w' => e = .returned (.bool false) ∧ w' = w := by
    intro z w
    go_enter Try.func116, Try.ntmps116
    go_wp2
    go_ret
    exact ⟨by simp, rfl⟩
  rcases Int.lt_trichotomy x y with h | h | h
  · go_enter Try.func109, Try.ntmps109
    go_wp2_with (go_at_call 116; refine (hn _ _).mono ?_; rintro e w' ⟨rfl, rfl⟩)
    all_goals go_ret
    all_goals exact ⟨by first | rfl | (unfold cmpI; simp; omega) | (simp at *; omega), rfl⟩
  · subst h
    go_enter Try.func109, Try.ntmps109
    go_wp2_with (go_at_call 116; refine (hn _ _).mono ?_; rintro e w' ⟨rfl, rfl⟩)
    all_goals go_ret
    all_goals exact ⟨by first | rfl | (unfold cmpI; simp) | (simp at *; omega), rfl⟩
  · go_enter Try.func109, Try.ntmps109
    go_wp2_with (go_at_call 116; refine (hn _ _).mono ?_; rintro e w' ⟨rfl, rfl⟩)
    all_goals go_ret
    all_goals exact ⟨by first | rfl | (unfold cmpI; simp; omega) | (simp at *; omega), rfl⟩
theorem or3' (x y z c : Int) (hc : (if x ≠ 0 then x else if y ≠ 0 then y else z) = c) (b : Nat) (w : World) (h0 : w.cell? ⟨b, 0, none⟩ = some (.int .i64 x)) (h1 : w.cell? ⟨b, 1, none⟩ = some (.int .i64 y)) (h2 : w.cell? ⟨b, 2, none⟩ = some (.int .i64 z)) :
    Calls Try.prog 108 #[.slice (some ⟨b, 0, none⟩) 3 3] w fun e w' => e = .returned (.int .i64 c) ∧ w' = w := by
  subst hc; exact or3 x y z b w h0 h1 h2
theorem cell3 (W : World) (A B : Obj) (vs : Array Value) (T i : Nat) (v : Value) (h : vs[i]? = some v) : (((W.alloc A).alloc B).alloc (.cells vs T)).drew.cell? ⟨W.heap.size + 1 + 1, i, none⟩ = some v := by
  have hb : (((W.heap.push A).push B).push (.cells vs T))[W.heap.size + 1 + 1]? = some (.cells vs T) := by
    rw [Array.getElem?_push, if_pos (by simp)]
  unfold World.cell? World.drew World.alloc
  simp only [hb]
  exact h
theorem compare3 (x y : Arc) (W : World) : Calls Try.prog 87 #[.agg #[.int .i64 x.fr, .int .i64 x.lab, .int .i64 x.to], .agg #[.int .i64 y.fr, .int .i64 y.lab, .int .i64 y.to]] W fun e w' => e = .returned (.int .i64 (cmpArc x y)) ∧ ∃ q os', w' = _root_.Go.Sort.grow (W.drewN q) os' := by
  have hr : (if cmpI x.fr y.fr ≠ 0 then cmpI x.fr y.fr else if cmpI x.lab y.lab ≠ 0 then cmpI x.lab y.lab else cmpI x.to y.to) = cmpArc x y := by
    unfold cmpArc orI
    simp only [List.find?_cons, List.find?_nil]
    by_cases h1 : cmpI x.fr y.fr = 0 <;> by_cases h2 : cmpI x.lab y.lab = 0 <;> by_cases h3 : cmpI x.to y.to = 0 <;> simp [h1, h2, h3]
  go_enter Try.func87, Try.ntmps87
  go_upto_region 1 with fail
  go_region_held3 (fun w' => w'.cell? ⟨W.heap.size, 0, none⟩ = some (.int .i64 x.fr) ∧ w'.cell? ⟨W.heap.size, 1, none⟩ = some (.int .i64 x.lab) ∧ w'.cell? ⟨W.heap.size, 2, none⟩ = some (.int .i64 x.to) ∧ w'.cell? ⟨W.heap.size + 1, 0, none⟩ = some (.int .i64 y.fr) ∧ w'.cell? ⟨W.heap.size + 1, 1, none⟩ = some (.int .i64 y.lab) ∧ w'.cell? ⟨W.heap.size + 1, 2, none⟩ = some (.int .i64 y.to)) (go_keep)
    (first | (go_at_call 109; refine (cmp3 _ _ _).mono ?_; rintro e w' ⟨rfl, rfl⟩) | (go_at_call 108; refine (or3' (cmpI x.fr y.fr) (cmpI x.lab y.lab) (cmpI x.to y.to) (cmpArc x y) hr _ _ ?_ ?_ ?_).mono ?_; exact cell3 _ _ _ _ _ _ _ rfl; exact cell3 _ _ _ _ _ _ _ rfl; exact cell3 _ _ _ _ _ _ _ rfl; rintro e w' ⟨rfl, rfl⟩))

  go_wp2
  go_ret

  exact ⟨by simp, 1, _, by rw [Go.Sort.alloc_eq_grow, Go.Sort.alloc_eq_grow, Go.Sort.alloc_eq_grow, Go.Sort.grow_grow, Go.Sort.grow_grow, Go.Sort.drew_grow]; rfl⟩

shelf_lay_g SlLaysF0.n6 Slsf 6 at Try 104 as Try.sortArc
def arcEnc (x : Arc) : List Value := [.int .i64 x.fr, .int .i64 x.lab, .int .i64 x.to]
theorem sortArc_W (l : List Arc) (hl : l.length < 4611686018427387904) : DoesWS Try.prog 104 (fun v => [v, .func (.func 87) #[] #[]]) (.tuple #[]) 3 93 (l.map arcC) ((sortL l).map arcC) :=
  sortFunc_W (α := Arc) Try.sortArc 3 93 Try.isAgg93 Try.sizeOf93 arcEnc (fun _ => rfl) (fun x v hv => by simp [arcEnc] at hv; rcases hv with rfl | rfl | rfl <;> rfl) cmpArc ltArc_swo ltArc_tot 87 (enters_of Try.func87 (by kernel_rfl) rfl) (fun _ _ _ _ _ _ _ _ x y => compare3 x y _) Try.call104 l hl


end Go.Proofs.Ytohlmcebphcokaa
end

section
/- Walks, written by gen.py out of hints. -/



set_option linter.unusedVariables false
set_option linter.unusedSimpArgs false
namespace Go.Proofs.Ytohlmcebphcokaa
open Go.Eng
set_option maxRecDepth 10000
set_option maxHeartbeats 1000000

theorem slices_Compact_Arc_Arc_W (l : List Arc) (hne : l ≠ []) (hml : (l.length : Int) ≤ 9223372036854775807) : DoesW Try.prog 105 (fun v => [v]) (fun v => v) 3 93 (l.map arcC) ((dd l).map arcC) := by
  have hpos : 0 < l.length := List.length_pos_iff.2 hne
  refine DoesW.of_body (as_ := [.o 0]) Try.func105 rfl rfl (by simp) Try.call105 (fun _ => rfl) (by intro O H w h1 i x s hx hs; rcases i with _ | i <;> simp at hx hs; subst hx; subst hs; exact .o 0 h1) (by simpa using hne) (by simpa using dd_ne hne) (fun O0 Oc W => ?_)
  refine Tr.seq ?_
  refine Tr.region ?_
  refine TrOps.sem (OpSem.move (.inr rfl) rfl) rfl rfl (by decide) ?_
  refine TrOps.nil ?_
  refine At.seq ?_
  refine Tr.seq ?_
  refine Tr.seq ?_
  refine Tr.region ?_
  refine TrOps.sem (OpSem.move (.inl rfl) rfl) rfl rfl (by decide) ?_
  refine TrOps.sem (OpSem.leno rfl rfl rfl es44) rfl rfl (by decide) ?_
  refine TrOps.sem (OpSem.bin rfl rfl rfl blss) rfl rfl (by decide) ?_
  refine TrOps.nil ?_
  refine At.seq ?_
  refine Tr.cond rfl (fun c8 => ?_) (fun c8 => ?_)
  · have hlt : l.length < 2 := by simp at c8; omega
    refine Tr.seq ?_
    refine Tr.region ?_
    refine TrOps.sem (OpSem.move (.inl rfl) rfl) rfl rfl (by decide) ?_
    refine TrOps.sem (OpSem.move (.inr rfl) rfl) rfl rfl (by decide) ?_
    refine TrOps.nil ?_
    refine At.seq ?_
    refine Tr.ret ?_
    refine At.pass_ret ?_
    exact At.retW rfl (.tmp rfl <| .nil) rfl rfl (by simp [plainB]) (by rw [dd_one hlt]) (fun H => rfl)
  · have hge : 2 ≤ l.length := by simp at c8; omega
    refine Tr.skip ?_
    refine At.seq ?_
    refine Tr.seq ?_
    refine Tr.seq ?_
    refine Tr.region ?_
    refine TrOps.sem (OpSem.move (.inr rfl) rfl) rfl rfl (by decide) ?_
    refine TrOps.nil ?_
    refine At.seq ?_
    refine Tr.block ?_
    refine Tr.loop (X := Nat) (fun k => 1 ≤ k ∧ k ≤ l.length ∧ ∀ i : Nat, 0 < i → i < k → nth l i ≠ nth l (i - 1 : Int)) (fun k => [(0, .o 0), (3, I (k))]) (fun k => [(0, .own 3 93 (l.map arcC)), (1000, .fr (frK Oc W))]) (fun k => l.length - k) 1 ⟨by omega, by omega, fun i h0 h1 => by omega⟩ ?_ ?_
    · exact .slot rfl (.refl _) <| .slot rfl (.refl _) <| .mem rfl <| .mem rfl <| .nil
    · rintro k ⟨hk1, hkl, hinv⟩
      refine Tr.seq ?_
      refine Tr.seq ?_
      refine Tr.region ?_
      refine TrOps.sem (OpSem.move (.inl rfl) rfl) rfl rfl (by decide) ?_
      refine TrOps.sem (OpSem.move (.inl rfl) rfl) rfl rfl (by decide) ?_
      refine TrOps.sem (OpSem.leno rfl rfl rfl es44) rfl rfl (by decide) ?_
      refine TrOps.sem (OpSem.bin rfl rfl rfl blss) rfl rfl (by decide) ?_
      refine TrOps.nil ?_
      refine At.seq ?_
      refine Tr.cond rfl (fun c13 => ?_) (fun c13 => ?_)
      · have hk : k < l.length := by simpa using c13
        refine Tr.skip ?_
        refine At.seq ?_
        refine Tr.seq ?_
        refine Tr.block ?_
        refine Tr.seq ?_
        refine PC.start [] ?_
        refine PC.sem (OpSem.move (.inl rfl) rfl) rfl rfl ?_
        refine PC.sem (OpSem.move (.inl rfl) rfl) rfl rfl ?_
        refine PC.sem (OpSem.idxo rfl rfl rfl rfl es44 (by omega) (by simp; omega)) rfl rfl ?_
        refine PC.sem (OpSem.loadqN (r := arcC (nth l k)) rfl rfl rfl vs93 (arcs_at (by omega) (by omega))) rfl rfl ?_
        refine PC.sem (OpSem.move (.inl rfl) rfl) rfl rfl ?_
        refine PC.sem (OpSem.move (.inl rfl) rfl) rfl rfl ?_
        refine PC.sem (OpSem.bin rfl rfl rfl (bsub (by omega) (by omega))) rfl rfl ?_
        refine PC.sem (OpSem.idxo rfl rfl rfl rfl es44 (by omega) (by simp; omega)) rfl rfl ?_
        refine PC.sem (OpSem.loadqN (r := arcC (nth l (k - 1 : Int))) rfl rfl rfl vs93 (arcs_at (by omega) (by omega))) rfl rfl ?_
        refine PC.done0 mixed (by kernel_rfl) (by kernel_rfl) (by kernel_rfl) (by kernel_rfl) (by kernel_rfl) ?_
        refine TrOps.sem (OpSem.eqS3 rfl rfl rfl io93) rfl rfl (by decide) ?_
        refine TrOps.nil ?_
        refine At.seq ?_
        refine Tr.cond rfl (fun c25 => ?_) (fun c25 => ?_)
        · have hdu : nth l k = nth l (k - 1 : Int) := arc_ext3 (by simpa using c25)
          have hk0 : (ddTo l (k + 1)).length = k := by rw [show ddTo l (k + 1) = ddTo l k from if_pos ⟨by omega, hdu⟩, ddTo_take (by omega) hinv]; simp; omega
          refine Tr.seq ?_
          refine Tr.region ?_
          refine TrOps.sem (OpSem.move (.inl rfl) rfl) rfl rfl (by decide) ?_
          refine TrOps.sem (OpSem.move (.inl rfl) rfl) rfl rfl (by decide) ?_
          refine TrOps.sem (OpSem.sliceoL rfl rfl rfl rfl es44 (by omega) (by simp; omega)) rfl rfl (by decide) ?_
          refine TrOps.sem (OpSem.move (.inr rfl) rfl) rfl rfl (by decide) ?_
          refine TrOps.nil ?_
          refine At.seq ?_
          refine Tr.seq ?_
          refine Tr.seq ?_
          refine Tr.region ?_
          refine TrOps.sem (OpSem.move (.inr rfl) rfl) rfl rfl (by decide) ?_
          refine TrOps.nil ?_
          refine At.seq ?_
          refine Tr.block ?_
          refine Tr.loop (X := Nat) (fun j => k + j + 1 ≤ l.length) (fun j => [(0, .o 0), (3, I (((ddTo l (k + j + 1)).length : Int))), (4, .w 0 3 k (l.length - k)), (5, I (((j + 1 : Nat) : Int)))]) (fun j => [(0, .own 3 93 ((dmTo l k j).map arcC)), (1000, .fr (frK Oc W))]) (fun j => l.length - (k + j + 1)) 0 (by omega) ?_ ?_
          · exact .slot rfl (.refl _) <| .slot rfl (Le.i (by rw [Nat.add_zero, hk0])) <| .slot rfl (Le.of_eq (by simp)) <| .slot rfl (Le.of_eq (by simp)) <| .memEq rfl (by simp [dmTo]) <| .mem rfl <| .nil
          · rintro j hjl
            refine Tr.seq ?_
            refine Tr.seq ?_
            refine Tr.region ?_
            refine TrOps.sem (OpSem.move (.inl rfl) rfl) rfl rfl (by decide) ?_
            refine TrOps.sem (OpSem.move (.inl rfl) rfl) rfl rfl (by decide) ?_
            refine TrOps.sem (OpSem.lenw rfl rfl es44) rfl rfl (by decide) ?_
            refine TrOps.sem (OpSem.bin rfl rfl rfl blss) rfl rfl (by decide) ?_
            refine TrOps.nil ?_
            refine At.seq ?_
            refine Tr.cond rfl (fun c32 => ?_) (fun c32 => ?_)
            · have hj : k + j + 1 < l.length := by simp at c32; omega
              have hdl := dk_len (by omega) hdu (j := j)
              have a1 := dmTo_at (by omega) hdu (i := k + j + 1) (j := j) (by omega)
              have a2 := dmTo_at (by omega) hdu (i := k + j) (j := j) (by omega)
              refine Tr.skip ?_
              refine At.seq ?_
              refine Tr.seq ?_
              refine Tr.block ?_
              refine Tr.seq ?_
              refine PC.start [] ?_
              refine PC.sem (OpSem.move (.inl rfl) rfl) rfl rfl ?_
              refine PC.sem (OpSem.move (.inl rfl) rfl) rfl rfl ?_
              refine PC.sem (OpSem.idxw rfl rfl rfl es44 (by omega) (by omega)) rfl rfl ?_
              refine PC.sem (OpSem.loadqN (r := arcC (nth l (k + j + 1 : Nat))) rfl rfl rfl vs93 (arcs_dm a1 (by rw [dmTo_len]; omega) (by omega))) rfl rfl ?_
              refine PC.sem (OpSem.move (.inl rfl) rfl) rfl rfl ?_
              refine PC.sem (OpSem.move (.inl rfl) rfl) rfl rfl ?_
              refine PC.sem (OpSem.bin rfl rfl rfl (bsub (by omega) (by omega))) rfl rfl ?_
              refine PC.sem (OpSem.idxw rfl rfl rfl es44 (by omega) (by omega)) rfl rfl ?_
              refine PC.sem (OpSem.loadqN (r := arcC (nth l (k + j : Nat))) rfl rfl rfl vs93 (arcs_dm a2 (by rw [dmTo_len]; omega) (by omega))) rfl rfl ?_
              refine PC.done0 mixed (by kernel_rfl) (by kernel_rfl) (by kernel_rfl) (by kernel_rfl) (by kernel_rfl) ?_
              refine TrOps.sem (OpSem.neS3 rfl rfl rfl io93) rfl rfl (by decide) ?_
              refine TrOps.nil ?_
              refine At.seq ?_
              refine Tr.cond rfl (fun c44 => ?_) (fun c44 => ?_)
              · have hnq : nth l (k + j + 1 : Nat) ≠ nth l (k + j : Nat) := fun h => by rw [h] at c44; simp at c44
                refine Tr.seq ?_
                refine Tr.region ?_
                refine TrOps.sem (OpSem.move (.inl rfl) rfl) rfl rfl (by decide) ?_
                refine TrOps.sem (OpSem.move (.inl rfl) rfl) rfl rfl (by decide) ?_
                refine TrOps.sem (OpSem.move (.inl rfl) rfl) rfl rfl (by decide) ?_
                refine TrOps.sem (OpSem.move (.inl rfl) rfl) rfl rfl (by decide) ?_
                refine TrOps.sem (OpSem.idxw rfl rfl rfl es44 (by omega) (by omega)) rfl rfl (by decide) ?_
                refine TrOps.sem (OpSem.loadqN (r := arcC (nth l (k + j + 1 : Nat))) rfl rfl rfl vs93 (arcs_dm a1 (by rw [dmTo_len]; omega) (by omega))) rfl rfl (by decide) ?_
                refine TrOps.sem (OpSem.idxo rfl rfl rfl rfl es44 (by omega) (by simp [dmTo_len]; omega)) rfl rfl (by decide) ?_
                refine TrOps.ofSt0 (OpSt.storeqN (r' := arcC (nth l (k + j + 1 : Nat))) rfl rfl rfl rfl vs93 (by simp [dmTo_len]; omega) rfl) rfl rfl rfl ?_
                refine TrOps.nil ?_
                refine At.seq ?_
                refine Tr.region ?_
                refine TrOps.sem (OpSem.move (.inl rfl) rfl) rfl rfl (by decide) ?_
                refine TrOps.sem (OpSem.bin rfl rfl rfl (badd (by omega) (by omega))) rfl rfl (by decide) ?_
                refine TrOps.sem (OpSem.move (.inr rfl) rfl) rfl rfl (by decide) ?_
                refine TrOps.nil ?_
                refine At.block_normal ?_
                refine At.seq ?_
                refine Tr.region ?_
                refine TrOps.sem (OpSem.move (.inl rfl) rfl) rfl rfl (by decide) ?_
                refine TrOps.sem (OpSem.bin rfl rfl rfl (badd (by omega) (by omega))) rfl rfl (by decide) ?_
                refine TrOps.sem (OpSem.move (.inr rfl) rfl) rfl rfl (by decide) ?_
                refine TrOps.nil ?_
                refine At.again (j + 1) (by omega) ?_ (by omega)
                exact .slot rfl (.refl _) <| .slot rfl (Le.i (by rw [ddTo_step (by omega) hdu, if_neg hnq]; simp)) <| .slot rfl (.refl _) <| .slot rfl (Le.i (by omega)) <| .memEq rfl (by rw [dmTo_s (k := k) (j := j) hnq]; exact congrArg _ (map_set3 (L := dmTo l k j) (n := (ddTo l (k + j + 1)).length) (by rw [dmTo_len (l := l) (k0 := k) (j := j)]; omega)).symm) <| .mem rfl <| .nil
              · have hq : nth l (k + j + 1 : Nat) = nth l (k + j : Nat) := arc_ext3 (by simpa using c44)
                refine Tr.skip ?_
                refine At.block_normal ?_
                refine At.seq ?_
                refine Tr.region ?_
                refine TrOps.sem (OpSem.move (.inl rfl) rfl) rfl rfl (by decide) ?_
                refine TrOps.sem (OpSem.bin rfl rfl rfl (badd (by omega) (by omega))) rfl rfl (by decide) ?_
                refine TrOps.sem (OpSem.move (.inr rfl) rfl) rfl rfl (by decide) ?_
                refine TrOps.nil ?_
                refine At.again (j + 1) (by omega) ?_ (by omega)
                exact .slot rfl (.refl _) <| .slot rfl (Le.i (by rw [ddTo_step (by omega) hdu, if_pos hq])) <| .slot rfl (.refl _) <| .slot rfl (Le.i (by omega)) <| .memEq rfl (by rw [dmTo_e (k := k) (j := j) hq]) <| .mem rfl <| .nil
            · have hj : k + j + 1 = l.length := by simp at c32; omega
              have hdl := dk_len (by omega) hdu (j := j)
              refine Tr.exit ?_
              refine At.pass_exit ?_
              refine At.pass_exit ?_
              refine At.block_same ?_
              refine At.seq ?_
              refine Tr.seq ?_
              refine Tr.region ?_
              refine TrOps.sem (OpSem.move (.inl rfl) rfl) rfl rfl (by decide) ?_
              refine TrOps.sem (OpSem.move (.inl rfl) rfl) rfl rfl (by decide) ?_
              refine TrOps.sem (OpSem.sliceoL rfl rfl rfl rfl es44 (by omega) (by simp [dmTo_len]; omega)) rfl rfl (by decide) ?_
              refine TrOps.ofSt0 (OpSt.clearW rfl rfl es44 ze44 rfl rfl (by decide) (by simp [dmTo_len]; omega)) rfl rfl rfl ?_
              refine TrOps.nil ?_
              refine At.seq ?_
              refine Tr.seq ?_
              refine Tr.region ?_
              refine TrOps.sem (OpSem.move (.inl rfl) rfl) rfl rfl (by decide) ?_
              refine TrOps.sem (OpSem.move (.inl rfl) rfl) rfl rfl (by decide) ?_
              refine TrOps.semM (OpSem.cutO rfl rfl rfl rfl es44 (by omega) (by simp [dmTo_len]; omega) (by simp [dmTo_len]; omega)) rfl rfl (by decide) ?_
              refine TrOps.sem (OpSem.move (.inr rfl) rfl) rfl rfl (by decide) ?_
              refine TrOps.nil ?_
              refine At.seq ?_
              refine Tr.ret ?_
              refine At.block_ret ?_
              refine At.pass_ret ?_
              refine At.pass_ret ?_
              refine At.block_ret ?_
              refine At.pass_ret ?_
              exact At.retW rfl (.tmp rfl <| .nil) rfl rfl (by rw [cut_dd (by omega) hdu hk hinv hj]; exact plain_arcs _) (cut_dd (by omega) hdu hk hinv hj) (fun H => rfl)
        · have hdu : nth l k ≠ nth l (k - 1 : Int) := fun h => by rw [h] at c25; simp at c25
          refine Tr.skip ?_
          refine At.block_normal ?_
          refine At.seq ?_
          refine Tr.region ?_
          refine TrOps.sem (OpSem.move (.inl rfl) rfl) rfl rfl (by decide) ?_
          refine TrOps.sem (OpSem.bin rfl rfl rfl (badd (by omega) (by omega))) rfl rfl (by decide) ?_
          refine TrOps.sem (OpSem.move (.inr rfl) rfl) rfl rfl (by decide) ?_
          refine TrOps.nil ?_
          refine At.again (k + 1) ⟨by omega, by omega, fun i h0 hi => by by_cases h : i = k; (subst h; exact hdu); exact hinv i h0 (by omega)⟩ ?_ (by omega)
          exact .slot rfl (.refl _) <| .slot rfl (Le.i (by omega)) <| .mem rfl <| .mem rfl <| .nil
      · have hk : k = l.length := by simp at c13; omega
        refine Tr.exit ?_
        refine At.pass_exit ?_
        refine At.pass_exit ?_
        refine At.block_same ?_
        refine At.seq ?_
        refine Tr.seq ?_
        refine Tr.region ?_
        refine TrOps.sem (OpSem.move (.inl rfl) rfl) rfl rfl (by decide) ?_
        refine TrOps.sem (OpSem.move (.inr rfl) rfl) rfl rfl (by decide) ?_
        refine TrOps.nil ?_
        refine At.seq ?_
        refine Tr.ret ?_
        exact At.retW rfl (.tmp rfl <| .nil) rfl rfl (by simp [plainB]) (by rw [dd_all (by rw [← hk]; exact hinv)]) (fun H => rfl)

end Go.Proofs.Ytohlmcebphcokaa
end

section
/- Walks, written by gen.py out of hints. -/


set_option linter.unusedVariables false
set_option linter.unusedSimpArgs false
namespace Go.Proofs.Ytohlmcebphcokaa
open Go.Eng
set_option maxRecDepth 10000
set_option maxHeartbeats 1000000

theorem abstraction_Sorted_W (l : List Arc) (st lab ini : Int) (gv : Value) (hgv : gv.oneCell' = true) (hne : l ≠ []) (hml : (l.length : Int) < 4611686018427387904) : DoesW Try.prog 74 (fun v => [.agg #[.int .i64 st, .int .i64 lab, v, .int .i64 ini, gv]]) (fun v => .agg #[.int .i64 st, .int .i64 lab, v, .int .i64 ini, gv]) 3 93 (l.map arcC) ((dd (sortL l)).map arcC) := by
  have hsn : sortL l ≠ [] := fun h => hne (List.length_eq_zero_iff.1 (by rw [← sortL_len, h]; rfl))
  refine DoesW.of_body (as_ := [.g [I (st), I (lab), .o 0, I (ini), .d (.v gv)]]) Try.func74 rfl rfl (by simp) Try.call74 (fun _ => rfl) (by intro O H w h1 i x s hx hs; rcases i with _ | i <;> simp at hx hs; subst hx; subst hs; exact repAbsV h1 hgv) (by simpa using hne) (by simpa using dd_ne hsn) (fun O0 Oc W => ?_)
  refine Tr.seq ?_
  refine Tr.region ?_
  refine TrOps.semM (OpSem.box 1 rfl rfl rfl rfl) rfl rfl (by decide) ?_
  refine TrOps.semM (OpSem.alloc 2 rfl zc46 rfl) rfl rfl (by decide) ?_
  refine TrOps.nil ?_
  refine At.seq ?_
  refine Tr.seq ?_
  refine Tr.region ?_
  refine TrOps.sem (OpSem.fieldr rfl rfl fo46_2) rfl rfl (by decide) ?_
  refine TrOps.sem (OpSem.loadb1 rfl rfl rfl vs44 rfl) rfl rfl (by decide) ?_
  refine TrOps.ofSt (OpSt.callWS (s := .t []) (sortArc_W l (by omega)) rfl rfl rfl (fun H => rfl) (plain_arcs _) (fun O H w => .t [] [] rfl (fun i x s h => by simp at h))) rfl rfl rfl (by decide) ?_
  refine TrOps.nil ?_
  refine At.seq ?_
  refine Tr.seq ?_
  refine Tr.region ?_
  refine TrOps.sem (OpSem.fieldr rfl rfl fo46_2) rfl rfl (by decide) ?_
  refine TrOps.sem (OpSem.loadb1 rfl rfl rfl vs44 rfl) rfl rfl (by decide) ?_
  refine TrOps.callW (s := .o 0) (slices_Compact_Arc_Arc_W (sortL l) hsn (by rw [sortL_len]; omega)) rfl rfl rfl (by decide) rfl rfl rfl (fun H => rfl) (plain_arcs _) (fun O H w h1 => .o 0 h1) ?_
  refine TrOps.sem (OpSem.fieldr rfl rfl fo46_2) rfl rfl (by decide) ?_
  refine TrOps.storeb rfl rfl rfl rfl rfl rfl rfl vs44 (by first | decide | simp) ?_
  refine TrOps.nil ?_
  refine At.seq ?_
  refine Tr.seq ?_
  refine Tr.region ?_
  refine TrOps.sem (OpSem.loadbN rfl rfl rfl vs46 (by first | decide | simp)) rfl rfl (by decide) ?_
  refine TrOps.storeb rfl rfl rfl rfl rfl rfl rfl vs46 (by first | decide | simp) ?_
  refine TrOps.nil ?_
  refine At.seq ?_
  refine Tr.ret ?_
  exact At.retW rfl (.cellN rfl rfl vs46 <| .nil) rfl rfl (plain_arcs _) (rfl) (fun H => rfl)

end Go.Proofs.Ytohlmcebphcokaa
end

section
/- Walks, written by gen.py out of hints. -/


set_option linter.unusedVariables false
set_option linter.unusedSimpArgs false
namespace Go.Proofs.Ytohlmcebphcokaa
open Go.Eng
set_option maxRecDepth 10000
set_option maxHeartbeats 1000000


open Go.Shelf Go.RowKit Go.Lib
theorem compact_nil (p : Option Addr) (cap : Nat) (w : World) : Calls Try.prog 105 #[.slice p 0 cap] w fun e w' => e = .returned (.slice p 0 cap) ∧ w' = w := by
  go_enter Try.func105, Try.ntmps105
  go_wp2
  go_ret
  exact ⟨by simp, rfl⟩
theorem heap_at (w : World) (A B : Obj) : ((w.alloc A).alloc B).heap[w.heap.size + 1]? = some B := by
  have h := heap_alloc_new (w.alloc A) B
  have e : (w.alloc A).heap.size = w.heap.size + 1 := by show (w.heap.push A).size = _; simp
  rw [e] at h; exact h
theorem sorted_nil (st lab ini : Int) (q : Option Addr) (n c : Nat) (p : Option Addr) (cap : Nat) (w : World) : Calls Try.prog 74 #[.agg #[.int .i64 st, .int .i64 lab, .slice p 0 cap, .int .i64 ini, .slice q n c]] w fun e w' => e = .returned (.agg #[.int .i64 st, .int .i64 lab, .slice p 0 cap, .int .i64 ini, .slice q n c]) ∧ ∃ os, w' = Go.Sort.grow w os := by
  go_enter Try.func74, Try.ntmps74
  go_wp2_with (first | (go_at_call 104; refine (AnyF.slices_SortFunc_none Try.sortArc p cap _ _).mono ?_; rintro e w' ⟨rfl, rfl⟩) | (go_at_call 105; refine (compact_nil p cap _).mono ?_; rintro e w' ⟨rfl, rfl⟩))
  refine bodyPost_ret (results_cell_row rfl _ _ (w.heap.size + 1) 46 _ (0, 0) _ rfl (heap_at _ _ _) rfl rfl (by kernel_rfl)) rfl ?_
  exact ⟨by simp, _, by rw [Go.Sort.alloc_eq_grow, Go.Sort.alloc_eq_grow, Go.Sort.grow_grow]⟩
theorem sorted_all (l : List Arc) (st lab ini : Int) (q : Option Addr) (n c : Nat) (hml : (l.length : Int) < 4611686018427387904) :
    DoesW Try.prog 74 (fun v => [.agg #[.int .i64 st, .int .i64 lab, v, .int .i64 ini, .slice q n c]]) (fun v => .agg #[.int .i64 st, .int .i64 lab, v, .int .i64 ini, .slice q n c]) 3 93 (l.map arcC) ((dd (sortL l)).map arcC) := by
  by_cases hne : l = []
  · subst hne
    refine ⟨Try.call74, fun w v hv => ?_⟩
    have he : ∃ p cap, v = .slice p 0 cap := by
      rcases hv with ⟨rfl, _⟩ | ⟨b, cap, xs, rfl, _⟩
      · exact ⟨_, _, rfl⟩
      · exact ⟨_, _, rfl⟩
    obtain ⟨p, cap, rfl⟩ := he
    refine (sorted_nil st lab ini q n c p cap w).mono ?_
    rintro e w' ⟨rfl, os, rfl⟩
    have hg : ∀ b, b < w.heap.size → (Go.Sort.grow w os).heap[b]? = w.heap[b]? := fun b hb => by
      unfold Go.Sort.grow
      show (w.heap ++ os)[b]? = _
      rw [Array.getElem?_append_left hb]
    refine ⟨_, rfl, ⟨rfl, rfl, rfl, by rw [Go.Sort.size_grow]; omega, fun b hb _ => hg b hb⟩, ?_, .inr (.inl rfl)⟩
    have e0 : dd (sortL ([] : List Arc)) = [] := by simp [sortL, sortBy, dd, ddTo]
    rw [e0]
    rcases hv with h | ⟨b, cap', xs, h1, h2, h3, h4⟩
    · exact .inl h
    · exact .inr ⟨b, cap', xs, h1, h2, by rw [hg b (Array.getElem?_eq_some_iff.1 h3).1]; exact h3, h4⟩
  · exact abstraction_Sorted_W l st lab ini (.slice q n c) rfl hne hml


end Go.Proofs.Ytohlmcebphcokaa
end

section
/- Walks, written by gen.py out of hints. -/





set_option linter.unusedVariables false
set_option linter.unusedSimpArgs false
namespace Go.Proofs.Ytohlmcebphcokaa
open Go.Eng
set_option maxRecDepth 10000
set_option maxHeartbeats 1000000

theorem labels_Apply_1_does (x : Int) (a : Abs) : Does Try.prog false 73 [I (x), .p [.v (.int .i64 a.states), .v (.int .i64 a.labels), arcsD a.arcs, .v (.int .i64 a.init), ints a.goals]] (Bo (decide (x < 0 ∨ a.labels ≤ x))) := by
  refine Does.of_body Try.func73 rfl rfl (by simp) Try.call73 (fun w0 O0 => ?_)
  refine Tr.seq ?_
  refine Tr.region ?_
  refine TrOps.sem (OpSem.move (.inr rfl) rfl) rfl rfl (by decide) ?_
  refine TrOps.nil ?_
  refine At.seq ?_
  refine Tr.seq ?_
  refine Tr.region ?_
  refine TrOps.sem (OpSem.move (.inl rfl) rfl) rfl rfl (by decide) ?_
  refine TrOps.sem (OpSem.bin rfl rfl rfl blss) rfl rfl (by decide) ?_
  refine TrOps.sem (OpSem.move (.inl rfl) rfl) rfl rfl (by decide) ?_
  refine TrOps.split (n := 6) rfl (fun c6 => ?_) (fun c6 => ?_)
  · refine TrOps.gF rfl rfl rfl rfl c6 rfl (by decide) ?_
    refine TrOps.gF rfl rfl rfl rfl c6 rfl (by decide) ?_
    refine TrOps.gF rfl rfl rfl rfl c6 rfl (by decide) ?_
    refine TrOps.gF rfl rfl rfl rfl c6 rfl (by decide) ?_
    refine TrOps.sem (OpSem.pickT rfl rfl c6 rfl) rfl rfl (by decide) ?_
    refine TrOps.sem (OpSem.move (.inr rfl) rfl) rfl rfl (by decide) ?_
    refine TrOps.nil ?_
    refine At.seq ?_
    refine Tr.ret ?_
    exact At.ret rfl (.tmp rfl <| .nil) rfl (Le.bo (by simp at *; omega))
  · refine TrOps.gT rfl rfl rfl rfl c6 ?_
    refine TrOps.sem (OpSem.move (.inl rfl) rfl) rfl rfl (by decide) ?_
    refine TrOps.gT rfl rfl rfl rfl c6 ?_
    refine TrOps.sem (OpSem.fieldp rfl rfl fo46_1) rfl rfl (by decide) ?_
    refine TrOps.gT rfl rfl rfl rfl c6 ?_
    refine TrOps.sem (OpSem.load1 rfl rfl vs3 rfl) rfl rfl (by decide) ?_
    refine TrOps.gT rfl rfl rfl rfl c6 ?_
    refine TrOps.sem (OpSem.bin rfl rfl rfl bgeq) rfl rfl (by decide) ?_
    refine TrOps.sem (OpSem.pickF rfl rfl c6 rfl) rfl rfl (by decide) ?_
    refine TrOps.sem (OpSem.move (.inr rfl) rfl) rfl rfl (by decide) ?_
    refine TrOps.nil ?_
    refine At.seq ?_
    refine Tr.ret ?_
    exact At.ret rfl (.tmp rfl <| .nil) rfl (Le.bo (by simp at *; omega))

theorem labels_Apply_does (a : Abs) (to : List Int) (hr : -9223372036854775808 ≤ a.states ∧ a.states ≤ 9223372036854775807) : Does Try.prog false 38 [absS a, .d (ints to)] (.t [absS (aplR a to), flt (aplF a to)]) := by
  refine Does.of_body Try.func38 rfl rfl (by simp) Try.call38 (fun w0 O0 => ?_)
  refine Tr.lenG (n := 0) (i := 2) rfl rfl (fun len0_2 => ?_)
  refine Tr.lenG (n := 0) (i := 4) rfl rfl (fun len0_4 => ?_)
  refine Tr.lenLe (n := 1) rfl (fun len1 => ?_)
  refine Tr.seq ?_
  refine Tr.region ?_
  refine TrOps.semM (OpSem.box 2 rfl rfl rfl rfl) rfl rfl (by decide) ?_
  refine TrOps.semM (OpSem.alloc 4 rfl zc46 rfl) rfl rfl (by decide) ?_
  refine TrOps.semM (OpSem.alloc 5 rfl zc29 rfl) rfl rfl (by decide) ?_
  refine TrOps.nil ?_
  refine At.seq ?_
  refine Tr.seq ?_
  refine Tr.region ?_
  refine TrOps.sem (OpSem.loadbN rfl rfl rfl vs46 (by first | decide | simp)) rfl rfl (by decide) ?_
  refine TrOps.sem (OpSem.call0 (abstraction_Validate_does a hr) rfl rfl rfl rfl (Les.refl _)) rfl rfl (by decide) ?_
  refine TrOps.semM (OpSem.alloc 6 rfl zc29 rfl) rfl rfl (by decide) ?_
  refine TrOps.storeb rfl rfl rfl rfl rfl rfl rfl vs29 (by first | decide | simp) ?_
  refine TrOps.nil ?_
  refine At.seq ?_
  refine Tr.cut [(1, .d (ints to)), (2, .r 2 0), (4, .r 4 0), (5, .r 5 0), (6, .r 6 0)] [(2, .box [I (a.states), I (a.labels), .d (arcsD a.arcs), I (a.init), .d (ints a.goals)]), (4, .box [I (0), I (0), .d (.v (.slice none 0 0)), I (0), .d (.v (.slice none 0 0))]), (5, .box [I (0), I (0)]), (6, .box [I ((aplF1 a to).1), I ((aplF1 a to).2)])] ?_ ?_
  · refine Tr.seq ?_
    refine Tr.region ?_
    refine TrOps.sem (OpSem.loadbN rfl rfl rfl vs29 (by first | decide | simp)) rfl rfl (by decide) ?_
    refine TrOps.sem (OpSem.build rfl rfl pl29 zc29 rfl rfl) rfl rfl (by decide) ?_
    refine TrOps.sem (OpSem.eqS2 rfl rfl rfl io29) rfl rfl (by decide) ?_
    refine TrOps.sem (OpSem.move (.inl rfl) rfl) rfl rfl (by decide) ?_
    refine TrOps.split (n := 15) rfl (fun c15 => ?_) (fun c15 => ?_)
    · refine TrOps.gT rfl rfl rfl rfl c15 ?_
      refine TrOps.sem (OpSem.move (.inl rfl) rfl) rfl rfl (by decide) ?_
      refine TrOps.gT rfl rfl rfl rfl c15 ?_
      refine TrOps.sem (OpSem.lenL rfl rfl es22) rfl rfl (by decide) ?_
      refine TrOps.gT rfl rfl rfl rfl c15 ?_
      refine TrOps.sem (OpSem.fieldr rfl rfl fo46_1) rfl rfl (by decide) ?_
      refine TrOps.gT rfl rfl rfl rfl c15 ?_
      refine TrOps.sem (OpSem.loadb1 rfl rfl rfl vs3 rfl) rfl rfl (by decide) ?_
      refine TrOps.gT rfl rfl rfl rfl c15 ?_
      refine TrOps.sem (OpSem.bin rfl rfl rfl bneq) rfl rfl (by decide) ?_
      refine TrOps.sem (OpSem.pickT rfl rfl c15 rfl) rfl rfl (by decide) ?_
      refine TrOps.nil ?_
      refine At.seq ?_
      refine Tr.cond rfl (fun c21 => ?_) (fun c21 => ?_)
      · refine Tr.region ?_
        refine TrOps.sem (OpSem.build rfl rfl pl29 zc29 rfl rfl) rfl rfl (by decide) ?_
        refine TrOps.storeb rfl rfl rfl rfl rfl rfl rfl vs29 (by first | decide | simp) ?_
        refine TrOps.nil ?_
        have he := (aplF1_len (to := to) (pair0 (f := absFault a) (by simpa using c15)) (by simpa using c21)).symm
        refine At.meet ?_
        exact .slot rfl (.refl _) <| .slot rfl (.refl _) <| .slot rfl (.refl _) <| .slot rfl (.refl _) <| .slot rfl (.refl _) <| .mem rfl <| .mem rfl <| .mem rfl <| .boxLe rfl (.cons (Le.i (congrArg Prod.fst (he))) <| .cons (Le.i (congrArg Prod.snd (he))) <| .nil) <| .nil
      · refine Tr.skip ?_
        have he := (aplF1_ok (to := to) (pair0 (f := absFault a) (by simpa using c15)) (by simpa using c21)).symm
        rw [pair0 (f := absFault a) (by simpa using c15)]
        refine At.meet ?_
        exact .slot rfl (.refl _) <| .slot rfl (.refl _) <| .slot rfl (.refl _) <| .slot rfl (.refl _) <| .slot rfl (.refl _) <| .mem rfl <| .mem rfl <| .mem rfl <| .boxLe rfl (.cons (Le.i (congrArg Prod.fst (he))) <| .cons (Le.i (congrArg Prod.snd (he))) <| .nil) <| .nil
    · refine TrOps.gF rfl rfl rfl rfl c15 rfl (by decide) ?_
      refine TrOps.gF rfl rfl rfl rfl c15 rfl (by decide) ?_
      refine TrOps.gF rfl rfl rfl rfl c15 rfl (by decide) ?_
      refine TrOps.gF rfl rfl rfl rfl c15 rfl (by decide) ?_
      refine TrOps.gF rfl rfl rfl rfl c15 rfl (by decide) ?_
      refine TrOps.sem (OpSem.pickF rfl rfl c15 rfl) rfl rfl (by decide) ?_
      refine TrOps.nil ?_
      refine At.seq ?_
      refine Tr.condF rfl rfl ?_
      refine Tr.skip ?_
      have he := (aplF1_bad (a := a) (to := to) (fun h => by rw [h] at c15; simp at c15)).symm
      refine At.meet ?_
      exact .slot rfl (.refl _) <| .slot rfl (.refl _) <| .slot rfl (.refl _) <| .slot rfl (.refl _) <| .slot rfl (.refl _) <| .mem rfl <| .mem rfl <| .mem rfl <| .boxLe rfl (.cons (Le.i (congrArg Prod.fst (he))) <| .cons (Le.i (congrArg Prod.snd (he))) <| .nil) <| .nil
  · refine Tr.cut [(1, .d (ints to)), (2, .p [.v (.int .i64 a.states), .v (.int .i64 a.labels), arcsD a.arcs, .v (.int .i64 a.init), ints a.goals]), (4, .r 4 0), (5, .r 5 0), (6, .r 6 0)] [(4, .box [I (0), I (0), .d (.v (.slice none 0 0)), I (0), .d (.v (.slice none 0 0))]), (5, .box [I (0), I (0)]), (6, .box [I ((aplF a to).1), I ((aplF a to).2)])] ?_ ?_
    · refine Tr.seq ?_
      refine Tr.freezeR 2 rfl rfl ?_
      refine Tr.region ?_
      refine TrOps.sem (OpSem.loadbN rfl rfl rfl vs29 (by first | decide | simp)) rfl rfl (by decide) ?_
      refine TrOps.sem (OpSem.build rfl rfl pl29 zc29 rfl rfl) rfl rfl (by decide) ?_
      refine TrOps.sem (OpSem.eqS2 rfl rfl rfl io29) rfl rfl (by decide) ?_
      refine TrOps.sem (OpSem.move (.inl rfl) rfl) rfl rfl (by decide) ?_
      refine TrOps.split (n := 26) rfl (fun c26 => ?_) (fun c26 => ?_)
      · refine TrOps.gT rfl rfl rfl rfl c26 ?_
        refine TrOps.sem (OpSem.move (.inl rfl) rfl) rfl rfl (by decide) ?_
        refine TrOps.gT rfl rfl rfl rfl c26 ?_
        refine TrOps.sem (OpSem.makeFunc rfl rfl rfl) rfl rfl (by decide) ?_
        refine TrOps.gT rfl rfl rfl rfl c26 ?_
        refine TrOps.sem (OpSem.call (slices_ContainsFunc_int_int_does to 73 [.p [.v (.int .i64 a.states), .v (.int .i64 a.labels), arcsD a.arcs, .v (.int .i64 a.init), ints a.goals]] (fun x => decide (x < 0 ∨ a.labels ≤ x)) (caught_p _) (fun x _ => labels_Apply_1_does x a)) (.inr rfl) rfl rfl rfl rfl (Les.refl _)) rfl rfl (by decide) ?_
        refine TrOps.sem (OpSem.pickT rfl rfl c26 rfl) rfl rfl (by decide) ?_
        refine TrOps.nil ?_
        refine At.seq ?_
        refine Tr.cond rfl (fun c30 => ?_) (fun c30 => ?_)
        · refine Tr.region ?_
          refine TrOps.sem (OpSem.build rfl rfl pl29 zc29 rfl rfl) rfl rfl (by decide) ?_
          refine TrOps.storeb rfl rfl rfl rfl rfl rfl rfl vs29 (by first | decide | simp) ?_
          refine TrOps.nil ?_
          have he := (aplF_rng (a := a) (to := to) (pair0 (by simpa using c26)) (by simpa using c30)).symm
          refine At.meet ?_
          exact .slot rfl (.refl _) <| .slot rfl (.refl _) <| .slot rfl (.refl _) <| .slot rfl (.refl _) <| .slot rfl (.refl _) <| .mem rfl <| .mem rfl <| .boxLe rfl (.cons (Le.i (congrArg Prod.fst (he))) <| .cons (Le.i (congrArg Prod.snd (he))) <| .nil) <| .nil
        · refine Tr.skip ?_
          have he := (aplF_ok (a := a) (to := to) (pair0 (by simpa using c26)) (by simpa using c30)).symm
          refine At.meet ?_
          exact .slot rfl (.refl _) <| .slot rfl (.refl _) <| .slot rfl (.refl _) <| .slot rfl (.refl _) <| .slot rfl (.refl _) <| .mem rfl <| .mem rfl <| .boxLe rfl (.cons (Le.i (congrArg Prod.fst ((by rw [← he]; exact pair0 (by simpa using c26))))) <| .cons (Le.i (congrArg Prod.snd ((by rw [← he]; exact pair0 (by simpa using c26))))) <| .nil) <| .nil
      · refine TrOps.gF rfl rfl rfl rfl c26 rfl (by decide) ?_
        refine TrOps.gF rfl rfl rfl rfl c26 rfl (by decide) ?_
        refine TrOps.gF rfl rfl rfl rfl c26 rfl (by decide) ?_
        refine TrOps.sem (OpSem.pickF rfl rfl c26 rfl) rfl rfl (by decide) ?_
        refine TrOps.nil ?_
        refine At.seq ?_
        refine Tr.condF rfl rfl ?_
        refine Tr.skip ?_
        have he := (aplF_bad (a := a) (to := to) (fun h => by rw [h] at c26; simp at c26)).symm
        refine At.meet ?_
        exact .slot rfl (.refl _) <| .slot rfl (.refl _) <| .slot rfl (.refl _) <| .slot rfl (.refl _) <| .slot rfl (.refl _) <| .mem rfl <| .mem rfl <| .boxLe rfl (.cons (Le.i (congrArg Prod.fst (he))) <| .cons (Le.i (congrArg Prod.snd (he))) <| .nil) <| .nil
    · refine Tr.seq ?_
      refine Tr.seq ?_
      refine Tr.region ?_
      refine TrOps.sem (OpSem.loadbN rfl rfl rfl vs29 (by first | decide | simp)) rfl rfl (by decide) ?_
      refine TrOps.sem (OpSem.build rfl rfl pl29 zc29 rfl rfl) rfl rfl (by decide) ?_
      refine TrOps.sem (OpSem.neS2 rfl rfl rfl io29) rfl rfl (by decide) ?_
      refine TrOps.nil ?_
      refine At.seq ?_
      refine Tr.cond rfl (fun c34 => ?_) (fun c34 => ?_)
      · have h1 : aplF a to ≠ (0, 0) := fun h => by simp [h] at c34
        refine Tr.seq ?_
        refine PC.start [4] ?_
        refine PC.sem (OpSem.build rfl rfl pl46 zc46 rfl rfl) rfl rfl ?_
        refine PC.sem (OpSem.loadbN rfl rfl rfl vs29 (by first | decide | simp)) rfl rfl ?_
        refine PC.storeb 100002 rfl rfl rfl rfl rfl rfl rfl vs46 (by first | decide | simp) ?_
        refine PC.done mixed (by kernel_rfl) (by kernel_rfl) (by kernel_rfl) (by kernel_rfl) ?_
        refine TrOps.storeb rfl rfl rfl rfl rfl rfl rfl vs29 (by first | decide | simp) ?_
        refine TrOps.nil ?_
        refine At.seq ?_
        refine Tr.ret ?_
        refine At.pass_ret ?_
        exact At.ret rfl (.cellN rfl rfl vs46 <| .cellN rfl rfl vs29 <| .nil) rfl (Le.t (.cons (by rw [aplR_1 h1]; exact Le.g (.cons (.refl _) <| .cons (.refl _) <| .cons (Le.nil 3) <| .cons (.refl _) <| .cons (Le.nil 1) <| .nil)) <| .cons (.refl _) <| .nil))
      · have h1 : aplF a to = (0, 0) := pair0 (by simpa using c34)
        obtain ⟨hA, hto, hin⟩ := aplF_inv h1
        have hal := hA.len
        have hgl := goals_len hA
        have hst := hA.head.1
        refine Tr.skip ?_
        refine At.seq ?_
        refine Tr.seq ?_
        refine PC.start [] ?_
        refine PC.sem (OpSem.fieldp rfl rfl fo46_0) rfl rfl ?_
        refine PC.sem (OpSem.load1 rfl rfl vs3 rfl) rfl rfl ?_
        refine PC.sem (OpSem.fieldp rfl rfl fo46_1) rfl rfl ?_
        refine PC.sem (OpSem.load1 rfl rfl vs3 rfl) rfl rfl ?_
        refine PC.sem (OpSem.fieldp rfl rfl fo46_3) rfl rfl ?_
        refine PC.sem (OpSem.load1 rfl rfl vs3 rfl) rfl rfl ?_
        refine PC.sem (OpSem.fieldp rfl rfl fo46_4) rfl rfl ?_
        refine PC.sem (OpSem.load1 rfl rfl vs22 rfl) rfl rfl ?_
        refine PC.sem (OpSem.call0 (slices_Clone_int_int_does a.goals (by omega)).fresh rfl rfl rfl rfl (Les.refl _)) rfl rfl ?_
        refine PC.sem (OpSem.build rfl rfl pl46 zc46 rfl rfl) rfl rfl ?_
        refine PC.semM (OpSem.alloc 7 rfl zc46 rfl) rfl rfl ?_
        refine PC.done1 7 (.box [I (0), I (0), .d (.v (.slice none 0 0)), I (0), .d (.v (.slice none 0 0))]) mixed (by kernel_rfl) (by kernel_rfl) (by kernel_rfl) (by kernel_rfl) (by kernel_rfl) ?_
        refine TrOps.storeb rfl rfl rfl rfl rfl rfl rfl vs46 (by first | decide | simp) ?_
        refine TrOps.nil ?_
        refine At.seq ?_
        refine Tr.seq ?_
        refine Tr.seq ?_
        refine Tr.ownNilBox 90 7 2 3 93 rfl rfl rfl ?_
        refine Tr.region ?_
        refine TrOps.sem (OpSem.fieldp rfl rfl fo46_2) rfl rfl (by decide) ?_
        refine TrOps.sem (OpSem.load1 rfl rfl vs44 rfl) rfl rfl (by decide) ?_
        refine TrOps.sem (OpSem.lenL rfl rfl es44) rfl rfl (by decide) ?_
        refine TrOps.sem (OpSem.move (.inl rfl) rfl) rfl rfl (by decide) ?_
        refine TrOps.nil ?_
        refine At.seq ?_
        refine Tr.block ?_
        refine Tr.loop (X := Nat) (fun k => k ≤ a.arcs.length) (fun k => [(1, .d (ints to)), (4, .r 4 0), (5, .r 5 0), (6, .r 6 0), (7, .r 7 0), (48, .d (arcsD a.arcs)), (49, I (a.arcs.length)), (50, I (k))]) (fun k => [(90, .own 3 93 ((relTo a to k).map arcC)), (7, .box [I (a.states), I (a.labels), .o 90, I (a.init), .d (ints a.goals)]), (4, .box [I (0), I (0), .d (.v (.slice none 0 0)), I (0), .d (.v (.slice none 0 0))]), (5, .box [I (0), I (0)]), (6, .box [I ((aplF a to).1), I ((aplF a to).2)])]) (fun k => a.arcs.length - k) 0 (by omega) ?_ ?_
        · exact .slot rfl (.refl _) <| .slot rfl (.refl _) <| .slot rfl (.refl _) <| .slot rfl (.refl _) <| .slot rfl (.refl _) <| .slot rfl (.refl _) <| .slot rfl (.refl _) <| .slot rfl (Le.of_eq (by simp)) <| .memEq rfl (by simp [relTo]) <| .mem rfl <| .mem rfl <| .mem rfl <| .mem rfl <| .nil
        · rintro k hkl
          refine Tr.seq ?_
          refine Tr.region ?_
          refine TrOps.sem (OpSem.bin rfl rfl rfl blss) rfl rfl (by decide) ?_
          refine TrOps.nil ?_
          refine At.seq ?_
          refine Tr.seq ?_
          refine Tr.cond rfl (fun c51 => ?_) (fun c51 => ?_)
          · have hk : k < a.arcs.length := by simpa using c51
            have harc := (hA.arc k hk).2.1
            have hrl := relTo_len (to := to) (Nat.le_of_lt hk)
            refine Tr.skip ?_
            refine At.seq ?_
            refine Tr.seq ?_
            refine Tr.block ?_
            refine Tr.seq ?_
            refine Tr.region ?_
            refine TrOps.sem (OpSem.idxL rfl rfl rfl es44 (by omega) (by omega)) rfl rfl (by decide) ?_
            refine TrOps.sem (OpSem.loadN rfl rfl vs93 (by first | decide | simp) rfl) rfl rfl (by decide) ?_
            refine TrOps.semM (OpSem.alloc 9 rfl zc93 rfl) rfl rfl (by decide) ?_
            refine TrOps.storeb rfl rfl rfl rfl rfl rfl rfl vs93 (by first | decide | simp) ?_
            refine TrOps.nil ?_
            refine At.seq ?_
            refine PC.start [] ?_
            refine PC.sem (OpSem.fieldr rfl rfl fo46_2) rfl rfl ?_
            refine PC.sem (OpSem.loadb1 rfl rfl rfl vs44 rfl) rfl rfl ?_
            refine PC.sem (OpSem.fieldr rfl rfl fo93_0) rfl rfl ?_
            refine PC.sem (OpSem.loadb1 rfl rfl rfl vs3 rfl) rfl rfl ?_
            refine PC.sem (OpSem.move (.inl rfl) rfl) rfl rfl ?_
            refine PC.sem (OpSem.fieldr rfl rfl fo93_1) rfl rfl ?_
            refine PC.sem (OpSem.loadb1 rfl rfl rfl vs3 rfl) rfl rfl ?_
            refine PC.sem (OpSem.idxL rfl rfl rfl es22 (by omega) (by omega)) rfl rfl ?_
            refine PC.sem (OpSem.load1 rfl rfl vs3 rfl) rfl rfl ?_
            refine PC.sem (OpSem.fieldr rfl rfl fo93_2) rfl rfl ?_
            refine PC.sem (OpSem.loadb1 rfl rfl rfl vs3 rfl) rfl rfl ?_
            refine PC.sem (OpSem.build rfl rfl pl93 zc93 rfl rfl) rfl rfl ?_
            refine PC.sem (OpSem.buildSlice rfl rfl es44 ze44 rfl rfl (by decide) (by decide) rfl rfl) rfl rfl ?_
            refine PC.done0 mixed (by kernel_rfl) (by kernel_rfl) (by kernel_rfl) (by kernel_rfl) (by kernel_rfl) ?_
            refine TrOps.append rfl rfl rfl (by decide) rfl rfl rfl es44 el44 zc93 rfl by93 (by simp [D.one, Value.oneCell']) (by simp [maxLen]; omega) (by simp; omega) ?_
            refine TrOps.sem (OpSem.fieldr rfl rfl fo46_2) rfl rfl (by decide) ?_
            refine TrOps.storeb rfl rfl rfl rfl rfl rfl rfl vs44 (by first | decide | simp) ?_
            refine TrOps.nil ?_
            refine At.block_normal ?_
            refine At.seq ?_
            refine Tr.region ?_
            refine TrOps.sem (OpSem.bin rfl rfl rfl (badd (by omega) (by omega))) rfl rfl (by decide) ?_
            refine TrOps.sem (OpSem.move (.inl rfl) rfl) rfl rfl (by decide) ?_
            refine TrOps.nil ?_
            refine At.again (k + 1) (by omega) ?_ (by omega)
            exact .slot rfl (.refl _) <| .slot rfl (.refl _) <| .slot rfl (.refl _) <| .slot rfl (.refl _) <| .slot rfl (.refl _) <| .slot rfl (.refl _) <| .slot rfl (.refl _) <| .slot rfl (Le.of_eq (by simp)) <| .memEq rfl (by simp [relTo_s hk]) <| .mem rfl <| .mem rfl <| .mem rfl <| .mem rfl <| .nil
          · have hk : k = a.arcs.length := by simp at c51; omega
            subst hk
            refine Tr.exit ?_
            refine At.pass_exit ?_
            refine At.pass_exit ?_
            refine At.block_same ?_
            refine At.seq ?_
            refine Tr.seq ?_
            refine Tr.orders [[0, 1, 2, 3, 4], [0, 1, 3, 2, 4], [0, 2, 1, 3, 4], [2, 0, 1, 3, 4]] mixed (by kernel_rfl) ⟨?_, ?_, ?_, ?_, trivial⟩
            · refine TrOps.sem (OpSem.loadbN rfl rfl rfl vs46 (by first | decide | simp)) rfl rfl (by decide) ?_
              refine TrOps.callAbs (fun q n c => sorted_all (relTo a to a.arcs.length) a.states a.labels a.init q n c (by simp [relTo]; omega)) rfl rfl rfl (by decide) rfl rfl rfl (plain_arcs _) ?_
              refine TrOps.freeze 90 rfl ?_
              refine TrOps.sem (OpSem.loadbN rfl rfl rfl vs29 (by first | decide | simp)) rfl rfl (by decide) ?_
              refine TrOps.storeb rfl rfl rfl rfl rfl rfl rfl vs46 (by first | decide | simp) ?_
              refine TrOps.storeb rfl rfl rfl rfl rfl rfl rfl vs29 (by first | decide | simp) ?_
              refine TrOps.nil ?_
              refine At.seq ?_
              refine Tr.ret ?_
              exact At.ret rfl (.cellN rfl rfl vs46 <| .cellN rfl rfl vs29 <| .nil) rfl (Le.t (.cons (Le.of_eq (by rw [aplR_0 h1]; rfl)) <| .cons (.refl _) <| .nil))
            · refine TrOps.sem (OpSem.loadbN rfl rfl rfl vs46 (by first | decide | simp)) rfl rfl (by decide) ?_
              refine TrOps.callAbs (fun q n c => sorted_all (relTo a to a.arcs.length) a.states a.labels a.init q n c (by simp [relTo]; omega)) rfl rfl rfl (by decide) rfl rfl rfl (plain_arcs _) ?_
              refine TrOps.freeze 90 rfl ?_
              refine TrOps.storeb rfl rfl rfl rfl rfl rfl rfl vs46 (by first | decide | simp) ?_
              refine TrOps.sem (OpSem.loadbN rfl rfl rfl vs29 (by first | decide | simp)) rfl rfl (by decide) ?_
              refine TrOps.storeb rfl rfl rfl rfl rfl rfl rfl vs29 (by first | decide | simp) ?_
              refine TrOps.nil ?_
              refine At.seq ?_
              refine Tr.ret ?_
              exact At.ret rfl (.cellN rfl rfl vs46 <| .cellN rfl rfl vs29 <| .nil) rfl (Le.t (.cons (Le.of_eq (by rw [aplR_0 h1]; rfl)) <| .cons (.refl _) <| .nil))
            · refine TrOps.sem (OpSem.loadbN rfl rfl rfl vs46 (by first | decide | simp)) rfl rfl (by decide) ?_
              refine TrOps.sem (OpSem.loadbN rfl rfl rfl vs29 (by first | decide | simp)) rfl rfl (by decide) ?_
              refine TrOps.callAbs (fun q n c => sorted_all (relTo a to a.arcs.length) a.states a.labels a.init q n c (by simp [relTo]; omega)) rfl rfl rfl (by decide) rfl rfl rfl (plain_arcs _) ?_
              refine TrOps.freeze 90 rfl ?_
              refine TrOps.storeb rfl rfl rfl rfl rfl rfl rfl vs46 (by first | decide | simp) ?_
              refine TrOps.storeb rfl rfl rfl rfl rfl rfl rfl vs29 (by first | decide | simp) ?_
              refine TrOps.nil ?_
              refine At.seq ?_
              refine Tr.ret ?_
              exact At.ret rfl (.cellN rfl rfl vs46 <| .cellN rfl rfl vs29 <| .nil) rfl (Le.t (.cons (Le.of_eq (by rw [aplR_0 h1]; rfl)) <| .cons (.refl _) <| .nil))
            · refine TrOps.sem (OpSem.loadbN rfl rfl rfl vs29 (by first | decide | simp)) rfl rfl (by decide) ?_
              refine TrOps.sem (OpSem.loadbN rfl rfl rfl vs46 (by first | decide | simp)) rfl rfl (by decide) ?_
              refine TrOps.callAbs (fun q n c => sorted_all (relTo a to a.arcs.length) a.states a.labels a.init q n c (by simp [relTo]; omega)) rfl rfl rfl (by decide) rfl rfl rfl (plain_arcs _) ?_
              refine TrOps.freeze 90 rfl ?_
              refine TrOps.storeb rfl rfl rfl rfl rfl rfl rfl vs46 (by first | decide | simp) ?_
              refine TrOps.storeb rfl rfl rfl rfl rfl rfl rfl vs29 (by first | decide | simp) ?_
              refine TrOps.nil ?_
              refine At.seq ?_
              refine Tr.ret ?_
              exact At.ret rfl (.cellN rfl rfl vs46 <| .cellN rfl rfl vs29 <| .nil) rfl (Le.t (.cons (Le.of_eq (by rw [aplR_0 h1]; rfl)) <| .cons (.refl _) <| .nil))

end Go.Proofs.Ytohlmcebphcokaa
end

section
/- Walks, written by gen.py out of hints. -/




set_option linter.unusedVariables false
set_option linter.unusedSimpArgs false
namespace Go.Proofs.Ytohlmcebphcokaa
open Go.Eng
set_option maxRecDepth 10000
set_option maxHeartbeats 1000000

theorem Q_Abstractions_does (a b : Abs) : Does Try.prog false 29 [absS a, absS b] (Bo (decide (a = b))) := by
  refine Does.of_body Try.func29 rfl rfl (by simp) Try.call29 (fun w0 O0 => ?_)
  refine Tr.lenG (n := 0) (i := 2) rfl rfl (fun len0_2 => ?_)
  refine Tr.lenG (n := 0) (i := 4) rfl rfl (fun len0_4 => ?_)
  refine Tr.lenG (n := 1) (i := 2) rfl rfl (fun len1_2 => ?_)
  refine Tr.lenG (n := 1) (i := 4) rfl rfl (fun len1_4 => ?_)
  refine Tr.seq ?_
  refine Tr.region ?_
  refine TrOps.semM (OpSem.box 2 rfl rfl rfl rfl) rfl rfl (by decide) ?_
  refine TrOps.semM (OpSem.box 3 rfl rfl rfl rfl) rfl rfl (by decide) ?_
  refine TrOps.sem (OpSem.move (.inr rfl) rfl) rfl rfl (by decide) ?_
  refine TrOps.nil ?_
  refine At.seq ?_
  refine Tr.seq ?_
  refine Tr.seq ?_
  refine Tr.region ?_
  refine TrOps.sem (OpSem.fieldr rfl rfl fo46_0) rfl rfl (by decide) ?_
  refine TrOps.sem (OpSem.loadb1 rfl rfl rfl vs3 rfl) rfl rfl (by decide) ?_
  refine TrOps.sem (OpSem.fieldr rfl rfl fo46_0) rfl rfl (by decide) ?_
  refine TrOps.sem (OpSem.loadb1 rfl rfl rfl vs3 rfl) rfl rfl (by decide) ?_
  refine TrOps.sem (OpSem.bin rfl rfl rfl bneq) rfl rfl (by decide) ?_
  refine TrOps.sem (OpSem.move (.inl rfl) rfl) rfl rfl (by decide) ?_
  refine TrOps.split (n := 11) rfl (fun c11 => ?_) (fun c11 => ?_)
  · refine TrOps.gF rfl rfl rfl rfl c11 rfl (by decide) ?_
    refine TrOps.gF rfl rfl rfl rfl c11 rfl (by decide) ?_
    refine TrOps.gF rfl rfl rfl rfl c11 rfl (by decide) ?_
    refine TrOps.gF rfl rfl rfl rfl c11 rfl (by decide) ?_
    refine TrOps.gF rfl rfl rfl rfl c11 rfl (by decide) ?_
    refine TrOps.sem (OpSem.pickT rfl rfl c11 rfl) rfl rfl (by decide) ?_
    refine TrOps.sem (OpSem.move (.inl rfl) rfl) rfl rfl (by decide) ?_
    refine TrOps.gF rfl rfl rfl rfl rfl rfl (by decide) ?_
    refine TrOps.gF rfl rfl rfl rfl rfl rfl (by decide) ?_
    refine TrOps.gF rfl rfl rfl rfl rfl rfl (by decide) ?_
    refine TrOps.gF rfl rfl rfl rfl rfl rfl (by decide) ?_
    refine TrOps.gF rfl rfl rfl rfl rfl rfl (by decide) ?_
    refine TrOps.sem (OpSem.pickT rfl rfl rfl rfl) rfl rfl (by decide) ?_
    refine TrOps.sem (OpSem.move (.inl rfl) rfl) rfl rfl (by decide) ?_
    refine TrOps.gF rfl rfl rfl rfl rfl rfl (by decide) ?_
    refine TrOps.gF rfl rfl rfl rfl rfl rfl (by decide) ?_
    refine TrOps.gF rfl rfl rfl rfl rfl rfl (by decide) ?_
    refine TrOps.gF rfl rfl rfl rfl rfl rfl (by decide) ?_
    refine TrOps.gF rfl rfl rfl rfl rfl rfl (by decide) ?_
    refine TrOps.gF rfl rfl rfl rfl rfl rfl (by decide) ?_
    refine TrOps.sem (OpSem.pickT rfl rfl rfl rfl) rfl rfl (by decide) ?_
    refine TrOps.sem (OpSem.move (.inl rfl) rfl) rfl rfl (by decide) ?_
    refine TrOps.gF rfl rfl rfl rfl rfl rfl (by decide) ?_
    refine TrOps.gF rfl rfl rfl rfl rfl rfl (by decide) ?_
    refine TrOps.gF rfl rfl rfl rfl rfl rfl (by decide) ?_
    refine TrOps.gF rfl rfl rfl rfl rfl rfl (by decide) ?_
    refine TrOps.gF rfl rfl rfl rfl rfl rfl (by decide) ?_
    refine TrOps.gF rfl rfl rfl rfl rfl rfl (by decide) ?_
    refine TrOps.gF rfl rfl rfl rfl rfl rfl (by decide) ?_
    refine TrOps.sem (OpSem.pickT rfl rfl rfl rfl) rfl rfl (by decide) ?_
    refine TrOps.nil ?_
    refine At.seq ?_
    refine Tr.condT rfl rfl ?_
    refine Tr.seq ?_
    refine Tr.region ?_
    refine TrOps.sem (OpSem.move (.inr rfl) rfl) rfl rfl (by decide) ?_
    refine TrOps.nil ?_
    refine At.seq ?_
    refine Tr.ret ?_
    refine At.pass_ret ?_
    exact At.ret rfl (.tmp rfl <| .nil) rfl (Le.bo (decide_eq_false (fun e => by subst e; simp at c11)).symm)
  · refine TrOps.gT rfl rfl rfl rfl c11 ?_
    refine TrOps.sem (OpSem.fieldr rfl rfl fo46_1) rfl rfl (by decide) ?_
    refine TrOps.gT rfl rfl rfl rfl c11 ?_
    refine TrOps.sem (OpSem.loadb1 rfl rfl rfl vs3 rfl) rfl rfl (by decide) ?_
    refine TrOps.gT rfl rfl rfl rfl c11 ?_
    refine TrOps.sem (OpSem.fieldr rfl rfl fo46_1) rfl rfl (by decide) ?_
    refine TrOps.gT rfl rfl rfl rfl c11 ?_
    refine TrOps.sem (OpSem.loadb1 rfl rfl rfl vs3 rfl) rfl rfl (by decide) ?_
    refine TrOps.gT rfl rfl rfl rfl c11 ?_
    refine TrOps.sem (OpSem.bin rfl rfl rfl bneq) rfl rfl (by decide) ?_
    refine TrOps.sem (OpSem.pickF rfl rfl c11 rfl) rfl rfl (by decide) ?_
    refine TrOps.sem (OpSem.move (.inl rfl) rfl) rfl rfl (by decide) ?_
    refine TrOps.split (n := 18) rfl (fun c18 => ?_) (fun c18 => ?_)
    · refine TrOps.gF rfl rfl rfl rfl c18 rfl (by decide) ?_
      refine TrOps.gF rfl rfl rfl rfl c18 rfl (by decide) ?_
      refine TrOps.gF rfl rfl rfl rfl c18 rfl (by decide) ?_
      refine TrOps.gF rfl rfl rfl rfl c18 rfl (by decide) ?_
      refine TrOps.gF rfl rfl rfl rfl c18 rfl (by decide) ?_
      refine TrOps.sem (OpSem.pickT rfl rfl c18 rfl) rfl rfl (by decide) ?_
      refine TrOps.sem (OpSem.move (.inl rfl) rfl) rfl rfl (by decide) ?_
      refine TrOps.gF rfl rfl rfl rfl rfl rfl (by decide) ?_
      refine TrOps.gF rfl rfl rfl rfl rfl rfl (by decide) ?_
      refine TrOps.gF rfl rfl rfl rfl rfl rfl (by decide) ?_
      refine TrOps.gF rfl rfl rfl rfl rfl rfl (by decide) ?_
      refine TrOps.gF rfl rfl rfl rfl rfl rfl (by decide) ?_
      refine TrOps.gF rfl rfl rfl rfl rfl rfl (by decide) ?_
      refine TrOps.sem (OpSem.pickT rfl rfl rfl rfl) rfl rfl (by decide) ?_
      refine TrOps.sem (OpSem.move (.inl rfl) rfl) rfl rfl (by decide) ?_
      refine TrOps.gF rfl rfl rfl rfl rfl rfl (by decide) ?_
      refine TrOps.gF rfl rfl rfl rfl rfl rfl (by decide) ?_
      refine TrOps.gF rfl rfl rfl rfl rfl rfl (by decide) ?_
      refine TrOps.gF rfl rfl rfl rfl rfl rfl (by decide) ?_
      refine TrOps.gF rfl rfl rfl rfl rfl rfl (by decide) ?_
      refine TrOps.gF rfl rfl rfl rfl rfl rfl (by decide) ?_
      refine TrOps.gF rfl rfl rfl rfl rfl rfl (by decide) ?_
      refine TrOps.sem (OpSem.pickT rfl rfl rfl rfl) rfl rfl (by decide) ?_
      refine TrOps.nil ?_
      refine At.seq ?_
      refine Tr.condT rfl rfl ?_
      refine Tr.seq ?_
      refine Tr.region ?_
      refine TrOps.sem (OpSem.move (.inr rfl) rfl) rfl rfl (by decide) ?_
      refine TrOps.nil ?_
      refine At.seq ?_
      refine Tr.ret ?_
      refine At.pass_ret ?_
      exact At.ret rfl (.tmp rfl <| .nil) rfl (Le.bo (decide_eq_false (fun e => by subst e; simp at c18)).symm)
    · refine TrOps.gT rfl rfl rfl rfl c18 ?_
      refine TrOps.sem (OpSem.fieldr rfl rfl fo46_3) rfl rfl (by decide) ?_
      refine TrOps.gT rfl rfl rfl rfl c18 ?_
      refine TrOps.sem (OpSem.loadb1 rfl rfl rfl vs3 rfl) rfl rfl (by decide) ?_
      refine TrOps.gT rfl rfl rfl rfl c18 ?_
      refine TrOps.sem (OpSem.fieldr rfl rfl fo46_3) rfl rfl (by decide) ?_
      refine TrOps.gT rfl rfl rfl rfl c18 ?_
      refine TrOps.sem (OpSem.loadb1 rfl rfl rfl vs3 rfl) rfl rfl (by decide) ?_
      refine TrOps.gT rfl rfl rfl rfl c18 ?_
      refine TrOps.sem (OpSem.bin rfl rfl rfl bneq) rfl rfl (by decide) ?_
      refine TrOps.sem (OpSem.pickF rfl rfl c18 rfl) rfl rfl (by decide) ?_
      refine TrOps.sem (OpSem.move (.inl rfl) rfl) rfl rfl (by decide) ?_
      refine TrOps.split (n := 25) rfl (fun c25 => ?_) (fun c25 => ?_)
      · refine TrOps.gF rfl rfl rfl rfl c25 rfl (by decide) ?_
        refine TrOps.gF rfl rfl rfl rfl c25 rfl (by decide) ?_
        refine TrOps.gF rfl rfl rfl rfl c25 rfl (by decide) ?_
        refine TrOps.gF rfl rfl rfl rfl c25 rfl (by decide) ?_
        refine TrOps.gF rfl rfl rfl rfl c25 rfl (by decide) ?_
        refine TrOps.gF rfl rfl rfl rfl c25 rfl (by decide) ?_
        refine TrOps.sem (OpSem.pickT rfl rfl c25 rfl) rfl rfl (by decide) ?_
        refine TrOps.sem (OpSem.move (.inl rfl) rfl) rfl rfl (by decide) ?_
        refine TrOps.gF rfl rfl rfl rfl rfl rfl (by decide) ?_
        refine TrOps.gF rfl rfl rfl rfl rfl rfl (by decide) ?_
        refine TrOps.gF rfl rfl rfl rfl rfl rfl (by decide) ?_
        refine TrOps.gF rfl rfl rfl rfl rfl rfl (by decide) ?_
        refine TrOps.gF rfl rfl rfl rfl rfl rfl (by decide) ?_
        refine TrOps.gF rfl rfl rfl rfl rfl rfl (by decide) ?_
        refine TrOps.gF rfl rfl rfl rfl rfl rfl (by decide) ?_
        refine TrOps.sem (OpSem.pickT rfl rfl rfl rfl) rfl rfl (by decide) ?_
        refine TrOps.nil ?_
        refine At.seq ?_
        refine Tr.condT rfl rfl ?_
        refine Tr.seq ?_
        refine Tr.region ?_
        refine TrOps.sem (OpSem.move (.inr rfl) rfl) rfl rfl (by decide) ?_
        refine TrOps.nil ?_
        refine At.seq ?_
        refine Tr.ret ?_
        refine At.pass_ret ?_
        exact At.ret rfl (.tmp rfl <| .nil) rfl (Le.bo (decide_eq_false (fun e => by subst e; simp at c25)).symm)
      · refine TrOps.gT rfl rfl rfl rfl c25 ?_
        refine TrOps.sem (OpSem.fieldr rfl rfl fo46_4) rfl rfl (by decide) ?_
        refine TrOps.gT rfl rfl rfl rfl c25 ?_
        refine TrOps.sem (OpSem.loadb1 rfl rfl rfl vs22 rfl) rfl rfl (by decide) ?_
        refine TrOps.gT rfl rfl rfl rfl c25 ?_
        refine TrOps.sem (OpSem.fieldr rfl rfl fo46_4) rfl rfl (by decide) ?_
        refine TrOps.gT rfl rfl rfl rfl c25 ?_
        refine TrOps.sem (OpSem.loadb1 rfl rfl rfl vs22 rfl) rfl rfl (by decide) ?_
        refine TrOps.gT rfl rfl rfl rfl c25 ?_
        refine TrOps.sem (OpSem.call0 (R_Ints_does a.goals b.goals) rfl rfl rfl rfl (Les.refl _)) rfl rfl (by decide) ?_
        refine TrOps.gT rfl rfl rfl rfl c25 ?_
        refine TrOps.sem (OpSem.not rfl rfl) rfl rfl (by decide) ?_
        refine TrOps.sem (OpSem.pickF rfl rfl c25 rfl) rfl rfl (by decide) ?_
        refine TrOps.sem (OpSem.move (.inl rfl) rfl) rfl rfl (by decide) ?_
        refine TrOps.split (n := 33) rfl (fun c33 => ?_) (fun c33 => ?_)
        · refine TrOps.gF rfl rfl rfl rfl c33 rfl (by decide) ?_
          refine TrOps.gF rfl rfl rfl rfl c33 rfl (by decide) ?_
          refine TrOps.gF rfl rfl rfl rfl c33 rfl (by decide) ?_
          refine TrOps.gF rfl rfl rfl rfl c33 rfl (by decide) ?_
          refine TrOps.gF rfl rfl rfl rfl c33 rfl (by decide) ?_
          refine TrOps.gF rfl rfl rfl rfl c33 rfl (by decide) ?_
          refine TrOps.gF rfl rfl rfl rfl c33 rfl (by decide) ?_
          refine TrOps.sem (OpSem.pickT rfl rfl c33 rfl) rfl rfl (by decide) ?_
          refine TrOps.nil ?_
          refine At.seq ?_
          refine Tr.condT rfl rfl ?_
          refine Tr.seq ?_
          refine Tr.region ?_
          refine TrOps.sem (OpSem.move (.inr rfl) rfl) rfl rfl (by decide) ?_
          refine TrOps.nil ?_
          refine At.seq ?_
          refine Tr.ret ?_
          refine At.pass_ret ?_
          exact At.ret rfl (.tmp rfl <| .nil) rfl (Le.bo (decide_eq_false (fun e => by subst e; simp at c33)).symm)
        · refine TrOps.gT rfl rfl rfl rfl c33 ?_
          refine TrOps.sem (OpSem.fieldr rfl rfl fo46_2) rfl rfl (by decide) ?_
          refine TrOps.gT rfl rfl rfl rfl c33 ?_
          refine TrOps.sem (OpSem.loadb1 rfl rfl rfl vs44 rfl) rfl rfl (by decide) ?_
          refine TrOps.gT rfl rfl rfl rfl c33 ?_
          refine TrOps.sem (OpSem.lenL rfl rfl es44) rfl rfl (by decide) ?_
          refine TrOps.gT rfl rfl rfl rfl c33 ?_
          refine TrOps.sem (OpSem.fieldr rfl rfl fo46_2) rfl rfl (by decide) ?_
          refine TrOps.gT rfl rfl rfl rfl c33 ?_
          refine TrOps.sem (OpSem.loadb1 rfl rfl rfl vs44 rfl) rfl rfl (by decide) ?_
          refine TrOps.gT rfl rfl rfl rfl c33 ?_
          refine TrOps.sem (OpSem.lenL rfl rfl es44) rfl rfl (by decide) ?_
          refine TrOps.gT rfl rfl rfl rfl c33 ?_
          refine TrOps.sem (OpSem.bin rfl rfl rfl bneq) rfl rfl (by decide) ?_
          refine TrOps.sem (OpSem.pickF rfl rfl c33 rfl) rfl rfl (by decide) ?_
          refine TrOps.nil ?_
          refine At.seq ?_
          refine Tr.cond rfl (fun c41 => ?_) (fun c41 => ?_)
          · refine Tr.seq ?_
            refine Tr.region ?_
            refine TrOps.sem (OpSem.move (.inr rfl) rfl) rfl rfl (by decide) ?_
            refine TrOps.nil ?_
            refine At.seq ?_
            refine Tr.ret ?_
            refine At.pass_ret ?_
            exact At.ret rfl (.tmp rfl <| .nil) rfl (Le.bo (decide_eq_false (fun e => by subst e; simp at c41)).symm)
          · have hl : a.arcs.length = b.arcs.length := by simp at c41; omega
            refine Tr.skip ?_
            refine At.seq ?_
            refine Tr.seq ?_
            refine Tr.seq ?_
            refine Tr.region ?_
            refine TrOps.sem (OpSem.move (.inr rfl) rfl) rfl rfl (by decide) ?_
            refine TrOps.nil ?_
            refine At.seq ?_
            refine Tr.block ?_
            refine Tr.loop (X := Nat) (fun k => k ≤ a.arcs.length ∧ ∀ i : Nat, i < k → nth a.arcs i = nth b.arcs i) (fun k => [(2, .r 2 0), (3, .r 3 0), (5, I (k))]) (fun k => [(2, .box [I (a.states), I (a.labels), .d (arcsD a.arcs), I (a.init), .d (ints a.goals)]), (3, .box [I (b.states), I (b.labels), .d (arcsD b.arcs), I (b.init), .d (ints b.goals)])]) (fun k => a.arcs.length - k) 0 ⟨by omega, by simp⟩ ?_ ?_
            · exact .slot rfl (.refl _) <| .slot rfl (.refl _) <| .slot rfl (Le.of_eq (by simp)) <| .mem rfl <| .mem rfl <| .nil
            · rintro k ⟨hkl, hinv⟩
              refine Tr.seq ?_
              refine Tr.seq ?_
              refine Tr.region ?_
              refine TrOps.sem (OpSem.move (.inl rfl) rfl) rfl rfl (by decide) ?_
              refine TrOps.sem (OpSem.fieldr rfl rfl fo46_2) rfl rfl (by decide) ?_
              refine TrOps.sem (OpSem.loadb1 rfl rfl rfl vs44 rfl) rfl rfl (by decide) ?_
              refine TrOps.sem (OpSem.lenL rfl rfl es44) rfl rfl (by decide) ?_
              refine TrOps.sem (OpSem.bin rfl rfl rfl blss) rfl rfl (by decide) ?_
              refine TrOps.nil ?_
              refine At.seq ?_
              refine Tr.cond rfl (fun c46 => ?_) (fun c46 => ?_)
              · have hk : k < a.arcs.length := by simpa using c46
                refine Tr.skip ?_
                refine At.seq ?_
                refine Tr.seq ?_
                refine Tr.block ?_
                refine Tr.seq ?_
                refine PC.start [] ?_
                refine PC.sem (OpSem.fieldr rfl rfl fo46_2) rfl rfl ?_
                refine PC.sem (OpSem.loadb1 rfl rfl rfl vs44 rfl) rfl rfl ?_
                refine PC.sem (OpSem.move (.inl rfl) rfl) rfl rfl ?_
                refine PC.sem (OpSem.idxL rfl rfl rfl es44 (by omega) (by omega)) rfl rfl ?_
                refine PC.sem (OpSem.loadN rfl rfl vs93 (by first | decide | simp) rfl) rfl rfl ?_
                refine PC.sem (OpSem.fieldr rfl rfl fo46_2) rfl rfl ?_
                refine PC.sem (OpSem.loadb1 rfl rfl rfl vs44 rfl) rfl rfl ?_
                refine PC.sem (OpSem.move (.inl rfl) rfl) rfl rfl ?_
                refine PC.sem (OpSem.idxL rfl rfl rfl es44 (by omega) (by omega)) rfl rfl ?_
                refine PC.sem (OpSem.loadN rfl rfl vs93 (by first | decide | simp) rfl) rfl rfl ?_
                refine PC.done0 mixed (by kernel_rfl) (by kernel_rfl) (by kernel_rfl) (by kernel_rfl) (by kernel_rfl) ?_
                refine TrOps.sem (OpSem.neS3 rfl rfl rfl io93) rfl rfl (by decide) ?_
                refine TrOps.nil ?_
                refine At.seq ?_
                refine Tr.cond rfl (fun c59 => ?_) (fun c59 => ?_)
                · refine Tr.seq ?_
                  refine Tr.region ?_
                  refine TrOps.sem (OpSem.move (.inr rfl) rfl) rfl rfl (by decide) ?_
                  refine TrOps.nil ?_
                  refine At.seq ?_
                  refine Tr.ret ?_
                  refine At.block_ret ?_
                  refine At.pass_ret ?_
                  refine At.pass_ret ?_
                  refine At.block_ret ?_
                  refine At.pass_ret ?_
                  exact At.ret rfl (.tmp rfl <| .nil) rfl (Le.bo (decide_eq_false (fun e => by subst e; simp at c59)).symm)
                · have hb : nth a.arcs k = nth b.arcs k := arc_ext (by simp at c59; exact c59.1) (by simp at c59; exact c59.2.1) (by simp at c59; exact c59.2.2)
                  refine Tr.skip ?_
                  refine At.block_normal ?_
                  refine At.seq ?_
                  refine Tr.region ?_
                  refine TrOps.sem (OpSem.move (.inl rfl) rfl) rfl rfl (by decide) ?_
                  refine TrOps.sem (OpSem.bin rfl rfl rfl (badd (by omega) (by omega))) rfl rfl (by decide) ?_
                  refine TrOps.sem (OpSem.move (.inr rfl) rfl) rfl rfl (by decide) ?_
                  refine TrOps.nil ?_
                  refine At.again (k + 1) ⟨by omega, all_succ hinv hb⟩ ?_ (by omega)
                  exact .slot rfl (.refl _) <| .slot rfl (.refl _) <| .slot rfl (Le.of_eq (by simp)) <| .mem rfl <| .mem rfl <| .nil
              · have hk : k = a.arcs.length := by simp at c46; omega
                refine Tr.exit ?_
                refine At.pass_exit ?_
                refine At.pass_exit ?_
                refine At.block_same ?_
                refine At.seq ?_
                refine Tr.seq ?_
                refine Tr.region ?_
                refine TrOps.sem (OpSem.move (.inr rfl) rfl) rfl rfl (by decide) ?_
                refine TrOps.nil ?_
                refine At.seq ?_
                refine Tr.ret ?_
                exact At.ret rfl (.tmp rfl <| .nil) rfl (Le.bo (decide_eq_true (abs_ext (by simpa using c11) (by simpa using c18) (ext_get (by simp at c41; omega) (by subst hk; exact hinv)) (by simpa using c25) (by simpa using c33))).symm)

end Go.Proofs.Ytohlmcebphcokaa
end

section
/- Walks, written by gen.py out of hints. -/




set_option linter.unusedVariables false
set_option linter.unusedSimpArgs false
namespace Go.Proofs.Ytohlmcebphcokaa
open Go.Eng
set_option maxRecDepth 10000
set_option maxHeartbeats 1000000

theorem Q_insert_does (l : List Arc) (x : Arc) (hl : l.length ≤ 1000) : DoesO Try.prog 78 [.d (arcsD l), arcS x] 3 93 (((insL l x).map arcC)) := by
  have hsp := cntL_spec (x := x) (l := l)
  have hsk : skpL l x ≤ l.length := by unfold skpL; split <;> omega
  refine DoesO.of_body Try.func78 rfl rfl (by simp) Try.call78 (fun w0 O0 => ?_)
  refine Tr.lenLe (n := 0) rfl (fun len0 => ?_)
  refine Tr.seq ?_
  refine Tr.region ?_
  refine TrOps.semM (OpSem.box 3 rfl rfl rfl rfl) rfl rfl (by decide) ?_
  refine TrOps.sem (OpSem.move (.inr rfl) rfl) rfl rfl (by decide) ?_
  refine TrOps.nil ?_
  refine At.seq ?_
  refine Tr.seq ?_
  refine Tr.region ?_
  refine TrOps.sem (OpSem.move (.inr rfl) rfl) rfl rfl (by decide) ?_
  refine TrOps.nil ?_
  refine At.seq ?_
  refine Tr.seq ?_
  refine Tr.region ?_
  refine TrOps.sem (OpSem.move (.inr rfl) rfl) rfl rfl (by decide) ?_
  refine TrOps.nil ?_
  refine At.seq ?_
  refine Tr.cut [(0, .d (arcsD l)), (3, .r 3 0), (5, .d (.v (.slice none 0 0))), (6, I ((cntL l x : Int)))] [(3, .box [I (x.fr), I (x.lab), I (x.to)])] ?_ ?_
  · refine Tr.block ?_
    refine Tr.loop (X := Nat) (fun k => k ≤ l.length ∧ ∀ i : Nat, i < k → arcLt (nth l i) x) (fun k => [(0, .d (arcsD l)), (3, .r 3 0), (5, .d (.v (.slice none 0 0))), (6, I (k))]) (fun k => [(3, .box [I (x.fr), I (x.lab), I (x.to)])]) (fun k => l.length - k) 0 ⟨by omega, by simp⟩ ?_ ?_
    · exact .slot rfl (.refl _) <| .slot rfl (.refl _) <| .slot rfl (.refl _) <| .slot rfl (Le.of_eq (by simp)) <| .mem rfl <| .nil
    · rintro k ⟨hkl, hinv⟩
      refine Tr.seq ?_
      refine Tr.seq ?_
      refine PC.start [] ?_
      refine PC.sem (OpSem.move (.inl rfl) rfl) rfl rfl ?_
      refine PC.sem (OpSem.move (.inl rfl) rfl) rfl rfl ?_
      refine PC.sem (OpSem.lenL rfl rfl es44) rfl rfl ?_
      refine PC.sem (OpSem.bin rfl rfl rfl blss) rfl rfl ?_
      refine PC.sem (OpSem.move (.inl rfl) rfl) rfl rfl ?_
      refine PC.split (n := 11) rfl (fun c11 => ?_) (fun c11 => ?_)
      · have hk : k < l.length := by simpa using c11
        refine PC.gT (OpSem.move (.inl rfl) rfl) rfl rfl rfl rfl c11 rfl ?_
        refine PC.gT (OpSem.move (.inl rfl) rfl) rfl rfl rfl rfl c11 rfl ?_
        refine PC.gT (OpSem.idxL rfl rfl rfl es44 (by omega) (by omega)) rfl rfl rfl rfl c11 rfl ?_
        refine PC.gT (OpSem.loadN rfl rfl vs93 (by first | decide | simp) rfl) rfl rfl rfl rfl c11 rfl ?_
        refine PC.gT (OpSem.loadbN rfl rfl rfl vs93 (by first | decide | simp)) rfl rfl rfl rfl c11 rfl ?_
        refine PC.done0 mixed (by kernel_rfl) (by kernel_rfl) (by kernel_rfl) (by kernel_rfl) (by kernel_rfl) ?_
        refine TrOps.gT rfl rfl rfl rfl c11 ?_
        refine TrOps.sem (OpSem.call0 (Q_ArcLess_does (nth l k) x) rfl rfl rfl rfl (Les.refl _)) rfl rfl (by decide) ?_
        refine TrOps.sem (OpSem.pickT rfl rfl c11 rfl) rfl rfl (by decide) ?_
        refine TrOps.nil ?_
        refine At.seq ?_
        refine Tr.cond rfl (fun c18 => ?_) (fun c18 => ?_)
        · have hb : arcLt (nth l k) x := of_decide_eq_true c18
          refine Tr.skip ?_
          refine At.seq ?_
          refine Tr.block ?_
          refine Tr.region ?_
          refine TrOps.sem (OpSem.move (.inl rfl) rfl) rfl rfl (by decide) ?_
          refine TrOps.sem (OpSem.bin rfl rfl rfl (badd (by omega) (by omega))) rfl rfl (by decide) ?_
          refine TrOps.sem (OpSem.move (.inr rfl) rfl) rfl rfl (by decide) ?_
          refine TrOps.nil ?_
          refine At.block_normal ?_
          refine At.again (k + 1) ⟨by omega, all_succ hinv hb⟩ ?_ (by omega)
          exact .slot rfl (.refl _) <| .slot rfl (.refl _) <| .slot rfl (.refl _) <| .slot rfl (Le.of_eq (by simp)) <| .mem rfl <| .nil
        · have hb : ¬ arcLt (nth l k) x := of_decide_eq_false c18
          have he : cntL l x = k := cntL_of (by omega) hinv (fun _ => hb)
          refine Tr.exit ?_
          refine At.pass_exit ?_
          refine At.pass_exit ?_
          refine At.block_same ?_
          refine At.meet ?_
          exact .slot rfl (.refl _) <| .slot rfl (.refl _) <| .slot rfl (.refl _) <| .slot rfl (Le.i (by rw [he])) <| .mem rfl <| .nil
      · have hk : k = l.length := by simp at c11; omega
        have he : cntL l x = k := cntL_of (by omega) hinv (fun h => by omega)
        refine PC.gF rfl rfl rfl rfl c11 rfl ?_
        refine PC.gF rfl rfl rfl rfl c11 rfl ?_
        refine PC.gF rfl rfl rfl rfl c11 rfl ?_
        refine PC.gF rfl rfl rfl rfl c11 rfl ?_
        refine PC.gF rfl rfl rfl rfl c11 rfl ?_
        refine PC.done0 mixed (by kernel_rfl) (by kernel_rfl) (by kernel_rfl) (by kernel_rfl) (by kernel_rfl) ?_
        refine TrOps.gF rfl rfl rfl rfl c11 rfl (by decide) ?_
        refine TrOps.sem (OpSem.pickF rfl rfl c11 rfl) rfl rfl (by decide) ?_
        refine TrOps.nil ?_
        refine At.seq ?_
        refine Tr.condF rfl rfl ?_
        refine Tr.exit ?_
        refine At.pass_exit ?_
        refine At.pass_exit ?_
        refine At.block_same ?_
        refine At.meet ?_
        exact .slot rfl (.refl _) <| .slot rfl (.refl _) <| .slot rfl (.refl _) <| .slot rfl (Le.i (by rw [he])) <| .mem rfl <| .nil
  · refine Tr.seq ?_
    refine PC.start [] ?_
    refine PC.sem (OpSem.move (.inl rfl) rfl) rfl rfl ?_
    refine PC.sem (OpSem.move (.inl rfl) rfl) rfl rfl ?_
    refine PC.sem (OpSem.move (.inl rfl) rfl) rfl rfl ?_
    refine PC.sem (OpSem.sliceH rfl rfl rfl es44 (by omega) (by omega)) rfl rfl ?_
    refine PC.semM (OpSem.appendNil 25 rfl rfl rfl es44 el44 zc93 rfl (by decide) by93 (by intro r hr; obtain ⟨y, _, rfl⟩ := List.mem_map.1 hr; simp [D.one, Value.oneCell']) (by simp [maxLen]; omega) (by simp; omega)) rfl rfl ?_
    refine PC.sem (OpSem.loadbN rfl rfl rfl vs93 (by first | decide | simp)) rfl rfl ?_
    refine PC.sem (OpSem.buildSlice rfl rfl es44 ze44 rfl rfl (by decide) (by decide) rfl rfl) rfl rfl ?_
    refine PC.done1 25 (.own 3 93 ((l.take ((cntL l x : Int)).toNat).map arcC)) mixed (by kernel_rfl) (by kernel_rfl) (by kernel_rfl) (by kernel_rfl) (by kernel_rfl) ?_
    refine TrOps.append rfl rfl rfl (by decide) rfl rfl rfl es44 el44 zc93 rfl by93 (by simp [D.one, Value.oneCell']) (by simp [maxLen]; omega) (by simp; omega) ?_
    refine TrOps.sem (OpSem.move (.inr rfl) rfl) rfl rfl (by decide) ?_
    refine TrOps.nil ?_
    refine At.seq ?_
    refine Tr.cut [(0, .d (arcsD l)), (5, .o 25), (6, I ((skpL l x : Int)))] [(25, .own 3 93 ((l.take (cntL l x) ++ [x]).map arcC))] ?_ ?_
    · refine Tr.seq ?_
      refine PC.start [] ?_
      refine PC.sem (OpSem.move (.inl rfl) rfl) rfl rfl ?_
      refine PC.sem (OpSem.move (.inl rfl) rfl) rfl rfl ?_
      refine PC.sem (OpSem.lenL rfl rfl es44) rfl rfl ?_
      refine PC.sem (OpSem.bin rfl rfl rfl blss) rfl rfl ?_
      refine PC.sem (OpSem.move (.inl rfl) rfl) rfl rfl ?_
      refine PC.split (n := 33) rfl (fun c33 => ?_) (fun c33 => ?_)
      · have hn : cntL l x < l.length := by simpa using c33
        refine PC.gT (OpSem.move (.inl rfl) rfl) rfl rfl rfl rfl c33 rfl ?_
        refine PC.gT (OpSem.move (.inl rfl) rfl) rfl rfl rfl rfl c33 rfl ?_
        refine PC.gT (OpSem.idxL rfl rfl rfl es44 (by omega) (by omega)) rfl rfl rfl rfl c33 rfl ?_
        refine PC.gT (OpSem.loadN rfl rfl vs93 (by first | decide | simp) rfl) rfl rfl rfl rfl c33 rfl ?_
        refine PC.gT (OpSem.loadbN rfl rfl rfl vs93 (by first | decide | simp)) rfl rfl rfl rfl c33 rfl ?_
        refine PC.done0 mixed (by kernel_rfl) (by kernel_rfl) (by kernel_rfl) (by kernel_rfl) (by kernel_rfl) ?_
        refine TrOps.gT rfl rfl rfl rfl c33 ?_
        refine TrOps.sem (OpSem.eqS3 rfl rfl rfl io93) rfl rfl (by decide) ?_
        refine TrOps.sem (OpSem.pickT rfl rfl c33 rfl) rfl rfl (by decide) ?_
        refine TrOps.nil ?_
        refine At.seq ?_
        refine Tr.cond rfl (fun c40 => ?_) (fun c40 => ?_)
        · have hq : nth l (cntL l x) = x := arc_ext (by simp at c40; exact c40.1) (by simp at c40; exact c40.2.1) (by simp at c40; exact c40.2.2)
          have he : skpL l x = cntL l x + 1 := by unfold skpL; rw [if_pos ⟨hn, hq⟩]
          refine Tr.region ?_
          refine TrOps.sem (OpSem.move (.inl rfl) rfl) rfl rfl (by decide) ?_
          refine TrOps.sem (OpSem.bin rfl rfl rfl (badd (by omega) (by omega))) rfl rfl (by decide) ?_
          refine TrOps.sem (OpSem.move (.inr rfl) rfl) rfl rfl (by decide) ?_
          refine TrOps.nil ?_
          refine At.meet ?_
          exact .slot rfl (.refl _) <| .slot rfl (.refl _) <| .slot rfl (Le.i (by rw [he]; omega)) <| .memEq rfl (by simp) <| .nil
        · have hq : nth l (cntL l x) ≠ x := fun h => by rw [h] at c40; simp at c40
          have he : skpL l x = cntL l x := by unfold skpL; rw [if_neg (fun h => hq h.2)]
          refine Tr.skip ?_
          refine At.meet ?_
          exact .slot rfl (.refl _) <| .slot rfl (.refl _) <| .slot rfl (Le.i (by rw [he])) <| .memEq rfl (by simp) <| .nil
      · have hn : ¬ cntL l x < l.length := by simpa using c33
        have he : skpL l x = cntL l x := by unfold skpL; rw [if_neg (fun h => hn h.1)]
        refine PC.gF rfl rfl rfl rfl c33 rfl ?_
        refine PC.gF rfl rfl rfl rfl c33 rfl ?_
        refine PC.gF rfl rfl rfl rfl c33 rfl ?_
        refine PC.gF rfl rfl rfl rfl c33 rfl ?_
        refine PC.gF rfl rfl rfl rfl c33 rfl ?_
        refine PC.done0 mixed (by kernel_rfl) (by kernel_rfl) (by kernel_rfl) (by kernel_rfl) (by kernel_rfl) ?_
        refine TrOps.gF rfl rfl rfl rfl c33 rfl (by decide) ?_
        refine TrOps.sem (OpSem.pickF rfl rfl c33 rfl) rfl rfl (by decide) ?_
        refine TrOps.nil ?_
        refine At.seq ?_
        refine Tr.condF rfl rfl ?_
        refine Tr.skip ?_
        refine At.meet ?_
        exact .slot rfl (.refl _) <| .slot rfl (.refl _) <| .slot rfl (Le.i (by rw [he])) <| .memEq rfl (by simp) <| .nil
    · refine Tr.seq ?_
      refine Tr.region ?_
      refine TrOps.sem (OpSem.move (.inl rfl) rfl) rfl rfl (by decide) ?_
      refine TrOps.sem (OpSem.move (.inl rfl) rfl) rfl rfl (by decide) ?_
      refine TrOps.sem (OpSem.move (.inl rfl) rfl) rfl rfl (by decide) ?_
      refine TrOps.sem (OpSem.sliceL rfl rfl rfl es44 (by omega) (by omega)) rfl rfl (by decide) ?_
      refine TrOps.append rfl rfl rfl (by decide) rfl rfl rfl es44 el44 zc93 rfl by93 (by intro r hr; obtain ⟨y, _, rfl⟩ := List.mem_map.1 hr; simp [D.one, Value.oneCell']) (by simp [maxLen]; omega) (by simp; omega) ?_
      refine TrOps.sem (OpSem.move (.inr rfl) rfl) rfl rfl (by decide) ?_
      refine TrOps.nil ?_
      refine At.seq ?_
      refine Tr.ret ?_
      exact At.retO2 rfl rfl rfl (by simp) (by simp [insL])

theorem Q_Relabeled_does (a : Abs) (to : List Int) (h0 : aplF a to = (0, 0)) : Does Try.prog false 40 [absS a, .d (ints to)] (absS (relA a to)) := by
  obtain ⟨hA, hto, hin⟩ := aplF_inv h0
  have hal := hA.len
  have hgl := goals_len hA
  have hst := hA.head.1
  refine Does.of_body Try.func40 rfl rfl (by simp) Try.call40 (fun w0 O0 => ?_)
  refine Tr.lenG (n := 0) (i := 2) rfl rfl (fun len0_2 => ?_)
  refine Tr.lenG (n := 0) (i := 4) rfl rfl (fun len0_4 => ?_)
  refine Tr.lenLe (n := 1) rfl (fun len1 => ?_)
  refine Tr.seq ?_
  refine Tr.region ?_
  refine TrOps.semM (OpSem.box 2 rfl rfl rfl rfl) rfl rfl (by decide) ?_
  refine TrOps.semM (OpSem.alloc 4 rfl zc46 rfl) rfl rfl (by decide) ?_
  refine TrOps.nil ?_
  refine At.seq ?_
  refine Tr.seq ?_
  refine PC.start [] ?_
  refine PC.sem (OpSem.fieldr rfl rfl fo46_0) rfl rfl ?_
  refine PC.sem (OpSem.loadb1 rfl rfl rfl vs3 rfl) rfl rfl ?_
  refine PC.sem (OpSem.fieldr rfl rfl fo46_1) rfl rfl ?_
  refine PC.sem (OpSem.loadb1 rfl rfl rfl vs3 rfl) rfl rfl ?_
  refine PC.sem (OpSem.fieldr rfl rfl fo46_3) rfl rfl ?_
  refine PC.sem (OpSem.loadb1 rfl rfl rfl vs3 rfl) rfl rfl ?_
  refine PC.sem (OpSem.fieldr rfl rfl fo46_4) rfl rfl ?_
  refine PC.sem (OpSem.loadb1 rfl rfl rfl vs22 rfl) rfl rfl ?_
  refine PC.sem (OpSem.call0 (R_Copy_does a.goals (by omega)).fresh rfl rfl rfl rfl (Les.refl _)) rfl rfl ?_
  refine PC.sem (OpSem.build rfl rfl pl46 zc46 rfl rfl) rfl rfl ?_
  refine PC.semM (OpSem.alloc 5 rfl zc46 rfl) rfl rfl ?_
  refine PC.done1 5 (.box [I (0), I (0), .d (.v (.slice none 0 0)), I (0), .d (.v (.slice none 0 0))]) mixed (by kernel_rfl) (by kernel_rfl) (by kernel_rfl) (by kernel_rfl) (by kernel_rfl) ?_
  refine TrOps.storeb rfl rfl rfl rfl rfl rfl rfl vs46 (by first | decide | simp) ?_
  refine TrOps.nil ?_
  refine At.seq ?_
  refine Tr.seq ?_
  refine Tr.seq ?_
  refine Tr.region ?_
  refine TrOps.sem (OpSem.move (.inr rfl) rfl) rfl rfl (by decide) ?_
  refine TrOps.nil ?_
  refine At.seq ?_
  refine Tr.block ?_
  refine Tr.loop (X := Nat) (fun k => k ≤ a.arcs.length) (fun k => [(1, .d (ints to)), (2, .r 2 0), (4, .r 4 0), (5, .r 5 0), (6, I (k))]) (fun k => [(5, .box [I (a.states), I (a.labels), .d (arcsD (insTo (relI a to) k)), I (a.init), .d (ints a.goals)]), (2, .box [I (a.states), I (a.labels), .d (arcsD a.arcs), I (a.init), .d (ints a.goals)]), (4, .box [I (0), I (0), .d (.v (.slice none 0 0)), I (0), .d (.v (.slice none 0 0))])]) (fun k => a.arcs.length - k) 0 (by omega) ?_ ?_
  · exact .slot rfl (.refl _) <| .slot rfl (.refl _) <| .slot rfl (.refl _) <| .slot rfl (.refl _) <| .slot rfl (Le.of_eq (by simp)) <| .boxLe rfl (.cons (.refl _) <| .cons (.refl _) <| .cons (Le.nil 3) <| .cons (.refl _) <| .cons (.refl _) <| .nil) <| .mem rfl <| .mem rfl <| .nil
  · rintro k hkl
    refine Tr.seq ?_
    refine Tr.seq ?_
    refine Tr.region ?_
    refine TrOps.sem (OpSem.move (.inl rfl) rfl) rfl rfl (by decide) ?_
    refine TrOps.sem (OpSem.fieldr rfl rfl fo46_2) rfl rfl (by decide) ?_
    refine TrOps.sem (OpSem.loadb1 rfl rfl rfl vs44 rfl) rfl rfl (by decide) ?_
    refine TrOps.sem (OpSem.lenL rfl rfl es44) rfl rfl (by decide) ?_
    refine TrOps.sem (OpSem.bin rfl rfl rfl blss) rfl rfl (by decide) ?_
    refine TrOps.nil ?_
    refine At.seq ?_
    refine Tr.cond rfl (fun c21 => ?_) (fun c21 => ?_)
    · have hk : k < a.arcs.length := by simpa using c21
      have harc := (hA.arc k hk).2.1
      refine Tr.skip ?_
      refine At.seq ?_
      refine Tr.seq ?_
      refine Tr.block ?_
      refine PC.start [] ?_
      refine PC.sem (OpSem.fieldr rfl rfl fo46_2) rfl rfl ?_
      refine PC.sem (OpSem.loadb1 rfl rfl rfl vs44 rfl) rfl rfl ?_
      refine PC.sem (OpSem.fieldr rfl rfl fo46_2) rfl rfl ?_
      refine PC.sem (OpSem.loadb1 rfl rfl rfl vs44 rfl) rfl rfl ?_
      refine PC.sem (OpSem.move (.inl rfl) rfl) rfl rfl ?_
      refine PC.sem (OpSem.idxL rfl rfl rfl es44 (by omega) (by omega)) rfl rfl ?_
      refine PC.sem (OpSem.fieldp rfl rfl fo93_0) rfl rfl ?_
      refine PC.sem (OpSem.load1 rfl rfl vs3 rfl) rfl rfl ?_
      refine PC.sem (OpSem.move (.inl rfl) rfl) rfl rfl ?_
      refine PC.sem (OpSem.fieldr rfl rfl fo46_2) rfl rfl ?_
      refine PC.sem (OpSem.loadb1 rfl rfl rfl vs44 rfl) rfl rfl ?_
      refine PC.sem (OpSem.move (.inl rfl) rfl) rfl rfl ?_
      refine PC.sem (OpSem.idxL rfl rfl rfl es44 (by omega) (by omega)) rfl rfl ?_
      refine PC.sem (OpSem.fieldp rfl rfl fo93_1) rfl rfl ?_
      refine PC.sem (OpSem.load1 rfl rfl vs3 rfl) rfl rfl ?_
      refine PC.sem (OpSem.idxL rfl rfl rfl es22 (by omega) (by omega)) rfl rfl ?_
      refine PC.sem (OpSem.load1 rfl rfl vs3 rfl) rfl rfl ?_
      refine PC.sem (OpSem.fieldr rfl rfl fo46_2) rfl rfl ?_
      refine PC.sem (OpSem.loadb1 rfl rfl rfl vs44 rfl) rfl rfl ?_
      refine PC.sem (OpSem.move (.inl rfl) rfl) rfl rfl ?_
      refine PC.sem (OpSem.idxL rfl rfl rfl es44 (by omega) (by omega)) rfl rfl ?_
      refine PC.sem (OpSem.fieldp rfl rfl fo93_2) rfl rfl ?_
      refine PC.sem (OpSem.load1 rfl rfl vs3 rfl) rfl rfl ?_
      refine PC.sem (OpSem.build rfl rfl pl93 zc93 rfl rfl) rfl rfl ?_
      refine PC.done0 mixed (by kernel_rfl) (by kernel_rfl) (by kernel_rfl) (by kernel_rfl) (by kernel_rfl) ?_
      refine TrOps.sem (OpSem.call0 (Q_insert_does (insTo (relI a to) k) (relI a to k) (by have := insTo_len (f := relI a to) (k := k); omega)).fresh rfl rfl rfl rfl (Les.refl _)) rfl rfl (by decide) ?_
      refine TrOps.sem (OpSem.fieldr rfl rfl fo46_2) rfl rfl (by decide) ?_
      refine TrOps.storeb rfl rfl rfl rfl rfl rfl rfl vs44 (by first | decide | simp) ?_
      refine TrOps.nil ?_
      refine At.block_normal ?_
      refine At.seq ?_
      refine Tr.region ?_
      refine TrOps.sem (OpSem.move (.inl rfl) rfl) rfl rfl (by decide) ?_
      refine TrOps.sem (OpSem.bin rfl rfl rfl (badd (by omega) (by omega))) rfl rfl (by decide) ?_
      refine TrOps.sem (OpSem.move (.inr rfl) rfl) rfl rfl (by decide) ?_
      refine TrOps.nil ?_
      refine At.again (k + 1) (by omega) ?_ (by omega)
      exact .slot rfl (.refl _) <| .slot rfl (.refl _) <| .slot rfl (.refl _) <| .slot rfl (.refl _) <| .slot rfl (Le.of_eq (by simp)) <| .mem rfl <| .mem rfl <| .mem rfl <| .nil
    · have hk : k = a.arcs.length := by simp at c21; omega
      refine Tr.exit ?_
      refine At.pass_exit ?_
      refine At.pass_exit ?_
      refine At.block_same ?_
      refine At.seq ?_
      refine Tr.seq ?_
      refine Tr.region ?_
      refine TrOps.sem (OpSem.loadbN rfl rfl rfl vs46 (by first | decide | simp)) rfl rfl (by decide) ?_
      refine TrOps.storeb rfl rfl rfl rfl rfl rfl rfl vs46 (by first | decide | simp) ?_
      refine TrOps.nil ?_
      refine At.seq ?_
      refine Tr.ret ?_
      exact At.ret rfl (.cellN rfl rfl vs46 <| .nil) rfl (Le.of_eq (by rw [hk, rel_ins]; rfl))

theorem law_labelsExample_does  : Does Try.prog false 33 [] (Bo true) := by
  refine Does.of_body Try.func33 rfl rfl (by simp) Try.call33 (fun w0 O0 => ?_)
  refine Tr.seq ?_
  refine Tr.region ?_
  refine TrOps.sem (OpSem.move (.inr rfl) rfl) rfl rfl (by decide) ?_
  refine TrOps.nil ?_
  refine At.seq ?_
  refine Tr.seq ?_
  refine Tr.region ?_
  refine TrOps.sem (OpSem.build rfl rfl pl93 zc93 rfl rfl) rfl rfl (by decide) ?_
  refine TrOps.sem (OpSem.build rfl rfl pl93 zc93 rfl rfl) rfl rfl (by decide) ?_
  refine TrOps.sem (OpSem.le (s' := .d (arcsD exL.arcs)) (OpSem.buildSlice rfl rfl es44 ze44 rfl rfl (by decide) (by decide) rfl rfl) (Le.of_eq rfl)) rfl rfl (by decide) ?_
  refine TrOps.sem (OpSem.le (s' := .d (ints [1])) (OpSem.buildSlice rfl rfl es22 ze22 rfl rfl (by decide) (by decide) rfl rfl) (Le.of_eq rfl)) rfl rfl (by decide) ?_
  refine TrOps.sem (OpSem.le (s' := absS exL) (OpSem.build rfl rfl pl46 zc46 rfl rfl) (Le.of_eq rfl)) rfl rfl (by decide) ?_
  refine TrOps.semM (OpSem.alloc 1 rfl zc46 rfl) rfl rfl (by decide) ?_
  refine TrOps.storeb rfl rfl rfl rfl rfl rfl rfl vs46 (by first | decide | simp) ?_
  refine TrOps.nil ?_
  refine At.seq ?_
  refine Tr.seq ?_
  refine Tr.region ?_
  refine TrOps.sem (OpSem.loadbN rfl rfl rfl vs46 (by first | decide | simp)) rfl rfl (by decide) ?_
  refine TrOps.sem (OpSem.le (s' := .d (abssD [exL])) (OpSem.buildSlice rfl rfl es34 ze34 rfl rfl (by decide) (by decide) rfl rfl) (Le.of_eq rfl)) rfl rfl (by decide) ?_
  refine TrOps.sem (OpSem.le (s' := .d (ints [1, 1, 1])) (OpSem.buildSlice rfl rfl es22 ze22 rfl rfl (by decide) (by decide) rfl rfl) (Le.of_eq rfl)) rfl rfl (by decide) ?_
  refine TrOps.sem (OpSem.call0 (labels_Reduce_does [exL] [1, 1, 1] (-1) (fun k hk => by cases k with | zero => decide | succ k => simp at hk)) rfl rfl rfl rfl (Les.refl _)) rfl rfl (by decide) ?_
  refine TrOps.sem (OpSem.move (.inl rfl) rfl) rfl rfl (by decide) ?_
  refine TrOps.sem (OpSem.extract rfl rfl rfl) rfl rfl (by decide) ?_
  refine TrOps.sem (OpSem.extract rfl rfl rfl) rfl rfl (by decide) ?_
  refine TrOps.semM (OpSem.alloc 3 rfl zc29 rfl) rfl rfl (by decide) ?_
  refine TrOps.sem (OpSem.move (.inr rfl) rfl) rfl rfl (by decide) ?_
  refine TrOps.storeb rfl rfl rfl rfl rfl rfl rfl vs29 (by first | decide | simp) ?_
  refine TrOps.nil ?_
  refine At.seq ?_
  refine Tr.seq ?_
  refine Tr.region ?_
  refine TrOps.sem (OpSem.loadbN rfl rfl rfl vs46 (by first | decide | simp)) rfl rfl (by decide) ?_
  refine TrOps.sem (OpSem.le (s' := .d (ints [0, 1, 0])) (OpSem.buildSlice rfl rfl es22 ze22 rfl rfl (by decide) (by decide) rfl rfl) (Le.of_eq rfl)) rfl rfl (by decide) ?_
  refine TrOps.sem (OpSem.call0 (labels_Apply_does exL [0, 1, 0] (by decide)) rfl rfl rfl rfl (Les.refl _)) rfl rfl (by decide) ?_
  refine TrOps.sem (OpSem.move (.inl rfl) rfl) rfl rfl (by decide) ?_
  refine TrOps.sem (OpSem.extract rfl rfl rfl) rfl rfl (by decide) ?_
  refine TrOps.sem (OpSem.extract rfl rfl rfl) rfl rfl (by decide) ?_
  refine TrOps.semM (OpSem.alloc 4 rfl zc46 rfl) rfl rfl (by decide) ?_
  refine TrOps.semM (OpSem.alloc 5 rfl zc29 rfl) rfl rfl (by decide) ?_
  refine TrOps.storeb rfl rfl rfl rfl rfl rfl rfl vs46 (by first | decide | simp) ?_
  refine TrOps.storeb rfl rfl rfl rfl rfl rfl rfl vs29 (by first | decide | simp) ?_
  refine TrOps.nil ?_
  refine At.seq ?_
  refine Tr.seq ?_
  refine Tr.region ?_
  refine TrOps.sem (OpSem.loadbN rfl rfl rfl vs46 (by first | decide | simp)) rfl rfl (by decide) ?_
  refine TrOps.sem (OpSem.le (s' := .d (abssD [exL])) (OpSem.buildSlice rfl rfl es34 ze34 rfl rfl (by decide) (by decide) rfl rfl) (Le.of_eq rfl)) rfl rfl (by decide) ?_
  refine TrOps.sem (OpSem.le (s' := .d (ints [1, 1, 1])) (OpSem.buildSlice rfl rfl es22 ze22 rfl rfl (by decide) (by decide) rfl rfl) (Le.of_eq rfl)) rfl rfl (by decide) ?_
  refine TrOps.sem (OpSem.call0 (labels_Equivalent_does [exL] [1, 1, 1] (-1) 0 2 (fun k hk => by cases k with | zero => decide | succ k => simp at hk)) rfl rfl rfl rfl (Les.refl _)) rfl rfl (by decide) ?_
  refine TrOps.sem (OpSem.move (.inl rfl) rfl) rfl rfl (by decide) ?_
  refine TrOps.sem (OpSem.extract rfl rfl rfl) rfl rfl (by decide) ?_
  refine TrOps.sem (OpSem.extract rfl rfl rfl) rfl rfl (by decide) ?_
  refine TrOps.semM (OpSem.alloc 7 rfl zc29 rfl) rfl rfl (by decide) ?_
  refine TrOps.sem (OpSem.move (.inr rfl) rfl) rfl rfl (by decide) ?_
  refine TrOps.storeb rfl rfl rfl rfl rfl rfl rfl vs29 (by first | decide | simp) ?_
  refine TrOps.nil ?_
  refine At.seq ?_
  refine Tr.seq ?_
  refine Tr.region ?_
  refine TrOps.sem (OpSem.fieldr rfl rfl fo29_0) rfl rfl (by decide) ?_
  refine TrOps.sem (OpSem.loadb1 rfl rfl rfl vs3 rfl) rfl rfl (by decide) ?_
  refine TrOps.sem (OpSem.bin rfl rfl rfl beql) rfl rfl (by decide) ?_
  refine TrOps.sem (OpSem.move (.inl rfl) rfl) rfl rfl (by decide) ?_
  refine TrOps.gT rfl rfl rfl rfl (by rw [exL_red]; rfl) ?_
  refine TrOps.sem (OpSem.fieldr rfl rfl fo29_0) rfl rfl (by decide) ?_
  refine TrOps.gT rfl rfl rfl rfl (by rw [exL_red]; rfl) ?_
  refine TrOps.sem (OpSem.loadb1 rfl rfl rfl vs3 rfl) rfl rfl (by decide) ?_
  refine TrOps.gT rfl rfl rfl rfl (by rw [exL_red]; rfl) ?_
  refine TrOps.sem (OpSem.bin rfl rfl rfl beql) rfl rfl (by decide) ?_
  refine TrOps.sem (OpSem.pickT rfl rfl (by rw [exL_red]; rfl) rfl) rfl rfl (by decide) ?_
  refine TrOps.sem (OpSem.move (.inl rfl) rfl) rfl rfl (by decide) ?_
  refine TrOps.gT rfl rfl rfl rfl (by rw [exL_apl]; rfl) ?_
  refine TrOps.sem (OpSem.fieldr rfl rfl fo29_0) rfl rfl (by decide) ?_
  refine TrOps.gT rfl rfl rfl rfl (by rw [exL_apl]; rfl) ?_
  refine TrOps.sem (OpSem.loadb1 rfl rfl rfl vs3 rfl) rfl rfl (by decide) ?_
  refine TrOps.gT rfl rfl rfl rfl (by rw [exL_apl]; rfl) ?_
  refine TrOps.sem (OpSem.bin rfl rfl rfl beql) rfl rfl (by decide) ?_
  refine TrOps.sem (OpSem.pickT rfl rfl (by rw [exL_apl]; rfl) rfl) rfl rfl (by decide) ?_
  refine TrOps.sem (OpSem.move (.inl rfl) rfl) rfl rfl (by decide) ?_
  refine TrOps.gT rfl rfl rfl rfl (by rw [exL_eqv.1]; rfl) ?_
  refine TrOps.sem (OpSem.move (.inl rfl) rfl) rfl rfl (by decide) ?_
  refine TrOps.sem (OpSem.pickT rfl rfl (by rw [exL_eqv.1]; rfl) rfl) rfl rfl (by decide) ?_
  refine TrOps.sem (OpSem.move (.inl rfl) rfl) rfl rfl (by decide) ?_
  refine TrOps.gT rfl rfl rfl rfl (decide_eq_true exL_eqv) ?_
  refine TrOps.sem (OpSem.move (.inl rfl) rfl) rfl rfl (by decide) ?_
  refine TrOps.gT rfl rfl rfl rfl (decide_eq_true exL_eqv) ?_
  refine TrOps.sem (OpSem.le (s' := .d (ints [0, 1, 0])) (OpSem.buildSlice rfl rfl es22 ze22 rfl rfl (by decide) (by decide) rfl rfl) (Le.of_eq rfl)) rfl rfl (by decide) ?_
  refine TrOps.gT rfl rfl rfl rfl (decide_eq_true exL_eqv) ?_
  refine TrOps.sem (OpSem.call0 (R_Ints_does (redL [exL] [1, 1, 1] (-1)) [0, 1, 0]) rfl rfl rfl rfl (Les.refl _)) rfl rfl (by decide) ?_
  refine TrOps.sem (OpSem.pickT rfl rfl (decide_eq_true exL_eqv) rfl) rfl rfl (by decide) ?_
  refine TrOps.sem (OpSem.move (.inl rfl) rfl) rfl rfl (by decide) ?_
  refine TrOps.gT rfl rfl rfl rfl (by rw [exL_redL]; rfl) ?_
  refine TrOps.sem (OpSem.fieldr rfl rfl fo46_2) rfl rfl (by decide) ?_
  refine TrOps.gT rfl rfl rfl rfl (by rw [exL_redL]; rfl) ?_
  refine TrOps.sem (OpSem.loadb1 rfl rfl rfl vs44 rfl) rfl rfl (by decide) ?_
  refine TrOps.gT rfl rfl rfl rfl (by rw [exL_redL]; rfl) ?_
  refine TrOps.sem (OpSem.lenL rfl rfl es44) rfl rfl (by decide) ?_
  refine TrOps.gT rfl rfl rfl rfl (by rw [exL_redL]; rfl) ?_
  refine TrOps.sem (OpSem.bin rfl rfl rfl beql) rfl rfl (by decide) ?_
  refine TrOps.sem (OpSem.pickT rfl rfl (by rw [exL_redL]; rfl) rfl) rfl rfl (by decide) ?_
  refine TrOps.sem (OpSem.move (.inr rfl) rfl) rfl rfl (by decide) ?_
  refine TrOps.nil ?_
  refine At.seq ?_
  refine Tr.ret ?_
  exact At.ret rfl (.tmp rfl <| .nil) rfl (Le.bo (by rw [exL_rel]; rfl))

theorem law_LabelsReduceMatchesSpec_does (l : List Abs) (c : List Int) (ex : Int) (hr : ∀ k : Nat, k < l.length → -9223372036854775808 ≤ (nth l k).states ∧ (nth l k).states ≤ 9223372036854775807) : Does Try.prog false 5 [.d (abssD l), .d (ints c), I (ex)] (Bo true) := by
  refine Does.of_body Try.func5 rfl rfl (by simp) Try.call5 (fun w0 O0 => ?_)
  refine Tr.lenLe (n := 0) rfl (fun len0 => ?_)
  refine Tr.lenLe (n := 1) rfl (fun len1 => ?_)
  refine Tr.seq ?_
  refine Tr.region ?_
  refine TrOps.sem (OpSem.move (.inr rfl) rfl) rfl rfl (by decide) ?_
  refine TrOps.nil ?_
  refine At.seq ?_
  refine Tr.seq ?_
  refine Tr.seq ?_
  refine Tr.region ?_
  refine TrOps.sem (OpSem.call0 (law_labelsExample_does) rfl rfl rfl rfl (Les.refl _)) rfl rfl (by decide) ?_
  refine TrOps.sem (OpSem.not rfl rfl) rfl rfl (by decide) ?_
  refine TrOps.nil ?_
  refine At.seq ?_
  refine Tr.condF rfl rfl ?_
  refine Tr.skip ?_
  refine At.seq ?_
  refine Tr.seq ?_
  refine Tr.region ?_
  refine TrOps.sem (OpSem.move (.inl rfl) rfl) rfl rfl (by decide) ?_
  refine TrOps.sem (OpSem.move (.inl rfl) rfl) rfl rfl (by decide) ?_
  refine TrOps.sem (OpSem.move (.inl rfl) rfl) rfl rfl (by decide) ?_
  refine TrOps.sem (OpSem.call0 (labels_Reduce_does l c ex hr) rfl rfl rfl rfl (Les.refl _)) rfl rfl (by decide) ?_
  refine TrOps.sem (OpSem.move (.inl rfl) rfl) rfl rfl (by decide) ?_
  refine TrOps.sem (OpSem.extract rfl rfl rfl) rfl rfl (by decide) ?_
  refine TrOps.sem (OpSem.extract rfl rfl rfl) rfl rfl (by decide) ?_
  refine TrOps.semM (OpSem.alloc 8 rfl zc29 rfl) rfl rfl (by decide) ?_
  refine TrOps.sem (OpSem.move (.inr rfl) rfl) rfl rfl (by decide) ?_
  refine TrOps.storeb rfl rfl rfl rfl rfl rfl rfl vs29 (by first | decide | simp) ?_
  refine TrOps.nil ?_
  refine At.seq ?_
  refine Tr.seq ?_
  refine Tr.region ?_
  refine TrOps.sem (OpSem.move (.inl rfl) rfl) rfl rfl (by decide) ?_
  refine TrOps.sem (OpSem.move (.inl rfl) rfl) rfl rfl (by decide) ?_
  refine TrOps.sem (OpSem.call0 (Q_LabelsFault_does l c) rfl rfl rfl rfl (Les.refl _)) rfl rfl (by decide) ?_
  refine TrOps.semM (OpSem.alloc 9 rfl zc29 rfl) rfl rfl (by decide) ?_
  refine TrOps.storeb rfl rfl rfl rfl rfl rfl rfl vs29 (by first | decide | simp) ?_
  refine TrOps.nil ?_
  refine At.seq ?_
  refine Tr.cut [(0, .d (abssD l)), (1, .d (ints c)), (2, I (ex)), (6, Bo (false)), (7, .d (ints (redL l c ex))), (8, .r 8 0), (9, .r 9 0)] [(8, .box [I ((redF l c ex).1), I ((redF l c ex).2)]), (9, .box [I ((redF l c ex).1), I ((redF l c ex).2)])] ?_ ?_
  · refine Tr.seq ?_
    refine Tr.region ?_
    refine TrOps.sem (OpSem.fieldr rfl rfl fo29_0) rfl rfl (by decide) ?_
    refine TrOps.sem (OpSem.loadb1 rfl rfl rfl vs3 rfl) rfl rfl (by decide) ?_
    refine TrOps.sem (OpSem.bin rfl rfl rfl beql) rfl rfl (by decide) ?_
    refine TrOps.sem (OpSem.move (.inl rfl) rfl) rfl rfl (by decide) ?_
    refine TrOps.split (n := 27) rfl (fun c27 => ?_) (fun c27 => ?_)
    · refine TrOps.gT rfl rfl rfl rfl c27 ?_
      refine TrOps.sem (OpSem.move (.inl rfl) rfl) rfl rfl (by decide) ?_
      refine TrOps.gT rfl rfl rfl rfl c27 ?_
      refine TrOps.sem (OpSem.move (.inl rfl) rfl) rfl rfl (by decide) ?_
      refine TrOps.gT rfl rfl rfl rfl c27 ?_
      refine TrOps.sem (OpSem.lenL rfl rfl es34) rfl rfl (by decide) ?_
      refine TrOps.gT rfl rfl rfl rfl c27 ?_
      refine TrOps.sem (OpSem.bin rfl rfl rfl (bsub (by omega) (by omega))) rfl rfl (by decide) ?_
      refine TrOps.gT rfl rfl rfl rfl c27 ?_
      refine TrOps.sem (OpSem.call0 (R_In_does ..) rfl rfl rfl rfl (Les.refl _)) rfl rfl (by decide) ?_
      refine TrOps.gT rfl rfl rfl rfl c27 ?_
      refine TrOps.sem (OpSem.not rfl rfl) rfl rfl (by decide) ?_
      refine TrOps.sem (OpSem.pickT rfl rfl c27 rfl) rfl rfl (by decide) ?_
      refine TrOps.nil ?_
      refine At.seq ?_
      refine Tr.cond rfl (fun c34 => ?_) (fun c34 => ?_)
      · refine Tr.region ?_
        refine TrOps.sem (OpSem.call0 (R_At_does ..) rfl rfl rfl rfl (Les.refl _)) rfl rfl (by decide) ?_
        refine TrOps.storeb rfl rfl rfl rfl rfl rfl rfl vs29 (by first | decide | simp) ?_
        refine TrOps.nil ?_
        have he := redF_2 (ex := ex) (labF_code (l := l) (c := c) (by simpa using c27)) (by simp at c34; omega)
        refine At.meet ?_
        exact .slot rfl (.refl _) <| .slot rfl (.refl _) <| .slot rfl (.refl _) <| .slot rfl (.refl _) <| .slot rfl (.refl _) <| .slot rfl (.refl _) <| .slot rfl (.refl _) <| .mem rfl <| .boxLe rfl (.cons (Le.i (congrArg Prod.fst (he))) <| .cons (Le.i (congrArg Prod.snd (he))) <| .nil) <| .nil
      · refine Tr.skip ?_
        have he : labF l c = redF l c ex := by have q := labF_code (l := l) (c := c) (by simpa using c27); rw [← redF_0 q (by simp at c34; omega), q]
        refine At.meet ?_
        exact .slot rfl (.refl _) <| .slot rfl (.refl _) <| .slot rfl (.refl _) <| .slot rfl (.refl _) <| .slot rfl (.refl _) <| .slot rfl (.refl _) <| .slot rfl (.refl _) <| .mem rfl <| .boxLe rfl (.cons (Le.i (congrArg Prod.fst (he))) <| .cons (Le.i (congrArg Prod.snd (he))) <| .nil) <| .nil
    · refine TrOps.gF rfl rfl rfl rfl c27 rfl (by decide) ?_
      refine TrOps.gF rfl rfl rfl rfl c27 rfl (by decide) ?_
      refine TrOps.gF rfl rfl rfl rfl c27 rfl (by decide) ?_
      refine TrOps.gF rfl rfl rfl rfl c27 rfl (by decide) ?_
      refine TrOps.gF rfl rfl rfl rfl c27 rfl (by decide) ?_
      refine TrOps.gF rfl rfl rfl rfl c27 rfl (by decide) ?_
      refine TrOps.sem (OpSem.pickF rfl rfl c27 rfl) rfl rfl (by decide) ?_
      refine TrOps.nil ?_
      refine At.seq ?_
      refine Tr.condF rfl rfl ?_
      refine Tr.skip ?_
      have he := redF_1 (l := l) (c := c) (ex := ex) (fun h => by simp [h] at c27)
      refine At.meet ?_
      exact .slot rfl (.refl _) <| .slot rfl (.refl _) <| .slot rfl (.refl _) <| .slot rfl (.refl _) <| .slot rfl (.refl _) <| .slot rfl (.refl _) <| .slot rfl (.refl _) <| .mem rfl <| .boxLe rfl (.cons (Le.i (congrArg Prod.fst (he))) <| .cons (Le.i (congrArg Prod.snd (he))) <| .nil) <| .nil
  · refine Tr.seq ?_
    refine Tr.seq ?_
    refine Tr.region ?_
    refine TrOps.sem (OpSem.fieldr rfl rfl fo29_0) rfl rfl (by decide) ?_
    refine TrOps.sem (OpSem.loadb1 rfl rfl rfl vs3 rfl) rfl rfl (by decide) ?_
    refine TrOps.sem (OpSem.bin rfl rfl rfl bneq) rfl rfl (by decide) ?_
    refine TrOps.nil ?_
    refine At.seq ?_
    refine Tr.cond rfl (fun c38 => ?_) (fun c38 => ?_)
    · have hne : redF l c ex ≠ (0, 0) := fun h => by simp [h] at c38
      refine Tr.seq ?_
      refine Tr.region ?_
      refine TrOps.sem (OpSem.loadbN rfl rfl rfl vs29 (by first | decide | simp)) rfl rfl (by decide) ?_
      refine TrOps.sem (OpSem.loadbN rfl rfl rfl vs29 (by first | decide | simp)) rfl rfl (by decide) ?_
      refine TrOps.sem (OpSem.eqS2 rfl rfl rfl io29) rfl rfl (by decide) ?_
      refine TrOps.sem (OpSem.move (.inl rfl) rfl) rfl rfl (by decide) ?_
      refine TrOps.gT rfl rfl rfl rfl (by simp) ?_
      refine TrOps.sem (OpSem.move (.inl rfl) rfl) rfl rfl (by decide) ?_
      refine TrOps.gT rfl rfl rfl rfl (by simp) ?_
      refine TrOps.sem (OpSem.lenL rfl rfl es22) rfl rfl (by decide) ?_
      refine TrOps.gT rfl rfl rfl rfl (by simp) ?_
      refine TrOps.sem (OpSem.bin rfl rfl rfl beql) rfl rfl (by decide) ?_
      refine TrOps.sem (OpSem.pickT rfl rfl (by simp) rfl) rfl rfl (by decide) ?_
      refine TrOps.sem (OpSem.move (.inr rfl) rfl) rfl rfl (by decide) ?_
      refine TrOps.nil ?_
      refine At.seq ?_
      refine Tr.ret ?_
      refine At.pass_ret ?_
      exact At.ret rfl (.tmp rfl <| .nil) rfl (Le.bo (by first | rfl | (rw [redL_1 hne]; rfl)))
    · have h0 : redF l c ex = (0, 0) := redF_code (by simpa using c38)
      have hok := redF_ok h0
      have hcl := (labF_ok hok.1).2.1
      have hrl : (redL l c ex).length = c.length := by rw [redL_0 h0, redTo_len]
      refine Tr.skip ?_
      refine At.seq ?_
      refine Tr.seq ?_
      refine Tr.seq ?_
      refine Tr.region ?_
      refine TrOps.sem (OpSem.fieldr rfl rfl fo29_0) rfl rfl (by decide) ?_
      refine TrOps.sem (OpSem.loadb1 rfl rfl rfl vs3 rfl) rfl rfl (by decide) ?_
      refine TrOps.sem (OpSem.bin rfl rfl rfl bneq) rfl rfl (by decide) ?_
      refine TrOps.sem (OpSem.move (.inl rfl) rfl) rfl rfl (by decide) ?_
      refine TrOps.gT rfl rfl rfl rfl (by rw [h0]; rfl) ?_
      refine TrOps.sem (OpSem.move (.inl rfl) rfl) rfl rfl (by decide) ?_
      refine TrOps.gT rfl rfl rfl rfl (by rw [h0]; rfl) ?_
      refine TrOps.sem (OpSem.lenL rfl rfl es22) rfl rfl (by decide) ?_
      refine TrOps.gT rfl rfl rfl rfl (by rw [h0]; rfl) ?_
      refine TrOps.sem (OpSem.move (.inl rfl) rfl) rfl rfl (by decide) ?_
      refine TrOps.gT rfl rfl rfl rfl (by rw [h0]; rfl) ?_
      refine TrOps.sem (OpSem.lenL rfl rfl es22) rfl rfl (by decide) ?_
      refine TrOps.gT rfl rfl rfl rfl (by rw [h0]; rfl) ?_
      refine TrOps.sem (OpSem.bin rfl rfl rfl bneq) rfl rfl (by decide) ?_
      refine TrOps.sem (OpSem.pickF rfl rfl (by rw [h0]; rfl) rfl) rfl rfl (by decide) ?_
      refine TrOps.nil ?_
      refine At.seq ?_
      refine Tr.condF rfl (by rw [redL_0 h0, redTo_len]; simp) ?_
      refine Tr.skip ?_
      refine At.seq ?_
      refine Tr.seq ?_
      refine Tr.seq ?_
      refine Tr.region ?_
      refine TrOps.sem (OpSem.move (.inr rfl) rfl) rfl rfl (by decide) ?_
      refine TrOps.nil ?_
      refine At.seq ?_
      refine Tr.block ?_
      refine Tr.loop (X := Nat) (fun b => b ≤ c.length) (fun b => [(0, .d (abssD l)), (1, .d (ints c)), (2, I (ex)), (7, .d (ints (redL l c ex))), (10, I (b))]) (fun b => []) (fun b => c.length - b) 0 (by omega) ?_ ?_
      · exact .slot rfl (.refl _) <| .slot rfl (.refl _) <| .slot rfl (.refl _) <| .slot rfl (.refl _) <| .slot rfl (Le.of_eq (by simp)) <| .nil
      · rintro b hbl
        refine Tr.seq ?_
        refine Tr.seq ?_
        refine Tr.region ?_
        refine TrOps.sem (OpSem.move (.inl rfl) rfl) rfl rfl (by decide) ?_
        refine TrOps.sem (OpSem.move (.inl rfl) rfl) rfl rfl (by decide) ?_
        refine TrOps.sem (OpSem.lenL rfl rfl es22) rfl rfl (by decide) ?_
        refine TrOps.sem (OpSem.bin rfl rfl rfl blss) rfl rfl (by decide) ?_
        refine TrOps.nil ?_
        refine At.seq ?_
        refine Tr.cond rfl (fun c60 => ?_) (fun c60 => ?_)
        · have hb : b < c.length := by simpa using c60
          have hlo := lowE_ex l c ex b
          have hrt : nth (redL l c ex) b = lowE l c ex b := by rw [redL_0 h0]; exact redTo_at hb
          refine Tr.skip ?_
          refine At.seq ?_
          refine Tr.seq ?_
          refine Tr.block ?_
          refine Tr.seq ?_
          refine Tr.region ?_
          refine TrOps.sem (OpSem.move (.inr rfl) rfl) rfl rfl (by decide) ?_
          refine TrOps.nil ?_
          refine At.seq ?_
          refine Tr.seq ?_
          refine Tr.block ?_
          refine Tr.loop (X := Nat) (fun j => j ≤ b ∧ ∀ i : Nat, i < j → ¬ EqvP l c ex i b) (fun j => [(0, .d (abssD l)), (1, .d (ints c)), (2, I (ex)), (7, .d (ints (redL l c ex))), (10, I (b)), (11, I (j))]) (fun j => []) (fun j => b - j) 0 ⟨by omega, by simp⟩ ?_ ?_
          · exact .slot rfl (.refl _) <| .slot rfl (.refl _) <| .slot rfl (.refl _) <| .slot rfl (.refl _) <| .slot rfl (.refl _) <| .slot rfl (Le.of_eq (by simp)) <| .nil
          · rintro j ⟨hjl, hjn⟩
            refine Tr.seq ?_
            refine Tr.seq ?_
            refine Tr.region ?_
            refine TrOps.sem (OpSem.move (.inl rfl) rfl) rfl rfl (by decide) ?_
            refine TrOps.sem (OpSem.move (.inl rfl) rfl) rfl rfl (by decide) ?_
            refine TrOps.sem (OpSem.move (.inl rfl) rfl) rfl rfl (by decide) ?_
            refine TrOps.sem (OpSem.move (.inl rfl) rfl) rfl rfl (by decide) ?_
            refine TrOps.sem (OpSem.move (.inl rfl) rfl) rfl rfl (by decide) ?_
            refine TrOps.sem (OpSem.call0 (Q_Same_does l c ex j b ⟨by omega, by omega⟩ ⟨by omega, by omega⟩ (lab_arcs hok.1)) rfl rfl rfl rfl (Les.refl _)) rfl rfl (by decide) ?_
            refine TrOps.sem (OpSem.not rfl rfl) rfl rfl (by decide) ?_
            refine TrOps.nil ?_
            refine At.seq ?_
            refine Tr.cond rfl (fun c69 => ?_) (fun c69 => ?_)
            · have hq : ¬ EqvP l c ex j b := by simpa using c69
              have hjb : j ≠ b := fun h => hq (by rw [h]; exact EqvP.refl)
              refine Tr.skip ?_
              refine At.seq ?_
              refine Tr.block ?_
              refine Tr.region ?_
              refine TrOps.sem (OpSem.move (.inl rfl) rfl) rfl rfl (by decide) ?_
              refine TrOps.sem (OpSem.bin rfl rfl rfl (badd (by omega) (by omega))) rfl rfl (by decide) ?_
              refine TrOps.sem (OpSem.move (.inr rfl) rfl) rfl rfl (by decide) ?_
              refine TrOps.nil ?_
              refine At.block_normal ?_
              refine At.again (j + 1) ⟨by omega, all_succ hjn hq⟩ ?_ (by omega)
              exact .slot rfl (.refl _) <| .slot rfl (.refl _) <| .slot rfl (.refl _) <| .slot rfl (.refl _) <| .slot rfl (.refl _) <| .slot rfl (Le.of_eq (by simp)) <| .nil
            · have hjl2 : lowE l c ex b = j := lowE_of hjl (by simpa using c69) hjn
              refine Tr.exit ?_
              refine At.pass_exit ?_
              refine At.pass_exit ?_
              refine At.block_same ?_
              refine At.seq ?_
              refine Tr.seq ?_
              refine Tr.region ?_
              refine TrOps.sem (OpSem.move (.inl rfl) rfl) rfl rfl (by decide) ?_
              refine TrOps.sem (OpSem.move (.inl rfl) rfl) rfl rfl (by decide) ?_
              refine TrOps.sem (OpSem.idxL rfl rfl rfl es22 (by omega) (by omega)) rfl rfl (by decide) ?_
              refine TrOps.sem (OpSem.load1 rfl rfl vs3 rfl) rfl rfl (by decide) ?_
              refine TrOps.sem (OpSem.move (.inl rfl) rfl) rfl rfl (by decide) ?_
              refine TrOps.sem (OpSem.bin rfl rfl rfl bneq) rfl rfl (by decide) ?_
              refine TrOps.nil ?_
              refine At.seq ?_
              refine Tr.condF rfl (by rw [hrt, hjl2]; simp) ?_
              refine Tr.skip ?_
              refine At.block_normal ?_
              refine At.seq ?_
              refine Tr.region ?_
              refine TrOps.sem (OpSem.move (.inl rfl) rfl) rfl rfl (by decide) ?_
              refine TrOps.sem (OpSem.bin rfl rfl rfl (badd (by omega) (by omega))) rfl rfl (by decide) ?_
              refine TrOps.sem (OpSem.move (.inr rfl) rfl) rfl rfl (by decide) ?_
              refine TrOps.nil ?_
              refine At.again (b + 1) (by omega) ?_ (by omega)
              exact .slot rfl (.refl _) <| .slot rfl (.refl _) <| .slot rfl (.refl _) <| .slot rfl (.refl _) <| .slot rfl (Le.of_eq (by simp)) <| .nil
        · refine Tr.exit ?_
          refine At.pass_exit ?_
          refine At.pass_exit ?_
          refine At.block_same ?_
          refine At.seq ?_
          refine Tr.seq ?_
          refine Tr.region ?_
          refine TrOps.sem (OpSem.move (.inr rfl) rfl) rfl rfl (by decide) ?_
          refine TrOps.nil ?_
          refine At.seq ?_
          refine Tr.ret ?_
          exact At.ret rfl (.tmp rfl <| .nil) rfl (Le.bo (by first | rfl | (rw [redL_1 hne]; rfl)))

theorem law_LabelsEquivalentMatchesSpec_does (l : List Abs) (c : List Int) (ex x y : Int) (hr : ∀ k : Nat, k < l.length → -9223372036854775808 ≤ (nth l k).states ∧ (nth l k).states ≤ 9223372036854775807) : Does Try.prog false 6 [.d (abssD l), .d (ints c), I (ex), I (x), I (y)] (Bo true) := by
  refine Does.of_body Try.func6 rfl rfl (by simp) Try.call6 (fun w0 O0 => ?_)
  refine Tr.lenLe (n := 0) rfl (fun len0 => ?_)
  refine Tr.lenLe (n := 1) rfl (fun len1 => ?_)
  refine Tr.seq ?_
  refine Tr.region ?_
  refine TrOps.sem (OpSem.move (.inr rfl) rfl) rfl rfl (by decide) ?_
  refine TrOps.nil ?_
  refine At.seq ?_
  refine Tr.seq ?_
  refine Tr.seq ?_
  refine Tr.region ?_
  refine TrOps.sem (OpSem.call0 (law_labelsExample_does) rfl rfl rfl rfl (Les.refl _)) rfl rfl (by decide) ?_
  refine TrOps.sem (OpSem.not rfl rfl) rfl rfl (by decide) ?_
  refine TrOps.nil ?_
  refine At.seq ?_
  refine Tr.condF rfl rfl ?_
  refine Tr.skip ?_
  refine At.seq ?_
  refine Tr.seq ?_
  refine Tr.region ?_
  refine TrOps.sem (OpSem.move (.inl rfl) rfl) rfl rfl (by decide) ?_
  refine TrOps.sem (OpSem.move (.inl rfl) rfl) rfl rfl (by decide) ?_
  refine TrOps.sem (OpSem.move (.inl rfl) rfl) rfl rfl (by decide) ?_
  refine TrOps.sem (OpSem.move (.inl rfl) rfl) rfl rfl (by decide) ?_
  refine TrOps.sem (OpSem.move (.inl rfl) rfl) rfl rfl (by decide) ?_
  refine TrOps.sem (OpSem.call0 (labels_Equivalent_does l c ex x y hr) rfl rfl rfl rfl (Les.refl _)) rfl rfl (by decide) ?_
  refine TrOps.sem (OpSem.move (.inl rfl) rfl) rfl rfl (by decide) ?_
  refine TrOps.sem (OpSem.extract rfl rfl rfl) rfl rfl (by decide) ?_
  refine TrOps.sem (OpSem.extract rfl rfl rfl) rfl rfl (by decide) ?_
  refine TrOps.semM (OpSem.alloc 12 rfl zc29 rfl) rfl rfl (by decide) ?_
  refine TrOps.sem (OpSem.move (.inr rfl) rfl) rfl rfl (by decide) ?_
  refine TrOps.storeb rfl rfl rfl rfl rfl rfl rfl vs29 (by first | decide | simp) ?_
  refine TrOps.nil ?_
  refine At.seq ?_
  refine Tr.seq ?_
  refine Tr.region ?_
  refine TrOps.sem (OpSem.move (.inl rfl) rfl) rfl rfl (by decide) ?_
  refine TrOps.sem (OpSem.move (.inl rfl) rfl) rfl rfl (by decide) ?_
  refine TrOps.sem (OpSem.call0 (Q_LabelsFault_does l c) rfl rfl rfl rfl (Les.refl _)) rfl rfl (by decide) ?_
  refine TrOps.semM (OpSem.alloc 13 rfl zc29 rfl) rfl rfl (by decide) ?_
  refine TrOps.storeb rfl rfl rfl rfl rfl rfl rfl vs29 (by first | decide | simp) ?_
  refine TrOps.nil ?_
  refine At.seq ?_
  refine Tr.cut [(0, .d (abssD l)), (1, .d (ints c)), (2, I (ex)), (3, I (x)), (4, I (y)), (10, Bo (false)), (11, Bo (decide (eqvF l c ex x y = (0, 0) ∧ EqvP l c ex x y))), (12, .r 12 0), (13, .r 13 0)] [(12, .box [I ((eqvF l c ex x y).1), I ((eqvF l c ex x y).2)]), (13, .box [I ((redF l c ex).1), I ((redF l c ex).2)])] ?_ ?_
  · refine Tr.seq ?_
    refine Tr.region ?_
    refine TrOps.sem (OpSem.fieldr rfl rfl fo29_0) rfl rfl (by decide) ?_
    refine TrOps.sem (OpSem.loadb1 rfl rfl rfl vs3 rfl) rfl rfl (by decide) ?_
    refine TrOps.sem (OpSem.bin rfl rfl rfl beql) rfl rfl (by decide) ?_
    refine TrOps.sem (OpSem.move (.inl rfl) rfl) rfl rfl (by decide) ?_
    refine TrOps.split (n := 31) rfl (fun c31 => ?_) (fun c31 => ?_)
    · refine TrOps.gT rfl rfl rfl rfl c31 ?_
      refine TrOps.sem (OpSem.move (.inl rfl) rfl) rfl rfl (by decide) ?_
      refine TrOps.gT rfl rfl rfl rfl c31 ?_
      refine TrOps.sem (OpSem.move (.inl rfl) rfl) rfl rfl (by decide) ?_
      refine TrOps.gT rfl rfl rfl rfl c31 ?_
      refine TrOps.sem (OpSem.lenL rfl rfl es34) rfl rfl (by decide) ?_
      refine TrOps.gT rfl rfl rfl rfl c31 ?_
      refine TrOps.sem (OpSem.bin rfl rfl rfl (bsub (by omega) (by omega))) rfl rfl (by decide) ?_
      refine TrOps.gT rfl rfl rfl rfl c31 ?_
      refine TrOps.sem (OpSem.call0 (R_In_does ..) rfl rfl rfl rfl (Les.refl _)) rfl rfl (by decide) ?_
      refine TrOps.gT rfl rfl rfl rfl c31 ?_
      refine TrOps.sem (OpSem.not rfl rfl) rfl rfl (by decide) ?_
      refine TrOps.sem (OpSem.pickT rfl rfl c31 rfl) rfl rfl (by decide) ?_
      refine TrOps.nil ?_
      refine At.seq ?_
      refine Tr.cond rfl (fun c38 => ?_) (fun c38 => ?_)
      · refine Tr.region ?_
        refine TrOps.sem (OpSem.call0 (R_At_does ..) rfl rfl rfl rfl (Les.refl _)) rfl rfl (by decide) ?_
        refine TrOps.storeb rfl rfl rfl rfl rfl rfl rfl vs29 (by first | decide | simp) ?_
        refine TrOps.nil ?_
        have he := redF_2 (ex := ex) (labF_code (l := l) (c := c) (by simpa using c31)) (by simp at c38; omega)
        refine At.meet ?_
        exact .slot rfl (.refl _) <| .slot rfl (.refl _) <| .slot rfl (.refl _) <| .slot rfl (.refl _) <| .slot rfl (.refl _) <| .slot rfl (.refl _) <| .slot rfl (.refl _) <| .slot rfl (.refl _) <| .slot rfl (.refl _) <| .mem rfl <| .boxLe rfl (.cons (Le.i (congrArg Prod.fst (he))) <| .cons (Le.i (congrArg Prod.snd (he))) <| .nil) <| .nil
      · refine Tr.skip ?_
        have he : labF l c = redF l c ex := by have q := labF_code (l := l) (c := c) (by simpa using c31); rw [← redF_0 q (by simp at c38; omega), q]
        refine At.meet ?_
        exact .slot rfl (.refl _) <| .slot rfl (.refl _) <| .slot rfl (.refl _) <| .slot rfl (.refl _) <| .slot rfl (.refl _) <| .slot rfl (.refl _) <| .slot rfl (.refl _) <| .slot rfl (.refl _) <| .slot rfl (.refl _) <| .mem rfl <| .boxLe rfl (.cons (Le.i (congrArg Prod.fst (he))) <| .cons (Le.i (congrArg Prod.snd (he))) <| .nil) <| .nil
    · refine TrOps.gF rfl rfl rfl rfl c31 rfl (by decide) ?_
      refine TrOps.gF rfl rfl rfl rfl c31 rfl (by decide) ?_
      refine TrOps.gF rfl rfl rfl rfl c31 rfl (by decide) ?_
      refine TrOps.gF rfl rfl rfl rfl c31 rfl (by decide) ?_
      refine TrOps.gF rfl rfl rfl rfl c31 rfl (by decide) ?_
      refine TrOps.gF rfl rfl rfl rfl c31 rfl (by decide) ?_
      refine TrOps.sem (OpSem.pickF rfl rfl c31 rfl) rfl rfl (by decide) ?_
      refine TrOps.nil ?_
      refine At.seq ?_
      refine Tr.condF rfl rfl ?_
      refine Tr.skip ?_
      have he := redF_1 (l := l) (c := c) (ex := ex) (fun h => by simp [h] at c31)
      refine At.meet ?_
      exact .slot rfl (.refl _) <| .slot rfl (.refl _) <| .slot rfl (.refl _) <| .slot rfl (.refl _) <| .slot rfl (.refl _) <| .slot rfl (.refl _) <| .slot rfl (.refl _) <| .slot rfl (.refl _) <| .slot rfl (.refl _) <| .mem rfl <| .boxLe rfl (.cons (Le.i (congrArg Prod.fst (he))) <| .cons (Le.i (congrArg Prod.snd (he))) <| .nil) <| .nil
  · refine Tr.cut [(0, .d (abssD l)), (1, .d (ints c)), (2, I (ex)), (3, I (x)), (4, I (y)), (10, Bo (false)), (11, Bo (decide (eqvF l c ex x y = (0, 0) ∧ EqvP l c ex x y))), (12, .r 12 0), (13, .r 13 0)] [(12, .box [I ((eqvF l c ex x y).1), I ((eqvF l c ex x y).2)]), (13, .box [I ((eqvF l c ex x y).1), I ((eqvF l c ex x y).2)])] ?_ ?_
    · refine Tr.seq ?_
      refine Tr.region ?_
      refine TrOps.sem (OpSem.fieldr rfl rfl fo29_0) rfl rfl (by decide) ?_
      refine TrOps.sem (OpSem.loadb1 rfl rfl rfl vs3 rfl) rfl rfl (by decide) ?_
      refine TrOps.sem (OpSem.bin rfl rfl rfl beql) rfl rfl (by decide) ?_
      refine TrOps.sem (OpSem.move (.inl rfl) rfl) rfl rfl (by decide) ?_
      refine TrOps.split (n := 43) rfl (fun c43 => ?_) (fun c43 => ?_)
      · refine TrOps.gT rfl rfl rfl rfl c43 ?_
        refine TrOps.sem (OpSem.move (.inl rfl) rfl) rfl rfl (by decide) ?_
        refine TrOps.gT rfl rfl rfl rfl c43 ?_
        refine TrOps.sem (OpSem.move (.inl rfl) rfl) rfl rfl (by decide) ?_
        refine TrOps.gT rfl rfl rfl rfl c43 ?_
        refine TrOps.sem (OpSem.lenL rfl rfl es22) rfl rfl (by decide) ?_
        refine TrOps.gT rfl rfl rfl rfl c43 ?_
        refine TrOps.sem (OpSem.bin rfl rfl rfl (bsub (by omega) (by omega))) rfl rfl (by decide) ?_
        refine TrOps.gT rfl rfl rfl rfl c43 ?_
        refine TrOps.sem (OpSem.call0 (R_In_does ..) rfl rfl rfl rfl (Les.refl _)) rfl rfl (by decide) ?_
        refine TrOps.gT rfl rfl rfl rfl c43 ?_
        refine TrOps.sem (OpSem.not rfl rfl) rfl rfl (by decide) ?_
        refine TrOps.gT rfl rfl rfl rfl c43 ?_
        refine TrOps.sem (OpSem.move (.inl rfl) rfl) rfl rfl (by decide) ?_
        refine TrOps.split (n := 50) rfl (fun c50 => ?_) (fun c50 => ?_)
        · refine TrOps.gF rfl rfl rfl rfl c50 rfl (by decide) ?_
          refine TrOps.gF rfl rfl rfl rfl c50 rfl (by decide) ?_
          refine TrOps.gF rfl rfl rfl rfl c50 rfl (by decide) ?_
          refine TrOps.gF rfl rfl rfl rfl c50 rfl (by decide) ?_
          refine TrOps.gF rfl rfl rfl rfl c50 rfl (by decide) ?_
          refine TrOps.gF rfl rfl rfl rfl c50 rfl (by decide) ?_
          refine TrOps.gT rfl rfl rfl rfl c43 ?_
          refine TrOps.sem (OpSem.pickT rfl rfl c50 rfl) rfl rfl (by decide) ?_
          refine TrOps.sem (OpSem.pickT rfl rfl c43 rfl) rfl rfl (by decide) ?_
          refine TrOps.nil ?_
          refine At.seq ?_
          refine Tr.condT rfl rfl ?_
          refine Tr.region ?_
          refine TrOps.sem (OpSem.call0 (R_At_does ..) rfl rfl rfl rfl (Les.refl _)) rfl rfl (by decide) ?_
          refine TrOps.storeb rfl rfl rfl rfl rfl rfl rfl vs29 (by first | decide | simp) ?_
          refine TrOps.nil ?_
          have he : (3, -9) = eqvF l c ex x y := by have q := redF_code (l := l) (c := c) (ex := ex) (by simpa using c43); unfold eqvF; rw [if_neg (fun hn => hn q), if_pos (by simp at c50; omega)]
          refine At.meet ?_
          exact .slot rfl (.refl _) <| .slot rfl (.refl _) <| .slot rfl (.refl _) <| .slot rfl (.refl _) <| .slot rfl (.refl _) <| .slot rfl (.refl _) <| .slot rfl (.refl _) <| .slot rfl (.refl _) <| .slot rfl (.refl _) <| .mem rfl <| .boxLe rfl (.cons (Le.i (congrArg Prod.fst (he))) <| .cons (Le.i (congrArg Prod.snd (he))) <| .nil) <| .nil
        · refine TrOps.gT rfl rfl rfl rfl c50 ?_
          refine TrOps.sem (OpSem.move (.inl rfl) rfl) rfl rfl (by decide) ?_
          refine TrOps.gT rfl rfl rfl rfl c50 ?_
          refine TrOps.sem (OpSem.move (.inl rfl) rfl) rfl rfl (by decide) ?_
          refine TrOps.gT rfl rfl rfl rfl c50 ?_
          refine TrOps.sem (OpSem.lenL rfl rfl es22) rfl rfl (by decide) ?_
          refine TrOps.gT rfl rfl rfl rfl c50 ?_
          refine TrOps.sem (OpSem.bin rfl rfl rfl (bsub (by omega) (by omega))) rfl rfl (by decide) ?_
          refine TrOps.gT rfl rfl rfl rfl c50 ?_
          refine TrOps.sem (OpSem.call0 (R_In_does ..) rfl rfl rfl rfl (Les.refl _)) rfl rfl (by decide) ?_
          refine TrOps.gT rfl rfl rfl rfl c50 ?_
          refine TrOps.sem (OpSem.not rfl rfl) rfl rfl (by decide) ?_
          refine TrOps.gT rfl rfl rfl rfl c43 ?_
          refine TrOps.sem (OpSem.pickF rfl rfl c50 rfl) rfl rfl (by decide) ?_
          refine TrOps.sem (OpSem.pickT rfl rfl c43 rfl) rfl rfl (by decide) ?_
          refine TrOps.nil ?_
          refine At.seq ?_
          refine Tr.cond rfl (fun c58 => ?_) (fun c58 => ?_)
          · refine Tr.region ?_
            refine TrOps.sem (OpSem.call0 (R_At_does ..) rfl rfl rfl rfl (Les.refl _)) rfl rfl (by decide) ?_
            refine TrOps.storeb rfl rfl rfl rfl rfl rfl rfl vs29 (by first | decide | simp) ?_
            refine TrOps.nil ?_
            have he : (3, -9) = eqvF l c ex x y := by have q := redF_code (l := l) (c := c) (ex := ex) (by simpa using c43); unfold eqvF; rw [if_neg (fun hn => hn q), if_pos (by simp at c58; omega)]
            refine At.meet ?_
            exact .slot rfl (.refl _) <| .slot rfl (.refl _) <| .slot rfl (.refl _) <| .slot rfl (.refl _) <| .slot rfl (.refl _) <| .slot rfl (.refl _) <| .slot rfl (.refl _) <| .slot rfl (.refl _) <| .slot rfl (.refl _) <| .mem rfl <| .boxLe rfl (.cons (Le.i (congrArg Prod.fst (he))) <| .cons (Le.i (congrArg Prod.snd (he))) <| .nil) <| .nil
          · refine Tr.skip ?_
            have he : redF l c ex = eqvF l c ex x y := by have q := redF_code (l := l) (c := c) (ex := ex) (by simpa using c43); unfold eqvF; rw [if_neg (fun hn => hn q), if_neg (by simp at c50 c58; omega), q]
            refine At.meet ?_
            exact .slot rfl (.refl _) <| .slot rfl (.refl _) <| .slot rfl (.refl _) <| .slot rfl (.refl _) <| .slot rfl (.refl _) <| .slot rfl (.refl _) <| .slot rfl (.refl _) <| .slot rfl (.refl _) <| .slot rfl (.refl _) <| .mem rfl <| .boxLe rfl (.cons (Le.i (congrArg Prod.fst (he))) <| .cons (Le.i (congrArg Prod.snd (he))) <| .nil) <| .nil
      · refine TrOps.gF rfl rfl rfl rfl c43 rfl (by decide) ?_
        refine TrOps.gF rfl rfl rfl rfl c43 rfl (by decide) ?_
        refine TrOps.gF rfl rfl rfl rfl c43 rfl (by decide) ?_
        refine TrOps.gF rfl rfl rfl rfl c43 rfl (by decide) ?_
        refine TrOps.gF rfl rfl rfl rfl c43 rfl (by decide) ?_
        refine TrOps.gF rfl rfl rfl rfl c43 rfl (by decide) ?_
        refine TrOps.gF rfl rfl rfl rfl c43 rfl (by decide) ?_
        refine TrOps.gU rfl rfl rfl rfl rfl (by decide) ?_
        refine TrOps.gU rfl rfl rfl rfl rfl (by decide) ?_
        refine TrOps.gU rfl rfl rfl rfl rfl (by decide) ?_
        refine TrOps.gU rfl rfl rfl rfl rfl (by decide) ?_
        refine TrOps.gU rfl rfl rfl rfl rfl (by decide) ?_
        refine TrOps.gU rfl rfl rfl rfl rfl (by decide) ?_
        refine TrOps.gF rfl rfl rfl rfl c43 rfl (by decide) ?_
        refine TrOps.sem (OpSem.pickF rfl rfl c43 rfl) rfl rfl (by decide) ?_
        refine TrOps.nil ?_
        refine At.seq ?_
        refine Tr.condF rfl rfl ?_
        refine Tr.skip ?_
        have he : redF l c ex = eqvF l c ex x y := by unfold eqvF; rw [if_pos (fun h => by simp [h] at c43)]
        refine At.meet ?_
        exact .slot rfl (.refl _) <| .slot rfl (.refl _) <| .slot rfl (.refl _) <| .slot rfl (.refl _) <| .slot rfl (.refl _) <| .slot rfl (.refl _) <| .slot rfl (.refl _) <| .slot rfl (.refl _) <| .slot rfl (.refl _) <| .mem rfl <| .boxLe rfl (.cons (Le.i (congrArg Prod.fst (he))) <| .cons (Le.i (congrArg Prod.snd (he))) <| .nil) <| .nil
    · refine Tr.seq ?_
      refine Tr.seq ?_
      refine Tr.region ?_
      refine TrOps.sem (OpSem.fieldr rfl rfl fo29_0) rfl rfl (by decide) ?_
      refine TrOps.sem (OpSem.loadb1 rfl rfl rfl vs3 rfl) rfl rfl (by decide) ?_
      refine TrOps.sem (OpSem.bin rfl rfl rfl bneq) rfl rfl (by decide) ?_
      refine TrOps.nil ?_
      refine At.seq ?_
      refine Tr.cond rfl (fun c62 => ?_) (fun c62 => ?_)
      · have hne : eqvF l c ex x y ≠ (0, 0) := fun h => by simp [h] at c62
        refine Tr.seq ?_
        refine Tr.region ?_
        refine TrOps.sem (OpSem.loadbN rfl rfl rfl vs29 (by first | decide | simp)) rfl rfl (by decide) ?_
        refine TrOps.sem (OpSem.loadbN rfl rfl rfl vs29 (by first | decide | simp)) rfl rfl (by decide) ?_
        refine TrOps.sem (OpSem.eqS2 rfl rfl rfl io29) rfl rfl (by decide) ?_
        refine TrOps.sem (OpSem.move (.inl rfl) rfl) rfl rfl (by decide) ?_
        refine TrOps.gT rfl rfl rfl rfl (by simp) ?_
        refine TrOps.sem (OpSem.move (.inl rfl) rfl) rfl rfl (by decide) ?_
        refine TrOps.gT rfl rfl rfl rfl (by simp) ?_
        refine TrOps.sem (OpSem.not rfl rfl) rfl rfl (by decide) ?_
        refine TrOps.sem (OpSem.pickT rfl rfl (by simp) rfl) rfl rfl (by decide) ?_
        refine TrOps.sem (OpSem.move (.inr rfl) rfl) rfl rfl (by decide) ?_
        refine TrOps.nil ?_
        refine At.seq ?_
        refine Tr.ret ?_
        refine At.pass_ret ?_
        exact At.ret rfl (.tmp rfl <| .nil) rfl (Le.bo (by first | rfl | (simp [hne]; done) | simp [h0]))
      · have h0 : eqvF l c ex x y = (0, 0) := eqvF_code (by simpa using c62)
        have hok := eqvF_ok h0
        refine Tr.skip ?_
        refine At.seq ?_
        refine Tr.seq ?_
        refine Tr.region ?_
        refine TrOps.sem (OpSem.fieldr rfl rfl fo29_0) rfl rfl (by decide) ?_
        refine TrOps.sem (OpSem.loadb1 rfl rfl rfl vs3 rfl) rfl rfl (by decide) ?_
        refine TrOps.sem (OpSem.bin rfl rfl rfl beql) rfl rfl (by decide) ?_
        refine TrOps.sem (OpSem.move (.inl rfl) rfl) rfl rfl (by decide) ?_
        refine TrOps.gT rfl rfl rfl rfl (by rw [h0]; rfl) ?_
        refine TrOps.sem (OpSem.move (.inl rfl) rfl) rfl rfl (by decide) ?_
        refine TrOps.gT rfl rfl rfl rfl (by rw [h0]; rfl) ?_
        refine TrOps.sem (OpSem.move (.inl rfl) rfl) rfl rfl (by decide) ?_
        refine TrOps.gT rfl rfl rfl rfl (by rw [h0]; rfl) ?_
        refine TrOps.sem (OpSem.move (.inl rfl) rfl) rfl rfl (by decide) ?_
        refine TrOps.gT rfl rfl rfl rfl (by rw [h0]; rfl) ?_
        refine TrOps.sem (OpSem.move (.inl rfl) rfl) rfl rfl (by decide) ?_
        refine TrOps.gT rfl rfl rfl rfl (by rw [h0]; rfl) ?_
        refine TrOps.sem (OpSem.move (.inl rfl) rfl) rfl rfl (by decide) ?_
        refine TrOps.gT rfl rfl rfl rfl (by rw [h0]; rfl) ?_
        refine TrOps.sem (OpSem.move (.inl rfl) rfl) rfl rfl (by decide) ?_
        refine TrOps.gT rfl rfl rfl rfl (by rw [h0]; rfl) ?_
        refine TrOps.sem (OpSem.call0 (Q_Same_does l c ex x y hok.2.1 hok.2.2 (lab_arcs (redF_ok hok.1).1)) rfl rfl rfl rfl (Les.refl _)) rfl rfl (by decide) ?_
        refine TrOps.gT rfl rfl rfl rfl (by rw [h0]; rfl) ?_
        refine TrOps.sem (OpSem.eqB rfl rfl rfl ub4) rfl rfl (by decide) ?_
        refine TrOps.sem (OpSem.pickT rfl rfl (by rw [h0]; rfl) rfl) rfl rfl (by decide) ?_
        refine TrOps.sem (OpSem.move (.inr rfl) rfl) rfl rfl (by decide) ?_
        refine TrOps.nil ?_
        refine At.seq ?_
        refine Tr.ret ?_
        exact At.ret rfl (.tmp rfl <| .nil) rfl (Le.bo (by first | rfl | (simp [hne]; done) | simp [h0]))

theorem law_LabelsApplyMatchesSpec_does (a : Abs) (to : List Int) (hr : -9223372036854775808 ≤ a.states ∧ a.states ≤ 9223372036854775807) : Does Try.prog false 7 [absS a, .d (ints to)] (Bo true) := by
  refine Does.of_body Try.func7 rfl rfl (by simp) Try.call7 (fun w0 O0 => ?_)
  refine Tr.lenG (n := 0) (i := 2) rfl rfl (fun len0_2 => ?_)
  refine Tr.lenG (n := 0) (i := 4) rfl rfl (fun len0_4 => ?_)
  refine Tr.lenLe (n := 1) rfl (fun len1 => ?_)
  refine Tr.seq ?_
  refine Tr.region ?_
  refine TrOps.semM (OpSem.box 2 rfl rfl rfl rfl) rfl rfl (by decide) ?_
  refine TrOps.sem (OpSem.move (.inr rfl) rfl) rfl rfl (by decide) ?_
  refine TrOps.nil ?_
  refine At.seq ?_
  refine Tr.seq ?_
  refine Tr.seq ?_
  refine Tr.region ?_
  refine TrOps.sem (OpSem.call0 (law_labelsExample_does) rfl rfl rfl rfl (Les.refl _)) rfl rfl (by decide) ?_
  refine TrOps.sem (OpSem.not rfl rfl) rfl rfl (by decide) ?_
  refine TrOps.nil ?_
  refine At.seq ?_
  refine Tr.condF rfl rfl ?_
  refine Tr.skip ?_
  refine At.seq ?_
  refine Tr.seq ?_
  refine Tr.region ?_
  refine TrOps.sem (OpSem.loadbN rfl rfl rfl vs46 (by first | decide | simp)) rfl rfl (by decide) ?_
  refine TrOps.sem (OpSem.move (.inl rfl) rfl) rfl rfl (by decide) ?_
  refine TrOps.sem (OpSem.call0 (labels_Apply_does a to hr) rfl rfl rfl rfl (Les.refl _)) rfl rfl (by decide) ?_
  refine TrOps.sem (OpSem.move (.inl rfl) rfl) rfl rfl (by decide) ?_
  refine TrOps.sem (OpSem.extract rfl rfl rfl) rfl rfl (by decide) ?_
  refine TrOps.sem (OpSem.extract rfl rfl rfl) rfl rfl (by decide) ?_
  refine TrOps.semM (OpSem.alloc 5 rfl zc46 rfl) rfl rfl (by decide) ?_
  refine TrOps.semM (OpSem.alloc 6 rfl zc29 rfl) rfl rfl (by decide) ?_
  refine TrOps.storeb rfl rfl rfl rfl rfl rfl rfl vs46 (by first | decide | simp) ?_
  refine TrOps.storeb rfl rfl rfl rfl rfl rfl rfl vs29 (by first | decide | simp) ?_
  refine TrOps.nil ?_
  refine At.seq ?_
  refine Tr.seq ?_
  refine Tr.region ?_
  refine TrOps.sem (OpSem.loadbN rfl rfl rfl vs46 (by first | decide | simp)) rfl rfl (by decide) ?_
  refine TrOps.sem (OpSem.call0 (Q_AbstractionFault_does a) rfl rfl rfl rfl (Les.refl _)) rfl rfl (by decide) ?_
  refine TrOps.semM (OpSem.alloc 7 rfl zc29 rfl) rfl rfl (by decide) ?_
  refine TrOps.storeb rfl rfl rfl rfl rfl rfl rfl vs29 (by first | decide | simp) ?_
  refine TrOps.nil ?_
  refine At.seq ?_
  refine Tr.cut [(1, .d (ints to)), (2, .r 2 0), (4, Bo (false)), (5, .r 5 0), (6, .r 6 0), (7, .r 7 0)] [(2, .box [I (a.states), I (a.labels), .d (arcsD a.arcs), I (a.init), .d (ints a.goals)]), (5, .box [I ((aplR a to).states), I ((aplR a to).labels), .d (arcsD ((aplR a to).arcs)), I ((aplR a to).init), .d (ints ((aplR a to).goals))]), (6, .box [I ((aplF a to).1), I ((aplF a to).2)]), (7, .box [I ((aplF1 a to).1), I ((aplF1 a to).2)])] ?_ ?_
  · refine Tr.seq ?_
    refine Tr.region ?_
    refine TrOps.sem (OpSem.fieldr rfl rfl fo29_0) rfl rfl (by decide) ?_
    refine TrOps.sem (OpSem.loadb1 rfl rfl rfl vs3 rfl) rfl rfl (by decide) ?_
    refine TrOps.sem (OpSem.bin rfl rfl rfl beql) rfl rfl (by decide) ?_
    refine TrOps.sem (OpSem.move (.inl rfl) rfl) rfl rfl (by decide) ?_
    refine TrOps.split (n := 22) rfl (fun c22 => ?_) (fun c22 => ?_)
    · refine TrOps.gT rfl rfl rfl rfl c22 ?_
      refine TrOps.sem (OpSem.move (.inl rfl) rfl) rfl rfl (by decide) ?_
      refine TrOps.gT rfl rfl rfl rfl c22 ?_
      refine TrOps.sem (OpSem.lenL rfl rfl es22) rfl rfl (by decide) ?_
      refine TrOps.gT rfl rfl rfl rfl c22 ?_
      refine TrOps.sem (OpSem.fieldr rfl rfl fo46_1) rfl rfl (by decide) ?_
      refine TrOps.gT rfl rfl rfl rfl c22 ?_
      refine TrOps.sem (OpSem.loadb1 rfl rfl rfl vs3 rfl) rfl rfl (by decide) ?_
      refine TrOps.gT rfl rfl rfl rfl c22 ?_
      refine TrOps.sem (OpSem.bin rfl rfl rfl bneq) rfl rfl (by decide) ?_
      refine TrOps.sem (OpSem.pickT rfl rfl c22 rfl) rfl rfl (by decide) ?_
      refine TrOps.nil ?_
      refine At.seq ?_
      refine Tr.cond rfl (fun c28 => ?_) (fun c28 => ?_)
      · refine Tr.region ?_
        refine TrOps.sem (OpSem.call0 (R_At_does ..) rfl rfl rfl rfl (Les.refl _)) rfl rfl (by decide) ?_
        refine TrOps.storeb rfl rfl rfl rfl rfl rfl rfl vs29 (by first | decide | simp) ?_
        refine TrOps.nil ?_
        have he := (aplF1_len (a := a) (to := to) (absFault_ok (by simpa using c22)).2 (by simpa using c28)).symm
        refine At.meet ?_
        exact .slot rfl (.refl _) <| .slot rfl (.refl _) <| .slot rfl (.refl _) <| .slot rfl (.refl _) <| .slot rfl (.refl _) <| .slot rfl (.refl _) <| .mem rfl <| .mem rfl <| .mem rfl <| .boxLe rfl (.cons (Le.i (congrArg Prod.fst (he))) <| .cons (Le.i (congrArg Prod.snd (he))) <| .nil) <| .nil
      · refine Tr.skip ?_
        have he : absFault a = aplF1 a to := by have q := (absFault_ok (a := a) (by simpa using c22)).2; rw [aplF1_ok q (by simpa using c28), q]
        refine At.meet ?_
        exact .slot rfl (.refl _) <| .slot rfl (.refl _) <| .slot rfl (.refl _) <| .slot rfl (.refl _) <| .slot rfl (.refl _) <| .slot rfl (.refl _) <| .mem rfl <| .mem rfl <| .mem rfl <| .boxLe rfl (.cons (Le.i (congrArg Prod.fst (he))) <| .cons (Le.i (congrArg Prod.snd (he))) <| .nil) <| .nil
    · refine TrOps.gF rfl rfl rfl rfl c22 rfl (by decide) ?_
      refine TrOps.gF rfl rfl rfl rfl c22 rfl (by decide) ?_
      refine TrOps.gF rfl rfl rfl rfl c22 rfl (by decide) ?_
      refine TrOps.gF rfl rfl rfl rfl c22 rfl (by decide) ?_
      refine TrOps.gF rfl rfl rfl rfl c22 rfl (by decide) ?_
      refine TrOps.sem (OpSem.pickF rfl rfl c22 rfl) rfl rfl (by decide) ?_
      refine TrOps.nil ?_
      refine At.seq ?_
      refine Tr.condF rfl rfl ?_
      refine Tr.skip ?_
      have he := (aplF1_bad (a := a) (to := to) (fun h => by simp [h] at c22)).symm
      refine At.meet ?_
      exact .slot rfl (.refl _) <| .slot rfl (.refl _) <| .slot rfl (.refl _) <| .slot rfl (.refl _) <| .slot rfl (.refl _) <| .slot rfl (.refl _) <| .mem rfl <| .mem rfl <| .mem rfl <| .boxLe rfl (.cons (Le.i (congrArg Prod.fst (he))) <| .cons (Le.i (congrArg Prod.snd (he))) <| .nil) <| .nil
  · refine Tr.cut [(1, .d (ints to)), (2, .r 2 0), (4, Bo (false)), (5, .r 5 0), (6, .r 6 0), (7, .r 7 0)] [(2, .box [I (a.states), I (a.labels), .d (arcsD a.arcs), I (a.init), .d (ints a.goals)]), (5, .box [I ((aplR a to).states), I ((aplR a to).labels), .d (arcsD ((aplR a to).arcs)), I ((aplR a to).init), .d (ints ((aplR a to).goals))]), (6, .box [I ((aplF a to).1), I ((aplF a to).2)]), (7, .box [I ((aplF a to).1), I ((aplF a to).2)])] ?_ ?_
    · refine Tr.seq ?_
      refine Tr.region ?_
      refine TrOps.sem (OpSem.move (.inr rfl) rfl) rfl rfl (by decide) ?_
      refine TrOps.nil ?_
      refine At.seq ?_
      refine Tr.block ?_
      refine Tr.loop (X := Nat) (fun k => k ≤ to.length) (fun k => [(1, .d (ints to)), (2, .r 2 0), (4, Bo (false)), (5, .r 5 0), (6, .r 6 0), (7, .r 7 0), (8, I (k))]) (fun k => [(7, .box [I ((aplW a to k).1), I ((aplW a to k).2)]), (2, .box [I (a.states), I (a.labels), .d (arcsD a.arcs), I (a.init), .d (ints a.goals)]), (5, .box [I ((aplR a to).states), I ((aplR a to).labels), .d (arcsD ((aplR a to).arcs)), I ((aplR a to).init), .d (ints ((aplR a to).goals))]), (6, .box [I ((aplF a to).1), I ((aplF a to).2)])]) (fun k => to.length - k) 0 (by omega) ?_ ?_
      · exact .slot rfl (.refl _) <| .slot rfl (.refl _) <| .slot rfl (.refl _) <| .slot rfl (.refl _) <| .slot rfl (.refl _) <| .slot rfl (.refl _) <| .slot rfl (Le.of_eq (by simp)) <| .boxLe rfl (.cons (Le.i (congrArg Prod.fst (aplW_0))) <| .cons (Le.i (congrArg Prod.snd (aplW_0))) <| .nil) <| .mem rfl <| .mem rfl <| .mem rfl <| .nil
      · rintro k hkl
        refine Tr.seq ?_
        refine Tr.seq ?_
        refine Tr.region ?_
        refine TrOps.sem (OpSem.move (.inl rfl) rfl) rfl rfl (by decide) ?_
        refine TrOps.sem (OpSem.move (.inl rfl) rfl) rfl rfl (by decide) ?_
        refine TrOps.sem (OpSem.lenL rfl rfl es22) rfl rfl (by decide) ?_
        refine TrOps.sem (OpSem.bin rfl rfl rfl blss) rfl rfl (by decide) ?_
        refine TrOps.sem (OpSem.move (.inl rfl) rfl) rfl rfl (by decide) ?_
        refine TrOps.split (n := 34) rfl (fun c34 => ?_) (fun c34 => ?_)
        · have hk : k < to.length := by simpa using c34
          refine TrOps.gT rfl rfl rfl rfl c34 ?_
          refine TrOps.sem (OpSem.fieldr rfl rfl fo29_0) rfl rfl (by decide) ?_
          refine TrOps.gT rfl rfl rfl rfl c34 ?_
          refine TrOps.sem (OpSem.loadb1 rfl rfl rfl vs3 rfl) rfl rfl (by decide) ?_
          refine TrOps.gT rfl rfl rfl rfl c34 ?_
          refine TrOps.sem (OpSem.bin rfl rfl rfl beql) rfl rfl (by decide) ?_
          refine TrOps.sem (OpSem.pickT rfl rfl c34 rfl) rfl rfl (by decide) ?_
          refine TrOps.nil ?_
          refine At.seq ?_
          refine Tr.cond rfl (fun c38 => ?_) (fun c38 => ?_)
          · have hw : (aplW a to k).1 = 0 := by simpa using c38
            have hq := aplF1_inv (aplW_inv hw).1
            have hh := (absFault_ok (congrArg Prod.fst hq.1)).1.head
            refine Tr.skip ?_
            refine At.seq ?_
            refine Tr.cut [(1, .d (ints to)), (2, .r 2 0), (4, Bo (false)), (5, .r 5 0), (6, .r 6 0), (7, .r 7 0), (8, I (k))] [(2, .box [I (a.states), I (a.labels), .d (arcsD a.arcs), I (a.init), .d (ints a.goals)]), (5, .box [I ((aplR a to).states), I ((aplR a to).labels), .d (arcsD ((aplR a to).arcs)), I ((aplR a to).init), .d (ints ((aplR a to).goals))]), (6, .box [I ((aplF a to).1), I ((aplF a to).2)]), (7, .box [I ((aplW a to (k + 1)).1), I ((aplW a to (k + 1)).2)])] ?_ ?_
            · refine Tr.block ?_
              refine Tr.seq ?_
              refine PC.start [] ?_
              refine PC.sem (OpSem.move (.inl rfl) rfl) rfl rfl ?_
              refine PC.sem (OpSem.move (.inl rfl) rfl) rfl rfl ?_
              refine PC.sem (OpSem.idxL rfl rfl rfl es22 (by omega) (by omega)) rfl rfl ?_
              refine PC.sem (OpSem.load1 rfl rfl vs3 rfl) rfl rfl ?_
              refine PC.sem (OpSem.fieldr rfl rfl fo46_1) rfl rfl ?_
              refine PC.sem (OpSem.loadb1 rfl rfl rfl vs3 rfl) rfl rfl ?_
              refine PC.sem (OpSem.bin rfl rfl rfl (bsub (by omega) (by omega))) rfl rfl ?_
              refine PC.done0 mixed (by kernel_rfl) (by kernel_rfl) (by kernel_rfl) (by kernel_rfl) (by kernel_rfl) ?_
              refine TrOps.sem (OpSem.call0 (R_In_does ..) rfl rfl rfl rfl (Les.refl _)) rfl rfl (by decide) ?_
              refine TrOps.sem (OpSem.not rfl rfl) rfl rfl (by decide) ?_
              refine TrOps.nil ?_
              refine At.seq ?_
              refine Tr.cond rfl (fun c49 => ?_) (fun c49 => ?_)
              · refine Tr.region ?_
                refine TrOps.sem (OpSem.call0 (R_At_does ..) rfl rfl rfl rfl (Les.refl _)) rfl rfl (by decide) ?_
                refine TrOps.storeb rfl rfl rfl rfl rfl rfl rfl vs29 (by first | decide | simp) ?_
                refine TrOps.nil ?_
                refine At.block_normal ?_
                have he := aplW_t (k := k) hw (by simp at c49; omega)
                refine At.meet ?_
                exact .slot rfl (.refl _) <| .slot rfl (.refl _) <| .slot rfl (.refl _) <| .slot rfl (.refl _) <| .slot rfl (.refl _) <| .slot rfl (.refl _) <| .slot rfl (.refl _) <| .mem rfl <| .mem rfl <| .mem rfl <| .boxLe rfl (.cons (Le.i (congrArg Prod.fst (he))) <| .cons (Le.i (congrArg Prod.snd (he))) <| .nil) <| .nil
              · refine Tr.skip ?_
                refine At.block_normal ?_
                have he := aplW_f (k := k) hw (by simp at c49; omega)
                refine At.meet ?_
                exact .slot rfl (.refl _) <| .slot rfl (.refl _) <| .slot rfl (.refl _) <| .slot rfl (.refl _) <| .slot rfl (.refl _) <| .slot rfl (.refl _) <| .slot rfl (.refl _) <| .mem rfl <| .mem rfl <| .mem rfl <| .boxLe rfl (.cons (Le.i (congrArg Prod.fst (he))) <| .cons (Le.i (congrArg Prod.snd (he))) <| .nil) <| .nil
            · refine Tr.region ?_
              refine TrOps.sem (OpSem.move (.inl rfl) rfl) rfl rfl (by decide) ?_
              refine TrOps.sem (OpSem.bin rfl rfl rfl (badd (by omega) (by omega))) rfl rfl (by decide) ?_
              refine TrOps.sem (OpSem.move (.inr rfl) rfl) rfl rfl (by decide) ?_
              refine TrOps.nil ?_
              refine At.again (k + 1) (by omega) ?_ (by omega)
              exact .slot rfl (.refl _) <| .slot rfl (.refl _) <| .slot rfl (.refl _) <| .slot rfl (.refl _) <| .slot rfl (.refl _) <| .slot rfl (.refl _) <| .slot rfl (Le.of_eq (by simp)) <| .mem rfl <| .mem rfl <| .mem rfl <| .mem rfl <| .nil
          · refine Tr.exit ?_
            refine At.pass_exit ?_
            refine At.pass_exit ?_
            refine At.block_same ?_
            have he := aplW_stop (by omega) (by simpa using c38)
            refine At.meet ?_
            exact .slot rfl (.refl _) <| .slot rfl (.refl _) <| .slot rfl (.refl _) <| .slot rfl (.refl _) <| .slot rfl (.refl _) <| .slot rfl (.refl _) <| .mem rfl <| .mem rfl <| .mem rfl <| .boxLe rfl (.cons (Le.i (congrArg Prod.fst (he))) <| .cons (Le.i (congrArg Prod.snd (he))) <| .nil) <| .nil
        · have hk : k = to.length := by simp at c34; omega
          refine TrOps.gF rfl rfl rfl rfl c34 rfl (by decide) ?_
          refine TrOps.gF rfl rfl rfl rfl c34 rfl (by decide) ?_
          refine TrOps.gF rfl rfl rfl rfl c34 rfl (by decide) ?_
          refine TrOps.sem (OpSem.pickF rfl rfl c34 rfl) rfl rfl (by decide) ?_
          refine TrOps.nil ?_
          refine At.seq ?_
          refine Tr.condF rfl rfl ?_
          refine Tr.exit ?_
          refine At.pass_exit ?_
          refine At.pass_exit ?_
          refine At.block_same ?_
          have he : aplW a to k = aplF a to := by rw [hk]; exact aplW_end
          refine At.meet ?_
          exact .slot rfl (.refl _) <| .slot rfl (.refl _) <| .slot rfl (.refl _) <| .slot rfl (.refl _) <| .slot rfl (.refl _) <| .slot rfl (.refl _) <| .mem rfl <| .mem rfl <| .mem rfl <| .boxLe rfl (.cons (Le.i (congrArg Prod.fst (he))) <| .cons (Le.i (congrArg Prod.snd (he))) <| .nil) <| .nil
    · refine Tr.seq ?_
      refine Tr.seq ?_
      refine Tr.region ?_
      refine TrOps.sem (OpSem.fieldr rfl rfl fo29_0) rfl rfl (by decide) ?_
      refine TrOps.sem (OpSem.loadb1 rfl rfl rfl vs3 rfl) rfl rfl (by decide) ?_
      refine TrOps.sem (OpSem.bin rfl rfl rfl bneq) rfl rfl (by decide) ?_
      refine TrOps.nil ?_
      refine At.seq ?_
      refine Tr.cond rfl (fun c53 => ?_) (fun c53 => ?_)
      · have hne : aplF a to ≠ (0, 0) := fun h => by simp [h] at c53
        refine Tr.seq ?_
        refine Tr.region ?_
        refine TrOps.sem (OpSem.loadbN rfl rfl rfl vs29 (by first | decide | simp)) rfl rfl (by decide) ?_
        refine TrOps.sem (OpSem.loadbN rfl rfl rfl vs29 (by first | decide | simp)) rfl rfl (by decide) ?_
        refine TrOps.sem (OpSem.eqS2 rfl rfl rfl io29) rfl rfl (by decide) ?_
        refine TrOps.sem (OpSem.move (.inl rfl) rfl) rfl rfl (by decide) ?_
        refine TrOps.gT rfl rfl rfl rfl (by simp) ?_
        refine TrOps.sem (OpSem.loadbN rfl rfl rfl vs46 (by first | decide | simp)) rfl rfl (by decide) ?_
        refine TrOps.gT rfl rfl rfl rfl (by simp) ?_
        refine TrOps.sem (OpSem.build rfl rfl pl46 zc46 rfl rfl) rfl rfl (by decide) ?_
        refine TrOps.gT rfl rfl rfl rfl (by simp) ?_
        refine TrOps.sem (OpSem.call0 (Q_Abstractions_does (aplR a to) absZ) rfl rfl rfl rfl (Les.cons (.refl _) <| .cons (Le.g (.cons (.refl _) <| .cons (.refl _) <| .cons (Le.nil 3) <| .cons (.refl _) <| .cons (Le.nil 1) <| .nil)) <| .nil)) rfl rfl (by decide) ?_
        refine TrOps.sem (OpSem.pickT rfl rfl (by simp) rfl) rfl rfl (by decide) ?_
        refine TrOps.sem (OpSem.move (.inr rfl) rfl) rfl rfl (by decide) ?_
        refine TrOps.nil ?_
        refine At.seq ?_
        refine Tr.ret ?_
        refine At.pass_ret ?_
        exact At.ret rfl (.tmp rfl <| .nil) rfl (Le.bo (by first | rfl | (rw [aplR_1 hne]; simp; done) | (rw [aplR_0 h0]; simp)))
      · have h0 : aplF a to = (0, 0) := aplF_code (by simpa using c53)
        refine Tr.skip ?_
        refine At.seq ?_
        refine Tr.seq ?_
        refine PC.start [] ?_
        refine PC.sem (OpSem.fieldr rfl rfl fo29_0) rfl rfl ?_
        refine PC.sem (OpSem.loadb1 rfl rfl rfl vs3 rfl) rfl rfl ?_
        refine PC.sem (OpSem.bin rfl rfl rfl beql) rfl rfl ?_
        refine PC.sem (OpSem.move (.inl rfl) rfl) rfl rfl ?_
        refine PC.gT (OpSem.loadbN rfl rfl rfl vs46 (by first | decide | simp)) rfl rfl rfl rfl (by rw [h0]; rfl) rfl ?_
        refine PC.gT (OpSem.loadbN rfl rfl rfl vs46 (by first | decide | simp)) rfl rfl rfl rfl (by rw [h0]; rfl) rfl ?_
        refine PC.gT (OpSem.move (.inl rfl) rfl) rfl rfl rfl rfl (by rw [h0]; rfl) rfl ?_
        refine PC.gT (OpSem.call0 (Q_Relabeled_does a to h0) rfl rfl rfl rfl (Les.refl _)) rfl rfl rfl rfl (by rw [h0]; rfl) rfl ?_
        refine PC.done0 mixed (by kernel_rfl) (by kernel_rfl) (by kernel_rfl) (by kernel_rfl) (by kernel_rfl) ?_
        refine TrOps.gT rfl rfl rfl rfl (by rw [h0]; rfl) ?_
        refine TrOps.sem (OpSem.call0 (Q_Abstractions_does (aplR a to) (relA a to)) rfl rfl rfl rfl (Les.refl _)) rfl rfl (by decide) ?_
        refine TrOps.sem (OpSem.pickT rfl rfl (by rw [h0]; rfl) rfl) rfl rfl (by decide) ?_
        refine TrOps.sem (OpSem.move (.inr rfl) rfl) rfl rfl (by decide) ?_
        refine TrOps.nil ?_
        refine At.seq ?_
        refine Tr.ret ?_
        exact At.ret rfl (.tmp rfl <| .nil) rfl (Le.bo (by first | rfl | (rw [aplR_1 hne]; simp; done) | (rw [aplR_0 h0]; simp)))

theorem law_LabelsFinerWithMore_does (l : List Abs) (c : List Int) (hr : ∀ k : Nat, k < l.length → -9223372036854775808 ≤ (nth l k).states ∧ (nth l k).states ≤ 9223372036854775807) : Does Try.prog false 8 [.d (abssD l), .d (ints c)] (Bo true) := by
  refine Does.of_body Try.func8 rfl rfl (by simp) Try.call8 (fun w0 O0 => ?_)
  refine Tr.lenLe (n := 0) rfl (fun len0 => ?_)
  refine Tr.lenLe (n := 1) rfl (fun len1 => ?_)
  refine Tr.seq ?_
  refine Tr.region ?_
  refine TrOps.sem (OpSem.move (.inr rfl) rfl) rfl rfl (by decide) ?_
  refine TrOps.nil ?_
  refine At.seq ?_
  refine Tr.seq ?_
  refine Tr.seq ?_
  refine Tr.region ?_
  refine TrOps.sem (OpSem.call0 (law_labelsExample_does) rfl rfl rfl rfl (Les.refl _)) rfl rfl (by decide) ?_
  refine TrOps.sem (OpSem.not rfl rfl) rfl rfl (by decide) ?_
  refine TrOps.nil ?_
  refine At.seq ?_
  refine Tr.condF rfl rfl ?_
  refine Tr.skip ?_
  refine At.seq ?_
  refine Tr.seq ?_
  refine Tr.region ?_
  refine TrOps.sem (OpSem.move (.inl rfl) rfl) rfl rfl (by decide) ?_
  refine TrOps.sem (OpSem.move (.inl rfl) rfl) rfl rfl (by decide) ?_
  refine TrOps.sem (OpSem.call0 (labels_Reduce_does l c (-1) hr) rfl rfl rfl rfl (Les.refl _)) rfl rfl (by decide) ?_
  refine TrOps.sem (OpSem.move (.inl rfl) rfl) rfl rfl (by decide) ?_
  refine TrOps.sem (OpSem.extract rfl rfl rfl) rfl rfl (by decide) ?_
  refine TrOps.sem (OpSem.extract rfl rfl rfl) rfl rfl (by decide) ?_
  refine TrOps.semM (OpSem.alloc 6 rfl zc29 rfl) rfl rfl (by decide) ?_
  refine TrOps.sem (OpSem.move (.inr rfl) rfl) rfl rfl (by decide) ?_
  refine TrOps.storeb rfl rfl rfl rfl rfl rfl rfl vs29 (by first | decide | simp) ?_
  refine TrOps.nil ?_
  refine At.seq ?_
  refine Tr.seq ?_
  refine Tr.seq ?_
  refine Tr.region ?_
  refine TrOps.sem (OpSem.fieldr rfl rfl fo29_0) rfl rfl (by decide) ?_
  refine TrOps.sem (OpSem.loadb1 rfl rfl rfl vs3 rfl) rfl rfl (by decide) ?_
  refine TrOps.sem (OpSem.bin rfl rfl rfl bneq) rfl rfl (by decide) ?_
  refine TrOps.sem (OpSem.move (.inl rfl) rfl) rfl rfl (by decide) ?_
  refine TrOps.split (n := 21) rfl (fun c21 => ?_) (fun c21 => ?_)
  · have hne : redF l c (-1) ≠ (0, 0) := fun h => by simp [h] at c21
    refine TrOps.gF rfl rfl rfl rfl c21 rfl (by decide) ?_
    refine TrOps.gF rfl rfl rfl rfl c21 rfl (by decide) ?_
    refine TrOps.gF rfl rfl rfl rfl c21 rfl (by decide) ?_
    refine TrOps.sem (OpSem.pickT rfl rfl c21 rfl) rfl rfl (by decide) ?_
    refine TrOps.nil ?_
    refine At.seq ?_
    refine Tr.condT rfl rfl ?_
    refine Tr.seq ?_
    refine Tr.region ?_
    refine TrOps.sem (OpSem.fieldr rfl rfl fo29_0) rfl rfl (by decide) ?_
    refine TrOps.sem (OpSem.loadb1 rfl rfl rfl vs3 rfl) rfl rfl (by decide) ?_
    refine TrOps.sem (OpSem.bin rfl rfl rfl beql) rfl rfl (by decide) ?_
    refine TrOps.sem (OpSem.move (.inl rfl) rfl) rfl rfl (by decide) ?_
    refine TrOps.split (n := 29) rfl (fun c29 => ?_) (fun c29 => ?_)
    · skip
      refine TrOps.gF rfl rfl rfl rfl c29 rfl (by decide) ?_
      refine TrOps.gF rfl rfl rfl rfl c29 rfl (by decide) ?_
      refine TrOps.gF rfl rfl rfl rfl c29 rfl (by decide) ?_
      refine TrOps.sem (OpSem.pickT rfl rfl c29 rfl) rfl rfl (by decide) ?_
      refine TrOps.sem (OpSem.move (.inr rfl) rfl) rfl rfl (by decide) ?_
      refine TrOps.nil ?_
      refine At.seq ?_
      refine Tr.ret ?_
      refine At.pass_ret ?_
      exact At.ret rfl (.tmp rfl <| .nil) rfl (Le.bo (by first | rfl | (rw [h0]; rfl) | (rw [redL_1 hne]; rfl) | (exfalso; rw [h0] at c29; simp at c29; done) | simp))
    · skip
      refine TrOps.gT rfl rfl rfl rfl c29 ?_
      refine TrOps.sem (OpSem.move (.inl rfl) rfl) rfl rfl (by decide) ?_
      refine TrOps.gT rfl rfl rfl rfl c29 ?_
      refine TrOps.sem (OpSem.lenL rfl rfl es22) rfl rfl (by decide) ?_
      refine TrOps.gT rfl rfl rfl rfl c29 ?_
      refine TrOps.sem (OpSem.bin rfl rfl rfl beql) rfl rfl (by decide) ?_
      refine TrOps.sem (OpSem.pickF rfl rfl c29 rfl) rfl rfl (by decide) ?_
      refine TrOps.sem (OpSem.move (.inr rfl) rfl) rfl rfl (by decide) ?_
      refine TrOps.nil ?_
      refine At.seq ?_
      refine Tr.ret ?_
      refine At.pass_ret ?_
      exact At.ret rfl (.tmp rfl <| .nil) rfl (Le.bo (by first | rfl | (rw [h0]; rfl) | (rw [redL_1 hne]; rfl) | (exfalso; rw [h0] at c29; simp at c29; done) | simp))
  · have h0 : redF l c (-1) = (0, 0) := redF_code (by simpa using c21)
    refine TrOps.gT rfl rfl rfl rfl c21 ?_
    refine TrOps.sem (OpSem.move (.inl rfl) rfl) rfl rfl (by decide) ?_
    refine TrOps.gT rfl rfl rfl rfl c21 ?_
    refine TrOps.sem (OpSem.lenL rfl rfl es34) rfl rfl (by decide) ?_
    refine TrOps.gT rfl rfl rfl rfl c21 ?_
    refine TrOps.sem (OpSem.bin rfl rfl rfl beql) rfl rfl (by decide) ?_
    refine TrOps.sem (OpSem.pickF rfl rfl c21 rfl) rfl rfl (by decide) ?_
    refine TrOps.nil ?_
    refine At.seq ?_
    refine Tr.cond rfl (fun c25 => ?_) (fun c25 => ?_)
    · have h00 := h0
      refine Tr.seq ?_
      refine Tr.region ?_
      refine TrOps.sem (OpSem.fieldr rfl rfl fo29_0) rfl rfl (by decide) ?_
      refine TrOps.sem (OpSem.loadb1 rfl rfl rfl vs3 rfl) rfl rfl (by decide) ?_
      refine TrOps.sem (OpSem.bin rfl rfl rfl beql) rfl rfl (by decide) ?_
      refine TrOps.sem (OpSem.move (.inl rfl) rfl) rfl rfl (by decide) ?_
      refine TrOps.split (n := 29) rfl (fun c29 => ?_) (fun c29 => ?_)
      · skip
        refine TrOps.gF rfl rfl rfl rfl c29 rfl (by decide) ?_
        refine TrOps.gF rfl rfl rfl rfl c29 rfl (by decide) ?_
        refine TrOps.gF rfl rfl rfl rfl c29 rfl (by decide) ?_
        refine TrOps.sem (OpSem.pickT rfl rfl c29 rfl) rfl rfl (by decide) ?_
        refine TrOps.sem (OpSem.move (.inr rfl) rfl) rfl rfl (by decide) ?_
        refine TrOps.nil ?_
        refine At.seq ?_
        refine Tr.ret ?_
        refine At.pass_ret ?_
        exact At.ret rfl (.tmp rfl <| .nil) rfl (Le.bo (by first | rfl | (rw [h0]; rfl) | (rw [redL_1 hne]; rfl) | (exfalso; rw [h0] at c29; simp at c29; done) | simp))
      · skip
        refine TrOps.gT rfl rfl rfl rfl c29 ?_
        refine TrOps.sem (OpSem.move (.inl rfl) rfl) rfl rfl (by decide) ?_
        refine TrOps.gT rfl rfl rfl rfl c29 ?_
        refine TrOps.sem (OpSem.lenL rfl rfl es22) rfl rfl (by decide) ?_
        refine TrOps.gT rfl rfl rfl rfl c29 ?_
        refine TrOps.sem (OpSem.bin rfl rfl rfl beql) rfl rfl (by decide) ?_
        refine TrOps.sem (OpSem.pickF rfl rfl c29 rfl) rfl rfl (by decide) ?_
        refine TrOps.sem (OpSem.move (.inr rfl) rfl) rfl rfl (by decide) ?_
        refine TrOps.nil ?_
        refine At.seq ?_
        refine Tr.ret ?_
        refine At.pass_ret ?_
        exact At.ret rfl (.tmp rfl <| .nil) rfl (Le.bo (by first | rfl | (rw [h0]; rfl) | (rw [redL_1 hne]; rfl) | (exfalso; rw [h0] at c29; simp at c29; done) | simp))
    · have hlp : 1 ≤ l.length := by simp at c25; cases l; simp at c25; simp
      have h1 := red_drop h0
      have hl1 : (redL l c (-1)).length = c.length := by rw [redL_0 h0, redTo_len]
      have hl2 : (redL (l.drop 1) c (-1)).length = c.length := by rw [redL_0 h1, redTo_len]
      refine Tr.skip ?_
      refine At.seq ?_
      refine Tr.seq ?_
      refine Tr.region ?_
      refine TrOps.sem (OpSem.move (.inl rfl) rfl) rfl rfl (by decide) ?_
      refine TrOps.sem (OpSem.sliceL rfl rfl rfl es34 (by omega) (by omega)) rfl rfl (by decide) ?_
      refine TrOps.sem (OpSem.move (.inl rfl) rfl) rfl rfl (by decide) ?_
      refine TrOps.sem (OpSem.call0 (labels_Reduce_does (l.drop 1) c (-1) (fun k hk => by rw [nth_drop1]; exact hr (k + 1) (by simp at hk; omega))) rfl rfl rfl rfl (Les.refl _)) rfl rfl (by decide) ?_
      refine TrOps.sem (OpSem.move (.inl rfl) rfl) rfl rfl (by decide) ?_
      refine TrOps.sem (OpSem.extract rfl rfl rfl) rfl rfl (by decide) ?_
      refine TrOps.sem (OpSem.extract rfl rfl rfl) rfl rfl (by decide) ?_
      refine TrOps.semM (OpSem.alloc 8 rfl zc29 rfl) rfl rfl (by decide) ?_
      refine TrOps.sem (OpSem.move (.inr rfl) rfl) rfl rfl (by decide) ?_
      refine TrOps.storeb rfl rfl rfl rfl rfl rfl rfl vs29 (by first | decide | simp) ?_
      refine TrOps.nil ?_
      refine At.seq ?_
      refine Tr.seq ?_
      refine Tr.seq ?_
      refine Tr.region ?_
      refine TrOps.sem (OpSem.fieldr rfl rfl fo29_0) rfl rfl (by decide) ?_
      refine TrOps.sem (OpSem.loadb1 rfl rfl rfl vs3 rfl) rfl rfl (by decide) ?_
      refine TrOps.sem (OpSem.bin rfl rfl rfl bneq) rfl rfl (by decide) ?_
      refine TrOps.sem (OpSem.move (.inl rfl) rfl) rfl rfl (by decide) ?_
      refine TrOps.gT rfl rfl rfl rfl (by rw [h1]; rfl) ?_
      refine TrOps.sem (OpSem.move (.inl rfl) rfl) rfl rfl (by decide) ?_
      refine TrOps.gT rfl rfl rfl rfl (by rw [h1]; rfl) ?_
      refine TrOps.sem (OpSem.lenL rfl rfl es22) rfl rfl (by decide) ?_
      refine TrOps.gT rfl rfl rfl rfl (by rw [h1]; rfl) ?_
      refine TrOps.sem (OpSem.move (.inl rfl) rfl) rfl rfl (by decide) ?_
      refine TrOps.gT rfl rfl rfl rfl (by rw [h1]; rfl) ?_
      refine TrOps.sem (OpSem.lenL rfl rfl es22) rfl rfl (by decide) ?_
      refine TrOps.gT rfl rfl rfl rfl (by rw [h1]; rfl) ?_
      refine TrOps.sem (OpSem.bin rfl rfl rfl bneq) rfl rfl (by decide) ?_
      refine TrOps.sem (OpSem.pickF rfl rfl (by rw [h1]; rfl) rfl) rfl rfl (by decide) ?_
      refine TrOps.sem (OpSem.move (.inl rfl) rfl) rfl rfl (by decide) ?_
      refine TrOps.gT rfl rfl rfl rfl (by rw [hl1]; simp) ?_
      refine TrOps.sem (OpSem.move (.inl rfl) rfl) rfl rfl (by decide) ?_
      refine TrOps.gT rfl rfl rfl rfl (by rw [hl1]; simp) ?_
      refine TrOps.sem (OpSem.lenL rfl rfl es22) rfl rfl (by decide) ?_
      refine TrOps.gT rfl rfl rfl rfl (by rw [hl1]; simp) ?_
      refine TrOps.sem (OpSem.move (.inl rfl) rfl) rfl rfl (by decide) ?_
      refine TrOps.gT rfl rfl rfl rfl (by rw [hl1]; simp) ?_
      refine TrOps.sem (OpSem.lenL rfl rfl es22) rfl rfl (by decide) ?_
      refine TrOps.gT rfl rfl rfl rfl (by rw [hl1]; simp) ?_
      refine TrOps.sem (OpSem.bin rfl rfl rfl bneq) rfl rfl (by decide) ?_
      refine TrOps.sem (OpSem.pickF rfl rfl (by rw [hl1]; simp) rfl) rfl rfl (by decide) ?_
      refine TrOps.nil ?_
      refine At.seq ?_
      refine Tr.condF rfl (by rw [hl2]; simp) ?_
      refine Tr.skip ?_
      refine At.seq ?_
      refine Tr.seq ?_
      refine Tr.seq ?_
      refine Tr.region ?_
      refine TrOps.sem (OpSem.move (.inr rfl) rfl) rfl rfl (by decide) ?_
      refine TrOps.nil ?_
      refine At.seq ?_
      refine Tr.block ?_
      refine Tr.loop (X := Nat) (fun k => k ≤ (redL l c (-1)).length) (fun k => [(5, .d (ints (redL l c (-1)))), (7, .d (ints (redL (l.drop 1) c (-1)))), (9, I (k))]) (fun k => []) (fun k => (redL l c (-1)).length - k) 0 (by omega) ?_ ?_
      · exact .slot rfl (.refl _) <| .slot rfl (.refl _) <| .slot rfl (Le.of_eq (by simp)) <| .nil
      · rintro k hkl
        refine Tr.seq ?_
        refine Tr.seq ?_
        refine Tr.region ?_
        refine TrOps.sem (OpSem.move (.inl rfl) rfl) rfl rfl (by decide) ?_
        refine TrOps.sem (OpSem.move (.inl rfl) rfl) rfl rfl (by decide) ?_
        refine TrOps.sem (OpSem.lenL rfl rfl es22) rfl rfl (by decide) ?_
        refine TrOps.sem (OpSem.bin rfl rfl rfl blss) rfl rfl (by decide) ?_
        refine TrOps.nil ?_
        refine At.seq ?_
        refine Tr.cond rfl (fun c61 => ?_) (fun c61 => ?_)
        · have hk : k < c.length := by rw [← hl1]; simpa using c61
          have hx := red_finer h0 h1 hk
          have hlo := lowE_ex l c (-1) k
          refine Tr.skip ?_
          refine At.seq ?_
          refine Tr.seq ?_
          refine Tr.block ?_
          refine Tr.seq ?_
          refine PC.start [] ?_
          refine PC.sem (OpSem.move (.inl rfl) rfl) rfl rfl ?_
          refine PC.sem (OpSem.move (.inl rfl) rfl) rfl rfl ?_
          refine PC.sem (OpSem.idxL rfl rfl rfl es22 (by omega) (by omega)) rfl rfl ?_
          refine PC.sem (OpSem.load1 rfl rfl vs3 rfl) rfl rfl ?_
          refine PC.sem (OpSem.move (.inl rfl) rfl) rfl rfl ?_
          refine PC.sem (OpSem.call0 (R_In_does ..) rfl rfl rfl rfl (Les.refl _)) rfl rfl ?_
          refine PC.sem (OpSem.not rfl rfl) rfl rfl ?_
          refine PC.sem (OpSem.move (.inl rfl) rfl) rfl rfl ?_
          refine PC.gT (OpSem.move (.inl rfl) rfl) rfl rfl rfl rfl (by rw [hx.1]; simp; omega) rfl ?_
          refine PC.gT (OpSem.move (.inl rfl) rfl) rfl rfl rfl rfl (by rw [hx.1]; simp; omega) rfl ?_
          refine PC.gT (OpSem.move (.inl rfl) rfl) rfl rfl rfl rfl (by rw [hx.1]; simp; omega) rfl ?_
          refine PC.gT (OpSem.idxL rfl rfl rfl es22 (by omega) (by omega)) rfl rfl rfl rfl (by rw [hx.1]; simp; omega) rfl ?_
          refine PC.gT (OpSem.load1 rfl rfl vs3 rfl) rfl rfl rfl rfl (by rw [hx.1]; simp; omega) rfl ?_
          refine PC.gT (OpSem.idxL rfl rfl rfl es22 (by rw [hx.1]; omega) (by rw [hx.1]; omega)) rfl rfl rfl rfl (by rw [hx.1]; simp; omega) rfl ?_
          refine PC.gT (OpSem.load1 rfl rfl vs3 rfl) rfl rfl rfl rfl (by rw [hx.1]; simp; omega) rfl ?_
          refine PC.gT (OpSem.move (.inl rfl) rfl) rfl rfl rfl rfl (by rw [hx.1]; simp; omega) rfl ?_
          refine PC.gT (OpSem.move (.inl rfl) rfl) rfl rfl rfl rfl (by rw [hx.1]; simp; omega) rfl ?_
          refine PC.gT (OpSem.idxL rfl rfl rfl es22 (by omega) (by omega)) rfl rfl rfl rfl (by rw [hx.1]; simp; omega) rfl ?_
          refine PC.gT (OpSem.load1 rfl rfl vs3 rfl) rfl rfl rfl rfl (by rw [hx.1]; simp; omega) rfl ?_
          refine PC.gT (OpSem.bin rfl rfl rfl bneq) rfl rfl rfl rfl (by rw [hx.1]; simp; omega) rfl ?_
          refine PC.sem (OpSem.pickF rfl rfl (by rw [hx.1]; simp; omega) rfl) rfl rfl ?_
          refine PC.sem (OpSem.move (.inl rfl) rfl) rfl rfl ?_
          refine PC.gT (OpSem.move (.inl rfl) rfl) rfl rfl rfl rfl (by rw [hx.1, hx.2.1]; simp) rfl ?_
          refine PC.gT (OpSem.move (.inl rfl) rfl) rfl rfl rfl rfl (by rw [hx.1, hx.2.1]; simp) rfl ?_
          refine PC.gT (OpSem.idxL rfl rfl rfl es22 (by omega) (by omega)) rfl rfl rfl rfl (by rw [hx.1, hx.2.1]; simp) rfl ?_
          refine PC.gT (OpSem.load1 rfl rfl vs3 rfl) rfl rfl rfl rfl (by rw [hx.1, hx.2.1]; simp) rfl ?_
          refine PC.gT (OpSem.move (.inl rfl) rfl) rfl rfl rfl rfl (by rw [hx.1, hx.2.1]; simp) rfl ?_
          refine PC.gT (OpSem.move (.inl rfl) rfl) rfl rfl rfl rfl (by rw [hx.1, hx.2.1]; simp) rfl ?_
          refine PC.gT (OpSem.move (.inl rfl) rfl) rfl rfl rfl rfl (by rw [hx.1, hx.2.1]; simp) rfl ?_
          refine PC.gT (OpSem.idxL rfl rfl rfl es22 (by omega) (by omega)) rfl rfl rfl rfl (by rw [hx.1, hx.2.1]; simp) rfl ?_
          refine PC.gT (OpSem.load1 rfl rfl vs3 rfl) rfl rfl rfl rfl (by rw [hx.1, hx.2.1]; simp) rfl ?_
          refine PC.gT (OpSem.idxL rfl rfl rfl es22 (by rw [hx.1]; omega) (by rw [hx.1]; omega)) rfl rfl rfl rfl (by rw [hx.1, hx.2.1]; simp) rfl ?_
          refine PC.gT (OpSem.load1 rfl rfl vs3 rfl) rfl rfl rfl rfl (by rw [hx.1, hx.2.1]; simp) rfl ?_
          refine PC.done0 mixed (by kernel_rfl) (by kernel_rfl) (by kernel_rfl) (by kernel_rfl) (by kernel_rfl) ?_
          refine TrOps.gT rfl rfl rfl rfl (by rw [hx.1, hx.2.1]; simp) ?_
          refine TrOps.sem (OpSem.bin rfl rfl rfl bneq) rfl rfl (by decide) ?_
          refine TrOps.sem (OpSem.pickF rfl rfl (by rw [hx.1, hx.2.1]; simp) rfl) rfl rfl (by decide) ?_
          refine TrOps.nil ?_
          refine At.seq ?_
          refine Tr.condF rfl (by rw [hx.1, hx.2.2]; simp) ?_
          refine Tr.skip ?_
          refine At.block_normal ?_
          refine At.seq ?_
          refine Tr.region ?_
          refine TrOps.sem (OpSem.move (.inl rfl) rfl) rfl rfl (by decide) ?_
          refine TrOps.sem (OpSem.bin rfl rfl rfl (badd (by omega) (by omega))) rfl rfl (by decide) ?_
          refine TrOps.sem (OpSem.move (.inr rfl) rfl) rfl rfl (by decide) ?_
          refine TrOps.nil ?_
          refine At.again (k + 1) (by omega) ?_ (by omega)
          exact .slot rfl (.refl _) <| .slot rfl (.refl _) <| .slot rfl (Le.of_eq (by simp)) <| .nil
        · refine Tr.exit ?_
          refine At.pass_exit ?_
          refine At.pass_exit ?_
          refine At.block_same ?_
          refine At.seq ?_
          refine Tr.seq ?_
          refine Tr.region ?_
          refine TrOps.sem (OpSem.move (.inr rfl) rfl) rfl rfl (by decide) ?_
          refine TrOps.nil ?_
          refine At.seq ?_
          refine Tr.ret ?_
          exact At.ret rfl (.tmp rfl <| .nil) rfl (Le.bo (by first | rfl | (rw [h0]; rfl) | (rw [redL_1 hne]; rfl) | (exfalso; rw [h0] at c29; simp at c29; done) | simp))

theorem law_LabelsKeepDistances_does (a : Abs) (to c : List Int) (hr : -9223372036854775808 ≤ a.states ∧ a.states ≤ 9223372036854775807) : Does Try.prog false 9 [absS a, .d (ints to), .d (ints c)] (Bo true) := by
  refine Does.of_body Try.func9 rfl rfl (by simp) Try.call9 (fun w0 O0 => ?_)
  refine Tr.lenG (n := 0) (i := 2) rfl rfl (fun len0_2 => ?_)
  refine Tr.lenG (n := 0) (i := 4) rfl rfl (fun len0_4 => ?_)
  refine Tr.lenLe (n := 1) rfl (fun len1 => ?_)
  refine Tr.lenLe (n := 2) rfl (fun len2 => ?_)
  refine Tr.seq ?_
  refine Tr.region ?_
  refine TrOps.semM (OpSem.box 3 rfl rfl rfl rfl) rfl rfl (by decide) ?_
  refine TrOps.sem (OpSem.move (.inr rfl) rfl) rfl rfl (by decide) ?_
  refine TrOps.nil ?_
  refine At.seq ?_
  refine Tr.seq ?_
  refine Tr.seq ?_
  refine Tr.region ?_
  refine TrOps.sem (OpSem.call0 (law_labelsExample_does) rfl rfl rfl rfl (Les.refl _)) rfl rfl (by decide) ?_
  refine TrOps.sem (OpSem.not rfl rfl) rfl rfl (by decide) ?_
  refine TrOps.nil ?_
  refine At.seq ?_
  refine Tr.condF rfl rfl ?_
  refine Tr.skip ?_
  refine At.seq ?_
  refine Tr.seq ?_
  refine Tr.region ?_
  refine TrOps.sem (OpSem.loadbN rfl rfl rfl vs46 (by first | decide | simp)) rfl rfl (by decide) ?_
  refine TrOps.sem (OpSem.move (.inl rfl) rfl) rfl rfl (by decide) ?_
  refine TrOps.sem (OpSem.call0 (labels_Apply_does a to hr) rfl rfl rfl rfl (Les.refl _)) rfl rfl (by decide) ?_
  refine TrOps.sem (OpSem.move (.inl rfl) rfl) rfl rfl (by decide) ?_
  refine TrOps.sem (OpSem.extract rfl rfl rfl) rfl rfl (by decide) ?_
  refine TrOps.sem (OpSem.extract rfl rfl rfl) rfl rfl (by decide) ?_
  refine TrOps.semM (OpSem.alloc 7 rfl zc46 rfl) rfl rfl (by decide) ?_
  refine TrOps.semM (OpSem.alloc 8 rfl zc29 rfl) rfl rfl (by decide) ?_
  refine TrOps.storeb rfl rfl rfl rfl rfl rfl rfl vs46 (by first | decide | simp) ?_
  refine TrOps.storeb rfl rfl rfl rfl rfl rfl rfl vs29 (by first | decide | simp) ?_
  refine TrOps.nil ?_
  refine At.seq ?_
  refine Tr.seq ?_
  refine Tr.region ?_
  refine TrOps.sem (OpSem.loadbN rfl rfl rfl vs46 (by first | decide | simp)) rfl rfl (by decide) ?_
  refine TrOps.sem (OpSem.move (.inl rfl) rfl) rfl rfl (by decide) ?_
  refine TrOps.sem (OpSem.call0 (abstraction_Distances_does a c hr) rfl rfl rfl rfl (Les.refl _)) rfl rfl (by decide) ?_
  refine TrOps.sem (OpSem.move (.inl rfl) rfl) rfl rfl (by decide) ?_
  refine TrOps.sem (OpSem.extract rfl rfl rfl) rfl rfl (by decide) ?_
  refine TrOps.sem (OpSem.extract rfl rfl rfl) rfl rfl (by decide) ?_
  refine TrOps.semM (OpSem.alloc 10 rfl zc29 rfl) rfl rfl (by decide) ?_
  refine TrOps.sem (OpSem.move (.inr rfl) rfl) rfl rfl (by decide) ?_
  refine TrOps.storeb rfl rfl rfl rfl rfl rfl rfl vs29 (by first | decide | simp) ?_
  refine TrOps.nil ?_
  refine At.seq ?_
  refine Tr.seq ?_
  refine Tr.seq ?_
  refine Tr.region ?_
  refine TrOps.sem (OpSem.fieldr rfl rfl fo29_0) rfl rfl (by decide) ?_
  refine TrOps.sem (OpSem.loadb1 rfl rfl rfl vs3 rfl) rfl rfl (by decide) ?_
  refine TrOps.sem (OpSem.bin rfl rfl rfl bneq) rfl rfl (by decide) ?_
  refine TrOps.sem (OpSem.move (.inl rfl) rfl) rfl rfl (by decide) ?_
  refine TrOps.split (n := 31) rfl (fun c31 => ?_) (fun c31 => ?_)
  · have hne : aplF a to ≠ (0, 0) := fun h => by simp [h] at c31
    refine TrOps.gF rfl rfl rfl rfl c31 rfl (by decide) ?_
    refine TrOps.gF rfl rfl rfl rfl c31 rfl (by decide) ?_
    refine TrOps.gF rfl rfl rfl rfl c31 rfl (by decide) ?_
    refine TrOps.sem (OpSem.pickT rfl rfl c31 rfl) rfl rfl (by decide) ?_
    refine TrOps.sem (OpSem.move (.inl rfl) rfl) rfl rfl (by decide) ?_
    refine TrOps.gF rfl rfl rfl rfl rfl rfl (by decide) ?_
    refine TrOps.gF rfl rfl rfl rfl rfl rfl (by decide) ?_
    refine TrOps.gF rfl rfl rfl rfl rfl rfl (by decide) ?_
    refine TrOps.gF rfl rfl rfl rfl rfl rfl (by decide) ?_
    refine TrOps.gF rfl rfl rfl rfl rfl rfl (by decide) ?_
    refine TrOps.sem (OpSem.pickT rfl rfl rfl rfl) rfl rfl (by decide) ?_
    refine TrOps.nil ?_
    refine At.seq ?_
    refine Tr.condT rfl rfl ?_
    refine Tr.seq ?_
    refine Tr.region ?_
    refine TrOps.sem (OpSem.fieldr rfl rfl fo29_0) rfl rfl (by decide) ?_
    refine TrOps.sem (OpSem.loadb1 rfl rfl rfl vs3 rfl) rfl rfl (by decide) ?_
    refine TrOps.sem (OpSem.bin rfl rfl rfl beql) rfl rfl (by decide) ?_
    refine TrOps.sem (OpSem.move (.inl rfl) rfl) rfl rfl (by decide) ?_
    refine TrOps.split (n := 46) rfl (fun c46 => ?_) (fun c46 => ?_)
    · refine TrOps.gF rfl rfl rfl rfl c46 rfl (by decide) ?_
      refine TrOps.gF rfl rfl rfl rfl c46 rfl (by decide) ?_
      refine TrOps.gF rfl rfl rfl rfl c46 rfl (by decide) ?_
      refine TrOps.sem (OpSem.pickT rfl rfl c46 rfl) rfl rfl (by decide) ?_
      refine TrOps.sem (OpSem.move (.inr rfl) rfl) rfl rfl (by decide) ?_
      refine TrOps.nil ?_
      refine At.seq ?_
      refine Tr.ret ?_
      refine At.pass_ret ?_
      exact At.ret rfl (.tmp rfl <| .nil) rfl (Le.bo (by first | rfl | (rw [h0]; rfl) | (rw [aplR_1 hne]; rfl) | (exfalso; rw [h0] at c46; simp at c46; done) | (rw [hxx.2, hR]; simp; done) | simp))
    · refine TrOps.gT rfl rfl rfl rfl c46 ?_
      refine TrOps.sem (OpSem.fieldr rfl rfl fo46_0) rfl rfl (by decide) ?_
      refine TrOps.gT rfl rfl rfl rfl c46 ?_
      refine TrOps.sem (OpSem.loadb1 rfl rfl rfl vs3 rfl) rfl rfl (by decide) ?_
      refine TrOps.gT rfl rfl rfl rfl c46 ?_
      refine TrOps.sem (OpSem.bin rfl rfl rfl beql) rfl rfl (by decide) ?_
      refine TrOps.sem (OpSem.pickF rfl rfl c46 rfl) rfl rfl (by decide) ?_
      refine TrOps.sem (OpSem.move (.inr rfl) rfl) rfl rfl (by decide) ?_
      refine TrOps.nil ?_
      refine At.seq ?_
      refine Tr.ret ?_
      refine At.pass_ret ?_
      exact At.ret rfl (.tmp rfl <| .nil) rfl (Le.bo (by first | rfl | (rw [h0]; rfl) | (rw [aplR_1 hne]; rfl) | (exfalso; rw [h0] at c46; simp at c46; done) | (rw [hxx.2, hR]; simp; done) | simp))
  · have h0 : aplF a to = (0, 0) := aplF_code (by simpa using c31)
    refine TrOps.gT rfl rfl rfl rfl c31 ?_
    refine TrOps.sem (OpSem.fieldr rfl rfl fo29_0) rfl rfl (by decide) ?_
    refine TrOps.gT rfl rfl rfl rfl c31 ?_
    refine TrOps.sem (OpSem.loadb1 rfl rfl rfl vs3 rfl) rfl rfl (by decide) ?_
    refine TrOps.gT rfl rfl rfl rfl c31 ?_
    refine TrOps.sem (OpSem.bin rfl rfl rfl bneq) rfl rfl (by decide) ?_
    refine TrOps.sem (OpSem.pickF rfl rfl c31 rfl) rfl rfl (by decide) ?_
    refine TrOps.sem (OpSem.move (.inl rfl) rfl) rfl rfl (by decide) ?_
    refine TrOps.split (n := 36) rfl (fun c36 => ?_) (fun c36 => ?_)
    · refine TrOps.gF rfl rfl rfl rfl c36 rfl (by decide) ?_
      refine TrOps.gF rfl rfl rfl rfl c36 rfl (by decide) ?_
      refine TrOps.gF rfl rfl rfl rfl c36 rfl (by decide) ?_
      refine TrOps.gF rfl rfl rfl rfl c36 rfl (by decide) ?_
      refine TrOps.gF rfl rfl rfl rfl c36 rfl (by decide) ?_
      refine TrOps.sem (OpSem.pickT rfl rfl c36 rfl) rfl rfl (by decide) ?_
      refine TrOps.nil ?_
      refine At.seq ?_
      refine Tr.condT rfl rfl ?_
      refine Tr.seq ?_
      refine Tr.region ?_
      refine TrOps.sem (OpSem.fieldr rfl rfl fo29_0) rfl rfl (by decide) ?_
      refine TrOps.sem (OpSem.loadb1 rfl rfl rfl vs3 rfl) rfl rfl (by decide) ?_
      refine TrOps.sem (OpSem.bin rfl rfl rfl beql) rfl rfl (by decide) ?_
      refine TrOps.sem (OpSem.move (.inl rfl) rfl) rfl rfl (by decide) ?_
      refine TrOps.split (n := 46) rfl (fun c46 => ?_) (fun c46 => ?_)
      · refine TrOps.gF rfl rfl rfl rfl c46 rfl (by decide) ?_
        refine TrOps.gF rfl rfl rfl rfl c46 rfl (by decide) ?_
        refine TrOps.gF rfl rfl rfl rfl c46 rfl (by decide) ?_
        refine TrOps.sem (OpSem.pickT rfl rfl c46 rfl) rfl rfl (by decide) ?_
        refine TrOps.sem (OpSem.move (.inr rfl) rfl) rfl rfl (by decide) ?_
        refine TrOps.nil ?_
        refine At.seq ?_
        refine Tr.ret ?_
        refine At.pass_ret ?_
        exact At.ret rfl (.tmp rfl <| .nil) rfl (Le.bo (by first | rfl | (rw [h0]; rfl) | (rw [aplR_1 hne]; rfl) | (exfalso; rw [h0] at c46; simp at c46; done) | (rw [hxx.2, hR]; simp; done) | simp))
      · refine TrOps.gT rfl rfl rfl rfl c46 ?_
        refine TrOps.sem (OpSem.fieldr rfl rfl fo46_0) rfl rfl (by decide) ?_
        refine TrOps.gT rfl rfl rfl rfl c46 ?_
        refine TrOps.sem (OpSem.loadb1 rfl rfl rfl vs3 rfl) rfl rfl (by decide) ?_
        refine TrOps.gT rfl rfl rfl rfl c46 ?_
        refine TrOps.sem (OpSem.bin rfl rfl rfl beql) rfl rfl (by decide) ?_
        refine TrOps.sem (OpSem.pickF rfl rfl c46 rfl) rfl rfl (by decide) ?_
        refine TrOps.sem (OpSem.move (.inr rfl) rfl) rfl rfl (by decide) ?_
        refine TrOps.nil ?_
        refine At.seq ?_
        refine Tr.ret ?_
        refine At.pass_ret ?_
        exact At.ret rfl (.tmp rfl <| .nil) rfl (Le.bo (by first | rfl | (rw [h0]; rfl) | (rw [aplR_1 hne]; rfl) | (exfalso; rw [h0] at c46; simp at c46; done) | (rw [hxx.2, hR]; simp; done) | simp))
    · refine TrOps.gT rfl rfl rfl rfl c36 ?_
      refine TrOps.sem (OpSem.move (.inl rfl) rfl) rfl rfl (by decide) ?_
      refine TrOps.gT rfl rfl rfl rfl c36 ?_
      refine TrOps.sem (OpSem.lenL rfl rfl es22) rfl rfl (by decide) ?_
      refine TrOps.gT rfl rfl rfl rfl c36 ?_
      refine TrOps.sem (OpSem.move (.inl rfl) rfl) rfl rfl (by decide) ?_
      refine TrOps.gT rfl rfl rfl rfl c36 ?_
      refine TrOps.sem (OpSem.lenL rfl rfl es22) rfl rfl (by decide) ?_
      refine TrOps.gT rfl rfl rfl rfl c36 ?_
      refine TrOps.sem (OpSem.bin rfl rfl rfl bneq) rfl rfl (by decide) ?_
      refine TrOps.sem (OpSem.pickF rfl rfl c36 rfl) rfl rfl (by decide) ?_
      refine TrOps.nil ?_
      refine At.seq ?_
      refine Tr.cond rfl (fun c42 => ?_) (fun c42 => ?_)
      · refine Tr.seq ?_
        refine Tr.region ?_
        refine TrOps.sem (OpSem.fieldr rfl rfl fo29_0) rfl rfl (by decide) ?_
        refine TrOps.sem (OpSem.loadb1 rfl rfl rfl vs3 rfl) rfl rfl (by decide) ?_
        refine TrOps.sem (OpSem.bin rfl rfl rfl beql) rfl rfl (by decide) ?_
        refine TrOps.sem (OpSem.move (.inl rfl) rfl) rfl rfl (by decide) ?_
        refine TrOps.split (n := 46) rfl (fun c46 => ?_) (fun c46 => ?_)
        · refine TrOps.gF rfl rfl rfl rfl c46 rfl (by decide) ?_
          refine TrOps.gF rfl rfl rfl rfl c46 rfl (by decide) ?_
          refine TrOps.gF rfl rfl rfl rfl c46 rfl (by decide) ?_
          refine TrOps.sem (OpSem.pickT rfl rfl c46 rfl) rfl rfl (by decide) ?_
          refine TrOps.sem (OpSem.move (.inr rfl) rfl) rfl rfl (by decide) ?_
          refine TrOps.nil ?_
          refine At.seq ?_
          refine Tr.ret ?_
          refine At.pass_ret ?_
          exact At.ret rfl (.tmp rfl <| .nil) rfl (Le.bo (by first | rfl | (rw [h0]; rfl) | (rw [aplR_1 hne]; rfl) | (exfalso; rw [h0] at c46; simp at c46; done) | (rw [hxx.2, hR]; simp; done) | simp))
        · refine TrOps.gT rfl rfl rfl rfl c46 ?_
          refine TrOps.sem (OpSem.fieldr rfl rfl fo46_0) rfl rfl (by decide) ?_
          refine TrOps.gT rfl rfl rfl rfl c46 ?_
          refine TrOps.sem (OpSem.loadb1 rfl rfl rfl vs3 rfl) rfl rfl (by decide) ?_
          refine TrOps.gT rfl rfl rfl rfl c46 ?_
          refine TrOps.sem (OpSem.bin rfl rfl rfl beql) rfl rfl (by decide) ?_
          refine TrOps.sem (OpSem.pickF rfl rfl c46 rfl) rfl rfl (by decide) ?_
          refine TrOps.sem (OpSem.move (.inr rfl) rfl) rfl rfl (by decide) ?_
          refine TrOps.nil ?_
          refine At.seq ?_
          refine Tr.ret ?_
          refine At.pass_ret ?_
          exact At.ret rfl (.tmp rfl <| .nil) rfl (Le.bo (by first | rfl | (rw [h0]; rfl) | (rw [aplR_1 hne]; rfl) | (exfalso; rw [h0] at c46; simp at c46; done) | (rw [hxx.2, hR]; simp; done) | simp))
      · obtain ⟨ha, hc, hF, _⟩ := adF_ok (a := a) (c := c) (by simpa using c36)
        have hR := adR_0 hF
        have hln : to.length = c.length := by simp at c42; omega
        refine Tr.skip ?_
        refine At.seq ?_
        refine Tr.seq ?_
        refine Tr.seq ?_
        refine Tr.region ?_
        refine TrOps.sem (OpSem.move (.inr rfl) rfl) rfl rfl (by decide) ?_
        refine TrOps.nil ?_
        refine At.seq ?_
        refine Tr.block ?_
        refine Tr.loop (X := Nat) (fun k => k ≤ to.length ∧ ∀ x : Nat, x < k → nth c (nth to x) = nth c x) (fun k => [(1, .d (ints to)), (2, .d (ints c)), (7, .r 7 0), (9, .d (ints (adR a c))), (11, I (k))]) (fun k => [(7, .box [I ((aplR a to).states), I ((aplR a to).labels), .d (arcsD ((aplR a to).arcs)), I ((aplR a to).init), .d (ints ((aplR a to).goals))])]) (fun k => to.length - k) 0 ⟨by omega, by simp⟩ ?_ ?_
        · exact .slot rfl (.refl _) <| .slot rfl (.refl _) <| .slot rfl (.refl _) <| .slot rfl (.refl _) <| .slot rfl (Le.of_eq (by simp)) <| .mem rfl <| .nil
        · rintro k ⟨hkl, hinv⟩
          refine Tr.seq ?_
          refine Tr.seq ?_
          refine Tr.region ?_
          refine TrOps.sem (OpSem.move (.inl rfl) rfl) rfl rfl (by decide) ?_
          refine TrOps.sem (OpSem.move (.inl rfl) rfl) rfl rfl (by decide) ?_
          refine TrOps.sem (OpSem.lenL rfl rfl es22) rfl rfl (by decide) ?_
          refine TrOps.sem (OpSem.bin rfl rfl rfl blss) rfl rfl (by decide) ?_
          refine TrOps.nil ?_
          refine At.seq ?_
          refine Tr.cond rfl (fun c54 => ?_) (fun c54 => ?_)
          · have hk : k < to.length := by simpa using c54
            refine Tr.skip ?_
            refine At.seq ?_
            refine Tr.seq ?_
            refine Tr.block ?_
            refine Tr.seq ?_
            refine PC.start [] ?_
            refine PC.sem (OpSem.move (.inl rfl) rfl) rfl rfl ?_
            refine PC.sem (OpSem.move (.inl rfl) rfl) rfl rfl ?_
            refine PC.sem (OpSem.idxL rfl rfl rfl es22 (by omega) (by omega)) rfl rfl ?_
            refine PC.sem (OpSem.load1 rfl rfl vs3 rfl) rfl rfl ?_
            refine PC.sem (OpSem.move (.inl rfl) rfl) rfl rfl ?_
            refine PC.sem (OpSem.lenL rfl rfl es22) rfl rfl ?_
            refine PC.sem (OpSem.bin rfl rfl rfl (bsub (by omega) (by omega))) rfl rfl ?_
            refine PC.sem (OpSem.call0 (R_In_does ..) rfl rfl rfl rfl (Les.refl _)) rfl rfl ?_
            refine PC.sem (OpSem.not rfl rfl) rfl rfl ?_
            refine PC.sem (OpSem.move (.inl rfl) rfl) rfl rfl ?_
            refine PC.split (n := 66) rfl (fun c66 => ?_) (fun c66 => ?_)
            · refine PC.gF rfl rfl rfl rfl c66 rfl ?_
              refine PC.gF rfl rfl rfl rfl c66 rfl ?_
              refine PC.gF rfl rfl rfl rfl c66 rfl ?_
              refine PC.gF rfl rfl rfl rfl c66 rfl ?_
              refine PC.gF rfl rfl rfl rfl c66 rfl ?_
              refine PC.gF rfl rfl rfl rfl c66 rfl ?_
              refine PC.gF rfl rfl rfl rfl c66 rfl ?_
              refine PC.gF rfl rfl rfl rfl c66 rfl ?_
              refine PC.gF rfl rfl rfl rfl c66 rfl ?_
              refine PC.gF rfl rfl rfl rfl c66 rfl ?_
              refine PC.gF rfl rfl rfl rfl c66 rfl ?_
              refine PC.done0 mixed (by kernel_rfl) (by kernel_rfl) (by kernel_rfl) (by kernel_rfl) (by kernel_rfl) ?_
              refine TrOps.gF rfl rfl rfl rfl c66 rfl (by decide) ?_
              refine TrOps.sem (OpSem.pickT rfl rfl c66 rfl) rfl rfl (by decide) ?_
              refine TrOps.nil ?_
              refine At.seq ?_
              refine Tr.condT rfl rfl ?_
              refine Tr.seq ?_
              refine Tr.region ?_
              refine TrOps.sem (OpSem.move (.inr rfl) rfl) rfl rfl (by decide) ?_
              refine TrOps.nil ?_
              refine At.seq ?_
              refine Tr.ret ?_
              refine At.block_ret ?_
              refine At.pass_ret ?_
              refine At.pass_ret ?_
              refine At.block_ret ?_
              refine At.pass_ret ?_
              exact At.ret rfl (.tmp rfl <| .nil) rfl (Le.bo (by first | rfl | (rw [h0]; rfl) | (rw [aplR_1 hne]; rfl) | (exfalso; rw [h0] at c46; simp at c46; done) | (rw [hxx.2, hR]; simp; done) | simp))
            · have hin : 0 ≤ nth to k ∧ nth to k < c.length := by simp at c66; omega
              refine PC.gT (OpSem.move (.inl rfl) rfl) rfl rfl rfl rfl c66 rfl ?_
              refine PC.gT (OpSem.move (.inl rfl) rfl) rfl rfl rfl rfl c66 rfl ?_
              refine PC.gT (OpSem.move (.inl rfl) rfl) rfl rfl rfl rfl c66 rfl ?_
              refine PC.gT (OpSem.idxL rfl rfl rfl es22 (by omega) (by omega)) rfl rfl rfl rfl c66 rfl ?_
              refine PC.gT (OpSem.load1 rfl rfl vs3 rfl) rfl rfl rfl rfl c66 rfl ?_
              refine PC.gT (OpSem.idxL rfl rfl rfl es22 (by omega) (by omega)) rfl rfl rfl rfl c66 rfl ?_
              refine PC.gT (OpSem.load1 rfl rfl vs3 rfl) rfl rfl rfl rfl c66 rfl ?_
              refine PC.gT (OpSem.move (.inl rfl) rfl) rfl rfl rfl rfl c66 rfl ?_
              refine PC.gT (OpSem.move (.inl rfl) rfl) rfl rfl rfl rfl c66 rfl ?_
              refine PC.gT (OpSem.idxL rfl rfl rfl es22 (by omega) (by omega)) rfl rfl rfl rfl c66 rfl ?_
              refine PC.gT (OpSem.load1 rfl rfl vs3 rfl) rfl rfl rfl rfl c66 rfl ?_
              refine PC.done0 mixed (by kernel_rfl) (by kernel_rfl) (by kernel_rfl) (by kernel_rfl) (by kernel_rfl) ?_
              refine TrOps.gT rfl rfl rfl rfl c66 ?_
              refine TrOps.sem (OpSem.bin rfl rfl rfl bneq) rfl rfl (by decide) ?_
              refine TrOps.sem (OpSem.pickF rfl rfl c66 rfl) rfl rfl (by decide) ?_
              refine TrOps.nil ?_
              refine At.seq ?_
              refine Tr.cond rfl (fun c79 => ?_) (fun c79 => ?_)
              · refine Tr.seq ?_
                refine Tr.region ?_
                refine TrOps.sem (OpSem.move (.inr rfl) rfl) rfl rfl (by decide) ?_
                refine TrOps.nil ?_
                refine At.seq ?_
                refine Tr.ret ?_
                refine At.block_ret ?_
                refine At.pass_ret ?_
                refine At.pass_ret ?_
                refine At.block_ret ?_
                refine At.pass_ret ?_
                exact At.ret rfl (.tmp rfl <| .nil) rfl (Le.bo (by first | rfl | (rw [h0]; rfl) | (rw [aplR_1 hne]; rfl) | (exfalso; rw [h0] at c46; simp at c46; done) | (rw [hxx.2, hR]; simp; done) | simp))
              · have hb : nth c (nth to k) = nth c k := by simpa using c79
                refine Tr.skip ?_
                refine At.block_normal ?_
                refine At.seq ?_
                refine Tr.region ?_
                refine TrOps.sem (OpSem.move (.inl rfl) rfl) rfl rfl (by decide) ?_
                refine TrOps.sem (OpSem.bin rfl rfl rfl (badd (by omega) (by omega))) rfl rfl (by decide) ?_
                refine TrOps.sem (OpSem.move (.inr rfl) rfl) rfl rfl (by decide) ?_
                refine TrOps.nil ?_
                refine At.again (k + 1) ⟨by omega, all_succ hinv hb⟩ ?_ (by omega)
                exact .slot rfl (.refl _) <| .slot rfl (.refl _) <| .slot rfl (.refl _) <| .slot rfl (.refl _) <| .slot rfl (Le.of_eq (by simp)) <| .mem rfl <| .nil
          · have hk : k = to.length := by simp at c54; omega
            have hxx := rel_keep h0 ha hc (by subst hk; exact hinv)
            refine Tr.exit ?_
            refine At.pass_exit ?_
            refine At.pass_exit ?_
            refine At.block_same ?_
            refine At.seq ?_
            refine Tr.seq ?_
            refine Tr.region ?_
            refine TrOps.sem (OpSem.loadbN rfl rfl rfl vs46 (by first | decide | simp)) rfl rfl (by decide) ?_
            refine TrOps.sem (OpSem.move (.inl rfl) rfl) rfl rfl (by decide) ?_
            refine TrOps.sem (OpSem.call0 (abstraction_Distances_does (aplR a to) c (by rw [aplR_0 h0]; exact hr)) rfl rfl rfl rfl (Les.refl _)) rfl rfl (by decide) ?_
            refine TrOps.sem (OpSem.move (.inl rfl) rfl) rfl rfl (by decide) ?_
            refine TrOps.sem (OpSem.extract rfl rfl rfl) rfl rfl (by decide) ?_
            refine TrOps.sem (OpSem.extract rfl rfl rfl) rfl rfl (by decide) ?_
            refine TrOps.semM (OpSem.alloc 13 rfl zc29 rfl) rfl rfl (by decide) ?_
            refine TrOps.sem (OpSem.move (.inr rfl) rfl) rfl rfl (by decide) ?_
            refine TrOps.storeb rfl rfl rfl rfl rfl rfl rfl vs29 (by first | decide | simp) ?_
            refine TrOps.nil ?_
            refine At.seq ?_
            refine Tr.seq ?_
            refine Tr.region ?_
            refine TrOps.sem (OpSem.fieldr rfl rfl fo29_0) rfl rfl (by decide) ?_
            refine TrOps.sem (OpSem.loadb1 rfl rfl rfl vs3 rfl) rfl rfl (by decide) ?_
            refine TrOps.sem (OpSem.bin rfl rfl rfl beql) rfl rfl (by decide) ?_
            refine TrOps.sem (OpSem.move (.inl rfl) rfl) rfl rfl (by decide) ?_
            refine TrOps.gT rfl rfl rfl rfl (by rw [hxx.1]; rfl) ?_
            refine TrOps.sem (OpSem.move (.inl rfl) rfl) rfl rfl (by decide) ?_
            refine TrOps.gT rfl rfl rfl rfl (by rw [hxx.1]; rfl) ?_
            refine TrOps.sem (OpSem.move (.inl rfl) rfl) rfl rfl (by decide) ?_
            refine TrOps.gT rfl rfl rfl rfl (by rw [hxx.1]; rfl) ?_
            refine TrOps.sem (OpSem.call0 (R_Ints_does (adR a c) (adR (aplR a to) c)) rfl rfl rfl rfl (Les.refl _)) rfl rfl (by decide) ?_
            refine TrOps.sem (OpSem.pickT rfl rfl (by rw [hxx.1]; rfl) rfl) rfl rfl (by decide) ?_
            refine TrOps.sem (OpSem.move (.inr rfl) rfl) rfl rfl (by decide) ?_
            refine TrOps.nil ?_
            refine At.seq ?_
            refine Tr.ret ?_
            exact At.ret rfl (.tmp rfl <| .nil) rfl (Le.bo (by first | rfl | (rw [h0]; rfl) | (rw [aplR_1 hne]; rfl) | (exfalso; rw [h0] at c46; simp at c46; done) | (rw [hxx.2, hR]; simp; done) | simp))

end Go.Proofs.Ytohlmcebphcokaa
end

section
/- The frame: what an argument that reads is, as data; and how a proved contract becomes the row's step. -/







set_option linter.unusedVariables false
set_option linter.unusedSimpArgs false
namespace Go.Eng
open Go Go.RowKit

/-- A row of cells holds these data. -/
def CellsD (W : World) (cs : List Value) (ds : List D) : Prop := cs.length = ds.length ∧ ∀ (i : Nat) (x : Value) (d : D), cs[i]? = some x → ds[i]? = some d → RepD zO W x d
theorem CellsD.app {W : World} {a b : List Value} {c d : List D} (h : CellsD W a c) (k : CellsD W b d) : CellsD W (a ++ b) (c ++ d) := by
  refine ⟨by simp [h.1, k.1], fun i x y hx hy => ?_⟩
  by_cases hi : i < a.length
  · rw [List.getElem?_append_left hi] at hx
    rw [List.getElem?_append_left (by rw [← h.1]; exact hi)] at hy
    exact h.2 i x y hx hy
  · rw [List.getElem?_append_right (by omega)] at hx
    rw [List.getElem?_append_right (by rw [← h.1]; omega), ← h.1] at hy
    exact k.2 _ x y hx hy

/-- Whatever reads at the type is data of this form. -/
abbrev in64 (n : Int) : Prop := -9223372036854775808 ≤ n ∧ n ≤ 9223372036854775807
def Dec (P : Program) (t : TypeId) {β : Type} (k : Nat) (f : β → List D) (R : β → Prop) : Prop :=
  P.cellsOf t = k ∧ (∀ b, (f b).length = k) ∧
    ∀ (H : Type) (enc : TypeId × Value → H) (W : World) (fuel : Nat) (cs : List Value) (x : DataW H × List MemPlace), DataW.trod enc P W 0 (fun _ => true) true fuel t cs = some x → ∃ b, R b ∧ CellsD W cs (f b)
theorem Dec.map {P : Program} {t : TypeId} {β γ : Type} {k : Nat} {f : β → List D} {f' : γ → List D} {R : β → Prop} {R' : γ → Prop} (h : Dec P t k f R) (g : β → γ) (g' : γ → β) (hg : ∀ b, f' (g b) = f b) (hg' : ∀ c, f' c = f (g' c)) (hR : ∀ b, R b → R' (g b)) : Dec P t k f' R' :=
  ⟨h.1, fun c => by rw [hg', h.2.1], fun H enc W fuel cs x hx => let ⟨b, hr, hb⟩ := h.2.2 H enc W fuel cs x hx; ⟨g b, hR b hr, by rw [hg]; exact hb⟩⟩
theorem Dec.int {P : Program} {t : TypeId} (ht : P.underlying t = some (.int .i64)) (hc : P.cellsOf t = 1) : Dec P t 1 (fun n : Int => [D.v (.int .i64 n)]) in64 :=
  ⟨hc, fun _ => rfl, fun H enc W fuel cs x hx => by
    obtain ⟨n, rfl, _, hw⟩ := DataW.trod_int ht hx
    refine ⟨n, ?_, rfl, fun i x d hx hd => ?_⟩
    · simp only [Lit.wf, Bool.and_eq_true, decide_eq_true_eq] at hw
      have h1 := hw.1
      have h2 := hw.2
      have e1 : IntKind.i64.min = -9223372036854775808 := by decide
      have e2 : IntKind.i64.max = 9223372036854775807 := by decide
      unfold in64
      omega
    · cases i with
      | zero => simp at hx hd; subst hx; subst hd; exact .v _
      | succ i => simp at hx⟩
theorem Dec.bool {P : Program} {t : TypeId} (ht : P.underlying t = some .bool) (hc : P.cellsOf t = 1) : Dec P t 1 (fun n : Bool => [D.v (.bool n)]) (fun _ => True) :=
  ⟨hc, fun _ => rfl, fun H enc W fuel cs x hx => by
    have key : ∃ b, cs = [.bool b] := by
      cases fuel with
      | zero => simp [DataW.trod] at hx
      | succ m =>
        unfold DataW.trod at hx
        rw [ht] at hx
        split at hx <;> simp_all
    obtain ⟨b, rfl⟩ := key
    refine ⟨b, trivial, rfl, fun i x d hx hd => ?_⟩
    cases i with
    | zero => simp at hx hd; subst hx; subst hd; exact .v _
    | succ i => simp at hx⟩
theorem choose_list {β : Type} {p : Nat → β → Prop} : ∀ (n : Nat), (∀ i, i < n → ∃ b, p i b) → ∃ l : List β, l.length = n ∧ ∀ i b, l[i]? = some b → p i b
  | 0, _ => ⟨[], rfl, fun i b h => by simp at h⟩
  | n + 1, h => by
    obtain ⟨l, h1, h2⟩ := choose_list n fun i hi => h i (by omega)
    obtain ⟨b, hb⟩ := h n (by omega)
    refine ⟨l ++ [b], by simp [h1], fun i c hc => ?_⟩
    by_cases hi : i < n
    · rw [List.getElem?_append_left (by omega)] at hc; exact h2 i c hc
    · rw [List.getElem?_append_right (by omega)] at hc
      cases hz : i - l.length with
      | zero =>
        rw [hz] at hc; simp at hc; subst hc
        have : i = n := by omega
        rw [this]; exact hb
      | succ j => rw [hz] at hc; simp at hc
theorem Dec.slice {P : Program} {t e : TypeId} {β : Type} {k : Nat} {f : β → List D} {R : β → Prop} (ht : P.underlying t = some (.slice e)) (hc : P.cellsOf t = 1) (he : Dec P e k f R) (hk0 : 0 < k) : Dec P t 1 (fun l : List β => [D.s k (l.map f)]) (fun l => ∀ b, b ∈ l → R b) := by
  refine ⟨hc, fun _ => rfl, fun H enc W fuel cs x hx => ?_⟩
  have one : ∀ (v : Value) (d : D), RepD zO W v d → CellsD W [v] [d] := fun v d h => ⟨rfl, fun i x d' hx hd => by
    cases i with
    | zero => simp at hx hd; subst hx; subst hd; exact h
    | succ i => simp at hx⟩
  rcases Go.Deep.open_slice ht hx with ⟨rfl, _⟩ | ⟨a, len, cap, m, n, Dx, Pl, rfl, _, hl, hm, hmm, _, hel⟩
  · exact ⟨[], fun b hb => by simp at hb, one _ _ (.e none 0 k (by simp [maxLen]))⟩
  · have hmc : len ≤ m := by rw [hmm]; split <;> omega
    obtain ⟨l, hll, hlp⟩ := choose_list (β := β) (p := fun i b => R b ∧ ∃ cs', W.cells? 0 (a.add (i * P.cellsOf e)) (P.cellsOf e) = some cs' ∧ CellsD W cs' (f b)) len (fun i hi => by
      obtain ⟨cs', h1, h2⟩ := hel i (by omega)
      obtain ⟨b, hr, hb⟩ := he.2.2 H enc W n cs' _ h2
      exact ⟨b, hr, cs', h1, hb⟩)
    refine ⟨l, fun b hb => by obtain ⟨i, hi⟩ := List.getElem?_of_mem hb; exact (hlp i b hi).1, one _ _ ?_⟩
    have hlp := fun i b h => (hlp i b h).2
    cases l with
    | nil =>
      simp at hll
      subst hll
      exact .e _ cap k hm
    | cons b0 l0 =>
      generalize hL : b0 :: l0 = l at hll hlp
      obtain ⟨ab, ao, asp⟩ := a
      have hsp : asp = none := by
        obtain ⟨cs', h1, h2⟩ := hlp 0 b0 (by rw [← hL]; rfl)
        obtain ⟨_, g1, g2⟩ := World.cells?_some h1
        have hj : 0 < cs'.length := by rw [g1, he.1]; exact hk0
        have := g2 0 (by rw [he.1]; exact hk0)
        rw [List.getElem?_eq_getElem hj, Nat.zero_mul] at this
        exact World.cell?_spot (by simpa [Addr.add] using this)
      subst hsp
      have hadd : ∀ p q : Nat, ((⟨ab, ao, none⟩ : Addr).add p).add q = ⟨ab, ao + (p + q), none⟩ := by
        intro p q
        unfold Addr.add
        split <;> split <;> simp <;> omega
      have hcell : ∀ (i : Nat) (b : β), l[i]? = some b → ∀ (j : Nat) (d : D), (f b)[j]? = some d → ∃ x, W.cell? ⟨ab, ao + (i * k + j), none⟩ = some x ∧ RepD zO W x d := by
        intro i b hb j d hd
        obtain ⟨cs', h1, h2⟩ := hlp i b hb
        obtain ⟨_, g1, g2⟩ := World.cells?_some h1
        have hj : j < P.cellsOf e := by rw [he.1, ← he.2.1 b]; exact (List.getElem?_eq_some_iff.1 hd).1
        have hj' : j < cs'.length := by omega
        have := g2 j hj
        rw [List.getElem?_eq_getElem hj', hadd, he.1] at this
        exact ⟨cs'[j], this, h2.2 j _ d (List.getElem?_eq_getElem hj') hd⟩
      have hrow : ∀ (i : Nat) (r : List D), (l.map f)[i]? = some r → ∃ b, l[i]? = some b ∧ r = f b := by
        intro i r hr
        simp only [List.getElem?_map, Option.map_eq_some_iff] at hr
        obtain ⟨b, h1, h2⟩ := hr
        exact ⟨b, h1, h2.symm⟩
      have hlen : len = (l.map f).length := by simp [hll]
      rw [hlen]
      refine .s ab ao cap k (l.map f) (fun q => (W.cell? ⟨ab, ao + q, none⟩).getD undef) (by omega) hm (fun r hr => ?_) (fun _ _ _ _ _ _ => rfl) (fun i r j d hi hj => ?_) (fun i r j d hi hj => ?_)
      · obtain ⟨b, _, rfl⟩ := List.mem_map.1 hr; exact he.2.1 b
      · obtain ⟨b, hb, rfl⟩ := hrow i r hi
        obtain ⟨x, hx, _⟩ := hcell i b hb j d hj
        rw [hx]; rfl
      · obtain ⟨b, hb, rfl⟩ := hrow i r hi
        obtain ⟨x, hx, hr⟩ := hcell i b hb j d hj
        simp only [hx, Option.getD_some]; exact hr

/-! ### Structs -/
theorem drop_take_app {α : Type} (l : List α) (a b : Nat) : (l.drop 0).take (a + b) = (l.drop 0).take a ++ (l.drop a).take b := by
  simp [List.take_add]
theorem Dec.struct3 {P : Program} {t : TypeId} {f0 f1 f2 : Field} {β0 β1 β2 : Type} {k0 k1 k2 : Nat} {e0 : β0 → List D} {e1 : β1 → List D} {e2 : β2 → List D} {R0 : β0 → Prop} {R1 : β1 → Prop} {R2 : β2 → Prop} (ht : P.underlying t = some (.struct #[f0, f1, f2])) (hc : P.cellsOf t = k0 + k1 + k2)
    (o0 : f0.offset = 0) (o1 : f1.offset = k0) (o2 : f2.offset = k0 + k1) (h0 : Dec P f0.type k0 e0 R0) (h1 : Dec P f1.type k1 e1 R1) (h2 : Dec P f2.type k2 e2 R2) : Dec P t (k0 + k1 + k2) (fun b : β0 × β1 × β2 => e0 b.1 ++ e1 b.2.1 ++ e2 b.2.2) (fun b => R0 b.1 ∧ R1 b.2.1 ∧ R2 b.2.2) := by
  refine ⟨hc, fun b => by simp [h0.2.1, h1.2.1, h2.2.1]; omega, fun H enc W fuel cs x hx => ?_⟩
  obtain ⟨xs, n, _, _, hl, hn, hf⟩ := DataW.trod_struct ht hx
  have g0 := hf 0 f0 rfl
  have g1 := hf 1 f1 rfl
  have g2 := hf 2 f2 rfl
  rw [o0, h0.1, List.getElem?_eq_getElem (by rw [hn]; simp)] at g0
  rw [o1, h1.1, List.getElem?_eq_getElem (by rw [hn]; simp)] at g1
  rw [o2, h2.1, List.getElem?_eq_getElem (by rw [hn]; simp)] at g2
  obtain ⟨b0, r0, c0⟩ := h0.2.2 H enc W n _ _ g0
  obtain ⟨b1, r1, c1⟩ := h1.2.2 H enc W n _ _ g1
  obtain ⟨b2, r2, c2⟩ := h2.2.2 H enc W n _ _ g2
  refine ⟨(b0, b1, b2), ⟨r0, r1, r2⟩, ?_⟩
  have := (c0.app c1).app c2
  rwa [← drop_take_app, ← drop_take_app, List.drop_zero, List.take_of_length_le (by omega)] at this
theorem Dec.struct5 {P : Program} {t : TypeId} {f0 f1 f2 f3 f4 : Field} {β0 β1 β2 β3 β4 : Type} {k0 k1 k2 k3 k4 : Nat} {e0 : β0 → List D} {e1 : β1 → List D} {e2 : β2 → List D} {e3 : β3 → List D} {e4 : β4 → List D} {R0 : β0 → Prop} {R1 : β1 → Prop} {R2 : β2 → Prop} {R3 : β3 → Prop} {R4 : β4 → Prop} (ht : P.underlying t = some (.struct #[f0, f1, f2, f3, f4])) (hc : P.cellsOf t = k0 + k1 + k2 + k3 + k4)
    (o0 : f0.offset = 0) (o1 : f1.offset = k0) (o2 : f2.offset = k0 + k1) (o3 : f3.offset = k0 + k1 + k2) (o4 : f4.offset = k0 + k1 + k2 + k3) (h0 : Dec P f0.type k0 e0 R0) (h1 : Dec P f1.type k1 e1 R1) (h2 : Dec P f2.type k2 e2 R2) (h3 : Dec P f3.type k3 e3 R3) (h4 : Dec P f4.type k4 e4 R4) :
    Dec P t (k0 + k1 + k2 + k3 + k4) (fun b : β0 × β1 × β2 × β3 × β4 => e0 b.1 ++ e1 b.2.1 ++ e2 b.2.2.1 ++ e3 b.2.2.2.1 ++ e4 b.2.2.2.2) (fun b => R0 b.1 ∧ R1 b.2.1 ∧ R2 b.2.2.1 ∧ R3 b.2.2.2.1 ∧ R4 b.2.2.2.2) := by
  refine ⟨hc, fun b => by simp [h0.2.1, h1.2.1, h2.2.1, h3.2.1, h4.2.1]; omega, fun H enc W fuel cs x hx => ?_⟩
  obtain ⟨xs, n, _, _, hl, hn, hf⟩ := DataW.trod_struct ht hx
  have g0 := hf 0 f0 rfl
  have g1 := hf 1 f1 rfl
  have g2 := hf 2 f2 rfl
  have g3 := hf 3 f3 rfl
  have g4 := hf 4 f4 rfl
  rw [o0, h0.1, List.getElem?_eq_getElem (by rw [hn]; simp)] at g0
  rw [o1, h1.1, List.getElem?_eq_getElem (by rw [hn]; simp)] at g1
  rw [o2, h2.1, List.getElem?_eq_getElem (by rw [hn]; simp)] at g2
  rw [o3, h3.1, List.getElem?_eq_getElem (by rw [hn]; simp)] at g3
  rw [o4, h4.1, List.getElem?_eq_getElem (by rw [hn]; simp)] at g4
  obtain ⟨b0, r0, c0⟩ := h0.2.2 H enc W n _ _ g0
  obtain ⟨b1, r1, c1⟩ := h1.2.2 H enc W n _ _ g1
  obtain ⟨b2, r2, c2⟩ := h2.2.2 H enc W n _ _ g2
  obtain ⟨b3, r3, c3⟩ := h3.2.2 H enc W n _ _ g3
  obtain ⟨b4, r4, c4⟩ := h4.2.2 H enc W n _ _ g4
  refine ⟨(b0, b1, b2, b3, b4), ⟨r0, r1, r2, r3, r4⟩, ?_⟩
  have := (((c0.app c1).app c2).app c3).app c4
  rwa [← drop_take_app, ← drop_take_app, ← drop_take_app, ← drop_take_app, List.drop_zero, List.take_of_length_le (by omega)] at this

/-! ### Arguments -/
/-- One cell. -/
theorem Dec.arg {P : Program} {t : TypeId} {β : Type} {f : β → D} {R : β → Prop} (h : Dec P t 1 (fun b => [f b]) R) {H : Type} {enc : TypeId × Value → H} {W : World} {v : Value} {d : DataW H} {ps : List MemPlace} (hv : v.cells.toList = [v]) (hx : DataW.Trod enc P W 0 (fun _ => true) true t v d ps) : ∃ b, R b ∧ RepS zO zH W v (.d (f b)) := by
  obtain ⟨fuel, hf⟩ := hx
  obtain ⟨b, hr, hb⟩ := h.2.2 H enc W fuel _ _ hf
  rw [hv] at hb
  exact ⟨b, hr, .d _ _ (hb.2 0 v _ rfl rfl)⟩
/-- A struct. -/
theorem Dec.argG {P : Program} {t : TypeId} {β : Type} {k : Nat} {f : β → List D} {R : β → Prop} (h : Dec P t k f R) (h1 : ∀ b, (f b).all D.one = true) {H : Type} {enc : TypeId × Value → H} {W : World} {cs : Array Value} {d : DataW H} {ps : List MemPlace} (hx : DataW.Trod enc P W 0 (fun _ => true) true t (.agg cs) d ps) :
    ∃ b, R b ∧ RepS zO zH W (.agg cs) (.g ((f b).map .d)) := by
  obtain ⟨fuel, hf⟩ := hx
  obtain ⟨b, hr, hb⟩ := h.2.2 H enc W fuel _ _ hf
  simp only [Value.cells] at hb
  refine ⟨b, hr, ?_⟩
  have := RepS.g (O := zO) (H := zH) (w := W) cs.toList ((f b).map .d) (by simp [hb.1]) (fun x hx => ?_) (fun i x s hx hs => ?_)
  · simpa using this
  · obtain ⟨i, hi⟩ := List.getElem?_of_mem hx
    have hlt : i < (f b).length := by rw [← hb.1]; exact (List.getElem?_eq_some_iff.1 hi).1
    exact (hb.2 i x _ hi (List.getElem?_eq_getElem hlt)).one' (List.all_eq_true.1 (h1 b) _ (List.getElem_mem hlt))
  · simp only [List.getElem?_map, Option.map_eq_some_iff] at hs
    obtain ⟨y, hy, rfl⟩ := hs
    exact .d _ _ (hb.2 i x y hx hy)
theorem reps_nil {O : Nat → Nat} {H : Nat → Value} {w : World} : ∀ (i : Nat) (x : Value) (s : S), ([] : List Value)[i]? = some x → ([] : List S)[i]? = some s → RepS O H w x s := fun i x s h => by simp at h
theorem reps_cons {O : Nat → Nat} {H : Nat → Value} {w : World} {v : Value} {t : S} {vs : List Value} {ts : List S} (h : RepS O H w v t) (k : ∀ (i : Nat) (x : Value) (s : S), vs[i]? = some x → ts[i]? = some s → RepS O H w x s) :
    ∀ (i : Nat) (x : Value) (s : S), (v :: vs)[i]? = some x → (t :: ts)[i]? = some s → RepS O H w x s := fun i x s hx hs => by
  cases i with
  | zero => simp at hx hs; subst hx; subst hs; exact h
  | succ i => exact k i x s (by simpa using hx) (by simpa using hs)
theorem RepS.isB {O : Nat → Nat} {H : Nat → Value} {w : World} {x : Value} {b : Bool} (h : RepS O H w x (Bo b)) : x = .bool b := by
  cases h with
  | d _ _ q => cases q with
    | v _ => rfl
end Go.Eng
end
