/- Part 11. -/
import Derived.Test.YtgophedpkiidkaaGreatE10
import Derived.ProofKit
import Derived.OpenShut
import Derived.ChangeOld
import Derived.Below
import Derived.Deep.Slices
set_option linter.unusedSimpArgs false
set_option linter.unnecessarySimpa false
set_option linter.unusedVariables false
set_option linter.unusedSectionVars false
section
namespace Go.Proofs.YtgophedpkiidkaaGreat
open Go.Eng
set_option maxRecDepth 10000
set_option maxHeartbeats 1000000
theorem slices_Index_int_int_does (l : List Int) (n : Int) : Does Tryz.prog false 125 [.d (ints l), I (n)] (I (findI (fun x => decide (n = x)) l)) := by
 refine Does.of_body Tryz.func125 rfl rfl (by simp) Tryz.call125 (fun w0 O0 => ?_); refine .le 0 fun len0 => ?_; refine .g <| .r <| .a ?_; refine .sq <| .g <| .g <| .r <| .m ?_; refine .x (.n es22) ?_; refine .m ?_; refine .sq <| .k <| .loop (X := Nat) (fun k => k ≤ l.length ∧ ∀ j : Nat, j < k → decide (n = nth l j) = false) (fun k => [(0, .d (ints l)), (1, I (n)), (7, I (l.length)), (8, I (k))]) (fun k => []) (fun k => l.length - k) 0 ⟨by omega, by simp⟩ ?_ ?_
 ·exact .p3 <| .slot rfl (Le.of_eq (by simp)) <| .nil
 ·rintro k ⟨hkl, hinv⟩
  refine .g <| .r <| .x (.b blss) ?_; refine .sq <| .g <| .cond rfl (fun c9 => ?_) (fun c9 => ?_)
  ·have hk : k < l.length := by simpa using c9
   refine .p <| .g <| .g <| .k <| .g <| .r <| .m ?_; refine .a ?_; refine .z <| .mm ?_; refine .m ?_; refine .x (.i es22) ?_; refine .x (.l1 vs3) ?_; refine .x (.b beql) ?_; refine .sq <| .cond rfl (fun c16 => ?_) (fun c16 => ?_)
   ·refine .g <| .r <| .m ?_; refine .a ?_; exact .sq <| .t <| .k <| .t <| .t <| .k <| .t <| .ret rfl (.tmp rfl <| .nil) rfl (Le.i (findI_some (p := fun x => decide (n = x)) hk hinv c16).symm)
   ·have hb : decide (n = nth l k) = false := c16
    refine .p <| .n <| .y <| .x .ad ?_; refine .m ?_; refine .n <| .again (k + 1) ⟨by omega, all_succ hinv hb⟩ ?_ (by omega); exact .p3 <| .slot rfl (Le.of_eq (by simp)) <| .nil
  ·have hk : k = l.length := by simp at c9; omega
   refine .u <| .u <| .u <| .b <| .z <| .a ?_; exact .sq <| .t <| .ret rfl (.tmp rfl <| .nil) rfl (Le.i (by subst hk; exact (findI_none (p := fun x => decide (n = x)) hinv).symm))
theorem slices_Contains_int_int_does (l : List Int) (n : Int) : Does Tryz.prog false 96 [.d (ints l), I (n)] (Bo (decide (n ∈ l))) := by
 refine Does.of_body Tryz.func96 rfl rfl (by simp) Tryz.call96 (fun w0 O0 => ?_); refine .le 0 fun len0 => ?_; refine .g <| .r <| .a ?_; refine .z <| .mm ?_; refine .x (OpSem.call0 (slices_Index_int_int_does l n) rfl rfl rfl rfl (Les.refl _)) ?_; refine .x (.b bgeq) ?_; refine .a ?_; exact .sq <| .t <| .ret rfl (.tmp rfl <| .nil) rfl (Le.bo (findI_any.trans any_mem))
theorem slices_IndexFunc_MultiOperator_MultiOperator_does (l : List MOp) (fn : Nat) (cs : List S) (p : MOp → Bool) (hcs : Caught cs) (hf : ∀ x, x ∈ l → Does Tryz.prog false fn ([opS' x] ++ cs) (Bo (p x))) : Does Tryz.prog false 93 [.d (opsD l), .f fn [] cs] (I (findI p l)) := by
 refine Does.of_body Tryz.func93 rfl rfl (by simp) Tryz.call93 (fun w0 O0 => ?_); refine .le 0 fun len0 => ?_; refine .g <| .r <| .a ?_; refine .sq <| .g <| .g <| .r <| .m ?_; refine .x (.n es24) ?_; refine .m ?_; refine .sq <| .k <| .loop (X := Nat) (fun k => k ≤ l.length ∧ ∀ j : Nat, j < k → p (nth l j) = false) (fun k => [(0, .d (opsD l)), (1, .f fn [] cs), (7, I (l.length)), (8, I (k))]) (fun k => []) (fun k => l.length - k) 0 ⟨by omega, by simp⟩ ?_ ?_
 ·exact .p3 <| .slot rfl (Le.of_eq (by simp)) <| .nil
 ·rintro k ⟨hkl, hinv⟩
  refine .g <| .r <| .x (.b blss) ?_; refine .sq <| .g <| .cond rfl (fun c9 => ?_) (fun c9 => ?_)
  ·have hk : k < l.length := by simpa using c9
   refine .p <| .g <| .g <| .k <| .g <| .r <| .m ?_; refine .a ?_; refine .z <| .mm ?_; refine .m ?_; refine .x (.i es24) ?_; refine .x (.lN vs89) ?_; refine .x (OpSem.call0 (hf _ (nth_mem (by omega) (by omega))) rfl rfl rfl (hcs.app rfl) (Les.refl _)) ?_; refine .sq <| .cond rfl (fun c16 => ?_) (fun c16 => ?_)
   ·refine .g <| .r <| .m ?_; refine .a ?_; exact .sq <| .t <| .k <| .t <| .t <| .k <| .t <| .ret rfl (.tmp rfl <| .nil) rfl (Le.i (findI_some hk hinv c16).symm)
   ·refine .p <| .n <| .y <| .x .ad ?_; refine .m ?_; refine .n <| .again (k + 1) ⟨by omega, all_succ hinv c16⟩ ?_ (by omega); exact .p3 <| .slot rfl (Le.of_eq (by simp)) <| .nil
  ·have hk : k = l.length := by simp at c9; omega
   refine .u <| .u <| .u <| .b <| .z <| .a ?_; exact .sq <| .t <| .ret rfl (.tmp rfl <| .nil) rfl (Le.i (by subst hk; exact (findI_none hinv).symm))
theorem slices_ContainsFunc_MultiOperator_MultiOperator_does (l : List MOp) (fn : Nat) (cs : List S) (p : MOp → Bool) (hcs : Caught cs) (hf : ∀ x, x ∈ l → Does Tryz.prog false fn ([opS' x] ++ cs) (Bo (p x))) : Does Tryz.prog false 67 [.d (opsD l), .f fn [] cs] (Bo (l.any p)) := by
 refine Does.of_body Tryz.func67 rfl rfl (by simp) Tryz.call67 (fun w0 O0 => ?_); refine .le 0 fun len0 => ?_; refine .g <| .r <| .a ?_; refine .z <| .mm ?_; refine .x (OpSem.call0 (slices_IndexFunc_MultiOperator_MultiOperator_does l fn cs p hcs hf) rfl rfl rfl (hcs.arg rfl) (Les.refl _)) ?_; refine .x (.b bgeq) ?_; refine .a ?_; exact .sq <| .t <| .ret rfl (.tmp rfl <| .nil) rfl (Le.bo findI_any)
theorem additive_changes_1_does (x : Asg) (vars : List Int) : Does Tryz.prog false 95 [asgS x, .p [ints vars]] (Bo (decide (x.1 ∈ vars))) := by
 refine Does.of_body Tryz.func95 rfl rfl (by simp) Tryz.call95 (fun w0 O0 => ?_); refine .g <| .r <| .bx 2 ?_; refine .a ?_; refine .z <| .x (.l1 vs22) ?_; refine .x (.f fo87_0) ?_; refine .x (.l vs3) ?_; refine .x (OpSem.call0 (slices_Contains_int_int_does ..) rfl rfl rfl rfl (Les.refl _)) ?_; refine .a ?_; exact .sq <| .t <| .ret rfl (.tmp rfl <| .nil) rfl (.refl _)
theorem additive_changes_does (o : MOp) (vars : List Int) : Does Tryz.prog false 69 [opS' o, .d (ints vars)] (Bo (chg o.post vars)) := by
 refine Does.of_body Tryz.func69 rfl rfl (by simp) Tryz.call69 (fun w0 O0 => ?_); refine .lg 0 0 fun len0_0 => ?_; refine .lg 0 1 fun len0_1 => ?_; refine .le 1 fun len1 => ?_; refine .g <| .r <| .bx 2 ?_; refine .bx 3 ?_; refine .a ?_; refine .z <| .x (.f fo89_1) ?_; refine .x (.l vs23) ?_; refine .x (OpSem.makeFunc rfl rfl rfl) ?_; refine .x (OpSem.call (slices_ContainsFunc_Assign_Assign_does o.post 95 [.p [ints vars]] (fun x => decide (x.1 ∈ vars)) (caught_p _) (fun x hx => additive_changes_1_does x vars)) (.inr rfl) rfl rfl rfl rfl (Les.refl _)) ?_; refine .a ?_; exact .sq <| .t <| .ret rfl (.tmp rfl <| .nil) rfl (.refl _)
theorem additive_compatible_1_does (o : MOp) (a b : List Int) : Does Tryz.prog false 68 [opS' o, .p [ints a], .p [ints b]] (Bo (chg o.post a && chg o.post b)) := by
 refine Does.of_body Tryz.func68 rfl rfl (by simp) Tryz.call68 (fun w0 O0 => ?_); refine .lg 0 0 fun len0_0 => ?_; refine .lg 0 1 fun len0_1 => ?_; refine .g <| .r <| .bx 3 ?_; refine .a ?_; refine .z <| .x (.L vs89) ?_; refine .x (.l1 vs22) ?_; refine .x (OpSem.call0 (additive_changes_does o a) rfl rfl rfl rfl (Les.refl _)) ?_; refine .m ?_; refine .split (n := 8) rfl (fun c8 => ?_) (fun c8 => ?_)
 ·refine .gt c8 ?_; refine .x (.L vs89) ?_; refine .gt c8 ?_; refine .x (.l1 vs22) ?_; refine .gt c8 ?_; refine .x (OpSem.call0 (additive_changes_does o b) rfl rfl rfl rfl (Les.refl _)) ?_; refine .x (OpSem.pickT rfl rfl c8 rfl) ?_; refine .a ?_; exact .sq <| .t <| .ret rfl (.tmp rfl <| .nil) rfl (Le.bo (by simp [c8]))
 ·refine .gf c8 ?_; refine .gf c8 ?_; refine .gf c8 ?_; refine .x (OpSem.pickF rfl rfl c8 rfl) ?_; refine .a ?_; exact .sq <| .t <| .ret rfl (.tmp rfl <| .nil) rfl (Le.bo (by simp [c8]))
theorem additive_compatible_does (m : Multi) (a b : List Int) : Does Tryz.prog false 34 [multi m, .d (ints a), .d (ints b)] (Bo (compat m a b)) := by
 refine Does.of_body Tryz.func34 rfl rfl (by simp) Tryz.call34 (fun w0 O0 => ?_); refine .lg 0 0 fun len0_0 => ?_; refine .lg 0 1 fun len0_1 => ?_; refine .lg 0 2 fun len0_2 => ?_; refine .lg 0 3 fun len0_3 => ?_; refine .le 1 fun len1 => ?_; refine .le 2 fun len2 => ?_; refine .g <| .r <| .bx 3 ?_; refine .bx 4 ?_; refine .bx 5 ?_; refine .a ?_; refine .z <| .x (.f fo26_3) ?_; refine .x (.l vs24) ?_; refine .x (OpSem.makeFunc rfl rfl rfl) ?_; refine .x (OpSem.call (slices_ContainsFunc_MultiOperator_MultiOperator_does m.ops 68 [.p [ints a], .p [ints b]] (fun o => chg o.post a && chg o.post b) (caught_p2 _ _) (fun x hx => additive_compatible_1_does x a b)) (.inr rfl) rfl rfl rfl rfl (Les.refl _)) ?_; refine .x .nt ?_; refine .a ?_; exact .sq <| .t <| .ret rfl (.tmp rfl <| .nil) rfl (.refl _)
theorem additive_Value_1_1_does (m : Multi) (pats : List (List Int)) (i k : Nat) (hi : i < pats.length) (hk : k < pats.length) : Does Tryz.prog false 33 [I (k), .p [ints m.sizes, ints m.init, asgs m.goal, opsD m.ops], .p [rows pats], .p [.v (.int .i64 i)]] (Bo (!cmpF m pats i k)) := by
 refine Does.of_body Tryz.func33 rfl rfl (by simp) Tryz.call33 (fun w0 O0 => ?_); refine .g <| .r <| .a ?_; refine .sq <| .g <| PC.start [] ?_; refine .x (.lN vs26) ?_; refine .x (.l1 vs37) ?_; refine .x (.l1 vs3) ?_; refine .x (.i es37) ?_; refine .x (.l1 vs22) ?_; refine .x (.l1 vs37) ?_; refine .m ?_; refine .x (.i es37) ?_; refine .x (.l1 vs22) ?_; refine .d0 mixed ?_; refine .x (OpSem.call0 (additive_compatible_does m (nth pats i) (nth pats k)) rfl rfl rfl rfl (Les.refl _)) ?_; refine .x .nt ?_; refine .a ?_; exact .sq <| .t <| .ret rfl (.tmp rfl <| .nil) rfl (.refl _)
theorem additive_Value_1_does (m : Multi) (pats : List (List Int)) (V : List Int) (hV : ValsOk V) (hl : V.length = pats.length) (h6 : pats.length ≤ 6) (i : Nat) (ch : List Nat) (hi : i ≤ pats.length) (hch : ∀ k, k ∈ ch → k < pats.length) (hcl : ch.length ≤ i) : Does Tryz.prog false 32 [I (i), .d (ints (chI ch)), .p [rows pats], .a (selfK 32 1 [.p [rows pats], .u, .p [ints m.sizes, ints m.init, asgs m.goal, opsD m.ops], .p [ints V]]), .p [ints m.sizes, ints m.init, asgs m.goal, opsD m.ops], .p [ints V]] (I (bestV V (cmpF m pats) (pats.length - i) i ch)) := by
 refine Does.of_body Tryz.func32 rfl rfl (by simp) Tryz.call32 (fun w0 O0 => ?_); refine .le 1 fun len1 => ?_; refine .g <| .r <| .bx 6 ?_; refine .a ?_; refine .sq <| .g <| .g <| .r <| .x (.l vs3) ?_; refine .x (.l1 vs37) ?_; refine .x (.n es37) ?_; refine .x (.b beql) ?_; refine .sq <| .cond rfl (fun c13 => ?_) (fun c13 => ?_)
 ·have hi2 : i = pats.length := by simp at c13; omega
  refine .g <| .r <| .a ?_; exact .sq <| .t <| .t <| .ret rfl (.tmp rfl <| .nil) rfl (Le.i (by subst hi2; simp [bestV]))
 ·have hi2 : i < pats.length := by simp at c13; omega
  have hb1 := bestV_in hV (C := cmpF m pats) (n := pats.length - (i + 1)) (i := i + 1) (ch := ch) (by omega)
  have hb2 := bestV_in hV (C := cmpF m pats) (n := pats.length - (i + 1)) (i := i + 1) (ch := ch ++ [i]) (by omega)
  have hvi := hV i (by omega)
  have hcI : (chI ch).length = ch.length := by simp [chI]
  refine .p <| .z <| .x (OpSem.loadSelf rfl rfl vs83) ?_; refine .x (.l vs3) ?_; refine .x .ad ?_; refine .m ?_; refine .x (OpSem.call0 (additive_Value_1_does m pats V hV hl h6 (i + 1) ch (by omega) hch (by first | omega | (simp; omega))) rfl rfl rfl rfl (Les.refl _)) ?_; refine .a ?_; refine .sq <| .g <| .g <| .r <| .m ?_; refine .x (OpSem.makeFunc rfl rfl rfl) ?_; refine .x (OpSem.call (slices_ContainsFunc_int_int_does (chI ch) 33 [.p [ints m.sizes, ints m.init, asgs m.goal, opsD m.ops], .p [rows pats], .p [.v (.int .i64 i)]] (fun k => !cmpF m pats i k.toNat) (caught_p3 _ _ _) (fun x hx => by obtain ⟨k, hk, rfl⟩ := List.mem_map.1 hx; exact additive_Value_1_1_does m pats i k hi2 (hch k hk))) (.inr rfl) rfl rfl rfl rfl (Les.refl _)) ?_; refine .x .nt ?_; refine .sq <| .cond rfl (fun c22 => ?_) (fun c22 => ?_)
  ·refine PC.start [] ?_; refine .m ?_; refine .x (.l1 vs22) ?_; refine .x (.l vs3) ?_; refine .x (.i es22) ?_; refine .x (.l1 vs3) ?_; refine .x (OpSem.loadSelf rfl rfl vs83) ?_; refine .x (.l vs3) ?_; refine .x .ad ?_; refine .mm ?_; refine .x (.n es22) ?_; refine .m ?_; refine .x (.n es22) ?_; refine .x (OpSem.clipL rfl rfl rfl rfl es22) ?_; refine .x (.l vs3) ?_; refine .x (.bs es22 ze22) ?_; refine .x (OpSem.appendCF rfl rfl rfl es22 el22 zc3 rfl (by decide) by3 (by intro r hr; simp at hr; rcases hr with ⟨a, _, rfl⟩ | rfl <;> simp [D.one, Value.oneCell']) (by simp) (by simp [maxLen, hcI]; omega) (by simp [hcI]; omega)) ?_; refine .x (OpSem.call0 (additive_Value_1_does m pats V hV hl h6 (i + 1) (ch ++ [i]) (by omega) (fun k hk => by rcases List.mem_append.1 hk with h | h; exact hch k h; simp at h; omega) (by first | omega | (simp; omega))) rfl rfl rfl rfl (.cons (.refl _) <| .cons (Le.d (by rw [chI_app]; simp)) <| .cons (.refl _) <| .cons (.refl _) <| .cons (.refl _) <| .cons (.refl _) .nil)) ?_; refine .x (OpSem.call0 (relaxed_Plus_does _ _ ⟨hvi.1, hvi.2.1⟩ hb2) rfl rfl rfl rfl (Les.refl _)) ?_; refine .d0 mixed ?_; refine .x (OpSem.max2 rfl rfl rfl) ?_; refine .a ?_; refine .z <| .m ?_; refine .a ?_; exact .sq <| .t <| .ret rfl (.tmp rfl <| .nil) rfl (Le.i (bestV_f hi2 (by rw [← chI_any]; simpa using c22)))
  ·refine .p <| .z <| .m ?_; refine .a ?_; exact .sq <| .t <| .ret rfl (.tmp rfl <| .nil) rfl (Le.i (bestV_t hi2 (by rw [← chI_any]; simpa using c22)))
termination_by pats.length - i
decreasing_by all_goals omega
theorem additive_Value_does (m : Multi) (pats : List (List Int)) (s : List Int) : Does Tryz.prog false 13 [multi m, .d (rows pats), .d (ints s)] (.t [I (addR m pats s), flt (addF m pats s)]) := by
 refine Does.of_body Tryz.func13 rfl rfl (by simp) Tryz.call13 (fun w0 O0 => ?_); refine .lg 0 0 fun len0_0 => ?_; refine .lg 0 1 fun len0_1 => ?_; refine .lg 0 2 fun len0_2 => ?_; refine .lg 0 3 fun len0_3 => ?_; refine .le 1 fun len1 => ?_; refine .le 2 fun len2 => ?_; refine .g <| .r <| .bx 3 ?_; refine .bx 4 ?_; refine .a ?_; refine .al 7 zc32 ?_; refine .sq <| .g <| .g <| .r <| .x (.L vs26) ?_; refine .m ?_; refine .x (OpSem.call0 (multi_StateFault_does ..) rfl rfl rfl rfl (Les.refl _)) ?_; refine .al 8 zc32 ?_; refine .sb vs32 ?_; refine .z <| .x (.L vs32) ?_; refine .x (.bd pl32 zc32) ?_; refine .x (OpSem.neS2 rfl rfl rfl io32) ?_; refine .sq <| .cond rfl (fun c20 => ?_) (fun c20 => ?_)
 ·have h1 : stateFault m s ≠ (0, 0) := fun h => by simp [h] at c20
  refine .g <| PC.start [] ?_; refine .x (.L vs32) ?_; refine .x (OpSem.move (.inr rfl) rfl) ?_; refine .d0 mixed ?_; refine .sb vs32 ?_; exact .sq <| .t <| .t <| .ret rfl (.tmp rfl <| .cellN rfl rfl vs32 <| .nil) rfl (Le.t (.cons (Le.i (by rw [addR_1 (by rw [← addF_1 h1]; exact h1)])) <| .cons (Le.flt (addF_1 h1)) <| .nil))
 ·have h0 : stateFault m s = (0, 0) := pair0 (by simpa using c20)
  refine .p <| .g <| .g <| .g <| .r <| .x (.l vs37) ?_; refine .x (.n es37) ?_; refine .x (.b bgtr) ?_; refine .sq <| .cond rfl (fun c24 => ?_) (fun c24 => ?_)
  ·have h1 : 6 < pats.length := by simp at c24; omega
   refine .g <| .r <| .x (.bd pl32 zc32) ?_; refine .a ?_; refine .sb vs32 ?_; refine .sq <| .t <| .t ?_
   have hF := addF_2 h0 h1
   exact .ret rfl (.tmp rfl <| .cellN rfl rfl vs32 <| .nil) rfl (Le.t (.cons (Le.i (by rw [addR_1 (by rw [← hF]; decide)])) <| .cons (Le.flt hF) <| .nil))
  ·have h6 : pats.length ≤ 6 := by simp at c24; omega
   refine .p <| .z <| .al 9 zc22 ?_; refine .sq <| .g <| .g <| .ownNilBox 90 9 0 1 3 rfl rfl rfl ?_; refine .r <| .x (.l vs37) ?_; refine .x (.n es37) ?_; refine .m ?_; refine .sq <| .k <| .loop (X := Nat) (fun k => k ≤ pats.length ∧ ∀ j : Nat, j < k → valF m (nth pats j) s = (0, 0)) (fun k => [(2, .d (ints s)), (3, .r 3 0), (4, .r 4 0), (7, .r 7 0), (9, .r 9 0), (26, .d (rows pats)), (27, I (pats.length)), (28, I (k))]) (fun k => [(9, .box [.o 90]), (90, .own 1 3 ((valsTo m pats s k).map fun n => [D.v (.int .i64 n)])), (3, .box [.d (ints m.sizes), .d (ints m.init), .d (asgs m.goal), .d (opsD m.ops)]), (4, .box [.d (rows pats)]), (7, .box [I (0), I (0)])]) (fun k => pats.length - k) 0 ⟨by omega, by simp⟩ ?_ ?_
   ·exact .p5 <| .p2 <| .slot rfl (Le.of_eq (by simp)) <| .mem rfl <| .memEq rfl rfl <| .all
   ·rintro k ⟨hkl, hinv⟩
    refine .g <| .r <| .x (.b blss) ?_; refine .sq <| .g <| .cond rfl (fun c29 => ?_) (fun c29 => ?_)
    ·have hk : k < pats.length := by simpa using c29
     refine .p <| .g <| .g <| .k <| .g <| .r <| .m ?_; refine .x (.i es37) ?_; refine .x (.l1 vs22) ?_; refine .a ?_; refine .a ?_; refine .z <| .x (.L vs26) ?_; refine .mm ?_; refine .x (OpSem.call0 (project_Value_does m (nth pats k) s) rfl rfl rfl rfl (Les.refl _)) ?_; refine .m ?_; refine .x .xt ?_; refine .x .xt ?_; refine .al 13 zc32 ?_; refine .a ?_; refine .sb vs32 ?_; refine .sq <| .g <| .g <| .r <| .x (.L vs32) ?_; refine .x (.bd pl32 zc32) ?_; refine .x (OpSem.neS2 rfl rfl rfl io32) ?_; refine .sq <| .cond rfl (fun c42 => ?_) (fun c42 => ?_)
     ·have hne : valF m (nth pats k) s ≠ (0, 0) := fun h => by simp [h] at c42
      have hF := (patsF_bad hk (patsF_of hinv) hne).trans (addF_3 h0 (by omega))
      have hFn : addF m pats s ≠ (0, 0) := by rw [← hF]; intro e; exact valF_ne hne (congrArg Prod.fst e)
      refine .g <| PC.start [] ?_; refine .x (.f fo32_0) ?_; refine .x (.l vs3) ?_; refine .m ?_; refine .x (.bd pl32 zc32) ?_; refine .x (OpSem.move (.inr rfl) rfl) ?_; refine .d0 mixed ?_; refine .sb vs32 ?_; exact .sq <| .t <| .t <| .k <| .t <| .t <| .k <| .t <| .ret rfl (.tmp rfl <| .cellN rfl rfl vs32 <| .nil) rfl (Le.t (.cons (Le.i (by rw [addR_1 hFn])) <| .cons (Le.flt hF) <| .nil))
     ·have hb : valF m (nth pats k) s = (0, 0) := pair0 (by simpa using c42)
      refine .p <| .y <| .x (.l vs22) ?_; refine .m ?_; refine .x (.bs es22 ze22) ?_; refine .append rfl rfl rfl (by decide) rfl rfl rfl es22 el22 zc3 rfl by3 (by simp [D.one, Value.oneCell']) (by simp [maxLen, valsTo_len]; omega) (by simp [valsTo_len]; omega) ?_; refine .sb vs22 ?_; refine .n <| .n <| .y <| .x .ad ?_; refine .m ?_; refine .n <| .again (k + 1) ⟨by omega, all_succ hinv hb⟩ ?_ (by omega); exact .p5 <| .p2 <| .slot rfl (Le.of_eq (by simp)) <| .mem rfl <| .memEq rfl (by rw [valsTo_s]; simp) <| .all
    ·have hk : k = pats.length := by simp at c29; omega
     subst hk
     have hF := addF_of h0 h6 hinv
     obtain ⟨hv, hst, hpo⟩ := addF_pats hF
     refine .u <| .u <| .u <| .b <| .z <| .al 14 zc83 ?_; refine .z <| .x (OpSem.makeFunc rfl rfl rfl) ?_; refine .sb vs83 ?_; refine .sq <| .g <| .freeze 90 rfl ?_; refine .freezeR 4 rfl rfl ?_; refine .freezeR 3 rfl rfl ?_; refine .freezeR 9 rfl rfl ?_; refine .freezeSelf (caps := [.p [rows pats], .u, .p [ints m.sizes, ints m.init, asgs m.goal, opsD m.ops], .p [ints (valsTo m pats s pats.length)]]) 14 1 rfl rfl rfl (by kernel_rfl) (by intro i s s1 hi hs hv; rcases i with _ | _ | _ | _ | _ | _ | i <;> simp at hs <;> subst hs <;> first | (exact absurd rfl hi) | (simpa [S.view] using hv.symm)) ?_; refine .r <| .x (OpSem.loadSelf rfl rfl vs83) ?_; refine .x (OpSem.call0 (additive_Value_1_does m pats (valsL m pats s) (valsL_ok hv hpo hst) valsL_len h6 0 [] (by omega) (fun k hk => by simp at hk) (by simp)) rfl rfl rfl rfl (.cons (.refl _) <| .cons (.nil 1) <| .cons (.refl _) <| .cons (Le.of_eq (by rw [valsTo_end hinv])) <| .cons (.refl _) <| .cons (Le.of_eq (by rw [valsTo_end hinv])) .nil)) ?_; refine .x (.bd pl32 zc32) ?_; refine .a ?_; refine .sb vs32 ?_; exact .sq <| .t <| .ret rfl (.tmp rfl <| .cellN rfl rfl vs32 <| .nil) rfl (Le.t (.cons (Le.i (by rw [addR_0 hF]; rfl)) <| .cons (Le.flt (by rw [hF])) <| .nil))
end Go.Proofs.YtgophedpkiidkaaGreat
end

section
namespace Go.Proofs.YtgophedpkiidkaaGreat
open Go.Eng
set_option maxRecDepth 10000
set_option maxHeartbeats 1000000
end Go.Proofs.YtgophedpkiidkaaGreat
end

section
namespace Go.Eng
theorem fc_inj {l : List Int} (hs : SizesP l) {v v' : Nat} {x x' : Int} (hv : v < l.length) (hv' : v' < l.length) (x0 : 0 ≤ x) (x1 : x < nth l v) (y0 : 0 ≤ x') (y1 : x' < nth l v') (h : szT l v + x = szT l v' + x') : v = v' ∧ x = x' := by
 rcases Nat.lt_trichotomy v v' with h1 | h1 | h1
 ·have := szT_mono hs h1 (by omega); omega
 ·subst h1; exact ⟨rfl, by omega⟩
 ·have := szT_mono hs h1 (by omega); omega
theorem fc_rng {l : List Int} (hs : SizesP l) {v : Nat} {x : Int} (hv : v < l.length) (x0 : 0 ≤ x) (x1 : x < nth l v) : 0 ≤ szT l v + x ∧ szT l v + x < szT l l.length := by
 have h1 := szT_in hs (k := v) (by omega)
 have h2 := szT_mono hs (k := v) (j := l.length) hv (Nat.le_refl _)
 omega
theorem iniT_mem {sizes s : List Int} (hl : s.length = sizes.length) {p : Int} : p ∈ iniT sizes s s.length ↔ ∃ v : Nat, v < s.length ∧ p = szT sizes v + nth s v := by
 unfold iniT
 rw [List.mem_map]
 constructor
 ·rintro ⟨v, h1, rfl⟩
  have h1 := List.mem_range.1 h1
  exact ⟨v, h1, by rw [bsT_at (by omega)]⟩
 ·rintro ⟨v, h1, rfl⟩
  exact ⟨v, List.mem_range.2 h1, by rw [bsT_at (by omega)]⟩
theorem fcL_mem {sizes : List Int} {l : List Asg} (hl : AsgsP sizes l) {p : Int} : p ∈ fcL (bsL sizes) l ↔ ∃ a, a ∈ l ∧ p = szT sizes a.1.toNat + a.2 := by
 unfold fcL
 rw [List.mem_map]
 constructor
 ·rintro ⟨a, h1, rfl⟩
  have := asgsP_mem hl h1
  exact ⟨a, h1, by rw [bs_at this.1 this.2.1]⟩
 ·rintro ⟨a, h1, rfl⟩
  have := asgsP_mem hl h1
  exact ⟨a, h1, by rw [bs_at this.1 this.2.1]⟩
abbrev wS (sizes s : List Int) : Nat := wdF (iniT sizes s s.length)
section
variable {sizes s : List Int} (hz : SizesP sizes) (hs : StateP sizes s)
include hz hs
theorem wS_bit {p : Nat} : (wS sizes s).testBit p = true ↔ ∃ v : Nat, v < sizes.length ∧ (p : Int) = szT sizes v + nth s v := by
 rw [wdF_bit (n := szT sizes sizes.length) (fun q hq => by
  obtain ⟨v, h1, rfl⟩ := (iniT_mem hs.1).1 hq
  have := hs.2 v h1
  exact fc_rng hz (by rw [← hs.1]; exact h1) this.1 this.2), decide_eq_true_eq, iniT_mem hs.1, hs.1]
theorem wS_fact {a : Asg} (h0 : 0 ≤ a.1) (h1 : a.1 < sizes.length) (h2 : 0 ≤ a.2) (h3 : a.2 < nth sizes a.1) : (wS sizes s).testBit (szT sizes a.1.toNat + a.2).toNat = true ↔ nth s a.1 = a.2 := by
 obtain ⟨v, hv⟩ := Int.eq_ofNat_of_zero_le h0
 rw [hv] at h1 h3 ⊢
 have hr := fc_rng hz (v := v) (by omega) h2 h3
 rw [wS_bit hz hs, Int.toNat_of_nonneg (by simpa using hr.1)]
 have e : ((v : Int)).toNat = v := by omega
 rw [e]
 constructor
 ·rintro ⟨u, h5, h6⟩
  have h7 := hs.2 u (by rw [hs.1]; exact h5)
  obtain ⟨q1, q2⟩ := fc_inj hz (by omega) h5 h2 h3 h7.1 h7.2 h6
  subst q1; exact q2.symm
 ·intro h4; exact ⟨v, by omega, by rw [h4]⟩
theorem wS_inj {s' : List Int} (hs' : StateP sizes s') (h : wS sizes s = wS sizes s') : s = s' := by
 have key : ∀ v : Nat, v < sizes.length → nth s v = nth s' v := fun v hv => by
  have hst := hs'.2 v (by rw [hs'.1]; exact hv)
  have := (wS_fact hz hs (a := ((v : Int), nth s' v)) (by simp) (by simpa using hv) hst.1 hst.2).1 (by
   rw [h, wS_fact hz hs' (by simp) (by simpa using hv) hst.1 hst.2])
  simpa using this
 refine List.ext_getElem (by rw [hs.1, hs'.1]) fun i h1 h2 => ?_
 have := key i (by rw [← hs.1]; exact h1)
 rwa [nth_eq h1, nth_eq h2] at this
theorem fcL_bit {l : List Asg} (hl : AsgsP sizes l) {p : Nat} : (wdF (fcL (bsL sizes) l)).testBit p = true ↔ ∃ a, a ∈ l ∧ (p : Int) = szT sizes a.1.toNat + a.2 := by
 rw [wdF_bit (n := szT sizes sizes.length) (fun q hq => by
  obtain ⟨a, h1, rfl⟩ := (fcL_mem hl).1 hq
  have := asgsP_mem hl h1
  exact fc_rng hz (by omega) this.2.2.1 (by rw [Int.toNat_of_nonneg this.1]; exact this.2.2.2)), decide_eq_true_eq, fcL_mem hl]
theorem wS_holds {l : List Asg} (hl : AsgsP sizes l) : wS sizes s &&& wdF (fcL (bsL sizes) l) = wdF (fcL (bsL sizes) l) ↔ holds s l = true := by
 rw [holds_iff]
 constructor
 ·intro h k hk
  have hm : nth l k ∈ l := nth_mem (by omega) (by omega)
  have ha := asgsP_mem hl hm
  have hr := fc_rng hz (v := (nth l k).1.toNat) (x := (nth l k).2) (by omega) ha.2.2.1 (by rw [Int.toNat_of_nonneg ha.1]; exact ha.2.2.2)
  refine (wS_fact hz hs ha.1 ha.2.1 ha.2.2.1 ha.2.2.2).1 ?_
  have hb := (fcL_bit hz hs hl (p := (szT sizes (nth l k).1.toNat + (nth l k).2).toNat)).2 ⟨_, hm, Int.toNat_of_nonneg hr.1⟩
  have := congrArg (fun n => n.testBit (szT sizes (nth l k).1.toNat + (nth l k).2).toNat) h
  simp only [Nat.testBit_and] at this
  rw [hb] at this
  simpa using this
 ·intro h
  refine Nat.eq_of_testBit_eq fun p => ?_
  rw [Nat.testBit_and]
  cases hb : (wdF (fcL (bsL sizes) l)).testBit p with
  | false => simp
  | true =>
   obtain ⟨a, ha, hp⟩ := (fcL_bit hz hs hl).1 hb
   obtain ⟨k, hk⟩ := List.getElem_of_mem ha
   obtain ⟨hk, rfl⟩ := hk
   have h1 := asgsP_mem hl ha
   have h2 := h k hk
   rw [nth_eq hk] at h2
   have := (wS_fact hz hs h1.1 h1.2.1 h1.2.2.1 h1.2.2.2).2 h2
   have e : (szT sizes (l[k]).1.toNat + (l[k]).2).toNat = p := by omega
   rw [e] at this
   rw [this]; rfl
theorem dlL_bit {l : List Asg} (hl : AsgsP sizes l) {p : Nat} : (wdF (dlL sizes l)).testBit p = true ↔ ∃ a, a ∈ l ∧ ∃ x : Nat, (x : Int) < nth sizes a.1 ∧ (x : Int) ≠ a.2 ∧ (p : Int) = szT sizes a.1.toNat + x := by
 have hm : ∀ q : Int, q ∈ dlL sizes l ↔ ∃ a, a ∈ l ∧ ∃ x : Nat, (x : Int) < nth sizes a.1 ∧ (x : Int) ≠ a.2 ∧ q = szT sizes a.1.toNat + x := fun q => by
  rw [dlT_mem]
  constructor
  ·rintro ⟨j, h1, h2⟩
   obtain ⟨x, h3, h4, h5⟩ := dl1_mem.1 h2
   have hj : nth l j ∈ l := nth_mem (by omega) (by omega)
   have ha := asgsP_mem hl hj
   exact ⟨_, hj, x, by omega, h4, by rw [h5, bs_at ha.1 ha.2.1]⟩
  ·rintro ⟨a, h1, x, h2, h3, h4⟩
   obtain ⟨j, hj⟩ := List.getElem_of_mem h1
   obtain ⟨hj, rfl⟩ := hj
   have ha := asgsP_mem hl h1
   refine ⟨j, hj, dl1_mem.2 ⟨x, ?_, ?_, ?_⟩⟩
   ·rw [nth_eq hj]; omega
   ·rw [nth_eq hj]; exact h3
   ·rw [nth_eq hj, bs_at ha.1 ha.2.1]; exact h4
 rw [wdF_bit (n := szT sizes sizes.length) (fun q hq => by
  obtain ⟨a, h1, x, h2, _, rfl⟩ := (hm q).1 hq
  have := asgsP_mem hl h1
  exact fc_rng hz (by omega) (by omega) (by rw [Int.toNat_of_nonneg this.1]; exact h2)), decide_eq_true_eq, hm]
theorem wS_next {l : List Asg} (hl : AsgsP sizes l) (hn : szT sizes sizes.length ≤ 24) : (wS sizes s &&& (2 ^ 32 - 1 - wdF (dlL sizes l))) ||| wdF (fcL (bsL sizes) l) = wS sizes (nextS s l) := by
 have hns := nextS_in hs hl
 have hd : wdF (dlL sizes l) < 2 ^ 32 := by
  have : wdT (dlL sizes l) (dlL sizes l).length < 2 ^ 24 := wdT_lt (n := 24) (fun q hq => by
   obtain ⟨j, h1, h2⟩ := dlT_mem.1 hq
   obtain ⟨x, h3, h4, h5⟩ := dl1_mem.1 h2
   have ha := hl j h1
   have hr := fc_rng hz (v := (nth l j).1.toNat) (x := (x : Int)) (by omega) (by omega) (by rw [Int.toNat_of_nonneg ha.1]; omega)
   rw [h5, bs_at ha.1 ha.2.1]
   omega) (Nat.le_refl _)
  exact Nat.lt_trans this (by decide)
 have e32 : 2 ^ 32 - 1 - wdF (dlL sizes l) = 2 ^ 32 - (wdF (dlL sizes l) + 1) := by omega
 refine Nat.eq_of_testBit_eq fun p => ?_
 rw [Nat.testBit_or, Nat.testBit_and, e32, Nat.testBit_two_pow_sub_succ hd, Bool.eq_iff_iff]
 simp only [Bool.or_eq_true, Bool.and_eq_true, decide_eq_true_eq, Bool.not_eq_true']
 rw [wS_bit hz hns, wS_bit hz hs, fcL_bit hz hs hl, ← Bool.not_eq_true, dlL_bit hz hs hl]
 constructor
 ·rintro (⟨⟨v, h1, h2⟩, _, h4⟩ | ⟨a, h1, h2⟩)
  ·refine ⟨v, h1, ?_⟩
   have hv := hs.2 v (by rw [hs.1]; exact h1)
   by_cases hex : ∃ a, a ∈ l ∧ a.1 = (v : Int)
   ·obtain ⟨a, ha, hav⟩ := hex
    have h5 := nextS_mem hl hs.1 ha
    rw [hav] at h5
    have h6 : nth s v = a.2 := Decidable.byContradiction fun hne => h4 ⟨a, ha, (nth s v).toNat, by rw [hav, Int.toNat_of_nonneg hv.1]; exact hv.2, by rw [Int.toNat_of_nonneg hv.1]; exact hne, by rw [Int.toNat_of_nonneg hv.1, hav, h2]; simp⟩
    rw [h5, ← h6]; exact h2
   ·rw [nextS_not hl hs.1 (by omega) (by omega) (fun a ha e => hex ⟨a, ha, e⟩)]; exact h2
  ·have ha := asgsP_mem hl h1
   refine ⟨a.1.toNat, by omega, ?_⟩
   rw [Int.toNat_of_nonneg ha.1, nextS_mem hl hs.1 h1]; exact h2
 ·rintro ⟨v, h1, h2⟩
  by_cases hex : ∃ a, a ∈ l ∧ a.1 = (v : Int)
  ·obtain ⟨a, ha, hav⟩ := hex
   right
   have h5 := nextS_mem hl hs.1 ha
   rw [hav] at h5
   exact ⟨a, ha, by rw [hav, ← h5]; simpa using h2⟩
  ·left
   have hns2 := nextS_not hl hs.1 (v := (v : Int)) (by omega) (by omega) (fun a ha e => hex ⟨a, ha, e⟩)
   rw [hns2] at h2
   have hv := hs.2 v (by rw [hs.1]; exact h1)
   refine ⟨⟨v, h1, h2⟩, ?_, ?_⟩
   ·have := fc_rng hz (v := v) h1 hv.1 hv.2; omega
   ·rintro ⟨a, ha, x, h6, h7, h8⟩
    have h9 := asgsP_mem hl ha
    obtain ⟨q1, _⟩ := fc_inj hz (v' := a.1.toNat) h1 (by omega) hv.1 hv.2 (x' := (x : Int)) (by omega) (by rw [Int.toNat_of_nonneg h9.1]; exact h6) (by rw [← h2, ← h8])
    exact hex ⟨a, ha, by omega⟩
end
theorem nth_strT {m : Multi} {i : Nat} (hi : i < m.ops.length) : nth (strT m).ops i = strO m.sizes (nth m.ops i) := by
 have h2 : i < (strT m).ops.length := by simpa [strT] using hi
 rw [nth_eq h2, nth_eq hi]; simp [strT]
section
variable {m : Multi} (hv : Valid m) (hn : szT m.sizes m.sizes.length ≤ 24)
include hv hn
theorem rc_state {s : Nat} (h : RcW (strT m) s) : ∃ σ, StateP m.sizes σ ∧ wS m.sizes σ = s := by
 induction h with
 | ini => exact ⟨m.init, hv.init, rfl⟩
 | @step s i h hi ho ih =>
  obtain ⟨σ, h1, h2⟩ := ih
  have hi' : i < m.ops.length := by simpa [strT] using hi
  have hop := hv.op i hi'
  refine ⟨nextS σ (nth m.ops i).post, nextS_in h1 hop.2.1, ?_⟩
  unfold toW
  rw [nth_strT hi', ← h2]
  exact (wS_next hv.sizes h1 hop.2.1 hn).symm
theorem str_le {f : List Int → Int} {l : List Nat} {F : Nat → Int} (hA : AlW (strT m) l) (hT : TopW (strT m) l F) (hb : ∀ s, StateP m.sizes s → f s ≤ 1000000000) (hg : ∀ s, StateP m.sizes s → holds s m.goal = true → f s ≤ 0)
  (hst : ∀ s, StateP m.sizes s → ∀ j : Nat, j < m.ops.length → holds s (nth m.ops j).pre = true → f s ≤ f (nextS s (nth m.ops j).post) + (nth m.ops j).cost) : f m.init ≤ F (wdF (strT m).ini) := by
 classical
 obtain ⟨g, hgd⟩ : ∃ g : Nat → Int, g = fun s => if h : ∃ σ, StateP m.sizes σ ∧ wS m.sizes σ = s then f h.choose else 0 := ⟨_, rfl⟩
 have hgw : ∀ σ, StateP m.sizes σ → g (wS m.sizes σ) = f σ := fun σ hσ => by
  have hex : ∃ τ, StateP m.sizes τ ∧ wS m.sizes τ = wS m.sizes σ := ⟨σ, hσ, rfl⟩
  rw [hgd]; simp only []
  rw [dif_pos hex]
  have := hex.choose_spec
  rw [wS_inj hv.sizes this.1 hσ this.2]
 have hH : HuW (strT m) l g := by
  refine ⟨fun s hs hgo => ?_, fun s s' c hs hs' hc => ?_, fun s hs => ?_⟩
  ·obtain ⟨σ, h1, rfl⟩ := rc_state hv hn (hA.rc s hs)
   rw [hgw σ h1]
   exact hg σ h1 ((wS_holds hv.sizes h1 hv.goal).1 hgo)
  ·obtain ⟨σ, h1, rfl⟩ := rc_state hv hn (hA.rc s hs)
   obtain ⟨i, hi, ho, rfl, rfl⟩ := hc
   have hi' : i < m.ops.length := by simpa [strT] using hi
   have hop := hv.op i hi'
   unfold okW at ho
   unfold toW
   rw [nth_strT hi'] at ho ⊢
   rw [hgw σ h1, show (strO m.sizes (nth m.ops i)).del = dlL m.sizes (nth m.ops i).post from rfl, show (strO m.sizes (nth m.ops i)).add = fcL (bsL m.sizes) (nth m.ops i).post from rfl, wS_next hv.sizes h1 hop.2.1 hn, hgw _ (nextS_in h1 hop.2.1)]
   exact hst σ h1 i hi' ((wS_holds hv.sizes h1 hop.1).1 ho)
  ·obtain ⟨σ, h1, rfl⟩ := rc_state hv hn (hA.rc s hs)
   rw [hgw σ h1]; exact hb σ h1
 have := hT.2 g hH _ hA.ini
 rwa [show wdF (strT m).ini = wS m.sizes m.init from rfl, hgw _ hv.init] at this
end
theorem strF_ok {m : Multi} (h : strF m = (0, 0)) : Valid m ∧ szT m.sizes m.sizes.length ≤ 24 ∧ strR m = strT m := by
 by_cases h0 : validate m = (0, 0)
 ·by_cases h2 : 24 < szT m.sizes m.sizes.length
  ·rw [(strF_2 h0 h2).1] at h; cases h
  ·exact ⟨valid_of h0, by omega, (strF_3 h0 h2).2⟩
 ·rw [(strF_1 h0).1] at h; exact absurd h h0
theorem opt_ex {t : Tsk} (hV : TskV t) (hB : ¬ BigW t) : ∃ l F, AlW t l ∧ l.length ≤ 2000 ∧ TopW t l F := by
 classical
 obtain ⟨l, hl⟩ : ∃ l : List Nat, l = (List.range (2 ^ 24)).filter fun s => decide (RcW t s) := ⟨_, rfl⟩
 have hm : ∀ s, s ∈ l ↔ RcW t s := fun s => by
  rw [hl, List.mem_filter, decide_eq_true_eq, List.mem_range]
  exact ⟨fun h => h.2, fun h => ⟨h.lt hV, h⟩⟩
 have hnd : l.Nodup := by rw [hl]; exact List.Pairwise.filter _ List.nodup_range
 have hA : AlW t l := ⟨hnd, (hm _).2 .ini, fun s hs => (hm s).1 hs, fun s hs i hi ho => (hm _).2 (.step ((hm s).1 hs) hi ho)⟩
 have h0 : HuW t l fun _ => 0 := ⟨fun s _ _ => Int.le_refl _, fun s s' c _ _ hc => by
  obtain ⟨i, hi, _, _, rfl⟩ := hc
  have := (hV.op i hi).2.1; simpa using this, fun s _ => by simp⟩
 have hex : ∀ s, s ∈ l → ∃ v : Int, (∃ h, HuW t l h ∧ h s = v) ∧ ∀ h, HuW t l h → h s ≤ v := fun s hs => by
  have key : ∀ n : Nat, (∃ h, HuW t l h ∧ 1000000000 - h s ≤ n) → ∃ v : Int, (∃ h, HuW t l h ∧ h s = v) ∧ ∀ h, HuW t l h → h s ≤ v := by
   intro n
   induction n with
   | zero =>
    rintro ⟨h, h1, h2⟩
    exact ⟨h s, ⟨h, h1, rfl⟩, fun g hg => by have := hg.b s hs; omega⟩
   | succ n ih =>
    rintro ⟨h, h1, h2⟩
    by_cases hn : ∃ g, HuW t l g ∧ h s < g s
    ·obtain ⟨g, g1, g2⟩ := hn
     exact ih ⟨g, g1, by omega⟩
    ·exact ⟨h s, ⟨h, h1, rfl⟩, fun g hg => Int.not_lt.1 fun hlt => hn ⟨g, hg, hlt⟩⟩
  exact key 1000000000 ⟨_, h0, by simp⟩
 refine ⟨l, fun s => if h : s ∈ l then (hex s h).choose else 0, hA, Nat.le_of_not_lt fun hlt => hB ⟨l, hnd, hlt, fun s hs => (hm s).1 hs⟩, ⟨fun s hs hg => ?_, fun s s' c hs hs' hc => ?_, fun s hs => ?_⟩, fun g hg s hs => ?_⟩
 ·rw [dif_pos hs]
  obtain ⟨⟨h, h1, h2⟩, _⟩ := (hex s hs).choose_spec
  rw [← h2]; exact h1.g s hs hg
 ·rw [dif_pos hs, dif_pos hs']
  obtain ⟨⟨h, h1, h2⟩, _⟩ := (hex s hs).choose_spec
  have h3 := (hex s' hs').choose_spec.2 h h1
  have h4 := h1.st s s' c hs hs' hc
  omega
 ·rw [dif_pos hs]
  obtain ⟨⟨h, h1, h2⟩, _⟩ := (hex s hs).choose_spec
  rw [← h2]; exact h1.b s hs
 ·show g s ≤ (if h : s ∈ l then (hex s h).choose else 0)
  rw [dif_pos hs]
  exact (hex s hs).choose_spec.2 g hg
theorem opt_ok {t : Tsk} (h : (optF t).1 = 0) : TskV t ∧ ∃ l F, AlW t l ∧ TopW t l F ∧ optV t = F (wdF t.ini) := by
 by_cases h0 : tskF t = (0, 0)
 ·by_cases hB : BigW t
  ·rw [(optF_2 h0 hB).1] at h; cases h
  ·obtain ⟨l, F, h1, h2, h3⟩ := opt_ex (tskF_v h0) hB
   exact ⟨tskF_v h0, l, F, h1, h3, (optF_0 h0 h1 h2 h3).2⟩
 ·rw [(optF_1 h0).1] at h
  exact absurd (tskF_code h) h0
theorem adm_opt {m : Multi} {w : List (List Int)} (hF : strF m = (0, 0)) (hO : (optF (strR m)).1 = 0) (ha : adm m w = true) (hpf : potFault m w (-8) = (0, 0)) : val w m.init ≤ optV (strR m) := by
 obtain ⟨hv, hn, hR⟩ := strF_ok hF
 obtain ⟨_, hw⟩ := potFault_ok (m := m) (w := w) (i := -8) (by rw [hpf]; exact ⟨rfl, rfl⟩)
 obtain ⟨_, l, F, hA, hT, hval⟩ := opt_ok hO
 rw [hval]
 rw [hR] at hA hT ⊢
 have he := slackRes_2 (m := m) (w := w) (by rw [hpf]; exact ⟨rfl, rfl⟩)
 unfold adm at ha
 simp only [Bool.and_eq_true, decide_eq_true_eq, Bool.not_eq_true'] at ha
 have hg : goalMax w m.goal ≤ 0 := by have := ha.2.1; rwa [he] at this
 have hsl : ∀ j : Nat, j < m.ops.length → 0 ≤ slack w (nth m.ops j) := fun j hj => by
  have h2 := ha.2.2
  rw [← Bool.not_eq_true, any_iff] at h2
  have h3 := slack_at hpf (op := (j : Int)) (by omega) (by omega)
  refine Decidable.byContradiction fun hc => h2 ⟨j, by rw [h3.1]; exact hj, ?_⟩
  rw [h3.2]
  simp; omega
 refine str_le hv hn (f := val w) hA hT (fun s hs => by have := val_in hw hs hv.len.2; omega) (fun s hs hh => ?_) (fun s hs j hj hp => ?_)
 ·have := valTo_goal hw hs hh (Nat.le_refl _)
  unfold goalMax at hg
  unfold val
  rw [show w.length = s.length by rw [hs.1, hw.len]] at hg
  omega
 ·have := val_drop hw hs hp (hv.op j hj).2.1
  have := hsl j hj
  omega
end Go.Eng
end

section
namespace Go.Eng
noncomputable def moV (m : Multi) : Int := if (strF m).1 = 0 then optV (strR m) else 0
noncomputable def moB (m : Multi) : Bool := decide ((strF m).1 = 0) && decide ((optF (strR m)).1 = 0)
theorem moV_0 {m : Multi} (h : ¬ (strF m).1 = 0) : 0 = moV m ∧ false = moB m := by unfold moV moB; rw [if_neg h]; simp [h]
theorem moV_1 {m : Multi} (h : (strF m).1 = 0) : optV (strR m) = moV m ∧ decide ((optF (strR m)).1 = 0) = moB m := by unfold moV moB; rw [if_pos h]; simp [h]
theorem strF_code {m : Multi} (h : (strF m).1 = 0) : strF m = (0, 0) := by
 by_cases h0 : validate m = (0, 0)
 ·by_cases h2 : 24 < szT m.sizes m.sizes.length
  ·rw [(strF_2 h0 h2).1] at h; cases h
  ·exact (strF_3 h0 h2).1
 ·rw [(strF_1 h0).1] at h; exact absurd (validate_code h) h0
theorem mo_le {m : Multi} {w : List (List Int)} (h : moB m = true) (ha : adm m w = true) (hpf : potFault m w (-8) = (0, 0)) : val w m.init ≤ moV m := by
 unfold moB at h
 simp only [Bool.and_eq_true, decide_eq_true_eq] at h
 unfold moV
 rw [if_pos h.1]
 exact adm_opt (strF_code h.1) h.2 ha hpf
theorem ml_atom : (atomR lampsM 1).states = 2 ∧ atomF lampsM 1 = (0, 0) := by decide +kernel
theorem ml_str : strF lampsM = (0, 0) ∧ (strR lampsM).ops.length = 2 := by decide +kernel
end Go.Eng
end

section
namespace Go.Proofs.YtgophedpkiidkaaGreat
open Go.Eng
set_option maxRecDepth 10000
set_option maxHeartbeats 4000000
theorem helmsmantop_mlTwo_does  : Does Tryz.prog false 10 [] (tskS twT) := by
 refine Does.of_body Tryz.func10 rfl rfl (by simp) Tryz.call10 (fun w0 O0 => ?_); refine .g <| .r <| .al 0 zc43 ?_; refine .z <| .x (OpSem.le (s' := .d (ints [1])) (.bs es22 ze22) (Le.of_eq rfl)) ?_; refine .x (OpSem.le (s' := .d (ints [0])) (.bs es22 ze22) (Le.of_eq rfl)) ?_; refine .x (OpSem.le (s' := sopS ⟨[], [0], [], 2⟩) (.bd pl75 zc75) (Le.g (.cons (Le.nil 1) <| .cons (.refl _) <| .cons (Le.nil 1) <| .cons (.refl _) <| .nil))) ?_; refine .x (OpSem.le (s' := .d (ints [0])) (.bs es22 ze22) (Le.of_eq rfl)) ?_; refine .x (OpSem.le (s' := .d (ints [1])) (.bs es22 ze22) (Le.of_eq rfl)) ?_; refine .x (OpSem.le (s' := sopS ⟨[0], [1], [], 3⟩) (.bd pl75 zc75) (Le.g (.cons (.refl _) <| .cons (.refl _) <| .cons (Le.nil 1) <| .cons (.refl _) <| .nil))) ?_; refine .x (OpSem.le (s' := .d (sopsD twT.ops)) (.bs es41 ze41) (Le.of_eq rfl)) ?_; refine .x (OpSem.le (s' := tskS twT) (.bd pl43 zc43) (Le.g (.cons (.refl _) <| .cons (Le.nil 1) <| .cons (.refl _) <| .cons (.refl _) <| .nil))) ?_; refine .sb vs43 ?_; exact .sq <| .t <| .ret rfl (.cellN rfl rfl vs43 <| .nil) rfl (Le.of_eq rfl)
theorem rep_chk {t : Tsk} {bw ow : Nat} {sv lv : Value} {l : List Nat} {O : Nat → Nat} {w : World} (h : ∀ p, p ∈ chkD t bw ow sv lv l → ∀ H, RepS O H w p.1 p.2) : RepS O zH w (.tuple #[ptr bw ow, lv, .agg #[.int .i64 0, .int .i64 0]]) (.t [wrdsS t, .u, flt (0, 0)]) := by
  have h1 := h (ptr bw ow, .p [.v (.int .u32 (wdF t.ini : Int)), .v (.int .u32 (wdF t.goal : Int)), .v sv]) (.head _) zH
  have h2 := h (sv, .d (mssD t.ops)) (.tail _ (.head _)) zH
  refine .t [_, _, _] _ rfl fun i x s hx hs => ?_
  rcases i with _ | _ | _ | i
  · simp at hx hs; subst hx hs
    cases h1 with
    | p b off cs y hO hy hr =>
      refine .p bw ow _ y (fun j d hd => ?_) (fun j d hd => ?_) fun j d hd => ?_
      · exact hO 0 _ rfl
      · rcases j with _ | _ | _ | j
        · exact hy 0 _ rfl
        · exact hy 1 _ rfl
        · exact hy 2 _ rfl
        · simp at hd
      · rcases j with _ | _ | _ | j
        · simp at hd; subst hd; exact hr 0 _ rfl
        · simp at hd; subst hd; exact hr 1 _ rfl
        · simp at hd; subst hd
          have h3 := hr 2 _ rfl
          generalize hz : y 2 = u at h3
          cases h3 with
          | v _ => cases h2 with
            | d _ _ h2 => exact h2
        · simp at hd
  · simp at hx hs; subst hx hs; exact .u _
  · simp at hx hs; subst hx hs
    refine .g [_, _] _ rfl (fun x hx => one2 (a := 0) (b := 0) x hx) fun j x s hx hs => ?_
    rcases j with _ | _ | j
    · simp at hx hs; subst hx hs; exact .d _ _ (.v _)
    · simp at hx hs; subst hx hs; exact .d _ _ (.v _)
    · simp at hx
  · simp at hx
theorem astar_Checked_does (t : Tsk) (hO : optF t = (0, 0)) : Does Tryz.prog false 26 [tskS t, Bo true] (.t [wrdsS t, .u, flt (0, 0)]) :=
  DoesM.toDoes Tryz.call26 (R := fun v F' ds' => F' = fo [] ∧ ∃ bw ow sv lv l, v = .tuple #[ptr bw ow, lv, .agg #[.int .i64 0, .int .i64 0]] ∧ ds' = chkD t bw ow sv lv l) (fun vs hl => by
    rcases vs with _ | ⟨v, _ | ⟨v2, _ | ⟨v3, vs⟩⟩⟩
    · simp at hl
    · simp at hl
    · refine (show DoesM Tryz.prog 26 [v, v2] ([v, v2].zip [tskS t, Bo true]) 0 (fo []) _ from ?_)
      have h := astar_Checked_M t hO (tv := v)
      refine ⟨h.can, .inl fun i hi => absurd hi (Nat.not_lt_zero i), fun O w hF hd => ?_⟩
      have hv2 : v2 = .bool true := by
        have := hd (v2, Bo true) (.tail _ (.head _)) zH
        exact rep_v this
      subst hv2
      exact h.run O w hF fun p hp => hd p (by simp only [List.mem_singleton] at hp; subst hp; exact .head _)
    · simp at hl) rfl (fun O w v F' ds' h hd => by obtain ⟨_, bw, ow, sv, lv, l, rfl, rfl⟩ := h; exact rep_chk hd)
theorem astar_Plan_does  : Does Tryz.prog false 11 [tskS twT, I (4)] (.t [.g [Bo true, .d (ints [0, 1]), I 5, I 2], flt (0, 0)]) := by
 refine Does.of_body Tryz.func11 rfl rfl (by simp) Tryz.call11 (fun w0 O0 => ?_)
 refine Tr.lenG (n := 0) (i := 1) rfl rfl (fun len0_1 => ?_)
 refine Tr.lenG (n := 0) (i := 2) rfl rfl (fun len0_2 => ?_)
 refine Tr.lenG (n := 0) (i := 3) rfl rfl (fun len0_3 => ?_)
 refine Tr.seq ?_
 refine Tr.region ?_
 refine TrOps.semM (OpSem.box 2 rfl rfl rfl rfl) rfl rfl (by decide) ?_
 refine TrOps.semM (OpSem.alloc 4 rfl zc46 rfl) rfl rfl (by decide) ?_
 refine TrOps.semM (OpSem.alloc 5 rfl zc32 rfl) rfl rfl (by decide) ?_
 refine TrOps.nil ?_
 refine At.seq ?_
 refine Tr.seq ?_
 refine PC.start [] ?_
 refine PC.sem (OpSem.loadbN rfl rfl rfl vs43 (by first | decide | simp)) rfl rfl ?_
 refine PC.sem (OpSem.move (.inl rfl) rfl) rfl rfl ?_
 refine PC.sem (OpSem.call0 (astar_Admissible_does) rfl rfl rfl rfl (Les.refl _)) rfl rfl ?_
 refine PC.sem (OpSem.call0 (astar_Checked_does twT tw_opt.1) rfl rfl rfl rfl (Les.refl _)) rfl rfl ?_
 refine PC.sem (OpSem.move (.inl rfl) rfl) rfl rfl ?_
 refine PC.sem (OpSem.extract rfl rfl rfl) rfl rfl ?_
 refine PC.sem (OpSem.extract rfl rfl rfl) rfl rfl ?_
 refine PC.sem (OpSem.extract rfl rfl rfl) rfl rfl ?_
 refine PC.semM (OpSem.alloc 8 rfl zc32 rfl) rfl rfl ?_
 refine PC.sem (OpSem.move (.inr rfl) rfl) rfl rfl ?_
 refine PC.sem (OpSem.move (.inr rfl) rfl) rfl rfl ?_
 refine PC.done1 8 (.box [I (0), I (0)]) mixed (by kernel_rfl) (by kernel_rfl) (by kernel_rfl) (by kernel_rfl) (by kernel_rfl) ?_
 refine TrOps.storeb rfl rfl rfl rfl rfl rfl rfl vs32 (by first | decide | simp) ?_
 refine TrOps.nil ?_
 refine At.seq ?_
 refine Tr.seq ?_
 refine Tr.seq ?_
 refine Tr.region ?_
 refine TrOps.sem (OpSem.loadbN rfl rfl rfl vs32 (by first | decide | simp)) rfl rfl (by decide) ?_
 refine TrOps.sem (OpSem.build rfl rfl pl32 zc32 rfl rfl) rfl rfl (by decide) ?_
 refine TrOps.sem (OpSem.neS2 rfl rfl rfl io32) rfl rfl (by decide) ?_
 refine TrOps.nil ?_
 refine At.seq ?_
 refine Tr.condF rfl rfl ?_
 refine Tr.skip ?_
 refine At.seq ?_
 refine Tr.seq ?_
 refine Tr.region ?_
 refine TrOps.sem (OpSem.move (.inl rfl) rfl) rfl rfl (by decide) ?_
 refine TrOps.rawPL 26 7003 (cs := [_, _]) rfl (fun bw ow sv => ?_)
 refine TrOps.sem (OpSem.mkI rfl rfl (by kernel_rfl)) rfl rfl (by decide) ?_
 refine TrOps.sem (OpSem.loadbN rfl rfl rfl vs43 (by first | decide | simp)) rfl rfl (by decide) ?_
 refine TrOps.sem (OpSem.move (.inl rfl) rfl) rfl rfl (by decide) ?_
 refine TrOps.rawH 28 7001 (tskS twT) rfl rfl (fun tv2 => ?_)
 refine TrOps.addNo 75 ?_
 refine TrOps.callM (hs := [75]) (kd := 5030) (F := fo []) (astar_Heuristic_M twT (tv := tv2)) rfl rfl rfl (by decide) rfl rfl (fun H => rfl) rfl (by decide) (by decide) (.cons rfl <| .nil) (.cons 7001 rfl (.head _) .nil) ?_ (by decide)
 rintro _ _ _ ⟨km, c1, c2, c3, rfl, rfl, rfl⟩
 refine TrOps.callM (hs := [75]) (kd := 5031) (F := fo [oneO km (.m (wMp []))]) (astar_Best_uint32_M (bw := bw) (ow := ow) (km := km) (sv := sv) (c1 := c1) (c2 := c2) (c3 := c3) KOk.nil) rfl rfl rfl (by decide) rfl rfl (fun H => rfl) rfl (by decide) (by decide) (.cons rfl <| .nil) (.cons 7003 rfl (.head _) <| .cons 7003 rfl (.tail _ (.head _)) <| .cons 5030 rfl (.head _) <| .cons 5030 rfl (.tail _ (.head _)) <| .cons 5030 rfl (.tail _ (.tail _ (.head _))) .nil) ?_ (by decide)
 rintro _ _ _ ⟨lv, K2, rfl, rfl, rfl⟩
 refine TrOps.asT 31 (vs := [lv, .int .i64 2, .bool true]) rfl ?_
 refine TrOps.sem (OpSem.move (.inl rfl) rfl) rfl rfl (by decide) ?_
 refine TrOps.sem (OpSem.extract rfl rfl rfl) rfl rfl (by decide) ?_
 refine TrOps.toDat 32 5031 rfl rfl (.head _) ?_
 refine TrOps.sem (OpSem.extract rfl rfl rfl) rfl rfl (by decide) ?_
 refine TrOps.sem (OpSem.extract rfl rfl rfl) rfl rfl (by decide) ?_
 refine TrOps.sem (OpSem.move (.inr rfl) rfl) rfl rfl (by decide) ?_
 refine TrOps.sem (OpSem.move (.inr rfl) rfl) rfl rfl (by decide) ?_
 refine TrOps.sem (OpSem.move (.inr rfl) rfl) rfl rfl (by decide) ?_
 refine TrOps.nil ?_
 refine At.seq ?_
 refine Tr.seq ?_
 refine Tr.region ?_
 refine TrOps.sem (OpSem.loadbN rfl rfl rfl vs43 (by first | decide | simp)) rfl rfl (by decide) ?_
 refine TrOps.sem (OpSem.move (.inl rfl) rfl) rfl rfl (by decide) ?_
 refine TrOps.sem (OpSem.move (.inl rfl) rfl) rfl rfl (by decide) ?_
 refine TrOps.sem (OpSem.move (.inl rfl) rfl) rfl rfl (by decide) ?_
 refine TrOps.sem (OpSem.call0 (space_Result_does) rfl rfl rfl rfl (Les.refl _)) rfl rfl (by decide) ?_
 refine TrOps.sem (OpSem.extract rfl rfl rfl) rfl rfl (by decide) ?_
 refine TrOps.sem (OpSem.extract rfl rfl rfl) rfl rfl (by decide) ?_
 refine TrOps.storeb rfl rfl rfl rfl rfl rfl rfl vs46 (by first | decide | simp) ?_
 refine TrOps.storeb rfl rfl rfl rfl rfl rfl rfl vs32 (by first | decide | simp) ?_
 refine TrOps.nil ?_
 refine At.seq ?_
 refine Tr.ret ?_
 exact At.ret rfl (.cellN rfl rfl vs46 <| .cellN rfl rfl vs32 <| .nil) rfl (.refl _)
theorem helmsmantop_mlSearches_does  : Does Tryz.prog false 4 [] (Bo true) := by
 refine Does.of_body Tryz.func4 rfl rfl (by simp) Tryz.call4 (fun w0 O0 => ?_); refine .g <| .r <| .a ?_; refine .z <| .x (OpSem.call0 (helmsmantop_mlTwo_does) rfl rfl rfl rfl (Les.refl _)) ?_; refine .x (OpSem.call0 (space_Optimal_does twT) rfl rfl rfl rfl (Les.refl _)) ?_; refine .m ?_; refine .x .xt ?_; refine .x .xt ?_; refine .al 2 zc32 ?_; refine .a ?_; refine .sb vs32 ?_; refine .z <| .x (OpSem.call0 (helmsmantop_mlTwo_does) rfl rfl rfl rfl (Les.refl _)) ?_; refine .x (OpSem.call0 (astar_Plan_does) rfl rfl rfl rfl (Les.refl _)) ?_; refine .m ?_; refine .x .xt ?_; refine .x .xt ?_; refine .al 3 zc46 ?_; refine .al 4 zc32 ?_; refine .sb vs46 ?_; refine .sb vs32 ?_; refine .z <| .x (.f fo32_0) ?_; refine .x (.l vs3) ?_; refine .x (.b beql) ?_; refine .m ?_; refine .gT rfl rfl rfl rfl (by rw [tw_opt.1]; rfl) ?_; refine .x (.f fo32_0) ?_; refine .gT rfl rfl rfl rfl (by rw [tw_opt.1]; rfl) ?_; refine .x (.l vs3) ?_; refine .gT rfl rfl rfl rfl (by rw [tw_opt.1]; rfl) ?_; refine .x (.b beql) ?_; refine .x (OpSem.pickT rfl rfl (by rw [tw_opt.1]; rfl) rfl) ?_; refine .m ?_; refine .gt rfl ?_; refine .m ?_; refine .gt rfl ?_; refine .x (.b beql) ?_; refine .x (OpSem.pickT rfl rfl rfl rfl) ?_; refine .m ?_; refine .gT rfl rfl rfl rfl (by rw [tw_opt.2]; rfl) ?_; refine .x (.f fo46_0) ?_; refine .gT rfl rfl rfl rfl (by rw [tw_opt.2]; rfl) ?_; refine .x (.l vs4) ?_; refine .x (OpSem.pickT rfl rfl (by rw [tw_opt.2]; rfl) rfl) ?_; refine .m ?_; refine .gt rfl ?_; refine .x (.f fo46_1) ?_; refine .gt rfl ?_; refine .x (.l vs22) ?_; refine .gt rfl ?_; refine .x (.bs es22 ze22) ?_; refine .gt rfl ?_; refine .x (OpSem.call0 (R_Ints_does [0, 1] [0, 1]) rfl rfl rfl rfl (Les.refl _)) ?_; refine .x (OpSem.pickT rfl rfl rfl rfl) ?_; refine .a ?_; exact .sq <| .t <| .ret rfl (.tmp rfl <| .nil) rfl (Le.bo rfl)
theorem helmsmantop_mlLamps_does  : Does Tryz.prog false 14 [] (multi lampsM) := by
 refine Does.of_body Tryz.func14 rfl rfl (by simp) Tryz.call14 (fun w0 O0 => ?_); refine .g <| .r <| .al 0 zc26 ?_; refine .z <| .x (.bd pl87 zc87) ?_; refine .x (.bd pl87 zc87) ?_; refine .al 1 zc87 ?_; refine .al 2 zc87 ?_; refine .sb vs87 ?_; refine .sb vs87 ?_; refine .z <| .x (.bs es22 ze22) ?_; refine .x (.bs es22 ze22) ?_; refine .x (.L vs87) ?_; refine .x (.L vs87) ?_; refine .x (.bs es23 ze23) ?_; refine .x (.L vs87) ?_; refine .x (.bs es23 ze23) ?_; refine .x (OpSem.le (s' := opS' ⟨[], [(0, 1)], 2⟩) (.bd pl89 zc89) (Le.g (.cons (Le.nil 2) <| .cons (.refl _) <| .cons (.refl _) .nil))) ?_; refine .x (.L vs87) ?_; refine .x (.bs es23 ze23) ?_; refine .x (OpSem.le (s' := opS' ⟨[], [(1, 1)], 3⟩) (.bd pl89 zc89) (Le.g (.cons (Le.nil 2) <| .cons (.refl _) <| .cons (.refl _) .nil))) ?_; refine .x (.bs es24 ze24) ?_; refine .x (.bd pl26 zc26) ?_; refine .sb vs26 ?_; exact .sq <| .t <| .ret rfl (.cellN rfl rfl vs26 <| .nil) rfl (.refl _)
theorem helmsmantop_mlProjects_does  : Does Tryz.prog false 5 [] (Bo true) := by
 refine Does.of_body Tryz.func5 rfl rfl (by simp) Tryz.call5 (fun w0 O0 => ?_); refine .g <| .r <| .a ?_; refine .z <| .x (OpSem.call0 (helmsmantop_mlLamps_does) rfl rfl rfl rfl (Les.refl _)) ?_; refine .x (.bs es22 ze22) ?_; refine .x (.bs es22 ze22) ?_; refine .x (.bs es37 ze37) ?_; refine .x (.bs es22 ze22) ?_; refine .x (OpSem.call0 (additive_Value_does lampsM [[0], [1]] [0, 0]) rfl rfl rfl rfl (Les.refl _)) ?_; refine .m ?_; refine .x .xt ?_; refine .x .xt ?_; refine .al 2 zc32 ?_; refine .a ?_; refine .sb vs32 ?_; refine .z <| .x (OpSem.call0 (helmsmantop_mlLamps_does) rfl rfl rfl rfl (Les.refl _)) ?_; refine .x (OpSem.call0 (abstraction_Atomic_does lampsM 1) rfl rfl rfl rfl (Les.refl _)) ?_; refine .m ?_; refine .x .xt ?_; refine .x .xt ?_; refine .al 3 zc54 ?_; refine .al 4 zc32 ?_; refine .sb vs54 ?_; refine .sb vs32 ?_; refine .z <| .x (OpSem.call0 (helmsmantop_mlLamps_does) rfl rfl rfl rfl (Les.refl _)) ?_; refine .x (OpSem.call0 (multi_Strips_does lampsM) rfl rfl rfl rfl (Les.refl _)) ?_; refine .m ?_; refine .x .xt ?_; refine .x .xt ?_; refine .al 5 zc43 ?_; refine .al 6 zc32 ?_; refine .sb vs43 ?_; refine .sb vs32 ?_; refine .z <| .x (.f fo32_0) ?_; refine .x (.l vs3) ?_; refine .x (.b beql) ?_; refine .m ?_; refine .gT rfl rfl rfl rfl (by rw [ex_addF]; rfl) ?_; refine .x (.f fo32_0) ?_; refine .gT rfl rfl rfl rfl (by rw [ex_addF]; rfl) ?_; refine .x (.l vs3) ?_; refine .gT rfl rfl rfl rfl (by rw [ex_addF]; rfl) ?_; refine .x (.b beql) ?_; refine .x (OpSem.pickT rfl rfl (by rw [ex_addF]; rfl) rfl) ?_; refine .m ?_; refine .gT rfl rfl rfl rfl (by rw [ml_atom.2]; rfl) ?_; refine .x (.f fo32_0) ?_; refine .gT rfl rfl rfl rfl (by rw [ml_atom.2]; rfl) ?_; refine .x (.l vs3) ?_; refine .gT rfl rfl rfl rfl (by rw [ml_atom.2]; rfl) ?_; refine .x (.b beql) ?_; refine .x (OpSem.pickT rfl rfl (by rw [ml_atom.2]; rfl) rfl) ?_; refine .m ?_; refine .gT rfl rfl rfl rfl (by rw [ml_str.1]; rfl) ?_; refine .m ?_; refine .gT rfl rfl rfl rfl (by rw [ml_str.1]; rfl) ?_; refine .x (.b beql) ?_; refine .x (OpSem.pickT rfl rfl (by rw [ml_str.1]; rfl) rfl) ?_; refine .m ?_; refine .gT rfl rfl rfl rfl (by rw [ex_add]; rfl) ?_; refine .x (.f fo54_0) ?_; refine .gT rfl rfl rfl rfl (by rw [ex_add]; rfl) ?_; refine .x (.l vs3) ?_; refine .gT rfl rfl rfl rfl (by rw [ex_add]; rfl) ?_; refine .x (.b beql) ?_; refine .x (OpSem.pickT rfl rfl (by rw [ex_add]; rfl) rfl) ?_; refine .m ?_; refine .gT rfl rfl rfl rfl (by rw [ml_atom.1]; rfl) ?_; refine .x (.f fo43_3) ?_; refine .gT rfl rfl rfl rfl (by rw [ml_atom.1]; rfl) ?_; refine .x (.l vs41) ?_; refine .gT rfl rfl rfl rfl (by rw [ml_atom.1]; rfl) ?_
 refine .x (.n es41) ?_; refine .gT rfl rfl rfl rfl (by rw [ml_atom.1]; rfl) ?_; refine .x (.b beql) ?_; refine .x (OpSem.pickT rfl rfl (by rw [ml_atom.1]; rfl) rfl) ?_; refine .a ?_; exact .sq <| .t <| .ret rfl (.tmp rfl <| .nil) rfl (Le.bo (by rw [ml_str.2]; rfl))
theorem helmsmantop_mlOptimum_does (m : Multi) : Does Tryz.prog false 6 [multi m] (.t [I (moV m), Bo (moB m)]) := by
 refine Does.of_body Tryz.func6 rfl rfl (by simp) Tryz.call6 (fun w0 O0 => ?_); refine .lg 0 0 fun len0_0 => ?_; refine .lg 0 1 fun len0_1 => ?_; refine .lg 0 2 fun len0_2 => ?_; refine .lg 0 3 fun len0_3 => ?_; refine .g <| .r <| .bx 1 ?_; refine .a ?_; refine .a ?_; refine .z <| .x (.L vs26) ?_; refine .x (OpSem.call0 (multi_Strips_does m) rfl rfl rfl rfl (Les.refl _)) ?_; refine .m ?_; refine .x .xt ?_; refine .x .xt ?_; refine .al 4 zc43 ?_; refine .al 5 zc32 ?_; refine .sb vs43 ?_; refine .sb vs32 ?_; refine .sq <| .g <| .g <| .r <| .x (.f fo32_0) ?_; refine .x (.l vs3) ?_; refine .x (.b bneq) ?_; refine .sq <| .cond rfl (fun c15 => ?_) (fun c15 => ?_)
 ·have hne : ¬ (strF m).1 = 0 := by simpa using c15
  obtain ⟨e1, e2⟩ := moV_0 hne
  refine .g <| .r <| .a ?_; refine .a ?_; exact .sq <| .t <| .t <| .ret rfl (.tmp rfl <| .tmp rfl <| .nil) rfl (Le.t (.cons (Le.i e1) <| .cons (Le.bo e2) <| .nil))
 ·have he : (strF m).1 = 0 := by simpa using c15
  obtain ⟨e1, e2⟩ := moV_1 he
  refine .p <| .z <| .x (.L vs43) ?_; refine .x (OpSem.call0 (space_Optimal_does (strR m)) rfl rfl rfl rfl (Les.refl _)) ?_; refine .m ?_; refine .x .xt ?_; refine .x .xt ?_; refine .al 7 zc32 ?_; refine .a ?_; refine .sb vs32 ?_; refine .sq <| .g <| PC.start [] ?_; refine .m ?_; refine .x (.f fo32_0) ?_; refine .x (.l vs3) ?_; refine .x (.b beql) ?_; refine .x (OpSem.move (.inr rfl) rfl) ?_; refine .d0 mixed ?_; refine .a ?_; exact .sq <| .t <| .ret rfl (.tmp rfl <| .tmp rfl <| .nil) rfl (Le.t (.cons (Le.i e1) <| .cons (Le.bo e2) <| .nil))
theorem helmsmantop_TopPotentialsBelowOptimum_does (m : Multi) (l : List (List (List Int))) : Does Tryz.prog false 3 [multi m, .d (rowss l)] (Bo true) := by
 refine Does.of_body Tryz.func3 rfl rfl (by simp) Tryz.call3 (fun w0 O0 => ?_); refine .lg 0 0 fun len0_0 => ?_; refine .lg 0 1 fun len0_1 => ?_; refine .lg 0 2 fun len0_2 => ?_; refine .lg 0 3 fun len0_3 => ?_; refine .le 1 fun len1 => ?_; refine .g <| .r <| .bx 2 ?_; refine .a ?_; refine .sq <| .g <| .g <| .r <| .x (OpSem.call0 (helmsmantop_mlSearches_does) rfl rfl rfl rfl (Les.refl _)) ?_; refine .x .nt ?_; refine .m ?_; refine .ht rfl ?_; refine .x (OpSem.call0 (helmsmantop_mlProjects_does) rfl rfl rfl rfl (Les.refl _)) ?_; refine .ht rfl ?_; refine .x .nt ?_; refine .x (OpSem.pickF rfl rfl rfl rfl) ?_; refine .sq <| .condF rfl rfl ?_; refine .p <| .z <| .x (.L vs26) ?_; refine .x (OpSem.call0 (helmsmantop_mlOptimum_does m) rfl rfl rfl rfl (Les.refl _)) ?_; refine .m ?_; refine .x .xt ?_; refine .x .xt ?_; refine .a ?_; refine .a ?_; refine .z <| .x (.L vs26) ?_; refine .m ?_; refine .x (.f fo26_1) ?_; refine .x (.l vs22) ?_; refine .x (OpSem.call0 (potential_Best_does m l m.init) rfl rfl rfl rfl (Les.refl _)) ?_; refine .m ?_; refine .x .xt ?_; refine .x .xt ?_; refine .x .xt ?_; refine .al 9 zc32 ?_; refine .a ?_; refine .a ?_; refine .sb vs32 ?_; refine .sq <| .g <| .g <| .r <| .m ?_; refine .x .nt ?_; refine .m ?_; refine .split (n := 35) rfl (fun c35 => ?_) (fun c35 => ?_)
 ·refine .hf c35 ?_; refine .hf c35 ?_; refine .hf c35 ?_; refine .x (OpSem.pickT rfl rfl c35 rfl) ?_; refine .sq <| .condT rfl rfl ?_; refine .g <| .r <| .x (.f fo32_0) ?_; refine .x (.l vs3) ?_; refine .x (.b beql) ?_; refine .m ?_; refine .split (n := 43) rfl (fun c43 => ?_) (fun c43 => ?_)
  ·refine .hf c43 ?_; refine .hf c43 ?_; refine .x (OpSem.pickT rfl rfl c43 rfl) ?_; refine .a ?_; exact .sq <| .t <| .t <| .ret rfl (.tmp rfl <| .nil) rfl (Le.bo (by first | rfl | (rw [hr]; simpa using hfin) | (rw [bestRes_1 (m := m) (l := l) (s := m.init) (by rw [← bestRes_F]; simpa using c43)]; rfl) | (simpa using c43)))
  ·refine .ht c43 ?_; refine .m ?_; refine .ht c43 ?_; refine .x (.b beql) ?_; refine .x (OpSem.pickF rfl rfl c43 rfl) ?_; refine .a ?_; exact .sq <| .t <| .t <| .ret rfl (.tmp rfl <| .nil) rfl (Le.bo (by first | rfl | (rw [hr]; simpa using hfin) | (rw [bestRes_1 (m := m) (l := l) (s := m.init) (by rw [← bestRes_F]; simpa using c43)]; rfl) | (simpa using c43)))
 ·have hok : moB m = true := by simpa using c35
  refine .ht c35 ?_; refine .x (.f fo32_0) ?_; refine .ht c35 ?_; refine .x (.l vs3) ?_; refine .ht c35 ?_; refine .x (.b bneq) ?_; refine .x (OpSem.pickF rfl rfl c35 rfl) ?_; refine .sq <| .cond rfl (fun c39 => ?_) (fun c39 => ?_)
  ·refine .g <| .r <| .x (.f fo32_0) ?_; refine .x (.l vs3) ?_; refine .x (.b beql) ?_; refine .m ?_; refine .split (n := 43) rfl (fun c43 => ?_) (fun c43 => ?_)
   ·refine .hf c43 ?_; refine .hf c43 ?_; refine .x (OpSem.pickT rfl rfl c43 rfl) ?_; refine .a ?_; exact .sq <| .t <| .t <| .ret rfl (.tmp rfl <| .nil) rfl (Le.bo (by first | rfl | (rw [hr]; simpa using hfin) | (rw [bestRes_1 (m := m) (l := l) (s := m.init) (by rw [← bestRes_F]; simpa using c43)]; rfl) | (simpa using c43)))
   ·refine .ht c43 ?_; refine .m ?_; refine .ht c43 ?_; refine .x (.b beql) ?_; refine .x (OpSem.pickF rfl rfl c43 rfl) ?_; refine .a ?_; exact .sq <| .t <| .t <| .ret rfl (.tmp rfl <| .nil) rfl (Le.bo (by first | rfl | (rw [hr]; simpa using hfin) | (rw [bestRes_1 (m := m) (l := l) (s := m.init) (by rw [← bestRes_F]; simpa using c43)]; rfl) | (simpa using c43)))
  ·have hb : bestF m l m.init = (0, 0) := bestF_code (by rw [← bestRes_F]; simpa using c39)
   have hr := bestRes_2 hb
   obtain ⟨hv, hs, hlen, hw⟩ := bestF_ok (m := m) (l := l) (s := m.init) (by rw [hb])
   have hpot := bestF_pot hb
   have hbl : bestI l m.init < l.length := bestTo_lt (by omega)
   refine .p <| .g <| .g <| .g <| .r <| .a ?_; refine .sq <| .k <| .loop (X := Nat) (fun k => k ≤ l.length ∧ ∀ i : Nat, i < k → adm m (nth l i) = true) (fun k => [(1, .d (rowss l)), (2, .r 2 0), (5, I (moV m)), (8, I ((bestRes m l m.init).2.1)), (10, I (k))]) (fun k => [(2, .box [.d (ints m.sizes), .d (ints m.init), .d (asgs m.goal), .d (opsD m.ops)])]) (fun k => l.length - k) 0 ⟨by omega, by simp⟩ ?_ ?_
   ·exact .p3 <| .sl <| .slot rfl (Le.of_eq (by simp)) <| .mem rfl <| .nil
   ·rintro k ⟨hkl, hinv⟩
    refine .g <| .g <| .r <| .mm ?_; refine .x (.n es27) ?_; refine .x (.b blss) ?_; refine .sq <| .cond rfl (fun c50 => ?_) (fun c50 => ?_)
    ·have hk : k < l.length := by simpa using c50
     have hpk := hpot k hk
     have e3 : (slackRes m (nth l k)).2.2 = (0, 0) := by rw [slackRes_2 (by rw [hpk]; exact ⟨rfl, rfl⟩)]
     refine .p <| .g <| .g <| .k <| .g <| PC.start [] ?_; refine .x (.L vs26) ?_; refine .mm ?_; refine .x (.i es27) ?_; refine .x (.l1 vs37) ?_; refine .x (OpSem.call0 (potential_Admissible_does m (nth l k)) rfl rfl rfl rfl (Les.refl _)) ?_; refine .m ?_; refine .x .xt ?_; refine .x .xt ?_; refine .semM (OpSem.alloc 12 rfl zc32 rfl) rfl rfl ?_; refine .x (OpSem.move (.inr rfl) rfl) ?_; refine .d1 12 (.box [I (0), I (0)]) mixed ?_; refine .sb vs32 ?_; refine .sq <| .g <| .g <| .r <| .x (.f fo32_0) ?_; refine .x (.l vs3) ?_; refine .x (.b bneq) ?_; refine .sq <| .condF rfl (by rw [e3]; rfl) ?_; refine .p <| .z <| .m ?_; refine .x .nt ?_; refine .sq <| .cond rfl (fun c66 => ?_) (fun c66 => ?_)
     ·refine .g <| .r <| .a ?_; exact .sq <| .t <| .k <| .t <| .t <| .k <| .t <| .ret rfl (.tmp rfl <| .nil) rfl (Le.bo (by first | rfl | (rw [hr]; simpa using hfin) | (rw [bestRes_1 (m := m) (l := l) (s := m.init) (by rw [← bestRes_F]; simpa using c43)]; rfl) | (simpa using c43)))
     ·have hg : adm m (nth l k) = true := by simpa using c66
      refine .p <| .n <| .y <| .m ?_; refine .x .ad ?_; refine .a ?_; refine .n <| .again (k + 1) ⟨by omega, all_succ hinv hg⟩ ?_ (by omega); exact .p3 <| .sl <| .slot rfl (Le.of_eq (by simp)) <| .mem rfl <| .nil
    ·have hk : k = l.length := by simp at c50; omega
     subst hk
     have hfin := mo_le hok (hinv _ hbl) (hpot _ hbl)
     refine .u <| .u <| .u <| .b <| .z <| .mm ?_; refine .x (.b bleq) ?_; refine .a ?_; exact .sq <| .t <| .ret rfl (.tmp rfl <| .nil) rfl (Le.bo (by first | rfl | (rw [hr]; simpa using hfin) | (rw [bestRes_1 (m := m) (l := l) (s := m.init) (by rw [← bestRes_F]; simpa using c43)]; rfl) | (simpa using c43)))
end Go.Proofs.YtgophedpkiidkaaGreat
end

section
namespace Go.Eng
open Go Go.RowKit
def CellsD (W : World) (cs : List Value) (ds : List D) : Prop := cs.length = ds.length ∧ ∀ (i : Nat) (x : Value) (d : D), cs[i]? = some x → ds[i]? = some d → RepD zO W x d
theorem CellsD.app {W : World} {a b : List Value} {c d : List D} (h : CellsD W a c) (k : CellsD W b d) : CellsD W (a ++ b) (c ++ d) := by
 refine ⟨by simp [h.1, k.1], fun i x y hx hy => ?_⟩
 by_cases hi : i < a.length
 ·rw [List.getElem?_append_left hi] at hx
  rw [List.getElem?_append_left (by rw [← h.1]; exact hi)] at hy
  exact h.2 i x y hx hy
 ·rw [List.getElem?_append_right (by omega)] at hx
  rw [List.getElem?_append_right (by rw [← h.1]; omega), ← h.1] at hy
  exact k.2 _ x y hx hy
abbrev in64 (n : Int) : Prop := -9223372036854775808 ≤ n ∧ n ≤ 9223372036854775807
def Dec (P : Program) (t : TypeId) {β : Type} (k : Nat) (f : β → List D) (R : β → Prop) : Prop :=
 P.cellsOf t = k ∧ (∀ b, (f b).length = k) ∧
  ∀ (H : Type) (enc : TypeId × Value → H) (W : World) (fuel : Nat) (cs : List Value) (x : DataW H × List MemPlace), DataW.trod enc P W 0 (fun _ => true) true fuel t cs = some x → ∃ b, R b ∧ CellsD W cs (f b)
theorem Dec.map {P : Program} {t : TypeId} {β γ : Type} {k : Nat} {f : β → List D} {f' : γ → List D} {R : β → Prop} {R' : γ → Prop} (h : Dec P t k f R) (g : β → γ) (g' : γ → β) (hg : ∀ b, f' (g b) = f b) (hg' : ∀ c, f' c = f (g' c)) (hR : ∀ b, R b → R' (g b)) : Dec P t k f' R' :=
 ⟨h.1, fun c => by rw [hg', h.2.1], fun H enc W fuel cs x hx => let ⟨b, hr, hb⟩ := h.2.2 H enc W fuel cs x hx; ⟨g b, hR b hr, by rw [hg]; exact hb⟩⟩
theorem Dec.int {P : Program} {t : TypeId} (ht : P.underlying t = some (.int .i64)) (hc : P.cellsOf t = 1) : Dec P t 1 (fun n : Int => [D.v (.int .i64 n)]) in64 :=
 ⟨hc, fun _ => rfl, fun H enc W fuel cs x hx => by
  obtain ⟨n, rfl, _, hw⟩ := DataW.trod_int ht hx
  refine ⟨n, ?_, rfl, fun i x d hx hd => ?_⟩
  ·simp only [Lit.wf, Bool.and_eq_true, decide_eq_true_eq] at hw
   have h1 := hw.1
   have h2 := hw.2
   have e1 : IntKind.i64.min = -9223372036854775808 := by decide
   have e2 : IntKind.i64.max = 9223372036854775807 := by decide
   unfold in64
   omega
  ·cases i with
   | zero => simp at hx hd; subst hx; subst hd; exact .v _
   | succ i => simp at hx⟩
theorem choose_list {β : Type} {p : Nat → β → Prop} : ∀ (n : Nat), (∀ i, i < n → ∃ b, p i b) → ∃ l : List β, l.length = n ∧ ∀ i b, l[i]? = some b → p i b
 | 0, _ => ⟨[], rfl, fun i b h => by simp at h⟩
 | n + 1, h => by
  obtain ⟨l, h1, h2⟩ := choose_list n fun i hi => h i (by omega)
  obtain ⟨b, hb⟩ := h n (by omega)
  refine ⟨l ++ [b], by simp [h1], fun i c hc => ?_⟩
  by_cases hi : i < n
  ·rw [List.getElem?_append_left (by omega)] at hc; exact h2 i c hc
  ·rw [List.getElem?_append_right (by omega)] at hc
   cases hz : i - l.length with
   | zero =>
    rw [hz] at hc; simp at hc; subst hc
    have : i = n := by omega
    rw [this]; exact hb
   | succ j => rw [hz] at hc; simp at hc
theorem Dec.slice {P : Program} {t e : TypeId} {β : Type} {k : Nat} {f : β → List D} {R : β → Prop} (ht : P.underlying t = some (.slice e)) (hc : P.cellsOf t = 1) (he : Dec P e k f R) (hk0 : 0 < k) : Dec P t 1 (fun l : List β => [D.s k (l.map f)]) (fun l => ∀ b, b ∈ l → R b) := by
 refine ⟨hc, fun _ => rfl, fun H enc W fuel cs x hx => ?_⟩
 have one : ∀ (v : Value) (d : D), RepD zO W v d → CellsD W [v] [d] := fun v d h => ⟨rfl, fun i x d' hx hd => by
  cases i with
  | zero => simp at hx hd; subst hx; subst hd; exact h
  | succ i => simp at hx⟩
 rcases Go.Deep.open_slice ht hx with ⟨rfl, _⟩ | ⟨a, len, cap, m, n, Dx, Pl, rfl, _, hl, hm, hmm, _, hel⟩
 ·exact ⟨[], fun b hb => by simp at hb, one _ _ (.e none 0 k (by simp [maxLen]))⟩
 ·have hmc : len ≤ m := by rw [hmm]; split <;> omega
  obtain ⟨l, hll, hlp⟩ := choose_list (β := β) (p := fun i b => R b ∧ ∃ cs', W.cells? 0 (a.add (i * P.cellsOf e)) (P.cellsOf e) = some cs' ∧ CellsD W cs' (f b)) len (fun i hi => by
   obtain ⟨cs', h1, h2⟩ := hel i (by omega)
   obtain ⟨b, hr, hb⟩ := he.2.2 H enc W n cs' _ h2
   exact ⟨b, hr, cs', h1, hb⟩)
  refine ⟨l, fun b hb => by obtain ⟨i, hi⟩ := List.getElem?_of_mem hb; exact (hlp i b hi).1, one _ _ ?_⟩
  have hlp := fun i b h => (hlp i b h).2
  cases l with
  | nil =>
   simp at hll
   subst hll
   exact .e _ cap k hm
  | cons b0 l0 =>
   generalize hL : b0 :: l0 = l at hll hlp
   obtain ⟨ab, ao, asp⟩ := a
   have hsp : asp = none := by
    obtain ⟨cs', h1, h2⟩ := hlp 0 b0 (by rw [← hL]; rfl)
    obtain ⟨_, g1, g2⟩ := World.cells?_some h1
    have hj : 0 < cs'.length := by rw [g1, he.1]; exact hk0
    have := g2 0 (by rw [he.1]; exact hk0)
    rw [List.getElem?_eq_getElem hj, Nat.zero_mul] at this
    exact World.cell?_spot (by simpa [Addr.add] using this)
   subst hsp
   have hadd : ∀ p q : Nat, ((⟨ab, ao, none⟩ : Addr).add p).add q = ⟨ab, ao + (p + q), none⟩ := by
    intro p q
    unfold Addr.add
    split <;> split <;> simp <;> omega
   have hcell : ∀ (i : Nat) (b : β), l[i]? = some b → ∀ (j : Nat) (d : D), (f b)[j]? = some d → ∃ x, W.cell? ⟨ab, ao + (i * k + j), none⟩ = some x ∧ RepD zO W x d := by
    intro i b hb j d hd
    obtain ⟨cs', h1, h2⟩ := hlp i b hb
    obtain ⟨_, g1, g2⟩ := World.cells?_some h1
    have hj : j < P.cellsOf e := by rw [he.1, ← he.2.1 b]; exact (List.getElem?_eq_some_iff.1 hd).1
    have hj' : j < cs'.length := by omega
    have := g2 j hj
    rw [List.getElem?_eq_getElem hj', hadd, he.1] at this
    exact ⟨cs'[j], this, h2.2 j _ d (List.getElem?_eq_getElem hj') hd⟩
   have hrow : ∀ (i : Nat) (r : List D), (l.map f)[i]? = some r → ∃ b, l[i]? = some b ∧ r = f b := by
    intro i r hr
    simp only [List.getElem?_map, Option.map_eq_some_iff] at hr
    obtain ⟨b, h1, h2⟩ := hr
    exact ⟨b, h1, h2.symm⟩
   have hlen : len = (l.map f).length := by simp [hll]
   rw [hlen]
   refine .s ab ao cap k (l.map f) (fun q => (W.cell? ⟨ab, ao + q, none⟩).getD undef) (by omega) hm (fun r hr => ?_) (fun _ _ _ _ _ _ => rfl) (fun i r j d hi hj => ?_) (fun i r j d hi hj => ?_)
   ·obtain ⟨b, _, rfl⟩ := List.mem_map.1 hr; exact he.2.1 b
   ·obtain ⟨b, hb, rfl⟩ := hrow i r hi
    obtain ⟨x, hx, _⟩ := hcell i b hb j d hj
    rw [hx]; rfl
   ·obtain ⟨b, hb, rfl⟩ := hrow i r hi
    obtain ⟨x, hx, hr⟩ := hcell i b hb j d hj
    simp only [hx, Option.getD_some]; exact hr
theorem drop_take_app {α : Type} (l : List α) (a b : Nat) : (l.drop 0).take (a + b) = (l.drop 0).take a ++ (l.drop a).take b := by
 simp [List.take_add]
theorem Dec.struct2 {P : Program} {t : TypeId} {f0 f1 : Field} {β0 β1 : Type} {k0 k1 : Nat} {e0 : β0 → List D} {e1 : β1 → List D} {R0 : β0 → Prop} {R1 : β1 → Prop} (ht : P.underlying t = some (.struct #[f0, f1])) (hc : P.cellsOf t = k0 + k1)
  (o0 : f0.offset = 0) (o1 : f1.offset = k0) (h0 : Dec P f0.type k0 e0 R0) (h1 : Dec P f1.type k1 e1 R1) : Dec P t (k0 + k1) (fun b : β0 × β1 => e0 b.1 ++ e1 b.2) (fun b => R0 b.1 ∧ R1 b.2) := by
 refine ⟨hc, fun b => by simp [h0.2.1, h1.2.1], fun H enc W fuel cs x hx => ?_⟩
 obtain ⟨xs, n, _, _, hl, hn, hf⟩ := DataW.trod_struct ht hx
 have g0 := hf 0 f0 rfl
 have g1 := hf 1 f1 rfl
 rw [o0, h0.1, List.getElem?_eq_getElem (by rw [hn]; simp)] at g0
 rw [o1, h1.1, List.getElem?_eq_getElem (by rw [hn]; simp)] at g1
 obtain ⟨b0, r0, c0⟩ := h0.2.2 H enc W n _ _ g0
 obtain ⟨b1, r1, c1⟩ := h1.2.2 H enc W n _ _ g1
 refine ⟨(b0, b1), ⟨r0, r1⟩, ?_⟩
 have := c0.app c1
 rwa [← drop_take_app, List.drop_zero, List.take_of_length_le (by omega)] at this
theorem Dec.struct3 {P : Program} {t : TypeId} {f0 f1 f2 : Field} {β0 β1 β2 : Type} {k0 k1 k2 : Nat} {e0 : β0 → List D} {e1 : β1 → List D} {e2 : β2 → List D} {R0 : β0 → Prop} {R1 : β1 → Prop} {R2 : β2 → Prop} (ht : P.underlying t = some (.struct #[f0, f1, f2])) (hc : P.cellsOf t = k0 + k1 + k2)
  (o0 : f0.offset = 0) (o1 : f1.offset = k0) (o2 : f2.offset = k0 + k1) (h0 : Dec P f0.type k0 e0 R0) (h1 : Dec P f1.type k1 e1 R1) (h2 : Dec P f2.type k2 e2 R2) : Dec P t (k0 + k1 + k2) (fun b : β0 × β1 × β2 => e0 b.1 ++ e1 b.2.1 ++ e2 b.2.2) (fun b => R0 b.1 ∧ R1 b.2.1 ∧ R2 b.2.2) := by
 refine ⟨hc, fun b => by simp [h0.2.1, h1.2.1, h2.2.1]; omega, fun H enc W fuel cs x hx => ?_⟩
 obtain ⟨xs, n, _, _, hl, hn, hf⟩ := DataW.trod_struct ht hx
 have g0 := hf 0 f0 rfl
 have g1 := hf 1 f1 rfl
 have g2 := hf 2 f2 rfl
 rw [o0, h0.1, List.getElem?_eq_getElem (by rw [hn]; simp)] at g0
 rw [o1, h1.1, List.getElem?_eq_getElem (by rw [hn]; simp)] at g1
 rw [o2, h2.1, List.getElem?_eq_getElem (by rw [hn]; simp)] at g2
 obtain ⟨b0, r0, c0⟩ := h0.2.2 H enc W n _ _ g0
 obtain ⟨b1, r1, c1⟩ := h1.2.2 H enc W n _ _ g1
 obtain ⟨b2, r2, c2⟩ := h2.2.2 H enc W n _ _ g2
 refine ⟨(b0, b1, b2), ⟨r0, r1, r2⟩, ?_⟩
 have := (c0.app c1).app c2
 rwa [← drop_take_app, ← drop_take_app, List.drop_zero, List.take_of_length_le (by omega)] at this
theorem Dec.struct4 {P : Program} {t : TypeId} {f0 f1 f2 f3 : Field} {β0 β1 β2 β3 : Type} {k0 k1 k2 k3 : Nat} {e0 : β0 → List D} {e1 : β1 → List D} {e2 : β2 → List D} {e3 : β3 → List D} {R0 : β0 → Prop} {R1 : β1 → Prop} {R2 : β2 → Prop} {R3 : β3 → Prop} (ht : P.underlying t = some (.struct #[f0, f1, f2, f3])) (hc : P.cellsOf t = k0 + k1 + k2 + k3)
  (o0 : f0.offset = 0) (o1 : f1.offset = k0) (o2 : f2.offset = k0 + k1) (o3 : f3.offset = k0 + k1 + k2) (h0 : Dec P f0.type k0 e0 R0) (h1 : Dec P f1.type k1 e1 R1) (h2 : Dec P f2.type k2 e2 R2) (h3 : Dec P f3.type k3 e3 R3) :
  Dec P t (k0 + k1 + k2 + k3) (fun b : β0 × β1 × β2 × β3 => e0 b.1 ++ e1 b.2.1 ++ e2 b.2.2.1 ++ e3 b.2.2.2) (fun b => R0 b.1 ∧ R1 b.2.1 ∧ R2 b.2.2.1 ∧ R3 b.2.2.2) := by
 refine ⟨hc, fun b => by simp [h0.2.1, h1.2.1, h2.2.1, h3.2.1]; omega, fun H enc W fuel cs x hx => ?_⟩
 obtain ⟨xs, n, _, _, hl, hn, hf⟩ := DataW.trod_struct ht hx
 have g0 := hf 0 f0 rfl
 have g1 := hf 1 f1 rfl
 have g2 := hf 2 f2 rfl
 have g3 := hf 3 f3 rfl
 rw [o0, h0.1, List.getElem?_eq_getElem (by rw [hn]; simp)] at g0
 rw [o1, h1.1, List.getElem?_eq_getElem (by rw [hn]; simp)] at g1
 rw [o2, h2.1, List.getElem?_eq_getElem (by rw [hn]; simp)] at g2
 rw [o3, h3.1, List.getElem?_eq_getElem (by rw [hn]; simp)] at g3
 obtain ⟨b0, r0, c0⟩ := h0.2.2 H enc W n _ _ g0
 obtain ⟨b1, r1, c1⟩ := h1.2.2 H enc W n _ _ g1
 obtain ⟨b2, r2, c2⟩ := h2.2.2 H enc W n _ _ g2
 obtain ⟨b3, r3, c3⟩ := h3.2.2 H enc W n _ _ g3
 refine ⟨(b0, b1, b2, b3), ⟨r0, r1, r2, r3⟩, ?_⟩
 have := ((c0.app c1).app c2).app c3
 rwa [← drop_take_app, ← drop_take_app, ← drop_take_app, List.drop_zero, List.take_of_length_le (by omega)] at this
theorem Dec.arg {P : Program} {t : TypeId} {β : Type} {f : β → D} {R : β → Prop} (h : Dec P t 1 (fun b => [f b]) R) {H : Type} {enc : TypeId × Value → H} {W : World} {v : Value} {d : DataW H} {ps : List MemPlace} (hv : v.cells.toList = [v]) (hx : DataW.Trod enc P W 0 (fun _ => true) true t v d ps) : ∃ b, R b ∧ RepS zO zH W v (.d (f b)) := by
 obtain ⟨fuel, hf⟩ := hx
 obtain ⟨b, hr, hb⟩ := h.2.2 H enc W fuel _ _ hf
 rw [hv] at hb
 exact ⟨b, hr, .d _ _ (hb.2 0 v _ rfl rfl)⟩
theorem Dec.argG {P : Program} {t : TypeId} {β : Type} {k : Nat} {f : β → List D} {R : β → Prop} (h : Dec P t k f R) (h1 : ∀ b, (f b).all D.one = true) {H : Type} {enc : TypeId × Value → H} {W : World} {cs : Array Value} {d : DataW H} {ps : List MemPlace} (hx : DataW.Trod enc P W 0 (fun _ => true) true t (.agg cs) d ps) :
  ∃ b, R b ∧ RepS zO zH W (.agg cs) (.g ((f b).map .d)) := by
 obtain ⟨fuel, hf⟩ := hx
 obtain ⟨b, hr, hb⟩ := h.2.2 H enc W fuel _ _ hf
 simp only [Value.cells] at hb
 refine ⟨b, hr, ?_⟩
 have := RepS.g (O := zO) (H := zH) (w := W) cs.toList ((f b).map .d) (by simp [hb.1]) (fun x hx => ?_) (fun i x s hx hs => ?_)
 ·simpa using this
 ·obtain ⟨i, hi⟩ := List.getElem?_of_mem hx
  have hlt : i < (f b).length := by rw [← hb.1]; exact (List.getElem?_eq_some_iff.1 hi).1
  exact (hb.2 i x _ hi (List.getElem?_eq_getElem hlt)).one' (List.all_eq_true.1 (h1 b) _ (List.getElem_mem hlt))
 ·simp only [List.getElem?_map, Option.map_eq_some_iff] at hs
  obtain ⟨y, hy, rfl⟩ := hs
  exact .d _ _ (hb.2 i x y hx hy)
theorem reps_nil {O : Nat → Nat} {H : Nat → Value} {w : World} : ∀ (i : Nat) (x : Value) (s : S), ([] : List Value)[i]? = some x → ([] : List S)[i]? = some s → RepS O H w x s := fun i x s h => by simp at h
theorem reps_cons {O : Nat → Nat} {H : Nat → Value} {w : World} {v : Value} {t : S} {vs : List Value} {ts : List S} (h : RepS O H w v t) (k : ∀ (i : Nat) (x : Value) (s : S), vs[i]? = some x → ts[i]? = some s → RepS O H w x s) :
  ∀ (i : Nat) (x : Value) (s : S), (v :: vs)[i]? = some x → (t :: ts)[i]? = some s → RepS O H w x s := fun i x s hx hs => by
 cases i with
 | zero => simp at hx hs; subst hx; subst hs; exact h
 | succ i => exact k i x s (by simpa using hx) (by simpa using hs)
theorem RepS.isB {O : Nat → Nat} {H : Nat → Value} {w : World} {x : Value} {b : Bool} (h : RepS O H w x (Bo b)) : x = .bool b := by
 cases h with
 | d _ _ q => cases q with
  | v _ => rfl
end Go.Eng
end
