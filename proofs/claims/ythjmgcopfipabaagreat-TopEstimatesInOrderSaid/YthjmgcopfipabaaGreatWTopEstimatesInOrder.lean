/- The estimates in order. -/
import Derived.Test.YthjmgcopfipabaaGreatE11
import Derived.Test.YthjmgcopfipabaaGreatRows
import Derived.WalkKit
import Derived.ProofKit
import Derived.OpenShut
import Derived.ChangeOld
import Derived.Below
import Derived.KernelRfl
set_option linter.unusedVariables false
set_option linter.unusedSimpArgs false
namespace Go.Proofs.YthjmgcopfipabaaGreat
namespace TopEstimatesInOrder
open Go.Eng Go.ChangeShapes Go.WideShapes Go.ChangeAt Go.RowKit

theorem own : ownKnob Tryz.prog.godebug = Option.none := by kernel_rfl
theorem laidOut : laidOutB Tryz.prog = true := by kernel_rfl
theorem dec3 : Dec Tryz.prog 3 1 (fun n : Int => [D.v (.int .i64 n)]) in64 := Dec.int Tryz.underlying3 (by kernel_rfl)
theorem dec22 : Dec Tryz.prog 22 1 (fun l : List Int => [ints l]) (fun l => ∀ b, b ∈ l → in64 b) := Dec.slice Tryz.underlying22 (by kernel_rfl) dec3 (by decide)
theorem dec41 : Dec Tryz.prog 41 4 sopC (fun _ => True) := Dec.map (Dec.struct4 Tryz.underlying41 (by kernel_rfl) rfl rfl rfl rfl dec22 dec22 dec22 dec3) (fun b => ⟨b.1, b.2.1, b.2.2.1, b.2.2.2⟩) (fun c => (c.pre, c.add, c.del, c.cost)) (fun _ => rfl) (fun _ => rfl) (fun _ _ => trivial)
theorem dec23 : Dec Tryz.prog 23 1 (fun l : List SOp => [sopsD l]) (fun l => ∀ b, b ∈ l → (fun _ => True) b) := Dec.slice Tryz.underlying23 (by kernel_rfl) dec41 (by decide)
theorem dec25 : Dec Tryz.prog 25 4 tskC (fun _ => True) := Dec.map (Dec.struct4 Tryz.underlying25 (by kernel_rfl) rfl rfl rfl rfl dec3 dec22 dec22 dec23) (fun b => ⟨b.1, b.2.1, b.2.2.1, b.2.2.2⟩) (fun c => (c.facts, c.ini, c.goal, c.ops)) (fun _ => rfl) (fun _ => rfl) (fun _ _ => trivial)

set_option maxRecDepth 100000 in
theorem lifted (os : Os) (started : os.Started) (H : Type) (enc : TypeId × Value → H) :
    ReturnsInHanded {} Tryz.checked os 3 .any (Rows.topEstimatesInOrderSpec.pre6 enc Tryz.prog Tryz.f3 Rows.topEstimatesInOrderRow.domain false) (Rows.topEstimatesInOrderSpec.post enc Tryz.prog Tryz.f3 false true false false) := by
  refine returnsInHanded_of_change (C := Tryz.checked) own started (by kernel_rfl) Tryz.func3
    (ChangeSpec.witness6 (enc := enc) (C := Tryz.checked) false ⟨#[], #[.agg #[.int .i64 0, .slice none 0 0, .slice none 0 0, .slice none 0 0], .slice none 0 0], []⟩ 8 (by kernel_rfl) (by kernel_rfl) (by kernel_rfl) (by kernel_rfl)) ?_
  intro W base args ds gs before hval0 hW hcnd _
  have hval : ∀ (j : Nat) t v, Tryz.f3.params[j]? = some t → args[j]? = some v → Value.okWide Tryz.prog W .any base t v := hval0
  have hW' := hW
  obtain ⟨p, q, hA0, hV, rfl, hfz, hnd⟩ := hW
  have hA : DataW.TrodAll enc Tryz.prog W 0 (fun _ => true) true Tryz.f3.params.toList args.toList ds p := hA0
  rw [Tryz.params3] at hA hval
  obtain ⟨v0, vs0, d0, ds0, p0, q0, hargs, rfl, rfl, h0, r0⟩ := trodAll_cons hA
  obtain ⟨v1, vs1, d1, ds1, p1, q1, rfl, rfl, rfl, h1, r1⟩ := trodAll_cons r0
  obtain ⟨rfl, rfl, rfl⟩ := trodAll_nil r1
  obtain rfl : args = #[v0, v1] := by cases args; simp_all
  obtain ⟨rfl, rfl⟩ := trodVars_none hV
  have k0 := h0
  have lt0 : ∀ x ∈ p0, x.block < W.heap.size := by obtain ⟨m, hm⟩ := k0; exact DataW.trod_lt m _ _ _ hm
  obtain ⟨a0, rfl, _⟩ := okWide_struct Tryz.underlying25 (hval 0 25 v0 rfl rfl)
  obtain ⟨b0, g0, e0⟩ := Dec.argG dec25 (fun b => rfl) h0
  have k1 := h1
  have lt1 : ∀ x ∈ p1, x.block < W.heap.size := by obtain ⟨m, hm⟩ := k1; exact DataW.trod_lt m _ _ _ hm
  obtain ⟨a1, len1, cap1, rfl⟩ := okWide_slice Tryz.underlying22 (hval 1 22 v1 rfl rfl)
  obtain ⟨b1, g1, e1⟩ := Dec.arg dec22 rfl h1
  clear hA0 hval0
  refine ((helmsmantop_TopEstimatesInOrder_does b0 b1 ).run zO W [.agg a0, .slice a1 len1 cap1] rfl (reps_cons e0 (reps_cons e1 reps_nil))).mono fun e W' ⟨x, he, bel, hr⟩ => ?_
  obtain rfl := hr.isB
  subst he
  exact ⟨_, rfl, _, _, _, [], _, [], hW', trodAll_mk1 (shut_bool Tryz.underlying4 _), (trodAll_cons_mk (Below.trod laidOut (by kernel_rfl) (of_decide_eq_true (by kernel_rfl)) k0 bel lt0) (trodAll_cons_mk (Below.trod laidOut (by kernel_rfl) (of_decide_eq_true (by kernel_rfl)) k1 bel lt1) trodAll_mk0)), rfl, bel.frame _, fun h => by cases h⟩

theorem over : Rows.topEstimatesInOrderRow.holds Tryz.pinned (OpenSpec.ofChange Rows.topEstimatesInOrderSpec) :=
  OpenClaim.holds_of_wide 3 Tryz.f3 rfl rfl rfl rfl rfl rfl rfl ⟨rfl, rfl, rfl, rfl, rfl⟩ rfl rfl rfl rfl rfl (by kernel_rfl) Tryz.func3 (by kernel_rfl)
    (of_decide_eq_true (by kernel_rfl)) (by unfold Func.isWrapper; first | (rw [if_pos (by decide +kernel)]; kernel_rfl) | (rw [if_neg (by decide +kernel)]; exact ⟨rfl, rfl⟩))
    (fun os started H enc _ => lifted os started H enc)

theorem holds : Rows.TopEstimatesInOrderSaid := over
end TopEstimatesInOrder
end Go.Proofs.YthjmgcopfipabaaGreat

