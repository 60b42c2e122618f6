/- The law that the greatest value of admissible weights for the initial state is at most the least cost of a plan holds of every task and every list of weights. -/
import Derived.Test.YtgophedpkiidkaaGreatE11
import Derived.Test.YtgophedpkiidkaaGreatRows
import Derived.WalkKit
import Derived.ProofKit
import Derived.OpenShut
import Derived.ChangeOld
import Derived.Below
import Derived.KernelRfl
set_option linter.unusedVariables false
set_option linter.unusedSimpArgs false
namespace Go.Proofs.YtgophedpkiidkaaGreat
namespace TopPotentialsBelowOptimum
open Go.Eng Go.ChangeShapes Go.WideShapes Go.ChangeAt Go.RowKit

theorem own : ownKnob Tryz.prog.godebug = Option.none := by kernel_rfl
theorem laidOut : laidOutB Tryz.prog = true := by kernel_rfl
theorem dec3 : Dec Tryz.prog 3 1 (fun n : Int => [D.v (.int .i64 n)]) in64 := Dec.int Tryz.underlying3 (by kernel_rfl)
theorem dec22 : Dec Tryz.prog 22 1 (fun l : List Int => [ints l]) (fun l => ∀ b, b ∈ l → in64 b) := Dec.slice Tryz.underlying22 (by kernel_rfl) dec3 (by decide)
theorem dec87 : Dec Tryz.prog 87 2 asg (fun _ => True) := Dec.map (Dec.struct2 Tryz.underlying87 (by kernel_rfl) rfl rfl dec3 dec3) (fun b => b) (fun c => c) (fun _ => rfl) (fun _ => rfl) (fun _ _ => trivial)
theorem dec23 : Dec Tryz.prog 23 1 (fun l : List Asg => [asgs l]) (fun l => ∀ b, b ∈ l → (fun _ => True) b) := Dec.slice Tryz.underlying23 (by kernel_rfl) dec87 (by decide)
theorem dec89 : Dec Tryz.prog 89 3 opC (fun _ => True) := Dec.map (Dec.struct3 Tryz.underlying89 (by kernel_rfl) rfl rfl rfl dec23 dec23 dec3) (fun b => ⟨b.1, b.2.1, b.2.2⟩) (fun c => (c.pre, c.post, c.cost)) (fun _ => rfl) (fun _ => rfl) (fun _ _ => trivial)
theorem dec24 : Dec Tryz.prog 24 1 (fun l : List MOp => [opsD l]) (fun l => ∀ b, b ∈ l → (fun _ => True) b) := Dec.slice Tryz.underlying24 (by kernel_rfl) dec89 (by decide)
theorem dec26 : Dec Tryz.prog 26 4 (fun m : Multi => [ints m.sizes, ints m.init, asgs m.goal, opsD m.ops]) (fun _ => True) := Dec.map (Dec.struct4 Tryz.underlying26 (by kernel_rfl) rfl rfl rfl rfl dec22 dec22 dec23 dec24) (fun b => ⟨b.1, b.2.1, b.2.2.1, b.2.2.2⟩) (fun c => (c.sizes, c.init, c.goal, c.ops)) (fun _ => rfl) (fun _ => rfl) (fun _ _ => trivial)
theorem dec37 : Dec Tryz.prog 37 1 (fun l : List (List Int) => [rows l]) (fun l => ∀ b, b ∈ l → (fun l => ∀ b, b ∈ l → in64 b) b) := Dec.slice Tryz.underlying37 (by kernel_rfl) dec22 (by decide)
theorem dec27 : Dec Tryz.prog 27 1 (fun l : List (List (List Int)) => [rowss l]) (fun l => ∀ b, b ∈ l → (fun l => ∀ b, b ∈ l → (fun l => ∀ b, b ∈ l → in64 b) b) b) := Dec.slice Tryz.underlying27 (by kernel_rfl) dec37 (by decide)

set_option maxRecDepth 100000 in
theorem lifted (os : Os) (started : os.Started) (H : Type) (enc : TypeId × Value → H) :
    ReturnsInHanded {} Tryz.checked os 3 .any (Rows.topPotentialsBelowOptimumSpec.pre6 enc Tryz.prog Tryz.f3 Rows.topPotentialsBelowOptimumRow.domain false) (Rows.topPotentialsBelowOptimumSpec.post enc Tryz.prog Tryz.f3 false true false false) := by
  refine returnsInHanded_of_change (C := Tryz.checked) own started (by kernel_rfl) Tryz.func3
    (ChangeSpec.witness6 (enc := enc) (C := Tryz.checked) false ⟨#[], #[.agg #[.slice none 0 0, .slice none 0 0, .slice none 0 0, .slice none 0 0], .slice none 0 0], []⟩ 8 (by kernel_rfl) (by kernel_rfl) (by kernel_rfl) (by kernel_rfl)) ?_
  intro W base args ds gs before hval0 hW hcnd _
  have hval : ∀ (j : Nat) t v, Tryz.f3.params[j]? = some t → args[j]? = some v → Value.okWide Tryz.prog W .any base t v := hval0
  have hW' := hW
  obtain ⟨p, q, hA0, hV, rfl, hfz, hnd⟩ := hW
  have hA : DataW.TrodAll enc Tryz.prog W 0 (fun _ => true) true Tryz.f3.params.toList args.toList ds p := hA0
  rw [Tryz.params3] at hA hval
  obtain ⟨v0, vs0, d0, ds0, p0, q0, hargs, rfl, rfl, h0, r0⟩ := trodAll_cons hA
  obtain ⟨v1, vs1, d1, ds1, p1, q1, rfl, rfl, rfl, h1, r1⟩ := trodAll_cons r0
  obtain ⟨rfl, rfl, rfl⟩ := trodAll_nil r1
  obtain rfl : args = #[v0, v1] := by cases args; simp_all
  obtain ⟨rfl, rfl⟩ := trodVars_none hV
  have k0 := h0
  have lt0 : ∀ x ∈ p0, x.block < W.heap.size := by obtain ⟨m, hm⟩ := k0; exact DataW.trod_lt m _ _ _ hm
  obtain ⟨a0, rfl, _⟩ := okWide_struct Tryz.underlying26 (hval 0 26 v0 rfl rfl)
  obtain ⟨b0, g0, e0⟩ := Dec.argG dec26 (fun b => rfl) h0
  have k1 := h1
  have lt1 : ∀ x ∈ p1, x.block < W.heap.size := by obtain ⟨m, hm⟩ := k1; exact DataW.trod_lt m _ _ _ hm
  obtain ⟨a1, len1, cap1, rfl⟩ := okWide_slice Tryz.underlying27 (hval 1 27 v1 rfl rfl)
  obtain ⟨b1, g1, e1⟩ := Dec.arg dec27 rfl h1
  clear hA0 hval0
  refine ((helmsmantop_TopPotentialsBelowOptimum_does b0 b1 ).run zO W [.agg a0, .slice a1 len1 cap1] rfl (reps_cons e0 (reps_cons e1 reps_nil))).mono fun e W' ⟨x, he, bel, hr⟩ => ?_
  obtain rfl := hr.isB
  subst he
  have bel := bel.kit
  exact ⟨_, rfl, _, _, _, [], _, [], hW', trodAll_mk1 (shut_bool Tryz.underlying4 _), (trodAll_cons_mk (Below.trod laidOut (by kernel_rfl) (of_decide_eq_true (by kernel_rfl)) k0 bel lt0) (trodAll_cons_mk (Below.trod laidOut (by kernel_rfl) (of_decide_eq_true (by kernel_rfl)) k1 bel lt1) trodAll_mk0)), rfl, bel.frame _, fun h => by cases h⟩

theorem over : Rows.topPotentialsBelowOptimumRow.holds Tryz.pinned (OpenSpec.ofChange Rows.topPotentialsBelowOptimumSpec) :=
  OpenClaim.holds_of_wide 3 Tryz.f3 rfl rfl rfl rfl rfl rfl rfl ⟨rfl, rfl, rfl, rfl, rfl⟩ rfl rfl rfl rfl rfl (by kernel_rfl) Tryz.func3 (by kernel_rfl)
    (of_decide_eq_true (by kernel_rfl)) (by unfold Func.isWrapper; first | (rw [if_pos (by decide +kernel)]; kernel_rfl) | (rw [if_neg (by decide +kernel)]; exact ⟨rfl, rfl⟩))
    (fun os started H enc _ => lifted os started H enc)

theorem holds : Rows.TopPotentialsBelowOptimumSaid := over
end TopPotentialsBelowOptimum
end Go.Proofs.YtgophedpkiidkaaGreat

