/- The product of the abstractions of all variables has the distances of the task. No conditions. -/
import Derived.Test.YtohlmcebphcokaaC13
import Derived.Test.YtohlmcebphcokaaRows
import Derived.WalkKit
import Derived.ProofKit
import Derived.OpenShut
import Derived.ChangeOld
import Derived.Below
import Derived.KernelRfl
set_option linter.unusedVariables false
set_option linter.unusedSimpArgs false
namespace Go.Proofs.Ytohlmcebphcokaa
namespace AbstractionProductIsTask
open Go.Eng Go.ChangeShapes Go.WideShapes Go.ChangeAt Go.RowKit

theorem own : ownKnob Try.prog.godebug = Option.none := by kernel_rfl
theorem laidOut : laidOutB Try.prog = true := by kernel_rfl
theorem dec3 : Dec Try.prog 3 1 (fun n : Int => [D.v (.int .i64 n)]) in64 := Dec.int Try.underlying3 (by kernel_rfl)
theorem dec22 : Dec Try.prog 22 1 (fun l : List Int => [ints l]) (fun l => ∀ b, b ∈ l → in64 b) := Dec.slice Try.underlying22 (by kernel_rfl) dec3 (by decide)
theorem dec90 : Dec Try.prog 90 2 asg (fun _ => True) := Dec.map (Dec.struct2 Try.underlying90 (by kernel_rfl) rfl rfl dec3 dec3) (fun b => b) (fun c => c) (fun _ => rfl) (fun _ => rfl) (fun _ _ => trivial)
theorem dec23 : Dec Try.prog 23 1 (fun l : List Asg => [asgs l]) (fun l => ∀ b, b ∈ l → (fun _ => True) b) := Dec.slice Try.underlying23 (by kernel_rfl) dec90 (by decide)
theorem dec81 : Dec Try.prog 81 3 opC (fun _ => True) := Dec.map (Dec.struct3 Try.underlying81 (by kernel_rfl) rfl rfl rfl dec23 dec23 dec3) (fun b => ⟨b.1, b.2.1, b.2.2⟩) (fun c => (c.pre, c.post, c.cost)) (fun _ => rfl) (fun _ => rfl) (fun _ _ => trivial)
theorem dec24 : Dec Try.prog 24 1 (fun l : List MOp => [opsD l]) (fun l => ∀ b, b ∈ l → (fun _ => True) b) := Dec.slice Try.underlying24 (by kernel_rfl) dec81 (by decide)
theorem dec26 : Dec Try.prog 26 4 (fun m : Multi => [ints m.sizes, ints m.init, asgs m.goal, opsD m.ops]) (fun _ => True) := Dec.map (Dec.struct4 Try.underlying26 (by kernel_rfl) rfl rfl rfl rfl dec22 dec22 dec23 dec24) (fun b => ⟨b.1, b.2.1, b.2.2.1, b.2.2.2⟩) (fun c => (c.sizes, c.init, c.goal, c.ops)) (fun _ => rfl) (fun _ => rfl) (fun _ _ => trivial)

set_option maxRecDepth 100000 in
theorem lifted (os : Os) (started : os.Started) (H : Type) (enc : TypeId × Value → H) :
    ReturnsInHanded {} Try.checked os 12 .any (Rows.abstractionProductIsTaskSpec.pre6 enc Try.prog Try.f12 Rows.abstractionProductIsTaskRow.domain false) (Rows.abstractionProductIsTaskSpec.post enc Try.prog Try.f12 false true false false) := by
  refine returnsInHanded_of_change (C := Try.checked) own started (by kernel_rfl) Try.func12
    (ChangeSpec.witness6 (enc := enc) (C := Try.checked) false ⟨#[], #[.agg #[.slice none 0 0, .slice none 0 0, .slice none 0 0, .slice none 0 0]], []⟩ 8 (by kernel_rfl) (by kernel_rfl) (by kernel_rfl) (by kernel_rfl)) ?_
  intro W base args ds gs before hval0 hW hcnd _
  have hval : ∀ (j : Nat) t v, Try.f12.params[j]? = some t → args[j]? = some v → Value.okWide Try.prog W .any base t v := hval0
  have hW' := hW
  obtain ⟨p, q, hA0, hV, rfl, hfz, hnd⟩ := hW
  have hA : DataW.TrodAll enc Try.prog W 0 (fun _ => true) true Try.f12.params.toList args.toList ds p := hA0
  rw [Try.params12] at hA hval
  obtain ⟨v0, vs0, d0, ds0, p0, q0, hargs, rfl, rfl, h0, r0⟩ := trodAll_cons hA
  obtain ⟨rfl, rfl, rfl⟩ := trodAll_nil r0
  obtain rfl : args = #[v0] := by cases args; simp_all
  obtain ⟨rfl, rfl⟩ := trodVars_none hV
  have k0 := h0
  have lt0 : ∀ x ∈ p0, x.block < W.heap.size := by obtain ⟨m, hm⟩ := k0; exact DataW.trod_lt m _ _ _ hm
  obtain ⟨a0, rfl, _⟩ := okWide_struct Try.underlying26 (hval 0 26 v0 rfl rfl)
  obtain ⟨b0, g0, e0⟩ := Dec.argG dec26 (fun b => rfl) h0
  clear hA0 hval0
  refine ((law_AbstractionProductIsTask_does b0 ).run zO W [.agg a0] rfl (reps_cons e0 reps_nil)).mono fun e W' ⟨x, he, bel, hr⟩ => ?_
  obtain rfl := hr.isB
  subst he
  exact ⟨_, rfl, _, _, _, [], _, [], hW', trodAll_mk1 (shut_bool Try.underlying4 _), (trodAll_cons_mk (Below.trod laidOut (by kernel_rfl) (of_decide_eq_true (by kernel_rfl)) k0 bel lt0) trodAll_mk0), rfl, bel.frame _, fun h => by cases h⟩

theorem over : Rows.abstractionProductIsTaskRow.holds Try.pinned (OpenSpec.ofChange Rows.abstractionProductIsTaskSpec) :=
  OpenClaim.holds_of_wide 12 Try.f12 rfl rfl rfl rfl rfl rfl rfl ⟨rfl, rfl, rfl, rfl, rfl⟩ rfl rfl rfl rfl rfl (by kernel_rfl) Try.func12 (by kernel_rfl)
    (of_decide_eq_true (by kernel_rfl)) (by unfold Func.isWrapper; first | (rw [if_pos (by decide +kernel)]; kernel_rfl) | (rw [if_neg (by decide +kernel)]; exact ⟨rfl, rfl⟩))
    (fun os started H enc _ => lifted os started H enc)

theorem holds : Rows.AbstractionProductIsTaskSaid := over
end AbstractionProductIsTask
end Go.Proofs.Ytohlmcebphcokaa

