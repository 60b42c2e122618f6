/- The law ProjectConsistent returns true at every input and leaves its arguments as they were. No conditions. -/
import Derived.Test.YtofjjeogoobopaaRows
import Derived.Test.YtofjjeogoobopaaLawProj
import Derived.Test.YtofjjeogoobopaaEngF
import Derived.WalkKit
import Derived.ProofKit
import Derived.OpenShut
import Derived.ChangeOld
import Derived.Below
import Derived.KernelRfl
set_option linter.unusedVariables false
set_option linter.unusedSimpArgs false
namespace Go.Proofs.Ytofjjeogoobopaa
namespace ProjectConsistent
open Go.Eng Go.ChangeShapes Go.WideShapes Go.ChangeAt Go.RowKit

theorem own : ownKnob Try.prog.godebug = Option.none := by kernel_rfl
theorem laidOut : laidOutB Try.prog = true := by kernel_rfl
theorem dec3 : Dec Try.prog 3 1 fun n : Int => [D.v (.int .i64 n)] := Dec.int Try.underlying3 (by kernel_rfl)
theorem dec22 : Dec Try.prog 22 1 fun l : List Int => [ints l] := Dec.slice Try.underlying22 (by kernel_rfl) dec3 (by decide)
theorem dec88 : Dec Try.prog 88 2 asg := Dec.struct2 Try.underlying88 (by kernel_rfl) rfl rfl dec3 dec3
theorem dec23 : Dec Try.prog 23 1 fun l : List Asg => [asgs l] := Dec.slice Try.underlying23 (by kernel_rfl) dec88 (by decide)
theorem dec60 : Dec Try.prog 60 3 opC := Dec.map (Dec.struct3 Try.underlying60 (by kernel_rfl) rfl rfl rfl dec23 dec23 dec3) (fun b => ⟨b.1, b.2.1, b.2.2⟩) (fun c => (c.pre, c.post, c.cost)) (fun _ => rfl) (fun _ => rfl)
theorem dec24 : Dec Try.prog 24 1 fun l : List MOp => [opsD l] := Dec.slice Try.underlying24 (by kernel_rfl) dec60 (by decide)
theorem dec26 : Dec Try.prog 26 4 (fun m : Multi => [ints m.sizes, ints m.init, asgs m.goal, opsD m.ops]) := Dec.map (Dec.struct4 Try.underlying26 (by kernel_rfl) rfl rfl rfl rfl dec22 dec22 dec23 dec24) (fun b => ⟨b.1, b.2.1, b.2.2.1, b.2.2.2⟩) (fun c => (c.sizes, c.init, c.goal, c.ops)) (fun _ => rfl) (fun _ => rfl)

set_option maxRecDepth 100000 in
theorem lifted (os : Os) (started : os.Started) (H : Type) (enc : TypeId × Value → H) :
    ReturnsInHanded {} Try.checked os 13 .any (Rows.projectConsistentSpec.pre6 enc Try.prog Try.f13 Rows.projectConsistentRow.domain false) (Rows.projectConsistentSpec.post enc Try.prog Try.f13 false true false false) := by
  refine returnsInHanded_of_change (C := Try.checked) own started (by kernel_rfl) Try.func13
    (ChangeSpec.witness6 (enc := enc) (C := Try.checked) false ⟨#[], #[.agg #[.slice none 0 0, .slice none 0 0, .slice none 0 0, .slice none 0 0], .slice none 0 0, .slice none 0 0, .int .i64 0], []⟩ 8 (by kernel_rfl) (by kernel_rfl) (by kernel_rfl) (by kernel_rfl)) ?_
  intro W base args ds gs before hval0 hW hcnd _
  have hval : ∀ (j : Nat) t v, Try.f13.params[j]? = some t → args[j]? = some v → Value.okWide Try.prog W .any base t v := hval0
  have hW' := hW
  obtain ⟨p, q, hA0, hV, rfl, hfz, hnd⟩ := hW
  have hA : DataW.TrodAll enc Try.prog W 0 (fun _ => true) true Try.f13.params.toList args.toList ds p := hA0
  rw [Try.params13] at hA hval
  obtain ⟨v0, vs0, d0, ds0, p0, q0, hargs, rfl, rfl, h0, r0⟩ := trodAll_cons hA
  obtain ⟨v1, vs1, d1, ds1, p1, q1, rfl, rfl, rfl, h1, r1⟩ := trodAll_cons r0
  obtain ⟨v2, vs2, d2, ds2, p2, q2, rfl, rfl, rfl, h2, r2⟩ := trodAll_cons r1
  obtain ⟨v3, vs3, d3, ds3, p3, q3, rfl, rfl, rfl, h3, r3⟩ := trodAll_cons r2
  obtain ⟨rfl, rfl, rfl⟩ := trodAll_nil r3
  obtain rfl : args = #[v0, v1, v2, v3] := by cases args; simp_all
  obtain ⟨rfl, rfl⟩ := trodVars_none hV
  have k0 := h0
  have lt0 : ∀ x ∈ p0, x.block < W.heap.size := by obtain ⟨m, hm⟩ := k0; exact DataW.trod_lt m _ _ _ hm
  obtain ⟨a0, rfl, _⟩ := okWide_struct Try.underlying26 (hval 0 26 v0 rfl rfl)
  obtain ⟨b0, e0⟩ := Dec.argG dec26 (fun b => rfl) h0
  have k1 := h1
  have lt1 : ∀ x ∈ p1, x.block < W.heap.size := by obtain ⟨m, hm⟩ := k1; exact DataW.trod_lt m _ _ _ hm
  obtain ⟨a1, len1, cap1, rfl⟩ := okWide_slice Try.underlying22 (hval 1 22 v1 rfl rfl)
  obtain ⟨b1, e1⟩ := Dec.arg dec22 rfl h1
  have k2 := h2
  have lt2 : ∀ x ∈ p2, x.block < W.heap.size := by obtain ⟨m, hm⟩ := k2; exact DataW.trod_lt m _ _ _ hm
  obtain ⟨a2, len2, cap2, rfl⟩ := okWide_slice Try.underlying22 (hval 2 22 v2 rfl rfl)
  obtain ⟨b2, e2⟩ := Dec.arg dec22 rfl h2
  have k3 := h3
  have lt3 : ∀ x ∈ p3, x.block < W.heap.size := by obtain ⟨m, hm⟩ := k3; exact DataW.trod_lt m _ _ _ hm
  obtain ⟨a3, rfl⟩ := okWide_int Try.underlying3 (hval 3 3 v3 rfl rfl)
  obtain ⟨b3, e3⟩ := Dec.arg dec3 rfl h3
  clear hA0 hval0
  refine ((law_ProjectConsistent_does b0 b1 b2 b3).run zO W [.agg a0, .slice a1 len1 cap1, .slice a2 len2 cap2, _] rfl (reps_cons e0 (reps_cons e1 (reps_cons e2 (reps_cons e3 reps_nil))))).mono fun e W' ⟨x, he, bel, hr⟩ => ?_
  obtain rfl := hr.isB
  subst he
  exact ⟨_, rfl, _, _, _, [], _, [], hW', trodAll_mk1 (shut_bool Try.underlying4 _), (trodAll_cons_mk (Below.trod laidOut (by kernel_rfl) (of_decide_eq_true (by kernel_rfl)) k0 bel lt0) (trodAll_cons_mk (Below.trod laidOut (by kernel_rfl) (of_decide_eq_true (by kernel_rfl)) k1 bel lt1) (trodAll_cons_mk (Below.trod laidOut (by kernel_rfl) (of_decide_eq_true (by kernel_rfl)) k2 bel lt2) (trodAll_cons_mk (Below.trod laidOut (by kernel_rfl) (of_decide_eq_true (by kernel_rfl)) k3 bel lt3) trodAll_mk0)))), rfl, bel.frame _, fun h => by cases h⟩

theorem over : Rows.projectConsistentRow.holds Try.pinned (OpenSpec.ofChange Rows.projectConsistentSpec) :=
  OpenClaim.holds_of_wide 13 Try.f13 rfl rfl rfl rfl rfl rfl rfl ⟨rfl, rfl, rfl, rfl, rfl⟩ rfl rfl rfl rfl rfl (by kernel_rfl) Try.func13 (by kernel_rfl)
    (of_decide_eq_true (by kernel_rfl)) (by unfold Func.isWrapper; first | (rw [if_pos (by decide +kernel)]; kernel_rfl) | (rw [if_neg (by decide +kernel)]; exact ⟨rfl, rfl⟩))
    (fun os started H enc _ => lifted os started H enc)

theorem holds : Rows.ProjectConsistentSaid := over
end ProjectConsistent
end Go.Proofs.Ytofjjeogoobopaa
