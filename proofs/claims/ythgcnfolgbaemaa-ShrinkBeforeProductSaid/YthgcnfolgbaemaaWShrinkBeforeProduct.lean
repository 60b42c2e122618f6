/- one factor of a product can be replaced by its quotient by the bisimulation without a change of the distance of the initial state. -/
import Derived.Test.YthgcnfolgbaemaaC7
import Derived.Test.YthgcnfolgbaemaaRows
import Derived.WalkKit
import Derived.ProofKit
import Derived.OpenShut
import Derived.ChangeOld
import Derived.Below
import Derived.KernelRfl
set_option linter.unusedVariables false
set_option linter.unusedSimpArgs false
namespace Go.Proofs.Ythgcnfolgbaemaa
namespace ShrinkBeforeProduct
open Go.Eng Go.ChangeShapes Go.WideShapes Go.ChangeAt Go.RowKit

theorem own : ownKnob Try.prog.godebug = Option.none := by kernel_rfl
theorem laidOut : laidOutB Try.prog = true := by kernel_rfl
theorem dec3 : Dec Try.prog 3 1 (fun n : Int => [D.v (.int .i64 n)]) in64 := Dec.int Try.underlying3 (by kernel_rfl)
theorem dec57 : Dec Try.prog 57 3 arcC (fun _ => True) := Dec.map (Dec.struct3 Try.underlying57 (by kernel_rfl) rfl rfl rfl dec3 dec3 dec3) (fun b => ⟨b.1, b.2.1, b.2.2⟩) (fun c => (c.fr, c.lab, c.to)) (fun _ => rfl) (fun _ => rfl) (fun _ _ => trivial)
theorem dec22 : Dec Try.prog 22 1 (fun l : List Arc => [arcsD l]) (fun l => ∀ b, b ∈ l → (fun _ => True) b) := Dec.slice Try.underlying22 (by kernel_rfl) dec57 (by decide)
theorem dec23 : Dec Try.prog 23 1 (fun l : List Int => [ints l]) (fun l => ∀ b, b ∈ l → in64 b) := Dec.slice Try.underlying23 (by kernel_rfl) dec3 (by decide)
theorem dec25 : Dec Try.prog 25 5 absC (fun a => in64 a.states) := Dec.map (Dec.struct5 Try.underlying25 (by kernel_rfl) rfl rfl rfl rfl rfl dec3 dec3 dec22 dec3 dec23) (fun b => ⟨b.1, b.2.1, b.2.2.1, b.2.2.2.1, b.2.2.2.2⟩) (fun c => (c.states, c.labels, c.arcs, c.init, c.goals)) (fun _ => rfl) (fun _ => rfl) (fun _ h => h.1)

set_option maxRecDepth 100000 in
theorem lifted (os : Os) (started : os.Started) (H : Type) (enc : TypeId × Value → H) :
    ReturnsInHanded {} Try.checked os 8 .any (Rows.shrinkBeforeProductSpec.pre6 enc Try.prog Try.f8 Rows.shrinkBeforeProductRow.domain false) (Rows.shrinkBeforeProductSpec.post enc Try.prog Try.f8 false true false false) := by
  refine returnsInHanded_of_change (C := Try.checked) own started (by kernel_rfl) Try.func8
    (ChangeSpec.witness6 (enc := enc) (C := Try.checked) false ⟨#[], #[.agg #[.int .i64 0, .int .i64 0, .slice none 0 0, .int .i64 0, .slice none 0 0], .agg #[.int .i64 0, .int .i64 0, .slice none 0 0, .int .i64 0, .slice none 0 0], .slice none 0 0], []⟩ 8 (by kernel_rfl) (by kernel_rfl) (by kernel_rfl) (by kernel_rfl)) ?_
  intro W base args ds gs before hval0 hW hcnd _
  have hval : ∀ (j : Nat) t v, Try.f8.params[j]? = some t → args[j]? = some v → Value.okWide Try.prog W .any base t v := hval0
  have hW' := hW
  obtain ⟨p, q, hA0, hV, rfl, hfz, hnd⟩ := hW
  have hA : DataW.TrodAll enc Try.prog W 0 (fun _ => true) true Try.f8.params.toList args.toList ds p := hA0
  rw [Try.params8] at hA hval
  obtain ⟨v0, vs0, d0, ds0, p0, q0, hargs, rfl, rfl, h0, r0⟩ := trodAll_cons hA
  obtain ⟨v1, vs1, d1, ds1, p1, q1, rfl, rfl, rfl, h1, r1⟩ := trodAll_cons r0
  obtain ⟨v2, vs2, d2, ds2, p2, q2, rfl, rfl, rfl, h2, r2⟩ := trodAll_cons r1
  obtain ⟨rfl, rfl, rfl⟩ := trodAll_nil r2
  obtain rfl : args = #[v0, v1, v2] := by cases args; simp_all
  obtain ⟨rfl, rfl⟩ := trodVars_none hV
  have k0 := h0
  have lt0 : ∀ x ∈ p0, x.block < W.heap.size := by obtain ⟨m, hm⟩ := k0; exact DataW.trod_lt m _ _ _ hm
  obtain ⟨a0, rfl, _⟩ := okWide_struct Try.underlying25 (hval 0 25 v0 rfl rfl)
  obtain ⟨b0, g0, e0⟩ := Dec.argG dec25 (fun b => rfl) h0
  have k1 := h1
  have lt1 : ∀ x ∈ p1, x.block < W.heap.size := by obtain ⟨m, hm⟩ := k1; exact DataW.trod_lt m _ _ _ hm
  obtain ⟨a1, rfl, _⟩ := okWide_struct Try.underlying25 (hval 1 25 v1 rfl rfl)
  obtain ⟨b1, g1, e1⟩ := Dec.argG dec25 (fun b => rfl) h1
  have k2 := h2
  have lt2 : ∀ x ∈ p2, x.block < W.heap.size := by obtain ⟨m, hm⟩ := k2; exact DataW.trod_lt m _ _ _ hm
  obtain ⟨a2, len2, cap2, rfl⟩ := okWide_slice Try.underlying23 (hval 2 23 v2 rfl rfl)
  obtain ⟨b2, g2, e2⟩ := Dec.arg dec23 rfl h2
  clear hA0 hval0
  refine ((law_ShrinkBeforeProduct_does b0 b1 b2 g0 g1).run zO W [.agg a0, .agg a1, .slice a2 len2 cap2] rfl (reps_cons e0 (reps_cons e1 (reps_cons e2 reps_nil)))).mono fun e W' ⟨x, he, bel, hr⟩ => ?_
  obtain rfl := hr.isB
  subst he
  exact ⟨_, rfl, _, _, _, [], _, [], hW', trodAll_mk1 (shut_bool Try.underlying4 _), (trodAll_cons_mk (Below.trod laidOut (by kernel_rfl) (of_decide_eq_true (by kernel_rfl)) k0 bel lt0) (trodAll_cons_mk (Below.trod laidOut (by kernel_rfl) (of_decide_eq_true (by kernel_rfl)) k1 bel lt1) (trodAll_cons_mk (Below.trod laidOut (by kernel_rfl) (of_decide_eq_true (by kernel_rfl)) k2 bel lt2) trodAll_mk0))), rfl, bel.frame _, fun h => by cases h⟩

theorem over : Rows.shrinkBeforeProductRow.holds Try.pinned (OpenSpec.ofChange Rows.shrinkBeforeProductSpec) :=
  OpenClaim.holds_of_wide 8 Try.f8 rfl rfl rfl rfl rfl rfl rfl ⟨rfl, rfl, rfl, rfl, rfl⟩ rfl rfl rfl rfl rfl (by kernel_rfl) Try.func8 (by kernel_rfl)
    (of_decide_eq_true (by kernel_rfl)) (by unfold Func.isWrapper; first | (rw [if_pos (by decide +kernel)]; kernel_rfl) | (rw [if_neg (by decide +kernel)]; exact ⟨rfl, rfl⟩))
    (fun os started H enc _ => lifted os started H enc)

theorem holds : Rows.ShrinkBeforeProductSaid := over
end ShrinkBeforeProduct
end Go.Proofs.Ythgcnfolgbaemaa

