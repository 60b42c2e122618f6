/- labels.Equivalent reports whether two labels are equivalent, for every list of abstractions, costs, exception and labels. No conditions. -/
import Derived.Test.YtohlmcebphcokaaA8
import Derived.Test.YtohlmcebphcokaaRows
import Derived.WalkKit
import Derived.ProofKit
import Derived.OpenShut
import Derived.ChangeOld
import Derived.Below
import Derived.KernelRfl
set_option linter.unusedVariables false
set_option linter.unusedSimpArgs false
namespace Go.Proofs.Ytohlmcebphcokaa
namespace LabelsEquivalentMatchesSpec
open Go.Eng Go.ChangeShapes Go.WideShapes Go.ChangeAt Go.RowKit

theorem own : ownKnob Try.prog.godebug = Option.none := by kernel_rfl
theorem laidOut : laidOutB Try.prog = true := by kernel_rfl
theorem dec3 : Dec Try.prog 3 1 (fun n : Int => [D.v (.int .i64 n)]) in64 := Dec.int Try.underlying3 (by kernel_rfl)
theorem dec93 : Dec Try.prog 93 3 arcC (fun _ => True) := Dec.map (Dec.struct3 Try.underlying93 (by kernel_rfl) rfl rfl rfl dec3 dec3 dec3) (fun b => ⟨b.1, b.2.1, b.2.2⟩) (fun c => (c.fr, c.lab, c.to)) (fun _ => rfl) (fun _ => rfl) (fun _ _ => trivial)
theorem dec44 : Dec Try.prog 44 1 (fun l : List Arc => [arcsD l]) (fun l => ∀ b, b ∈ l → (fun _ => True) b) := Dec.slice Try.underlying44 (by kernel_rfl) dec93 (by decide)
theorem dec22 : Dec Try.prog 22 1 (fun l : List Int => [ints l]) (fun l => ∀ b, b ∈ l → in64 b) := Dec.slice Try.underlying22 (by kernel_rfl) dec3 (by decide)
theorem dec46 : Dec Try.prog 46 5 absC (fun a => in64 a.states) := Dec.map (Dec.struct5 Try.underlying46 (by kernel_rfl) rfl rfl rfl rfl rfl dec3 dec3 dec44 dec3 dec22) (fun b => ⟨b.1, b.2.1, b.2.2.1, b.2.2.2.1, b.2.2.2.2⟩) (fun c => (c.states, c.labels, c.arcs, c.init, c.goals)) (fun _ => rfl) (fun _ => rfl) (fun _ h => h.1)
theorem dec34 : Dec Try.prog 34 1 (fun l : List Abs => [abssD l]) (fun l => ∀ b, b ∈ l → (fun a : Abs => in64 a.states) b) := Dec.slice Try.underlying34 (by kernel_rfl) dec46 (by decide)

set_option maxRecDepth 100000 in
theorem lifted (os : Os) (started : os.Started) (H : Type) (enc : TypeId × Value → H) :
    ReturnsInHanded {} Try.checked os 6 .any (Rows.labelsEquivalentMatchesSpecSpec.pre6 enc Try.prog Try.f6 Rows.labelsEquivalentMatchesSpecRow.domain false) (Rows.labelsEquivalentMatchesSpecSpec.post enc Try.prog Try.f6 false true false false) := by
  refine returnsInHanded_of_change (C := Try.checked) own started (by kernel_rfl) Try.func6
    (ChangeSpec.witness6 (enc := enc) (C := Try.checked) false ⟨#[], #[.slice none 0 0, .slice none 0 0, .int .i64 0, .int .i64 0, .int .i64 0], []⟩ 8 (by kernel_rfl) (by kernel_rfl) (by kernel_rfl) (by kernel_rfl)) ?_
  intro W base args ds gs before hval0 hW hcnd _
  have hval : ∀ (j : Nat) t v, Try.f6.params[j]? = some t → args[j]? = some v → Value.okWide Try.prog W .any base t v := hval0
  have hW' := hW
  obtain ⟨p, q, hA0, hV, rfl, hfz, hnd⟩ := hW
  have hA : DataW.TrodAll enc Try.prog W 0 (fun _ => true) true Try.f6.params.toList args.toList ds p := hA0
  rw [Try.params6] at hA hval
  obtain ⟨v0, vs0, d0, ds0, p0, q0, hargs, rfl, rfl, h0, r0⟩ := trodAll_cons hA
  obtain ⟨v1, vs1, d1, ds1, p1, q1, rfl, rfl, rfl, h1, r1⟩ := trodAll_cons r0
  obtain ⟨v2, vs2, d2, ds2, p2, q2, rfl, rfl, rfl, h2, r2⟩ := trodAll_cons r1
  obtain ⟨v3, vs3, d3, ds3, p3, q3, rfl, rfl, rfl, h3, r3⟩ := trodAll_cons r2
  obtain ⟨v4, vs4, d4, ds4, p4, q4, rfl, rfl, rfl, h4, r4⟩ := trodAll_cons r3
  obtain ⟨rfl, rfl, rfl⟩ := trodAll_nil r4
  obtain rfl : args = #[v0, v1, v2, v3, v4] := by cases args; simp_all
  obtain ⟨rfl, rfl⟩ := trodVars_none hV
  have k0 := h0
  have lt0 : ∀ x ∈ p0, x.block < W.heap.size := by obtain ⟨m, hm⟩ := k0; exact DataW.trod_lt m _ _ _ hm
  obtain ⟨a0, len0, cap0, rfl⟩ := okWide_slice Try.underlying34 (hval 0 34 v0 rfl rfl)
  obtain ⟨b0, g0, e0⟩ := Dec.arg dec34 rfl h0
  have k1 := h1
  have lt1 : ∀ x ∈ p1, x.block < W.heap.size := by obtain ⟨m, hm⟩ := k1; exact DataW.trod_lt m _ _ _ hm
  obtain ⟨a1, len1, cap1, rfl⟩ := okWide_slice Try.underlying22 (hval 1 22 v1 rfl rfl)
  obtain ⟨b1, g1, e1⟩ := Dec.arg dec22 rfl h1
  have k2 := h2
  have lt2 : ∀ x ∈ p2, x.block < W.heap.size := by obtain ⟨m, hm⟩ := k2; exact DataW.trod_lt m _ _ _ hm
  obtain ⟨a2, rfl⟩ := okWide_int Try.underlying3 (hval 2 3 v2 rfl rfl)
  obtain ⟨b2, g2, e2⟩ := Dec.arg dec3 rfl h2
  have k3 := h3
  have lt3 : ∀ x ∈ p3, x.block < W.heap.size := by obtain ⟨m, hm⟩ := k3; exact DataW.trod_lt m _ _ _ hm
  obtain ⟨a3, rfl⟩ := okWide_int Try.underlying3 (hval 3 3 v3 rfl rfl)
  obtain ⟨b3, g3, e3⟩ := Dec.arg dec3 rfl h3
  have k4 := h4
  have lt4 : ∀ x ∈ p4, x.block < W.heap.size := by obtain ⟨m, hm⟩ := k4; exact DataW.trod_lt m _ _ _ hm
  obtain ⟨a4, rfl⟩ := okWide_int Try.underlying3 (hval 4 3 v4 rfl rfl)
  obtain ⟨b4, g4, e4⟩ := Dec.arg dec3 rfl h4
  clear hA0 hval0
  refine ((law_LabelsEquivalentMatchesSpec_does b0 b1 b2 b3 b4 (fun k hk => g0 _ (nth_mem (by omega) (by omega)))).run zO W [.slice a0 len0 cap0, .slice a1 len1 cap1, _, _, _] rfl (reps_cons e0 (reps_cons e1 (reps_cons e2 (reps_cons e3 (reps_cons e4 reps_nil)))))).mono fun e W' ⟨x, he, bel, hr⟩ => ?_
  obtain rfl := hr.isB
  subst he
  exact ⟨_, rfl, _, _, _, [], _, [], hW', trodAll_mk1 (shut_bool Try.underlying4 _), (trodAll_cons_mk (Below.trod laidOut (by kernel_rfl) (of_decide_eq_true (by kernel_rfl)) k0 bel lt0) (trodAll_cons_mk (Below.trod laidOut (by kernel_rfl) (of_decide_eq_true (by kernel_rfl)) k1 bel lt1) (trodAll_cons_mk (Below.trod laidOut (by kernel_rfl) (of_decide_eq_true (by kernel_rfl)) k2 bel lt2) (trodAll_cons_mk (Below.trod laidOut (by kernel_rfl) (of_decide_eq_true (by kernel_rfl)) k3 bel lt3) (trodAll_cons_mk (Below.trod laidOut (by kernel_rfl) (of_decide_eq_true (by kernel_rfl)) k4 bel lt4) trodAll_mk0))))), rfl, bel.frame _, fun h => by cases h⟩

theorem over : Rows.labelsEquivalentMatchesSpecRow.holds Try.pinned (OpenSpec.ofChange Rows.labelsEquivalentMatchesSpecSpec) :=
  OpenClaim.holds_of_wide 6 Try.f6 rfl rfl rfl rfl rfl rfl rfl ⟨rfl, rfl, rfl, rfl, rfl⟩ rfl rfl rfl rfl rfl (by kernel_rfl) Try.func6 (by kernel_rfl)
    (of_decide_eq_true (by kernel_rfl)) (by unfold Func.isWrapper; first | (rw [if_pos (by decide +kernel)]; kernel_rfl) | (rw [if_neg (by decide +kernel)]; exact ⟨rfl, rfl⟩))
    (fun os started H enc _ => lifted os started H enc)

theorem holds : Rows.LabelsEquivalentMatchesSpecSaid := over
end LabelsEquivalentMatchesSpec
end Go.Proofs.Ytohlmcebphcokaa

