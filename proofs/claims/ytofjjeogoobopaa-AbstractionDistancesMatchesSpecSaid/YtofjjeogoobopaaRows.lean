/-
  No cell of these rows narrows 'for every input' (looked for: loops, veiled, ifaces, maps, wideKeys, modest, calm, conditions, laid).
  DERIVED. THE GIVEN ROWS OF THIS SEAT. 12 by the template 'for every input the law returns true; each argument reads behind the call as it read before'; 0 by the template 'total and deterministic' (their statements: YtofjjeogoobopaaTotals.lean).
  GIVEN WITH THE SEED: the statements are not yours to turn. If you find one false, say at which input.
  Laid BY PROGRAM, IN A SANDBOX (cutbox-rows.mjs): the forced cells as the released guide's own fill.sh prints them over the translation 84f5f7e3e8ec02ed… (all of the seat's roots in one cut). By AI agents, Wed Nov 11 2026. No macro, syntax, notation, axiom, sorry.
-/
import Derived.Test.YtofjjeogoobopaaChecked
import GoSem.Claim
import GoSem.ClaimJoined
import GoSem.ClaimMapViews
import Derived.JoinedTies
import Derived.KernelRfl
namespace Go.Proofs.Ytofjjeogoobopaa
/- THE CELL 'sum', in the pinned program and in every row, IS THE sha256 OF THE DUMP (.gsa) THAT YtofjjeogoobopaaProg.lean LOADS. Nothing in Lean hashes anything: it is a label: what it is worth is what the hold of that sum in a sandbox is worth. -/
noncomputable def Try.pinned : Pinned := { name := "ytofjjeogoobopaa", sum := "84f5f7e3e8ec02ed638dc26884fd10df4d17a9b75638d5d5caf9556943a4995e", checked := Try.checked }
namespace Rows
def none {H : Type} : Left H := { results := [], args := [] }

/-- 'helmsmanlaw4.PotentialSlackMatchesSpec': WHATEVER THE INPUT: true; the input reads as it did. -/
def potentialSlackMatchesSpecSpec : ChangeSpec := { name := "potentialSlackMatchesSpec", fn := fun _ => fun
  | [d1, d2] => { results := [.lit (.bool true)], args := [d1, d2] }
  | _ => none }
def potentialSlackMatchesSpecRow : OpenClaim := { program := "ytofjjeogoobopaa", sum := "84f5f7e3e8ec02ed638dc26884fd10df4d17a9b75638d5d5caf9556943a4995e", func := "helmsman/helmsmanlaw4.PotentialSlackMatchesSpec", spec := "potentialSlackMatchesSpec", unfollowed := true, recurses := true, apart := false }
def PotentialSlackMatchesSpecSaid : Prop := potentialSlackMatchesSpecRow.holds Try.pinned (OpenSpec.ofChange potentialSlackMatchesSpecSpec)

/-- ITS FALSE NEIGHBOUR: 'it returns false'. Refute it at one input. -/
def potentialSlackMatchesSpecWrong : ChangeSpec := { name := "potentialSlackMatchesSpec", fn := fun _ => fun
  | [d1, d2] => { results := [.lit (.bool false)], args := [d1, d2] }
  | _ => none }
def PotentialSlackMatchesSpecWrongFalsely : Prop := potentialSlackMatchesSpecRow.holds Try.pinned (OpenSpec.ofChange potentialSlackMatchesSpecWrong)

/-- 'helmsmanlaw4.PotentialAdmissibleBounds': WHATEVER THE INPUT: true; the input reads as it did. -/
def potentialAdmissibleBoundsSpec : ChangeSpec := { name := "potentialAdmissibleBounds", fn := fun _ => fun
  | [d1, d2, d3] => { results := [.lit (.bool true)], args := [d1, d2, d3] }
  | _ => none }
def potentialAdmissibleBoundsRow : OpenClaim := { program := "ytofjjeogoobopaa", sum := "84f5f7e3e8ec02ed638dc26884fd10df4d17a9b75638d5d5caf9556943a4995e", func := "helmsman/helmsmanlaw4.PotentialAdmissibleBounds", spec := "potentialAdmissibleBounds", unfollowed := true, recurses := true, apart := false }
def PotentialAdmissibleBoundsSaid : Prop := potentialAdmissibleBoundsRow.holds Try.pinned (OpenSpec.ofChange potentialAdmissibleBoundsSpec)

/-- ITS FALSE NEIGHBOUR: 'it returns false'. Refute it at one input. -/
def potentialAdmissibleBoundsWrong : ChangeSpec := { name := "potentialAdmissibleBounds", fn := fun _ => fun
  | [d1, d2, d3] => { results := [.lit (.bool false)], args := [d1, d2, d3] }
  | _ => none }
def PotentialAdmissibleBoundsWrongFalsely : Prop := potentialAdmissibleBoundsRow.holds Try.pinned (OpenSpec.ofChange potentialAdmissibleBoundsWrong)

/-- 'helmsmanlaw4.PotentialShift': WHATEVER THE INPUT: true; the input reads as it did. -/
def potentialShiftSpec : ChangeSpec := { name := "potentialShift", fn := fun _ => fun
  | [d1, d2, d3, d4, d5, d6] => { results := [.lit (.bool true)], args := [d1, d2, d3, d4, d5, d6] }
  | _ => none }
def potentialShiftRow : OpenClaim := { program := "ytofjjeogoobopaa", sum := "84f5f7e3e8ec02ed638dc26884fd10df4d17a9b75638d5d5caf9556943a4995e", func := "helmsman/helmsmanlaw4.PotentialShift", spec := "potentialShift", unfollowed := true, recurses := true, apart := false }
def PotentialShiftSaid : Prop := potentialShiftRow.holds Try.pinned (OpenSpec.ofChange potentialShiftSpec)

/-- ITS FALSE NEIGHBOUR: 'it returns false'. Refute it at one input. -/
def potentialShiftWrong : ChangeSpec := { name := "potentialShift", fn := fun _ => fun
  | [d1, d2, d3, d4, d5, d6] => { results := [.lit (.bool false)], args := [d1, d2, d3, d4, d5, d6] }
  | _ => none }
def PotentialShiftWrongFalsely : Prop := potentialShiftRow.holds Try.pinned (OpenSpec.ofChange potentialShiftWrong)

/-- 'helmsmanlaw4.PotentialBestAdmissible': WHATEVER THE INPUT: true; the input reads as it did. -/
def potentialBestAdmissibleSpec : ChangeSpec := { name := "potentialBestAdmissible", fn := fun _ => fun
  | [d1, d2, d3] => { results := [.lit (.bool true)], args := [d1, d2, d3] }
  | _ => none }
def potentialBestAdmissibleRow : OpenClaim := { program := "ytofjjeogoobopaa", sum := "84f5f7e3e8ec02ed638dc26884fd10df4d17a9b75638d5d5caf9556943a4995e", func := "helmsman/helmsmanlaw4.PotentialBestAdmissible", spec := "potentialBestAdmissible", unfollowed := true, recurses := true, apart := false }
def PotentialBestAdmissibleSaid : Prop := potentialBestAdmissibleRow.holds Try.pinned (OpenSpec.ofChange potentialBestAdmissibleSpec)

/-- ITS FALSE NEIGHBOUR: 'it returns false'. Refute it at one input. -/
def potentialBestAdmissibleWrong : ChangeSpec := { name := "potentialBestAdmissible", fn := fun _ => fun
  | [d1, d2, d3] => { results := [.lit (.bool false)], args := [d1, d2, d3] }
  | _ => none }
def PotentialBestAdmissibleWrongFalsely : Prop := potentialBestAdmissibleRow.holds Try.pinned (OpenSpec.ofChange potentialBestAdmissibleWrong)

/-- 'helmsmanlaw4.PotentialValueMatchesSpec': WHATEVER THE INPUT: true; the input reads as it did. -/
def potentialValueMatchesSpecSpec : ChangeSpec := { name := "potentialValueMatchesSpec", fn := fun _ => fun
  | [d1, d2, d3] => { results := [.lit (.bool true)], args := [d1, d2, d3] }
  | _ => none }
def potentialValueMatchesSpecRow : OpenClaim := { program := "ytofjjeogoobopaa", sum := "84f5f7e3e8ec02ed638dc26884fd10df4d17a9b75638d5d5caf9556943a4995e", func := "helmsman/helmsmanlaw4.PotentialValueMatchesSpec", spec := "potentialValueMatchesSpec", unfollowed := true, recurses := true, apart := false }
def PotentialValueMatchesSpecSaid : Prop := potentialValueMatchesSpecRow.holds Try.pinned (OpenSpec.ofChange potentialValueMatchesSpecSpec)

/-- ITS FALSE NEIGHBOUR: 'it returns false'. Refute it at one input. -/
def potentialValueMatchesSpecWrong : ChangeSpec := { name := "potentialValueMatchesSpec", fn := fun _ => fun
  | [d1, d2, d3] => { results := [.lit (.bool false)], args := [d1, d2, d3] }
  | _ => none }
def PotentialValueMatchesSpecWrongFalsely : Prop := potentialValueMatchesSpecRow.holds Try.pinned (OpenSpec.ofChange potentialValueMatchesSpecWrong)

/-- 'helmsmanlaw4.PotentialDecrease': WHATEVER THE INPUT: true; the input reads as it did. -/
def potentialDecreaseSpec : ChangeSpec := { name := "potentialDecrease", fn := fun _ => fun
  | [d1, d2, d3, d4] => { results := [.lit (.bool true)], args := [d1, d2, d3, d4] }
  | _ => none }
def potentialDecreaseRow : OpenClaim := { program := "ytofjjeogoobopaa", sum := "84f5f7e3e8ec02ed638dc26884fd10df4d17a9b75638d5d5caf9556943a4995e", func := "helmsman/helmsmanlaw4.PotentialDecrease", spec := "potentialDecrease", unfollowed := true, recurses := true, apart := false }
def PotentialDecreaseSaid : Prop := potentialDecreaseRow.holds Try.pinned (OpenSpec.ofChange potentialDecreaseSpec)

/-- ITS FALSE NEIGHBOUR: 'it returns false'. Refute it at one input. -/
def potentialDecreaseWrong : ChangeSpec := { name := "potentialDecrease", fn := fun _ => fun
  | [d1, d2, d3, d4] => { results := [.lit (.bool false)], args := [d1, d2, d3, d4] }
  | _ => none }
def PotentialDecreaseWrongFalsely : Prop := potentialDecreaseRow.holds Try.pinned (OpenSpec.ofChange potentialDecreaseWrong)

/-- 'helmsmanlaw4.ProjectMatchesSpec': WHATEVER THE INPUT: true; the input reads as it did. -/
def projectMatchesSpecSpec : ChangeSpec := { name := "projectMatchesSpec", fn := fun _ => fun
  | [d1, d2] => { results := [.lit (.bool true)], args := [d1, d2] }
  | _ => none }
def projectMatchesSpecRow : OpenClaim := { program := "ytofjjeogoobopaa", sum := "84f5f7e3e8ec02ed638dc26884fd10df4d17a9b75638d5d5caf9556943a4995e", func := "helmsman/helmsmanlaw4.ProjectMatchesSpec", spec := "projectMatchesSpec", unfollowed := true, recurses := true, apart := false }
def ProjectMatchesSpecSaid : Prop := projectMatchesSpecRow.holds Try.pinned (OpenSpec.ofChange projectMatchesSpecSpec)

/-- ITS FALSE NEIGHBOUR: 'it returns false'. Refute it at one input. -/
def projectMatchesSpecWrong : ChangeSpec := { name := "projectMatchesSpec", fn := fun _ => fun
  | [d1, d2] => { results := [.lit (.bool false)], args := [d1, d2] }
  | _ => none }
def ProjectMatchesSpecWrongFalsely : Prop := projectMatchesSpecRow.holds Try.pinned (OpenSpec.ofChange projectMatchesSpecWrong)

/-- 'helmsmanlaw4.ProjectValueMatchesSpec': WHATEVER THE INPUT: true; the input reads as it did. -/
def projectValueMatchesSpecSpec : ChangeSpec := { name := "projectValueMatchesSpec", fn := fun _ => fun
  | [d1, d2, d3] => { results := [.lit (.bool true)], args := [d1, d2, d3] }
  | _ => none }
def projectValueMatchesSpecRow : OpenClaim := { program := "ytofjjeogoobopaa", sum := "84f5f7e3e8ec02ed638dc26884fd10df4d17a9b75638d5d5caf9556943a4995e", func := "helmsman/helmsmanlaw4.ProjectValueMatchesSpec", spec := "projectValueMatchesSpec", unfollowed := true, recurses := true, apart := false }
def ProjectValueMatchesSpecSaid : Prop := projectValueMatchesSpecRow.holds Try.pinned (OpenSpec.ofChange projectValueMatchesSpecSpec)

/-- ITS FALSE NEIGHBOUR: 'it returns false'. Refute it at one input. -/
def projectValueMatchesSpecWrong : ChangeSpec := { name := "projectValueMatchesSpec", fn := fun _ => fun
  | [d1, d2, d3] => { results := [.lit (.bool false)], args := [d1, d2, d3] }
  | _ => none }
def ProjectValueMatchesSpecWrongFalsely : Prop := projectValueMatchesSpecRow.holds Try.pinned (OpenSpec.ofChange projectValueMatchesSpecWrong)

/-- 'helmsmanlaw4.ProjectAdmissible': WHATEVER THE INPUT: true; the input reads as it did. -/
def projectAdmissibleSpec : ChangeSpec := { name := "projectAdmissible", fn := fun _ => fun
  | [d1, d2, d3] => { results := [.lit (.bool true)], args := [d1, d2, d3] }
  | _ => none }
def projectAdmissibleRow : OpenClaim := { program := "ytofjjeogoobopaa", sum := "84f5f7e3e8ec02ed638dc26884fd10df4d17a9b75638d5d5caf9556943a4995e", func := "helmsman/helmsmanlaw4.ProjectAdmissible", spec := "projectAdmissible", unfollowed := true, recurses := true, apart := false }
def ProjectAdmissibleSaid : Prop := projectAdmissibleRow.holds Try.pinned (OpenSpec.ofChange projectAdmissibleSpec)

/-- ITS FALSE NEIGHBOUR: 'it returns false'. Refute it at one input. -/
def projectAdmissibleWrong : ChangeSpec := { name := "projectAdmissible", fn := fun _ => fun
  | [d1, d2, d3] => { results := [.lit (.bool false)], args := [d1, d2, d3] }
  | _ => none }
def ProjectAdmissibleWrongFalsely : Prop := projectAdmissibleRow.holds Try.pinned (OpenSpec.ofChange projectAdmissibleWrong)

/-- 'helmsmanlaw4.ProjectMonotone': WHATEVER THE INPUT: true; the input reads as it did. -/
def projectMonotoneSpec : ChangeSpec := { name := "projectMonotone", fn := fun _ => fun
  | [d1, d2, d3, d4] => { results := [.lit (.bool true)], args := [d1, d2, d3, d4] }
  | _ => none }
def projectMonotoneRow : OpenClaim := { program := "ytofjjeogoobopaa", sum := "84f5f7e3e8ec02ed638dc26884fd10df4d17a9b75638d5d5caf9556943a4995e", func := "helmsman/helmsmanlaw4.ProjectMonotone", spec := "projectMonotone", unfollowed := true, recurses := true, apart := false }
def ProjectMonotoneSaid : Prop := projectMonotoneRow.holds Try.pinned (OpenSpec.ofChange projectMonotoneSpec)

/-- ITS FALSE NEIGHBOUR: 'it returns false'. Refute it at one input. -/
def projectMonotoneWrong : ChangeSpec := { name := "projectMonotone", fn := fun _ => fun
  | [d1, d2, d3, d4] => { results := [.lit (.bool false)], args := [d1, d2, d3, d4] }
  | _ => none }
def ProjectMonotoneWrongFalsely : Prop := projectMonotoneRow.holds Try.pinned (OpenSpec.ofChange projectMonotoneWrong)

/-- 'helmsmanlaw4.ProjectConsistent': WHATEVER THE INPUT: true; the input reads as it did. -/
def projectConsistentSpec : ChangeSpec := { name := "projectConsistent", fn := fun _ => fun
  | [d1, d2, d3, d4] => { results := [.lit (.bool true)], args := [d1, d2, d3, d4] }
  | _ => none }
def projectConsistentRow : OpenClaim := { program := "ytofjjeogoobopaa", sum := "84f5f7e3e8ec02ed638dc26884fd10df4d17a9b75638d5d5caf9556943a4995e", func := "helmsman/helmsmanlaw4.ProjectConsistent", spec := "projectConsistent", unfollowed := true, recurses := true, apart := false }
def ProjectConsistentSaid : Prop := projectConsistentRow.holds Try.pinned (OpenSpec.ofChange projectConsistentSpec)

/-- ITS FALSE NEIGHBOUR: 'it returns false'. Refute it at one input. -/
def projectConsistentWrong : ChangeSpec := { name := "projectConsistent", fn := fun _ => fun
  | [d1, d2, d3, d4] => { results := [.lit (.bool false)], args := [d1, d2, d3, d4] }
  | _ => none }
def ProjectConsistentWrongFalsely : Prop := projectConsistentRow.holds Try.pinned (OpenSpec.ofChange projectConsistentWrong)

/-- 'helmsmanlaw4.AbstractionDistancesMatchesSpec': WHATEVER THE INPUT: true; the input reads as it did. -/
def abstractionDistancesMatchesSpecSpec : ChangeSpec := { name := "abstractionDistancesMatchesSpec", fn := fun _ => fun
  | [d1, d2] => { results := [.lit (.bool true)], args := [d1, d2] }
  | _ => none }
def abstractionDistancesMatchesSpecRow : OpenClaim := { program := "ytofjjeogoobopaa", sum := "84f5f7e3e8ec02ed638dc26884fd10df4d17a9b75638d5d5caf9556943a4995e", func := "helmsman/helmsmanlaw4.AbstractionDistancesMatchesSpec", spec := "abstractionDistancesMatchesSpec", unfollowed := true, recurses := true, apart := false }
def AbstractionDistancesMatchesSpecSaid : Prop := abstractionDistancesMatchesSpecRow.holds Try.pinned (OpenSpec.ofChange abstractionDistancesMatchesSpecSpec)

/-- ITS FALSE NEIGHBOUR: 'it returns false'. Refute it at one input. -/
def abstractionDistancesMatchesSpecWrong : ChangeSpec := { name := "abstractionDistancesMatchesSpec", fn := fun _ => fun
  | [d1, d2] => { results := [.lit (.bool false)], args := [d1, d2] }
  | _ => none }
def AbstractionDistancesMatchesSpecWrongFalsely : Prop := abstractionDistancesMatchesSpecRow.holds Try.pinned (OpenSpec.ofChange abstractionDistancesMatchesSpecWrong)

/- THE SECOND FORM. 'bulk': how many values and letters a reading holds, each counted each time it is reached (what is shared counts as often as it is met; a slice's spare places count too). A statement '..UptoSaid' is the law's where the arguments, and the package variables that the reading takes, are together of bulk at most 1048576: NARROWER than '..Said'. Prove '..Said' where nothing that the law and all that it calls make is longer than what came in: it says more and counts as full. Else prove '..UptoSaid'. A law counts once. -/
mutual
def uptoBulk {H : Type} : DataW H → Nat
  | .lit (.string bytes) => bytes.length + 1
  | .lit _ => 1
  | .nil => 1
  | .ptr d => uptoBulk d + 1
  | .slice elems spare => uptoBulkAll elems + uptoBulkAll spare + 1
  | .agg parts => uptoBulkAll parts + 1
  | .iface _ d => uptoBulk d + 1
  | .map entries => uptoBulkEntries entries + 1
  | .held _ => 1
def uptoBulkAll {H : Type} : List (DataW H) → Nat
  | [] => 0
  | d :: r => uptoBulk d + uptoBulkAll r
def uptoBulkEntries {H : Type} : List (Lit × DataW H) → Nat
  | [] => 0
  | x :: r => uptoBulkEntry x + uptoBulkEntries r
def uptoBulkEntry {H : Type} : Lit × DataW H → Nat
  | (.string bytes, d) => bytes.length + uptoBulk d + 1
  | (_, d) => uptoBulk d + 1
 end
def uptoSmall : (H : Type) → List (DataW H) → Bool := fun _ ds => decide (uptoBulkAll ds ≤ 1048576)
def OpenSpec.upto (s : _root_.Go.ChangeSpec) : _root_.Go.OpenSpec := { _root_.Go.OpenSpec.ofChange s with cond := some uptoSmall }

/-- 'helmsmanlaw4.PotentialSlackMatchesSpec', WHERE WHAT IT READS IS OF BULK AT MOST 1048576: true; the input reads as it did. -/
def potentialSlackMatchesSpecUptoRow : OpenClaim := { program := "ytofjjeogoobopaa", sum := "84f5f7e3e8ec02ed638dc26884fd10df4d17a9b75638d5d5caf9556943a4995e", func := "helmsman/helmsmanlaw4.PotentialSlackMatchesSpec", spec := "potentialSlackMatchesSpec", unfollowed := true, recurses := true, apart := false, narrowed := true }
def PotentialSlackMatchesSpecUptoSaid : Prop := potentialSlackMatchesSpecUptoRow.holds Try.pinned (OpenSpec.upto potentialSlackMatchesSpecSpec)

/-- 'helmsmanlaw4.PotentialAdmissibleBounds', WHERE WHAT IT READS IS OF BULK AT MOST 1048576: true; the input reads as it did. -/
def potentialAdmissibleBoundsUptoRow : OpenClaim := { program := "ytofjjeogoobopaa", sum := "84f5f7e3e8ec02ed638dc26884fd10df4d17a9b75638d5d5caf9556943a4995e", func := "helmsman/helmsmanlaw4.PotentialAdmissibleBounds", spec := "potentialAdmissibleBounds", unfollowed := true, recurses := true, apart := false, narrowed := true }
def PotentialAdmissibleBoundsUptoSaid : Prop := potentialAdmissibleBoundsUptoRow.holds Try.pinned (OpenSpec.upto potentialAdmissibleBoundsSpec)

/-- 'helmsmanlaw4.PotentialShift', WHERE WHAT IT READS IS OF BULK AT MOST 1048576: true; the input reads as it did. -/
def potentialShiftUptoRow : OpenClaim := { program := "ytofjjeogoobopaa", sum := "84f5f7e3e8ec02ed638dc26884fd10df4d17a9b75638d5d5caf9556943a4995e", func := "helmsman/helmsmanlaw4.PotentialShift", spec := "potentialShift", unfollowed := true, recurses := true, apart := false, narrowed := true }
def PotentialShiftUptoSaid : Prop := potentialShiftUptoRow.holds Try.pinned (OpenSpec.upto potentialShiftSpec)

/-- 'helmsmanlaw4.PotentialBestAdmissible', WHERE WHAT IT READS IS OF BULK AT MOST 1048576: true; the input reads as it did. -/
def potentialBestAdmissibleUptoRow : OpenClaim := { program := "ytofjjeogoobopaa", sum := "84f5f7e3e8ec02ed638dc26884fd10df4d17a9b75638d5d5caf9556943a4995e", func := "helmsman/helmsmanlaw4.PotentialBestAdmissible", spec := "potentialBestAdmissible", unfollowed := true, recurses := true, apart := false, narrowed := true }
def PotentialBestAdmissibleUptoSaid : Prop := potentialBestAdmissibleUptoRow.holds Try.pinned (OpenSpec.upto potentialBestAdmissibleSpec)

/-- 'helmsmanlaw4.PotentialValueMatchesSpec', WHERE WHAT IT READS IS OF BULK AT MOST 1048576: true; the input reads as it did. -/
def potentialValueMatchesSpecUptoRow : OpenClaim := { program := "ytofjjeogoobopaa", sum := "84f5f7e3e8ec02ed638dc26884fd10df4d17a9b75638d5d5caf9556943a4995e", func := "helmsman/helmsmanlaw4.PotentialValueMatchesSpec", spec := "potentialValueMatchesSpec", unfollowed := true, recurses := true, apart := false, narrowed := true }
def PotentialValueMatchesSpecUptoSaid : Prop := potentialValueMatchesSpecUptoRow.holds Try.pinned (OpenSpec.upto potentialValueMatchesSpecSpec)

/-- 'helmsmanlaw4.PotentialDecrease', WHERE WHAT IT READS IS OF BULK AT MOST 1048576: true; the input reads as it did. -/
def potentialDecreaseUptoRow : OpenClaim := { program := "ytofjjeogoobopaa", sum := "84f5f7e3e8ec02ed638dc26884fd10df4d17a9b75638d5d5caf9556943a4995e", func := "helmsman/helmsmanlaw4.PotentialDecrease", spec := "potentialDecrease", unfollowed := true, recurses := true, apart := false, narrowed := true }
def PotentialDecreaseUptoSaid : Prop := potentialDecreaseUptoRow.holds Try.pinned (OpenSpec.upto potentialDecreaseSpec)

/-- 'helmsmanlaw4.ProjectMatchesSpec', WHERE WHAT IT READS IS OF BULK AT MOST 1048576: true; the input reads as it did. -/
def projectMatchesSpecUptoRow : OpenClaim := { program := "ytofjjeogoobopaa", sum := "84f5f7e3e8ec02ed638dc26884fd10df4d17a9b75638d5d5caf9556943a4995e", func := "helmsman/helmsmanlaw4.ProjectMatchesSpec", spec := "projectMatchesSpec", unfollowed := true, recurses := true, apart := false, narrowed := true }
def ProjectMatchesSpecUptoSaid : Prop := projectMatchesSpecUptoRow.holds Try.pinned (OpenSpec.upto projectMatchesSpecSpec)

/-- 'helmsmanlaw4.ProjectValueMatchesSpec', WHERE WHAT IT READS IS OF BULK AT MOST 1048576: true; the input reads as it did. -/
def projectValueMatchesSpecUptoRow : OpenClaim := { program := "ytofjjeogoobopaa", sum := "84f5f7e3e8ec02ed638dc26884fd10df4d17a9b75638d5d5caf9556943a4995e", func := "helmsman/helmsmanlaw4.ProjectValueMatchesSpec", spec := "projectValueMatchesSpec", unfollowed := true, recurses := true, apart := false, narrowed := true }
def ProjectValueMatchesSpecUptoSaid : Prop := projectValueMatchesSpecUptoRow.holds Try.pinned (OpenSpec.upto projectValueMatchesSpecSpec)

/-- 'helmsmanlaw4.ProjectAdmissible', WHERE WHAT IT READS IS OF BULK AT MOST 1048576: true; the input reads as it did. -/
def projectAdmissibleUptoRow : OpenClaim := { program := "ytofjjeogoobopaa", sum := "84f5f7e3e8ec02ed638dc26884fd10df4d17a9b75638d5d5caf9556943a4995e", func := "helmsman/helmsmanlaw4.ProjectAdmissible", spec := "projectAdmissible", unfollowed := true, recurses := true, apart := false, narrowed := true }
def ProjectAdmissibleUptoSaid : Prop := projectAdmissibleUptoRow.holds Try.pinned (OpenSpec.upto projectAdmissibleSpec)

/-- 'helmsmanlaw4.ProjectMonotone', WHERE WHAT IT READS IS OF BULK AT MOST 1048576: true; the input reads as it did. -/
def projectMonotoneUptoRow : OpenClaim := { program := "ytofjjeogoobopaa", sum := "84f5f7e3e8ec02ed638dc26884fd10df4d17a9b75638d5d5caf9556943a4995e", func := "helmsman/helmsmanlaw4.ProjectMonotone", spec := "projectMonotone", unfollowed := true, recurses := true, apart := false, narrowed := true }
def ProjectMonotoneUptoSaid : Prop := projectMonotoneUptoRow.holds Try.pinned (OpenSpec.upto projectMonotoneSpec)

/-- 'helmsmanlaw4.ProjectConsistent', WHERE WHAT IT READS IS OF BULK AT MOST 1048576: true; the input reads as it did. -/
def projectConsistentUptoRow : OpenClaim := { program := "ytofjjeogoobopaa", sum := "84f5f7e3e8ec02ed638dc26884fd10df4d17a9b75638d5d5caf9556943a4995e", func := "helmsman/helmsmanlaw4.ProjectConsistent", spec := "projectConsistent", unfollowed := true, recurses := true, apart := false, narrowed := true }
def ProjectConsistentUptoSaid : Prop := projectConsistentUptoRow.holds Try.pinned (OpenSpec.upto projectConsistentSpec)

/-- 'helmsmanlaw4.AbstractionDistancesMatchesSpec', WHERE WHAT IT READS IS OF BULK AT MOST 1048576: true; the input reads as it did. -/
def abstractionDistancesMatchesSpecUptoRow : OpenClaim := { program := "ytofjjeogoobopaa", sum := "84f5f7e3e8ec02ed638dc26884fd10df4d17a9b75638d5d5caf9556943a4995e", func := "helmsman/helmsmanlaw4.AbstractionDistancesMatchesSpec", spec := "abstractionDistancesMatchesSpec", unfollowed := true, recurses := true, apart := false, narrowed := true }
def AbstractionDistancesMatchesSpecUptoSaid : Prop := abstractionDistancesMatchesSpecUptoRow.holds Try.pinned (OpenSpec.upto abstractionDistancesMatchesSpecSpec)

end Rows
end Go.Proofs.Ytofjjeogoobopaa
