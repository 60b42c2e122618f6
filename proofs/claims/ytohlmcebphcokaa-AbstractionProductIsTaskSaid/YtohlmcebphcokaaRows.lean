/-
  No cell of these rows narrows 'for every input' (looked for: loops, veiled, ifaces, maps, wideKeys, modest, calm, conditions, laid).
  DERIVED. THE GIVEN ROWS OF THIS SEAT. 12 by the template 'for every input the law returns true; each argument reads behind the call as it read before'; 0 by the template 'total and deterministic' (their statements: YtohlmcebphcokaaTotals.lean).
  GIVEN WITH THE SEED: the statements are not yours to turn. If you find one false, say at which input.
  Laid BY PROGRAM, IN A SANDBOX (cutbox-rows.mjs): the forced cells as the released guide's own fill.sh prints them over the translation 731148a421f72518… (all of the seat's roots in one cut). By AI agents, Wed Nov 11 2026. No macro, syntax, notation, axiom, sorry.
-/
import Derived.Test.YtohlmcebphcokaaChecked
import GoSem.Claim
import GoSem.ClaimJoined
import GoSem.ClaimMapViews
import Derived.JoinedTies
import Derived.KernelRfl
namespace Go.Proofs.Ytohlmcebphcokaa
/- THE CELL 'sum', in the pinned program and in every row, IS THE sha256 OF THE DUMP (.gsa) THAT YtohlmcebphcokaaProg.lean LOADS. Nothing in Lean hashes anything: it is a label: what it is worth is what the hold of that sum in a sandbox is worth. -/
noncomputable def Try.pinned : Pinned := { name := "ytohlmcebphcokaa", sum := "731148a421f72518f75a05ccd5d90237b2439409551ac04bc63fa34ed2ad8ac8", checked := Try.checked }
namespace Rows
def none {H : Type} : Left H := { results := [], args := [] }

/-- 'helmsmanlaw4.PartitionAdmissible': WHATEVER THE INPUT: true; the input reads as it did. -/
def partitionAdmissibleSpec : ChangeSpec := { name := "partitionAdmissible", fn := fun _ => fun
  | [d1, d2] => { results := [.lit (.bool true)], args := [d1, d2] }
  | _ => none }
def partitionAdmissibleRow : OpenClaim := { program := "ytohlmcebphcokaa", sum := "731148a421f72518f75a05ccd5d90237b2439409551ac04bc63fa34ed2ad8ac8", func := "helmsman/helmsmanlaw4.PartitionAdmissible", spec := "partitionAdmissible", unfollowed := true, recurses := true, apart := false }
def PartitionAdmissibleSaid : Prop := partitionAdmissibleRow.holds Try.pinned (OpenSpec.ofChange partitionAdmissibleSpec)

/-- ITS FALSE NEIGHBOUR: 'it returns false'. Refute it at one input. -/
def partitionAdmissibleWrong : ChangeSpec := { name := "partitionAdmissible", fn := fun _ => fun
  | [d1, d2] => { results := [.lit (.bool false)], args := [d1, d2] }
  | _ => none }
def PartitionAdmissibleWrongFalsely : Prop := partitionAdmissibleRow.holds Try.pinned (OpenSpec.ofChange partitionAdmissibleWrong)

/-- 'helmsmanlaw4.AbstractionAtomicMatchesSpec': WHATEVER THE INPUT: true; the input reads as it did. -/
def abstractionAtomicMatchesSpecSpec : ChangeSpec := { name := "abstractionAtomicMatchesSpec", fn := fun _ => fun
  | [d1, d2] => { results := [.lit (.bool true)], args := [d1, d2] }
  | _ => none }
def abstractionAtomicMatchesSpecRow : OpenClaim := { program := "ytohlmcebphcokaa", sum := "731148a421f72518f75a05ccd5d90237b2439409551ac04bc63fa34ed2ad8ac8", func := "helmsman/helmsmanlaw4.AbstractionAtomicMatchesSpec", spec := "abstractionAtomicMatchesSpec", unfollowed := true, recurses := true, apart := false }
def AbstractionAtomicMatchesSpecSaid : Prop := abstractionAtomicMatchesSpecRow.holds Try.pinned (OpenSpec.ofChange abstractionAtomicMatchesSpecSpec)

/-- ITS FALSE NEIGHBOUR: 'it returns false'. Refute it at one input. -/
def abstractionAtomicMatchesSpecWrong : ChangeSpec := { name := "abstractionAtomicMatchesSpec", fn := fun _ => fun
  | [d1, d2] => { results := [.lit (.bool false)], args := [d1, d2] }
  | _ => none }
def AbstractionAtomicMatchesSpecWrongFalsely : Prop := abstractionAtomicMatchesSpecRow.holds Try.pinned (OpenSpec.ofChange abstractionAtomicMatchesSpecWrong)

/-- 'helmsmanlaw4.LabelsReduceMatchesSpec': WHATEVER THE INPUT: true; the input reads as it did. -/
def labelsReduceMatchesSpecSpec : ChangeSpec := { name := "labelsReduceMatchesSpec", fn := fun _ => fun
  | [d1, d2, d3] => { results := [.lit (.bool true)], args := [d1, d2, d3] }
  | _ => none }
def labelsReduceMatchesSpecRow : OpenClaim := { program := "ytohlmcebphcokaa", sum := "731148a421f72518f75a05ccd5d90237b2439409551ac04bc63fa34ed2ad8ac8", func := "helmsman/helmsmanlaw4.LabelsReduceMatchesSpec", spec := "labelsReduceMatchesSpec", unfollowed := true, recurses := true, apart := false }
def LabelsReduceMatchesSpecSaid : Prop := labelsReduceMatchesSpecRow.holds Try.pinned (OpenSpec.ofChange labelsReduceMatchesSpecSpec)

/-- ITS FALSE NEIGHBOUR: 'it returns false'. Refute it at one input. -/
def labelsReduceMatchesSpecWrong : ChangeSpec := { name := "labelsReduceMatchesSpec", fn := fun _ => fun
  | [d1, d2, d3] => { results := [.lit (.bool false)], args := [d1, d2, d3] }
  | _ => none }
def LabelsReduceMatchesSpecWrongFalsely : Prop := labelsReduceMatchesSpecRow.holds Try.pinned (OpenSpec.ofChange labelsReduceMatchesSpecWrong)

/-- 'helmsmanlaw4.LabelsEquivalentMatchesSpec': WHATEVER THE INPUT: true; the input reads as it did. -/
def labelsEquivalentMatchesSpecSpec : ChangeSpec := { name := "labelsEquivalentMatchesSpec", fn := fun _ => fun
  | [d1, d2, d3, d4, d5] => { results := [.lit (.bool true)], args := [d1, d2, d3, d4, d5] }
  | _ => none }
def labelsEquivalentMatchesSpecRow : OpenClaim := { program := "ytohlmcebphcokaa", sum := "731148a421f72518f75a05ccd5d90237b2439409551ac04bc63fa34ed2ad8ac8", func := "helmsman/helmsmanlaw4.LabelsEquivalentMatchesSpec", spec := "labelsEquivalentMatchesSpec", unfollowed := true, recurses := true, apart := false }
def LabelsEquivalentMatchesSpecSaid : Prop := labelsEquivalentMatchesSpecRow.holds Try.pinned (OpenSpec.ofChange labelsEquivalentMatchesSpecSpec)

/-- ITS FALSE NEIGHBOUR: 'it returns false'. Refute it at one input. -/
def labelsEquivalentMatchesSpecWrong : ChangeSpec := { name := "labelsEquivalentMatchesSpec", fn := fun _ => fun
  | [d1, d2, d3, d4, d5] => { results := [.lit (.bool false)], args := [d1, d2, d3, d4, d5] }
  | _ => none }
def LabelsEquivalentMatchesSpecWrongFalsely : Prop := labelsEquivalentMatchesSpecRow.holds Try.pinned (OpenSpec.ofChange labelsEquivalentMatchesSpecWrong)

/-- 'helmsmanlaw4.LabelsApplyMatchesSpec': WHATEVER THE INPUT: true; the input reads as it did. -/
def labelsApplyMatchesSpecSpec : ChangeSpec := { name := "labelsApplyMatchesSpec", fn := fun _ => fun
  | [d1, d2] => { results := [.lit (.bool true)], args := [d1, d2] }
  | _ => none }
def labelsApplyMatchesSpecRow : OpenClaim := { program := "ytohlmcebphcokaa", sum := "731148a421f72518f75a05ccd5d90237b2439409551ac04bc63fa34ed2ad8ac8", func := "helmsman/helmsmanlaw4.LabelsApplyMatchesSpec", spec := "labelsApplyMatchesSpec", unfollowed := true, recurses := true, apart := false }
def LabelsApplyMatchesSpecSaid : Prop := labelsApplyMatchesSpecRow.holds Try.pinned (OpenSpec.ofChange labelsApplyMatchesSpecSpec)

/-- ITS FALSE NEIGHBOUR: 'it returns false'. Refute it at one input. -/
def labelsApplyMatchesSpecWrong : ChangeSpec := { name := "labelsApplyMatchesSpec", fn := fun _ => fun
  | [d1, d2] => { results := [.lit (.bool false)], args := [d1, d2] }
  | _ => none }
def LabelsApplyMatchesSpecWrongFalsely : Prop := labelsApplyMatchesSpecRow.holds Try.pinned (OpenSpec.ofChange labelsApplyMatchesSpecWrong)

/-- 'helmsmanlaw4.LabelsFinerWithMore': WHATEVER THE INPUT: true; the input reads as it did. -/
def labelsFinerWithMoreSpec : ChangeSpec := { name := "labelsFinerWithMore", fn := fun _ => fun
  | [d1, d2] => { results := [.lit (.bool true)], args := [d1, d2] }
  | _ => none }
def labelsFinerWithMoreRow : OpenClaim := { program := "ytohlmcebphcokaa", sum := "731148a421f72518f75a05ccd5d90237b2439409551ac04bc63fa34ed2ad8ac8", func := "helmsman/helmsmanlaw4.LabelsFinerWithMore", spec := "labelsFinerWithMore", unfollowed := true, recurses := true, apart := false }
def LabelsFinerWithMoreSaid : Prop := labelsFinerWithMoreRow.holds Try.pinned (OpenSpec.ofChange labelsFinerWithMoreSpec)

/-- ITS FALSE NEIGHBOUR: 'it returns false'. Refute it at one input. -/
def labelsFinerWithMoreWrong : ChangeSpec := { name := "labelsFinerWithMore", fn := fun _ => fun
  | [d1, d2] => { results := [.lit (.bool false)], args := [d1, d2] }
  | _ => none }
def LabelsFinerWithMoreWrongFalsely : Prop := labelsFinerWithMoreRow.holds Try.pinned (OpenSpec.ofChange labelsFinerWithMoreWrong)

/-- 'helmsmanlaw4.LabelsKeepDistances': WHATEVER THE INPUT: true; the input reads as it did. -/
def labelsKeepDistancesSpec : ChangeSpec := { name := "labelsKeepDistances", fn := fun _ => fun
  | [d1, d2, d3] => { results := [.lit (.bool true)], args := [d1, d2, d3] }
  | _ => none }
def labelsKeepDistancesRow : OpenClaim := { program := "ytohlmcebphcokaa", sum := "731148a421f72518f75a05ccd5d90237b2439409551ac04bc63fa34ed2ad8ac8", func := "helmsman/helmsmanlaw4.LabelsKeepDistances", spec := "labelsKeepDistances", unfollowed := true, recurses := true, apart := false }
def LabelsKeepDistancesSaid : Prop := labelsKeepDistancesRow.holds Try.pinned (OpenSpec.ofChange labelsKeepDistancesSpec)

/-- ITS FALSE NEIGHBOUR: 'it returns false'. Refute it at one input. -/
def labelsKeepDistancesWrong : ChangeSpec := { name := "labelsKeepDistances", fn := fun _ => fun
  | [d1, d2, d3] => { results := [.lit (.bool false)], args := [d1, d2, d3] }
  | _ => none }
def LabelsKeepDistancesWrongFalsely : Prop := labelsKeepDistancesRow.holds Try.pinned (OpenSpec.ofChange labelsKeepDistancesWrong)

/-- 'helmsmanlaw4.AbstractionProductSymmetric': WHATEVER THE INPUT: true; the input reads as it did. -/
def abstractionProductSymmetricSpec : ChangeSpec := { name := "abstractionProductSymmetric", fn := fun _ => fun
  | [d1, d2, d3] => { results := [.lit (.bool true)], args := [d1, d2, d3] }
  | _ => none }
def abstractionProductSymmetricRow : OpenClaim := { program := "ytohlmcebphcokaa", sum := "731148a421f72518f75a05ccd5d90237b2439409551ac04bc63fa34ed2ad8ac8", func := "helmsman/helmsmanlaw4.AbstractionProductSymmetric", spec := "abstractionProductSymmetric", unfollowed := true, recurses := true, apart := false }
def AbstractionProductSymmetricSaid : Prop := abstractionProductSymmetricRow.holds Try.pinned (OpenSpec.ofChange abstractionProductSymmetricSpec)

/-- ITS FALSE NEIGHBOUR: 'it returns false'. Refute it at one input. -/
def abstractionProductSymmetricWrong : ChangeSpec := { name := "abstractionProductSymmetric", fn := fun _ => fun
  | [d1, d2, d3] => { results := [.lit (.bool false)], args := [d1, d2, d3] }
  | _ => none }
def AbstractionProductSymmetricWrongFalsely : Prop := abstractionProductSymmetricRow.holds Try.pinned (OpenSpec.ofChange abstractionProductSymmetricWrong)

/-- 'helmsmanlaw4.AbstractionProductMatchesSpec': WHATEVER THE INPUT: true; the input reads as it did. -/
def abstractionProductMatchesSpecSpec : ChangeSpec := { name := "abstractionProductMatchesSpec", fn := fun _ => fun
  | [d1, d2] => { results := [.lit (.bool true)], args := [d1, d2] }
  | _ => none }
def abstractionProductMatchesSpecRow : OpenClaim := { program := "ytohlmcebphcokaa", sum := "731148a421f72518f75a05ccd5d90237b2439409551ac04bc63fa34ed2ad8ac8", func := "helmsman/helmsmanlaw4.AbstractionProductMatchesSpec", spec := "abstractionProductMatchesSpec", unfollowed := true, recurses := true, apart := false }
def AbstractionProductMatchesSpecSaid : Prop := abstractionProductMatchesSpecRow.holds Try.pinned (OpenSpec.ofChange abstractionProductMatchesSpecSpec)

/-- ITS FALSE NEIGHBOUR: 'it returns false'. Refute it at one input. -/
def abstractionProductMatchesSpecWrong : ChangeSpec := { name := "abstractionProductMatchesSpec", fn := fun _ => fun
  | [d1, d2] => { results := [.lit (.bool false)], args := [d1, d2] }
  | _ => none }
def AbstractionProductMatchesSpecWrongFalsely : Prop := abstractionProductMatchesSpecRow.holds Try.pinned (OpenSpec.ofChange abstractionProductMatchesSpecWrong)

/-- 'helmsmanlaw4.AbstractionProductIsTask': WHATEVER THE INPUT: true; the input reads as it did. -/
def abstractionProductIsTaskSpec : ChangeSpec := { name := "abstractionProductIsTask", fn := fun _ => fun
  | [d] => { results := [.lit (.bool true)], args := [d] }
  | _ => none }
def abstractionProductIsTaskRow : OpenClaim := { program := "ytohlmcebphcokaa", sum := "731148a421f72518f75a05ccd5d90237b2439409551ac04bc63fa34ed2ad8ac8", func := "helmsman/helmsmanlaw4.AbstractionProductIsTask", spec := "abstractionProductIsTask", unfollowed := true, recurses := true, apart := false }
def AbstractionProductIsTaskSaid : Prop := abstractionProductIsTaskRow.holds Try.pinned (OpenSpec.ofChange abstractionProductIsTaskSpec)

/-- ITS FALSE NEIGHBOUR: 'it returns false'. Refute it at one input. -/
def abstractionProductIsTaskWrong : ChangeSpec := { name := "abstractionProductIsTask", fn := fun _ => fun
  | [d] => { results := [.lit (.bool false)], args := [d] }
  | _ => none }
def AbstractionProductIsTaskWrongFalsely : Prop := abstractionProductIsTaskRow.holds Try.pinned (OpenSpec.ofChange abstractionProductIsTaskWrong)

/-- 'helmsmanlaw4.AbstractionProductIsCloser': WHATEVER THE INPUT: true; the input reads as it did. -/
def abstractionProductIsCloserSpec : ChangeSpec := { name := "abstractionProductIsCloser", fn := fun _ => fun
  | [d1, d2, d3] => { results := [.lit (.bool true)], args := [d1, d2, d3] }
  | _ => none }
def abstractionProductIsCloserRow : OpenClaim := { program := "ytohlmcebphcokaa", sum := "731148a421f72518f75a05ccd5d90237b2439409551ac04bc63fa34ed2ad8ac8", func := "helmsman/helmsmanlaw4.AbstractionProductIsCloser", spec := "abstractionProductIsCloser", unfollowed := true, recurses := true, apart := false }
def AbstractionProductIsCloserSaid : Prop := abstractionProductIsCloserRow.holds Try.pinned (OpenSpec.ofChange abstractionProductIsCloserSpec)

/-- ITS FALSE NEIGHBOUR: 'it returns false'. Refute it at one input. -/
def abstractionProductIsCloserWrong : ChangeSpec := { name := "abstractionProductIsCloser", fn := fun _ => fun
  | [d1, d2, d3] => { results := [.lit (.bool false)], args := [d1, d2, d3] }
  | _ => none }
def AbstractionProductIsCloserWrongFalsely : Prop := abstractionProductIsCloserRow.holds Try.pinned (OpenSpec.ofChange abstractionProductIsCloserWrong)

/-- 'helmsmanlaw4.LabelsReductionExact': WHATEVER THE INPUT: true; the input reads as it did. -/
def labelsReductionExactSpec : ChangeSpec := { name := "labelsReductionExact", fn := fun _ => fun
  | [d1, d2, d3, d4] => { results := [.lit (.bool true)], args := [d1, d2, d3, d4] }
  | _ => none }
def labelsReductionExactRow : OpenClaim := { program := "ytohlmcebphcokaa", sum := "731148a421f72518f75a05ccd5d90237b2439409551ac04bc63fa34ed2ad8ac8", func := "helmsman/helmsmanlaw4.LabelsReductionExact", spec := "labelsReductionExact", unfollowed := true, recurses := true, apart := false }
def LabelsReductionExactSaid : Prop := labelsReductionExactRow.holds Try.pinned (OpenSpec.ofChange labelsReductionExactSpec)

/-- ITS FALSE NEIGHBOUR: 'it returns false'. Refute it at one input. -/
def labelsReductionExactWrong : ChangeSpec := { name := "labelsReductionExact", fn := fun _ => fun
  | [d1, d2, d3, d4] => { results := [.lit (.bool false)], args := [d1, d2, d3, d4] }
  | _ => none }
def LabelsReductionExactWrongFalsely : Prop := labelsReductionExactRow.holds Try.pinned (OpenSpec.ofChange labelsReductionExactWrong)

/- THE SECOND FORM. 'bulk': how many values and letters a reading holds, each counted each time it is reached (what is shared counts as often as it is met; a slice's spare places count too). A statement '..UptoSaid' is the law's where the arguments, and the package variables that the reading takes, are together of bulk at most 1048576: NARROWER than '..Said'. Prove '..Said' where nothing that the law and all that it calls make is longer than what came in: it says more and counts as full. Else prove '..UptoSaid'. A law counts once. -/
mutual
def uptoBulk {H : Type} : DataW H → Nat
  | .lit (.string bytes) => bytes.length + 1
  | .lit _ => 1
  | .nil => 1
  | .ptr d => uptoBulk d + 1
  | .slice elems spare => uptoBulkAll elems + uptoBulkAll spare + 1
  | .agg parts => uptoBulkAll parts + 1
  | .iface _ d => uptoBulk d + 1
  | .map entries => uptoBulkEntries entries + 1
  | .held _ => 1
def uptoBulkAll {H : Type} : List (DataW H) → Nat
  | [] => 0
  | d :: r => uptoBulk d + uptoBulkAll r
def uptoBulkEntries {H : Type} : List (Lit × DataW H) → Nat
  | [] => 0
  | x :: r => uptoBulkEntry x + uptoBulkEntries r
def uptoBulkEntry {H : Type} : Lit × DataW H → Nat
  | (.string bytes, d) => bytes.length + uptoBulk d + 1
  | (_, d) => uptoBulk d + 1
 end
def uptoSmall : (H : Type) → List (DataW H) → Bool := fun _ ds => decide (uptoBulkAll ds ≤ 1048576)
def OpenSpec.upto (s : _root_.Go.ChangeSpec) : _root_.Go.OpenSpec := { _root_.Go.OpenSpec.ofChange s with cond := some uptoSmall }

/-- 'helmsmanlaw4.PartitionAdmissible', WHERE WHAT IT READS IS OF BULK AT MOST 1048576: true; the input reads as it did. -/
def partitionAdmissibleUptoRow : OpenClaim := { program := "ytohlmcebphcokaa", sum := "731148a421f72518f75a05ccd5d90237b2439409551ac04bc63fa34ed2ad8ac8", func := "helmsman/helmsmanlaw4.PartitionAdmissible", spec := "partitionAdmissible", unfollowed := true, recurses := true, apart := false, narrowed := true }
def PartitionAdmissibleUptoSaid : Prop := partitionAdmissibleUptoRow.holds Try.pinned (OpenSpec.upto partitionAdmissibleSpec)

/-- 'helmsmanlaw4.AbstractionAtomicMatchesSpec', WHERE WHAT IT READS IS OF BULK AT MOST 1048576: true; the input reads as it did. -/
def abstractionAtomicMatchesSpecUptoRow : OpenClaim := { program := "ytohlmcebphcokaa", sum := "731148a421f72518f75a05ccd5d90237b2439409551ac04bc63fa34ed2ad8ac8", func := "helmsman/helmsmanlaw4.AbstractionAtomicMatchesSpec", spec := "abstractionAtomicMatchesSpec", unfollowed := true, recurses := true, apart := false, narrowed := true }
def AbstractionAtomicMatchesSpecUptoSaid : Prop := abstractionAtomicMatchesSpecUptoRow.holds Try.pinned (OpenSpec.upto abstractionAtomicMatchesSpecSpec)

/-- 'helmsmanlaw4.LabelsReduceMatchesSpec', WHERE WHAT IT READS IS OF BULK AT MOST 1048576: true; the input reads as it did. -/
def labelsReduceMatchesSpecUptoRow : OpenClaim := { program := "ytohlmcebphcokaa", sum := "731148a421f72518f75a05ccd5d90237b2439409551ac04bc63fa34ed2ad8ac8", func := "helmsman/helmsmanlaw4.LabelsReduceMatchesSpec", spec := "labelsReduceMatchesSpec", unfollowed := true, recurses := true, apart := false, narrowed := true }
def LabelsReduceMatchesSpecUptoSaid : Prop := labelsReduceMatchesSpecUptoRow.holds Try.pinned (OpenSpec.upto labelsReduceMatchesSpecSpec)

/-- 'helmsmanlaw4.LabelsEquivalentMatchesSpec', WHERE WHAT IT READS IS OF BULK AT MOST 1048576: true; the input reads as it did. -/
def labelsEquivalentMatchesSpecUptoRow : OpenClaim := { program := "ytohlmcebphcokaa", sum := "731148a421f72518f75a05ccd5d90237b2439409551ac04bc63fa34ed2ad8ac8", func := "helmsman/helmsmanlaw4.LabelsEquivalentMatchesSpec", spec := "labelsEquivalentMatchesSpec", unfollowed := true, recurses := true, apart := false, narrowed := true }
def LabelsEquivalentMatchesSpecUptoSaid : Prop := labelsEquivalentMatchesSpecUptoRow.holds Try.pinned (OpenSpec.upto labelsEquivalentMatchesSpecSpec)

/-- 'helmsmanlaw4.LabelsApplyMatchesSpec', WHERE WHAT IT READS IS OF BULK AT MOST 1048576: true; the input reads as it did. -/
def labelsApplyMatchesSpecUptoRow : OpenClaim := { program := "ytohlmcebphcokaa", sum := "731148a421f72518f75a05ccd5d90237b2439409551ac04bc63fa34ed2ad8ac8", func := "helmsman/helmsmanlaw4.LabelsApplyMatchesSpec", spec := "labelsApplyMatchesSpec", unfollowed := true, recurses := true, apart := false, narrowed := true }
def LabelsApplyMatchesSpecUptoSaid : Prop := labelsApplyMatchesSpecUptoRow.holds Try.pinned (OpenSpec.upto labelsApplyMatchesSpecSpec)

/-- 'helmsmanlaw4.LabelsFinerWithMore', WHERE WHAT IT READS IS OF BULK AT MOST 1048576: true; the input reads as it did. -/
def labelsFinerWithMoreUptoRow : OpenClaim := { program := "ytohlmcebphcokaa", sum := "731148a421f72518f75a05ccd5d90237b2439409551ac04bc63fa34ed2ad8ac8", func := "helmsman/helmsmanlaw4.LabelsFinerWithMore", spec := "labelsFinerWithMore", unfollowed := true, recurses := true, apart := false, narrowed := true }
def LabelsFinerWithMoreUptoSaid : Prop := labelsFinerWithMoreUptoRow.holds Try.pinned (OpenSpec.upto labelsFinerWithMoreSpec)

/-- 'helmsmanlaw4.LabelsKeepDistances', WHERE WHAT IT READS IS OF BULK AT MOST 1048576: true; the input reads as it did. -/
def labelsKeepDistancesUptoRow : OpenClaim := { program := "ytohlmcebphcokaa", sum := "731148a421f72518f75a05ccd5d90237b2439409551ac04bc63fa34ed2ad8ac8", func := "helmsman/helmsmanlaw4.LabelsKeepDistances", spec := "labelsKeepDistances", unfollowed := true, recurses := true, apart := false, narrowed := true }
def LabelsKeepDistancesUptoSaid : Prop := labelsKeepDistancesUptoRow.holds Try.pinned (OpenSpec.upto labelsKeepDistancesSpec)

/-- 'helmsmanlaw4.AbstractionProductSymmetric', WHERE WHAT IT READS IS OF BULK AT MOST 1048576: true; the input reads as it did. -/
def abstractionProductSymmetricUptoRow : OpenClaim := { program := "ytohlmcebphcokaa", sum := "731148a421f72518f75a05ccd5d90237b2439409551ac04bc63fa34ed2ad8ac8", func := "helmsman/helmsmanlaw4.AbstractionProductSymmetric", spec := "abstractionProductSymmetric", unfollowed := true, recurses := true, apart := false, narrowed := true }
def AbstractionProductSymmetricUptoSaid : Prop := abstractionProductSymmetricUptoRow.holds Try.pinned (OpenSpec.upto abstractionProductSymmetricSpec)

/-- 'helmsmanlaw4.AbstractionProductMatchesSpec', WHERE WHAT IT READS IS OF BULK AT MOST 1048576: true; the input reads as it did. -/
def abstractionProductMatchesSpecUptoRow : OpenClaim := { program := "ytohlmcebphcokaa", sum := "731148a421f72518f75a05ccd5d90237b2439409551ac04bc63fa34ed2ad8ac8", func := "helmsman/helmsmanlaw4.AbstractionProductMatchesSpec", spec := "abstractionProductMatchesSpec", unfollowed := true, recurses := true, apart := false, narrowed := true }
def AbstractionProductMatchesSpecUptoSaid : Prop := abstractionProductMatchesSpecUptoRow.holds Try.pinned (OpenSpec.upto abstractionProductMatchesSpecSpec)

/-- 'helmsmanlaw4.AbstractionProductIsTask', WHERE WHAT IT READS IS OF BULK AT MOST 1048576: true; the input reads as it did. -/
def abstractionProductIsTaskUptoRow : OpenClaim := { program := "ytohlmcebphcokaa", sum := "731148a421f72518f75a05ccd5d90237b2439409551ac04bc63fa34ed2ad8ac8", func := "helmsman/helmsmanlaw4.AbstractionProductIsTask", spec := "abstractionProductIsTask", unfollowed := true, recurses := true, apart := false, narrowed := true }
def AbstractionProductIsTaskUptoSaid : Prop := abstractionProductIsTaskUptoRow.holds Try.pinned (OpenSpec.upto abstractionProductIsTaskSpec)

/-- 'helmsmanlaw4.AbstractionProductIsCloser', WHERE WHAT IT READS IS OF BULK AT MOST 1048576: true; the input reads as it did. -/
def abstractionProductIsCloserUptoRow : OpenClaim := { program := "ytohlmcebphcokaa", sum := "731148a421f72518f75a05ccd5d90237b2439409551ac04bc63fa34ed2ad8ac8", func := "helmsman/helmsmanlaw4.AbstractionProductIsCloser", spec := "abstractionProductIsCloser", unfollowed := true, recurses := true, apart := false, narrowed := true }
def AbstractionProductIsCloserUptoSaid : Prop := abstractionProductIsCloserUptoRow.holds Try.pinned (OpenSpec.upto abstractionProductIsCloserSpec)

/-- 'helmsmanlaw4.LabelsReductionExact', WHERE WHAT IT READS IS OF BULK AT MOST 1048576: true; the input reads as it did. -/
def labelsReductionExactUptoRow : OpenClaim := { program := "ytohlmcebphcokaa", sum := "731148a421f72518f75a05ccd5d90237b2439409551ac04bc63fa34ed2ad8ac8", func := "helmsman/helmsmanlaw4.LabelsReductionExact", spec := "labelsReductionExact", unfollowed := true, recurses := true, apart := false, narrowed := true }
def LabelsReductionExactUptoSaid : Prop := labelsReductionExactUptoRow.holds Try.pinned (OpenSpec.upto labelsReductionExactSpec)

end Rows
end Go.Proofs.Ytohlmcebphcokaa
