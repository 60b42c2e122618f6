/-
  No cell of these rows narrows 'for every input' (looked for: loops, veiled, ifaces, maps, wideKeys, modest, calm, conditions, laid).
  DERIVED. THE GIVEN ROWS OF THIS SEAT. 12 by the template 'for every input the law returns true; each argument reads behind the call as it read before'; 0 by the template 'total and deterministic' (their statements: YtpnmkmgnkdmniaaTotals.lean).
  GIVEN WITH THE SEED: the statements are not yours to turn. If you find one false, say at which input.
  Laid BY PROGRAM, IN A SANDBOX (cutbox-rows.mjs): the forced cells as the released guide's own fill.sh prints them over the translation 0eb909109c436e2c… (all of the seat's roots in one cut). By AI agents, Wed Nov 11 2026. No macro, syntax, notation, axiom, sorry.
-/
import Derived.Test.YtpnmkmgnkdmniaaChecked
import GoSem.Claim
import GoSem.ClaimJoined
import GoSem.ClaimMapViews
import Derived.JoinedTies
import Derived.KernelRfl
namespace Go.Proofs.Ytpnmkmgnkdmniaa
/- THE CELL 'sum', in the pinned program and in every row, IS THE sha256 OF THE DUMP (.gsa) THAT YtpnmkmgnkdmniaaProg.lean LOADS. Nothing in Lean hashes anything: it is a label: what it is worth is what the hold of that sum in a sandbox is worth. -/
noncomputable def Try.pinned : Pinned := { name := "ytpnmkmgnkdmniaa", sum := "0eb909109c436e2cd329ab2e4c07441b50b490f2754ae3fb0afaefe8a39233f7", checked := Try.checked }
namespace Rows
def none {H : Type} : Left H := { results := [], args := [] }

/-- 'helmsmanlaw4.AbstractionTriangle': WHATEVER THE INPUT: true; the input reads as it did. -/
def abstractionTriangleSpec : ChangeSpec := { name := "abstractionTriangle", fn := fun _ => fun
  | [d1, d2] => { results := [.lit (.bool true)], args := [d1, d2] }
  | _ => none }
def abstractionTriangleRow : OpenClaim := { program := "ytpnmkmgnkdmniaa", sum := "0eb909109c436e2cd329ab2e4c07441b50b490f2754ae3fb0afaefe8a39233f7", func := "helmsman/helmsmanlaw4.AbstractionTriangle", spec := "abstractionTriangle", unfollowed := true, recurses := true, apart := false }
def AbstractionTriangleSaid : Prop := abstractionTriangleRow.holds Try.pinned (OpenSpec.ofChange abstractionTriangleSpec)

/-- ITS FALSE NEIGHBOUR: 'it returns false'. Refute it at one input. -/
def abstractionTriangleWrong : ChangeSpec := { name := "abstractionTriangle", fn := fun _ => fun
  | [d1, d2] => { results := [.lit (.bool false)], args := [d1, d2] }
  | _ => none }
def AbstractionTriangleWrongFalsely : Prop := abstractionTriangleRow.holds Try.pinned (OpenSpec.ofChange abstractionTriangleWrong)

/-- 'helmsmanlaw4.ProjectPlansRemain': WHATEVER THE INPUT: true; the input reads as it did. -/
def projectPlansRemainSpec : ChangeSpec := { name := "projectPlansRemain", fn := fun _ => fun
  | [d1, d2, d3] => { results := [.lit (.bool true)], args := [d1, d2, d3] }
  | _ => none }
def projectPlansRemainRow : OpenClaim := { program := "ytpnmkmgnkdmniaa", sum := "0eb909109c436e2cd329ab2e4c07441b50b490f2754ae3fb0afaefe8a39233f7", func := "helmsman/helmsmanlaw4.ProjectPlansRemain", spec := "projectPlansRemain", unfollowed := true, recurses := true, apart := false }
def ProjectPlansRemainSaid : Prop := projectPlansRemainRow.holds Try.pinned (OpenSpec.ofChange projectPlansRemainSpec)

/-- ITS FALSE NEIGHBOUR: 'it returns false'. Refute it at one input. -/
def projectPlansRemainWrong : ChangeSpec := { name := "projectPlansRemain", fn := fun _ => fun
  | [d1, d2, d3] => { results := [.lit (.bool false)], args := [d1, d2, d3] }
  | _ => none }
def ProjectPlansRemainWrongFalsely : Prop := projectPlansRemainRow.holds Try.pinned (OpenSpec.ofChange projectPlansRemainWrong)

/-- 'helmsmanlaw4.AdditiveSums': WHATEVER THE INPUT: true; the input reads as it did. -/
def additiveSumsSpec : ChangeSpec := { name := "additiveSums", fn := fun _ => fun
  | [d1, d2, d3, d4] => { results := [.lit (.bool true)], args := [d1, d2, d3, d4] }
  | _ => none }
def additiveSumsRow : OpenClaim := { program := "ytpnmkmgnkdmniaa", sum := "0eb909109c436e2cd329ab2e4c07441b50b490f2754ae3fb0afaefe8a39233f7", func := "helmsman/helmsmanlaw4.AdditiveSums", spec := "additiveSums", unfollowed := true, recurses := true, apart := false }
def AdditiveSumsSaid : Prop := additiveSumsRow.holds Try.pinned (OpenSpec.ofChange additiveSumsSpec)

/-- ITS FALSE NEIGHBOUR: 'it returns false'. Refute it at one input. -/
def additiveSumsWrong : ChangeSpec := { name := "additiveSums", fn := fun _ => fun
  | [d1, d2, d3, d4] => { results := [.lit (.bool false)], args := [d1, d2, d3, d4] }
  | _ => none }
def AdditiveSumsWrongFalsely : Prop := additiveSumsRow.holds Try.pinned (OpenSpec.ofChange additiveSumsWrong)

/-- 'helmsmanlaw4.AdditiveCompatibleMatchesSpec': WHATEVER THE INPUT: true; the input reads as it did. -/
def additiveCompatibleMatchesSpecSpec : ChangeSpec := { name := "additiveCompatibleMatchesSpec", fn := fun _ => fun
  | [d1, d2, d3] => { results := [.lit (.bool true)], args := [d1, d2, d3] }
  | _ => none }
def additiveCompatibleMatchesSpecRow : OpenClaim := { program := "ytpnmkmgnkdmniaa", sum := "0eb909109c436e2cd329ab2e4c07441b50b490f2754ae3fb0afaefe8a39233f7", func := "helmsman/helmsmanlaw4.AdditiveCompatibleMatchesSpec", spec := "additiveCompatibleMatchesSpec", unfollowed := true, recurses := true, apart := false }
def AdditiveCompatibleMatchesSpecSaid : Prop := additiveCompatibleMatchesSpecRow.holds Try.pinned (OpenSpec.ofChange additiveCompatibleMatchesSpecSpec)

/-- ITS FALSE NEIGHBOUR: 'it returns false'. Refute it at one input. -/
def additiveCompatibleMatchesSpecWrong : ChangeSpec := { name := "additiveCompatibleMatchesSpec", fn := fun _ => fun
  | [d1, d2, d3] => { results := [.lit (.bool false)], args := [d1, d2, d3] }
  | _ => none }
def AdditiveCompatibleMatchesSpecWrongFalsely : Prop := additiveCompatibleMatchesSpecRow.holds Try.pinned (OpenSpec.ofChange additiveCompatibleMatchesSpecWrong)

/-- 'helmsmanlaw4.AdditiveValueMatchesSpec': WHATEVER THE INPUT: true; the input reads as it did. -/
def additiveValueMatchesSpecSpec : ChangeSpec := { name := "additiveValueMatchesSpec", fn := fun _ => fun
  | [d1, d2, d3] => { results := [.lit (.bool true)], args := [d1, d2, d3] }
  | _ => none }
def additiveValueMatchesSpecRow : OpenClaim := { program := "ytpnmkmgnkdmniaa", sum := "0eb909109c436e2cd329ab2e4c07441b50b490f2754ae3fb0afaefe8a39233f7", func := "helmsman/helmsmanlaw4.AdditiveValueMatchesSpec", spec := "additiveValueMatchesSpec", unfollowed := true, recurses := true, apart := false }
def AdditiveValueMatchesSpecSaid : Prop := additiveValueMatchesSpecRow.holds Try.pinned (OpenSpec.ofChange additiveValueMatchesSpecSpec)

/-- ITS FALSE NEIGHBOUR: 'it returns false'. Refute it at one input. -/
def additiveValueMatchesSpecWrong : ChangeSpec := { name := "additiveValueMatchesSpec", fn := fun _ => fun
  | [d1, d2, d3] => { results := [.lit (.bool false)], args := [d1, d2, d3] }
  | _ => none }
def AdditiveValueMatchesSpecWrongFalsely : Prop := additiveValueMatchesSpecRow.holds Try.pinned (OpenSpec.ofChange additiveValueMatchesSpecWrong)

/-- 'helmsmanlaw4.AdditiveAdmissible': WHATEVER THE INPUT: true; the input reads as it did. -/
def additiveAdmissibleSpec : ChangeSpec := { name := "additiveAdmissible", fn := fun _ => fun
  | [d1, d2, d3] => { results := [.lit (.bool true)], args := [d1, d2, d3] }
  | _ => none }
def additiveAdmissibleRow : OpenClaim := { program := "ytpnmkmgnkdmniaa", sum := "0eb909109c436e2cd329ab2e4c07441b50b490f2754ae3fb0afaefe8a39233f7", func := "helmsman/helmsmanlaw4.AdditiveAdmissible", spec := "additiveAdmissible", unfollowed := true, recurses := true, apart := false }
def AdditiveAdmissibleSaid : Prop := additiveAdmissibleRow.holds Try.pinned (OpenSpec.ofChange additiveAdmissibleSpec)

/-- ITS FALSE NEIGHBOUR: 'it returns false'. Refute it at one input. -/
def additiveAdmissibleWrong : ChangeSpec := { name := "additiveAdmissible", fn := fun _ => fun
  | [d1, d2, d3] => { results := [.lit (.bool false)], args := [d1, d2, d3] }
  | _ => none }
def AdditiveAdmissibleWrongFalsely : Prop := additiveAdmissibleRow.holds Try.pinned (OpenSpec.ofChange additiveAdmissibleWrong)

/-- 'helmsmanlaw4.AdditiveOrderIrrelevant': WHATEVER THE INPUT: true; the input reads as it did. -/
def additiveOrderIrrelevantSpec : ChangeSpec := { name := "additiveOrderIrrelevant", fn := fun _ => fun
  | [d1, d2, d3] => { results := [.lit (.bool true)], args := [d1, d2, d3] }
  | _ => none }
def additiveOrderIrrelevantRow : OpenClaim := { program := "ytpnmkmgnkdmniaa", sum := "0eb909109c436e2cd329ab2e4c07441b50b490f2754ae3fb0afaefe8a39233f7", func := "helmsman/helmsmanlaw4.AdditiveOrderIrrelevant", spec := "additiveOrderIrrelevant", unfollowed := true, recurses := true, apart := false }
def AdditiveOrderIrrelevantSaid : Prop := additiveOrderIrrelevantRow.holds Try.pinned (OpenSpec.ofChange additiveOrderIrrelevantSpec)

/-- ITS FALSE NEIGHBOUR: 'it returns false'. Refute it at one input. -/
def additiveOrderIrrelevantWrong : ChangeSpec := { name := "additiveOrderIrrelevant", fn := fun _ => fun
  | [d1, d2, d3] => { results := [.lit (.bool false)], args := [d1, d2, d3] }
  | _ => none }
def AdditiveOrderIrrelevantWrongFalsely : Prop := additiveOrderIrrelevantRow.holds Try.pinned (OpenSpec.ofChange additiveOrderIrrelevantWrong)

/-- 'helmsmanlaw4.PartitionValidMatchesSpec': WHATEVER THE INPUT: true; the input reads as it did. -/
def partitionValidMatchesSpecSpec : ChangeSpec := { name := "partitionValidMatchesSpec", fn := fun _ => fun
  | [d1, d2] => { results := [.lit (.bool true)], args := [d1, d2] }
  | _ => none }
def partitionValidMatchesSpecRow : OpenClaim := { program := "ytpnmkmgnkdmniaa", sum := "0eb909109c436e2cd329ab2e4c07441b50b490f2754ae3fb0afaefe8a39233f7", func := "helmsman/helmsmanlaw4.PartitionValidMatchesSpec", spec := "partitionValidMatchesSpec", unfollowed := true, recurses := true, apart := false }
def PartitionValidMatchesSpecSaid : Prop := partitionValidMatchesSpecRow.holds Try.pinned (OpenSpec.ofChange partitionValidMatchesSpecSpec)

/-- ITS FALSE NEIGHBOUR: 'it returns false'. Refute it at one input. -/
def partitionValidMatchesSpecWrong : ChangeSpec := { name := "partitionValidMatchesSpec", fn := fun _ => fun
  | [d1, d2] => { results := [.lit (.bool false)], args := [d1, d2] }
  | _ => none }
def PartitionValidMatchesSpecWrongFalsely : Prop := partitionValidMatchesSpecRow.holds Try.pinned (OpenSpec.ofChange partitionValidMatchesSpecWrong)

/-- 'helmsmanlaw4.PartitionUniformMatchesSpec': WHATEVER THE INPUT: true; the input reads as it did. -/
def partitionUniformMatchesSpecSpec : ChangeSpec := { name := "partitionUniformMatchesSpec", fn := fun _ => fun
  | [d1, d2] => { results := [.lit (.bool true)], args := [d1, d2] }
  | _ => none }
def partitionUniformMatchesSpecRow : OpenClaim := { program := "ytpnmkmgnkdmniaa", sum := "0eb909109c436e2cd329ab2e4c07441b50b490f2754ae3fb0afaefe8a39233f7", func := "helmsman/helmsmanlaw4.PartitionUniformMatchesSpec", spec := "partitionUniformMatchesSpec", unfollowed := true, recurses := true, apart := false }
def PartitionUniformMatchesSpecSaid : Prop := partitionUniformMatchesSpecRow.holds Try.pinned (OpenSpec.ofChange partitionUniformMatchesSpecSpec)

/-- ITS FALSE NEIGHBOUR: 'it returns false'. Refute it at one input. -/
def partitionUniformMatchesSpecWrong : ChangeSpec := { name := "partitionUniformMatchesSpec", fn := fun _ => fun
  | [d1, d2] => { results := [.lit (.bool false)], args := [d1, d2] }
  | _ => none }
def PartitionUniformMatchesSpecWrongFalsely : Prop := partitionUniformMatchesSpecRow.holds Try.pinned (OpenSpec.ofChange partitionUniformMatchesSpecWrong)

/-- 'helmsmanlaw4.PartitionSaturatedMatchesSpec': WHATEVER THE INPUT: true; the input reads as it did. -/
def partitionSaturatedMatchesSpecSpec : ChangeSpec := { name := "partitionSaturatedMatchesSpec", fn := fun _ => fun
  | [d1, d2] => { results := [.lit (.bool true)], args := [d1, d2] }
  | _ => none }
def partitionSaturatedMatchesSpecRow : OpenClaim := { program := "ytpnmkmgnkdmniaa", sum := "0eb909109c436e2cd329ab2e4c07441b50b490f2754ae3fb0afaefe8a39233f7", func := "helmsman/helmsmanlaw4.PartitionSaturatedMatchesSpec", spec := "partitionSaturatedMatchesSpec", unfollowed := true, recurses := true, apart := false }
def PartitionSaturatedMatchesSpecSaid : Prop := partitionSaturatedMatchesSpecRow.holds Try.pinned (OpenSpec.ofChange partitionSaturatedMatchesSpecSpec)

/-- ITS FALSE NEIGHBOUR: 'it returns false'. Refute it at one input. -/
def partitionSaturatedMatchesSpecWrong : ChangeSpec := { name := "partitionSaturatedMatchesSpec", fn := fun _ => fun
  | [d1, d2] => { results := [.lit (.bool false)], args := [d1, d2] }
  | _ => none }
def PartitionSaturatedMatchesSpecWrongFalsely : Prop := partitionSaturatedMatchesSpecRow.holds Try.pinned (OpenSpec.ofChange partitionSaturatedMatchesSpecWrong)

/-- 'helmsmanlaw4.PartitionSingle': WHATEVER THE INPUT: true; the input reads as it did. -/
def partitionSingleSpec : ChangeSpec := { name := "partitionSingle", fn := fun _ => fun
  | [d1, d2] => { results := [.lit (.bool true)], args := [d1, d2] }
  | _ => none }
def partitionSingleRow : OpenClaim := { program := "ytpnmkmgnkdmniaa", sum := "0eb909109c436e2cd329ab2e4c07441b50b490f2754ae3fb0afaefe8a39233f7", func := "helmsman/helmsmanlaw4.PartitionSingle", spec := "partitionSingle", unfollowed := true, recurses := true, apart := false }
def PartitionSingleSaid : Prop := partitionSingleRow.holds Try.pinned (OpenSpec.ofChange partitionSingleSpec)

/-- ITS FALSE NEIGHBOUR: 'it returns false'. Refute it at one input. -/
def partitionSingleWrong : ChangeSpec := { name := "partitionSingle", fn := fun _ => fun
  | [d1, d2] => { results := [.lit (.bool false)], args := [d1, d2] }
  | _ => none }
def PartitionSingleWrongFalsely : Prop := partitionSingleRow.holds Try.pinned (OpenSpec.ofChange partitionSingleWrong)

/-- 'helmsmanlaw4.PartitionSaturatedKeeps': WHATEVER THE INPUT: true; the input reads as it did. -/
def partitionSaturatedKeepsSpec : ChangeSpec := { name := "partitionSaturatedKeeps", fn := fun _ => fun
  | [d1, d2] => { results := [.lit (.bool true)], args := [d1, d2] }
  | _ => none }
def partitionSaturatedKeepsRow : OpenClaim := { program := "ytpnmkmgnkdmniaa", sum := "0eb909109c436e2cd329ab2e4c07441b50b490f2754ae3fb0afaefe8a39233f7", func := "helmsman/helmsmanlaw4.PartitionSaturatedKeeps", spec := "partitionSaturatedKeeps", unfollowed := true, recurses := true, apart := false }
def PartitionSaturatedKeepsSaid : Prop := partitionSaturatedKeepsRow.holds Try.pinned (OpenSpec.ofChange partitionSaturatedKeepsSpec)

/-- ITS FALSE NEIGHBOUR: 'it returns false'. Refute it at one input. -/
def partitionSaturatedKeepsWrong : ChangeSpec := { name := "partitionSaturatedKeeps", fn := fun _ => fun
  | [d1, d2] => { results := [.lit (.bool false)], args := [d1, d2] }
  | _ => none }
def PartitionSaturatedKeepsWrongFalsely : Prop := partitionSaturatedKeepsRow.holds Try.pinned (OpenSpec.ofChange partitionSaturatedKeepsWrong)

/- THE SECOND FORM. 'bulk': how many values and letters a reading holds, each counted each time it is reached (what is shared counts as often as it is met; a slice's spare places count too). A statement '..UptoSaid' is the law's where the arguments, and the package variables that the reading takes, are together of bulk at most 1048576: NARROWER than '..Said'. Prove '..Said' where nothing that the law and all that it calls make is longer than what came in: it says more and counts as full. Else prove '..UptoSaid'. A law counts once. -/
mutual
def uptoBulk {H : Type} : DataW H → Nat
  | .lit (.string bytes) => bytes.length + 1
  | .lit _ => 1
  | .nil => 1
  | .ptr d => uptoBulk d + 1
  | .slice elems spare => uptoBulkAll elems + uptoBulkAll spare + 1
  | .agg parts => uptoBulkAll parts + 1
  | .iface _ d => uptoBulk d + 1
  | .map entries => uptoBulkEntries entries + 1
  | .held _ => 1
def uptoBulkAll {H : Type} : List (DataW H) → Nat
  | [] => 0
  | d :: r => uptoBulk d + uptoBulkAll r
def uptoBulkEntries {H : Type} : List (Lit × DataW H) → Nat
  | [] => 0
  | x :: r => uptoBulkEntry x + uptoBulkEntries r
def uptoBulkEntry {H : Type} : Lit × DataW H → Nat
  | (.string bytes, d) => bytes.length + uptoBulk d + 1
  | (_, d) => uptoBulk d + 1
 end
def uptoSmall : (H : Type) → List (DataW H) → Bool := fun _ ds => decide (uptoBulkAll ds ≤ 1048576)
def OpenSpec.upto (s : _root_.Go.ChangeSpec) : _root_.Go.OpenSpec := { _root_.Go.OpenSpec.ofChange s with cond := some uptoSmall }

/-- 'helmsmanlaw4.AbstractionTriangle', WHERE WHAT IT READS IS OF BULK AT MOST 1048576: true; the input reads as it did. -/
def abstractionTriangleUptoRow : OpenClaim := { program := "ytpnmkmgnkdmniaa", sum := "0eb909109c436e2cd329ab2e4c07441b50b490f2754ae3fb0afaefe8a39233f7", func := "helmsman/helmsmanlaw4.AbstractionTriangle", spec := "abstractionTriangle", unfollowed := true, recurses := true, apart := false, narrowed := true }
def AbstractionTriangleUptoSaid : Prop := abstractionTriangleUptoRow.holds Try.pinned (OpenSpec.upto abstractionTriangleSpec)

/-- 'helmsmanlaw4.ProjectPlansRemain', WHERE WHAT IT READS IS OF BULK AT MOST 1048576: true; the input reads as it did. -/
def projectPlansRemainUptoRow : OpenClaim := { program := "ytpnmkmgnkdmniaa", sum := "0eb909109c436e2cd329ab2e4c07441b50b490f2754ae3fb0afaefe8a39233f7", func := "helmsman/helmsmanlaw4.ProjectPlansRemain", spec := "projectPlansRemain", unfollowed := true, recurses := true, apart := false, narrowed := true }
def ProjectPlansRemainUptoSaid : Prop := projectPlansRemainUptoRow.holds Try.pinned (OpenSpec.upto projectPlansRemainSpec)

/-- 'helmsmanlaw4.AdditiveSums', WHERE WHAT IT READS IS OF BULK AT MOST 1048576: true; the input reads as it did. -/
def additiveSumsUptoRow : OpenClaim := { program := "ytpnmkmgnkdmniaa", sum := "0eb909109c436e2cd329ab2e4c07441b50b490f2754ae3fb0afaefe8a39233f7", func := "helmsman/helmsmanlaw4.AdditiveSums", spec := "additiveSums", unfollowed := true, recurses := true, apart := false, narrowed := true }
def AdditiveSumsUptoSaid : Prop := additiveSumsUptoRow.holds Try.pinned (OpenSpec.upto additiveSumsSpec)

/-- 'helmsmanlaw4.AdditiveCompatibleMatchesSpec', WHERE WHAT IT READS IS OF BULK AT MOST 1048576: true; the input reads as it did. -/
def additiveCompatibleMatchesSpecUptoRow : OpenClaim := { program := "ytpnmkmgnkdmniaa", sum := "0eb909109c436e2cd329ab2e4c07441b50b490f2754ae3fb0afaefe8a39233f7", func := "helmsman/helmsmanlaw4.AdditiveCompatibleMatchesSpec", spec := "additiveCompatibleMatchesSpec", unfollowed := true, recurses := true, apart := false, narrowed := true }
def AdditiveCompatibleMatchesSpecUptoSaid : Prop := additiveCompatibleMatchesSpecUptoRow.holds Try.pinned (OpenSpec.upto additiveCompatibleMatchesSpecSpec)

/-- 'helmsmanlaw4.AdditiveValueMatchesSpec', WHERE WHAT IT READS IS OF BULK AT MOST 1048576: true; the input reads as it did. -/
def additiveValueMatchesSpecUptoRow : OpenClaim := { program := "ytpnmkmgnkdmniaa", sum := "0eb909109c436e2cd329ab2e4c07441b50b490f2754ae3fb0afaefe8a39233f7", func := "helmsman/helmsmanlaw4.AdditiveValueMatchesSpec", spec := "additiveValueMatchesSpec", unfollowed := true, recurses := true, apart := false, narrowed := true }
def AdditiveValueMatchesSpecUptoSaid : Prop := additiveValueMatchesSpecUptoRow.holds Try.pinned (OpenSpec.upto additiveValueMatchesSpecSpec)

/-- 'helmsmanlaw4.AdditiveAdmissible', WHERE WHAT IT READS IS OF BULK AT MOST 1048576: true; the input reads as it did. -/
def additiveAdmissibleUptoRow : OpenClaim := { program := "ytpnmkmgnkdmniaa", sum := "0eb909109c436e2cd329ab2e4c07441b50b490f2754ae3fb0afaefe8a39233f7", func := "helmsman/helmsmanlaw4.AdditiveAdmissible", spec := "additiveAdmissible", unfollowed := true, recurses := true, apart := false, narrowed := true }
def AdditiveAdmissibleUptoSaid : Prop := additiveAdmissibleUptoRow.holds Try.pinned (OpenSpec.upto additiveAdmissibleSpec)

/-- 'helmsmanlaw4.AdditiveOrderIrrelevant', WHERE WHAT IT READS IS OF BULK AT MOST 1048576: true; the input reads as it did. -/
def additiveOrderIrrelevantUptoRow : OpenClaim := { program := "ytpnmkmgnkdmniaa", sum := "0eb909109c436e2cd329ab2e4c07441b50b490f2754ae3fb0afaefe8a39233f7", func := "helmsman/helmsmanlaw4.AdditiveOrderIrrelevant", spec := "additiveOrderIrrelevant", unfollowed := true, recurses := true, apart := false, narrowed := true }
def AdditiveOrderIrrelevantUptoSaid : Prop := additiveOrderIrrelevantUptoRow.holds Try.pinned (OpenSpec.upto additiveOrderIrrelevantSpec)

/-- 'helmsmanlaw4.PartitionValidMatchesSpec', WHERE WHAT IT READS IS OF BULK AT MOST 1048576: true; the input reads as it did. -/
def partitionValidMatchesSpecUptoRow : OpenClaim := { program := "ytpnmkmgnkdmniaa", sum := "0eb909109c436e2cd329ab2e4c07441b50b490f2754ae3fb0afaefe8a39233f7", func := "helmsman/helmsmanlaw4.PartitionValidMatchesSpec", spec := "partitionValidMatchesSpec", unfollowed := true, recurses := true, apart := false, narrowed := true }
def PartitionValidMatchesSpecUptoSaid : Prop := partitionValidMatchesSpecUptoRow.holds Try.pinned (OpenSpec.upto partitionValidMatchesSpecSpec)

/-- 'helmsmanlaw4.PartitionUniformMatchesSpec', WHERE WHAT IT READS IS OF BULK AT MOST 1048576: true; the input reads as it did. -/
def partitionUniformMatchesSpecUptoRow : OpenClaim := { program := "ytpnmkmgnkdmniaa", sum := "0eb909109c436e2cd329ab2e4c07441b50b490f2754ae3fb0afaefe8a39233f7", func := "helmsman/helmsmanlaw4.PartitionUniformMatchesSpec", spec := "partitionUniformMatchesSpec", unfollowed := true, recurses := true, apart := false, narrowed := true }
def PartitionUniformMatchesSpecUptoSaid : Prop := partitionUniformMatchesSpecUptoRow.holds Try.pinned (OpenSpec.upto partitionUniformMatchesSpecSpec)

/-- 'helmsmanlaw4.PartitionSaturatedMatchesSpec', WHERE WHAT IT READS IS OF BULK AT MOST 1048576: true; the input reads as it did. -/
def partitionSaturatedMatchesSpecUptoRow : OpenClaim := { program := "ytpnmkmgnkdmniaa", sum := "0eb909109c436e2cd329ab2e4c07441b50b490f2754ae3fb0afaefe8a39233f7", func := "helmsman/helmsmanlaw4.PartitionSaturatedMatchesSpec", spec := "partitionSaturatedMatchesSpec", unfollowed := true, recurses := true, apart := false, narrowed := true }
def PartitionSaturatedMatchesSpecUptoSaid : Prop := partitionSaturatedMatchesSpecUptoRow.holds Try.pinned (OpenSpec.upto partitionSaturatedMatchesSpecSpec)

/-- 'helmsmanlaw4.PartitionSingle', WHERE WHAT IT READS IS OF BULK AT MOST 1048576: true; the input reads as it did. -/
def partitionSingleUptoRow : OpenClaim := { program := "ytpnmkmgnkdmniaa", sum := "0eb909109c436e2cd329ab2e4c07441b50b490f2754ae3fb0afaefe8a39233f7", func := "helmsman/helmsmanlaw4.PartitionSingle", spec := "partitionSingle", unfollowed := true, recurses := true, apart := false, narrowed := true }
def PartitionSingleUptoSaid : Prop := partitionSingleUptoRow.holds Try.pinned (OpenSpec.upto partitionSingleSpec)

/-- 'helmsmanlaw4.PartitionSaturatedKeeps', WHERE WHAT IT READS IS OF BULK AT MOST 1048576: true; the input reads as it did. -/
def partitionSaturatedKeepsUptoRow : OpenClaim := { program := "ytpnmkmgnkdmniaa", sum := "0eb909109c436e2cd329ab2e4c07441b50b490f2754ae3fb0afaefe8a39233f7", func := "helmsman/helmsmanlaw4.PartitionSaturatedKeeps", spec := "partitionSaturatedKeeps", unfollowed := true, recurses := true, apart := false, narrowed := true }
def PartitionSaturatedKeepsUptoSaid : Prop := partitionSaturatedKeepsUptoRow.holds Try.pinned (OpenSpec.upto partitionSaturatedKeepsSpec)

end Rows
end Go.Proofs.Ytpnmkmgnkdmniaa
