/-
  No cell of these rows narrows 'for every input' (looked for: loops, veiled, ifaces, maps, wideKeys, modest, calm, conditions, laid).
  DERIVED. THE GIVEN ROWS OF THIS SEAT. 6 by the template 'for every input the law returns true; each argument reads behind the call as it read before'; 0 by the template 'total and deterministic' (their statements: YtlidcpmdgceboaaTotals.lean).
  GIVEN WITH THE SEED: the statements are not yours to turn. If you find one false, say at which input.
  Laid BY PROGRAM, IN A SANDBOX (cutbox-rows.mjs): the forced cells as the released guide's own fill.sh prints them over the translation 8236eab27220df0b… (all of the seat's roots in one cut). By AI agents, Wed Nov 11 2026. No macro, syntax, notation, axiom, sorry.
-/
import Derived.Test.YtlidcpmdgceboaaChecked
import GoSem.Claim
import GoSem.ClaimJoined
import GoSem.ClaimMapViews
import Derived.JoinedTies
import Derived.KernelRfl
namespace Go.Proofs.Ytlidcpmdgceboaa
/- THE CELL 'sum', in the pinned program and in every row, IS THE sha256 OF THE DUMP (.gsa) THAT YtlidcpmdgceboaaProg.lean LOADS. Nothing in Lean hashes anything: it is a label: what it is worth is what the hold of that sum in a sandbox is worth. -/
noncomputable def Try.pinned : Pinned := { name := "ytlidcpmdgceboaa", sum := "8236eab27220df0b15b3d3a32a9d2cfff271fdc442e3c92475a914c83e93bc65", checked := Try.checked }
namespace Rows
def none {H : Type} : Left H := { results := [], args := [] }

/-- 'helmsmanlaw4.CountingAtLeastGoals': WHATEVER THE INPUT: true; the input reads as it did. -/
def countingAtLeastGoalsSpec : ChangeSpec := { name := "countingAtLeastGoals", fn := fun _ => fun
  | [d] => { results := [.lit (.bool true)], args := [d] }
  | _ => none }
def countingAtLeastGoalsRow : OpenClaim := { program := "ytlidcpmdgceboaa", sum := "8236eab27220df0b15b3d3a32a9d2cfff271fdc442e3c92475a914c83e93bc65", func := "helmsman/helmsmanlaw4.CountingAtLeastGoals", spec := "countingAtLeastGoals", unfollowed := true, recurses := true, apart := false }
def CountingAtLeastGoalsSaid : Prop := countingAtLeastGoalsRow.holds Try.pinned (OpenSpec.ofChange countingAtLeastGoalsSpec)

/-- ITS FALSE NEIGHBOUR: 'it returns false'. Refute it at one input. -/
def countingAtLeastGoalsWrong : ChangeSpec := { name := "countingAtLeastGoals", fn := fun _ => fun
  | [d] => { results := [.lit (.bool false)], args := [d] }
  | _ => none }
def CountingAtLeastGoalsWrongFalsely : Prop := countingAtLeastGoalsRow.holds Try.pinned (OpenSpec.ofChange countingAtLeastGoalsWrong)

/-- 'helmsmanlaw4.CountingProgramMatchesSpec': WHATEVER THE INPUT: true; the input reads as it did. -/
def countingProgramMatchesSpecSpec : ChangeSpec := { name := "countingProgramMatchesSpec", fn := fun _ => fun
  | [d] => { results := [.lit (.bool true)], args := [d] }
  | _ => none }
def countingProgramMatchesSpecRow : OpenClaim := { program := "ytlidcpmdgceboaa", sum := "8236eab27220df0b15b3d3a32a9d2cfff271fdc442e3c92475a914c83e93bc65", func := "helmsman/helmsmanlaw4.CountingProgramMatchesSpec", spec := "countingProgramMatchesSpec", unfollowed := true, recurses := true, apart := false }
def CountingProgramMatchesSpecSaid : Prop := countingProgramMatchesSpecRow.holds Try.pinned (OpenSpec.ofChange countingProgramMatchesSpecSpec)

/-- ITS FALSE NEIGHBOUR: 'it returns false'. Refute it at one input. -/
def countingProgramMatchesSpecWrong : ChangeSpec := { name := "countingProgramMatchesSpec", fn := fun _ => fun
  | [d] => { results := [.lit (.bool false)], args := [d] }
  | _ => none }
def CountingProgramMatchesSpecWrongFalsely : Prop := countingProgramMatchesSpecRow.holds Try.pinned (OpenSpec.ofChange countingProgramMatchesSpecWrong)

/-- 'helmsmanlaw4.CountingBoundMatchesSpec': WHATEVER THE INPUT: true; the input reads as it did. -/
def countingBoundMatchesSpecSpec : ChangeSpec := { name := "countingBoundMatchesSpec", fn := fun _ => fun
  | [d] => { results := [.lit (.bool true)], args := [d] }
  | _ => none }
def countingBoundMatchesSpecRow : OpenClaim := { program := "ytlidcpmdgceboaa", sum := "8236eab27220df0b15b3d3a32a9d2cfff271fdc442e3c92475a914c83e93bc65", func := "helmsman/helmsmanlaw4.CountingBoundMatchesSpec", spec := "countingBoundMatchesSpec", unfollowed := true, recurses := true, apart := false }
def CountingBoundMatchesSpecSaid : Prop := countingBoundMatchesSpecRow.holds Try.pinned (OpenSpec.ofChange countingBoundMatchesSpecSpec)

/-- ITS FALSE NEIGHBOUR: 'it returns false'. Refute it at one input. -/
def countingBoundMatchesSpecWrong : ChangeSpec := { name := "countingBoundMatchesSpec", fn := fun _ => fun
  | [d] => { results := [.lit (.bool false)], args := [d] }
  | _ => none }
def CountingBoundMatchesSpecWrongFalsely : Prop := countingBoundMatchesSpecRow.holds Try.pinned (OpenSpec.ofChange countingBoundMatchesSpecWrong)

/-- 'helmsmanlaw4.CountingCountsMatchesSpec': WHATEVER THE INPUT: true; the input reads as it did. -/
def countingCountsMatchesSpecSpec : ChangeSpec := { name := "countingCountsMatchesSpec", fn := fun _ => fun
  | [d1, d2] => { results := [.lit (.bool true)], args := [d1, d2] }
  | _ => none }
def countingCountsMatchesSpecRow : OpenClaim := { program := "ytlidcpmdgceboaa", sum := "8236eab27220df0b15b3d3a32a9d2cfff271fdc442e3c92475a914c83e93bc65", func := "helmsman/helmsmanlaw4.CountingCountsMatchesSpec", spec := "countingCountsMatchesSpec", unfollowed := true, recurses := true, apart := false }
def CountingCountsMatchesSpecSaid : Prop := countingCountsMatchesSpecRow.holds Try.pinned (OpenSpec.ofChange countingCountsMatchesSpecSpec)

/-- ITS FALSE NEIGHBOUR: 'it returns false'. Refute it at one input. -/
def countingCountsMatchesSpecWrong : ChangeSpec := { name := "countingCountsMatchesSpec", fn := fun _ => fun
  | [d1, d2] => { results := [.lit (.bool false)], args := [d1, d2] }
  | _ => none }
def CountingCountsMatchesSpecWrongFalsely : Prop := countingCountsMatchesSpecRow.holds Try.pinned (OpenSpec.ofChange countingCountsMatchesSpecWrong)

/-- 'helmsmanlaw4.CountingAdmissible': WHATEVER THE INPUT: true; the input reads as it did. -/
def countingAdmissibleSpec : ChangeSpec := { name := "countingAdmissible", fn := fun _ => fun
  | [d] => { results := [.lit (.bool true)], args := [d] }
  | _ => none }
def countingAdmissibleRow : OpenClaim := { program := "ytlidcpmdgceboaa", sum := "8236eab27220df0b15b3d3a32a9d2cfff271fdc442e3c92475a914c83e93bc65", func := "helmsman/helmsmanlaw4.CountingAdmissible", spec := "countingAdmissible", unfollowed := true, recurses := true, apart := false }
def CountingAdmissibleSaid : Prop := countingAdmissibleRow.holds Try.pinned (OpenSpec.ofChange countingAdmissibleSpec)

/-- ITS FALSE NEIGHBOUR: 'it returns false'. Refute it at one input. -/
def countingAdmissibleWrong : ChangeSpec := { name := "countingAdmissible", fn := fun _ => fun
  | [d] => { results := [.lit (.bool false)], args := [d] }
  | _ => none }
def CountingAdmissibleWrongFalsely : Prop := countingAdmissibleRow.holds Try.pinned (OpenSpec.ofChange countingAdmissibleWrong)

/-- 'helmsmanlaw4.CountingPlansAreFeasible': WHATEVER THE INPUT: true; the input reads as it did. -/
def countingPlansAreFeasibleSpec : ChangeSpec := { name := "countingPlansAreFeasible", fn := fun _ => fun
  | [d1, d2] => { results := [.lit (.bool true)], args := [d1, d2] }
  | _ => none }
def countingPlansAreFeasibleRow : OpenClaim := { program := "ytlidcpmdgceboaa", sum := "8236eab27220df0b15b3d3a32a9d2cfff271fdc442e3c92475a914c83e93bc65", func := "helmsman/helmsmanlaw4.CountingPlansAreFeasible", spec := "countingPlansAreFeasible", unfollowed := true, recurses := true, apart := false }
def CountingPlansAreFeasibleSaid : Prop := countingPlansAreFeasibleRow.holds Try.pinned (OpenSpec.ofChange countingPlansAreFeasibleSpec)

/-- ITS FALSE NEIGHBOUR: 'it returns false'. Refute it at one input. -/
def countingPlansAreFeasibleWrong : ChangeSpec := { name := "countingPlansAreFeasible", fn := fun _ => fun
  | [d1, d2] => { results := [.lit (.bool false)], args := [d1, d2] }
  | _ => none }
def CountingPlansAreFeasibleWrongFalsely : Prop := countingPlansAreFeasibleRow.holds Try.pinned (OpenSpec.ofChange countingPlansAreFeasibleWrong)

/- THE SECOND FORM. 'bulk': how many values and letters a reading holds, each counted each time it is reached (what is shared counts as often as it is met; a slice's spare places count too). A statement '..UptoSaid' is the law's where the arguments, and the package variables that the reading takes, are together of bulk at most 1048576: NARROWER than '..Said'. Prove '..Said' where nothing that the law and all that it calls make is longer than what came in: it says more and counts as full. Else prove '..UptoSaid'. A law counts once. -/
mutual
def uptoBulk {H : Type} : DataW H → Nat
  | .lit (.string bytes) => bytes.length + 1
  | .lit _ => 1
  | .nil => 1
  | .ptr d => uptoBulk d + 1
  | .slice elems spare => uptoBulkAll elems + uptoBulkAll spare + 1
  | .agg parts => uptoBulkAll parts + 1
  | .iface _ d => uptoBulk d + 1
  | .map entries => uptoBulkEntries entries + 1
  | .held _ => 1
def uptoBulkAll {H : Type} : List (DataW H) → Nat
  | [] => 0
  | d :: r => uptoBulk d + uptoBulkAll r
def uptoBulkEntries {H : Type} : List (Lit × DataW H) → Nat
  | [] => 0
  | x :: r => uptoBulkEntry x + uptoBulkEntries r
def uptoBulkEntry {H : Type} : Lit × DataW H → Nat
  | (.string bytes, d) => bytes.length + uptoBulk d + 1
  | (_, d) => uptoBulk d + 1
 end
def uptoSmall : (H : Type) → List (DataW H) → Bool := fun _ ds => decide (uptoBulkAll ds ≤ 1048576)
def OpenSpec.upto (s : _root_.Go.ChangeSpec) : _root_.Go.OpenSpec := { _root_.Go.OpenSpec.ofChange s with cond := some uptoSmall }

/-- 'helmsmanlaw4.CountingAtLeastGoals', WHERE WHAT IT READS IS OF BULK AT MOST 1048576: true; the input reads as it did. -/
def countingAtLeastGoalsUptoRow : OpenClaim := { program := "ytlidcpmdgceboaa", sum := "8236eab27220df0b15b3d3a32a9d2cfff271fdc442e3c92475a914c83e93bc65", func := "helmsman/helmsmanlaw4.CountingAtLeastGoals", spec := "countingAtLeastGoals", unfollowed := true, recurses := true, apart := false, narrowed := true }
def CountingAtLeastGoalsUptoSaid : Prop := countingAtLeastGoalsUptoRow.holds Try.pinned (OpenSpec.upto countingAtLeastGoalsSpec)

/-- 'helmsmanlaw4.CountingProgramMatchesSpec', WHERE WHAT IT READS IS OF BULK AT MOST 1048576: true; the input reads as it did. -/
def countingProgramMatchesSpecUptoRow : OpenClaim := { program := "ytlidcpmdgceboaa", sum := "8236eab27220df0b15b3d3a32a9d2cfff271fdc442e3c92475a914c83e93bc65", func := "helmsman/helmsmanlaw4.CountingProgramMatchesSpec", spec := "countingProgramMatchesSpec", unfollowed := true, recurses := true, apart := false, narrowed := true }
def CountingProgramMatchesSpecUptoSaid : Prop := countingProgramMatchesSpecUptoRow.holds Try.pinned (OpenSpec.upto countingProgramMatchesSpecSpec)

/-- 'helmsmanlaw4.CountingBoundMatchesSpec', WHERE WHAT IT READS IS OF BULK AT MOST 1048576: true; the input reads as it did. -/
def countingBoundMatchesSpecUptoRow : OpenClaim := { program := "ytlidcpmdgceboaa", sum := "8236eab27220df0b15b3d3a32a9d2cfff271fdc442e3c92475a914c83e93bc65", func := "helmsman/helmsmanlaw4.CountingBoundMatchesSpec", spec := "countingBoundMatchesSpec", unfollowed := true, recurses := true, apart := false, narrowed := true }
def CountingBoundMatchesSpecUptoSaid : Prop := countingBoundMatchesSpecUptoRow.holds Try.pinned (OpenSpec.upto countingBoundMatchesSpecSpec)

/-- 'helmsmanlaw4.CountingCountsMatchesSpec', WHERE WHAT IT READS IS OF BULK AT MOST 1048576: true; the input reads as it did. -/
def countingCountsMatchesSpecUptoRow : OpenClaim := { program := "ytlidcpmdgceboaa", sum := "8236eab27220df0b15b3d3a32a9d2cfff271fdc442e3c92475a914c83e93bc65", func := "helmsman/helmsmanlaw4.CountingCountsMatchesSpec", spec := "countingCountsMatchesSpec", unfollowed := true, recurses := true, apart := false, narrowed := true }
def CountingCountsMatchesSpecUptoSaid : Prop := countingCountsMatchesSpecUptoRow.holds Try.pinned (OpenSpec.upto countingCountsMatchesSpecSpec)

/-- 'helmsmanlaw4.CountingAdmissible', WHERE WHAT IT READS IS OF BULK AT MOST 1048576: true; the input reads as it did. -/
def countingAdmissibleUptoRow : OpenClaim := { program := "ytlidcpmdgceboaa", sum := "8236eab27220df0b15b3d3a32a9d2cfff271fdc442e3c92475a914c83e93bc65", func := "helmsman/helmsmanlaw4.CountingAdmissible", spec := "countingAdmissible", unfollowed := true, recurses := true, apart := false, narrowed := true }
def CountingAdmissibleUptoSaid : Prop := countingAdmissibleUptoRow.holds Try.pinned (OpenSpec.upto countingAdmissibleSpec)

/-- 'helmsmanlaw4.CountingPlansAreFeasible', WHERE WHAT IT READS IS OF BULK AT MOST 1048576: true; the input reads as it did. -/
def countingPlansAreFeasibleUptoRow : OpenClaim := { program := "ytlidcpmdgceboaa", sum := "8236eab27220df0b15b3d3a32a9d2cfff271fdc442e3c92475a914c83e93bc65", func := "helmsman/helmsmanlaw4.CountingPlansAreFeasible", spec := "countingPlansAreFeasible", unfollowed := true, recurses := true, apart := false, narrowed := true }
def CountingPlansAreFeasibleUptoSaid : Prop := countingPlansAreFeasibleUptoRow.holds Try.pinned (OpenSpec.upto countingPlansAreFeasibleSpec)

end Rows
end Go.Proofs.Ytlidcpmdgceboaa
