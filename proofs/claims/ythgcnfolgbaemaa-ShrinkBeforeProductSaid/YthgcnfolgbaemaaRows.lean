/-
  No cell of these rows narrows 'for every input' (looked for: loops, veiled, ifaces, maps, wideKeys, modest, calm, conditions, laid).
  DERIVED. THE GIVEN ROWS OF THIS SEAT. 6 by the template 'for every input the law returns true; each argument reads behind the call as it read before'; 0 by the template 'total and deterministic' (their statements: YthgcnfolgbaemaaTotals.lean).
  GIVEN WITH THE SEED: the statements are not yours to turn. If you find one false, say at which input.
  Laid BY PROGRAM, IN A SANDBOX (cutbox-rows.mjs): the forced cells as the released guide's own fill.sh prints them over the translation a4edd09508069eca… (all of the seat's roots in one cut). By AI agents, Wed Nov 11 2026. No macro, syntax, notation, axiom, sorry.
-/
import Derived.Test.YthgcnfolgbaemaaChecked
import GoSem.Claim
import GoSem.ClaimJoined
import GoSem.ClaimMapViews
import Derived.JoinedTies
import Derived.KernelRfl
namespace Go.Proofs.Ythgcnfolgbaemaa
/- THE CELL 'sum', in the pinned program and in every row, IS THE sha256 OF THE DUMP (.gsa) THAT YthgcnfolgbaemaaProg.lean LOADS. Nothing in Lean hashes anything: it is a label: what it is worth is what the hold of that sum in a sandbox is worth. -/
noncomputable def Try.pinned : Pinned := { name := "ythgcnfolgbaemaa", sum := "a4edd09508069ecaf0c8a030b20c0ab18586113dd2fbc9e14f025f122f846da3", checked := Try.checked }
namespace Rows
def none {H : Type} : Left H := { results := [], args := [] }

/-- 'helmsmanlaw4.ShrinkCoarsest': WHATEVER THE INPUT: true; the input reads as it did. -/
def shrinkCoarsestSpec : ChangeSpec := { name := "shrinkCoarsest", fn := fun _ => fun
  | [d1, d2] => { results := [.lit (.bool true)], args := [d1, d2] }
  | _ => none }
def shrinkCoarsestRow : OpenClaim := { program := "ythgcnfolgbaemaa", sum := "a4edd09508069ecaf0c8a030b20c0ab18586113dd2fbc9e14f025f122f846da3", func := "helmsman/helmsmanlaw4.ShrinkCoarsest", spec := "shrinkCoarsest", unfollowed := true, recurses := true, plainKeys := false, apart := false }
def ShrinkCoarsestSaid : Prop := shrinkCoarsestRow.holds Try.pinned (OpenSpec.ofChange shrinkCoarsestSpec)

/-- ITS FALSE NEIGHBOUR: 'it returns false'. Refute it at one input. -/
def shrinkCoarsestWrong : ChangeSpec := { name := "shrinkCoarsest", fn := fun _ => fun
  | [d1, d2] => { results := [.lit (.bool false)], args := [d1, d2] }
  | _ => none }
def ShrinkCoarsestWrongFalsely : Prop := shrinkCoarsestRow.holds Try.pinned (OpenSpec.ofChange shrinkCoarsestWrong)

/-- 'helmsmanlaw4.ShrinkBisimulationMatchesSpec': WHATEVER THE INPUT: true; the input reads as it did. -/
def shrinkBisimulationMatchesSpecSpec : ChangeSpec := { name := "shrinkBisimulationMatchesSpec", fn := fun _ => fun
  | [d] => { results := [.lit (.bool true)], args := [d] }
  | _ => none }
def shrinkBisimulationMatchesSpecRow : OpenClaim := { program := "ythgcnfolgbaemaa", sum := "a4edd09508069ecaf0c8a030b20c0ab18586113dd2fbc9e14f025f122f846da3", func := "helmsman/helmsmanlaw4.ShrinkBisimulationMatchesSpec", spec := "shrinkBisimulationMatchesSpec", unfollowed := true, recurses := true, plainKeys := false, apart := false }
def ShrinkBisimulationMatchesSpecSaid : Prop := shrinkBisimulationMatchesSpecRow.holds Try.pinned (OpenSpec.ofChange shrinkBisimulationMatchesSpecSpec)

/-- ITS FALSE NEIGHBOUR: 'it returns false'. Refute it at one input. -/
def shrinkBisimulationMatchesSpecWrong : ChangeSpec := { name := "shrinkBisimulationMatchesSpec", fn := fun _ => fun
  | [d] => { results := [.lit (.bool false)], args := [d] }
  | _ => none }
def ShrinkBisimulationMatchesSpecWrongFalsely : Prop := shrinkBisimulationMatchesSpecRow.holds Try.pinned (OpenSpec.ofChange shrinkBisimulationMatchesSpecWrong)

/-- 'helmsmanlaw4.ShrinkQuotientMatchesSpec': WHATEVER THE INPUT: true; the input reads as it did. -/
def shrinkQuotientMatchesSpecSpec : ChangeSpec := { name := "shrinkQuotientMatchesSpec", fn := fun _ => fun
  | [d1, d2] => { results := [.lit (.bool true)], args := [d1, d2] }
  | _ => none }
def shrinkQuotientMatchesSpecRow : OpenClaim := { program := "ythgcnfolgbaemaa", sum := "a4edd09508069ecaf0c8a030b20c0ab18586113dd2fbc9e14f025f122f846da3", func := "helmsman/helmsmanlaw4.ShrinkQuotientMatchesSpec", spec := "shrinkQuotientMatchesSpec", unfollowed := true, recurses := true, plainKeys := false, apart := false }
def ShrinkQuotientMatchesSpecSaid : Prop := shrinkQuotientMatchesSpecRow.holds Try.pinned (OpenSpec.ofChange shrinkQuotientMatchesSpecSpec)

/-- ITS FALSE NEIGHBOUR: 'it returns false'. Refute it at one input. -/
def shrinkQuotientMatchesSpecWrong : ChangeSpec := { name := "shrinkQuotientMatchesSpec", fn := fun _ => fun
  | [d1, d2] => { results := [.lit (.bool false)], args := [d1, d2] }
  | _ => none }
def ShrinkQuotientMatchesSpecWrongFalsely : Prop := shrinkQuotientMatchesSpecRow.holds Try.pinned (OpenSpec.ofChange shrinkQuotientMatchesSpecWrong)

/-- 'helmsmanlaw4.ShrinkKeepsDistances': WHATEVER THE INPUT: true; the input reads as it did. -/
def shrinkKeepsDistancesSpec : ChangeSpec := { name := "shrinkKeepsDistances", fn := fun _ => fun
  | [d1, d2] => { results := [.lit (.bool true)], args := [d1, d2] }
  | _ => none }
def shrinkKeepsDistancesRow : OpenClaim := { program := "ythgcnfolgbaemaa", sum := "a4edd09508069ecaf0c8a030b20c0ab18586113dd2fbc9e14f025f122f846da3", func := "helmsman/helmsmanlaw4.ShrinkKeepsDistances", spec := "shrinkKeepsDistances", unfollowed := true, recurses := true, plainKeys := false, apart := false }
def ShrinkKeepsDistancesSaid : Prop := shrinkKeepsDistancesRow.holds Try.pinned (OpenSpec.ofChange shrinkKeepsDistancesSpec)

/-- ITS FALSE NEIGHBOUR: 'it returns false'. Refute it at one input. -/
def shrinkKeepsDistancesWrong : ChangeSpec := { name := "shrinkKeepsDistances", fn := fun _ => fun
  | [d1, d2] => { results := [.lit (.bool false)], args := [d1, d2] }
  | _ => none }
def ShrinkKeepsDistancesWrongFalsely : Prop := shrinkKeepsDistancesRow.holds Try.pinned (OpenSpec.ofChange shrinkKeepsDistancesWrong)

/-- 'helmsmanlaw4.ShrinkLowersDistances': WHATEVER THE INPUT: true; the input reads as it did. -/
def shrinkLowersDistancesSpec : ChangeSpec := { name := "shrinkLowersDistances", fn := fun _ => fun
  | [d1, d2, d3] => { results := [.lit (.bool true)], args := [d1, d2, d3] }
  | _ => none }
def shrinkLowersDistancesRow : OpenClaim := { program := "ythgcnfolgbaemaa", sum := "a4edd09508069ecaf0c8a030b20c0ab18586113dd2fbc9e14f025f122f846da3", func := "helmsman/helmsmanlaw4.ShrinkLowersDistances", spec := "shrinkLowersDistances", unfollowed := true, recurses := true, plainKeys := false, apart := false }
def ShrinkLowersDistancesSaid : Prop := shrinkLowersDistancesRow.holds Try.pinned (OpenSpec.ofChange shrinkLowersDistancesSpec)

/-- ITS FALSE NEIGHBOUR: 'it returns false'. Refute it at one input. -/
def shrinkLowersDistancesWrong : ChangeSpec := { name := "shrinkLowersDistances", fn := fun _ => fun
  | [d1, d2, d3] => { results := [.lit (.bool false)], args := [d1, d2, d3] }
  | _ => none }
def ShrinkLowersDistancesWrongFalsely : Prop := shrinkLowersDistancesRow.holds Try.pinned (OpenSpec.ofChange shrinkLowersDistancesWrong)

/-- 'helmsmanlaw4.ShrinkBeforeProduct': WHATEVER THE INPUT: true; the input reads as it did. -/
def shrinkBeforeProductSpec : ChangeSpec := { name := "shrinkBeforeProduct", fn := fun _ => fun
  | [d1, d2, d3] => { results := [.lit (.bool true)], args := [d1, d2, d3] }
  | _ => none }
def shrinkBeforeProductRow : OpenClaim := { program := "ythgcnfolgbaemaa", sum := "a4edd09508069ecaf0c8a030b20c0ab18586113dd2fbc9e14f025f122f846da3", func := "helmsman/helmsmanlaw4.ShrinkBeforeProduct", spec := "shrinkBeforeProduct", unfollowed := true, recurses := true, plainKeys := false, apart := false }
def ShrinkBeforeProductSaid : Prop := shrinkBeforeProductRow.holds Try.pinned (OpenSpec.ofChange shrinkBeforeProductSpec)

/-- ITS FALSE NEIGHBOUR: 'it returns false'. Refute it at one input. -/
def shrinkBeforeProductWrong : ChangeSpec := { name := "shrinkBeforeProduct", fn := fun _ => fun
  | [d1, d2, d3] => { results := [.lit (.bool false)], args := [d1, d2, d3] }
  | _ => none }
def ShrinkBeforeProductWrongFalsely : Prop := shrinkBeforeProductRow.holds Try.pinned (OpenSpec.ofChange shrinkBeforeProductWrong)

/- THE SECOND FORM. 'bulk': how many values and letters a reading holds, each counted each time it is reached (what is shared counts as often as it is met; a slice's spare places count too). A statement '..UptoSaid' is the law's where the arguments, and the package variables that the reading takes, are together of bulk at most 1048576: NARROWER than '..Said'. Prove '..Said' where nothing that the law and all that it calls make is longer than what came in: it says more and counts as full. Else prove '..UptoSaid'. A law counts once. -/
mutual
def uptoBulk {H : Type} : DataW H → Nat
  | .lit (.string bytes) => bytes.length + 1
  | .lit _ => 1
  | .nil => 1
  | .ptr d => uptoBulk d + 1
  | .slice elems spare => uptoBulkAll elems + uptoBulkAll spare + 1
  | .agg parts => uptoBulkAll parts + 1
  | .iface _ d => uptoBulk d + 1
  | .map entries => uptoBulkEntries entries + 1
  | .held _ => 1
def uptoBulkAll {H : Type} : List (DataW H) → Nat
  | [] => 0
  | d :: r => uptoBulk d + uptoBulkAll r
def uptoBulkEntries {H : Type} : List (Lit × DataW H) → Nat
  | [] => 0
  | x :: r => uptoBulkEntry x + uptoBulkEntries r
def uptoBulkEntry {H : Type} : Lit × DataW H → Nat
  | (.string bytes, d) => bytes.length + uptoBulk d + 1
  | (_, d) => uptoBulk d + 1
 end
def uptoSmall : (H : Type) → List (DataW H) → Bool := fun _ ds => decide (uptoBulkAll ds ≤ 1048576)
def OpenSpec.upto (s : _root_.Go.ChangeSpec) : _root_.Go.OpenSpec := { _root_.Go.OpenSpec.ofChange s with cond := some uptoSmall }

/-- 'helmsmanlaw4.ShrinkCoarsest', WHERE WHAT IT READS IS OF BULK AT MOST 1048576: true; the input reads as it did. -/
def shrinkCoarsestUptoRow : OpenClaim := { program := "ythgcnfolgbaemaa", sum := "a4edd09508069ecaf0c8a030b20c0ab18586113dd2fbc9e14f025f122f846da3", func := "helmsman/helmsmanlaw4.ShrinkCoarsest", spec := "shrinkCoarsest", unfollowed := true, recurses := true, plainKeys := false, apart := false, narrowed := true }
def ShrinkCoarsestUptoSaid : Prop := shrinkCoarsestUptoRow.holds Try.pinned (OpenSpec.upto shrinkCoarsestSpec)

/-- 'helmsmanlaw4.ShrinkBisimulationMatchesSpec', WHERE WHAT IT READS IS OF BULK AT MOST 1048576: true; the input reads as it did. -/
def shrinkBisimulationMatchesSpecUptoRow : OpenClaim := { program := "ythgcnfolgbaemaa", sum := "a4edd09508069ecaf0c8a030b20c0ab18586113dd2fbc9e14f025f122f846da3", func := "helmsman/helmsmanlaw4.ShrinkBisimulationMatchesSpec", spec := "shrinkBisimulationMatchesSpec", unfollowed := true, recurses := true, plainKeys := false, apart := false, narrowed := true }
def ShrinkBisimulationMatchesSpecUptoSaid : Prop := shrinkBisimulationMatchesSpecUptoRow.holds Try.pinned (OpenSpec.upto shrinkBisimulationMatchesSpecSpec)

/-- 'helmsmanlaw4.ShrinkQuotientMatchesSpec', WHERE WHAT IT READS IS OF BULK AT MOST 1048576: true; the input reads as it did. -/
def shrinkQuotientMatchesSpecUptoRow : OpenClaim := { program := "ythgcnfolgbaemaa", sum := "a4edd09508069ecaf0c8a030b20c0ab18586113dd2fbc9e14f025f122f846da3", func := "helmsman/helmsmanlaw4.ShrinkQuotientMatchesSpec", spec := "shrinkQuotientMatchesSpec", unfollowed := true, recurses := true, plainKeys := false, apart := false, narrowed := true }
def ShrinkQuotientMatchesSpecUptoSaid : Prop := shrinkQuotientMatchesSpecUptoRow.holds Try.pinned (OpenSpec.upto shrinkQuotientMatchesSpecSpec)

/-- 'helmsmanlaw4.ShrinkKeepsDistances', WHERE WHAT IT READS IS OF BULK AT MOST 1048576: true; the input reads as it did. -/
def shrinkKeepsDistancesUptoRow : OpenClaim := { program := "ythgcnfolgbaemaa", sum := "a4edd09508069ecaf0c8a030b20c0ab18586113dd2fbc9e14f025f122f846da3", func := "helmsman/helmsmanlaw4.ShrinkKeepsDistances", spec := "shrinkKeepsDistances", unfollowed := true, recurses := true, plainKeys := false, apart := false, narrowed := true }
def ShrinkKeepsDistancesUptoSaid : Prop := shrinkKeepsDistancesUptoRow.holds Try.pinned (OpenSpec.upto shrinkKeepsDistancesSpec)

/-- 'helmsmanlaw4.ShrinkLowersDistances', WHERE WHAT IT READS IS OF BULK AT MOST 1048576: true; the input reads as it did. -/
def shrinkLowersDistancesUptoRow : OpenClaim := { program := "ythgcnfolgbaemaa", sum := "a4edd09508069ecaf0c8a030b20c0ab18586113dd2fbc9e14f025f122f846da3", func := "helmsman/helmsmanlaw4.ShrinkLowersDistances", spec := "shrinkLowersDistances", unfollowed := true, recurses := true, plainKeys := false, apart := false, narrowed := true }
def ShrinkLowersDistancesUptoSaid : Prop := shrinkLowersDistancesUptoRow.holds Try.pinned (OpenSpec.upto shrinkLowersDistancesSpec)

/-- 'helmsmanlaw4.ShrinkBeforeProduct', WHERE WHAT IT READS IS OF BULK AT MOST 1048576: true; the input reads as it did. -/
def shrinkBeforeProductUptoRow : OpenClaim := { program := "ythgcnfolgbaemaa", sum := "a4edd09508069ecaf0c8a030b20c0ab18586113dd2fbc9e14f025f122f846da3", func := "helmsman/helmsmanlaw4.ShrinkBeforeProduct", spec := "shrinkBeforeProduct", unfollowed := true, recurses := true, plainKeys := false, apart := false, narrowed := true }
def ShrinkBeforeProductUptoSaid : Prop := shrinkBeforeProductUptoRow.holds Try.pinned (OpenSpec.upto shrinkBeforeProductSpec)

end Rows
end Go.Proofs.Ythgcnfolgbaemaa
