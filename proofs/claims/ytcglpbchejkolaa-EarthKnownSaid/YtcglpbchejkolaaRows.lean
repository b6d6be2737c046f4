/-
  No cell of these rows narrows 'for every input' (looked for: loops, veiled, ifaces, maps, wideKeys, modest, calm, conditions, laid).
  DERIVED. THE GIVEN ROWS OF THIS SEAT. 13 by the template 'for every input the law returns true; each argument reads behind the call as it read before'; 0 by the template 'total and deterministic' (their statements: YtcglpbchejkolaaTotals.lean).
  GIVEN WITH THE SEED: the statements are not yours to turn. If you find one false, say at which input.
  Laid BY PROGRAM, IN A SANDBOX (cutbox-rows.mjs): the forced cells as the released guide's own fill.sh prints them over the translation a20ea3303bbd5edd… (all of the seat's roots in one cut). By AI agents, Wed Nov 11 2026. No macro, syntax, notation, axiom, sorry.
-/
import Derived.Test.YtcglpbchejkolaaChecked
import GoSem.Claim
import GoSem.ClaimJoined
import GoSem.ClaimMapViews
import Derived.JoinedTies
import Derived.KernelRfl
namespace Go.Proofs.Ytcglpbchejkolaa
/- THE CELL 'sum', in the pinned program and in every row, IS THE sha256 OF THE DUMP (.gsa) THAT YtcglpbchejkolaaProg.lean LOADS. Nothing in Lean hashes anything: it is a label: what it is worth is what the hold of that sum in a sandbox is worth. -/
noncomputable def Try.pinned : Pinned := { name := "ytcglpbchejkolaa", sum := "a20ea3303bbd5edd856c4741a96efbac97b861c76b73100339f6bfb5e0ca6266", checked := Try.checked }
namespace Rows
def none {H : Type} : Left H := { results := [], args := [] }

/-- 'moonpoollaw02.EarthLines': WHATEVER THE INPUT: true; the input reads as it did. -/
def earthLinesSpec : ChangeSpec := { name := "earthLines", fn := fun _ => fun
  | [d1, d2, d3] => { results := [.lit (.bool true)], args := [d1, d2, d3] }
  | _ => none }
def earthLinesRow : OpenClaim := { program := "ytcglpbchejkolaa", sum := "a20ea3303bbd5edd856c4741a96efbac97b861c76b73100339f6bfb5e0ca6266", func := "moonpool/moonpoollaw02.EarthLines", spec := "earthLines", unfollowed := true, recurses := true, apart := false }
def EarthLinesSaid : Prop := earthLinesRow.holds Try.pinned (OpenSpec.ofChange earthLinesSpec)

/-- ITS FALSE NEIGHBOUR: 'it returns false'. Refute it at one input. -/
def earthLinesWrong : ChangeSpec := { name := "earthLines", fn := fun _ => fun
  | [d1, d2, d3] => { results := [.lit (.bool false)], args := [d1, d2, d3] }
  | _ => none }
def EarthLinesWrongFalsely : Prop := earthLinesRow.holds Try.pinned (OpenSpec.ofChange earthLinesWrong)

/-- 'moonpoollaw02.EarthOrder': WHATEVER THE INPUT: true; the input reads as it did. -/
def earthOrderSpec : ChangeSpec := { name := "earthOrder", fn := fun _ => fun
  | [d1, d2, d3, d4] => { results := [.lit (.bool true)], args := [d1, d2, d3, d4] }
  | _ => none }
def earthOrderRow : OpenClaim := { program := "ytcglpbchejkolaa", sum := "a20ea3303bbd5edd856c4741a96efbac97b861c76b73100339f6bfb5e0ca6266", func := "moonpool/moonpoollaw02.EarthOrder", spec := "earthOrder", unfollowed := true, recurses := true, apart := false }
def EarthOrderSaid : Prop := earthOrderRow.holds Try.pinned (OpenSpec.ofChange earthOrderSpec)

/-- ITS FALSE NEIGHBOUR: 'it returns false'. Refute it at one input. -/
def earthOrderWrong : ChangeSpec := { name := "earthOrder", fn := fun _ => fun
  | [d1, d2, d3, d4] => { results := [.lit (.bool false)], args := [d1, d2, d3, d4] }
  | _ => none }
def EarthOrderWrongFalsely : Prop := earthOrderRow.holds Try.pinned (OpenSpec.ofChange earthOrderWrong)

/-- 'moonpoollaw02.EarthRanges': WHATEVER THE INPUT: true; the input reads as it did. -/
def earthRangesSpec : ChangeSpec := { name := "earthRanges", fn := fun _ => fun
  | [d1, d2] => { results := [.lit (.bool true)], args := [d1, d2] }
  | _ => none }
def earthRangesRow : OpenClaim := { program := "ytcglpbchejkolaa", sum := "a20ea3303bbd5edd856c4741a96efbac97b861c76b73100339f6bfb5e0ca6266", func := "moonpool/moonpoollaw02.EarthRanges", spec := "earthRanges", unfollowed := true, recurses := true, apart := false }
def EarthRangesSaid : Prop := earthRangesRow.holds Try.pinned (OpenSpec.ofChange earthRangesSpec)

/-- ITS FALSE NEIGHBOUR: 'it returns false'. Refute it at one input. -/
def earthRangesWrong : ChangeSpec := { name := "earthRanges", fn := fun _ => fun
  | [d1, d2] => { results := [.lit (.bool false)], args := [d1, d2] }
  | _ => none }
def EarthRangesWrongFalsely : Prop := earthRangesRow.holds Try.pinned (OpenSpec.ofChange earthRangesWrong)

/-- 'moonpoollaw02.EarthGrows': WHATEVER THE INPUT: true; the input reads as it did. -/
def earthGrowsSpec : ChangeSpec := { name := "earthGrows", fn := fun _ => fun
  | [d1, d2, d3] => { results := [.lit (.bool true)], args := [d1, d2, d3] }
  | _ => none }
def earthGrowsRow : OpenClaim := { program := "ytcglpbchejkolaa", sum := "a20ea3303bbd5edd856c4741a96efbac97b861c76b73100339f6bfb5e0ca6266", func := "moonpool/moonpoollaw02.EarthGrows", spec := "earthGrows", unfollowed := true, recurses := true, apart := false }
def EarthGrowsSaid : Prop := earthGrowsRow.holds Try.pinned (OpenSpec.ofChange earthGrowsSpec)

/-- ITS FALSE NEIGHBOUR: 'it returns false'. Refute it at one input. -/
def earthGrowsWrong : ChangeSpec := { name := "earthGrows", fn := fun _ => fun
  | [d1, d2, d3] => { results := [.lit (.bool false)], args := [d1, d2, d3] }
  | _ => none }
def EarthGrowsWrongFalsely : Prop := earthGrowsRow.holds Try.pinned (OpenSpec.ofChange earthGrowsWrong)

/-- 'moonpoollaw02.EarthAdds': WHATEVER THE INPUT: true; the input reads as it did. -/
def earthAddsSpec : ChangeSpec := { name := "earthAdds", fn := fun _ => fun
  | [d1, d2] => { results := [.lit (.bool true)], args := [d1, d2] }
  | _ => none }
def earthAddsRow : OpenClaim := { program := "ytcglpbchejkolaa", sum := "a20ea3303bbd5edd856c4741a96efbac97b861c76b73100339f6bfb5e0ca6266", func := "moonpool/moonpoollaw02.EarthAdds", spec := "earthAdds", unfollowed := true, recurses := true, apart := false }
def EarthAddsSaid : Prop := earthAddsRow.holds Try.pinned (OpenSpec.ofChange earthAddsSpec)

/-- ITS FALSE NEIGHBOUR: 'it returns false'. Refute it at one input. -/
def earthAddsWrong : ChangeSpec := { name := "earthAdds", fn := fun _ => fun
  | [d1, d2] => { results := [.lit (.bool false)], args := [d1, d2] }
  | _ => none }
def EarthAddsWrongFalsely : Prop := earthAddsRow.holds Try.pinned (OpenSpec.ofChange earthAddsWrong)

/-- 'moonpoollaw02.EarthValues': WHATEVER THE INPUT: true; the input reads as it did. -/
def earthValuesSpec : ChangeSpec := { name := "earthValues", fn := fun _ => fun
  | [d1, d2, d3, d4] => { results := [.lit (.bool true)], args := [d1, d2, d3, d4] }
  | _ => none }
def earthValuesRow : OpenClaim := { program := "ytcglpbchejkolaa", sum := "a20ea3303bbd5edd856c4741a96efbac97b861c76b73100339f6bfb5e0ca6266", func := "moonpool/moonpoollaw02.EarthValues", spec := "earthValues", unfollowed := true, recurses := true, apart := false }
def EarthValuesSaid : Prop := earthValuesRow.holds Try.pinned (OpenSpec.ofChange earthValuesSpec)

/-- ITS FALSE NEIGHBOUR: 'it returns false'. Refute it at one input. -/
def earthValuesWrong : ChangeSpec := { name := "earthValues", fn := fun _ => fun
  | [d1, d2, d3, d4] => { results := [.lit (.bool false)], args := [d1, d2, d3, d4] }
  | _ => none }
def EarthValuesWrongFalsely : Prop := earthValuesRow.holds Try.pinned (OpenSpec.ofChange earthValuesWrong)

/-- 'moonpoollaw02.EarthParts': WHATEVER THE INPUT: true; the input reads as it did. -/
def earthPartsSpec : ChangeSpec := { name := "earthParts", fn := fun _ => fun
  | [d1, d2, d3, d4] => { results := [.lit (.bool true)], args := [d1, d2, d3, d4] }
  | _ => none }
def earthPartsRow : OpenClaim := { program := "ytcglpbchejkolaa", sum := "a20ea3303bbd5edd856c4741a96efbac97b861c76b73100339f6bfb5e0ca6266", func := "moonpool/moonpoollaw02.EarthParts", spec := "earthParts", unfollowed := true, recurses := true, apart := false }
def EarthPartsSaid : Prop := earthPartsRow.holds Try.pinned (OpenSpec.ofChange earthPartsSpec)

/-- ITS FALSE NEIGHBOUR: 'it returns false'. Refute it at one input. -/
def earthPartsWrong : ChangeSpec := { name := "earthParts", fn := fun _ => fun
  | [d1, d2, d3, d4] => { results := [.lit (.bool false)], args := [d1, d2, d3, d4] }
  | _ => none }
def EarthPartsWrongFalsely : Prop := earthPartsRow.holds Try.pinned (OpenSpec.ofChange earthPartsWrong)

/-- 'moonpoollaw02.EarthFits': WHATEVER THE INPUT: true; the input reads as it did. -/
def earthFitsSpec : ChangeSpec := { name := "earthFits", fn := fun _ => fun
  | [d1, d2] => { results := [.lit (.bool true)], args := [d1, d2] }
  | _ => none }
def earthFitsRow : OpenClaim := { program := "ytcglpbchejkolaa", sum := "a20ea3303bbd5edd856c4741a96efbac97b861c76b73100339f6bfb5e0ca6266", func := "moonpool/moonpoollaw02.EarthFits", spec := "earthFits", unfollowed := true, recurses := true, apart := false }
def EarthFitsSaid : Prop := earthFitsRow.holds Try.pinned (OpenSpec.ofChange earthFitsSpec)

/-- ITS FALSE NEIGHBOUR: 'it returns false'. Refute it at one input. -/
def earthFitsWrong : ChangeSpec := { name := "earthFits", fn := fun _ => fun
  | [d1, d2] => { results := [.lit (.bool false)], args := [d1, d2] }
  | _ => none }
def EarthFitsWrongFalsely : Prop := earthFitsRow.holds Try.pinned (OpenSpec.ofChange earthFitsWrong)

/-- 'moonpoollaw02.EarthEncloses': WHATEVER THE INPUT: true; the input reads as it did. -/
def earthEnclosesSpec : ChangeSpec := { name := "earthEncloses", fn := fun _ => fun
  | [d1, d2] => { results := [.lit (.bool true)], args := [d1, d2] }
  | _ => none }
def earthEnclosesRow : OpenClaim := { program := "ytcglpbchejkolaa", sum := "a20ea3303bbd5edd856c4741a96efbac97b861c76b73100339f6bfb5e0ca6266", func := "moonpool/moonpoollaw02.EarthEncloses", spec := "earthEncloses", unfollowed := true, recurses := true, apart := false }
def EarthEnclosesSaid : Prop := earthEnclosesRow.holds Try.pinned (OpenSpec.ofChange earthEnclosesSpec)

/-- ITS FALSE NEIGHBOUR: 'it returns false'. Refute it at one input. -/
def earthEnclosesWrong : ChangeSpec := { name := "earthEncloses", fn := fun _ => fun
  | [d1, d2] => { results := [.lit (.bool false)], args := [d1, d2] }
  | _ => none }
def EarthEnclosesWrongFalsely : Prop := earthEnclosesRow.holds Try.pinned (OpenSpec.ofChange earthEnclosesWrong)

/-- 'moonpoollaw02.EarthChecks': WHATEVER THE INPUT: true; the input reads as it did. -/
def earthChecksSpec : ChangeSpec := { name := "earthChecks", fn := fun _ => fun
  | [d1, d2, d3] => { results := [.lit (.bool true)], args := [d1, d2, d3] }
  | _ => none }
def earthChecksRow : OpenClaim := { program := "ytcglpbchejkolaa", sum := "a20ea3303bbd5edd856c4741a96efbac97b861c76b73100339f6bfb5e0ca6266", func := "moonpool/moonpoollaw02.EarthChecks", spec := "earthChecks", unfollowed := true, recurses := true, apart := false }
def EarthChecksSaid : Prop := earthChecksRow.holds Try.pinned (OpenSpec.ofChange earthChecksSpec)

/-- ITS FALSE NEIGHBOUR: 'it returns false'. Refute it at one input. -/
def earthChecksWrong : ChangeSpec := { name := "earthChecks", fn := fun _ => fun
  | [d1, d2, d3] => { results := [.lit (.bool false)], args := [d1, d2, d3] }
  | _ => none }
def EarthChecksWrongFalsely : Prop := earthChecksRow.holds Try.pinned (OpenSpec.ofChange earthChecksWrong)

/-- 'moonpoollaw02.EarthNeeded': WHATEVER THE INPUT: true; the input reads as it did. -/
def earthNeededSpec : ChangeSpec := { name := "earthNeeded", fn := fun _ => fun
  | [d1, d2] => { results := [.lit (.bool true)], args := [d1, d2] }
  | _ => none }
def earthNeededRow : OpenClaim := { program := "ytcglpbchejkolaa", sum := "a20ea3303bbd5edd856c4741a96efbac97b861c76b73100339f6bfb5e0ca6266", func := "moonpool/moonpoollaw02.EarthNeeded", spec := "earthNeeded", unfollowed := true, recurses := true, apart := false }
def EarthNeededSaid : Prop := earthNeededRow.holds Try.pinned (OpenSpec.ofChange earthNeededSpec)

/-- ITS FALSE NEIGHBOUR: 'it returns false'. Refute it at one input. -/
def earthNeededWrong : ChangeSpec := { name := "earthNeeded", fn := fun _ => fun
  | [d1, d2] => { results := [.lit (.bool false)], args := [d1, d2] }
  | _ => none }
def EarthNeededWrongFalsely : Prop := earthNeededRow.holds Try.pinned (OpenSpec.ofChange earthNeededWrong)

/-- 'moonpoollaw02.EarthKnown': WHATEVER THE INPUT: true; the input reads as it did. -/
def earthKnownSpec : ChangeSpec := { name := "earthKnown", fn := fun _ => fun
  | [] => { results := [.lit (.bool true)], args := [] }
  | _ => none }
def earthKnownRow : OpenClaim := { program := "ytcglpbchejkolaa", sum := "a20ea3303bbd5edd856c4741a96efbac97b861c76b73100339f6bfb5e0ca6266", func := "moonpool/moonpoollaw02.EarthKnown", spec := "earthKnown", unfollowed := true, recurses := true, apart := false }
def EarthKnownSaid : Prop := earthKnownRow.holds Try.pinned (OpenSpec.ofChange earthKnownSpec)

/-- ITS FALSE NEIGHBOUR: 'it returns false'. Refute it at one input. -/
def earthKnownWrong : ChangeSpec := { name := "earthKnown", fn := fun _ => fun
  | [] => { results := [.lit (.bool false)], args := [] }
  | _ => none }
def EarthKnownWrongFalsely : Prop := earthKnownRow.holds Try.pinned (OpenSpec.ofChange earthKnownWrong)

/-- 'moonpoollaw02.EarthTrue': WHATEVER THE INPUT: true; the input reads as it did. -/
def earthTrueSpec : ChangeSpec := { name := "earthTrue", fn := fun _ => fun
  | [d1, d2, d3] => { results := [.lit (.bool true)], args := [d1, d2, d3] }
  | _ => none }
def earthTrueRow : OpenClaim := { program := "ytcglpbchejkolaa", sum := "a20ea3303bbd5edd856c4741a96efbac97b861c76b73100339f6bfb5e0ca6266", func := "moonpool/moonpoollaw02.EarthTrue", spec := "earthTrue", unfollowed := true, recurses := true, apart := false }
def EarthTrueSaid : Prop := earthTrueRow.holds Try.pinned (OpenSpec.ofChange earthTrueSpec)

/-- ITS FALSE NEIGHBOUR: 'it returns false'. Refute it at one input. -/
def earthTrueWrong : ChangeSpec := { name := "earthTrue", fn := fun _ => fun
  | [d1, d2, d3] => { results := [.lit (.bool false)], args := [d1, d2, d3] }
  | _ => none }
def EarthTrueWrongFalsely : Prop := earthTrueRow.holds Try.pinned (OpenSpec.ofChange earthTrueWrong)

/- THE SECOND FORM. 'bulk': how many values and letters a reading holds, each counted each time it is reached (what is shared counts as often as it is met; a slice's spare places count too). A statement '..UptoSaid' is the law's where the arguments, and the package variables that the reading takes, are together of bulk at most 1048576: NARROWER than '..Said'. Prove '..Said' where nothing that the law and all that it calls make is longer than what came in: it says more and counts as full. Else prove '..UptoSaid'. A law counts once. -/
mutual
def uptoBulk {H : Type} : DataW H → Nat
  | .lit (.string bytes) => bytes.length + 1
  | .lit _ => 1
  | .nil => 1
  | .ptr d => uptoBulk d + 1
  | .slice elems spare => uptoBulkAll elems + uptoBulkAll spare + 1
  | .agg parts => uptoBulkAll parts + 1
  | .iface _ d => uptoBulk d + 1
  | .map entries => uptoBulkEntries entries + 1
  | .held _ => 1
def uptoBulkAll {H : Type} : List (DataW H) → Nat
  | [] => 0
  | d :: r => uptoBulk d + uptoBulkAll r
def uptoBulkEntries {H : Type} : List (Lit × DataW H) → Nat
  | [] => 0
  | x :: r => uptoBulkEntry x + uptoBulkEntries r
def uptoBulkEntry {H : Type} : Lit × DataW H → Nat
  | (.string bytes, d) => bytes.length + uptoBulk d + 1
  | (_, d) => uptoBulk d + 1
 end
def uptoSmall : (H : Type) → List (DataW H) → Bool := fun _ ds => decide (uptoBulkAll ds ≤ 1048576)
def OpenSpec.upto (s : _root_.Go.ChangeSpec) : _root_.Go.OpenSpec := { _root_.Go.OpenSpec.ofChange s with cond := some uptoSmall }

/-- 'moonpoollaw02.EarthLines', WHERE WHAT IT READS IS OF BULK AT MOST 1048576: true; the input reads as it did. -/
def earthLinesUptoRow : OpenClaim := { program := "ytcglpbchejkolaa", sum := "a20ea3303bbd5edd856c4741a96efbac97b861c76b73100339f6bfb5e0ca6266", func := "moonpool/moonpoollaw02.EarthLines", spec := "earthLines", unfollowed := true, recurses := true, apart := false, narrowed := true }
def EarthLinesUptoSaid : Prop := earthLinesUptoRow.holds Try.pinned (OpenSpec.upto earthLinesSpec)

/-- 'moonpoollaw02.EarthOrder', WHERE WHAT IT READS IS OF BULK AT MOST 1048576: true; the input reads as it did. -/
def earthOrderUptoRow : OpenClaim := { program := "ytcglpbchejkolaa", sum := "a20ea3303bbd5edd856c4741a96efbac97b861c76b73100339f6bfb5e0ca6266", func := "moonpool/moonpoollaw02.EarthOrder", spec := "earthOrder", unfollowed := true, recurses := true, apart := false, narrowed := true }
def EarthOrderUptoSaid : Prop := earthOrderUptoRow.holds Try.pinned (OpenSpec.upto earthOrderSpec)

/-- 'moonpoollaw02.EarthRanges', WHERE WHAT IT READS IS OF BULK AT MOST 1048576: true; the input reads as it did. -/
def earthRangesUptoRow : OpenClaim := { program := "ytcglpbchejkolaa", sum := "a20ea3303bbd5edd856c4741a96efbac97b861c76b73100339f6bfb5e0ca6266", func := "moonpool/moonpoollaw02.EarthRanges", spec := "earthRanges", unfollowed := true, recurses := true, apart := false, narrowed := true }
def EarthRangesUptoSaid : Prop := earthRangesUptoRow.holds Try.pinned (OpenSpec.upto earthRangesSpec)

/-- 'moonpoollaw02.EarthGrows', WHERE WHAT IT READS IS OF BULK AT MOST 1048576: true; the input reads as it did. -/
def earthGrowsUptoRow : OpenClaim := { program := "ytcglpbchejkolaa", sum := "a20ea3303bbd5edd856c4741a96efbac97b861c76b73100339f6bfb5e0ca6266", func := "moonpool/moonpoollaw02.EarthGrows", spec := "earthGrows", unfollowed := true, recurses := true, apart := false, narrowed := true }
def EarthGrowsUptoSaid : Prop := earthGrowsUptoRow.holds Try.pinned (OpenSpec.upto earthGrowsSpec)

/-- 'moonpoollaw02.EarthAdds', WHERE WHAT IT READS IS OF BULK AT MOST 1048576: true; the input reads as it did. -/
def earthAddsUptoRow : OpenClaim := { program := "ytcglpbchejkolaa", sum := "a20ea3303bbd5edd856c4741a96efbac97b861c76b73100339f6bfb5e0ca6266", func := "moonpool/moonpoollaw02.EarthAdds", spec := "earthAdds", unfollowed := true, recurses := true, apart := false, narrowed := true }
def EarthAddsUptoSaid : Prop := earthAddsUptoRow.holds Try.pinned (OpenSpec.upto earthAddsSpec)

/-- 'moonpoollaw02.EarthValues', WHERE WHAT IT READS IS OF BULK AT MOST 1048576: true; the input reads as it did. -/
def earthValuesUptoRow : OpenClaim := { program := "ytcglpbchejkolaa", sum := "a20ea3303bbd5edd856c4741a96efbac97b861c76b73100339f6bfb5e0ca6266", func := "moonpool/moonpoollaw02.EarthValues", spec := "earthValues", unfollowed := true, recurses := true, apart := false, narrowed := true }
def EarthValuesUptoSaid : Prop := earthValuesUptoRow.holds Try.pinned (OpenSpec.upto earthValuesSpec)

/-- 'moonpoollaw02.EarthParts', WHERE WHAT IT READS IS OF BULK AT MOST 1048576: true; the input reads as it did. -/
def earthPartsUptoRow : OpenClaim := { program := "ytcglpbchejkolaa", sum := "a20ea3303bbd5edd856c4741a96efbac97b861c76b73100339f6bfb5e0ca6266", func := "moonpool/moonpoollaw02.EarthParts", spec := "earthParts", unfollowed := true, recurses := true, apart := false, narrowed := true }
def EarthPartsUptoSaid : Prop := earthPartsUptoRow.holds Try.pinned (OpenSpec.upto earthPartsSpec)

/-- 'moonpoollaw02.EarthFits', WHERE WHAT IT READS IS OF BULK AT MOST 1048576: true; the input reads as it did. -/
def earthFitsUptoRow : OpenClaim := { program := "ytcglpbchejkolaa", sum := "a20ea3303bbd5edd856c4741a96efbac97b861c76b73100339f6bfb5e0ca6266", func := "moonpool/moonpoollaw02.EarthFits", spec := "earthFits", unfollowed := true, recurses := true, apart := false, narrowed := true }
def EarthFitsUptoSaid : Prop := earthFitsUptoRow.holds Try.pinned (OpenSpec.upto earthFitsSpec)

/-- 'moonpoollaw02.EarthEncloses', WHERE WHAT IT READS IS OF BULK AT MOST 1048576: true; the input reads as it did. -/
def earthEnclosesUptoRow : OpenClaim := { program := "ytcglpbchejkolaa", sum := "a20ea3303bbd5edd856c4741a96efbac97b861c76b73100339f6bfb5e0ca6266", func := "moonpool/moonpoollaw02.EarthEncloses", spec := "earthEncloses", unfollowed := true, recurses := true, apart := false, narrowed := true }
def EarthEnclosesUptoSaid : Prop := earthEnclosesUptoRow.holds Try.pinned (OpenSpec.upto earthEnclosesSpec)

/-- 'moonpoollaw02.EarthChecks', WHERE WHAT IT READS IS OF BULK AT MOST 1048576: true; the input reads as it did. -/
def earthChecksUptoRow : OpenClaim := { program := "ytcglpbchejkolaa", sum := "a20ea3303bbd5edd856c4741a96efbac97b861c76b73100339f6bfb5e0ca6266", func := "moonpool/moonpoollaw02.EarthChecks", spec := "earthChecks", unfollowed := true, recurses := true, apart := false, narrowed := true }
def EarthChecksUptoSaid : Prop := earthChecksUptoRow.holds Try.pinned (OpenSpec.upto earthChecksSpec)

/-- 'moonpoollaw02.EarthNeeded', WHERE WHAT IT READS IS OF BULK AT MOST 1048576: true; the input reads as it did. -/
def earthNeededUptoRow : OpenClaim := { program := "ytcglpbchejkolaa", sum := "a20ea3303bbd5edd856c4741a96efbac97b861c76b73100339f6bfb5e0ca6266", func := "moonpool/moonpoollaw02.EarthNeeded", spec := "earthNeeded", unfollowed := true, recurses := true, apart := false, narrowed := true }
def EarthNeededUptoSaid : Prop := earthNeededUptoRow.holds Try.pinned (OpenSpec.upto earthNeededSpec)

/-- 'moonpoollaw02.EarthKnown', WHERE WHAT IT READS IS OF BULK AT MOST 1048576: true; the input reads as it did. -/
def earthKnownUptoRow : OpenClaim := { program := "ytcglpbchejkolaa", sum := "a20ea3303bbd5edd856c4741a96efbac97b861c76b73100339f6bfb5e0ca6266", func := "moonpool/moonpoollaw02.EarthKnown", spec := "earthKnown", unfollowed := true, recurses := true, apart := false, narrowed := true }
def EarthKnownUptoSaid : Prop := earthKnownUptoRow.holds Try.pinned (OpenSpec.upto earthKnownSpec)

/-- 'moonpoollaw02.EarthTrue', WHERE WHAT IT READS IS OF BULK AT MOST 1048576: true; the input reads as it did. -/
def earthTrueUptoRow : OpenClaim := { program := "ytcglpbchejkolaa", sum := "a20ea3303bbd5edd856c4741a96efbac97b861c76b73100339f6bfb5e0ca6266", func := "moonpool/moonpoollaw02.EarthTrue", spec := "earthTrue", unfollowed := true, recurses := true, apart := false, narrowed := true }
def EarthTrueUptoSaid : Prop := earthTrueUptoRow.holds Try.pinned (OpenSpec.upto earthTrueSpec)

end Rows
end Go.Proofs.Ytcglpbchejkolaa
