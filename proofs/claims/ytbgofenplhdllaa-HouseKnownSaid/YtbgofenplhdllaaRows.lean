/-
  No cell of these rows narrows 'for every input' (looked for: loops, veiled, ifaces, maps, wideKeys, modest, calm, conditions, laid).
  DERIVED. THE GIVEN ROWS OF THIS SEAT. 6 by the template 'for every input the law returns true; each argument reads behind the call as it read before'; 0 by the template 'total and deterministic' (their statements: YtbgofenplhdllaaTotals.lean).
  GIVEN WITH THE SEED: the statements are not yours to turn. If you find one false, say at which input.
  Laid BY PROGRAM, IN A SANDBOX (cutbox-rows.mjs): the forced cells as the released guide's own fill.sh prints them over the translation b5bc3c6da89528dc… (all of the seat's roots in one cut). By AI agents, Wed Nov 11 2026. No macro, syntax, notation, axiom, sorry.
-/
import Derived.Test.YtbgofenplhdllaaChecked
import GoSem.Claim
import GoSem.ClaimJoined
import GoSem.ClaimMapViews
import Derived.JoinedTies
import Derived.KernelRfl
namespace Go.Proofs.Ytbgofenplhdllaa
/- THE CELL 'sum', in the pinned program and in every row, IS THE sha256 OF THE DUMP (.gsa) THAT YtbgofenplhdllaaProg.lean LOADS. Nothing in Lean hashes anything: it is a label: what it is worth is what the hold of that sum in a sandbox is worth. -/
noncomputable def Try.pinned : Pinned := { name := "ytbgofenplhdllaa", sum := "b5bc3c6da89528dc3353837af8afa02baf3d7fcab4a2d5fdf3cc034de5e8b04a", checked := Try.checked }
namespace Rows
def none {H : Type} : Left H := { results := [], args := [] }

/-- 'moonpoollaw10.HouseWild': WHATEVER THE INPUT: true; the input reads as it did. -/
def houseWildSpec : ChangeSpec := { name := "houseWild", fn := fun _ => fun
  | [d1, d2, d3] => { results := [.lit (.bool true)], args := [d1, d2, d3] }
  | _ => none }
def houseWildRow : OpenClaim := { program := "ytbgofenplhdllaa", sum := "b5bc3c6da89528dc3353837af8afa02baf3d7fcab4a2d5fdf3cc034de5e8b04a", func := "moonpool/moonpoollaw10.HouseWild", spec := "houseWild", unfollowed := true, recurses := true, apart := false }
def HouseWildSaid : Prop := houseWildRow.holds Try.pinned (OpenSpec.ofChange houseWildSpec)

/-- ITS FALSE NEIGHBOUR: 'it returns false'. Refute it at one input. -/
def houseWildWrong : ChangeSpec := { name := "houseWild", fn := fun _ => fun
  | [d1, d2, d3] => { results := [.lit (.bool false)], args := [d1, d2, d3] }
  | _ => none }
def HouseWildWrongFalsely : Prop := houseWildRow.holds Try.pinned (OpenSpec.ofChange houseWildWrong)

/-- 'moonpoollaw10.HouseCloses': WHATEVER THE INPUT: true; the input reads as it did. -/
def houseClosesSpec : ChangeSpec := { name := "houseCloses", fn := fun _ => fun
  | [d1, d2, d3, d4, d5] => { results := [.lit (.bool true)], args := [d1, d2, d3, d4, d5] }
  | _ => none }
def houseClosesRow : OpenClaim := { program := "ytbgofenplhdllaa", sum := "b5bc3c6da89528dc3353837af8afa02baf3d7fcab4a2d5fdf3cc034de5e8b04a", func := "moonpool/moonpoollaw10.HouseCloses", spec := "houseCloses", unfollowed := true, recurses := true, apart := false }
def HouseClosesSaid : Prop := houseClosesRow.holds Try.pinned (OpenSpec.ofChange houseClosesSpec)

/-- ITS FALSE NEIGHBOUR: 'it returns false'. Refute it at one input. -/
def houseClosesWrong : ChangeSpec := { name := "houseCloses", fn := fun _ => fun
  | [d1, d2, d3, d4, d5] => { results := [.lit (.bool false)], args := [d1, d2, d3, d4, d5] }
  | _ => none }
def HouseClosesWrongFalsely : Prop := houseClosesRow.holds Try.pinned (OpenSpec.ofChange houseClosesWrong)

/-- 'moonpoollaw10.HouseBlows': WHATEVER THE INPUT: true; the input reads as it did. -/
def houseBlowsSpec : ChangeSpec := { name := "houseBlows", fn := fun _ => fun
  | [d1, d2, d3] => { results := [.lit (.bool true)], args := [d1, d2, d3] }
  | _ => none }
def houseBlowsRow : OpenClaim := { program := "ytbgofenplhdllaa", sum := "b5bc3c6da89528dc3353837af8afa02baf3d7fcab4a2d5fdf3cc034de5e8b04a", func := "moonpool/moonpoollaw10.HouseBlows", spec := "houseBlows", unfollowed := true, recurses := true, apart := false }
def HouseBlowsSaid : Prop := houseBlowsRow.holds Try.pinned (OpenSpec.ofChange houseBlowsSpec)

/-- ITS FALSE NEIGHBOUR: 'it returns false'. Refute it at one input. -/
def houseBlowsWrong : ChangeSpec := { name := "houseBlows", fn := fun _ => fun
  | [d1, d2, d3] => { results := [.lit (.bool false)], args := [d1, d2, d3] }
  | _ => none }
def HouseBlowsWrongFalsely : Prop := houseBlowsRow.holds Try.pinned (OpenSpec.ofChange houseBlowsWrong)

/-- 'moonpoollaw10.HouseChance': WHATEVER THE INPUT: true; the input reads as it did. -/
def houseChanceSpec : ChangeSpec := { name := "houseChance", fn := fun _ => fun
  | [d1, d2] => { results := [.lit (.bool true)], args := [d1, d2] }
  | _ => none }
def houseChanceRow : OpenClaim := { program := "ytbgofenplhdllaa", sum := "b5bc3c6da89528dc3353837af8afa02baf3d7fcab4a2d5fdf3cc034de5e8b04a", func := "moonpool/moonpoollaw10.HouseChance", spec := "houseChance", unfollowed := true, recurses := true, apart := false }
def HouseChanceSaid : Prop := houseChanceRow.holds Try.pinned (OpenSpec.ofChange houseChanceSpec)

/-- ITS FALSE NEIGHBOUR: 'it returns false'. Refute it at one input. -/
def houseChanceWrong : ChangeSpec := { name := "houseChance", fn := fun _ => fun
  | [d1, d2] => { results := [.lit (.bool false)], args := [d1, d2] }
  | _ => none }
def HouseChanceWrongFalsely : Prop := houseChanceRow.holds Try.pinned (OpenSpec.ofChange houseChanceWrong)

/-- 'moonpoollaw10.HousePressures': WHATEVER THE INPUT: true; the input reads as it did. -/
def housePressuresSpec : ChangeSpec := { name := "housePressures", fn := fun _ => fun
  | [d1, d2] => { results := [.lit (.bool true)], args := [d1, d2] }
  | _ => none }
def housePressuresRow : OpenClaim := { program := "ytbgofenplhdllaa", sum := "b5bc3c6da89528dc3353837af8afa02baf3d7fcab4a2d5fdf3cc034de5e8b04a", func := "moonpool/moonpoollaw10.HousePressures", spec := "housePressures", inPlace := ["math/bits.Add64"], unfollowed := true, recurses := true, apart := false }
def HousePressuresSaid : Prop := housePressuresRow.holds Try.pinned (OpenSpec.ofChange housePressuresSpec)

/-- ITS FALSE NEIGHBOUR: 'it returns false'. Refute it at one input. -/
def housePressuresWrong : ChangeSpec := { name := "housePressures", fn := fun _ => fun
  | [d1, d2] => { results := [.lit (.bool false)], args := [d1, d2] }
  | _ => none }
def HousePressuresWrongFalsely : Prop := housePressuresRow.holds Try.pinned (OpenSpec.ofChange housePressuresWrong)

/-- 'moonpoollaw10.HouseKnown': WHATEVER THE INPUT: true; the input reads as it did. -/
def houseKnownSpec : ChangeSpec := { name := "houseKnown", fn := fun _ => fun
  | [] => { results := [.lit (.bool true)], args := [] }
  | _ => none }
def houseKnownRow : OpenClaim := { program := "ytbgofenplhdllaa", sum := "b5bc3c6da89528dc3353837af8afa02baf3d7fcab4a2d5fdf3cc034de5e8b04a", func := "moonpool/moonpoollaw10.HouseKnown", spec := "houseKnown", inPlace := ["math/bits.Add64"], unfollowed := true, recurses := true, apart := false }
def HouseKnownSaid : Prop := houseKnownRow.holds Try.pinned (OpenSpec.ofChange houseKnownSpec)

/-- ITS FALSE NEIGHBOUR: 'it returns false'. Refute it at one input. -/
def houseKnownWrong : ChangeSpec := { name := "houseKnown", fn := fun _ => fun
  | [] => { results := [.lit (.bool false)], args := [] }
  | _ => none }
def HouseKnownWrongFalsely : Prop := houseKnownRow.holds Try.pinned (OpenSpec.ofChange houseKnownWrong)

/- THE SECOND FORM. 'bulk': how many values and letters a reading holds, each counted each time it is reached (what is shared counts as often as it is met; a slice's spare places count too). A statement '..UptoSaid' is the law's where the arguments, and the package variables that the reading takes, are together of bulk at most 1048576: NARROWER than '..Said'. Prove '..Said' where nothing that the law and all that it calls make is longer than what came in: it says more and counts as full. Else prove '..UptoSaid'. A law counts once. -/
mutual
def uptoBulk {H : Type} : DataW H → Nat
  | .lit (.string bytes) => bytes.length + 1
  | .lit _ => 1
  | .nil => 1
  | .ptr d => uptoBulk d + 1
  | .slice elems spare => uptoBulkAll elems + uptoBulkAll spare + 1
  | .agg parts => uptoBulkAll parts + 1
  | .iface _ d => uptoBulk d + 1
  | .map entries => uptoBulkEntries entries + 1
  | .held _ => 1
def uptoBulkAll {H : Type} : List (DataW H) → Nat
  | [] => 0
  | d :: r => uptoBulk d + uptoBulkAll r
def uptoBulkEntries {H : Type} : List (Lit × DataW H) → Nat
  | [] => 0
  | x :: r => uptoBulkEntry x + uptoBulkEntries r
def uptoBulkEntry {H : Type} : Lit × DataW H → Nat
  | (.string bytes, d) => bytes.length + uptoBulk d + 1
  | (_, d) => uptoBulk d + 1
 end
def uptoSmall : (H : Type) → List (DataW H) → Bool := fun _ ds => decide (uptoBulkAll ds ≤ 1048576)
def OpenSpec.upto (s : _root_.Go.ChangeSpec) : _root_.Go.OpenSpec := { _root_.Go.OpenSpec.ofChange s with cond := some uptoSmall }

/-- 'moonpoollaw10.HouseWild', WHERE WHAT IT READS IS OF BULK AT MOST 1048576: true; the input reads as it did. -/
def houseWildUptoRow : OpenClaim := { program := "ytbgofenplhdllaa", sum := "b5bc3c6da89528dc3353837af8afa02baf3d7fcab4a2d5fdf3cc034de5e8b04a", func := "moonpool/moonpoollaw10.HouseWild", spec := "houseWild", unfollowed := true, recurses := true, apart := false, narrowed := true }
def HouseWildUptoSaid : Prop := houseWildUptoRow.holds Try.pinned (OpenSpec.upto houseWildSpec)

/-- 'moonpoollaw10.HouseCloses', WHERE WHAT IT READS IS OF BULK AT MOST 1048576: true; the input reads as it did. -/
def houseClosesUptoRow : OpenClaim := { program := "ytbgofenplhdllaa", sum := "b5bc3c6da89528dc3353837af8afa02baf3d7fcab4a2d5fdf3cc034de5e8b04a", func := "moonpool/moonpoollaw10.HouseCloses", spec := "houseCloses", unfollowed := true, recurses := true, apart := false, narrowed := true }
def HouseClosesUptoSaid : Prop := houseClosesUptoRow.holds Try.pinned (OpenSpec.upto houseClosesSpec)

/-- 'moonpoollaw10.HouseBlows', WHERE WHAT IT READS IS OF BULK AT MOST 1048576: true; the input reads as it did. -/
def houseBlowsUptoRow : OpenClaim := { program := "ytbgofenplhdllaa", sum := "b5bc3c6da89528dc3353837af8afa02baf3d7fcab4a2d5fdf3cc034de5e8b04a", func := "moonpool/moonpoollaw10.HouseBlows", spec := "houseBlows", unfollowed := true, recurses := true, apart := false, narrowed := true }
def HouseBlowsUptoSaid : Prop := houseBlowsUptoRow.holds Try.pinned (OpenSpec.upto houseBlowsSpec)

/-- 'moonpoollaw10.HouseChance', WHERE WHAT IT READS IS OF BULK AT MOST 1048576: true; the input reads as it did. -/
def houseChanceUptoRow : OpenClaim := { program := "ytbgofenplhdllaa", sum := "b5bc3c6da89528dc3353837af8afa02baf3d7fcab4a2d5fdf3cc034de5e8b04a", func := "moonpool/moonpoollaw10.HouseChance", spec := "houseChance", unfollowed := true, recurses := true, apart := false, narrowed := true }
def HouseChanceUptoSaid : Prop := houseChanceUptoRow.holds Try.pinned (OpenSpec.upto houseChanceSpec)

/-- 'moonpoollaw10.HousePressures', WHERE WHAT IT READS IS OF BULK AT MOST 1048576: true; the input reads as it did. -/
def housePressuresUptoRow : OpenClaim := { program := "ytbgofenplhdllaa", sum := "b5bc3c6da89528dc3353837af8afa02baf3d7fcab4a2d5fdf3cc034de5e8b04a", func := "moonpool/moonpoollaw10.HousePressures", spec := "housePressures", inPlace := ["math/bits.Add64"], unfollowed := true, recurses := true, apart := false, narrowed := true }
def HousePressuresUptoSaid : Prop := housePressuresUptoRow.holds Try.pinned (OpenSpec.upto housePressuresSpec)

/-- 'moonpoollaw10.HouseKnown', WHERE WHAT IT READS IS OF BULK AT MOST 1048576: true; the input reads as it did. -/
def houseKnownUptoRow : OpenClaim := { program := "ytbgofenplhdllaa", sum := "b5bc3c6da89528dc3353837af8afa02baf3d7fcab4a2d5fdf3cc034de5e8b04a", func := "moonpool/moonpoollaw10.HouseKnown", spec := "houseKnown", inPlace := ["math/bits.Add64"], unfollowed := true, recurses := true, apart := false, narrowed := true }
def HouseKnownUptoSaid : Prop := houseKnownUptoRow.holds Try.pinned (OpenSpec.upto houseKnownSpec)

end Rows
end Go.Proofs.Ytbgofenplhdllaa
