/-
  No cell of these rows narrows 'for every input' (looked for: loops, veiled, ifaces, maps, wideKeys, modest, calm, conditions, laid).
  DERIVED. THE GIVEN ROWS OF THIS SEAT. 10 by the template 'for every input the law returns true; each argument reads behind the call as it read before'; 0 by the template 'total and deterministic' (their statements: YtmdmgpikbebejaaTotals.lean).
  GIVEN WITH THE SEED: the statements are not yours to turn. If you find one false, say at which input.
  Laid BY PROGRAM, IN A SANDBOX (cutbox-rows.mjs): the forced cells as the released guide's own fill.sh prints them over the translation b72bb674e5dad040… (all of the seat's roots in one cut). By AI agents, Wed Nov 11 2026. No macro, syntax, notation, axiom, sorry.
-/
import Derived.Test.YtmdmgpikbebejaaChecked
import GoSem.Claim
import GoSem.ClaimJoined
import GoSem.ClaimMapViews
import Derived.JoinedTies
import Derived.KernelRfl
namespace Go.Proofs.Ytmdmgpikbebejaa
/- THE CELL 'sum', in the pinned program and in every row, IS THE sha256 OF THE DUMP (.gsa) THAT YtmdmgpikbebejaaProg.lean LOADS. Nothing in Lean hashes anything: it is a label: what it is worth is what the hold of that sum in a sandbox is worth. -/
noncomputable def Try.pinned : Pinned := { name := "ytmdmgpikbebejaa", sum := "b72bb674e5dad04072b914349f5b3c9776d1bbf464c7c6dd28163a2f903f809f", checked := Try.checked }
namespace Rows
def none {H : Type} : Left H := { results := [], args := [] }

/-- 'moonpoollaw07.KillChecks': WHATEVER THE INPUT: true; the input reads as it did. -/
def killChecksSpec : ChangeSpec := { name := "killChecks", fn := fun _ => fun
  | [d1, d2, d3, d4] => { results := [.lit (.bool true)], args := [d1, d2, d3, d4] }
  | _ => none }
def killChecksRow : OpenClaim := { program := "ytmdmgpikbebejaa", sum := "b72bb674e5dad04072b914349f5b3c9776d1bbf464c7c6dd28163a2f903f809f", func := "moonpool/moonpoollaw07.KillChecks", spec := "killChecks", unfollowed := true, recurses := true, apart := false }
def KillChecksSaid : Prop := killChecksRow.holds Try.pinned (OpenSpec.ofChange killChecksSpec)

/-- ITS FALSE NEIGHBOUR: 'it returns false'. Refute it at one input. -/
def killChecksWrong : ChangeSpec := { name := "killChecks", fn := fun _ => fun
  | [d1, d2, d3, d4] => { results := [.lit (.bool false)], args := [d1, d2, d3, d4] }
  | _ => none }
def KillChecksWrongFalsely : Prop := killChecksRow.holds Try.pinned (OpenSpec.ofChange killChecksWrong)

/-- 'moonpoollaw07.KillSame': WHATEVER THE INPUT: true; the input reads as it did. -/
def killSameSpec : ChangeSpec := { name := "killSame", fn := fun _ => fun
  | [d1, d2, d3] => { results := [.lit (.bool true)], args := [d1, d2, d3] }
  | _ => none }
def killSameRow : OpenClaim := { program := "ytmdmgpikbebejaa", sum := "b72bb674e5dad04072b914349f5b3c9776d1bbf464c7c6dd28163a2f903f809f", func := "moonpool/moonpoollaw07.KillSame", spec := "killSame", unfollowed := true, recurses := true, apart := false }
def KillSameSaid : Prop := killSameRow.holds Try.pinned (OpenSpec.ofChange killSameSpec)

/-- ITS FALSE NEIGHBOUR: 'it returns false'. Refute it at one input. -/
def killSameWrong : ChangeSpec := { name := "killSame", fn := fun _ => fun
  | [d1, d2, d3] => { results := [.lit (.bool false)], args := [d1, d2, d3] }
  | _ => none }
def KillSameWrongFalsely : Prop := killSameRow.holds Try.pinned (OpenSpec.ofChange killSameWrong)

/-- 'moonpoollaw07.KillMore': WHATEVER THE INPUT: true; the input reads as it did. -/
def killMoreSpec : ChangeSpec := { name := "killMore", fn := fun _ => fun
  | [d1, d2, d3, d4] => { results := [.lit (.bool true)], args := [d1, d2, d3, d4] }
  | _ => none }
def killMoreRow : OpenClaim := { program := "ytmdmgpikbebejaa", sum := "b72bb674e5dad04072b914349f5b3c9776d1bbf464c7c6dd28163a2f903f809f", func := "moonpool/moonpoollaw07.KillMore", spec := "killMore", unfollowed := true, recurses := true, apart := false }
def KillMoreSaid : Prop := killMoreRow.holds Try.pinned (OpenSpec.ofChange killMoreSpec)

/-- ITS FALSE NEIGHBOUR: 'it returns false'. Refute it at one input. -/
def killMoreWrong : ChangeSpec := { name := "killMore", fn := fun _ => fun
  | [d1, d2, d3, d4] => { results := [.lit (.bool false)], args := [d1, d2, d3, d4] }
  | _ => none }
def KillMoreWrongFalsely : Prop := killMoreRow.holds Try.pinned (OpenSpec.ofChange killMoreWrong)

/-- 'moonpoollaw07.KillGas': WHATEVER THE INPUT: true; the input reads as it did. -/
def killGasSpec : ChangeSpec := { name := "killGas", fn := fun _ => fun
  | [d1, d2, d3] => { results := [.lit (.bool true)], args := [d1, d2, d3] }
  | _ => none }
def killGasRow : OpenClaim := { program := "ytmdmgpikbebejaa", sum := "b72bb674e5dad04072b914349f5b3c9776d1bbf464c7c6dd28163a2f903f809f", func := "moonpool/moonpoollaw07.KillGas", spec := "killGas", unfollowed := true, recurses := true, apart := false }
def KillGasSaid : Prop := killGasRow.holds Try.pinned (OpenSpec.ofChange killGasSpec)

/-- ITS FALSE NEIGHBOUR: 'it returns false'. Refute it at one input. -/
def killGasWrong : ChangeSpec := { name := "killGas", fn := fun _ => fun
  | [d1, d2, d3] => { results := [.lit (.bool false)], args := [d1, d2, d3] }
  | _ => none }
def KillGasWrongFalsely : Prop := killGasRow.holds Try.pinned (OpenSpec.ofChange killGasWrong)

/-- 'moonpoollaw07.KillKnown': WHATEVER THE INPUT: true; the input reads as it did. -/
def killKnownSpec : ChangeSpec := { name := "killKnown", fn := fun _ => fun
  | [] => { results := [.lit (.bool true)], args := [] }
  | _ => none }
def killKnownRow : OpenClaim := { program := "ytmdmgpikbebejaa", sum := "b72bb674e5dad04072b914349f5b3c9776d1bbf464c7c6dd28163a2f903f809f", func := "moonpool/moonpoollaw07.KillKnown", spec := "killKnown", unfollowed := true, recurses := true, apart := false }
def KillKnownSaid : Prop := killKnownRow.holds Try.pinned (OpenSpec.ofChange killKnownSpec)

/-- ITS FALSE NEIGHBOUR: 'it returns false'. Refute it at one input. -/
def killKnownWrong : ChangeSpec := { name := "killKnown", fn := fun _ => fun
  | [] => { results := [.lit (.bool false)], args := [] }
  | _ => none }
def KillKnownWrongFalsely : Prop := killKnownRow.holds Try.pinned (OpenSpec.ofChange killKnownWrong)

/-- 'moonpoollaw07.KillBroken': WHATEVER THE INPUT: true; the input reads as it did. -/
def killBrokenSpec : ChangeSpec := { name := "killBroken", fn := fun _ => fun
  | [d] => { results := [.lit (.bool true)], args := [d] }
  | _ => none }
def killBrokenRow : OpenClaim := { program := "ytmdmgpikbebejaa", sum := "b72bb674e5dad04072b914349f5b3c9776d1bbf464c7c6dd28163a2f903f809f", func := "moonpool/moonpoollaw07.KillBroken", spec := "killBroken", unfollowed := true, recurses := true, apart := false }
def KillBrokenSaid : Prop := killBrokenRow.holds Try.pinned (OpenSpec.ofChange killBrokenSpec)

/-- ITS FALSE NEIGHBOUR: 'it returns false'. Refute it at one input. -/
def killBrokenWrong : ChangeSpec := { name := "killBroken", fn := fun _ => fun
  | [d] => { results := [.lit (.bool false)], args := [d] }
  | _ => none }
def KillBrokenWrongFalsely : Prop := killBrokenRow.holds Try.pinned (OpenSpec.ofChange killBrokenWrong)

/-- 'moonpoollaw07.KillEasier': WHATEVER THE INPUT: true; the input reads as it did. -/
def killEasierSpec : ChangeSpec := { name := "killEasier", fn := fun _ => fun
  | [d1, d2] => { results := [.lit (.bool true)], args := [d1, d2] }
  | _ => none }
def killEasierRow : OpenClaim := { program := "ytmdmgpikbebejaa", sum := "b72bb674e5dad04072b914349f5b3c9776d1bbf464c7c6dd28163a2f903f809f", func := "moonpool/moonpoollaw07.KillEasier", spec := "killEasier", unfollowed := true, recurses := true, apart := false }
def KillEasierSaid : Prop := killEasierRow.holds Try.pinned (OpenSpec.ofChange killEasierSpec)

/-- ITS FALSE NEIGHBOUR: 'it returns false'. Refute it at one input. -/
def killEasierWrong : ChangeSpec := { name := "killEasier", fn := fun _ => fun
  | [d1, d2] => { results := [.lit (.bool false)], args := [d1, d2] }
  | _ => none }
def KillEasierWrongFalsely : Prop := killEasierRow.holds Try.pinned (OpenSpec.ofChange killEasierWrong)

/-- 'moonpoollaw07.KillFirst': WHATEVER THE INPUT: true; the input reads as it did. -/
def killFirstSpec : ChangeSpec := { name := "killFirst", fn := fun _ => fun
  | [d] => { results := [.lit (.bool true)], args := [d] }
  | _ => none }
def killFirstRow : OpenClaim := { program := "ytmdmgpikbebejaa", sum := "b72bb674e5dad04072b914349f5b3c9776d1bbf464c7c6dd28163a2f903f809f", func := "moonpool/moonpoollaw07.KillFirst", spec := "killFirst", unfollowed := true, recurses := true, apart := false }
def KillFirstSaid : Prop := killFirstRow.holds Try.pinned (OpenSpec.ofChange killFirstSpec)

/-- ITS FALSE NEIGHBOUR: 'it returns false'. Refute it at one input. -/
def killFirstWrong : ChangeSpec := { name := "killFirst", fn := fun _ => fun
  | [d] => { results := [.lit (.bool false)], args := [d] }
  | _ => none }
def KillFirstWrongFalsely : Prop := killFirstRow.holds Try.pinned (OpenSpec.ofChange killFirstWrong)

/-- 'moonpoollaw07.KillWindow': WHATEVER THE INPUT: true; the input reads as it did. -/
def killWindowSpec : ChangeSpec := { name := "killWindow", fn := fun _ => fun
  | [d1, d2, d3, d4] => { results := [.lit (.bool true)], args := [d1, d2, d3, d4] }
  | _ => none }
def killWindowRow : OpenClaim := { program := "ytmdmgpikbebejaa", sum := "b72bb674e5dad04072b914349f5b3c9776d1bbf464c7c6dd28163a2f903f809f", func := "moonpool/moonpoollaw07.KillWindow", spec := "killWindow", unfollowed := true, recurses := true, apart := false }
def KillWindowSaid : Prop := killWindowRow.holds Try.pinned (OpenSpec.ofChange killWindowSpec)

/-- ITS FALSE NEIGHBOUR: 'it returns false'. Refute it at one input. -/
def killWindowWrong : ChangeSpec := { name := "killWindow", fn := fun _ => fun
  | [d1, d2, d3, d4] => { results := [.lit (.bool false)], args := [d1, d2, d3, d4] }
  | _ => none }
def KillWindowWrongFalsely : Prop := killWindowRow.holds Try.pinned (OpenSpec.ofChange killWindowWrong)

/-- 'moonpoollaw07.KillMost': WHATEVER THE INPUT: true; the input reads as it did. -/
def killMostSpec : ChangeSpec := { name := "killMost", fn := fun _ => fun
  | [d1, d2, d3, d4, d5] => { results := [.lit (.bool true)], args := [d1, d2, d3, d4, d5] }
  | _ => none }
def killMostRow : OpenClaim := { program := "ytmdmgpikbebejaa", sum := "b72bb674e5dad04072b914349f5b3c9776d1bbf464c7c6dd28163a2f903f809f", func := "moonpool/moonpoollaw07.KillMost", spec := "killMost", unfollowed := true, recurses := true, apart := false }
def KillMostSaid : Prop := killMostRow.holds Try.pinned (OpenSpec.ofChange killMostSpec)

/-- ITS FALSE NEIGHBOUR: 'it returns false'. Refute it at one input. -/
def killMostWrong : ChangeSpec := { name := "killMost", fn := fun _ => fun
  | [d1, d2, d3, d4, d5] => { results := [.lit (.bool false)], args := [d1, d2, d3, d4, d5] }
  | _ => none }
def KillMostWrongFalsely : Prop := killMostRow.holds Try.pinned (OpenSpec.ofChange killMostWrong)

/- THE SECOND FORM. 'bulk': how many values and letters a reading holds, each counted each time it is reached (what is shared counts as often as it is met; a slice's spare places count too). A statement '..UptoSaid' is the law's where the arguments, and the package variables that the reading takes, are together of bulk at most 1048576: NARROWER than '..Said'. Prove '..Said' where nothing that the law and all that it calls make is longer than what came in: it says more and counts as full. Else prove '..UptoSaid'. A law counts once. -/
mutual
def uptoBulk {H : Type} : DataW H → Nat
  | .lit (.string bytes) => bytes.length + 1
  | .lit _ => 1
  | .nil => 1
  | .ptr d => uptoBulk d + 1
  | .slice elems spare => uptoBulkAll elems + uptoBulkAll spare + 1
  | .agg parts => uptoBulkAll parts + 1
  | .iface _ d => uptoBulk d + 1
  | .map entries => uptoBulkEntries entries + 1
  | .held _ => 1
def uptoBulkAll {H : Type} : List (DataW H) → Nat
  | [] => 0
  | d :: r => uptoBulk d + uptoBulkAll r
def uptoBulkEntries {H : Type} : List (Lit × DataW H) → Nat
  | [] => 0
  | x :: r => uptoBulkEntry x + uptoBulkEntries r
def uptoBulkEntry {H : Type} : Lit × DataW H → Nat
  | (.string bytes, d) => bytes.length + uptoBulk d + 1
  | (_, d) => uptoBulk d + 1
 end
def uptoSmall : (H : Type) → List (DataW H) → Bool := fun _ ds => decide (uptoBulkAll ds ≤ 1048576)
def OpenSpec.upto (s : _root_.Go.ChangeSpec) : _root_.Go.OpenSpec := { _root_.Go.OpenSpec.ofChange s with cond := some uptoSmall }

/-- 'moonpoollaw07.KillChecks', WHERE WHAT IT READS IS OF BULK AT MOST 1048576: true; the input reads as it did. -/
def killChecksUptoRow : OpenClaim := { program := "ytmdmgpikbebejaa", sum := "b72bb674e5dad04072b914349f5b3c9776d1bbf464c7c6dd28163a2f903f809f", func := "moonpool/moonpoollaw07.KillChecks", spec := "killChecks", unfollowed := true, recurses := true, apart := false, narrowed := true }
def KillChecksUptoSaid : Prop := killChecksUptoRow.holds Try.pinned (OpenSpec.upto killChecksSpec)

/-- 'moonpoollaw07.KillSame', WHERE WHAT IT READS IS OF BULK AT MOST 1048576: true; the input reads as it did. -/
def killSameUptoRow : OpenClaim := { program := "ytmdmgpikbebejaa", sum := "b72bb674e5dad04072b914349f5b3c9776d1bbf464c7c6dd28163a2f903f809f", func := "moonpool/moonpoollaw07.KillSame", spec := "killSame", unfollowed := true, recurses := true, apart := false, narrowed := true }
def KillSameUptoSaid : Prop := killSameUptoRow.holds Try.pinned (OpenSpec.upto killSameSpec)

/-- 'moonpoollaw07.KillMore', WHERE WHAT IT READS IS OF BULK AT MOST 1048576: true; the input reads as it did. -/
def killMoreUptoRow : OpenClaim := { program := "ytmdmgpikbebejaa", sum := "b72bb674e5dad04072b914349f5b3c9776d1bbf464c7c6dd28163a2f903f809f", func := "moonpool/moonpoollaw07.KillMore", spec := "killMore", unfollowed := true, recurses := true, apart := false, narrowed := true }
def KillMoreUptoSaid : Prop := killMoreUptoRow.holds Try.pinned (OpenSpec.upto killMoreSpec)

/-- 'moonpoollaw07.KillGas', WHERE WHAT IT READS IS OF BULK AT MOST 1048576: true; the input reads as it did. -/
def killGasUptoRow : OpenClaim := { program := "ytmdmgpikbebejaa", sum := "b72bb674e5dad04072b914349f5b3c9776d1bbf464c7c6dd28163a2f903f809f", func := "moonpool/moonpoollaw07.KillGas", spec := "killGas", unfollowed := true, recurses := true, apart := false, narrowed := true }
def KillGasUptoSaid : Prop := killGasUptoRow.holds Try.pinned (OpenSpec.upto killGasSpec)

/-- 'moonpoollaw07.KillKnown', WHERE WHAT IT READS IS OF BULK AT MOST 1048576: true; the input reads as it did. -/
def killKnownUptoRow : OpenClaim := { program := "ytmdmgpikbebejaa", sum := "b72bb674e5dad04072b914349f5b3c9776d1bbf464c7c6dd28163a2f903f809f", func := "moonpool/moonpoollaw07.KillKnown", spec := "killKnown", unfollowed := true, recurses := true, apart := false, narrowed := true }
def KillKnownUptoSaid : Prop := killKnownUptoRow.holds Try.pinned (OpenSpec.upto killKnownSpec)

/-- 'moonpoollaw07.KillBroken', WHERE WHAT IT READS IS OF BULK AT MOST 1048576: true; the input reads as it did. -/
def killBrokenUptoRow : OpenClaim := { program := "ytmdmgpikbebejaa", sum := "b72bb674e5dad04072b914349f5b3c9776d1bbf464c7c6dd28163a2f903f809f", func := "moonpool/moonpoollaw07.KillBroken", spec := "killBroken", unfollowed := true, recurses := true, apart := false, narrowed := true }
def KillBrokenUptoSaid : Prop := killBrokenUptoRow.holds Try.pinned (OpenSpec.upto killBrokenSpec)

/-- 'moonpoollaw07.KillEasier', WHERE WHAT IT READS IS OF BULK AT MOST 1048576: true; the input reads as it did. -/
def killEasierUptoRow : OpenClaim := { program := "ytmdmgpikbebejaa", sum := "b72bb674e5dad04072b914349f5b3c9776d1bbf464c7c6dd28163a2f903f809f", func := "moonpool/moonpoollaw07.KillEasier", spec := "killEasier", unfollowed := true, recurses := true, apart := false, narrowed := true }
def KillEasierUptoSaid : Prop := killEasierUptoRow.holds Try.pinned (OpenSpec.upto killEasierSpec)

/-- 'moonpoollaw07.KillFirst', WHERE WHAT IT READS IS OF BULK AT MOST 1048576: true; the input reads as it did. -/
def killFirstUptoRow : OpenClaim := { program := "ytmdmgpikbebejaa", sum := "b72bb674e5dad04072b914349f5b3c9776d1bbf464c7c6dd28163a2f903f809f", func := "moonpool/moonpoollaw07.KillFirst", spec := "killFirst", unfollowed := true, recurses := true, apart := false, narrowed := true }
def KillFirstUptoSaid : Prop := killFirstUptoRow.holds Try.pinned (OpenSpec.upto killFirstSpec)

/-- 'moonpoollaw07.KillWindow', WHERE WHAT IT READS IS OF BULK AT MOST 1048576: true; the input reads as it did. -/
def killWindowUptoRow : OpenClaim := { program := "ytmdmgpikbebejaa", sum := "b72bb674e5dad04072b914349f5b3c9776d1bbf464c7c6dd28163a2f903f809f", func := "moonpool/moonpoollaw07.KillWindow", spec := "killWindow", unfollowed := true, recurses := true, apart := false, narrowed := true }
def KillWindowUptoSaid : Prop := killWindowUptoRow.holds Try.pinned (OpenSpec.upto killWindowSpec)

/-- 'moonpoollaw07.KillMost', WHERE WHAT IT READS IS OF BULK AT MOST 1048576: true; the input reads as it did. -/
def killMostUptoRow : OpenClaim := { program := "ytmdmgpikbebejaa", sum := "b72bb674e5dad04072b914349f5b3c9776d1bbf464c7c6dd28163a2f903f809f", func := "moonpool/moonpoollaw07.KillMost", spec := "killMost", unfollowed := true, recurses := true, apart := false, narrowed := true }
def KillMostUptoSaid : Prop := killMostUptoRow.holds Try.pinned (OpenSpec.upto killMostSpec)

end Rows
end Go.Proofs.Ytmdmgpikbebejaa
