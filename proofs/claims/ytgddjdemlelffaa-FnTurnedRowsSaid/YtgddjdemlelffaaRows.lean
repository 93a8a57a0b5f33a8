/-
  No cell of these rows narrows 'for every input' (looked for: loops, veiled, ifaces, maps, wideKeys, modest, calm, conditions, laid).
  DERIVED. THE GIVEN ROWS OF THIS SEAT. 6 by the template 'for every input the law returns true; each argument reads behind the call as it read before'; 0 by the template 'total and deterministic' (their statements: YtgddjdemlelffaaTotals.lean).
  GIVEN WITH THE SEED: the statements are not yours to turn. If you find one false, say at which input.
  Laid BY PROGRAM, IN A SANDBOX (cutbox-rows.mjs): the forced cells as the released guide's own fill.sh prints them over the translation 8c0fd1fc61558515… (all of the seat's roots in one cut). By AI agents, Wed Nov 11 2026. No macro, syntax, notation, axiom, sorry.
-/
import Derived.Test.YtgddjdemlelffaaChecked
import GoSem.Claim
import GoSem.ClaimJoined
import GoSem.ClaimMapViews
import Derived.JoinedTies
import Derived.KernelRfl
namespace Go.Proofs.Ytgddjdemlelffaa
/- THE CELL 'sum', in the pinned program and in every row, IS THE sha256 OF THE DUMP (.gsa) THAT YtgddjdemlelffaaProg.lean LOADS. Nothing in Lean hashes anything: it is a label: what it is worth is what the hold of that sum in a sandbox is worth. -/
noncomputable def Try.pinned : Pinned := { name := "ytgddjdemlelffaa", sum := "8c0fd1fc61558515307f1c698478317761c895f49433715dbe46a06aea5975ee", checked := Try.checked }
namespace Rows
def none {H : Type} : Left H := { results := [], args := [] }

/-- 'laws.FnDeltaOf': WHATEVER THE INPUT: true; the input reads as it did. -/
def fnDeltaOfSpec : ChangeSpec := { name := "fnDeltaOf", fn := fun _ => fun
  | [d] => { results := [.lit (.bool true)], args := [d] }
  | _ => none }
def fnDeltaOfRow : OpenClaim := { program := "ytgddjdemlelffaa", sum := "8c0fd1fc61558515307f1c698478317761c895f49433715dbe46a06aea5975ee", func := "loop.example/tablehouse/laws.FnDeltaOf", spec := "fnDeltaOf", inPlace := ["slices.overlaps[[]loop.example/tablehouse/impl.Value]"], unfollowed := true, recurses := true, apart := false }
def FnDeltaOfSaid : Prop := fnDeltaOfRow.holds Try.pinned (OpenSpec.ofChange fnDeltaOfSpec)

/-- ITS FALSE NEIGHBOUR: 'it returns false'. Refute it at one input. -/
def fnDeltaOfWrong : ChangeSpec := { name := "fnDeltaOf", fn := fun _ => fun
  | [d] => { results := [.lit (.bool false)], args := [d] }
  | _ => none }
def FnDeltaOfWrongFalsely : Prop := fnDeltaOfRow.holds Try.pinned (OpenSpec.ofChange fnDeltaOfWrong)

/-- 'laws.FnDeltaRows': WHATEVER THE INPUT: true; the input reads as it did. -/
def fnDeltaRowsSpec : ChangeSpec := { name := "fnDeltaRows", fn := fun _ => fun
  | [d] => { results := [.lit (.bool true)], args := [d] }
  | _ => none }
def fnDeltaRowsRow : OpenClaim := { program := "ytgddjdemlelffaa", sum := "8c0fd1fc61558515307f1c698478317761c895f49433715dbe46a06aea5975ee", func := "loop.example/tablehouse/laws.FnDeltaRows", spec := "fnDeltaRows", inPlace := ["slices.overlaps[[]loop.example/tablehouse/impl.Value]"], unfollowed := true, recurses := true, apart := false }
def FnDeltaRowsSaid : Prop := fnDeltaRowsRow.holds Try.pinned (OpenSpec.ofChange fnDeltaRowsSpec)

/-- ITS FALSE NEIGHBOUR: 'it returns false'. Refute it at one input. -/
def fnDeltaRowsWrong : ChangeSpec := { name := "fnDeltaRows", fn := fun _ => fun
  | [d] => { results := [.lit (.bool false)], args := [d] }
  | _ => none }
def FnDeltaRowsWrongFalsely : Prop := fnDeltaRowsRow.holds Try.pinned (OpenSpec.ofChange fnDeltaRowsWrong)

/-- 'laws.FnTurnedRows': WHATEVER THE INPUT: true; the input reads as it did. -/
def fnTurnedRowsSpec : ChangeSpec := { name := "fnTurnedRows", fn := fun _ => fun
  | [d] => { results := [.lit (.bool true)], args := [d] }
  | _ => none }
def fnTurnedRowsRow : OpenClaim := { program := "ytgddjdemlelffaa", sum := "8c0fd1fc61558515307f1c698478317761c895f49433715dbe46a06aea5975ee", func := "loop.example/tablehouse/laws.FnTurnedRows", spec := "fnTurnedRows", inPlace := ["slices.overlaps[loop.example/tablehouse/impl.Tally]"], unfollowed := true, recurses := true, apart := false }
def FnTurnedRowsSaid : Prop := fnTurnedRowsRow.holds Try.pinned (OpenSpec.ofChange fnTurnedRowsSpec)

/-- ITS FALSE NEIGHBOUR: 'it returns false'. Refute it at one input. -/
def fnTurnedRowsWrong : ChangeSpec := { name := "fnTurnedRows", fn := fun _ => fun
  | [d] => { results := [.lit (.bool false)], args := [d] }
  | _ => none }
def FnTurnedRowsWrongFalsely : Prop := fnTurnedRowsRow.holds Try.pinned (OpenSpec.ofChange fnTurnedRowsWrong)

/-- 'laws.FnExactTalliesTurned': WHATEVER THE INPUT: true; the input reads as it did. -/
def fnExactTalliesTurnedSpec : ChangeSpec := { name := "fnExactTalliesTurned", fn := fun _ => fun
  | [d1, d2] => { results := [.lit (.bool true)], args := [d1, d2] }
  | _ => none }
def fnExactTalliesTurnedRow : OpenClaim := { program := "ytgddjdemlelffaa", sum := "8c0fd1fc61558515307f1c698478317761c895f49433715dbe46a06aea5975ee", func := "loop.example/tablehouse/laws.FnExactTalliesTurned", spec := "fnExactTalliesTurned", inPlace := ["slices.overlaps[loop.example/tablehouse/impl.Tally]"], unfollowed := true, recurses := true, apart := false }
def FnExactTalliesTurnedSaid : Prop := fnExactTalliesTurnedRow.holds Try.pinned (OpenSpec.ofChange fnExactTalliesTurnedSpec)

/-- ITS FALSE NEIGHBOUR: 'it returns false'. Refute it at one input. -/
def fnExactTalliesTurnedWrong : ChangeSpec := { name := "fnExactTalliesTurned", fn := fun _ => fun
  | [d1, d2] => { results := [.lit (.bool false)], args := [d1, d2] }
  | _ => none }
def FnExactTalliesTurnedWrongFalsely : Prop := fnExactTalliesTurnedRow.holds Try.pinned (OpenSpec.ofChange fnExactTalliesTurnedWrong)

/-- 'laws.FnChangesOf': WHATEVER THE INPUT: true; the input reads as it did. -/
def fnChangesOfSpec : ChangeSpec := { name := "fnChangesOf", fn := fun _ => fun
  | [d] => { results := [.lit (.bool true)], args := [d] }
  | _ => none }
def fnChangesOfRow : OpenClaim := { program := "ytgddjdemlelffaa", sum := "8c0fd1fc61558515307f1c698478317761c895f49433715dbe46a06aea5975ee", func := "loop.example/tablehouse/laws.FnChangesOf", spec := "fnChangesOf", inPlace := ["slices.overlaps[[]loop.example/tablehouse/impl.Value]"], unfollowed := true, recurses := true, apart := false }
def FnChangesOfSaid : Prop := fnChangesOfRow.holds Try.pinned (OpenSpec.ofChange fnChangesOfSpec)

/-- ITS FALSE NEIGHBOUR: 'it returns false'. Refute it at one input. -/
def fnChangesOfWrong : ChangeSpec := { name := "fnChangesOf", fn := fun _ => fun
  | [d] => { results := [.lit (.bool false)], args := [d] }
  | _ => none }
def FnChangesOfWrongFalsely : Prop := fnChangesOfRow.holds Try.pinned (OpenSpec.ofChange fnChangesOfWrong)

/-- 'laws.FnEdgesOf': WHATEVER THE INPUT: true; the input reads as it did. -/
def fnEdgesOfSpec : ChangeSpec := { name := "fnEdgesOf", fn := fun _ => fun
  | [d] => { results := [.lit (.bool true)], args := [d] }
  | _ => none }
def fnEdgesOfRow : OpenClaim := { program := "ytgddjdemlelffaa", sum := "8c0fd1fc61558515307f1c698478317761c895f49433715dbe46a06aea5975ee", func := "loop.example/tablehouse/laws.FnEdgesOf", spec := "fnEdgesOf", unfollowed := true, recurses := true, apart := false }
def FnEdgesOfSaid : Prop := fnEdgesOfRow.holds Try.pinned (OpenSpec.ofChange fnEdgesOfSpec)

/-- ITS FALSE NEIGHBOUR: 'it returns false'. Refute it at one input. -/
def fnEdgesOfWrong : ChangeSpec := { name := "fnEdgesOf", fn := fun _ => fun
  | [d] => { results := [.lit (.bool false)], args := [d] }
  | _ => none }
def FnEdgesOfWrongFalsely : Prop := fnEdgesOfRow.holds Try.pinned (OpenSpec.ofChange fnEdgesOfWrong)

/- THE SECOND FORM. 'bulk': how many values and letters a reading holds, each counted each time it is reached (what is shared counts as often as it is met; a slice's spare places count too). A statement '..UptoSaid' is the law's where the arguments, and the package variables that the reading takes, are together of bulk at most 1048576: NARROWER than '..Said'. Prove '..Said' where nothing that the law and all that it calls make is longer than what came in: it says more and counts as full. Else prove '..UptoSaid'. A law counts once. -/
mutual
def uptoBulk {H : Type} : DataW H → Nat
  | .lit (.string bytes) => bytes.length + 1
  | .lit _ => 1
  | .nil => 1
  | .ptr d => uptoBulk d + 1
  | .slice elems spare => uptoBulkAll elems + uptoBulkAll spare + 1
  | .agg parts => uptoBulkAll parts + 1
  | .iface _ d => uptoBulk d + 1
  | .map entries => uptoBulkEntries entries + 1
  | .held _ => 1
def uptoBulkAll {H : Type} : List (DataW H) → Nat
  | [] => 0
  | d :: r => uptoBulk d + uptoBulkAll r
def uptoBulkEntries {H : Type} : List (Lit × DataW H) → Nat
  | [] => 0
  | x :: r => uptoBulkEntry x + uptoBulkEntries r
def uptoBulkEntry {H : Type} : Lit × DataW H → Nat
  | (.string bytes, d) => bytes.length + uptoBulk d + 1
  | (_, d) => uptoBulk d + 1
 end
def uptoSmall : (H : Type) → List (DataW H) → Bool := fun _ ds => decide (uptoBulkAll ds ≤ 1048576)
def OpenSpec.upto (s : _root_.Go.ChangeSpec) : _root_.Go.OpenSpec := { _root_.Go.OpenSpec.ofChange s with cond := some uptoSmall }

/-- 'laws.FnDeltaOf', WHERE WHAT IT READS IS OF BULK AT MOST 1048576: true; the input reads as it did. -/
def fnDeltaOfUptoRow : OpenClaim := { program := "ytgddjdemlelffaa", sum := "8c0fd1fc61558515307f1c698478317761c895f49433715dbe46a06aea5975ee", func := "loop.example/tablehouse/laws.FnDeltaOf", spec := "fnDeltaOf", inPlace := ["slices.overlaps[[]loop.example/tablehouse/impl.Value]"], unfollowed := true, recurses := true, apart := false, narrowed := true }
def FnDeltaOfUptoSaid : Prop := fnDeltaOfUptoRow.holds Try.pinned (OpenSpec.upto fnDeltaOfSpec)

/-- 'laws.FnDeltaRows', WHERE WHAT IT READS IS OF BULK AT MOST 1048576: true; the input reads as it did. -/
def fnDeltaRowsUptoRow : OpenClaim := { program := "ytgddjdemlelffaa", sum := "8c0fd1fc61558515307f1c698478317761c895f49433715dbe46a06aea5975ee", func := "loop.example/tablehouse/laws.FnDeltaRows", spec := "fnDeltaRows", inPlace := ["slices.overlaps[[]loop.example/tablehouse/impl.Value]"], unfollowed := true, recurses := true, apart := false, narrowed := true }
def FnDeltaRowsUptoSaid : Prop := fnDeltaRowsUptoRow.holds Try.pinned (OpenSpec.upto fnDeltaRowsSpec)

/-- 'laws.FnTurnedRows', WHERE WHAT IT READS IS OF BULK AT MOST 1048576: true; the input reads as it did. -/
def fnTurnedRowsUptoRow : OpenClaim := { program := "ytgddjdemlelffaa", sum := "8c0fd1fc61558515307f1c698478317761c895f49433715dbe46a06aea5975ee", func := "loop.example/tablehouse/laws.FnTurnedRows", spec := "fnTurnedRows", inPlace := ["slices.overlaps[loop.example/tablehouse/impl.Tally]"], unfollowed := true, recurses := true, apart := false, narrowed := true }
def FnTurnedRowsUptoSaid : Prop := fnTurnedRowsUptoRow.holds Try.pinned (OpenSpec.upto fnTurnedRowsSpec)

/-- 'laws.FnExactTalliesTurned', WHERE WHAT IT READS IS OF BULK AT MOST 1048576: true; the input reads as it did. -/
def fnExactTalliesTurnedUptoRow : OpenClaim := { program := "ytgddjdemlelffaa", sum := "8c0fd1fc61558515307f1c698478317761c895f49433715dbe46a06aea5975ee", func := "loop.example/tablehouse/laws.FnExactTalliesTurned", spec := "fnExactTalliesTurned", inPlace := ["slices.overlaps[loop.example/tablehouse/impl.Tally]"], unfollowed := true, recurses := true, apart := false, narrowed := true }
def FnExactTalliesTurnedUptoSaid : Prop := fnExactTalliesTurnedUptoRow.holds Try.pinned (OpenSpec.upto fnExactTalliesTurnedSpec)

/-- 'laws.FnChangesOf', WHERE WHAT IT READS IS OF BULK AT MOST 1048576: true; the input reads as it did. -/
def fnChangesOfUptoRow : OpenClaim := { program := "ytgddjdemlelffaa", sum := "8c0fd1fc61558515307f1c698478317761c895f49433715dbe46a06aea5975ee", func := "loop.example/tablehouse/laws.FnChangesOf", spec := "fnChangesOf", inPlace := ["slices.overlaps[[]loop.example/tablehouse/impl.Value]"], unfollowed := true, recurses := true, apart := false, narrowed := true }
def FnChangesOfUptoSaid : Prop := fnChangesOfUptoRow.holds Try.pinned (OpenSpec.upto fnChangesOfSpec)

/-- 'laws.FnEdgesOf', WHERE WHAT IT READS IS OF BULK AT MOST 1048576: true; the input reads as it did. -/
def fnEdgesOfUptoRow : OpenClaim := { program := "ytgddjdemlelffaa", sum := "8c0fd1fc61558515307f1c698478317761c895f49433715dbe46a06aea5975ee", func := "loop.example/tablehouse/laws.FnEdgesOf", spec := "fnEdgesOf", unfollowed := true, recurses := true, apart := false, narrowed := true }
def FnEdgesOfUptoSaid : Prop := fnEdgesOfUptoRow.holds Try.pinned (OpenSpec.upto fnEdgesOfSpec)

end Rows
end Go.Proofs.Ytgddjdemlelffaa
