/-
  No cell of these rows narrows 'for every input' (looked for: loops, veiled, ifaces, maps, wideKeys, modest, calm, conditions, laid).
  DERIVED. THE GIVEN ROWS OF THIS SEAT. 8 by the template 'for every input the law returns true; each argument reads behind the call as it read before'; 0 by the template 'total and deterministic' (their statements: YtjgeddgheonjbaaTotals.lean).
  GIVEN WITH THE SEED: the statements are not yours to turn. If you find one false, say at which input.
  Laid BY PROGRAM, IN A SANDBOX (cutbox-rows.mjs): the forced cells as the released guide's own fill.sh prints them over the translation c684f7194d8ed2cd… (all of the seat's roots in one cut). By AI agents, Wed Nov 11 2026. No macro, syntax, notation, axiom, sorry.
-/
import Derived.Test.YtjgeddgheonjbaaChecked
import GoSem.Claim
import GoSem.ClaimJoined
import GoSem.ClaimMapViews
import Derived.JoinedTies
import Derived.KernelRfl
namespace Go.Proofs.Ytjgeddgheonjbaa
/- THE CELL 'sum', in the pinned program and in every row, IS THE sha256 OF THE DUMP (.gsa) THAT YtjgeddgheonjbaaProg.lean LOADS. Nothing in Lean hashes anything: it is a label: what it is worth is what the hold of that sum in a sandbox is worth. -/
noncomputable def Try.pinned : Pinned := { name := "ytjgeddgheonjbaa", sum := "c684f7194d8ed2cd87172c285a7f35d15af367778fadee08e4a20a99a982e616", checked := Try.checked }
namespace Rows
def none {H : Type} : Left H := { results := [], args := [] }

/-- 'laws.FnBackupOf': WHATEVER THE INPUT: true; the input reads as it did. -/
def fnBackupOfSpec : ChangeSpec := { name := "fnBackupOf", fn := fun _ => fun
  | [d] => { results := [.lit (.bool true)], args := [d] }
  | _ => none }
def fnBackupOfRow : OpenClaim := { program := "ytjgeddgheonjbaa", sum := "c684f7194d8ed2cd87172c285a7f35d15af367778fadee08e4a20a99a982e616", func := "loop.example/tablehouse/laws.FnBackupOf", spec := "fnBackupOf", unfollowed := true, recurses := true, apart := false }
def FnBackupOfSaid : Prop := fnBackupOfRow.holds Try.pinned (OpenSpec.ofChange fnBackupOfSpec)

/-- ITS FALSE NEIGHBOUR: 'it returns false'. Refute it at one input. -/
def fnBackupOfWrong : ChangeSpec := { name := "fnBackupOf", fn := fun _ => fun
  | [d] => { results := [.lit (.bool false)], args := [d] }
  | _ => none }
def FnBackupOfWrongFalsely : Prop := fnBackupOfRow.holds Try.pinned (OpenSpec.ofChange fnBackupOfWrong)

/-- 'laws.FnExactBackupOf': WHATEVER THE INPUT: true; the input reads as it did. -/
def fnExactBackupOfSpec : ChangeSpec := { name := "fnExactBackupOf", fn := fun _ => fun
  | [d1, d2] => { results := [.lit (.bool true)], args := [d1, d2] }
  | _ => none }
def fnExactBackupOfRow : OpenClaim := { program := "ytjgeddgheonjbaa", sum := "c684f7194d8ed2cd87172c285a7f35d15af367778fadee08e4a20a99a982e616", func := "loop.example/tablehouse/laws.FnExactBackupOf", spec := "fnExactBackupOf", unfollowed := true, recurses := true, apart := false }
def FnExactBackupOfSaid : Prop := fnExactBackupOfRow.holds Try.pinned (OpenSpec.ofChange fnExactBackupOfSpec)

/-- ITS FALSE NEIGHBOUR: 'it returns false'. Refute it at one input. -/
def fnExactBackupOfWrong : ChangeSpec := { name := "fnExactBackupOf", fn := fun _ => fun
  | [d1, d2] => { results := [.lit (.bool false)], args := [d1, d2] }
  | _ => none }
def FnExactBackupOfWrongFalsely : Prop := fnExactBackupOfRow.holds Try.pinned (OpenSpec.ofChange fnExactBackupOfWrong)

/-- 'laws.FnLogBehind': WHATEVER THE INPUT: true; the input reads as it did. -/
def fnLogBehindSpec : ChangeSpec := { name := "fnLogBehind", fn := fun _ => fun
  | [d] => { results := [.lit (.bool true)], args := [d] }
  | _ => none }
def fnLogBehindRow : OpenClaim := { program := "ytjgeddgheonjbaa", sum := "c684f7194d8ed2cd87172c285a7f35d15af367778fadee08e4a20a99a982e616", func := "loop.example/tablehouse/laws.FnLogBehind", spec := "fnLogBehind", unfollowed := true, recurses := true, apart := false }
def FnLogBehindSaid : Prop := fnLogBehindRow.holds Try.pinned (OpenSpec.ofChange fnLogBehindSpec)

/-- ITS FALSE NEIGHBOUR: 'it returns false'. Refute it at one input. -/
def fnLogBehindWrong : ChangeSpec := { name := "fnLogBehind", fn := fun _ => fun
  | [d] => { results := [.lit (.bool false)], args := [d] }
  | _ => none }
def FnLogBehindWrongFalsely : Prop := fnLogBehindRow.holds Try.pinned (OpenSpec.ofChange fnLogBehindWrong)

/-- 'laws.FnLogShort': WHATEVER THE INPUT: true; the input reads as it did. -/
def fnLogShortSpec : ChangeSpec := { name := "fnLogShort", fn := fun _ => fun
  | [d] => { results := [.lit (.bool true)], args := [d] }
  | _ => none }
def fnLogShortRow : OpenClaim := { program := "ytjgeddgheonjbaa", sum := "c684f7194d8ed2cd87172c285a7f35d15af367778fadee08e4a20a99a982e616", func := "loop.example/tablehouse/laws.FnLogShort", spec := "fnLogShort", unfollowed := true, recurses := true, apart := false }
def FnLogShortSaid : Prop := fnLogShortRow.holds Try.pinned (OpenSpec.ofChange fnLogShortSpec)

/-- ITS FALSE NEIGHBOUR: 'it returns false'. Refute it at one input. -/
def fnLogShortWrong : ChangeSpec := { name := "fnLogShort", fn := fun _ => fun
  | [d] => { results := [.lit (.bool false)], args := [d] }
  | _ => none }
def FnLogShortWrongFalsely : Prop := fnLogShortRow.holds Try.pinned (OpenSpec.ofChange fnLogShortWrong)

/-- 'laws.FnExactLogShort': WHATEVER THE INPUT: true; the input reads as it did. -/
def fnExactLogShortSpec : ChangeSpec := { name := "fnExactLogShort", fn := fun _ => fun
  | [d1, d2] => { results := [.lit (.bool true)], args := [d1, d2] }
  | _ => none }
def fnExactLogShortRow : OpenClaim := { program := "ytjgeddgheonjbaa", sum := "c684f7194d8ed2cd87172c285a7f35d15af367778fadee08e4a20a99a982e616", func := "loop.example/tablehouse/laws.FnExactLogShort", spec := "fnExactLogShort", unfollowed := true, recurses := true, apart := false }
def FnExactLogShortSaid : Prop := fnExactLogShortRow.holds Try.pinned (OpenSpec.ofChange fnExactLogShortSpec)

/-- ITS FALSE NEIGHBOUR: 'it returns false'. Refute it at one input. -/
def fnExactLogShortWrong : ChangeSpec := { name := "fnExactLogShort", fn := fun _ => fun
  | [d1, d2] => { results := [.lit (.bool false)], args := [d1, d2] }
  | _ => none }
def FnExactLogShortWrongFalsely : Prop := fnExactLogShortRow.holds Try.pinned (OpenSpec.ofChange fnExactLogShortWrong)

/-- 'laws.FnRestoredAt': WHATEVER THE INPUT: true; the input reads as it did. -/
def fnRestoredAtSpec : ChangeSpec := { name := "fnRestoredAt", fn := fun _ => fun
  | [d] => { results := [.lit (.bool true)], args := [d] }
  | _ => none }
def fnRestoredAtRow : OpenClaim := { program := "ytjgeddgheonjbaa", sum := "c684f7194d8ed2cd87172c285a7f35d15af367778fadee08e4a20a99a982e616", func := "loop.example/tablehouse/laws.FnRestoredAt", spec := "fnRestoredAt", unfollowed := true, recurses := true, apart := false }
def FnRestoredAtSaid : Prop := fnRestoredAtRow.holds Try.pinned (OpenSpec.ofChange fnRestoredAtSpec)

/-- ITS FALSE NEIGHBOUR: 'it returns false'. Refute it at one input. -/
def fnRestoredAtWrong : ChangeSpec := { name := "fnRestoredAt", fn := fun _ => fun
  | [d] => { results := [.lit (.bool false)], args := [d] }
  | _ => none }
def FnRestoredAtWrongFalsely : Prop := fnRestoredAtRow.holds Try.pinned (OpenSpec.ofChange fnRestoredAtWrong)

/-- 'laws.FnExactRestoredAt': WHATEVER THE INPUT: true; the input reads as it did. -/
def fnExactRestoredAtSpec : ChangeSpec := { name := "fnExactRestoredAt", fn := fun _ => fun
  | [d1, d2, d3] => { results := [.lit (.bool true)], args := [d1, d2, d3] }
  | _ => none }
def fnExactRestoredAtRow : OpenClaim := { program := "ytjgeddgheonjbaa", sum := "c684f7194d8ed2cd87172c285a7f35d15af367778fadee08e4a20a99a982e616", func := "loop.example/tablehouse/laws.FnExactRestoredAt", spec := "fnExactRestoredAt", unfollowed := true, recurses := true, apart := false }
def FnExactRestoredAtSaid : Prop := fnExactRestoredAtRow.holds Try.pinned (OpenSpec.ofChange fnExactRestoredAtSpec)

/-- ITS FALSE NEIGHBOUR: 'it returns false'. Refute it at one input. -/
def fnExactRestoredAtWrong : ChangeSpec := { name := "fnExactRestoredAt", fn := fun _ => fun
  | [d1, d2, d3] => { results := [.lit (.bool false)], args := [d1, d2, d3] }
  | _ => none }
def FnExactRestoredAtWrongFalsely : Prop := fnExactRestoredAtRow.holds Try.pinned (OpenSpec.ofChange fnExactRestoredAtWrong)

/-- 'laws.FnWholeFollowed': WHATEVER THE INPUT: true; the input reads as it did. -/
def fnWholeFollowedSpec : ChangeSpec := { name := "fnWholeFollowed", fn := fun _ => fun
  | [d] => { results := [.lit (.bool true)], args := [d] }
  | _ => none }
def fnWholeFollowedRow : OpenClaim := { program := "ytjgeddgheonjbaa", sum := "c684f7194d8ed2cd87172c285a7f35d15af367778fadee08e4a20a99a982e616", func := "loop.example/tablehouse/laws.FnWholeFollowed", spec := "fnWholeFollowed", unfollowed := true, recurses := true, apart := false }
def FnWholeFollowedSaid : Prop := fnWholeFollowedRow.holds Try.pinned (OpenSpec.ofChange fnWholeFollowedSpec)

/-- ITS FALSE NEIGHBOUR: 'it returns false'. Refute it at one input. -/
def fnWholeFollowedWrong : ChangeSpec := { name := "fnWholeFollowed", fn := fun _ => fun
  | [d] => { results := [.lit (.bool false)], args := [d] }
  | _ => none }
def FnWholeFollowedWrongFalsely : Prop := fnWholeFollowedRow.holds Try.pinned (OpenSpec.ofChange fnWholeFollowedWrong)

/- THE SECOND FORM. 'bulk': how many values and letters a reading holds, each counted each time it is reached (what is shared counts as often as it is met; a slice's spare places count too). A statement '..UptoSaid' is the law's where the arguments, and the package variables that the reading takes, are together of bulk at most 1048576: NARROWER than '..Said'. Prove '..Said' where nothing that the law and all that it calls make is longer than what came in: it says more and counts as full. Else prove '..UptoSaid'. A law counts once. -/
mutual
def uptoBulk {H : Type} : DataW H → Nat
  | .lit (.string bytes) => bytes.length + 1
  | .lit _ => 1
  | .nil => 1
  | .ptr d => uptoBulk d + 1
  | .slice elems spare => uptoBulkAll elems + uptoBulkAll spare + 1
  | .agg parts => uptoBulkAll parts + 1
  | .iface _ d => uptoBulk d + 1
  | .map entries => uptoBulkEntries entries + 1
  | .held _ => 1
def uptoBulkAll {H : Type} : List (DataW H) → Nat
  | [] => 0
  | d :: r => uptoBulk d + uptoBulkAll r
def uptoBulkEntries {H : Type} : List (Lit × DataW H) → Nat
  | [] => 0
  | x :: r => uptoBulkEntry x + uptoBulkEntries r
def uptoBulkEntry {H : Type} : Lit × DataW H → Nat
  | (.string bytes, d) => bytes.length + uptoBulk d + 1
  | (_, d) => uptoBulk d + 1
 end
def uptoSmall : (H : Type) → List (DataW H) → Bool := fun _ ds => decide (uptoBulkAll ds ≤ 1048576)
def OpenSpec.upto (s : _root_.Go.ChangeSpec) : _root_.Go.OpenSpec := { _root_.Go.OpenSpec.ofChange s with cond := some uptoSmall }

/-- 'laws.FnBackupOf', WHERE WHAT IT READS IS OF BULK AT MOST 1048576: true; the input reads as it did. -/
def fnBackupOfUptoRow : OpenClaim := { program := "ytjgeddgheonjbaa", sum := "c684f7194d8ed2cd87172c285a7f35d15af367778fadee08e4a20a99a982e616", func := "loop.example/tablehouse/laws.FnBackupOf", spec := "fnBackupOf", unfollowed := true, recurses := true, apart := false, narrowed := true }
def FnBackupOfUptoSaid : Prop := fnBackupOfUptoRow.holds Try.pinned (OpenSpec.upto fnBackupOfSpec)

/-- 'laws.FnExactBackupOf', WHERE WHAT IT READS IS OF BULK AT MOST 1048576: true; the input reads as it did. -/
def fnExactBackupOfUptoRow : OpenClaim := { program := "ytjgeddgheonjbaa", sum := "c684f7194d8ed2cd87172c285a7f35d15af367778fadee08e4a20a99a982e616", func := "loop.example/tablehouse/laws.FnExactBackupOf", spec := "fnExactBackupOf", unfollowed := true, recurses := true, apart := false, narrowed := true }
def FnExactBackupOfUptoSaid : Prop := fnExactBackupOfUptoRow.holds Try.pinned (OpenSpec.upto fnExactBackupOfSpec)

/-- 'laws.FnLogBehind', WHERE WHAT IT READS IS OF BULK AT MOST 1048576: true; the input reads as it did. -/
def fnLogBehindUptoRow : OpenClaim := { program := "ytjgeddgheonjbaa", sum := "c684f7194d8ed2cd87172c285a7f35d15af367778fadee08e4a20a99a982e616", func := "loop.example/tablehouse/laws.FnLogBehind", spec := "fnLogBehind", unfollowed := true, recurses := true, apart := false, narrowed := true }
def FnLogBehindUptoSaid : Prop := fnLogBehindUptoRow.holds Try.pinned (OpenSpec.upto fnLogBehindSpec)

/-- 'laws.FnLogShort', WHERE WHAT IT READS IS OF BULK AT MOST 1048576: true; the input reads as it did. -/
def fnLogShortUptoRow : OpenClaim := { program := "ytjgeddgheonjbaa", sum := "c684f7194d8ed2cd87172c285a7f35d15af367778fadee08e4a20a99a982e616", func := "loop.example/tablehouse/laws.FnLogShort", spec := "fnLogShort", unfollowed := true, recurses := true, apart := false, narrowed := true }
def FnLogShortUptoSaid : Prop := fnLogShortUptoRow.holds Try.pinned (OpenSpec.upto fnLogShortSpec)

/-- 'laws.FnExactLogShort', WHERE WHAT IT READS IS OF BULK AT MOST 1048576: true; the input reads as it did. -/
def fnExactLogShortUptoRow : OpenClaim := { program := "ytjgeddgheonjbaa", sum := "c684f7194d8ed2cd87172c285a7f35d15af367778fadee08e4a20a99a982e616", func := "loop.example/tablehouse/laws.FnExactLogShort", spec := "fnExactLogShort", unfollowed := true, recurses := true, apart := false, narrowed := true }
def FnExactLogShortUptoSaid : Prop := fnExactLogShortUptoRow.holds Try.pinned (OpenSpec.upto fnExactLogShortSpec)

/-- 'laws.FnRestoredAt', WHERE WHAT IT READS IS OF BULK AT MOST 1048576: true; the input reads as it did. -/
def fnRestoredAtUptoRow : OpenClaim := { program := "ytjgeddgheonjbaa", sum := "c684f7194d8ed2cd87172c285a7f35d15af367778fadee08e4a20a99a982e616", func := "loop.example/tablehouse/laws.FnRestoredAt", spec := "fnRestoredAt", unfollowed := true, recurses := true, apart := false, narrowed := true }
def FnRestoredAtUptoSaid : Prop := fnRestoredAtUptoRow.holds Try.pinned (OpenSpec.upto fnRestoredAtSpec)

/-- 'laws.FnExactRestoredAt', WHERE WHAT IT READS IS OF BULK AT MOST 1048576: true; the input reads as it did. -/
def fnExactRestoredAtUptoRow : OpenClaim := { program := "ytjgeddgheonjbaa", sum := "c684f7194d8ed2cd87172c285a7f35d15af367778fadee08e4a20a99a982e616", func := "loop.example/tablehouse/laws.FnExactRestoredAt", spec := "fnExactRestoredAt", unfollowed := true, recurses := true, apart := false, narrowed := true }
def FnExactRestoredAtUptoSaid : Prop := fnExactRestoredAtUptoRow.holds Try.pinned (OpenSpec.upto fnExactRestoredAtSpec)

/-- 'laws.FnWholeFollowed', WHERE WHAT IT READS IS OF BULK AT MOST 1048576: true; the input reads as it did. -/
def fnWholeFollowedUptoRow : OpenClaim := { program := "ytjgeddgheonjbaa", sum := "c684f7194d8ed2cd87172c285a7f35d15af367778fadee08e4a20a99a982e616", func := "loop.example/tablehouse/laws.FnWholeFollowed", spec := "fnWholeFollowed", unfollowed := true, recurses := true, apart := false, narrowed := true }
def FnWholeFollowedUptoSaid : Prop := fnWholeFollowedUptoRow.holds Try.pinned (OpenSpec.upto fnWholeFollowedSpec)

end Rows
end Go.Proofs.Ytjgeddgheonjbaa
