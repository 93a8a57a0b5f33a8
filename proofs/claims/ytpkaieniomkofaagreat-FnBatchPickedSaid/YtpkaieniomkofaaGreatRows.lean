/-
  No cell of these rows narrows 'for every input' (looked for: loops, veiled, ifaces, maps, wideKeys, modest, calm, conditions, laid).
  DERIVED. THE GIVEN ROWS OF THIS SEAT. 6 by the template 'for every input the law returns true; each argument reads behind the call as it read before'; 0 by the template 'total and deterministic' (their statements: YtpkaieniomkofaaGreatTotals.lean).
  GIVEN WITH THE SEED: the statements are not yours to turn. If you find one false, say at which input.
  Laid BY PROGRAM, IN A SANDBOX (cutbox-rows.mjs): the forced cells as the released guide's own fill.sh prints them over the translation ae67503dd476462a… (all of the seat's roots in one cut). By AI agents, Wed Nov 11 2026. No macro, syntax, notation, axiom, sorry.
-/
import Derived.Test.YtpkaieniomkofaaGreatChecked
import GoSem.Claim
import GoSem.ClaimJoined
import GoSem.ClaimMapViews
import Derived.JoinedTies
import Derived.KernelRfl
namespace Go.Proofs.YtpkaieniomkofaaGreat
/- THE CELL 'sum', in the pinned program and in every row, IS THE sha256 OF THE DUMP (.gsa) THAT YtpkaieniomkofaaGreatProg.lean LOADS. Nothing in Lean hashes anything: it is a label: what it is worth is what the hold of that sum in a sandbox is worth. -/
noncomputable def Tryz.pinned : Pinned := { name := "ytpkaieniomkofaagreat", sum := "ae67503dd476462a635a96b1541344b892ceb4824a6a413011a4b637e98ff610", checked := Tryz.checked }
namespace Rows
def none {H : Type} : Left H := { results := [], args := [] }

/-- 'laws.FnTablesSeen': WHATEVER THE INPUT: true; the input reads as it did. -/
def fnTablesSeenSpec : ChangeSpec := { name := "fnTablesSeen", fn := fun _ => fun
  | [d] => { results := [.lit (.bool true)], args := [d] }
  | _ => none }
def fnTablesSeenRow : OpenClaim := { program := "ytpkaieniomkofaagreat", sum := "ae67503dd476462a635a96b1541344b892ceb4824a6a413011a4b637e98ff610", func := "loop.example/tablehouse/laws.FnTablesSeen", spec := "fnTablesSeen", unfollowed := true, recurses := true, apart := false }
def FnTablesSeenSaid : Prop := fnTablesSeenRow.holds Tryz.pinned (OpenSpec.ofChange fnTablesSeenSpec)

/-- ITS FALSE NEIGHBOUR: 'it returns false'. Refute it at one input. -/
def fnTablesSeenWrong : ChangeSpec := { name := "fnTablesSeen", fn := fun _ => fun
  | [d] => { results := [.lit (.bool false)], args := [d] }
  | _ => none }
def FnTablesSeenWrongFalsely : Prop := fnTablesSeenRow.holds Tryz.pinned (OpenSpec.ofChange fnTablesSeenWrong)

/-- 'laws.FnBondBroken': WHATEVER THE INPUT: true; the input reads as it did. -/
def fnBondBrokenSpec : ChangeSpec := { name := "fnBondBroken", fn := fun _ => fun
  | [d] => { results := [.lit (.bool true)], args := [d] }
  | _ => none }
def fnBondBrokenRow : OpenClaim := { program := "ytpkaieniomkofaagreat", sum := "ae67503dd476462a635a96b1541344b892ceb4824a6a413011a4b637e98ff610", func := "loop.example/tablehouse/laws.FnBondBroken", spec := "fnBondBroken", unfollowed := true, recurses := true, apart := false }
def FnBondBrokenSaid : Prop := fnBondBrokenRow.holds Tryz.pinned (OpenSpec.ofChange fnBondBrokenSpec)

/-- ITS FALSE NEIGHBOUR: 'it returns false'. Refute it at one input. -/
def fnBondBrokenWrong : ChangeSpec := { name := "fnBondBroken", fn := fun _ => fun
  | [d] => { results := [.lit (.bool false)], args := [d] }
  | _ => none }
def FnBondBrokenWrongFalsely : Prop := fnBondBrokenRow.holds Tryz.pinned (OpenSpec.ofChange fnBondBrokenWrong)

/-- 'laws.FnBondsHold': WHATEVER THE INPUT: true; the input reads as it did. -/
def fnBondsHoldSpec : ChangeSpec := { name := "fnBondsHold", fn := fun _ => fun
  | [d] => { results := [.lit (.bool true)], args := [d] }
  | _ => none }
def fnBondsHoldRow : OpenClaim := { program := "ytpkaieniomkofaagreat", sum := "ae67503dd476462a635a96b1541344b892ceb4824a6a413011a4b637e98ff610", func := "loop.example/tablehouse/laws.FnBondsHold", spec := "fnBondsHold", unfollowed := true, recurses := true, apart := false }
def FnBondsHoldSaid : Prop := fnBondsHoldRow.holds Tryz.pinned (OpenSpec.ofChange fnBondsHoldSpec)

/-- ITS FALSE NEIGHBOUR: 'it returns false'. Refute it at one input. -/
def fnBondsHoldWrong : ChangeSpec := { name := "fnBondsHold", fn := fun _ => fun
  | [d] => { results := [.lit (.bool false)], args := [d] }
  | _ => none }
def FnBondsHoldWrongFalsely : Prop := fnBondsHoldRow.holds Tryz.pinned (OpenSpec.ofChange fnBondsHoldWrong)

/-- 'laws.FnPlanColumns': WHATEVER THE INPUT: true; the input reads as it did. -/
def fnPlanColumnsSpec : ChangeSpec := { name := "fnPlanColumns", fn := fun _ => fun
  | [d] => { results := [.lit (.bool true)], args := [d] }
  | _ => none }
def fnPlanColumnsRow : OpenClaim := { program := "ytpkaieniomkofaagreat", sum := "ae67503dd476462a635a96b1541344b892ceb4824a6a413011a4b637e98ff610", func := "loop.example/tablehouse/laws.FnPlanColumns", spec := "fnPlanColumns", unfollowed := true, recurses := true, apart := false }
def FnPlanColumnsSaid : Prop := fnPlanColumnsRow.holds Tryz.pinned (OpenSpec.ofChange fnPlanColumnsSpec)

/-- ITS FALSE NEIGHBOUR: 'it returns false'. Refute it at one input. -/
def fnPlanColumnsWrong : ChangeSpec := { name := "fnPlanColumns", fn := fun _ => fun
  | [d] => { results := [.lit (.bool false)], args := [d] }
  | _ => none }
def FnPlanColumnsWrongFalsely : Prop := fnPlanColumnsRow.holds Tryz.pinned (OpenSpec.ofChange fnPlanColumnsWrong)

/-- 'laws.FnBatchPicked': WHATEVER THE INPUT: true; the input reads as it did. -/
def fnBatchPickedSpec : ChangeSpec := { name := "fnBatchPicked", fn := fun _ => fun
  | [d] => { results := [.lit (.bool true)], args := [d] }
  | _ => none }
def fnBatchPickedRow : OpenClaim := { program := "ytpkaieniomkofaagreat", sum := "ae67503dd476462a635a96b1541344b892ceb4824a6a413011a4b637e98ff610", func := "loop.example/tablehouse/laws.FnBatchPicked", spec := "fnBatchPicked", unfollowed := true, recurses := true, apart := false }
def FnBatchPickedSaid : Prop := fnBatchPickedRow.holds Tryz.pinned (OpenSpec.ofChange fnBatchPickedSpec)

/-- ITS FALSE NEIGHBOUR: 'it returns false'. Refute it at one input. -/
def fnBatchPickedWrong : ChangeSpec := { name := "fnBatchPicked", fn := fun _ => fun
  | [d] => { results := [.lit (.bool false)], args := [d] }
  | _ => none }
def FnBatchPickedWrongFalsely : Prop := fnBatchPickedRow.holds Tryz.pinned (OpenSpec.ofChange fnBatchPickedWrong)

/-- 'laws.FnWholeMore': WHATEVER THE INPUT: true; the input reads as it did. -/
def fnWholeMoreSpec : ChangeSpec := { name := "fnWholeMore", fn := fun _ => fun
  | [d] => { results := [.lit (.bool true)], args := [d] }
  | _ => none }
def fnWholeMoreRow : OpenClaim := { program := "ytpkaieniomkofaagreat", sum := "ae67503dd476462a635a96b1541344b892ceb4824a6a413011a4b637e98ff610", func := "loop.example/tablehouse/laws.FnWholeMore", spec := "fnWholeMore", unfollowed := true, recurses := true, apart := false }
def FnWholeMoreSaid : Prop := fnWholeMoreRow.holds Tryz.pinned (OpenSpec.ofChange fnWholeMoreSpec)

/-- ITS FALSE NEIGHBOUR: 'it returns false'. Refute it at one input. -/
def fnWholeMoreWrong : ChangeSpec := { name := "fnWholeMore", fn := fun _ => fun
  | [d] => { results := [.lit (.bool false)], args := [d] }
  | _ => none }
def FnWholeMoreWrongFalsely : Prop := fnWholeMoreRow.holds Tryz.pinned (OpenSpec.ofChange fnWholeMoreWrong)

/- THE SECOND FORM. 'bulk': how many values and letters a reading holds, each counted each time it is reached (what is shared counts as often as it is met; a slice's spare places count too). A statement '..UptoSaid' is the law's where the arguments, and the package variables that the reading takes, are together of bulk at most 1048576: NARROWER than '..Said'. Prove '..Said' where nothing that the law and all that it calls make is longer than what came in: it says more and counts as full. Else prove '..UptoSaid'. A law counts once. -/
mutual
def uptoBulk {H : Type} : DataW H → Nat
  | .lit (.string bytes) => bytes.length + 1
  | .lit _ => 1
  | .nil => 1
  | .ptr d => uptoBulk d + 1
  | .slice elems spare => uptoBulkAll elems + uptoBulkAll spare + 1
  | .agg parts => uptoBulkAll parts + 1
  | .iface _ d => uptoBulk d + 1
  | .map entries => uptoBulkEntries entries + 1
  | .held _ => 1
def uptoBulkAll {H : Type} : List (DataW H) → Nat
  | [] => 0
  | d :: r => uptoBulk d + uptoBulkAll r
def uptoBulkEntries {H : Type} : List (Lit × DataW H) → Nat
  | [] => 0
  | x :: r => uptoBulkEntry x + uptoBulkEntries r
def uptoBulkEntry {H : Type} : Lit × DataW H → Nat
  | (.string bytes, d) => bytes.length + uptoBulk d + 1
  | (_, d) => uptoBulk d + 1
 end
def uptoSmall : (H : Type) → List (DataW H) → Bool := fun _ ds => decide (uptoBulkAll ds ≤ 1048576)
def OpenSpec.upto (s : _root_.Go.ChangeSpec) : _root_.Go.OpenSpec := { _root_.Go.OpenSpec.ofChange s with cond := some uptoSmall }

/-- 'laws.FnTablesSeen', WHERE WHAT IT READS IS OF BULK AT MOST 1048576: true; the input reads as it did. -/
def fnTablesSeenUptoRow : OpenClaim := { program := "ytpkaieniomkofaagreat", sum := "ae67503dd476462a635a96b1541344b892ceb4824a6a413011a4b637e98ff610", func := "loop.example/tablehouse/laws.FnTablesSeen", spec := "fnTablesSeen", unfollowed := true, recurses := true, apart := false, narrowed := true }
def FnTablesSeenUptoSaid : Prop := fnTablesSeenUptoRow.holds Tryz.pinned (OpenSpec.upto fnTablesSeenSpec)

/-- 'laws.FnBondBroken', WHERE WHAT IT READS IS OF BULK AT MOST 1048576: true; the input reads as it did. -/
def fnBondBrokenUptoRow : OpenClaim := { program := "ytpkaieniomkofaagreat", sum := "ae67503dd476462a635a96b1541344b892ceb4824a6a413011a4b637e98ff610", func := "loop.example/tablehouse/laws.FnBondBroken", spec := "fnBondBroken", unfollowed := true, recurses := true, apart := false, narrowed := true }
def FnBondBrokenUptoSaid : Prop := fnBondBrokenUptoRow.holds Tryz.pinned (OpenSpec.upto fnBondBrokenSpec)

/-- 'laws.FnBondsHold', WHERE WHAT IT READS IS OF BULK AT MOST 1048576: true; the input reads as it did. -/
def fnBondsHoldUptoRow : OpenClaim := { program := "ytpkaieniomkofaagreat", sum := "ae67503dd476462a635a96b1541344b892ceb4824a6a413011a4b637e98ff610", func := "loop.example/tablehouse/laws.FnBondsHold", spec := "fnBondsHold", unfollowed := true, recurses := true, apart := false, narrowed := true }
def FnBondsHoldUptoSaid : Prop := fnBondsHoldUptoRow.holds Tryz.pinned (OpenSpec.upto fnBondsHoldSpec)

/-- 'laws.FnPlanColumns', WHERE WHAT IT READS IS OF BULK AT MOST 1048576: true; the input reads as it did. -/
def fnPlanColumnsUptoRow : OpenClaim := { program := "ytpkaieniomkofaagreat", sum := "ae67503dd476462a635a96b1541344b892ceb4824a6a413011a4b637e98ff610", func := "loop.example/tablehouse/laws.FnPlanColumns", spec := "fnPlanColumns", unfollowed := true, recurses := true, apart := false, narrowed := true }
def FnPlanColumnsUptoSaid : Prop := fnPlanColumnsUptoRow.holds Tryz.pinned (OpenSpec.upto fnPlanColumnsSpec)

/-- 'laws.FnBatchPicked', WHERE WHAT IT READS IS OF BULK AT MOST 1048576: true; the input reads as it did. -/
def fnBatchPickedUptoRow : OpenClaim := { program := "ytpkaieniomkofaagreat", sum := "ae67503dd476462a635a96b1541344b892ceb4824a6a413011a4b637e98ff610", func := "loop.example/tablehouse/laws.FnBatchPicked", spec := "fnBatchPicked", unfollowed := true, recurses := true, apart := false, narrowed := true }
def FnBatchPickedUptoSaid : Prop := fnBatchPickedUptoRow.holds Tryz.pinned (OpenSpec.upto fnBatchPickedSpec)

/-- 'laws.FnWholeMore', WHERE WHAT IT READS IS OF BULK AT MOST 1048576: true; the input reads as it did. -/
def fnWholeMoreUptoRow : OpenClaim := { program := "ytpkaieniomkofaagreat", sum := "ae67503dd476462a635a96b1541344b892ceb4824a6a413011a4b637e98ff610", func := "loop.example/tablehouse/laws.FnWholeMore", spec := "fnWholeMore", unfollowed := true, recurses := true, apart := false, narrowed := true }
def FnWholeMoreUptoSaid : Prop := fnWholeMoreUptoRow.holds Tryz.pinned (OpenSpec.upto fnWholeMoreSpec)

end Rows
end Go.Proofs.YtpkaieniomkofaaGreat
