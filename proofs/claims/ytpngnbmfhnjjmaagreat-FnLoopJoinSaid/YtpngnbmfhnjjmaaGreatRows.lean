/-
  No cell of these rows narrows 'for every input' (looked for: loops, veiled, ifaces, maps, wideKeys, modest, calm, conditions, laid).
  DERIVED. THE GIVEN ROWS OF THIS SEAT. 9 by the template 'for every input the law returns true; each argument reads behind the call as it read before'; 0 by the template 'total and deterministic' (their statements: YtpngnbmfhnjjmaaGreatTotals.lean).
  GIVEN WITH THE SEED: the statements are not yours to turn. If you find one false, say at which input.
  Laid BY PROGRAM, IN A SANDBOX (cutbox-rows.mjs): the forced cells as the released guide's own fill.sh prints them over the translation 1e9276a49b7cc070… (all of the seat's roots in one cut). By AI agents, Wed Nov 11 2026. No macro, syntax, notation, axiom, sorry.
-/
import Derived.Test.YtpngnbmfhnjjmaaGreatChecked
import GoSem.Claim
import GoSem.ClaimJoined
import GoSem.ClaimMapViews
import Derived.JoinedTies
import Derived.KernelRfl
namespace Go.Proofs.YtpngnbmfhnjjmaaGreat
/- THE CELL 'sum', in the pinned program and in every row, IS THE sha256 OF THE DUMP (.gsa) THAT YtpngnbmfhnjjmaaGreatProg.lean LOADS. Nothing in Lean hashes anything: it is a label: what it is worth is what the hold of that sum in a sandbox is worth. -/
noncomputable def Tryz.pinned : Pinned := { name := "ytpngnbmfhnjjmaagreat", sum := "1e9276a49b7cc0709025d61564d4a48d702649d46508e0e756c05add64d68263", checked := Tryz.checked }
namespace Rows
def none {H : Type} : Left H := { results := [], args := [] }

/-- 'laws.FnLoopJoin': WHATEVER THE INPUT: true; the input reads as it did. -/
def fnLoopJoinSpec : ChangeSpec := { name := "fnLoopJoin", fn := fun _ => fun
  | [d] => { results := [.lit (.bool true)], args := [d] }
  | _ => none }
def fnLoopJoinRow : OpenClaim := { program := "ytpngnbmfhnjjmaagreat", sum := "1e9276a49b7cc0709025d61564d4a48d702649d46508e0e756c05add64d68263", func := "loop.example/tablehouse/laws.FnLoopJoin", spec := "fnLoopJoin", unfollowed := true, recurses := true, apart := false }
def FnLoopJoinSaid : Prop := fnLoopJoinRow.holds Tryz.pinned (OpenSpec.ofChange fnLoopJoinSpec)

/-- ITS FALSE NEIGHBOUR: 'it returns false'. Refute it at one input. -/
def fnLoopJoinWrong : ChangeSpec := { name := "fnLoopJoin", fn := fun _ => fun
  | [d] => { results := [.lit (.bool false)], args := [d] }
  | _ => none }
def FnLoopJoinWrongFalsely : Prop := fnLoopJoinRow.holds Tryz.pinned (OpenSpec.ofChange fnLoopJoinWrong)

/-- 'laws.FnSemiRows': WHATEVER THE INPUT: true; the input reads as it did. -/
def fnSemiRowsSpec : ChangeSpec := { name := "fnSemiRows", fn := fun _ => fun
  | [d] => { results := [.lit (.bool true)], args := [d] }
  | _ => none }
def fnSemiRowsRow : OpenClaim := { program := "ytpngnbmfhnjjmaagreat", sum := "1e9276a49b7cc0709025d61564d4a48d702649d46508e0e756c05add64d68263", func := "loop.example/tablehouse/laws.FnSemiRows", spec := "fnSemiRows", unfollowed := true, recurses := true, apart := false }
def FnSemiRowsSaid : Prop := fnSemiRowsRow.holds Tryz.pinned (OpenSpec.ofChange fnSemiRowsSpec)

/-- ITS FALSE NEIGHBOUR: 'it returns false'. Refute it at one input. -/
def fnSemiRowsWrong : ChangeSpec := { name := "fnSemiRows", fn := fun _ => fun
  | [d] => { results := [.lit (.bool false)], args := [d] }
  | _ => none }
def FnSemiRowsWrongFalsely : Prop := fnSemiRowsRow.holds Tryz.pinned (OpenSpec.ofChange fnSemiRowsWrong)

/-- 'laws.FnAntiRows': WHATEVER THE INPUT: true; the input reads as it did. -/
def fnAntiRowsSpec : ChangeSpec := { name := "fnAntiRows", fn := fun _ => fun
  | [d] => { results := [.lit (.bool true)], args := [d] }
  | _ => none }
def fnAntiRowsRow : OpenClaim := { program := "ytpngnbmfhnjjmaagreat", sum := "1e9276a49b7cc0709025d61564d4a48d702649d46508e0e756c05add64d68263", func := "loop.example/tablehouse/laws.FnAntiRows", spec := "fnAntiRows", unfollowed := true, recurses := true, apart := false }
def FnAntiRowsSaid : Prop := fnAntiRowsRow.holds Tryz.pinned (OpenSpec.ofChange fnAntiRowsSpec)

/-- ITS FALSE NEIGHBOUR: 'it returns false'. Refute it at one input. -/
def fnAntiRowsWrong : ChangeSpec := { name := "fnAntiRows", fn := fun _ => fun
  | [d] => { results := [.lit (.bool false)], args := [d] }
  | _ => none }
def FnAntiRowsWrongFalsely : Prop := fnAntiRowsRow.holds Tryz.pinned (OpenSpec.ofChange fnAntiRowsWrong)

/-- 'laws.FnLeftRows': WHATEVER THE INPUT: true; the input reads as it did. -/
def fnLeftRowsSpec : ChangeSpec := { name := "fnLeftRows", fn := fun _ => fun
  | [d] => { results := [.lit (.bool true)], args := [d] }
  | _ => none }
def fnLeftRowsRow : OpenClaim := { program := "ytpngnbmfhnjjmaagreat", sum := "1e9276a49b7cc0709025d61564d4a48d702649d46508e0e756c05add64d68263", func := "loop.example/tablehouse/laws.FnLeftRows", spec := "fnLeftRows", unfollowed := true, recurses := true, apart := false }
def FnLeftRowsSaid : Prop := fnLeftRowsRow.holds Tryz.pinned (OpenSpec.ofChange fnLeftRowsSpec)

/-- ITS FALSE NEIGHBOUR: 'it returns false'. Refute it at one input. -/
def fnLeftRowsWrong : ChangeSpec := { name := "fnLeftRows", fn := fun _ => fun
  | [d] => { results := [.lit (.bool false)], args := [d] }
  | _ => none }
def FnLeftRowsWrongFalsely : Prop := fnLeftRowsRow.holds Tryz.pinned (OpenSpec.ofChange fnLeftRowsWrong)

/-- 'laws.FnBatchPicked': WHATEVER THE INPUT: true; the input reads as it did. -/
def fnBatchPickedSpec : ChangeSpec := { name := "fnBatchPicked", fn := fun _ => fun
  | [d] => { results := [.lit (.bool true)], args := [d] }
  | _ => none }
def fnBatchPickedRow : OpenClaim := { program := "ytpngnbmfhnjjmaagreat", sum := "1e9276a49b7cc0709025d61564d4a48d702649d46508e0e756c05add64d68263", func := "loop.example/tablehouse/laws.FnBatchPicked", spec := "fnBatchPicked", unfollowed := true, recurses := true, apart := false }
def FnBatchPickedSaid : Prop := fnBatchPickedRow.holds Tryz.pinned (OpenSpec.ofChange fnBatchPickedSpec)

/-- ITS FALSE NEIGHBOUR: 'it returns false'. Refute it at one input. -/
def fnBatchPickedWrong : ChangeSpec := { name := "fnBatchPicked", fn := fun _ => fun
  | [d] => { results := [.lit (.bool false)], args := [d] }
  | _ => none }
def FnBatchPickedWrongFalsely : Prop := fnBatchPickedRow.holds Tryz.pinned (OpenSpec.ofChange fnBatchPickedWrong)

/-- 'laws.FnTablesSeen': WHATEVER THE INPUT: true; the input reads as it did. -/
def fnTablesSeenSpec : ChangeSpec := { name := "fnTablesSeen", fn := fun _ => fun
  | [d] => { results := [.lit (.bool true)], args := [d] }
  | _ => none }
def fnTablesSeenRow : OpenClaim := { program := "ytpngnbmfhnjjmaagreat", sum := "1e9276a49b7cc0709025d61564d4a48d702649d46508e0e756c05add64d68263", func := "loop.example/tablehouse/laws.FnTablesSeen", spec := "fnTablesSeen", unfollowed := true, recurses := true, apart := false }
def FnTablesSeenSaid : Prop := fnTablesSeenRow.holds Tryz.pinned (OpenSpec.ofChange fnTablesSeenSpec)

/-- ITS FALSE NEIGHBOUR: 'it returns false'. Refute it at one input. -/
def fnTablesSeenWrong : ChangeSpec := { name := "fnTablesSeen", fn := fun _ => fun
  | [d] => { results := [.lit (.bool false)], args := [d] }
  | _ => none }
def FnTablesSeenWrongFalsely : Prop := fnTablesSeenRow.holds Tryz.pinned (OpenSpec.ofChange fnTablesSeenWrong)

/-- 'laws.FnBondBroken': WHATEVER THE INPUT: true; the input reads as it did. -/
def fnBondBrokenSpec : ChangeSpec := { name := "fnBondBroken", fn := fun _ => fun
  | [d] => { results := [.lit (.bool true)], args := [d] }
  | _ => none }
def fnBondBrokenRow : OpenClaim := { program := "ytpngnbmfhnjjmaagreat", sum := "1e9276a49b7cc0709025d61564d4a48d702649d46508e0e756c05add64d68263", func := "loop.example/tablehouse/laws.FnBondBroken", spec := "fnBondBroken", unfollowed := true, recurses := true, apart := false }
def FnBondBrokenSaid : Prop := fnBondBrokenRow.holds Tryz.pinned (OpenSpec.ofChange fnBondBrokenSpec)

/-- ITS FALSE NEIGHBOUR: 'it returns false'. Refute it at one input. -/
def fnBondBrokenWrong : ChangeSpec := { name := "fnBondBroken", fn := fun _ => fun
  | [d] => { results := [.lit (.bool false)], args := [d] }
  | _ => none }
def FnBondBrokenWrongFalsely : Prop := fnBondBrokenRow.holds Tryz.pinned (OpenSpec.ofChange fnBondBrokenWrong)

/-- 'laws.FnBondsHold': WHATEVER THE INPUT: true; the input reads as it did. -/
def fnBondsHoldSpec : ChangeSpec := { name := "fnBondsHold", fn := fun _ => fun
  | [d] => { results := [.lit (.bool true)], args := [d] }
  | _ => none }
def fnBondsHoldRow : OpenClaim := { program := "ytpngnbmfhnjjmaagreat", sum := "1e9276a49b7cc0709025d61564d4a48d702649d46508e0e756c05add64d68263", func := "loop.example/tablehouse/laws.FnBondsHold", spec := "fnBondsHold", unfollowed := true, recurses := true, apart := false }
def FnBondsHoldSaid : Prop := fnBondsHoldRow.holds Tryz.pinned (OpenSpec.ofChange fnBondsHoldSpec)

/-- ITS FALSE NEIGHBOUR: 'it returns false'. Refute it at one input. -/
def fnBondsHoldWrong : ChangeSpec := { name := "fnBondsHold", fn := fun _ => fun
  | [d] => { results := [.lit (.bool false)], args := [d] }
  | _ => none }
def FnBondsHoldWrongFalsely : Prop := fnBondsHoldRow.holds Tryz.pinned (OpenSpec.ofChange fnBondsHoldWrong)

/-- 'laws.FnPlanColumns': WHATEVER THE INPUT: true; the input reads as it did. -/
def fnPlanColumnsSpec : ChangeSpec := { name := "fnPlanColumns", fn := fun _ => fun
  | [d] => { results := [.lit (.bool true)], args := [d] }
  | _ => none }
def fnPlanColumnsRow : OpenClaim := { program := "ytpngnbmfhnjjmaagreat", sum := "1e9276a49b7cc0709025d61564d4a48d702649d46508e0e756c05add64d68263", func := "loop.example/tablehouse/laws.FnPlanColumns", spec := "fnPlanColumns", unfollowed := true, recurses := true, apart := false }
def FnPlanColumnsSaid : Prop := fnPlanColumnsRow.holds Tryz.pinned (OpenSpec.ofChange fnPlanColumnsSpec)

/-- ITS FALSE NEIGHBOUR: 'it returns false'. Refute it at one input. -/
def fnPlanColumnsWrong : ChangeSpec := { name := "fnPlanColumns", fn := fun _ => fun
  | [d] => { results := [.lit (.bool false)], args := [d] }
  | _ => none }
def FnPlanColumnsWrongFalsely : Prop := fnPlanColumnsRow.holds Tryz.pinned (OpenSpec.ofChange fnPlanColumnsWrong)

/- THE SECOND FORM. 'bulk': how many values and letters a reading holds, each counted each time it is reached (what is shared counts as often as it is met; a slice's spare places count too). A statement '..UptoSaid' is the law's where the arguments, and the package variables that the reading takes, are together of bulk at most 1048576: NARROWER than '..Said'. Prove '..Said' where nothing that the law and all that it calls make is longer than what came in: it says more and counts as full. Else prove '..UptoSaid'. A law counts once. -/
mutual
def uptoBulk {H : Type} : DataW H → Nat
  | .lit (.string bytes) => bytes.length + 1
  | .lit _ => 1
  | .nil => 1
  | .ptr d => uptoBulk d + 1
  | .slice elems spare => uptoBulkAll elems + uptoBulkAll spare + 1
  | .agg parts => uptoBulkAll parts + 1
  | .iface _ d => uptoBulk d + 1
  | .map entries => uptoBulkEntries entries + 1
  | .held _ => 1
def uptoBulkAll {H : Type} : List (DataW H) → Nat
  | [] => 0
  | d :: r => uptoBulk d + uptoBulkAll r
def uptoBulkEntries {H : Type} : List (Lit × DataW H) → Nat
  | [] => 0
  | x :: r => uptoBulkEntry x + uptoBulkEntries r
def uptoBulkEntry {H : Type} : Lit × DataW H → Nat
  | (.string bytes, d) => bytes.length + uptoBulk d + 1
  | (_, d) => uptoBulk d + 1
 end
def uptoSmall : (H : Type) → List (DataW H) → Bool := fun _ ds => decide (uptoBulkAll ds ≤ 1048576)
def OpenSpec.upto (s : _root_.Go.ChangeSpec) : _root_.Go.OpenSpec := { _root_.Go.OpenSpec.ofChange s with cond := some uptoSmall }

/-- 'laws.FnLoopJoin', WHERE WHAT IT READS IS OF BULK AT MOST 1048576: true; the input reads as it did. -/
def fnLoopJoinUptoRow : OpenClaim := { program := "ytpngnbmfhnjjmaagreat", sum := "1e9276a49b7cc0709025d61564d4a48d702649d46508e0e756c05add64d68263", func := "loop.example/tablehouse/laws.FnLoopJoin", spec := "fnLoopJoin", unfollowed := true, recurses := true, apart := false, narrowed := true }
def FnLoopJoinUptoSaid : Prop := fnLoopJoinUptoRow.holds Tryz.pinned (OpenSpec.upto fnLoopJoinSpec)

/-- 'laws.FnSemiRows', WHERE WHAT IT READS IS OF BULK AT MOST 1048576: true; the input reads as it did. -/
def fnSemiRowsUptoRow : OpenClaim := { program := "ytpngnbmfhnjjmaagreat", sum := "1e9276a49b7cc0709025d61564d4a48d702649d46508e0e756c05add64d68263", func := "loop.example/tablehouse/laws.FnSemiRows", spec := "fnSemiRows", unfollowed := true, recurses := true, apart := false, narrowed := true }
def FnSemiRowsUptoSaid : Prop := fnSemiRowsUptoRow.holds Tryz.pinned (OpenSpec.upto fnSemiRowsSpec)

/-- 'laws.FnAntiRows', WHERE WHAT IT READS IS OF BULK AT MOST 1048576: true; the input reads as it did. -/
def fnAntiRowsUptoRow : OpenClaim := { program := "ytpngnbmfhnjjmaagreat", sum := "1e9276a49b7cc0709025d61564d4a48d702649d46508e0e756c05add64d68263", func := "loop.example/tablehouse/laws.FnAntiRows", spec := "fnAntiRows", unfollowed := true, recurses := true, apart := false, narrowed := true }
def FnAntiRowsUptoSaid : Prop := fnAntiRowsUptoRow.holds Tryz.pinned (OpenSpec.upto fnAntiRowsSpec)

/-- 'laws.FnLeftRows', WHERE WHAT IT READS IS OF BULK AT MOST 1048576: true; the input reads as it did. -/
def fnLeftRowsUptoRow : OpenClaim := { program := "ytpngnbmfhnjjmaagreat", sum := "1e9276a49b7cc0709025d61564d4a48d702649d46508e0e756c05add64d68263", func := "loop.example/tablehouse/laws.FnLeftRows", spec := "fnLeftRows", unfollowed := true, recurses := true, apart := false, narrowed := true }
def FnLeftRowsUptoSaid : Prop := fnLeftRowsUptoRow.holds Tryz.pinned (OpenSpec.upto fnLeftRowsSpec)

/-- 'laws.FnBatchPicked', WHERE WHAT IT READS IS OF BULK AT MOST 1048576: true; the input reads as it did. -/
def fnBatchPickedUptoRow : OpenClaim := { program := "ytpngnbmfhnjjmaagreat", sum := "1e9276a49b7cc0709025d61564d4a48d702649d46508e0e756c05add64d68263", func := "loop.example/tablehouse/laws.FnBatchPicked", spec := "fnBatchPicked", unfollowed := true, recurses := true, apart := false, narrowed := true }
def FnBatchPickedUptoSaid : Prop := fnBatchPickedUptoRow.holds Tryz.pinned (OpenSpec.upto fnBatchPickedSpec)

/-- 'laws.FnTablesSeen', WHERE WHAT IT READS IS OF BULK AT MOST 1048576: true; the input reads as it did. -/
def fnTablesSeenUptoRow : OpenClaim := { program := "ytpngnbmfhnjjmaagreat", sum := "1e9276a49b7cc0709025d61564d4a48d702649d46508e0e756c05add64d68263", func := "loop.example/tablehouse/laws.FnTablesSeen", spec := "fnTablesSeen", unfollowed := true, recurses := true, apart := false, narrowed := true }
def FnTablesSeenUptoSaid : Prop := fnTablesSeenUptoRow.holds Tryz.pinned (OpenSpec.upto fnTablesSeenSpec)

/-- 'laws.FnBondBroken', WHERE WHAT IT READS IS OF BULK AT MOST 1048576: true; the input reads as it did. -/
def fnBondBrokenUptoRow : OpenClaim := { program := "ytpngnbmfhnjjmaagreat", sum := "1e9276a49b7cc0709025d61564d4a48d702649d46508e0e756c05add64d68263", func := "loop.example/tablehouse/laws.FnBondBroken", spec := "fnBondBroken", unfollowed := true, recurses := true, apart := false, narrowed := true }
def FnBondBrokenUptoSaid : Prop := fnBondBrokenUptoRow.holds Tryz.pinned (OpenSpec.upto fnBondBrokenSpec)

/-- 'laws.FnBondsHold', WHERE WHAT IT READS IS OF BULK AT MOST 1048576: true; the input reads as it did. -/
def fnBondsHoldUptoRow : OpenClaim := { program := "ytpngnbmfhnjjmaagreat", sum := "1e9276a49b7cc0709025d61564d4a48d702649d46508e0e756c05add64d68263", func := "loop.example/tablehouse/laws.FnBondsHold", spec := "fnBondsHold", unfollowed := true, recurses := true, apart := false, narrowed := true }
def FnBondsHoldUptoSaid : Prop := fnBondsHoldUptoRow.holds Tryz.pinned (OpenSpec.upto fnBondsHoldSpec)

/-- 'laws.FnPlanColumns', WHERE WHAT IT READS IS OF BULK AT MOST 1048576: true; the input reads as it did. -/
def fnPlanColumnsUptoRow : OpenClaim := { program := "ytpngnbmfhnjjmaagreat", sum := "1e9276a49b7cc0709025d61564d4a48d702649d46508e0e756c05add64d68263", func := "loop.example/tablehouse/laws.FnPlanColumns", spec := "fnPlanColumns", unfollowed := true, recurses := true, apart := false, narrowed := true }
def FnPlanColumnsUptoSaid : Prop := fnPlanColumnsUptoRow.holds Tryz.pinned (OpenSpec.upto fnPlanColumnsSpec)

end Rows
end Go.Proofs.YtpngnbmfhnjjmaaGreat
