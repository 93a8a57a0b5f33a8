/-
  No cell of these rows narrows 'for every input' (looked for: loops, veiled, ifaces, maps, wideKeys, modest, calm, conditions, laid).
  DERIVED. THE GIVEN ROWS OF THIS SEAT. 6 by the template 'for every input the law returns true; each argument reads behind the call as it read before'; 0 by the template 'total and deterministic' (their statements: YtpkclpjdpanekaaGreatTotals.lean).
  GIVEN WITH THE SEED: the statements are not yours to turn. If you find one false, say at which input.
  Laid BY PROGRAM, IN A SANDBOX (cutbox-rows.mjs): the forced cells as the released guide's own fill.sh prints them over the translation 7207aa88881df79b… (all of the seat's roots in one cut). By AI agents, Wed Nov 11 2026. No macro, syntax, notation, axiom, sorry.
-/
import Derived.Test.YtpkclpjdpanekaaGreatChecked
import GoSem.Claim
import GoSem.ClaimJoined
import GoSem.ClaimMapViews
import Derived.JoinedTies
import Derived.KernelRfl
namespace Go.Proofs.YtpkclpjdpanekaaGreat
/- THE CELL 'sum', in the pinned program and in every row, IS THE sha256 OF THE DUMP (.gsa) THAT YtpkclpjdpanekaaGreatProg.lean LOADS. Nothing in Lean hashes anything: it is a label: what it is worth is what the hold of that sum in a sandbox is worth. -/
noncomputable def Tryz.pinned : Pinned := { name := "ytpkclpjdpanekaagreat", sum := "7207aa88881df79b6aebed79ff6c74b303604440c0a6cb562a6d7b4af63ab015", checked := Tryz.checked }
namespace Rows
def none {H : Type} : Left H := { results := [], args := [] }

/-- 'laws.FnExactBondsAsked': WHATEVER THE INPUT: true; the input reads as it did. -/
def fnExactBondsAskedSpec : ChangeSpec := { name := "fnExactBondsAsked", fn := fun _ => fun
  | [d1, d2, d3] => { results := [.lit (.bool true)], args := [d1, d2, d3] }
  | _ => none }
def fnExactBondsAskedRow : OpenClaim := { program := "ytpkclpjdpanekaagreat", sum := "7207aa88881df79b6aebed79ff6c74b303604440c0a6cb562a6d7b4af63ab015", func := "loop.example/tablehouse/laws.FnExactBondsAsked", spec := "fnExactBondsAsked", unfollowed := true, recurses := true, apart := false }
def FnExactBondsAskedSaid : Prop := fnExactBondsAskedRow.holds Tryz.pinned (OpenSpec.ofChange fnExactBondsAskedSpec)

/-- ITS FALSE NEIGHBOUR: 'it returns false'. Refute it at one input. -/
def fnExactBondsAskedWrong : ChangeSpec := { name := "fnExactBondsAsked", fn := fun _ => fun
  | [d1, d2, d3] => { results := [.lit (.bool false)], args := [d1, d2, d3] }
  | _ => none }
def FnExactBondsAskedWrongFalsely : Prop := fnExactBondsAskedRow.holds Tryz.pinned (OpenSpec.ofChange fnExactBondsAskedWrong)

/-- 'laws.FnExactBatchValues': WHATEVER THE INPUT: true; the input reads as it did. -/
def fnExactBatchValuesSpec : ChangeSpec := { name := "fnExactBatchValues", fn := fun _ => fun
  | [d1, d2, d3] => { results := [.lit (.bool true)], args := [d1, d2, d3] }
  | _ => none }
def fnExactBatchValuesRow : OpenClaim := { program := "ytpkclpjdpanekaagreat", sum := "7207aa88881df79b6aebed79ff6c74b303604440c0a6cb562a6d7b4af63ab015", func := "loop.example/tablehouse/laws.FnExactBatchValues", spec := "fnExactBatchValues", unfollowed := true, recurses := true, apart := false }
def FnExactBatchValuesSaid : Prop := fnExactBatchValuesRow.holds Tryz.pinned (OpenSpec.ofChange fnExactBatchValuesSpec)

/-- ITS FALSE NEIGHBOUR: 'it returns false'. Refute it at one input. -/
def fnExactBatchValuesWrong : ChangeSpec := { name := "fnExactBatchValues", fn := fun _ => fun
  | [d1, d2, d3] => { results := [.lit (.bool false)], args := [d1, d2, d3] }
  | _ => none }
def FnExactBatchValuesWrongFalsely : Prop := fnExactBatchValuesRow.holds Tryz.pinned (OpenSpec.ofChange fnExactBatchValuesWrong)

/-- 'laws.FnExactBatchPicked': WHATEVER THE INPUT: true; the input reads as it did. -/
def fnExactBatchPickedSpec : ChangeSpec := { name := "fnExactBatchPicked", fn := fun _ => fun
  | [d1, d2, d3] => { results := [.lit (.bool true)], args := [d1, d2, d3] }
  | _ => none }
def fnExactBatchPickedRow : OpenClaim := { program := "ytpkclpjdpanekaagreat", sum := "7207aa88881df79b6aebed79ff6c74b303604440c0a6cb562a6d7b4af63ab015", func := "loop.example/tablehouse/laws.FnExactBatchPicked", spec := "fnExactBatchPicked", unfollowed := true, recurses := true, apart := false }
def FnExactBatchPickedSaid : Prop := fnExactBatchPickedRow.holds Tryz.pinned (OpenSpec.ofChange fnExactBatchPickedSpec)

/-- ITS FALSE NEIGHBOUR: 'it returns false'. Refute it at one input. -/
def fnExactBatchPickedWrong : ChangeSpec := { name := "fnExactBatchPicked", fn := fun _ => fun
  | [d1, d2, d3] => { results := [.lit (.bool false)], args := [d1, d2, d3] }
  | _ => none }
def FnExactBatchPickedWrongFalsely : Prop := fnExactBatchPickedRow.holds Tryz.pinned (OpenSpec.ofChange fnExactBatchPickedWrong)

/-- 'laws.FnExactSemiRows': WHATEVER THE INPUT: true; the input reads as it did. -/
def fnExactSemiRowsSpec : ChangeSpec := { name := "fnExactSemiRows", fn := fun _ => fun
  | [d1, d2, d3, d4, d5] => { results := [.lit (.bool true)], args := [d1, d2, d3, d4, d5] }
  | _ => none }
def fnExactSemiRowsRow : OpenClaim := { program := "ytpkclpjdpanekaagreat", sum := "7207aa88881df79b6aebed79ff6c74b303604440c0a6cb562a6d7b4af63ab015", func := "loop.example/tablehouse/laws.FnExactSemiRows", spec := "fnExactSemiRows", unfollowed := true, recurses := true, apart := false }
def FnExactSemiRowsSaid : Prop := fnExactSemiRowsRow.holds Tryz.pinned (OpenSpec.ofChange fnExactSemiRowsSpec)

/-- ITS FALSE NEIGHBOUR: 'it returns false'. Refute it at one input. -/
def fnExactSemiRowsWrong : ChangeSpec := { name := "fnExactSemiRows", fn := fun _ => fun
  | [d1, d2, d3, d4, d5] => { results := [.lit (.bool false)], args := [d1, d2, d3, d4, d5] }
  | _ => none }
def FnExactSemiRowsWrongFalsely : Prop := fnExactSemiRowsRow.holds Tryz.pinned (OpenSpec.ofChange fnExactSemiRowsWrong)

/-- 'laws.FnExactAntiRows': WHATEVER THE INPUT: true; the input reads as it did. -/
def fnExactAntiRowsSpec : ChangeSpec := { name := "fnExactAntiRows", fn := fun _ => fun
  | [d1, d2, d3, d4, d5] => { results := [.lit (.bool true)], args := [d1, d2, d3, d4, d5] }
  | _ => none }
def fnExactAntiRowsRow : OpenClaim := { program := "ytpkclpjdpanekaagreat", sum := "7207aa88881df79b6aebed79ff6c74b303604440c0a6cb562a6d7b4af63ab015", func := "loop.example/tablehouse/laws.FnExactAntiRows", spec := "fnExactAntiRows", unfollowed := true, recurses := true, apart := false }
def FnExactAntiRowsSaid : Prop := fnExactAntiRowsRow.holds Tryz.pinned (OpenSpec.ofChange fnExactAntiRowsSpec)

/-- ITS FALSE NEIGHBOUR: 'it returns false'. Refute it at one input. -/
def fnExactAntiRowsWrong : ChangeSpec := { name := "fnExactAntiRows", fn := fun _ => fun
  | [d1, d2, d3, d4, d5] => { results := [.lit (.bool false)], args := [d1, d2, d3, d4, d5] }
  | _ => none }
def FnExactAntiRowsWrongFalsely : Prop := fnExactAntiRowsRow.holds Tryz.pinned (OpenSpec.ofChange fnExactAntiRowsWrong)

/-- 'laws.FnExactLeftRows': WHATEVER THE INPUT: true; the input reads as it did. -/
def fnExactLeftRowsSpec : ChangeSpec := { name := "fnExactLeftRows", fn := fun _ => fun
  | [d1, d2, d3, d4, d5] => { results := [.lit (.bool true)], args := [d1, d2, d3, d4, d5] }
  | _ => none }
def fnExactLeftRowsRow : OpenClaim := { program := "ytpkclpjdpanekaagreat", sum := "7207aa88881df79b6aebed79ff6c74b303604440c0a6cb562a6d7b4af63ab015", func := "loop.example/tablehouse/laws.FnExactLeftRows", spec := "fnExactLeftRows", unfollowed := true, recurses := true, apart := false }
def FnExactLeftRowsSaid : Prop := fnExactLeftRowsRow.holds Tryz.pinned (OpenSpec.ofChange fnExactLeftRowsSpec)

/-- ITS FALSE NEIGHBOUR: 'it returns false'. Refute it at one input. -/
def fnExactLeftRowsWrong : ChangeSpec := { name := "fnExactLeftRows", fn := fun _ => fun
  | [d1, d2, d3, d4, d5] => { results := [.lit (.bool false)], args := [d1, d2, d3, d4, d5] }
  | _ => none }
def FnExactLeftRowsWrongFalsely : Prop := fnExactLeftRowsRow.holds Tryz.pinned (OpenSpec.ofChange fnExactLeftRowsWrong)

/- THE SECOND FORM. 'bulk': how many values and letters a reading holds, each counted each time it is reached (what is shared counts as often as it is met; a slice's spare places count too). A statement '..UptoSaid' is the law's where the arguments, and the package variables that the reading takes, are together of bulk at most 1048576: NARROWER than '..Said'. Prove '..Said' where nothing that the law and all that it calls make is longer than what came in: it says more and counts as full. Else prove '..UptoSaid'. A law counts once. -/
mutual
def uptoBulk {H : Type} : DataW H → Nat
  | .lit (.string bytes) => bytes.length + 1
  | .lit _ => 1
  | .nil => 1
  | .ptr d => uptoBulk d + 1
  | .slice elems spare => uptoBulkAll elems + uptoBulkAll spare + 1
  | .agg parts => uptoBulkAll parts + 1
  | .iface _ d => uptoBulk d + 1
  | .map entries => uptoBulkEntries entries + 1
  | .held _ => 1
def uptoBulkAll {H : Type} : List (DataW H) → Nat
  | [] => 0
  | d :: r => uptoBulk d + uptoBulkAll r
def uptoBulkEntries {H : Type} : List (Lit × DataW H) → Nat
  | [] => 0
  | x :: r => uptoBulkEntry x + uptoBulkEntries r
def uptoBulkEntry {H : Type} : Lit × DataW H → Nat
  | (.string bytes, d) => bytes.length + uptoBulk d + 1
  | (_, d) => uptoBulk d + 1
 end
def uptoSmall : (H : Type) → List (DataW H) → Bool := fun _ ds => decide (uptoBulkAll ds ≤ 1048576)
def OpenSpec.upto (s : _root_.Go.ChangeSpec) : _root_.Go.OpenSpec := { _root_.Go.OpenSpec.ofChange s with cond := some uptoSmall }

/-- 'laws.FnExactBondsAsked', WHERE WHAT IT READS IS OF BULK AT MOST 1048576: true; the input reads as it did. -/
def fnExactBondsAskedUptoRow : OpenClaim := { program := "ytpkclpjdpanekaagreat", sum := "7207aa88881df79b6aebed79ff6c74b303604440c0a6cb562a6d7b4af63ab015", func := "loop.example/tablehouse/laws.FnExactBondsAsked", spec := "fnExactBondsAsked", unfollowed := true, recurses := true, apart := false, narrowed := true }
def FnExactBondsAskedUptoSaid : Prop := fnExactBondsAskedUptoRow.holds Tryz.pinned (OpenSpec.upto fnExactBondsAskedSpec)

/-- 'laws.FnExactBatchValues', WHERE WHAT IT READS IS OF BULK AT MOST 1048576: true; the input reads as it did. -/
def fnExactBatchValuesUptoRow : OpenClaim := { program := "ytpkclpjdpanekaagreat", sum := "7207aa88881df79b6aebed79ff6c74b303604440c0a6cb562a6d7b4af63ab015", func := "loop.example/tablehouse/laws.FnExactBatchValues", spec := "fnExactBatchValues", unfollowed := true, recurses := true, apart := false, narrowed := true }
def FnExactBatchValuesUptoSaid : Prop := fnExactBatchValuesUptoRow.holds Tryz.pinned (OpenSpec.upto fnExactBatchValuesSpec)

/-- 'laws.FnExactBatchPicked', WHERE WHAT IT READS IS OF BULK AT MOST 1048576: true; the input reads as it did. -/
def fnExactBatchPickedUptoRow : OpenClaim := { program := "ytpkclpjdpanekaagreat", sum := "7207aa88881df79b6aebed79ff6c74b303604440c0a6cb562a6d7b4af63ab015", func := "loop.example/tablehouse/laws.FnExactBatchPicked", spec := "fnExactBatchPicked", unfollowed := true, recurses := true, apart := false, narrowed := true }
def FnExactBatchPickedUptoSaid : Prop := fnExactBatchPickedUptoRow.holds Tryz.pinned (OpenSpec.upto fnExactBatchPickedSpec)

/-- 'laws.FnExactSemiRows', WHERE WHAT IT READS IS OF BULK AT MOST 1048576: true; the input reads as it did. -/
def fnExactSemiRowsUptoRow : OpenClaim := { program := "ytpkclpjdpanekaagreat", sum := "7207aa88881df79b6aebed79ff6c74b303604440c0a6cb562a6d7b4af63ab015", func := "loop.example/tablehouse/laws.FnExactSemiRows", spec := "fnExactSemiRows", unfollowed := true, recurses := true, apart := false, narrowed := true }
def FnExactSemiRowsUptoSaid : Prop := fnExactSemiRowsUptoRow.holds Tryz.pinned (OpenSpec.upto fnExactSemiRowsSpec)

/-- 'laws.FnExactAntiRows', WHERE WHAT IT READS IS OF BULK AT MOST 1048576: true; the input reads as it did. -/
def fnExactAntiRowsUptoRow : OpenClaim := { program := "ytpkclpjdpanekaagreat", sum := "7207aa88881df79b6aebed79ff6c74b303604440c0a6cb562a6d7b4af63ab015", func := "loop.example/tablehouse/laws.FnExactAntiRows", spec := "fnExactAntiRows", unfollowed := true, recurses := true, apart := false, narrowed := true }
def FnExactAntiRowsUptoSaid : Prop := fnExactAntiRowsUptoRow.holds Tryz.pinned (OpenSpec.upto fnExactAntiRowsSpec)

/-- 'laws.FnExactLeftRows', WHERE WHAT IT READS IS OF BULK AT MOST 1048576: true; the input reads as it did. -/
def fnExactLeftRowsUptoRow : OpenClaim := { program := "ytpkclpjdpanekaagreat", sum := "7207aa88881df79b6aebed79ff6c74b303604440c0a6cb562a6d7b4af63ab015", func := "loop.example/tablehouse/laws.FnExactLeftRows", spec := "fnExactLeftRows", unfollowed := true, recurses := true, apart := false, narrowed := true }
def FnExactLeftRowsUptoSaid : Prop := fnExactLeftRowsUptoRow.holds Tryz.pinned (OpenSpec.upto fnExactLeftRowsSpec)

end Rows
end Go.Proofs.YtpkclpjdpanekaaGreat
