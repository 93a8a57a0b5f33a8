/-
  No cell of these rows narrows 'for every input' (looked for: loops, veiled, ifaces, maps, wideKeys, modest, calm, conditions, laid).
  DERIVED. THE GIVEN ROWS OF THIS SEAT. 8 by the template 'for every input the law returns true; each argument reads behind the call as it read before'; 0 by the template 'total and deterministic' (their statements: YtamegkbinbplaaaTotals.lean).
  GIVEN WITH THE SEED: the statements are not yours to turn. If you find one false, say at which input.
  Laid BY PROGRAM, IN A SANDBOX (cutbox-rows.mjs): the forced cells as the released guide's own fill.sh prints them over the translation cdaaff0f4c78b5b1… (all of the seat's roots in one cut). By AI agents, Wed Nov 11 2026. No macro, syntax, notation, axiom, sorry.
-/
import Derived.Test.YtamegkbinbplaaaChecked
import GoSem.Claim
import GoSem.ClaimJoined
import GoSem.ClaimMapViews
import Derived.JoinedTies
import Derived.KernelRfl
namespace Go.Proofs.Ytamegkbinbplaaa
/- THE CELL 'sum', in the pinned program and in every row, IS THE sha256 OF THE DUMP (.gsa) THAT YtamegkbinbplaaaProg.lean LOADS. Nothing in Lean hashes anything: it is a label: what it is worth is what the hold of that sum in a sandbox is worth. -/
noncomputable def Try.pinned : Pinned := { name := "ytamegkbinbplaaa", sum := "cdaaff0f4c78b5b1ffab81168d9c07e2867b02b2cbdd6463a449fe4ab830d91e", checked := Try.checked }
namespace Rows
def none {H : Type} : Left H := { results := [], args := [] }

/-- 'laws.FnExactEdgesOf': WHATEVER THE INPUT: true; the input reads as it did. -/
def fnExactEdgesOfSpec : ChangeSpec := { name := "fnExactEdgesOf", fn := fun _ => fun
  | [d] => { results := [.lit (.bool true)], args := [d] }
  | _ => none }
def fnExactEdgesOfRow : OpenClaim := { program := "ytamegkbinbplaaa", sum := "cdaaff0f4c78b5b1ffab81168d9c07e2867b02b2cbdd6463a449fe4ab830d91e", func := "loop.example/tablehouse/laws.FnExactEdgesOf", spec := "fnExactEdgesOf", unfollowed := true, recurses := true, apart := false }
def FnExactEdgesOfSaid : Prop := fnExactEdgesOfRow.holds Try.pinned (OpenSpec.ofChange fnExactEdgesOfSpec)

/-- ITS FALSE NEIGHBOUR: 'it returns false'. Refute it at one input. -/
def fnExactEdgesOfWrong : ChangeSpec := { name := "fnExactEdgesOf", fn := fun _ => fun
  | [d] => { results := [.lit (.bool false)], args := [d] }
  | _ => none }
def FnExactEdgesOfWrongFalsely : Prop := fnExactEdgesOfRow.holds Try.pinned (OpenSpec.ofChange fnExactEdgesOfWrong)

/-- 'laws.FnDangerOf': WHATEVER THE INPUT: true; the input reads as it did. -/
def fnDangerOfSpec : ChangeSpec := { name := "fnDangerOf", fn := fun _ => fun
  | [d] => { results := [.lit (.bool true)], args := [d] }
  | _ => none }
def fnDangerOfRow : OpenClaim := { program := "ytamegkbinbplaaa", sum := "cdaaff0f4c78b5b1ffab81168d9c07e2867b02b2cbdd6463a449fe4ab830d91e", func := "loop.example/tablehouse/laws.FnDangerOf", spec := "fnDangerOf", unfollowed := true, recurses := true, apart := false }
def FnDangerOfSaid : Prop := fnDangerOfRow.holds Try.pinned (OpenSpec.ofChange fnDangerOfSpec)

/-- ITS FALSE NEIGHBOUR: 'it returns false'. Refute it at one input. -/
def fnDangerOfWrong : ChangeSpec := { name := "fnDangerOf", fn := fun _ => fun
  | [d] => { results := [.lit (.bool false)], args := [d] }
  | _ => none }
def FnDangerOfWrongFalsely : Prop := fnDangerOfRow.holds Try.pinned (OpenSpec.ofChange fnDangerOfWrong)

/-- 'laws.FnExactDangerOf': WHATEVER THE INPUT: true; the input reads as it did. -/
def fnExactDangerOfSpec : ChangeSpec := { name := "fnExactDangerOf", fn := fun _ => fun
  | [d] => { results := [.lit (.bool true)], args := [d] }
  | _ => none }
def fnExactDangerOfRow : OpenClaim := { program := "ytamegkbinbplaaa", sum := "cdaaff0f4c78b5b1ffab81168d9c07e2867b02b2cbdd6463a449fe4ab830d91e", func := "loop.example/tablehouse/laws.FnExactDangerOf", spec := "fnExactDangerOf", unfollowed := true, recurses := true, apart := false }
def FnExactDangerOfSaid : Prop := fnExactDangerOfRow.holds Try.pinned (OpenSpec.ofChange fnExactDangerOfSpec)

/-- ITS FALSE NEIGHBOUR: 'it returns false'. Refute it at one input. -/
def fnExactDangerOfWrong : ChangeSpec := { name := "fnExactDangerOf", fn := fun _ => fun
  | [d] => { results := [.lit (.bool false)], args := [d] }
  | _ => none }
def FnExactDangerOfWrongFalsely : Prop := fnExactDangerOfRow.holds Try.pinned (OpenSpec.ofChange fnExactDangerOfWrong)

/-- 'laws.FnSerialOrder': WHATEVER THE INPUT: true; the input reads as it did. -/
def fnSerialOrderSpec : ChangeSpec := { name := "fnSerialOrder", fn := fun _ => fun
  | [d] => { results := [.lit (.bool true)], args := [d] }
  | _ => none }
def fnSerialOrderRow : OpenClaim := { program := "ytamegkbinbplaaa", sum := "cdaaff0f4c78b5b1ffab81168d9c07e2867b02b2cbdd6463a449fe4ab830d91e", func := "loop.example/tablehouse/laws.FnSerialOrder", spec := "fnSerialOrder", unfollowed := true, recurses := true, apart := false }
def FnSerialOrderSaid : Prop := fnSerialOrderRow.holds Try.pinned (OpenSpec.ofChange fnSerialOrderSpec)

/-- ITS FALSE NEIGHBOUR: 'it returns false'. Refute it at one input. -/
def fnSerialOrderWrong : ChangeSpec := { name := "fnSerialOrder", fn := fun _ => fun
  | [d] => { results := [.lit (.bool false)], args := [d] }
  | _ => none }
def FnSerialOrderWrongFalsely : Prop := fnSerialOrderRow.holds Try.pinned (OpenSpec.ofChange fnSerialOrderWrong)

/-- 'laws.FnExactSerialOrder': WHATEVER THE INPUT: true; the input reads as it did. -/
def fnExactSerialOrderSpec : ChangeSpec := { name := "fnExactSerialOrder", fn := fun _ => fun
  | [d] => { results := [.lit (.bool true)], args := [d] }
  | _ => none }
def fnExactSerialOrderRow : OpenClaim := { program := "ytamegkbinbplaaa", sum := "cdaaff0f4c78b5b1ffab81168d9c07e2867b02b2cbdd6463a449fe4ab830d91e", func := "loop.example/tablehouse/laws.FnExactSerialOrder", spec := "fnExactSerialOrder", unfollowed := true, recurses := true, apart := false }
def FnExactSerialOrderSaid : Prop := fnExactSerialOrderRow.holds Try.pinned (OpenSpec.ofChange fnExactSerialOrderSpec)

/-- ITS FALSE NEIGHBOUR: 'it returns false'. Refute it at one input. -/
def fnExactSerialOrderWrong : ChangeSpec := { name := "fnExactSerialOrder", fn := fun _ => fun
  | [d] => { results := [.lit (.bool false)], args := [d] }
  | _ => none }
def FnExactSerialOrderWrongFalsely : Prop := fnExactSerialOrderRow.holds Try.pinned (OpenSpec.ofChange fnExactSerialOrderWrong)

/-- 'laws.FnLockRing': WHATEVER THE INPUT: true; the input reads as it did. -/
def fnLockRingSpec : ChangeSpec := { name := "fnLockRing", fn := fun _ => fun
  | [d] => { results := [.lit (.bool true)], args := [d] }
  | _ => none }
def fnLockRingRow : OpenClaim := { program := "ytamegkbinbplaaa", sum := "cdaaff0f4c78b5b1ffab81168d9c07e2867b02b2cbdd6463a449fe4ab830d91e", func := "loop.example/tablehouse/laws.FnLockRing", spec := "fnLockRing", unfollowed := true, recurses := true, apart := false }
def FnLockRingSaid : Prop := fnLockRingRow.holds Try.pinned (OpenSpec.ofChange fnLockRingSpec)

/-- ITS FALSE NEIGHBOUR: 'it returns false'. Refute it at one input. -/
def fnLockRingWrong : ChangeSpec := { name := "fnLockRing", fn := fun _ => fun
  | [d] => { results := [.lit (.bool false)], args := [d] }
  | _ => none }
def FnLockRingWrongFalsely : Prop := fnLockRingRow.holds Try.pinned (OpenSpec.ofChange fnLockRingWrong)

/-- 'laws.FnLockSolve': WHATEVER THE INPUT: true; the input reads as it did. -/
def fnLockSolveSpec : ChangeSpec := { name := "fnLockSolve", fn := fun _ => fun
  | [d] => { results := [.lit (.bool true)], args := [d] }
  | _ => none }
def fnLockSolveRow : OpenClaim := { program := "ytamegkbinbplaaa", sum := "cdaaff0f4c78b5b1ffab81168d9c07e2867b02b2cbdd6463a449fe4ab830d91e", func := "loop.example/tablehouse/laws.FnLockSolve", spec := "fnLockSolve", unfollowed := true, recurses := true, apart := false }
def FnLockSolveSaid : Prop := fnLockSolveRow.holds Try.pinned (OpenSpec.ofChange fnLockSolveSpec)

/-- ITS FALSE NEIGHBOUR: 'it returns false'. Refute it at one input. -/
def fnLockSolveWrong : ChangeSpec := { name := "fnLockSolve", fn := fun _ => fun
  | [d] => { results := [.lit (.bool false)], args := [d] }
  | _ => none }
def FnLockSolveWrongFalsely : Prop := fnLockSolveRow.holds Try.pinned (OpenSpec.ofChange fnLockSolveWrong)

/-- 'laws.FnExactLockSolve': WHATEVER THE INPUT: true; the input reads as it did. -/
def fnExactLockSolveSpec : ChangeSpec := { name := "fnExactLockSolve", fn := fun _ => fun
  | [d] => { results := [.lit (.bool true)], args := [d] }
  | _ => none }
def fnExactLockSolveRow : OpenClaim := { program := "ytamegkbinbplaaa", sum := "cdaaff0f4c78b5b1ffab81168d9c07e2867b02b2cbdd6463a449fe4ab830d91e", func := "loop.example/tablehouse/laws.FnExactLockSolve", spec := "fnExactLockSolve", unfollowed := true, recurses := true, apart := false }
def FnExactLockSolveSaid : Prop := fnExactLockSolveRow.holds Try.pinned (OpenSpec.ofChange fnExactLockSolveSpec)

/-- ITS FALSE NEIGHBOUR: 'it returns false'. Refute it at one input. -/
def fnExactLockSolveWrong : ChangeSpec := { name := "fnExactLockSolve", fn := fun _ => fun
  | [d] => { results := [.lit (.bool false)], args := [d] }
  | _ => none }
def FnExactLockSolveWrongFalsely : Prop := fnExactLockSolveRow.holds Try.pinned (OpenSpec.ofChange fnExactLockSolveWrong)

/- THE SECOND FORM. 'bulk': how many values and letters a reading holds, each counted each time it is reached (what is shared counts as often as it is met; a slice's spare places count too). A statement '..UptoSaid' is the law's where the arguments, and the package variables that the reading takes, are together of bulk at most 1048576: NARROWER than '..Said'. Prove '..Said' where nothing that the law and all that it calls make is longer than what came in: it says more and counts as full. Else prove '..UptoSaid'. A law counts once. -/
mutual
def uptoBulk {H : Type} : DataW H → Nat
  | .lit (.string bytes) => bytes.length + 1
  | .lit _ => 1
  | .nil => 1
  | .ptr d => uptoBulk d + 1
  | .slice elems spare => uptoBulkAll elems + uptoBulkAll spare + 1
  | .agg parts => uptoBulkAll parts + 1
  | .iface _ d => uptoBulk d + 1
  | .map entries => uptoBulkEntries entries + 1
  | .held _ => 1
def uptoBulkAll {H : Type} : List (DataW H) → Nat
  | [] => 0
  | d :: r => uptoBulk d + uptoBulkAll r
def uptoBulkEntries {H : Type} : List (Lit × DataW H) → Nat
  | [] => 0
  | x :: r => uptoBulkEntry x + uptoBulkEntries r
def uptoBulkEntry {H : Type} : Lit × DataW H → Nat
  | (.string bytes, d) => bytes.length + uptoBulk d + 1
  | (_, d) => uptoBulk d + 1
 end
def uptoSmall : (H : Type) → List (DataW H) → Bool := fun _ ds => decide (uptoBulkAll ds ≤ 1048576)
def OpenSpec.upto (s : _root_.Go.ChangeSpec) : _root_.Go.OpenSpec := { _root_.Go.OpenSpec.ofChange s with cond := some uptoSmall }

/-- 'laws.FnExactEdgesOf', WHERE WHAT IT READS IS OF BULK AT MOST 1048576: true; the input reads as it did. -/
def fnExactEdgesOfUptoRow : OpenClaim := { program := "ytamegkbinbplaaa", sum := "cdaaff0f4c78b5b1ffab81168d9c07e2867b02b2cbdd6463a449fe4ab830d91e", func := "loop.example/tablehouse/laws.FnExactEdgesOf", spec := "fnExactEdgesOf", unfollowed := true, recurses := true, apart := false, narrowed := true }
def FnExactEdgesOfUptoSaid : Prop := fnExactEdgesOfUptoRow.holds Try.pinned (OpenSpec.upto fnExactEdgesOfSpec)

/-- 'laws.FnDangerOf', WHERE WHAT IT READS IS OF BULK AT MOST 1048576: true; the input reads as it did. -/
def fnDangerOfUptoRow : OpenClaim := { program := "ytamegkbinbplaaa", sum := "cdaaff0f4c78b5b1ffab81168d9c07e2867b02b2cbdd6463a449fe4ab830d91e", func := "loop.example/tablehouse/laws.FnDangerOf", spec := "fnDangerOf", unfollowed := true, recurses := true, apart := false, narrowed := true }
def FnDangerOfUptoSaid : Prop := fnDangerOfUptoRow.holds Try.pinned (OpenSpec.upto fnDangerOfSpec)

/-- 'laws.FnExactDangerOf', WHERE WHAT IT READS IS OF BULK AT MOST 1048576: true; the input reads as it did. -/
def fnExactDangerOfUptoRow : OpenClaim := { program := "ytamegkbinbplaaa", sum := "cdaaff0f4c78b5b1ffab81168d9c07e2867b02b2cbdd6463a449fe4ab830d91e", func := "loop.example/tablehouse/laws.FnExactDangerOf", spec := "fnExactDangerOf", unfollowed := true, recurses := true, apart := false, narrowed := true }
def FnExactDangerOfUptoSaid : Prop := fnExactDangerOfUptoRow.holds Try.pinned (OpenSpec.upto fnExactDangerOfSpec)

/-- 'laws.FnSerialOrder', WHERE WHAT IT READS IS OF BULK AT MOST 1048576: true; the input reads as it did. -/
def fnSerialOrderUptoRow : OpenClaim := { program := "ytamegkbinbplaaa", sum := "cdaaff0f4c78b5b1ffab81168d9c07e2867b02b2cbdd6463a449fe4ab830d91e", func := "loop.example/tablehouse/laws.FnSerialOrder", spec := "fnSerialOrder", unfollowed := true, recurses := true, apart := false, narrowed := true }
def FnSerialOrderUptoSaid : Prop := fnSerialOrderUptoRow.holds Try.pinned (OpenSpec.upto fnSerialOrderSpec)

/-- 'laws.FnExactSerialOrder', WHERE WHAT IT READS IS OF BULK AT MOST 1048576: true; the input reads as it did. -/
def fnExactSerialOrderUptoRow : OpenClaim := { program := "ytamegkbinbplaaa", sum := "cdaaff0f4c78b5b1ffab81168d9c07e2867b02b2cbdd6463a449fe4ab830d91e", func := "loop.example/tablehouse/laws.FnExactSerialOrder", spec := "fnExactSerialOrder", unfollowed := true, recurses := true, apart := false, narrowed := true }
def FnExactSerialOrderUptoSaid : Prop := fnExactSerialOrderUptoRow.holds Try.pinned (OpenSpec.upto fnExactSerialOrderSpec)

/-- 'laws.FnLockRing', WHERE WHAT IT READS IS OF BULK AT MOST 1048576: true; the input reads as it did. -/
def fnLockRingUptoRow : OpenClaim := { program := "ytamegkbinbplaaa", sum := "cdaaff0f4c78b5b1ffab81168d9c07e2867b02b2cbdd6463a449fe4ab830d91e", func := "loop.example/tablehouse/laws.FnLockRing", spec := "fnLockRing", unfollowed := true, recurses := true, apart := false, narrowed := true }
def FnLockRingUptoSaid : Prop := fnLockRingUptoRow.holds Try.pinned (OpenSpec.upto fnLockRingSpec)

/-- 'laws.FnLockSolve', WHERE WHAT IT READS IS OF BULK AT MOST 1048576: true; the input reads as it did. -/
def fnLockSolveUptoRow : OpenClaim := { program := "ytamegkbinbplaaa", sum := "cdaaff0f4c78b5b1ffab81168d9c07e2867b02b2cbdd6463a449fe4ab830d91e", func := "loop.example/tablehouse/laws.FnLockSolve", spec := "fnLockSolve", unfollowed := true, recurses := true, apart := false, narrowed := true }
def FnLockSolveUptoSaid : Prop := fnLockSolveUptoRow.holds Try.pinned (OpenSpec.upto fnLockSolveSpec)

/-- 'laws.FnExactLockSolve', WHERE WHAT IT READS IS OF BULK AT MOST 1048576: true; the input reads as it did. -/
def fnExactLockSolveUptoRow : OpenClaim := { program := "ytamegkbinbplaaa", sum := "cdaaff0f4c78b5b1ffab81168d9c07e2867b02b2cbdd6463a449fe4ab830d91e", func := "loop.example/tablehouse/laws.FnExactLockSolve", spec := "fnExactLockSolve", unfollowed := true, recurses := true, apart := false, narrowed := true }
def FnExactLockSolveUptoSaid : Prop := fnExactLockSolveUptoRow.holds Try.pinned (OpenSpec.upto fnExactLockSolveSpec)

end Rows
end Go.Proofs.Ytamegkbinbplaaa
