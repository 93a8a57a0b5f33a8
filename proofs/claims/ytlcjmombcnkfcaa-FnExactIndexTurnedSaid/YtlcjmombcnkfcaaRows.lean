/-
  No cell of these rows narrows 'for every input' (looked for: loops, veiled, ifaces, maps, wideKeys, modest, calm, conditions, laid).
  DERIVED. THE GIVEN ROWS OF THIS SEAT. 4 by the template 'for every input the law returns true; each argument reads behind the call as it read before'; 0 by the template 'total and deterministic' (their statements: YtlcjmombcnkfcaaTotals.lean).
  GIVEN WITH THE SEED: the statements are not yours to turn. If you find one false, say at which input.
  Laid BY PROGRAM, IN A SANDBOX (cutbox-rows.mjs): the forced cells as the released guide's own fill.sh prints them over the translation 08a752009f907b14… (all of the seat's roots in one cut). By AI agents, Wed Nov 11 2026. No macro, syntax, notation, axiom, sorry.
-/
import Derived.Test.YtlcjmombcnkfcaaChecked
import GoSem.Claim
import GoSem.ClaimJoined
import GoSem.ClaimMapViews
import Derived.JoinedTies
import Derived.KernelRfl
namespace Go.Proofs.Ytlcjmombcnkfcaa
/- THE CELL 'sum', in the pinned program and in every row, IS THE sha256 OF THE DUMP (.gsa) THAT YtlcjmombcnkfcaaProg.lean LOADS. Nothing in Lean hashes anything: it is a label: what it is worth is what the hold of that sum in a sandbox is worth. -/
noncomputable def Try.pinned : Pinned := { name := "ytlcjmombcnkfcaa", sum := "08a752009f907b140e705c4547332047d57fb6df57bffbadd95f4c1c065d42f6", checked := Try.checked }
namespace Rows
def none {H : Type} : Left H := { results := [], args := [] }

/-- 'laws.FnExactIndexOf': WHATEVER THE INPUT: true; the input reads as it did. -/
def fnExactIndexOfSpec : ChangeSpec := { name := "fnExactIndexOf", fn := fun _ => fun
  | [d] => { results := [.lit (.bool true)], args := [d] }
  | _ => none }
def fnExactIndexOfRow : OpenClaim := { program := "ytlcjmombcnkfcaa", sum := "08a752009f907b140e705c4547332047d57fb6df57bffbadd95f4c1c065d42f6", func := "loop.example/tablehouse/laws.FnExactIndexOf", spec := "fnExactIndexOf", unfollowed := true, recurses := true, apart := false }
def FnExactIndexOfSaid : Prop := fnExactIndexOfRow.holds Try.pinned (OpenSpec.ofChange fnExactIndexOfSpec)

/-- ITS FALSE NEIGHBOUR: 'it returns false'. Refute it at one input. -/
def fnExactIndexOfWrong : ChangeSpec := { name := "fnExactIndexOf", fn := fun _ => fun
  | [d] => { results := [.lit (.bool false)], args := [d] }
  | _ => none }
def FnExactIndexOfWrongFalsely : Prop := fnExactIndexOfRow.holds Try.pinned (OpenSpec.ofChange fnExactIndexOfWrong)

/-- 'laws.FnIndexOf': WHATEVER THE INPUT: true; the input reads as it did. -/
def fnIndexOfSpec : ChangeSpec := { name := "fnIndexOf", fn := fun _ => fun
  | [d] => { results := [.lit (.bool true)], args := [d] }
  | _ => none }
def fnIndexOfRow : OpenClaim := { program := "ytlcjmombcnkfcaa", sum := "08a752009f907b140e705c4547332047d57fb6df57bffbadd95f4c1c065d42f6", func := "loop.example/tablehouse/laws.FnIndexOf", spec := "fnIndexOf", unfollowed := true, recurses := true, apart := false }
def FnIndexOfSaid : Prop := fnIndexOfRow.holds Try.pinned (OpenSpec.ofChange fnIndexOfSpec)

/-- ITS FALSE NEIGHBOUR: 'it returns false'. Refute it at one input. -/
def fnIndexOfWrong : ChangeSpec := { name := "fnIndexOf", fn := fun _ => fun
  | [d] => { results := [.lit (.bool false)], args := [d] }
  | _ => none }
def FnIndexOfWrongFalsely : Prop := fnIndexOfRow.holds Try.pinned (OpenSpec.ofChange fnIndexOfWrong)

/-- 'laws.FnIndexSeen': WHATEVER THE INPUT: true; the input reads as it did. -/
def fnIndexSeenSpec : ChangeSpec := { name := "fnIndexSeen", fn := fun _ => fun
  | [d] => { results := [.lit (.bool true)], args := [d] }
  | _ => none }
def fnIndexSeenRow : OpenClaim := { program := "ytlcjmombcnkfcaa", sum := "08a752009f907b140e705c4547332047d57fb6df57bffbadd95f4c1c065d42f6", func := "loop.example/tablehouse/laws.FnIndexSeen", spec := "fnIndexSeen", unfollowed := true, recurses := true, apart := false }
def FnIndexSeenSaid : Prop := fnIndexSeenRow.holds Try.pinned (OpenSpec.ofChange fnIndexSeenSpec)

/-- ITS FALSE NEIGHBOUR: 'it returns false'. Refute it at one input. -/
def fnIndexSeenWrong : ChangeSpec := { name := "fnIndexSeen", fn := fun _ => fun
  | [d] => { results := [.lit (.bool false)], args := [d] }
  | _ => none }
def FnIndexSeenWrongFalsely : Prop := fnIndexSeenRow.holds Try.pinned (OpenSpec.ofChange fnIndexSeenWrong)

/-- 'laws.FnExactIndexTurned': WHATEVER THE INPUT: true; the input reads as it did. -/
def fnExactIndexTurnedSpec : ChangeSpec := { name := "fnExactIndexTurned", fn := fun _ => fun
  | [d1, d2, d3] => { results := [.lit (.bool true)], args := [d1, d2, d3] }
  | _ => none }
def fnExactIndexTurnedRow : OpenClaim := { program := "ytlcjmombcnkfcaa", sum := "08a752009f907b140e705c4547332047d57fb6df57bffbadd95f4c1c065d42f6", func := "loop.example/tablehouse/laws.FnExactIndexTurned", spec := "fnExactIndexTurned", unfollowed := true, recurses := true, apart := false }
def FnExactIndexTurnedSaid : Prop := fnExactIndexTurnedRow.holds Try.pinned (OpenSpec.ofChange fnExactIndexTurnedSpec)

/-- ITS FALSE NEIGHBOUR: 'it returns false'. Refute it at one input. -/
def fnExactIndexTurnedWrong : ChangeSpec := { name := "fnExactIndexTurned", fn := fun _ => fun
  | [d1, d2, d3] => { results := [.lit (.bool false)], args := [d1, d2, d3] }
  | _ => none }
def FnExactIndexTurnedWrongFalsely : Prop := fnExactIndexTurnedRow.holds Try.pinned (OpenSpec.ofChange fnExactIndexTurnedWrong)

/- THE SECOND FORM. 'bulk': how many values and letters a reading holds, each counted each time it is reached (what is shared counts as often as it is met; a slice's spare places count too). A statement '..UptoSaid' is the law's where the arguments, and the package variables that the reading takes, are together of bulk at most 1048576: NARROWER than '..Said'. Prove '..Said' where nothing that the law and all that it calls make is longer than what came in: it says more and counts as full. Else prove '..UptoSaid'. A law counts once. -/
mutual
def uptoBulk {H : Type} : DataW H → Nat
  | .lit (.string bytes) => bytes.length + 1
  | .lit _ => 1
  | .nil => 1
  | .ptr d => uptoBulk d + 1
  | .slice elems spare => uptoBulkAll elems + uptoBulkAll spare + 1
  | .agg parts => uptoBulkAll parts + 1
  | .iface _ d => uptoBulk d + 1
  | .map entries => uptoBulkEntries entries + 1
  | .held _ => 1
def uptoBulkAll {H : Type} : List (DataW H) → Nat
  | [] => 0
  | d :: r => uptoBulk d + uptoBulkAll r
def uptoBulkEntries {H : Type} : List (Lit × DataW H) → Nat
  | [] => 0
  | x :: r => uptoBulkEntry x + uptoBulkEntries r
def uptoBulkEntry {H : Type} : Lit × DataW H → Nat
  | (.string bytes, d) => bytes.length + uptoBulk d + 1
  | (_, d) => uptoBulk d + 1
 end
def uptoSmall : (H : Type) → List (DataW H) → Bool := fun _ ds => decide (uptoBulkAll ds ≤ 1048576)
def OpenSpec.upto (s : _root_.Go.ChangeSpec) : _root_.Go.OpenSpec := { _root_.Go.OpenSpec.ofChange s with cond := some uptoSmall }

/-- 'laws.FnExactIndexOf', WHERE WHAT IT READS IS OF BULK AT MOST 1048576: true; the input reads as it did. -/
def fnExactIndexOfUptoRow : OpenClaim := { program := "ytlcjmombcnkfcaa", sum := "08a752009f907b140e705c4547332047d57fb6df57bffbadd95f4c1c065d42f6", func := "loop.example/tablehouse/laws.FnExactIndexOf", spec := "fnExactIndexOf", unfollowed := true, recurses := true, apart := false, narrowed := true }
def FnExactIndexOfUptoSaid : Prop := fnExactIndexOfUptoRow.holds Try.pinned (OpenSpec.upto fnExactIndexOfSpec)

/-- 'laws.FnIndexOf', WHERE WHAT IT READS IS OF BULK AT MOST 1048576: true; the input reads as it did. -/
def fnIndexOfUptoRow : OpenClaim := { program := "ytlcjmombcnkfcaa", sum := "08a752009f907b140e705c4547332047d57fb6df57bffbadd95f4c1c065d42f6", func := "loop.example/tablehouse/laws.FnIndexOf", spec := "fnIndexOf", unfollowed := true, recurses := true, apart := false, narrowed := true }
def FnIndexOfUptoSaid : Prop := fnIndexOfUptoRow.holds Try.pinned (OpenSpec.upto fnIndexOfSpec)

/-- 'laws.FnIndexSeen', WHERE WHAT IT READS IS OF BULK AT MOST 1048576: true; the input reads as it did. -/
def fnIndexSeenUptoRow : OpenClaim := { program := "ytlcjmombcnkfcaa", sum := "08a752009f907b140e705c4547332047d57fb6df57bffbadd95f4c1c065d42f6", func := "loop.example/tablehouse/laws.FnIndexSeen", spec := "fnIndexSeen", unfollowed := true, recurses := true, apart := false, narrowed := true }
def FnIndexSeenUptoSaid : Prop := fnIndexSeenUptoRow.holds Try.pinned (OpenSpec.upto fnIndexSeenSpec)

/-- 'laws.FnExactIndexTurned', WHERE WHAT IT READS IS OF BULK AT MOST 1048576: true; the input reads as it did. -/
def fnExactIndexTurnedUptoRow : OpenClaim := { program := "ytlcjmombcnkfcaa", sum := "08a752009f907b140e705c4547332047d57fb6df57bffbadd95f4c1c065d42f6", func := "loop.example/tablehouse/laws.FnExactIndexTurned", spec := "fnExactIndexTurned", unfollowed := true, recurses := true, apart := false, narrowed := true }
def FnExactIndexTurnedUptoSaid : Prop := fnExactIndexTurnedUptoRow.holds Try.pinned (OpenSpec.upto fnExactIndexTurnedSpec)

end Rows
end Go.Proofs.Ytlcjmombcnkfcaa
