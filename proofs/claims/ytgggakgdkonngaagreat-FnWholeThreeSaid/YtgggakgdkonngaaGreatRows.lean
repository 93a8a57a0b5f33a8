/-
  No cell of these rows narrows 'for every input' (looked for: loops, veiled, ifaces, maps, wideKeys, modest, calm, conditions, laid).
  DERIVED. THE GIVEN ROWS OF THIS SEAT. 4 by the template 'for every input the law returns true; each argument reads behind the call as it read before'; 0 by the template 'total and deterministic' (their statements: YtgggakgdkonngaaGreatTotals.lean).
  GIVEN WITH THE SEED: the statements are not yours to turn. If you find one false, say at which input.
  Laid BY PROGRAM, IN A SANDBOX (cutbox-rows.mjs): the forced cells as the released guide's own fill.sh prints them over the translation 4753667a2cb256bc… (all of the seat's roots in one cut). By AI agents, Wed Nov 11 2026. No macro, syntax, notation, axiom, sorry.
-/
import Derived.Test.YtgggakgdkonngaaGreatChecked
import GoSem.Claim
import GoSem.ClaimJoined
import GoSem.ClaimMapViews
import Derived.JoinedTies
import Derived.KernelRfl
namespace Go.Proofs.YtgggakgdkonngaaGreat
/- THE CELL 'sum', in the pinned program and in every row, IS THE sha256 OF THE DUMP (.gsa) THAT YtgggakgdkonngaaGreatProg.lean LOADS. Nothing in Lean hashes anything: it is a label: what it is worth is what the hold of that sum in a sandbox is worth. -/
noncomputable def Tryz.pinned : Pinned := { name := "ytgggakgdkonngaagreat", sum := "4753667a2cb256bc826c53ac5987f68d1fa83a08330817e1da9d8b3a4484f930", checked := Tryz.checked }
namespace Rows
def none {H : Type} : Left H := { results := [], args := [] }

/-- 'laws.FnWholeThree': WHATEVER THE INPUT: true; the input reads as it did. -/
def fnWholeThreeSpec : ChangeSpec := { name := "fnWholeThree", fn := fun _ => fun
  | [d] => { results := [.lit (.bool true)], args := [d] }
  | _ => none }
def fnWholeThreeRow : OpenClaim := { program := "ytgggakgdkonngaagreat", sum := "4753667a2cb256bc826c53ac5987f68d1fa83a08330817e1da9d8b3a4484f930", func := "loop.example/tablehouse/laws.FnWholeThree", spec := "fnWholeThree", unfollowed := true, recurses := true, apart := false }
def FnWholeThreeSaid : Prop := fnWholeThreeRow.holds Tryz.pinned (OpenSpec.ofChange fnWholeThreeSpec)

/-- ITS FALSE NEIGHBOUR: 'it returns false'. Refute it at one input. -/
def fnWholeThreeWrong : ChangeSpec := { name := "fnWholeThree", fn := fun _ => fun
  | [d] => { results := [.lit (.bool false)], args := [d] }
  | _ => none }
def FnWholeThreeWrongFalsely : Prop := fnWholeThreeRow.holds Tryz.pinned (OpenSpec.ofChange fnWholeThreeWrong)

/-- 'laws.FnWholeTests': WHATEVER THE INPUT: true; the input reads as it did. -/
def fnWholeTestsSpec : ChangeSpec := { name := "fnWholeTests", fn := fun _ => fun
  | [d] => { results := [.lit (.bool true)], args := [d] }
  | _ => none }
def fnWholeTestsRow : OpenClaim := { program := "ytgggakgdkonngaagreat", sum := "4753667a2cb256bc826c53ac5987f68d1fa83a08330817e1da9d8b3a4484f930", func := "loop.example/tablehouse/laws.FnWholeTests", spec := "fnWholeTests", unfollowed := true, recurses := true, apart := false }
def FnWholeTestsSaid : Prop := fnWholeTestsRow.holds Tryz.pinned (OpenSpec.ofChange fnWholeTestsSpec)

/-- ITS FALSE NEIGHBOUR: 'it returns false'. Refute it at one input. -/
def fnWholeTestsWrong : ChangeSpec := { name := "fnWholeTests", fn := fun _ => fun
  | [d] => { results := [.lit (.bool false)], args := [d] }
  | _ => none }
def FnWholeTestsWrongFalsely : Prop := fnWholeTestsRow.holds Tryz.pinned (OpenSpec.ofChange fnWholeTestsWrong)

/-- 'laws.FnWholeTwice': WHATEVER THE INPUT: true; the input reads as it did. -/
def fnWholeTwiceSpec : ChangeSpec := { name := "fnWholeTwice", fn := fun _ => fun
  | [d] => { results := [.lit (.bool true)], args := [d] }
  | _ => none }
def fnWholeTwiceRow : OpenClaim := { program := "ytgggakgdkonngaagreat", sum := "4753667a2cb256bc826c53ac5987f68d1fa83a08330817e1da9d8b3a4484f930", func := "loop.example/tablehouse/laws.FnWholeTwice", spec := "fnWholeTwice", unfollowed := true, recurses := true, apart := false }
def FnWholeTwiceSaid : Prop := fnWholeTwiceRow.holds Tryz.pinned (OpenSpec.ofChange fnWholeTwiceSpec)

/-- ITS FALSE NEIGHBOUR: 'it returns false'. Refute it at one input. -/
def fnWholeTwiceWrong : ChangeSpec := { name := "fnWholeTwice", fn := fun _ => fun
  | [d] => { results := [.lit (.bool false)], args := [d] }
  | _ => none }
def FnWholeTwiceWrongFalsely : Prop := fnWholeTwiceRow.holds Tryz.pinned (OpenSpec.ofChange fnWholeTwiceWrong)

/-- 'laws.FnWholeMore': WHATEVER THE INPUT: true; the input reads as it did. -/
def fnWholeMoreSpec : ChangeSpec := { name := "fnWholeMore", fn := fun _ => fun
  | [d] => { results := [.lit (.bool true)], args := [d] }
  | _ => none }
def fnWholeMoreRow : OpenClaim := { program := "ytgggakgdkonngaagreat", sum := "4753667a2cb256bc826c53ac5987f68d1fa83a08330817e1da9d8b3a4484f930", func := "loop.example/tablehouse/laws.FnWholeMore", spec := "fnWholeMore", unfollowed := true, recurses := true, apart := false }
def FnWholeMoreSaid : Prop := fnWholeMoreRow.holds Tryz.pinned (OpenSpec.ofChange fnWholeMoreSpec)

/-- ITS FALSE NEIGHBOUR: 'it returns false'. Refute it at one input. -/
def fnWholeMoreWrong : ChangeSpec := { name := "fnWholeMore", fn := fun _ => fun
  | [d] => { results := [.lit (.bool false)], args := [d] }
  | _ => none }
def FnWholeMoreWrongFalsely : Prop := fnWholeMoreRow.holds Tryz.pinned (OpenSpec.ofChange fnWholeMoreWrong)

/- THE SECOND FORM. 'bulk': how many values and letters a reading holds, each counted each time it is reached (what is shared counts as often as it is met; a slice's spare places count too). A statement '..UptoSaid' is the law's where the arguments, and the package variables that the reading takes, are together of bulk at most 1048576: NARROWER than '..Said'. Prove '..Said' where nothing that the law and all that it calls make is longer than what came in: it says more and counts as full. Else prove '..UptoSaid'. A law counts once. -/
mutual
def uptoBulk {H : Type} : DataW H → Nat
  | .lit (.string bytes) => bytes.length + 1
  | .lit _ => 1
  | .nil => 1
  | .ptr d => uptoBulk d + 1
  | .slice elems spare => uptoBulkAll elems + uptoBulkAll spare + 1
  | .agg parts => uptoBulkAll parts + 1
  | .iface _ d => uptoBulk d + 1
  | .map entries => uptoBulkEntries entries + 1
  | .held _ => 1
def uptoBulkAll {H : Type} : List (DataW H) → Nat
  | [] => 0
  | d :: r => uptoBulk d + uptoBulkAll r
def uptoBulkEntries {H : Type} : List (Lit × DataW H) → Nat
  | [] => 0
  | x :: r => uptoBulkEntry x + uptoBulkEntries r
def uptoBulkEntry {H : Type} : Lit × DataW H → Nat
  | (.string bytes, d) => bytes.length + uptoBulk d + 1
  | (_, d) => uptoBulk d + 1
 end
def uptoSmall : (H : Type) → List (DataW H) → Bool := fun _ ds => decide (uptoBulkAll ds ≤ 1048576)
def OpenSpec.upto (s : _root_.Go.ChangeSpec) : _root_.Go.OpenSpec := { _root_.Go.OpenSpec.ofChange s with cond := some uptoSmall }

/-- 'laws.FnWholeThree', WHERE WHAT IT READS IS OF BULK AT MOST 1048576: true; the input reads as it did. -/
def fnWholeThreeUptoRow : OpenClaim := { program := "ytgggakgdkonngaagreat", sum := "4753667a2cb256bc826c53ac5987f68d1fa83a08330817e1da9d8b3a4484f930", func := "loop.example/tablehouse/laws.FnWholeThree", spec := "fnWholeThree", unfollowed := true, recurses := true, apart := false, narrowed := true }
def FnWholeThreeUptoSaid : Prop := fnWholeThreeUptoRow.holds Tryz.pinned (OpenSpec.upto fnWholeThreeSpec)

/-- 'laws.FnWholeTests', WHERE WHAT IT READS IS OF BULK AT MOST 1048576: true; the input reads as it did. -/
def fnWholeTestsUptoRow : OpenClaim := { program := "ytgggakgdkonngaagreat", sum := "4753667a2cb256bc826c53ac5987f68d1fa83a08330817e1da9d8b3a4484f930", func := "loop.example/tablehouse/laws.FnWholeTests", spec := "fnWholeTests", unfollowed := true, recurses := true, apart := false, narrowed := true }
def FnWholeTestsUptoSaid : Prop := fnWholeTestsUptoRow.holds Tryz.pinned (OpenSpec.upto fnWholeTestsSpec)

/-- 'laws.FnWholeTwice', WHERE WHAT IT READS IS OF BULK AT MOST 1048576: true; the input reads as it did. -/
def fnWholeTwiceUptoRow : OpenClaim := { program := "ytgggakgdkonngaagreat", sum := "4753667a2cb256bc826c53ac5987f68d1fa83a08330817e1da9d8b3a4484f930", func := "loop.example/tablehouse/laws.FnWholeTwice", spec := "fnWholeTwice", unfollowed := true, recurses := true, apart := false, narrowed := true }
def FnWholeTwiceUptoSaid : Prop := fnWholeTwiceUptoRow.holds Tryz.pinned (OpenSpec.upto fnWholeTwiceSpec)

/-- 'laws.FnWholeMore', WHERE WHAT IT READS IS OF BULK AT MOST 1048576: true; the input reads as it did. -/
def fnWholeMoreUptoRow : OpenClaim := { program := "ytgggakgdkonngaagreat", sum := "4753667a2cb256bc826c53ac5987f68d1fa83a08330817e1da9d8b3a4484f930", func := "loop.example/tablehouse/laws.FnWholeMore", spec := "fnWholeMore", unfollowed := true, recurses := true, apart := false, narrowed := true }
def FnWholeMoreUptoSaid : Prop := fnWholeMoreUptoRow.holds Tryz.pinned (OpenSpec.upto fnWholeMoreSpec)

end Rows
end Go.Proofs.YtgggakgdkonngaaGreat
