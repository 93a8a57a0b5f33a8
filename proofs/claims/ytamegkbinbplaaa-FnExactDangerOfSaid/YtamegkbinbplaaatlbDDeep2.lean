import Derived.Test.YtamegkbinbplaaatlbDDeep
set_option linter.unusedVariables false
namespace Go.D
def oneO : V → Bool
 | .own .. => true
 | x => cellV x
class DOne (α : Type) [Enc α] [DEnc α] : Prop where
 one : ∀ x : α, (DEnc.cells x).all oneO = true
instance {α : Type} [Enc α] [DFlat α] : DOne (List α) := ⟨fun _ => rfl⟩
instance {α : Type} [Enc α] [DEnc α] [DNest α] : DOne (List α) := ⟨fun _ => rfl⟩
section
variable {P : Program} {Γ : Ctx} {τ : Tau}
structure AppDI where
 d : Nat
 k : Nat
 ver : Nat
 k2 : Nat
 v2 : Nat
 s : Nat
 n : Nat
 m : Nat
end
end Go.D
