import Derived.Test.YtamegkbinbplaaatlbDDraw2
set_option linter.unusedVariables false
namespace Go.D
section
variable {P : Program} {Γ : Ctx} {τ : Tau}
def hle : Hp → Hp → Prop
 | [], _ => True
 | none :: r, _ :: r' => hle r r'
 | some b :: r, some b' :: r' => b = b' ∧ hle r r'
 | _, _ => False
section
variable {ops : Array Oper} {effs : List Nat} {Hs : List Hp} {T : St → Prop}
end
end
end Go.D
set_option linter.unusedVariables false
namespace Go.D
section
variable {P : Program} {Γ : Ctx} {τ : Tau}
end
end Go.D
