/- A small logic over the kit's 'Calls'. Part 30: texts and bytes. -/
import Derived.Test.YtedeefgahbhofaaDOwn3
import Derived.Laws.IdiomStrings
set_option linter.unusedVariables false
namespace Go.D

section
variable {P : Program} {Γ : Ctx} {τ : Tau}

/-- A number's lowest byte. -/
def u8 (n : Int) : UInt8 := UInt8.ofNat (n % 256).toNat

end
end Go.D
