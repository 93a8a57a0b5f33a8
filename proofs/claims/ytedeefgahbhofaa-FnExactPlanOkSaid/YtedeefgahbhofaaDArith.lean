/- A small logic over the kit's 'Calls'. Part 25: division by a number that is not a constant. -/
import Derived.Test.YtedeefgahbhofaaDDraw3
set_option linter.unusedVariables false
namespace Go.D

section
variable {P : Program} {Γ : Ctx} {τ : Tau}

end
end Go.D
