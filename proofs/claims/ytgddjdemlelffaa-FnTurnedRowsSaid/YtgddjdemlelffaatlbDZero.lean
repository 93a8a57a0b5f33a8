import Derived.Test.YtgddjdemlelffaatlbDNil
set_option linter.unusedVariables false
namespace Go.D
section
variable {P : Program} {Γ : Ctx} {τ : Tau}
end
end Go.D
