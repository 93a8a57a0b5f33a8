import Derived.Test.YtamegkbinbplaaatlbDEff
set_option linter.unusedVariables false
namespace Go.D
section
variable {P : Program} {Γ : Ctx} {τ : Tau}
section lists
variable {α : Type} [Enc α]
end lists
end
end Go.D
