import Derived.Test.YtjgeddgheonjbaaBoDShow
set_option linter.unusedVariables false
namespace Go.D
section
variable {P : Program} {Γ : Ctx} {τ : Tau}
structure BslI where
 d : Nat
 s : Nat
 n : Nat
 cells : List V
end
end Go.D
