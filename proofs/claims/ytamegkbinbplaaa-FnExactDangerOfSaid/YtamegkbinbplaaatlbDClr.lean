import Derived.Test.YtamegkbinbplaaatlbDWent
set_option linter.unusedVariables false
namespace Go.D
section
variable {P : Program} {Γ : Ctx} {τ : Tau}
end
end Go.D
set_option linter.unusedVariables false
namespace Go.D
section
variable {P : Program} {Γ : Ctx} {τ : Tau} {α : Type} [Enc α]
end
structure ClrI where
 k : Nat
 ver : Nat
 off : Nat
 s : Nat
 n : Nat
 z : List V
 cs : List V
section
variable {P : Program} {Γ : Ctx} {τ : Tau} {α : Type} [Enc α]
end
end Go.D
