import Derived.Test.YtmcciakfjapjeaaExDPart
set_option linter.unusedVariables false
namespace Go.D
section
variable {P : Program} {Γ : Ctx} {τ : Tau}
structure CallX where
 d : Nat
 g : FuncId
 k : Nat
 ver : Nat
 cs : List V
 pre : List V
 k2 : Nat
 ver2 : Nat
 s : Nat
 n : Nat
 ls : List V
 post : List V
end
section
variable {P : Program} {Γ : Ctx} {τ : Tau} {α : Type} [Enc α]
end
section
variable {P : Program} {Γ : Ctx} {τ : Tau} {α : Type} [Enc α]
end
end Go.D
