import Derived.Test.YtgnakofgahofjaaBokDDeep5
set_option linter.unusedVariables false
namespace Go.D
structure IdpR where
  d : Nat
  k : Nat
  ver : Nat
  s : Nat
  n : Nat
  i : Int
  off : Nat
section
variable {P : Program} {Γ : Ctx} {τ : Tau} {α : Type} [Enc α]
end
end Go.D
