import Derived.Test.YtpkaieniomkofaaGreatPkDZero
set_option linter.unusedVariables false
namespace Go.D
theorem RefR.isSlice {w : World} {m : Option Nat} {off s n : Nat} {full : Bool} {v : Value} (h : RefR w m off s n full v) : ∃ A q c, v = .slice A q c := by
 rcases h with ⟨A, rfl, _⟩ | ⟨b, cap, c, e, _, rfl, _⟩
 ·exact ⟨_, _, _, rfl⟩
 ·exact ⟨_, _, _, rfl⟩
section
variable {P : Program} {Γ : Ctx} {τ : Tau}
structure CallS where
 d : Nat
 g : FuncId
 pre : List V
 k : Nat
 ver : Nat
 s : Nat
 n : Nat
 cs : List V
 post : List V
end
end Go.D
