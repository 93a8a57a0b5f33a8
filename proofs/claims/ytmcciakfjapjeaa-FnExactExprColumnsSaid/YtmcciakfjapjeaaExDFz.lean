import Derived.Test.YtmcciakfjapjeaaExDWent
set_option linter.unusedVariables false
namespace Go.D
section
variable {P : Program} {Γ : Ctx} {τ : Tau}
def HStepM (Γ : Ctx) (H H' : Hp) : Prop := ∀ (w : World) (M : Nat → Prop) (μ : Nat → Option Nat) (fp : Nat → List Nat) (G : Nat → Option Nat), Own Γ M H w μ fp G →
 ∃ M' μ' fp' G', Own Γ M' H' w μ' fp' G' ∧ Carry w M H μ w M' H' μ'
theorem HStep.m {H H' : Hp} (h : HStep Γ H H') : HStepM Γ H H' := fun w M μ fp G O => by
 obtain ⟨μ', fp', G', O', C⟩ := h w M μ fp G O
 exact ⟨M, μ', fp', G', O', C⟩
end
end Go.D
