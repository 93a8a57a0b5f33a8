import Derived.Test.YtgddjdemlelffaatlbDEff
set_option linter.unusedVariables false
namespace Go.D
section
variable {P : Program} {Γ : Ctx} {τ : Tau}
section lists
variable {α : Type} [Enc α]
end lists
theorem callB_E (τ : Tau) {ops : Array Oper} {j : Nat} {st : St} (d k ver : Nat) {g : FuncId} {cs xs : List V} {out x : V} {cs' : List V} (hok : OKb P g cs xs out cs') (hf : FzTo out x) (hz : frzL xs = true) (h : calV τ ops j st = some ⟨d, g, k, ver, cs, xs⟩) :
  CoreE P Γ ops j st (some d) (setH st.H k (some ⟨ver, cs'⟩)) x := by
 obtain ⟨o, h1, h2, h3, h4⟩ := calV_sound (Γ := Γ) h hz hok hf
 exact ⟨o, h1, h2, (fun d e => by cases e; exact h3), h4⟩
end
end Go.D
