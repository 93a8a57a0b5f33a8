import Derived.Test.YtpkclpjdpanekaaGreatLefDNil
set_option linter.unusedVariables false
namespace Go.D
theorem Fr.nilF (w : World) (M : Nat → Prop) (s : Nat) (h : 0 < s) : Fr w M (.arr s 0 [] true) (.slice none 0 0) := by
  simp only [Fr]
  exact ⟨none, 0, rfl, ⟨h, by simp, by omega, by unfold maxI; omega, fun h => rfl⟩, .inl trivial⟩
section
variable {P : Program} {Γ : Ctx} {τ : Tau}
end
end Go.D
