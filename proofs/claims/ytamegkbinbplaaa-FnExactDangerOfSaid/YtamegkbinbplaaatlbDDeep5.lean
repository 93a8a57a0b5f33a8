import Derived.Test.YtamegkbinbplaaatlbDDeep4
set_option linter.unusedVariables false
namespace Go.D
section
variable {P : Program} {Γ : Ctx} {τ : Tau}
def RvS (k v : Nat) : List (Nat × V) → List (Nat × V) → Prop
 | [], l => l = []
 | (s, x) :: r, l => ∃ y r', l = (s, y) :: r' ∧ (rvV k v x = some y ∨ x = y ∧ frz x = true) ∧ RvS k v r r'
theorem RvS.nil {k v : Nat} : RvS k v [] [] := rfl
theorem RvS.c {k v s : Nat} {x y : V} {r r' : List (Nat × V)} (h : rvV k v x = some y) (t : RvS k v r r') : RvS k v ((s, x) :: r) ((s, y) :: r') := ⟨y, r', rfl, .inl h, t⟩
theorem RvS.f {k v s : Nat} {x : V} {r r' : List (Nat × V)} (h : frz x = true) (t : RvS k v r r') : RvS k v ((s, x) :: r) ((s, x) :: r') := ⟨x, r', rfl, .inr ⟨rfl, h⟩, t⟩
end
end Go.D
