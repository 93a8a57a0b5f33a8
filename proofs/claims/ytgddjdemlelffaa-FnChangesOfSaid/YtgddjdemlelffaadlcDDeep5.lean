import Derived.Test.YtgddjdemlelffaadlcDDeep2
set_option linter.unusedVariables false
namespace Go.D
section
variable {P : Program} {Γ : Ctx} {τ : Tau}
theorem Ow.lit' (w : World) (M : Nat → Prop) (u : Value) : Ow w M (.lit u) u [] := by simp only [Ow]; exact ⟨trivial, trivial⟩
theorem OwL.nil' (w : World) (M : Nat → Prop) : OwL w M [] [] [] := by simp only [OwL]; exact ⟨trivial, trivial⟩
theorem OwL.cons' {w : World} {M : Nat → Prop} {x : V} {u : Value} {xs : List V} {us : List Value} (h : Ow w M x u []) (k : OwL w M xs us []) : OwL w M (x :: xs) (u :: us) [] := by
 simp only [OwL]
 exact ⟨u, us, [], [], rfl, rfl, h, k⟩
theorem CoreE.pre {ops : Array Oper} {j : Nat} {st : St} {dd : Option Nat} {H1 H2 : Hp} {x : V} (h : HStep Γ st.H H1) (k : CoreE P Γ ops j { st with H := H1 } dd H2 x) : CoreE P Γ ops j st dd H2 x := by
 obtain ⟨o, h1, h2, h3, h4⟩ := k
 refine ⟨o, ⟨h1.op, h1.wanted⟩, h2, h3, fun a w M μ fp G O hS K Qc hK => ?_⟩
 obtain ⟨μ1, fp1, G1, O1, C1⟩ := h w M μ fp G O
 refine h4 a w M μ1 fp1 G1 O1 (fun s x hx => ?_) K Qc fun u w' M' μ' fp' G' O' C hs => hK u w' M' μ' fp' G' O' (C1.trans C) hs
 obtain ⟨u, hu, hsl⟩ := hS s x hx
 exact ⟨u, hu, hsl.carry C1⟩
end
end Go.D
set_option linter.unusedVariables false
namespace Go.D
section
variable {P : Program} {Γ : Ctx} {τ : Tau}
end
end Go.D
set_option linter.unusedVariables false
namespace Go.D
section
variable {P : Program} {Γ : Ctx} {τ : Tau}
def RvS (k v : Nat) : List (Nat × V) → List (Nat × V) → Prop
 | [], l => l = []
 | (s, x) :: r, l => ∃ y r', l = (s, y) :: r' ∧ (rvV k v x = some y ∨ x = y ∧ frz x = true) ∧ RvS k v r r'
theorem RvS.nil {k v : Nat} : RvS k v [] [] := rfl
theorem RvS.c {k v s : Nat} {x y : V} {r r' : List (Nat × V)} (h : rvV k v x = some y) (t : RvS k v r r') : RvS k v ((s, x) :: r) ((s, y) :: r') := ⟨y, r', rfl, .inl h, t⟩
theorem RvS.f {k v s : Nat} {x : V} {r r' : List (Nat × V)} (h : frz x = true) (t : RvS k v r r') : RvS k v ((s, x) :: r) ((s, x) :: r') := ⟨x, r', rfl, .inr ⟨rfl, h⟩, t⟩
end
end Go.D
