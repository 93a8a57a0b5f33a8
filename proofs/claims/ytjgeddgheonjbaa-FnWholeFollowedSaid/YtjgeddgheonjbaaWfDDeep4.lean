import Derived.Test.YtjgeddgheonjbaaWfDDeep3
set_option linter.unusedVariables false
namespace Go.D
section
variable {P : Program} {Γ : Ctx} {τ : Tau}
theorem View.agg {H : Hp} {xs ys : List V} (h : ViewL H xs ys) : View H (.agg xs) (.agg ys) := by
 intro Γ w M μ fp G v O hs
 simp only [Sl] at hs
 obtain ⟨us, rfl, hs⟩ := hs
 simp only [Fr]
 exact ⟨us, rfl, SlL.views O hs h⟩
theorem OutP.agg {H : Hp} {xs ys : List V} {k : List Nat} (h : OutL H xs ys k) : OutP H (.agg xs) (.agg ys) k := by
 unfold OutP
 exact ⟨ys, rfl, h⟩
end
end Go.D
