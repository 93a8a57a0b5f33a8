import Derived.Test.YtjgeddgheonjbaaWfDOwn2
import Derived.Laws.Concat
import Derived.Laws.BytesString
set_option linter.unusedVariables false
namespace Go.D
section
variable {P : Program} {Γ : Ctx} {τ : Tau} {α : Type} [Enc α]
structure MkI where
 d : Nat
 s : Nat
 zero : List V
 n : Int
def appT (xs ys : List α) (n : Nat) : Option (List α) := if n + ys.length < 68719476736 then some (xs.take n ++ ys) else none
theorem CeL.refrz2 {w : World} {M : Nat → Prop} {H H' : Hp} {μ μ' : Nat → Option Nat} : ∀ {xs : List V} {vs : List Value} {fp : List Nat}, CeL w M H μ xs vs fp → xs.all frozenV = true → CeL w M H' μ' xs vs fp
 | [], vs, fp, h, _ => by simpa only [CeL] using h
 | c :: cs, vs, fp, h, hb => by
  simp only [List.all_cons, Bool.and_eq_true] at hb
  simp only [CeL] at h ⊢
  obtain ⟨u, us', f, f', rfl, rfl, h1, h2⟩ := h
  refine ⟨u, us', f, f', rfl, rfl, ?_, CeL.refrz2 h2 hb.2⟩
  rcases h1 with h1 | h1
  ·exact .inl h1
  ·refine .inr ⟨h1.1, ?_⟩
   have := h1.2
   cases c <;> simp_all [frozenV, Sl]
end
end Go.D
