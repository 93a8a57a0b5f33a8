import Derived.Test.YtgddjdemlelffaadlcDMin
import Derived.Lib.AppendZerosOnto
set_option linter.unusedVariables false
namespace Go.D
theorem renC {k n s : Nat} {x : V} {r : List (Nat × V)} (h : renOK k n x) (hr : renLOK k n r) : renLOK k n ((s, x) :: r) := ⟨h, hr⟩
theorem renC0 {k n : Nat} : renLOK k n [] := trivial
theorem ren_ref {k n k' ver off s m : Nat} {f : Bool} (h : m = n) : renOK k n (.ref k' ver off s m f) := fun _ => h
theorem wholeC {k v len s : Nat} {x : V} {r : List (Nat × V)} (h : wholeOf k v len x) (hr : wholeSlots k v len r) : wholeSlots k v len ((s, x) :: r) := ⟨h, hr⟩
theorem wholeC0 {k v len : Nat} : wholeSlots k v len [] := trivial
theorem whole_is {k v len k' ver off s m : Nat} {f : Bool} (h : m * s = len) : wholeOf k v len (.ref k' ver off s m f) := fun _ _ _ => h
theorem whole_ne {k v len k' ver off s m : Nat} {f : Bool} (h : Nat.beq k' k = false) : wholeOf k v len (.ref k' ver off s m f) := fun e => by rw [e, Nat.beq_refl] at h; cases h
section
variable {P : Program} {Γ : Ctx} {τ : Tau}
theorem Imp.hideS {st st' : St} (k : Nat) (hpin : ∀ i b, Γ.L i b → k ≠ i) (he : { st with H := st.H.set k none } = st') : Imp Γ st st' := by
 subst he
 refine Imp.of_own rfl fun a w M μ fp G O hS => ?_
 obtain ⟨O', C⟩ := O.dropKeys [k] (fun i b hb h => hpin i b hb (by simp at h; exact h.symm))
 refine ⟨M, μ, fp, _, O', fun s x hx => ?_⟩
 obtain ⟨u, hu, hs⟩ := hS s x hx
 exact ⟨u, hu, hs.carry C⟩
end
end Go.D
set_option linter.unusedVariables false
namespace Go.D
section
variable {P : Program} {Γ : Ctx} {τ : Tau}
section lists
variable {α : Type} [Enc α]
end lists
end
end Go.D
set_option linter.unusedVariables false
namespace Go.D
section
variable {P : Program} {Γ : Ctx} {τ : Tau}
end
end Go.D
