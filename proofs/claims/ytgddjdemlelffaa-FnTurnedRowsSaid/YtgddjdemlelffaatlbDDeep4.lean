import Derived.Test.YtgddjdemlelffaatlbDDeep
set_option linter.unusedVariables false
namespace Go.D
def oneO : V → Bool
 | .own .. => true
 | x => cellV x
class DOne (α : Type) [Enc α] [DEnc α] : Prop where
 one : ∀ x : α, (DEnc.cells x).all oneO = true
instance {α : Type} [Enc α] [DFlat α] : DOne (List α) := ⟨fun _ => rfl⟩
instance {α : Type} [Enc α] [DEnc α] [DNest α] : DOne (List α) := ⟨fun _ => rfl⟩
section
variable {P : Program} {Γ : Ctx} {τ : Tau}
theorem OwL.one {w : World} {M : Nat → Prop} : ∀ {xs : List V} {us : List Value} {fp : List Nat}, OwL w M xs us fp → xs.all oneO = true → ∀ u ∈ us, u.oneCell' = true
 | [], us, fp, h, _, u, hu => by simp only [OwL] at h; rw [h.1] at hu; cases hu
 | c :: cs, us, fp, h, hb, u, hu => by
  simp only [List.all_cons, Bool.and_eq_true] at hb
  simp only [OwL] at h
  obtain ⟨v, us', f, f', rfl, rfl, h1, h2⟩ := h
  rcases List.mem_cons.1 hu with rfl | hu
  ·have hb1 := hb.1
   cases c with
   | own s n cs full => simp only [Ow] at h1; obtain ⟨A, cap, rfl, _⟩ := h1; rfl
   | lit u => simp only [Ow] at h1; obtain ⟨_, rfl⟩ := h1; cases u <;> first | rfl | cases hb1
   | arr s n cs full => simp only [Ow, Fr] at h1; obtain ⟨_, A, cap, rfl, _⟩ := h1; rfl
   | fptr cs off => simp only [Ow, Fr] at h1; obtain ⟨_, b, o, us, rfl, _⟩ := h1; rfl
   | fn f cs => simp only [Ow, Fr] at h1; obtain ⟨_, us, rfl, _⟩ := h1; rfl
   | ref => simp only [Ow] at h1
   | ptr => simp only [Ow] at h1
   | _ => simp [oneO, cellV] at hb1
  ·exact OwL.one h2 hb.2 u hu
structure AppDI where
 d : Nat
 k : Nat
 ver : Nat
 k2 : Nat
 v2 : Nat
 s : Nat
 n : Nat
 m : Nat
end
end Go.D
set_option linter.unusedVariables false
namespace Go.D
section
variable {P : Program} {Γ : Ctx} {τ : Tau}
theorem Ow.lit' (w : World) (M : Nat → Prop) (u : Value) : Ow w M (.lit u) u [] := by simp only [Ow]; exact ⟨trivial, trivial⟩
theorem OwL.nil' (w : World) (M : Nat → Prop) : OwL w M [] [] [] := by simp only [OwL]; exact ⟨trivial, trivial⟩
theorem OwL.cons' {w : World} {M : Nat → Prop} {x : V} {u : Value} {xs : List V} {us : List Value} (h : Ow w M x u []) (k : OwL w M xs us []) : OwL w M (x :: xs) (u :: us) [] := by
 simp only [OwL]
 exact ⟨u, us, [], [], rfl, rfl, h, k⟩
theorem CoreE.pre {ops : Array Oper} {j : Nat} {st : St} {dd : Option Nat} {H1 H2 : Hp} {x : V} (h : HStep Γ st.H H1) (k : CoreE P Γ ops j { st with H := H1 } dd H2 x) : CoreE P Γ ops j st dd H2 x := by
 obtain ⟨o, h1, h2, h3, h4⟩ := k
 refine ⟨o, ⟨h1.op, h1.wanted⟩, h2, h3, fun a w M μ fp G O hS K Qc hK => ?_⟩
 obtain ⟨μ1, fp1, G1, O1, C1⟩ := h w M μ fp G O
 refine h4 a w M μ1 fp1 G1 O1 (fun s x hx => ?_) K Qc fun u w' M' μ' fp' G' O' C hs => hK u w' M' μ' fp' G' O' (C1.trans C) hs
 obtain ⟨u, hu, hsl⟩ := hS s x hx
 exact ⟨u, hu, hsl.carry C1⟩
end
end Go.D
set_option linter.unusedVariables false
namespace Go.D
section
variable {P : Program} {Γ : Ctx} {τ : Tau}
end
end Go.D
