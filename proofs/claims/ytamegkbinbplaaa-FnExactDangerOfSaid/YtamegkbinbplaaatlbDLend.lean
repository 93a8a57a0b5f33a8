import Derived.Test.YtamegkbinbplaaatlbDByte
set_option linter.unusedVariables false
namespace Go.D
section
variable {P : Program} {Γ : Ctx} {τ : Tau}
theorem FrL.ceL {w : World} {M : Nat → Prop} {H : Hp} {μ : Nat → Option Nat} {xs : List V} {us : List Value} (h : FrL w M xs us) : CeL w M H μ xs us [] := h.sl.ceL
theorem CeL.frL {w : World} {M : Nat → Prop} {H : Hp} {μ : Nat → Option Nat} : ∀ {xs : List V} {us : List Value} {fp : List Nat}, CeL w M H μ xs us fp → xs.all frozenV = true → FrL w M xs us ∧ fp = []
 | [], us, fp, h, _ => by simp only [CeL] at h; simp only [FrL]; exact h
 | c :: cs, us, fp, h, hb => by
  simp only [List.all_cons, Bool.and_eq_true] at hb
  simp only [CeL] at h
  obtain ⟨u, us', f, f', rfl, rfl, h1, h2⟩ := h
  obtain ⟨g1, rfl⟩ := CeL.frL h2 hb.2
  simp only [FrL]
  have key : Fr w M c u ∧ f = [] := by
   rcases h1 with h1 | ⟨rfl, h1⟩
   ·cases c <;> simp_all [frozenV, Ow, Fr]
   ·refine ⟨?_, rfl⟩
    cases c <;> simp_all [frozenV, Sl, Fr]
  obtain ⟨k1, rfl⟩ := key
  exact ⟨⟨u, us', rfl, k1, g1⟩, rfl⟩
def YldE (P : Program) (Γ : Ctx) (o : Oper) (st : St) (H' : Hp) (x : V) : Prop :=
 ∀ (a : Act) (w : World) (M : Nat → Prop) (μ : Nat → Option Nat) (fp : Nat → List Nat) (G : Nat → Option Nat), Own Γ M st.H w μ fp G → Slots st a w M μ →
  ∀ (K : Act → World → Prop) (Qc : Exit → Act → World → Prop), (∀ u w' M' μ' fp' G', Own Γ M' H' w' μ' fp' G' → Carry w M st.H μ w' M' H' μ' → Sl w' M' H' μ' x u → K (a.put o.dst u) w') → o.wp P a w K Qc
theorem YldE.opP {o : Oper} {K : St → Prop} {st : St} {H' : Hp} {x : V} (h : YldE P Γ o st H' x) (hd : ∀ d, o.dst = some d → d < st.nt) (hk : K ({ st with H := H' }.put o.dst x)) : opP P Γ o K st := by
 intro a w r Qc
 obtain ⟨h1, h2, M, μ, fp, G, O, hT⟩ := r
 exact h a w M μ fp G O hT _ Qc fun u w' M' μ' fp' G' O' C hs => ⟨_, hk, R.step (H' := H') h1 h2 hT C O' hd fun _ => hs⟩
structure CallB where
 d : Nat
 g : FuncId
 k : Nat
 ver : Nat
 cs : List V
 xs : List V
end
end Go.D
