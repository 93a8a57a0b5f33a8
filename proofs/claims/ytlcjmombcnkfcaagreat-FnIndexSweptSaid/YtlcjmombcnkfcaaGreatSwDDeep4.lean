import Derived.Test.YtlcjmombcnkfcaaGreatSwDDeep2
set_option linter.unusedVariables false
namespace Go.D
section
variable {P : Program} {Γ : Ctx} {τ : Tau}
theorem Ow.lit' (w : World) (M : Nat → Prop) (u : Value) : Ow w M (.lit u) u [] := by simp only [Ow]; exact ⟨trivial, trivial⟩
theorem OwL.nil' (w : World) (M : Nat → Prop) : OwL w M [] [] [] := by simp only [OwL]; exact ⟨trivial, trivial⟩
theorem OwL.cons' {w : World} {M : Nat → Prop} {x : V} {u : Value} {xs : List V} {us : List Value} (h : Ow w M x u []) (k : OwL w M xs us []) : OwL w M (x :: xs) (u :: us) [] := by
 simp only [OwL]
 exact ⟨u, us, [], [], rfl, rfl, h, k⟩
theorem CoreE.pre {ops : Array Oper} {j : Nat} {st : St} {dd : Option Nat} {H1 H2 : Hp} {x : V} (h : HStep Γ st.H H1) (k : CoreE P Γ ops j { st with H := H1 } dd H2 x) : CoreE P Γ ops j st dd H2 x := by
 obtain ⟨o, h1, h2, h3, h4⟩ := k
 refine ⟨o, ⟨h1.op, h1.wanted⟩, h2, h3, fun a w M μ fp G O hS K Qc hK => ?_⟩
 obtain ⟨μ1, fp1, G1, O1, C1⟩ := h w M μ fp G O
 refine h4 a w M μ1 fp1 G1 O1 (fun s x hx => ?_) K Qc fun u w' M' μ' fp' G' O' C hs => hK u w' M' μ' fp' G' O' (C1.trans C) hs
 obtain ⟨u, hu, hsl⟩ := hS s x hx
 exact ⟨u, hu, hsl.carry C1⟩
end
end Go.D
set_option linter.unusedVariables false
namespace Go.D
section
variable {P : Program} {Γ : Ctx} {τ : Tau}
theorem callVK_E (τ : Tau) {ops : Array Oper} {j : Nat} {st : St} (d k ver : Nat) (hpin : ∀ i b, Γ.L i b → k ≠ i) (hkl : k ≤ st.H.length) (hver : k < st.H.length → ∃ blk, st.H[k]? = some (some blk) ∧ blk.ver < ver) {g : FuncId} {xs xs' : List V} {s n : Nat} {cs : List V} {full : Bool}
  (hok : OK P g xs' (.own s n cs full)) (hbl : Blind (.own s n cs full)) (h : callV τ ops j st = some (d, g, xs)) (hz : ViewL st.H xs xs') : CoreE P Γ ops j st (some d) (setH st.H k (some ⟨ver, cs⟩)) (.ref k ver 0 s n full) := by
 obtain ⟨o, c, y, as, caps, hc⟩ := callV_spec h
 refine ⟨o, hc.at_, hc.dst, (fun d e => by cases e; exact hc.lt), fun a w M μ fp G O' hS K Qc hK => ?_⟩
 refine hc.runV hz hok hbl O' hS K Qc fun v w' fpn hg how hn hb => ?_
 obtain ⟨μ2, fp2, G2, O2, C2, _, hsl2⟩ := after_keep O' hg how hn hb k ver hkl hpin hver
 exact hK _ _ _ μ2 fp2 G2 O2 C2 hsl2
theorem View.agg {H : Hp} {xs ys : List V} (h : ViewL H xs ys) : View H (.agg xs) (.agg ys) := by
 intro Γ w M μ fp G v O hs
 simp only [Sl] at hs
 obtain ⟨us, rfl, hs⟩ := hs
 simp only [Fr]
 exact ⟨us, rfl, SlL.views O hs h⟩
theorem OutP.agg {H : Hp} {xs ys : List V} {k : List Nat} (h : OutL H xs ys k) : OutP H (.agg xs) (.agg ys) k := by
 unfold OutP
 exact ⟨ys, rfl, h⟩
end
end Go.D
