import Derived.Test.YtpkaieniomkofaaGreatPkDDeep3
set_option linter.unusedVariables false
namespace Go.D
section
variable {P : Program} {Γ : Ctx} {τ : Tau}
theorem opsP_callVO (τ : Tau) {ops : Array Oper} {Q : Exit → St → Prop} {j : Nat} {st : St} (d : Nat) {g : FuncId} {xs xs' : List V} {out : V} (hok : OK P g xs' out) (hbl : Blind out) (h : callV τ ops j st = some (d, g, xs)) (hz : ViewL st.H xs xs')
  (hk : opsP P Γ ops Q (j + 1) ({ st with H := st.H ++ (thaw st.H.length out).2.map some }.set d (thaw st.H.length out).1)) : opsP P Γ ops Q j st := by
 obtain ⟨o, c, y, as, caps, hc⟩ := callV_spec h
 refine opsP_op hc.at_.op hc.at_.wanted fun a w r Qc => ?_
 obtain ⟨h1, h2, M, μ, fp, G, O, hS⟩ := r
 refine hc.runV hz hok hbl O hS _ Qc fun v w' fpn hg how hn hb => ?_
 obtain ⟨μ', fp', G', O', C, hsl⟩ := after_thaw O hg how hn hb
 refine ⟨_, hk, ?_⟩
 have hst : ∀ st' : St, st'.put o.dst (thaw st.H.length out).1 = st'.set d (thaw st.H.length out).1 := fun st' => by rw [hc.dst]; rfl
 rw [← hst]
 exact R.step h1 h2 hS C O' (fun d' hd' => by rw [hc.dst] at hd'; cases hd'; exact hc.lt) fun _ => hsl
theorem View.agg {H : Hp} {xs ys : List V} (h : ViewL H xs ys) : View H (.agg xs) (.agg ys) := by
 intro Γ w M μ fp G v O hs
 simp only [Sl] at hs
 obtain ⟨us, rfl, hs⟩ := hs
 simp only [Fr]
 exact ⟨us, rfl, SlL.views O hs h⟩
theorem OutP.agg {H : Hp} {xs ys : List V} {k : List Nat} (h : OutL H xs ys k) : OutP H (.agg xs) (.agg ys) k := by
 unfold OutP
 exact ⟨ys, rfl, h⟩
end
end Go.D
