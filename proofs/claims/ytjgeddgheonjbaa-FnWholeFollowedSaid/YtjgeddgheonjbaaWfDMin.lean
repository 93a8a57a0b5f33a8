import Derived.Test.YtjgeddgheonjbaaWfDCast
set_option linter.unusedVariables false
namespace Go.D
section
variable {P : Program} {Γ : Ctx} {τ : Tau}
def ghostN : Nat → Hp → Hp
 | 0, H => H
 | n + 1, H => ghostN n (setH H H.length (some ⟨0, []⟩))
theorem Imp.ghosts : ∀ (n : Nat) {st st' : St}, { st with H := ghostN n st.H } = st' → Imp Γ st st'
 | 0, st, st', h => by subst h; exact Imp.refl _
 | n + 1, st, st', h => by
  subst h
  exact (Imp.ghost (st := st)).trans (Imp.ghosts n (st := { st with H := setH st.H st.H.length (some ⟨0, []⟩) }) rfl)
theorem app_Ew {α : Type} [Enc α] (hT : TOK P τ) {ops : Array Oper} {j : Nat} {st : St} (d k ver : Nat) (hpin : ∀ i b, Γ.L i b → k ≠ i) {xs ys zs : List α} (hz : app xs ys = some zs)
  (h : appV τ ops j st = some ⟨d, k, ver, Enc.sz α, xs.length, eL xs, ys.length, eL ys⟩) : CoreE P Γ ops j st (some d) (setH st.H k (some ⟨ver + 1, eL zs⟩)) (.ref k (ver + 1) 0 (Enc.sz α) zs.length false) := by
 refine app_E hT d k ver xs.length hpin ?_ (Nat.le_refl _) h
 unfold app at hz
 unfold appT
 rw [List.take_length]
 exact hz
theorem Imp.ren {st st' : St} (k n : Nat) (hr : renLOK k n st.tmps) (he : { st with tmps := renL k n st.tmps } = st') : Imp Γ st st' := by
 subst he
 rw [renL_eq hr]
 exact Imp.refl _
theorem opsP_ren {ops : Array Oper} {Q : Exit → St → Prop} {j : Nat} {st st' : St} (k n : Nat) (hr : renLOK k n st.tmps) (he : { st with tmps := renL k n st.tmps } = st') (hk : opsP P Γ ops Q j st') : opsP P Γ ops Q j st := opsP_imp (Imp.ren k n hr he) hk
theorem qA_ren {ops : Array Oper} {vis mod : List (List Nat)} {T : St → Prop} {n j : Nat} {st st' : St} (k m : Nat) (hr : renLOK k m st.tmps) (he : { st with tmps := renL k m st.tmps } = st') (hk : qA P Γ ops vis mod T n j st') : qA P Γ ops vis mod T n j st := by
 subst he
 rw [renL_eq hr] at hk
 exact hk
end
end Go.D
