import Derived.Test.YtmcciakfjapjeaaExDAny
set_option linter.unusedVariables false
namespace Go.D
section
variable {P : Program} {Γ : Ctx} {τ : Tau}
def CoreE (P : Program) (Γ : Ctx) (ops : Array Oper) (j : Nat) (st : St) (dd : Option Nat) (H' : Hp) (x : V) : Prop :=
 ∃ o, AtOp ops st j o ∧ o.dst = dd ∧ (∀ d, dd = some d → d < st.nt) ∧ YldE P Γ o st H' x
theorem CoreE.of_g {ops : Array Oper} {j : Nat} {st : St} {d : Nat} {x : V} (h : ∃ o, AtOp ops st j o ∧ o.dst = some d ∧ d < st.nt ∧ YldG P Γ o st x) : CoreE P Γ ops j st (some d) st.H x := by
 obtain ⟨o, h1, h2, h3, h4⟩ := h
 refine ⟨o, h1, h2, fun d' e => by cases e; exact h3, fun a w M μ fp G O hS K Qc hK => ?_⟩
 exact h4 a w M μ fp G O hS K Qc fun u w' hg hs => hK u w' M μ fp G (O.grew hg) (hg.carry _ _ _ fun k blk hb => O.born_lt k blk hb) hs
theorem CoreE.of_y {ops : Array Oper} {j : Nat} {st : St} {d : Nat} {x : V} (h : ∃ o, AtOp ops st j o ∧ o.dst = some d ∧ d < st.nt ∧ Yld P Γ o st x) : CoreE P Γ ops j st (some d) st.H x := .of_g (yldG_of h)
theorem opsP_E {ops : Array Oper} {Q : Exit → St → Prop} {j : Nat} {st : St} {dd : Option Nat} {H' : Hp} {x : V} (h : CoreE P Γ ops j st dd H' x) (hk : opsP P Γ ops Q (j + 1) ({ st with H := H' }.put dd x)) : opsP P Γ ops Q j st := by
 obtain ⟨o, h1, h2, h3, h4⟩ := h
 refine opsP_op h1.op h1.wanted (h4.opP (fun d' hd' => h3 d' (by rw [← h2]; exact hd')) ?_)
 rw [h2]; exact hk
theorem qA_E {ops : Array Oper} {vis mod : List (List Nat)} {T : St → Prop} {n j : Nat} {st : St} {dd : Option Nat} {x : V} (Hm' : Hp) (st' : St)
  (h : ∀ Γ' : Ctx, (∀ i b, Γ'.L i b → Γ.L i b) → CoreE P Γ' ops j (stA ops vis j st) dd Hm' x)
  (hl : Nat.beq Hm'.length st.H.length = true) (hm : fillH (lk mod j) 0 (maskH (lk vis j) 0 st.H) Hm' = Hm') (hp : hpIn (lk vis j) Hm') (hx : dd = none ∨ okA (lk vis j) x = true ∨ frz x = true)
  (he : (st.inH (fillH (lk mod j) 0 st.H Hm')).put dd x = st')
  (hk : qA P Γ ops vis mod T n (j + 1) st') : qA P Γ ops vis mod T (n + 1) j st := by
 subst he
 have hl := Nat.eq_of_beq_eq_true hl
 obtain ⟨o, h1, h2, h3, _⟩ := h Γ (fun _ _ h => h)
 refine ⟨o, x, Hm', h1.op, fun d hd => h3 d (by rw [← h2]; exact hd), hl, fun k hk => ?_, hp, by rw [h2]; exact .inl hx, .inl ⟨h1.wanted, fun Γ' hΓ => ?_⟩, by rw [h2]; exact hk⟩
 ·have := fillH_get (lk mod j) 0 (maskH (lk vis j) 0 st.H) Hm' (by rw [maskH_len]; exact hl) k
  rw [hm, Nat.zero_add, hk] at this
  simpa using this
 ·obtain ⟨o', g1, g2, g3, g4⟩ := h Γ' hΓ
  have : o' = o := Option.some.inj (g1.op.symm.trans h1.op)
  subst this
  exact g4
def evA (τ : Tau) (mu : List Nat) (ops : Array Oper) (vis mod : List (List Nat)) (ks : List Nat) : Nat → Nat → St → Option St
 | 0, _, st => some st
 | n + 1, j, st =>
  match ops[j]? with
  | none => none
  | some o =>
   match dstOf st o with
   | none => none
   | some d =>
    bif (lk vis j == ks) && (lk mod j).isEmpty then
    match wantedV ops (stA ops vis j st) o with
    | some true =>
     match evOpF τ mu (stA ops vis j st) o with
     | some x => bif okA ks x || frz x then evA τ mu ops vis mod ks n (j + 1) (st.set d x) else none
     | none => none
    | some false => evA τ mu ops vis mod ks n (j + 1) (st.set d (.lit undef))
    | none => none
    else none
theorem qA_ev (hT : TOK P τ) (mu ks : List Nat) {ops : Array Oper} {vis mod : List (List Nat)} {T : St → Prop} {m : Nat} : ∀ (n : Nat) {j : Nat} {st st' : St}, hpIn ks (maskH ks 0 st.H) → evA τ mu ops vis mod ks n j st = some st' → qA P Γ ops vis mod T m (j + n) st' → qA P Γ ops vis mod T (m + n) j st
 | 0, j, st, st', _, h, hk => by
  simp only [evA, Option.some.injEq] at h
  subst h
  exact hk
 | n + 1, j, st, st', hp, h, hk => by
  have hk' : qA P Γ ops vis mod T m ((j + 1) + n) st' := by
   have e : (j + 1) + n = j + (n + 1) := by omega
   rw [e]; exact hk
  show qA P Γ ops vis mod T ((m + n) + 1) j st
  simp only [evA] at h
  split at h
  ·cases h
  ·rename_i o ho
   split at h
   ·cases h
   ·rename_i d hd
    obtain ⟨hd1, hd2⟩ := dstOf_spec hd
    cases hc : ((lk vis j == ks) && (lk mod j).isEmpty) with
    | false => rw [hc] at h; cases h
    | true =>
     rw [hc, cond_true] at h
     simp only [Bool.and_eq_true, beq_iff_eq, List.isEmpty_iff] at hc
     obtain ⟨hv, hmo⟩ := hc
     have fill : fillH (lk mod j) 0 st.H (maskH (lk vis j) 0 st.H) = st.H := by
      refine List.ext_getElem? fun k => ?_
      rw [fillH_get _ _ _ _ (maskH_len _ _ _), hmo]
      simp [hasN]
     have step : ∀ x, (okA (lk vis j) x = true ∨ frz x = true) → AS P Γ ops j (stA ops vis j st) o (maskH (lk vis j) 0 st.H) x → evA τ mu ops vis mod ks n (j + 1) (st.set d x) = some st' → qA P Γ ops vis mod T ((m + n) + 1) j st := by
      intro x hx ha h
      refine ⟨o, x, maskH (lk vis j) 0 st.H, ho, fun d' e => by rw [hd1] at e; cases e; exact hd2, maskH_len _ _ _, fun k _ => rfl, by rw [hv]; exact hp, .inl (.inr hx), ha, ?_⟩
      rw [fill, hd1]
      exact qA_ev hT mu ks n (st := st.set d x) hp h hk'
     split at h
     ·rename_i hw
      split at h
      ·rename_i x hx
       cases hox : (okA ks x || frz x) with
       | false => rw [hox] at h; cases h
       | true =>
        rw [hox, cond_true] at h
        simp only [Bool.or_eq_true] at hox
        refine step x (by rw [hv]; exact hox) (.inl ⟨hw, fun Γ' _ => ?_⟩) h
        have hy := evOpF_sound (P := P) (Γ := Γ') hT hx
        intro a w M μ fp G O hS K Qc hK
        exact hy.g a w M μ fp G O hS K Qc fun u w' hg hs => hK u w' M μ fp G (O.grew hg) (hg.carry _ _ _ fun k blk hb => O.born_lt k blk hb) hs
      ·cases h
     ·rename_i hw
      exact step _ (.inr rfl) (.inr ⟨hw, rfl, rfl⟩) h
     ·cases h
theorem qA_end {ops : Array Oper} {vis mod : List (List Nat)} {T : St → Prop} {j : Nat} {st : St} (h : T st) : qA P Γ ops vis mod T 0 j st := h
structure StoI where
 k : Nat
 ver : Nat
 cells : List V
end
end Go.D
