import Derived.Test.YtpkaieniomkofaaGreatHoDWent
set_option linter.unusedVariables false
namespace Go.D
section
variable {P : Program} {Γ : Ctx} {τ : Tau}
def HStepM (Γ : Ctx) (H H' : Hp) : Prop := ∀ (w : World) (M : Nat → Prop) (μ : Nat → Option Nat) (fp : Nat → List Nat) (G : Nat → Option Nat), Own Γ M H w μ fp G →
 ∃ M' μ' fp' G', Own Γ M' H' w μ' fp' G' ∧ Carry w M H μ w M' H' μ'
theorem HStep.m {H H' : Hp} (h : HStep Γ H H') : HStepM Γ H H' := fun w M μ fp G O => by
 obtain ⟨μ', fp', G', O', C⟩ := h w M μ fp G O
 exact ⟨M, μ', fp', G', O', C⟩
theorem CoreE.thenM {ops : Array Oper} {j : Nat} {st : St} {dd : Option Nat} {H1 H2 : Hp} {x : V} (h : CoreE P Γ ops j st dd H1 x) (k : HStepM Γ H1 H2) : CoreE P Γ ops j st dd H2 x := by
 obtain ⟨o, h1, h2, h3, h4⟩ := h
 refine ⟨o, h1, h2, h3, fun a w M μ fp G O hS K Qc hK => ?_⟩
 refine h4 a w M μ fp G O hS K Qc fun u w' M' μ' fp' G' O' C hs => ?_
 obtain ⟨M2, μ2, fp2, G2, O2, C2⟩ := k w' M' μ' fp' G' O'
 exact hK u w' M2 μ2 fp2 G2 O2 (C.trans C2) (hs.carry C2)
theorem HStepM.fz {H H' : Hp} (k ver : Nat) {cells zs : List V} (hb : H[k]? = some (some ⟨ver, cells⟩)) (hc : cells.all ownC = true) (hfz : FzToL cells zs) (hl : zs.length = cells.length)
  (he : H.set k (some ⟨ver, zs⟩) = H') : HStepM Γ H H' := by
 classical
 intro w M μ fp G O
 have hkl := (List.getElem?_eq_some_iff.1 hb).1
 obtain ⟨m1, m2, m3⟩ := O.mine k _ hb
 have hbl := O.blk k _ hb
 have hget : ∀ j blk, H'[j]? = some (some blk) → (k = j ∧ blk = ⟨ver, zs⟩) ∨ (j ≠ k ∧ H[j]? = some (some blk)) := by
  intro j blk h
  rw [← he] at h
  by_cases e : j = k
  ·subst e
   rw [List.getElem?_set_self hkl] at h
   cases h
   exact .inl ⟨rfl, rfl⟩
  ·rw [List.getElem?_set_ne (fun e' => e e'.symm)] at h
   exact .inr ⟨e, h⟩
 let M' : Nat → Prop := fun b => M b ∧ b ∉ fp k
 let G' : Nat → Option Nat := fun b => if b ∈ fp k then none else G b
 let fp' : Nat → List Nat := fun j => if j = k then [] else fp j
 have hG' : ∀ b, G' b ≠ none → G b ≠ none ∧ b ∉ fp k := fun b h => by
  simp only [G'] at h
  split at h
  ·exact absurd rfl h
  ·exact ⟨h, by assumption⟩
 have C : Carry w M H μ w M' H' μ := ⟨Same.refl w M, fun b h => .inl h.1, by rw [← he, List.length_set]; exact Nat.le_refl _, fun j blk' hj h => by
  rcases hget j blk' h with ⟨rfl, rfl⟩ | ⟨_, h2⟩
  ·exact ⟨_, hb, Nat.le_refl _, fun _ => ⟨rfl, fun b _ => .of_eq rfl⟩⟩
  ·exact ⟨blk', h2, Nat.le_refl _, fun _ => ⟨rfl, fun b _ => .of_eq rfl⟩⟩⟩
 refine ⟨M', μ, fp', G', ⟨fun j blk h => ?_, fun j blk h => ?_, fun b h => ⟨O.sub b (hG' b h).1, (hG' b h).2⟩, fun b h => ⟨O.m0 b h, fun hbf => O.apart b (by rw [m2 b hbf]; simp) h⟩, fun b h => O.lt b h.1, fun b h => O.new b (hG' b h).1, fun b h => O.apart b (hG' b h).1, O.kept, fun i b hb' => ?_⟩, C⟩
 ·rcases hget j blk h with ⟨rfl, rfl⟩ | ⟨h0, h2⟩
  ·simp only [fp', if_true]
   cases hm : μ k with
   | none =>
    rw [hm] at hbl
    have h0 : cells = [] := hbl
    rw [h0] at hl
    exact List.length_eq_zero_iff.1 hl
   | some b =>
    rw [hm] at hbl
    obtain ⟨c, e, us, hh, hce, hlie⟩ := hbl
    have how := hce.owL hc
    exact ⟨c, e, us, hh, (hfz w M' M us (fp k) how (fun b h => h.1) (fun b hbf h => h.2 hbf)).ceL, hlie⟩
  ·simp only [fp', if_neg h0]
   exact (O.blk j blk h2).carry C (fun b _ => rfl) (fun b _ => rfl)
 ·rcases hget j blk h with ⟨rfl, rfl⟩ | ⟨h0, h2⟩
  ·simp only [fp', if_true]
   exact ⟨fun b e => ⟨by simp only [G', if_neg (m1 b e).2]; exact (m1 b e).1, by simp⟩, fun b hbf => by simp at hbf, List.nodup_nil⟩
  ·obtain ⟨g1, g2, g3⟩ := O.mine j blk h2
   have hj : ∀ b, G b = some j → b ∉ fp k := fun b hg hbf => by
    rw [m2 b hbf] at hg
    cases hg
    exact h0 rfl
   simp only [fp', if_neg h0]
   exact ⟨fun b e => ⟨by simp only [G', if_neg (hj b (g1 b e).1)]; exact (g1 b e).1, (g1 b e).2⟩, fun b hbf => by simp only [G', if_neg (hj b (g2 b hbf))]; exact g2 b hbf, g3⟩
 ·obtain ⟨p1, ⟨blk, p2⟩, p3⟩ := O.pin i b hb'
  refine ⟨p1, ?_, p3⟩
  by_cases e : i = k
  ·subst e
   exact ⟨⟨ver, zs⟩, by rw [← he, List.getElem?_set_self hkl]⟩
  ·exact ⟨blk, by rw [← he, List.getElem?_set_ne (fun e' => e e'.symm)]; exact p2⟩
theorem setH_get {H : Hp} {k : Nat} {x b : Option Blk} (h : H[k]? = some b) : (setH H k x)[k]? = some x ∧ setH H k x = H.set k x := by
 have hk := (List.getElem?_eq_some_iff.1 h).1
 have e : setH H k x = H.set k x := by
  unfold setH
  rw [show Nat.blt k H.length = true from Nat.ble_eq_true_of_le hk]
  rfl
 rw [e, List.getElem?_set_self hk]
 exact ⟨rfl, rfl⟩
theorem stf_E {α : Type} [Enc α] (hT : TOK P τ) {ops : Array Oper} {j : Nat} {st : St} (t k ver o' : Nat) {xs : List α} {i : Int} {x : α} (y : α) {vs vs' zs : List V} {ks : List Nat} {H' : Hp} (hx : getI xs i = some x)
  (h : steV τ ops j st = some ⟨t, k, ver, i.toNat * Enc.sz α + o', eL xs, vs⟩) (hs : OutL (setH st.H k (some ⟨ver, setL (eL xs) (i.toNat * Enc.sz α + o') vs⟩)) vs vs' ks) (hnd : ks.Nodup) (hkn : k ∉ ks) (hpin : ∀ i b, Γ.L i b → i ∉ ks)
  (hfz : FzToL vs' zs) (hoc : vs'.all ownC = true) (hlen : zs.length = vs.length) (hy : setL (Enc.cells x) o' zs = Enc.cells y) (ho : Nat.ble (o' + vs.length) (Enc.sz α) = true)
  (he : (emptyK (setH st.H k (some ⟨ver, setL (eL xs) (i.toNat * Enc.sz α + o') vs⟩)) ks).set k (some ⟨ver, eL (xs.set i.toNat y)⟩) = H') : CoreE P Γ ops j st none H' .any := by
 have hb2 := Nat.le_of_ble_eq_true ho
 have hg := (getI_spec hx).2.2
 have hvl := hs.len
 have core : CoreE P Γ ops j st none (setH st.H k (some ⟨ver, setL (eL xs) (i.toNat * Enc.sz α + o') vs⟩)) .any ∧ vs.all cellV = true ∧ ∃ b, st.H[k]? = some b := by
  unfold steV at h
  split at h
  ·rename_i o ho'
   split at h
   ·rename_i t' y' x' hop hd
    split at h
    ·rename_i ti k' ver' off v hti hyv hxv
     split at h
     ·rename_i blk vs2 hb hv
      cases hc : (vs2.all cellV && Nat.beq vs2.length ti.size) with
      | false => rw [hc] at h; cases h
      | true =>
       rw [hc, cond_true] at h
       simp only [Option.some.injEq, StE.mk.injEq] at h
       obtain ⟨rfl, rfl, rfl, rfl, hcs, rfl⟩ := h
       simp only [Bool.and_eq_true] at hc
       refine ⟨⟨o, Zaw ho', hd, (fun d e => by cases e), store_yldE hT hop hd hti hyv hb hxv hv hc.1 (Nat.eq_of_beq_eq_true hc.2) ?_ ?_⟩, hc.1, _, (Zao hb).1⟩
       ·rw [hcs]; exact eL_bound hg hb2
       ·rw [hcs]
     ·cases h
    ·cases h
   ·cases h
  ·cases h
 obtain ⟨core, hvs, b, hbk⟩ := core
 obtain ⟨g1, g2⟩ := setH_get (x := some ⟨ver, setL (eL xs) (i.toNat * Enc.sz α + o') vs⟩) hbk
 have hAo : ((eL xs).take (i.toNat * Enc.sz α + o')).all Z9 = true := by
  rw [List.all_eq_true]
  exact fun x hx => List.all_eq_true.1 (eL_frz xs) x (List.mem_of_mem_take hx)
 have hBo : ((eL xs).drop (i.toNat * Enc.sz α + o' + vs.length)).all Z9 = true := by
  rw [List.all_eq_true]
  exact fun x hx => List.all_eq_true.1 (eL_frz xs) x (List.mem_of_mem_drop hx)
 have toC : ∀ {l : List V}, l.all Z9 = true → l.all ownC = true := fun h => all_of (fun x h => by cases x <;> simp_all [Z9, ownC]) h
 have step1 := HStep.nest (Γ := Γ) (A := (eL xs).take (i.toNat * Enc.sz α + o')) (B := (eL xs).drop (i.toNat * Enc.sz α + o' + vs.length)) k ver g1 hs hnd hkn hpin hvs rfl rfl
 have hke : k < (emptyK (setH st.H k (some ⟨ver, setL (eL xs) (i.toNat * Enc.sz α + o') vs⟩)) ks).length := by
  rw [emptyK_len]
  exact (List.getElem?_eq_some_iff.1 g1).1
 refine (CoreE.then core step1).thenM (HStepM.fz k ver (zs := eL (xs.set i.toNat y)) (List.getElem?_set_self hke) ?_ ?_ ?_ ?_)
 ·rw [List.all_append, List.all_append, toC hAo, hoc, toC hBo]; rfl
 ·have e : eL (xs.set i.toNat y) = (eL xs).take (i.toNat * Enc.sz α + o') ++ zs ++ (eL xs).drop (i.toNat * Enc.sz α + o' + vs.length) := by
   rw [← eL_set hg hy (by rw [hlen]; exact hb2)]
   unfold setL
   rw [hlen]
  rw [e]
  exact ((FzToL.frz (frzL_of_all hAo)).append hfz).append (FzToL.frz (frzL_of_all hBo))
 ·rw [← eL_set hg hy (by rw [hlen]; exact hb2)]
  unfold setL
  simp only [List.length_append, hlen, hvl]
 ·rw [← he, List.set_set]
end
end Go.D
