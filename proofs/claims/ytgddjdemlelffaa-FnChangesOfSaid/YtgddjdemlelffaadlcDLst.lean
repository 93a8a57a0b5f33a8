import Derived.Test.YtgddjdemlelffaadlcDWent
set_option linter.unusedVariables false
namespace Go.D
theorem setH_id {H : Hp} {k : Nat} {x : Option Blk} (h : H[k]? = some x) : setH H k x = H := by
 have hk : k < H.length := (List.getElem?_eq_some_iff.1 h).1
 unfold setH
 have : Nat.blt k H.length = true := Nat.ble_eq_true_of_le hk
 rw [this, cond_true]
 apply List.ext_getElem?
 intro i
 by_cases hi : i = k
 ·subst hi
  rw [List.getElem?_set_self hk, h]
 ·rw [List.getElem?_set_ne (fun e => hi e.symm)]
section
variable {P : Program} {Γ : Ctx} {τ : Tau}
theorem callS_core (τ : Tau) {ops : Array Oper} {j : Nat} {st : St} (d k ver : Nat) {g : FuncId} {pre post : List V} {s n : Nat} {cs : List V} {out x : V} {cs' : List V} (hok : OKs P g pre s n cs post out cs') (hz1 : frzL pre = true) (hz2 : frzL post = true)
  (h : calS τ ops j st = some ⟨d, g, pre, k, ver, s, n, cs, post⟩) (H2 : Hp) (hk2 : ∀ bk, st.H[k]? = some bk → H2[k]? = some bk)
  (hstep : ∀ {M : Nat → Prop} {w w' : World} {μ : Nat → Option Nat} {fp : Nat → List Nat} {G : Nat → Option Nat}, Own Γ M st.H w μ fp G → Grew w w' → ∀ (v : Value) (fpn : List Nat), Ow w' (fun b => M b ∨ b ∈ fpn) out v fpn → fpn.Nodup → (∀ b ∈ fpn, w.heap.size ≤ b ∧ b < w'.heap.size) →
   ∃ μ' fp' G', Own Γ (fun b => M b ∨ b ∈ fpn) H2 w' μ' fp' G' ∧ Carry w M st.H μ w' (fun b => M b ∨ b ∈ fpn) H2 μ' ∧ μ' k = μ k ∧ Sl w' (fun b => M b ∨ b ∈ fpn) H2 μ' x v) :
  CoreE P Γ ops j st (some d) (setH H2 k (some ⟨ver, cs'⟩)) x := by
 unfold calS at h
 split at h
 ·rename_i d' g' zs hcv
  split at h
  ·rename_i pre' k' ver' s' n' post' hsp
   split at h
   ·rename_i blk hb
    simp only [Option.some.injEq, CallS.mk.injEq] at h
    obtain ⟨rfl, rfl, rfl, rfl, rfl, rfl, rfl, rfl, rfl⟩ := h
    obtain ⟨o, c, y, az, caps, hc⟩ := callV_spec hcv
    have hzs := splitRef_spec hsp
    refine ⟨o, hc.at_, hc.dst, (fun d e => by cases e; exact hc.lt), fun a w M μ fp G O hS K Qc hK => ?_⟩
    obtain ⟨us, hu, hus⟩ := fn_value hS hc.fn
    have ha := (soft_slL (evalArgs_sound hS hc.args)).append hus
    rw [← hc.all, hzs] at ha
    obtain ⟨u1, u2, he, ha1, ha2⟩ := ha.append_inv
    simp only [SlL] at ha2
    obtain ⟨v0, vs2, rfl, hv0, ha2⟩ := ha2
    obtain ⟨hcall, hzc, hzc', hok⟩ := hok
    obtain ⟨b1, b2⟩ := blkAt_spec hb
    simp only [Sl] at hv0
    have hr := (hv0.2.2 blk b1).2 b2
    have hbl := O.blk k' blk b1
    have hG : ∀ b, μ k' = some b → G b = some k' := fun b hm => ((O.mine k' blk b1).1 b hm).1
    have hMb : ∀ b, μ k' = some b → M b := fun b hm => O.sub b (by rw [hG b hm]; simp)
    have hlent : LentR w M (μ k') blk.cells := by
     cases hm : μ k' with
     | none => rw [hm] at hbl; exact hbl
     | some b =>
      rw [hm] at hbl
      obtain ⟨cc, ee, ws, hh, hce, hlie⟩ := hbl
      exact ⟨hMb b hm, cc, ee, ws, hh, (hce.frL hzc).1, hlie⟩
    refine wp_call hc.op hc.callee hu hcall (Calls.mono ?_ fun e w' he => he)
    have := hok w u1 vs2 v0 M (μ k') O.lt hr hlent (ha1.fr hz1) (ha2.fr hz2)
    have e1 : c.args.map a.eval ++ us.toArray = (u1 ++ v0 :: vs2).toArray := by
     apply Array.toList_inj.1
     rw [← he]
     simp
    rw [e1]
    refine Calls.mono this fun e w' he => ?_
    obtain ⟨v, fpn, rfl, hkept, hshape, how, hn, hfb, hl'⟩ := he
    refine ⟨v, rfl, ?_⟩
    have hkl : k' < st.H.length := (List.getElem?_eq_some_iff.1 b1).1
    cases hm : μ k' with
    | none =>
     rw [hm] at hl' hbl hkept
     have hc0 : blk.cells = [] := hbl
     have hc1 : cs' = [] := hl'
     have hg2 : Grew w w' := ⟨hkept.os, hkept.tape, hkept.output, hkept.size, fun i hi _ => hkept.block i hi (by simp), hkept.drawn⟩
     obtain ⟨μ2, fp2, G2, O2, C2, hμ2, hsl⟩ := hstep O hg2 _ _ how hn hfb
     have : setH H2 k' (some ⟨ver', cs'⟩) = H2 := by
      rw [hc1]
      apply setH_id
      rw [hk2 _ b1]
      have : blk = ⟨ver', []⟩ := by rw [← hc0, ← b2]
      rw [this]
     rw [this] at hK
     exact hK v w' _ μ2 fp2 G2 O2 C2 hsl
    | some b =>
     have hMb := hMb b hm
     have hblt := O.lt b hMb
     rw [hm] at hl' hbl hkept
     obtain ⟨cc, ee, ws, hh, hce, hlie⟩ := hbl
     obtain ⟨_, c2, e2, us', hh2, hfr', hlie'⟩ := hl'
     let w2 : World := { w' with heap := w'.heap.setIfInBounds b (.cells cc ee (0, 0)) }
     have hs2 : w2.heap.size = w'.heap.size := Array.size_setIfInBounds
     have h2o : ∀ i, i ≠ b → w2.heap[i]? = w'.heap[i]? := fun i hi => Array.getElem?_setIfInBounds_ne (fun h => hi h.symm)
     have h2b : w2.heap[b]? = some (.cells cc ee (0, 0)) := Array.getElem?_setIfInBounds_self_of_lt (Nat.lt_of_lt_of_le hblt hkept.size)
     have hg2 : Grew w w2 := ⟨hkept.os, hkept.tape, hkept.output, by rw [hs2]; exact hkept.size, fun i hi _ => by
      by_cases hib : i = b
      ·rw [hib, h2b, hh]
      ·rw [h2o i hib]; exact hkept.block i hi (fun e => hib (Option.some.inj e).symm), hkept.drawn⟩
     have hMf : ∀ x ∈ fpn, x ≠ b := fun x hx e => by have := (hfb x hx).1; omega
     have hsame : Same w' w2 (fun x => M x ∨ x ∈ fpn) := ⟨fun x o u hx hc => by
      have hxb : x ≠ b := fun e => hx (.inl (by rw [e]; exact hMb))
      have : w2.cell? ⟨x, o, none⟩ = w'.cell? ⟨x, o, none⟩ := World.cell?_of_block (w := w') (a := ⟨x, o, none⟩) (h2o x hxb)
      rw [this]; exact hc, by rw [hs2]; exact Nat.le_refl _⟩
     have how2 := Ow.same hsame (M' := fun x => M x ∨ x ∈ fpn) (fun x h => .inl h) (fun x hx => h2o x (hMf x hx)) how
     obtain ⟨μ2, fp2, G2, O2, C2, hμ2, hsl⟩ := hstep O hg2 _ _ how2 hn (fun x hx => by rw [hs2]; exact hfb x hx)
     have b1' : H2[k']? = some (some blk) := hk2 _ b1
     obtain ⟨μ3, fp3, G3, O3, C3⟩ := after_lent O2 b1' (by rw [hμ2]; exact hm) (cs' := cs') (us' := us') (w' := w') rfl rfl rfl (by rw [hs2]; exact Nat.le_refl _) (Nat.le_refl _) (fun x hx => by rw [← hs2]; exact O2.lt x hx)
      (fun i hi hib => (h2o i hib).symm) (fun c0 e0 h0 => by
       rw [h2b] at h0
       exact hshape b hm c0 e0 (hh.trans h0)) hfr' hlie'
     rw [b2] at O3 C3
     exact hK v w' _ _ fp3 G3 O3 (C2.trans C3) (Sl.carry C3 hsl)
   ·cases h
  ·cases h
 ·cases h
theorem callST_E (τ : Tau) {ops : Array Oper} {j : Nat} {st : St} (d k ver : Nat) {g : FuncId} {pre post : List V} {s n : Nat} {cs : List V} {out x : V} {bs : List Blk} {cs' : List V} (hok : OKs P g pre s n cs post out cs') (hz1 : frzL pre = true) (hz2 : frzL post = true)
  (h : calS τ ops j st = some ⟨d, g, pre, k, ver, s, n, cs, post⟩) (hth : thaw st.H.length out = (x, bs)) : CoreE P Γ ops j st (some d) (setH (st.H ++ bs.map some) k (some ⟨ver, cs'⟩)) x := by
 have hkl : ∀ bk, st.H[k]? = some bk → (st.H ++ bs.map some)[k]? = some bk := fun bk h => by rw [List.getElem?_append_left (List.getElem?_eq_some_iff.1 h).1]; exact h
 have hk1 : ∃ blk, st.H[k]? = some (some blk) := by
  unfold calS at h
  split at h
  ·split at h
   ·split at h
    ·rename_i blk hb
     simp only [Option.some.injEq, CallS.mk.injEq] at h
     obtain ⟨rfl, rfl, rfl, rfl, rfl, rfl, rfl, rfl, rfl⟩ := h
     exact ⟨blk, (blkAt_spec hb).1⟩
    ·cases h
   ·cases h
  ·cases h
 obtain ⟨blk, b1⟩ := hk1
 refine callS_core τ d k ver hok hz1 hz2 h _ hkl fun O hg v fpn how hn hb => ?_
 have := after_thaw O hg how hn hb
 rw [hth] at this
 obtain ⟨μ', fp', G', O', C, hs⟩ := this
 refine ⟨μ', fp', G', O', C, ?_, hs⟩
 obtain ⟨blk0, q1, _, q2⟩ := C.keys k blk (List.getElem?_eq_some_iff.1 b1).1 (hkl _ b1)
 rw [b1] at q1
 cases q1
 exact (q2 rfl).1
end
end Go.D
