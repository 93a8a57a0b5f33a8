import Derived.Test.YtpkclpjdpanekaaGreatBatDDeep5
set_option linter.unusedVariables false
namespace Go.D
structure IdpR where
  d : Nat
  k : Nat
  ver : Nat
  s : Nat
  n : Nat
  i : Int
  off : Nat
def idpV (τ : Tau) (ops : Array Oper) (j : Nat) (st : St) : Option IdpR :=
  match opAt ops st j with
  | some o => match o.op, dstOf st o with
    | .indexAddr t x ix, some d => match sliceOf τ t, evalV st x, evalV st ix with
      | some (_, ti), some (.ref k ver off s n _), some (.lit (.int _ i)) => bif Nat.beq ti.size s && (blkAt st.H k ver).isSome then some ⟨d, k, ver, s, n, i, off⟩ else none
      | _, _, _ => none
    | _, _ => none
  | none => none
section
variable {P : Program} {Γ : Ctx} {τ : Tau} {α : Type} [Enc α]
omit [Enc α] in
theorem getI_part {xs ys : List α} {lo i : Int} {h m : Option Int} {x : α} (hs : slI xs (some lo) h m = some ys) (hx : getI ys i = some x) : getI xs (((lo.toNat + i.toNat : Nat)) : Int) = some x := by
  obtain ⟨h0, h1, h2⟩ := getI_spec hx
  unfold slI at hs
  split at hs
  · have hs := Option.some.inj hs
    subst hs
    rw [Option.getD_some] at h2
    have : ((xs.drop lo.toNat).take ((h.getD xs.length).toNat - lo.toNat))[i.toNat]? = some x := h2
    rw [List.getElem?_take] at this
    split at this
    · rw [List.getElem?_drop] at this
      unfold getI
      rw [if_pos (by omega), Int.toNat_natCast]
      exact this
    · cases this
  · cases hs
theorem idpV_sound (hT : TOK P τ) {ops : Array Oper} {j : Nat} {st : St} {d k ver : Nat} {n : Nat} {ys : List α} {i : Int} {x : α} {lo : Int} (h : idpV τ ops j st = some ⟨d, k, ver, Enc.sz α, n, i, lo.toNat * Enc.sz α⟩) (hx : getI ys i = some x) (hn : ys.length = n) :
    ∃ o, AtOp ops st j o ∧ o.dst = some d ∧ d < st.nt ∧ Yld P Γ o st (.ptr k ver ((((lo.toNat + i.toNat : Nat)) : Int).toNat * Enc.sz α)) := by
  unfold idpV at h
  split at h
  · rename_i o ho
    split at h
    · rename_i t y ix d' hop hd
      split at h
      · rename_i e ti k' ver' off s n' full ki i' hs hy hi
        cases hb : (Nat.beq ti.size s && (blkAt st.H k' ver').isSome) with
        | false => rw [hb] at h; cases h
        | true =>
          rw [hb, cond_true] at h
          simp only [Option.some.injEq, IdpR.mk.injEq] at h
          obtain ⟨rfl, rfl, rfl, rfl, rfl, rfl, rfl⟩ := h
          simp only [Bool.and_eq_true] at hb
          obtain ⟨blk, hblk⟩ := Option.isSome_iff_exists.1 hb.2
          obtain ⟨h0, h1, h2⟩ := getI_spec hx
          have hd' := dstOf_spec hd
          have := yld_index_ref (Γ := Γ) hT hop hs hy hblk (Nat.eq_of_beq_eq_true hb.1) hi h0 (by omega)
          rw [Int.toNat_natCast, Nat.add_mul]
          exact ⟨o, opAt_spec ho, hd'.1, hd'.2, this⟩
      · cases h
    · cases h
  · cases h
theorem opsP_idp (hT : TOK P τ) {ops : Array Oper} {Q : Exit → St → Prop} {j : Nat} {st : St} (d k ver n : Nat) {ys : List α} {i : Int} {x : α} (lo : Int) (hx : getI ys i = some x) (hn : ys.length = n) (h : idpV τ ops j st = some ⟨d, k, ver, Enc.sz α, n, i, lo.toNat * Enc.sz α⟩)
    (hk : opsP P Γ ops Q (j + 1) (st.set d (.ptr k ver ((((lo.toNat + i.toNat : Nat)) : Int).toNat * Enc.sz α)))) : opsP P Γ ops Q j st := opsP_yld (yldG_of (idpV_sound hT h hx hn)) hk
theorem callMF_E (τ : Tau) {ops : Array Oper} {j : Nat} {st : St} (d : Nat) (ks : List Nat) (hpin : ∀ b, Γ.L b → 0 ∉ ks) {g : FuncId} {xs ins : List V} {out x : V} (hok : OKm P g ins out) (hf : FzTo out x) (h : callV τ ops j st = some (d, g, xs)) (hm : OutL st.H xs ins ks) (hn : ks.Nodup) :
    CoreE P Γ ops j st (some d) (dropH st.H ks) x := by
  obtain ⟨o, c, y, as, caps, hc⟩ := callV_spec h
  refine ⟨o, hc.at_, hc.dst, (fun d e => by cases e; exact hc.lt), fun a w M μ fp G O' hS K Qc hK => ?_⟩
  obtain ⟨us, hu, hus⟩ := fn_value hS hc.fn
  have ha := (soft_slL (evalArgs_sound hS hc.args)).append hus
  rw [← hc.all] at ha
  have how := OutL.sound O' hm ha
  obtain ⟨hnd, hg⟩ := O'.keys_nodup ks hn hm.live2
  generalize hfpi : (ks.flatMap fun k => (μ k).toList ++ fp k) = fpi at *
  refine wp_call hc.op hc.callee hu hok.1 (Calls.mono ?_ fun e w' he => he)
  have := hok.2 w _ M fpi O'.lt how hnd (fun b hb => by obtain ⟨k, _, hgk⟩ := hg b hb; exact O'.sub b (by rw [hgk]; simp))
  have e1 : c.args.map a.eval ++ us.toArray = (c.args.toList.map a.eval ++ us).toArray := by apply Array.toList_inj.1; simp
  rw [e1]
  refine Calls.mono this fun e w' he => ?_
  obtain ⟨v, fpn, rfl, hkept, how', hn', hb⟩ := he
  refine ⟨v, rfl, ?_⟩
  obtain ⟨O1, C1⟩ := O'.dropKeys ks hpin
  obtain ⟨μ2, fp2, G2, O2, C2, hs2⟩ := after_thawM (out := .lit v) (v := v) (fpn := []) O1 hkept (fun b hb => by
    obtain ⟨k, hkk, hgk⟩ := hg b hb
    have hne : G b ≠ none := by rw [hgk]; simp
    refine ⟨O'.sub b hne, by simp only [hgk, if_pos hkk], O'.apart b hne, ?_⟩
    exact O'.new b hne) (by simp [Ow]) List.nodup_nil (fun b hb => by cases hb)
  simp only [thaw, List.map_nil, List.append_nil] at O2 C2
  refine hK v w' _ μ2 fp2 G2 O2 (C1.trans C2) (hf w' _ _ v fpn how' (fun b hb => ?_) fun b hbn hM => ?_).sl
  · rcases hb with hb | hb
    · exact .inl hb
    · cases hb
  · rcases hM with hM | hM
    · rcases (hb b hbn).1 with h1 | h1
      · exact hM.2 h1
      · have := O'.lt b hM.1
        omega
    · cases hM
end
end Go.D
