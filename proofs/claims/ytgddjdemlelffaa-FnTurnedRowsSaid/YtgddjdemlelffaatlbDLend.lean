import Derived.Test.YtgddjdemlelffaatlbDByte
set_option linter.unusedVariables false
namespace Go.D
def OKb (P : Program) (f : FuncId) (cs ins : List V) (out : V) (cs' : List V) : Prop :=
 Callable P f ∧ cs.all frozenV = true ∧ cs'.all frozenV = true ∧ ∀ (w : World) (vs : List Value) (M : Nat → Prop) (b : Nat) (c : Array Value) (e : TypeId) (us : List Value), (∀ x, M x → x < w.heap.size) → M b → w.heap[b]? = some (.cells c e (0, 0)) →
  FrL w M cs us → Lies w b 0 us → FrL w M ins vs →
  Calls P f (Value.pointer (some ⟨b, 0, none⟩) :: vs).toArray w fun ee w' => ∃ v fp us', ee = .returned v ∧ Kept (fun x => x = b) w w' ∧ Shape w w' b ∧ Ow w' (fun x => M x ∨ x ∈ fp) out v fp ∧ fp.Nodup ∧
   (∀ x ∈ fp, w.heap.size ≤ x ∧ x < w'.heap.size) ∧ FrL w' (fun x => M x ∨ x ∈ fp) cs' us' ∧ Lies w' b 0 us'
section
variable {P : Program} {Γ : Ctx} {τ : Tau}
theorem FrL.ceL {w : World} {M : Nat → Prop} {H : Hp} {μ : Nat → Option Nat} {xs : List V} {us : List Value} (h : FrL w M xs us) : CeL w M H μ xs us [] := h.sl.ceL
theorem CeL.frL {w : World} {M : Nat → Prop} {H : Hp} {μ : Nat → Option Nat} : ∀ {xs : List V} {us : List Value} {fp : List Nat}, CeL w M H μ xs us fp → xs.all frozenV = true → FrL w M xs us ∧ fp = []
 | [], us, fp, h, _ => by simp only [CeL] at h; simp only [FrL]; exact h
 | c :: cs, us, fp, h, hb => by
  simp only [List.all_cons, Bool.and_eq_true] at hb
  simp only [CeL] at h
  obtain ⟨u, us', f, f', rfl, rfl, h1, h2⟩ := h
  obtain ⟨g1, rfl⟩ := CeL.frL h2 hb.2
  simp only [FrL]
  have key : Fr w M c u ∧ f = [] := by
   rcases h1 with h1 | ⟨rfl, h1⟩
   ·cases c <;> simp_all [frozenV, Ow, Fr]
   ·refine ⟨?_, rfl⟩
    cases c <;> simp_all [frozenV, Sl, Fr]
  obtain ⟨k1, rfl⟩ := key
  exact ⟨⟨u, us', rfl, k1, g1⟩, rfl⟩
def QretB (τ : Tau) (fn : Func) (out : V) (cs' : List V) : Exit → St → Prop := fun e st =>
 (e = .normal ∨ e = .ret) ∧ ∃ x ks v, resV τ st fn.results.toList = some x ∧ OutP st.H x out ks ∧ ks.Nodup ∧ 0 ∉ ks ∧ blkAt st.H 0 v = some ⟨v, cs'⟩
theorem OKb_of_pwp (hT : TOK P τ) {f : FuncId} {fn : Func} {c : Code} {cs ins : List V} {out : V} {cs' : List V} (hf : P.funcs[f]? = some fn) (hb : fn.body = some c) (hnm : (fn.name == "runtime.NumGoroutine") = false)
  (hn : Nat.blt ins.length fn.ntmps = true) (hz : cs.all frozenV = true) (hz' : cs'.all frozenV = true)
  (h : ∀ Γ : Ctx, (∀ i b, Γ.L i b → i < 1) → pwp P Γ c (QretB τ fn out cs') ⟨fn.ntmps, (0, .ptr 0 0 0) :: numbered 1 ins, [some ⟨0, cs⟩]⟩) : OKb P f cs ins out cs' := by
 refine ⟨⟨fn, hf, hnm, by rw [hb]; rfl⟩, hz, hz', fun w vs M b cc ee us hM hMb hh hcs hlie hv => ?_⟩
 let Γ : Ctx := ⟨w, fun x => M x ∧ x ≠ b, fun x => x = b, fun i x => i = 0 ∧ x = b⟩
 have hlen := hv.length
 have hle : ins.length < fn.ntmps := Nat.le_of_ble_eq_true hn
 have hbl := hM b hMb
 refine calls_of_wp hf hb ?_
 have hsl0 : Sl w M [some ⟨0, cs⟩] (fun k => if k = 0 then some b else none) (.ptr 0 0 0) (.pointer (some ⟨b, 0, none⟩)) := by
  simp only [Sl]
  refine ⟨by simp, ⟨_, rfl⟩, fun blk hb' => ?_⟩
  simp at hb'
  subst hb'
  exact ⟨Nat.le_refl _, fun _ => ⟨b, by simp, rfl⟩⟩
 have hR : R Γ ⟨fn.ntmps, (0, .ptr 0 0 0) :: numbered 1 ins, [some ⟨0, cs⟩]⟩ { tmps := (Value.pointer (some ⟨b, 0, none⟩) :: vs).toArray ++ Array.replicate (fn.ntmps - (Value.pointer (some ⟨b, 0, none⟩) :: vs).toArray.size) undef, defers := [] } w := by
  refine ⟨rfl, by simp; omega, M, fun k => if k = 0 then some b else none, fun _ => [], fun x => if x = b then some 0 else none, ?_, ?_⟩
  ·refine ⟨fun k blk hk => ?_, fun k blk hk => ?_, fun x hx => ?_, fun x hx => hx.1, hM, fun x hx => ?_, fun x hx => ?_, Kept.refl _ w, fun i x hx => ?_⟩
   ·cases k with
    | zero =>
     simp at hk
     subst hk
     simp only [if_true, BlkR]
     exact ⟨cc, ee, us, hh, hcs.ceL, hlie⟩
    | succ k => simp at hk
   ·cases k with
    | zero =>
     simp only [if_true]
     exact ⟨fun x hx => by cases hx; simp, fun x hx => by simp at hx, List.nodup_nil⟩
    | succ k => simp at hk
   ·by_cases hxb : x = b
    ·rw [hxb]; exact hMb
    ·simp [hxb] at hx
   ·by_cases hxb : x = b
    ·exact .inl hxb
    ·simp [hxb] at hx
   ·by_cases hxb : x = b
    ·exact fun h => h.2 hxb
    ·simp [hxb] at hx
   ·obtain ⟨rfl, this⟩ := hx
    subst this
    exact ⟨by simp, ⟨_, rfl⟩, .of_eq rfl⟩
  ·intro s x hx
   simp only [List.mem_cons, Prod.mk.injEq] at hx
   rcases hx with ⟨rfl, rfl⟩ | hx
   ·exact ⟨_, by rw [← Array.getElem?_toList]; simp, hsl0⟩
   ·have := numbered_sound (H := [some ⟨0, cs⟩]) (μ := fun k => if k = 0 then some b else none) hv.sl [Value.pointer (some ⟨b, 0, none⟩)] (List.replicate (fn.ntmps - (Value.pointer (some ⟨b, 0, none⟩) :: vs).toArray.size) undef) s x hx
    obtain ⟨u, hu, hs⟩ := this
    refine ⟨u, ?_, hs⟩
    rw [← Array.getElem?_toList]
    simpa using hu
 refine wp_mono (h Γ (fun i b hb => by have := hb.1; omega) _ _ hR) fun e a' w' q => ?_
 obtain ⟨st', ⟨he, x, ks, vv, hx, ho, hk, hk0, hbk⟩, hd, hsz, M', μ, fp, G, O, hS⟩ := q
 obtain ⟨v, hv1, hv2⟩ := resV_sound (P := P) hT O hS hx
 have how := OutP.sound O ho hv2
 obtain ⟨hnd, hg⟩ := O.keys_nodup ks hk ho.live
 obtain ⟨b1, _⟩ := blkAt_spec hbk
 obtain ⟨p1, _, p3⟩ := O.pin 0 b ⟨rfl, rfl⟩
 have hG := ((O.mine 0 _ b1).1 b p1).1
 have hsub : ∀ x, M x → M' x := fun x hx => by
  by_cases hxb : x = b
  ·rw [hxb]; exact O.sub b (by rw [hG]; simp)
  ·exact O.m0 x ⟨hx, hxb⟩
 have hbl0 := O.blk 0 _ b1
 rw [p1] at hbl0
 obtain ⟨c', e', us', hh', hce', hlie'⟩ := hbl0
 have hfr := (hce'.frL hz').1
 have key : ∃ v', (results fn a'.tmps).run P w' = .ok v' w' ∧ ∃ v fp' us', Ending.returned v' = .returned v ∧ Kept (fun x => x = b) w w' ∧ Shape w w' b ∧ Ow w' (fun x => M x ∨ x ∈ fp') out v fp' ∧ fp'.Nodup ∧ (∀ x ∈ fp', w.heap.size ≤ x ∧ x < w'.heap.size) ∧
   FrL w' (fun x => M x ∨ x ∈ fp') cs' us' ∧ Lies w' b 0 us' := by
  have hsub2 : ∀ x, (M x ∨ x ∈ ks.flatMap fun k => (μ k).toList ++ fp k) → M' x := fun x hx => by
   rcases hx with hx | hx
   ·exact hsub x hx
   ·obtain ⟨k, _, hgk⟩ := hg x hx
    exact O.sub x (by rw [hgk]; simp)
  refine ⟨v, hv1, v, _, us', rfl, O.kept, p3, how.less fun x hx => ?_, hnd, fun x hx => ?_, FrL.same (Same.refl w' M') (fun y hy => .inl (hsub2 y hy)) hfr, hlie'⟩
  ·rcases hx with hx | hx
   ·exact hsub x hx
   ·obtain ⟨k, _, hgk⟩ := hg x hx
    exact O.sub x (by rw [hgk]; simp)
  ·obtain ⟨k, hkk, hgk⟩ := hg x hx
   have hne : G x ≠ none := by rw [hgk]; simp
   refine ⟨(O.new x hne).resolve_left (fun hxb => ?_), O.lt x (O.sub x hne)⟩
   have hxb' : x = b := hxb
   rw [hxb', hG] at hgk
   cases hgk
   exact hk0 hkk
 rcases he with rfl | rfl
 ·exact ⟨hd, key⟩
 ·exact ⟨hd, key⟩
def YldE (P : Program) (Γ : Ctx) (o : Oper) (st : St) (H' : Hp) (x : V) : Prop :=
 ∀ (a : Act) (w : World) (M : Nat → Prop) (μ : Nat → Option Nat) (fp : Nat → List Nat) (G : Nat → Option Nat), Own Γ M st.H w μ fp G → Slots st a w M μ →
  ∀ (K : Act → World → Prop) (Qc : Exit → Act → World → Prop), (∀ u w' M' μ' fp' G', Own Γ M' H' w' μ' fp' G' → Carry w M st.H μ w' M' H' μ' → Sl w' M' H' μ' x u → K (a.put o.dst u) w') → o.wp P a w K Qc
theorem YldE.opP {o : Oper} {K : St → Prop} {st : St} {H' : Hp} {x : V} (h : YldE P Γ o st H' x) (hd : ∀ d, o.dst = some d → d < st.nt) (hk : K ({ st with H := H' }.put o.dst x)) : opP P Γ o K st := by
 intro a w r Qc
 obtain ⟨h1, h2, M, μ, fp, G, O, hT⟩ := r
 exact h a w M μ fp G O hT _ Qc fun u w' M' μ' fp' G' O' C hs => ⟨_, hk, R.step (H' := H') h1 h2 hT C O' hd fun _ => hs⟩
structure CallB where
 d : Nat
 g : FuncId
 k : Nat
 ver : Nat
 cs : List V
 xs : List V
def calV (τ : Tau) (ops : Array Oper) (j : Nat) (st : St) : Option CallB :=
 match opAt ops st j with
 | some o => match o.op, dstOf st o with
  | .call c, some d => match c.callee with
   | .value y => match evalV st y, evalArgs τ st c.args.toList c.argTypes.toList with
    | some (.fn g caps), some (.ptr k ver 0 :: xs) => match blkAt st.H k ver with
     | some blk => some ⟨d, g, k, ver, blk.cells, xs.map soft ++ caps⟩
     | none => none
    | _, _ => none
   | _ => none
  | _, _ => none
 | none => none
theorem calV_sound {ops : Array Oper} {j : Nat} {st : St} {d : Nat} {g : FuncId} {k ver : Nat} {cs xs : List V} {out x : V} {cs' : List V} (h : calV τ ops j st = some ⟨d, g, k, ver, cs, xs⟩) (hz : frzL xs = true)
  (hok : OKb P g cs xs out cs') (hf : FzTo out x) : ∃ o, AtOp ops st j o ∧ o.dst = some d ∧ d < st.nt ∧ YldE P Γ o st (setH st.H k (some ⟨ver, cs'⟩)) x := by
 unfold calV at h
 split at h
 ·rename_i o ho
  split at h
  ·rename_i c d' hop hd
   split at h
   ·rename_i y hc
    split at h
    ·rename_i g' caps k' ver' xs' hy ha
     split at h
     ·rename_i blk hb
      simp only [Option.some.injEq, CallB.mk.injEq] at h
      obtain ⟨rfl, rfl, rfl, rfl, rfl, rfl⟩ := h
      have hd' := dstOf_spec hd
      refine ⟨o, opAt_spec ho, hd'.1, hd'.2, fun a w M μ fp G O hS K Qc hK => ?_⟩
      obtain ⟨us, hu, hus⟩ := fn_value hS hy
      have hargs := evalArgs_sound hS ha
      obtain ⟨hcall, hzc, hzc', hok⟩ := hok
      cases hal : c.args.toList with
      | nil => rw [hal] at hargs; simp [SlL] at hargs
      | cons a0 ar =>
       rw [hal] at hargs
       simp only [List.map_cons, SlL, List.cons.injEq] at hargs
       obtain ⟨u0, us0, ⟨hu0, hus0⟩, hp, hrest⟩ := hargs
       subst hu0 hus0
       obtain ⟨b1, b2⟩ := blkAt_spec hb
       obtain ⟨b, hm, hptr⟩ := Sl.ptr_at hp hb
       have hbl := O.blk k' blk b1
       rw [hm] at hbl
       obtain ⟨cc, ee, ws, hh, hce, hlie⟩ := hbl
       obtain ⟨hfr, _⟩ := hce.frL hzc
       have hG := ((O.mine k' blk b1).1 b hm).1
       have hMb : M b := O.sub b (by rw [hG]; simp)
       have hin := ((soft_slL hrest).append hus).fr hz
       refine wp_call hop hc hu hcall (Calls.mono ?_ fun e w' he => he)
       have := hok w _ M b cc ee ws O.lt hMb hh hfr hlie hin
       have e1 : c.args.map a.eval ++ us.toArray = (Value.pointer (some ⟨b, 0, none⟩) :: (ar.map a.eval ++ us)).toArray := by
        apply Array.toList_inj.1
        simp [hal, hptr]
       rw [e1]
       refine Calls.mono this fun e w' he => ?_
       obtain ⟨v, fpn, us', rfl, hkept, hshape, how, hn, hfb, hfr', hlie'⟩ := he
       replace hfr' : FrL w' M cs' us' := FrL.same (Same.refl w' _) (fun y hy => .inl (.inl hy)) hfr'
       refine ⟨v, rfl, ?_⟩
       have hkl : k' < st.H.length := (List.getElem?_eq_some_iff.1 b1).1
       obtain ⟨c2, e2, hh2, hc2⟩ := hshape cc ee hh
       have := O.turn (M' := M) (w' := w') k' (Nat.le_of_lt hkl) (some ⟨ver', cs'⟩) (some b) [] hkept.os hkept.tape hkept.output hkept.size hkept.drawn
        (fun i hi hg => hkept.block i hi fun hib => hg (by rw [hib]; exact hG)) (fun x h => .inl h) (fun x h _ => h) (fun _ x hx => by simp at hx; rw [hx]; exact hMb) (fun x h => Nat.lt_of_lt_of_le (O.lt x h) hkept.size)
        (fun _ x hx => by simp at hx; rw [hx]; exact .inl hG) (fun _ => by simp)
        (fun blk' hblk' _ => by cases hblk'; exact ⟨blk, b1, by simp only []; omega, fun _ => ⟨hm.symm, fun b' hb' => by rw [hm] at hb'; cases hb'; exact hshape⟩⟩)
        (fun blk' hblk' C => by cases hblk'; exact ⟨c2, e2, us', hh2, hfr'.ceL, hlie'⟩)
        (fun i' b' hb' hk => ⟨by rw [← hk]; exact hm.symm, by simp, by
         have p1 := (O.pin i' b' hb').1
         rw [← hk, hm] at p1
         cases p1
         exact hshape⟩)
       obtain ⟨fp', G', O', C, _⟩ := this
       have hMf : ∀ x ∈ fpn, ¬ M x := fun x hx hM => by have := O.lt x hM; have := (hfb x hx).1; omega
       exact hK v w' M _ fp' G' O' C (hf w' M _ v fpn how (fun x h => .inl h) hMf).sl
     ·cases h
    ·cases h
   ·cases h
  ·cases h
 ·cases h
theorem opsP_callB (τ : Tau) {ops : Array Oper} {Q : Exit → St → Prop} {j : Nat} {st : St} (d k ver : Nat) {g : FuncId} {cs xs : List V} {out x : V} {cs' : List V} (hok : OKb P g cs xs out cs') (hf : FzTo out x) (hz : frzL xs = true) (h : calV τ ops j st = some ⟨d, g, k, ver, cs, xs⟩)
  (hk : opsP P Γ ops Q (j + 1) ({ st with H := setH st.H k (some ⟨ver, cs'⟩) }.set d x)) : opsP P Γ ops Q j st := by
 obtain ⟨o, h1, h2, h3, h4⟩ := calV_sound (Γ := Γ) h hz hok hf
 refine opsP_op h1.op h1.wanted (h4.opP (fun d' hd' => by rw [h2] at hd'; cases hd'; exact h3) ?_)
 rw [h2]; exact hk
end
end Go.D
