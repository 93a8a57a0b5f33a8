import Derived.Test.YtamegkbinbplaaatlbDDeep3
set_option linter.unusedVariables false
namespace Go.D
theorem condS {α : Type} {c : Bool} {a b : Option α} {y : α} (h : (bif c then a else b) = some y) : a = some y ∨ b = some y := by
 cases c
 ·exact .inr h
 ·exact .inl h
def DeepR (w : World) (m : Option Nat) (cs : List V) (fp : List Nat) : Prop :=
 (∀ x ∈ fp, x < w.heap.size) ∧ match m with
 | some b => b ∉ fp ∧ fp.Nodup ∧ ∃ c e us, w.heap[b]? = some (.cells c e (0, 0)) ∧ OwL w (fun _ => False) cs us fp ∧ Lies w b 0 us
 | none => cs = [] ∧ fp = []
def OKd (P : Program) (f : FuncId) (s n : Nat) (cs post : List V) (u : Value) (cs' : List V) : Prop :=
 Callable P f ∧ cs.all ownC = true ∧ cs'.all ownC = true ∧ BlindL cs ∧ BlindL cs' ∧ post.all litV = true ∧ ∀ (w : World) (vs2 : List Value) (v0 : Value) (m : Option Nat) (fp : List Nat), RefR w m 0 s n false v0 → DeepR w m cs fp → FrL w (fun _ => True) post vs2 →
  Calls P f (v0 :: vs2).toArray w fun ee w' => ∃ fp', ee = .returned u ∧ Kept (fun x => m = some x ∨ x ∈ fp) w w' ∧ (∀ b, m = some b → Shape w w' b) ∧ DeepR w' m cs' fp' ∧ ∀ x ∈ fp', x ∈ fp ∨ w.heap.size ≤ x
section
variable {P : Program} {Γ : Ctx} {τ : Tau}
theorem FrL.lits {w : World} {M M' : Nat → Prop} : ∀ {xs : List V} {us : List Value}, FrL w M xs us → xs.all litV = true → FrL w M' xs us
 | [], us, h, _ => by simpa only [FrL] using h
 | c :: cs, us, h, hb => by
  simp only [List.all_cons, Bool.and_eq_true] at hb
  simp only [FrL] at h ⊢
  obtain ⟨u, us', rfl, h1, h2⟩ := h
  refine ⟨u, us', rfl, ?_, FrL.lits h2 hb.2⟩
  have hb1 := hb.1
  cases c with
  | lit v => simpa only [Fr] using h1
  | _ => simp [litV] at hb1
def QretD (τ : Tau) (fn : Func) (u : Value) (cs' : List V) : Exit → St → Prop := fun e st =>
 (e = .normal ∨ e = .ret) ∧ ∃ vv, resV τ st fn.results.toList = some (.lit u) ∧ blkAt st.H 0 vv = some ⟨vv, cs'⟩
theorem OKd_of_pwp (hT : TOK P τ) {f : FuncId} {fn : Func} {c : Code} {s n : Nat} {cs post : List V} {u : Value} {cs' : List V} (hf : P.funcs[f]? = some fn) (hb : fn.body = some c) (hnm : (fn.name == "runtime.NumGoroutine") = false)
  (hn : Nat.blt post.length fn.ntmps = true) (ho : cs.all ownC = true) (ho' : cs'.all ownC = true) (hbl : BlindL cs) (hbl' : BlindL cs') (hp : post.all litV = true) (hcl : cs.length = 0 → cs'.length = 0)
  (h : ∀ Γ : Ctx, (∀ i b, Γ.L i b → i < 1) → pwp P Γ c (QretD τ fn u cs') ⟨fn.ntmps, numbered 0 (.ref 0 0 0 s n false :: post), [some ⟨0, cs⟩]⟩) : OKd P f s n cs post u cs' := by
 classical
 refine ⟨⟨fn, hf, hnm, by rw [hb]; rfl⟩, ho, ho', hbl, hbl', hp, fun w vs2 v0 m fp hr hl hv2 => ?_⟩
 obtain ⟨hlt, hl⟩ := hl
 let Γ : Ctx := ⟨w, fun _ => False, fun x => m = some x ∨ x ∈ fp, fun i x => i = 0 ∧ m = some x⟩
 let M : Nat → Prop := fun x => m = some x ∨ x ∈ fp
 have hlen2 := hv2.length
 have hle : post.length < fn.ntmps := Nat.le_of_ble_eq_true hn
 refine calls_of_wp hf hb ?_
 let μ0 : Nat → Option Nat := fun k => if k = 0 then m else none
 have hsl0 : Sl w M [some ⟨0, cs⟩] μ0 (.ref 0 0 0 s n false) v0 := by
  simp only [Sl]
  refine ⟨by simp, hr.isSlice, fun blk hb' => ?_⟩
  simp at hb'
  subst hb'
  exact ⟨Nat.le_refl _, fun _ => by simpa [μ0] using hr⟩
 have hMlt : ∀ b, M b → b < w.heap.size := fun b hb => by
  rcases hb with hb | hb
  ·subst hb
   obtain ⟨_, _, c, e, us, hh, _⟩ := hl
   exact (Array.getElem?_eq_some_iff.1 hh).1
  ·exact hlt b hb
 have hsl : SlL w M [some ⟨0, cs⟩] μ0 (.ref 0 0 0 s n false :: post) (v0 :: vs2) := by
  simp only [SlL]
  exact ⟨v0, vs2, rfl, hsl0, (hv2.lits hp).sl⟩
 have hR : R Γ ⟨fn.ntmps, numbered 0 (.ref 0 0 0 s n false :: post), [some ⟨0, cs⟩]⟩ { tmps := (v0 :: vs2).toArray ++ Array.replicate (fn.ntmps - (v0 :: vs2).toArray.size) undef, defers := [] } w := by
  refine ⟨rfl, by simp; omega, M, μ0, fun k => if k = 0 then fp else [], fun x => if m = some x ∨ x ∈ fp then some 0 else none, ?_, ?_⟩
  ·refine ⟨fun k blk hk => ?_, fun k blk hk => ?_, fun x hx => ?_, fun x hx => hx.elim, hMlt, fun x hx => ?_, fun x hx => fun h => h, Kept.refl _ w, fun i x hx => ?_⟩
   ·cases k with
    | zero =>
     simp at hk
     subst hk
     simp only [μ0, if_true]
     cases m with
     | none => exact hl.1
     | some b =>
      obtain ⟨_, _, c, e, us, hh, hfr, hlie⟩ := hl
      exact ⟨c, e, us, hh, (hbl _ _ M _ _ hfr).ceL, hlie⟩
    | succ k => simp at hk
   ·cases k with
    | zero =>
     simp only [μ0, if_true]
     cases m with
     | none => rw [hl.2]; exact ⟨fun x hx => (by cases hx), fun x hx => (by cases hx), List.nodup_nil⟩
     | some b =>
      refine ⟨fun x hx => ⟨by rw [if_pos (.inl hx)], ?_⟩, fun x hx => by rw [if_pos (.inr hx)], hl.2.1⟩
      cases hx
      exact hl.1
    | succ k => simp at hk
   ·by_cases hxb : m = some x ∨ x ∈ fp
    ·exact hxb
    ·simp [hxb] at hx
   ·by_cases hxb : m = some x ∨ x ∈ fp
    ·exact .inl hxb
    ·simp [hxb] at hx
   ·obtain ⟨rfl, hx⟩ := hx
    exact ⟨by simpa [μ0] using hx, ⟨_, rfl⟩, .of_eq rfl⟩
  ·intro t x hx
   have := numbered_sound hsl [] (List.replicate (fn.ntmps - (v0 :: vs2).toArray.size) undef) t x hx
   obtain ⟨u, hu, hs⟩ := this
   refine ⟨u, ?_, hs⟩
   rw [← Array.getElem?_toList]
   simpa using hu
 refine wp_mono (h Γ (fun i b hb => by have := hb.1; omega) _ _ hR) fun e a' w' q => ?_
 obtain ⟨st', ⟨he, vv, hx, hbk⟩, hd, hsz, M', μ, fp', G, O, hS⟩ := q
 obtain ⟨v, hv1', hv2'⟩ := resV_sound (P := P) hT O hS hx
 simp only [Sl] at hv2'
 subst hv2'
 obtain ⟨b1, _⟩ := blkAt_spec hbk
 obtain ⟨m1, m2, m3⟩ := O.mine 0 _ b1
 have key : ∃ v', (results fn a'.tmps).run P w' = .ok v' w' ∧ ∃ fp', Ending.returned v' = .returned v ∧ Kept (fun x => m = some x ∨ x ∈ fp) w w' ∧ (∀ b, m = some b → Shape w w' b) ∧ DeepR w' m cs' fp' ∧ ∀ x ∈ fp', x ∈ fp ∨ w.heap.size ≤ x := by
  cases m with
  | none =>
   refine ⟨v, hv1', [], rfl, O.kept, fun b hb => (by cases hb), ⟨fun x hx => (by cases hx), ?_, rfl⟩, fun x hx => (by cases hx)⟩
   exact List.length_eq_zero_iff.1 (hcl (by rw [hl.1]; rfl))
  | some b =>
   obtain ⟨p1, _, p3⟩ := O.pin 0 b ⟨rfl, rfl⟩
   have hbl0 := O.blk 0 _ b1
   rw [p1] at hbl0
   obtain ⟨c', e', us', hh', hce', hlie'⟩ := hbl0
   refine ⟨v, hv1', fp' 0, rfl, O.kept, fun b' hb' => (O.pin 0 b' ⟨rfl, hb'⟩).2.2, ⟨fun x hx => O.lt x (O.sub x (by rw [m2 x hx]; simp)), (m1 b p1).2, m3, c', e', us', hh', hbl' _ _ _ _ _ (hce'.owL ho'), hlie'⟩, fun x hx => ?_⟩
   rcases O.new x (by rw [m2 x hx]; simp) with h5 | h5
   ·rcases h5 with h5 | h5
    ·cases h5
     exact absurd hx (m1 _ p1).2
    ·exact .inl h5
   ·exact .inr h5
 rcases he with rfl | rfl
 ·exact ⟨hd, key⟩
 ·exact ⟨hd, key⟩
theorem callD_E (τ : Tau) {ops : Array Oper} {j : Nat} {st : St} (d k ver : Nat) {g : FuncId} {s n : Nat} {cs post : List V} {u : Value} {cs' : List V} (hok : OKd P g s n cs post u cs')
  (h : calS τ ops j st = some ⟨d, g, [], k, ver, s, n, cs, post⟩) : CoreE P Γ ops j st (some d) (setH st.H k (some ⟨ver, cs'⟩)) (.lit u) := by
 unfold calS at h
 split at h
 ·rename_i d' g' zs hcv
  split at h
  ·rename_i pre' k' ver' s' n' post' hsp
   split at h
   ·rename_i blk hb
    simp only [Option.some.injEq, CallS.mk.injEq] at h
    obtain ⟨rfl, rfl, rfl, rfl, rfl, rfl, rfl, rfl, rfl⟩ := h
    obtain ⟨o, c, y, as, caps, hc⟩ := callV_spec hcv
    have hzs := splitRef_spec hsp
    rw [List.nil_append] at hzs
    refine ⟨o, hc.at_, hc.dst, (fun d e => by cases e; exact hc.lt), fun a w M μ fp G O hS K Qc hK => ?_⟩
    obtain ⟨us, hu, hus⟩ := fn_value hS hc.fn
    have ha := (soft_slL (evalArgs_sound hS hc.args)).append hus
    rw [← hc.all, hzs] at ha
    simp only [SlL] at ha
    obtain ⟨v0, vs2, he, hv0, ha2⟩ := ha
    obtain ⟨hcall, hoc, hoc', hbl, hbl', hpl, hok⟩ := hok
    obtain ⟨b1, b2⟩ := blkAt_spec hb
    simp only [Sl] at hv0
    have hr := (hv0.2.2 blk b1).2 b2
    have hbk := O.blk k' blk b1
    obtain ⟨m1, m2, m3⟩ := O.mine k' blk b1
    have hG : ∀ x, μ k' = some x ∨ x ∈ fp k' → G x = some k' := fun x hx => by
     rcases hx with hx | hx
     ·exact (m1 x hx).1
     ·exact m2 x hx
    have hMx : ∀ x, μ k' = some x ∨ x ∈ fp k' → M x := fun x hx => O.sub x (by rw [hG x hx]; simp)
    obtain ⟨fpk, hfpk, hlent⟩ : ∃ fpk, (∀ x ∈ fpk, x ∈ fp k') ∧ DeepR w (μ k') blk.cells fpk := by
     cases hm : μ k' with
     | none => rw [hm] at hbk; exact ⟨[], fun x hx => (by cases hx), fun x hx => (by cases hx), hbk, rfl⟩
     | some b =>
      rw [hm] at hbk
      obtain ⟨cc, ee, ws, hh, hce, hlie⟩ := hbk
      exact ⟨fp k', fun x hx => hx, fun x hx => O.lt x (hMx x (.inr hx)), (m1 b hm).2, m3, cc, ee, ws, hh, hbl _ _ _ _ _ (hce.owL hoc), hlie⟩
    have hfrl : FrL w (fun _ => True) post' vs2 := (ha2.fr (frzL_of_all (by
     refine all_of (fun x hx => ?_) hpl
     cases x <;> simp_all [litV, frozenV]))).lits hpl
    refine wp_call hc.op hc.callee hu hcall (Calls.mono ?_ fun e w' he => he)
    have := hok w vs2 v0 (μ k') fpk hr hlent hfrl
    have e1 : c.args.map a.eval ++ us.toArray = (v0 :: vs2).toArray := by
     apply Array.toList_inj.1
     rw [← he]
     simp
    rw [e1]
    refine Calls.mono this fun e w' he => ?_
    obtain ⟨fpn, rfl, hkept, hshape, ⟨hlt', hl'⟩, hfn⟩ := he
    refine ⟨u, rfl, ?_⟩
    have hkl : k' < st.H.length := (List.getElem?_eq_some_iff.1 b1).1
    have hnd : ((μ k').toList ++ fpn).Nodup := by
     cases hm : μ k' with
     | none => rw [hm] at hl'; rw [hl'.2]; simp
     | some b => rw [hm] at hl'; simpa using ⟨hl'.1, hl'.2.1⟩
    have := O.turn (M' := fun x => M x ∨ x ∈ fpn) (w' := w') k' (Nat.le_of_lt hkl) (some ⟨ver', cs'⟩) (μ k') fpn hkept.os hkept.tape hkept.output hkept.size hkept.drawn
     (fun i hi hg => hkept.block i hi fun hib => hg (hG i (hib.imp id fun h => hfpk i h))) (fun x h => h.elim .inl fun h => (hfn x h).imp (fun h => hMx x (.inr (hfpk x h))) id) (fun x h _ => .inl h)
     (fun _ x hx => by
      rcases List.mem_append.1 hx with hx | hx
      ·exact .inl (hMx x (.inl (by simpa using hx)))
      ·exact .inr hx)
     (fun x h => h.elim (fun h => Nat.lt_of_lt_of_le (O.lt x h) hkept.size) fun h => hlt' x h)
     (fun _ x hx => by
      rcases List.mem_append.1 hx with hx | hx
      ·exact .inl (hG x (.inl (by simpa using hx)))
      ·exact (hfn x hx).imp (fun h => hG x (.inr (hfpk x h))) id) (fun _ => hnd)
     (fun blk' hblk' _ => by cases hblk'; exact ⟨blk, b1, by simp only []; omega, fun _ => ⟨rfl, fun b' hb' => hshape b' hb'⟩⟩)
     (fun blk' hblk' C => by
      cases hblk'
      cases hm : μ k' with
      | none => rw [hm] at hl'; exact hl'.1
      | some b =>
       rw [hm] at hl'
       obtain ⟨_, _, c2, e2, us', hh2, hfr', hlie'⟩ := hl'
       exact ⟨c2, e2, us', hh2, (hbl' _ _ _ _ _ hfr').ceL, hlie'⟩)
     (fun i' b' hb' hk => ⟨by rw [hk], by simp, by
      have p1 := (O.pin i' b' hb').1
      rw [← hk] at p1
      exact hshape b' p1⟩)
    obtain ⟨fp', G', O', C, _⟩ := this
    exact hK u w' _ _ fp' G' O' C (by simp only [Sl])
   ·cases h
  ·cases h
 ·cases h
theorem callVK_E (τ : Tau) {ops : Array Oper} {j : Nat} {st : St} (d k ver : Nat) (hpin : ∀ i b, Γ.L i b → k ≠ i) (hkl : k ≤ st.H.length) (hver : k < st.H.length → ∃ blk, st.H[k]? = some (some blk) ∧ blk.ver < ver) {g : FuncId} {xs xs' : List V} {s n : Nat} {cs : List V} {full : Bool}
  (hok : OK P g xs' (.own s n cs full)) (hbl : Blind (.own s n cs full)) (h : callV τ ops j st = some (d, g, xs)) (hz : ViewL st.H xs xs') : CoreE P Γ ops j st (some d) (setH st.H k (some ⟨ver, cs⟩)) (.ref k ver 0 s n full) := by
 obtain ⟨o, c, y, as, caps, hc⟩ := callV_spec h
 refine ⟨o, hc.at_, hc.dst, (fun d e => by cases e; exact hc.lt), fun a w M μ fp G O' hS K Qc hK => ?_⟩
 refine hc.runV hz hok hbl O' hS K Qc fun v w' fpn hg how hn hb => ?_
 obtain ⟨μ2, fp2, G2, O2, C2, _, hsl2⟩ := after_keep O' hg how hn hb k ver hkl hpin hver
 exact hK _ _ _ μ2 fp2 G2 O2 C2 hsl2
theorem callVN_E (τ : Tau) {ops : Array Oper} {j : Nat} {st : St} (d k : Nat) (hpin : ∀ i b, Γ.L i b → k ≠ i) (hk : Nat.beq st.H.length k = true) {g : FuncId} {xs xs' : List V} {s n : Nat} {cs : List V} {full : Bool}
  (hok : OK P g xs' (.own s n cs full)) (hbl : Blind (.own s n cs full)) (h : callV τ ops j st = some (d, g, xs)) (hz : ViewL st.H xs xs') : CoreE P Γ ops j st (some d) (setH st.H k (some ⟨0, cs⟩)) (.ref k 0 0 s n full) := by
 have hk2 := Nat.eq_of_beq_eq_true hk
 exact callVK_E τ d k 0 hpin (Nat.le_of_eq hk2.symm) (fun h => by omega) hok hbl h hz
theorem View.agg {H : Hp} {xs ys : List V} (h : ViewL H xs ys) : View H (.agg xs) (.agg ys) := by
 intro Γ w M μ fp G v O hs
 simp only [Sl] at hs
 obtain ⟨us, rfl, hs⟩ := hs
 simp only [Fr]
 exact ⟨us, rfl, SlL.views O hs h⟩
theorem OutP.agg {H : Hp} {xs ys : List V} {k : List Nat} (h : OutL H xs ys k) : OutP H (.agg xs) (.agg ys) k := by
 unfold OutP
 exact ⟨ys, rfl, h⟩
end
end Go.D
