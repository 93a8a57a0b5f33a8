import Derived.Test.YtgddjdemlelffaatlbDZero
set_option linter.unusedVariables false
namespace Go.D
def LentR (w : World) (M : Nat → Prop) (m : Option Nat) (cs : List V) : Prop :=
 match m with
 | some b => M b ∧ ∃ c e us, w.heap[b]? = some (.cells c e (0, 0)) ∧ FrL w M cs us ∧ Lies w b 0 us
 | none => cs = []
def OKs (P : Program) (f : FuncId) (pre : List V) (s n : Nat) (cs : List V) (post : List V) (out : V) (cs' : List V) : Prop :=
 Callable P f ∧ cs.all frozenV = true ∧ cs'.all frozenV = true ∧ ∀ (w : World) (vs1 vs2 : List Value) (v0 : Value) (M : Nat → Prop) (m : Option Nat), (∀ x, M x → x < w.heap.size) → RefR w m 0 s n false v0 → LentR w M m cs → FrL w M pre vs1 → FrL w M post vs2 →
  Calls P f (vs1 ++ v0 :: vs2).toArray w fun ee w' => ∃ v fp, ee = .returned v ∧ Kept (fun x => m = some x) w w' ∧ (∀ b, m = some b → Shape w w' b) ∧ Ow w' (fun x => M x ∨ x ∈ fp) out v fp ∧ fp.Nodup ∧
   (∀ x ∈ fp, w.heap.size ≤ x ∧ x < w'.heap.size) ∧ LentR w' (fun x => M x ∨ x ∈ fp) m cs'
theorem LentR.less {w : World} {M M' : Nat → Prop} {m : Option Nat} {cs : List V} (h : LentR w M' m cs) (hM : ∀ b, M b → M' b) (hm : ∀ b, m = some b → M b) : LentR w M m cs := by
 cases m with
 | none => exact h
 | some b =>
  obtain ⟨_, c, e, us, hh, hf, hl⟩ := h
  exact ⟨hm b rfl, c, e, us, hh, FrL.same (Same.refl w M') (fun y hy => .inl (hM y hy)) hf, hl⟩
theorem LentR.nil {w : World} {M : Nat → Prop} {m : Option Nat} {cs : List V} (h : LentR w M m cs) : LentR w (fun x => M x ∨ x ∈ ([] : List Nat)) m cs := by
 have : (fun x => M x ∨ x ∈ ([] : List Nat)) = M := by funext x; simp
 rw [this]
 exact h
theorem RefR.isSlice {w : World} {m : Option Nat} {off s n : Nat} {full : Bool} {v : Value} (h : RefR w m off s n full v) : ∃ A q c, v = .slice A q c := by
 rcases h with ⟨A, rfl, _⟩ | ⟨b, cap, c, e, _, rfl, _⟩
 ·exact ⟨_, _, _, rfl⟩
 ·exact ⟨_, _, _, rfl⟩
section
variable {P : Program} {Γ : Ctx} {τ : Tau}
def QretS (τ : Tau) (fn : Func) (out : V) (cs' : List V) : Exit → St → Prop := fun e st =>
 (e = .normal ∨ e = .ret) ∧ ∃ x ks v, resV τ st fn.results.toList = some x ∧ OutP st.H x out ks ∧ ks.Nodup ∧ 0 ∉ ks ∧ blkAt st.H 0 v = some ⟨v, cs'⟩
theorem OKs_of_pwp (hT : TOK P τ) {f : FuncId} {fn : Func} {c : Code} {pre post : List V} {s n : Nat} {cs : List V} {out : V} {cs' : List V} (hf : P.funcs[f]? = some fn) (hb : fn.body = some c) (hnm : (fn.name == "runtime.NumGoroutine") = false)
  (hn : Nat.blt (pre.length + post.length) fn.ntmps = true) (hz : cs.all frozenV = true) (hz' : cs'.all frozenV = true) (hcl : cs'.length = cs.length)
  (h : ∀ Γ : Ctx, (∀ i b, Γ.L i b → i < 1) → pwp P Γ c (QretS τ fn out cs') ⟨fn.ntmps, numbered 0 (pre ++ .ref 0 0 0 s n false :: post), [some ⟨0, cs⟩]⟩) : OKs P f pre s n cs post out cs' := by
 refine ⟨⟨fn, hf, hnm, by rw [hb]; rfl⟩, hz, hz', fun w vs1 vs2 v0 M m hM hr hl hv1 hv2 => ?_⟩
 let Γ : Ctx := ⟨w, fun x => M x ∧ m ≠ some x, fun x => m = some x, fun i x => i = 0 ∧ m = some x⟩
 have hlen1 := hv1.length
 have hlen2 := hv2.length
 have hle : pre.length + post.length < fn.ntmps := Nat.le_of_ble_eq_true hn
 refine calls_of_wp hf hb ?_
 let μ0 : Nat → Option Nat := fun k => if k = 0 then m else none
 have hsl0 : Sl w M [some ⟨0, cs⟩] μ0 (.ref 0 0 0 s n false) v0 := by
  simp only [Sl]
  refine ⟨by simp, hr.isSlice, fun blk hb' => ?_⟩
  simp at hb'
  subst hb'
  exact ⟨Nat.le_refl _, fun _ => by simpa [μ0] using hr⟩
 have hmM : ∀ b, m = some b → M b := fun b e => by subst e; exact hl.1
 have hsl : SlL w M [some ⟨0, cs⟩] μ0 (pre ++ .ref 0 0 0 s n false :: post) (vs1 ++ v0 :: vs2) := by
  refine SlL.append hv1.sl ?_
  simp only [SlL]
  exact ⟨v0, vs2, rfl, hsl0, hv2.sl⟩
 have hR : R Γ ⟨fn.ntmps, numbered 0 (pre ++ .ref 0 0 0 s n false :: post), [some ⟨0, cs⟩]⟩ { tmps := (vs1 ++ v0 :: vs2).toArray ++ Array.replicate (fn.ntmps - (vs1 ++ v0 :: vs2).toArray.size) undef, defers := [] } w := by
  refine ⟨rfl, by simp; omega, M, μ0, fun _ => [], fun x => if m = some x then some 0 else none, ?_, ?_⟩
  ·refine ⟨fun k blk hk => ?_, fun k blk hk => ?_, fun x hx => ?_, fun x hx => hx.1, hM, fun x hx => ?_, fun x hx => ?_, Kept.refl _ w, fun i x hx => ?_⟩
   ·cases k with
    | zero =>
     simp at hk
     subst hk
     simp only [μ0, if_true, BlkR]
     cases m with
     | none => exact hl
     | some b =>
      obtain ⟨_, c, e, us, hh, hfr, hlie⟩ := hl
      exact ⟨c, e, us, hh, hfr.ceL, hlie⟩
    | succ k => simp at hk
   ·cases k with
    | zero =>
     simp only [μ0, if_true]
     exact ⟨fun x hx => by simp [hx], fun x hx => by simp at hx, List.nodup_nil⟩
    | succ k => simp at hk
   ·by_cases hxb : m = some x
    ·exact hmM x hxb
    ·simp [hxb] at hx
   ·by_cases hxb : m = some x
    ·exact .inl hxb
    ·simp [hxb] at hx
   ·by_cases hxb : m = some x
    ·exact fun h => h.2 hxb
    ·simp [hxb] at hx
   ·obtain ⟨rfl, hx⟩ := hx
    exact ⟨by simpa [μ0] using hx, ⟨_, rfl⟩, .of_eq rfl⟩
  ·intro t x hx
   have := numbered_sound hsl [] (List.replicate (fn.ntmps - (vs1 ++ v0 :: vs2).toArray.size) undef) t x hx
   obtain ⟨u, hu, hs⟩ := this
   refine ⟨u, ?_, hs⟩
   rw [← Array.getElem?_toList]
   simpa using hu
 refine wp_mono (h Γ (fun i b hb => by have := hb.1; omega) _ _ hR) fun e a' w' q => ?_
 obtain ⟨st', ⟨he, x, ks, vv, hx, ho, hk, hk0, hbk⟩, hd, hsz, M', μ, fp, G, O, hS⟩ := q
 obtain ⟨v, hv1', hv2'⟩ := resV_sound (P := P) hT O hS hx
 have how := OutP.sound O ho hv2'
 obtain ⟨hnd, hg⟩ := O.keys_nodup ks hk ho.live
 obtain ⟨b1, _⟩ := blkAt_spec hbk
 have hsub : ∀ x, M x → M' x := fun x hx => by
  by_cases hxb : m = some x
  ·obtain ⟨p1, _, _⟩ := O.pin 0 x ⟨rfl, hxb⟩
   exact O.sub x (by rw [((O.mine 0 _ b1).1 x p1).1]; simp)
  ·exact O.m0 x ⟨hx, hxb⟩
 have key : ∃ v', (results fn a'.tmps).run P w' = .ok v' w' ∧ ∃ v fp', Ending.returned v' = .returned v ∧ Kept (fun x => m = some x) w w' ∧ (∀ b, m = some b → Shape w w' b) ∧ Ow w' (fun x => M x ∨ x ∈ fp') out v fp' ∧ fp'.Nodup ∧ (∀ x ∈ fp', w.heap.size ≤ x ∧ x < w'.heap.size) ∧ LentR w' (fun x => M x ∨ x ∈ fp') m cs' := by
  refine ⟨v, hv1', v, _, rfl, O.kept, fun b hb => (O.pin 0 b ⟨rfl, hb⟩).2.2, how.less fun x hx => ?_, hnd, fun x hx => ?_, ?_⟩
  ·rcases hx with hx | hx
   ·exact hsub x hx
   ·obtain ⟨k, _, hgk⟩ := hg x hx
    exact O.sub x (by rw [hgk]; simp)
  ·obtain ⟨k, hkk, hgk⟩ := hg x hx
   have hne : G x ≠ none := by rw [hgk]; simp
   refine ⟨(O.new x hne).resolve_left (fun hxb => ?_), O.lt x (O.sub x hne)⟩
   have hxb' : m = some x := hxb
   obtain ⟨p1, _, _⟩ := O.pin 0 x ⟨rfl, hxb'⟩
   rw [((O.mine 0 _ b1).1 x p1).1] at hgk
   cases hgk
   exact hk0 hkk
  ·cases m with
   | none =>
    have h0 : cs = [] := hl
    rw [h0] at hcl
    exact List.length_eq_zero_iff.1 hcl
   | some b =>
    obtain ⟨p1, _, p3⟩ := O.pin 0 b ⟨rfl, rfl⟩
    have hbl0 := O.blk 0 _ b1
    rw [p1] at hbl0
    obtain ⟨c', e', us', hh', hce', hlie'⟩ := hbl0
    exact ⟨.inl hl.1, c', e', us', hh', FrL.same (Same.refl w' M') (fun y hy => .inl (hy.elim (hsub y) fun hy => by
     obtain ⟨k, _, hgk⟩ := hg y hy
     exact O.sub y (by rw [hgk]; simp))) (hce'.frL hz').1, hlie'⟩
 rcases he with rfl | rfl
 ·exact ⟨hd, key⟩
 ·exact ⟨hd, key⟩
structure CallS where
 d : Nat
 g : FuncId
 pre : List V
 k : Nat
 ver : Nat
 s : Nat
 n : Nat
 cs : List V
 post : List V
def splitRef : List V → Option (List V × (Nat × Nat × Nat × Nat) × List V)
 | [] => none
 | .ref k ver 0 s n false :: r => some ([], (k, ver, s, n), r)
 | x :: r => match splitRef r with
  | some (a, b, c) => some (x :: a, b, c)
  | none => none
theorem splitRef_spec : ∀ {l pre post : List V} {k ver s n : Nat}, splitRef l = some (pre, (k, ver, s, n), post) → l = pre ++ .ref k ver 0 s n false :: post
 | [], _, _, _, _, _, _, h => by simp [splitRef] at h
 | x :: r, pre, post, k, ver, s, n, h => by
  unfold splitRef at h
  split at h
  ·cases h
  ·rename_i k' ver' s' n' r' heq
   simp only [List.cons.injEq] at heq
   obtain ⟨rfl, rfl⟩ := heq
   simp only [Option.some.injEq, Prod.mk.injEq] at h
   obtain ⟨rfl, ⟨rfl, rfl, rfl, rfl⟩, rfl⟩ := h
   rfl
  ·rename_i x' r' _ heq
   simp only [List.cons.injEq] at heq
   obtain ⟨rfl, rfl⟩ := heq
   split at h
   ·rename_i a b c hs
    simp only [Option.some.injEq, Prod.mk.injEq] at h
    obtain ⟨rfl, rfl, rfl⟩ := h
    rw [splitRef_spec hs]
    rfl
   ·cases h
def calS (τ : Tau) (ops : Array Oper) (j : Nat) (st : St) : Option CallS :=
 match callV τ ops j st with
 | some (d, g, zs) => match splitRef zs with
  | some (pre, (k, ver, s, n), post) => match blkAt st.H k ver with
   | some blk => some ⟨d, g, pre, k, ver, s, n, blk.cells, post⟩
   | none => none
  | none => none
 | none => none
theorem SlL.append_inv {w : World} {M : Nat → Prop} {H : Hp} {μ : Nat → Option Nat} : ∀ {xs ys : List V} {us : List Value}, SlL w M H μ (xs ++ ys) us → ∃ u1 u2, us = u1 ++ u2 ∧ SlL w M H μ xs u1 ∧ SlL w M H μ ys u2
 | [], ys, us, h => ⟨[], us, rfl, by simp [SlL], h⟩
 | x :: xs, ys, us, h => by
  simp only [List.cons_append, SlL] at h
  obtain ⟨u, us', rfl, h1, h2⟩ := h
  obtain ⟨u1, u2, rfl, h3, h4⟩ := SlL.append_inv h2
  exact ⟨u :: u1, u2, rfl, by simp only [SlL]; exact ⟨u, u1, rfl, h1, h3⟩, h4⟩
theorem callS_E (τ : Tau) {ops : Array Oper} {j : Nat} {st : St} (d k ver : Nat) {g : FuncId} {pre post : List V} {s n : Nat} {cs : List V} {out x : V} {cs' : List V} (hok : OKs P g pre s n cs post out cs') (hf : FzTo out x) (hz1 : frzL pre = true) (hz2 : frzL post = true)
  (h : calS τ ops j st = some ⟨d, g, pre, k, ver, s, n, cs, post⟩) : CoreE P Γ ops j st (some d) (setH st.H k (some ⟨ver, cs'⟩)) x := by
 unfold calS at h
 split at h
 ·rename_i d' g' zs hcv
  split at h
  ·rename_i pre' k' ver' s' n' post' hsp
   split at h
   ·rename_i blk hb
    simp only [Option.some.injEq, CallS.mk.injEq] at h
    obtain ⟨rfl, rfl, rfl, rfl, rfl, rfl, rfl, rfl, rfl⟩ := h
    obtain ⟨o, c, y, as, caps, hc⟩ := callV_spec hcv
    have hzs := splitRef_spec hsp
    refine ⟨o, hc.at_, hc.dst, (fun d e => by cases e; exact hc.lt), fun a w M μ fp G O hS K Qc hK => ?_⟩
    obtain ⟨us, hu, hus⟩ := fn_value hS hc.fn
    have ha := (soft_slL (evalArgs_sound hS hc.args)).append hus
    rw [← hc.all, hzs] at ha
    obtain ⟨u1, u2, he, ha1, ha2⟩ := ha.append_inv
    simp only [SlL] at ha2
    obtain ⟨v0, vs2, rfl, hv0, ha2⟩ := ha2
    obtain ⟨hcall, hzc, hzc', hok⟩ := hok
    obtain ⟨b1, b2⟩ := blkAt_spec hb
    simp only [Sl] at hv0
    have hr := (hv0.2.2 blk b1).2 b2
    have hbl := O.blk k' blk b1
    have hG : ∀ b, μ k' = some b → G b = some k' := fun b hm => ((O.mine k' blk b1).1 b hm).1
    have hMb : ∀ b, μ k' = some b → M b := fun b hm => O.sub b (by rw [hG b hm]; simp)
    have hlent : LentR w M (μ k') blk.cells := by
     cases hm : μ k' with
     | none => rw [hm] at hbl; exact hbl
     | some b =>
      rw [hm] at hbl
      obtain ⟨cc, ee, ws, hh, hce, hlie⟩ := hbl
      exact ⟨hMb b hm, cc, ee, ws, hh, (hce.frL hzc).1, hlie⟩
    refine wp_call hc.op hc.callee hu hcall (Calls.mono ?_ fun e w' he => he)
    have := hok w u1 vs2 v0 M (μ k') O.lt hr hlent (ha1.fr hz1) (ha2.fr hz2)
    have e1 : c.args.map a.eval ++ us.toArray = (u1 ++ v0 :: vs2).toArray := by
     apply Array.toList_inj.1
     rw [← he]
     simp
    rw [e1]
    refine Calls.mono this fun e w' he => ?_
    obtain ⟨v, fpn, rfl, hkept, hshape, how, hn, hfb, hl'⟩ := he
    replace hl' := hl'.less (fun b h => .inl h) hMb
    refine ⟨v, rfl, ?_⟩
    have hkl : k' < st.H.length := (List.getElem?_eq_some_iff.1 b1).1
    have hMf : ∀ x ∈ fpn, ¬ M x := fun x hx hM => by have := O.lt x hM; have := (hfb x hx).1; omega
    have := O.turn (M' := M) (w' := w') k' (Nat.le_of_lt hkl) (some ⟨ver', cs'⟩) (μ k') [] hkept.os hkept.tape hkept.output hkept.size hkept.drawn
     (fun i hi hg => hkept.block i hi fun hib => hg (hG i hib)) (fun x h => .inl h) (fun x h _ => h) (fun _ x hx => by simp at hx; exact hMb x hx) (fun x h => Nat.lt_of_lt_of_le (O.lt x h) hkept.size)
     (fun _ x hx => by simp at hx; exact .inl (hG x hx)) (fun _ => by cases μ k' <;> simp)
     (fun blk' hblk' _ => by cases hblk'; exact ⟨blk, b1, by simp only []; omega, fun _ => ⟨rfl, fun b' hb' => hshape b' hb'⟩⟩)
     (fun blk' hblk' C => by
      cases hblk'
      cases hm : μ k' with
      | none => rw [hm] at hl'; exact hl'
      | some b =>
       rw [hm] at hl'
       obtain ⟨_, c2, e2, us', hh2, hfr', hlie'⟩ := hl'
       exact ⟨c2, e2, us', hh2, hfr'.ceL, hlie'⟩)
     (fun i' b' hb' hk => ⟨by rw [hk], by simp, by
      have p1 := (O.pin i' b' hb').1
      rw [← hk] at p1
      exact hshape b' p1⟩)
    obtain ⟨fp', G', O', C, _⟩ := this
    exact hK v w' M _ fp' G' O' C (hf w' M _ v fpn how (fun x h => .inl h) hMf).sl
   ·cases h
  ·cases h
 ·cases h
end
end Go.D
