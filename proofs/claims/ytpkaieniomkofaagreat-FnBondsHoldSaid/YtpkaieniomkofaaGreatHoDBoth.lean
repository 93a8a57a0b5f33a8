import Derived.Test.YtpkaieniomkofaaGreatHoDPart
set_option linter.unusedVariables false
namespace Go.D
def backH (w : World) : List Nat → Array Obj → Array Obj
 | [], h => h
 | b :: r, h => match w.heap[b]? with
  | some o => (backH w r h).setIfInBounds b o
  | none => backH w r h
def back (w w' : World) (bs : List Nat) : World := { w' with heap := backH w bs w'.heap }
theorem backH_size (w : World) : ∀ (bs : List Nat) (h : Array Obj), (backH w bs h).size = h.size
 | [], h => rfl
 | b :: r, h => by
  unfold backH
  split
  ·rw [Array.size_setIfInBounds, backH_size w r h]
  ·exact backH_size w r h
theorem backH_out (w : World) : ∀ (bs : List Nat) (h : Array Obj) (i : Nat), i ∉ bs → (backH w bs h)[i]? = h[i]?
 | [], h, i, _ => rfl
 | b :: r, h, i, hi => by
  simp only [List.mem_cons, not_or] at hi
  unfold backH
  split
  ·rw [Array.getElem?_setIfInBounds_ne (fun e => hi.1 e.symm), backH_out w r h i hi.2]
  ·exact backH_out w r h i hi.2
theorem backH_in (w : World) : ∀ (bs : List Nat) (h : Array Obj) (i : Nat), i ∈ bs → i < w.heap.size → w.heap.size ≤ h.size → (backH w bs h)[i]? = w.heap[i]?
 | [], h, i, hi, _, _ => by cases hi
 | b :: r, h, i, hi, hlt, hs => by
  unfold backH
  by_cases hib : i = b
  ·subst hib
   rw [Array.getElem?_eq_getElem hlt]
   simp only
   rw [Array.getElem?_setIfInBounds_self_of_lt (by rw [backH_size]; omega)]
  ·have hr : i ∈ r := by simpa [hib] using hi
   split
   ·rw [Array.getElem?_setIfInBounds_ne (fun e => hib e.symm), backH_in w r h i hr hlt hs]
   ·exact backH_in w r h i hr hlt hs
def OKx (P : Program) (f : FuncId) (cs pre : List V) (s n : Nat) (ls post : List V) (out : V) (cs' : List V) : Prop :=
 Callable P f ∧ cs.all Z9 = true ∧ cs'.all Z9 = true ∧ ls.all Z9 = true ∧ ∀ (w : World) (vs1 vs2 : List Value) (v0 : Value) (M : Nat → Prop) (b : Nat) (c : Array Value) (e : TypeId) (us : List Value) (m : Option Nat), (∀ x, M x → x < w.heap.size) → M b → w.heap[b]? = some (.cells c e (0, 0)) →
  FrL w M cs us → Lies w b 0 us → m ≠ some b → RefR w m 0 s n false v0 → LentR w M m ls → FrL w M pre vs1 → FrL w M post vs2 →
  Calls P f (Value.pointer (some ⟨b, 0, none⟩) :: (vs1 ++ v0 :: vs2)).toArray w fun ee w' => ∃ v fp us', ee = .returned v ∧ Kept (fun x => x = b ∨ m = some x) w w' ∧ Shape w w' b ∧ (∀ q, m = some q → Shape w w' q) ∧ Ow w' (fun x => M x ∨ x ∈ fp) out v fp ∧ fp.Nodup ∧
   (∀ x ∈ fp, w.heap.size ≤ x ∧ x < w'.heap.size) ∧ FrL w' (fun x => M x ∨ x ∈ fp) cs' us' ∧ Lies w' b 0 us' ∧ LentR w' (fun x => M x ∨ x ∈ fp) m ls
section
variable {P : Program} {Γ : Ctx} {τ : Tau}
def QretX (τ : Tau) (fn : Func) (out : V) (cs' ls : List V) : Exit → St → Prop := fun e st =>
 (e = .normal ∨ e = .ret) ∧ ∃ x ks v v2, resV τ st fn.results.toList = some x ∧ OutP st.H x out ks ∧ ks.Nodup ∧ (0 ∉ ks ∧ 1 ∉ ks) ∧ blkAt st.H 0 v = some ⟨v, cs'⟩ ∧ blkAt st.H 1 v2 = some ⟨v2, ls⟩
theorem OKx_of_pwp (hT : TOK P τ) {f : FuncId} {fn : Func} {c : Code} {cs pre post ls : List V} {s n : Nat} {out : V} {cs' : List V} (hf : P.funcs[f]? = some fn) (hb : fn.body = some c) (hnm : (fn.name == "runtime.NumGoroutine") = false)
  (hn : Nat.ble (pre.length + post.length + 2) fn.ntmps = true) (hz : cs.all Z9 = true) (hz' : cs'.all Z9 = true) (hzl : ls.all Z9 = true)
  (h : ∀ Γ : Ctx, (∀ i b, Γ.L i b → i < 2) → pwp P Γ c (QretX τ fn out cs' ls) ⟨fn.ntmps, numbered 0 (.ptr 0 0 0 :: (pre ++ .ref 1 0 0 s n false :: post)), [some ⟨0, cs⟩, some ⟨0, ls⟩]⟩) : OKx P f cs pre s n ls post out cs' := by
 refine ⟨⟨fn, hf, hnm, by rw [hb]; rfl⟩, hz, hz', hzl, fun w vs1 vs2 v0 M b cc ee us m hM hMb hh hcs hlie hmb hr hl hv1 hv2 => ?_⟩
 let Γ : Ctx := ⟨w, fun x => M x ∧ x ≠ b ∧ m ≠ some x, fun x => x = b ∨ m = some x, fun i x => i = 0 ∧ x = b ∨ i = 1 ∧ m = some x⟩
 have hlen1 := hv1.length
 have hlen2 := hv2.length
 have hle : pre.length + post.length + 2 ≤ fn.ntmps := Nat.le_of_ble_eq_true hn
 have hbl := hM b hMb
 refine calls_of_wp hf hb ?_
 let μ0 : Nat → Option Nat := fun k => if k = 0 then some b else if k = 1 then m else none
 let H0 : Hp := [some ⟨0, cs⟩, some ⟨0, ls⟩]
 have hmM : ∀ q, m = some q → M q := fun q e => by subst e; exact hl.1
 have hslp : Sl w M H0 μ0 (.ptr 0 0 0) (.pointer (some ⟨b, 0, none⟩)) := by
  simp only [Sl]
  refine ⟨by simp [H0], ⟨_, rfl⟩, fun blk hb' => ?_⟩
  simp [H0] at hb'
  subst hb'
  exact ⟨Nat.le_refl _, fun _ => ⟨b, by simp [μ0], rfl⟩⟩
 have hsl0 : Sl w M H0 μ0 (.ref 1 0 0 s n false) v0 := by
  simp only [Sl]
  refine ⟨by simp [H0], hr.isSlice, fun blk hb' => ?_⟩
  simp [H0] at hb'
  subst hb'
  exact ⟨Nat.le_refl _, fun _ => by simpa [μ0] using hr⟩
 have hsl : SlL w M H0 μ0 (.ptr 0 0 0 :: (pre ++ .ref 1 0 0 s n false :: post)) (Value.pointer (some ⟨b, 0, none⟩) :: (vs1 ++ v0 :: vs2)) := by
  simp only [SlL]
  refine ⟨_, _, rfl, hslp, SlL.append hv1.sl ?_⟩
  simp only [SlL]
  exact ⟨v0, vs2, rfl, hsl0, hv2.sl⟩
 have hR : R Γ ⟨fn.ntmps, numbered 0 (.ptr 0 0 0 :: (pre ++ .ref 1 0 0 s n false :: post)), H0⟩ { tmps := (Value.pointer (some ⟨b, 0, none⟩) :: (vs1 ++ v0 :: vs2)).toArray ++ Array.replicate (fn.ntmps - (Value.pointer (some ⟨b, 0, none⟩) :: (vs1 ++ v0 :: vs2)).toArray.size) undef, defers := [] } w := by
  refine ⟨rfl, by simp; omega, M, μ0, fun _ => [], fun x => if x = b then some 0 else if m = some x then some 1 else none, ?_, ?_⟩
  ·refine ⟨fun k blk hk => ?_, fun k blk hk => ?_, fun x hx => ?_, fun x hx => hx.1, hM, fun x hx => ?_, fun x hx => ?_, Kept.refl _ w, fun i x hx => ?_⟩
   ·match k, hk with
    | 0, hk =>
     simp [H0] at hk
     subst hk
     simp only [μ0, if_true, BlkR]
     exact ⟨cc, ee, us, hh, hcs.ceL, hlie⟩
    | 1, hk =>
     simp [H0] at hk
     subst hk
     simp only [μ0, Nat.one_ne_zero, if_false, if_true]
     cases m with
     | none => exact hl
     | some q =>
      obtain ⟨_, c, e, us, hh, hfr, hlie⟩ := hl
      exact ⟨c, e, us, hh, hfr.ceL, hlie⟩
    | k + 2, hk => simp [H0] at hk
   ·match k, hk with
    | 0, _ =>
     simp only [μ0, if_true]
     exact ⟨fun x hx => by cases hx; simp, fun x hx => by simp at hx, List.nodup_nil⟩
    | 1, _ =>
     simp only [μ0, Nat.one_ne_zero, if_false, if_true]
     refine ⟨fun x hx => ⟨?_, by simp⟩, fun x hx => by simp at hx, List.nodup_nil⟩
     have : x ≠ b := fun e => hmb (by rw [hx, e])
     rw [if_neg this, if_pos hx]
    | k + 2, hk => simp [H0] at hk
   ·by_cases hxb : x = b
    ·rw [hxb]; exact hMb
    ·by_cases hxm : m = some x
     ·exact hmM x hxm
     ·simp [hxb, hxm] at hx
   ·by_cases hxb : x = b
    ·exact .inl (.inl hxb)
    ·by_cases hxm : m = some x
     ·exact .inl (.inr hxm)
     ·simp [hxb, hxm] at hx
   ·by_cases hxb : x = b
    ·exact fun h => h.2.1 hxb
    ·by_cases hxm : m = some x
     ·exact fun h => h.2.2 hxm
     ·simp [hxb, hxm] at hx
   ·rcases hx with ⟨rfl, rfl⟩ | ⟨rfl, hx⟩
    ·exact ⟨by simp [μ0], ⟨_, rfl⟩, .of_eq rfl⟩
    ·exact ⟨by simpa [μ0] using hx, ⟨_, rfl⟩, .of_eq rfl⟩
  ·intro t x hx
   have := numbered_sound hsl [] (List.replicate (fn.ntmps - (Value.pointer (some ⟨b, 0, none⟩) :: (vs1 ++ v0 :: vs2)).toArray.size) undef) t x hx
   obtain ⟨u, hu, hs⟩ := this
   refine ⟨u, ?_, hs⟩
   rw [← Array.getElem?_toList]
   simpa using hu
 refine wp_mono (h Γ (fun i x hx => by rcases hx with hx | hx <;> have := hx.1 <;> omega) _ _ hR) fun e a' w' q => ?_
 obtain ⟨st', ⟨he, x, ks, vv, vw, hx, ho, hk, ⟨hk0, hk1⟩, hbk, hbk2⟩, hd, hsz, M', μ, fp, G, O, hS⟩ := q
 obtain ⟨v, hv1', hv2'⟩ := resV_sound (P := P) hT O hS hx
 have how := OutP.sound O ho hv2'
 obtain ⟨hnd, hg⟩ := O.keys_nodup ks hk ho.live
 obtain ⟨b1, _⟩ := Zao hbk
 obtain ⟨b2, _⟩ := Zao hbk2
 obtain ⟨p1, _, p3⟩ := O.pin 0 b (.inl ⟨rfl, rfl⟩)
 have hG := ((O.mine 0 _ b1).1 b p1).1
 have hsub : ∀ x, M x → M' x := fun x hx => by
  by_cases hxb : x = b
  ·rw [hxb]; exact O.sub b (by rw [hG]; simp)
  ·by_cases hxm : m = some x
   ·obtain ⟨q1, _, _⟩ := O.pin 1 x (.inr ⟨rfl, hxm⟩)
    exact O.sub x (by rw [((O.mine 1 _ b2).1 x q1).1]; simp)
   ·exact O.m0 x ⟨hx, hxb, hxm⟩
 have hsub2 : ∀ x, (M x ∨ x ∈ ks.flatMap fun k => (μ k).toList ++ fp k) → M' x := fun x hx => by
  rcases hx with hx | hx
  ·exact hsub x hx
  ·obtain ⟨k, _, hgk⟩ := hg x hx
   exact O.sub x (by rw [hgk]; simp)
 have hbl0 := O.blk 0 _ b1
 rw [p1] at hbl0
 obtain ⟨c', e', us', hh', hce', hlie'⟩ := hbl0
 have hfr := (hce'.frL hz').1
 have key : ∃ v', (results fn a'.tmps).run P w' = .ok v' w' ∧ ∃ v fp' us', Ending.returned v' = .returned v ∧ Kept (fun x => x = b ∨ m = some x) w w' ∧ Shape w w' b ∧ (∀ q, m = some q → Shape w w' q) ∧ Ow w' (fun x => M x ∨ x ∈ fp') out v fp' ∧ fp'.Nodup ∧ (∀ x ∈ fp', w.heap.size ≤ x ∧ x < w'.heap.size) ∧
   FrL w' (fun x => M x ∨ x ∈ fp') cs' us' ∧ Lies w' b 0 us' ∧ LentR w' (fun x => M x ∨ x ∈ fp') m ls := by
  refine ⟨v, hv1', v, _, us', rfl, O.kept, p3, fun q hq => (O.pin 1 q (.inr ⟨rfl, hq⟩)).2.2, how.less fun x hx => hsub2 x hx, hnd, fun x hx => ?_, FrL.same (Same.refl w' M') (fun y hy => .inl (hsub2 y hy)) hfr, hlie', ?_⟩
  ·obtain ⟨k, hkk, hgk⟩ := hg x hx
   have hne : G x ≠ none := by rw [hgk]; simp
   refine ⟨(O.new x hne).resolve_left (fun hxb => ?_), O.lt x (O.sub x hne)⟩
   rcases hxb with hxb' | hxb'
   ·rw [hxb', hG] at hgk
    cases hgk
    exact hk0 hkk
   ·obtain ⟨q1, _, _⟩ := O.pin 1 x (.inr ⟨rfl, hxb'⟩)
    rw [((O.mine 1 _ b2).1 x q1).1] at hgk
    cases hgk
    exact hk1 hkk
  ·cases m with
   | none => exact hl
   | some q =>
    obtain ⟨q1, _, _⟩ := O.pin 1 q (.inr ⟨rfl, rfl⟩)
    have hbl1 := O.blk 1 _ b2
    rw [q1] at hbl1
    obtain ⟨c2, e2, us2, hh2, hce2, hlie2⟩ := hbl1
    exact ⟨.inl hl.1, c2, e2, us2, hh2, FrL.same (Same.refl w' M') (fun y hy => .inl (hsub2 y hy)) (hce2.frL hzl).1, hlie2⟩
 rcases he with rfl | rfl
 ·exact ⟨hd, key⟩
 ·exact ⟨hd, key⟩
structure CallX where
 d : Nat
 g : FuncId
 k : Nat
 ver : Nat
 cs : List V
 pre : List V
 k2 : Nat
 ver2 : Nat
 s : Nat
 n : Nat
 ls : List V
 post : List V
def calX (τ : Tau) (ops : Array Oper) (j : Nat) (st : St) : Option CallX :=
 match calV τ ops j st with
 | some c => match splitRef c.xs with
  | some (pre, (k2, ver2, s, n), post) => match blkAt st.H k2 ver2 with
   | some blk => bif Nat.beq k2 c.k then none else some ⟨c.d, c.g, c.k, c.ver, c.cs, pre, k2, ver2, s, n, blk.cells, post⟩
   | none => none
  | none => none
 | none => none
theorem callX_E (τ : Tau) {ops : Array Oper} {j : Nat} {st : St} (d k ver k2 ver2 : Nat) {g : FuncId} {cs pre ls post : List V} {s n : Nat} {out x : V} {bs : List Blk} {cs' : List V} (hok : OKx P g cs pre s n ls post out cs') (hz1 : frzL pre = true) (hz2 : frzL post = true)
  (h : calX τ ops j st = some ⟨d, g, k, ver, cs, pre, k2, ver2, s, n, ls, post⟩) (hth : thaw st.H.length out = (x, bs)) : CoreE P Γ ops j st (some d) (setH (setH (st.H ++ bs.map some) k2 (some ⟨ver2, ls⟩)) k (some ⟨ver, cs'⟩)) x := by
 unfold calX at h
 split at h
 ·rename_i cc0 hcv
  split at h
  ·rename_i pre' k2' ver2' s' n' post' hsp
   split at h
   ·rename_i blk2 hb2
    cases hkk : Nat.beq k2' cc0.k with
    | true => rw [hkk] at h; cases h
    | false =>
    rw [hkk, cond_false] at h
    simp only [Option.some.injEq, CallX.mk.injEq] at h
    obtain ⟨rfl, rfl, rfl, rfl, rfl, rfl, rfl, rfl, rfl, rfl, rfl, rfl⟩ := h
    have hne : k2' ≠ cc0.k := fun e => by rw [e, Nat.beq_refl] at hkk; cases hkk
    unfold calV at hcv
    split at hcv
    ·rename_i o ho
     split at hcv
     ·rename_i c d' hop hd
      split at hcv
      ·rename_i y hc
       split at hcv
       ·rename_i g' caps k' ver' xs' hy ha
        split at hcv
        ·rename_i blk hb
         have hcv := Option.some.inj hcv
         subst hcv
         simp only at hsp hne hok ⊢
         have hd' := Zaq hd
         refine ⟨o, Zaw ho, hd'.1, (fun d e => by cases e; exact hd'.2), fun a w M μ fp G O hS K Qc hK => ?_⟩
         obtain ⟨us, hu, hus⟩ := fn_value hS hy
         have hargs := evalArgs_sound hS ha
         obtain ⟨hcall, hzc, hzc', hzl, hok⟩ := hok
         cases hal : c.args.toList with
         | nil => rw [hal] at hargs; simp [SlL] at hargs
         | cons a0 ar =>
          rw [hal] at hargs
          simp only [List.map_cons, SlL, List.cons.injEq] at hargs
          obtain ⟨u0, us0, ⟨hu0, hus0⟩, hp, hrest⟩ := hargs
          subst hu0 hus0
          obtain ⟨b1, e1⟩ := Zao hb
          obtain ⟨b2, e2⟩ := Zao hb2
          obtain ⟨b, hm, hptr⟩ := Sl.ptr_at hp hb
          have hbl := O.blk k' blk b1
          rw [hm] at hbl
          obtain ⟨cc, ee, ws, hh, hce, hlie⟩ := hbl
          obtain ⟨hfr, _⟩ := hce.frL hzc
          have hG := ((O.mine k' blk b1).1 b hm).1
          have hMb : M b := O.sub b (by rw [hG]; simp)
          have hbl := O.lt b hMb
          have hzs := splitRef_spec hsp
          have hall := (soft_slL hrest).append hus
          rw [hzs] at hall
          obtain ⟨u1, u2, he, ha1, ha2⟩ := hall.append_inv
          simp only [SlL] at ha2
          obtain ⟨v0, vs2, rfl, hv0, ha2⟩ := ha2
          simp only [Sl] at hv0
          have hr := (hv0.2.2 blk2 b2).2 e2
          have hbl2 := O.blk k2' blk2 b2
          have hG2 : ∀ q, μ k2' = some q → G q = some k2' := fun q hq => ((O.mine k2' blk2 b2).1 q hq).1
          have hM2 : ∀ q, μ k2' = some q → M q := fun q hq => O.sub q (by rw [hG2 q hq]; simp)
          have hmb : μ k2' ≠ some b := fun hq => by
           have := hG2 b hq
           rw [hG] at this
           exact hne (Option.some.inj this).symm
          have hlent : LentR w M (μ k2') blk2.cells := by
           cases hq : μ k2' with
           | none => rw [hq] at hbl2; exact hbl2
           | some q =>
            rw [hq] at hbl2
            obtain ⟨cc, ee, ws, hh, hce, hlie⟩ := hbl2
            exact ⟨hM2 q hq, cc, ee, ws, hh, (hce.frL hzl).1, hlie⟩
          refine wp_call hop hc hu hcall (Calls.mono ?_ fun e w' he => he)
          have := hok w u1 vs2 v0 M b cc ee ws (μ k2') O.lt hMb hh hfr hlie hmb hr hlent (ha1.fr hz1) (ha2.fr hz2)
          have e3 : c.args.map a.eval ++ us.toArray = (Value.pointer (some ⟨b, 0, none⟩) :: (u1 ++ v0 :: vs2)).toArray := by
           apply Array.toList_inj.1
           rw [← he]
           simp [hal, hptr]
          rw [e3]
          refine Calls.mono this fun e w' he => ?_
          obtain ⟨v, fpn, us', rfl, hkept, hshape, hshape2, how, hn, hfb, hfr', hlie', hl'⟩ := he
          refine ⟨v, rfl, ?_⟩
          have hsz := hkept.size
          have hlt2 : ∀ q, μ k2' = some q → q < w.heap.size := fun q hq => O.lt q (hM2 q hq)
          -- the world with both as they were
          let X : List Nat := b :: (μ k2').toList
          have hX : ∀ i, i ∈ X ↔ i = b ∨ μ k2' = some i := fun i => by
           simp only [X, List.mem_cons, Option.mem_toList, Option.mem_def]
          let w2 := back w w' X
          let w1 := back w w' [b]
          have s2 : w2.heap.size = w'.heap.size := backH_size w X w'.heap
          have s1 : w1.heap.size = w'.heap.size := backH_size w [b] w'.heap
          have hXlt : ∀ i ∈ X, i < w.heap.size := fun i hi => ((hX i).1 hi).elim (fun e => by rw [e]; exact hbl) (hlt2 i)
          have in2 : ∀ i ∈ X, w2.heap[i]? = w.heap[i]? := fun i hi => backH_in w X w'.heap i hi (hXlt i hi) hsz
          have out2 : ∀ i, i ∉ X → w2.heap[i]? = w'.heap[i]? := fun i hi => backH_out w X w'.heap i hi
          have in1 : w1.heap[b]? = w.heap[b]? := backH_in w [b] w'.heap b (by simp) hbl hsz
          have out1 : ∀ i, i ≠ b → w1.heap[i]? = w'.heap[i]? := fun i hi => backH_out w [b] w'.heap i (by simpa using hi)
          have hg2 : Grew w w2 := ⟨hkept.os, hkept.tape, hkept.output, by rw [s2]; exact hsz, fun i hi _ => by
           by_cases hix : i ∈ X
           ·exact in2 i hix
           ·rw [out2 i hix]
            exact hkept.block i hi (fun h => hix ((hX i).2 h))⟩
          have hMX : ∀ i ∈ X, M i := fun i hi => ((hX i).1 hi).elim (fun e => by rw [e]; exact hMb) (hM2 i)
          have hMf : ∀ x ∈ fpn, x ∉ X := fun x hx e => by have := (hfb x hx).1; have := hXlt x e; omega
          have hsame : Same w' w2 (fun x => M x ∨ x ∈ fpn) := ⟨fun x o u hx hc => by
           have hxb : x ∉ X := fun e => hx (.inl (hMX x e))
           have : w2.cell? ⟨x, o, none⟩ = w'.cell? ⟨x, o, none⟩ := World.cell?_of_block (w := w') (a := ⟨x, o, none⟩) (out2 x hxb)
           rw [this]; exact hc, by rw [s2]; exact Nat.le_refl _⟩
          have hsame1 : Same w' w1 (fun x => M x ∨ x ∈ fpn) := ⟨fun x o u hx hc => by
           have hxb : x ≠ b := fun e => hx (.inl (by rw [e]; exact hMb))
           have : w1.cell? ⟨x, o, none⟩ = w'.cell? ⟨x, o, none⟩ := World.cell?_of_block (w := w') (a := ⟨x, o, none⟩) (out1 x hxb)
           rw [this]; exact hc, by rw [s1]; exact Nat.le_refl _⟩
          have how2 := Ow.same hsame (M' := fun x => M x ∨ x ∈ fpn) (fun x h => .inl h) (fun x hx => out2 x (hMf x hx)) how
          obtain ⟨μ2, fp2, G2, O2, C2, hsl⟩ := after_thaw O hg2 how2 hn (fun x hx => by rw [s2]; exact hfb x hx)
          rw [hth] at O2 C2 hsl
          have hkl : k' < st.H.length := (List.getElem?_eq_some_iff.1 b1).1
          have hkl2 : k2' < st.H.length := (List.getElem?_eq_some_iff.1 b2).1
          have q1 : (st.H ++ bs.map some)[k']? = some (some blk) := by rw [List.getElem?_append_left hkl]; exact b1
          have q2 : (st.H ++ bs.map some)[k2']? = some (some blk2) := by rw [List.getElem?_append_left hkl2]; exact b2
          have hμ : ∀ i (bk : Blk), i < st.H.length → st.H[i]? = some (some bk) → (st.H ++ bs.map some)[i]? = some (some bk) → μ2 i = μ i := fun i bk hi h1 h2 => by
           obtain ⟨blk0, r1, _, r2⟩ := C2.keys i bk hi h2
           rw [h1] at r1
           cases r1
           exact (r2 rfl).1
          have hμ1 := hμ k' blk hkl b1 q1
          have hμ2 := hμ k2' blk2 hkl2 b2 q2
          have step2 : ∃ μ3 fp3 G3, Own Γ (fun x => M x ∨ x ∈ fpn) (setH (st.H ++ bs.map some) k2' (some ⟨ver2', blk2.cells⟩)) w1 μ3 fp3 G3 ∧ Carry w2 (fun x => M x ∨ x ∈ fpn) (st.H ++ bs.map some) μ2 w1 (fun x => M x ∨ x ∈ fpn) (setH (st.H ++ bs.map some) k2' (some ⟨ver2', blk2.cells⟩)) μ3 ∧ μ3 k' = some b := by
           cases hq : μ k2' with
           | none =>
            have hXb : X = [b] := by simp only [X, hq]; rfl
            have hw12 : w2 = w1 := by simp only [w2, w1, hXb]
            have hset : setH (st.H ++ bs.map some) k2' (some ⟨ver2', blk2.cells⟩) = st.H ++ bs.map some := by
             have hb : (⟨ver2', blk2.cells⟩ : Blk) = blk2 := by rw [← e2]
             rw [hb]
             unfold setH
             have : Nat.blt k2' (st.H ++ bs.map some).length = true := Nat.ble_eq_true_of_le (by rw [List.length_append]; omega)
             rw [this, cond_true]
             apply List.ext_getElem?
             intro i
             by_cases hi : i = k2'
             ·subst hi
              rw [List.getElem?_set_self (by rw [List.length_append]; omega), q2]
             ·rw [List.getElem?_set_ne (fun e => hi e.symm)]
            rw [hset, ← hw12]
            exact ⟨μ2, fp2, G2, O2, ⟨Same.refl w2 _, fun x h => .inl h, Nat.le_refl _, fun i bk hi h => ⟨bk, h, Nat.le_refl _, fun _ => ⟨rfl, fun b _ => .of_eq rfl⟩⟩⟩, by rw [hμ1]; exact hm⟩
           | some q =>
            have hqX : q ∈ X := (hX q).2 (.inr hq)
            have hqb : q ≠ b := fun e => hmb (by rw [hq, e])
            rw [hq] at hl'
            obtain ⟨_, c2, e2', us2, hh2, hfr2, hlie2⟩ := hl'
            have hw12 : ∀ i, i < w2.heap.size → i ≠ q → w1.heap[i]? = w2.heap[i]? := fun i hi hiq => by
             by_cases hib : i = b
             ·subst hib
              rw [in1, in2 i ((hX i).2 (.inl rfl))]
             ·rw [out1 i hib, out2 i (fun h => ((hX i).1 h).elim hib (fun h => hiq (by rw [hq] at h; exact (Option.some.inj h).symm)))]
            have hsh : Shape w2 w1 q := fun c0 e0 h0 => by
             rw [in2 q hqX] at h0
             rw [out1 q hqb]
             exact hshape2 q hq c0 e0 h0
            have hlie3 : Lies w1 q 0 us2 := hlie2.hold (out1 q hqb)
            have hfr3 : FrL w1 (fun x => M x ∨ x ∈ fpn) blk2.cells us2 := FrL.same hsame1 (fun y hy => .inl hy) hfr2
            obtain ⟨μ3, fp3, G3, O3, C3⟩ := after_lent O2 q2 (by rw [hμ2]; exact hq) (cs' := blk2.cells) (us' := us2) (w' := w1) rfl rfl rfl (by rw [s1, s2]; exact Nat.le_refl _) (fun x hx => by rw [s1, ← s2]; exact O2.lt x hx) hw12 hsh hfr3 hlie3
            rw [e2] at O3 C3
            refine ⟨μ3, fp3, G3, O3, C3, ?_⟩
            have h2 : (setH (st.H ++ bs.map some) k2' (some ⟨ver2', blk2.cells⟩))[k']? = some (some blk) := by
             rw [setH_other (Nat.le_of_lt (by rw [List.length_append]; omega)) (fun e => hne e.symm)]
             exact q1
            obtain ⟨blk0, r1, _, r2⟩ := C3.keys k' blk (by rw [List.length_append]; omega) h2
            rw [q1] at r1
            cases r1
            rw [(r2 rfl).1, hμ1]
            exact hm
          obtain ⟨μ3, fp3, G3, O3, C3, hm3⟩ := step2
          have h2 : (setH (st.H ++ bs.map some) k2' (some ⟨ver2', blk2.cells⟩))[k']? = some (some blk) := by
           rw [setH_other (Nat.le_of_lt (by rw [List.length_append]; omega)) (fun e => hne e.symm)]
           exact q1
          obtain ⟨μ4, fp4, G4, O4, C4⟩ := after_lent O3 h2 hm3 (cs' := cs') (us' := us') (w' := w') rfl rfl rfl (by rw [s1]; exact Nat.le_refl _) (fun x hx => by rw [← s1]; exact O3.lt x hx)
           (fun i hi hib => (out1 i hib).symm) (fun c0 e0 h0 => by
            rw [in1] at h0
            exact hshape c0 e0 h0) hfr' hlie'
          rw [e1] at O4 C4
          exact hK v w' _ _ fp4 G4 O4 (C2.trans (C3.trans C4)) (Sl.carry (C3.trans C4) hsl)
        ·cases hcv
       ·cases hcv
      ·cases hcv
     ·cases hcv
    ·cases hcv
   ·cases h
  ·cases h
 ·cases h
end
section
variable {P : Program} {Γ : Ctx} {τ : Tau} {α : Type} [Enc α]
end
section
variable {P : Program} {Γ : Ctx} {τ : Tau} {α : Type} [Enc α]
end
theorem pn {Γ : Ctx} {n k : Nat} (hL : ∀ i b, Γ.L i b → i < n) (h : Nat.ble n k = true := by rfl) : ∀ i b, Γ.L i b → k ≠ i := fun i b hb e => by
 have := hL i b hb
 have := Nat.le_of_ble_eq_true h
 omega
theorem py {Γ Γ' : Ctx} {n k : Nat} (hΓ : ∀ i b, Γ'.L i b → Γ.L i b) (hL : ∀ i b, Γ.L i b → i < n) (h : Nat.ble n k = true := by rfl) : ∀ i b, Γ'.L i b → k ≠ i := pn (fun i b hb => hL i b (hΓ i b hb)) h
theorem pn2 {Γ : Ctx} {n k k' : Nat} (hL : ∀ i b, Γ.L i b → i < n) (h : (Nat.ble n k && Nat.ble n k') = true := by rfl) : ∀ i b, Γ.L i b → k ≠ i ∧ k' ≠ i := fun i b hb => by
 simp only [Bool.and_eq_true] at h
 exact ⟨pn hL h.1 i b hb, pn hL h.2 i b hb⟩
theorem pk {Γ : Ctx} {n : Nat} {ks : List Nat} (hL : ∀ i b, Γ.L i b → i < n) (h : ks.all (Nat.ble n) = true := by rfl) : ∀ i b, Γ.L i b → i ∉ ks := fun i b hb hi => by
 have := hL i b hb
 have := Nat.le_of_ble_eq_true (List.all_eq_true.1 h i hi)
 omega
theorem pky {Γ Γ' : Ctx} {n : Nat} {ks : List Nat} (hΓ : ∀ i b, Γ'.L i b → Γ.L i b) (hL : ∀ i b, Γ.L i b → i < n) (h : ks.all (Nat.ble n) = true := by rfl) : ∀ i b, Γ'.L i b → i ∉ ks := pk (fun i b hb => hL i b (hΓ i b hb)) h
theorem pl {Γ : Ctx} {n k : Nat} (hL : ∀ i b, Γ.L i b → i < n) (h : Nat.ble n k = true := by rfl) : ∀ i b, Γ.L i b → i < k := fun i b hb => Nat.lt_of_lt_of_le (hL i b hb) (Nat.le_of_ble_eq_true h)
theorem p02 {Γ : Ctx} {H : Hp} (hL : ∀ i b, Γ.L i b → i < 2) {blk blk2 : Blk} (h : H[0]? = some (some blk) := by exact rfl) (h2 : H[1]? = some (some blk2) := by exact rfl) : ∀ i b, Γ.L i b → ∃ blk, H[i]? = some (some blk) := fun i b hb => by
 have : i = 0 ∨ i = 1 := by have := hL i b hb; omega
 rcases this with rfl | rfl
 ·exact ⟨_, h⟩
 ·exact ⟨_, h2⟩
end Go.D
