import Derived.Test.YtamegkbinbplaaatlbDOwn
set_option linter.unusedVariables false
namespace Go.D
def View (H : Hp) (x y : V) : Prop := ∀ (Γ : Ctx) (w : World) (M : Nat → Prop) (μ : Nat → Option Nat) (fp : Nat → List Nat) (G : Nat → Option Nat) (v : Value), Own Γ M H w μ fp G → Sl w M H μ x v → Fr w (fun _ => False) y v
def ViewL (H : Hp) : List V → List V → Prop
 | [], ys => ys = []
 | x :: xs, ys => ∃ y ys', ys = y :: ys' ∧ View H x y ∧ ViewL H xs ys'
theorem View.frz {H : Hp} {x : V} (h : frz x = true) : View H x x := fun Γ w M μ fp G v O hs => (hs.fr h).same (Same.refl w M) (fun b hb => hb.elim)
theorem ViewL.nil (H : Hp) : ViewL H [] [] := rfl
theorem ViewL.cons {H : Hp} {x y : V} {xs ys : List V} (h : View H x y) (k : ViewL H xs ys) : ViewL H (x :: xs) (y :: ys) := ⟨y, ys, rfl, h, k⟩
theorem ViewL.frz {H : Hp} : ∀ {xs : List V}, frzL xs = true → ViewL H xs xs
 | [], _ => rfl
 | x :: xs, h => by
  simp only [frzL, Bool.and_eq_true] at h
  exact ⟨x, xs, rfl, View.frz h.1, ViewL.frz h.2⟩
theorem View.ref {α : Type} [Enc α] {H : Hp} {k ver v lo : Nat} {full : Bool} (xs ys : List α) {n : Nat} (hb : blkAt H k ver = some ⟨v, eL xs⟩) (hy : (xs.drop lo).take ys.length = ys) (hn : ys.length = n) : View H (.ref k ver (lo * Enc.sz α) (Enc.sz α) n full) (.arr (Enc.sz α) n (eL ys) full) := by
 intro Γ w M μ fp G u O hs
 subst hn
 obtain ⟨b1, b2⟩ := blkAt_spec hb
 simp only [Sl] at hs
 have hr := (hs.2.2 _ b1).2 b2
 have hbl := O.blk k _ b1
 simp only [Fr]
 rcases hr with ⟨A, rfl, h0, hs0⟩ | ⟨b, cap, c, e, hm, rfl, hs0, hle, hmax, hf, hh, hcs⟩
 ·have : ys = [] := List.length_eq_zero_iff.1 h0
  subst this
  exact ⟨A, 0, rfl, ⟨hs0, by simp [eL], by simp, by unfold maxI; omega, fun _ => rfl⟩, .inl rfl⟩
 ·refine ⟨_, cap, rfl, ⟨hs0, (eL_len ys).symm, hle, hmax, hf⟩, ?_⟩
  rw [hm] at hbl
  obtain ⟨c', e', us, hh', hcl, hlie⟩ := hbl
  have hfr := (hcl.frL (eL_frz xs)).1
  refine .inr ⟨b, lo * Enc.sz α, (us.drop (lo * Enc.sz α)).take (ys.length * Enc.sz α), rfl, (Array.getElem?_eq_some_iff.1 hh).1, fun h => h, ?_, ?_⟩
  ·have h1 := (hfr.drop (lo * Enc.sz α)).take (ys.length * Enc.sz α)
   rw [eL_drop, eL_take, hy] at h1
   exact h1.same (Same.refl w M) (fun b hb => hb.elim)
  ·have := hlie.sub (lo * Enc.sz α) (ys.length * Enc.sz α)
   rwa [Nat.zero_add] at this
theorem View.whole {α : Type} [Enc α] {H : Hp} {k ver v : Nat} {full : Bool} (xs : List α) {n : Nat} (hb : blkAt H k ver = some ⟨v, eL xs⟩) (hn : xs.length = n) : View H (.ref k ver 0 (Enc.sz α) n full) (.arr (Enc.sz α) n (eL xs) full) := by
 have := View.ref (lo := 0) (full := full) xs xs hb (by simp) hn
 rwa [Nat.zero_mul] at this
theorem View.box {H : Hp} {k ver v off : Nat} {cs : List V} (hb : blkAt H k ver = some ⟨v, cs⟩) (hf : cs.all frozenV = true) : View H (.ptr k ver off) (.fptr cs off) := by
 intro Γ w M μ fp G u O hs
 obtain ⟨b1, b2⟩ := blkAt_spec hb
 obtain ⟨b, hm, rfl⟩ := hs.ptr_at hb
 have hbl := O.blk k _ b1
 rw [hm] at hbl
 obtain ⟨c', e', us, hh', hcl, hlie⟩ := hbl
 have hfr := (hcl.frL hf).1
 simp only [Fr]
 refine ⟨b, 0, us, by simp, (Array.getElem?_eq_some_iff.1 hh').1, fun h => h, hfr.same (Same.refl w M) (fun b hb => hb.elim), hlie⟩
def Blind (out : V) : Prop := ∀ (w : World) (M M' : Nat → Prop) (v : Value) (fp : List Nat), Ow w M out v fp → Ow w M' out v fp
def BlindL (out : List V) : Prop := ∀ (w : World) (M M' : Nat → Prop) (v : List Value) (fp : List Nat), OwL w M out v fp → OwL w M' out v fp
def litV : V → Bool
 | .lit _ => true
 | _ => false
theorem Blind.lit (u : Value) : Blind (.lit u) := fun w M M' v fp h => by simpa only [Ow] using h
theorem BlindL.nil : BlindL [] := fun w M M' v fp h => by simpa only [OwL] using h
theorem BlindL.cons {x : V} {xs : List V} (h : Blind x) (k : BlindL xs) : BlindL (x :: xs) := fun w M M' v fp hh => by
 simp only [OwL] at hh ⊢
 obtain ⟨u, us', f, f', rfl, rfl, h1, h2⟩ := hh
 exact ⟨u, us', f, f', rfl, rfl, h w M M' _ _ h1, k w M M' _ _ h2⟩
theorem BlindL.lits : ∀ {xs : List V}, xs.all litV = true → BlindL xs
 | [], _ => BlindL.nil
 | x :: xs, h => by
  simp only [List.all_cons, Bool.and_eq_true] at h
  refine BlindL.cons ?_ (BlindL.lits h.2)
  cases x with
  | lit u => exact Blind.lit u
  | _ => simp [litV] at h
theorem Blind.agg {xs : List V} (h : BlindL xs) : Blind (.agg xs) := fun w M M' v fp hh => by
 simp only [Ow] at hh ⊢
 obtain ⟨us, rfl, hh⟩ := hh
 exact ⟨us, rfl, h w M M' us fp hh⟩
theorem Blind.tup {xs : List V} (h : BlindL xs) : Blind (.tup xs) := fun w M M' v fp hh => by
 simp only [Ow] at hh ⊢
 obtain ⟨us, rfl, hh⟩ := hh
 exact ⟨us, rfl, h w M M' us fp hh⟩
theorem Blind.own {s n : Nat} {cs : List V} {full : Bool} (h : BlindL cs) : Blind (.own s n cs full) := fun w M M' v fp hh => by
 simp only [Ow] at hh ⊢
 obtain ⟨A, cap, rfl, hd, hh⟩ := hh
 refine ⟨A, cap, rfl, hd, ?_⟩
 rcases hh with hh | ⟨b, c, e, us, fp', rfl, rfl, hb, hcap, hl, hc⟩
 ·exact .inl hh
 ·exact .inr ⟨b, c, e, us, fp', rfl, rfl, hb, hcap, h w M M' us fp' hl, hc⟩
theorem eL_lit {α : Type} [Enc α] (h : ∀ x : α, (Enc.cells x).all litV = true) : ∀ xs : List α, (eL xs).all litV = true
 | [] => rfl
 | x :: xs => by simp only [eL, List.all_append, h x, eL_lit h xs, Bool.and_self]
theorem Blind.O {α : Type} [Enc α] (h : ∀ x : α, (Enc.cells x).all litV = true) (xs : List α) : Blind (D.O xs) := Blind.own (BlindL.lits (eL_lit h xs))
theorem Blind.E {α : Type} [Enc α] (x : α) (h : (Enc.cells x).all litV = true) (ha : Enc.agg α = true) : Blind (D.E x) := by
 unfold D.E
 rw [ha, cond_true]
 exact Blind.agg (BlindL.lits h)
section
variable {P : Program} {Γ : Ctx} {τ : Tau}
theorem SlL.views {H : Hp} {w : World} {M : Nat → Prop} {μ : Nat → Option Nat} {fp : Nat → List Nat} {G : Nat → Option Nat} (O : Own Γ M H w μ fp G) : ∀ {xs ys : List V} {vs : List Value}, SlL w M H μ xs vs → ViewL H xs ys → FrL w (fun _ => False) ys vs
 | [], ys, vs, h, k => by simp only [SlL] at h; simp only [ViewL] at k; subst k h; simp only [FrL]
 | x :: xs, ys, vs, h, k => by
  simp only [SlL] at h
  obtain ⟨u, us', rfl, h1, h2⟩ := h
  obtain ⟨y, ys', rfl, k1, k2⟩ := k
  simp only [FrL]
  exact ⟨u, us', rfl, k1 Γ w M μ fp G u O h1, SlL.views O h2 k2⟩
theorem CallAt.runV {ops : Array Oper} {j : Nat} {st : St} {d : Nat} {g : FuncId} {zs : List V} {o : Oper} {c : Call} {y : Operand} {xs caps : List V} (h : CallAt τ ops j st d g zs o c y xs caps) {zs' : List V} (hz : ViewL st.H zs zs') {out : V} (hok : OK P g zs' out) (hbl : Blind out)
  {a : Act} {w : World} {M : Nat → Prop} {μ : Nat → Option Nat} {fp : Nat → List Nat} {G : Nat → Option Nat} (Ow' : Own Γ M st.H w μ fp G) (hS : Slots st a w M μ) (K : Act → World → Prop) (Qc : Exit → Act → World → Prop)
  (hK : ∀ v w' fpn, Grew w w' → Ow w' (fun b => M b ∨ b ∈ fpn) out v fpn → fpn.Nodup → (∀ b ∈ fpn, w.heap.size ≤ b ∧ b < w'.heap.size) → K (a.put o.dst v) w') : o.wp P a w K Qc := by
 obtain ⟨us, hu, hus⟩ := fn_value hS h.fn
 have ha := (soft_slL (evalArgs_sound hS h.args)).append hus
 rw [← h.all] at ha
 have hfr := SlL.views Ow' ha hz
 refine wp_call h.op h.callee hu hok.1 (Calls.mono ?_ fun e w' he => he)
 have := hok.2 w _ (fun _ => False) (fun b hb => hb.elim) hfr
 have e1 : c.args.map a.eval ++ us.toArray = (c.args.toList.map a.eval ++ us).toArray := by apply Array.toList_inj.1; simp
 rw [e1]
 refine Calls.mono this fun e w' he => ?_
 obtain ⟨v, fpn, rfl, hg, how, hn, hb⟩ := he
 exact ⟨v, rfl, hK v w' fpn hg (hbl _ _ _ _ _ how) hn hb⟩
theorem callVV_sound {ops : Array Oper} {j : Nat} {st : St} {d : Nat} {g : FuncId} {xs xs' : List V} {out x : V} (h : callV τ ops j st = some (d, g, xs)) (hz : ViewL st.H xs xs') (hok : OK P g xs' out) (hbl : Blind out) (hf : FzTo out x) :
  ∃ o, AtOp ops st j o ∧ o.dst = some d ∧ d < st.nt ∧ YldG P Γ o st x := by
 obtain ⟨o, c, y, as, caps, hc⟩ := callV_spec h
 refine ⟨o, hc.at_, hc.dst, hc.lt, fun a w M μ fp G O' hS K Qc hK => ?_⟩
 refine hc.runV hz hok hbl O' hS K Qc fun v w' fpn hg how hn hb => ?_
 have hMf : ∀ b ∈ fpn, ¬ M b := fun b hbf hM => by have := O'.lt b hM; have := (hb b hbf).1; omega
 exact hK v w' hg (hf w' M _ v fpn how (fun b h => .inl h) hMf).sl
theorem opsP_callV (τ : Tau) {ops : Array Oper} {Q : Exit → St → Prop} {j : Nat} {st : St} (d : Nat) {g : FuncId} {xs xs' : List V} {out x : V} (hok : OK P g xs' out) (hbl : Blind out) (hf : FzTo out x) (h : callV τ ops j st = some (d, g, xs)) (hz : ViewL st.H xs xs')
  (hk : opsP P Γ ops Q (j + 1) (st.set d x)) : opsP P Γ ops Q j st := opsP_yld (callVV_sound h hz hok hbl hf) hk
theorem OwL.less {w : World} {M M' : Nat → Prop} {x : List V} {v : List Value} {fp : List Nat} (h : OwL w M x v fp) (hM : ∀ b, M' b → M b) : OwL w M' x v fp :=
 OwL.same (Same.refl w M) (fun b hb => .inl (hM b hb)) (fun b _ => rfl) h
theorem Carry.trans {w w1 w2 : World} {M M1 M2 : Nat → Prop} {H H1 H2 : Hp} {μ μ1 μ2 : Nat → Option Nat} (h : Carry w M H μ w1 M1 H1 μ1) (k : Carry w1 M1 H1 μ1 w2 M2 H2 μ2) : Carry w M H μ w2 M2 H2 μ2 := by
 refine ⟨⟨fun b o u hb hc => ?_, Nat.le_trans h.same.size k.same.size⟩, fun b hb => ?_, Nat.le_trans h.len k.len, fun j blk2 hj hb => ?_⟩
 ·refine k.same.cell b o u (fun hm => ?_) (h.same.cell b o u hb hc)
  have hlt : b < w.heap.size := World.block_lt_of_cell? _ _ hc
  rcases h.mem b hm with h1 | h1
  ·exact hb h1
  ·omega
 ·rcases k.mem b hb with h1 | h1
  ·exact h.mem b h1
  ·exact .inr (Nat.le_trans h.same.size h1)
 ·obtain ⟨blk1, b1, l1, e1⟩ := k.keys j blk2 (Nat.lt_of_lt_of_le hj h.len) hb
  obtain ⟨blk, b0, l0, e0⟩ := h.keys j blk1 hj b1
  refine ⟨blk, b0, Nat.le_trans l0 l1, fun e => ?_⟩
  obtain ⟨f0, g0⟩ := e0 (by omega)
  obtain ⟨f1, g1⟩ := e1 (by omega)
  exact ⟨f1.trans f0, fun b hb => (g0 b hb).trans (g1 b (f0.trans hb))⟩
theorem after_thawM {M : Nat → Prop} {H : Hp} {w w' : World} {μ : Nat → Option Nat} {fp : Nat → List Nat} {G : Nat → Option Nat} (O : Own Γ M H w μ fp G) {fpi : List Nat} (hg : Kept (· ∈ fpi) w w')
  (hfi : ∀ b ∈ fpi, M b ∧ G b = none ∧ ¬ Γ.M0 b ∧ (Γ.X b ∨ Γ.w0.heap.size ≤ b)) {out : V} {v : Value} {fpn : List Nat}
  (ho : Ow w' (fun b => M b ∧ b ∉ fpi ∨ b ∈ fpn) out v fpn) (hn : fpn.Nodup) (hb : ∀ b ∈ fpn, (b ∈ fpi ∨ w.heap.size ≤ b) ∧ b < w'.heap.size) :
  ∃ μ' fp' G', Own Γ (fun b => M b ∧ b ∉ fpi ∨ b ∈ fpn) (H ++ (thaw H.length out).2.map some) w' μ' fp' G' ∧
   Carry w M H μ w' (fun b => M b ∧ b ∉ fpi ∨ b ∈ fpn) (H ++ (thaw H.length out).2.map some) μ' ∧
   Sl w' (fun b => M b ∧ b ∉ fpi ∨ b ∈ fpn) (H ++ (thaw H.length out).2.map some) μ' (thaw H.length out).1 v := by
 obtain ⟨ps, hp, hs⟩ := thaw_sound ho H.length
 generalize hbs : (thaw H.length out).2 = bs at *
 let μ' : Nat → Option Nat := fun k => if k < H.length then μ k else (ps[k - H.length]?.map (·.1)).getD none
 let fp' : Nat → List Nat := fun k => if k < H.length then fp k else (ps[k - H.length]?.map (·.2)).getD []
 let G' : Nat → Option Nat := fun b => if b ∈ fpn then (ps.findIdx? fun p => p.all.contains b).map (H.length + ·) else G b
 have hholds : Holds (H ++ bs.map some) μ' H.length bs ps := by
  refine ⟨by simp, fun i blk p h1 h2 => ⟨?_, ?_⟩⟩
  ·rw [List.getElem?_append_right (by omega), Nat.add_sub_cancel_left, List.getElem?_map, h1]; rfl
  ·simp only [μ', if_neg (show ¬ (H.length + i < H.length) by omega), Nat.add_sub_cancel_left, h2, Option.map_some, Option.getD_some]
 have hold : ∀ k blk, k < H.length → (H ++ bs.map some)[k]? = some (some blk) → H[k]? = some (some blk) := fun k blk hk h => by rwa [List.getElem?_append_left hk] at h
 have hGn : ∀ b, G b ≠ none → b ∉ fpi := fun b h hf => h (hfi b hf).2.1
 have hGf : ∀ b, G b ≠ none → b ∉ fpn := fun b h hf => by
  rcases (hb b hf).1 with h1 | h1
  ·exact hGn b h h1
  ·have := O.lt b (O.sub b h); omega
 have hblk : ∀ b, G b ≠ none → w'.heap[b]? = w.heap[b]? := fun b h => hg.block b (O.lt b (O.sub b h)) (hGn b h)
 have C : Carry w M H μ w' (fun b => M b ∧ b ∉ fpi ∨ b ∈ fpn) (H ++ bs.map some) μ' := by
  refine ⟨hg.same fun b h => (hfi b h).1, fun b h => ?_, by simp, fun k blk' hk h => ?_⟩
  ·rcases h with h | h
   ·exact .inl h.1
   ·rcases (hb b h).1 with h1 | h1
    ·exact .inl (hfi b h1).1
    ·exact .inr h1
  ·have h' := hold k blk' hk h
   refine ⟨blk', h', Nat.le_refl _, fun _ => ⟨by simp only [μ', if_pos hk], fun b hbo => .of_eq (hblk b ?_)⟩⟩
   rw [((O.mine k blk' h').1 b hbo).1]; simp
 refine ⟨μ', fp', G', ?_, C, hs _ _ hholds⟩
 have hkey : ∀ k blk, ¬ k < H.length → (H ++ bs.map some)[k]? = some (some blk) → ∃ i p, k = H.length + i ∧ bs[i]? = some blk ∧ ps[i]? = some p ∧ μ' k = p.1 ∧ fp' k = p.2 := by
  intro k blk hk h
  rw [List.getElem?_append_right (by omega), List.getElem?_map] at h
  cases hbk : bs[k - H.length]? with
  | none => rw [hbk] at h; cases h
  | some blk' =>
   rw [hbk] at h
   cases h
   have hlt : k - H.length < ps.length := by rw [hp.len]; exact (List.getElem?_eq_some_iff.1 hbk).1
   refine ⟨k - H.length, ps[k - H.length], by omega, hbk, List.getElem?_eq_getElem hlt, ?_, ?_⟩
   ·simp only [μ', if_neg hk, List.getElem?_eq_getElem hlt, Option.map_some, Option.getD_some]
   ·simp only [fp', if_neg hk, List.getElem?_eq_getElem hlt, Option.map_some, Option.getD_some]
 have hnd : (ps.flatMap Piece.all).Nodup := by rw [← hp.all]; exact hn
 refine ⟨fun k blk h => ?_, fun k blk h => ?_, fun b h => ?_, fun b h => .inl ⟨O.m0 b h, fun hf => (hfi b hf).2.2.1 h⟩, fun b h => ?_, fun b h => ?_, fun b h => ?_, O.kept.trans hg fun b h => (hfi b h).2.2.2, fun i b hb => ?_⟩
 ·by_cases hk : k < H.length
  ·have h' := hold k blk hk h
   have := (O.blk k blk h').carry C (fun b e => hblk b (by rw [((O.mine k blk h').1 b e).1]; simp)) (fun b hx => hblk b (by rw [(O.mine k blk h').2.1 b hx]; simp))
   simp only [μ', fp', if_pos hk]
   exact this
  ·obtain ⟨i, p, rfl, h1, h2, h3, h4⟩ := hkey k blk hk h
   rw [h3, h4]
   exact (hp.ok i blk p h1 h2).blkR
 ·by_cases hk : k < H.length
  ·have h' := hold k blk hk h
   obtain ⟨m1, m2, m3⟩ := O.mine k blk h'
   simp only [μ', fp', if_pos hk]
   refine ⟨fun b e => ?_, fun b e => ?_, m3⟩
   ·obtain ⟨g1, g2⟩ := m1 b e
    have : b ∉ fpn := hGf b (by rw [g1]; simp)
    exact ⟨by simp only [G', if_neg this]; exact g1, g2⟩
   ·have g1 := m2 b e
    have : b ∉ fpn := hGf b (by rw [g1]; simp)
    simp only [G', if_neg this]
    exact g1
  ·obtain ⟨i, p, rfl, h1, h2, h3, h4⟩ := hkey k blk hk h
   rw [h3, h4]
   have hin : ∀ b, b ∈ p.all → b ∈ fpn := fun b hbp => by rw [hp.all]; exact List.mem_flatMap.2 ⟨p, List.mem_of_getElem? h2, hbp⟩
   have hpn : p.all.Nodup := nodup_piece hnd h2
   refine ⟨fun b e => ⟨?_, ?_⟩, fun b e => ?_, ?_⟩
   ·have hbp : b ∈ p.all := by simp [Piece.all, e]
    simp only [G', if_pos (hin b hbp), findIdx_piece hnd h2 hbp, Option.map_some]
   ·intro hbf
    have hnd' := hpn
    simp only [Piece.all, e, Option.toList_some, List.singleton_append, List.nodup_cons] at hnd'
    exact hnd'.1 hbf
   ·have hbp : b ∈ p.all := by simp [Piece.all, e]
    simp only [G', if_pos (hin b hbp), findIdx_piece hnd h2 hbp, Option.map_some]
   ·exact (List.nodup_append.1 hpn).2.1
 ·by_cases hf : b ∈ fpn
  ·exact .inr hf
  ·simp only [G', if_neg hf] at h
   exact .inl ⟨O.sub b h, hGn b h⟩
 ·rcases h with h | h
  ·exact Nat.lt_of_lt_of_le (O.lt b h.1) hg.size
  ·exact (hb b h).2
 ·by_cases hf : b ∈ fpn
  ·rcases (hb b hf).1 with h1 | h1
   ·exact (hfi b h1).2.2.2
   ·have := O.kept.size
    exact .inr (by omega)
  ·simp only [G', if_neg hf] at h
   exact O.new b h
 ·by_cases hf : b ∈ fpn
  ·rcases (hb b hf).1 with h1 | h1
   ·exact (hfi b h1).2.2.1
   ·exact fun h0 => by have := O.lt b (O.m0 b h0); omega
  ·simp only [G', if_neg hf] at h
   exact O.apart b h
 ·obtain ⟨p1, ⟨blk, p2⟩, p3⟩ := O.pin i b hb
  have hlt := (List.getElem?_eq_some_iff.1 p2).1
  exact ⟨by simp only [μ', if_pos hlt]; exact p1, ⟨blk, by rw [List.getElem?_append_left hlt]; exact p2⟩, p3.trans (.of_eq (hblk b (by rw [((O.mine i blk p2).1 b p1).1]; simp)))⟩
def OKm (P : Program) (f : FuncId) (ins : List V) (out : V) : Prop :=
 Callable P f ∧ ∀ (w : World) (vs : List Value) (M : Nat → Prop) (fpi : List Nat), (∀ b, M b → b < w.heap.size) → OwL w M ins vs fpi → fpi.Nodup → (∀ b ∈ fpi, M b) →
  Calls P f vs.toArray w fun e w' => ∃ v fp, e = .returned v ∧ Kept (· ∈ fpi) w w' ∧ Ow w' (fun b => M b ∧ b ∉ fpi ∨ b ∈ fp) out v fp ∧ fp.Nodup ∧ ∀ b ∈ fp, (b ∈ fpi ∨ w.heap.size ≤ b) ∧ b < w'.heap.size
theorem OKm_of_pwp (hT : TOK P τ) {f : FuncId} {fn : Func} {c : Code} {ins : List V} {out : V} {sl : List V} {bs : List Blk} (hf : P.funcs[f]? = some fn) (hb : fn.body = some c) (hnm : (fn.name == "runtime.NumGoroutine") = false)
  (hn : Nat.ble ins.length fn.ntmps = true) (hth : thawL 0 ins = (sl, bs)) (h : ∀ Γ, (∀ i b, ¬ Γ.L i b) → pwp P Γ c (Qret τ fn out) ⟨fn.ntmps, numbered 0 sl, bs.map some⟩) : OKm P f ins out := by
 refine ⟨⟨fn, hf, hnm, by rw [hb]; rfl⟩, fun w vs M fpi hM hv hnd hfi => ?_⟩
 let Γ : Ctx := ⟨w, fun b => M b ∧ b ∉ fpi, fun b => b ∈ fpi, fun _ _ => False⟩
 have hlen := hv.length
 have hle := Nat.le_of_ble_eq_true hn
 refine calls_of_wp hf hb ?_
 have O0 : Own Γ M [] w (fun _ => none) (fun _ => []) (fun _ => none) :=
  ⟨fun k blk h => by simp at h, fun k blk h => by simp at h, fun b h => absurd rfl h, fun b h => h.1, hM, fun b h => absurd rfl h, fun b h => absurd rfl h, Kept.refl _ w, fun _ b h => h.elim⟩
 have hOw : Ow w (fun b => M b ∧ b ∉ fpi ∨ b ∈ fpi) (.tup ins) (.tuple vs.toArray) fpi := by
  simp only [Ow]
  refine ⟨vs, rfl, ?_⟩
  refine hv.less fun b hb => ?_
  rcases hb with hb | hb
  ·exact hb.1
  ·exact hfi b hb
 obtain ⟨μ1, fp1, G1, O1, C1, hs1⟩ := after_thawM O0 (fpi := fpi) (Kept.refl _ w) (fun b hb => ⟨hfi b hb, rfl, fun h => h.2 hb, .inl hb⟩) hOw hnd (fun b hb => ⟨.inl hb, hM b (hfi b hb)⟩)
 simp only [List.nil_append, thaw, List.length_nil, hth] at O1 hs1
 simp only [Sl] at hs1
 obtain ⟨us, hus, hs1⟩ := hs1
 have hus' : us = vs := by
  have := congrArg (fun x => match x with | Value.tuple a => a.toList | _ => []) hus
  simpa using this.symm
 subst hus'
 have hll : sl.length = ins.length := by rw [← hs1.length]; exact hlen
 have hR : R Γ ⟨fn.ntmps, numbered 0 sl, bs.map some⟩ { tmps := us.toArray ++ Array.replicate (fn.ntmps - us.toArray.size) undef, defers := [] } w := by
  refine ⟨rfl, by simp; omega, _, μ1, fp1, G1, O1, ?_⟩
  intro s x hx
  have := numbered_sound hs1 [] (List.replicate (fn.ntmps - us.toArray.size) undef) s x hx
  obtain ⟨u, hu, hs⟩ := this
  refine ⟨u, ?_, hs⟩
  rw [← Array.getElem?_toList]
  simpa using hu
 refine wp_mono (h Γ (fun _ b hb => hb) _ _ hR) fun e a' w' q => ?_
 obtain ⟨st', ⟨he, x, ks, hx, ho, hk⟩, hd, hsz, M', μ, fp, G, O, hS⟩ := q
 obtain ⟨v, hv1, hv2⟩ := resV_sound (P := P) hT O hS hx
 have how := OutP.sound O ho hv2
 obtain ⟨hnd', hg⟩ := O.keys_nodup ks hk ho.live
 have key : ∃ v', (results fn a'.tmps).run P w' = .ok v' w' ∧ ∃ v fp', Ending.returned v' = .returned v ∧ Kept (· ∈ fpi) w w' ∧ Ow w' (fun b => M b ∧ b ∉ fpi ∨ b ∈ fp') out v fp' ∧ fp'.Nodup ∧ ∀ b ∈ fp', (b ∈ fpi ∨ w.heap.size ≤ b) ∧ b < w'.heap.size := by
  refine ⟨v, hv1, v, _, rfl, O.kept, how.less fun b hb => ?_, hnd', fun b hb => ?_⟩
  ·rcases hb with hb | hb
   ·exact O.m0 b hb
   ·obtain ⟨k, _, hgk⟩ := hg b hb
    exact O.sub b (by rw [hgk]; simp)
  ·obtain ⟨k, _, hgk⟩ := hg b hb
   have hne : G b ≠ none := by rw [hgk]; simp
   exact ⟨O.new b hne, O.lt b (O.sub b hne)⟩
 rcases he with rfl | rfl
 ·exact ⟨hd, key⟩
 ·exact ⟨hd, key⟩
def dropH (H : Hp) : List Nat → Hp
 | [] => H
 | k :: ks => dropH (H.set k none) ks
theorem dropH_len : ∀ (ks : List Nat) (H : Hp), (dropH H ks).length = H.length
 | [], H => rfl
 | k :: ks, H => by simp [dropH, dropH_len ks]
theorem dropH_get : ∀ (ks : List Nat) (H : Hp) (j : Nat) (blk : Blk), (dropH H ks)[j]? = some (some blk) → H[j]? = some (some blk) ∧ j ∉ ks
 | [], H, j, blk, h => ⟨h, by simp⟩
 | k :: ks, H, j, blk, h => by
  obtain ⟨h1, h2⟩ := dropH_get ks _ j blk h
  rw [List.getElem?_set] at h1
  split at h1
  ·rename_i e
   split at h1 <;> cases h1
  ·rename_i e
   exact ⟨h1, by simp only [List.mem_cons, not_or]; exact ⟨fun h => e h.symm, h2⟩⟩
theorem dropH_keep : ∀ (ks : List Nat) (H : Hp) (j : Nat), j ∉ ks → (dropH H ks)[j]? = H[j]?
 | [], H, j, _ => rfl
 | k :: ks, H, j, h => by
  simp only [List.mem_cons, not_or] at h
  simp only [dropH]
  rw [dropH_keep ks _ j h.2, List.getElem?_set_ne (fun e => h.1 e.symm)]
theorem Own.dropKeys {M : Nat → Prop} {H : Hp} {w : World} {μ : Nat → Option Nat} {fp : Nat → List Nat} {G : Nat → Option Nat} (O : Own Γ M H w μ fp G) (ks : List Nat) (hpin : ∀ i b, Γ.L i b → i ∉ ks) :
  Own Γ M (dropH H ks) w μ fp (fun b => match G b with | some k => if k ∈ ks then none else some k | none => none) ∧ Carry w M H μ w M (dropH H ks) μ := by
 have hG : ∀ b, (match G b with | some k => if k ∈ ks then none else some k | none => none) ≠ none → G b ≠ none := by
  intro b h hg
  rw [hg] at h
  exact h rfl
 have C : Carry w M H μ w M (dropH H ks) μ := ⟨Same.refl w M, fun b h => .inl h, by rw [dropH_len]; exact Nat.le_refl _, fun k blk' hk h => ⟨blk', (dropH_get ks H k blk' h).1, Nat.le_refl _, fun _ => ⟨rfl, fun b _ => .of_eq rfl⟩⟩⟩
 refine ⟨⟨fun k blk h => ?_, fun k blk h => ?_, fun b h => O.sub b (hG b h), O.m0, O.lt, fun b h => O.new b (hG b h), fun b h => O.apart b (hG b h), O.kept, fun i b hb => ?_⟩, C⟩
 ·obtain ⟨h1, h2⟩ := dropH_get ks H k blk h
  exact (O.blk k blk h1).carry C (fun b _ => rfl) (fun b _ => rfl)
 ·obtain ⟨h1, h2⟩ := dropH_get ks H k blk h
  obtain ⟨m1, m2, m3⟩ := O.mine k blk h1
  exact ⟨fun b e => ⟨by rw [(m1 b e).1]; simp only [if_neg h2], (m1 b e).2⟩, fun b e => by rw [m2 b e]; simp only [if_neg h2], m3⟩
 ·obtain ⟨p1, ⟨blk, p2⟩, p3⟩ := O.pin i b hb
  exact ⟨p1, ⟨blk, by rw [dropH_keep ks H i (hpin i b hb)]; exact p2⟩, p3⟩
theorem opsP_callM (τ : Tau) {ops : Array Oper} {Q : Exit → St → Prop} {j : Nat} {st : St} (d : Nat) (ks : List Nat) (hpin : ∀ i b, Γ.L i b → i ∉ ks) {g : FuncId} {xs ins : List V} {out x : V} {bs : List Blk} (hok : OKm P g ins out) (h : callV τ ops j st = some (d, g, xs)) (hm : OutL st.H xs ins ks) (hn : ks.Nodup)
  (hth : thaw st.H.length out = (x, bs))
  (hk : opsP P Γ ops Q (j + 1) ({ st with H := dropH st.H ks ++ bs.map some }.set d x)) : opsP P Γ ops Q j st := by
 obtain ⟨o, c, y, as, caps, hc⟩ := callV_spec h
 refine opsP_op hc.at_.op hc.at_.wanted fun a w r Qc => ?_
 obtain ⟨h1, h2, M, μ, fp, G, O', hS⟩ := r
 obtain ⟨us, hu, hus⟩ := fn_value hS hc.fn
 have ha := (soft_slL (evalArgs_sound hS hc.args)).append hus
 rw [← hc.all] at ha
 have how := OutL.sound O' hm ha
 obtain ⟨hnd, hg⟩ := O'.keys_nodup ks hn hm.live2
 generalize hfpi : (ks.flatMap fun k => (μ k).toList ++ fp k) = fpi at *
 refine wp_call hc.op hc.callee hu hok.1 (Calls.mono ?_ fun e w' he => he)
 have := hok.2 w _ M fpi O'.lt how hnd (fun b hb => by obtain ⟨k, _, hgk⟩ := hg b hb; exact O'.sub b (by rw [hgk]; simp))
 have e1 : c.args.map a.eval ++ us.toArray = (c.args.toList.map a.eval ++ us).toArray := by apply Array.toList_inj.1; simp
 rw [e1]
 refine Calls.mono this fun e w' he => ?_
 obtain ⟨v, fpn, rfl, hkept, how', hn', hb⟩ := he
 refine ⟨v, rfl, ?_⟩
 obtain ⟨O1, C1⟩ := O'.dropKeys ks hpin
 obtain ⟨μ2, fp2, G2, O2, C2, hs2⟩ := after_thawM O1 hkept (fun b hb => by
  obtain ⟨k, hkk, hgk⟩ := hg b hb
  have hne : G b ≠ none := by rw [hgk]; simp
  refine ⟨O'.sub b hne, by simp only [hgk, if_pos hkk], O'.apart b hne, ?_⟩
  exact O'.new b hne) how' hn' hb
 rw [dropH_len, hth] at O2 C2 hs2
 refine ⟨_, hk, ?_⟩
 have hst : ∀ st' : St, st'.put o.dst x = st'.set d x := fun st' => by rw [hc.dst]; rfl
 rw [← hst]
 exact R.step h1 h2 hS (C1.trans C2) O2 (fun d' hd' => by rw [hc.dst] at hd'; cases hd'; exact hc.lt) fun _ => hs2
end
end Go.D
