import Derived.Test.YtlcjmombcnkfcaaGreatBdDOwn
set_option linter.unusedVariables false
namespace Go.D
def View (H : Hp) (x y : V) : Prop := ∀ (Γ : Ctx) (w : World) (M : Nat → Prop) (μ : Nat → Option Nat) (fp : Nat → List Nat) (G : Nat → Option Nat) (v : Value), Own Γ M H w μ fp G → Sl w M H μ x v → Fr w (fun _ => False) y v
def ViewL (H : Hp) : List V → List V → Prop
 | [], ys => ys = []
 | x :: xs, ys => ∃ y ys', ys = y :: ys' ∧ View H x y ∧ ViewL H xs ys'
theorem View.frz {H : Hp} {x : V} (h : frz x = true) : View H x x := fun Γ w M μ fp G v O hs => (hs.fr h).same (Same.refl w M) (fun b hb => hb.elim)
theorem ViewL.nil (H : Hp) : ViewL H [] [] := rfl
theorem ViewL.cons {H : Hp} {x y : V} {xs ys : List V} (h : View H x y) (k : ViewL H xs ys) : ViewL H (x :: xs) (y :: ys) := ⟨y, ys, rfl, h, k⟩
theorem ViewL.frz {H : Hp} : ∀ {xs : List V}, frzL xs = true → ViewL H xs xs
 | [], _ => rfl
 | x :: xs, h => by
  simp only [frzL, Bool.and_eq_true] at h
  exact ⟨x, xs, rfl, View.frz h.1, ViewL.frz h.2⟩
theorem View.ref {α : Type} [Enc α] {H : Hp} {k ver v lo : Nat} {full : Bool} (xs ys : List α) {n : Nat} (hb : blkAt H k ver = some ⟨v, eL xs⟩) (hy : (xs.drop lo).take ys.length = ys) (hn : ys.length = n) : View H (.ref k ver (lo * Enc.sz α) (Enc.sz α) n full) (.arr (Enc.sz α) n (eL ys) full) := by
 intro Γ w M μ fp G u O hs
 subst hn
 obtain ⟨b1, b2⟩ := blkAt_spec hb
 simp only [Sl] at hs
 have hr := (hs.2.2 _ b1).2 b2
 have hbl := O.blk k _ b1
 simp only [Fr]
 rcases hr with ⟨A, rfl, h0, hs0⟩ | ⟨b, cap, c, e, hm, rfl, hs0, hle, hmax, hf, hh, hcs⟩
 ·have : ys = [] := List.length_eq_zero_iff.1 h0
  subst this
  exact ⟨A, 0, rfl, ⟨hs0, by simp [eL], by simp, by unfold maxI; omega, fun _ => rfl⟩, .inl rfl⟩
 ·refine ⟨_, cap, rfl, ⟨hs0, (eL_len ys).symm, hle, hmax, hf⟩, ?_⟩
  rw [hm] at hbl
  obtain ⟨c', e', us, hh', hcl, hlie⟩ := hbl
  have hfr := (hcl.frL (eL_frz xs)).1
  refine .inr ⟨b, lo * Enc.sz α, (us.drop (lo * Enc.sz α)).take (ys.length * Enc.sz α), rfl, (Array.getElem?_eq_some_iff.1 hh).1, fun h => h, ?_, ?_⟩
  ·have h1 := (hfr.drop (lo * Enc.sz α)).take (ys.length * Enc.sz α)
   rw [eL_drop, eL_take, hy] at h1
   exact h1.same (Same.refl w M) (fun b hb => hb.elim)
  ·have := hlie.sub (lo * Enc.sz α) (ys.length * Enc.sz α)
   rwa [Nat.zero_add] at this
theorem View.whole {α : Type} [Enc α] {H : Hp} {k ver v : Nat} {full : Bool} (xs : List α) {n : Nat} (hb : blkAt H k ver = some ⟨v, eL xs⟩) (hn : xs.length = n) : View H (.ref k ver 0 (Enc.sz α) n full) (.arr (Enc.sz α) n (eL xs) full) := by
 have := View.ref (lo := 0) (full := full) xs xs hb (by simp) hn
 rwa [Nat.zero_mul] at this
theorem View.box {H : Hp} {k ver v off : Nat} {cs : List V} (hb : blkAt H k ver = some ⟨v, cs⟩) (hf : cs.all frozenV = true) : View H (.ptr k ver off) (.fptr cs off) := by
 intro Γ w M μ fp G u O hs
 obtain ⟨b1, b2⟩ := blkAt_spec hb
 obtain ⟨b, hm, rfl⟩ := hs.ptr_at hb
 have hbl := O.blk k _ b1
 rw [hm] at hbl
 obtain ⟨c', e', us, hh', hcl, hlie⟩ := hbl
 have hfr := (hcl.frL hf).1
 simp only [Fr]
 refine ⟨b, 0, us, by simp, (Array.getElem?_eq_some_iff.1 hh').1, fun h => h, hfr.same (Same.refl w M) (fun b hb => hb.elim), hlie⟩
def Blind (out : V) : Prop := ∀ (w : World) (M M' : Nat → Prop) (v : Value) (fp : List Nat), Ow w M out v fp → Ow w M' out v fp
def BlindL (out : List V) : Prop := ∀ (w : World) (M M' : Nat → Prop) (v : List Value) (fp : List Nat), OwL w M out v fp → OwL w M' out v fp
def litV : V → Bool
 | .lit _ => true
 | _ => false
theorem Blind.lit (u : Value) : Blind (.lit u) := fun w M M' v fp h => by simpa only [Ow] using h
theorem BlindL.nil : BlindL [] := fun w M M' v fp h => by simpa only [OwL] using h
theorem BlindL.cons {x : V} {xs : List V} (h : Blind x) (k : BlindL xs) : BlindL (x :: xs) := fun w M M' v fp hh => by
 simp only [OwL] at hh ⊢
 obtain ⟨u, us', f, f', rfl, rfl, h1, h2⟩ := hh
 exact ⟨u, us', f, f', rfl, rfl, h w M M' _ _ h1, k w M M' _ _ h2⟩
theorem BlindL.lits : ∀ {xs : List V}, xs.all litV = true → BlindL xs
 | [], _ => BlindL.nil
 | x :: xs, h => by
  simp only [List.all_cons, Bool.and_eq_true] at h
  refine BlindL.cons ?_ (BlindL.lits h.2)
  cases x with
  | lit u => exact Blind.lit u
  | _ => simp [litV] at h
theorem Blind.agg {xs : List V} (h : BlindL xs) : Blind (.agg xs) := fun w M M' v fp hh => by
 simp only [Ow] at hh ⊢
 obtain ⟨us, rfl, hh⟩ := hh
 exact ⟨us, rfl, h w M M' us fp hh⟩
theorem Blind.tup {xs : List V} (h : BlindL xs) : Blind (.tup xs) := fun w M M' v fp hh => by
 simp only [Ow] at hh ⊢
 obtain ⟨us, rfl, hh⟩ := hh
 exact ⟨us, rfl, h w M M' us fp hh⟩
theorem Blind.own {s n : Nat} {cs : List V} {full : Bool} (h : BlindL cs) : Blind (.own s n cs full) := fun w M M' v fp hh => by
 simp only [Ow] at hh ⊢
 obtain ⟨A, cap, rfl, hd, hh⟩ := hh
 refine ⟨A, cap, rfl, hd, ?_⟩
 rcases hh with hh | ⟨b, c, e, us, fp', rfl, rfl, hb, hcap, hl, hc⟩
 ·exact .inl hh
 ·exact .inr ⟨b, c, e, us, fp', rfl, rfl, hb, hcap, h w M M' us fp' hl, hc⟩
theorem eL_lit {α : Type} [Enc α] (h : ∀ x : α, (Enc.cells x).all litV = true) : ∀ xs : List α, (eL xs).all litV = true
 | [] => rfl
 | x :: xs => by simp only [eL, List.all_append, h x, eL_lit h xs, Bool.and_self]
theorem Blind.O {α : Type} [Enc α] (h : ∀ x : α, (Enc.cells x).all litV = true) (xs : List α) : Blind (D.O xs) := Blind.own (BlindL.lits (eL_lit h xs))
theorem Blind.E {α : Type} [Enc α] (x : α) (h : (Enc.cells x).all litV = true) (ha : Enc.agg α = true) : Blind (D.E x) := by
 unfold D.E
 rw [ha, cond_true]
 exact Blind.agg (BlindL.lits h)
section
variable {P : Program} {Γ : Ctx} {τ : Tau}
theorem SlL.views {H : Hp} {w : World} {M : Nat → Prop} {μ : Nat → Option Nat} {fp : Nat → List Nat} {G : Nat → Option Nat} (O : Own Γ M H w μ fp G) : ∀ {xs ys : List V} {vs : List Value}, SlL w M H μ xs vs → ViewL H xs ys → FrL w (fun _ => False) ys vs
 | [], ys, vs, h, k => by simp only [SlL] at h; simp only [ViewL] at k; subst k h; simp only [FrL]
 | x :: xs, ys, vs, h, k => by
  simp only [SlL] at h
  obtain ⟨u, us', rfl, h1, h2⟩ := h
  obtain ⟨y, ys', rfl, k1, k2⟩ := k
  simp only [FrL]
  exact ⟨u, us', rfl, k1 Γ w M μ fp G u O h1, SlL.views O h2 k2⟩
theorem CallAt.runV {ops : Array Oper} {j : Nat} {st : St} {d : Nat} {g : FuncId} {zs : List V} {o : Oper} {c : Call} {y : Operand} {xs caps : List V} (h : CallAt τ ops j st d g zs o c y xs caps) {zs' : List V} (hz : ViewL st.H zs zs') {out : V} (hok : OK P g zs' out) (hbl : Blind out)
  {a : Act} {w : World} {M : Nat → Prop} {μ : Nat → Option Nat} {fp : Nat → List Nat} {G : Nat → Option Nat} (Ow' : Own Γ M st.H w μ fp G) (hS : Slots st a w M μ) (K : Act → World → Prop) (Qc : Exit → Act → World → Prop)
  (hK : ∀ v w' fpn, Grew w w' → Ow w' (fun b => M b ∨ b ∈ fpn) out v fpn → fpn.Nodup → (∀ b ∈ fpn, w.heap.size ≤ b ∧ b < w'.heap.size) → K (a.put o.dst v) w') : o.wp P a w K Qc := by
 obtain ⟨us, hu, hus⟩ := fn_value hS h.fn
 have ha := (soft_slL (evalArgs_sound hS h.args)).append hus
 rw [← h.all] at ha
 have hfr := SlL.views Ow' ha hz
 refine wp_call h.op h.callee hu hok.1 (Calls.mono ?_ fun e w' he => he)
 have := hok.2 w _ (fun _ => False) (fun b hb => hb.elim) hfr
 have e1 : c.args.map a.eval ++ us.toArray = (c.args.toList.map a.eval ++ us).toArray := by apply Array.toList_inj.1; simp
 rw [e1]
 refine Calls.mono this fun e w' he => ?_
 obtain ⟨v, fpn, rfl, hg, how, hn, hb⟩ := he
 exact ⟨v, rfl, hK v w' fpn hg (hbl _ _ _ _ _ how) hn hb⟩
theorem callVV_sound {ops : Array Oper} {j : Nat} {st : St} {d : Nat} {g : FuncId} {xs xs' : List V} {out x : V} (h : callV τ ops j st = some (d, g, xs)) (hz : ViewL st.H xs xs') (hok : OK P g xs' out) (hbl : Blind out) (hf : FzTo out x) :
  ∃ o, AtOp ops st j o ∧ o.dst = some d ∧ d < st.nt ∧ YldG P Γ o st x := by
 obtain ⟨o, c, y, as, caps, hc⟩ := callV_spec h
 refine ⟨o, hc.at_, hc.dst, hc.lt, fun a w M μ fp G O' hS K Qc hK => ?_⟩
 refine hc.runV hz hok hbl O' hS K Qc fun v w' fpn hg how hn hb => ?_
 have hMf : ∀ b ∈ fpn, ¬ M b := fun b hbf hM => by have := O'.lt b hM; have := (hb b hbf).1; omega
 exact hK v w' hg (hf w' M _ v fpn how (fun b h => .inl h) hMf).sl
theorem opsP_callV (τ : Tau) {ops : Array Oper} {Q : Exit → St → Prop} {j : Nat} {st : St} (d : Nat) {g : FuncId} {xs xs' : List V} {out x : V} (hok : OK P g xs' out) (hbl : Blind out) (hf : FzTo out x) (h : callV τ ops j st = some (d, g, xs)) (hz : ViewL st.H xs xs')
  (hk : opsP P Γ ops Q (j + 1) (st.set d x)) : opsP P Γ ops Q j st := opsP_yld (callVV_sound h hz hok hbl hf) hk
theorem OwL.less {w : World} {M M' : Nat → Prop} {x : List V} {v : List Value} {fp : List Nat} (h : OwL w M x v fp) (hM : ∀ b, M' b → M b) : OwL w M' x v fp :=
 OwL.same (Same.refl w M) (fun b hb => .inl (hM b hb)) (fun b _ => rfl) h
theorem Carry.trans {w w1 w2 : World} {M M1 M2 : Nat → Prop} {H H1 H2 : Hp} {μ μ1 μ2 : Nat → Option Nat} (h : Carry w M H μ w1 M1 H1 μ1) (k : Carry w1 M1 H1 μ1 w2 M2 H2 μ2) : Carry w M H μ w2 M2 H2 μ2 := by
 refine ⟨⟨fun b o u hb hc => ?_, Nat.le_trans h.same.size k.same.size⟩, fun b hb => ?_, Nat.le_trans h.len k.len, fun j blk2 hj hb => ?_⟩
 ·refine k.same.cell b o u (fun hm => ?_) (h.same.cell b o u hb hc)
  have hlt : b < w.heap.size := World.block_lt_of_cell? _ _ hc
  rcases h.mem b hm with h1 | h1
  ·exact hb h1
  ·omega
 ·rcases k.mem b hb with h1 | h1
  ·exact h.mem b h1
  ·exact .inr (Nat.le_trans h.same.size h1)
 ·obtain ⟨blk1, b1, l1, e1⟩ := k.keys j blk2 (Nat.lt_of_lt_of_le hj h.len) hb
  obtain ⟨blk, b0, l0, e0⟩ := h.keys j blk1 hj b1
  refine ⟨blk, b0, Nat.le_trans l0 l1, fun e => ?_⟩
  obtain ⟨f0, g0⟩ := e0 (by omega)
  obtain ⟨f1, g1⟩ := e1 (by omega)
  exact ⟨f1.trans f0, fun b hb => (g0 b hb).trans (g1 b (f0.trans hb))⟩
def dropH (H : Hp) : List Nat → Hp
 | [] => H
 | k :: ks => dropH (H.set k none) ks
theorem dropH_len : ∀ (ks : List Nat) (H : Hp), (dropH H ks).length = H.length
 | [], H => rfl
 | k :: ks, H => by simp [dropH, dropH_len ks]
theorem dropH_get : ∀ (ks : List Nat) (H : Hp) (j : Nat) (blk : Blk), (dropH H ks)[j]? = some (some blk) → H[j]? = some (some blk) ∧ j ∉ ks
 | [], H, j, blk, h => ⟨h, by simp⟩
 | k :: ks, H, j, blk, h => by
  obtain ⟨h1, h2⟩ := dropH_get ks _ j blk h
  rw [List.getElem?_set] at h1
  split at h1
  ·rename_i e
   split at h1 <;> cases h1
  ·rename_i e
   exact ⟨h1, by simp only [List.mem_cons, not_or]; exact ⟨fun h => e h.symm, h2⟩⟩
theorem dropH_keep : ∀ (ks : List Nat) (H : Hp) (j : Nat), j ∉ ks → (dropH H ks)[j]? = H[j]?
 | [], H, j, _ => rfl
 | k :: ks, H, j, h => by
  simp only [List.mem_cons, not_or] at h
  simp only [dropH]
  rw [dropH_keep ks _ j h.2, List.getElem?_set_ne (fun e => h.1 e.symm)]
theorem Own.dropKeys {M : Nat → Prop} {H : Hp} {w : World} {μ : Nat → Option Nat} {fp : Nat → List Nat} {G : Nat → Option Nat} (O : Own Γ M H w μ fp G) (ks : List Nat) (hpin : ∀ i b, Γ.L i b → i ∉ ks) :
  Own Γ M (dropH H ks) w μ fp (fun b => match G b with | some k => if k ∈ ks then none else some k | none => none) ∧ Carry w M H μ w M (dropH H ks) μ := by
 have hG : ∀ b, (match G b with | some k => if k ∈ ks then none else some k | none => none) ≠ none → G b ≠ none := by
  intro b h hg
  rw [hg] at h
  exact h rfl
 have C : Carry w M H μ w M (dropH H ks) μ := ⟨Same.refl w M, fun b h => .inl h, by rw [dropH_len]; exact Nat.le_refl _, fun k blk' hk h => ⟨blk', (dropH_get ks H k blk' h).1, Nat.le_refl _, fun _ => ⟨rfl, fun b _ => .of_eq rfl⟩⟩⟩
 refine ⟨⟨fun k blk h => ?_, fun k blk h => ?_, fun b h => O.sub b (hG b h), O.m0, O.lt, fun b h => O.new b (hG b h), fun b h => O.apart b (hG b h), O.kept, fun i b hb => ?_⟩, C⟩
 ·obtain ⟨h1, h2⟩ := dropH_get ks H k blk h
  exact (O.blk k blk h1).carry C (fun b _ => rfl) (fun b _ => rfl)
 ·obtain ⟨h1, h2⟩ := dropH_get ks H k blk h
  obtain ⟨m1, m2, m3⟩ := O.mine k blk h1
  exact ⟨fun b e => ⟨by rw [(m1 b e).1]; simp only [if_neg h2], (m1 b e).2⟩, fun b e => by rw [m2 b e]; simp only [if_neg h2], m3⟩
 ·obtain ⟨p1, ⟨blk, p2⟩, p3⟩ := O.pin i b hb
  exact ⟨p1, ⟨blk, by rw [dropH_keep ks H i (hpin i b hb)]; exact p2⟩, p3⟩
end
end Go.D
