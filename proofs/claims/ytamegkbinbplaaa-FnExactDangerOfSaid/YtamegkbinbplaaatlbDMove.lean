import Derived.Test.YtamegkbinbplaaatlbDVal
set_option linter.unusedVariables false
namespace Go.D
structure Carry (w : World) (M : Nat → Prop) (H : Hp) (μ : Nat → Option Nat) (w' : World) (M' : Nat → Prop) (H' : Hp) (μ' : Nat → Option Nat) : Prop where
 same : Same w w' M
 mem : ∀ b, M' b → M b ∨ w.heap.size ≤ b
 len : H.length ≤ H'.length
 keys : ∀ k blk', k < H.length → H'[k]? = some (some blk') → ∃ blk, H[k]? = some (some blk) ∧ blk.ver ≤ blk'.ver ∧
  (blk.ver = blk'.ver → μ' k = μ k ∧ ∀ b, μ k = some b → Shape w w' b)
theorem RefR.shape {w w' : World} {m : Option Nat} {off s n : Nat} {full : Bool} {v : Value} (h : RefR w m off s n full v) (hs : ∀ b, m = some b → Shape w w' b) :
  RefR w' m off s n full v := by
 rcases h with h | ⟨b, cap, c, e, h0, h1, h2, h3, h4, h5, h6, h7⟩
 ·exact .inl h
 ·obtain ⟨c', e', h8, h9⟩ := hs b h0 c e h6
  exact .inr ⟨b, cap, c', e', h0, h1, h2, h3, h4, h5, h8, h9 ▸ h7⟩
mutual
theorem Sl.carry {w w' : World} {M M' : Nat → Prop} {H H' : Hp} {μ μ' : Nat → Option Nat} (C : Carry w M H μ w' M' H' μ') : ∀ {x : V} {v : Value}, Sl w M H μ x v → Sl w' M' H' μ' x v
 | .lit u, v, h => by simpa only [Sl] using h
 | .agg cs, v, h => by
  simp only [Sl] at h ⊢
  obtain ⟨us, rfl, h⟩ := h
  exact ⟨us, rfl, SlL.carry C h⟩
 | .tup cs, v, h => by
  simp only [Sl] at h ⊢
  obtain ⟨us, rfl, h⟩ := h
  exact ⟨us, rfl, SlL.carry C h⟩
 | .arr s n cs full, v, h => by
  simp only [Sl] at h ⊢
  exact Fr.same C.same C.mem h
 | .fptr cs off, v, h => by
  simp only [Sl] at h ⊢
  exact Fr.same C.same C.mem h
 | .fn f caps, v, h => by
  simp only [Sl] at h ⊢
  obtain ⟨us, rfl, h⟩ := h
  exact ⟨us, rfl, SlL.carry C h⟩
 | .own .., v, h => by simp only [Sl] at h
 | .obox .., v, h => by simp only [Sl] at h
 | .ref k ver off s n full, v, h => by
  simp only [Sl] at h ⊢
  obtain ⟨hk, hsh, h⟩ := h
  refine ⟨Nat.lt_of_lt_of_le hk C.len, hsh, fun blk' hb' => ?_⟩
  obtain ⟨blk, hb, hv, hc⟩ := C.keys k blk' hk hb'
  obtain ⟨h1, h2⟩ := h blk hb
  refine ⟨Nat.le_trans h1 hv, fun e => ?_⟩
  have e1 : blk.ver = blk'.ver := by omega
  obtain ⟨h3, h4⟩ := hc e1
  rw [h3]
  exact (h2 (e1.trans e)).shape h4
 | .ptr k ver off, v, h => by
  simp only [Sl] at h ⊢
  obtain ⟨hk, hsh, h⟩ := h
  refine ⟨Nat.lt_of_lt_of_le hk C.len, hsh, fun blk' hb' => ?_⟩
  obtain ⟨blk, hb, hv, hc⟩ := C.keys k blk' hk hb'
  obtain ⟨h1, h2⟩ := h blk hb
  refine ⟨Nat.le_trans h1 hv, fun e => ?_⟩
  have e1 : blk.ver = blk'.ver := by omega
  rw [(hc e1).1]
  exact h2 (e1.trans e)
 | .any, v, h => by simp only [Sl]
theorem SlL.carry {w w' : World} {M M' : Nat → Prop} {H H' : Hp} {μ μ' : Nat → Option Nat} (C : Carry w M H μ w' M' H' μ') : ∀ {xs : List V} {us : List Value}, SlL w M H μ xs us → SlL w' M' H' μ' xs us
 | [], us, h => by simpa only [SlL] using h
 | c :: cs, us, h => by
  simp only [SlL] at h ⊢
  obtain ⟨u, us', rfl, h1, h2⟩ := h
  exact ⟨u, us', rfl, Sl.carry C h1, SlL.carry C h2⟩
end
theorem Ce.carry {w w' : World} {M M' : Nat → Prop} {H H' : Hp} {μ μ' : Nat → Option Nat} (C : Carry w M H μ w' M' H' μ') {x : V} {v : Value} {fp : List Nat} (hh : Hold w w' fp) (h : Ce w M H μ x v fp) :
  Ce w' M' H' μ' x v fp := by
 rcases h with h | h
 ·exact .inl (Ow.same C.same C.mem hh h)
 ·exact .inr ⟨h.1, Sl.carry C h.2⟩
theorem CeL.carry {w w' : World} {M M' : Nat → Prop} {H H' : Hp} {μ μ' : Nat → Option Nat} (C : Carry w M H μ w' M' H' μ') : ∀ {xs : List V} {us : List Value} {fp : List Nat}, Hold w w' fp →
  CeL w M H μ xs us fp → CeL w' M' H' μ' xs us fp
 | [], us, fp, _, h => by simpa only [CeL] using h
 | c :: cs, us, fp, hh, h => by
  simp only [CeL] at h ⊢
  obtain ⟨u, us', f, f', rfl, rfl, h1, h2⟩ := h
  exact ⟨u, us', f, f', rfl, rfl, h1.carry C (fun x hx => hh x (by simp [hx])), CeL.carry C (fun x hx => hh x (by simp [hx])) h2⟩
theorem CeL.length {w : World} {M : Nat → Prop} {H : Hp} {μ : Nat → Option Nat} : ∀ {xs : List V} {us : List Value} {fp : List Nat}, CeL w M H μ xs us fp → us.length = xs.length
 | [], us, fp, h => by simp only [CeL] at h; simp [h.1]
 | c :: cs, us, fp, h => by
  simp only [CeL] at h
  obtain ⟨u, us', f, f', rfl, rfl, h1, h2⟩ := h
  simp [CeL.length h2]
theorem SlL.length {w : World} {M : Nat → Prop} {H : Hp} {μ : Nat → Option Nat} : ∀ {xs : List V} {us : List Value}, SlL w M H μ xs us → us.length = xs.length
 | [], us, h => by simp only [SlL] at h; simp [h]
 | c :: cs, us, h => by
  simp only [SlL] at h
  obtain ⟨u, us', rfl, h1, h2⟩ := h
  simp [SlL.length h2]
theorem BlkR.carry {w w' : World} {M M' : Nat → Prop} {H H' : Hp} {μ μ' : Nat → Option Nat} (C : Carry w M H μ w' M' H' μ') {m : Option Nat} {blk : Blk} {fp : List Nat} (hb : ∀ b, m = some b → w'.heap[b]? = w.heap[b]?)
  (hh : Hold w w' fp) (h : BlkR w M H μ m blk fp) : BlkR w' M' H' μ' m blk fp := by
 cases m with
 | some b =>
  obtain ⟨c, e, us, h2, h3, h4⟩ := h
  exact ⟨c, e, us, (hb b rfl).trans h2, CeL.carry C hh h3, h4.hold (hb b rfl)⟩
 | none => exact h
theorem Kept.same {w w' : World} {X : Nat → Prop} (h : Kept X w w') {M : Nat → Prop} (hX : ∀ b, X b → M b) : Same w w' M :=
 ⟨fun b o u hb hc => by
  have hlt : b < w.heap.size := World.block_lt_of_cell? _ _ hc
  have : w'.cell? ⟨b, o, none⟩ = w.cell? ⟨b, o, none⟩ := World.cell?_of_block (w := w) (a := ⟨b, o, none⟩) (h.block b hlt fun hx => hb (hX b hx))
  rw [this]; exact hc, h.size⟩
abbrev Grew (w w' : World) : Prop := Kept (fun _ => False) w w'
theorem Grew.carry {w w' : World} (h : Grew w w') (M : Nat → Prop) (H : Hp) (μ : Nat → Option Nat) (hl : ∀ k blk, H[k]? = some (some blk) → ∀ b, μ k = some b → b < w.heap.size) : Carry w M H μ w' M H μ :=
 ⟨h.same fun _ h => h.elim, fun _ hb => .inl hb, Nat.le_refl _, fun k blk' _ hb => ⟨blk', hb, Nat.le_refl _, fun _ => ⟨rfl, fun b hbo => .of_eq (h.block _ (hl k blk' hb b hbo) fun h => h)⟩⟩⟩
theorem Own.born_lt {Γ : Ctx} {M : Nat → Prop} {H : Hp} {w : World} {μ : Nat → Option Nat} {fp : Nat → List Nat} {G : Nat → Option Nat} (O : Own Γ M H w μ fp G) (k : Nat) (blk : Blk) (hb : H[k]? = some (some blk)) (b : Nat) (h : μ k = some b) : b < w.heap.size :=
 O.lt _ (O.sub _ (by rw [((O.mine k blk hb).1 b h).1]; simp))
theorem Own.fp_lt {Γ : Ctx} {M : Nat → Prop} {H : Hp} {w : World} {μ : Nat → Option Nat} {fp : Nat → List Nat} {G : Nat → Option Nat} (O : Own Γ M H w μ fp G) (k : Nat) (blk : Blk) (hb : H[k]? = some (some blk)) (b : Nat) (h : b ∈ fp k) : b < w.heap.size :=
 O.lt _ (O.sub _ (by rw [(O.mine k blk hb).2.1 b h]; simp))
theorem Own.grew {Γ : Ctx} {M : Nat → Prop} {H : Hp} {w w' : World} {μ : Nat → Option Nat} {fp : Nat → List Nat} {G : Nat → Option Nat} (O : Own Γ M H w μ fp G) (h : Grew w w') : Own Γ M H w' μ fp G where
 blk k blk hb := by
  have hbo := O.born_lt k blk hb
  exact (O.blk k blk hb).carry (h.carry _ H μ fun k blk hb => O.born_lt k blk hb) (fun b e => h.block b (hbo b e) fun h => h) fun b hx => h.block b (O.fp_lt k blk hb b hx) fun h => h
 mine := O.mine
 sub := O.sub
 m0 := O.m0
 lt b hb := Nat.lt_of_lt_of_le (O.lt b hb) h.size
 new := O.new
 apart := O.apart
 kept := O.kept.trans h fun _ h => h.elim
 pin i b hb := by
  obtain ⟨p1, ⟨blk, p2⟩, p3⟩ := O.pin i b hb
  exact ⟨p1, ⟨blk, p2⟩, p3.trans (.of_eq (h.block b (O.born_lt i blk p2 b p1) fun h => h))⟩
def look : List (Nat × V) → Nat → Option V
 | [], _ => none
 | (k, v) :: r, s => bif Nat.beq k s then some v else look r s
theorem look_mem : ∀ {l : List (Nat × V)} {s : Nat} {v : V}, look l s = some v → (s, v) ∈ l
 | [], _, _, h => by cases h
 | (k, u) :: r, s, v, h => by
  simp only [look] at h
  cases hb : Nat.beq k s with
  | true =>
   rw [hb] at h
   have := Nat.eq_of_beq_eq_true hb
   subst this
   simp only [cond_true, Option.some.injEq] at h
   subst h
   simp
  | false =>
   rw [hb] at h
   exact List.mem_cons_of_mem _ (look_mem h)
def drop1 : List (Nat × V) → Nat → List (Nat × V)
 | [], _ => []
 | (k, v) :: r, s => bif Nat.beq k s then drop1 r s else (k, v) :: drop1 r s
theorem mem_drop1 : ∀ {l : List (Nat × V)} {s t : Nat} {v : V}, (t, v) ∈ drop1 l s → t ≠ s ∧ (t, v) ∈ l
 | [], _, _, _, h => by cases h
 | (k, u) :: r, s, t, v, h => by
  simp only [drop1] at h
  cases hb : Nat.beq k s with
  | true =>
   rw [hb] at h
   exact ⟨(mem_drop1 h).1, List.mem_cons_of_mem _ (mem_drop1 h).2⟩
  | false =>
   rw [hb] at h
   simp only [cond_false, List.mem_cons, Prod.mk.injEq] at h
   rcases h with ⟨rfl, rfl⟩ | h
   ·exact ⟨fun e => by rw [e] at hb; simp at hb, by simp⟩
   ·exact ⟨(mem_drop1 h).1, List.mem_cons_of_mem _ (mem_drop1 h).2⟩
def St.set (st : St) (d : Nat) (x : V) : St := { st with tmps := (d, x) :: drop1 st.tmps d }
def St.put (st : St) (d : Option Nat) (x : V) : St := match d with | some d => st.set d x | none => st
def evalV (st : St) : Operand → Option V
 | .tmp t => look st.tmps t
 | .const v => some (.lit v)
 | .func f => some (.fn f [])
 | .global _ => none
theorem Act.eval_tmp {a : Act} {t : Nat} {u : Value} (h : a.tmps[t]? = some u) : a.eval (.tmp t) = u := by
 simp [Act.eval, Array.getD_eq_getD_getElem?, h]
theorem evalV_sound {st : St} {a : Act} {w : World} {M : Nat → Prop} {μ : Nat → Option Nat} (hT : Slots st a w M μ) {y : Operand} {x : V} (h : evalV st y = some x) : Sl w M st.H μ x (a.eval y) := by
 cases y with
 | tmp t =>
  obtain ⟨u, hu, hs⟩ := hT t x (look_mem h)
  rw [Act.eval_tmp hu]; exact hs
 | const v => simp only [evalV, Option.some.injEq] at h; subst h; simp only [Sl]; rfl
 | func f => simp only [evalV, Option.some.injEq] at h; subst h; simp only [Sl, SlL]; exact ⟨[], rfl, rfl⟩
 | global g => simp [evalV] at h
theorem put_get {a : Act} {d t : Nat} {u v : Value} (hne : t ≠ d) (h : a.tmps[t]? = some u) : (a.put (some d) v).tmps[t]? = some u := by
 simp only [Act.put]
 rw [Array.getElem?_setIfInBounds_ne (Ne.symm hne)]
 exact h
theorem put_same {a : Act} {d : Nat} {v : Value} (h : d < a.tmps.size) : (a.put (some d) v).tmps[d]? = some v := by
 simp only [Act.put]
 rw [Array.getElem?_setIfInBounds_self_of_lt h]
theorem put_size {a : Act} {d : Option Nat} {v : Value} : (a.put d v).tmps.size = a.tmps.size := by
 cases d <;> simp [Act.put]
theorem put_defers {a : Act} {d : Option Nat} {v : Value} : (a.put d v).defers = a.defers := by
 cases d <;> rfl
theorem R.step {Γ : Ctx} {st : St} {a : Act} {w w' : World} {M M' : Nat → Prop} {μ μ' : Nat → Option Nat} {fp' : Nat → List Nat} {G' : Nat → Option Nat} {H' : Hp} {d : Option Nat} {x : V} {u : Value}
  (hd : a.defers = []) (hn : a.tmps.size = st.nt) (hT : Slots st a w M μ)
  (C : Carry w M st.H μ w' M' H' μ') (O' : Own Γ M' H' w' μ' fp' G')
  (hlt : ∀ d', d = some d' → d' < st.nt)
  (hx : d ≠ none → Sl w' M' H' μ' x u) : R Γ ({ st with H := H' }.put d x) (a.put d u) w' := by
 refine ⟨put_defers.trans hd, ?_, M', μ', fp', G', ?_⟩
 ·rw [put_size, hn]; cases d <;> rfl
 ·have hH : ({ st with H := H' } : St).put d x = { nt := st.nt, tmps := (({ st with H := H' } : St).put d x).tmps, H := H' } := by cases d <;> rfl
  rw [hH]
  refine ⟨O', fun s y hy => ?_⟩
  cases d with
  | none =>
   obtain ⟨v, h1, h2⟩ := hT s y hy
   exact ⟨v, h1, h2.carry C⟩
  | some d =>
   simp only [St.put, St.set, List.mem_cons, Prod.mk.injEq] at hy
   rcases hy with ⟨rfl, rfl⟩ | hy
   ·exact ⟨u, put_same (by rw [hn]; exact hlt _ rfl), hx (by simp)⟩
   ·obtain ⟨hne, hy⟩ := mem_drop1 hy
    obtain ⟨v, h1, h2⟩ := hT s y hy
    exact ⟨v, put_get hne h1, h2.carry C⟩
theorem R.undef {Γ : Ctx} {st : St} {a : Act} {w : World} (h : R Γ st a w) (d : Option Nat) (hd : ∀ d', d = some d' → d' < st.nt) : R Γ (st.put d (.lit undef)) (a.put d undef) w := by
 obtain ⟨h1, h2, M, μ, fp, G, O, hT⟩ := h
 cases d with
 | none => exact ⟨h1, h2, M, μ, fp, G, O, hT⟩
 | some d =>
  refine ⟨h1, by rw [put_size, h2]; rfl, M, μ, fp, G, O, fun s y hy => ?_⟩
  simp only [St.put, St.set, List.mem_cons, Prod.mk.injEq] at hy
  rcases hy with ⟨rfl, rfl⟩ | hy
  ·exact ⟨Go.undef, put_same (by rw [h2]; exact hd _ rfl), by simp only [Sl]⟩
  ·obtain ⟨hne, hy⟩ := mem_drop1 hy
   obtain ⟨v, h3, h4⟩ := hT s y hy
   exact ⟨v, put_get hne h3, h4⟩
theorem R.weaken {Γ : Ctx} {st : St} {a : Act} {w : World} (h : R Γ st a w) {l : List (Nat × V)} (hl : ∀ s x, (s, x) ∈ l → (s, x) ∈ st.tmps) : R Γ { st with tmps := l } a w := by
 obtain ⟨hd, hn, M, μ, fp, G, O, hT⟩ := h
 exact ⟨hd, hn, M, μ, fp, G, O, fun s x hx => hT s x (hl s x hx)⟩
end Go.D
