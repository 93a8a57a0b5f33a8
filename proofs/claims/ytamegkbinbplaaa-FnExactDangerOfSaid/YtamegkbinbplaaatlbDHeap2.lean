import Derived.Test.YtamegkbinbplaaatlbDHeap
import Derived.Deep.AppendSrc
import Derived.Laws.AppendOwn
set_option linter.unusedVariables false
namespace Go.D
def cellV : V → Bool
 | .lit v => isOne v
 | .arr .. => true
 | .fptr .. => true
 | .fn .. => true
 | .ref .. => true
 | .ptr .. => true
 | _ => false
section
variable {P : Program} {Γ : Ctx} {τ : Tau} {w : World} {M : Nat → Prop} {H : Hp} {μ : Nat → Option Nat}
theorem Sl.one {x : V} {u : Value} (h : Sl w M H μ x u) (hc : cellV x = true) : u.oneCell' = true := by
 cases x with
 | lit v => simp only [Sl] at h; subst h; cases u <;> first | rfl | cases hc
 | arr s n cs full => simp only [Sl, Fr] at h; obtain ⟨A, cap, rfl, _⟩ := h; rfl
 | fptr cs off => simp only [Sl, Fr] at h; obtain ⟨b, o, us, rfl, _⟩ := h; rfl
 | fn f cs => simp only [Sl] at h; obtain ⟨us, rfl, _⟩ := h; rfl
 | ref k ver off s n full => simp only [Sl] at h; obtain ⟨_, ⟨A, m, c, rfl⟩, _⟩ := h; rfl
 | ptr k ver off => simp only [Sl] at h; obtain ⟨_, ⟨a, rfl⟩, _⟩ := h; rfl
 | _ => cases hc
theorem SlL.one : ∀ {xs : List V} {us : List Value}, SlL w M H μ xs us → xs.all cellV = true → ∀ u ∈ us, u.oneCell' = true
 | [], us, h, _, u, hu => by simp only [SlL] at h; subst h; cases hu
 | c :: cs, us, h, hc, u, hu => by
  simp only [SlL] at h
  obtain ⟨v, us', rfl, h1, h2⟩ := h
  simp only [List.all_cons, Bool.and_eq_true] at hc
  rcases List.mem_cons.1 hu with rfl | hu
  ·exact h1.one hc.1
  ·exact SlL.one h2 hc.2 u hu
theorem SlL.ceL : ∀ {xs : List V} {us : List Value}, SlL w M H μ xs us → CeL w M H μ xs us []
 | [], us, h => by simp only [SlL] at h; simp only [CeL]; exact ⟨h, trivial⟩
 | c :: cs, us, h => by
  simp only [SlL] at h
  obtain ⟨v, us', rfl, h1, h2⟩ := h
  simp only [CeL]
  exact ⟨v, us', [], [], rfl, rfl, .inr ⟨rfl, h1⟩, SlL.ceL h2⟩
theorem CeL.append : ∀ {xs ys : List V} {us vs : List Value} {f g : List Nat}, CeL w M H μ xs us f → CeL w M H μ ys vs g → CeL w M H μ (xs ++ ys) (us ++ vs) (f ++ g)
 | [], ys, us, vs, f, g, h, k => by simp only [CeL] at h; obtain ⟨rfl, rfl⟩ := h; simpa using k
 | c :: cs, ys, us, vs, f, g, h, k => by
  simp only [CeL] at h
  obtain ⟨u, us', f1, f2, rfl, rfl, h1, h2⟩ := h
  simp only [List.cons_append, CeL]
  exact ⟨u, _, f1, f2 ++ g, rfl, by simp, h1, CeL.append h2 k⟩
theorem CeL.split : ∀ (n : Nat) {xs : List V} {us : List Value} {fp : List Nat}, CeL w M H μ xs us fp → ∃ f1 f2, fp = f1 ++ f2 ∧ CeL w M H μ (xs.take n) (us.take n) f1 ∧ CeL w M H μ (xs.drop n) (us.drop n) f2
 | 0, xs, us, fp, h => ⟨[], fp, rfl, by simp [CeL], by simpa using h⟩
 | n + 1, [], us, fp, h => by
  simp only [CeL] at h
  obtain ⟨rfl, rfl⟩ := h
  exact ⟨[], [], rfl, by simp [CeL], by simp [CeL]⟩
 | n + 1, c :: cs, us, fp, h => by
  simp only [CeL] at h
  obtain ⟨u, us', f, f', rfl, rfl, h1, h2⟩ := h
  obtain ⟨f1, f2, rfl, h3, h4⟩ := CeL.split n h2
  refine ⟨f ++ f1, f2, by simp, ?_, by simpa using h4⟩
  simp only [List.take_succ_cons, CeL]
  exact ⟨u, _, f, f1, rfl, rfl, h1, h3⟩
theorem new_block {st : St} {fp : Nat → List Nat} {G : Nat → Option Nat} (O : Own Γ M st.H w μ fp G) {w1 : World} (hw1 : Grew w w1) (hsz : w1.heap.size = w.heap.size) {c : Array Value} {e : TypeId} {cs : List V} {us : List Value}
  (hs : SlL w M st.H μ cs us) (hl : us.length ≤ c.size) (hc : ∀ j, j < us.length → c[j]? = us[j]?) :
  ∃ M' μ' fp' G', Own Γ M' (setH st.H st.H.length (some ⟨0, cs⟩)) (w1.alloc (.cells c e)) μ' fp' G' ∧ Carry w M st.H μ (w1.alloc (.cells c e)) M' (setH st.H st.H.length (some ⟨0, cs⟩)) μ' ∧ μ' st.H.length = some w.heap.size := by
 have hg := alloc_grew w1 (.cells c e)
 have hgw : Grew w (w1.alloc (.cells c e)) := hw1.trans hg fun _ h => h.elim
 let M' : Nat → Prop := fun b => M b ∨ b = w.heap.size
 have := O.turn (M' := M') (w' := w1.alloc (.cells c e)) st.H.length (Nat.le_refl _) (some ⟨0, cs⟩) (some w.heap.size) [] hgw.os hgw.tape hgw.output hgw.size hgw.drawn (fun i hi _ => hgw.block i hi fun h => h)
  (fun b h => h.imp id fun h => by omega) (fun b h _ => .inl h) (fun _ b hb => .inr (by simpa using hb)) (fun b h => ?_) (fun _ b hb => .inr (by simp at hb; omega)) (fun _ => by simp)
  (fun blk' _ h => absurd h (Nat.lt_irrefl _)) (fun blk' hb C => ?_) (fun i b hb hk => by obtain ⟨_, ⟨blk, h0⟩, _⟩ := O.pin i b hb; have := (List.getElem?_eq_some_iff.1 h0).1; omega)
 ·obtain ⟨fp', G', O', C, _⟩ := this
  exact ⟨M', _, fp', G', O', C, by simp [updN]⟩
 ·rcases h with h | h
  ·have := O.lt b h; simp; omega
  ·simp; omega
 ·cases hb
  refine ⟨c, e, us, ?_, (SlL.carry C hs).ceL, ?_⟩
  ·show (w1.heap.push (.cells c e))[w.heap.size]? = _
   rw [← hsz]
   simp
  ·intro j hj
   rw [Nat.zero_add, ← hsz, World.cell?_alloc_new]
   exact hc j hj
theorem opP_alloc (hT : TOK P τ) {K : St → Prop} {o : Oper} {t : Nat} {i : TI} {st : St} {d : Nat} (ho : o.op = .alloc t) (ht : τ t = some i) (hd : o.dst = some d) (hlt : Nat.blt d st.nt = true)
  (hk : K ({ st with H := setH st.H st.H.length (some ⟨0, i.zero⟩) }.set d (.ptr st.H.length 0 0))) : opP P Γ o K st := by
 intro a w r Qc
 obtain ⟨h1, h2, M, μ, fp, G, O, hS⟩ := r
 obtain ⟨inf, dd, z, g1, g2, g3, g4, g5, g6, g7, g8, g9⟩ := hT t i ht
 have hrun : (execOp a.eval o).run P w = .ok (.value (.pointer (some ⟨w.heap.size, 0, none⟩))) (w.alloc (.cells z.cells t)) := by
  simp only [execOp, ho, Instr.alloc, newVar, newRow, newObj, Sem.run_bind, zeroValue, typeInfo, run_program, Result.andThen_ok, g1, g5, Sem.run_pure]
  simp [Sem.run]
 have hz := (g6 w M).sl (H := st.H) (μ := μ)
 obtain ⟨M', μ', fp', G', O', C, hm⟩ := new_block O (Kept.refl _ w) rfl (c := z.cells) (e := t) hz (by simp) (fun j hj => by simp)
 simp only [Oper.wp, hrun, Oper.upon]
 refine ⟨_, hk, ?_⟩
 have hst : ∀ st' : St, st'.put o.dst (.ptr st.H.length 0 0) = st'.set d (.ptr st.H.length 0 0) := fun st' => by rw [hd]; rfl
 rw [← hst]
 refine R.step h1 h2 hS C O' (fun d' hd' => by rw [hd] at hd'; cases hd'; exact Nat.le_of_ble_eq_true hlt) fun _ => ?_
 simp only [Sl]
 refine ⟨?_, ⟨_, rfl⟩, fun blk hb => ?_⟩
 ·have := setH_same (H := st.H) (x := some ⟨0, i.zero⟩) (Nat.le_refl _)
  exact (List.getElem?_eq_some_iff.1 this).1
 ·rw [setH_same (Nat.le_refl _)] at hb
  cases hb
  exact ⟨Nat.le_refl _, fun _ => ⟨_, hm, rfl⟩⟩
theorem opP_box {K : St → Prop} {o : Oper} {t : Nat} {x : Operand} {v : V} {cs : List V} {st : St} {d : Nat} (ho : o.op = .box t x) (hx : evalV st x = some v) (hc : valCells v = some cs) (hd : o.dst = some d) (hlt : Nat.blt d st.nt = true)
  (hk : K ({ st with H := setH st.H st.H.length (some ⟨0, cs⟩) }.set d (.ptr st.H.length 0 0))) : opP P Γ o K st := by
 intro a w r Qc
 obtain ⟨h1, h2, M, μ, fp, G, O, hS⟩ := r
 have hv := evalV_sound hS hx
 obtain ⟨us, hus, hsl⟩ := valCells_sound hc hv
 have hrun : (execOp a.eval o).run P w = .ok (.value (.pointer (some ⟨w.heap.size, 0, none⟩))) (w.alloc (.cells (a.eval x).cells t)) := by
  simp only [execOp, ho, Instr.box, newVar, newRow, newObj, Sem.run_bind, Sem.run, Result.andThen_ok, Sem.run_pure, World.alloc_eq]
 obtain ⟨M', μ', fp', G', O', C, hm⟩ := new_block O (Kept.refl _ w) rfl (c := (a.eval x).cells) (e := t) hsl (by rw [hus]; simp) (fun j hj => by rw [hus]; simp)
 simp only [Oper.wp, hrun, Oper.upon]
 refine ⟨_, hk, ?_⟩
 have hst : ∀ st' : St, st'.put o.dst (.ptr st.H.length 0 0) = st'.set d (.ptr st.H.length 0 0) := fun st' => by rw [hd]; rfl
 rw [← hst]
 refine R.step h1 h2 hS C O' (fun d' hd' => by rw [hd] at hd'; cases hd'; exact Nat.le_of_ble_eq_true hlt) fun _ => ?_
 simp only [Sl]
 refine ⟨?_, ⟨_, rfl⟩, fun blk hb => ?_⟩
 ·have := setH_same (H := st.H) (x := some ⟨0, cs⟩) (Nat.le_refl _)
  exact (List.getElem?_eq_some_iff.1 this).1
 ·rw [setH_same (Nat.le_refl _)] at hb
  cases hb
  exact ⟨Nat.le_refl _, fun _ => ⟨_, hm, rfl⟩⟩
theorem heap_setCells (b : Nat) : ∀ (vs : List Value) (o : Nat) (w : World) {c : Array Value} {e : TypeId} {fz : Nat × Nat}, w.heap[b]? = some (.cells c e fz) → o + vs.length ≤ c.size →
  ∃ c', (w.setCells b o vs).heap[b]? = some (.cells c' e fz) ∧ c'.size = c.size ∧ c'.toList = c.toList.take o ++ vs ++ c.toList.drop (o + vs.length)
 | [], o, w, c, e, fz, h, _ => ⟨c, h, rfl, by simp⟩
 | v :: r, o, w, c, e, fz, h, hle => by
  simp only [List.length_cons] at hle
  have h1 : (w.setCell ⟨b, o, none⟩ v).heap[b]? = some (.cells (c.setIfInBounds o v) e fz) := by
   simp only [World.setCell, Array.getElem?_modify, h, if_true, Option.map_some]
   rfl
  obtain ⟨c', h2, h3, h4⟩ := heap_setCells b r (o + 1) _ h1 (by simp; omega)
  refine ⟨c', by rw [World.setCells]; exact h2, by rw [h3]; simp, ?_⟩
  rw [h4, Array.toList_setIfInBounds]
  have hlt : o < c.toList.length := by simp; omega
  have e1 : (c.toList.set o v).take (o + 1) = c.toList.take o ++ [v] := by
   rw [List.take_succ_eq_append_getElem (by simpa using hlt), List.take_set_of_le (Nat.le_refl _)]
   simp
  have e2 : (c.toList.set o v).drop (o + 1 + r.length) = c.toList.drop (o + (v :: r).length) := by
   rw [List.drop_set_of_lt (by omega)]
   congr 1
   simp only [List.length_cons]
   omega
  rw [e1, e2]
  simp
theorem setCells_grew (w : World) (b o : Nat) (vs : List Value) : (w.setCells b o vs).os = w.os ∧ (w.setCells b o vs).tape = w.tape ∧ (w.setCells b o vs).output = w.output ∧ (w.setCells b o vs).heap.size = w.heap.size ∧
  (∀ i, i ≠ b → (w.setCells b o vs).heap[i]? = w.heap[i]?) ∧ (w.setCells b o vs).drawn = w.drawn := by
 induction vs generalizing w o with
 | nil => exact ⟨rfl, rfl, rfl, rfl, fun _ _ => rfl, rfl⟩
 | cons v r ih =>
  obtain ⟨h1, h2, h3, h4, h5, h6⟩ := ih (w.setCell ⟨b, o, none⟩ v) (o + 1)
  refine ⟨h1.trans rfl, h2.trans rfl, h3.trans rfl, h4.trans (by simp), fun i hi => ?_, h6.trans rfl⟩
  rw [World.setCells, h5 i hi]
  simp only [World.setCell, Array.getElem?_modify]
  rw [if_neg (Ne.symm hi)]
theorem cell_of_heap {w : World} {b : Nat} {c : Array Value} {e : TypeId} {fz : Nat × Nat} (h : w.heap[b]? = some (.cells c e fz)) (o : Nat) : w.cell? ⟨b, o, none⟩ = c[o]? := by
 simp [World.cell?, h]
theorem frozen_of_heap {w : World} {b : Nat} {c : Array Value} {e : TypeId} (h : w.heap[b]? = some (.cells c e (0, 0))) (o : Nat) : w.frozen? ⟨b, o, none⟩ = false := by
 simp [World.frozen?, h]
theorem Lies.of_heap {w : World} {b : Nat} {c : Array Value} {e : TypeId} {fz : Nat × Nat} (h : w.heap[b]? = some (.cells c e fz)) {us : List Value} (hu : ∀ j, j < us.length → c[j]? = us[j]?) : Lies w b 0 us := by
 intro j hj
 rw [Nat.zero_add, cell_of_heap h]
 exact hu j hj
theorem Lies.heap {w : World} {b : Nat} {c : Array Value} {e : TypeId} {fz : Nat × Nat} {us : List Value} (hl : Lies w b 0 us) (h : w.heap[b]? = some (.cells c e fz)) : us = c.toList.take us.length ∧ us.length ≤ c.size := by
 have hle : us.length ≤ c.size := by
  rcases Nat.eq_zero_or_pos us.length with h0 | h0
  ·omega
  ·have := hl (us.length - 1) (by omega)
   rw [Nat.zero_add, cell_of_heap h, List.getElem?_eq_getElem (by omega)] at this
   have := (Array.getElem?_eq_some_iff.1 this).1
   omega
 refine ⟨?_, hle⟩
 apply List.ext_getElem?
 intro j
 rw [List.getElem?_take]
 split
 ·rename_i hj
  have := hl j hj
  rw [Nat.zero_add, cell_of_heap h] at this
  rw [← this]
  simp
 ·rename_i hj
  rw [List.getElem?_eq_none (by omega)]
theorem splice_get {α : Type} {A B vs : List α} {off : Nat} (hA : off + vs.length ≤ A.length) (hAB : A.length ≤ B.length) (h : ∀ j, j < A.length → A[j]? = B[j]?) (j : Nat) (hj : j < (A.take off ++ vs ++ A.drop (off + vs.length)).length) :
  (A.take off ++ vs ++ A.drop (off + vs.length))[j]? = (B.take off ++ vs ++ B.drop (off + vs.length))[j]? := by
 simp only [List.length_append, List.length_take, List.length_drop] at hj
 have e1 : (A.take off).length = off := by simp; omega
 have e2 : (B.take off).length = off := by simp; omega
 simp only [List.append_assoc, List.getElem?_append, e1, e2]
 split
 ·rename_i h1
  rw [List.getElem?_take, List.getElem?_take, if_pos h1, if_pos h1]
  exact h j (by omega)
 ·split
  ·rfl
  ·rw [List.getElem?_drop, List.getElem?_drop]
   exact h _ (by omega)
theorem write_block {st : St} {fp : Nat → List Nat} {G : Nat → Option Nat} (O : Own Γ M st.H w μ fp G) {k : Nat} {blk : Blk} (hb : st.H[k]? = some (some blk)) {b : Nat} (hm : μ k = some b) {ver : Nat} (hver : blk.ver ≤ ver) {off : Nat} {vs : List Value} {xs : List V}
  (hx : SlL w M st.H μ xs vs) {c : Array Value} {e : TypeId} (hh : w.heap[b]? = some (.cells c e (0, 0))) (hfit : off + vs.length ≤ c.size) {cells' : List V}
  (hcells : ∀ us f, CeL w M st.H μ blk.cells us f → ∃ us' f', CeL w M st.H μ cells' us' f' ∧ f'.Sublist f ∧ (us.length ≤ c.size → (∀ j, j < us.length → us[j]? = c.toList[j]?) → ∀ j, j < us'.length → us'[j]? = (c.toList.take off ++ vs ++ c.toList.drop (off + vs.length))[j]?)) :
  ∃ fp' G', Own Γ M (setH st.H k (some ⟨ver, cells'⟩)) (w.setCells b off vs) (updN μ k (some b)) fp' G' ∧ Carry w M st.H μ (w.setCells b off vs) M (setH st.H k (some ⟨ver, cells'⟩)) (updN μ k (some b)) := by
 obtain ⟨g1, g2, g3, g4, g5, g6⟩ := setCells_grew w b off vs
 have hkl : k < st.H.length := (List.getElem?_eq_some_iff.1 hb).1
 obtain ⟨m1, m2, m3⟩ := O.mine k blk hb
 have hG := m1 b hm
 have hbl := O.blk k blk hb
 rw [hm] at hbl
 obtain ⟨c0, e0, us, hh0, hce, hlie⟩ := hbl
 rw [hh] at hh0
 cases hh0
 obtain ⟨us', f', hce', hsub, hus'⟩ := hcells us _ hce
 obtain ⟨_, hle⟩ := hlie.heap hh
 obtain ⟨c', hc1, hc2, hc3⟩ := heap_setCells b vs off w hh hfit
 have := O.turn (M' := M) (w' := w.setCells b off vs) k (Nat.le_of_lt hkl) (some ⟨ver, cells'⟩) (some b) f' g1 g2 g3 (by rw [g4]; exact Nat.le_refl _) (by rw [g6]; exact Nat.le_refl _)
  (fun i hi hg => g5 i fun hib => hg (by rw [hib]; exact hG.1)) (fun b h => .inl h) (fun b h _ => h) (fun _ x hx' => ?_) (fun x h => by rw [g4]; exact O.lt x h) (fun _ x hx' => ?_) (fun _ => ?_)
  (fun blk' hblk' _ => ?_) (fun blk' hblk' C => ?_) (fun i' b' hb' hk => ⟨by rw [← hk]; exact hm.symm, by simp, by
   have p1 := (O.pin i' b' hb').1
   rw [← hk, hm] at p1
   cases p1
   intro c1 e1 h1
   rw [hh] at h1
   cases h1
   exact ⟨c', e, hc1, hc2⟩⟩)
 ·obtain ⟨fp', G', O', C, _⟩ := this
  exact ⟨fp', G', O', C⟩
 ·simp only [Option.toList_some, List.singleton_append, List.mem_cons] at hx'
  rcases hx' with rfl | hx'
  ·exact O.sub _ (by rw [hG.1]; simp)
  ·exact O.sub _ (by rw [m2 x (hsub.subset hx')]; simp)
 ·simp only [Option.toList_some, List.singleton_append, List.mem_cons] at hx'
  rcases hx' with rfl | hx'
  ·exact .inl hG.1
  ·exact .inl (m2 x (hsub.subset hx'))
 ·simp only [Option.toList_some, List.singleton_append, List.nodup_cons]
  exact ⟨fun h => hG.2 (hsub.subset h), m3.sublist hsub⟩
 ·cases hblk'
  refine ⟨blk, hb, hver, fun _ => ⟨hm.symm, fun b' hb' => ?_⟩⟩
  rw [hm] at hb'
  cases hb'
  intro c1 e1 h1
  rw [hh] at h1
  cases h1
  exact ⟨c', e, hc1, hc2⟩
 ·cases hblk'
  refine ⟨c', e, us', hc1, hce'.carry C (fun x hxf => ?_), Lies.of_heap hc1 fun j hj => ?_⟩
  ·refine g5 x fun hxb => ?_
   subst hxb
   exact hG.2 (hsub.subset hxf)
  ·have h1 := hus' hle (fun i hi => by
    have := hlie i hi
    rw [Nat.zero_add, cell_of_heap hh] at this
    rw [← this]; simp) j hj
   rw [h1, ← hc3]
   simp
end
end Go.D
