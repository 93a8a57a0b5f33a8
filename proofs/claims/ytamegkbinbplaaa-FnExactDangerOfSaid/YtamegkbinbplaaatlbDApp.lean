import Derived.Test.YtamegkbinbplaaatlbDHeap3
set_option linter.unusedVariables false
namespace Go.D
section
variable {P : Program} {Γ : Ctx} {τ : Tau}
theorem run_append_none {t tx ty e : TypeId} {i : TI} (hu : P.underlying t = some (.slice e)) (hi : TIok P e i) (w : World) (A : Option Addr) (x : Value) (news : List Value) (hs : Src P i.size tx x 0 news w) :
  (Builtin.append_ #[t, tx] ty #[.slice A 0 0, x]).run P w = .ok (.slice A 0 0) w := by
 have hsz := run_sizeOf' hi w
 have hn : news = [] := List.length_eq_zero_iff.1 (by rw [hs.newsLen]; simp)
 subst hn
 have hc := hs.cells
 rcases hs.kind with ⟨e', hk⟩ | hk <;> cases A <;>
  simp [Builtin.append_, run_underlying hu, run_underlying hk, hsz, hs.len, hc, storeCells]
theorem opP_append (hT : TOK P τ) {k : Nat} (hpin : ∀ i b, Γ.L i b → k ≠ i) {K : St → Prop} {o : Oper} {c : Call} {st : St} {y x : Operand} {t tx e : Nat} {ti : TI} {ver s n m : Nat} {full fl : Bool} {blk : Blk} {ns cells' : List V} {d : Nat}
  (ho : o.op = .call c) (hc : c.callee = .builtin .append) (hargs : c.args.toList = [y, x]) (hts : c.argTypes.toList = [t, tx]) (ht : sliceOf τ t = some (e, ti)) (htx : sliceOf τ tx = some (e, ti))
  (hs : ti.size = s) (hzl : ti.zero.length = ti.size) (hbytes : Nat.ble ti.bytes 1024 = true)
  (hy : ∀ (a : Act) (w : World) (M : Nat → Prop) (μ : Nat → Option Nat), Slots st a w M μ → Sl w M st.H μ (.ref k ver 0 s n full) (a.eval y)) (hb : blkAt st.H k ver = some blk) (hn : n * s ≤ blk.cells.length) (hx : evalV st x = some (.arr s m ns fl)) (hone : ns.all cellV = true)
  (hlen : n + m < 68719476736) (hcells : blk.cells.take (n * s) ++ ns = cells') (hd : o.dst = some d) (hlt : Nat.blt d st.nt = true)
  (hk : K ({ st with H := setH st.H k (some ⟨ver + 1, cells'⟩) }.set d (.ref k (ver + 1) 0 s (n + m) false))) : opP P Γ o K st := by
 subst hcells
 intro a w r Qc
 obtain ⟨h1, h2, M, μ, fp, G, O, hS⟩ := r
 obtain ⟨b1, b2⟩ := blkAt_spec hb
 obtain ⟨hu, hj⟩ := sliceOf_spec hT ht
 obtain ⟨hux, _⟩ := sliceOf_spec hT htx
 have hkl : k < st.H.length := (List.getElem?_eq_some_iff.1 b1).1
 have hyv := hy a w M μ hS
 have hxv := evalV_sound hS hx
 simp only [Sl] at hyv
 have hyr := (hyv.2.2 blk b1).2 b2
 simp only [Sl, Fr] at hxv
 obtain ⟨A2, cap2, hx2, ⟨hs0, hm, hle2, hmax2, _⟩, hxc⟩ := hxv
 -- what is appended
 obtain ⟨news, hnews, hsrc⟩ : ∃ news, FrL w M ns news ∧ Src P ti.size tx (a.eval x) m news w := by
  rcases hxc with rfl | ⟨b', o', us, rfl, hb', hM', hl', hlie'⟩
  ·have hm0 : m = 0 := by
    simp only [List.length_nil, Nat.mul_eq_zero] at hm
    omega
   subst hm0
   refine ⟨[], by simp [FrL], ?_⟩
   rw [hx2]
   cases A2 with
   | none => exact Src.ofNil w hux cap2
   | some ad => exact Src.ofSlice w hux ad 0 cap2 [] (by simp) (fun j u h => by simp at h) (fun u h => by cases h)
  ·refine ⟨us, hl', ?_⟩
   rw [hx2]
   refine Src.ofSlice w hux _ m cap2 us (by rw [hl'.length, hs]; exact hm.symm) (fun j u hju => ?_) ((hl'.sl (H := st.H) (μ := μ)).one hone)
   rw [Addr.add_mid, hlie' j (List.getElem?_eq_some_iff.1 hju).1]
   exact hju
 have hnl : news.length = m * s := by rw [hsrc.newsLen, hs]
 have hexec : ∀ v w', (Builtin.append_ #[t, tx] o.type #[a.eval y, a.eval x]).run P w = .ok v w' → (execOp a.eval o).run P w = .ok (.value v) w' := by
  intro v w' hr
  have hargs' : c.args = #[y, x] := by apply Array.toList_inj.1; rw [hargs]
  have hts' : c.argTypes = #[t, tx] := by apply Array.toList_inj.1; rw [hts]
  simp only [execOp, ho, resolve, hc, hargs', hts', Sem.run_bind, Sem.run_pure, Result.andThen_ok, invoke, builtin]
  simp [hr]
 have hbl := O.blk k blk b1
 obtain ⟨m1, m2, m3⟩ := O.mine k blk b1
 -- the end: from the heap behind it to the state
 have fin : ∀ (w' : World) (M' : Nat → Prop) (μ' : Nat → Option Nat) (fp' : Nat → List Nat) (G' : Nat → Option Nat) (v : Value), (execOp a.eval o).run P w = .ok (.value v) w' →
   Own Γ M' (setH st.H k (some ⟨ver + 1, blk.cells.take (n * s) ++ ns⟩)) w' μ' fp' G' → Carry w M st.H μ w' M' (setH st.H k (some ⟨ver + 1, blk.cells.take (n * s) ++ ns⟩)) μ' → (∃ A q z, v = .slice A q z) → RefR w' (μ' k) 0 s (n + m) false v →
   o.wp P a w (lift1 Γ K) Qc := by
  intro w' M' μ' fp' G' v hrun O' C hsh hr
  simp only [Oper.wp, hrun, Oper.upon]
  refine ⟨_, hk, ?_⟩
  have hst : ∀ st' : St, st'.put o.dst (.ref k (ver + 1) 0 s (n + m) false) = st'.set d (.ref k (ver + 1) 0 s (n + m) false) := fun st' => by rw [hd]; rfl
  rw [← hst]
  refine R.step h1 h2 hS C O' (fun d' hd' => by rw [hd] at hd'; cases hd'; exact Nat.le_of_ble_eq_true hlt) fun _ => ?_
  simp only [Sl]
  refine ⟨Nat.lt_of_lt_of_le hkl (setH_len _ _ _), hsh, fun blk' hb' => ?_⟩
  rw [setH_same (Nat.le_of_lt hkl)] at hb'
  cases hb'
  exact ⟨Nat.le_refl _, fun _ => hr⟩
 -- a new row
 have grow : ∀ (base : Option Addr) (cap : Nat) (olds : List Value) (f1 : List Nat), a.eval y = .slice base n cap → cap < n + m → (Builtin.firstCells ti.size n (.slice base n cap)).run P w.drew = .ok olds.toArray w.drew →
   CeL w M st.H μ (blk.cells.take (n * s)) olds f1 → f1.Sublist (fp k) → o.wp P a w (lift1 Γ K) Qc := by
  intro base cap olds f1 hyb hcap hold hce hsub
  obtain ⟨inf, dd, z, g1, g2, g3, g4, g5, g6, g7, g8, g9⟩ := hj
  have hfit : Builtin.nextslicecap (n + m) cap * inf.bytes ≤ 281474976710656 := by
   have e1 := nextslicecap_le hcap
   have e2 := Nat.le_of_ble_eq_true hbytes
   rw [g4]
   calc Builtin.nextslicecap (n + m) cap * ti.bytes ≤ (2 * (n + m)) * 1024 := Nat.mul_le_mul e1 e2
    _ ≤ 281474976710656 := by omega
  have hrun := run_append_grow_src (P := P) w t tx o.type e inf z hu g1 g5 base n cap olds (by rw [g3]; exact hold) (a.eval x) m news (by rw [g3]; exact hsrc) hcap (by omega) hfit
  rw [← hyb] at hrun
  have hx' := hexec _ _ hrun
  generalize hgc : grownCap w (n + m) cap e = gc at *
  have hgc1 : n + m ≤ gc := by rw [← hgc]; exact grownCap_ge _ _ _ _
  have hgc2 : gc ≤ maxI := by rw [← hgc]; exact grownCap_le_maxLen w _ _ _ (by unfold maxLen; omega)
  have hzs : z.cells.size = s := by
   have := (g6 w M).length
   simp only [Array.length_toList] at this
   omega
  let cc : Array Value := (olds ++ news).toArray ++ Builtin.zeroCells z.cells (gc - (n + m))
  have hol : olds.length = n * s := by rw [hce.length]; simp; omega
  have hcs : cc.size = gc * s := by
   have hzc : (Builtin.zeroCells z.cells (gc - (n + m))).size = (gc - (n + m)) * s := by simp [Builtin.zeroCells, hzs]
   simp only [cc, Array.size_append, List.size_toArray, List.length_append, hol, hnl, hzc]
   rw [← Nat.add_mul, ← Nat.add_mul]
   congr 1
   omega
  have hgr : Grew w (w.drew.alloc (.cells cc e)) := by
   have hd0 : Grew w w.drew := ⟨rfl, rfl, rfl, Nat.le_refl _, fun _ _ _ => rfl, Nat.le_succ _⟩
   exact hd0.trans (alloc_grew _ _) fun _ h => h.elim
  have hhn : (w.drew.alloc (.cells cc e)).heap[w.heap.size]? = some (.cells cc e (0, 0)) := by
   show (w.heap.push (.cells cc e))[w.heap.size]? = _
   simp
  have hf1 : ∀ x ∈ f1, G x = some k := fun x hx => m2 x (hsub.subset hx)
  have hf1n : w.heap.size ∉ f1 := fun hx => by
   have := O.lt _ (O.sub _ (by rw [hf1 _ hx]; simp))
   omega
  have := O.turn (M' := fun b => M b ∨ b = w.heap.size) (w' := w.drew.alloc (.cells cc e)) k (Nat.le_of_lt hkl) (some ⟨ver + 1, blk.cells.take (n * s) ++ ns⟩) (some w.heap.size) f1 hgr.os hgr.tape hgr.output hgr.size hgr.drawn (fun i hi _ => hgr.block i hi fun h => h)
   (fun b h => h.imp id fun h => by omega) (fun b h _ => .inl h) (fun _ b hb => ?_) (fun b h => ?_) (fun _ b hb => ?_) (fun _ => ?_) (fun blk' hb' _ => ?_) (fun blk' hb' C => ?_) (fun i b hb hk => absurd hk (hpin i b hb))
  ·obtain ⟨fp', G', O', C, _⟩ := this
   refine fin _ _ _ fp' G' _ hx' O' C ⟨_, _, _, rfl⟩ ?_
   simp only [updN, if_true]
   exact .inr ⟨_, gc, cc, e, rfl, rfl, hs0, hgc1, hgc2, fun h => (by cases h), hhn, by rw [hcs]; omega⟩
  ·simp only [Option.toList_some, List.singleton_append, List.mem_cons] at hb
   rcases hb with rfl | hb
   ·exact .inr rfl
   ·exact .inl (O.sub _ (by rw [hf1 b hb]; simp))
  ·have hs1 : (w.drew.alloc (.cells cc e)).heap.size = w.heap.size + 1 := by simp
   rcases h with h | h
   ·have := O.lt b h; omega
   ·omega
  ·simp only [Option.toList_some, List.singleton_append, List.mem_cons] at hb
   rcases hb with rfl | hb
   ·exact .inr (Nat.le_refl _)
   ·exact .inl (hf1 b hb)
  ·simp only [Option.toList_some, List.singleton_append, List.nodup_cons]
   exact ⟨hf1n, m3.sublist hsub⟩
  ·cases hb'
   exact ⟨blk, b1, by simp; omega, fun e => by simp at e; omega⟩
  ·cases hb'
   refine ⟨cc, e, olds ++ news, hhn, ?_, Lies.of_heap hhn fun j hj => ?_⟩
   ·have h7 := (hce.carry C (fun x hx => hgr.block x (O.lt x (O.sub _ (by rw [hf1 x hx]; simp))) fun h => h)).append ((SlL.carry C (hnews.sl (H := st.H) (μ := μ))).ceL)
    rw [List.append_nil] at h7
    exact h7
   ·simp only [cc]
    rw [Array.getElem?_append_left (by simpa using hj)]
    simp
 rcases hyr with ⟨A, hyv', rfl, _⟩ | ⟨b, cap, cc, e', hmk, hyv', _, hle, hmax, _, hh, hfit⟩
 ·by_cases hm0 : m = 0
  ·subst hm0
   have hrun := run_append_none (ty := o.type) hu hj w A (a.eval x) news hsrc
   rw [← hyv'] at hrun
   have hns : ns = [] := by
    have := hnews.length
    rw [hnl] at this
    simp at this
    exact List.length_eq_zero_iff.1 this.symm
   subst hns
   have hc0 : blk.cells.take (0 * s) ++ [] = [] := by simp
   have := O.turn (M' := M) (w' := w) k (Nat.le_of_lt hkl) (some ⟨ver + 1, blk.cells.take (0 * s) ++ []⟩) none [] rfl rfl rfl (Nat.le_refl _) (Nat.le_refl _) (fun i hi _ => rfl) (fun b h => .inl h) (fun b h _ => h) (fun _ b hb => by simp at hb) O.lt
    (fun _ b hb => by simp at hb) (fun _ => by simp) (fun blk' hb' _ => by cases hb'; exact ⟨blk, b1, by simp; omega, fun e => by simp at e; omega⟩) (fun blk' hb' C => by cases hb'; exact hc0) (fun i b hb hk => absurd hk (hpin i b hb))
   obtain ⟨fp', G', O', C, _⟩ := this
   refine fin _ _ _ fp' G' _ (hexec _ _ hrun) O' C ⟨_, _, _, hyv'⟩ ?_
   exact .inl ⟨A, hyv', rfl, hs0⟩
  ·refine grow A 0 [] [] hyv' (by omega) ?_ ?_ (List.nil_sublist _)
   ·cases A with
    | none => simp [Builtin.firstCells]
    | some ad => simp [Builtin.firstCells, loadCells, loadCellsFrom]
   ·simp [CeL]
 ·rw [hmk] at hbl
  obtain ⟨cc', e'', us, hh', hce, hlie⟩ := hbl
  rw [hh] at hh'
  cases hh'
  have hul := hce.length
  obtain ⟨f1, f2, hff, hce1, hce2⟩ := hce.split (n * s)
  have hsub : f1.Sublist (fp k) := by rw [hff]; exact List.sublist_append_left _ _
  by_cases hroom : n + m ≤ cap
  ·-- there is room
   have hfit2 : n * s + news.length ≤ cc.size := by
    rw [hnl, ← Nat.add_mul]
    exact Nat.le_trans (Nat.mul_le_mul_right s hroom) (by omega)
   have hj' := hj
   obtain ⟨inf, dd, z, g1, g2, g3, g4, g5, g6, g7, g8, g9⟩ := hj
   have hrun := run_append_room_src (P := P) w t tx o.type e inf hu g1 b 0 n cap (a.eval x) m news (by rw [g3]; exact hsrc) hroom (fun j hj => ?_) (fun j hj => frozen_of_heap hh _)
   ·rw [← hyv', g3, hs, Nat.zero_add] at hrun
    obtain ⟨fp', G', O', C⟩ := write_block (ver := ver + 1) (cells' := blk.cells.take (n * s) ++ ns) O b1 hmk (by omega) (hnews.sl (H := st.H) (μ := μ)) hh hfit2 (fun ws f hce' => by
     obtain ⟨f1, f2, rfl, h3, h4⟩ := hce'.split (n * s)
     have hwl := hce'.length
     refine ⟨ws.take (n * s) ++ news, f1, ?_, List.sublist_append_left _ _, fun hwc hw j hj => ?_⟩
     ·have h7 := h3.append ((hnews.sl (H := st.H) (μ := μ)).ceL)
      rw [List.append_nil] at h7
      exact h7
     ·have e1 : (ws.take (n * s)).length = n * s := by simp; omega
      have e2 : (cc.toList.take (n * s)).length = n * s := by simp; omega
      simp only [List.length_append, e1] at hj
      simp only [List.append_assoc, List.getElem?_append, e1, e2]
      split
      ·rename_i h8
       rw [List.getElem?_take, List.getElem?_take, if_pos h8, if_pos h8]
       exact hw j (by omega)
      ·rw [if_pos (by omega)])
    refine fin _ _ _ fp' G' _ (hexec _ _ hrun) O' C ⟨_, _, _, rfl⟩ ?_
    simp only [updN, if_true]
    obtain ⟨c', hc1, hc2, _⟩ := heap_setCells b news (n * s) w hh hfit2
    exact .inr ⟨b, cap, c', e', rfl, rfl, hs0, hroom, hmax, fun h => (by cases h), hc1, by omega⟩
   ·rw [cell_of_heap hh, g3, hs, Nat.zero_add, Array.getElem?_eq_getElem (by omega)]
    rfl
  ·refine grow _ cap (us.take (n * s)) f1 hyv' (by omega) ?_ hce1 hsub
   rw [hs]
   have hlu : (us.take (n * s)).length = n * s := by simp; omega
   refine run_firstCells_some w.drew s n _ n cap (us.take (n * s)) hlu fun j u hju => ?_
   rw [Addr.add_mid]
   have hjlt := (List.getElem?_eq_some_iff.1 hju).1
   have := hlie j (by simp at hjlt; omega)
   rw [List.getElem?_take] at hju
   split at hju
   ·rw [← hju, ← this]; rfl
   ·cases hju
end
end Go.D
