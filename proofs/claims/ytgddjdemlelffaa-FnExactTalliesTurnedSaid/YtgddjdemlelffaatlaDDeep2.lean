import Derived.Test.YtgddjdemlelffaatlaDDeep
set_option linter.unusedVariables false
namespace Go.D
def oneO : V → Bool
 | .own .. => true
 | x => cellV x
class DOne (α : Type) [Enc α] [DEnc α] : Prop where
 one : ∀ x : α, (DEnc.cells x).all oneO = true
theorem dL_one' {α : Type} [Enc α] [DEnc α] [DOne α] : ∀ xs : List α, (dL xs).all oneO = true
 | [] => rfl
 | x :: xs => by simp only [dL, List.all_append, DOne.one, dL_one' xs, Bool.and_self]
instance {α : Type} [Enc α] [DFlat α] : DOne (List α) := ⟨fun _ => rfl⟩
instance {α : Type} [Enc α] [DEnc α] [DNest α] : DOne (List α) := ⟨fun _ => rfl⟩
section
variable {P : Program} {Γ : Ctx} {τ : Tau}
theorem OwL.one {w : World} {M : Nat → Prop} : ∀ {xs : List V} {us : List Value} {fp : List Nat}, OwL w M xs us fp → xs.all oneO = true → ∀ u ∈ us, u.oneCell' = true
 | [], us, fp, h, _, u, hu => by simp only [OwL] at h; rw [h.1] at hu; cases hu
 | c :: cs, us, fp, h, hb, u, hu => by
  simp only [List.all_cons, Bool.and_eq_true] at hb
  simp only [OwL] at h
  obtain ⟨v, us', f, f', rfl, rfl, h1, h2⟩ := h
  rcases List.mem_cons.1 hu with rfl | hu
  ·have hb1 := hb.1
   cases c with
   | own s n cs full => simp only [Ow] at h1; obtain ⟨A, cap, rfl, _⟩ := h1; rfl
   | lit u => simp only [Ow] at h1; obtain ⟨_, rfl⟩ := h1; cases u <;> first | rfl | cases hb1
   | arr s n cs full => simp only [Ow, Fr] at h1; obtain ⟨_, A, cap, rfl, _⟩ := h1; rfl
   | fptr cs off => simp only [Ow, Fr] at h1; obtain ⟨_, b, o, us, rfl, _⟩ := h1; rfl
   | fn f cs => simp only [Ow, Fr] at h1; obtain ⟨_, us, rfl, _⟩ := h1; rfl
   | ref => simp only [Ow] at h1
   | ptr => simp only [Ow] at h1
   | _ => simp [oneO, cellV] at hb1
  ·exact OwL.one h2 hb.2 u hu
theorem Own.cede {M : Nat → Prop} {H : Hp} {w : World} {μ : Nat → Option Nat} {fp : Nat → List Nat} {G : Nat → Option Nat} (O : Own Γ M H w μ fp G) (k k2 : Nat) (hne : k ≠ k2) (hpin : ∀ i b, Γ.L i b → k2 ≠ i) {v2 : Nat} {cs2 : List V} (hb2 : H[k2]? = some (some ⟨v2, cs2⟩)) :
  Own Γ M (H.set k2 (some ⟨v2 + 1, []⟩)) w (updN μ k2 none) (updN fp k2 []) (fun b => if G b = some k2 then some k else G b) ∧ Carry w M H μ w M (H.set k2 (some ⟨v2 + 1, []⟩)) (updN μ k2 none) := by
 have hkl := (List.getElem?_eq_some_iff.1 hb2).1
 have hget : ∀ j blk, (H.set k2 (some ⟨v2 + 1, []⟩))[j]? = some (some blk) → (j = k2 ∧ blk = ⟨v2 + 1, []⟩) ∨ (j ≠ k2 ∧ H[j]? = some (some blk)) := by
  intro j blk h
  by_cases e : j = k2
  ·subst e
   rw [List.getElem?_set_self hkl] at h
   cases h
   exact .inl ⟨rfl, rfl⟩
  ·rw [List.getElem?_set_ne (fun e' => e e'.symm)] at h
   exact .inr ⟨e, h⟩
 have hG : ∀ b, (if G b = some k2 then some k else G b) ≠ none → G b ≠ none := fun b h hg => by rw [hg] at h; simp at h
 have C : Carry w M H μ w M (H.set k2 (some ⟨v2 + 1, []⟩)) (updN μ k2 none) := by
  refine ⟨Same.refl w M, fun b h => .inl h, by simp, fun j blk' hj h => ?_⟩
  rcases hget j blk' h with ⟨rfl, rfl⟩ | ⟨e, h2⟩
  ·exact ⟨_, hb2, Nat.le_succ _, fun e => by simp at e⟩
  ·exact ⟨blk', h2, Nat.le_refl _, fun _ => ⟨by simp only [updN, if_neg e], fun b _ => .of_eq rfl⟩⟩
 refine ⟨⟨fun j blk h => ?_, fun j blk h => ?_, fun b h => O.sub b (hG b h), O.m0, O.lt, fun b h => O.new b (hG b h), fun b h => O.apart b (hG b h), O.kept, fun i b hb => ?_⟩, C⟩
 ·rcases hget j blk h with ⟨rfl, rfl⟩ | ⟨e, h2⟩
  ·simp only [updN, if_true]; rfl
  ·simp only [updN, if_neg e]
   exact (O.blk j blk h2).carry C (fun b _ => rfl) (fun b _ => rfl)
 ·rcases hget j blk h with ⟨rfl, rfl⟩ | ⟨e, h2⟩
  ·simp only [updN, if_true]
   exact ⟨fun b e => (by cases e), fun b e => (by cases e), List.nodup_nil⟩
  ·obtain ⟨m1, m2, m3⟩ := O.mine j blk h2
   simp only [updN, if_neg e]
   refine ⟨fun b hb => ⟨?_, (m1 b hb).2⟩, fun b hb => ?_, m3⟩
   ·rw [(m1 b hb).1, if_neg (by simpa using e)]
   ·rw [m2 b hb, if_neg (by simpa using e)]
 ·obtain ⟨p1, ⟨blk, p2⟩, p3⟩ := O.pin i b hb
  have h0 := hpin i b hb
  exact ⟨by simp only [updN, if_neg (show ¬ (i = k2) from fun e => h0 e.symm)]; exact p1, ⟨blk, by rw [List.getElem?_set_ne h0]; exact p2⟩, p3⟩
theorem write_blockO {st : St} {M : Nat → Prop} {w : World} {μ : Nat → Option Nat} {fp : Nat → List Nat} {G : Nat → Option Nat} (O : Own Γ M st.H w μ fp G) {k : Nat} {blk : Blk} (hb : st.H[k]? = some (some blk)) {b : Nat} (hm : μ k = some b) {ver : Nat} (hver : blk.ver ≤ ver) {off : Nat} {vs : List Value}
  {c : Array Value} {e : TypeId} (hh : w.heap[b]? = some (.cells c e (0, 0))) (hfit : off + vs.length ≤ c.size) {cells' : List V} {fa : List Nat} (hfa : ∀ x ∈ fa, G x = some k) (hfn : fa.Nodup) (hfd : ∀ x ∈ fa, x ∉ fp k ∧ x ≠ b)
  (hcells : ∀ us f, CeL w M st.H μ blk.cells us f → ∃ us' f', CeL w M st.H μ cells' us' (f' ++ fa) ∧ f'.Sublist f ∧ (us.length ≤ c.size → (∀ j, j < us.length → us[j]? = c.toList[j]?) → ∀ j, j < us'.length → us'[j]? = (c.toList.take off ++ vs ++ c.toList.drop (off + vs.length))[j]?)) :
  ∃ fp' G', Own Γ M (setH st.H k (some ⟨ver, cells'⟩)) (w.setCells b off vs) (updN μ k (some b)) fp' G' ∧ Carry w M st.H μ (w.setCells b off vs) M (setH st.H k (some ⟨ver, cells'⟩)) (updN μ k (some b)) := by
 obtain ⟨g1, g2, g3, g4, g5, g6⟩ := setCells_grew w b off vs
 have hkl : k < st.H.length := (List.getElem?_eq_some_iff.1 hb).1
 obtain ⟨m1, m2, m3⟩ := O.mine k blk hb
 have hG := m1 b hm
 have hbl := O.blk k blk hb
 rw [hm] at hbl
 obtain ⟨c0, e0, us, hh0, hce, hlie⟩ := hbl
 rw [hh] at hh0
 cases hh0
 obtain ⟨us', f', hce', hsub, hus'⟩ := hcells us _ hce
 obtain ⟨_, hle⟩ := hlie.heap hh
 obtain ⟨c', hc1, hc2, hc3⟩ := heap_setCells b vs off w hh hfit
 have hall : ∀ x ∈ f' ++ fa, G x = some k := fun x hx => by
  rcases List.mem_append.1 hx with hx | hx
  ·exact m2 x (hsub.subset hx)
  ·exact hfa x hx
 have hnb : ∀ x ∈ f' ++ fa, x ≠ b := fun x hx e => by
  rcases List.mem_append.1 hx with hx | hx
  ·exact hG.2 (e ▸ hsub.subset hx)
  ·exact (hfd x hx).2 e
 have hnd : (f' ++ fa).Nodup := List.nodup_append.2 ⟨m3.sublist hsub, hfn, fun x hx y hy e => (hfd y hy).1 (e ▸ hsub.subset hx)⟩
 have := O.turn (M' := M) (w' := w.setCells b off vs) k (Nat.le_of_lt hkl) (some ⟨ver, cells'⟩) (some b) (f' ++ fa) g1 g2 g3 (by rw [g4]; exact Nat.le_refl _) (by rw [g6]; exact Nat.le_refl _)
  (fun i hi hg => g5 i fun hib => hg (by rw [hib]; exact hG.1)) (fun b h => .inl h) (fun b h _ => h) (fun _ x hx' => ?_) (fun x h => by rw [g4]; exact O.lt x h) (fun _ x hx' => ?_) (fun _ => ?_)
  (fun blk' hblk' _ => ?_) (fun blk' hblk' C => ?_) (fun i' b' hb' hk => ⟨by rw [← hk]; exact hm.symm, by simp, by
   have p1 := (O.pin i' b' hb').1
   rw [← hk, hm] at p1
   cases p1
   intro c1 e1 h1
   rw [hh] at h1
   cases h1
   exact ⟨c', e, hc1, hc2⟩⟩)
 ·obtain ⟨fp', G', O', C, _⟩ := this
  exact ⟨fp', G', O', C⟩
 ·simp only [Option.toList_some, List.singleton_append, List.mem_cons] at hx'
  rcases hx' with rfl | hx'
  ·exact O.sub _ (by rw [hG.1]; simp)
  ·exact O.sub _ (by rw [hall x hx']; simp)
 ·simp only [Option.toList_some, List.singleton_append, List.mem_cons] at hx'
  rcases hx' with rfl | hx'
  ·exact .inl hG.1
  ·exact .inl (hall x hx')
 ·simp only [Option.toList_some, List.singleton_append, List.nodup_cons]
  exact ⟨fun h => hnb b h rfl, hnd⟩
 ·cases hblk'
  refine ⟨blk, hb, hver, fun _ => ⟨hm.symm, fun b' hb' => ?_⟩⟩
  rw [hm] at hb'
  cases hb'
  intro c1 e1 h1
  rw [hh] at h1
  cases h1
  exact ⟨c', e, hc1, hc2⟩
 ·cases hblk'
  refine ⟨c', e, us', hc1, hce'.carry C (fun x hxf => g5 x (hnb x hxf)), Lies.of_heap hc1 fun j hj => ?_⟩
  have h1 := hus' hle (fun i hi => by
   have := hlie i hi
   rw [Nat.zero_add, cell_of_heap hh] at this
   rw [← this]; simp) j hj
  rw [h1, ← hc3]
  simp
theorem appD_yldE (hT : TOK P τ) {k k2 : Nat} (hpin : ∀ i b, Γ.L i b → k ≠ i ∧ k2 ≠ i) (hne : k ≠ k2) {o : Oper} {c : Call} {st : St} {y x : Operand} {t tx e : Nat} {ti : TI} {ver v2 s n m : Nat} {full fl : Bool} {blk : Blk} {ns cells' : List V} {H' : Hp}
  (ho : o.op = .call c) (hc : c.callee = .builtin .append) (hargs : c.args.toList = [y, x]) (hts : c.argTypes.toList = [t, tx]) (ht : sliceOf τ t = some (e, ti)) (htx : sliceOf τ tx = some (e, ti))
  (hs : ti.size = s) (hzl : ti.zero.length = ti.size) (hbytes : Nat.ble ti.bytes 1024 = true)
  (hy : evalV st y = some (.ref k ver 0 s n full)) (hb : blkAt st.H k ver = some blk) (hn : n * s = blk.cells.length) (hx : evalV st x = some (.ref k2 v2 0 s m fl)) (hb2 : blkAt st.H k2 v2 = some ⟨v2, ns⟩) (hm : m * s = ns.length) (hoc : ns.all ownC = true) (hone : ns.all oneO = true)
  (hlen : n + m < 68719476736) (hcells : blk.cells ++ ns = cells') (hH : setH (st.H.set k2 (some ⟨v2 + 1, []⟩)) k (some ⟨ver + 1, cells'⟩) = H') : YldE P Γ o st H' (.ref k (ver + 1) 0 s (n + m) false) := by
 subst hcells hH
 intro a w M μ fp G O hS K Qc hK
 obtain ⟨b1, b2⟩ := blkAt_spec hb
 obtain ⟨c1, c2⟩ := blkAt_spec hb2
 obtain ⟨hu, hj⟩ := sliceOf_spec hT ht
 obtain ⟨hux, _⟩ := sliceOf_spec hT htx
 have hkl : k < st.H.length := (List.getElem?_eq_some_iff.1 b1).1
 have hkl2 : k2 < st.H.length := (List.getElem?_eq_some_iff.1 c1).1
 have hyv := evalV_sound hS hy
 have hxv := evalV_sound hS hx
 have howx := OutP.sound O (y := .own s m ns fl) (ks := [k2]) (by unfold OutP; exact ⟨_, hb2, rfl, hm, hoc, rfl, rfl⟩) hxv
 obtain ⟨q1, q2, q3⟩ := O.mine k2 _ c1
 have hpc : ((μ k2).toList ++ fp k2).Nodup ∧ ∀ x ∈ (μ k2).toList ++ fp k2, G x = some k2 := by
  refine ⟨?_, fun x hx => ?_⟩
  ·cases hm2 : μ k2 with
   | none => simpa using q3
   | some b => simpa using ⟨(q1 b hm2).2, q3⟩
  ·rcases List.mem_append.1 hx with hx | hx
   ·exact (q1 x (by simpa using hx)).1
   ·exact q2 x hx
 simp only [List.flatMap_cons, List.flatMap_nil, List.append_nil] at howx
 simp only [Ow] at howx
 obtain ⟨A2, cap2, hx2, ⟨hs0, hm', hle2, hmax2, _⟩, hxc⟩ := howx
 -- what is appended
 obtain ⟨news, fa, hnews, hfan, hfaS, hsrc⟩ : ∃ news fa, OwL w M ns news fa ∧ fa.Nodup ∧ (∀ x ∈ fa, x ∈ (μ k2).toList ++ fp k2) ∧ Src P ti.size tx (a.eval x) m news w := by
  rcases hxc with ⟨rfl, h0⟩ | ⟨b', cc', e', us, fp', rfl, hfp', hb', hcap', hl', hlie'⟩
  ·have hm0 : m = 0 := by
    simp only [List.length_nil, Nat.mul_eq_zero] at hm'
    omega
   subst hm0
   refine ⟨[], [], by simp [OwL], List.nodup_nil, by simp, ?_⟩
   rw [hx2]
   cases A2 with
   | none => exact Src.ofNil w hux cap2
   | some ad => exact Src.ofSlice w hux ad 0 cap2 [] (by simp) (fun j u h => by simp at h) (fun u h => by cases h)
  ·refine ⟨us, fp', hl', (List.nodup_cons.1 (hfp' ▸ hpc.1)).2, fun x hx => by rw [hfp']; exact List.mem_cons_of_mem _ hx, ?_⟩
   rw [hx2]
   refine Src.ofSlice w hux _ m cap2 us (by rw [hl'.length, hs]; exact hm'.symm) (fun j u hju => ?_) (hl'.one hone)
   rw [Addr.add_mid, hlie' j (List.getElem?_eq_some_iff.1 hju).1]
   exact hju
 have hfaG : ∀ x ∈ fa, G x = some k2 := fun x hx => hpc.2 x (hfaS x hx)
 have hnl : news.length = m * s := by rw [hsrc.newsLen, hs]
 have hnsl := hnews.length
 obtain ⟨O1, C1⟩ := O.cede k k2 hne (fun i b h => (hpin i b h).2) c1
 generalize hst1 : ({ st with H := st.H.set k2 (some ⟨v2 + 1, []⟩) } : St) = st1 at *
 have hH1 : st1.H = st.H.set k2 (some ⟨v2 + 1, []⟩) := by rw [← hst1]
 rw [← hH1] at O1 C1 hK
 have hkl1 : k < st1.H.length := by rw [hH1, List.length_set]; exact hkl
 have b1' : st1.H[k]? = some (some blk) := by rw [hH1, List.getElem?_set_ne (fun e => hne e.symm)]; exact b1
 have hexec : ∀ v w', (Builtin.append_ #[t, tx] o.type #[a.eval y, a.eval x]).run P w = .ok v w' → (execOp a.eval o).run P w = .ok (.value v) w' := by
  intro v w' hr
  have hargs' : c.args = #[y, x] := by apply Array.toList_inj.1; rw [hargs]
  have hts' : c.argTypes = #[t, tx] := by apply Array.toList_inj.1; rw [hts]
  simp only [execOp, ho, resolve, hc, hargs', hts', Sem.run_bind, Sem.run_pure, Result.andThen_ok, invoke, builtin]
  simp [hr]
 generalize hμ1 : updN μ k2 none = μ1 at *
 generalize hfp1 : updN fp k2 [] = fp1 at *
 generalize hG1 : (fun b => if G b = some k2 then some k else G b) = G1 at *
 have hμk : μ1 k = μ k := by rw [← hμ1]; simp only [updN, if_neg hne]
 have hfpk : fp1 k = fp k := by rw [← hfp1]; simp only [updN, if_neg hne]
 have hfaG1 : ∀ x ∈ fa, G1 x = some k := fun x hx => by rw [← hG1]; simp only [if_pos (hfaG x hx)]
 obtain ⟨n1, n2, n3⟩ := O.mine k blk b1
 have hfafp : ∀ x ∈ fa, x ∉ fp k := fun x hx hf => by
  have e1 := n2 x hf
  rw [hfaG x hx] at e1
  exact hne (Option.some.inj e1).symm
 have hbl := O1.blk k blk b1'
 obtain ⟨m1, m2, m3⟩ := O1.mine k blk b1'
 simp only [Sl] at hyv
 have hyr := (hyv.2.2 blk b1).2 b2
 rw [← hμk] at hyr
 have hcells : blk.cells.take (n * s) = blk.cells := by rw [hn, List.take_length]
 -- the end: from the heap behind it to the state
 have fin : ∀ (w' : World) (M' : Nat → Prop) (μ' : Nat → Option Nat) (fp' : Nat → List Nat) (G' : Nat → Option Nat) (v : Value), (execOp a.eval o).run P w = .ok (.value v) w' →
   Own Γ M' (setH st1.H k (some ⟨ver + 1, blk.cells ++ ns⟩)) w' μ' fp' G' → Carry w M st1.H μ1 w' M' (setH st1.H k (some ⟨ver + 1, blk.cells ++ ns⟩)) μ' → (∃ A q z, v = .slice A q z) → RefR w' (μ' k) 0 s (n + m) false v →
   o.wp P a w K Qc := by
  intro w' M' μ' fp' G' v hrun O' C hsh hr
  simp only [Oper.wp, hrun, Oper.upon]
  refine hK v w' M' μ' fp' G' O' (C1.trans C) ?_
  simp only [Sl]
  refine ⟨Nat.lt_of_lt_of_le hkl1 (setH_len _ _ _), hsh, fun blk' hb' => ?_⟩
  rw [setH_same (Nat.le_of_lt hkl1)] at hb'
  cases hb'
  exact ⟨Nat.le_refl _, fun _ => hr⟩
 -- a new row
 have grow : ∀ (base : Option Addr) (cap : Nat) (olds : List Value) (f1 : List Nat), a.eval y = .slice base n cap → cap < n + m → (Builtin.firstCells ti.size n (.slice base n cap)).run P w.drew = .ok olds.toArray w.drew →
   CeL w M st1.H μ1 blk.cells olds f1 → f1.Sublist (fp1 k) → o.wp P a w K Qc := by
  intro base cap olds f1 hyb hcap hold hce hsub
  obtain ⟨inf, dd, z, g1, g2, g3, g4, g5, g6, g7, g8, g9⟩ := hj
  have hfit : Builtin.nextslicecap (n + m) cap * inf.bytes ≤ 281474976710656 := by
   have e1 := nextslicecap_le hcap
   have e2 := Nat.le_of_ble_eq_true hbytes
   rw [g4]
   calc Builtin.nextslicecap (n + m) cap * ti.bytes ≤ (2 * (n + m)) * 1024 := Nat.mul_le_mul e1 e2
    _ ≤ 281474976710656 := by omega
  have hrun := run_append_grow_src (P := P) w t tx o.type e inf z hu g1 g5 base n cap olds (by rw [g3]; exact hold) (a.eval x) m news (by rw [g3]; exact hsrc) hcap (by omega) hfit
  rw [← hyb] at hrun
  have hx' := hexec _ _ hrun
  generalize hgc : grownCap w (n + m) cap e = gc at *
  have hgc1 : n + m ≤ gc := by rw [← hgc]; exact grownCap_ge _ _ _ _
  have hgc2 : gc ≤ maxI := by rw [← hgc]; exact grownCap_le_maxLen w _ _ _ (by unfold maxLen; omega)
  have hzs : z.cells.size = s := by
   have := (g6 w M).length
   simp only [Array.length_toList] at this
   omega
  let cc : Array Value := (olds ++ news).toArray ++ Builtin.zeroCells z.cells (gc - (n + m))
  have hol : olds.length = n * s := by rw [hce.length]; omega
  have hcs : cc.size = gc * s := by
   have hzc : (Builtin.zeroCells z.cells (gc - (n + m))).size = (gc - (n + m)) * s := by simp [Builtin.zeroCells, hzs]
   simp only [cc, Array.size_append, List.size_toArray, List.length_append, hol, hnl, hzc]
   rw [← Nat.add_mul, ← Nat.add_mul]
   congr 1
   omega
  have hgr : Grew w (w.drew.alloc (.cells cc e)) := by
   have hd0 : Grew w w.drew := ⟨rfl, rfl, rfl, Nat.le_refl _, fun _ _ _ => rfl, Nat.le_succ _⟩
   exact hd0.trans (alloc_grew _ _) fun _ h => h.elim
  have hhn : (w.drew.alloc (.cells cc e)).heap[w.heap.size]? = some (.cells cc e (0, 0)) := by
   show (w.heap.push (.cells cc e))[w.heap.size]? = _
   simp
  have hf1 : ∀ x ∈ f1 ++ fa, G1 x = some k := fun x hx => by
   rcases List.mem_append.1 hx with hx | hx
   ·exact m2 x (hsub.subset hx)
   ·exact hfaG1 x hx
  have hf1n : w.heap.size ∉ f1 ++ fa := fun hx => by
   have := O1.lt _ (O1.sub _ (by rw [hf1 _ hx]; simp))
   omega
  have hfnd : (f1 ++ fa).Nodup := List.nodup_append.2 ⟨m3.sublist hsub, hfan, fun x hx y hy e => hfafp y hy (by rw [← hfpk]; exact e ▸ hsub.subset hx)⟩
  have := O1.turn (M' := fun b => M b ∨ b = w.heap.size) (w' := w.drew.alloc (.cells cc e)) k (Nat.le_of_lt hkl1) (some ⟨ver + 1, blk.cells ++ ns⟩) (some w.heap.size) (f1 ++ fa) hgr.os hgr.tape hgr.output hgr.size hgr.drawn (fun i hi _ => hgr.block i hi fun h => h)
   (fun b h => h.imp id fun h => by omega) (fun b h _ => .inl h) (fun _ b hb => ?_) (fun b h => ?_) (fun _ b hb => ?_) (fun _ => ?_) (fun blk' hb' _ => ?_) (fun blk' hb' C => ?_) (fun i b hb hk => absurd hk (hpin i b hb).1)
  ·obtain ⟨fp', G', O', C, _⟩ := this
   refine fin _ _ _ fp' G' _ hx' O' C ⟨_, _, _, rfl⟩ ?_
   simp only [updN, if_true]
   exact .inr ⟨_, gc, cc, e, rfl, rfl, hs0, hgc1, hgc2, fun h => (by cases h), hhn, by rw [hcs]; omega⟩
  ·simp only [Option.toList_some, List.singleton_append, List.mem_cons] at hb
   rcases hb with rfl | hb
   ·exact .inr rfl
   ·exact .inl (O1.sub _ (by rw [hf1 b hb]; simp))
  ·have hs1 : (w.drew.alloc (.cells cc e)).heap.size = w.heap.size + 1 := by simp
   rcases h with h | h
   ·have := O1.lt b h; omega
   ·omega
  ·simp only [Option.toList_some, List.singleton_append, List.mem_cons] at hb
   rcases hb with rfl | hb
   ·exact .inr (Nat.le_refl _)
   ·exact .inl (hf1 b hb)
  ·simp only [Option.toList_some, List.singleton_append, List.nodup_cons]
   exact ⟨hf1n, hfnd⟩
  ·cases hb'
   exact ⟨blk, b1', by simp; omega, fun e => by simp at e; omega⟩
  ·cases hb'
   refine ⟨cc, e, olds ++ news, hhn, ?_, Lies.of_heap hhn fun j hj => ?_⟩
   ·have hhold : ∀ f', (∀ x ∈ f', x ∈ f1 ++ fa) → Hold w (w.drew.alloc (.cells cc e)) f' := fun f' hf' x hx => hgr.block x (O1.lt x (O1.sub _ (by rw [hf1 x (hf' x hx)]; simp))) fun h => h
    have h7 := hce.carry C (hhold f1 fun x hx => List.mem_append_left _ hx)
    have h8 := (OwL.same C.same C.mem (hhold fa fun x hx => List.mem_append_right _ hx) hnews).ceL (H := setH st1.H k (some ⟨ver + 1, blk.cells ++ ns⟩)) (μ := updN μ1 k (some w.heap.size))
    exact h7.append h8
   ·simp only [cc]
    rw [Array.getElem?_append_left (by simpa using hj)]
    simp
 rcases hyr with ⟨A, hyv', rfl, _⟩ | ⟨b, cap, cc, e', hmk, hyv', _, hle, hmax, _, hh, hfit⟩
 ·have hc0 : blk.cells = [] := List.length_eq_zero_iff.1 (by omega)
  by_cases hm0 : m = 0
  ·subst hm0
   have hrun := run_append_none (ty := o.type) hu hj w A (a.eval x) news hsrc
   rw [← hyv'] at hrun
   have hns : ns = [] := List.length_eq_zero_iff.1 (by omega)
   have hc1 : blk.cells ++ ns = [] := by rw [hc0, hns]; rfl
   have := O1.turn (M' := M) (w' := w) k (Nat.le_of_lt hkl1) (some ⟨ver + 1, blk.cells ++ ns⟩) none [] rfl rfl rfl (Nat.le_refl _) (Nat.le_refl _) (fun i hi _ => rfl) (fun b h => .inl h) (fun b h _ => h) (fun _ b hb => by simp at hb) O1.lt
    (fun _ b hb => by simp at hb) (fun _ => by simp) (fun blk' hb' _ => by cases hb'; exact ⟨blk, b1', by simp; omega, fun e => by simp at e; omega⟩) (fun blk' hb' C => by cases hb'; exact hc1) (fun i b hb hk => absurd hk (hpin i b hb).1)
   obtain ⟨fp', G', O', C, _⟩ := this
   refine fin _ _ _ fp' G' _ (hexec _ _ hrun) O' C ⟨_, _, _, hyv'⟩ ?_
   exact .inl ⟨A, hyv', rfl, hs0⟩
  ·refine grow A 0 [] [] hyv' (by omega) ?_ ?_ (List.nil_sublist _)
   ·cases A with
    | none => simp [Builtin.firstCells]
    | some ad => simp [Builtin.firstCells, loadCells, loadCellsFrom]
   ·rw [hc0]; simp [CeL]
 ·rw [hmk] at hbl
  obtain ⟨cc', e'', us, hh', hce, hlie⟩ := hbl
  rw [hh] at hh'
  cases hh'
  have hul := hce.length
  by_cases hroom : n + m ≤ cap
  ·-- there is room
   have hfit2 : n * s + news.length ≤ cc.size := by
    rw [hnl, ← Nat.add_mul]
    exact Nat.le_trans (Nat.mul_le_mul_right s hroom) (by omega)
   have hj' := hj
   obtain ⟨inf, dd, z, g1, g2, g3, g4, g5, g6, g7, g8, g9⟩ := hj
   have hrun := run_append_room_src (P := P) w t tx o.type e inf hu g1 b 0 n cap (a.eval x) m news (by rw [g3]; exact hsrc) hroom (fun j hj => ?_) (fun j hj => frozen_of_heap hh _)
   ·rw [← hyv', g3, hs, Nat.zero_add] at hrun
    obtain ⟨fp', G', O', C⟩ := write_blockO (ver := ver + 1) (cells' := blk.cells ++ ns) (fa := fa) (vs := news) (off := n * s) O1 b1' hmk (by omega) hh hfit2 hfaG1 hfan (fun x hx => ⟨by rw [hfpk]; exact hfafp x hx, fun e => by
      have e1 := (n1 b (by rw [← hμk]; exact hmk)).1
      rw [← e, hfaG x hx] at e1
      exact hne (Option.some.inj e1).symm⟩) (fun ws f hce' => by
     have hwl := hce'.length
     refine ⟨ws ++ news, f, hce'.append (hnews.ceL), List.Sublist.refl _, fun hwc hw j hj => ?_⟩
     have e1 : ws.length = n * s := by omega
     have e2 : (cc.toList.take (n * s)).length = n * s := by simp; omega
     simp only [List.length_append, e1] at hj
     simp only [List.append_assoc, List.getElem?_append, e1, e2]
     split
     ·rename_i h8
      rw [List.getElem?_take, if_pos h8]
      exact hw j (by omega)
     ·rw [if_pos (by omega)])
    refine fin _ _ _ fp' G' _ (hexec _ _ hrun) O' C ⟨_, _, _, rfl⟩ ?_
    simp only [updN, if_true]
    obtain ⟨c', hc1, hc2, _⟩ := heap_setCells b news (n * s) w hh hfit2
    exact .inr ⟨b, cap, c', e', rfl, rfl, hs0, hroom, hmax, fun h => (by cases h), hc1, by omega⟩
   ·rw [cell_of_heap hh, g3, hs, Nat.zero_add, Array.getElem?_eq_getElem (by omega)]
    rfl
  ·refine grow _ cap us (fp1 k) hyv' (by omega) ?_ hce (List.Sublist.refl _)
   rw [hs]
   refine run_firstCells_some w.drew s n _ n cap us (by omega) fun j u hju => ?_
   rw [Addr.add_mid]
   have hjlt := (List.getElem?_eq_some_iff.1 hju).1
   have := hlie j hjlt
   rw [← hju, ← this]; rfl
structure AppDI where
 d : Nat
 k : Nat
 ver : Nat
 k2 : Nat
 v2 : Nat
 s : Nat
 n : Nat
 m : Nat
def appDV (τ : Tau) (ops : Array Oper) (j : Nat) (st : St) : Option AppDI :=
 match opAt ops st j with
 | some o => match o.op, dstOf st o with
  | .call c, some d => match c.callee, c.args.toList, c.argTypes.toList with
   | .builtin .append, [y, x], [t, tx] => match sliceOf τ t, sliceOf τ tx, evalV st y, evalV st x with
    | some (e, ti), some (e', ti'), some (.ref k ver 0 s n _), some (.ref k2 v2 0 s' m _) =>
     bif Nat.beq e e' && Nat.beq ti.size s && Nat.beq s' s && Nat.beq ti.zero.length ti.size && Nat.ble ti.bytes 1024 then some ⟨d, k, ver, k2, v2, s, n, m⟩ else none
    | _, _, _, _ => none
   | _, _, _ => none
  | _, _ => none
 | none => none
theorem appD_E {α : Type} [Enc α] [DEnc α] [DOne α] (hT : TOK P τ) {ops : Array Oper} {j : Nat} {st : St} (d k ver k2 v2 : Nat) (hpin : ∀ i b, Γ.L i b → k ≠ i ∧ k2 ≠ i) (hne : k ≠ k2) {xs ys zs : List α} (hz : app xs ys = some zs)
  (h : appDV τ ops j st = some ⟨d, k, ver, k2, v2, Enc.sz α, xs.length, ys.length⟩) (hb : blkAt st.H k ver = some ⟨ver, dL xs⟩) (hb2 : blkAt st.H k2 v2 = some ⟨v2, dL ys⟩) :
  CoreE P Γ ops j st (some d) (setH (st.H.set k2 (some ⟨v2 + 1, []⟩)) k (some ⟨ver + 1, dL zs⟩)) (.ref k (ver + 1) 0 (Enc.sz α) zs.length false) := by
 unfold app at hz
 split at hz
 ·rename_i hlen
  cases hz
  unfold appDV at h
  split at h
  ·rename_i o ho
   split at h
   ·rename_i c d' hop hd
    split at h
    ·rename_i y x t tx hc ha hat
     split at h
     ·rename_i e ti e' ti' k' ver' s n f k2' v2' s' m f' ht htx hy hx
      cases hcc : (Nat.beq e e' && Nat.beq ti.size s && Nat.beq s' s && Nat.beq ti.zero.length ti.size && Nat.ble ti.bytes 1024) with
      | false => rw [hcc] at h; cases h
      | true =>
       rw [hcc, cond_true] at h
       simp only [Option.some.injEq, AppDI.mk.injEq] at h
       obtain ⟨rfl, rfl, rfl, rfl, rfl, rfl, rfl, rfl⟩ := h
       simp only [Bool.and_eq_true] at hcc
       obtain ⟨⟨⟨⟨c1, c2⟩, c3⟩, c5⟩, c6⟩ := hcc
       have c1 := Nat.eq_of_beq_eq_true c1
       subst c1
       have c2 := Nat.eq_of_beq_eq_true c2
       have c3 := Nat.eq_of_beq_eq_true c3
       have c5 := Nat.eq_of_beq_eq_true c5
       subst c3
       have hti : ti = ti' := by
        have h1 := sliceOf_elem ht
        have h2 := sliceOf_elem htx
        rw [h1] at h2
        exact Option.some.inj h2
       subst hti
       have hd' := dstOf_spec hd
       rw [List.length_append]
       exact ⟨o, opAt_spec ho, hd'.1, (fun d e => by cases e; exact hd'.2), appD_yldE hT hpin hne hop hc ha hat ht htx c2 c5 c6 hy hb (dL_len xs).symm hx hb2 (dL_len ys).symm (dL_oc ys) (dL_one' ys) hlen (dL_append xs ys).symm rfl⟩
     ·cases h
    ·cases h
   ·cases h
  ·cases h
 ·cases hz
end
end Go.D
