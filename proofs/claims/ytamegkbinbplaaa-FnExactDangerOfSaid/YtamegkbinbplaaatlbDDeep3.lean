import Derived.Test.YtamegkbinbplaaatlbDDeep2
set_option linter.unusedVariables false
namespace Go.D
section
variable {P : Program} {Γ : Ctx} {τ : Tau}
theorem new_blockG {st : St} {M : Nat → Prop} {w : World} {μ : Nat → Option Nat} {fp : Nat → List Nat} {G : Nat → Option Nat} (O : Own Γ M st.H w μ fp G) {k ver : Nat} (hpin : ∀ i b, Γ.L i b → k ≠ i) (hkl : k ≤ st.H.length) (hver : k < st.H.length → ∃ blk, st.H[k]? = some (some blk) ∧ blk.ver < ver) {w1 : World} (hw1 : Grew w w1) (hsz : w1.heap.size = w.heap.size)
  {c : Array Value} {e : TypeId} {cs : List V} {us : List Value} (hs : ∀ w' M' H' μ', Carry w M st.H μ w' M' H' μ' → CeL w' M' H' μ' cs us []) (hl : us.length ≤ c.size) (hc : ∀ j, j < us.length → c[j]? = us[j]?) :
  ∃ M' μ' fp' G', Own Γ M' (setH st.H k (some ⟨ver, cs⟩)) (w1.alloc (.cells c e)) μ' fp' G' ∧ Carry w M st.H μ (w1.alloc (.cells c e)) M' (setH st.H k (some ⟨ver, cs⟩)) μ' ∧ μ' k = some w.heap.size := by
 have hg := alloc_grew w1 (.cells c e)
 have hgw : Grew w (w1.alloc (.cells c e)) := hw1.trans hg fun _ h => h.elim
 let M' : Nat → Prop := fun b => M b ∨ b = w.heap.size
 have := O.turn (M' := M') (w' := w1.alloc (.cells c e)) k hkl (some ⟨ver, cs⟩) (some w.heap.size) [] hgw.os hgw.tape hgw.output hgw.size hgw.drawn (fun i hi _ => hgw.block i hi fun h => h)
  (fun b h => h.imp id fun h => by omega) (fun b h _ => .inl h) (fun _ b hb => .inr (by simpa using hb)) (fun b h => ?_) (fun _ b hb => .inr (by simp at hb; omega)) (fun _ => by simp)
  (fun blk' hb' hk' => by
   cases hb'
   obtain ⟨blk, b1, b2⟩ := hver hk'
   exact ⟨blk, b1, by simp only []; omega, fun e => by simp only [] at e; omega⟩) (fun blk' hb' C => ?_) (fun i b hb hk => absurd hk (hpin i b hb))
 ·obtain ⟨fp', G', O', C, _⟩ := this
  exact ⟨M', _, fp', G', O', C, by simp [updN]⟩
 ·rcases h with h | h
  ·have := O.lt b h; simp; omega
  ·simp; omega
 ·cases hb'
  refine ⟨c, e, us, ?_, hs _ _ _ _ C, ?_⟩
  ·show (w1.heap.push (.cells c e))[w.heap.size]? = _
   rw [← hsz]
   simp
  ·intro j hj
   rw [Nat.zero_add, ← hsz, World.cell?_alloc_new]
   exact hc j hj
def DZok (P : Program) (t : TypeId) (cs : List V) : Prop := ∃ inf z, P.info? t = some inf ∧ inf.zero = some z ∧ ∀ w M, OwL w M cs z.cells.toList []
theorem dzok {ti : TypeInfo} {t : TypeId} {z : Value} {cs : List V} (h : P.types[t]? = some ti) (h2 : ti.zero = some z) (h3 : ∀ w M, OwL w M cs z.cells.toList []) : DZok P t cs := ⟨ti, z, info_of h, h2, h3⟩
theorem Ow.nilF (w : World) (M : Nat → Prop) (s : Nat) (h : 0 < s) : Ow w M (.own s 0 [] false) (.slice none 0 0) [] := by
 simp only [Ow]
 exact ⟨none, 0, rfl, ⟨h, by simp, by omega, by unfold maxI; omega, fun h => rfl⟩, .inl ⟨trivial, rfl⟩⟩
theorem Ow.lit' (w : World) (M : Nat → Prop) (u : Value) : Ow w M (.lit u) u [] := by simp only [Ow]; exact ⟨trivial, trivial⟩
theorem OwL.nil' (w : World) (M : Nat → Prop) : OwL w M [] [] [] := by simp only [OwL]; exact ⟨trivial, trivial⟩
theorem OwL.cons' {w : World} {M : Nat → Prop} {x : V} {u : Value} {xs : List V} {us : List Value} (h : Ow w M x u []) (k : OwL w M xs us []) : OwL w M (x :: xs) (u :: us) [] := by
 simp only [OwL]
 exact ⟨u, us, [], [], rfl, rfl, h, k⟩
theorem OwL.get0 {w : World} {M : Nat → Prop} : ∀ {xs : List V} {us : List Value}, OwL w M xs us [] → ∀ {i : Nat} {x : V}, xs[i]? = some x → ∃ u, us[i]? = some u ∧ Ow w M x u []
 | [], us, h, i, x, hi => by simp at hi
 | c :: cs, us, h, i, x, hi => by
  simp only [OwL] at h
  obtain ⟨u, us', f, f', rfl, hf, h1, h2⟩ := h
  have hf := hf.symm
  simp only [List.append_eq_nil_iff] at hf
  obtain ⟨rfl, rfl⟩ := hf
  cases i with
  | zero => simp at hi; subst hi; exact ⟨u, by simp, h1⟩
  | succ i => simp at hi ⊢; exact OwL.get0 h2 hi
theorem OwL.of_get0 {w : World} {M : Nat → Prop} : ∀ {xs : List V} {us : List Value}, xs.length = us.length → (∀ (i : Nat) x u, xs[i]? = some x → us[i]? = some u → Ow w M x u []) → OwL w M xs us []
 | [], [], _, _ => by simp [OwL]
 | [], u :: us, h, _ => by simp at h
 | x :: xs, [], h, _ => by simp at h
 | x :: xs, u :: us, h, k => OwL.cons' (k 0 x u rfl rfl) (OwL.of_get0 (by simpa using h) fun i y v h1 h2 => k (i + 1) y v (by simpa using h1) (by simpa using h2))
theorem dL_rep_get {α : Type} [Enc α] [DEnc α] (n : Nat) (z : α) {q : Nat} (hq : q < n * Enc.sz α) : (dL (List.replicate n z))[q]? = (DEnc.cells z)[q % Enc.sz α]? := by
 have hp : 0 < Enc.sz α := Enc.pos
 have h1 : q / Enc.sz α < n := Nat.div_lt_of_lt_mul (by rwa [Nat.mul_comm])
 have h2 : (List.replicate n z)[q / Enc.sz α]? = some z := by rw [List.getElem?_replicate, if_pos h1]
 have h3 := dL_nth h2 (Nat.mod_lt q hp)
 have h4 : q / Enc.sz α * Enc.sz α + q % Enc.sz α = q := by rw [Nat.mul_comm]; exact Nat.div_add_mod q _
 rw [h4] at h3
 exact h3
def mksD (τ : Tau) (ops : Array Oper) (j : Nat) (st : St) : Option (Nat × Nat × Nat × Int) :=
 match opAt ops st j with
 | some o => match o.op, dstOf st o with
  | .makeSlice t l c, some d => match sliceOf τ t, evalV st l, evalV st c with
   | some (e, ti), some (.lit (.int _ n)), some (.lit (.int _ m)) => bif sameOp l c && Nat.beq ti.zero.length ti.size && Nat.ble ti.bytes 1024 then some (d, e, ti.size, n) else none
   | _, _, _ => none
  | _, _ => none
 | none => none
theorem mkD_E {α : Type} [Enc α] [DEnc α] (hT : TOK P τ) {ops : Array Oper} {j : Nat} {st : St} (d k ver e : Nat) (hpin : ∀ i b, Γ.L i b → k ≠ i) (hkl : k ≤ st.H.length) (hver : k < st.H.length → ∃ blk, st.H[k]? = some (some blk) ∧ blk.ver < ver) {n : Int} (z : α) {zs : List α} (hz : mkI n z = some zs)
  (hzz : DZok P e (DEnc.cells z)) (h : mksD τ ops j st = some (d, e, Enc.sz α, n)) : CoreE P Γ ops j st (some d) (setH st.H k (some ⟨ver, dL zs⟩)) (.ref k ver 0 (Enc.sz α) zs.length false) := by
 unfold mkI at hz
 split at hz
 ·rename_i hn
  cases hz
  unfold mksD at h
  split at h
  ·rename_i o ho
   split at h
   ·rename_i t l c d' hop hd
    split at h
    ·rename_i e' ti kl n' kc m' hs hl hc
     cases hcc : (sameOp l c && Nat.beq ti.zero.length ti.size && Nat.ble ti.bytes 1024) with
     | false => rw [hcc] at h; cases h
     | true =>
      rw [hcc, cond_true] at h
      simp only [Option.some.injEq, Prod.mk.injEq] at h
      obtain ⟨rfl, rfl, hsz, rfl⟩ := h
      simp only [Bool.and_eq_true] at hcc
      obtain ⟨⟨hso, hzl⟩, hbytes⟩ := hcc
      have hso := sameOp_eq hso hl hc
      subst hso
      have hzl := Nat.eq_of_beq_eq_true hzl
      have hbytes := Nat.le_of_ble_eq_true hbytes
      have hd' := dstOf_spec hd
      refine ⟨o, opAt_spec ho, hd'.1, (fun d e => by cases e; exact hd'.2), fun a w M μ fp G O hS K Qc hK => ?_⟩
      obtain ⟨hu, hj⟩ := sliceOf_spec hT hs
      obtain ⟨inf, dd, zv, g1, g2, g3, g4, g5, g6, g7, g8, g9⟩ := hj
      obtain ⟨inf2, z2, q1, q2, q3⟩ := hzz
      rw [g1] at q1
      cases q1
      rw [g5] at q2
      cases q2
      have hlv := evalV_sound hS hl
      have hcv := evalV_sound hS hc
      simp only [Sl] at hlv hcv
      obtain ⟨N, hN⟩ : ∃ N : Nat, m' = (N : Int) := ⟨m'.toNat, by omega⟩
      subst hN
      have hb2 : (inf.bytes : Int) * (N : Int) ≤ 281474976710656 := by
       have e1 : inf.bytes * N ≤ 1024 * 68719476736 := Nat.mul_le_mul (by rw [g4]; exact hbytes) (by omega)
       have e2 : ((inf.bytes * N : Nat) : Int) ≤ 281474976710656 := by omega
       rwa [Int.natCast_mul] at e2
      have hrun := run_make (P := P) w t e' inf zv hu g1 g5 kl kc N N (by omega) (Int.le_refl _) hb2 (by omega)
      simp only [Int.toNat_natCast] at hrun
      have hx : (execOp a.eval o).run P w = .ok (.value (.slice (some ⟨w.heap.size, 0, none⟩) N N)) (w.alloc (.cells (madeCells zv.cells (N * inf.size)) e')) := by
       simp only [execOp, hop, hlv, hcv]
       rw [Sem.run_bind, hrun]
       rfl
      have hpos : 0 < Enc.sz α := Enc.pos
      have hzs : zv.cells.size = Enc.sz α := by
       have := (q3 w M).length
       rw [DEnc.len] at this
       simpa using this
      have hms : (madeCells zv.cells (N * inf.size)).size = N * Enc.sz α := by rw [size_madeCells, g3, hsz]
      have hfr : ∀ w M, OwL w M (dL (List.replicate N z)) (madeCells zv.cells (N * inf.size)).toList [] := by
       intro w M
       refine OwL.of_get0 ?_ fun i x u hi hu => ?_
       ·rw [dL_len, List.length_replicate, Array.length_toList, hms]
       ·have hilt : i < N * Enc.sz α := by
         have := (List.getElem?_eq_some_iff.1 hi).1
         rwa [dL_len, List.length_replicate] at this
        rw [dL_rep_get N z hilt] at hi
        obtain ⟨v, hv1, hv2⟩ := (q3 w M).get0 hi
        have hu' : u = v := by
         simp only [madeCells, Array.toList_map, Array.toList_range, List.getElem?_map, List.getElem?_range (show i < N * inf.size by rw [g3, hsz]; exact hilt), Option.map_some, Option.some.injEq] at hu
         rw [← hu, hzs]
         rw [Array.getElem?_toList] at hv1
         rw [getElem!_def, hv1]
        rw [hu']
        exact hv2
      obtain ⟨M', μ', fp', G', O', C, hm⟩ := new_blockG O hpin hkl hver (Kept.refl _ w) rfl (c := madeCells zv.cells (N * inf.size)) (e := e') (us := (madeCells zv.cells (N * inf.size)).toList) (fun w' M' H' μ' C => (hfr w' M').ceL) (by simp) (fun j hj => by simp)
      simp only [Oper.wp, hx, Oper.upon]
      simp only [Int.toNat_natCast] at hK
      refine hK _ _ M' μ' fp' G' O' C ?_
      simp only [Sl]
      have hsame := setH_same (H := st.H) (x := some ⟨ver, dL (List.replicate N z)⟩) hkl
      refine ⟨(List.getElem?_eq_some_iff.1 hsame).1, ⟨_, _, _, rfl⟩, fun blk' hb' => ?_⟩
      rw [hsame] at hb'
      cases hb'
      refine ⟨Nat.le_refl _, fun _ => ?_⟩
      rw [List.length_replicate]
      refine .inr ⟨_, N, madeCells zv.cells (N * inf.size), e', hm, rfl, hpos, Nat.le_refl _, by unfold maxI; omega, (fun h => by cases h), ?_, by rw [hms]; omega⟩
      show (w.heap.push _)[w.heap.size]? = _
      simp
    ·cases h
   ·cases h
  ·cases h
 ·cases hz
theorem mkD_N {α : Type} [Enc α] [DEnc α] (hT : TOK P τ) {ops : Array Oper} {j : Nat} {st : St} (d k e : Nat) (hpin : ∀ i b, Γ.L i b → k ≠ i) (hk : Nat.beq st.H.length k = true) {n : Int} (z : α) {zs : List α} (hz : mkI n z = some zs)
  (hzz : DZok P e (DEnc.cells z)) (h : mksD τ ops j st = some (d, e, Enc.sz α, n)) : CoreE P Γ ops j st (some d) (setH st.H k (some ⟨0, dL zs⟩)) (.ref k 0 0 (Enc.sz α) zs.length false) := by
 have hk2 := Nat.eq_of_beq_eq_true hk
 exact mkD_E hT d k 0 e hpin (Nat.le_of_eq hk2.symm) (fun h => by omega) z hz hzz h
theorem std_E {α : Type} [Enc α] [DEnc α] (hT : TOK P τ) {ops : Array Oper} {j : Nat} {st : St} (t k ver o' : Nat) {xs : List α} {i : Int} {x : α} {vs cells' : List V} (hx : getI xs i = some x)
  (h : steV τ ops j st = some ⟨t, k, ver, i.toNat * Enc.sz α + o', dL xs, vs⟩) (ho : Nat.ble (o' + vs.length) (Enc.sz α) = true) (hc : setL (dL xs) (i.toNat * Enc.sz α + o') vs = cells') : CoreE P Γ ops j st none (setH st.H k (some ⟨ver, cells'⟩)) .any := by
 unfold steV at h
 split at h
 ·rename_i o ho'
  split at h
  ·rename_i t' y' x' hop hd
   split at h
   ·rename_i ti k' ver' off v hti hyv hxv
    split at h
    ·rename_i blk vs' hb hv
     cases hcc : (vs'.all cellV && Nat.beq vs'.length ti.size) with
     | false => rw [hcc] at h; cases h
     | true =>
      rw [hcc, cond_true] at h
      simp only [Option.some.injEq, StE.mk.injEq] at h
      obtain ⟨rfl, rfl, rfl, rfl, hcs, rfl⟩ := h
      simp only [Bool.and_eq_true] at hcc
      have hb2 := Nat.le_of_ble_eq_true ho
      have hg := (getI_spec hx).2.2
      refine ⟨o, opAt_spec ho', hd, (fun d e => by cases e), store_yldE hT hop hd hti hyv hb hxv hv hcc.1 (Nat.eq_of_beq_eq_true hcc.2) ?_ ?_⟩
      ·rw [hcs]; exact dL_bound hg hb2
      ·rw [hcs]; exact hc
    ·cases h
   ·cases h
  ·cases h
 ·cases h
theorem stdl_E {α : Type} [Enc α] [DEnc α] (hT : TOK P τ) {ops : Array Oper} {j : Nat} {st : St} (t k ver o' : Nat) {xs : List α} {i : Int} {x : α} (y : α) {vs : List V} (hx : getI xs i = some x)
  (h : steV τ ops j st = some ⟨t, k, ver, i.toNat * Enc.sz α + o', dL xs, vs⟩) (hy : setL (DEnc.cells x) o' vs = DEnc.cells y) (ho : Nat.ble (o' + vs.length) (Enc.sz α) = true) : CoreE P Γ ops j st none (setH st.H k (some ⟨ver, dL (xs.set i.toNat y)⟩)) .any :=
 std_E hT t k ver o' hx h ho (dL_set (getI_spec hx).2.2 hy (Nat.le_of_ble_eq_true ho))
theorem HStep.nestL {α : Type} [Enc α] [DEnc α] {H H' : Hp} (k ver o' : Nat) {xs : List α} {i : Int} {x : α} (y : α) {vs vs' : List V} {ks : List Nat} (hx : getI xs i = some x) (hb : H[k]? = some (some ⟨ver, setL (dL xs) (i.toNat * Enc.sz α + o') vs⟩)) (hs : OutL H vs vs' ks) (hnd : ks.Nodup) (hk : k ∉ ks) (hpin : ∀ i b, Γ.L i b → i ∉ ks)
  (hvs : vs.all cellV = true) (hy : setL (DEnc.cells x) o' vs' = DEnc.cells y) (ho : Nat.ble (o' + vs.length) (Enc.sz α) = true) (he : (emptyK H ks).set k (some ⟨ver, dL (xs.set i.toNat y)⟩) = H') : HStep Γ H H' := by
 have hl := hs.len
 refine HStep.nest (A := (dL xs).take (i.toNat * Enc.sz α + o')) (B := (dL xs).drop (i.toNat * Enc.sz α + o' + vs.length)) k ver hb hs hnd hk hpin hvs ?_ he
 rw [← dL_set (getI_spec hx).2.2 hy (by rw [hl]; exact Nat.le_of_ble_eq_true ho)]
 unfold setL
 rw [hl]
theorem HStep.openL {α : Type} [Enc α] [DEnc α] {H H' : Hp} (k ver k' v' o' : Nat) {xs : List α} {i : Int} {x : α} {cs cs0 : List V} {s n : Nat} {f : Bool} (hx : getI xs i = some x) (hb : H[k]? = some (some ⟨ver, dL xs⟩)) (ho : Nat.blt o' (Enc.sz α) = true) (hc : (DEnc.cells x)[o']? = some (.own s n cs f))
  (hk' : H[k']? = some (some ⟨v', cs0⟩)) (hne : k ≠ k') (hpin : ∀ i b, Γ.L i b → k' ≠ i) (he : (H.set k' (some ⟨v' + 1, cs⟩)).set k (some ⟨ver, setL (dL xs) (i.toNat * Enc.sz α + o') [.ref k' (v' + 1) 0 s n f]⟩) = H') : HStep Γ H H' := by
 have hg := (getI_spec hx).2.2
 have ho' : o' < Enc.sz α := Nat.le_of_ble_eq_true ho
 have h1 := dL_nth hg ho'
 rw [hc] at h1
 have hlt := (List.getElem?_eq_some_iff.1 h1).1
 have h2 := (List.getElem?_eq_some_iff.1 h1).2
 refine HStep.open (A := (dL xs).take (i.toNat * Enc.sz α + o')) (B := (dL xs).drop (i.toNat * Enc.sz α + o' + 1)) k ver k' v' (s := s) (n := n) (f := f) (cs := cs) ?_ hk' hne hpin rfl he
 rw [hb]
 congr 3
 have h3 : dL xs = (dL xs).take (i.toNat * Enc.sz α + o') ++ (dL xs).drop (i.toNat * Enc.sz α + o') := (List.take_append_drop _ _).symm
 conv => lhs; rw [h3]
 rw [List.drop_eq_getElem_cons hlt, h2]
 simp
theorem CoreE.pre {ops : Array Oper} {j : Nat} {st : St} {dd : Option Nat} {H1 H2 : Hp} {x : V} (h : HStep Γ st.H H1) (k : CoreE P Γ ops j { st with H := H1 } dd H2 x) : CoreE P Γ ops j st dd H2 x := by
 obtain ⟨o, h1, h2, h3, h4⟩ := k
 refine ⟨o, ⟨h1.op, h1.wanted⟩, h2, h3, fun a w M μ fp G O hS K Qc hK => ?_⟩
 obtain ⟨μ1, fp1, G1, O1, C1⟩ := h w M μ fp G O
 refine h4 a w M μ1 fp1 G1 O1 (fun s x hx => ?_) K Qc fun u w' M' μ' fp' G' O' C hs => hK u w' M' μ' fp' G' O' (C1.trans C) hs
 obtain ⟨u, hu, hsl⟩ := hS s x hx
 exact ⟨u, hu, hsl.carry C1⟩
def plainT (τ : Tau) (t : Nat) : Bool := match τ t with
 | some i => !isAggK i.k
 | none => false
theorem ldo_E {α : Type} [Enc α] [DEnc α] (hT : TOK P τ) {ops : Array Oper} {j : Nat} {st : St} (d t o' : Nat) {xs : List α} {i : Int} {x : α} {k v s n : Nat} {f : Bool} (hx : getI xs i = some x) (ho : Nat.blt o' (Enc.sz α) = true) (ha : plainT τ t = true)
  (h : ldeV τ ops j st = some ⟨d, t, i.toNat * Enc.sz α + o', setL (dL xs) (i.toNat * Enc.sz α + o') [.ref k v 0 s n f]⟩) : CoreE P Γ ops j st (some d) st.H (.ref k v 0 s n f) := by
 unfold ldeV at h
 split at h
 ·rename_i o hoo
  split at h
  ·rename_i t' y d' hop hd
   split at h
   ·rename_i k' ver off hy
    split at h
    ·rename_i blk hb
     simp only [Option.some.injEq, LdE.mk.injEq] at h
     obtain ⟨rfl, rfl, rfl, hcs⟩ := h
     have hd' := dstOf_spec hd
     refine CoreE.of_y ⟨o, opAt_spec hoo, hd'.1, hd'.2, evOp_sound hT ?_⟩
     simp only [evOp, hop, hy, hb, hcs]
     unfold plainT at ha
     unfold partH
     cases ht : τ t' with
     | none => rw [ht] at ha; cases ha
     | some ti =>
     rw [ht] at ha
     simp only [Bool.not_eq_true'] at ha
     simp only [ha, cond_false, nthV_eq]
     have hg := (getI_spec hx).2.2
     have ho' : o' < Enc.sz α := Nat.le_of_ble_eq_true ho
     have hlt : i.toNat * Enc.sz α + o' + 1 ≤ (dL xs).length := dL_bound hg (n := 1) (by omega)
     have : (setL (dL xs) (i.toNat * Enc.sz α + o') [V.ref k v 0 s n f])[i.toNat * Enc.sz α + o']? = some (.ref k v 0 s n f) := by
      unfold setL
      rw [List.append_assoc, List.getElem?_append_right (by simp; omega), List.length_take, Nat.min_eq_left (by omega), Nat.sub_self]
      simp
     rw [this]
     rfl
    ·cases h
   ·cases h
  ·cases h
 ·cases h
end
end Go.D
