import Derived.Test.YtamegkbinbplaaatlbDAny
set_option linter.unusedVariables false
namespace Go.D
section
variable {P : Program} {Γ : Ctx} {τ : Tau}
def CoreE (P : Program) (Γ : Ctx) (ops : Array Oper) (j : Nat) (st : St) (dd : Option Nat) (H' : Hp) (x : V) : Prop :=
 ∃ o, AtOp ops st j o ∧ o.dst = dd ∧ (∀ d, dd = some d → d < st.nt) ∧ YldE P Γ o st H' x
theorem CoreE.of_g {ops : Array Oper} {j : Nat} {st : St} {d : Nat} {x : V} (h : ∃ o, AtOp ops st j o ∧ o.dst = some d ∧ d < st.nt ∧ YldG P Γ o st x) : CoreE P Γ ops j st (some d) st.H x := by
 obtain ⟨o, h1, h2, h3, h4⟩ := h
 refine ⟨o, h1, h2, fun d' e => by cases e; exact h3, fun a w M μ fp G O hS K Qc hK => ?_⟩
 exact h4 a w M μ fp G O hS K Qc fun u w' hg hs => hK u w' M μ fp G (O.grew hg) (hg.carry _ _ _ fun k blk hb => O.born_lt k blk hb) hs
theorem CoreE.of_y {ops : Array Oper} {j : Nat} {st : St} {d : Nat} {x : V} (h : ∃ o, AtOp ops st j o ∧ o.dst = some d ∧ d < st.nt ∧ Yld P Γ o st x) : CoreE P Γ ops j st (some d) st.H x := .of_g (yldG_of h)
theorem opsP_E {ops : Array Oper} {Q : Exit → St → Prop} {j : Nat} {st : St} {dd : Option Nat} {H' : Hp} {x : V} (h : CoreE P Γ ops j st dd H' x) (hk : opsP P Γ ops Q (j + 1) ({ st with H := H' }.put dd x)) : opsP P Γ ops Q j st := by
 obtain ⟨o, h1, h2, h3, h4⟩ := h
 refine opsP_op h1.op h1.wanted (h4.opP (fun d' hd' => h3 d' (by rw [← h2]; exact hd')) ?_)
 rw [h2]; exact hk
theorem qA_E {ops : Array Oper} {vis mod : List (List Nat)} {T : St → Prop} {n j : Nat} {st : St} {dd : Option Nat} {x : V} (Hm' : Hp) (st' : St)
  (h : ∀ Γ' : Ctx, (∀ i b, Γ'.L i b → Γ.L i b) → CoreE P Γ' ops j (stA ops vis j st) dd Hm' x)
  (hl : Nat.beq Hm'.length st.H.length = true) (hm : fillH (lk mod j) 0 (maskH (lk vis j) 0 st.H) Hm' = Hm') (hp : hpIn (lk vis j) Hm') (hx : dd = none ∨ okA (lk vis j) x = true ∨ frz x = true)
  (he : (st.inH (fillH (lk mod j) 0 st.H Hm')).put dd x = st')
  (hk : qA P Γ ops vis mod T n (j + 1) st') : qA P Γ ops vis mod T (n + 1) j st := by
 subst he
 have hl := Nat.eq_of_beq_eq_true hl
 obtain ⟨o, h1, h2, h3, _⟩ := h Γ (fun _ _ h => h)
 refine ⟨o, x, Hm', h1.op, fun d hd => h3 d (by rw [← h2]; exact hd), hl, fun k hk => ?_, hp, by rw [h2]; exact .inl hx, .inl ⟨h1.wanted, fun Γ' hΓ => ?_⟩, by rw [h2]; exact hk⟩
 ·have := fillH_get (lk mod j) 0 (maskH (lk vis j) 0 st.H) Hm' (by rw [maskH_len]; exact hl) k
  rw [hm, Nat.zero_add, hk] at this
  simpa using this
 ·obtain ⟨o', g1, g2, g3, g4⟩ := h Γ' hΓ
  have : o' = o := Option.some.inj (g1.op.symm.trans h1.op)
  subst this
  exact g4
def evA (τ : Tau) (mu : List Nat) (ops : Array Oper) (vis mod : List (List Nat)) (ks : List Nat) : Nat → Nat → St → Option St
 | 0, _, st => some st
 | n + 1, j, st =>
  match ops[j]? with
  | none => none
  | some o =>
   match dstOf st o with
   | none => none
   | some d =>
    bif (lk vis j == ks) && (lk mod j).isEmpty then
    match wantedV ops (stA ops vis j st) o with
    | some true =>
     match evOpF τ mu (stA ops vis j st) o with
     | some x => bif okA ks x || frz x then evA τ mu ops vis mod ks n (j + 1) (st.set d x) else none
     | none => none
    | some false => evA τ mu ops vis mod ks n (j + 1) (st.set d (.lit undef))
    | none => none
    else none
theorem qA_ev (hT : TOK P τ) (mu ks : List Nat) {ops : Array Oper} {vis mod : List (List Nat)} {T : St → Prop} {m : Nat} : ∀ (n : Nat) {j : Nat} {st st' : St}, hpIn ks (maskH ks 0 st.H) → evA τ mu ops vis mod ks n j st = some st' → qA P Γ ops vis mod T m (j + n) st' → qA P Γ ops vis mod T (m + n) j st
 | 0, j, st, st', _, h, hk => by
  simp only [evA, Option.some.injEq] at h
  subst h
  exact hk
 | n + 1, j, st, st', hp, h, hk => by
  have hk' : qA P Γ ops vis mod T m ((j + 1) + n) st' := by
   have e : (j + 1) + n = j + (n + 1) := by omega
   rw [e]; exact hk
  show qA P Γ ops vis mod T ((m + n) + 1) j st
  simp only [evA] at h
  split at h
  ·cases h
  ·rename_i o ho
   split at h
   ·cases h
   ·rename_i d hd
    obtain ⟨hd1, hd2⟩ := dstOf_spec hd
    cases hc : ((lk vis j == ks) && (lk mod j).isEmpty) with
    | false => rw [hc] at h; cases h
    | true =>
     rw [hc, cond_true] at h
     simp only [Bool.and_eq_true, beq_iff_eq, List.isEmpty_iff] at hc
     obtain ⟨hv, hmo⟩ := hc
     have fill : fillH (lk mod j) 0 st.H (maskH (lk vis j) 0 st.H) = st.H := by
      refine List.ext_getElem? fun k => ?_
      rw [fillH_get _ _ _ _ (maskH_len _ _ _), hmo]
      simp [hasN]
     have step : ∀ x, (okA (lk vis j) x = true ∨ frz x = true) → AS P Γ ops j (stA ops vis j st) o (maskH (lk vis j) 0 st.H) x → evA τ mu ops vis mod ks n (j + 1) (st.set d x) = some st' → qA P Γ ops vis mod T ((m + n) + 1) j st := by
      intro x hx ha h
      refine ⟨o, x, maskH (lk vis j) 0 st.H, ho, fun d' e => by rw [hd1] at e; cases e; exact hd2, maskH_len _ _ _, fun k _ => rfl, by rw [hv]; exact hp, .inl (.inr hx), ha, ?_⟩
      rw [fill, hd1]
      exact qA_ev hT mu ks n (st := st.set d x) hp h hk'
     split at h
     ·rename_i hw
      split at h
      ·rename_i x hx
       cases hox : (okA ks x || frz x) with
       | false => rw [hox] at h; cases h
       | true =>
        rw [hox, cond_true] at h
        simp only [Bool.or_eq_true] at hox
        refine step x (by rw [hv]; exact hox) (.inl ⟨hw, fun Γ' _ => ?_⟩) h
        have hy := evOpF_sound (P := P) (Γ := Γ') hT hx
        intro a w M μ fp G O hS K Qc hK
        exact hy.g a w M μ fp G O hS K Qc fun u w' hg hs => hK u w' M μ fp G (O.grew hg) (hg.carry _ _ _ fun k blk hb => O.born_lt k blk hb) hs
      ·cases h
     ·rename_i hw
      exact step _ (.inr rfl) (.inr ⟨hw, rfl, rfl⟩) h
     ·cases h
theorem qA_end {ops : Array Oper} {vis mod : List (List Nat)} {T : St → Prop} {j : Nat} {st : St} (h : T st) : qA P Γ ops vis mod T 0 j st := h
theorem new_blockK {st : St} {M : Nat → Prop} {w : World} {μ : Nat → Option Nat} {fp : Nat → List Nat} {G : Nat → Option Nat} (O : Own Γ M st.H w μ fp G) {k : Nat} (hpin : ∀ i b, Γ.L i b → k ≠ i) {blk : Blk} (hb : st.H[k]? = some (some blk)) {w1 : World} (hw1 : Grew w w1) (hsz : w1.heap.size = w.heap.size) {c : Array Value} {e : TypeId} {cs : List V} {us : List Value}
  (hs : SlL w M st.H μ cs us) (hl : us.length ≤ c.size) (hc : ∀ j, j < us.length → c[j]? = us[j]?) :
  ∃ M' μ' fp' G', Own Γ M' (setH st.H k (some ⟨blk.ver + 1, cs⟩)) (w1.alloc (.cells c e)) μ' fp' G' ∧ Carry w M st.H μ (w1.alloc (.cells c e)) M' (setH st.H k (some ⟨blk.ver + 1, cs⟩)) μ' ∧ μ' k = some w.heap.size := by
 have hg := alloc_grew w1 (.cells c e)
 have hgw : Grew w (w1.alloc (.cells c e)) := hw1.trans hg fun _ h => h.elim
 have hkl : k < st.H.length := (List.getElem?_eq_some_iff.1 hb).1
 let M' : Nat → Prop := fun b => M b ∨ b = w.heap.size
 have := O.turn (M' := M') (w' := w1.alloc (.cells c e)) k (Nat.le_of_lt hkl) (some ⟨blk.ver + 1, cs⟩) (some w.heap.size) [] hgw.os hgw.tape hgw.output hgw.size hgw.drawn (fun i hi _ => hgw.block i hi fun h => h)
  (fun b h => h.imp id fun h => by omega) (fun b h _ => .inl h) (fun _ b hb => .inr (by simpa using hb)) (fun b h => ?_) (fun _ b hb => .inr (by simp at hb; omega)) (fun _ => by simp)
  (fun blk' hb' h => by cases hb'; exact ⟨blk, hb, by simp, fun e => by simp at e⟩) (fun blk' hb' C => ?_) (fun i b hb hk => absurd hk (hpin i b hb))
 ·obtain ⟨fp', G', O', C, _⟩ := this
  exact ⟨M', _, fp', G', O', C, by simp [updN]⟩
 ·rcases h with h | h
  ·have := O.lt b h; simp; omega
  ·simp; omega
 ·cases hb'
  refine ⟨c, e, us, ?_, (SlL.carry C hs).ceL, ?_⟩
  ·show (w1.heap.push (.cells c e))[w.heap.size]? = _
   rw [← hsz]
   simp
  ·intro j hj
   rw [Nat.zero_add, ← hsz, World.cell?_alloc_new]
   exact hc j hj
def alcV (τ : Tau) (mu : List Nat) (ops : Array Oper) (j : Nat) (st : St) : Option (Nat × List V) :=
 match opAt ops st j with
 | some o => match o.op, dstOf st o with
  | .alloc t, some d => match τ t with
   | some i => some (d, i.zero)
   | none => none
  | .box _ x, some d => match evalV st x with
   | some v => match valCells v with
    | some cs => bif hasN mu d then some (d, cs) else none
    | none => none
   | none => none
  | _, _ => none
 | none => none
theorem setH_ge {H : Hp} {k : Nat} (hk : k < H.length) (x : Option Blk) : (setH H k x).length = H.length := by
 unfold setH
 have : Nat.blt k H.length = true := Nat.ble_eq_true_of_le hk
 rw [this, cond_true, List.length_set]
theorem alc_E (hT : TOK P τ) (mu : List Nat) {ops : Array Oper} {j : Nat} {st : St} (d k ver : Nat) (hpin : ∀ i b, Γ.L i b → k ≠ i) {blk : Blk} {cs : List V} (hb : blkAt st.H k ver = some blk) (h : alcV τ mu ops j st = some (d, cs)) :
  CoreE P Γ ops j st (some d) (setH st.H k (some ⟨ver + 1, cs⟩)) (.ptr k (ver + 1) 0) := by
 obtain ⟨b1, b2⟩ := blkAt_spec hb
 subst b2
 have hkl : k < st.H.length := (List.getElem?_eq_some_iff.1 b1).1
 have fin : ∀ (w w' : World) (M M' : Nat → Prop) (μ' : Nat → Option Nat), μ' k = some w.heap.size → Sl w' M' (setH st.H k (some ⟨blk.ver + 1, cs⟩)) μ' (.ptr k (blk.ver + 1) 0) (.pointer (some ⟨w.heap.size, 0, none⟩)) := by
  intro w w' M M' μ' hm
  simp only [Sl]
  refine ⟨by rw [setH_ge hkl]; exact hkl, ⟨_, rfl⟩, fun blk' hb' => ?_⟩
  rw [setH_same (Nat.le_of_lt hkl)] at hb'
  cases hb'
  exact ⟨Nat.le_refl _, fun _ => ⟨_, hm, rfl⟩⟩
 unfold alcV at h
 split at h
 ·rename_i o ho
  split at h
  ·rename_i t d' hop hd
   split at h
   ·rename_i i ht
    simp only [Option.some.injEq, Prod.mk.injEq] at h
    obtain ⟨rfl, rfl⟩ := h
    have hd' := dstOf_spec hd
    refine ⟨o, opAt_spec ho, hd'.1, fun d e => by cases e; exact hd'.2, fun a w M μ fp G O hS K Qc hK => ?_⟩
    obtain ⟨inf, dd, z, g1, g2, g3, g4, g5, g6, g7, g8, g9⟩ := hT t i ht
    have hrun : (execOp a.eval o).run P w = .ok (.value (.pointer (some ⟨w.heap.size, 0, none⟩))) (w.alloc (.cells z.cells t)) := by
     simp only [execOp, hop, Instr.alloc, newVar, newRow, newObj, Sem.run_bind, zeroValue, typeInfo, run_program, Result.andThen_ok, g1, g5, Sem.run_pure]
     simp [Sem.run]
    have hz := (g6 w M).sl (H := st.H) (μ := μ)
    obtain ⟨M', μ', fp', G', O', C, hm⟩ := new_blockK O hpin b1 (Kept.refl _ w) rfl (c := z.cells) (e := t) hz (by simp) (fun j hj => by simp)
    simp only [Oper.wp, hrun, Oper.upon]
    exact hK _ _ M' μ' fp' G' O' C (fin w _ M M' μ' hm)
   ·cases h
  ·rename_i t x d' hop hd
   split at h
   ·rename_i v hx
    split at h
    ·rename_i cs' hc
     cases hmu : hasN mu d' with
     | false => rw [hmu] at h; cases h
     | true =>
      rw [hmu, cond_true] at h
      simp only [Option.some.injEq, Prod.mk.injEq] at h
      obtain ⟨rfl, rfl⟩ := h
      have hd' := dstOf_spec hd
      refine ⟨o, opAt_spec ho, hd'.1, fun d e => by cases e; exact hd'.2, fun a w M μ fp G O hS K Qc hK => ?_⟩
      have hv := evalV_sound hS hx
      obtain ⟨us, hus, hsl⟩ := valCells_sound hc hv
      have hrun : (execOp a.eval o).run P w = .ok (.value (.pointer (some ⟨w.heap.size, 0, none⟩))) (w.alloc (.cells (a.eval x).cells t)) := by
       simp only [execOp, hop, Instr.box, newVar, newRow, newObj, Sem.run_bind, Sem.run, Result.andThen_ok, Sem.run_pure, World.alloc_eq]
      obtain ⟨M', μ', fp', G', O', C, hm⟩ := new_blockK O hpin b1 (Kept.refl _ w) rfl (c := (a.eval x).cells) (e := t) hsl (by rw [hus]; simp) (fun j hj => by rw [hus]; simp)
      simp only [Oper.wp, hrun, Oper.upon]
      exact hK _ _ M' μ' fp' G' O' C (fin w _ M M' μ' hm)
    ·cases h
   ·cases h
  ·cases h
 ·cases h
theorem store_yldE (hT : TOK P τ) {o : Oper} {t : Nat} {i : TI} {y x : Operand} {v : V} {xs cells' : List V} {k ver off : Nat} {blk : Blk} {st : St}
  (ho : o.op = .store t y x) (hd : o.dst = none) (ht : τ t = some i) (hy : evalV st y = some (.ptr k ver off)) (hb : blkAt st.H k ver = some blk) (hx : evalV st x = some v) (hv : valCells (soft (tyV τ t v)) = some xs)
  (hone : xs.all cellV = true) (hsz : xs.length = i.size) (hle : off + xs.length ≤ blk.cells.length) (hc : setL blk.cells off xs = cells') : YldE P Γ o st (setH st.H k (some ⟨ver, cells'⟩)) .any := by
 intro a w M μ fp G O hS K Qc hK
 obtain ⟨b1, b2⟩ := blkAt_spec hb
 obtain ⟨b, hm, hptr⟩ := (evalV_sound hS hy).ptr_at hb
 obtain ⟨us, hus, hsl⟩ := valCells_sound hv (soft_sl (tyV_sound (evalV_sound hS hx)))
 have hlen := hsl.length
 obtain ⟨c, e, ws, hh, hce, hlie⟩ := O.at_ hb hm
 have hwl := hce.length
 obtain ⟨_, hcl⟩ := hlie.heap hh
 have hfit : off + us.length ≤ c.size := by omega
 have hszr := run_sizeOf' (hT t i ht) w
 have hst : (storeCells ⟨b, off, none⟩ us).run P w = .ok () (w.setCells b off us) := by
  have := run_storeCells_cells (P := P) b off us 0 w (fun j hj => by rw [cell_of_heap hh, Nat.add_zero, Array.getElem?_eq_getElem (by omega)]; rfl) (fun j hj => frozen_of_heap hh _) (hsl.one hone)
  rwa [Nat.add_zero] at this
 have hrun : (execOp a.eval o).run P w = .ok .skip (w.setCells b off us) := by
  have hsize : ¬ (us.toArray.size ≠ i.size) := by simp; omega
  simp only [execOp, ho, hptr, Instr.storeAt, Instr.sureAddr, storeVar, hus, Sem.run_bind, Sem.run_pure, Result.andThen_ok, hszr, hsize, if_false, hst]
 simp only [Oper.wp, hrun, Oper.upon]
 obtain ⟨fp', G', O', C⟩ := write_block (ver := ver) (cells' := cells') O b1 hm (by omega) hsl hh hfit (fun ws' f hce' => by
  subst hc
  obtain ⟨f1, f2, rfl, h3, h4⟩ := hce'.split off
  obtain ⟨f3, f4, rfl, h5, h6⟩ := h4.split xs.length
  rw [List.drop_drop, List.drop_drop] at h6
  have hl' := hce'.length
  refine ⟨ws'.take off ++ us ++ ws'.drop (off + us.length), f1 ++ f4, ?_, ?_, fun hwc hw j hj => ?_⟩
  ·have h7 := (h3.append hsl.ceL).append h6
   rw [List.append_nil, ← hlen] at h7
   unfold setL
   rw [← hlen]
   exact h7
  ·exact List.Sublist.append (List.Sublist.refl _) (List.sublist_append_right _ _)
  ·exact splice_get (by omega) (by simpa using hwc) hw j hj)
 have := hK undef (w.setCells b off us) M _ fp' G' O' C (by simp only [Sl])
 exact this
structure StoI where
 k : Nat
 ver : Nat
 cells : List V
def stoV (τ : Tau) (ops : Array Oper) (j : Nat) (st : St) : Option StoI :=
 match opAt ops st j with
 | some o => match o.op, o.dst with
  | .store t y x, none => match τ t, evalV st y, evalV st x with
   | some i, some (.ptr k ver off), some v => match blkAt st.H k ver, valCells (soft (tyV τ t v)) with
    | some blk, some xs => bif xs.all cellV && Nat.beq xs.length i.size && Nat.ble (off + xs.length) blk.cells.length then some ⟨k, ver, setL blk.cells off xs⟩ else none
    | _, _ => none
   | _, _, _ => none
  | _, _ => none
 | none => none
theorem sto_E (hT : TOK P τ) {ops : Array Oper} {j : Nat} {st : St} (k ver : Nat) {cells : List V} (h : stoV τ ops j st = some ⟨k, ver, cells⟩) : CoreE P Γ ops j st none (setH st.H k (some ⟨ver, cells⟩)) .any := by
 unfold stoV at h
 split at h
 ·rename_i o ho
  split at h
  ·rename_i t y x hop hd
   split at h
   ·rename_i i k' ver' off v ht hy hx
    split at h
    ·rename_i blk xs hb hv
     cases hc : (xs.all cellV && Nat.beq xs.length i.size && Nat.ble (off + xs.length) blk.cells.length) with
     | false => rw [hc] at h; cases h
     | true =>
      rw [hc, cond_true] at h
      simp only [Option.some.injEq, StoI.mk.injEq] at h
      obtain ⟨rfl, rfl, rfl⟩ := h
      simp only [Bool.and_eq_true] at hc
      exact ⟨o, opAt_spec ho, hd, (fun d e => by cases e), store_yldE hT hop hd ht hy hb hx hv hc.1.1 (Nat.eq_of_beq_eq_true hc.1.2) (Nat.le_of_ble_eq_true hc.2) rfl⟩
    ·cases h
   ·cases h
  ·cases h
 ·cases h
end
end Go.D
