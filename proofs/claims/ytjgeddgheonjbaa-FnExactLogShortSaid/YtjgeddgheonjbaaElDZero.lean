import Derived.Test.YtjgeddgheonjbaaElDNil
set_option linter.unusedVariables false
namespace Go.D
def ZIok (P : Program) (t : TypeId) (zs : List V) : Prop := ∃ inf z, P.info? t = some inf ∧ inf.zero = some z ∧ ∀ w M, FrL w M zs z.cells.toList
theorem ziok {P : Program} {t : TypeId} {ti : TypeInfo} {z : Value} {zs : List V} (h : P.types[t]? = some ti) (h2 : ti.zero = some z) (h3 : ∀ w M, FrL w M zs z.cells.toList) : ZIok P t zs := ⟨ti, z, info_of h, h2, h3⟩
theorem Fr.nilF (w : World) (M : Nat → Prop) (s : Nat) (h : 0 < s) : Fr w M (.arr s 0 [] true) (.slice none 0 0) := by
 simp only [Fr]
 exact ⟨none, 0, rfl, ⟨h, by simp, by omega, by unfold maxI; omega, fun h => rfl⟩, .inl trivial⟩
section
variable {P : Program} {Γ : Ctx} {τ : Tau}
def bldV (τ : Tau) (zs : List V) (ops : Array Oper) (j : Nat) (st : St) : Option (Nat × Nat × List V) :=
 match opAt ops st j with
 | some o => match o.op, dstOf st o with
  | .build t parts, some d => match τ t, structPlaces τ t, evalParts st parts.toList with
   | some i, some ps, some vs => bif Nat.beq ps.length (nFields i.k) then
    match fillV (fun j => ps[j]?) zs (softParts τ (fieldTy i.k) vs) with
    | some cells => some (d, t, cells)
    | none => none
    else none
   | _, _, _ => none
  | _, _ => none
 | none => none
theorem bldV_sound (hT : TOK P τ) {ops : Array Oper} {j : Nat} {st : St} {d t : Nat} {zs cells : List V} (hz : ZIok P t zs) (h : bldV τ zs ops j st = some (d, t, cells)) : ∃ o, AtOp ops st j o ∧ o.dst = some d ∧ d < st.nt ∧ Yld P Γ o st (.agg cells) := by
 unfold bldV at h
 split at h
 ·rename_i o ho'
  split at h
  ·rename_i t' parts d' ho hd
   have hd' := dstOf_spec hd
   split at h
   ·rename_i i ps vs hi hps hvs
    cases hl : Nat.beq ps.length (nFields i.k) with
    | false => rw [hl] at h; cases h
    | true =>
     rw [hl, cond_true] at h
     split at h
     ·rename_i cells' hf
      simp only [Option.some.injEq, Prod.mk.injEq] at h
      obtain ⟨rfl, rfl, rfl⟩ := h
      refine ⟨o, opAt_spec ho', hd'.1, hd'.2, fun a w M μ fp G O hS => ?_⟩
      have hg := Kept.refl (fun _ => False) w
      obtain ⟨inf, d, z, h1, h2, h3, h4, h5, h6, h7, h8, h9⟩ := hT t' i hi
      obtain ⟨inf', z', g1, g2, g3⟩ := hz
      rw [h1] at g1
      cases g1
      rw [h5] at g2
      cases g2
      have hl' := Nat.eq_of_beq_eq_true hl
      simp only [structPlaces, hi] at hps
      split at hps
      ·rename_i fs hk
       rw [hk] at h8 hl'
       simp only [TKok] at h8
       simp only [nFields] at hl'
       obtain ⟨fields, rfl, hfs⟩ := h8
       simp only [Option.some.injEq] at hps
       have hall : ∀ (l : List (Nat × Nat)), (l.filterMap (plcOf τ)).length = l.length → ∀ f ∈ l, ∃ j, τ f.1 = some j := by
        intro l
        induction l with
        | nil => intro _ f hf; cases hf
        | cons f l ih =>
         intro hlen g hg
         cases hj : τ f.1 with
         | none =>
          rw [List.filterMap_cons_none (by simp [plcOf, hj])] at hlen
          have := List.length_filterMap_le (plcOf τ) l
          simp only [List.length_cons] at hlen
          omega
         | some j =>
          rw [List.filterMap_cons_some (b := (f.2, j.size)) (by simp [plcOf, hj])] at hlen
          simp only [List.length_cons] at hlen
          rcases List.mem_cons.1 hg with rfl | hg
          ·exact ⟨j, hj⟩
          ·exact ih (by omega) g hg
       have hmm : ∀ (l : List Field), (∀ f ∈ l, ∃ j, τ f.type = some j) →
         ∀ w : World, (l.mapM fun f => (do pure (f.offset, ← sizeOf f.type) : Sem (Nat × Nat))).run P w =
          .ok ((l.map (fun f => (f.type, f.offset))).filterMap (plcOf τ)) w := by
        intro l
        induction l with
        | nil => intro _ w; simp
        | cons f l ih =>
         intro hj w
         obtain ⟨j, hj0⟩ := hj f (by simp)
         have hsz := run_sizeOf' (hT f.type j hj0) w
         rw [List.mapM_cons]
         simp only [Sem.run_bind, hsz, Result.andThen_ok, Sem.run_pure, ih (fun g hg => hj g (by simp [hg])) w, List.map_cons]
         rw [List.filterMap_cons_some (b := (f.offset, j.size)) (by simp [plcOf, hj0])]
       have hall' := hall fs (by rw [hps]; exact hl')
       have hmm' := hmm fields.toList (fun f hf => hall' (f.type, f.offset) (by rw [← hfs]; exact List.mem_map.2 ⟨f, hf, rfl⟩)) w
       rw [hfs, hps] at hmm'
       have hmA : (fields.mapM fun f => (do pure (f.offset, ← sizeOf f.type) : Sem (Nat × Nat))).run P w = .ok ps.toArray w := by
        rw [Array.mapM_eq_mapM_toList, Sem.run_map, hmm']
        rfl
       have hev := evalParts_sound hS hvs
       obtain ⟨c, rfl⟩ := h7 fs hk
       have hzz := (g3 w M).sl (H := st.H) (μ := μ)
       obtain ⟨rs, hr, hrs⟩ := fillV_sound (place' := fun i => ps.toArray[i]?) (fun i o s hh => by simpa using hh) _ _ _ _ _ hf hzz (softParts_fst.trans hev.1) (softParts_sl hev.2)
       refine ⟨.agg rs.toArray, w, ?_, hg, by simp only [Sl]; exact ⟨rs, rfl, hrs⟩⟩
       have hzv : (zeroValue t').run P w = .ok (.agg c) w := by simp [zeroValue, typeInfo, h1, h5]
       have hpl : ((parts.map fun (i, x) => (i, a.eval x)).toList) = parts.toList.map fun (i, x) => (i, a.eval x) := by simp
       simp only [Value.cells, Array.toArray_toList] at hr
       simp only [execOp, ho, Instr.build, Sem.run_bind, hzv, Result.andThen_ok, run_underlying h2, hmA, Value.cells, hpl, hr, Sem.run_pure]
      ·cases hps
     ·cases h
   ·cases h
  ·cases h
 ·cases h
def alzV (ops : Array Oper) (j : Nat) (st : St) : Option (Nat × Nat) :=
 match opAt ops st j with
 | some o => match o.op, dstOf st o with
  | .alloc t, some d => some (d, t)
  | _, _ => none
 | none => none
theorem alz_E {ops : Array Oper} {j : Nat} {st : St} (d t k ver : Nat) (hpin : ∀ i b, Γ.L i b → k ≠ i) {blk : Blk} {zs : List V} (hz : ZIok P t zs) (hb : blkAt st.H k ver = some blk) (h : alzV ops j st = some (d, t)) :
  CoreE P Γ ops j st (some d) (setH st.H k (some ⟨ver + 1, zs⟩)) (.ptr k (ver + 1) 0) := by
 obtain ⟨b1, b2⟩ := blkAt_spec hb
 subst b2
 have hkl : k < st.H.length := (List.getElem?_eq_some_iff.1 b1).1
 unfold alzV at h
 split at h
 ·rename_i o ho
  split at h
  ·rename_i t' d' hop hd
   simp only [Option.some.injEq, Prod.mk.injEq] at h
   obtain ⟨rfl, rfl⟩ := h
   have hd' := dstOf_spec hd
   refine ⟨o, opAt_spec ho, hd'.1, (fun d e => by cases e; exact hd'.2), fun a w M μ fp G O hS K Qc hK => ?_⟩
   obtain ⟨inf, z, g1, g2, g3⟩ := hz
   have hrun : (execOp a.eval o).run P w = .ok (.value (.pointer (some ⟨w.heap.size, 0, none⟩))) (w.alloc (.cells z.cells t')) := by
    simp only [execOp, hop, Instr.alloc, newVar, newRow, newObj, Sem.run_bind, zeroValue, typeInfo, run_program, Result.andThen_ok, g1, g2, Sem.run_pure]
    simp [Sem.run]
   have hzz := (g3 w M).sl (H := st.H) (μ := μ)
   obtain ⟨M', μ', fp', G', O', C, hm⟩ := new_blockK O hpin b1 (Kept.refl _ w) rfl (c := z.cells) (e := t') hzz (by simp) (fun j hj => by simp)
   simp only [Oper.wp, hrun, Oper.upon]
   refine hK _ _ M' μ' fp' G' O' C ?_
   simp only [Sl]
   refine ⟨by rw [setH_ge hkl]; exact hkl, ⟨_, rfl⟩, fun blk' hb' => ?_⟩
   rw [setH_same (Nat.le_of_lt hkl)] at hb'
   cases hb'
   exact ⟨Nat.le_refl _, fun _ => ⟨_, hm, rfl⟩⟩
  ·cases h
 ·cases h
def ThwR (n : Nat) (x y : V) : Prop := (x = y ∧ plainC x = true) ∨ ∃ sz, x = .arr sz 0 [] true ∧ y = .ref n 0 0 sz 0 false
theorem Imp.thawB {st st' : St} (n : Nat) (hl : Nat.beq st.H.length n = true) (hH : HpRel (ThwR n) n (some ⟨0, []⟩) 0 (st.H ++ [some ⟨0, []⟩]) st'.H) (ht : st.tmps = st'.tmps) (hn : st.nt = st'.nt) (h0 : ∀ i b, Γ.L i b → ∃ blk, st'.H[i]? = some (some blk)) : Imp Γ st st' := by
 have hl := Nat.eq_of_beq_eq_true hl
 have e1 : setH st.H st.H.length (some ⟨0, []⟩) = st.H ++ [some ⟨0, []⟩] := by
  unfold setH
  have : Nat.blt st.H.length st.H.length = false := by
   cases h : Nat.blt st.H.length st.H.length with
   | false => rfl
   | true => have := Nat.le_of_ble_eq_true h; omega
  rw [this, cond_false]
 refine Imp.trans (Imp.ghost (st := st)) ?_
 rw [e1]
 intro a w r
 obtain ⟨h1, h2, M, μ, fp, G, O, hS⟩ := r
 simp only at O hS
 have hlen := hH.len
 have hkn : (st.H ++ [some (⟨0, []⟩ : Blk)])[n]? = some (some ⟨0, []⟩) := by rw [← hl]; simp
 have hget : ∀ j blk', st'.H[j]? = some (some blk') → (j = n ∧ blk' = ⟨0, []⟩) ∨ (j ≠ n ∧ ∃ c, (st.H ++ [some (⟨0, []⟩ : Blk)])[j]? = some (some c) ∧ blk'.ver = c.ver ∧ (c.cells.all quV = true ∧ blk'.cells = c.cells ∨ CellRel (ThwR n) c.cells blk'.cells)) := by
  intro j blk' hj
  rcases hH.get hj with ⟨e, h3, _⟩ | ⟨e, h3⟩
  ·cases h3; exact .inl ⟨by omega, rfl⟩
  ·rcases h3 with h3 | ⟨c, c', h4, h5, h6, h7⟩
   ·cases h3
   ·cases h5; exact .inr ⟨by omega, c, h4, h6, h7⟩
 have hnl : n < st'.H.length := by rw [hlen]; simp; omega
 have C : Carry w M (st.H ++ [some ⟨0, []⟩]) μ w M st'.H μ := ⟨Same.refl w M, fun b h => .inl h, by omega, fun j blk' hj hb' => by
  rcases hget j blk' hb' with ⟨rfl, rfl⟩ | ⟨_, c, h3, h4, _⟩
  ·exact ⟨_, hkn, Nat.le_refl _, fun _ => ⟨rfl, fun b _ => .of_eq rfl⟩⟩
  ·exact ⟨c, h3, by omega, fun _ => ⟨rfl, fun b _ => .of_eq rfl⟩⟩⟩
 have hsl : ∀ x y u, ThwR n x y → Sl w M (st.H ++ [some ⟨0, []⟩]) μ x u → Sl w M st'.H μ y u := by
  intro x y u hxy hs
  rcases hxy with ⟨rfl, _⟩ | ⟨sz, rfl, rfl⟩
  ·exact hs.carry C
  ·simp only [Sl, Fr] at hs
   obtain ⟨A, cap, rfl, ⟨q1, q2, q3, q4, q5⟩, _⟩ := hs
   have := q5 rfl
   subst this
   simp only [Sl]
   refine ⟨hnl, ⟨_, _, _, rfl⟩, fun blk hb => ⟨Nat.zero_le _, fun _ => .inl ⟨A, rfl, rfl, q1⟩⟩⟩
 refine ⟨h1, by rw [← hn]; exact h2, M, μ, fp, G, ⟨fun j blk' hj => ?_, fun j blk' hj => ?_, O.sub, O.m0, O.lt, O.new, O.apart, O.kept, fun i b hb => ?_⟩, fun s x hx => ?_⟩
 ·rcases hget j blk' hj with ⟨rfl, rfl⟩ | ⟨_, c, h3, h4, h5⟩
  ·exact (O.blk j _ hkn).carry C (fun b _ => rfl) (fun b _ => rfl)
  ·have h6 := O.blk j c h3
   cases hm : μ j with
   | none =>
    rw [hm] at h6
    simp only [BlkR] at h6 ⊢
    rcases h5 with ⟨_, h5⟩ | h5
    ·rw [h5]; exact h6
    ·rw [h6] at h5; exact h5
   | some b =>
    rw [hm] at h6
    obtain ⟨cc, e, us, hh, hce, hlie⟩ := h6
    refine ⟨cc, e, us, hh, ?_, hlie⟩
    rcases h5 with ⟨h7, h5⟩ | h5
    ·rw [h5]; exact hce.qu (fun b h => h) h7
    ·have key : ∀ {xs ys : List V} {vs : List Value} {fp : List Nat}, CeL w M (st.H ++ [some ⟨0, []⟩]) μ xs vs fp → CellRel (ThwR n) xs ys → CeL w M st'.H μ ys vs fp := by
      intro xs
      induction xs with
      | nil => intro ys vs fp h k; simp only [CellRel] at k; subst k; simpa only [CeL] using h
      | cons x xs ih =>
       intro ys vs fp h k
       obtain ⟨y, ys', rfl, k1, k2⟩ := k
       simp only [CeL] at h ⊢
       obtain ⟨u, us', f, f', rfl, rfl, g1, g2⟩ := h
       refine ⟨u, us', f, f', rfl, rfl, ?_, ih g2 k2⟩
       rcases g1 with g1 | ⟨e, g1⟩
       ·rcases k1 with ⟨rfl, _⟩ | ⟨sz, rfl, rfl⟩
        ·exact .inl g1
        ·simp only [Ow] at g1
         refine .inr ⟨g1.1, hsl _ _ u (.inr ⟨sz, rfl, rfl⟩) ?_⟩
         simp only [Sl]
         exact g1.2
       ·exact .inr ⟨e, hsl _ _ u k1 g1⟩
     exact key hce h5
 ·rcases hget j blk' hj with ⟨rfl, rfl⟩ | ⟨_, c, h3, _, _⟩
  ·exact O.mine j _ hkn
  ·exact O.mine j c h3
 ·obtain ⟨p1, _, p3⟩ := O.pin i b hb
  exact ⟨p1, h0 i b hb, p3⟩
 ·rw [← ht] at hx
  obtain ⟨u, hu, hs⟩ := hS s x hx
  exact ⟨u, hu, hs.carry C⟩
end
end Go.D
