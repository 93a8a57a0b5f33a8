import Derived.Test.YtamegkbinbplaaatlbDEv3
set_option linter.unusedVariables false
namespace Go.D
section
variable {P : Program} {Γ : Ctx} {τ : Tau}
theorem Own.at_ {st : St} {w : World} {M : Nat → Prop} {μ : Nat → Option Nat} {fp : Nat → List Nat} {G : Nat → Option Nat} (O : Own Γ M st.H w μ fp G) {k ver : Nat} {blk : Blk} (h : blkAt st.H k ver = some blk) {b : Nat} (hb : μ k = some b) :
  ∃ c e us, w.heap[b]? = some (.cells c e (0, 0)) ∧ CeL w M st.H μ blk.cells us (fp k) ∧ Lies w b 0 us := by
 obtain ⟨h1, h2⟩ := blkAt_spec h
 have := O.blk k blk h1
 rw [hb] at this
 exact this
theorem Sl.ptr_at {w : World} {M : Nat → Prop} {H : Hp} {μ : Nat → Option Nat} {k ver off : Nat} {u : Value} {blk : Blk} (h : Sl w M H μ (.ptr k ver off) u) (hb : blkAt H k ver = some blk) : ∃ b, μ k = some b ∧ u = .pointer (some ⟨b, off, none⟩) := by
 obtain ⟨h1, h2⟩ := blkAt_spec hb
 simp only [Sl] at h
 exact (h.2.2 blk h1).2 h2
theorem evOp_sound (hT : TOK P τ) {st : St} {o : Oper} {x : V} (h : evOp τ st o = some x) : Yld P Γ o st x := by
 intro a w M μ fp G O hS
 have hg : Grew w w := Kept.refl _ w
 unfold evOp at h
 split at h
 ·-- move
  rename_i y ho
  cases hv : evalV st y with
  | none => rw [hv] at h; cases h
  | some v =>
   rw [hv, Option.map_some, Option.some.injEq] at h
   subst h
   exact ⟨_, w, by simp only [execOp, ho]; rfl, hg, tyV_sound (evalV_sound hS hv)⟩
 ·rename_i y ho
  cases hv : evalV st y with
  | none => rw [hv] at h; cases h
  | some v =>
   rw [hv, Option.map_some, Option.some.injEq] at h
   subst h
   exact ⟨_, w, by simp only [execOp, ho]; rfl, hg, tyV_sound (evalV_sound hS hv)⟩
 ·-- pick
  rename_i c y z ho
  split at h
  ·rename_i hc
   have h1 := evalV_sound hS hc
   simp only [Sl] at h1
   exact ⟨a.eval y, w, by simp only [execOp, ho, h1]; simp [asBool], hg, evalV_sound hS h⟩
  ·rename_i hc
   have h1 := evalV_sound hS hc
   simp only [Sl] at h1
   exact ⟨a.eval z, w, by simp only [execOp, ho, h1]; simp [asBool], hg, evalV_sound hS h⟩
  ·cases h
 ·-- binOp
  rename_i op t y z yt ho
  split at h
  ·rename_i x1 x2 h1 h2
   obtain ⟨r, hr, hs⟩ := evBin_sound (P := P) hT y z h (evalV_sound hS h1) (evalV_sound hS h2)
   refine ⟨r, w, ?_, hg, hs⟩
   simp only [execOp, ho]
   rw [Sem.run_bind, hr]
   rfl
  ·cases h
 ·-- unOp
  rename_i op t y ho
  split at h
  ·rename_i x1 h1
   obtain ⟨r, hr, hs⟩ := evUn_sound (P := P) h (evalV_sound hS h1)
   refine ⟨r, w, ?_, hg, hs⟩
   simp only [execOp, ho]
   rw [Sem.run_bind, hr]
   rfl
  ·cases h
 ·-- load
  rename_i t y ho
  split at h
  ·rename_i cs off h1
   have h2 := evalV_sound hS h1
   simp only [Sl, Fr] at h2
   obtain ⟨b, o', us, h3, h4, h5, h6, h7⟩ := h2
   obtain ⟨u, h8, h9⟩ := run_partV (P := P) (H := st.H) (μ := μ) hT w h7 h6.sl h
   refine ⟨u, w, ?_, hg, h9⟩
   simp only [execOp, ho, h3]
   rw [Sem.run_bind, h8]
   rfl
  ·rename_i k ver off h1
   split at h
   ·rename_i blk hb
    obtain ⟨bb, hbb, h2⟩ := (evalV_sound hS h1).ptr_at hb
    obtain ⟨c, e, us, h3, h4, h5⟩ := O.at_ hb hbb
    obtain ⟨u, h8, h9⟩ := run_partH (P := P) hT w h5 h4 h
    refine ⟨u, w, ?_, hg, h9⟩
    simp only [execOp, ho, h2]
    rw [Sem.run_bind, h8]
    rfl
   ·cases h
  ·cases h
 ·-- fieldAddr
  rename_i t y f ho
  split at h
  ·rename_i cs off ft fo h1 h2
   split at h
   ·rename_i i hi
    cases hz : Nat.blt 0 i.size with
    | false => rw [hz] at h; cases h
    | true =>
     rw [hz, cond_true, Option.some.injEq] at h
     subst h
     have hz' : ¬ i.size = 0 := by have : 0 < i.size := Nat.le_of_ble_eq_true hz; omega
     obtain ⟨fields, fd, g1, g2, g3, g4⟩ := fieldOff_spec (P := P) hT h2
     have h3 := evalV_sound hS h1
     simp only [Sl, Fr] at h3
     obtain ⟨b, o', us, h3, h4, h5, h6, h7⟩ := h3
     have hsz := run_sizeOf' (hT ft i hi) w
     refine ⟨.pointer (some ⟨b, o' + (off + fo), none⟩), w, ?_, hg, ?_⟩
     ·simp only [execOp, ho, h3, Instr.fieldAt, Instr.sureAddr, fieldPlace, Sem.run_bind, run_underlying g1, Result.andThen_ok, g2, Sem.run_pure, g3, hsz, hz', if_false, Addr.add_mid, g4, Nat.add_assoc]
     ·simp only [Sl, Fr]
      exact ⟨b, o', us, rfl, h4, h5, h6, h7⟩
   ·cases h
  ·rename_i k ver off ft fo h1 h2
   split at h
   ·rename_i i blk hi hb
    cases hz : Nat.blt 0 i.size with
    | false => rw [hz] at h; cases h
    | true =>
     rw [hz, cond_true, Option.some.injEq] at h
     subst h
     have hz' : ¬ i.size = 0 := by have : 0 < i.size := Nat.le_of_ble_eq_true hz; omega
     obtain ⟨fields, fd, g1, g2, g3, g4⟩ := fieldOff_spec (P := P) hT h2
     have h3 := evalV_sound hS h1
     obtain ⟨bb, hbb, h4⟩ := h3.ptr_at hb
     have hsz := run_sizeOf' (hT ft i hi) w
     refine ⟨.pointer (some ⟨bb, off + fo, none⟩), w, ?_, hg, ?_⟩
     ·simp only [execOp, ho, h4, Instr.fieldAt, Instr.sureAddr, fieldPlace, Sem.run_bind, run_underlying g1, Result.andThen_ok, g2, Sem.run_pure, g3, hsz, hz', if_false, Addr.add_mid, g4]
     ·simp only [Sl] at h3 ⊢
      exact ⟨h3.1, ⟨_, rfl⟩, fun blk' hb' => ⟨(h3.2.2 blk' hb').1, fun _ => ⟨bb, hbb, rfl⟩⟩⟩
   ·cases h
  ·cases h
 ·-- nilCheck
  rename_i y ho
  split at h
  ·rename_i cs off h1
   cases h
   have h2 := evalV_sound hS h1
   have h3 := h2
   simp only [Sl, Fr] at h3
   obtain ⟨b, o', us, h3, h4, h5, h6, h7⟩ := h3
   exact ⟨_, w, by simp only [execOp, ho, h3]; rfl, hg, h3 ▸ h2⟩
  ·rename_i k ver off h1
   split at h
   ·rename_i blk hb
    cases h
    have h2 := evalV_sound hS h1
    obtain ⟨bb, hbb, h3⟩ := h2.ptr_at hb
    exact ⟨_, w, by simp only [execOp, ho, h3]; rfl, hg, h3 ▸ h2⟩
   ·cases h
  ·cases h
 ·-- extract
  rename_i y i ho
  split at h
  ·rename_i vs h1
   have h2 := evalV_sound hS h1
   simp only [Sl] at h2
   obtain ⟨us, h2, h3⟩ := h2
   rw [nthV_eq] at h
   obtain ⟨u, h4, h5⟩ := h3.get h
   refine ⟨u, w, ?_, hg, h5⟩
   have h4' : us.toArray[i]? = some u := by simpa using h4
   simp only [execOp, ho, h2, Instr.extract, h4', Sem.run_bind, Sem.run_pure, Result.andThen_ok]
  ·cases h
 ·-- field
  rename_i t y f ho
  split at h
  ·rename_i cs ft fo h1 h2
   obtain ⟨fields, fd, g1, g2, g3, g4⟩ := fieldOff_spec (P := P) hT h2
   have h3 := evalV_sound hS h1
   simp only [Sl] at h3
   obtain ⟨us, h3, h4⟩ := h3
   obtain ⟨u, h5, h6⟩ := run_part (P := P) hT w h4 h
   refine ⟨u, w, ?_, hg, h6⟩
   simp only [execOp, ho, h3, Instr.field, Sem.run_bind, run_underlying g1, Result.andThen_ok, g2, asAgg, Sem.run_pure, g3, g4, h5]
  ·cases h
 ·-- build
  rename_i t parts ho
  split at h
  ·rename_i i ps vs hi hps hvs
   cases hl : Nat.beq ps.length (nFields i.k) with
   | false => rw [hl] at h; cases h
   | true =>
    rw [hl, cond_true] at h
    cases hf : fillV (fun j => ps[j]?) i.zero (softParts τ (fieldTy i.k) vs) with
    | none => rw [hf] at h; cases h
    | some cells =>
     rw [hf, Option.map_some, Option.some.injEq] at h
     subst h
     obtain ⟨inf, d, z, h1, h2, h3, h4, h5, h6, h7, h8, h9⟩ := hT t i hi
     have hl' := Nat.eq_of_beq_eq_true hl
     simp only [structPlaces, hi] at hps
     split at hps
     ·rename_i fs hk
      rw [hk] at h8 hl'
      simp only [TKok] at h8
      simp only [nFields] at hl'
      obtain ⟨fields, rfl, hfs⟩ := h8
      simp only [Option.some.injEq] at hps
      -- each field's type is in the table
      have hall : ∀ (l : List (Nat × Nat)), (l.filterMap (plcOf τ)).length = l.length → ∀ f ∈ l, ∃ j, τ f.1 = some j := by
       intro l
       induction l with
       | nil => intro _ f hf; cases hf
       | cons f l ih =>
        intro hlen g hg
        cases hj : τ f.1 with
        | none =>
         rw [List.filterMap_cons_none (by simp [plcOf, hj])] at hlen
         have := List.length_filterMap_le (plcOf τ) l
         simp only [List.length_cons] at hlen
         omega
        | some j =>
         rw [List.filterMap_cons_some (b := (f.2, j.size)) (by simp [plcOf, hj])] at hlen
         simp only [List.length_cons] at hlen
         rcases List.mem_cons.1 hg with rfl | hg
         ·exact ⟨j, hj⟩
         ·exact ih (by omega) g hg
      have hmm : ∀ (l : List Field), (∀ f ∈ l, ∃ j, τ f.type = some j) →
        ∀ w : World, (l.mapM fun f => (do pure (f.offset, ← sizeOf f.type) : Sem (Nat × Nat))).run P w =
         .ok ((l.map (fun f => (f.type, f.offset))).filterMap (plcOf τ)) w := by
       intro l
       induction l with
       | nil => intro _ w; simp
       | cons f l ih =>
        intro hj w
        obtain ⟨j, hj0⟩ := hj f (by simp)
        have hsz := run_sizeOf' (hT f.type j hj0) w
        rw [List.mapM_cons]
        simp only [Sem.run_bind, hsz, Result.andThen_ok, Sem.run_pure, ih (fun g hg => hj g (by simp [hg])) w, List.map_cons]
        rw [List.filterMap_cons_some (b := (f.offset, j.size)) (by simp [plcOf, hj0])]
      have hall' := hall fs (by rw [hps]; exact hl')
      have hmm' := hmm fields.toList (fun f hf => hall' (f.type, f.offset) (by rw [← hfs]; exact List.mem_map.2 ⟨f, hf, rfl⟩)) w
      rw [hfs, hps] at hmm'
      have hmA : (fields.mapM fun f => (do pure (f.offset, ← sizeOf f.type) : Sem (Nat × Nat))).run P w = .ok ps.toArray w := by
       rw [Array.mapM_eq_mapM_toList, Sem.run_map, hmm']
       rfl
      have hev := evalParts_sound hS hvs
      obtain ⟨c, rfl⟩ := h7 fs hk
      have hz := (h6 w M).sl (H := st.H) (μ := μ)
      obtain ⟨rs, hr, hrs⟩ := fillV_sound (place' := fun i => ps.toArray[i]?) (fun i o s hh => by simpa using hh) _ _ _ _ _ hf hz (softParts_fst.trans hev.1) (softParts_sl hev.2)
      refine ⟨.agg rs.toArray, w, ?_, hg, by simp only [Sl]; exact ⟨rs, rfl, hrs⟩⟩
      have hzv : (zeroValue t).run P w = .ok (.agg c) w := by simp [zeroValue, typeInfo, h1, h5]
      have hpl : ((parts.map fun (i, x) => (i, a.eval x)).toList) = parts.toList.map fun (i, x) => (i, a.eval x) := by simp
      simp only [Value.cells, Array.toArray_toList] at hr
      simp only [execOp, ho, Instr.build, Sem.run_bind, hzv, Result.andThen_ok, run_underlying h2, hmA, Value.cells, hpl, hr, Sem.run_pure]
     ·cases hps
  ·cases h
 ·-- makeFunc
  rename_i f first caps ho
  split at h
  ·rename_i vs hf hc
   cases h
   have h1 := evalAll_sound hS hc
   refine ⟨.func (.func f) #[] (caps.toList.map a.eval).toArray, w, ?_, hg, by simp only [Sl]; exact ⟨_, rfl, h1⟩⟩
   have hf' : first = #[] := by simpa using hf
   have hcaps : caps.map a.eval = (caps.toList.map a.eval).toArray := by apply Array.toList_inj.1; simp
   simp only [execOp, ho, Instr.makeFunc, hf', Sem.run_bind, Sem.run_pure, Result.andThen_ok, hcaps]
   simp
  ·cases h
 ·-- len
  rename_i args argTypes ho
  split at h
  ·rename_i y t ha ht
   have hargs : args = #[y] := by apply Array.toList_inj.1; rw [ha]
   have hats : argTypes = #[t] := by apply Array.toList_inj.1; rw [ht]
   have hexec : ∀ u d n, a.eval y = u → P.underlying t = some d → (∀ w : World, (Builtin.len_ #[t] o.type #[u]).run P w = .ok (goInt n) w) →
     (execOp a.eval o).run P w = .ok (.value (goInt n)) w := by
    intro u d n hu hd hlen
    simp only [execOp, ho, resolve, hargs, hats, Sem.run_bind, Sem.run_pure, Result.andThen_ok, invoke, builtin]
    simp [hu, hlen]
   split at h
   ·rename_i s n cs full i h1 h2
    split at h
    ·rename_i e hk
     cases h
     obtain ⟨inf, d, z, g1, g2, g3, g4, g5, g6, g7, g8, g9⟩ := hT t i h2
     rw [hk] at g8
     simp only [TKok] at g8
     subst g8
     have h3 := evalV_sound hS h1
     simp only [Sl, Fr] at h3
     obtain ⟨A, cap, h3, _⟩ := h3
     exact ⟨_, w, hexec _ _ n h3 g2 (fun w => by simp [Builtin.len_, run_underlying g2]), hg, by simp only [Sl]; rfl⟩
    ·cases h
   ·rename_i k ver off s n full i h1 h2
    split at h
    ·rename_i e blk hk hb
     cases h
     obtain ⟨inf, d, z, g1, g2, g3, g4, g5, g6, g7, g8, g9⟩ := hT t i h2
     rw [hk] at g8
     simp only [TKok] at g8
     subst g8
     have h3 := evalV_sound hS h1
     simp only [Sl] at h3
     obtain ⟨k1, k2⟩ := blkAt_spec hb
     have h4 := (h3.2.2 blk k1).2 k2
     obtain ⟨A, cap, h5⟩ : ∃ A cap, a.eval y = .slice A n cap := by
      rcases h4 with ⟨A, h4, rfl, _⟩ | ⟨b, cap, c, e', _, h4, _⟩
      ·exact ⟨A, 0, h4⟩
      ·exact ⟨_, cap, h4⟩
     exact ⟨_, w, hexec _ _ n h5 g2 (fun w => by simp [Builtin.len_, run_underlying g2]), hg, by simp only [Sl]; rfl⟩
    ·cases h
   ·rename_i s i h1 h2
    split at h
    ·rename_i hk
     cases h
     obtain ⟨inf, d, z, g1, g2, g3, g4, g5, g6, g7, g8, g9⟩ := hT t i h2
     rw [hk] at g8
     simp only [TKok] at g8
     subst g8
     have h3 := evalV_sound hS h1
     simp only [Sl] at h3
     exact ⟨_, w, hexec _ _ s.size h3 g2 (fun w => by simp [Builtin.len_, run_underlying g2]), hg, by simp only [Sl]; rfl⟩
    ·cases h
   ·cases h
  ·cases h
 ·cases h
end
end Go.D
