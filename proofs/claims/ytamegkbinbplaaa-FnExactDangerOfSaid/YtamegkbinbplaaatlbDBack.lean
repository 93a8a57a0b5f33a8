import Derived.Test.YtamegkbinbplaaatlbDShow
set_option linter.unusedVariables false
namespace Go.D
section
variable {P : Program} {Γ : Ctx} {τ : Tau}
theorem after_keep {M : Nat → Prop} {H : Hp} {w w' : World} {μ : Nat → Option Nat} {fp : Nat → List Nat} {G : Nat → Option Nat} (O' : Own Γ M H w μ fp G) (hg : Grew w w') {s n : Nat} {cs : List V} {full : Bool} {v : Value} {fpn : List Nat}
  (how : Ow w' (fun b => M b ∨ b ∈ fpn) (.own s n cs full) v fpn) (hn : fpn.Nodup) (hb : ∀ b ∈ fpn, w.heap.size ≤ b ∧ b < w'.heap.size) (k ver : Nat) (hkl : k ≤ H.length) (hpin : ∀ i b, Γ.L i b → k ≠ i)
  (hver : k < H.length → ∃ blk, H[k]? = some (some blk) ∧ blk.ver < ver) :
  ∃ μ' fp' G', Own Γ (fun b => M b ∨ b ∈ fpn) (setH H k (some ⟨ver, cs⟩)) w' μ' fp' G' ∧ Carry w M H μ w' (fun b => M b ∨ b ∈ fpn) (setH H k (some ⟨ver, cs⟩)) μ' ∧ (∀ j, j ≠ k → μ' j = μ j) ∧
   Sl w' (fun b => M b ∨ b ∈ fpn) (setH H k (some ⟨ver, cs⟩)) μ' (.ref k ver 0 s n full) v := by
 simp only [Ow] at how
 obtain ⟨A, cap, rfl, hd, how⟩ := how
 obtain ⟨hs0, hm, hle, hmax, hf⟩ := hd
 have hlen : k < (setH H k (some ⟨ver, cs⟩)).length := by
  have := setH_same (H := H) (x := some ⟨ver, cs⟩) hkl
  exact (List.getElem?_eq_some_iff.1 this).1
 rcases how with ⟨rfl, rfl⟩ | ⟨b, cc, e, us, fp', rfl, rfl, hh, hcap, hl, hlie⟩
 ·have hn0 : n = 0 := Nat.le_zero.1 hle
  subst hn0
  have := O'.turn (M' := fun b => M b ∨ b ∈ fpn) (w' := w') k hkl (some ⟨ver, []⟩) none [] hg.os hg.tape hg.output hg.size hg.drawn (fun i hi _ => hg.block i hi fun h => h) (fun b h => h.imp id fun h => (hb b h).1) (fun b h _ => .inl h) (fun _ b hb => by simp at hb)
   (fun b h => h.elim (fun h => Nat.lt_of_lt_of_le (O'.lt b h) hg.size) fun h => (hb b h).2)
   (fun _ b hb => by simp at hb) (fun _ => by simp) (fun blk' hb' hk' => by
    cases hb'
    obtain ⟨blk, b1, b2⟩ := hver hk'
    exact ⟨blk, b1, by simp only []; omega, fun e => by simp only [] at e; omega⟩) (fun blk' hb' C => by cases hb'; rfl) (fun i b hb hk => absurd hk (hpin i b hb))
  obtain ⟨fp2, G2, O2, C2, _⟩ := this
  refine ⟨_, fp2, G2, O2, C2, fun j hj => by simp [updN, hj], ?_⟩
  simp only [Sl]
  refine ⟨hlen, ⟨_, _, _, rfl⟩, fun blk' hb' => ?_⟩
  rw [setH_same hkl] at hb'
  cases hb'
  exact ⟨Nat.le_refl _, fun _ => .inl ⟨A, rfl, rfl, hs0⟩⟩
 ·have := O'.turn (M' := fun x => M x ∨ x ∈ (b :: fp')) (w' := w') k hkl (some ⟨ver, cs⟩) (some b) fp' hg.os hg.tape hg.output hg.size hg.drawn (fun i hi _ => hg.block i hi fun h => h) (fun x h => h.imp id fun h => (hb x h).1) (fun b h _ => .inl h) (fun _ x hx => .inr (by simpa using hx))
   (fun x h => by
    rcases h with h | h
    ·exact Nat.lt_of_lt_of_le (O'.lt x h) hg.size
    ·exact (hb x h).2)
   (fun _ x hx => .inr (hb x (by simpa using hx)).1) (fun _ => by simpa using hn) (fun blk' hb' hk' => by
    cases hb'
    obtain ⟨blk, b1, b2⟩ := hver hk'
    exact ⟨blk, b1, by simp only []; omega, fun e => by simp only [] at e; omega⟩)
   (fun blk' hb' C => by cases hb'; exact ⟨cc, e, us, hh, hl.ceL, hlie⟩) (fun i b hb hk => absurd hk (hpin i b hb))
  obtain ⟨fp2, G2, O2, C2, _⟩ := this
  refine ⟨_, fp2, G2, O2, C2, fun j hj => by simp [updN, hj], ?_⟩
  simp only [Sl]
  refine ⟨hlen, ⟨_, _, _, rfl⟩, fun blk' hb' => ?_⟩
  rw [setH_same hkl] at hb'
  cases hb'
  refine ⟨Nat.le_refl _, fun _ => ?_⟩
  simp only [updN, if_true]
  exact .inr ⟨b, cap, cc, e, rfl, rfl, hs0, hle, hmax, hf, hh, by omega⟩
theorem FrL.owL {w : World} {M : Nat → Prop} : ∀ {cs : List V} {us : List Value}, FrL w M cs us → cs.all frozenV = true → OwL w M cs us []
 | [], us, h, _ => by simp only [FrL] at h; simp only [OwL]; simp [h]
 | c :: cs, us, h, hb => by
  simp only [List.all_cons, Bool.and_eq_true] at hb
  simp only [FrL] at h
  obtain ⟨u, us', rfl, h1, h2⟩ := h
  simp only [OwL]
  refine ⟨u, us', [], [], rfl, rfl, ?_, FrL.owL h2 hb.2⟩
  cases c <;> simp_all [frozenV, Ow, Fr]
structure BslI where
 d : Nat
 s : Nat
 n : Nat
 cells : List V
def bslV (τ : Tau) (ops : Array Oper) (j : Nat) (st : St) : Option BslI :=
 match opAt ops st j with
 | some o => match o.op, dstOf st o with
  | .buildSlice t len parts, some d => match sliceOf τ t, evalParts st parts.toList with
   | some (e, i), some vs =>
    bif !(Nat.ble (len * i.size) 16777216) || !(Nat.ble len 16777216) || !(Nat.blt 0 i.size) || !(Nat.beq i.zero.length i.size) then none else
    match fillV (fun j => some (j * i.size, i.size)) (zerosV i.zero (len * i.size)) (softParts τ (fun _ => e) vs) with
    | some cells => bif Nat.beq cells.length (len * i.size) && cells.all frozenV then some ⟨d, i.size, len, cells⟩ else none
    | none => none
   | _, _ => none
  | _, _ => none
 | none => none
theorem bsl_E (hT : TOK P τ) {ops : Array Oper} {j : Nat} {st : St} (d k2 ver2 : Nat) (hpin : ∀ i b, Γ.L i b → k2 ≠ i) (hk2 : k2 ≤ st.H.length) (hver : k2 < st.H.length → ∃ blk, st.H[k2]? = some (some blk) ∧ blk.ver < ver2)
  {s n : Nat} {cells : List V} (h : bslV τ ops j st = some ⟨d, s, n, cells⟩) : CoreE P Γ ops j st (some d) (setH st.H k2 (some ⟨ver2, cells⟩)) (.ref k2 ver2 0 s n false) := by
 unfold bslV at h
 split at h
 ·rename_i o ho
  split at h
  ·rename_i t len parts d' hop hd
   split at h
   ·rename_i e i vs hsl hvs
    cases hm : (!(Nat.ble (len * i.size) 16777216) || !(Nat.ble len 16777216) || !(Nat.blt 0 i.size) || !(Nat.beq i.zero.length i.size)) with
    | true => rw [hm] at h; cases h
    | false =>
     rw [hm, cond_false] at h
     simp only [Bool.or_eq_false_iff, Bool.not_eq_false'] at hm
     obtain ⟨⟨⟨hm1, hm2⟩, hm3⟩, hm4⟩ := hm
     have hm1 := Nat.le_of_ble_eq_true hm1
     have hm2 := Nat.le_of_ble_eq_true hm2
     have hm3 : 0 < i.size := Nat.le_of_ble_eq_true hm3
     have hm4 := Nat.eq_of_beq_eq_true hm4
     split at h
     ·rename_i cells' hf
      cases hc : (Nat.beq cells'.length (len * i.size) && cells'.all frozenV) with
      | false => rw [hc] at h; cases h
      | true =>
       rw [hc, cond_true] at h
       simp only [Option.some.injEq, BslI.mk.injEq] at h
       obtain ⟨rfl, rfl, rfl, rfl⟩ := h
       simp only [Bool.and_eq_true] at hc
       have hcl := Nat.eq_of_beq_eq_true hc.1
       have hd' := dstOf_spec hd
       refine ⟨o, opAt_spec ho, hd'.1, (fun d e => by cases e; exact hd'.2), fun a w M μ fp G O hS K Qc hK => ?_⟩
       obtain ⟨hu, inf, dd, z, h1, h2, h3, h4, h5, h6, h7, h8, h9⟩ := sliceOf_spec hT hsl
       have hzl := (h6 w M).length
       simp only [Array.length_toList] at hzl
       have hz : SlL w M st.H μ (zerosV i.zero (len * i.size)) ((List.range (len * i.size)).map fun j => z.cells[j % z.cells.size]!) := by
        refine SlL.of_map _ _ _ fun j hj => ?_
        have hlt : j % i.zero.length < i.zero.length := Nat.mod_lt _ (by omega)
        rw [nthV_eq, List.getElem?_eq_getElem hlt]
        obtain ⟨u, hu1, hu2⟩ := (h6 w M).get (List.getElem?_eq_getElem hlt)
        rw [hzl]
        have : z.cells[j % i.zero.length]! = u := by
         rw [Array.getElem?_toList] at hu1
         rw [getElem!_def, hu1]
        rw [this]
        exact hu2.sl
       have hev := evalParts_sound hS hvs
       obtain ⟨rs, hr, hrs⟩ := fillV_sound (place' := fun j => some (j * i.size, i.size)) (fun _ _ _ hh => hh) _ _ _ _ _ hf hz (softParts_fst.trans hev.1) (softParts_sl hev.2)
       have hpl : ((parts.map fun (i, x) => (i, a.eval x)).toList) = parts.toList.map fun (i, x) => (i, a.eval x) := by simp
       have harr : ((List.range (len * i.size)).map fun j => z.cells[j % z.cells.size]!).toArray = (Array.range (len * i.size)).map (z.cells[· % z.cells.size]!) := by
        apply Array.toList_inj.1; simp
       rw [harr] at hr
       have hzv : (zeroValue e).run P w = .ok z w := by simp [zeroValue, typeInfo, h1, h5]
       have hsz : (sizeOf e).run P w = .ok i.size w := by simp [sizeOf, typeInfo, h1, h3]
       have hg := alloc_grew w (.cells rs.toArray e)
       have h24 : ¬ (len * i.size > 2 ^ 24) := by omega
       have hx : (execOp a.eval o).run P w = .ok (.value (.slice (some ⟨w.heap.size, 0, none⟩) len len)) (w.alloc (.cells rs.toArray e)) := by
        simp only [execOp, hop, Instr.buildSlice, Sem.run_bind, run_underlying hu, Result.andThen_ok, hsz, h24, if_false, Sem.run_pure]
        by_cases h0 : len * i.size = 0
        ·have e0 : Array.range (len * i.size) = #[] := by rw [h0]; rfl
         rw [e0, Array.map_empty] at hr
         rw [if_pos h0]
         simp only [Sem.run_pure, Result.andThen_ok, hpl, e0, Array.map_empty, hr]
         simp only [newRow, newObj, Sem.run_bind, Sem.run, Result.andThen_ok, Sem.run_pure, World.alloc_eq]
        ·simp only [h0, if_false, Sem.run_bind, hzv, Result.andThen_ok, Sem.run_pure, hpl, hr]
         simp only [newRow, newObj, Sem.run_bind, Sem.run, Result.andThen_ok, Sem.run_pure, World.alloc_eq]
       have hrl : rs.length = len * i.size := by rw [← hcl]; exact hrs.length
       have hfr := (hrs.frL hc.2).same (hg.same fun _ h => h.elim) (M' := fun x => M x ∨ x ∈ [w.heap.size]) (fun b h => h.imp id fun h => by simp at h; omega)
       have how : Ow (w.alloc (.cells rs.toArray e)) (fun x => M x ∨ x ∈ [w.heap.size]) (.own i.size len cells' false) (.slice (some ⟨w.heap.size, 0, none⟩) len len) [w.heap.size] := by
        simp only [Ow]
        refine ⟨_, len, rfl, ⟨hm3, hcl.symm, Nat.le_refl _, by unfold maxI; omega, fun h => by cases h⟩, .inr ⟨w.heap.size, rs.toArray, e, rs, [], rfl, rfl, ?_, ?_, hfr.owL hc.2, ?_⟩⟩
        ·show (w.heap.push _)[w.heap.size]? = _
         simp
        ·simp [hrl]
        ·have := Lies.alloc w rs.toArray e
         simpa using this
       obtain ⟨μ2, fp2, G2, O2, C2, _, hsl2⟩ := after_keep O hg how (by simp) (fun b hb => by
        have hb : b = w.heap.size := by simpa using hb
        subst hb
        refine ⟨Nat.le_refl _, ?_⟩
        show _ < (w.heap.push _).size
        simp) k2 ver2 hk2 hpin hver
       simp only [Oper.wp, hx, Oper.upon]
       exact hK _ _ _ μ2 fp2 G2 O2 C2 hsl2
     ·cases h
   ·cases h
  ·cases h
 ·cases h
theorem bsl_N (hT : TOK P τ) {ops : Array Oper} {j : Nat} {st : St} (d k2 : Nat) (hpin : ∀ i b, Γ.L i b → k2 ≠ i) {s n : Nat} {cells : List V} (hk2 : Nat.beq st.H.length k2 = true) (h : bslV τ ops j st = some ⟨d, s, n, cells⟩) :
  CoreE P Γ ops j st (some d) (setH st.H k2 (some ⟨0, cells⟩)) (.ref k2 0 0 s n false) := by
 have hk2 := Nat.eq_of_beq_eq_true hk2
 exact bsl_E hT d k2 0 hpin (Nat.le_of_eq hk2.symm) (fun h => by omega) h
end
end Go.D
