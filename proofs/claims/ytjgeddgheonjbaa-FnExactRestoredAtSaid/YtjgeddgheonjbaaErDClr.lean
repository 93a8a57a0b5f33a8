import Derived.Test.YtjgeddgheonjbaaErDLst
set_option linter.unusedVariables false
namespace Go.D
def nilqV (τ : Tau) (ops : Array Oper) (j : Nat) (st : St) : Option (Nat × List V) :=
 match opAt ops st j with
 | some o => match o.op, dstOf st o with
  | .binOp .eql t x y _, some d => match sliceOf τ t, evalV st x, y with
   | some _, some (.arr s n cs full), .const (.slice none 0 0) => some (d, cs)
   | _, _, _ => none
  | _, _ => none
 | none => none
section
variable {P : Program} {Γ : Ctx} {τ : Tau} {α : Type} [Enc α]
theorem opsP_nilq (hT : TOK P τ) {ops : Array Oper} {Q : Exit → St → Prop} {j : Nat} {st : St} (d : Nat) {xs : List α} (h : nilqV τ ops j st = some (d, eL xs)) (hk : ∀ b : Bool, (b = true → xs = []) → opsP P Γ ops Q (j + 1) (st.put (some d) (B b))) : opsP P Γ ops Q j st := by
 unfold nilqV at h
 split at h
 ·rename_i o ho
  split at h
  ·rename_i t x y rt d' hop hd
   split at h
   ·rename_i et s n cs full ht hx
    cases h
    obtain ⟨hd1, hd2⟩ := dstOf_spec hd
    obtain ⟨hu, _⟩ := sliceOf_spec hT ht
    have hat := opAt_spec ho
    refine opsP_op hat.op hat.wanted ?_
    intro a w r Qc
    obtain ⟨h1, h2, M, μ, fp, G, O, hS⟩ := r
    have hxv := evalV_sound hS hx
    simp only [Sl, Fr] at hxv
    obtain ⟨A, cap, hv, hdr, hcase⟩ := hxv
    have hb : A.isNone = true → xs = [] := fun hn => by
     rcases hcase with hc | ⟨b, o', us, hA, _⟩
     ·have := eL_len xs
      rw [hc] at this
      have hp : 0 < Enc.sz α := Enc.pos
      have : xs.length * Enc.sz α = 0 := by rw [← this]; rfl
      rcases Nat.mul_eq_zero.1 this with q | q
      ·exact List.eq_nil_of_length_eq_zero q
      ·omega
     ·rw [hA] at hn
      cases hn
    have hrun : (execOp a.eval o).run P w = .ok (.value (.bool A.isNone)) w := by
     have he : (binOp .eql t (.slice A n cap) (.slice none 0 0) : Sem Value).run P w = .ok (.bool A.isNone) w := by
      have hq : ∀ d, (Op.equalIn (d + 1) t (.slice A n cap) (.slice none 0 0)).run P w = .ok A.isNone w := fun d => by cases A <;> simp [Op.equalIn, run_underlying hu]
      simp only [binOp]
      simp [Op.equal, Op.maxDepth, hq 9999]
     have hcn : a.eval (.const (.slice none 0 0)) = .slice none 0 0 := rfl
     have hgd : ∀ x y : Operand, (eqGuard .eql t x y (.slice A n cap) (.slice none 0 0) : Sem Unit).run P w = .ok () w := fun x y => by simp [eqGuard]
     rw [execOp, hop]
     simp only [hv, hcn, Sem.run_bind, hgd, Sem.run_pure, he, Result.andThen_ok]
    simp only [Oper.wp, hrun, Oper.upon]
    refine ⟨_, hk A.isNone hb, ?_⟩
    rw [hd1]
    have hg : Grew w w := Kept.refl _ w
    exact R.step (H' := st.H) (d := some d) h1 h2 hS (Grew.carry hg _ _ _ fun k blk hb => O.born_lt k blk hb) (O.grew (Kept.refl _ w)) (fun d' e => by cases e; exact hd2) fun _ => by simp only [Sl]
   ·cases h
  ·cases h
 ·cases h
omit [Enc α] in
theorem clone_nil {y : List α} (h : ((app ([] : List α) []).bind fun v => some v) = some y) : some ([] : List α) = some y := by
 have e : app ([] : List α) [] = some [] := if_pos (by simp)
 rw [e] at h
 exact h
end
theorem slI_tail {α : Type} {xs ys : List α} {i : Int} (h : slI xs (some i) none none = some ys) : i.toNat + ys.length = xs.length ∧ ys = xs.drop i.toNat := by
 unfold slI at h
 split at h
 ·rename_i hc
  cases h
  simp only [Option.getD_some, Option.getD_none] at hc ⊢
  have : (xs.drop i.toNat).take ((xs.length : Int).toNat - i.toNat) = xs.drop i.toNat := List.take_of_length_le (by rw [List.length_drop]; omega)
  rw [this]
  exact ⟨by rw [List.length_drop]; omega, rfl⟩
 ·cases h
theorem clr_len {α : Type} {xs : List α} {lo n : Nat} {z : α} (h : lo + n = xs.length) : (xs.take lo ++ List.replicate n z).length = xs.length := by
 rw [List.length_append, List.length_take, List.length_replicate]
 omega
structure ClrI where
 k : Nat
 ver : Nat
 off : Nat
 s : Nat
 n : Nat
 z : List V
 cs : List V
def clrV (τ : Tau) (ops : Array Oper) (j : Nat) (st : St) : Option ClrI :=
 match opAt ops st j with
 | some o => match o.op, o.dst with
  | .call c, none => match c.callee, c.args.toList, c.argTypes.toList with
   | .builtin .clear, [y], [t] => match sliceOf τ t, evalV st y with
    | some (e, ti), some (.ref k ver off s n _) => match blkAt st.H k ver with
     | some blk => bif Nat.beq ti.size s && Nat.beq ti.zero.length ti.size then some ⟨k, ver, off, s, n, ti.zero, blk.cells⟩ else none
     | none => none
    | _, _ => none
   | _, _, _ => none
  | _, _ => none
 | none => none
section
variable {P : Program} {Γ : Ctx} {τ : Tau} {α : Type} [Enc α]
theorem eL_rep (z : α) : ∀ n, eL (List.replicate n z) = (List.replicate n (Enc.cells z)).flatten
 | 0 => rfl
 | n + 1 => by rw [List.replicate_succ, List.replicate_succ, List.flatten_cons, eL, eL_rep z n]
theorem zero_cells {z : Array Value} {s : Nat} (hz : z.size = s) (hs : 0 < s) : ∀ n, (Builtin.zeroCells z n).toList = (List.replicate n z.toList).flatten := by
 intro n
 unfold Builtin.zeroCells
 rw [Array.toList_map, Array.toList_range, hz]
 induction n with
 | zero => simp
 | succ n ih =>
  have e : (n + 1) * s = n * s + s := by rw [Nat.add_mul, Nat.one_mul]
  rw [e, List.range_add, List.map_append, ih, List.replicate_succ', List.flatten_append]
  congr 1
  simp only [List.flatten_cons, List.flatten_nil, List.append_nil, List.map_map]
  apply List.ext_getElem
  ·simp [hz]
  ·intro i h1 h2
   have hi : i < s := by simpa using h1
   simp only [List.getElem_map, List.getElem_range, Function.comp_apply, Array.getElem_toList]
   have : (n * s + i) % s = i := by rw [Nat.mul_comm, Nat.mul_add_mod]; exact Nat.mod_eq_of_lt hi
   rw [this, getElem!_pos z i (by omega)]
theorem frL_rep {w : World} {M : Nat → Prop} {cs : List V} {us : List Value} (h : FrL w M cs us) : ∀ n, FrL w M (List.replicate n cs).flatten (List.replicate n us).flatten
 | 0 => by simp [FrL]
 | n + 1 => by
  rw [List.replicate_succ, List.replicate_succ, List.flatten_cons, List.flatten_cons]
  have app : ∀ (xs : List V) (us : List Value) (ys : List V) (vs : List Value), FrL w M xs us → FrL w M ys vs → FrL w M (xs ++ ys) (us ++ vs) := by
   intro xs
   induction xs with
   | nil =>
    intro us ys vs h1 h2
    simp only [FrL] at h1
    subst h1
    exact h2
   | cons x xs ih =>
    intro us ys vs h1 h2
    simp only [FrL] at h1
    obtain ⟨u, us', rfl, h3, h4⟩ := h1
    simp only [List.cons_append, FrL]
    exact ⟨u, _, rfl, h3, ih _ _ _ h4 h2⟩
  exact app _ _ _ _ h (frL_rep h n)
theorem clr_E (hT : TOK P τ) {ops : Array Oper} {j : Nat} {st : St} (k ver lo n : Nat) {xs : List α} {z : α} (hlo : lo + n = xs.length) (h : clrV τ ops j st = some ⟨k, ver, lo * Enc.sz α, Enc.sz α, n, Enc.cells z, eL xs⟩) :
  CoreE P Γ ops j st none (setH st.H k (some ⟨ver, eL (xs.take lo ++ List.replicate n z)⟩)) .any := by
 unfold clrV at h
 split at h
 ·rename_i o ho
  split at h
  ·rename_i c hop hd
   split at h
   ·rename_i y t hc ha hat
    split at h
    ·rename_i e ti k0 ver0 off s n0 full ht hy
     split at h
     ·rename_i blk hb
      cases hcc : (Nat.beq ti.size s && Nat.beq ti.zero.length ti.size) with
      | false => rw [hcc] at h; cases h
      | true =>
       rw [hcc, cond_true] at h
       simp only [Option.some.injEq, ClrI.mk.injEq] at h
       obtain ⟨ek, ev, eo, es, en, hz, hcs⟩ := h
       subst k0 ver0 off s n0
       simp only [Bool.and_eq_true] at hcc
       have hs1 := Nat.eq_of_beq_eq_true hcc.1
       have hs2 := Nat.eq_of_beq_eq_true hcc.2
       have hpos : 0 < Enc.sz α := Enc.pos
       refine ⟨o, opAt_spec ho, hd, (fun d e => by cases e), fun a w M μ fp G O hS K Qc hK => ?_⟩
       obtain ⟨b1, b2⟩ := blkAt_spec hb
       obtain ⟨hu, inf, dd, zz, h1, h2, h3, h4, h5, h6, h7, h8, h9⟩ := sliceOf_spec hT ht
       have hyv := evalV_sound hS hy
       simp only [Sl] at hyv
       have hr := (hyv.2.2 blk b1).2 b2
       have hargs' : c.args = #[y] := by apply Array.toList_inj.1; rw [ha]
       have hts' : c.argTypes = #[t] := by apply Array.toList_inj.1; rw [hat]
       have hexec : ∀ w', (Builtin.clear_ #[t] o.type #[a.eval y]).run P w = .ok (.tuple #[]) w' → (execOp a.eval o).run P w = .ok (.value (.tuple #[])) w' := by
        intro w' hr
        simp only [execOp, hop, resolve, hc, hargs', hts', Sem.run_bind, Sem.run_pure, Result.andThen_ok, invoke, builtin]
        simp [hr]
       have hxl := eL_len xs
       rcases hr with ⟨A, hv, hn0, _⟩ | ⟨b, cap, cc, ee, hm, hv, _, hcap, hmax, _, hh, hfit⟩
       ·-- nothing is cleared
        subst hn0
        have e0 : xs.take lo ++ List.replicate 0 z = xs := by
         rw [List.replicate_zero, List.append_nil, List.take_of_length_le (by omega)]
        have hset : setH st.H k (some ⟨ver, eL (xs.take lo ++ List.replicate 0 z)⟩) = st.H := by
         apply setH_id
         rw [e0, b1, ← hcs, ← b2]
        rw [hset] at hK
        have hrun := hexec w (by rw [hv]; cases A <;> simp [Builtin.clear_, run_underlying hu])
        simp only [Oper.wp, hrun, Oper.upon]
        have hg : Grew w w := Kept.refl _ w
        exact hK _ _ M μ fp G O (Grew.carry hg _ _ _ fun k blk hb => O.born_lt k blk hb) (by simp only [Sl])
       ·by_cases hn0 : n = 0
        ·subst hn0
         have e0 : xs.take lo ++ List.replicate 0 z = xs := by
          rw [List.replicate_zero, List.append_nil, List.take_of_length_le (by omega)]
         have hset : setH st.H k (some ⟨ver, eL (xs.take lo ++ List.replicate 0 z)⟩) = st.H := by
          apply setH_id
          rw [e0, b1, ← hcs, ← b2]
         rw [hset] at hK
         have hrun := hexec w (by rw [hv]; simp [Builtin.clear_, run_underlying hu])
         simp only [Oper.wp, hrun, Oper.upon]
         have hg : Grew w w := Kept.refl _ w
         exact hK _ _ M μ fp G O (Grew.carry hg _ _ _ fun k blk hb => O.born_lt k blk hb) (by simp only [Sl])
        have hzf := h6 w M
        rw [hz] at hzf
        have hzl := hzf.length
        rw [Enc.len] at hzl
        have hfr := frL_rep hzf n
        rw [← eL_rep] at hfr
        have hfl := hfr.length
        rw [eL_len, List.length_replicate] at hfl
        generalize hus : (List.replicate n zz.cells.toList).flatten = us at hfr hfl
        have hsl : SlL w M st.H μ (eL (List.replicate n z)) us := hfr.sl
        obtain ⟨c2, e2, ws, hh2, hce, hlie⟩ := O.at_ hb hm
        rw [hh] at hh2
        cases hh2
        have hwl := hce.length
        rw [hcs] at hwl
        obtain ⟨_, hcl⟩ := hlie.heap hh
        have hmul : lo * Enc.sz α + n * Enc.sz α = xs.length * Enc.sz α := by rw [← Nat.add_mul, hlo]
        have hfit2 : lo * Enc.sz α + us.length ≤ cc.size := by omega
        have hst : (storeCells ⟨b, lo * Enc.sz α, none⟩ us).run P w = .ok () (w.setCells b (lo * Enc.sz α) us) := by
         have := run_storeCells_cells (P := P) b (lo * Enc.sz α) us 0 w (fun j hj => by rw [cell_of_heap hh, Nat.add_zero, Array.getElem?_eq_getElem (by omega)]; rfl) (fun j hj => frozen_of_heap hh _) (hsl.one (eL_one _))
         rwa [Nat.add_zero] at this
        have hzv : (zeroValue e).run P w = .ok zz w := by simp [zeroValue, typeInfo, h1, h5]
        have hzz : (Builtin.zeroCells zz.cells n).toList = us := by
         rw [zero_cells (s := Enc.sz α) (by simpa using hzl) hpos, hus]
        obtain ⟨m, rfl⟩ : ∃ m, n = m + 1 := ⟨n - 1, by omega⟩
        have hrun := hexec (w.setCells b (lo * Enc.sz α) us) (by rw [hv]; simp [Builtin.clear_, run_underlying hu, hzv, hzz, hst])
        simp only [Oper.wp, hrun, Oper.upon]
        have hel : (eL (List.replicate (m + 1) z)).length = us.length := by rw [eL_len, List.length_replicate, hfl]
        obtain ⟨fp', G', O', C⟩ := write_block (ver := ver) (cells' := eL (xs.take lo ++ List.replicate (m + 1) z)) O b1 hm (by omega) hsl hh hfit2 (fun ws' f hce' => by
         rw [hcs] at hce'
         obtain ⟨f1, f2, rfl, h3, h4⟩ := hce'.split (lo * Enc.sz α)
         obtain ⟨f3, f4, rfl, h5, h6⟩ := h4.split us.length
         rw [List.drop_drop, List.drop_drop] at h6
         have hl' := hce'.length
         have hd0 : (eL xs).drop (lo * Enc.sz α + us.length) = [] := List.drop_of_length_le (by omega)
         rw [hd0] at h6
         refine ⟨ws'.take (lo * Enc.sz α) ++ us ++ ws'.drop (lo * Enc.sz α + us.length), f1 ++ f4, ?_, ?_, fun hwc hw j hj => ?_⟩
         ·have h7 := (h3.append hsl.ceL).append h6
          rw [List.append_nil, List.append_nil, eL_take, ← eL_append] at h7
          exact h7
         ·exact List.Sublist.append (List.Sublist.refl _) (List.sublist_append_right _ _)
         ·exact splice_get (by omega) (by simpa using hwc) hw j hj)
        exact hK _ _ M _ fp' G' O' C (by simp only [Sl])
     ·cases h
    ·cases h
   ·cases h
  ·cases h
 ·cases h
end
end Go.D
