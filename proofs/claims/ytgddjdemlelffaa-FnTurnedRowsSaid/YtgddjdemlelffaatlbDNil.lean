import Derived.Test.YtgddjdemlelffaatlbDMore
import Derived.Lib.AppendZerosOnto
set_option linter.unusedVariables false
namespace Go.D
section
variable {P : Program} {Γ : Ctx} {τ : Tau}
def capV (τ : Tau) (ops : Array Oper) (j : Nat) (st : St) : Option (Nat × Nat) :=
 match opAt ops st j with
 | some o => match o.op, dstOf st o with
  | .call c, some d => match c.callee, c.args.toList, c.argTypes.toList with
   | .builtin .cap, [x], [t] => match sliceOf τ t, evalV st x with
    | some _, some (.arr _ n _ true) => some (d, n)
    | _, _ => none
   | _, _, _ => none
  | _, _ => none
 | none => none
theorem capV_sound (hT : TOK P τ) {ops : Array Oper} {j : Nat} {st : St} {d n : Nat} (h : capV τ ops j st = some (d, n)) : ∃ o, AtOp ops st j o ∧ o.dst = some d ∧ d < st.nt ∧ Yld P Γ o st (I n) := by
 unfold capV at h
 split at h
 ·rename_i o ho
  split at h
  ·rename_i c d' hop hd
   have hd' := dstOf_spec hd
   split at h
   ·rename_i x t hc ha hat
    split at h
    ·rename_i et s m cs hs hx
     cases h
     refine ⟨o, opAt_spec ho, hd'.1, hd'.2, fun a w M μ fp G O hS => ?_⟩
     obtain ⟨hu, _⟩ := sliceOf_spec hT (e := et.1) (j := et.2) hs
     have hv := evalV_sound hS hx
     simp only [Sl, Fr] at hv
     obtain ⟨A, cap, hv, ⟨h1, h2, h3, h4, h5⟩, _⟩ := hv
     have hcap := h5 rfl
     subst hcap
     refine ⟨.int .i64 cap, w, ?_, Kept.refl _ w, by simp only [Sl]⟩
     have ha' : c.args = #[x] := by apply Array.toList_inj.1; rw [ha]
     have hat2 : c.argTypes = #[t] := by apply Array.toList_inj.1; rw [hat]
     simp only [execOp, hop, resolve, hc, ha', hat2, Sem.run_bind, Sem.run_pure, Result.andThen_ok, invoke, builtin]
     simp [hv, Builtin.cap_, run_underlying hu, goInt]
    ·cases h
   ·cases h
  ·cases h
 ·cases h
def slnV (τ : Tau) (ops : Array Oper) (j : Nat) (st : St) : Option (Nat × Nat) :=
 match opAt ops st j with
 | some o => match o.op, dstOf st o with
  | .slice t x none (some hi) none, some d => match sliceOf τ t, evalV st x, evalV st hi with
   | some (_, ti), some (.arr s 0 [] true), some (.lit (.int _ 0)) => bif Nat.beq ti.size s then some (d, s) else none
   | _, _, _ => none
  | _, _ => none
 | none => none
theorem slnV_sound (hT : TOK P τ) {ops : Array Oper} {j : Nat} {st : St} {d s : Nat} (h : slnV τ ops j st = some (d, s)) : ∃ o, AtOp ops st j o ∧ o.dst = some d ∧ d < st.nt ∧ Yld P Γ o st (.arr s 0 [] true) := by
 unfold slnV at h
 split at h
 ·rename_i o ho
  split at h
  ·rename_i t x hi d' hop hd
   have hd' := dstOf_spec hd
   split at h
   ·rename_i e ti s' k hs hx hh
    cases hb : Nat.beq ti.size s' with
    | false => rw [hb] at h; cases h
    | true =>
     rw [hb, cond_true] at h
     cases h
     refine ⟨o, opAt_spec ho, hd'.1, hd'.2, fun a w M μ fp G O hS => ?_⟩
     obtain ⟨hu, hj⟩ := sliceOf_spec hT hs
     have hv := evalV_sound hS hx
     have hhv := evalV_sound hS hh
     simp only [Sl] at hhv
     simp only [Sl, Fr] at hv
     obtain ⟨A, cap, hv, ⟨h1, h2, h3, h4, h5⟩, _⟩ := hv
     have hcap := h5 rfl
     subst hcap
     have := run_slice_gen (P := P) hu hj w A 0 0 (Nat.le_refl _) none (some (a.eval hi)) none (l := none) (h := some 0) (m := none) rfl (by rw [hhv]; rfl) rfl (by simp) (by simp) (by simp) (by simp) (by simp)
     have hsl : sliced A 0 0 0 ti.size = .slice A 0 0 := by simp [sliced]
     refine ⟨.slice A 0 0, w, ?_, Kept.refl _ w, ?_⟩
     ·simp only [execOp, hop, hv]
      rw [Sem.run_bind]
      simp only [Option.map_none, Option.map_some] at this ⊢
      rw [this]
      simp only [Option.getD_none, Option.getD_some, Int.toNat_zero, hsl]
      rfl
     ·simp only [Sl, Fr]
      refine ⟨A, 0, rfl, ⟨h1, by simp, Nat.le_refl _, Nat.zero_le _, fun _ => rfl⟩, .inl trivial⟩
   ·cases h
  ·cases h
 ·cases h
section lists
variable {α : Type} [Enc α]
def apzV (τ : Tau) (ops : Array Oper) (j : Nat) (st : St) : Option MkI :=
 match opAt ops st j with
 | some o => match o.op, dstOf st o with
  | .call c, some d => match c.callee, c.args.toList, c.argTypes.toList with
   | .builtin .append, [y, x], [t, tx] => match sliceOf τ t, τ tx, evalV st y, evalV st x with
    | some (_, ti), some i, some (.arr s 0 [] true), some (.lit (.int .i64 n)) => match i.k with
     | .int .i64 => bif Nat.beq ti.size s && Nat.beq ti.zero.length ti.size && Nat.ble ti.bytes 1024 then some ⟨d, ti.size, ti.zero, n⟩ else none
     | _ => none
    | _, _, _, _ => none
   | _, _, _ => none
  | _, _ => none
 | none => none
def apzI (n : Int) (z : α) : Option (List α) := if 0 < n ∧ n < 68719476736 then some (List.replicate n.toNat z) else none
theorem opsP_apz (hT : TOK P τ) {ops : Array Oper} {Q : Exit → St → Prop} {j : Nat} {st : St} (d k : Nat) {n : Int} (z : α) {zs : List α} (hz : apzI n z = some zs) (h : apzV τ ops j st = some ⟨d, Enc.sz α, Enc.cells z, n⟩) (hkk : Nat.beq st.H.length k = true)
  (hk : opsP P Γ ops Q (j + 1) ({ st with H := setH st.H k (some ⟨0, eL zs⟩) }.set d (.ref k 0 0 (Enc.sz α) zs.length false))) : opsP P Γ ops Q j st := by
 have hkk := Nat.eq_of_beq_eq_true hkk
 subst hkk
 unfold apzI at hz
 split at hz
 ·rename_i hn
  cases hz
  unfold apzV at h
  split at h
  ·rename_i o ho
   split at h
   ·rename_i c d' hop hd
    split at h
    ·rename_i y x t tx hc ha hat
     split at h
     ·rename_i e ti i s' n' hs hi hy hx
      split at h
      ·rename_i hik
       cases hcc : (Nat.beq ti.size s' && Nat.beq ti.zero.length ti.size && Nat.ble ti.bytes 1024) with
       | false => rw [hcc] at h; cases h
       | true =>
        rw [hcc, cond_true] at h
        simp only [Option.some.injEq, MkI.mk.injEq] at h
        obtain ⟨rfl, hsz, hzero, rfl⟩ := h
        simp only [Bool.and_eq_true] at hcc
        obtain ⟨⟨hss, hzl⟩, hbytes⟩ := hcc
        have hzl := Nat.eq_of_beq_eq_true hzl
        have hbytes := Nat.le_of_ble_eq_true hbytes
        have hd' := dstOf_spec hd
        have hat' := opAt_spec ho
        refine opsP_op hat'.op hat'.wanted fun a w r Qc => ?_
        obtain ⟨h1, h2, M, μ, fp, G, O, hS⟩ := r
        obtain ⟨hu, hj⟩ := sliceOf_spec hT hs
        obtain ⟨inf, dd, zv, g1, g2, g3, g4, g5, g6, g7, g8, g9⟩ := hj
        obtain ⟨inf2, dd2, zv2, f1, f2, f3, f4, f5, f6, f7, f8, f9⟩ := hT tx i hi
        rw [hik] at f8
        simp only [TKok] at f8
        subst f8
        have hyv := evalV_sound hS hy
        have hxv := evalV_sound hS hx
        simp only [Sl] at hxv
        simp only [Sl, Fr] at hyv
        obtain ⟨A, cap, hyv, ⟨q1, q2, q3, q4, q5⟩, _⟩ := hyv
        have hcap := q5 rfl
        subst hcap
        obtain ⟨N, hN⟩ : ∃ N : Nat, n' = (N : Int) := ⟨n'.toNat, by omega⟩
        subst hN
        have hpos : 0 < Enc.sz α := Enc.pos
        have hN0 : 0 < N := by omega
        have hzc := g6 w M
        have hzs : zv.cells.size = Enc.sz α := by
         have := hzc.length
         simp only [Array.length_toList] at this
         omega
        have e1 : N * inf.bytes ≤ 68719476736 * 1024 := Nat.mul_le_mul (by omega) (by rw [g4]; exact hbytes)
        have e2 : Builtin.nextslicecap (0 + N) 0 * inf.bytes ≤ (2 * (0 + N)) * 1024 := Nat.mul_le_mul (nextslicecap_le (by omega)) (by rw [g4]; exact hbytes)
        have hold : (Builtin.firstCells inf.size 0 (.slice A 0 0)).run P w.drew = .ok ([] : List Value).toArray w.drew := by
         cases A with
         | none => simp [Builtin.firstCells]
         | some ad => simp [Builtin.firstCells, loadCells, loadCellsFrom]
        have hrun := Lib.run_append_grow_zeros (P := P) w t tx o.type e inf zv .i64 .i64 hu f2 g1 g5 A 0 0 [] hold N hN0 (by rw [g3]; omega) (by omega) (by omega) (by omega) (by omega)
        have ha' : c.args = #[y, x] := by apply Array.toList_inj.1; rw [ha]
        have hat2 : c.argTypes = #[t, tx] := by apply Array.toList_inj.1; rw [hat]
        have hge : 0 + N ≤ grownCap w (0 + N) 0 e := grownCap_ge w _ _ e
        have hle : grownCap w (0 + N) 0 e ≤ maxI := grownCap_le_maxLen w _ _ _ (by unfold maxLen; omega)
        generalize hgc : grownCap w (0 + N) 0 e = gc at *
        generalize hcc2 : (([] : List Value).toArray ++ Builtin.zeroCells zv.cells N ++ Builtin.zeroCells zv.cells (gc - (0 + N))) = cc at *
        have hx2 : (execOp a.eval o).run P w = .ok (.value (.slice (some ⟨w.heap.size, 0, none⟩) N gc)) (w.drew.alloc (.cells cc e)) := by
         simp only [execOp, hop, resolve, hc, ha', hat2, Sem.run_bind, Sem.run_pure, Result.andThen_ok, invoke, builtin]
         simp [hyv, hxv, hrun]
        have hz1 : ∀ m, (Builtin.zeroCells zv.cells m).size = m * Enc.sz α := fun m => by simp [Builtin.zeroCells, hzs]
        have hcs : cc.size = gc * Enc.sz α := by
         rw [← hcc2]
         simp only [Array.size_append, hz1]
         simp only [List.size_toArray, List.length_nil, Nat.zero_add, ← Nat.add_mul]
         congr 1
         omega
        have hfr : FrL w M (eL (List.replicate N z)) (Builtin.zeroCells zv.cells N).toList := by
         refine FrL.get_of ?_ fun i x u hi hu => ?_
         ·rw [eL_len, List.length_replicate, Array.length_toList, hz1]
         ·have hilt : i < N * Enc.sz α := by
           have := (List.getElem?_eq_some_iff.1 hi).1
           rwa [eL_len, List.length_replicate] at this
          rw [eL_rep_get N z hilt] at hi
          rw [← hzero] at hi
          obtain ⟨v, hv1, hv2⟩ := hzc.get hi
          have hu' : u = v := by
           simp only [Builtin.zeroCells, Array.toList_map, Array.toList_range, List.getElem?_map, List.getElem?_range (show i < N * zv.cells.size by rw [hzs]; exact hilt), Option.map_some, Option.some.injEq] at hu
           rw [← hu, hzs]
           rw [Array.getElem?_toList] at hv1
           rw [getElem!_def, hv1]
          rw [hu']
          exact hv2
        have hd0 : Grew w w.drew := ⟨rfl, rfl, rfl, Nat.le_refl _, fun _ _ _ => rfl, Nat.le_succ _⟩
        obtain ⟨M', μ', fp', G', O', C, hm⟩ := new_block O hd0 rfl (c := cc) (e := e) (hfr.sl (H := st.H) (μ := μ)) (by rw [hcs, Array.length_toList, hz1]; exact Nat.mul_le_mul_right _ (by omega)) (fun j hj => by
         rw [← hcc2]
         rw [Array.getElem?_append_left (by simp at hj ⊢; omega)]
         simp)
        simp only [Oper.wp, hx2, Oper.upon]
        rw [Int.toNat_natCast] at hk
        refine ⟨_, hk, ?_⟩
        have hst : ∀ st' : St, st'.put o.dst (.ref st.H.length 0 0 (Enc.sz α) (List.replicate N z).length false) = st'.set d' (.ref st.H.length 0 0 (Enc.sz α) (List.replicate N z).length false) := fun st' => by rw [hd'.1]; rfl
        rw [← hst]
        refine R.step h1 h2 hS C O' (fun d2 hd2 => by rw [hd'.1] at hd2; cases hd2; exact hd'.2) fun _ => ?_
        simp only [Sl]
        refine ⟨?_, ⟨_, _, _, rfl⟩, fun blk hb => ?_⟩
        ·have := setH_same (H := st.H) (x := some ⟨0, eL (List.replicate N z)⟩) (Nat.le_refl _)
         exact (List.getElem?_eq_some_iff.1 this).1
        ·rw [setH_same (Nat.le_refl _)] at hb
         cases hb
         refine ⟨Nat.le_refl _, fun _ => ?_⟩
         rw [List.length_replicate]
         refine .inr ⟨_, gc, cc, e, hm, rfl, hpos, by omega, by omega, (fun h => by cases h), ?_, by rw [hcs]; omega⟩
         show (w.heap.push _)[w.heap.size]? = _
         simp
      ·cases h
     ·cases h
    ·cases h
   ·cases h
  ·cases h
 ·cases hz
end lists
theorem Imp.cut {α : Type} [Enc α] {st st' : St} (k ver : Nat) (xs ys : List α) (hb : blkAt st.H k ver = some ⟨ver, eL xs⟩) (hy : (xs.drop ((none : Option Int).getD 0).toNat).take ys.length = ys) (he : { st with H := st.H.set k (some ⟨ver, eL ys⟩) } = st') : Imp Γ st st' := by
 subst he
 obtain ⟨b1, _⟩ := blkAt_spec hb
 have hkl : k < st.H.length := (List.getElem?_eq_some_iff.1 b1).1
 have hs : (st.H.set k (some ⟨ver, eL ys⟩))[k]? = some (some ⟨ver, eL ys⟩) := by rw [List.getElem?_set_self hkl]
 have hot : ∀ j, j ≠ k → (st.H.set k (some ⟨ver, eL ys⟩))[j]? = st.H[j]? := fun j h => List.getElem?_set_ne (fun e => h e.symm)
 refine Imp.of_own rfl fun a w M μ fp G O hS => ?_
 have C : Carry w M st.H μ w M (st.H.set k (some ⟨ver, eL ys⟩)) μ := ⟨Same.refl w M, fun b h => .inl h, by simp, fun j blk' hj h => by
  by_cases hjk : j = k
  ·subst hjk; rw [hs] at h; cases h; exact ⟨_, b1, Nat.le_refl _, fun _ => ⟨rfl, fun b _ => .of_eq rfl⟩⟩
  ·rw [hot j hjk] at h; exact ⟨blk', h, Nat.le_refl _, fun _ => ⟨rfl, fun b _ => .of_eq rfl⟩⟩⟩
 refine ⟨M, μ, fp, G, ⟨fun j blk hj => ?_, fun j blk hj => ?_, O.sub, O.m0, O.lt, O.new, O.apart, O.kept, fun i b hb => ⟨(O.pin i b hb).1, ?_, (O.pin i b hb).2.2⟩⟩, fun s x hx => ?_⟩
 ·by_cases hjk : j = k
  ·subst hjk
   rw [hs] at hj
   cases hj
   have h1 := O.blk j _ b1
   cases hm : μ j with
   | none =>
    rw [hm] at h1
    simp only [BlkR] at h1 ⊢
    have : xs = [] := by
     have h2 := eL_len xs
     rw [h1] at h2
     have hp : 0 < Enc.sz α := Enc.pos
     simp only [List.length_nil] at h2
     rcases Nat.mul_eq_zero.1 h2.symm with h3 | h3
     ·exact List.length_eq_zero_iff.1 h3
     ·omega
    rw [this] at hy
    have : ys = [] := by simpa using hy.symm
    rw [this]; rfl
   | some b =>
    rw [hm] at h1
    obtain ⟨c, e, us, hh, hce, hlie⟩ := h1
    obtain ⟨hfr, hfp⟩ := hce.frL (eL_frz xs)
    refine ⟨c, e, us.take (ys.length * Enc.sz α), hh, ?_, ?_⟩
    ·rw [hfp]
     have h2 := hfr.take (ys.length * Enc.sz α)
     have : eL ys = (eL xs).take (ys.length * Enc.sz α) := by
      rw [eL_take]
      simp at hy
      rw [hy]
     rw [this]
     exact h2.ceL
    ·have := hlie.sub 0 (ys.length * Enc.sz α)
     simpa using this
  ·rw [hot j hjk] at hj
   exact (O.blk j blk hj).carry C (fun b _ => rfl) (fun b _ => rfl)
 ·by_cases hjk : j = k
  ·subst hjk; exact O.mine j _ b1
  ·rw [hot j hjk] at hj; exact O.mine j blk hj
 ·obtain ⟨blk, h0⟩ := (O.pin i b hb).2.1
  by_cases hk0 : i = k
  ·subst hk0; exact ⟨_, hs⟩
  ·exact ⟨blk, by rw [hot i hk0]; exact h0⟩
 ·obtain ⟨u, hu, hsl⟩ := hS s x hx
  exact ⟨u, hu, hsl.carry C⟩
def callHV (τ : Tau) (ops : Array Oper) (j : Nat) (st : St) : Option (Nat × FuncId × List V) :=
 match opAt ops st j with
 | some o => match o.op, dstOf st o with
  | .call c, some d => match c.callee with
   | .value y => match evalV st y, evalArgs τ st c.args.toList c.argTypes.toList with
    | some (.fn g caps), some xs => some (d, g, xs ++ caps)
    | _, _ => none
   | _ => none
  | _, _ => none
 | none => none
theorem opsP_callH (τ : Tau) {ops : Array Oper} {Q : Exit → St → Prop} {j : Nat} {st : St} (d : Nat) {g : FuncId} {xs : List V} {out : V} (hok : OK P g xs out) (hz : frzL xs = true) (h : callHV τ ops j st = some (d, g, xs))
  (hk : opsP P Γ ops Q (j + 1) ({ st with H := st.H ++ (thaw st.H.length out).2.map some }.set d (thaw st.H.length out).1)) : opsP P Γ ops Q j st := by
 unfold callHV at h
 split at h
 ·rename_i o ho
  split at h
  ·rename_i c d' hop hd
   split at h
   ·rename_i y hc
    split at h
    ·rename_i g' caps as hy ha
     simp only [Option.some.injEq, Prod.mk.injEq] at h
     obtain ⟨rfl, rfl, rfl⟩ := h
     have hd' := dstOf_spec hd
     have hat := opAt_spec ho
     exact opsP_op hat.op hat.wanted (opP_callO hop hc hy ha hz hok hd'.1 (Nat.ble_eq_true_of_le hd'.2) hk)
    ·cases h
   ·cases h
  ·cases h
 ·cases h
end
end Go.D
