import Derived.Test.YtamegkbinbplaaatlbDNil
set_option linter.unusedVariables false
namespace Go.D
def ZIok (P : Program) (t : TypeId) (zs : List V) : Prop := ∃ inf z, P.info? t = some inf ∧ inf.zero = some z ∧ ∀ w M, FrL w M zs z.cells.toList
theorem ziok {P : Program} {t : TypeId} {ti : TypeInfo} {z : Value} {zs : List V} (h : P.types[t]? = some ti) (h2 : ti.zero = some z) (h3 : ∀ w M, FrL w M zs z.cells.toList) : ZIok P t zs := ⟨ti, z, info_of h, h2, h3⟩
theorem Fr.nilF (w : World) (M : Nat → Prop) (s : Nat) (h : 0 < s) : Fr w M (.arr s 0 [] true) (.slice none 0 0) := by
 simp only [Fr]
 exact ⟨none, 0, rfl, ⟨h, by simp, by omega, by unfold maxI; omega, fun h => rfl⟩, .inl trivial⟩
section
variable {P : Program} {Γ : Ctx} {τ : Tau}
def alzV (ops : Array Oper) (j : Nat) (st : St) : Option (Nat × Nat) :=
 match opAt ops st j with
 | some o => match o.op, dstOf st o with
  | .alloc t, some d => some (d, t)
  | _, _ => none
 | none => none
theorem alz_E {ops : Array Oper} {j : Nat} {st : St} (d t k ver : Nat) (hpin : ∀ i b, Γ.L i b → k ≠ i) {blk : Blk} {zs : List V} (hz : ZIok P t zs) (hb : blkAt st.H k ver = some blk) (h : alzV ops j st = some (d, t)) :
  CoreE P Γ ops j st (some d) (setH st.H k (some ⟨ver + 1, zs⟩)) (.ptr k (ver + 1) 0) := by
 obtain ⟨b1, b2⟩ := blkAt_spec hb
 subst b2
 have hkl : k < st.H.length := (List.getElem?_eq_some_iff.1 b1).1
 unfold alzV at h
 split at h
 ·rename_i o ho
  split at h
  ·rename_i t' d' hop hd
   simp only [Option.some.injEq, Prod.mk.injEq] at h
   obtain ⟨rfl, rfl⟩ := h
   have hd' := dstOf_spec hd
   refine ⟨o, opAt_spec ho, hd'.1, (fun d e => by cases e; exact hd'.2), fun a w M μ fp G O hS K Qc hK => ?_⟩
   obtain ⟨inf, z, g1, g2, g3⟩ := hz
   have hrun : (execOp a.eval o).run P w = .ok (.value (.pointer (some ⟨w.heap.size, 0, none⟩))) (w.alloc (.cells z.cells t')) := by
    simp only [execOp, hop, Instr.alloc, newVar, newRow, newObj, Sem.run_bind, zeroValue, typeInfo, run_program, Result.andThen_ok, g1, g2, Sem.run_pure]
    simp [Sem.run]
   have hzz := (g3 w M).sl (H := st.H) (μ := μ)
   obtain ⟨M', μ', fp', G', O', C, hm⟩ := new_blockK O hpin b1 (Kept.refl _ w) rfl (c := z.cells) (e := t') hzz (by simp) (fun j hj => by simp)
   simp only [Oper.wp, hrun, Oper.upon]
   refine hK _ _ M' μ' fp' G' O' C ?_
   simp only [Sl]
   refine ⟨by rw [setH_ge hkl]; exact hkl, ⟨_, rfl⟩, fun blk' hb' => ?_⟩
   rw [setH_same (Nat.le_of_lt hkl)] at hb'
   cases hb'
   exact ⟨Nat.le_refl _, fun _ => ⟨_, hm, rfl⟩⟩
  ·cases h
 ·cases h
end
end Go.D
