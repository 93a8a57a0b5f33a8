import Derived.Test.YtgddjdemlelffaatlaDNil
set_option linter.unusedVariables false
namespace Go.D
def ZIok (P : Program) (t : TypeId) (zs : List V) : Prop := ∃ inf z, P.info? t = some inf ∧ inf.zero = some z ∧ ∀ w M, FrL w M zs z.cells.toList
theorem ziok {P : Program} {t : TypeId} {ti : TypeInfo} {z : Value} {zs : List V} (h : P.types[t]? = some ti) (h2 : ti.zero = some z) (h3 : ∀ w M, FrL w M zs z.cells.toList) : ZIok P t zs := ⟨ti, z, info_of h, h2, h3⟩
theorem Fr.nilF (w : World) (M : Nat → Prop) (s : Nat) (h : 0 < s) : Fr w M (.arr s 0 [] true) (.slice none 0 0) := by
 simp only [Fr]
 exact ⟨none, 0, rfl, ⟨h, by simp, by omega, by unfold maxI; omega, fun h => rfl⟩, .inl trivial⟩
section
variable {P : Program} {Γ : Ctx} {τ : Tau}
def alzV (ops : Array Oper) (j : Nat) (st : St) : Option (Nat × Nat) :=
 match opAt ops st j with
 | some o => match o.op, dstOf st o with
  | .alloc t, some d => some (d, t)
  | _, _ => none
 | none => none
theorem alz_E {ops : Array Oper} {j : Nat} {st : St} (d t k ver : Nat) (hpin : ∀ i b, Γ.L i b → k ≠ i) {blk : Blk} {zs : List V} (hz : ZIok P t zs) (hb : blkAt st.H k ver = some blk) (h : alzV ops j st = some (d, t)) :
  CoreE P Γ ops j st (some d) (setH st.H k (some ⟨ver + 1, zs⟩)) (.ptr k (ver + 1) 0) := by
 obtain ⟨b1, b2⟩ := blkAt_spec hb
 subst b2
 have hkl : k < st.H.length := (List.getElem?_eq_some_iff.1 b1).1
 unfold alzV at h
 split at h
 ·rename_i o ho
  split at h
  ·rename_i t' d' hop hd
   simp only [Option.some.injEq, Prod.mk.injEq] at h
   obtain ⟨rfl, rfl⟩ := h
   have hd' := dstOf_spec hd
   refine ⟨o, opAt_spec ho, hd'.1, (fun d e => by cases e; exact hd'.2), fun a w M μ fp G O hS K Qc hK => ?_⟩
   obtain ⟨inf, z, g1, g2, g3⟩ := hz
   have hrun : (execOp a.eval o).run P w = .ok (.value (.pointer (some ⟨w.heap.size, 0, none⟩))) (w.alloc (.cells z.cells t')) := by
    simp only [execOp, hop, Instr.alloc, newVar, newRow, newObj, Sem.run_bind, zeroValue, typeInfo, run_program, Result.andThen_ok, g1, g2, Sem.run_pure]
    simp [Sem.run]
   have hzz := (g3 w M).sl (H := st.H) (μ := μ)
   obtain ⟨M', μ', fp', G', O', C, hm⟩ := new_blockK O hpin b1 (Kept.refl _ w) rfl (c := z.cells) (e := t') hzz (by simp) (fun j hj => by simp)
   simp only [Oper.wp, hrun, Oper.upon]
   refine hK _ _ M' μ' fp' G' O' C ?_
   simp only [Sl]
   refine ⟨by rw [setH_ge hkl]; exact hkl, ⟨_, rfl⟩, fun blk' hb' => ?_⟩
   rw [setH_same (Nat.le_of_lt hkl)] at hb'
   cases hb'
   exact ⟨Nat.le_refl _, fun _ => ⟨_, hm, rfl⟩⟩
  ·cases h
 ·cases h
end
end Go.D
set_option linter.unusedVariables false
namespace Go.D
def LentR (w : World) (M : Nat → Prop) (m : Option Nat) (cs : List V) : Prop :=
 match m with
 | some b => M b ∧ ∃ c e us, w.heap[b]? = some (.cells c e (0, 0)) ∧ FrL w M cs us ∧ Lies w b 0 us
 | none => cs = []
theorem LentR.less {w : World} {M M' : Nat → Prop} {m : Option Nat} {cs : List V} (h : LentR w M' m cs) (hM : ∀ b, M b → M' b) (hm : ∀ b, m = some b → M b) : LentR w M m cs := by
 cases m with
 | none => exact h
 | some b =>
  obtain ⟨_, c, e, us, hh, hf, hl⟩ := h
  exact ⟨hm b rfl, c, e, us, hh, FrL.same (Same.refl w M') (fun y hy => .inl (hM y hy)) hf, hl⟩
theorem LentR.nil {w : World} {M : Nat → Prop} {m : Option Nat} {cs : List V} (h : LentR w M m cs) : LentR w (fun x => M x ∨ x ∈ ([] : List Nat)) m cs := by
 have : (fun x => M x ∨ x ∈ ([] : List Nat)) = M := by funext x; simp
 rw [this]
 exact h
theorem RefR.isSlice {w : World} {m : Option Nat} {off s n : Nat} {full : Bool} {v : Value} (h : RefR w m off s n full v) : ∃ A q c, v = .slice A q c := by
 rcases h with ⟨A, rfl, _⟩ | ⟨b, cap, c, e, _, rfl, _⟩
 ·exact ⟨_, _, _, rfl⟩
 ·exact ⟨_, _, _, rfl⟩
section
variable {P : Program} {Γ : Ctx} {τ : Tau}
structure CallS where
 d : Nat
 g : FuncId
 pre : List V
 k : Nat
 ver : Nat
 s : Nat
 n : Nat
 cs : List V
 post : List V
def splitRef : List V → Option (List V × (Nat × Nat × Nat × Nat) × List V)
 | [] => none
 | .ref k ver 0 s n false :: r => some ([], (k, ver, s, n), r)
 | x :: r => match splitRef r with
  | some (a, b, c) => some (x :: a, b, c)
  | none => none
theorem splitRef_spec : ∀ {l pre post : List V} {k ver s n : Nat}, splitRef l = some (pre, (k, ver, s, n), post) → l = pre ++ .ref k ver 0 s n false :: post
 | [], _, _, _, _, _, _, h => by simp [splitRef] at h
 | x :: r, pre, post, k, ver, s, n, h => by
  unfold splitRef at h
  split at h
  ·cases h
  ·rename_i k' ver' s' n' r' heq
   simp only [List.cons.injEq] at heq
   obtain ⟨rfl, rfl⟩ := heq
   simp only [Option.some.injEq, Prod.mk.injEq] at h
   obtain ⟨rfl, ⟨rfl, rfl, rfl, rfl⟩, rfl⟩ := h
   rfl
  ·rename_i x' r' _ heq
   simp only [List.cons.injEq] at heq
   obtain ⟨rfl, rfl⟩ := heq
   split at h
   ·rename_i a b c hs
    simp only [Option.some.injEq, Prod.mk.injEq] at h
    obtain ⟨rfl, rfl, rfl⟩ := h
    rw [splitRef_spec hs]
    rfl
   ·cases h
def calS (τ : Tau) (ops : Array Oper) (j : Nat) (st : St) : Option CallS :=
 match callV τ ops j st with
 | some (d, g, zs) => match splitRef zs with
  | some (pre, (k, ver, s, n), post) => match blkAt st.H k ver with
   | some blk => some ⟨d, g, pre, k, ver, s, n, blk.cells, post⟩
   | none => none
  | none => none
 | none => none
end
end Go.D
