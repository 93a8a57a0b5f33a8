import Derived.Test.YtamegkbinbplaaatlbDArith
import Derived.Laws.MakeOwn
set_option linter.unusedVariables false
namespace Go.D
section
variable {P : Program} {Γ : Ctx} {τ : Tau} {α : Type} [Enc α]
structure IdxR where
 d : Nat
 k : Nat
 ver : Nat
 s : Nat
 n : Nat
 i : Int
def idrV (τ : Tau) (ops : Array Oper) (j : Nat) (st : St) : Option IdxR :=
 match opAt ops st j with
 | some o => match o.op, dstOf st o with
  | .indexAddr t x ix, some d => match sliceOf τ t, evalV st x, evalV st ix with
   | some (_, ti), some (.ref k ver 0 s n _), some (.lit (.int _ i)) => bif Nat.beq ti.size s && (blkAt st.H k ver).isSome then some ⟨d, k, ver, s, n, i⟩ else none
   | _, _, _ => none
  | _, _ => none
 | none => none
theorem idrV_sound (hT : TOK P τ) {ops : Array Oper} {j : Nat} {st : St} {d k ver : Nat} {n : Nat} {xs : List α} {i : Int} {x : α} (h : idrV τ ops j st = some ⟨d, k, ver, Enc.sz α, n, i⟩) (hx : getI xs i = some x) (hn : xs.length = n) :
  ∃ o, AtOp ops st j o ∧ o.dst = some d ∧ d < st.nt ∧ Yld P Γ o st (.ptr k ver (i.toNat * Enc.sz α)) := by
 unfold idrV at h
 split at h
 ·rename_i o ho
  split at h
  ·rename_i t y ix d' hop hd
   split at h
   ·rename_i e ti k' ver' s n' full ki i' hs hy hi
    cases hb : (Nat.beq ti.size s && (blkAt st.H k' ver').isSome) with
    | false => rw [hb] at h; cases h
    | true =>
     rw [hb, cond_true] at h
     simp only [Option.some.injEq, IdxR.mk.injEq] at h
     obtain ⟨rfl, rfl, rfl, rfl, rfl, rfl⟩ := h
     simp only [Bool.and_eq_true] at hb
     obtain ⟨blk, hblk⟩ := Option.isSome_iff_exists.1 hb.2
     obtain ⟨h0, h1, h2⟩ := getI_spec hx
     have hd' := dstOf_spec hd
     have := yld_index_ref (Γ := Γ) hT hop hs hy hblk (Nat.eq_of_beq_eq_true hb.1) hi h0 (by omega)
     rw [Nat.zero_add] at this
     exact ⟨o, opAt_spec ho, hd'.1, hd'.2, this⟩
   ·cases h
  ·cases h
 ·cases h
theorem opsP_idr (hT : TOK P τ) {ops : Array Oper} {Q : Exit → St → Prop} {j : Nat} {st : St} (d k ver n : Nat) {xs : List α} {i : Int} {x : α} (hx : getI xs i = some x) (hn : xs.length = n) (h : idrV τ ops j st = some ⟨d, k, ver, Enc.sz α, n, i⟩)
  (hk : opsP P Γ ops Q (j + 1) (st.set d (.ptr k ver (i.toNat * Enc.sz α)))) : opsP P Γ ops Q j st := opsP_yld (yldG_of (idrV_sound hT h hx hn)) hk
theorem eL_nth {xs : List α} {i : Nat} {x : α} (h : xs[i]? = some x) {o : Nat} (ho : o < Enc.sz α) : (eL xs)[i * Enc.sz α + o]? = (Enc.cells x)[o]? := by
 have h1 := eL_at h
 rw [← h1, List.getElem?_take, if_pos ho, List.getElem?_drop]
theorem eL_bound {xs : List α} {i : Nat} {x : α} (h : xs[i]? = some x) {o n : Nat} (ho : o + n ≤ Enc.sz α) : i * Enc.sz α + o + n ≤ (eL xs).length := by
 have hi := (List.getElem?_eq_some_iff.1 h).1
 rw [eL_len]
 calc i * Enc.sz α + o + n ≤ i * Enc.sz α + Enc.sz α := by omega
  _ = (i + 1) * Enc.sz α := by rw [Nat.add_mul, Nat.one_mul]
  _ ≤ xs.length * Enc.sz α := Nat.mul_le_mul_right _ hi
structure LdE where
 d : Nat
 t : Nat
 off : Nat
 cs : List V
def ldeV (τ : Tau) (ops : Array Oper) (j : Nat) (st : St) : Option LdE :=
 match opAt ops st j with
 | some o => match o.op, dstOf st o with
  | .load t x, some d => match evalV st x with
   | some (.ptr k ver off) => match blkAt st.H k ver with
    | some blk => some ⟨d, t, off, blk.cells⟩
    | none => none
   | _ => none
  | _, _ => none
 | none => none
def renV (k n : Nat) : V → V
 | .ref k' ver off s m f => bif Nat.beq k' k then .ref k' ver off s n f else .ref k' ver off s m f
 | x => x
def renOK (k n : Nat) : V → Prop
 | .ref k' ver off s m f => Nat.beq k' k = true → m = n
 | _ => True
def renL (k n : Nat) : List (Nat × V) → List (Nat × V)
 | [] => []
 | (s, x) :: r => (s, renV k n x) :: renL k n r
def renLOK (k n : Nat) : List (Nat × V) → Prop
 | [] => True
 | (_, x) :: r => renOK k n x ∧ renLOK k n r
theorem renV_eq {k n : Nat} {x : V} (h : renOK k n x) : renV k n x = x := by
 cases x with
 | ref k' ver off s m f =>
  simp only [renV]
  cases hb : Nat.beq k' k with
  | true => rw [cond_true]; simp only [renOK] at h; rw [h hb]
  | false => rfl
 | _ => rfl
theorem renL_eq {k n : Nat} : ∀ {l : List (Nat × V)}, renLOK k n l → renL k n l = l
 | [], _ => rfl
 | (s, x) :: r, h => by simp only [renL, renV_eq h.1, renL_eq h.2]
structure StE where
 t : Nat
 k : Nat
 ver : Nat
 off : Nat
 cs : List V
 vs : List V
def steV (τ : Tau) (ops : Array Oper) (j : Nat) (st : St) : Option StE :=
 match opAt ops st j with
 | some o => match o.op, o.dst with
  | .store t y x, none => match τ t, evalV st y, evalV st x with
   | some i, some (.ptr k ver off), some v => match blkAt st.H k ver, valCells (soft (tyV τ t v)) with
    | some blk, some vs => bif vs.all cellV && Nat.beq vs.length i.size then some ⟨t, k, ver, off, blk.cells, vs⟩ else none
    | _, _ => none
   | _, _, _ => none
  | _, _ => none
 | none => none
theorem opsP_ste (hT : TOK P τ) {ops : Array Oper} {Q : Exit → St → Prop} {j : Nat} {st : St} (t k ver o' : Nat) {xs : List α} {i : Int} {x : α} (y : α) {vs : List V} (hx : getI xs i = some x)
  (h : steV τ ops j st = some ⟨t, k, ver, i.toNat * Enc.sz α + o', eL xs, vs⟩) (hy : setL (Enc.cells x) o' vs = Enc.cells y) (ho : Nat.ble (o' + vs.length) (Enc.sz α) = true) (hr : renLOK k (xs.set i.toNat y).length st.tmps)
  (hk : opsP P Γ ops Q (j + 1) { st with tmps := renL k (xs.set i.toNat y).length st.tmps, H := setH st.H k (some ⟨ver, eL (xs.set i.toNat y)⟩) }) : opsP P Γ ops Q j st := by
 rw [renL_eq hr] at hk
 unfold steV at h
 split at h
 ·rename_i o ho'
  split at h
  ·rename_i t' y' x' hop hd
   split at h
   ·rename_i ti k' ver' off v hti hyv hxv
    split at h
    ·rename_i blk vs' hb hv
     cases hc : (vs'.all cellV && Nat.beq vs'.length ti.size) with
     | false => rw [hc] at h; cases h
     | true =>
      rw [hc, cond_true] at h
      simp only [Option.some.injEq, StE.mk.injEq] at h
      obtain ⟨rfl, rfl, rfl, rfl, hcs, rfl⟩ := h
      simp only [Bool.and_eq_true] at hc
      have hat := opAt_spec ho'
      have hb2 := Nat.le_of_ble_eq_true ho
      have hg := (getI_spec hx).2.2
      refine opsP_op hat.op hat.wanted (opP_store hT hop hd hti hyv hb hxv hv hc.1 (Nat.eq_of_beq_eq_true hc.2) ?_ ?_ hk)
      ·rw [hcs]; exact eL_bound hg hb2
      ·rw [hcs]; exact eL_set hg hy hb2
    ·cases h
   ·cases h
  ·cases h
 ·cases h
structure SlrI where
 d : Nat
 k : Nat
 ver : Nat
 s : Nat
 n : Nat
 l : Option Int
 h : Option Int
 m : Option Int
end
end Go.D
