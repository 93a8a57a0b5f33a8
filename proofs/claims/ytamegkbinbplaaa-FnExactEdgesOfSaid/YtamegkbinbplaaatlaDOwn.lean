import Derived.Test.YtamegkbinbplaaatlaDArith
import Derived.Laws.MakeOwn
set_option linter.unusedVariables false
namespace Go.D
section
variable {P : Program} {Γ : Ctx} {τ : Tau} {α : Type} [Enc α]
structure IdxR where
 d : Nat
 k : Nat
 ver : Nat
 s : Nat
 n : Nat
 i : Int
def idrV (τ : Tau) (ops : Array Oper) (j : Nat) (st : St) : Option IdxR :=
 match opAt ops st j with
 | some o => match o.op, dstOf st o with
  | .indexAddr t x ix, some d => match sliceOf τ t, evalV st x, evalV st ix with
   | some (_, ti), some (.ref k ver 0 s n _), some (.lit (.int _ i)) => bif Nat.beq ti.size s && (blkAt st.H k ver).isSome then some ⟨d, k, ver, s, n, i⟩ else none
   | _, _, _ => none
  | _, _ => none
 | none => none
theorem idrV_sound (hT : TOK P τ) {ops : Array Oper} {j : Nat} {st : St} {d k ver : Nat} {n : Nat} {xs : List α} {i : Int} {x : α} (h : idrV τ ops j st = some ⟨d, k, ver, Enc.sz α, n, i⟩) (hx : getI xs i = some x) (hn : xs.length = n) :
  ∃ o, AtOp ops st j o ∧ o.dst = some d ∧ d < st.nt ∧ Yld P Γ o st (.ptr k ver (i.toNat * Enc.sz α)) := by
 unfold idrV at h
 split at h
 ·rename_i o ho
  split at h
  ·rename_i t y ix d' hop hd
   split at h
   ·rename_i e ti k' ver' s n' full ki i' hs hy hi
    cases hb : (Nat.beq ti.size s && (blkAt st.H k' ver').isSome) with
    | false => rw [hb] at h; cases h
    | true =>
     rw [hb, cond_true] at h
     simp only [Option.some.injEq, IdxR.mk.injEq] at h
     obtain ⟨rfl, rfl, rfl, rfl, rfl, rfl⟩ := h
     simp only [Bool.and_eq_true] at hb
     obtain ⟨blk, hblk⟩ := Option.isSome_iff_exists.1 hb.2
     obtain ⟨h0, h1, h2⟩ := getI_spec hx
     have hd' := dstOf_spec hd
     have := yld_index_ref (Γ := Γ) hT hop hs hy hblk (Nat.eq_of_beq_eq_true hb.1) hi h0 (by omega)
     rw [Nat.zero_add] at this
     exact ⟨o, opAt_spec ho, hd'.1, hd'.2, this⟩
   ·cases h
  ·cases h
 ·cases h
theorem opsP_idr (hT : TOK P τ) {ops : Array Oper} {Q : Exit → St → Prop} {j : Nat} {st : St} (d k ver n : Nat) {xs : List α} {i : Int} {x : α} (hx : getI xs i = some x) (hn : xs.length = n) (h : idrV τ ops j st = some ⟨d, k, ver, Enc.sz α, n, i⟩)
  (hk : opsP P Γ ops Q (j + 1) (st.set d (.ptr k ver (i.toNat * Enc.sz α)))) : opsP P Γ ops Q j st := opsP_yld (yldG_of (idrV_sound hT h hx hn)) hk
theorem eL_nth {xs : List α} {i : Nat} {x : α} (h : xs[i]? = some x) {o : Nat} (ho : o < Enc.sz α) : (eL xs)[i * Enc.sz α + o]? = (Enc.cells x)[o]? := by
 have h1 := eL_at h
 rw [← h1, List.getElem?_take, if_pos ho, List.getElem?_drop]
theorem eL_bound {xs : List α} {i : Nat} {x : α} (h : xs[i]? = some x) {o n : Nat} (ho : o + n ≤ Enc.sz α) : i * Enc.sz α + o + n ≤ (eL xs).length := by
 have hi := (List.getElem?_eq_some_iff.1 h).1
 rw [eL_len]
 calc i * Enc.sz α + o + n ≤ i * Enc.sz α + Enc.sz α := by omega
  _ = (i + 1) * Enc.sz α := by rw [Nat.add_mul, Nat.one_mul]
  _ ≤ xs.length * Enc.sz α := Nat.mul_le_mul_right _ hi
structure LdE where
 d : Nat
 t : Nat
 off : Nat
 cs : List V
def ldeV (τ : Tau) (ops : Array Oper) (j : Nat) (st : St) : Option LdE :=
 match opAt ops st j with
 | some o => match o.op, dstOf st o with
  | .load t x, some d => match evalV st x with
   | some (.ptr k ver off) => match blkAt st.H k ver with
    | some blk => some ⟨d, t, off, blk.cells⟩
    | none => none
   | _ => none
  | _, _ => none
 | none => none
def renV (k n : Nat) : V → V
 | .ref k' ver off s m f => bif Nat.beq k' k then .ref k' ver off s n f else .ref k' ver off s m f
 | x => x
def renOK (k n : Nat) : V → Prop
 | .ref k' ver off s m f => Nat.beq k' k = true → m = n
 | _ => True
def renL (k n : Nat) : List (Nat × V) → List (Nat × V)
 | [] => []
 | (s, x) :: r => (s, renV k n x) :: renL k n r
def renLOK (k n : Nat) : List (Nat × V) → Prop
 | [] => True
 | (_, x) :: r => renOK k n x ∧ renLOK k n r
theorem renV_eq {k n : Nat} {x : V} (h : renOK k n x) : renV k n x = x := by
 cases x with
 | ref k' ver off s m f =>
  simp only [renV]
  cases hb : Nat.beq k' k with
  | true => rw [cond_true]; simp only [renOK] at h; rw [h hb]
  | false => rfl
 | _ => rfl
theorem renL_eq {k n : Nat} : ∀ {l : List (Nat × V)}, renLOK k n l → renL k n l = l
 | [], _ => rfl
 | (s, x) :: r, h => by simp only [renL, renV_eq h.1, renL_eq h.2]
structure StE where
 t : Nat
 k : Nat
 ver : Nat
 off : Nat
 cs : List V
 vs : List V
def steV (τ : Tau) (ops : Array Oper) (j : Nat) (st : St) : Option StE :=
 match opAt ops st j with
 | some o => match o.op, o.dst with
  | .store t y x, none => match τ t, evalV st y, evalV st x with
   | some i, some (.ptr k ver off), some v => match blkAt st.H k ver, valCells (soft (tyV τ t v)) with
    | some blk, some vs => bif vs.all cellV && Nat.beq vs.length i.size then some ⟨t, k, ver, off, blk.cells, vs⟩ else none
    | _, _ => none
   | _, _, _ => none
  | _, _ => none
 | none => none
theorem opsP_ste (hT : TOK P τ) {ops : Array Oper} {Q : Exit → St → Prop} {j : Nat} {st : St} (t k ver o' : Nat) {xs : List α} {i : Int} {x : α} (y : α) {vs : List V} (hx : getI xs i = some x)
  (h : steV τ ops j st = some ⟨t, k, ver, i.toNat * Enc.sz α + o', eL xs, vs⟩) (hy : setL (Enc.cells x) o' vs = Enc.cells y) (ho : Nat.ble (o' + vs.length) (Enc.sz α) = true) (hr : renLOK k (xs.set i.toNat y).length st.tmps)
  (hk : opsP P Γ ops Q (j + 1) { st with tmps := renL k (xs.set i.toNat y).length st.tmps, H := setH st.H k (some ⟨ver, eL (xs.set i.toNat y)⟩) }) : opsP P Γ ops Q j st := by
 rw [renL_eq hr] at hk
 unfold steV at h
 split at h
 ·rename_i o ho'
  split at h
  ·rename_i t' y' x' hop hd
   split at h
   ·rename_i ti k' ver' off v hti hyv hxv
    split at h
    ·rename_i blk vs' hb hv
     cases hc : (vs'.all cellV && Nat.beq vs'.length ti.size) with
     | false => rw [hc] at h; cases h
     | true =>
      rw [hc, cond_true] at h
      simp only [Option.some.injEq, StE.mk.injEq] at h
      obtain ⟨rfl, rfl, rfl, rfl, hcs, rfl⟩ := h
      simp only [Bool.and_eq_true] at hc
      have hat := opAt_spec ho'
      have hb2 := Nat.le_of_ble_eq_true ho
      have hg := (getI_spec hx).2.2
      refine opsP_op hat.op hat.wanted (opP_store hT hop hd hti hyv hb hxv hv hc.1 (Nat.eq_of_beq_eq_true hc.2) ?_ ?_ hk)
      ·rw [hcs]; exact eL_bound hg hb2
      ·rw [hcs]; exact eL_set hg hy hb2
    ·cases h
   ·cases h
  ·cases h
 ·cases h
structure SlrI where
 d : Nat
 k : Nat
 ver : Nat
 s : Nat
 n : Nat
 l : Option Int
 h : Option Int
 m : Option Int
def slrV (τ : Tau) (ops : Array Oper) (j : Nat) (st : St) : Option SlrI :=
 match opAt ops st j with
 | some o => match o.op, dstOf st o with
  | .slice t x lo hi mx, some d => match sliceOf τ t, evalV st x, boundV st lo, boundV st hi, boundV st mx with
   | some (_, ti), some (.ref k ver 0 s n _), some l, some h, some m => bif Nat.beq ti.size s && (blkAt st.H k ver).isSome && (!m.isSome || h.isSome) then some ⟨d, k, ver, s, n, l, h, m⟩ else none
   | _, _, _, _, _ => none
  | _, _ => none
 | none => none
theorem slrV_sound (hT : TOK P τ) {ops : Array Oper} {j : Nat} {st : St} {d k ver n : Nat} {xs ys : List α} {l h m : Option Int} (hv : slrV τ ops j st = some ⟨d, k, ver, Enc.sz α, n, l, h, m⟩) (hn : xs.length = n) (hy : slI xs l h m = some ys) :
    ∃ o, AtOp ops st j o ∧ o.dst = some d ∧ d < st.nt ∧ Yld P Γ o st (.ref k ver ((l.getD 0).toNat * Enc.sz α) (Enc.sz α) ys.length false) := by
  unfold slI at hy
  split at hy
  · rename_i hc
    cases hy
    obtain ⟨c1, c2, c3, c4, c5⟩ := hc
    unfold slrV at hv
    split at hv
    · rename_i o ho
      split at hv
      · rename_i t x lo hi mx d' hop hd
        split at hv
        · rename_i e ti k' ver' s n' full l' h' m' hs hx hl hh hmx
          cases hb : (Nat.beq ti.size s && (blkAt st.H k' ver').isSome && (!m'.isSome || h'.isSome)) with
          | false => rw [hb] at hv; cases hv
          | true =>
            rw [hb, cond_true] at hv
            simp only [Option.some.injEq, SlrI.mk.injEq] at hv
            obtain ⟨rfl, rfl, rfl, rfl, rfl, rfl, rfl, rfl⟩ := hv
            simp only [Bool.and_eq_true, Bool.or_eq_true, Bool.not_eq_true'] at hb
            obtain ⟨blk, hblk⟩ := Option.isSome_iff_exists.1 hb.1.2
            have hsz := Nat.eq_of_beq_eq_true hb.1.1
            have hmh : m'.isSome = true → h'.isSome = true := fun h => by rcases hb.2 with h1 | h1
                                                                          · rw [h] at h1; cases h1
                                                                          · exact h1
            have hd' := dstOf_spec hd
            refine ⟨o, opAt_spec ho, hd'.1, hd'.2, fun a w M μ fp G O hS => ?_⟩
            obtain ⟨hu, hj⟩ := sliceOf_spec hT hs
            have hxv := evalV_sound hS hx
            simp only [Sl] at hxv
            obtain ⟨b1, b2⟩ := blkAt_spec hblk
            have hr := (hxv.2.2 blk b1).2 b2
            have hlen : ((xs.drop (l'.getD 0).toNat).take ((h'.getD xs.length).toNat - (l'.getD 0).toNat)).length = (h'.getD xs.length).toNat - (l'.getD 0).toNat := by
              rw [List.length_take, List.length_drop]; omega
            rw [hlen]
            have run : ∀ (A : Option Addr) (cap : Nat), a.eval x = .slice A n' cap → n' ≤ cap → (execOp a.eval o).run P w = .ok (.value (sliced A (l'.getD 0).toNat (h'.getD xs.length).toNat ((m'.map Int.toNat).getD cap) ti.size)) w := by
              intro A cap hA hle
              have := run_slice_gen (P := P) hu hj w A n' cap hle (lo.map a.eval) (hi.map a.eval) (mx.map a.eval) (boundV_sound hS hl) (boundV_sound hS hh) (boundV_sound hS hmx) hmh c1 (by rw [← hn]; exact c2) (by rw [← hn]; exact c3) (fun k hk => by rw [hk] at c4 c5; simp only [Option.getD_some] at c4 c5; rw [← hn]; exact ⟨c4, c5⟩)
              simp only [execOp, hop, hA]
              rw [Sem.run_bind, this, hn]
              rfl
            have hmc : ∀ cap, n' ≤ cap → (h'.getD xs.length).toNat ≤ (m'.map Int.toNat).getD cap ∧ (m'.map Int.toNat).getD cap ≤ cap := by
              intro cap hle
              cases m' with
              | none => simp only [Option.map_none, Option.getD_none]; omega
              | some k => simp only [Option.map_some, Option.getD_some] at c4 c5 ⊢; omega
            rcases hr with ⟨A, hA, h0, hs0⟩ | ⟨b, cap, c, e', hm, hA, hs0, hle, hmax, hf, hh', hcs⟩
            · have hx0 : xs.length = 0 := by omega
              have hl0 : (l'.getD 0).toNat = 0 := by omega
              have hh0 : (h'.getD xs.length).toNat = 0 := by omega
              have hr := run A 0 (by rw [hA, h0]) (by omega)
              have hm0 : (m'.map Int.toNat).getD 0 = 0 := by have := (hmc 0 (by omega)).2; omega
              rw [hl0, hh0, hm0] at hr
              refine ⟨_, w, hr, Kept.refl _ w, ?_⟩
              rw [hl0, hh0]
              cases A with
              | none =>
                simp only [sliced, Sl]
                exact ⟨hxv.1, ⟨_, _, _, rfl⟩, fun blk' hb' => ⟨(hxv.2.2 blk' hb').1, fun _ => .inl ⟨_, rfl, rfl, hs0⟩⟩⟩
              | some ad =>
                simp only [sliced, Sl]
                refine ⟨hxv.1, ?_, fun blk' hb' => ⟨(hxv.2.2 blk' hb').1, fun _ => .inl ?_⟩⟩
                · simp
                · simp [hs0]
            · have hr := run _ cap hA hle
              refine ⟨_, w, hr, Kept.refl _ w, ?_⟩
              obtain ⟨g1, g2⟩ := hmc cap hle
              have h2 : (l'.getD 0).toNat ≤ (h'.getD xs.length).toNat := by omega
              rw [hsz]
              generalize (l'.getD 0).toNat = L at *
              generalize (h'.getD xs.length).toNat = T at *
              generalize (m'.map Int.toNat).getD cap = mc at *
              simp only [sliced, Sl]
              refine ⟨hxv.1, ?_, fun blk' hb' => ⟨(hxv.2.2 blk' hb').1, fun _ => ?_⟩⟩
              · simp
              · by_cases hLc : mc = L
                · refine .inl ?_
                  simp [hLc]
                  omega
                · refine .inr ⟨b, mc - L, c, e', hm, ?_, hs0, by omega, by omega, by simp, hh', ?_⟩
                  · simp [hLc, Addr.add_mid]
                  · calc L * Enc.sz α + (mc - L) * Enc.sz α = mc * Enc.sz α := by rw [← Nat.add_mul]; congr 1; omega
                      _ ≤ cap * Enc.sz α := Nat.mul_le_mul_right _ g2
                      _ ≤ c.size := by omega
        · cases hv
      · cases hv
    · cases hv
  · cases hy
theorem opsP_slr (hT : TOK P τ) {ops : Array Oper} {Q : Exit → St → Prop} {j : Nat} {st : St} (d k ver n : Nat) {xs ys : List α} {l h m : Option Int} (hy : slI xs l h m = some ys) (hn : xs.length = n) (hv : slrV τ ops j st = some ⟨d, k, ver, Enc.sz α, n, l, h, m⟩)
  (hk : opsP P Γ ops Q (j + 1) (st.set d (.ref k ver ((l.getD 0).toNat * Enc.sz α) (Enc.sz α) ys.length false))) : opsP P Γ ops Q j st := opsP_yld (yldG_of (slrV_sound hT hv hn hy)) hk
end
end Go.D
