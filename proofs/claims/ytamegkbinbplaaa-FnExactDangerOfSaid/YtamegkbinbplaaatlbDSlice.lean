import Derived.Test.YtamegkbinbplaaatlbDStep
import Derived.Laws.Slices
set_option linter.unusedVariables false
namespace Go.D
section
variable {P : Program} {Γ : Ctx} {τ : Tau}
theorem fr_sliced {w : World} {M : Nat → Prop} {s n : Nat} {cs : List V} {full : Bool} {A : Option Addr} {cap : Nat} (h : Fr w M (.arr s n cs full) (.slice A n cap)) {l hi m : Nat} (h1 : l ≤ hi) (h2 : hi ≤ n) (h3 : hi ≤ m) (h4 : m ≤ cap) :
  Fr w M (.arr s (hi - l) ((cs.drop (l * s)).take ((hi - l) * s)) false) (sliced A l hi m s) := by
 simp only [Fr] at h ⊢
 obtain ⟨A', cap', he, ⟨hs, hl, hle, hmx, _⟩, hc⟩ := h
 cases he
 have hlen : ((cs.drop (l * s)).take ((hi - l) * s)).length = (hi - l) * s := by
  rw [List.length_take, List.length_drop, ← hl]
  have : (hi - l) * s ≤ n * s - l * s := by
   rw [← Nat.sub_mul]
   exact Nat.mul_le_mul_right _ (by omega)
  omega
 refine ⟨_, _, rfl, ⟨hs, hlen.symm, by omega, by omega, fun h => by cases h⟩, ?_⟩
 rcases hc with rfl | ⟨b, o, us, rfl, hb, hM, hf, hlie⟩
 ·left; simp
 ·by_cases hml : m = l
  ·left
   have : hi - l = 0 := by omega
   rw [this]
   simp
  ·right
   refine ⟨b, o + l * s, (us.drop (l * s)).take ((hi - l) * s), ?_, hb, hM, (hf.drop _).take _, hlie.sub _ _⟩
   simp only [if_neg hml, Option.map_some, Addr.add_mid]
def optI : Option Value → Option (Option Int)
 | none => some none
 | some (.int _ i) => some (some i)
 | _ => none
def boundV (st : St) : Option Operand → Option (Option Int)
 | none => some none
 | some x => match evalV st x with
  | some (.lit (.int _ i)) => some (some i)
  | _ => none
theorem run_slice_gen {t e : TypeId} {j : TI} (hu : P.underlying t = some (.slice e)) (hj : TIok P e j) (w : World) (A : Option Addr) (n cap : Nat) (hn : n ≤ cap) (lo hi mx : Option Value) {l h m : Option Int}
  (hl : optI lo = some l) (hh : optI hi = some h) (hm : optI mx = some m) (hmh : m.isSome = true → h.isSome = true) (h0 : 0 ≤ l.getD 0) (h1 : l.getD 0 ≤ h.getD n) (h2 : h.getD n ≤ n) (h3 : ∀ k, m = some k → h.getD n ≤ k ∧ k ≤ n) :
  (Instr.sliceAt t (.slice A n cap) lo hi mx).run P w = .ok (sliced A (l.getD 0).toNat (h.getD n).toNat ((m.map Int.toNat).getD cap) j.size) w := by
 have hel : P.elem t = e := by simp [Program.elem, hu]
 have hu' : P.underlying t = some (.slice (P.elem t)) := by rw [hel]; exact hu
 have hsz := run_sizeOf' hj w
 rw [run_sliceAt_slice w t _ _ _ _ hu']
 have fin : ∀ a b c : Nat, ((sizeOf (P.elem t)).run P w).andThen (fun s w => .ok (sliced A a b c s) w) = .ok (sliced A a b c j.size) w := by
  intro a b c
  rw [hel, hsz]
  rfl
 have val : ∀ (x : Option Value) (k : Option Int), optI x = some k → (k = none ∧ x = none) ∨ ∃ q i, k = some i ∧ x = some (.int q i) := by
  intro x k hx
  cases x with
  | none => simp [optI] at hx; exact .inl ⟨hx.symm, rfl⟩
  | some v => cases v <;> simp [optI] at hx; rename_i q i; exact .inr ⟨q, i, hx.symm, rfl⟩
 rcases val lo l hl with ⟨rfl, rfl⟩ | ⟨ql, il, rfl, rfl⟩ <;> rcases val hi h hh with ⟨rfl, rfl⟩ | ⟨qh, ih, rfl, rfl⟩ <;> rcases val mx m hm with ⟨rfl, rfl⟩ | ⟨qm, im, rfl, rfl⟩ <;>
  simp only [Option.getD_none, Option.getD_some, Option.map_none, Option.map_some, Int.toNat_zero, Int.toNat_natCast, Option.isSome_none, Option.isSome_some] at *
 ·rw [run_slice_all w t A n cap hu']; exact fin _ _ _
 ·exact absurd (hmh trivial) (by simp)
 ·rw [run_slice_h w t A n cap hu' _ _ h1 (by omega)]; exact fin _ _ _
 ·have := h3 im rfl
  rw [run_slice_hm w t A n cap hu' _ _ _ _ h1 (by omega) (by omega)]; exact fin _ _ _
 ·rw [run_slice_l w t A n cap hu' _ _ h0 h1]; exact fin _ _ _
 ·exact absurd (hmh trivial) (by simp)
 ·rw [run_slice_lh w t A n cap hu' _ _ _ _ h0 h1 (by omega)]; exact fin _ _ _
 ·have := h3 im rfl
  rw [run_slice_lhm w t A n cap hu' _ _ _ _ _ _ h0 h1 (by omega) (by omega)]; exact fin _ _ _
section typed
variable {α : Type} [Enc α]
def slI (xs : List α) (l h m : Option Int) : Option (List α) :=
 if 0 ≤ l.getD 0 ∧ l.getD 0 ≤ h.getD xs.length ∧ h.getD xs.length ≤ xs.length ∧ h.getD xs.length ≤ m.getD xs.length ∧ m.getD xs.length ≤ xs.length then
  some ((xs.drop (l.getD 0).toNat).take ((h.getD xs.length).toNat - (l.getD 0).toNat)) else none
structure SlcI where
 d : Nat
 s : Nat
 n : Nat
 cs : List V
 l : Option Int
 h : Option Int
 m : Option Int
def slcV (τ : Tau) (ops : Array Oper) (j : Nat) (st : St) : Option SlcI :=
 match opAt ops st j with
 | some o => match o.op, dstOf st o with
  | .slice t x lo hi mx, some d => match sliceOf τ t, evalV st x, boundV st lo, boundV st hi, boundV st mx with
   | some (_, ti), some (.arr s n cs _), some l, some h, some m => bif Nat.beq ti.size s && (!m.isSome || h.isSome) then some ⟨d, s, n, cs, l, h, m⟩ else none
   | _, _, _, _, _ => none
  | _, _ => none
 | none => none
theorem boundV_sound {st : St} {a : Act} {w : World} {M : Nat → Prop} {μ : Nat → Option Nat} (hS : Slots st a w M μ) {x : Option Operand} {k : Option Int} (h : boundV st x = some k) : optI (x.map a.eval) = some k := by
 cases x with
 | none => simpa [boundV, optI] using h
 | some y =>
  simp only [boundV] at h
  split at h
  ·rename_i q i hv
   cases h
   have := evalV_sound hS hv
   simp only [Sl] at this
   simp only [Option.map_some, this, optI]
  ·cases h
theorem slcV_sound (hT : TOK P τ) {ops : Array Oper} {j : Nat} {st : St} {d : Nat} {xs ys : List α} {l h m : Option Int} (hv : slcV τ ops j st = some ⟨d, Enc.sz α, xs.length, eL xs, l, h, m⟩) (hy : slI xs l h m = some ys) :
  ∃ o, AtOp ops st j o ∧ o.dst = some d ∧ d < st.nt ∧ Yld P Γ o st (A ys) := by
 unfold slcV at hv
 split at hv
 ·rename_i o ho
  split at hv
  ·rename_i t x lo hi mx d' hop hd
   split at hv
   ·rename_i e ti s n cs full l' h' m' hs hx hlo hhi hmx
    cases hb : (Nat.beq ti.size s && (!m'.isSome || h'.isSome)) with
    | false => rw [hb] at hv; cases hv
    | true =>
     rw [hb, cond_true] at hv
     simp only [Option.some.injEq, SlcI.mk.injEq] at hv
     obtain ⟨rfl, rfl, rfl, rfl, rfl, rfl, rfl⟩ := hv
     simp only [Bool.and_eq_true, Bool.or_eq_true, Bool.not_eq_true'] at hb
     have hd' := dstOf_spec hd
     have hsz := Nat.eq_of_beq_eq_true hb.1
     refine ⟨o, opAt_spec ho, hd'.1, hd'.2, fun a w M μ fp G Ow' hS => ?_⟩
     unfold slI at hy
     split at hy
     ·rename_i hc
      obtain ⟨c1, c2, c3, c4, c5⟩ := hc
      cases hy
      obtain ⟨hu, hj⟩ := sliceOf_spec hT hs
      have hxv := evalV_sound hS hx
      simp only [Sl] at hxv
      have hxv' := hxv
      simp only [Fr] at hxv'
      obtain ⟨AA, cap, he, ⟨g1, g2, g3, g4, g5⟩, g6⟩ := hxv'
      rw [he] at hxv
      have hrun := run_slice_gen hu hj w AA xs.length cap g3 (lo.map a.eval) (hi.map a.eval) (mx.map a.eval) (boundV_sound hS hlo) (boundV_sound hS hhi) (boundV_sound hS hmx)
       (fun hm => by rcases hb.2 with hb2 | hb2 <;> simp_all) c1 c2 c3 (fun k hk => by subst hk; exact ⟨c4, c5⟩)
      refine ⟨sliced AA (l'.getD 0).toNat (h'.getD xs.length).toNat ((m'.map Int.toNat).getD cap) ti.size, w, ?_, Kept.refl _ w, ?_⟩
      ·simp only [execOp, hop, he]
       rw [Sem.run_bind, hrun]
       rfl
      ·simp only [Sl]
       rw [hsz]
       have := fr_sliced hxv (l := (l'.getD 0).toNat) (hi := (h'.getD xs.length).toNat) (m := (m'.map Int.toNat).getD cap) (by omega) (by omega) (by
        cases m' with
        | none => simp only [Option.map_none, Option.getD_none]; omega
        | some k => simp only [Option.map_some, Option.getD_some] at c4 c5 ⊢; omega) (by
        cases m' with
        | none => simp
        | some k => simp only [Option.map_some, Option.getD_some] at c4 c5 ⊢; omega)
       rw [eL_drop, eL_take] at this
       have hl : ((xs.drop (l'.getD 0).toNat).take ((h'.getD xs.length).toNat - (l'.getD 0).toNat)).length = (h'.getD xs.length).toNat - (l'.getD 0).toNat := by
        rw [List.length_take, List.length_drop]
        omega
       rw [hl]
       exact this
     ·cases hy
   ·cases hv
  ·cases hv
 ·cases hv
theorem opsP_slc (hT : TOK P τ) {ops : Array Oper} {Q : Exit → St → Prop} {j : Nat} {st : St} (d : Nat) {xs ys : List α} {l h m : Option Int} (hy : slI xs l h m = some ys) (hv : slcV τ ops j st = some ⟨d, Enc.sz α, xs.length, eL xs, l, h, m⟩)
  (hk : opsP P Γ ops Q (j + 1) (st.set d (A ys))) : opsP P Γ ops Q j st := opsP_yld (yldG_of (slcV_sound hT hv hy)) hk
end typed
end
end Go.D
