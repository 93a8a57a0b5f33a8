import Derived.Test.YtamegkbinbplaaatlbDOwn3
import Derived.Laws.IdiomStrings
set_option linter.unusedVariables false
namespace Go.D
section
variable {P : Program} {Γ : Ctx} {τ : Tau}
def u8 (n : Int) : UInt8 := UInt8.ofNat (n % 256).toNat
theorem u8_wrap (n : Int) : IntKind.u8.wrap n = ((u8 n).toNat : Int) := by
 have h1 : IntKind.u8.wrap n = n % 256 := by simp [IntKind.wrap, IntKind.bits, IntKind.signed]
 rw [h1, u8]
 have h2 : (n % 256).toNat < 256 := by omega
 rw [UInt8.toNat_ofNat']
 omega
def cv8V (τ : Tau) (ops : Array Oper) (j : Nat) (st : St) : Option (Nat × Int) :=
 match opAt ops st j with
 | some o => match o.op, dstOf st o with
  | .convert src dst x, some d => match τ src, τ dst, evalV st x with
   | some _, some i, some (.lit (.int _ n)) => match i.k with
    | .int .u8 => some (d, n)
    | _ => none
   | _, _, _ => none
  | _, _ => none
 | none => none
theorem cv8V_sound (hT : TOK P τ) {ops : Array Oper} {j : Nat} {st : St} {d : Nat} {n : Int} (hv : cv8V τ ops j st = some (d, n)) :
  ∃ o, AtOp ops st j o ∧ o.dst = some d ∧ d < st.nt ∧ Yld P Γ o st (.lit (.int .u8 (u8 n).toNat)) := by
 unfold cv8V at hv
 split at hv
 ·rename_i o ho
  split at hv
  ·rename_i src dst x d' hop hd
   split at hv
   ·rename_i ti i k n' hsrc hdst hx
    split at hv
    ·rename_i hk
     cases hv
     have hd' := dstOf_spec hd
     refine ⟨o, opAt_spec ho, hd'.1, hd'.2, evOpF_sound (mu := []) hT ?_⟩
     simp only [evOpF, evOp, evMore, hop, hsrc, hdst, hx, hk]
     rw [u8_wrap]
    ·cases hv
   ·cases hv
  ·cases hv
 ·cases hv
theorem opsP_cv8 (hT : TOK P τ) {ops : Array Oper} {Q : Exit → St → Prop} {j : Nat} {st : St} (d : Nat) (n : Int) (hv : cv8V τ ops j st = some (d, n))
  (hk : opsP P Γ ops Q (j + 1) (st.set d (.lit (.int .u8 (u8 n).toNat)))) : opsP P Γ ops Q j st := opsP_yld (yldG_of (cv8V_sound hT hv)) hk
def cvsV (τ : Tau) (ops : Array Oper) (j : Nat) (st : St) : Option (Nat × Nat × Nat × List V) :=
 match opAt ops st j with
 | some o => match o.op, dstOf st o with
  | .convert src dst x, some d => match sliceOf τ src, τ dst, evalV st x with
   | some (_, e), some i, some (.arr s n cs _) => match e.k, i.k with
    | .int .u8, .str => some (d, s, n, cs)
    | _, _ => none
   | _, _, _ => none
  | _, _ => none
 | none => none
theorem frL_bytes_inv {w : World} {M : Nat → Prop} : ∀ {l : List UInt8} {us : List Value}, FrL w M (l.map fun b => V.lit (.int .u8 b.toNat)) us → us = l.map fun b => Value.int .u8 b.toNat
 | [], us, h => by simpa [FrL] using h
 | b :: l, us, h => by
  simp only [List.map_cons, FrL] at h
  obtain ⟨u, us', rfl, h1, h2⟩ := h
  simp only [Fr] at h1
  rw [h1, frL_bytes_inv h2, List.map_cons]
theorem cvsV_sound (hT : TOK P τ) {ops : Array Oper} {j : Nat} {st : St} {d : Nat} {l : List UInt8} (hv : cvsV τ ops j st = some (d, 1, l.length, eL l)) :
  ∃ o, AtOp ops st j o ∧ o.dst = some d ∧ d < st.nt ∧ Yld P Γ o st (.lit (.string ⟨l.toArray⟩)) := by
 unfold cvsV at hv
 split at hv
 ·rename_i o ho
  split at hv
  ·rename_i src dst x d' hop hd
   split at hv
   ·rename_i e ei i s n cs full hsl hdst hx
    split at hv
    ·rename_i hk1 hk2
     simp only [Option.some.injEq, Prod.mk.injEq] at hv
     obtain ⟨rfl, rfl, rfl, rfl⟩ := hv
     have hd' := dstOf_spec hd
     refine ⟨o, opAt_spec ho, hd'.1, hd'.2, fun a w M μ fp G Ow' hS => ?_⟩
     obtain ⟨inf, dd, z, h1, h2, h3, h4, h5, h6, h7, h8, h9⟩ := hT dst i hdst
     rw [hk2] at h8
     simp only [TKok] at h8
     subst h8
     obtain ⟨hu, hj⟩ := sliceOf_spec hT hsl
     obtain ⟨inf', dd', z', g1, g2, g3, g4, g5, g6, g7, g8, g9⟩ := hj
     rw [hk1] at g8
     simp only [TKok] at g8
     subst g8
     have hxv := evalV_sound hS hx
     simp only [Sl, Fr] at hxv
     obtain ⟨A, cap, hA, hh, hc⟩ := hxv
     refine ⟨.string ⟨l.toArray⟩, w, ?_, Kept.refl _ w, by simp only [Sl]⟩
     simp only [execOp, hop, hA]
     rw [Sem.run_bind]
     rcases hc with hc | ⟨b, o', us, rfl, hb, hM, hl, hlie⟩
     ·have hl0 : l = [] := by
       have := congrArg List.length hc
       rw [eL_len] at this
       have hp : Enc.sz UInt8 = 1 := rfl
       rw [hp] at this
       exact List.length_eq_zero_iff.1 (by simpa using this)
      subst hl0
      cases A with
      | none =>
       rw [run_convert_bytes_string w src dst e none _ cap hu g2 h2]
       simp [Conv.bytesToString]
       rfl
      | some ad =>
       have := run_convert_bytes_back (P := P) w src dst e ad cap [] hu g2 h2 (fun j hj => by simp at hj)
       rw [List.length_nil] at this ⊢
       rw [this]
       rfl
     ·rw [eL_bytes] at hl
      have hus := frL_bytes_inv hl
      have := run_convert_bytes_back (P := P) w src dst e ⟨b, o', none⟩ cap l hu g2 h2 (fun j hj => by
       rw [Addr.add_mid, hlie j (by rw [hus]; simpa using hj), hus]
       simp [List.getElem?_eq_getElem hj])
      rw [this]
      rfl
    ·cases hv
   ·cases hv
  ·cases hv
 ·cases hv
theorem opsP_cvs (hT : TOK P τ) {ops : Array Oper} {Q : Exit → St → Prop} {j : Nat} {st : St} (d : Nat) (l : List UInt8) (hv : cvsV τ ops j st = some (d, 1, l.length, eL l))
  (hk : opsP P Γ ops Q (j + 1) (st.set d (.lit (.string ⟨l.toArray⟩)))) : opsP P Γ ops Q j st := opsP_yld (yldG_of (cvsV_sound hT hv)) hk
def addS (a b : ByteArray) : Option ByteArray := if a.size + b.size ≤ 4611686018427387904 then some (a ++ b) else none
def adsV (τ : Tau) (ops : Array Oper) (j : Nat) (st : St) : Option (Nat × ByteArray × ByteArray) :=
 match opAt ops st j with
 | some o => match o.op, dstOf st o with
  | .binOp .add t x y _, some d => match τ t, evalV st x, evalV st y with
   | some i, some (.lit (.string a)), some (.lit (.string b)) => match i.k with
    | .str => some (d, a, b)
    | _ => none
   | _, _, _ => none
  | _, _ => none
 | none => none
theorem adsV_sound (hT : TOK P τ) {ops : Array Oper} {j : Nat} {st : St} {d : Nat} {a b c : ByteArray} (hv : adsV τ ops j st = some (d, a, b)) (hc : addS a b = some c) :
  ∃ o, AtOp ops st j o ∧ o.dst = some d ∧ d < st.nt ∧ Yld P Γ o st (.lit (.string c)) := by
 unfold addS at hc
 split at hc
 ·rename_i hle
  cases hc
  unfold adsV at hv
  split at hv
  ·rename_i o ho
   split at hv
   ·rename_i t x y tt d' hop hd
    split at hv
    ·rename_i i a' b' ht hx hy
     split at hv
     ·rename_i hk
      simp only [Option.some.injEq, Prod.mk.injEq] at hv
      obtain ⟨rfl, rfl, rfl⟩ := hv
      have hd' := dstOf_spec hd
      refine ⟨o, opAt_spec ho, hd'.1, hd'.2, fun act w M μ fp G Ow' hS => ?_⟩
      obtain ⟨inf, dd, z, h1, h2, h3, h4, h5, h6, h7, h8, h9⟩ := hT t i ht
      rw [hk] at h8
      simp only [TKok] at h8
      subst h8
      have hxv := evalV_sound hS hx
      have hyv := evalV_sound hS hy
      simp only [Sl] at hxv hyv
      refine ⟨.string (a' ++ b'), w, ?_, Kept.refl _ w, by simp only [Sl]⟩
      have hr := run_string_add_sum (P := P) w a' b' (by omega)
      simp only [execOp, hop, hxv, hyv]
      simp [eqGuard_at_string, binOp, hr]
     ·cases hv
    ·cases hv
   ·cases hv
  ·cases hv
 ·cases hc
theorem opsP_ads (hT : TOK P τ) {ops : Array Oper} {Q : Exit → St → Prop} {j : Nat} {st : St} (d : Nat) {a b c : ByteArray} (hc : addS a b = some c) (hv : adsV τ ops j st = some (d, a, b))
  (hk : opsP P Γ ops Q (j + 1) (st.set d (.lit (.string c)))) : opsP P Γ ops Q j st := opsP_yld (yldG_of (adsV_sound hT hv hc)) hk
end
end Go.D
