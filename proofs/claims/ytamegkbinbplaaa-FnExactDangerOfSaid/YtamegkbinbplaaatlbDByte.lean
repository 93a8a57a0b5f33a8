import Derived.Test.YtamegkbinbplaaatlbDSlice
import Derived.Laws.Strings
import Derived.Laws.IdiomStrings
import Derived.Laws.AppendOwn
set_option linter.unusedVariables false
namespace Go.D
section
variable {P : Program} {Γ : Ctx} {τ : Tau}
def getB (s : ByteArray) (i : Int) : Option UInt8 := if 0 ≤ i then s[i.toNat]? else none
def bytV (τ : Tau) (ops : Array Oper) (j : Nat) (st : St) : Option (Nat × ByteArray × Int) :=
 match opAt ops st j with
 | some o => match o.op, dstOf st o with
  | .index t x ix, some d => match τ t, evalV st x, evalV st ix with
   | some i, some (.lit (.string s)), some (.lit (.int _ n)) => match i.k with
    | .str => some (d, s, n)
    | _ => none
   | _, _, _ => none
  | _, _ => none
 | none => none
theorem bytV_sound (hT : TOK P τ) {ops : Array Oper} {j : Nat} {st : St} {d : Nat} {s : ByteArray} {i : Int} {b : UInt8} (hv : bytV τ ops j st = some (d, s, i)) (hb : getB s i = some b) :
  ∃ o, AtOp ops st j o ∧ o.dst = some d ∧ d < st.nt ∧ Yld P Γ o st (.lit (.int .u8 b.toNat)) := by
 unfold bytV at hv
 split at hv
 ·rename_i o ho
  split at hv
  ·rename_i t x ix d' hop hd
   split at hv
   ·rename_i ti s' k n hti hx hi
    split at hv
    ·rename_i hk
     cases hv
     have hd' := dstOf_spec hd
     refine ⟨o, opAt_spec ho, hd'.1, hd'.2, fun a w M μ fp G Ow' hS => ⟨.int .u8 b.toNat, w, ?_, Kept.refl _ w, by simp only [Sl]⟩⟩
     obtain ⟨inf, dd, z, h1, h2, h3, h4, h5, h6, h7, h8, h9⟩ := hT t ti hti
     rw [hk] at h8
     simp only [TKok] at h8
     subst h8
     have hxv := evalV_sound hS hx
     have hiv := evalV_sound hS hi
     simp only [Sl] at hxv hiv
     simp only [execOp, hop, hxv, hiv]
     unfold getB at hb
     rw [Sem.run_bind]
     have : (Instr.index t (.string s) (.int k i)).run P w = .ok (.int .u8 b.toNat) w := by
      simp [Instr.index, asIntOf, run_underlying h2, hb]
     rw [this]
     rfl
    ·cases hv
   ·cases hv
  ·cases hv
 ·cases hv
theorem opsP_byt (hT : TOK P τ) {ops : Array Oper} {Q : Exit → St → Prop} {j : Nat} {st : St} (d : Nat) {s : ByteArray} {i : Int} {b : UInt8} (hb : getB s i = some b) (hv : bytV τ ops j st = some (d, s, i))
  (hk : opsP P Γ ops Q (j + 1) (st.set d (.lit (.int .u8 b.toNat)))) : opsP P Γ ops Q j st := opsP_yld (yldG_of (bytV_sound hT hv hb)) hk
def bytesOf (s : ByteArray) : Option (List UInt8) := if s.size < 68719476736 then some s.data.toList else none
def cvbV (τ : Tau) (ops : Array Oper) (j : Nat) (st : St) : Option (Nat × ByteArray) :=
 match opAt ops st j with
 | some o => match o.op, dstOf st o with
  | .convert src dst x, some d => match τ src, sliceOf τ dst, evalV st x with
   | some i, some (_, e), some (.lit (.string s)) => match i.k, e.k with
    | .str, .int .u8 => bif Nat.beq e.size 1 then some (d, s) else none
    | _, _ => none
   | _, _, _ => none
  | _, _ => none
 | none => none
theorem eL_bytes : ∀ (l : List UInt8), eL l = l.map fun b => V.lit (.int .u8 b.toNat)
 | [] => rfl
 | b :: l => by simp only [eL, eL_bytes l, List.map_cons]; rfl
theorem frL_bytes (w : World) (M : Nat → Prop) : ∀ (l : List UInt8), FrL w M (l.map fun b => V.lit (.int .u8 b.toNat)) (l.map fun b => Value.int .u8 b.toNat)
 | [] => by simp [FrL]
 | b :: l => by simp only [List.map_cons, FrL]; exact ⟨_, _, rfl, by simp only [Fr], frL_bytes w M l⟩
theorem cvbV_sound (hT : TOK P τ) {ops : Array Oper} {j : Nat} {st : St} {d : Nat} {s : ByteArray} {l : List UInt8} (hv : cvbV τ ops j st = some (d, s)) (hb : bytesOf s = some l) :
  ∃ o, AtOp ops st j o ∧ o.dst = some d ∧ d < st.nt ∧ Yld P Γ o st (A l) := by
 unfold bytesOf at hb
 split at hb
 ·rename_i hlt
  cases hb
  unfold cvbV at hv
  split at hv
  ·rename_i o ho
   split at hv
   ·rename_i src dst x d' hop hd
    split at hv
    ·rename_i ti e ei s' hti hsl hx
     split at hv
     ·rename_i hk1 hk2
      cases hbe : Nat.beq ei.size 1 with
      | false => rw [hbe] at hv; cases hv
      | true =>
       rw [hbe, cond_true] at hv
       cases hv
       have hd' := dstOf_spec hd
       refine ⟨o, opAt_spec ho, hd'.1, hd'.2, fun a w M μ fp G Ow' hS => ?_⟩
       obtain ⟨inf, dd, z, h1, h2, h3, h4, h5, h6, h7, h8, h9⟩ := hT src ti hti
       rw [hk1] at h8
       simp only [TKok] at h8
       subst h8
       obtain ⟨hu, hj⟩ := sliceOf_spec hT hsl
       obtain ⟨inf', dd', z', g1, g2, g3, g4, g5, g6, g7, g8, g9⟩ := hj
       rw [hk2] at g8
       simp only [TKok] at g8
       subst g8
       have hxv := evalV_sound hS hx
       simp only [Sl] at hxv
       have hrun := run_bytes_of_string w src dst e s h2 hu g2
       have hge := grownCap_ge w s.size 0 e
       have hle : grownCap w s.size 0 e ≤ maxI := grownCap_le_maxLen w _ _ _ (by unfold maxLen; omega)
       generalize hc : grownCap w s.size 0 e = cap at *
       refine ⟨.slice (some ⟨w.heap.size, 0, none⟩) s.size cap, w.drew.alloc (.cells (bytesRow s cap) e ((bytesRow s cap).size, (bytesRow s cap).size + 1)), ?_, ?_, ?_⟩
       ·simp only [execOp, hop, hxv]
        rw [Sem.run_bind, hrun]
        rfl
       ·have hg := alloc_grew w.drew (.cells (bytesRow s cap) e ((bytesRow s cap).size, (bytesRow s cap).size + 1))
        exact Kept.trans (X := fun _ => False) (Y := fun _ => False) (by constructor <;> intros <;> first | rfl | exact Nat.le_refl _ | exact Nat.le_succ _) hg (fun _ h => .inl h)
       ·simp only [Sl]
        simp only [Fr]
        refine ⟨some ⟨w.heap.size, 0, none⟩, cap, rfl, ⟨Enc.pos, (eL_len _).symm, by simpa using hge, hle, fun h => by cases h⟩, ?_⟩
        right
        refine ⟨w.heap.size, 0, s.data.toList.map fun b => Value.int .u8 b.toNat, rfl, ?_, fun hM => by have := Ow'.lt _ hM; omega, ?_, ?_⟩
        ·show w.heap.size < (w.heap.push _).size
         simp
        ·rw [eL_bytes]
         exact frL_bytes _ _ _
        ·intro i hi
         have hh : (w.drew.alloc (.cells (bytesRow s cap) e ((bytesRow s cap).size, (bytesRow s cap).size + 1))).heap[w.heap.size]? = some (.cells (bytesRow s cap) e ((bytesRow s cap).size, (bytesRow s cap).size + 1)) := by
          show (w.heap.push _)[w.heap.size]? = _
          simp
         rw [cell_of_heap hh, Nat.zero_add]
         simp only [List.length_map, Array.length_toList] at hi
         unfold bytesRow
         rw [Array.getElem?_append_left (by simpa using hi)]
         simp
     ·cases hv
    ·cases hv
   ·cases hv
  ·cases hv
 ·cases hb
theorem opsP_cvb (hT : TOK P τ) {ops : Array Oper} {Q : Exit → St → Prop} {j : Nat} {st : St} (d : Nat) {s : ByteArray} {l : List UInt8} (hb : bytesOf s = some l) (hv : cvbV τ ops j st = some (d, s))
  (hk : opsP P Γ ops Q (j + 1) (st.set d (A l))) : opsP P Γ ops Q j st := opsP_yld (yldG_of (cvbV_sound hT hv hb)) hk
section lists
variable {α : Type} [Enc α]
theorem Imp.ghost {st : St} : Imp Γ st { st with H := setH st.H st.H.length (some ⟨0, []⟩) } := by
 intro a w r
 obtain ⟨h1, h2, M, μ, fp, G, O, hS⟩ := r
 have := O.turn (M' := M) (w' := w) st.H.length (Nat.le_refl _) (some ⟨0, []⟩) none [] rfl rfl rfl (Nat.le_refl _) (Nat.le_refl _) (fun i hi _ => rfl) (fun b h => .inl h) (fun b h _ => h) (fun _ b hb => by simp at hb) O.lt
  (fun _ b hb => by simp at hb) (fun _ => by simp) (fun blk' hb' h => absurd h (Nat.lt_irrefl _)) (fun blk' hb' C => by cases hb'; rfl) (fun i b hb hk => by obtain ⟨_, ⟨blk, h0⟩, _⟩ := O.pin i b hb; have := (List.getElem?_eq_some_iff.1 h0).1; omega)
 obtain ⟨fp', G', O', C, _⟩ := this
 refine ⟨h1, h2, M, _, fp', G', O', fun t x hx => ?_⟩
 obtain ⟨v, h3, h4⟩ := hS t x hx
 exact ⟨v, h3, h4.carry C⟩
end lists
end
end Go.D
