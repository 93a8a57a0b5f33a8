import Derived.Test.YtamegkbinbplaaatlaDStep
import Derived.Laws.Slices
set_option linter.unusedVariables false
namespace Go.D
section
variable {P : Program} {Γ : Ctx} {τ : Tau}
def optI : Option Value → Option (Option Int)
 | none => some none
 | some (.int _ i) => some (some i)
 | _ => none
def boundV (st : St) : Option Operand → Option (Option Int)
 | none => some none
 | some x => match evalV st x with
  | some (.lit (.int _ i)) => some (some i)
  | _ => none
theorem run_slice_gen {t e : TypeId} {j : TI} (hu : P.underlying t = some (.slice e)) (hj : TIok P e j) (w : World) (A : Option Addr) (n cap : Nat) (hn : n ≤ cap) (lo hi mx : Option Value) {l h m : Option Int}
  (hl : optI lo = some l) (hh : optI hi = some h) (hm : optI mx = some m) (hmh : m.isSome = true → h.isSome = true) (h0 : 0 ≤ l.getD 0) (h1 : l.getD 0 ≤ h.getD n) (h2 : h.getD n ≤ n) (h3 : ∀ k, m = some k → h.getD n ≤ k ∧ k ≤ n) :
  (Instr.sliceAt t (.slice A n cap) lo hi mx).run P w = .ok (sliced A (l.getD 0).toNat (h.getD n).toNat ((m.map Int.toNat).getD cap) j.size) w := by
 have hel : P.elem t = e := by simp [Program.elem, hu]
 have hu' : P.underlying t = some (.slice (P.elem t)) := by rw [hel]; exact hu
 have hsz := run_sizeOf' hj w
 rw [run_sliceAt_slice w t _ _ _ _ hu']
 have fin : ∀ a b c : Nat, ((sizeOf (P.elem t)).run P w).andThen (fun s w => .ok (sliced A a b c s) w) = .ok (sliced A a b c j.size) w := by
  intro a b c
  rw [hel, hsz]
  rfl
 have val : ∀ (x : Option Value) (k : Option Int), optI x = some k → (k = none ∧ x = none) ∨ ∃ q i, k = some i ∧ x = some (.int q i) := by
  intro x k hx
  cases x with
  | none => simp [optI] at hx; exact .inl ⟨hx.symm, rfl⟩
  | some v => cases v <;> simp [optI] at hx; rename_i q i; exact .inr ⟨q, i, hx.symm, rfl⟩
 rcases val lo l hl with ⟨rfl, rfl⟩ | ⟨ql, il, rfl, rfl⟩ <;> rcases val hi h hh with ⟨rfl, rfl⟩ | ⟨qh, ih, rfl, rfl⟩ <;> rcases val mx m hm with ⟨rfl, rfl⟩ | ⟨qm, im, rfl, rfl⟩ <;>
  simp only [Option.getD_none, Option.getD_some, Option.map_none, Option.map_some, Int.toNat_zero, Int.toNat_natCast, Option.isSome_none, Option.isSome_some] at *
 ·rw [run_slice_all w t A n cap hu']; exact fin _ _ _
 ·exact absurd (hmh trivial) (by simp)
 ·rw [run_slice_h w t A n cap hu' _ _ h1 (by omega)]; exact fin _ _ _
 ·have := h3 im rfl
  rw [run_slice_hm w t A n cap hu' _ _ _ _ h1 (by omega) (by omega)]; exact fin _ _ _
 ·rw [run_slice_l w t A n cap hu' _ _ h0 h1]; exact fin _ _ _
 ·exact absurd (hmh trivial) (by simp)
 ·rw [run_slice_lh w t A n cap hu' _ _ _ _ h0 h1 (by omega)]; exact fin _ _ _
 ·have := h3 im rfl
  rw [run_slice_lhm w t A n cap hu' _ _ _ _ _ _ h0 h1 (by omega) (by omega)]; exact fin _ _ _
section typed
variable {α : Type} [Enc α]
def slI (xs : List α) (l h m : Option Int) : Option (List α) :=
 if 0 ≤ l.getD 0 ∧ l.getD 0 ≤ h.getD xs.length ∧ h.getD xs.length ≤ xs.length ∧ h.getD xs.length ≤ m.getD xs.length ∧ m.getD xs.length ≤ xs.length then
  some ((xs.drop (l.getD 0).toNat).take ((h.getD xs.length).toNat - (l.getD 0).toNat)) else none
structure SlcI where
 d : Nat
 s : Nat
 n : Nat
 cs : List V
 l : Option Int
 h : Option Int
 m : Option Int
theorem boundV_sound {st : St} {a : Act} {w : World} {M : Nat → Prop} {μ : Nat → Option Nat} (hS : Slots st a w M μ) {x : Option Operand} {k : Option Int} (h : boundV st x = some k) : optI (x.map a.eval) = some k := by
 cases x with
 | none => simpa [boundV, optI] using h
 | some y =>
  simp only [boundV] at h
  split at h
  ·rename_i q i hv
   cases h
   have := evalV_sound hS hv
   simp only [Sl] at this
   simp only [Option.map_some, this, optI]
  ·cases h
end typed
end
end Go.D
