import Derived.Test.YtgddjdemlelffaatlbDCast
set_option linter.unusedVariables false
namespace Go.D
section
variable {P : Program} {Γ : Ctx} {τ : Tau}
theorem Imp.mvS {st st' : St} (k k' : Nat) (ks : List Nat) (hpin : ∀ i b, Γ.L i b → k ≠ i ∧ k' ≠ i) {v : Nat} {cs : List V} (h : blkAt st.H k v = some ⟨v, cs⟩) (h' : st.H[k']? = some none) (hf : blkFrz st.H) (ho : mvLOK k' st.tmps = true)
  (he : St.keep { st with tmps := mvL k k' st.tmps, H := (st.H.set k none).set k' (some ⟨v, cs⟩) } ks = st') : Imp Γ st st' := by
 subst he
 exact (Imp.mvKey k k' hpin h h' hf ho).trans (Imp.keep ks)
theorem Imp.ren {st st' : St} (k n : Nat) (hr : renLOK k n st.tmps) (he : { st with tmps := renL k n st.tmps } = st') : Imp Γ st st' := by
 subst he
 rw [renL_eq hr]
 exact Imp.refl _
theorem opsP_ren {ops : Array Oper} {Q : Exit → St → Prop} {j : Nat} {st st' : St} (k n : Nat) (hr : renLOK k n st.tmps) (he : { st with tmps := renL k n st.tmps } = st') (hk : opsP P Γ ops Q j st') : opsP P Γ ops Q j st := opsP_imp (Imp.ren k n hr he) hk
theorem qA_ren {ops : Array Oper} {vis mod : List (List Nat)} {T : St → Prop} {n j : Nat} {st st' : St} (k m : Nat) (hr : renLOK k m st.tmps) (he : { st with tmps := renL k m st.tmps } = st') (hk : qA P Γ ops vis mod T n j st') : qA P Γ ops vis mod T n j st := by
 subst he
 rw [renL_eq hr] at hk
 exact hk
end
end Go.D
set_option linter.unusedVariables false
namespace Go.D
theorem renC {k n s : Nat} {x : V} {r : List (Nat × V)} (h : renOK k n x) (hr : renLOK k n r) : renLOK k n ((s, x) :: r) := ⟨h, hr⟩
theorem renC0 {k n : Nat} : renLOK k n [] := trivial
theorem ren_ref {k n k' ver off s m : Nat} {f : Bool} (h : m = n) : renOK k n (.ref k' ver off s m f) := fun _ => h
theorem wholeC {k v len s : Nat} {x : V} {r : List (Nat × V)} (h : wholeOf k v len x) (hr : wholeSlots k v len r) : wholeSlots k v len ((s, x) :: r) := ⟨h, hr⟩
theorem wholeC0 {k v len : Nat} : wholeSlots k v len [] := trivial
theorem whole_is {k v len k' ver off s m : Nat} {f : Bool} (h : m * s = len) : wholeOf k v len (.ref k' ver off s m f) := fun _ _ _ => h
theorem whole_ne {k v len k' ver off s m : Nat} {f : Bool} (h : Nat.beq k' k = false) : wholeOf k v len (.ref k' ver off s m f) := fun e => by rw [e, Nat.beq_refl] at h; cases h
theorem slI_view {α : Type} {xs ys : List α} {l h m : Option Int} (hy : slI xs l h m = some ys) : (xs.drop (l.getD 0).toNat).take ys.length = ys := by
 unfold slI at hy
 split at hy
 ·cases hy
  rw [List.length_take, ← List.take_take, List.take_length]
 ·cases hy
section
variable {P : Program} {Γ : Ctx} {τ : Tau}
end
end Go.D
