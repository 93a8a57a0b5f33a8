import Derived.Test.YtjgeddgheonjbaaElDMore
import Derived.Lib.AppendZerosOnto
set_option linter.unusedVariables false
namespace Go.D
section
variable {P : Program} {Γ : Ctx} {τ : Tau}
section lists
variable {α : Type} [Enc α]
end lists
theorem Imp.cut {α : Type} [Enc α] {st st' : St} (k ver : Nat) (xs ys : List α) (hb : blkAt st.H k ver = some ⟨ver, eL xs⟩) (hy : (xs.drop ((none : Option Int).getD 0).toNat).take ys.length = ys) (he : { st with H := st.H.set k (some ⟨ver, eL ys⟩) } = st') : Imp Γ st st' := by
 subst he
 obtain ⟨b1, _⟩ := blkAt_spec hb
 have hkl : k < st.H.length := (List.getElem?_eq_some_iff.1 b1).1
 have hs : (st.H.set k (some ⟨ver, eL ys⟩))[k]? = some (some ⟨ver, eL ys⟩) := by rw [List.getElem?_set_self hkl]
 have hot : ∀ j, j ≠ k → (st.H.set k (some ⟨ver, eL ys⟩))[j]? = st.H[j]? := fun j h => List.getElem?_set_ne (fun e => h e.symm)
 refine Imp.of_own rfl fun a w M μ fp G O hS => ?_
 have C : Carry w M st.H μ w M (st.H.set k (some ⟨ver, eL ys⟩)) μ := ⟨Same.refl w M, fun b h => .inl h, by simp, fun j blk' hj h => by
  by_cases hjk : j = k
  ·subst hjk; rw [hs] at h; cases h; exact ⟨_, b1, Nat.le_refl _, fun _ => ⟨rfl, fun b _ => .of_eq rfl⟩⟩
  ·rw [hot j hjk] at h; exact ⟨blk', h, Nat.le_refl _, fun _ => ⟨rfl, fun b _ => .of_eq rfl⟩⟩⟩
 refine ⟨M, μ, fp, G, ⟨fun j blk hj => ?_, fun j blk hj => ?_, O.sub, O.m0, O.lt, O.new, O.apart, O.kept, fun i b hb => ⟨(O.pin i b hb).1, ?_, (O.pin i b hb).2.2⟩⟩, fun s x hx => ?_⟩
 ·by_cases hjk : j = k
  ·subst hjk
   rw [hs] at hj
   cases hj
   have h1 := O.blk j _ b1
   cases hm : μ j with
   | none =>
    rw [hm] at h1
    simp only [BlkR] at h1 ⊢
    have : xs = [] := by
     have h2 := eL_len xs
     rw [h1] at h2
     have hp : 0 < Enc.sz α := Enc.pos
     simp only [List.length_nil] at h2
     rcases Nat.mul_eq_zero.1 h2.symm with h3 | h3
     ·exact List.length_eq_zero_iff.1 h3
     ·omega
    rw [this] at hy
    have : ys = [] := by simpa using hy.symm
    rw [this]; rfl
   | some b =>
    rw [hm] at h1
    obtain ⟨c, e, us, hh, hce, hlie⟩ := h1
    obtain ⟨hfr, hfp⟩ := hce.frL (eL_frz xs)
    refine ⟨c, e, us.take (ys.length * Enc.sz α), hh, ?_, ?_⟩
    ·rw [hfp]
     have h2 := hfr.take (ys.length * Enc.sz α)
     have : eL ys = (eL xs).take (ys.length * Enc.sz α) := by
      rw [eL_take]
      simp at hy
      rw [hy]
     rw [this]
     exact h2.ceL
    ·have := hlie.sub 0 (ys.length * Enc.sz α)
     simpa using this
  ·rw [hot j hjk] at hj
   exact (O.blk j blk hj).carry C (fun b _ => rfl) (fun b _ => rfl)
 ·by_cases hjk : j = k
  ·subst hjk; exact O.mine j _ b1
  ·rw [hot j hjk] at hj; exact O.mine j blk hj
 ·obtain ⟨blk, h0⟩ := (O.pin i b hb).2.1
  by_cases hk0 : i = k
  ·subst hk0; exact ⟨_, hs⟩
  ·exact ⟨blk, by rw [hot i hk0]; exact h0⟩
 ·obtain ⟨u, hu, hsl⟩ := hS s x hx
  exact ⟨u, hu, hsl.carry C⟩
def callHV (τ : Tau) (ops : Array Oper) (j : Nat) (st : St) : Option (Nat × FuncId × List V) :=
 match opAt ops st j with
 | some o => match o.op, dstOf st o with
  | .call c, some d => match c.callee with
   | .value y => match evalV st y, evalArgs τ st c.args.toList c.argTypes.toList with
    | some (.fn g caps), some xs => some (d, g, xs ++ caps)
    | _, _ => none
   | _ => none
  | _, _ => none
 | none => none
theorem opsP_callH (τ : Tau) {ops : Array Oper} {Q : Exit → St → Prop} {j : Nat} {st : St} (d : Nat) {g : FuncId} {xs : List V} {out : V} (hok : OK P g xs out) (hz : frzL xs = true) (h : callHV τ ops j st = some (d, g, xs))
  (hk : opsP P Γ ops Q (j + 1) ({ st with H := st.H ++ (thaw st.H.length out).2.map some }.set d (thaw st.H.length out).1)) : opsP P Γ ops Q j st := by
 unfold callHV at h
 split at h
 ·rename_i o ho
  split at h
  ·rename_i c d' hop hd
   split at h
   ·rename_i y hc
    split at h
    ·rename_i g' caps as hy ha
     simp only [Option.some.injEq, Prod.mk.injEq] at h
     obtain ⟨rfl, rfl, rfl⟩ := h
     have hd' := dstOf_spec hd
     have hat := opAt_spec ho
     exact opsP_op hat.op hat.wanted (opP_callO hop hc hy ha hz hok hd'.1 (Nat.ble_eq_true_of_le hd'.2) hk)
    ·cases h
   ·cases h
  ·cases h
 ·cases h
end
end Go.D
