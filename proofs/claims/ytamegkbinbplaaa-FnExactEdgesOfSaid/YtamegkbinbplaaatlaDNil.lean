import Derived.Test.YtamegkbinbplaaatlaDMore
import Derived.Lib.AppendZerosOnto
set_option linter.unusedVariables false
namespace Go.D
section
variable {P : Program} {Γ : Ctx} {τ : Tau}
section lists
variable {α : Type} [Enc α]
end lists
theorem Imp.cut {α : Type} [Enc α] {st st' : St} (k ver : Nat) (xs ys : List α) (hb : blkAt st.H k ver = some ⟨ver, eL xs⟩) (hy : (xs.drop ((none : Option Int).getD 0).toNat).take ys.length = ys) (he : { st with H := st.H.set k (some ⟨ver, eL ys⟩) } = st') : Imp Γ st st' := by
 subst he
 obtain ⟨b1, _⟩ := blkAt_spec hb
 have hkl : k < st.H.length := (List.getElem?_eq_some_iff.1 b1).1
 have hs : (st.H.set k (some ⟨ver, eL ys⟩))[k]? = some (some ⟨ver, eL ys⟩) := by rw [List.getElem?_set_self hkl]
 have hot : ∀ j, j ≠ k → (st.H.set k (some ⟨ver, eL ys⟩))[j]? = st.H[j]? := fun j h => List.getElem?_set_ne (fun e => h e.symm)
 refine Imp.of_own rfl fun a w M μ fp G O hS => ?_
 have C : Carry w M st.H μ w M (st.H.set k (some ⟨ver, eL ys⟩)) μ := ⟨Same.refl w M, fun b h => .inl h, by simp, fun j blk' hj h => by
  by_cases hjk : j = k
  ·subst hjk; rw [hs] at h; cases h; exact ⟨_, b1, Nat.le_refl _, fun _ => ⟨rfl, fun b _ => .of_eq rfl⟩⟩
  ·rw [hot j hjk] at h; exact ⟨blk', h, Nat.le_refl _, fun _ => ⟨rfl, fun b _ => .of_eq rfl⟩⟩⟩
 refine ⟨M, μ, fp, G, ⟨fun j blk hj => ?_, fun j blk hj => ?_, O.sub, O.m0, O.lt, O.new, O.apart, O.kept, fun i b hb => ⟨(O.pin i b hb).1, ?_, (O.pin i b hb).2.2⟩⟩, fun s x hx => ?_⟩
 ·by_cases hjk : j = k
  ·subst hjk
   rw [hs] at hj
   cases hj
   have h1 := O.blk j _ b1
   cases hm : μ j with
   | none =>
    rw [hm] at h1
    simp only [BlkR] at h1 ⊢
    have : xs = [] := by
     have h2 := eL_len xs
     rw [h1] at h2
     have hp : 0 < Enc.sz α := Enc.pos
     simp only [List.length_nil] at h2
     rcases Nat.mul_eq_zero.1 h2.symm with h3 | h3
     ·exact List.length_eq_zero_iff.1 h3
     ·omega
    rw [this] at hy
    have : ys = [] := by simpa using hy.symm
    rw [this]; rfl
   | some b =>
    rw [hm] at h1
    obtain ⟨c, e, us, hh, hce, hlie⟩ := h1
    obtain ⟨hfr, hfp⟩ := hce.frL (eL_frz xs)
    refine ⟨c, e, us.take (ys.length * Enc.sz α), hh, ?_, ?_⟩
    ·rw [hfp]
     have h2 := hfr.take (ys.length * Enc.sz α)
     have : eL ys = (eL xs).take (ys.length * Enc.sz α) := by
      rw [eL_take]
      simp at hy
      rw [hy]
     rw [this]
     exact h2.ceL
    ·have := hlie.sub 0 (ys.length * Enc.sz α)
     simpa using this
  ·rw [hot j hjk] at hj
   exact (O.blk j blk hj).carry C (fun b _ => rfl) (fun b _ => rfl)
 ·by_cases hjk : j = k
  ·subst hjk; exact O.mine j _ b1
  ·rw [hot j hjk] at hj; exact O.mine j blk hj
 ·obtain ⟨blk, h0⟩ := (O.pin i b hb).2.1
  by_cases hk0 : i = k
  ·subst hk0; exact ⟨_, hs⟩
  ·exact ⟨blk, by rw [hot i hk0]; exact h0⟩
 ·obtain ⟨u, hu, hsl⟩ := hS s x hx
  exact ⟨u, hu, hsl.carry C⟩
end
end Go.D
