import Derived.Test.YtlcjmombcnkfcaaIsDShow
set_option linter.unusedVariables false
namespace Go.D
section
variable {P : Program} {Γ : Ctx} {τ : Tau}
theorem after_lent {M : Nat → Prop} {H : Hp} {w w' : World} {μ : Nat → Option Nat} {fp : Nat → List Nat} {G : Nat → Option Nat} (O : Own Γ M H w μ fp G) {k b : Nat} {blk : Blk} {cs' : List V} {us' : List Value} (b1 : H[k]? = some (some blk)) (hm : μ k = some b)
  (hos : w'.os = w.os) (htape : w'.tape = w.tape) (hout : w'.output = w.output) (hsize : w.heap.size ≤ w'.heap.size) (hdr : w.drawn ≤ w'.drawn) (hM : ∀ x, M x → x < w'.heap.size) (hw : ∀ i, i < w.heap.size → i ≠ b → w'.heap[i]? = w.heap[i]?) (hshape : Shape w w' b)
  (hfr : FrL w' M cs' us') (hlie : Lies w' b 0 us') :
  ∃ μ' fp' G', Own Γ M (setH H k (some ⟨blk.ver, cs'⟩)) w' μ' fp' G' ∧ Carry w M H μ w' M (setH H k (some ⟨blk.ver, cs'⟩)) μ' := by
 have hG := ((O.mine k blk b1).1 b hm).1
 have hMb : M b := O.sub b (by rw [hG]; simp)
 have hkl : k < H.length := (List.getElem?_eq_some_iff.1 b1).1
 have hbl := O.blk k blk b1
 rw [hm] at hbl
 obtain ⟨cc, ee, ws, hh, hce, hlie0⟩ := hbl
 obtain ⟨c2, e2, hh2, hc2⟩ := hshape cc ee hh
 have := O.turn (M' := M) (w' := w') k (Nat.le_of_lt hkl) (some ⟨blk.ver, cs'⟩) (some b) [] hos htape hout hsize hdr
  (fun i hi hg => hw i hi fun hib => hg (by rw [hib]; exact hG)) (fun x h => .inl h) (fun x h _ => h) (fun _ x hx => by simp at hx; rw [hx]; exact hMb) hM
  (fun _ x hx => by simp at hx; rw [hx]; exact .inl hG) (fun _ => by simp)
  (fun blk' hblk' _ => by cases hblk'; exact ⟨blk, b1, by simp only []; omega, fun _ => ⟨hm.symm, fun b' hb' => by rw [hm] at hb'; cases hb'; exact hshape⟩⟩)
  (fun blk' hblk' C => by cases hblk'; exact ⟨c2, e2, us', hh2, hfr.ceL, hlie⟩)
  (fun i' b' hb' hk => ⟨by rw [← hk]; exact hm.symm, by simp, by
   have p1 := (O.pin i' b' hb').1
   rw [← hk, hm] at p1
   cases p1
   exact hshape⟩)
 obtain ⟨fp', G', O', C, _⟩ := this
 exact ⟨_, fp', G', O', C⟩
structure BslI where
 d : Nat
 s : Nat
 n : Nat
 cells : List V
end
end Go.D
