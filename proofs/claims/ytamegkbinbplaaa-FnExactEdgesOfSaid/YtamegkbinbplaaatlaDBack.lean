import Derived.Test.YtamegkbinbplaaatlaDShow
set_option linter.unusedVariables false
namespace Go.D
section
variable {P : Program} {Γ : Ctx} {τ : Tau}
theorem after_keep {M : Nat → Prop} {H : Hp} {w w' : World} {μ : Nat → Option Nat} {fp : Nat → List Nat} {G : Nat → Option Nat} (O' : Own Γ M H w μ fp G) (hg : Grew w w') {s n : Nat} {cs : List V} {full : Bool} {v : Value} {fpn : List Nat}
  (how : Ow w' (fun b => M b ∨ b ∈ fpn) (.own s n cs full) v fpn) (hn : fpn.Nodup) (hb : ∀ b ∈ fpn, w.heap.size ≤ b ∧ b < w'.heap.size) (k ver : Nat) (hkl : k ≤ H.length) (hpin : ∀ i b, Γ.L i b → k ≠ i)
  (hver : k < H.length → ∃ blk, H[k]? = some (some blk) ∧ blk.ver < ver) :
  ∃ μ' fp' G', Own Γ (fun b => M b ∨ b ∈ fpn) (setH H k (some ⟨ver, cs⟩)) w' μ' fp' G' ∧ Carry w M H μ w' (fun b => M b ∨ b ∈ fpn) (setH H k (some ⟨ver, cs⟩)) μ' ∧ (∀ j, j ≠ k → μ' j = μ j) ∧
   Sl w' (fun b => M b ∨ b ∈ fpn) (setH H k (some ⟨ver, cs⟩)) μ' (.ref k ver 0 s n full) v := by
 simp only [Ow] at how
 obtain ⟨A, cap, rfl, hd, how⟩ := how
 obtain ⟨hs0, hm, hle, hmax, hf⟩ := hd
 have hlen : k < (setH H k (some ⟨ver, cs⟩)).length := by
  have := setH_same (H := H) (x := some ⟨ver, cs⟩) hkl
  exact (List.getElem?_eq_some_iff.1 this).1
 rcases how with ⟨rfl, rfl⟩ | ⟨b, cc, e, us, fp', rfl, rfl, hh, hcap, hl, hlie⟩
 ·have hn0 : n = 0 := Nat.le_zero.1 hle
  subst hn0
  have := O'.turn (M' := fun b => M b ∨ b ∈ fpn) (w' := w') k hkl (some ⟨ver, []⟩) none [] hg.os hg.tape hg.output hg.size hg.drawn (fun i hi _ => hg.block i hi fun h => h) (fun b h => h.imp id fun h => (hb b h).1) (fun b h _ => .inl h) (fun _ b hb => by simp at hb)
   (fun b h => h.elim (fun h => Nat.lt_of_lt_of_le (O'.lt b h) hg.size) fun h => (hb b h).2)
   (fun _ b hb => by simp at hb) (fun _ => by simp) (fun blk' hb' hk' => by
    cases hb'
    obtain ⟨blk, b1, b2⟩ := hver hk'
    exact ⟨blk, b1, by simp only []; omega, fun e => by simp only [] at e; omega⟩) (fun blk' hb' C => by cases hb'; rfl) (fun i b hb hk => absurd hk (hpin i b hb))
  obtain ⟨fp2, G2, O2, C2, _⟩ := this
  refine ⟨_, fp2, G2, O2, C2, fun j hj => by simp [updN, hj], ?_⟩
  simp only [Sl]
  refine ⟨hlen, ⟨_, _, _, rfl⟩, fun blk' hb' => ?_⟩
  rw [setH_same hkl] at hb'
  cases hb'
  exact ⟨Nat.le_refl _, fun _ => .inl ⟨A, rfl, rfl, hs0⟩⟩
 ·have := O'.turn (M' := fun x => M x ∨ x ∈ (b :: fp')) (w' := w') k hkl (some ⟨ver, cs⟩) (some b) fp' hg.os hg.tape hg.output hg.size hg.drawn (fun i hi _ => hg.block i hi fun h => h) (fun x h => h.imp id fun h => (hb x h).1) (fun b h _ => .inl h) (fun _ x hx => .inr (by simpa using hx))
   (fun x h => by
    rcases h with h | h
    ·exact Nat.lt_of_lt_of_le (O'.lt x h) hg.size
    ·exact (hb x h).2)
   (fun _ x hx => .inr (hb x (by simpa using hx)).1) (fun _ => by simpa using hn) (fun blk' hb' hk' => by
    cases hb'
    obtain ⟨blk, b1, b2⟩ := hver hk'
    exact ⟨blk, b1, by simp only []; omega, fun e => by simp only [] at e; omega⟩)
   (fun blk' hb' C => by cases hb'; exact ⟨cc, e, us, hh, hl.ceL, hlie⟩) (fun i b hb hk => absurd hk (hpin i b hb))
  obtain ⟨fp2, G2, O2, C2, _⟩ := this
  refine ⟨_, fp2, G2, O2, C2, fun j hj => by simp [updN, hj], ?_⟩
  simp only [Sl]
  refine ⟨hlen, ⟨_, _, _, rfl⟩, fun blk' hb' => ?_⟩
  rw [setH_same hkl] at hb'
  cases hb'
  refine ⟨Nat.le_refl _, fun _ => ?_⟩
  simp only [updN, if_true]
  exact .inr ⟨b, cap, cc, e, rfl, rfl, hs0, hle, hmax, hf, hh, by omega⟩
theorem FrL.owL {w : World} {M : Nat → Prop} : ∀ {cs : List V} {us : List Value}, FrL w M cs us → cs.all frozenV = true → OwL w M cs us []
 | [], us, h, _ => by simp only [FrL] at h; simp only [OwL]; simp [h]
 | c :: cs, us, h, hb => by
  simp only [List.all_cons, Bool.and_eq_true] at hb
  simp only [FrL] at h
  obtain ⟨u, us', rfl, h1, h2⟩ := h
  simp only [OwL]
  refine ⟨u, us', [], [], rfl, rfl, ?_, FrL.owL h2 hb.2⟩
  cases c <;> simp_all [frozenV, Ow, Fr]
structure BslI where
 d : Nat
 s : Nat
 n : Nat
 cells : List V
end
end Go.D
