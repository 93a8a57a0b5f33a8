import Derived.Test.YtlcjmombcnkfcaaIoDSortF
set_option linter.unusedVariables false
namespace Go.D
open Go.Sort Go.Proofs
structure Ord3 {α : Type} (cf : α → α → Int) : Prop where
 refl : ∀ x, cf x x = 0
 lt : ∀ x y, cf x y < 0 → 0 < cf y x
 gt : ∀ x y, 0 < cf x y → cf y x < 0
 le : ∀ x y z, cf x y ≤ 0 → cf y z ≤ 0 → cf x z ≤ 0
section
variable {α : Type} {cf cg : α → α → Int}
theorem Ord3.eq (h : Ord3 cf) {x y : α} (e : cf x y = 0) : cf y x = 0 := by
 rcases Int.lt_trichotomy (cf y x) 0 with k | k | k
 ·have := h.lt _ _ k; omega
 ·exact k
 ·have := h.gt _ _ k; omega
theorem Ord3.ge (h : Ord3 cf) {x y : α} (e : 0 ≤ cf x y) : cf y x ≤ 0 := by
 by_cases k : cf x y = 0
 ·have := h.eq k; omega
 ·have := h.gt x y (by omega); omega
theorem Ord3.swo (h : Ord3 cf) : SWO (ltOf cf) := by
 refine ⟨fun x => ?_, fun x y z h1 h2 => ?_, fun x y z h1 h2 => ?_⟩
 ·unfold ltOf
  rw [h.refl]
  rfl
 ·unfold ltOf at *
  have h1 := of_decide_eq_true h1
  have h2 := of_decide_eq_true h2
  refine decide_eq_true ?_
  rcases Int.lt_or_le (cf x z) 0 with k | k
  ·exact k
  ·have := h.le z x y (h.ge k) (by omega)
   have := h.lt y z h2
   omega
 ·unfold ltOf at *
  have h1 := of_decide_eq_false h1
  have h2 := of_decide_eq_false h2
  refine decide_eq_false fun k => ?_
  have := h.le z y x (h.ge (by omega)) (h.ge (by omega))
  have := h.lt x z k
  omega
theorem Ord3.lex (h : Ord3 cf) (k : Ord3 cg) : Ord3 fun x y => if cf x y ≠ 0 then cf x y else cg x y := by
 refine ⟨fun x => ?_, fun x y e => ?_, fun x y e => ?_, fun x y z e1 e2 => ?_⟩
 ·simp only [h.refl, ne_eq, not_true_eq_false, if_false, k.refl]
 ·by_cases e0 : cf x y = 0
  ·rw [if_neg (by simpa using e0)] at e
   rw [if_neg (by simpa using h.eq e0)]
   exact k.lt _ _ e
  ·rw [if_pos e0] at e
   have := h.lt _ _ e
   rw [if_pos (by omega)]
   exact this
 ·by_cases e0 : cf x y = 0
  ·rw [if_neg (by simpa using e0)] at e
   rw [if_neg (by simpa using h.eq e0)]
   exact k.gt _ _ e
  ·rw [if_pos e0] at e
   have := h.gt _ _ e
   rw [if_pos (by omega)]
   exact this
 ·have a1 : cf x y ≤ 0 := by
   by_cases e0 : cf x y = 0
   ·omega
   ·rw [if_pos e0] at e1; exact e1
  have a2 : cf y z ≤ 0 := by
   by_cases e0 : cf y z = 0
   ·omega
   ·rw [if_pos e0] at e2; exact e2
  have a3 := h.le x y z a1 a2
  by_cases e0 : cf x z = 0
  ·rw [if_neg (by simpa using e0)]
   have b0 := h.eq e0
   have b1 : cf x y = 0 := by
    have := h.le y z x a2 (by omega)
    rcases Int.lt_or_le (cf x y) 0 with q | q
    ·have := h.lt _ _ q; omega
    ·omega
   have b2 : cf y z = 0 := by
    have := h.le z x y (by omega) a1
    rcases Int.lt_or_le (cf y z) 0 with q | q
    ·have := h.lt _ _ q; omega
    ·omega
   rw [if_neg (by simpa using b1)] at e1
   rw [if_neg (by simpa using b2)] at e2
   exact k.le x y z e1 e2
  ·rw [if_pos e0]
   exact a3
theorem Ord3.on {β : Type} (h : Ord3 cf) (f : β → α) : Ord3 fun x y => cf (f x) (f y) := ⟨fun _ => h.refl _, fun _ _ => h.lt _ _, fun _ _ => h.gt _ _, fun _ _ _ => h.le _ _ _⟩
end
theorem sortL_len {α : Type} [Inhabited α] {cf : α → α → Int} (h : Ord3 cf) (zs : List α) : (sortL cf zs).Perm zs ∧ (sortL cf zs).Pairwise fun a b => cf a b ≤ 0 := by
 obtain ⟨⟨h1, h2, h3⟩, h4⟩ := pdq_sorts (ltOf cf) h.swo zs.toArray 0 zs.length (Lib.bitLen zs.length) true true (Nat.zero_le _) (by simp) (Or.inl rfl)
 have hs : (pdq (ltOf cf) zs.toArray 0 zs.length (Lib.bitLen zs.length) true true).size = zs.length := by rw [h1]; simp
 refine ⟨?_, ?_⟩
 ·unfold sortL
  generalize pdq (ltOf cf) zs.toArray 0 zs.length (Lib.bitLen zs.length) true true = ys at hs h3 ⊢
  have e : ys.extract 0 zs.length = ys := by
   rw [← hs]
   exact Array.extract_size
  rw [e] at h3
  simpa using h3
 ·rw [List.pairwise_iff_getElem]
  intro i j hi hj hij
  unfold sortL at hi hj ⊢
  rw [Array.length_toList, hs] at hi hj
  have := h4 i j (Nat.zero_le _) hij hj
  rw [getElem!_pos _ j (by rw [hs]; exact hj), getElem!_pos _ i (by rw [hs]; exact hi)] at this
  rw [Array.getElem_toList, Array.getElem_toList]
  have key : ∀ x y, ltOf cf x y = false → cf y x ≤ 0 := fun x y e => h.ge (by
   have e : decide (cf x y < 0) = false := e
   have := of_decide_eq_false e
   omega)
  exact key _ _ this
theorem perm_uniq {α : Type} {cf : α → α → Int} (h : Ord3 cf) : ∀ {xs ys : List α}, xs.Perm ys → xs.Pairwise (fun a b => cf a b < 0) → ys.Pairwise (fun a b => cf a b ≤ 0) → xs = ys
 | [], ys, hp, _, _ => (List.perm_nil.1 hp.symm).symm
 | x :: xs, [], hp, _, _ => absurd hp.length_eq (by simp)
 | x :: xs, y :: ys, hp, h1, h2 => by
  rw [List.pairwise_cons] at h1 h2
  have hxy : x = y := by
   rcases List.mem_cons.1 (hp.symm.subset (List.mem_cons_self)) with e | e
   ·exact e.symm
   ·have a := h1.1 y e
    rcases List.mem_cons.1 (hp.subset (List.mem_cons_self)) with e' | e'
    ·exact e'
    ·have b := h2.1 x e'
     have := h.lt _ _ a
     omega
  subst hxy
  rw [perm_uniq h (List.perm_cons x |>.1 hp) h1.2 h2.2]
end Go.D
