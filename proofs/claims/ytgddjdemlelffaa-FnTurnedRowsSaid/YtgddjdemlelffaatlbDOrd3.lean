import Derived.Test.YtgddjdemlelffaatlbDVal
set_option linter.unusedVariables false
namespace Go.D
structure Ord3 {α : Type} (cf : α → α → Int) : Prop where
 refl : ∀ x, cf x x = 0
 lt : ∀ x y, cf x y < 0 → 0 < cf y x
 gt : ∀ x y, 0 < cf x y → cf y x < 0
 le : ∀ x y z, cf x y ≤ 0 → cf y z ≤ 0 → cf x z ≤ 0
section
variable {α : Type} {cf cg : α → α → Int}
theorem Ord3.eq (h : Ord3 cf) {x y : α} (e : cf x y = 0) : cf y x = 0 := by
 rcases Int.lt_trichotomy (cf y x) 0 with k | k | k
 ·have := h.lt _ _ k; omega
 ·exact k
 ·have := h.gt _ _ k; omega
theorem Ord3.ge (h : Ord3 cf) {x y : α} (e : 0 ≤ cf x y) : cf y x ≤ 0 := by
 by_cases k : cf x y = 0
 ·have := h.eq k; omega
 ·have := h.gt x y (by omega); omega
theorem Ord3.lex (h : Ord3 cf) (k : Ord3 cg) : Ord3 fun x y => if cf x y ≠ 0 then cf x y else cg x y := by
 refine ⟨fun x => ?_, fun x y e => ?_, fun x y e => ?_, fun x y z e1 e2 => ?_⟩
 ·simp only [h.refl, ne_eq, not_true_eq_false, if_false, k.refl]
 ·by_cases e0 : cf x y = 0
  ·rw [if_neg (by simpa using e0)] at e
   rw [if_neg (by simpa using h.eq e0)]
   exact k.lt _ _ e
  ·rw [if_pos e0] at e
   have := h.lt _ _ e
   rw [if_pos (by omega)]
   exact this
 ·by_cases e0 : cf x y = 0
  ·rw [if_neg (by simpa using e0)] at e
   rw [if_neg (by simpa using h.eq e0)]
   exact k.gt _ _ e
  ·rw [if_pos e0] at e
   have := h.gt _ _ e
   rw [if_pos (by omega)]
   exact this
 ·have a1 : cf x y ≤ 0 := by
   by_cases e0 : cf x y = 0
   ·omega
   ·rw [if_pos e0] at e1; exact e1
  have a2 : cf y z ≤ 0 := by
   by_cases e0 : cf y z = 0
   ·omega
   ·rw [if_pos e0] at e2; exact e2
  have a3 := h.le x y z a1 a2
  by_cases e0 : cf x z = 0
  ·rw [if_neg (by simpa using e0)]
   have b0 := h.eq e0
   have b1 : cf x y = 0 := by
    have := h.le y z x a2 (by omega)
    rcases Int.lt_or_le (cf x y) 0 with q | q
    ·have := h.lt _ _ q; omega
    ·omega
   have b2 : cf y z = 0 := by
    have := h.le z x y (by omega) a1
    rcases Int.lt_or_le (cf y z) 0 with q | q
    ·have := h.lt _ _ q; omega
    ·omega
   rw [if_neg (by simpa using b1)] at e1
   rw [if_neg (by simpa using b2)] at e2
   exact k.le x y z e1 e2
  ·rw [if_pos e0]
   exact a3
theorem Ord3.on {β : Type} (h : Ord3 cf) (f : β → α) : Ord3 fun x y => cf (f x) (f y) := ⟨fun _ => h.refl _, fun _ _ => h.lt _ _, fun _ _ => h.gt _ _, fun _ _ _ => h.le _ _ _⟩
end
end Go.D
