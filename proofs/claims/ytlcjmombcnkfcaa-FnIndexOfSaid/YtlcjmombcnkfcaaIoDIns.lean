import Derived.Test.YtlcjmombcnkfcaaIoDCmp
set_option linter.unusedVariables false
namespace Go.D
theorem ins_perm {α : Type} (xs : List α) (m : α) (k : Nat) : (xs.take k ++ m :: xs.drop k).Perm (m :: xs) := by
 have := List.perm_middle (a := m) (l₁ := xs.take k) (l₂ := xs.drop k)
 rwa [List.take_append_drop] at this
theorem ins_asc {α : Type} {R : α → α → Prop} (ht : ∀ a b c, R a b → R b c → R a c) {xs : List α} {m : α} {k : Nat} (hk : k ≤ xs.length) (hs : xs.Pairwise R)
  (h1 : ∀ j (hj : j < xs.length), k ≤ j → R m xs[j]) (h2 : ∀ (hj : k - 1 < xs.length), k ≠ 0 → R (xs[k - 1]'hj) m) : (xs.take k ++ m :: xs.drop k).Pairwise R := by
 have hidx := List.pairwise_iff_getElem.1 hs
 rw [List.pairwise_append, List.pairwise_cons]
 refine ⟨hs.sublist (List.take_sublist _ _), ⟨fun y hy => ?_, hs.sublist (List.drop_sublist _ _)⟩, fun x hx y hy => ?_⟩
 ·obtain ⟨j, hj, rfl⟩ := List.getElem_of_mem hy
  rw [List.getElem_drop]
  exact h1 _ _ (Nat.le_add_right _ _)
 ·obtain ⟨i, hi, rfl⟩ := List.getElem_of_mem hx
  have hi' : i < k := by
   rw [List.length_take] at hi
   omega
  rw [List.getElem_take]
  have hxm : R (xs[i]'(by omega)) m := by
   by_cases e : i = k - 1
   ·subst e
    exact h2 (by omega) (by omega)
   ·exact ht _ _ _ (hidx i (k - 1) (by omega) (by omega) (by omega)) (h2 (by omega) (by omega))
  rcases List.mem_cons.1 hy with rfl | hy
  ·exact hxm
  ·obtain ⟨j, hj, rfl⟩ := List.getElem_of_mem hy
   rw [List.getElem_drop]
   exact ht _ _ _ hxm (h1 _ _ (Nat.le_add_right _ _))
theorem asc_of_adj {α : Type} {R : α → α → Prop} (ht : ∀ a b c, R a b → R b c → R a c) {xs : List α} (h : ∀ i (hi : i + 1 < xs.length), R (xs[i]'(by omega)) xs[i + 1]) : xs.Pairwise R := by
 rw [List.pairwise_iff_getElem]
 intro i j hi hj hij
 have key : ∀ d (hd : i + 1 + d < xs.length), R xs[i] (xs[i + 1 + d]'hd) := by
  intro d
  induction d with
  | zero => exact fun hd => h i hd
  | succ d ih => exact fun hd => ht _ _ _ (ih (by omega)) (h (i + 1 + d) hd)
 have := key (j - (i + 1)) (by omega)
 have e : i + 1 + (j - (i + 1)) = j := by omega
 simp only [e] at this
 exact this
end Go.D
