import Derived.Test.YtmcciakfjapjeaaExDSortI
import Derived.Test.YtmcciakfjapjeaaExDLayI
import Derived.KernelRfl
set_option linter.unusedVariables false
namespace Go.D
open Go.Proofs
def sortI (a0 : List Int) : Option (List Int) := bif decide (a0.length < 4611686018427387904) then some (a0.mergeSort fun x y => decide (x ≤ y)) else none
def compactI (a0 : List Int) : Option (List Int) := some (Lib.compact a0)
theorem sortI_eq {a0 y : List Int} (h : sortI a0 = some y) : a0.length < 4611686018427387904 ∧ y = a0.mergeSort fun x y => decide (x ≤ y) := by
 unfold sortI at h
 by_cases hl : a0.length < 4611686018427387904
 ·rw [decide_eq_true hl, cond_true] at h
  exact ⟨hl, (Option.some.inj h).symm⟩
 ·rw [decide_eq_false hl, cond_false] at h
  cases h
theorem len_sortI {a0 y : List Int} (h : sortI a0 = some y) : y.length = a0.length := by
 obtain ⟨_, rfl⟩ := sortI_eq h
 exact List.length_mergeSort _
theorem ok_sortI {a0 y : List Int} (h : sortI a0 = some y) : OKs Try.prog 44 [] 1 a0.length (eL a0) [] (.tup []) (eL y) := by
 obtain ⟨hl, rfl⟩ := sortI_eq h
 exact okSortI Try.lays189 rfl ⟨_, Try.func44, by kernel_rfl, rfl⟩ hl
theorem ok_compactI {a0 y : List Int} (h : compactI a0 = some y) : OKm Try.prog 46 [O a0] (O y) := by
 cases h
 exact okCompactI Try.laysNm220 rfl ⟨_, Try.func46, by kernel_rfl, rfl⟩
end Go.D
