import Derived.Test.YtgddjdemlelffaadlcDInk
import Derived.Test.YtgddjdemlelffaadlcDXT
import Derived.KernelRfl
set_option linter.unusedVariables false
namespace Go.D
open Go.Proofs
theorem sht23 : ShT Try.prog 23 3 4 0 29 (Enc.sz (List T_impl_Value)) where
 mixed := by kernel_rfl
 t0 := Try.underlying0
 a0 := Try.isAgg0
 z0 := Try.sizeOf0
 v0 := Try.zeroValue0
 t3 := Try.underlying3
 a3 := Try.isAgg3
 z3 := Try.sizeOf3
 v3 := Try.zeroValue3
 t4 := Try.underlying4
 a4 := Try.isAgg4
 z4 := Try.sizeOf4
 v4 := Try.zeroValue4
 t22 := Try.underlying23
 a22 := Try.isAgg23
 z22 := Try.sizeOf23
 v22 := Try.zeroValue23
 z23 := Try.sizeOf29
def delR (a0 : List (List T_impl_Value)) (a1 a2 : Int) : Option (List (List T_impl_Value)) := bif decide (0 ≤ a1) && (decide (a1 ≤ a2) && decide (a2 ≤ a0.length)) then some (a0.take a1.toNat ++ a0.drop a2.toNat) else none
theorem ok_delR {a0 : List (List T_impl_Value)} {a1 a2 : Int} {y : List (List T_impl_Value)} (h : delR a0 a1 a2 = some y) : OKm Try.prog 116 [O a0, I a1, I a2] (O y) := by
 unfold delR at h
 cases hc : (decide (0 ≤ a1) && (decide (a1 ≤ a2) && decide (a2 ≤ a0.length))) with
 | false => rw [hc] at h; cases h
 | true =>
  rw [hc, cond_true] at h
  cases h
  simp only [Bool.and_eq_true, decide_eq_true_eq] at hc
  have h := okDel (α := List T_impl_Value) (xs := a0) (i := a1.toNat) (j := a2.toNat) sht23 (Try.func116.trans (congrArg some (show Try.f116 = delFn Try.f116.name Try.f116.targs Try.f116.tmpNames 23 3 4 0 by kernel_rfl))) ⟨_, Try.func116, by kernel_rfl, rfl⟩ tab_ok29 rfl rfl rfl (by omega) (by omega)
  rw [Int.toNat_of_nonneg hc.1, Int.toNat_of_nonneg (Int.le_trans hc.1 hc.2.1)] at h
  exact h
def insR (a0 : List (List T_impl_Value)) (a1 : Int) (a2 : List (List T_impl_Value)) : Option (List (List T_impl_Value)) := bif decide (0 ≤ a1) && (decide (a1 ≤ a0.length) && (decide (0 < a2.length) && decide (a0.length + a2.length < 68719476736))) then some (a0.take a1.toNat ++ a2 ++ a0.drop a1.toNat) else none
theorem ok_insR {a0 : List (List T_impl_Value)} {a1 : Int} {a2 : List (List T_impl_Value)} {y : List (List T_impl_Value)} (h : insR a0 a1 a2 = some y) : OKm Try.prog 57 [O a0, I a1, O a2] (O y) := by
 unfold insR at h
 cases hc : (decide (0 ≤ a1) && (decide (a1 ≤ a0.length) && (decide (0 < a2.length) && decide (a0.length + a2.length < 68719476736)))) with
 | false => rw [hc] at h; cases h
 | true =>
  rw [hc, cond_true] at h
  cases h
  simp only [Bool.and_eq_true, decide_eq_true_eq] at hc
  have h := okIns (α := List T_impl_Value) (xs := a0) (zs := a2) (i := a1.toNat) sht23 (Try.func57.trans (congrArg some (show Try.f57 = insFn Try.f57.name Try.f57.targs Try.f57.tmpNames 23 3 4 0 117 118 by kernel_rfl)))
   (fun x y w => run_callFunc_extern Try.func117 (by kernel_rfl) (by kernel_rfl) (by kernel_rfl) (e := Extern.SlicesOverlaps.overlaps #[23, 23] #[4]) (by kernel_rfl) #[x, y] w)
   ⟨_, Try.func57, by kernel_rfl, rfl⟩ tab_ok29 rfl rfl rfl (by decide) (by omega) hc.2.2.1 hc.2.2.2
  rw [Int.toNat_of_nonneg hc.1] at h
  exact h
end Go.D
