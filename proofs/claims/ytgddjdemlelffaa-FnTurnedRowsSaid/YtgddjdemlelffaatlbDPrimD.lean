import Derived.Test.YtgddjdemlelffaatlbDInk
import Derived.Test.YtgddjdemlelffaatlbDXT
import Derived.KernelRfl
set_option linter.unusedVariables false
namespace Go.D
open Go.Proofs
theorem sht42 : ShT Try.prog 42 3 4 0 100 (Enc.sz (T_impl_Tally)) where
 mixed := by kernel_rfl
 t0 := Try.underlying0
 a0 := Try.isAgg0
 z0 := Try.sizeOf0
 v0 := Try.zeroValue0
 t3 := Try.underlying3
 a3 := Try.isAgg3
 z3 := Try.sizeOf3
 v3 := Try.zeroValue3
 t4 := Try.underlying4
 a4 := Try.isAgg4
 z4 := Try.sizeOf4
 v4 := Try.zeroValue4
 t22 := Try.underlying42
 a22 := Try.isAgg42
 z22 := Try.sizeOf42
 v22 := Try.zeroValue42
 z23 := Try.sizeOf100
def delT (a0 : List (T_impl_Tally)) (a1 a2 : Int) : Option (List (T_impl_Tally)) := bif decide (0 ≤ a1) && (decide (a1 ≤ a2) && decide (a2 ≤ a0.length)) then some (a0.take a1.toNat ++ a0.drop a2.toNat) else none
theorem ok_delT {a0 : List (T_impl_Tally)} {a1 a2 : Int} {y : List (T_impl_Tally)} (h : delT a0 a1 a2 = some y) : OKm Try.prog 125 [O a0, I a1, I a2] (O y) := by
 unfold delT at h
 cases hc : (decide (0 ≤ a1) && (decide (a1 ≤ a2) && decide (a2 ≤ a0.length))) with
 | false => rw [hc] at h; cases h
 | true =>
  rw [hc, cond_true] at h
  cases h
  simp only [Bool.and_eq_true, decide_eq_true_eq] at hc
  have h := okDel (α := T_impl_Tally) (xs := a0) (i := a1.toNat) (j := a2.toNat) sht42 (Try.func125.trans (congrArg some (show Try.f125 = delFn Try.f125.name Try.f125.targs Try.f125.tmpNames 42 3 4 0 by kernel_rfl))) ⟨_, Try.func125, by kernel_rfl, rfl⟩ tab_ok100 rfl rfl rfl (by omega) (by omega)
  rw [Int.toNat_of_nonneg hc.1, Int.toNat_of_nonneg (Int.le_trans hc.1 hc.2.1)] at h
  exact h
def insT (a0 : List (T_impl_Tally)) (a1 : Int) (a2 : List (T_impl_Tally)) : Option (List (T_impl_Tally)) := bif decide (0 ≤ a1) && (decide (a1 ≤ a0.length) && (decide (0 < a2.length) && decide (a0.length + a2.length < 68719476736))) then some (a0.take a1.toNat ++ a2 ++ a0.drop a1.toNat) else none
theorem ok_insT {a0 : List (T_impl_Tally)} {a1 : Int} {a2 : List (T_impl_Tally)} {y : List (T_impl_Tally)} (h : insT a0 a1 a2 = some y) : OKm Try.prog 124 [O a0, I a1, O a2] (O y) := by
 unfold insT at h
 cases hc : (decide (0 ≤ a1) && (decide (a1 ≤ a0.length) && (decide (0 < a2.length) && decide (a0.length + a2.length < 68719476736)))) with
 | false => rw [hc] at h; cases h
 | true =>
  rw [hc, cond_true] at h
  cases h
  simp only [Bool.and_eq_true, decide_eq_true_eq] at hc
  have h := okIns (α := T_impl_Tally) (xs := a0) (zs := a2) (i := a1.toNat) sht42 (Try.func124.trans (congrArg some (show Try.f124 = insFn Try.f124.name Try.f124.targs Try.f124.tmpNames 42 3 4 0 161 162 by kernel_rfl)))
   (fun x y w => run_callFunc_extern Try.func161 (by kernel_rfl) (by kernel_rfl) (by kernel_rfl) (e := Extern.SlicesOverlaps.overlaps #[42, 42] #[4]) (by kernel_rfl) #[x, y] w)
   ⟨_, Try.func124, by kernel_rfl, rfl⟩ tab_ok100 rfl rfl rfl (by decide) (by omega) hc.2.2.1 hc.2.2.2
  rw [Int.toNat_of_nonneg hc.1] at h
  exact h
end Go.D
