import Derived.Test.YtlcjmombcnkfcaaEtDSortF
import Derived.Test.YtlcjmombcnkfcaaEtDLayM
import Derived.Test.YtlcjmombcnkfcaaEtDXT
import Derived.KernelRfl
set_option linter.unusedVariables false
namespace Go.D
open Go.Proofs Go.Sort
instance : Inhabited T_impl_Mark := ⟨⟨⟨0, 0, ByteArray.mk #[]⟩, 0, 0, 0⟩⟩
open Classical in
noncomputable def sortM (a0 : List T_impl_Mark) (a1 : T_impl_Mark → T_impl_Mark → Option Int) : Option (List T_impl_Mark) :=
 if (∀ x y, a1 x y = some ((a1 x y).getD 0)) ∧ SWO (ltOf fun x y => (a1 x y).getD 0) ∧ a0.length < 4611686018427387904 then some (sortL (fun x y => (a1 x y).getD 0) a0) else none
theorem sortM_eq {a0 y : List T_impl_Mark} {a1 : T_impl_Mark → T_impl_Mark → Option Int} (h : sortM a0 a1 = some y) :
  ((∀ x y, a1 x y = some ((a1 x y).getD 0)) ∧ SWO (ltOf fun x y => (a1 x y).getD 0) ∧ a0.length < 4611686018427387904) ∧ y = sortL (fun x y => (a1 x y).getD 0) a0 := by
 unfold sortM at h
 split at h
 ·next hc => exact ⟨hc, (Option.some.inj h).symm⟩
 ·cases h
theorem sortM_of {a0 : List T_impl_Mark} {a1 : T_impl_Mark → T_impl_Mark → Option Int} {cf : T_impl_Mark → T_impl_Mark → Int} (hF : ∀ x y, a1 x y = some (cf x y)) (hO : SWO (ltOf cf)) (hl : a0.length < 4611686018427387904) : sortM a0 a1 = some (sortL cf a0) := by
 have e : (fun x y => (a1 x y).getD 0) = cf := by
  funext x y
  rw [hF]
  rfl
 unfold sortM
 rw [e, if_pos ⟨fun x y => by rw [hF]; rfl, hO, hl⟩]
theorem sortL_length {α : Type} [Inhabited α] {cf : α → α → Int} (hO : SWO (ltOf cf)) (zs : List α) : (sortL cf zs).length = zs.length := by
 have := pdq_sorts (ltOf cf) hO zs.toArray 0 zs.length (Lib.bitLen zs.length) true true (Nat.zero_le _) (by simp) (Or.inl rfl)
 unfold sortL
 rw [Array.length_toList, this.1.1]
 simp
theorem len_sortM {a0 y : List T_impl_Mark} {a1 : T_impl_Mark → T_impl_Mark → Option Int} (h : sortM a0 a1 = some y) : y.length = a0.length := by
 obtain ⟨⟨_, hO, _⟩, rfl⟩ := sortM_eq h
 exact sortL_length hO _
theorem ok_sortM {a0 : List T_impl_Mark} {g1 : FuncId} {c1 : List V} (hz1 : frzL c1 = true) {a1 : T_impl_Mark → T_impl_Mark → Option Int} (hp1 : ∀ x0 x1 y, a1 x0 x1 = some y → OK Try.prog g1 ([E x0, E x1] ++ c1) (I y)) {y : List T_impl_Mark} (h : sortM a0 a1 = some y) :
  OKs Try.prog 39 [] 6 a0.length (eL a0) [.fn g1 c1] (.tup []) (eL y) := by
 obtain ⟨⟨hF, hO, hl⟩, rfl⟩ := sortM_eq h
 exact okSortF (α := T_impl_Mark) Try.laysSlF06_f39 rfl Try.isAgg70 Try.sizeOf70 rfl ⟨_, Try.func39, by kernel_rfl, rfl⟩ hz1 hp1 hF hO hl
end Go.D
