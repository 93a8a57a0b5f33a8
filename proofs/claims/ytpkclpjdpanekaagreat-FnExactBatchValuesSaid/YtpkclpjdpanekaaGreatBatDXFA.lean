import Derived.Test.YtpkclpjdpanekaaGreatBatDXT
import Derived.KernelRfl
set_option linter.unusedVariables false
set_option linter.unusedSimpArgs false
namespace Go.D
open Go.Proofs
def laws_szColumnS (a0 : List T_laws_Column) (a1 : Int) : Option Int := bif (decide (((w64 (a1 - ((a0.length : Int))))) < 0)) then some (-1) else some ((w64 (a1 - ((a0.length : Int)))))
theorem ok_laws_szColumnS {a0 : List T_laws_Column} {a1 : Int} {y : Int} (h : laws_szColumnS a0 a1 = some y) : OK Tryz.prog 26 [A a0, I a1] (I y) := by
  refine OK_of_pwp τ_ok Tryz.func26 rfl (by kernel_rfl) rfl fun Γ hX => ?_
  unfold laws_szColumnS at h
  refine srve 12 [(0, A a0), (1, I a1)] [] ?_
  refine srve 12 [(1, I ((w64 (a1 - ((a0.length : Int))))))] [] ?_
  refine pwp_seq ?_
  refine srve 12 [(1, I ((w64 (a1 - ((a0.length : Int)))))), (10, B ((decide (((w64 (a1 - ((a0.length : Int))))) < 0))))] [] ?_
  refine pc h (fun h => ?_) (fun h => ?_)
  refine srve 12 [(4, I (-1))] [] ?_
  cases h
  exact pwp_ret rz
  refine pwp_skip ?_
  refine srve 12 [(4, I ((w64 (a1 - ((a0.length : Int))))))] [] ?_
  cases h
  exact pwp_ret rz
def laws_markColumnS_l0 : Nat → Int → Int → (List T_impl_Column) → Option (Int × List T_impl_Column)
  | 0, _, _, _ => none
  | f5 + 1, x2, x3, x4 => bif (decide (x3 < ((x4.length : Int)))) then (getI x4 x3).bind fun v8 => (getI ((x4.set x3.toNat (({ v8 with fKind := x2 } : T_impl_Column)))) x3).bind fun v10 => (laws_markColumnS_l0 f5) ((w64 (((w64 (x2 + 1))) + 1))) ((w64 (x3 + 1))) ((((x4.set x3.toNat (({ v8 with fKind := x2 } : T_impl_Column)))).set x3.toNat (({ v10 with fEmpty := (((((w64 (x2 + 1))).tmod 3)) == 0) } : T_impl_Column)))) else some (x2, x4)
def laws_markColumnS (a0 : List T_impl_Column) (a1 : Int) : Option (Int × List T_impl_Column) := laws_markColumnS_l0 FUEL a1 0 a0
theorem len_laws_markColumnS_l0 : ∀ (f5 : Nat) (x2 : Int) (x3 : Int) (x4 : List T_impl_Column) (y : Int × List T_impl_Column), laws_markColumnS_l0 f5 x2 x3 x4 = some y → y.2.length = x4.length
  | 0, _, _, _, _, h => by cases h
  | f5 + 1, x2, x3, x4, y, h => by
    rw [laws_markColumnS_l0] at h
    rcases condS h with h | h
    · obtain ⟨_, _, h⟩ := bindS h
      obtain ⟨_, _, h⟩ := bindS h
      have h2 := len_laws_markColumnS_l0 f5 _ _ _ _ h
      simp only [List.length_set] at h2
      exact h2
    · cases h; rfl
theorem len_laws_markColumnS {a0 : List T_impl_Column} {a1 : Int} {y : Int × List T_impl_Column} (h : laws_markColumnS a0 a1 = some y) : y.2.length = a0.length := by
  unfold laws_markColumnS at h
  exact len_laws_markColumnS_l0 _ _ _ _ _ h
theorem ok_laws_markColumnS {a0 : List T_impl_Column} {a1 : Int} {y : Int × List T_impl_Column} (h : laws_markColumnS a0 a1 = some y) : OKd Tryz.prog 38 2 a0.length (eL a0) [I a1] (.int .i64 y.1) (eL y.2) := by
  refine OKd_of_pwp τ_ok Tryz.func38 rfl (by kernel_rfl) rfl (O_oc _) (O_oc _) (BlindL.lits (eL_lit DFlat.lit _)) (BlindL.lits (eL_lit DFlat.lit _)) rfl (fun hl => by rw [eL_len, len_laws_markColumnS h, ← eL_len]; exact hl) fun Γ => ?_
  refine pwp_imp (Imp.to (st' := ⟨29, [(0, .ref 0 0 0 2 a0.length false), (1, I a1)], [some ⟨0, eL a0⟩]⟩) [0, 1] (by kernel_rfl)) ?_
  unfold laws_markColumnS at h
  refine srve 29 [(0, .ref 0 0 0 2 a0.length false), (1, I a1)] [some ⟨0, eL a0⟩] ?_
  refine pwp_seq ?_
  refine srve 29 [(0, .ref 0 0 0 2 a0.length false), (1, I a1), (5, I 0)] [some ⟨0, eL a0⟩] ?_
  refine pwp_block ?_
  refine pwp_loop (ι := Nat × Int × Int × (List T_impl_Column)) (fun (f5, x2, x3, x4) => (⟨29, [(0, .ref 0 0 0 2 x4.length false), (1, I x2), (5, I x3)], [some ⟨0, eL x4⟩]⟩ : St)) (fun (f5, x2, x3, x4) => laws_markColumnS_l0 f5 x2 x3 x4 = some y) (fun (f5, x2, x3, x4) => f5) (FUEL, a1, 0, a0) h ((Imp.to (st' := ⟨29, [(0, .ref 0 0 0 2 a0.length false), (1, I a1), (5, I 0)], [some ⟨0, eL a0⟩]⟩) [0, 1, 5] (by kernel_rfl)).trans (Imp.to [0, 1, 5] (by kernel_rfl))) ?_
  rintro ⟨f5, x2, x3, x4⟩ h
  dsimp only at h ⊢
  rcases f5 with _ | f5
  cases h
  rw [laws_markColumnS_l0] at h
  refine pwp_seq ?_
  refine srve 29 [(0, .ref 0 0 0 2 x4.length false), (1, I x2), (5, I x3), (9, B ((decide (x3 < ((x4.length : Int))))))] [some ⟨0, eL x4⟩] ?_
  refine pc h (fun h => ?_) (fun h => ?_)
  refine pwp_skip ?_
  refine pwp_seq ?_
  refine pwp_block ?_
  refine srv 3 29 [(0, .ref 0 0 0 2 x4.length false), (1, I x2), (5, I x3), (12, .ref 0 0 0 2 x4.length false), (13, I x3), (14, I x2)] [some ⟨0, eL x4⟩] ?_
  obtain ⟨v8, hv9, h⟩ := bindS h
  refine opsP_idr τ_ok 15 0 0 x4.length hv9 rfl (by kernel_rfl) ?_
  refine v 1 29 [(0, .ref 0 0 0 2 x4.length false), (1, I x2), (5, I x3), (14, I x2), (16, .ptr 0 0 (x3.toNat * 2))] [some ⟨0, eL x4⟩] ?_
  refine opsP_ste (vs := [I x2]) τ_ok 3 0 0 0 (({ v8 with fKind := x2 } : T_impl_Column)) hv9 (by kernel_rfl) (by kernel_rfl) (by kernel_rfl) (renC (ren_ref (List.length_set ..).symm) (renC trivial (renC trivial (renC trivial (renC trivial renC0))))) ?_
  refine ve 0 29 [(0, .ref 0 0 0 2 ((x4.set x3.toNat (({ v8 with fKind := x2 } : T_impl_Column)))).length false), (1, I x2), (5, I x3)] [some ⟨0, eL ((x4.set x3.toNat (({ v8 with fKind := x2 } : T_impl_Column))))⟩] ?_
  refine srve 29 [(0, .ref 0 0 0 2 ((x4.set x3.toNat (({ v8 with fKind := x2 } : T_impl_Column)))).length false), (1, I ((w64 (x2 + 1)))), (5, I x3)] [some ⟨0, eL ((x4.set x3.toNat (({ v8 with fKind := x2 } : T_impl_Column))))⟩] ?_
  refine srv 5 29 [(0, .ref 0 0 0 2 ((x4.set x3.toNat (({ v8 with fKind := x2 } : T_impl_Column)))).length false), (1, I ((w64 (x2 + 1)))), (5, I x3), (19, .ref 0 0 0 2 ((x4.set x3.toNat (({ v8 with fKind := x2 } : T_impl_Column)))).length false), (20, I x3), (23, B ((((((w64 (x2 + 1))).tmod 3)) == 0)))] [some ⟨0, eL ((x4.set x3.toNat (({ v8 with fKind := x2 } : T_impl_Column))))⟩] ?_
  obtain ⟨v10, hv11, h⟩ := bindS h
  refine opsP_idr τ_ok 24 0 0 ((x4.set x3.toNat (({ v8 with fKind := x2 } : T_impl_Column)))).length hv11 rfl (by kernel_rfl) ?_
  refine v 1 29 [(0, .ref 0 0 0 2 ((x4.set x3.toNat (({ v8 with fKind := x2 } : T_impl_Column)))).length false), (1, I ((w64 (x2 + 1)))), (5, I x3), (23, B ((((((w64 (x2 + 1))).tmod 3)) == 0))), (25, .ptr 0 0 (x3.toNat * 2 + 1))] [some ⟨0, eL ((x4.set x3.toNat (({ v8 with fKind := x2 } : T_impl_Column))))⟩] ?_
  refine opsP_ste (vs := [B ((((((w64 (x2 + 1))).tmod 3)) == 0))]) τ_ok 4 0 0 1 (({ v10 with fEmpty := (((((w64 (x2 + 1))).tmod 3)) == 0) } : T_impl_Column)) hv11 (by kernel_rfl) (by kernel_rfl) (by kernel_rfl) (renC (ren_ref (List.length_set ..).symm) (renC trivial (renC trivial (renC trivial (renC trivial renC0))))) ?_
  refine ve 0 29 [(0, .ref 0 0 0 2 ((((x4.set x3.toNat (({ v8 with fKind := x2 } : T_impl_Column)))).set x3.toNat (({ v10 with fEmpty := (((((w64 (x2 + 1))).tmod 3)) == 0) } : T_impl_Column)))).length false), (1, I ((w64 (x2 + 1)))), (5, I x3)] [some ⟨0, eL ((((x4.set x3.toNat (({ v8 with fKind := x2 } : T_impl_Column)))).set x3.toNat (({ v10 with fEmpty := (((((w64 (x2 + 1))).tmod 3)) == 0) } : T_impl_Column))))⟩] ?_
  refine rve 29 [(0, .ref 0 0 0 2 ((((x4.set x3.toNat (({ v8 with fKind := x2 } : T_impl_Column)))).set x3.toNat (({ v10 with fEmpty := (((((w64 (x2 + 1))).tmod 3)) == 0) } : T_impl_Column)))).length false), (1, I ((w64 (((w64 (x2 + 1))) + 1)))), (5, I x3)] [some ⟨0, eL ((((x4.set x3.toNat (({ v8 with fKind := x2 } : T_impl_Column)))).set x3.toNat (({ v10 with fEmpty := (((((w64 (x2 + 1))).tmod 3)) == 0) } : T_impl_Column))))⟩] ?_
  refine rve 29 [(0, .ref 0 0 0 2 ((((x4.set x3.toNat (({ v8 with fKind := x2 } : T_impl_Column)))).set x3.toNat (({ v10 with fEmpty := (((((w64 (x2 + 1))).tmod 3)) == 0) } : T_impl_Column)))).length false), (1, I ((w64 (((w64 (x2 + 1))) + 1)))), (5, I ((w64 (x3 + 1))))] [some ⟨0, eL ((((x4.set x3.toNat (({ v8 with fKind := x2 } : T_impl_Column)))).set x3.toNat (({ v10 with fEmpty := (((((w64 (x2 + 1))).tmod 3)) == 0) } : T_impl_Column))))⟩] ?_
  exact ⟨(f5, (w64 (((w64 (x2 + 1))) + 1)), (w64 (x3 + 1)), (((x4.set x3.toNat (({ v8 with fKind := x2 } : T_impl_Column)))).set x3.toNat (({ v10 with fEmpty := (((((w64 (x2 + 1))).tmod 3)) == 0) } : T_impl_Column)))), h, Nat.lt_succ_self _, (Imp.to (st' := ⟨29, [(0, .ref 0 0 0 2 ((((x4.set x3.toNat (({ v8 with fKind := x2 } : T_impl_Column)))).set x3.toNat (({ v10 with fEmpty := (((((w64 (x2 + 1))).tmod 3)) == 0) } : T_impl_Column)))).length false), (1, I ((w64 (((w64 (x2 + 1))) + 1)))), (5, I ((w64 (x3 + 1))))], [some ⟨0, eL ((((x4.set x3.toNat (({ v8 with fKind := x2 } : T_impl_Column)))).set x3.toNat (({ v10 with fEmpty := (((((w64 (x2 + 1))).tmod 3)) == 0) } : T_impl_Column))))⟩]⟩) [0, 1, 5] (by kernel_rfl)).trans (Imp.to [0, 1, 5] (by kernel_rfl))⟩
  refine pwp_exit ?_
  refine srve 29 [(4, I x2)] [some ⟨0, eL x4⟩] ?_
  have h := si h
  subst h
  exact pwp_ret ⟨.inr rfl, 0, by kernel_rfl, by kernel_rfl⟩
def laws_szBoolS (a0 : List Bool) (a1 : Int) : Option Int := bif (decide (((w64 (a1 - ((a0.length : Int))))) < 0)) then some (-1) else some ((w64 (a1 - ((a0.length : Int)))))
theorem ok_laws_szBoolS {a0 : List Bool} {a1 : Int} {y : Int} (h : laws_szBoolS a0 a1 = some y) : OK Tryz.prog 70 [A a0, I a1] (I y) := by
  refine OK_of_pwp τ_ok Tryz.func70 rfl (by kernel_rfl) rfl fun Γ hX => ?_
  unfold laws_szBoolS at h
  refine srve 12 [(0, A a0), (1, I a1)] [] ?_
  refine srve 12 [(1, I ((w64 (a1 - ((a0.length : Int))))))] [] ?_
  refine pwp_seq ?_
  refine srve 12 [(1, I ((w64 (a1 - ((a0.length : Int)))))), (10, B ((decide (((w64 (a1 - ((a0.length : Int))))) < 0))))] [] ?_
  refine pc h (fun h => ?_) (fun h => ?_)
  refine srve 12 [(4, I (-1))] [] ?_
  cases h
  exact pwp_ret rz
  refine pwp_skip ?_
  refine srve 12 [(4, I ((w64 (a1 - ((a0.length : Int))))))] [] ?_
  cases h
  exact pwp_ret rz
def laws_toColumn (a0 : T_laws_Column) : Option T_impl_Column := some ({ (({ ((T_impl_Column.mk 0 false)) with fKind := a0.fKind }) : T_impl_Column) with fEmpty := a0.fEmpty })
theorem ok_laws_toColumn {a0 : T_laws_Column} {y : T_impl_Column} (h : laws_toColumn a0 = some y) : OK Tryz.prog 75 [E a0] (E y) := by
  refine OK_of_pwp τ_ok Tryz.func75 rfl (by kernel_rfl) rfl fun Γ hX => ?_
  unfold laws_toColumn at h
  refine srveM [2, 3] 11 [(1, .fptr (Enc.cells a0) 0), (2, .ptr 0 0 0)] [some ⟨0, Enc.cells ((T_impl_Column.mk 0 false))⟩] ?_
  refine srveM [2, 3] 11 [(1, .fptr (Enc.cells a0) 0), (2, .ptr 0 0 0), (3, .ptr 1 0 0)] [some ⟨0, Enc.cells ((T_impl_Column.mk 0 false))⟩, some ⟨0, Enc.cells ((T_impl_Column.mk 0 false))⟩] ?_
  refine srveM [2, 3] 11 [(1, .fptr (Enc.cells a0) 0), (2, .ptr 0 0 0), (3, .ptr 1 0 0)] [some ⟨0, Enc.cells ((T_impl_Column.mk 0 false))⟩, some ⟨0, Enc.cells ({ ((T_impl_Column.mk 0 false)) with fKind := a0.fKind })⟩] ?_
  refine srveM [2, 3] 11 [(2, .ptr 0 0 0), (3, .ptr 1 0 0)] [some ⟨0, Enc.cells ((T_impl_Column.mk 0 false))⟩, some ⟨0, Enc.cells ({ (({ ((T_impl_Column.mk 0 false)) with fKind := a0.fKind }) : T_impl_Column) with fEmpty := a0.fEmpty })⟩] ?_
  refine srveM [2, 3] 11 [(2, .ptr 0 0 0)] [some ⟨0, Enc.cells ({ (({ ((T_impl_Column.mk 0 false)) with fKind := a0.fKind }) : T_impl_Column) with fEmpty := a0.fEmpty })⟩, some ⟨0, Enc.cells ({ (({ ((T_impl_Column.mk 0 false)) with fKind := a0.fKind }) : T_impl_Column) with fEmpty := a0.fEmpty })⟩] ?_
  cases h
  exact pwp_ret rz
def laws_toBoolS_l0 (a0 : List Bool) : Nat → Int → (List Bool) → Option (List Bool)
  | 0, _, _ => none
  | f6 + 1, x4, x5 => bif (decide (x4 < ((a0.length : Int)))) then (getI a0 x4).bind fun v9 => (getI x5 x4).bind fun v11 => (laws_toBoolS_l0 a0 f6) ((w64 (x4 + 1))) ((x5.set x4.toNat v9)) else some x5
def laws_toBoolS (a0 : List Bool) : Option (List Bool) := (mkI ((a0.length : Int)) ((false : Bool))).bind fun v1 => laws_toBoolS_l0 a0 FUEL 0 v1
theorem ok_laws_toBoolS {a0 : List Bool} {y : List Bool} (h : laws_toBoolS a0 = some y) : OK Tryz.prog 76 [A a0] (O y) := by
  refine OK_of_pwp τ_ok Tryz.func76 rfl (by kernel_rfl) rfl fun Γ hX => ?_
  unfold laws_toBoolS at h
  refine srve 22 [(0, A a0)] [] ?_
  refine srv 2 22 [(0, A a0), (6, I ((a0.length : Int)))] [] ?_
  obtain ⟨v1, hv2, h⟩ := bindS h
  refine opsP_mk τ_ok 7 0 _ hv2 (by kernel_rfl) (by kernel_rfl) ?_
  refine ve 1 22 [(0, A a0), (3, .ref 0 0 0 1 v1.length false)] [some ⟨0, eL v1⟩] ?_
  refine pwp_seq ?_
  refine srve 22 [(0, A a0), (3, .ref 0 0 0 1 v1.length false), (4, I 0)] [some ⟨0, eL v1⟩] ?_
  refine pwp_block ?_
  refine pwp_loop (ι := Nat × Int × (List Bool)) (fun (f6, x4, x5) => (⟨22, [(0, A a0), (3, .ref 0 0 0 1 x5.length false), (4, I x4)], [some ⟨0, eL x5⟩]⟩ : St)) (fun (f6, x4, x5) => laws_toBoolS_l0 a0 f6 x4 x5 = some y) (fun (f6, x4, x5) => f6) (FUEL, 0, v1) h ((Imp.to (st' := ⟨22, [(0, A a0), (3, .ref 0 0 0 1 v1.length false), (4, I 0)], [some ⟨0, eL v1⟩]⟩) [0, 3, 4] (by kernel_rfl)).trans (Imp.to [0, 3, 4] (by kernel_rfl))) ?_
  rintro ⟨f6, x4, x5⟩ h
  dsimp only at h ⊢
  rcases f6 with _ | f6
  cases h
  rw [laws_toBoolS_l0] at h
  refine pwp_seq ?_
  refine srve 22 [(0, A a0), (3, .ref 0 0 0 1 x5.length false), (4, I x4), (11, B ((decide (x4 < ((a0.length : Int))))))] [some ⟨0, eL x5⟩] ?_
  refine pc h (fun h => ?_) (fun h => ?_)
  refine pwp_skip ?_
  refine pwp_seq ?_
  refine pwp_block ?_
  refine rv 4 22 [(0, A a0), (3, .ref 0 0 0 1 x5.length false), (4, I x4), (14, .ref 0 0 0 1 x5.length false), (15, I x4), (16, A a0), (17, I x4)] [some ⟨0, eL x5⟩] ?_
  obtain ⟨v9, hv10, h⟩ := bindS h
  refine opsP_idx τ_ok 18 hv10 (by kernel_rfl) ?_
  refine v 1 22 [(0, A a0), (3, .ref 0 0 0 1 x5.length false), (4, I x4), (14, .ref 0 0 0 1 x5.length false), (15, I x4), (19, B v9)] [some ⟨0, eL x5⟩] ?_
  obtain ⟨v11, hv12, h⟩ := bindS h
  refine opsP_idr τ_ok 20 0 0 x5.length hv12 rfl (by kernel_rfl) ?_
  refine v 0 22 [(0, A a0), (3, .ref 0 0 0 1 x5.length false), (4, I x4), (19, B v9), (20, .ptr 0 0 (x4.toNat * 1))] [some ⟨0, eL x5⟩] ?_
  refine opsP_ste (vs := [B v9]) τ_ok 4 0 0 0 v9 hv12 (by kernel_rfl) (by kernel_rfl) (by kernel_rfl) (renC trivial (renC (ren_ref (List.length_set ..).symm) (renC trivial (renC trivial (renC trivial renC0))))) ?_
  refine ve 0 22 [(0, A a0), (3, .ref 0 0 0 1 ((x5.set x4.toNat v9)).length false), (4, I x4)] [some ⟨0, eL ((x5.set x4.toNat v9))⟩] ?_
  refine rve 22 [(0, A a0), (3, .ref 0 0 0 1 ((x5.set x4.toNat v9)).length false), (4, I ((w64 (x4 + 1))))] [some ⟨0, eL ((x5.set x4.toNat v9))⟩] ?_
  exact ⟨(f6, (w64 (x4 + 1)), (x5.set x4.toNat v9)), h, Nat.lt_succ_self _, (Imp.to (st' := ⟨22, [(0, A a0), (3, .ref 0 0 0 1 ((x5.set x4.toNat v9)).length false), (4, I ((w64 (x4 + 1))))], [some ⟨0, eL ((x5.set x4.toNat v9))⟩]⟩) [0, 3, 4] (by kernel_rfl)).trans (Imp.to [0, 3, 4] (by kernel_rfl))⟩
  refine pwp_exit ?_
  refine srve 22 [(2, .ref 0 0 0 1 x5.length false)] [some ⟨0, eL x5⟩] ?_
  have h := si h
  subst h
  exact pwp_ret (rt (.ref 0 0 0 1 x5.length false) (OutP.list (v := 0) (by kernel_rfl)))
def laws_eqValue (a0 : T_impl_Value) (a1 : T_impl_Value) : Option Bool := bif (!(a0.fKind == a1.fKind)) then some false else bif (!(a0.fN == a1.fN)) then some false else bif (!(a0.fS.toList == a1.fS.toList)) then some false else some true
theorem ok_laws_eqValue {a0 : T_impl_Value} {a1 : T_impl_Value} {y : Bool} (h : laws_eqValue a0 a1 = some y) : OK Tryz.prog 81 [E a0, E a1] (B y) := by
  refine OK_of_pwp τ_ok Tryz.func81 rfl (by kernel_rfl) rfl fun Γ hX => ?_
  unfold laws_eqValue at h
  refine srve 20 [(2, .fptr (Enc.cells a0) 0), (3, .fptr (Enc.cells a1) 0)] [] ?_
  refine pwp_seq ?_
  refine srve 20 [(2, .fptr (Enc.cells a0) 0), (3, .fptr (Enc.cells a1) 0), (9, B ((!(a0.fKind == a1.fKind))))] [] ?_
  refine pc h (fun h => ?_) (fun h => ?_)
  refine srve 20 [(4, B false)] [] ?_
  cases h
  exact pwp_ret rz
  refine pwp_skip ?_
  refine pwp_seq ?_
  refine srve 20 [(2, .fptr (Enc.cells a0) 0), (3, .fptr (Enc.cells a1) 0), (14, B ((!(a0.fN == a1.fN))))] [] ?_
  refine pc h (fun h => ?_) (fun h => ?_)
  refine srve 20 [(4, B false)] [] ?_
  cases h
  exact pwp_ret rz
  refine pwp_skip ?_
  refine pwp_seq ?_
  refine srve 20 [(19, B ((!(a0.fS.toList == a1.fS.toList))))] [] ?_
  refine pc h (fun h => ?_) (fun h => ?_)
  refine srve 20 [(4, B false)] [] ?_
  cases h
  exact pwp_ret rz
  refine pwp_skip ?_
  refine srve 20 [(4, B true)] [] ?_
  cases h
  exact pwp_ret rz
def laws_eqColumn (a0 : T_impl_Column) (a1 : T_impl_Column) : Option Bool := bif (!(a0.fKind == a1.fKind)) then some false else bif (!(a0.fEmpty == a1.fEmpty)) then some false else some true
theorem ok_laws_eqColumn {a0 : T_impl_Column} {a1 : T_impl_Column} {y : Bool} (h : laws_eqColumn a0 a1 = some y) : OK Tryz.prog 82 [E a0, E a1] (B y) := by
  refine OK_of_pwp τ_ok Tryz.func82 rfl (by kernel_rfl) rfl fun Γ hX => ?_
  unfold laws_eqColumn at h
  refine srve 15 [(2, .fptr (Enc.cells a0) 0), (3, .fptr (Enc.cells a1) 0)] [] ?_
  refine pwp_seq ?_
  refine srve 15 [(2, .fptr (Enc.cells a0) 0), (3, .fptr (Enc.cells a1) 0), (9, B ((!(a0.fKind == a1.fKind))))] [] ?_
  refine pc h (fun h => ?_) (fun h => ?_)
  refine srve 15 [(4, B false)] [] ?_
  cases h
  exact pwp_ret rz
  refine pwp_skip ?_
  refine pwp_seq ?_
  refine srve 15 [(14, B ((!(a0.fEmpty == a1.fEmpty))))] [] ?_
  refine pc h (fun h => ?_) (fun h => ?_)
  refine srve 15 [(4, B false)] [] ?_
  cases h
  exact pwp_ret rz
  refine pwp_skip ?_
  refine srve 15 [(4, B true)] [] ?_
  cases h
  exact pwp_ret rz
def laws_eqBoolS_l0 (a0 : List Bool) (a1 : List Bool) : Nat → Int → Option Bool
  | 0, _ => none
  | f3 + 1, x2 => bif (decide (x2 < ((a0.length : Int)))) then (getI a0 x2).bind fun v6 => (getI a1 x2).bind fun v8 => bif (!(v6 == v8)) then some false else (laws_eqBoolS_l0 a0 a1 f3) ((w64 (x2 + 1))) else some true
def laws_eqBoolS (a0 : List Bool) (a1 : List Bool) : Option Bool := bif (!(((a0.length : Int)) == ((a1.length : Int)))) then some false else laws_eqBoolS_l0 a0 a1 FUEL 0
theorem ok_laws_eqBoolS {a0 : List Bool} {a1 : List Bool} {y : Bool} (h : laws_eqBoolS a0 a1 = some y) : OK Tryz.prog 83 [A a0, A a1] (B y) := by
  refine OK_of_pwp τ_ok Tryz.func83 rfl (by kernel_rfl) rfl fun Γ hX => ?_
  unfold laws_eqBoolS at h
  refine srve 26 [(0, A a0), (1, A a1)] [] ?_
  refine pwp_seq ?_
  refine srve 26 [(0, A a0), (1, A a1), (10, B ((!(((a0.length : Int)) == ((a1.length : Int))))))] [] ?_
  refine pc h (fun h => ?_) (fun h => ?_)
  refine srve 26 [(4, B false)] [] ?_
  cases h
  exact pwp_ret rz
  refine pwp_skip ?_
  refine pwp_seq ?_
  refine srve 26 [(0, A a0), (1, A a1), (5, I 0)] [] ?_
  refine pwp_block ?_
  refine pwp_loop (ι := Nat × Int) (fun (f3, x2) => (⟨26, [(0, A a0), (1, A a1), (5, I x2)], []⟩ : St)) (fun (f3, x2) => laws_eqBoolS_l0 a0 a1 f3 x2 = some y) (fun (f3, x2) => f3) (FUEL, 0) h ((Imp.to (st' := ⟨26, [(0, A a0), (1, A a1), (5, I 0)], []⟩) [0, 1, 5] (by kernel_rfl)).trans (Imp.to [0, 1, 5] (by kernel_rfl))) ?_
  rintro ⟨f3, x2⟩ h
  dsimp only at h ⊢
  rcases f3 with _ | f3
  cases h
  rw [laws_eqBoolS_l0] at h
  refine pwp_seq ?_
  refine srve 26 [(0, A a0), (1, A a1), (5, I x2), (14, B ((decide (x2 < ((a0.length : Int))))))] [] ?_
  refine pc h (fun h => ?_) (fun h => ?_)
  refine pwp_skip ?_
  refine pwp_seq ?_
  refine pwp_block ?_
  refine pwp_seq ?_
  refine pwp_imp (Imp.to (st' := ⟨26, [(0, A a0), (1, A a1), (5, I x2)], []⟩) [0, 1, 5] (by kernel_rfl)) ?_
  refine pwp_any ([[], [], [], [], [], [], [], [], []]) ([[], [], [], [], [], [], [], [], []]) rfl (by kernel_rfl) ?_
  refine qA_ev (st' := ⟨26, [(18, I x2), (17, A a0), (0, A a0), (1, A a1), (5, I x2)], []⟩) τ_ok [] [] 2 (by exact trivial) (by kernel_rfl) ?_
  obtain ⟨v6, hv7, h⟩ := bindS h
  refine qA_E (dd := some 19) (x := .fptr (Enc.cells v6) 0) ([]) (⟨26, [(19, .fptr (Enc.cells v6) 0), (18, I x2), (17, A a0), (0, A a0), (1, A a1), (5, I x2)], []⟩) (fun Γ' hΓ => CoreE.of_y (idxV_sound τ_ok (by kernel_rfl) hv7)) (by kernel_rfl) (by kernel_rfl) (by exact trivial) (.inr (.inr rfl)) (by kernel_rfl) ?_
  refine qA_ev (st' := ⟨26, [(22, I x2), (21, A a1), (20, B v6), (19, .fptr (Enc.cells v6) 0), (18, I x2), (17, A a0), (0, A a0), (1, A a1), (5, I x2)], []⟩) τ_ok [] [] 3 (by exact trivial) (by kernel_rfl) ?_
  obtain ⟨v8, hv9, h⟩ := bindS h
  refine qA_E (dd := some 23) (x := .fptr (Enc.cells v8) 0) ([]) (⟨26, [(23, .fptr (Enc.cells v8) 0), (22, I x2), (21, A a1), (20, B v6), (19, .fptr (Enc.cells v6) 0), (18, I x2), (17, A a0), (0, A a0), (1, A a1), (5, I x2)], []⟩) (fun Γ' hΓ => CoreE.of_y (idxV_sound τ_ok (by kernel_rfl) hv9)) (by kernel_rfl) (by kernel_rfl) (by exact trivial) (.inr (.inr rfl)) (by kernel_rfl) ?_
  refine qA_ev (st' := ⟨26, [(25, B ((!(v6 == v8)))), (24, B v8), (23, .fptr (Enc.cells v8) 0), (22, I x2), (21, A a1), (20, B v6), (19, .fptr (Enc.cells v6) 0), (18, I x2), (17, A a0), (0, A a0), (1, A a1), (5, I x2)], []⟩) τ_ok [] [] 2 (by exact trivial) (by kernel_rfl) ?_
  refine qA_end ?_
  refine opsP_imp (Imp.to (st' := ⟨26, [(0, A a0), (1, A a1), (5, I x2), (25, B ((!(v6 == v8))))], []⟩) [0, 1, 5, 25] (by kernel_rfl)) ?_
  refine opsP_end rfl ?_
  refine pc h (fun h => ?_) (fun h => ?_)
  refine srve 26 [(4, B false)] [] ?_
  cases h
  exact pwp_ret rz
  refine pwp_skip ?_
  refine rve 26 [(0, A a0), (1, A a1), (5, I ((w64 (x2 + 1))))] [] ?_
  exact ⟨(f3, (w64 (x2 + 1))), h, Nat.lt_succ_self _, (Imp.to (st' := ⟨26, [(0, A a0), (1, A a1), (5, I ((w64 (x2 + 1))))], []⟩) [0, 1, 5] (by kernel_rfl)).trans (Imp.to [0, 1, 5] (by kernel_rfl))⟩
  refine pwp_exit ?_
  refine srve 26 [(4, B true)] [] ?_
  cases h
  exact pwp_ret rz
def laws_eqPart (a0 : T_impl_Part) (a1 : T_impl_Part) : Option Bool := bif (!(a0.fKind == a1.fKind)) then some false else bif (!(a0.fN == a1.fN)) then some false else (laws_eqValue a0.fV a1.fV).bind fun v3 => bif (!v3) then some false else some true
theorem ok_laws_eqPart {a0 : T_impl_Part} {a1 : T_impl_Part} {y : Bool} (h : laws_eqPart a0 a1 = some y) : OK Tryz.prog 84 [E a0, E a1] (B y) := by
  refine OK_of_pwp τ_ok Tryz.func84 rfl (by kernel_rfl) rfl fun Γ hX => ?_
  unfold laws_eqPart at h
  refine srve 21 [(2, .fptr (Enc.cells a0) 0), (3, .fptr (Enc.cells a1) 0)] [] ?_
  refine pwp_seq ?_
  refine srve 21 [(2, .fptr (Enc.cells a0) 0), (3, .fptr (Enc.cells a1) 0), (9, B ((!(a0.fKind == a1.fKind))))] [] ?_
  refine pc h (fun h => ?_) (fun h => ?_)
  refine srve 21 [(4, B false)] [] ?_
  cases h
  exact pwp_ret rz
  refine pwp_skip ?_
  refine pwp_seq ?_
  refine srve 21 [(2, .fptr (Enc.cells a0) 0), (3, .fptr (Enc.cells a1) 0), (14, B ((!(a0.fN == a1.fN))))] [] ?_
  refine pc h (fun h => ?_) (fun h => ?_)
  refine srve 21 [(4, B false)] [] ?_
  cases h
  exact pwp_ret rz
  refine pwp_skip ?_
  refine pwp_seq ?_
  refine srv 4 21 [(16, E a0.fV), (18, E a1.fV)] [] ?_
  obtain ⟨v3, hv4, h⟩ := bindS h
  refine opsP_callF τ 19 (ok_laws_eqValue hv4) (FzTo.frz rfl) rfl (by kernel_rfl) ?_
  refine ve 1 21 [(20, B ((!v3)))] [] ?_
  refine pc h (fun h => ?_) (fun h => ?_)
  refine srve 21 [(4, B false)] [] ?_
  cases h
  exact pwp_ret rz
  refine pwp_skip ?_
  refine srve 21 [(4, B true)] [] ?_
  cases h
  exact pwp_ret rz
def laws_markBoolS_l0 : Nat → Int → Int → (List Bool) → Option (Int × List Bool)
  | 0, _, _, _ => none
  | f5 + 1, x2, x3, x4 => bif (decide (x3 < ((x4.length : Int)))) then (getI x4 x3).bind fun v8 => (laws_markBoolS_l0 f5) ((w64 (x2 + 1))) ((w64 (x3 + 1))) ((x4.set x3.toNat ((((x2.tmod 3)) == 0)))) else some (x2, x4)
def laws_markBoolS (a0 : List Bool) (a1 : Int) : Option (Int × List Bool) := laws_markBoolS_l0 FUEL a1 0 a0
theorem len_laws_markBoolS_l0 : ∀ (f5 : Nat) (x2 : Int) (x3 : Int) (x4 : List Bool) (y : Int × List Bool), laws_markBoolS_l0 f5 x2 x3 x4 = some y → y.2.length = x4.length
  | 0, _, _, _, _, h => by cases h
  | f5 + 1, x2, x3, x4, y, h => by
    rw [laws_markBoolS_l0] at h
    rcases condS h with h | h
    · obtain ⟨_, _, h⟩ := bindS h
      have h2 := len_laws_markBoolS_l0 f5 _ _ _ _ h
      simp only [List.length_set] at h2
      exact h2
    · cases h; rfl
theorem len_laws_markBoolS {a0 : List Bool} {a1 : Int} {y : Int × List Bool} (h : laws_markBoolS a0 a1 = some y) : y.2.length = a0.length := by
  unfold laws_markBoolS at h
  exact len_laws_markBoolS_l0 _ _ _ _ _ h
theorem ok_laws_markBoolS {a0 : List Bool} {a1 : Int} {y : Int × List Bool} (h : laws_markBoolS a0 a1 = some y) : OKd Tryz.prog 85 1 a0.length (eL a0) [I a1] (.int .i64 y.1) (eL y.2) := by
  refine OKd_of_pwp τ_ok Tryz.func85 rfl (by kernel_rfl) rfl (O_oc _) (O_oc _) (BlindL.lits (eL_lit DFlat.lit _)) (BlindL.lits (eL_lit DFlat.lit _)) rfl (fun hl => by rw [eL_len, len_laws_markBoolS h, ← eL_len]; exact hl) fun Γ => ?_
  refine pwp_imp (Imp.to (st' := ⟨21, [(0, .ref 0 0 0 1 a0.length false), (1, I a1)], [some ⟨0, eL a0⟩]⟩) [0, 1] (by kernel_rfl)) ?_
  unfold laws_markBoolS at h
  refine srve 21 [(0, .ref 0 0 0 1 a0.length false), (1, I a1)] [some ⟨0, eL a0⟩] ?_
  refine pwp_seq ?_
  refine srve 21 [(0, .ref 0 0 0 1 a0.length false), (1, I a1), (5, I 0)] [some ⟨0, eL a0⟩] ?_
  refine pwp_block ?_
  refine pwp_loop (ι := Nat × Int × Int × (List Bool)) (fun (f5, x2, x3, x4) => (⟨21, [(0, .ref 0 0 0 1 x4.length false), (1, I x2), (5, I x3)], [some ⟨0, eL x4⟩]⟩ : St)) (fun (f5, x2, x3, x4) => laws_markBoolS_l0 f5 x2 x3 x4 = some y) (fun (f5, x2, x3, x4) => f5) (FUEL, a1, 0, a0) h ((Imp.to (st' := ⟨21, [(0, .ref 0 0 0 1 a0.length false), (1, I a1), (5, I 0)], [some ⟨0, eL a0⟩]⟩) [0, 1, 5] (by kernel_rfl)).trans (Imp.to [0, 1, 5] (by kernel_rfl))) ?_
  rintro ⟨f5, x2, x3, x4⟩ h
  dsimp only at h ⊢
  rcases f5 with _ | f5
  cases h
  rw [laws_markBoolS_l0] at h
  refine pwp_seq ?_
  refine srve 21 [(0, .ref 0 0 0 1 x4.length false), (1, I x2), (5, I x3), (9, B ((decide (x3 < ((x4.length : Int))))))] [some ⟨0, eL x4⟩] ?_
  refine pc h (fun h => ?_) (fun h => ?_)
  refine pwp_skip ?_
  refine pwp_seq ?_
  refine pwp_block ?_
  refine srv 5 21 [(0, .ref 0 0 0 1 x4.length false), (1, I x2), (5, I x3), (12, .ref 0 0 0 1 x4.length false), (13, I x3), (16, B ((((x2.tmod 3)) == 0)))] [some ⟨0, eL x4⟩] ?_
  obtain ⟨v8, hv9, h⟩ := bindS h
  refine opsP_idr τ_ok 17 0 0 x4.length hv9 rfl (by kernel_rfl) ?_
  refine v 0 21 [(0, .ref 0 0 0 1 x4.length false), (1, I x2), (5, I x3), (16, B ((((x2.tmod 3)) == 0))), (17, .ptr 0 0 (x3.toNat * 1))] [some ⟨0, eL x4⟩] ?_
  refine opsP_ste (vs := [B ((((x2.tmod 3)) == 0))]) τ_ok 4 0 0 0 ((((x2.tmod 3)) == 0)) hv9 (by kernel_rfl) (by kernel_rfl) (by kernel_rfl) (renC (ren_ref (List.length_set ..).symm) (renC trivial (renC trivial (renC trivial (renC trivial renC0))))) ?_
  refine ve 0 21 [(0, .ref 0 0 0 1 ((x4.set x3.toNat ((((x2.tmod 3)) == 0)))).length false), (1, I x2), (5, I x3)] [some ⟨0, eL ((x4.set x3.toNat ((((x2.tmod 3)) == 0))))⟩] ?_
  refine rve 21 [(0, .ref 0 0 0 1 ((x4.set x3.toNat ((((x2.tmod 3)) == 0)))).length false), (1, I ((w64 (x2 + 1)))), (5, I x3)] [some ⟨0, eL ((x4.set x3.toNat ((((x2.tmod 3)) == 0))))⟩] ?_
  refine rve 21 [(0, .ref 0 0 0 1 ((x4.set x3.toNat ((((x2.tmod 3)) == 0)))).length false), (1, I ((w64 (x2 + 1)))), (5, I ((w64 (x3 + 1))))] [some ⟨0, eL ((x4.set x3.toNat ((((x2.tmod 3)) == 0))))⟩] ?_
  exact ⟨(f5, (w64 (x2 + 1)), (w64 (x3 + 1)), (x4.set x3.toNat ((((x2.tmod 3)) == 0)))), h, Nat.lt_succ_self _, (Imp.to (st' := ⟨21, [(0, .ref 0 0 0 1 ((x4.set x3.toNat ((((x2.tmod 3)) == 0)))).length false), (1, I ((w64 (x2 + 1)))), (5, I ((w64 (x3 + 1))))], [some ⟨0, eL ((x4.set x3.toNat ((((x2.tmod 3)) == 0))))⟩]⟩) [0, 1, 5] (by kernel_rfl)).trans (Imp.to [0, 1, 5] (by kernel_rfl))⟩
  refine pwp_exit ?_
  refine srve 21 [(4, I x2)] [some ⟨0, eL x4⟩] ?_
  have h := si h
  subst h
  exact pwp_ret ⟨.inr rfl, 0, by kernel_rfl, by kernel_rfl⟩
def laws_markText_l0 : Nat → Int → ByteArray → Option ByteArray
  | 0, _, _ => none
  | f4 + 1, x2, x3 => bif (decide (x2 > 0)) then (addS ((ByteArray.mk (List.toArray (([(u8 ((w64 (48 + ((x2.tmod 10))))))] : List UInt8))))) x3).bind fun v7 => (laws_markText_l0 f4) ((w64 (x2.tdiv 10))) v7 else (addS ((ByteArray.mk #[109])) x3).bind fun v9 => some v9
def laws_markText (a0 : Int) : Option ByteArray := bif (decide (a0 ≤ 0)) then some ((ByteArray.mk #[109, 48])) else laws_markText_l0 FUEL a0 ((ByteArray.mk #[]))
theorem ok_laws_markText {a0 : Int} {y : ByteArray} (h : laws_markText a0 = some y) : OK Tryz.prog 86 [I a0] (S y) := by
  refine OK_of_pwp τ_ok Tryz.func86 rfl (by kernel_rfl) rfl fun Γ hX => ?_
  unfold laws_markText at h
  refine srve 20 [(0, I a0)] [] ?_
  refine pwp_seq ?_
  refine srve 20 [(0, I a0), (5, B ((decide (a0 ≤ 0))))] [] ?_
  refine pc h (fun h => ?_) (fun h => ?_)
  refine srve 20 [(2, S ((ByteArray.mk #[109, 48])))] [] ?_
  cases h
  exact pwp_ret rz
  refine pwp_skip ?_
  refine srve 20 [(0, I a0), (3, S ((ByteArray.mk #[])))] [] ?_
  refine pwp_seq ?_
  refine pwp_block ?_
  refine pwp_loop (ι := Nat × Int × ByteArray) (fun (f4, x2, x3) => (⟨20, [(0, I x2), (3, S x3)], []⟩ : St)) (fun (f4, x2, x3) => laws_markText_l0 f4 x2 x3 = some y) (fun (f4, x2, x3) => f4) (FUEL, a0, (ByteArray.mk #[])) h ((Imp.to (st' := ⟨20, [(0, I a0), (3, S ((ByteArray.mk #[])))], []⟩) [0, 3] (by kernel_rfl)).trans (Imp.to [0, 3] (by kernel_rfl))) ?_
  rintro ⟨f4, x2, x3⟩ h
  dsimp only at h ⊢
  rcases f4 with _ | f4
  cases h
  rw [laws_markText_l0] at h
  refine pwp_seq ?_
  refine srve 20 [(0, I x2), (3, S x3), (7, B ((decide (x2 > 0))))] [] ?_
  refine pc h (fun h => ?_) (fun h => ?_)
  refine pwp_skip ?_
  refine pwp_block ?_
  refine srv 3 20 [(0, I x2), (3, S x3), (10, I ((w64 (48 + ((x2.tmod 10))))))] [] ?_
  refine opsP_cv8 τ_ok 11 ((w64 (48 + ((x2.tmod 10))))) (by kernel_rfl) ?_
  refine v 1 20 [(0, I x2), (3, S x3), (12, .arr 1 (([(u8 ((w64 (48 + ((x2.tmod 10))))))] : List UInt8)).length (eL ([(u8 ((w64 (48 + ((x2.tmod 10))))))] : List UInt8)) true)] [] ?_
  refine opsP_cvs τ_ok 13 (([(u8 ((w64 (48 + ((x2.tmod 10))))))] : List UInt8)) (by kernel_rfl) ?_
  refine v 1 20 [(0, I x2), (13, S ((ByteArray.mk (List.toArray (([(u8 ((w64 (48 + ((x2.tmod 10))))))] : List UInt8)))))), (14, S x3)] [] ?_
  obtain ⟨v7, hv8, h⟩ := bindS h
  refine opsP_ads τ_ok 15 hv8 (by kernel_rfl) ?_
  refine ve 1 20 [(0, I x2), (3, S v7)] [] ?_
  refine rve 20 [(0, I ((w64 (x2.tdiv 10)))), (3, S v7)] [] ?_
  exact ⟨(f4, (w64 (x2.tdiv 10)), v7), h, Nat.lt_succ_self _, (Imp.to (st' := ⟨20, [(0, I ((w64 (x2.tdiv 10)))), (3, S v7)], []⟩) [0, 3] (by kernel_rfl)).trans (Imp.to [0, 3] (by kernel_rfl))⟩
  refine pwp_exit ?_
  refine srv 1 20 [(18, S x3)] [] ?_
  obtain ⟨v9, hv10, h⟩ := bindS h
  refine opsP_ads τ_ok 19 hv10 (by kernel_rfl) ?_
  refine ve 1 20 [(2, S v9)] [] ?_
  cases h
  exact pwp_ret rz
def spec_ValueOf_j0 (a0 : Int) (x1 : Bool) : Option T_impl_Value := bif x1 then some ((T_impl_Value.mk 3 a0 (ByteArray.mk #[]))) else some ((T_impl_Value.mk 0 0 (ByteArray.mk #[])))
def spec_ValueOf (a0 : Int) : Option T_impl_Value := bif (a0 == 0) then spec_ValueOf_j0 a0 true else spec_ValueOf_j0 a0 ((a0 == 1))
theorem ok_spec_ValueOf {a0 : Int} {y : T_impl_Value} (h : spec_ValueOf a0 = some y) : OK Tryz.prog 88 [I a0] (E y) := by
  refine OK_of_pwp τ_ok Tryz.func88 rfl (by kernel_rfl) rfl fun Γ hX => ?_
  unfold spec_ValueOf at h
  refine srveM [2] 12 [(0, I a0), (2, .ptr 0 0 0)] [some ⟨0, Enc.cells ((T_impl_Value.mk 0 0 (ByteArray.mk #[])))⟩] ?_
  refine pwp_seq ?_
  refine pwp_seq ?_
  refine pwp_join (σ := Bool) (fun x1 => (⟨12, [(0, I a0), (2, .ptr 0 0 0), (8, B x1)], [some ⟨0, Enc.cells ((T_impl_Value.mk 0 0 (ByteArray.mk #[])))⟩]⟩ : St)) (fun x1 => spec_ValueOf_j0 a0 x1 = some y) ?_ ?_
  refine rvM [2] 3 12 [(0, I a0), (2, .ptr 0 0 0), (5, B ((a0 == 0)))] [some ⟨0, Enc.cells ((T_impl_Value.mk 0 0 (ByteArray.mk #[])))⟩] ?_
  rcases fk ((a0 == 0)) with hc3 | hc3
  replace h := bT hc3 h
  rw [hc3]
  refine veM [2] 3 12 [(0, I a0), (2, .ptr 0 0 0), (8, B true)] [some ⟨0, Enc.cells ((T_impl_Value.mk 0 0 (ByteArray.mk #[])))⟩] ?_
  exact ⟨true, h, (Imp.to (st' := ⟨12, [(0, I a0), (2, .ptr 0 0 0), (8, B true)], [some ⟨0, Enc.cells ((T_impl_Value.mk 0 0 (ByteArray.mk #[])))⟩]⟩) [0, 2, 8] (by kernel_rfl)).trans (Imp.to [0, 2, 8] (by kernel_rfl))⟩
  replace h := bF hc3 h
  rw [hc3]
  refine veM [2] 3 12 [(0, I a0), (2, .ptr 0 0 0), (8, B ((a0 == 1)))] [some ⟨0, Enc.cells ((T_impl_Value.mk 0 0 (ByteArray.mk #[])))⟩] ?_
  exact ⟨(a0 == 1), h, (Imp.to (st' := ⟨12, [(0, I a0), (2, .ptr 0 0 0), (8, B ((a0 == 1)))], [some ⟨0, Enc.cells ((T_impl_Value.mk 0 0 (ByteArray.mk #[])))⟩]⟩) [0, 2, 8] (by kernel_rfl)).trans (Imp.to [0, 2, 8] (by kernel_rfl))⟩
  rintro x1 h
  unfold spec_ValueOf_j0 at h
  refine pc h (fun h => ?_) (fun h => ?_)
  refine srveM [2] 12 [(2, .ptr 0 0 0)] [some ⟨0, Enc.cells ((T_impl_Value.mk 3 a0 (ByteArray.mk #[])))⟩] ?_
  cases h
  exact pwp_ret rz
  refine pwp_skip ?_
  refine srveM [2] 12 [(2, .ptr 0 0 0)] [some ⟨0, Enc.cells ((T_impl_Value.mk 0 0 (ByteArray.mk #[])))⟩] ?_
  cases h
  exact pwp_ret rz
def laws_szValue (a0 : T_laws_Value) (a1 : Int) : Option Int := bif (decide (((w64 (a1 - ((a0.fS.size : Int))))) < 0)) then some (-1) else some ((w64 (a1 - ((a0.fS.size : Int)))))
theorem ok_laws_szValue {a0 : T_laws_Value} {a1 : Int} {y : Int} (h : laws_szValue a0 a1 = some y) : OK Tryz.prog 103 [E a0, I a1] (I y) := by
  refine OK_of_pwp τ_ok Tryz.func103 rfl (by kernel_rfl) rfl fun Γ hX => ?_
  unfold laws_szValue at h
  refine srve 13 [(1, I a1), (2, .fptr (Enc.cells a0) 0)] [] ?_
  refine srve 13 [(1, I ((w64 (a1 - ((a0.fS.size : Int))))))] [] ?_
  refine pwp_seq ?_
  refine srve 13 [(1, I ((w64 (a1 - ((a0.fS.size : Int)))))), (11, B ((decide (((w64 (a1 - ((a0.fS.size : Int))))) < 0))))] [] ?_
  refine pc h (fun h => ?_) (fun h => ?_)
  refine srve 13 [(4, I (-1))] [] ?_
  cases h
  exact pwp_ret rz
  refine pwp_skip ?_
  refine srve 13 [(4, I ((w64 (a1 - ((a0.fS.size : Int))))))] [] ?_
  cases h
  exact pwp_ret rz
def spec_l1In (a0 : Int) (a1 : Int) (a2 : Int) : Option Bool := bif (decide (a0 ≥ a1)) then some ((decide (a0 ≤ a2))) else some false
theorem ok_spec_l1In {a0 : Int} {a1 : Int} {a2 : Int} {y : Bool} (h : spec_l1In a0 a1 a2 = some y) : OK Tryz.prog 105 [I a0, I a1, I a2] (B y) := by
  refine OK_of_pwp τ_ok Tryz.func105 rfl (by kernel_rfl) rfl fun Γ hX => ?_
  unfold spec_l1In at h
  refine srve 15 [(0, I a0), (1, I a1), (2, I a2)] [] ?_
  refine srv 4 15 [(0, I a0), (2, I a2), (10, B ((decide (a0 ≥ a1))))] [] ?_
  rcases fk ((decide (a0 ≥ a1))) with hc1 | hc1
  replace h := bT hc1 h
  rw [hc1]
  refine ve 5 15 [(6, B ((decide (a0 ≤ a2))))] [] ?_
  cases h
  exact pwp_ret rz
  replace h := bF hc1 h
  rw [hc1]
  refine ve 5 15 [(6, B false)] [] ?_
  cases h
  exact pwp_ret rz
def laws_toValue (a0 : T_laws_Value) : Option T_impl_Value := some ({ (({ (({ ((T_impl_Value.mk 0 0 (ByteArray.mk #[]))) with fKind := a0.fKind }) : T_impl_Value) with fN := a0.fN }) : T_impl_Value) with fS := a0.fS })
theorem ok_laws_toValue {a0 : T_laws_Value} {y : T_impl_Value} (h : laws_toValue a0 = some y) : OK Tryz.prog 110 [E a0] (E y) := by
  refine OK_of_pwp τ_ok Tryz.func110 rfl (by kernel_rfl) rfl fun Γ hX => ?_
  unfold laws_toValue at h
  refine srveM [2, 3] 14 [(1, .fptr (Enc.cells a0) 0), (2, .ptr 0 0 0)] [some ⟨0, Enc.cells ((T_impl_Value.mk 0 0 (ByteArray.mk #[])))⟩] ?_
  refine srveM [2, 3] 14 [(1, .fptr (Enc.cells a0) 0), (2, .ptr 0 0 0), (3, .ptr 1 0 0)] [some ⟨0, Enc.cells ((T_impl_Value.mk 0 0 (ByteArray.mk #[])))⟩, some ⟨0, Enc.cells ((T_impl_Value.mk 0 0 (ByteArray.mk #[])))⟩] ?_
  refine srveM [2, 3] 14 [(1, .fptr (Enc.cells a0) 0), (2, .ptr 0 0 0), (3, .ptr 1 0 0)] [some ⟨0, Enc.cells ((T_impl_Value.mk 0 0 (ByteArray.mk #[])))⟩, some ⟨0, Enc.cells ({ ((T_impl_Value.mk 0 0 (ByteArray.mk #[]))) with fKind := a0.fKind })⟩] ?_
  refine srveM [2, 3] 14 [(1, .fptr (Enc.cells a0) 0), (2, .ptr 0 0 0), (3, .ptr 1 0 0)] [some ⟨0, Enc.cells ((T_impl_Value.mk 0 0 (ByteArray.mk #[])))⟩, some ⟨0, Enc.cells ({ (({ ((T_impl_Value.mk 0 0 (ByteArray.mk #[]))) with fKind := a0.fKind }) : T_impl_Value) with fN := a0.fN })⟩] ?_
  refine srveM [2, 3] 14 [(2, .ptr 0 0 0), (3, .ptr 1 0 0)] [some ⟨0, Enc.cells ((T_impl_Value.mk 0 0 (ByteArray.mk #[])))⟩, some ⟨0, Enc.cells ({ (({ (({ ((T_impl_Value.mk 0 0 (ByteArray.mk #[]))) with fKind := a0.fKind }) : T_impl_Value) with fN := a0.fN }) : T_impl_Value) with fS := a0.fS })⟩] ?_
  refine srveM [2, 3] 14 [(2, .ptr 0 0 0)] [some ⟨0, Enc.cells ({ (({ (({ ((T_impl_Value.mk 0 0 (ByteArray.mk #[]))) with fKind := a0.fKind }) : T_impl_Value) with fN := a0.fN }) : T_impl_Value) with fS := a0.fS })⟩, some ⟨0, Enc.cells ({ (({ (({ ((T_impl_Value.mk 0 0 (ByteArray.mk #[]))) with fKind := a0.fKind }) : T_impl_Value) with fN := a0.fN }) : T_impl_Value) with fS := a0.fS })⟩] ?_
  cases h
  exact pwp_ret rz
def impl_between (a0 : Int) (a1 : Int) (a2 : Int) : Option Bool := bif (decide (a0 ≥ a1)) then some ((decide (a0 ≤ a2))) else some false
theorem ok_impl_between {a0 : Int} {a1 : Int} {a2 : Int} {y : Bool} (h : impl_between a0 a1 a2 = some y) : OK Tryz.prog 115 [I a0, I a1, I a2] (B y) := by
  refine OK_of_pwp τ_ok Tryz.func115 rfl (by kernel_rfl) rfl fun Γ hX => ?_
  unfold impl_between at h
  refine srve 15 [(0, I a0), (1, I a1), (2, I a2)] [] ?_
  refine srv 4 15 [(0, I a0), (2, I a2), (10, B ((decide (a0 ≥ a1))))] [] ?_
  rcases fk ((decide (a0 ≥ a1))) with hc1 | hc1
  replace h := bT hc1 h
  rw [hc1]
  refine ve 5 15 [(6, B ((decide (a0 ≤ a2))))] [] ?_
  cases h
  exact pwp_ret rz
  replace h := bF hc1 h
  rw [hc1]
  refine ve 5 15 [(6, B false)] [] ?_
  cases h
  exact pwp_ret rz
def spec_ColumnsOk_l0 (a0 : List T_impl_Column) : Nat → Int → Option Bool
  | 0, _ => none
  | f2 + 1, x1 => bif (decide (x1 < ((a0.length : Int)))) then (getI a0 x1).bind fun v5 => (spec_l1In v5.fKind 1 3).bind fun v7 => bif (!v7) then some false else (spec_ColumnsOk_l0 a0 f2) ((w64 (x1 + 1))) else some ((decide (((a0.length : Int)) ≤ 4)))
def spec_ColumnsOk (a0 : List T_impl_Column) : Option Bool := spec_ColumnsOk_l0 a0 FUEL 0
theorem ok_spec_ColumnsOk {a0 : List T_impl_Column} {y : Bool} (h : spec_ColumnsOk a0 = some y) : OK Tryz.prog 119 [A a0] (B y) := by
  refine OK_of_pwp τ_ok Tryz.func119 rfl (by kernel_rfl) rfl fun Γ hX => ?_
  unfold spec_ColumnsOk at h
  refine srve 20 [(0, A a0)] [] ?_
  refine pwp_seq ?_
  refine srve 20 [(0, A a0), (3, I 0)] [] ?_
  refine pwp_block ?_
  refine pwp_loop (ι := Nat × Int) (fun (f2, x1) => (⟨20, [(0, A a0), (3, I x1)], []⟩ : St)) (fun (f2, x1) => spec_ColumnsOk_l0 a0 f2 x1 = some y) (fun (f2, x1) => f2) (FUEL, 0) h ((Imp.to (st' := ⟨20, [(0, A a0), (3, I 0)], []⟩) [0, 3] (by kernel_rfl)).trans (Imp.to [0, 3] (by kernel_rfl))) ?_
  rintro ⟨f2, x1⟩ h
  dsimp only at h ⊢
  rcases f2 with _ | f2
  cases h
  rw [spec_ColumnsOk_l0] at h
  refine pwp_seq ?_
  refine srve 20 [(0, A a0), (3, I x1), (7, B ((decide (x1 < ((a0.length : Int))))))] [] ?_
  refine pc h (fun h => ?_) (fun h => ?_)
  refine pwp_skip ?_
  refine pwp_seq ?_
  refine pwp_block ?_
  refine srv 2 20 [(0, A a0), (3, I x1), (10, A a0), (11, I x1)] [] ?_
  obtain ⟨v5, hv6, h⟩ := bindS h
  refine opsP_idx τ_ok 12 hv6 (by kernel_rfl) ?_
  refine v 2 20 [(0, A a0), (3, I x1), (14, I v5.fKind)] [] ?_
  obtain ⟨v7, hv8, h⟩ := bindS h
  refine opsP_callF τ 15 (ok_spec_l1In hv8) (FzTo.frz rfl) rfl (by kernel_rfl) ?_
  refine ve 1 20 [(0, A a0), (3, I x1), (16, B ((!v7)))] [] ?_
  refine pc h (fun h => ?_) (fun h => ?_)
  refine srve 20 [(2, B false)] [] ?_
  cases h
  exact pwp_ret rz
  refine pwp_skip ?_
  refine rve 20 [(0, A a0), (3, I ((w64 (x1 + 1))))] [] ?_
  exact ⟨(f2, (w64 (x1 + 1))), h, Nat.lt_succ_self _, (Imp.to (st' := ⟨20, [(0, A a0), (3, I ((w64 (x1 + 1))))], []⟩) [0, 3] (by kernel_rfl)).trans (Imp.to [0, 3] (by kernel_rfl))⟩
  refine pwp_exit ?_
  refine srve 20 [(2, B ((decide (((a0.length : Int)) ≤ 4))))] [] ?_
  cases h
  exact pwp_ret rz
def spec_l9Row_l0 (a0 : T_impl_Batch) (a1 : Int) : Nat → Int → (List T_impl_Value) → Option (List T_impl_Value)
  | 0, _, _ => none
  | f4 + 1, x2, x3 => bif (decide (x2 < ((a0.fColumns.length : Int)))) then (getI a0.fColumns x2).bind fun v7 => (getI v7 a1).bind fun v9 => (app x3 (([v9] : List T_impl_Value))).bind fun v11 => (spec_l9Row_l0 a0 a1 f4) ((w64 (x2 + 1))) v11 else some x3
def spec_l9Row (a0 : T_impl_Batch) (a1 : Int) : Option (List T_impl_Value) := spec_l9Row_l0 a0 a1 FUEL 0 (([] : List T_impl_Value))
theorem ok_spec_l9Row {a0 : T_impl_Batch} {a1 : Int} {y : List T_impl_Value} (h : spec_l9Row a0 a1 = some y) : OK Tryz.prog 122 [E a0, I a1] (O y) := by
  refine OK_of_pwp τ_ok Tryz.func122 rfl (by kernel_rfl) rfl fun Γ hX => ?_
  unfold spec_l9Row at h
  refine srve 27 [(1, I a1), (2, .fptr (Enc.cells a0) 0)] [] ?_
  refine srve 27 [(1, I a1), (2, .fptr (Enc.cells a0) 0), (5, .arr 3 0 (eL ([] : List T_impl_Value)) true)] [] ?_
  refine pwp_seq ?_
  refine srve 27 [(1, I a1), (2, .fptr (Enc.cells a0) 0), (5, .arr 3 0 (eL ([] : List T_impl_Value)) true), (6, I 0)] [] ?_
  refine pwp_block ?_
  refine pwp_loop (ι := Nat × Int × (List T_impl_Value)) (fun (f4, x2, x3) => (⟨27, [(1, I a1), (2, .fptr (Enc.cells a0) 0), (5, .ref 0 0 0 3 x3.length false), (6, I x2)], [some ⟨0, eL x3⟩]⟩ : St)) (fun (f4, x2, x3) => spec_l9Row_l0 a0 a1 f4 x2 x3 = some y) (fun (f4, x2, x3) => f4) (FUEL, 0, ([] : List T_impl_Value)) h ((Imp.to (st' := ⟨27, [(1, I a1), (2, .fptr (Enc.cells a0) 0), (5, .arr 3 0 (eL ([] : List T_impl_Value)) true), (6, I 0)], []⟩) [1, 2, 5, 6] (by kernel_rfl)).trans ((Imp.thawS (st' := ⟨27, [(1, I a1), (2, .fptr (Enc.cells a0) 0), (5, .ref 0 0 0 3 (([] : List T_impl_Value)).length false), (6, I 0)], [some ⟨0, eL (([] : List T_impl_Value))⟩]⟩) 5 [1, 2, 5, 6] (by kernel_rfl)).trans (Imp.to [1, 2, 5, 6] (by kernel_rfl)))) ?_
  rintro ⟨f4, x2, x3⟩ h
  dsimp only at h ⊢
  rcases f4 with _ | f4
  cases h
  rw [spec_l9Row_l0] at h
  refine pwp_seq ?_
  refine srve 27 [(1, I a1), (2, .fptr (Enc.cells a0) 0), (5, .ref 0 0 0 3 x3.length false), (6, I x2), (12, B ((decide (x2 < ((a0.fColumns.length : Int))))))] [some ⟨0, eL x3⟩] ?_
  refine pc h (fun h => ?_) (fun h => ?_)
  refine pwp_skip ?_
  refine pwp_seq ?_
  refine pwp_block ?_
  refine rv 4 27 [(1, I a1), (2, .fptr (Enc.cells a0) 0), (6, I x2), (15, .ref 0 0 0 3 x3.length false), (17, A a0.fColumns), (18, I x2)] [some ⟨0, eL x3⟩] ?_
  obtain ⟨v7, hv8, h⟩ := bindS h
  refine opsP_idx τ_ok 19 hv8 (by kernel_rfl) ?_
  refine v 2 27 [(1, I a1), (2, .fptr (Enc.cells a0) 0), (6, I x2), (15, .ref 0 0 0 3 x3.length false), (20, A v7), (21, I a1)] [some ⟨0, eL x3⟩] ?_
  obtain ⟨v9, hv10, h⟩ := bindS h
  refine opsP_idx τ_ok 22 hv10 (by kernel_rfl) ?_
  refine v 2 27 [(1, I a1), (2, .fptr (Enc.cells a0) 0), (6, I x2), (15, .ref 0 0 0 3 x3.length false), (24, .arr 3 (([v9] : List T_impl_Value)).length (eL ([v9] : List T_impl_Value)) true)] [some ⟨0, eL x3⟩] ?_
  obtain ⟨v11, hv12, h⟩ := bindS h
  refine opsP_app τ_ok 25 0 0 (fun b hb => absurd hb (hX b)) hv12 (by kernel_rfl) ?_
  refine ve 1 27 [(1, I a1), (2, .fptr (Enc.cells a0) 0), (5, .ref 0 1 0 3 v11.length false), (6, I x2)] [some ⟨1, eL v11⟩] ?_
  refine rve 27 [(1, I a1), (2, .fptr (Enc.cells a0) 0), (5, .ref 0 1 0 3 v11.length false), (6, I ((w64 (x2 + 1))))] [some ⟨1, eL v11⟩] ?_
  exact ⟨(f4, (w64 (x2 + 1)), v11), h, Nat.lt_succ_self _, (Imp.to (st' := ⟨27, [(1, I a1), (2, .fptr (Enc.cells a0) 0), (5, .ref 0 1 0 3 v11.length false), (6, I ((w64 (x2 + 1))))], [some ⟨1, eL v11⟩]⟩) [1, 2, 5, 6] (by kernel_rfl)).trans ((Imp.reverS (st' := ⟨27, [(1, I a1), (2, .fptr (Enc.cells a0) 0), (5, .ref 0 0 0 3 v11.length false), (6, I ((w64 (x2 + 1))))], [some ⟨0, eL v11⟩]⟩) 0 1 (eL v11) [1, 2, 5, 6] (by kernel_rfl) (by exact (And.intro (eL_frz _) trivial)) (by kernel_rfl)).trans (Imp.to [1, 2, 5, 6] (by kernel_rfl)))⟩
  refine pwp_exit ?_
  refine srve 27 [(4, .ref 0 0 0 3 x3.length false)] [some ⟨0, eL x3⟩] ?_
  have h := si h
  subst h
  exact pwp_ret (rt (.ref 0 0 0 3 x3.length false) (OutP.list (v := 0) (by kernel_rfl)))
def impl_Part_takes_j1 (x3 : Bool) : Option Int := bif x3 then some 1 else some 0
def impl_Part_takes_j0 (a0 : T_impl_Part) (x1 : Bool) : Option Int := bif x1 then some 2 else bif (a0.fKind == 7) then impl_Part_takes_j1 ((a0.fKind == 7)) else impl_Part_takes_j1 ((a0.fKind == 8))
def impl_Part_takes (a0 : T_impl_Part) : Option Int := bif (a0.fKind == 3) then impl_Part_takes_j0 a0 ((a0.fKind == 3)) else bif (a0.fKind == 4) then impl_Part_takes_j0 a0 ((a0.fKind == 4)) else bif (a0.fKind == 5) then impl_Part_takes_j0 a0 ((a0.fKind == 5)) else impl_Part_takes_j0 a0 ((a0.fKind == 6))
theorem ok_impl_Part_takes {a0 : T_impl_Part} {y : Int} (h : impl_Part_takes a0 = some y) : OK Tryz.prog 125 [E a0] (I y) := by
  refine OK_of_pwp τ_ok Tryz.func125 rfl (by kernel_rfl) rfl fun Γ hX => ?_
  unfold impl_Part_takes at h
  refine srve 13 [(1, .fptr (Enc.cells a0) 0)] [] ?_
  refine pwp_seq ?_
  refine srve 13 [(4, I a0.fKind)] [] ?_
  refine pwp_block ?_
  refine pwp_seq ?_
  refine pwp_join (σ := Bool) (fun x1 => (⟨13, [(4, I a0.fKind), (5, B x1)], []⟩ : St)) (fun x1 => impl_Part_takes_j0 a0 x1 = some y) ?_ ?_
  refine srve 13 [(4, I a0.fKind), (5, B ((a0.fKind == 3)))] [] ?_
  refine pc h (fun h => ?_) (fun h => ?_)
  refine pwp_skip ?_
  exact ⟨(a0.fKind == 3), h, (Imp.to (st' := ⟨13, [(4, I a0.fKind), (5, B ((a0.fKind == 3)))], []⟩) [4, 5] (by kernel_rfl)).trans (Imp.to [4, 5] (by kernel_rfl))⟩
  refine srve 13 [(4, I a0.fKind), (5, B ((a0.fKind == 4)))] [] ?_
  refine pc h (fun h => ?_) (fun h => ?_)
  refine pwp_skip ?_
  exact ⟨(a0.fKind == 4), h, (Imp.to (st' := ⟨13, [(4, I a0.fKind), (5, B ((a0.fKind == 4)))], []⟩) [4, 5] (by kernel_rfl)).trans (Imp.to [4, 5] (by kernel_rfl))⟩
  refine srve 13 [(4, I a0.fKind), (5, B ((a0.fKind == 5)))] [] ?_
  refine pc h (fun h => ?_) (fun h => ?_)
  refine pwp_skip ?_
  exact ⟨(a0.fKind == 5), h, (Imp.to (st' := ⟨13, [(4, I a0.fKind), (5, B ((a0.fKind == 5)))], []⟩) [4, 5] (by kernel_rfl)).trans (Imp.to [4, 5] (by kernel_rfl))⟩
  refine rve 13 [(4, I a0.fKind), (5, B ((a0.fKind == 6)))] [] ?_
  exact ⟨(a0.fKind == 6), h, (Imp.to (st' := ⟨13, [(4, I a0.fKind), (5, B ((a0.fKind == 6)))], []⟩) [4, 5] (by kernel_rfl)).trans (Imp.to [4, 5] (by kernel_rfl))⟩
  rintro x1 h
  unfold impl_Part_takes_j0 at h
  refine pc h (fun h => ?_) (fun h => ?_)
  refine srve 13 [(2, I 2)] [] ?_
  cases h
  exact pwp_ret rz
  refine pwp_seq ?_
  refine pwp_join (σ := Bool) (fun x3 => (⟨13, [(10, B x3)], []⟩ : St)) (fun x3 => impl_Part_takes_j1 x3 = some y) ?_ ?_
  refine srve 13 [(4, I a0.fKind), (10, B ((a0.fKind == 7)))] [] ?_
  refine pc h (fun h => ?_) (fun h => ?_)
  refine pwp_skip ?_
  exact ⟨(a0.fKind == 7), h, (Imp.to (st' := ⟨13, [(10, B ((a0.fKind == 7)))], []⟩) [10] (by kernel_rfl)).trans (Imp.to [10] (by kernel_rfl))⟩
  refine rve 13 [(10, B ((a0.fKind == 8)))] [] ?_
  exact ⟨(a0.fKind == 8), h, (Imp.to (st' := ⟨13, [(10, B ((a0.fKind == 8)))], []⟩) [10] (by kernel_rfl)).trans (Imp.to [10] (by kernel_rfl))⟩
  rintro x3 h
  unfold impl_Part_takes_j1 at h
  refine pc h (fun h => ?_) (fun h => ?_)
  refine srve 13 [(2, I 1)] [] ?_
  cases h
  exact pwp_ret rz
  refine pwp_skip ?_
  refine srve 13 [(2, I 0)] [] ?_
  cases h
  exact pwp_ret rz
def impl_Batch_row_l0 (a0 : T_impl_Batch) (a1 : Int) : Nat → Int → (List T_impl_Value) → Option (List T_impl_Value)
  | 0, _, _ => none
  | f4 + 1, x2, x3 => bif (decide (x2 < ((a0.fColumns.length : Int)))) then (getI a0.fColumns x2).bind fun v7 => (getI v7 a1).bind fun v9 => (app x3 (([v9] : List T_impl_Value))).bind fun v11 => (impl_Batch_row_l0 a0 a1 f4) ((w64 (x2 + 1))) v11 else some x3
def impl_Batch_row (a0 : T_impl_Batch) (a1 : Int) : Option (List T_impl_Value) := impl_Batch_row_l0 a0 a1 FUEL 0 (([] : List T_impl_Value))
theorem ok_impl_Batch_row {a0 : T_impl_Batch} {a1 : Int} {y : List T_impl_Value} (h : impl_Batch_row a0 a1 = some y) : OK Tryz.prog 129 [E a0, I a1] (O y) := by
  refine OK_of_pwp τ_ok Tryz.func129 rfl (by kernel_rfl) rfl fun Γ hX => ?_
  unfold impl_Batch_row at h
  refine srve 24 [(1, I a1), (2, .fptr (Enc.cells a0) 0)] [] ?_
  refine srve 24 [(1, I a1), (2, .fptr (Enc.cells a0) 0), (5, .arr 3 0 (eL ([] : List T_impl_Value)) true)] [] ?_
  refine pwp_seq ?_
  refine srve 24 [(1, I a1), (5, .arr 3 0 (eL ([] : List T_impl_Value)) true), (9, A a0.fColumns), (10, I ((a0.fColumns.length : Int))), (11, I 0)] [] ?_
  refine pwp_block ?_
  refine pwp_loop (ι := Nat × Int × (List T_impl_Value)) (fun (f4, x2, x3) => (⟨24, [(1, I a1), (5, .ref 0 0 0 3 x3.length false), (9, A a0.fColumns), (10, I ((a0.fColumns.length : Int))), (11, I x2)], [some ⟨0, eL x3⟩]⟩ : St)) (fun (f4, x2, x3) => impl_Batch_row_l0 a0 a1 f4 x2 x3 = some y) (fun (f4, x2, x3) => f4) (FUEL, 0, ([] : List T_impl_Value)) h ((Imp.to (st' := ⟨24, [(1, I a1), (5, .arr 3 0 (eL ([] : List T_impl_Value)) true), (9, A a0.fColumns), (10, I ((a0.fColumns.length : Int))), (11, I 0)], []⟩) [1, 5, 9, 10, 11] (by kernel_rfl)).trans ((Imp.thawS (st' := ⟨24, [(1, I a1), (5, .ref 0 0 0 3 (([] : List T_impl_Value)).length false), (9, A a0.fColumns), (10, I ((a0.fColumns.length : Int))), (11, I 0)], [some ⟨0, eL (([] : List T_impl_Value))⟩]⟩) 5 [1, 5, 9, 10, 11] (by kernel_rfl)).trans (Imp.to [1, 5, 9, 10, 11] (by kernel_rfl)))) ?_
  rintro ⟨f4, x2, x3⟩ h
  dsimp only at h ⊢
  rcases f4 with _ | f4
  cases h
  rw [impl_Batch_row_l0] at h
  refine srve 24 [(1, I a1), (5, .ref 0 0 0 3 x3.length false), (9, A a0.fColumns), (10, I ((a0.fColumns.length : Int))), (11, I x2), (12, B ((decide (x2 < ((a0.fColumns.length : Int))))))] [some ⟨0, eL x3⟩] ?_
  refine pwp_seq ?_
  refine pc h (fun h => ?_) (fun h => ?_)
  refine pwp_skip ?_
  refine pwp_seq ?_
  refine pwp_block ?_
  refine pwp_seq ?_
  refine pwp_region ?_
  obtain ⟨v7, hv8, h⟩ := bindS h
  refine opsP_idx τ_ok 13 hv8 (by kernel_rfl) ?_
  refine ve 2 24 [(1, I a1), (5, .ref 0 0 0 3 x3.length false), (7, A v7), (9, A a0.fColumns), (10, I ((a0.fColumns.length : Int))), (11, I x2)] [some ⟨0, eL x3⟩] ?_
  refine rv 3 24 [(1, I a1), (9, A a0.fColumns), (10, I ((a0.fColumns.length : Int))), (11, I x2), (15, .ref 0 0 0 3 x3.length false), (16, A v7), (17, I a1)] [some ⟨0, eL x3⟩] ?_
  obtain ⟨v9, hv10, h⟩ := bindS h
  refine opsP_idx τ_ok 18 hv10 (by kernel_rfl) ?_
  refine v 2 24 [(1, I a1), (9, A a0.fColumns), (10, I ((a0.fColumns.length : Int))), (11, I x2), (15, .ref 0 0 0 3 x3.length false), (20, .arr 3 (([v9] : List T_impl_Value)).length (eL ([v9] : List T_impl_Value)) true)] [some ⟨0, eL x3⟩] ?_
  obtain ⟨v11, hv12, h⟩ := bindS h
  refine opsP_app τ_ok 21 0 0 (fun b hb => absurd hb (hX b)) hv12 (by kernel_rfl) ?_
  refine ve 1 24 [(1, I a1), (5, .ref 0 1 0 3 v11.length false), (9, A a0.fColumns), (10, I ((a0.fColumns.length : Int))), (11, I x2)] [some ⟨1, eL v11⟩] ?_
  refine rve 24 [(1, I a1), (5, .ref 0 1 0 3 v11.length false), (9, A a0.fColumns), (10, I ((a0.fColumns.length : Int))), (11, I ((w64 (x2 + 1))))] [some ⟨1, eL v11⟩] ?_
  exact ⟨(f4, (w64 (x2 + 1)), v11), h, Nat.lt_succ_self _, (Imp.to (st' := ⟨24, [(1, I a1), (5, .ref 0 1 0 3 v11.length false), (9, A a0.fColumns), (10, I ((a0.fColumns.length : Int))), (11, I ((w64 (x2 + 1))))], [some ⟨1, eL v11⟩]⟩) [1, 5, 9, 10, 11] (by kernel_rfl)).trans ((Imp.reverS (st' := ⟨24, [(1, I a1), (5, .ref 0 0 0 3 v11.length false), (9, A a0.fColumns), (10, I ((a0.fColumns.length : Int))), (11, I ((w64 (x2 + 1))))], [some ⟨0, eL v11⟩]⟩) 0 1 (eL v11) [1, 5, 9, 10, 11] (by kernel_rfl) (by exact (And.intro (eL_frz _) trivial)) (by kernel_rfl)).trans (Imp.to [1, 5, 9, 10, 11] (by kernel_rfl)))⟩
  refine pwp_exit ?_
  refine srve 24 [(4, .ref 0 0 0 3 x3.length false)] [some ⟨0, eL x3⟩] ?_
  have h := si h
  subst h
  exact pwp_ret (rt (.ref 0 0 0 3 x3.length false) (OutP.list (v := 0) (by kernel_rfl)))
def impl_ValueOf (a0 : Int) : Option T_impl_Value := (impl_between a0 0 1).bind fun v1 => bif (!v1) then some ((T_impl_Value.mk 0 0 (ByteArray.mk #[]))) else some ((T_impl_Value.mk 3 a0 (ByteArray.mk #[])))
theorem ok_impl_ValueOf {a0 : Int} {y : T_impl_Value} (h : impl_ValueOf a0 = some y) : OK Tryz.prog 133 [I a0] (E y) := by
  refine OK_of_pwp τ_ok Tryz.func133 rfl (by kernel_rfl) rfl fun Γ hX => ?_
  unfold impl_ValueOf at h
  refine srveM [2] 9 [(0, I a0), (2, .ptr 0 0 0)] [some ⟨0, Enc.cells ((T_impl_Value.mk 0 0 (ByteArray.mk #[])))⟩] ?_
  refine pwp_seq ?_
  refine srvM [2] 1 9 [(0, I a0), (2, .ptr 0 0 0), (3, I a0)] [some ⟨0, Enc.cells ((T_impl_Value.mk 0 0 (ByteArray.mk #[])))⟩] ?_
  obtain ⟨v1, hv2, h⟩ := bindS h
  refine opsP_callF τ 4 (ok_impl_between hv2) (FzTo.frz rfl) rfl (by kernel_rfl) ?_
  refine veM [2] 1 9 [(0, I a0), (2, .ptr 0 0 0), (5, B ((!v1)))] [some ⟨0, Enc.cells ((T_impl_Value.mk 0 0 (ByteArray.mk #[])))⟩] ?_
  refine pc h (fun h => ?_) (fun h => ?_)
  refine srveM [2] 9 [(2, .ptr 0 0 0)] [some ⟨0, Enc.cells ((T_impl_Value.mk 0 0 (ByteArray.mk #[])))⟩] ?_
  cases h
  exact pwp_ret rz
  refine pwp_skip ?_
  refine srveM [2] 9 [(2, .ptr 0 0 0)] [some ⟨0, Enc.cells ((T_impl_Value.mk 3 a0 (ByteArray.mk #[])))⟩] ?_
  cases h
  exact pwp_ret rz
def slices_IndexFunc_impl_Value_impl_Value_s3_l0 (a0 : List (List T_impl_Value)) (a1 : (List T_impl_Value) → Option Bool) : Nat → Int → Option Int
  | 0, _ => none
  | f2 + 1, x1 => bif (decide (x1 < ((a0.length : Int)))) then (getI a0 x1).bind fun v5 => (a1 v5).bind fun v7 => bif v7 then some x1 else (slices_IndexFunc_impl_Value_impl_Value_s3_l0 a0 a1 f2) ((w64 (x1 + 1))) else some (-1)
def slices_IndexFunc_impl_Value_impl_Value_s3 (a0 : List (List T_impl_Value)) (a1 : (List T_impl_Value) → Option Bool) : Option Int := slices_IndexFunc_impl_Value_impl_Value_s3_l0 a0 a1 FUEL 0
theorem ok_slices_IndexFunc_impl_Value_impl_Value_s3 {a0 : List (List T_impl_Value)} {g1 : FuncId} {c1 : List V} (hz1 : frzL c1 = true) {a1 : (List T_impl_Value) → Option Bool} (hp1 : ∀ x0 y, a1 x0 = some y → OK Tryz.prog g1 ([A x0] ++ c1) (B y)) {y : Int} (h : slices_IndexFunc_impl_Value_impl_Value_s3 a0 a1 = some y) : OK Tryz.prog 149 [A a0, .fn g1 c1] (I y) := by
  refine OK_of_pwp τ_ok Tryz.func149 rfl (by kernel_rfl) rfl fun Γ hX => ?_
  unfold slices_IndexFunc_impl_Value_impl_Value_s3 at h
  refine srve 19 [(0, A a0), (1, .fn g1 c1)] [] ?_
  refine pwp_seq ?_
  refine srve 19 [(0, A a0), (1, .fn g1 c1), (7, I ((a0.length : Int))), (8, I 0)] [] ?_
  refine pwp_block ?_
  refine pwp_loop (ι := Nat × Int) (fun (f2, x1) => (⟨19, [(0, A a0), (1, .fn g1 c1), (7, I ((a0.length : Int))), (8, I x1)], []⟩ : St)) (fun (f2, x1) => slices_IndexFunc_impl_Value_impl_Value_s3_l0 a0 a1 f2 x1 = some y) (fun (f2, x1) => f2) (FUEL, 0) h ((Imp.to (st' := ⟨19, [(0, A a0), (1, .fn g1 c1), (7, I ((a0.length : Int))), (8, I 0)], []⟩) [0, 1, 7, 8] (by kernel_rfl)).trans (Imp.to [0, 1, 7, 8] (by kernel_rfl))) ?_
  rintro ⟨f2, x1⟩ h
  dsimp only at h ⊢
  rcases f2 with _ | f2
  cases h
  rw [slices_IndexFunc_impl_Value_impl_Value_s3_l0] at h
  refine srve 19 [(0, A a0), (1, .fn g1 c1), (7, I ((a0.length : Int))), (8, I x1), (9, B ((decide (x1 < ((a0.length : Int))))))] [] ?_
  refine pwp_seq ?_
  refine pc h (fun h => ?_) (fun h => ?_)
  refine pwp_skip ?_
  refine pwp_seq ?_
  refine pwp_block ?_
  refine srve 19 [(0, A a0), (1, .fn g1 c1), (5, I x1), (7, I ((a0.length : Int))), (8, I x1)] [] ?_
  refine srv 3 19 [(0, A a0), (1, .fn g1 c1), (5, I x1), (7, I ((a0.length : Int))), (8, I x1), (11, .fn g1 c1), (12, A a0), (13, I x1)] [] ?_
  obtain ⟨v5, hv6, h⟩ := bindS h
  refine opsP_idx τ_ok 14 hv6 (by kernel_rfl) ?_
  refine v 1 19 [(0, A a0), (1, .fn g1 c1), (5, I x1), (7, I ((a0.length : Int))), (8, I x1), (11, .fn g1 c1), (15, A v5)] [] ?_
  obtain ⟨v7, hv8, h⟩ := bindS h
  refine opsP_callF τ 16 (hp1 _ _ hv8) (FzTo.frz rfl) (frz_app (xs := [A v5]) rfl hz1) (by kernel_rfl) ?_
  refine ve 0 19 [(0, A a0), (1, .fn g1 c1), (5, I x1), (7, I ((a0.length : Int))), (8, I x1), (16, B v7)] [] ?_
  refine pc h (fun h => ?_) (fun h => ?_)
  refine srve 19 [(4, I x1)] [] ?_
  cases h
  exact pwp_ret rz
  refine pwp_skip ?_
  refine rve 19 [(0, A a0), (1, .fn g1 c1), (7, I ((a0.length : Int))), (8, I ((w64 (x1 + 1))))] [] ?_
  exact ⟨(f2, (w64 (x1 + 1))), h, Nat.lt_succ_self _, (Imp.to (st' := ⟨19, [(0, A a0), (1, .fn g1 c1), (7, I ((a0.length : Int))), (8, I ((w64 (x1 + 1))))], []⟩) [0, 1, 7, 8] (by kernel_rfl)).trans (Imp.to [0, 1, 7, 8] (by kernel_rfl))⟩
  refine pwp_exit ?_
  refine srve 19 [(4, I (-1))] [] ?_
  cases h
  exact pwp_ret rz
def spec_l4Sum_j0 (a0 : T_impl_Value) (a1 : T_impl_Value) (x1 : Bool) : Option T_impl_Value := bif x1 then some ((T_impl_Value.mk 0 0 (ByteArray.mk #[]))) else some ((T_impl_Value.mk 1 ((w64 (a0.fN + a1.fN))) (ByteArray.mk #[])))
def spec_l4Sum (a0 : T_impl_Value) (a1 : T_impl_Value) : Option T_impl_Value := bif (a0.fKind == 0) then spec_l4Sum_j0 a0 a1 true else bif (a1.fKind == 0) then spec_l4Sum_j0 a0 a1 true else (spec_l1In ((w64 (a0.fN + a1.fN))) (-9999) 9999).bind fun v3 => spec_l4Sum_j0 a0 a1 ((!v3))
theorem ok_spec_l4Sum {a0 : T_impl_Value} {a1 : T_impl_Value} {y : T_impl_Value} (h : spec_l4Sum a0 a1 = some y) : OK Tryz.prog 153 [E a0, E a1] (E y) := by
  refine OK_of_pwp τ_ok Tryz.func153 rfl (by kernel_rfl) rfl fun Γ hX => ?_
  unfold spec_l4Sum at h
  refine srveM [4] 27 [(2, .fptr (Enc.cells a0) 0), (3, .fptr (Enc.cells a1) 0), (4, .ptr 0 0 0)] [some ⟨0, Enc.cells ((T_impl_Value.mk 0 0 (ByteArray.mk #[])))⟩] ?_
  refine srveM [4] 27 [(2, .fptr (Enc.cells a0) 0), (3, .fptr (Enc.cells a1) 0), (4, .ptr 0 0 0), (5, I ((w64 (a0.fN + a1.fN))))] [some ⟨0, Enc.cells ((T_impl_Value.mk 0 0 (ByteArray.mk #[])))⟩] ?_
  refine pwp_seq ?_
  refine pwp_seq ?_
  refine pwp_join (σ := Bool) (fun x1 => (⟨27, [(4, .ptr 0 0 0), (5, I ((w64 (a0.fN + a1.fN)))), (23, B x1)], [some ⟨0, Enc.cells ((T_impl_Value.mk 0 0 (ByteArray.mk #[])))⟩]⟩ : St)) (fun x1 => spec_l4Sum_j0 a0 a1 x1 = some y) ?_ ?_
  refine rvM [4] 4 27 [(3, .fptr (Enc.cells a1) 0), (4, .ptr 0 0 0), (5, I ((w64 (a0.fN + a1.fN)))), (14, B ((a0.fKind == 0)))] [some ⟨0, Enc.cells ((T_impl_Value.mk 0 0 (ByteArray.mk #[])))⟩] ?_
  rcases fk ((a0.fKind == 0)) with hc6 | hc6
  replace h := bT hc6 h
  rw [hc6]
  refine veM [4] 9 27 [(4, .ptr 0 0 0), (5, I ((w64 (a0.fN + a1.fN)))), (23, B true)] [some ⟨0, Enc.cells ((T_impl_Value.mk 0 0 (ByteArray.mk #[])))⟩] ?_
  exact ⟨true, h, (Imp.to (st' := ⟨27, [(4, .ptr 0 0 0), (5, I ((w64 (a0.fN + a1.fN)))), (23, B true)], [some ⟨0, Enc.cells ((T_impl_Value.mk 0 0 (ByteArray.mk #[])))⟩]⟩) [4, 5, 23] (by kernel_rfl)).trans (Imp.to [4, 5, 23] (by kernel_rfl))⟩
  replace h := bF hc6 h
  rw [hc6]
  refine vM [4] 5 27 [(4, .ptr 0 0 0), (5, I ((w64 (a0.fN + a1.fN)))), (19, B ((a1.fKind == 0)))] [some ⟨0, Enc.cells ((T_impl_Value.mk 0 0 (ByteArray.mk #[])))⟩] ?_
  rcases fk ((a1.fKind == 0)) with hc5 | hc5
  replace h := bT hc5 h
  rw [hc5]
  refine veM [4] 4 27 [(4, .ptr 0 0 0), (5, I ((w64 (a0.fN + a1.fN)))), (23, B true)] [some ⟨0, Enc.cells ((T_impl_Value.mk 0 0 (ByteArray.mk #[])))⟩] ?_
  exact ⟨true, h, (Imp.to (st' := ⟨27, [(4, .ptr 0 0 0), (5, I ((w64 (a0.fN + a1.fN)))), (23, B true)], [some ⟨0, Enc.cells ((T_impl_Value.mk 0 0 (ByteArray.mk #[])))⟩]⟩) [4, 5, 23] (by kernel_rfl)).trans (Imp.to [4, 5, 23] (by kernel_rfl))⟩
  replace h := bF hc5 h
  rw [hc5]
  refine vM [4] 1 27 [(4, .ptr 0 0 0), (5, I ((w64 (a0.fN + a1.fN)))), (19, B false), (20, I ((w64 (a0.fN + a1.fN))))] [some ⟨0, Enc.cells ((T_impl_Value.mk 0 0 (ByteArray.mk #[])))⟩] ?_
  obtain ⟨v3, hv4, h⟩ := bindS h
  refine opsP_callF τ 21 (ok_spec_l1In hv4) (FzTo.frz rfl) rfl (by kernel_rfl) ?_
  refine veM [4] 2 27 [(4, .ptr 0 0 0), (5, I ((w64 (a0.fN + a1.fN)))), (23, B ((!v3)))] [some ⟨0, Enc.cells ((T_impl_Value.mk 0 0 (ByteArray.mk #[])))⟩] ?_
  exact ⟨(!v3), h, (Imp.to (st' := ⟨27, [(4, .ptr 0 0 0), (5, I ((w64 (a0.fN + a1.fN)))), (23, B ((!v3)))], [some ⟨0, Enc.cells ((T_impl_Value.mk 0 0 (ByteArray.mk #[])))⟩]⟩) [4, 5, 23] (by kernel_rfl)).trans (Imp.to [4, 5, 23] (by kernel_rfl))⟩
  rintro x1 h
  unfold spec_l4Sum_j0 at h
  refine pc h (fun h => ?_) (fun h => ?_)
  refine srveM [4] 27 [(4, .ptr 0 0 0)] [some ⟨0, Enc.cells ((T_impl_Value.mk 0 0 (ByteArray.mk #[])))⟩] ?_
  cases h
  exact pwp_ret rz
  refine pwp_skip ?_
  refine srveM [4] 27 [(4, .ptr 0 0 0)] [some ⟨0, Enc.cells ((T_impl_Value.mk 1 ((w64 (a0.fN + a1.fN))) (ByteArray.mk #[])))⟩] ?_
  cases h
  exact pwp_ret rz
def spec_l2Bool (a0 : Bool) : Option Int := bif a0 then some 1 else some 0
theorem ok_spec_l2Bool {a0 : Bool} {y : Int} (h : spec_l2Bool a0 = some y) : OK Tryz.prog 159 [B a0] (I y) := by
  refine OK_of_pwp τ_ok Tryz.func159 rfl (by kernel_rfl) rfl fun Γ hX => ?_
  unfold spec_l2Bool at h
  refine srve 4 [(0, B a0)] [] ?_
  refine pwp_seq ?_
  refine srve 4 [(3, B a0)] [] ?_
  refine pc h (fun h => ?_) (fun h => ?_)
  refine srve 4 [(2, I 1)] [] ?_
  cases h
  exact pwp_ret rz
  refine pwp_skip ?_
  refine srve 4 [(2, I 0)] [] ?_
  cases h
  exact pwp_ret rz
def impl_ColumnsOk_1 (a0 : T_impl_Column) : Option Bool := (impl_between a0.fKind 1 3).bind fun v1 => some ((!v1))
theorem ok_impl_ColumnsOk_1 {a0 : T_impl_Column} {y : Bool} (h : impl_ColumnsOk_1 a0 = some y) : OK Tryz.prog 161 [E a0] (B y) := by
  refine OK_of_pwp τ_ok Tryz.func161 rfl (by kernel_rfl) rfl fun Γ hX => ?_
  unfold impl_ColumnsOk_1 at h
  refine srve 7 [(1, .fptr (Enc.cells a0) 0)] [] ?_
  refine srv 2 7 [(4, I a0.fKind)] [] ?_
  obtain ⟨v1, hv2, h⟩ := bindS h
  refine opsP_callF τ 5 (ok_impl_between hv2) (FzTo.frz rfl) rfl (by kernel_rfl) ?_
  refine ve 2 7 [(2, B ((!v1)))] [] ?_
  cases h
  exact pwp_ret rz
def impl_Part_kind_1_1 (a0 : Int) (b0 : Int) : Option Bool := some ((!(a0 == b0)))
theorem ok_impl_Part_kind_1_1 {a0 : Int} {b0 : Int} {y : Bool} (h : impl_Part_kind_1_1 a0 b0 = some y) : OK Tryz.prog 165 [I a0, .fptr (Enc.cells b0) 0] (B y) := by
  refine OK_of_pwp τ_ok Tryz.func165 rfl (by kernel_rfl) rfl fun Γ hX => ?_
  unfold impl_Part_kind_1_1 at h
  refine srve 7 [(0, I a0), (1, .fptr (Enc.cells b0) 0)] [] ?_
  refine srve 7 [(3, B ((!(a0 == b0))))] [] ?_
  cases h
  exact pwp_ret rz
def slices_ContainsFunc_impl_Value_impl_Value_s3 (a0 : List (List T_impl_Value)) (a1 : (List T_impl_Value) → Option Bool) : Option Bool := (slices_IndexFunc_impl_Value_impl_Value_s3 a0 a1).bind fun v1 => some ((decide (v1 ≥ 0)))
theorem ok_slices_ContainsFunc_impl_Value_impl_Value_s3 {a0 : List (List T_impl_Value)} {g1 : FuncId} {c1 : List V} (hz1 : frzL c1 = true) {a1 : (List T_impl_Value) → Option Bool} (hp1 : ∀ x0 y, a1 x0 = some y → OK Tryz.prog g1 ([A x0] ++ c1) (B y)) {y : Bool} (h : slices_ContainsFunc_impl_Value_impl_Value_s3 a0 a1 = some y) : OK Tryz.prog 166 [A a0, .fn g1 c1] (B y) := by
  refine OK_of_pwp τ_ok Tryz.func166 rfl (by kernel_rfl) rfl fun Γ hX => ?_
  unfold slices_ContainsFunc_impl_Value_impl_Value_s3 at h
  refine srve 9 [(0, A a0), (1, .fn g1 c1)] [] ?_
  refine srv 2 9 [(5, A a0), (6, .fn g1 c1)] [] ?_
  obtain ⟨v1, hv2, h⟩ := bindS h
  refine opsP_callF τ 7 (ok_slices_IndexFunc_impl_Value_impl_Value_s3 (hz1) (hp1) hv2) (FzTo.frz rfl) (by simp only [frzL, frz, hz1, Bool.and_true]) (by kernel_rfl) ?_
  refine ve 2 9 [(4, B ((decide (v1 ≥ 0))))] [] ?_
  cases h
  exact pwp_ret rz
def impl_NotOf (a0 : Int) : Option Int := bif (a0 == 0) then some 1 else bif (a0 == 1) then some 0 else bif (a0 == 2) then some 2 else some (-1)
theorem ok_impl_NotOf {a0 : Int} {y : Int} (h : impl_NotOf a0 = some y) : OK Tryz.prog 174 [I a0] (I y) := by
  refine OK_of_pwp τ_ok Tryz.func174 rfl (by kernel_rfl) rfl fun Γ hX => ?_
  unfold impl_NotOf at h
  refine srve 10 [(0, I a0)] [] ?_
  refine pwp_seq ?_
  refine srve 10 [(3, I a0)] [] ?_
  refine pwp_block ?_
  refine srve 10 [(3, I a0), (4, B ((a0 == 0)))] [] ?_
  refine pc h (fun h => ?_) (fun h => ?_)
  refine srve 10 [(2, I 1)] [] ?_
  cases h
  exact pwp_ret rz
  refine srve 10 [(3, I a0), (6, B ((a0 == 1)))] [] ?_
  refine pc h (fun h => ?_) (fun h => ?_)
  refine srve 10 [(2, I 0)] [] ?_
  cases h
  exact pwp_ret rz
  refine srve 10 [(8, B ((a0 == 2)))] [] ?_
  refine pc h (fun h => ?_) (fun h => ?_)
  refine srve 10 [(2, I 2)] [] ?_
  cases h
  exact pwp_ret rz
  refine pwp_skip ?_
  refine srve 10 [(2, I (-1))] [] ?_
  cases h
  exact pwp_ret rz
def impl_truthIf (a0 : Bool) : Option Int := bif a0 then some 1 else some 0
theorem ok_impl_truthIf {a0 : Bool} {y : Int} (h : impl_truthIf a0 = some y) : OK Tryz.prog 175 [B a0] (I y) := by
  refine OK_of_pwp τ_ok Tryz.func175 rfl (by kernel_rfl) rfl fun Γ hX => ?_
  unfold impl_truthIf at h
  refine srve 4 [(0, B a0)] [] ?_
  refine pwp_seq ?_
  refine srve 4 [(3, B a0)] [] ?_
  refine pc h (fun h => ?_) (fun h => ?_)
  refine srve 4 [(2, I 1)] [] ?_
  cases h
  exact pwp_ret rz
  refine pwp_skip ?_
  refine srve 4 [(2, I 0)] [] ?_
  cases h
  exact pwp_ret rz
def spec_l1Text_j1 (x1 : Int) (K3 : Int → Option Bool) (x5 : Bool) : Option Bool := bif x5 then some false else K3 ((w64 (x1 + 1)))
def spec_l1Text_l0 (a0 : ByteArray) : Nat → Int → Option Bool
  | 0, _ => none
  | f2 + 1, x1 => bif (decide (x1 < ((a0.size : Int)))) then (getB a0 x1).bind fun v7 => bif (decide ((v7.toNat : Int) < 97)) then spec_l1Text_j1 x1 (spec_l1Text_l0 a0 f2) true else (getB a0 x1).bind fun v9 => spec_l1Text_j1 x1 (spec_l1Text_l0 a0 f2) ((decide ((v9.toNat : Int) > 122))) else some ((decide (((a0.size : Int)) ≤ 6)))
def spec_l1Text (a0 : ByteArray) : Option Bool := spec_l1Text_l0 a0 FUEL 0
theorem ok_spec_l1Text {a0 : ByteArray} {y : Bool} (h : spec_l1Text a0 = some y) : OK Tryz.prog 185 [S a0] (B y) := by
  refine OK_of_pwp τ_ok Tryz.func185 rfl (by kernel_rfl) rfl fun Γ hX => ?_
  unfold spec_l1Text at h
  refine srve 23 [(0, S a0)] [] ?_
  refine pwp_seq ?_
  refine srve 23 [(0, S a0), (3, I 0)] [] ?_
  refine pwp_block ?_
  refine pwp_loop (ι := Nat × Int) (fun (f2, x1) => (⟨23, [(0, S a0), (3, I x1)], []⟩ : St)) (fun (f2, x1) => spec_l1Text_l0 a0 f2 x1 = some y) (fun (f2, x1) => f2) (FUEL, 0) h ((Imp.to (st' := ⟨23, [(0, S a0), (3, I 0)], []⟩) [0, 3] (by kernel_rfl)).trans (Imp.to [0, 3] (by kernel_rfl))) ?_
  rintro ⟨f2, x1⟩ h
  dsimp only at h ⊢
  rcases f2 with _ | f2
  cases h
  rw [spec_l1Text_l0] at h
  refine pwp_seq ?_
  refine srve 23 [(0, S a0), (3, I x1), (7, B ((decide (x1 < ((a0.size : Int))))))] [] ?_
  refine pc h (fun h => ?_) (fun h => ?_)
  refine pwp_skip ?_
  refine pwp_seq ?_
  refine pwp_block ?_
  refine pwp_seq ?_
  refine pwp_join (σ := Bool) (fun x5 => (⟨23, [(0, S a0), (3, I x1), (19, B x5)], []⟩ : St)) (fun x5 => spec_l1Text_j1 x1 (spec_l1Text_l0 a0 f2) x5 = some y) ?_ ?_
  refine rv 2 23 [(0, S a0), (3, I x1), (10, S a0), (11, I x1)] [] ?_
  obtain ⟨v7, hv8, h⟩ := bindS h
  refine opsP_byt τ_ok 12 hv8 (by kernel_rfl) ?_
  refine v 2 23 [(0, S a0), (3, I x1), (14, B ((decide ((v7.toNat : Int) < 97))))] [] ?_
  rcases fk ((decide ((v7.toNat : Int) < 97))) with hc11 | hc11
  replace h := bT hc11 h
  rw [hc11]
  refine ve 5 23 [(0, S a0), (3, I x1), (15, .lit undef), (16, .lit undef), (17, .lit undef), (18, .lit undef), (19, B true)] [] ?_
  exact ⟨true, h, (Imp.to (st' := ⟨23, [(0, S a0), (3, I x1), (19, B true)], []⟩) [0, 3, 19] (by kernel_rfl)).trans (Imp.to [0, 3, 19] (by kernel_rfl))⟩
  replace h := bF hc11 h
  rw [hc11]
  refine v 2 23 [(0, S a0), (3, I x1), (14, B false), (15, S a0), (16, I x1)] [] ?_
  obtain ⟨v9, hv10, h⟩ := bindS h
  refine opsP_byt τ_ok 17 hv10 (by kernel_rfl) ?_
  refine ve 2 23 [(0, S a0), (3, I x1), (15, S a0), (16, I x1), (17, .lit (.int .u8 (v9).toNat)), (18, B ((decide ((v9.toNat : Int) > 122)))), (19, B ((decide ((v9.toNat : Int) > 122))))] [] ?_
  exact ⟨(decide ((v9.toNat : Int) > 122)), h, (Imp.to (st' := ⟨23, [(0, S a0), (3, I x1), (19, B ((decide ((v9.toNat : Int) > 122))))], []⟩) [0, 3, 19] (by kernel_rfl)).trans (Imp.to [0, 3, 19] (by kernel_rfl))⟩
  rintro x5 h
  unfold spec_l1Text_j1 at h
  refine pc h (fun h => ?_) (fun h => ?_)
  refine srve 23 [(2, B false)] [] ?_
  cases h
  exact pwp_ret rz
  refine pwp_skip ?_
  refine rve 23 [(0, S a0), (3, I ((w64 (x1 + 1))))] [] ?_
  exact ⟨(f2, (w64 (x1 + 1))), h, Nat.lt_succ_self _, (Imp.to (st' := ⟨23, [(0, S a0), (3, I ((w64 (x1 + 1))))], []⟩) [0, 3] (by kernel_rfl)).trans (Imp.to [0, 3] (by kernel_rfl))⟩
  refine pwp_exit ?_
  refine srve 23 [(2, B ((decide (((a0.size : Int)) ≤ 6))))] [] ?_
  cases h
  exact pwp_ret rz
def spec_TruthOk (a0 : Int) : Option Bool := (spec_l1In a0 0 2).bind fun v1 => some v1
theorem ok_spec_TruthOk {a0 : Int} {y : Bool} (h : spec_TruthOk a0 = some y) : OK Tryz.prog 187 [I a0] (B y) := by
  refine OK_of_pwp τ_ok Tryz.func187 rfl (by kernel_rfl) rfl fun Γ hX => ?_
  unfold spec_TruthOk at h
  refine srve 5 [(0, I a0)] [] ?_
  refine srv 1 5 [(3, I a0)] [] ?_
  obtain ⟨v1, hv2, h⟩ := bindS h
  refine opsP_callF τ 4 (ok_spec_l1In hv2) (FzTo.frz rfl) rfl (by kernel_rfl) ?_
  refine ve 1 5 [(2, B v1)] [] ?_
  cases h
  exact pwp_ret rz
def spec_l2Sure (a0 : Int) : Option Int := (getI (([0, 2, 1] : List Int)) a0).bind fun v1 => some v1
theorem ok_spec_l2Sure {a0 : Int} {y : Int} (h : spec_l2Sure a0 = some y) : OK Tryz.prog 188 [I a0] (I y) := by
  refine OK_of_pwp τ_ok Tryz.func188 rfl (by kernel_rfl) rfl fun Γ hX => ?_
  unfold spec_l2Sure at h
  refine srve 7 [(0, I a0)] [] ?_
  refine srv 2 7 [(3, .arr 1 (([0, 2, 1] : List Int)).length (eL ([0, 2, 1] : List Int)) true), (4, I a0)] [] ?_
  obtain ⟨v1, hv2, h⟩ := bindS h
  refine opsP_idx τ_ok 5 hv2 (by kernel_rfl) ?_
  refine ve 2 7 [(2, I v1)] [] ?_
  cases h
  exact pwp_ret rz
def slices_IndexFunc_impl_Column_impl_Column_l0 (a0 : List T_impl_Column) (a1 : T_impl_Column → Option Bool) : Nat → Int → Option Int
  | 0, _ => none
  | f2 + 1, x1 => bif (decide (x1 < ((a0.length : Int)))) then (getI a0 x1).bind fun v5 => (a1 v5).bind fun v7 => bif v7 then some x1 else (slices_IndexFunc_impl_Column_impl_Column_l0 a0 a1 f2) ((w64 (x1 + 1))) else some (-1)
def slices_IndexFunc_impl_Column_impl_Column (a0 : List T_impl_Column) (a1 : T_impl_Column → Option Bool) : Option Int := slices_IndexFunc_impl_Column_impl_Column_l0 a0 a1 FUEL 0
theorem ok_slices_IndexFunc_impl_Column_impl_Column {a0 : List T_impl_Column} {g1 : FuncId} {c1 : List V} (hz1 : frzL c1 = true) {a1 : T_impl_Column → Option Bool} (hp1 : ∀ x0 y, a1 x0 = some y → OK Tryz.prog g1 ([E x0] ++ c1) (B y)) {y : Int} (h : slices_IndexFunc_impl_Column_impl_Column a0 a1 = some y) : OK Tryz.prog 189 [A a0, .fn g1 c1] (I y) := by
  refine OK_of_pwp τ_ok Tryz.func189 rfl (by kernel_rfl) rfl fun Γ hX => ?_
  unfold slices_IndexFunc_impl_Column_impl_Column at h
  refine srve 19 [(0, A a0), (1, .fn g1 c1)] [] ?_
  refine pwp_seq ?_
  refine srve 19 [(0, A a0), (1, .fn g1 c1), (7, I ((a0.length : Int))), (8, I 0)] [] ?_
  refine pwp_block ?_
  refine pwp_loop (ι := Nat × Int) (fun (f2, x1) => (⟨19, [(0, A a0), (1, .fn g1 c1), (7, I ((a0.length : Int))), (8, I x1)], []⟩ : St)) (fun (f2, x1) => slices_IndexFunc_impl_Column_impl_Column_l0 a0 a1 f2 x1 = some y) (fun (f2, x1) => f2) (FUEL, 0) h ((Imp.to (st' := ⟨19, [(0, A a0), (1, .fn g1 c1), (7, I ((a0.length : Int))), (8, I 0)], []⟩) [0, 1, 7, 8] (by kernel_rfl)).trans (Imp.to [0, 1, 7, 8] (by kernel_rfl))) ?_
  rintro ⟨f2, x1⟩ h
  dsimp only at h ⊢
  rcases f2 with _ | f2
  cases h
  rw [slices_IndexFunc_impl_Column_impl_Column_l0] at h
  refine srve 19 [(0, A a0), (1, .fn g1 c1), (7, I ((a0.length : Int))), (8, I x1), (9, B ((decide (x1 < ((a0.length : Int))))))] [] ?_
  refine pwp_seq ?_
  refine pc h (fun h => ?_) (fun h => ?_)
  refine pwp_skip ?_
  refine pwp_seq ?_
  refine pwp_block ?_
  refine srve 19 [(0, A a0), (1, .fn g1 c1), (5, I x1), (7, I ((a0.length : Int))), (8, I x1)] [] ?_
  refine srv 3 19 [(0, A a0), (1, .fn g1 c1), (5, I x1), (7, I ((a0.length : Int))), (8, I x1), (11, .fn g1 c1), (12, A a0), (13, I x1)] [] ?_
  obtain ⟨v5, hv6, h⟩ := bindS h
  refine opsP_idx τ_ok 14 hv6 (by kernel_rfl) ?_
  refine v 1 19 [(0, A a0), (1, .fn g1 c1), (5, I x1), (7, I ((a0.length : Int))), (8, I x1), (11, .fn g1 c1), (15, E v5)] [] ?_
  obtain ⟨v7, hv8, h⟩ := bindS h
  refine opsP_callF τ 16 (hp1 _ _ hv8) (FzTo.frz rfl) (frz_app (xs := [E v5]) rfl hz1) (by kernel_rfl) ?_
  refine ve 0 19 [(0, A a0), (1, .fn g1 c1), (5, I x1), (7, I ((a0.length : Int))), (8, I x1), (16, B v7)] [] ?_
  refine pc h (fun h => ?_) (fun h => ?_)
  refine srve 19 [(4, I x1)] [] ?_
  cases h
  exact pwp_ret rz
  refine pwp_skip ?_
  refine rve 19 [(0, A a0), (1, .fn g1 c1), (7, I ((a0.length : Int))), (8, I ((w64 (x1 + 1))))] [] ?_
  exact ⟨(f2, (w64 (x1 + 1))), h, Nat.lt_succ_self _, (Imp.to (st' := ⟨19, [(0, A a0), (1, .fn g1 c1), (7, I ((a0.length : Int))), (8, I ((w64 (x1 + 1))))], []⟩) [0, 1, 7, 8] (by kernel_rfl)).trans (Imp.to [0, 1, 7, 8] (by kernel_rfl))⟩
  refine pwp_exit ?_
  refine srve 19 [(4, I (-1))] [] ?_
  cases h
  exact pwp_ret rz
def impl_letters_l0 (v1 : List UInt8) : Nat → Int → Option Bool
  | 0, _ => none
  | f4 + 1, x3 => bif (decide (x3 < ((v1.length : Int)))) then (getI v1 x3).bind fun v7 => (impl_between ((w64 (v7.toNat : Int))) 97 122).bind fun v9 => bif (!v9) then some false else (impl_letters_l0 v1 f4) ((w64 (x3 + 1))) else some true
def impl_letters (a0 : ByteArray) : Option Bool := (bytesOf a0).bind fun v1 => impl_letters_l0 v1 FUEL 0
theorem ok_impl_letters {a0 : ByteArray} {y : Bool} (h : impl_letters a0 = some y) : OK Tryz.prog 190 [S a0] (B y) := by
  refine OK_of_pwp τ_ok Tryz.func190 rfl (by kernel_rfl) rfl fun Γ hX => ?_
  unfold impl_letters at h
  refine srve 17 [(0, S a0)] [] ?_
  refine pwp_seq ?_
  refine srv 1 17 [(5, S a0)] [] ?_
  obtain ⟨v1, hv2, h⟩ := bindS h
  refine opsP_cvb τ_ok 6 hv2 (by kernel_rfl) ?_
  refine ve 2 17 [(6, A v1), (7, I ((v1.length : Int))), (8, I 0)] [] ?_
  refine pwp_block ?_
  refine pwp_loop (ι := Nat × Int) (fun (f4, x3) => (⟨17, [(6, A v1), (7, I ((v1.length : Int))), (8, I x3)], []⟩ : St)) (fun (f4, x3) => impl_letters_l0 v1 f4 x3 = some y) (fun (f4, x3) => f4) (FUEL, 0) h ((Imp.to (st' := ⟨17, [(6, A v1), (7, I ((v1.length : Int))), (8, I 0)], []⟩) [6, 7, 8] (by kernel_rfl)).trans (Imp.to [6, 7, 8] (by kernel_rfl))) ?_
  rintro ⟨f4, x3⟩ h
  dsimp only at h ⊢
  rcases f4 with _ | f4
  cases h
  rw [impl_letters_l0] at h
  refine srve 17 [(6, A v1), (7, I ((v1.length : Int))), (8, I x3), (9, B ((decide (x3 < ((v1.length : Int))))))] [] ?_
  refine pwp_seq ?_
  refine pc h (fun h => ?_) (fun h => ?_)
  refine pwp_skip ?_
  refine pwp_seq ?_
  refine pwp_block ?_
  refine pwp_seq ?_
  refine pwp_region ?_
  obtain ⟨v7, hv8, h⟩ := bindS h
  refine opsP_idx τ_ok 10 hv8 (by kernel_rfl) ?_
  refine ve 2 17 [(4, .lit (.int .u8 (v7).toNat)), (6, A v1), (7, I ((v1.length : Int))), (8, I x3)] [] ?_
  refine srv 2 17 [(6, A v1), (7, I ((v1.length : Int))), (8, I x3), (13, I ((w64 (v7.toNat : Int))))] [] ?_
  obtain ⟨v9, hv10, h⟩ := bindS h
  refine opsP_callF τ 14 (ok_impl_between hv10) (FzTo.frz rfl) rfl (by kernel_rfl) ?_
  refine ve 1 17 [(6, A v1), (7, I ((v1.length : Int))), (8, I x3), (15, B ((!v9)))] [] ?_
  refine pc h (fun h => ?_) (fun h => ?_)
  refine srve 17 [(2, B false)] [] ?_
  cases h
  exact pwp_ret rz
  refine pwp_skip ?_
  refine rve 17 [(6, A v1), (7, I ((v1.length : Int))), (8, I ((w64 (x3 + 1))))] [] ?_
  exact ⟨(f4, (w64 (x3 + 1))), h, Nat.lt_succ_self _, (Imp.to (st' := ⟨17, [(6, A v1), (7, I ((v1.length : Int))), (8, I ((w64 (x3 + 1))))], []⟩) [6, 7, 8] (by kernel_rfl)).trans (Imp.to [6, 7, 8] (by kernel_rfl))⟩
  refine pwp_exit ?_
  refine srve 17 [(2, B true)] [] ?_
  cases h
  exact pwp_ret rz
def slices_IndexFunc_int_int_l0 (a0 : List Int) (a1 : Int → Option Bool) : Nat → Int → Option Int
  | 0, _ => none
  | f2 + 1, x1 => bif (decide (x1 < ((a0.length : Int)))) then (getI a0 x1).bind fun v5 => (a1 v5).bind fun v7 => bif v7 then some x1 else (slices_IndexFunc_int_int_l0 a0 a1 f2) ((w64 (x1 + 1))) else some (-1)
def slices_IndexFunc_int_int (a0 : List Int) (a1 : Int → Option Bool) : Option Int := slices_IndexFunc_int_int_l0 a0 a1 FUEL 0
theorem ok_slices_IndexFunc_int_int {a0 : List Int} {g1 : FuncId} {c1 : List V} (hz1 : frzL c1 = true) {a1 : Int → Option Bool} (hp1 : ∀ x0 y, a1 x0 = some y → OK Tryz.prog g1 ([I x0] ++ c1) (B y)) {y : Int} (h : slices_IndexFunc_int_int a0 a1 = some y) : OK Tryz.prog 191 [A a0, .fn g1 c1] (I y) := by
  refine OK_of_pwp τ_ok Tryz.func191 rfl (by kernel_rfl) rfl fun Γ hX => ?_
  unfold slices_IndexFunc_int_int at h
  refine srve 19 [(0, A a0), (1, .fn g1 c1)] [] ?_
  refine pwp_seq ?_
  refine srve 19 [(0, A a0), (1, .fn g1 c1), (7, I ((a0.length : Int))), (8, I 0)] [] ?_
  refine pwp_block ?_
  refine pwp_loop (ι := Nat × Int) (fun (f2, x1) => (⟨19, [(0, A a0), (1, .fn g1 c1), (7, I ((a0.length : Int))), (8, I x1)], []⟩ : St)) (fun (f2, x1) => slices_IndexFunc_int_int_l0 a0 a1 f2 x1 = some y) (fun (f2, x1) => f2) (FUEL, 0) h ((Imp.to (st' := ⟨19, [(0, A a0), (1, .fn g1 c1), (7, I ((a0.length : Int))), (8, I 0)], []⟩) [0, 1, 7, 8] (by kernel_rfl)).trans (Imp.to [0, 1, 7, 8] (by kernel_rfl))) ?_
  rintro ⟨f2, x1⟩ h
  dsimp only at h ⊢
  rcases f2 with _ | f2
  cases h
  rw [slices_IndexFunc_int_int_l0] at h
  refine srve 19 [(0, A a0), (1, .fn g1 c1), (7, I ((a0.length : Int))), (8, I x1), (9, B ((decide (x1 < ((a0.length : Int))))))] [] ?_
  refine pwp_seq ?_
  refine pc h (fun h => ?_) (fun h => ?_)
  refine pwp_skip ?_
  refine pwp_seq ?_
  refine pwp_block ?_
  refine srve 19 [(0, A a0), (1, .fn g1 c1), (5, I x1), (7, I ((a0.length : Int))), (8, I x1)] [] ?_
  refine srv 3 19 [(0, A a0), (1, .fn g1 c1), (5, I x1), (7, I ((a0.length : Int))), (8, I x1), (11, .fn g1 c1), (12, A a0), (13, I x1)] [] ?_
  obtain ⟨v5, hv6, h⟩ := bindS h
  refine opsP_idx τ_ok 14 hv6 (by kernel_rfl) ?_
  refine v 1 19 [(0, A a0), (1, .fn g1 c1), (5, I x1), (7, I ((a0.length : Int))), (8, I x1), (11, .fn g1 c1), (15, I v5)] [] ?_
  obtain ⟨v7, hv8, h⟩ := bindS h
  refine opsP_callF τ 16 (hp1 _ _ hv8) (FzTo.frz rfl) (frz_app (xs := [I v5]) rfl hz1) (by kernel_rfl) ?_
  refine ve 0 19 [(0, A a0), (1, .fn g1 c1), (5, I x1), (7, I ((a0.length : Int))), (8, I x1), (16, B v7)] [] ?_
  refine pc h (fun h => ?_) (fun h => ?_)
  refine srve 19 [(4, I x1)] [] ?_
  cases h
  exact pwp_ret rz
  refine pwp_skip ?_
  refine rve 19 [(0, A a0), (1, .fn g1 c1), (7, I ((a0.length : Int))), (8, I ((w64 (x1 + 1))))] [] ?_
  exact ⟨(f2, (w64 (x1 + 1))), h, Nat.lt_succ_self _, (Imp.to (st' := ⟨19, [(0, A a0), (1, .fn g1 c1), (7, I ((a0.length : Int))), (8, I ((w64 (x1 + 1))))], []⟩) [0, 1, 7, 8] (by kernel_rfl)).trans (Imp.to [0, 1, 7, 8] (by kernel_rfl))⟩
  refine pwp_exit ?_
  refine srve 19 [(4, I (-1))] [] ?_
  cases h
  exact pwp_ret rz
def slices_IndexFunc_impl_Value_impl_Value_l0 (a0 : List T_impl_Value) (a1 : T_impl_Value → Option Bool) : Nat → Int → Option Int
  | 0, _ => none
  | f2 + 1, x1 => bif (decide (x1 < ((a0.length : Int)))) then (getI a0 x1).bind fun v5 => (a1 v5).bind fun v7 => bif v7 then some x1 else (slices_IndexFunc_impl_Value_impl_Value_l0 a0 a1 f2) ((w64 (x1 + 1))) else some (-1)
def slices_IndexFunc_impl_Value_impl_Value (a0 : List T_impl_Value) (a1 : T_impl_Value → Option Bool) : Option Int := slices_IndexFunc_impl_Value_impl_Value_l0 a0 a1 FUEL 0
theorem ok_slices_IndexFunc_impl_Value_impl_Value {a0 : List T_impl_Value} {g1 : FuncId} {c1 : List V} (hz1 : frzL c1 = true) {a1 : T_impl_Value → Option Bool} (hp1 : ∀ x0 y, a1 x0 = some y → OK Tryz.prog g1 ([E x0] ++ c1) (B y)) {y : Int} (h : slices_IndexFunc_impl_Value_impl_Value a0 a1 = some y) : OK Tryz.prog 192 [A a0, .fn g1 c1] (I y) := by
  refine OK_of_pwp τ_ok Tryz.func192 rfl (by kernel_rfl) rfl fun Γ hX => ?_
  unfold slices_IndexFunc_impl_Value_impl_Value at h
  refine srve 19 [(0, A a0), (1, .fn g1 c1)] [] ?_
  refine pwp_seq ?_
  refine srve 19 [(0, A a0), (1, .fn g1 c1), (7, I ((a0.length : Int))), (8, I 0)] [] ?_
  refine pwp_block ?_
  refine pwp_loop (ι := Nat × Int) (fun (f2, x1) => (⟨19, [(0, A a0), (1, .fn g1 c1), (7, I ((a0.length : Int))), (8, I x1)], []⟩ : St)) (fun (f2, x1) => slices_IndexFunc_impl_Value_impl_Value_l0 a0 a1 f2 x1 = some y) (fun (f2, x1) => f2) (FUEL, 0) h ((Imp.to (st' := ⟨19, [(0, A a0), (1, .fn g1 c1), (7, I ((a0.length : Int))), (8, I 0)], []⟩) [0, 1, 7, 8] (by kernel_rfl)).trans (Imp.to [0, 1, 7, 8] (by kernel_rfl))) ?_
  rintro ⟨f2, x1⟩ h
  dsimp only at h ⊢
  rcases f2 with _ | f2
  cases h
  rw [slices_IndexFunc_impl_Value_impl_Value_l0] at h
  refine srve 19 [(0, A a0), (1, .fn g1 c1), (7, I ((a0.length : Int))), (8, I x1), (9, B ((decide (x1 < ((a0.length : Int))))))] [] ?_
  refine pwp_seq ?_
  refine pc h (fun h => ?_) (fun h => ?_)
  refine pwp_skip ?_
  refine pwp_seq ?_
  refine pwp_block ?_
  refine srve 19 [(0, A a0), (1, .fn g1 c1), (5, I x1), (7, I ((a0.length : Int))), (8, I x1)] [] ?_
  refine srv 3 19 [(0, A a0), (1, .fn g1 c1), (5, I x1), (7, I ((a0.length : Int))), (8, I x1), (11, .fn g1 c1), (12, A a0), (13, I x1)] [] ?_
  obtain ⟨v5, hv6, h⟩ := bindS h
  refine opsP_idx τ_ok 14 hv6 (by kernel_rfl) ?_
  refine v 1 19 [(0, A a0), (1, .fn g1 c1), (5, I x1), (7, I ((a0.length : Int))), (8, I x1), (11, .fn g1 c1), (15, E v5)] [] ?_
  obtain ⟨v7, hv8, h⟩ := bindS h
  refine opsP_callF τ 16 (hp1 _ _ hv8) (FzTo.frz rfl) (frz_app (xs := [E v5]) rfl hz1) (by kernel_rfl) ?_
  refine ve 0 19 [(0, A a0), (1, .fn g1 c1), (5, I x1), (7, I ((a0.length : Int))), (8, I x1), (16, B v7)] [] ?_
  refine pc h (fun h => ?_) (fun h => ?_)
  refine srve 19 [(4, I x1)] [] ?_
  cases h
  exact pwp_ret rz
  refine pwp_skip ?_
  refine rve 19 [(0, A a0), (1, .fn g1 c1), (7, I ((a0.length : Int))), (8, I ((w64 (x1 + 1))))] [] ?_
  exact ⟨(f2, (w64 (x1 + 1))), h, Nat.lt_succ_self _, (Imp.to (st' := ⟨19, [(0, A a0), (1, .fn g1 c1), (7, I ((a0.length : Int))), (8, I ((w64 (x1 + 1))))], []⟩) [0, 1, 7, 8] (by kernel_rfl)).trans (Imp.to [0, 1, 7, 8] (by kernel_rfl))⟩
  refine pwp_exit ?_
  refine srve 19 [(4, I (-1))] [] ?_
  cases h
  exact pwp_ret rz
def spec_l1Less (a0 : Int) (a1 : Int) : Option Int := bif (decide (a0 < a1)) then some 1 else some 0
theorem ok_spec_l1Less {a0 : Int} {a1 : Int} {y : Int} (h : spec_l1Less a0 a1 = some y) : OK Tryz.prog 195 [I a0, I a1] (I y) := by
  refine OK_of_pwp τ_ok Tryz.func195 rfl (by kernel_rfl) rfl fun Γ hX => ?_
  unfold spec_l1Less at h
  refine srve 8 [(0, I a0), (1, I a1)] [] ?_
  refine pwp_seq ?_
  refine srve 8 [(7, B ((decide (a0 < a1))))] [] ?_
  refine pc h (fun h => ?_) (fun h => ?_)
  refine srve 8 [(4, I 1)] [] ?_
  cases h
  exact pwp_ret rz
  refine pwp_skip ?_
  refine srve 8 [(4, I 0)] [] ?_
  cases h
  exact pwp_ret rz
def spec_l1Cmp (a0 : ByteArray) (a1 : ByteArray) : Option Int := bif (Op.bytesLess a0.toList a1.toList) then some (-1) else bif (!Op.bytesLess a0.toList a1.toList && !(a0.toList == a1.toList)) then some 1 else some 0
theorem ok_spec_l1Cmp {a0 : ByteArray} {a1 : ByteArray} {y : Int} (h : spec_l1Cmp a0 a1 = some y) : OK Tryz.prog 196 [S a0, S a1] (I y) := by
  refine OK_of_pwp τ_ok Tryz.func196 rfl (by kernel_rfl) rfl fun Γ hX => ?_
  unfold spec_l1Cmp at h
  refine srve 11 [(0, S a0), (1, S a1)] [] ?_
  refine pwp_seq ?_
  refine srve 11 [(0, S a0), (1, S a1), (7, B ((Op.bytesLess a0.toList a1.toList)))] [] ?_
  refine pc h (fun h => ?_) (fun h => ?_)
  refine srve 11 [(4, I (-1))] [] ?_
  cases h
  exact pwp_ret rz
  refine pwp_skip ?_
  refine pwp_seq ?_
  refine srve 11 [(10, B ((!Op.bytesLess a0.toList a1.toList && !(a0.toList == a1.toList))))] [] ?_
  refine pc h (fun h => ?_) (fun h => ?_)
  refine srve 11 [(4, I 1)] [] ?_
  cases h
  exact pwp_ret rz
  refine pwp_skip ?_
  refine srve 11 [(4, I 0)] [] ?_
  cases h
  exact pwp_ret rz
def cmp_Or_int_l0 (a0 : List Int) : Nat → Int → Option Int
  | 0, _ => none
  | f2 + 1, x1 => bif (decide (x1 < ((a0.length : Int)))) then (getI a0 x1).bind fun v5 => bif (!(v5 == 0)) then some v5 else (cmp_Or_int_l0 a0 f2) ((w64 (x1 + 1))) else some 0
def cmp_Or_int (a0 : List Int) : Option Int := cmp_Or_int_l0 a0 FUEL 0
theorem ok_cmp_Or_int {a0 : List Int} {y : Int} (h : cmp_Or_int a0 = some y) : OK Tryz.prog 197 [A a0] (I y) := by
  refine OK_of_pwp τ_ok Tryz.func197 rfl (by kernel_rfl) rfl fun Γ hX => ?_
  unfold cmp_Or_int at h
  refine srve 18 [(0, A a0)] [] ?_
  refine srve 18 [(0, A a0), (3, I 0)] [] ?_
  refine pwp_seq ?_
  refine srve 18 [(3, I 0), (6, A a0), (7, I ((a0.length : Int))), (8, I 0)] [] ?_
  refine pwp_block ?_
  refine pwp_loop (ι := Nat × Int) (fun (f2, x1) => (⟨18, [(3, I 0), (6, A a0), (7, I ((a0.length : Int))), (8, I x1)], []⟩ : St)) (fun (f2, x1) => cmp_Or_int_l0 a0 f2 x1 = some y) (fun (f2, x1) => f2) (FUEL, 0) h ((Imp.to (st' := ⟨18, [(3, I 0), (6, A a0), (7, I ((a0.length : Int))), (8, I 0)], []⟩) [3, 6, 7, 8] (by kernel_rfl)).trans (Imp.to [3, 6, 7, 8] (by kernel_rfl))) ?_
  rintro ⟨f2, x1⟩ h
  dsimp only at h ⊢
  rcases f2 with _ | f2
  cases h
  rw [cmp_Or_int_l0] at h
  refine srve 18 [(3, I 0), (6, A a0), (7, I ((a0.length : Int))), (8, I x1), (9, B ((decide (x1 < ((a0.length : Int))))))] [] ?_
  refine pwp_seq ?_
  refine pc h (fun h => ?_) (fun h => ?_)
  refine pwp_skip ?_
  refine pwp_seq ?_
  refine pwp_block ?_
  refine pwp_seq ?_
  refine pwp_region ?_
  obtain ⟨v5, hv6, h⟩ := bindS h
  refine opsP_idx τ_ok 10 hv6 (by kernel_rfl) ?_
  refine ve 2 18 [(3, I 0), (5, I v5), (6, A a0), (7, I ((a0.length : Int))), (8, I x1)] [] ?_
  refine srve 18 [(3, I 0), (5, I v5), (6, A a0), (7, I ((a0.length : Int))), (8, I x1), (14, B ((!(v5 == 0))))] [] ?_
  refine pc h (fun h => ?_) (fun h => ?_)
  refine srve 18 [(2, I v5)] [] ?_
  cases h
  exact pwp_ret rz
  refine pwp_skip ?_
  refine rve 18 [(3, I 0), (6, A a0), (7, I ((a0.length : Int))), (8, I ((w64 (x1 + 1))))] [] ?_
  exact ⟨(f2, (w64 (x1 + 1))), h, Nat.lt_succ_self _, (Imp.to (st' := ⟨18, [(3, I 0), (6, A a0), (7, I ((a0.length : Int))), (8, I ((w64 (x1 + 1))))], []⟩) [3, 6, 7, 8] (by kernel_rfl)).trans (Imp.to [3, 6, 7, 8] (by kernel_rfl))⟩
  refine pwp_exit ?_
  refine srve 18 [(2, I 0)] [] ?_
  cases h
  exact pwp_ret rz
def impl_TruthOk (a0 : Int) : Option Bool := (impl_between a0 0 2).bind fun v1 => some v1
theorem ok_impl_TruthOk {a0 : Int} {y : Bool} (h : impl_TruthOk a0 = some y) : OK Tryz.prog 200 [I a0] (B y) := by
  refine OK_of_pwp τ_ok Tryz.func200 rfl (by kernel_rfl) rfl fun Γ hX => ?_
  unfold impl_TruthOk at h
  refine srve 5 [(0, I a0)] [] ?_
  refine srv 1 5 [(3, I a0)] [] ?_
  obtain ⟨v1, hv2, h⟩ := bindS h
  refine opsP_callF τ 4 (ok_impl_between hv2) (FzTo.frz rfl) rfl (by kernel_rfl) ?_
  refine ve 1 5 [(2, B v1)] [] ?_
  cases h
  exact pwp_ret rz
def cmp_isNaN_int (a0 : Int) : Option Bool := some ((!(a0 == a0)))
theorem ok_cmp_isNaN_int {a0 : Int} {y : Bool} (h : cmp_isNaN_int a0 = some y) : OK Tryz.prog 201 [I a0] (B y) := by
  refine OK_of_pwp τ_ok Tryz.func201 rfl (by kernel_rfl) rfl fun Γ hX => ?_
  unfold cmp_isNaN_int at h
  refine srve 6 [(0, I a0)] [] ?_
  refine srve 6 [(2, B ((!(a0 == a0))))] [] ?_
  cases h
  exact pwp_ret rz
def cmp_isNaN_string (a0 : ByteArray) : Option Bool := some ((!(a0.toList == a0.toList)))
theorem ok_cmp_isNaN_string {a0 : ByteArray} {y : Bool} (h : cmp_isNaN_string a0 = some y) : OK Tryz.prog 202 [S a0] (B y) := by
  refine OK_of_pwp τ_ok Tryz.func202 rfl (by kernel_rfl) rfl fun Γ hX => ?_
  unfold cmp_isNaN_string at h
  refine srve 6 [(0, S a0)] [] ?_
  refine srve 6 [(2, B ((!(a0.toList == a0.toList))))] [] ?_
  cases h
  exact pwp_ret rz
def laws_toColumnS_l0 (a0 : List T_laws_Column) : Nat → Int → (List T_impl_Column) → Option (List T_impl_Column)
  | 0, _, _ => none
  | f6 + 1, x4, x5 => bif (decide (x4 < ((a0.length : Int)))) then (getI a0 x4).bind fun v9 => (laws_toColumn v9).bind fun v11 => (getI x5 x4).bind fun v13 => (laws_toColumnS_l0 a0 f6) ((w64 (x4 + 1))) ((x5.set x4.toNat v11)) else some x5
def laws_toColumnS (a0 : List T_laws_Column) : Option (List T_impl_Column) := (mkI ((a0.length : Int)) ((T_impl_Column.mk 0 false))).bind fun v1 => laws_toColumnS_l0 a0 FUEL 0 v1
theorem ok_laws_toColumnS {a0 : List T_laws_Column} {y : List T_impl_Column} (h : laws_toColumnS a0 = some y) : OK Tryz.prog 30 [A a0] (O y) := by
  refine OK_of_pwp τ_ok Tryz.func30 rfl (by kernel_rfl) rfl fun Γ hX => ?_
  unfold laws_toColumnS at h
  refine srve 23 [(0, A a0)] [] ?_
  refine srv 2 23 [(0, A a0), (6, I ((a0.length : Int)))] [] ?_
  obtain ⟨v1, hv2, h⟩ := bindS h
  refine opsP_mk τ_ok 7 0 _ hv2 (by kernel_rfl) (by kernel_rfl) ?_
  refine ve 1 23 [(0, A a0), (3, .ref 0 0 0 2 v1.length false)] [some ⟨0, eL v1⟩] ?_
  refine pwp_seq ?_
  refine srve 23 [(0, A a0), (3, .ref 0 0 0 2 v1.length false), (4, I 0)] [some ⟨0, eL v1⟩] ?_
  refine pwp_block ?_
  refine pwp_loop (ι := Nat × Int × (List T_impl_Column)) (fun (f6, x4, x5) => (⟨23, [(0, A a0), (3, .ref 0 0 0 2 x5.length false), (4, I x4)], [some ⟨0, eL x5⟩]⟩ : St)) (fun (f6, x4, x5) => laws_toColumnS_l0 a0 f6 x4 x5 = some y) (fun (f6, x4, x5) => f6) (FUEL, 0, v1) h ((Imp.to (st' := ⟨23, [(0, A a0), (3, .ref 0 0 0 2 v1.length false), (4, I 0)], [some ⟨0, eL v1⟩]⟩) [0, 3, 4] (by kernel_rfl)).trans (Imp.to [0, 3, 4] (by kernel_rfl))) ?_
  rintro ⟨f6, x4, x5⟩ h
  dsimp only at h ⊢
  rcases f6 with _ | f6
  cases h
  rw [laws_toColumnS_l0] at h
  refine pwp_seq ?_
  refine srve 23 [(0, A a0), (3, .ref 0 0 0 2 x5.length false), (4, I x4), (11, B ((decide (x4 < ((a0.length : Int))))))] [some ⟨0, eL x5⟩] ?_
  refine pc h (fun h => ?_) (fun h => ?_)
  refine pwp_skip ?_
  refine pwp_seq ?_
  refine pwp_block ?_
  refine rv 4 23 [(0, A a0), (3, .ref 0 0 0 2 x5.length false), (4, I x4), (14, .ref 0 0 0 2 x5.length false), (15, I x4), (16, A a0), (17, I x4)] [some ⟨0, eL x5⟩] ?_
  obtain ⟨v9, hv10, h⟩ := bindS h
  refine opsP_idx τ_ok 18 hv10 (by kernel_rfl) ?_
  refine v 1 23 [(0, A a0), (3, .ref 0 0 0 2 x5.length false), (4, I x4), (14, .ref 0 0 0 2 x5.length false), (15, I x4), (19, E v9)] [some ⟨0, eL x5⟩] ?_
  obtain ⟨v11, hv12, h⟩ := bindS h
  refine opsP_callF τ 20 (ok_laws_toColumn hv12) (FzTo.frz rfl) rfl (by kernel_rfl) ?_
  obtain ⟨v13, hv14, h⟩ := bindS h
  refine opsP_idr τ_ok 21 0 0 x5.length hv14 rfl (by kernel_rfl) ?_
  refine v 0 23 [(0, A a0), (3, .ref 0 0 0 2 x5.length false), (4, I x4), (20, E v11), (21, .ptr 0 0 (x4.toNat * 2))] [some ⟨0, eL x5⟩] ?_
  refine opsP_ste (vs := [I v11.fKind, B v11.fEmpty]) τ_ok 113 0 0 0 v11 hv14 (by kernel_rfl) (by kernel_rfl) (by kernel_rfl) (renC trivial (renC (ren_ref (List.length_set ..).symm) (renC trivial (renC trivial (renC trivial renC0))))) ?_
  refine ve 0 23 [(0, A a0), (3, .ref 0 0 0 2 ((x5.set x4.toNat v11)).length false), (4, I x4)] [some ⟨0, eL ((x5.set x4.toNat v11))⟩] ?_
  refine rve 23 [(0, A a0), (3, .ref 0 0 0 2 ((x5.set x4.toNat v11)).length false), (4, I ((w64 (x4 + 1))))] [some ⟨0, eL ((x5.set x4.toNat v11))⟩] ?_
  exact ⟨(f6, (w64 (x4 + 1)), (x5.set x4.toNat v11)), h, Nat.lt_succ_self _, (Imp.to (st' := ⟨23, [(0, A a0), (3, .ref 0 0 0 2 ((x5.set x4.toNat v11)).length false), (4, I ((w64 (x4 + 1))))], [some ⟨0, eL ((x5.set x4.toNat v11))⟩]⟩) [0, 3, 4] (by kernel_rfl)).trans (Imp.to [0, 3, 4] (by kernel_rfl))⟩
  refine pwp_exit ?_
  refine srve 23 [(2, .ref 0 0 0 2 x5.length false)] [some ⟨0, eL x5⟩] ?_
  have h := si h
  subst h
  exact pwp_ret (rt (.ref 0 0 0 2 x5.length false) (OutP.list (v := 0) (by kernel_rfl)))
def laws_eqValueS_l0 (a0 : List T_impl_Value) (a1 : List T_impl_Value) : Nat → Int → Option Bool
  | 0, _ => none
  | f3 + 1, x2 => bif (decide (x2 < ((a0.length : Int)))) then (getI a0 x2).bind fun v6 => (getI a1 x2).bind fun v8 => (laws_eqValue v6 v8).bind fun v10 => bif (!v10) then some false else (laws_eqValueS_l0 a0 a1 f3) ((w64 (x2 + 1))) else some true
def laws_eqValueS (a0 : List T_impl_Value) (a1 : List T_impl_Value) : Option Bool := bif (!(((a0.length : Int)) == ((a1.length : Int)))) then some false else laws_eqValueS_l0 a0 a1 FUEL 0
theorem ok_laws_eqValueS {a0 : List T_impl_Value} {a1 : List T_impl_Value} {y : Bool} (h : laws_eqValueS a0 a1 = some y) : OK Tryz.prog 34 [A a0, A a1] (B y) := by
  refine OK_of_pwp τ_ok Tryz.func34 rfl (by kernel_rfl) rfl fun Γ hX => ?_
  unfold laws_eqValueS at h
  refine srve 27 [(0, A a0), (1, A a1)] [] ?_
  refine pwp_seq ?_
  refine srve 27 [(0, A a0), (1, A a1), (10, B ((!(((a0.length : Int)) == ((a1.length : Int))))))] [] ?_
  refine pc h (fun h => ?_) (fun h => ?_)
  refine srve 27 [(4, B false)] [] ?_
  cases h
  exact pwp_ret rz
  refine pwp_skip ?_
  refine pwp_seq ?_
  refine srve 27 [(0, A a0), (1, A a1), (5, I 0)] [] ?_
  refine pwp_block ?_
  refine pwp_loop (ι := Nat × Int) (fun (f3, x2) => (⟨27, [(0, A a0), (1, A a1), (5, I x2)], []⟩ : St)) (fun (f3, x2) => laws_eqValueS_l0 a0 a1 f3 x2 = some y) (fun (f3, x2) => f3) (FUEL, 0) h ((Imp.to (st' := ⟨27, [(0, A a0), (1, A a1), (5, I 0)], []⟩) [0, 1, 5] (by kernel_rfl)).trans (Imp.to [0, 1, 5] (by kernel_rfl))) ?_
  rintro ⟨f3, x2⟩ h
  dsimp only at h ⊢
  rcases f3 with _ | f3
  cases h
  rw [laws_eqValueS_l0] at h
  refine pwp_seq ?_
  refine srve 27 [(0, A a0), (1, A a1), (5, I x2), (14, B ((decide (x2 < ((a0.length : Int))))))] [] ?_
  refine pc h (fun h => ?_) (fun h => ?_)
  refine pwp_skip ?_
  refine pwp_seq ?_
  refine pwp_block ?_
  refine pwp_seq ?_
  refine pwp_imp (Imp.to (st' := ⟨27, [(0, A a0), (1, A a1), (5, I x2)], []⟩) [0, 1, 5] (by kernel_rfl)) ?_
  refine pwp_any ([[], [], [], [], [], [], [], [], [], []]) ([[], [], [], [], [], [], [], [], [], []]) rfl (by kernel_rfl) ?_
  refine qA_ev (st' := ⟨27, [(18, I x2), (17, A a0), (0, A a0), (1, A a1), (5, I x2)], []⟩) τ_ok [] [] 2 (by exact trivial) (by kernel_rfl) ?_
  obtain ⟨v6, hv7, h⟩ := bindS h
  refine qA_E (dd := some 19) (x := .fptr (Enc.cells v6) 0) ([]) (⟨27, [(19, .fptr (Enc.cells v6) 0), (18, I x2), (17, A a0), (0, A a0), (1, A a1), (5, I x2)], []⟩) (fun Γ' hΓ => CoreE.of_y (idxV_sound τ_ok (by kernel_rfl) hv7)) (by kernel_rfl) (by kernel_rfl) (by exact trivial) (.inr (.inr rfl)) (by kernel_rfl) ?_
  refine qA_ev (st' := ⟨27, [(22, I x2), (21, A a1), (20, E v6), (19, .fptr (Enc.cells v6) 0), (18, I x2), (17, A a0), (0, A a0), (1, A a1), (5, I x2)], []⟩) τ_ok [] [] 3 (by exact trivial) (by kernel_rfl) ?_
  obtain ⟨v8, hv9, h⟩ := bindS h
  refine qA_E (dd := some 23) (x := .fptr (Enc.cells v8) 0) ([]) (⟨27, [(23, .fptr (Enc.cells v8) 0), (22, I x2), (21, A a1), (20, E v6), (19, .fptr (Enc.cells v6) 0), (18, I x2), (17, A a0), (0, A a0), (1, A a1), (5, I x2)], []⟩) (fun Γ' hΓ => CoreE.of_y (idxV_sound τ_ok (by kernel_rfl) hv9)) (by kernel_rfl) (by kernel_rfl) (by exact trivial) (.inr (.inr rfl)) (by kernel_rfl) ?_
  refine qA_ev (st' := ⟨27, [(24, E v8), (23, .fptr (Enc.cells v8) 0), (22, I x2), (21, A a1), (20, E v6), (19, .fptr (Enc.cells v6) 0), (18, I x2), (17, A a0), (0, A a0), (1, A a1), (5, I x2)], []⟩) τ_ok [] [] 1 (by exact trivial) (by kernel_rfl) ?_
  obtain ⟨v10, hv11, h⟩ := bindS h
  refine qA_E (dd := some 25) (x := B v10) ([]) (⟨27, [(25, B v10), (24, E v8), (23, .fptr (Enc.cells v8) 0), (22, I x2), (21, A a1), (20, E v6), (19, .fptr (Enc.cells v6) 0), (18, I x2), (17, A a0), (0, A a0), (1, A a1), (5, I x2)], []⟩) (fun Γ' hΓ => CoreE.of_g (callV_sound (τ := τ) (by kernel_rfl) rfl (ok_laws_eqValue hv11) (FzTo.frz rfl))) (by kernel_rfl) (by kernel_rfl) (by exact trivial) (.inr (.inr rfl)) (by kernel_rfl) ?_
  refine qA_ev (st' := ⟨27, [(26, B ((!v10))), (25, B v10), (24, E v8), (23, .fptr (Enc.cells v8) 0), (22, I x2), (21, A a1), (20, E v6), (19, .fptr (Enc.cells v6) 0), (18, I x2), (17, A a0), (0, A a0), (1, A a1), (5, I x2)], []⟩) τ_ok [] [] 1 (by exact trivial) (by kernel_rfl) ?_
  refine qA_end ?_
  refine opsP_imp (Imp.to (st' := ⟨27, [(0, A a0), (1, A a1), (5, I x2), (26, B ((!v10)))], []⟩) [0, 1, 5, 26] (by kernel_rfl)) ?_
  refine opsP_end rfl ?_
  refine pc h (fun h => ?_) (fun h => ?_)
  refine srve 27 [(4, B false)] [] ?_
  cases h
  exact pwp_ret rz
  refine pwp_skip ?_
  refine rve 27 [(0, A a0), (1, A a1), (5, I ((w64 (x2 + 1))))] [] ?_
  exact ⟨(f3, (w64 (x2 + 1))), h, Nat.lt_succ_self _, (Imp.to (st' := ⟨27, [(0, A a0), (1, A a1), (5, I ((w64 (x2 + 1))))], []⟩) [0, 1, 5] (by kernel_rfl)).trans (Imp.to [0, 1, 5] (by kernel_rfl))⟩
  refine pwp_exit ?_
  refine srve 27 [(4, B true)] [] ?_
  cases h
  exact pwp_ret rz
def laws_eqColumnS_l0 (a0 : List T_impl_Column) (a1 : List T_impl_Column) : Nat → Int → Option Bool
  | 0, _ => none
  | f3 + 1, x2 => bif (decide (x2 < ((a0.length : Int)))) then (getI a0 x2).bind fun v6 => (getI a1 x2).bind fun v8 => (laws_eqColumn v6 v8).bind fun v10 => bif (!v10) then some false else (laws_eqColumnS_l0 a0 a1 f3) ((w64 (x2 + 1))) else some true
def laws_eqColumnS (a0 : List T_impl_Column) (a1 : List T_impl_Column) : Option Bool := bif (!(((a0.length : Int)) == ((a1.length : Int)))) then some false else laws_eqColumnS_l0 a0 a1 FUEL 0
theorem ok_laws_eqColumnS {a0 : List T_impl_Column} {a1 : List T_impl_Column} {y : Bool} (h : laws_eqColumnS a0 a1 = some y) : OK Tryz.prog 35 [A a0, A a1] (B y) := by
  refine OK_of_pwp τ_ok Tryz.func35 rfl (by kernel_rfl) rfl fun Γ hX => ?_
  unfold laws_eqColumnS at h
  refine srve 27 [(0, A a0), (1, A a1)] [] ?_
  refine pwp_seq ?_
  refine srve 27 [(0, A a0), (1, A a1), (10, B ((!(((a0.length : Int)) == ((a1.length : Int))))))] [] ?_
  refine pc h (fun h => ?_) (fun h => ?_)
  refine srve 27 [(4, B false)] [] ?_
  cases h
  exact pwp_ret rz
  refine pwp_skip ?_
  refine pwp_seq ?_
  refine srve 27 [(0, A a0), (1, A a1), (5, I 0)] [] ?_
  refine pwp_block ?_
  refine pwp_loop (ι := Nat × Int) (fun (f3, x2) => (⟨27, [(0, A a0), (1, A a1), (5, I x2)], []⟩ : St)) (fun (f3, x2) => laws_eqColumnS_l0 a0 a1 f3 x2 = some y) (fun (f3, x2) => f3) (FUEL, 0) h ((Imp.to (st' := ⟨27, [(0, A a0), (1, A a1), (5, I 0)], []⟩) [0, 1, 5] (by kernel_rfl)).trans (Imp.to [0, 1, 5] (by kernel_rfl))) ?_
  rintro ⟨f3, x2⟩ h
  dsimp only at h ⊢
  rcases f3 with _ | f3
  cases h
  rw [laws_eqColumnS_l0] at h
  refine pwp_seq ?_
  refine srve 27 [(0, A a0), (1, A a1), (5, I x2), (14, B ((decide (x2 < ((a0.length : Int))))))] [] ?_
  refine pc h (fun h => ?_) (fun h => ?_)
  refine pwp_skip ?_
  refine pwp_seq ?_
  refine pwp_block ?_
  refine pwp_seq ?_
  refine pwp_imp (Imp.to (st' := ⟨27, [(0, A a0), (1, A a1), (5, I x2)], []⟩) [0, 1, 5] (by kernel_rfl)) ?_
  refine pwp_any ([[], [], [], [], [], [], [], [], [], []]) ([[], [], [], [], [], [], [], [], [], []]) rfl (by kernel_rfl) ?_
  refine qA_ev (st' := ⟨27, [(18, I x2), (17, A a0), (0, A a0), (1, A a1), (5, I x2)], []⟩) τ_ok [] [] 2 (by exact trivial) (by kernel_rfl) ?_
  obtain ⟨v6, hv7, h⟩ := bindS h
  refine qA_E (dd := some 19) (x := .fptr (Enc.cells v6) 0) ([]) (⟨27, [(19, .fptr (Enc.cells v6) 0), (18, I x2), (17, A a0), (0, A a0), (1, A a1), (5, I x2)], []⟩) (fun Γ' hΓ => CoreE.of_y (idxV_sound τ_ok (by kernel_rfl) hv7)) (by kernel_rfl) (by kernel_rfl) (by exact trivial) (.inr (.inr rfl)) (by kernel_rfl) ?_
  refine qA_ev (st' := ⟨27, [(22, I x2), (21, A a1), (20, E v6), (19, .fptr (Enc.cells v6) 0), (18, I x2), (17, A a0), (0, A a0), (1, A a1), (5, I x2)], []⟩) τ_ok [] [] 3 (by exact trivial) (by kernel_rfl) ?_
  obtain ⟨v8, hv9, h⟩ := bindS h
  refine qA_E (dd := some 23) (x := .fptr (Enc.cells v8) 0) ([]) (⟨27, [(23, .fptr (Enc.cells v8) 0), (22, I x2), (21, A a1), (20, E v6), (19, .fptr (Enc.cells v6) 0), (18, I x2), (17, A a0), (0, A a0), (1, A a1), (5, I x2)], []⟩) (fun Γ' hΓ => CoreE.of_y (idxV_sound τ_ok (by kernel_rfl) hv9)) (by kernel_rfl) (by kernel_rfl) (by exact trivial) (.inr (.inr rfl)) (by kernel_rfl) ?_
  refine qA_ev (st' := ⟨27, [(24, E v8), (23, .fptr (Enc.cells v8) 0), (22, I x2), (21, A a1), (20, E v6), (19, .fptr (Enc.cells v6) 0), (18, I x2), (17, A a0), (0, A a0), (1, A a1), (5, I x2)], []⟩) τ_ok [] [] 1 (by exact trivial) (by kernel_rfl) ?_
  obtain ⟨v10, hv11, h⟩ := bindS h
  refine qA_E (dd := some 25) (x := B v10) ([]) (⟨27, [(25, B v10), (24, E v8), (23, .fptr (Enc.cells v8) 0), (22, I x2), (21, A a1), (20, E v6), (19, .fptr (Enc.cells v6) 0), (18, I x2), (17, A a0), (0, A a0), (1, A a1), (5, I x2)], []⟩) (fun Γ' hΓ => CoreE.of_g (callV_sound (τ := τ) (by kernel_rfl) rfl (ok_laws_eqColumn hv11) (FzTo.frz rfl))) (by kernel_rfl) (by kernel_rfl) (by exact trivial) (.inr (.inr rfl)) (by kernel_rfl) ?_
  refine qA_ev (st' := ⟨27, [(26, B ((!v10))), (25, B v10), (24, E v8), (23, .fptr (Enc.cells v8) 0), (22, I x2), (21, A a1), (20, E v6), (19, .fptr (Enc.cells v6) 0), (18, I x2), (17, A a0), (0, A a0), (1, A a1), (5, I x2)], []⟩) τ_ok [] [] 1 (by exact trivial) (by kernel_rfl) ?_
  refine qA_end ?_
  refine opsP_imp (Imp.to (st' := ⟨27, [(0, A a0), (1, A a1), (5, I x2), (26, B ((!v10)))], []⟩) [0, 1, 5, 26] (by kernel_rfl)) ?_
  refine opsP_end rfl ?_
  refine pc h (fun h => ?_) (fun h => ?_)
  refine srve 27 [(4, B false)] [] ?_
  cases h
  exact pwp_ret rz
  refine pwp_skip ?_
  refine rve 27 [(0, A a0), (1, A a1), (5, I ((w64 (x2 + 1))))] [] ?_
  exact ⟨(f3, (w64 (x2 + 1))), h, Nat.lt_succ_self _, (Imp.to (st' := ⟨27, [(0, A a0), (1, A a1), (5, I ((w64 (x2 + 1))))], []⟩) [0, 1, 5] (by kernel_rfl)).trans (Imp.to [0, 1, 5] (by kernel_rfl))⟩
  refine pwp_exit ?_
  refine srve 27 [(4, B true)] [] ?_
  cases h
  exact pwp_ret rz
def laws_eqPartS_l0 (a0 : List T_impl_Part) (a1 : List T_impl_Part) : Nat → Int → Option Bool
  | 0, _ => none
  | f3 + 1, x2 => bif (decide (x2 < ((a0.length : Int)))) then (getI a0 x2).bind fun v6 => (getI a1 x2).bind fun v8 => (laws_eqPart v6 v8).bind fun v10 => bif (!v10) then some false else (laws_eqPartS_l0 a0 a1 f3) ((w64 (x2 + 1))) else some true
def laws_eqPartS (a0 : List T_impl_Part) (a1 : List T_impl_Part) : Option Bool := bif (!(((a0.length : Int)) == ((a1.length : Int)))) then some false else laws_eqPartS_l0 a0 a1 FUEL 0
theorem ok_laws_eqPartS {a0 : List T_impl_Part} {a1 : List T_impl_Part} {y : Bool} (h : laws_eqPartS a0 a1 = some y) : OK Tryz.prog 37 [A a0, A a1] (B y) := by
  refine OK_of_pwp τ_ok Tryz.func37 rfl (by kernel_rfl) rfl fun Γ hX => ?_
  unfold laws_eqPartS at h
  refine srve 27 [(0, A a0), (1, A a1)] [] ?_
  refine pwp_seq ?_
  refine srve 27 [(0, A a0), (1, A a1), (10, B ((!(((a0.length : Int)) == ((a1.length : Int))))))] [] ?_
  refine pc h (fun h => ?_) (fun h => ?_)
  refine srve 27 [(4, B false)] [] ?_
  cases h
  exact pwp_ret rz
  refine pwp_skip ?_
  refine pwp_seq ?_
  refine srve 27 [(0, A a0), (1, A a1), (5, I 0)] [] ?_
  refine pwp_block ?_
  refine pwp_loop (ι := Nat × Int) (fun (f3, x2) => (⟨27, [(0, A a0), (1, A a1), (5, I x2)], []⟩ : St)) (fun (f3, x2) => laws_eqPartS_l0 a0 a1 f3 x2 = some y) (fun (f3, x2) => f3) (FUEL, 0) h ((Imp.to (st' := ⟨27, [(0, A a0), (1, A a1), (5, I 0)], []⟩) [0, 1, 5] (by kernel_rfl)).trans (Imp.to [0, 1, 5] (by kernel_rfl))) ?_
  rintro ⟨f3, x2⟩ h
  dsimp only at h ⊢
  rcases f3 with _ | f3
  cases h
  rw [laws_eqPartS_l0] at h
  refine pwp_seq ?_
  refine srve 27 [(0, A a0), (1, A a1), (5, I x2), (14, B ((decide (x2 < ((a0.length : Int))))))] [] ?_
  refine pc h (fun h => ?_) (fun h => ?_)
  refine pwp_skip ?_
  refine pwp_seq ?_
  refine pwp_block ?_
  refine pwp_seq ?_
  refine pwp_imp (Imp.to (st' := ⟨27, [(0, A a0), (1, A a1), (5, I x2)], []⟩) [0, 1, 5] (by kernel_rfl)) ?_
  refine pwp_any ([[], [], [], [], [], [], [], [], [], []]) ([[], [], [], [], [], [], [], [], [], []]) rfl (by kernel_rfl) ?_
  refine qA_ev (st' := ⟨27, [(18, I x2), (17, A a0), (0, A a0), (1, A a1), (5, I x2)], []⟩) τ_ok [] [] 2 (by exact trivial) (by kernel_rfl) ?_
  obtain ⟨v6, hv7, h⟩ := bindS h
  refine qA_E (dd := some 19) (x := .fptr (Enc.cells v6) 0) ([]) (⟨27, [(19, .fptr (Enc.cells v6) 0), (18, I x2), (17, A a0), (0, A a0), (1, A a1), (5, I x2)], []⟩) (fun Γ' hΓ => CoreE.of_y (idxV_sound τ_ok (by kernel_rfl) hv7)) (by kernel_rfl) (by kernel_rfl) (by exact trivial) (.inr (.inr rfl)) (by kernel_rfl) ?_
  refine qA_ev (st' := ⟨27, [(22, I x2), (21, A a1), (20, E v6), (19, .fptr (Enc.cells v6) 0), (18, I x2), (17, A a0), (0, A a0), (1, A a1), (5, I x2)], []⟩) τ_ok [] [] 3 (by exact trivial) (by kernel_rfl) ?_
  obtain ⟨v8, hv9, h⟩ := bindS h
  refine qA_E (dd := some 23) (x := .fptr (Enc.cells v8) 0) ([]) (⟨27, [(23, .fptr (Enc.cells v8) 0), (22, I x2), (21, A a1), (20, E v6), (19, .fptr (Enc.cells v6) 0), (18, I x2), (17, A a0), (0, A a0), (1, A a1), (5, I x2)], []⟩) (fun Γ' hΓ => CoreE.of_y (idxV_sound τ_ok (by kernel_rfl) hv9)) (by kernel_rfl) (by kernel_rfl) (by exact trivial) (.inr (.inr rfl)) (by kernel_rfl) ?_
  refine qA_ev (st' := ⟨27, [(24, E v8), (23, .fptr (Enc.cells v8) 0), (22, I x2), (21, A a1), (20, E v6), (19, .fptr (Enc.cells v6) 0), (18, I x2), (17, A a0), (0, A a0), (1, A a1), (5, I x2)], []⟩) τ_ok [] [] 1 (by exact trivial) (by kernel_rfl) ?_
  obtain ⟨v10, hv11, h⟩ := bindS h
  refine qA_E (dd := some 25) (x := B v10) ([]) (⟨27, [(25, B v10), (24, E v8), (23, .fptr (Enc.cells v8) 0), (22, I x2), (21, A a1), (20, E v6), (19, .fptr (Enc.cells v6) 0), (18, I x2), (17, A a0), (0, A a0), (1, A a1), (5, I x2)], []⟩) (fun Γ' hΓ => CoreE.of_g (callV_sound (τ := τ) (by kernel_rfl) rfl (ok_laws_eqPart hv11) (FzTo.frz rfl))) (by kernel_rfl) (by kernel_rfl) (by exact trivial) (.inr (.inr rfl)) (by kernel_rfl) ?_
  refine qA_ev (st' := ⟨27, [(26, B ((!v10))), (25, B v10), (24, E v8), (23, .fptr (Enc.cells v8) 0), (22, I x2), (21, A a1), (20, E v6), (19, .fptr (Enc.cells v6) 0), (18, I x2), (17, A a0), (0, A a0), (1, A a1), (5, I x2)], []⟩) τ_ok [] [] 1 (by exact trivial) (by kernel_rfl) ?_
  refine qA_end ?_
  refine opsP_imp (Imp.to (st' := ⟨27, [(0, A a0), (1, A a1), (5, I x2), (26, B ((!v10)))], []⟩) [0, 1, 5, 26] (by kernel_rfl)) ?_
  refine opsP_end rfl ?_
  refine pc h (fun h => ?_) (fun h => ?_)
  refine srve 27 [(4, B false)] [] ?_
  cases h
  exact pwp_ret rz
  refine pwp_skip ?_
  refine rve 27 [(0, A a0), (1, A a1), (5, I ((w64 (x2 + 1))))] [] ?_
  exact ⟨(f3, (w64 (x2 + 1))), h, Nat.lt_succ_self _, (Imp.to (st' := ⟨27, [(0, A a0), (1, A a1), (5, I ((w64 (x2 + 1))))], []⟩) [0, 1, 5] (by kernel_rfl)).trans (Imp.to [0, 1, 5] (by kernel_rfl))⟩
  refine pwp_exit ?_
  refine srve 27 [(4, B true)] [] ?_
  cases h
  exact pwp_ret rz
def laws_markPartS_l0 : Nat → Int → Int → (List T_impl_Part) → Option (Int × List T_impl_Part)
  | 0, _, _, _ => none
  | f5 + 1, x2, x3, x4 => bif (decide (x3 < ((x4.length : Int)))) then (getI x4 x3).bind fun v8 => (getI ((x4.set x3.toNat (({ v8 with fKind := x2 } : T_impl_Part)))) x3).bind fun v10 => (getI ((((x4.set x3.toNat (({ v8 with fKind := x2 } : T_impl_Part)))).set x3.toNat (({ v10 with fN := (w64 (x2 + 1)) } : T_impl_Part)))) x3).bind fun v12 => (getI ((((((x4.set x3.toNat (({ v8 with fKind := x2 } : T_impl_Part)))).set x3.toNat (({ v10 with fN := (w64 (x2 + 1)) } : T_impl_Part)))).set x3.toNat (({ v12 with fV := { v12.fV with fKind := (w64 (((w64 (x2 + 1))) + 1)) } } : T_impl_Part)))) x3).bind fun v14 => (laws_markText ((w64 (((w64 (((w64 (((w64 (x2 + 1))) + 1))) + 1))) + 1)))).bind fun v16 => (getI ((((((((x4.set x3.toNat (({ v8 with fKind := x2 } : T_impl_Part)))).set x3.toNat (({ v10 with fN := (w64 (x2 + 1)) } : T_impl_Part)))).set x3.toNat (({ v12 with fV := { v12.fV with fKind := (w64 (((w64 (x2 + 1))) + 1)) } } : T_impl_Part)))).set x3.toNat (({ v14 with fV := { v14.fV with fN := (w64 (((w64 (((w64 (x2 + 1))) + 1))) + 1)) } } : T_impl_Part)))) x3).bind fun v18 => (laws_markPartS_l0 f5) ((w64 (((w64 (((w64 (((w64 (((w64 (x2 + 1))) + 1))) + 1))) + 1))) + 1))) ((w64 (x3 + 1))) ((((((((((x4.set x3.toNat (({ v8 with fKind := x2 } : T_impl_Part)))).set x3.toNat (({ v10 with fN := (w64 (x2 + 1)) } : T_impl_Part)))).set x3.toNat (({ v12 with fV := { v12.fV with fKind := (w64 (((w64 (x2 + 1))) + 1)) } } : T_impl_Part)))).set x3.toNat (({ v14 with fV := { v14.fV with fN := (w64 (((w64 (((w64 (x2 + 1))) + 1))) + 1)) } } : T_impl_Part)))).set x3.toNat (({ v18 with fV := { v18.fV with fS := v16 } } : T_impl_Part)))) else some (x2, x4)
def laws_markPartS (a0 : List T_impl_Part) (a1 : Int) : Option (Int × List T_impl_Part) := laws_markPartS_l0 FUEL a1 0 a0
theorem len_laws_markPartS_l0 : ∀ (f5 : Nat) (x2 : Int) (x3 : Int) (x4 : List T_impl_Part) (y : Int × List T_impl_Part), laws_markPartS_l0 f5 x2 x3 x4 = some y → y.2.length = x4.length
  | 0, _, _, _, _, h => by cases h
  | f5 + 1, x2, x3, x4, y, h => by
    rw [laws_markPartS_l0] at h
    rcases condS h with h | h
    · obtain ⟨_, _, h⟩ := bindS h
      obtain ⟨_, _, h⟩ := bindS h
      obtain ⟨_, _, h⟩ := bindS h
      obtain ⟨_, _, h⟩ := bindS h
      obtain ⟨_, _, h⟩ := bindS h
      obtain ⟨_, _, h⟩ := bindS h
      have h2 := len_laws_markPartS_l0 f5 _ _ _ _ h
      simp only [List.length_set] at h2
      exact h2
    · cases h; rfl
theorem len_laws_markPartS {a0 : List T_impl_Part} {a1 : Int} {y : Int × List T_impl_Part} (h : laws_markPartS a0 a1 = some y) : y.2.length = a0.length := by
  unfold laws_markPartS at h
  exact len_laws_markPartS_l0 _ _ _ _ _ h
theorem ok_laws_markPartS {a0 : List T_impl_Part} {a1 : Int} {y : Int × List T_impl_Part} (h : laws_markPartS a0 a1 = some y) : OKd Tryz.prog 40 5 a0.length (eL a0) [I a1] (.int .i64 y.1) (eL y.2) := by
  refine OKd_of_pwp τ_ok Tryz.func40 rfl (by kernel_rfl) rfl (O_oc _) (O_oc _) (BlindL.lits (eL_lit DFlat.lit _)) (BlindL.lits (eL_lit DFlat.lit _)) rfl (fun hl => by rw [eL_len, len_laws_markPartS h, ← eL_len]; exact hl) fun Γ => ?_
  refine pwp_imp (Imp.to (st' := ⟨52, [(0, .ref 0 0 0 5 a0.length false), (1, I a1)], [some ⟨0, eL a0⟩]⟩) [0, 1] (by kernel_rfl)) ?_
  unfold laws_markPartS at h
  refine srve 52 [(0, .ref 0 0 0 5 a0.length false), (1, I a1)] [some ⟨0, eL a0⟩] ?_
  refine pwp_seq ?_
  refine srve 52 [(0, .ref 0 0 0 5 a0.length false), (1, I a1), (5, I 0)] [some ⟨0, eL a0⟩] ?_
  refine pwp_block ?_
  refine pwp_loop (ι := Nat × Int × Int × (List T_impl_Part)) (fun (f5, x2, x3, x4) => (⟨52, [(0, .ref 0 0 0 5 x4.length false), (1, I x2), (5, I x3)], [some ⟨0, eL x4⟩]⟩ : St)) (fun (f5, x2, x3, x4) => laws_markPartS_l0 f5 x2 x3 x4 = some y) (fun (f5, x2, x3, x4) => f5) (FUEL, a1, 0, a0) h ((Imp.to (st' := ⟨52, [(0, .ref 0 0 0 5 a0.length false), (1, I a1), (5, I 0)], [some ⟨0, eL a0⟩]⟩) [0, 1, 5] (by kernel_rfl)).trans (Imp.to [0, 1, 5] (by kernel_rfl))) ?_
  rintro ⟨f5, x2, x3, x4⟩ h
  dsimp only at h ⊢
  rcases f5 with _ | f5
  cases h
  rw [laws_markPartS_l0] at h
  refine pwp_seq ?_
  refine srve 52 [(0, .ref 0 0 0 5 x4.length false), (1, I x2), (5, I x3), (9, B ((decide (x3 < ((x4.length : Int))))))] [some ⟨0, eL x4⟩] ?_
  refine pc h (fun h => ?_) (fun h => ?_)
  refine pwp_skip ?_
  refine pwp_seq ?_
  refine pwp_block ?_
  refine srv 3 52 [(0, .ref 0 0 0 5 x4.length false), (1, I x2), (5, I x3), (12, .ref 0 0 0 5 x4.length false), (13, I x3), (14, I x2)] [some ⟨0, eL x4⟩] ?_
  obtain ⟨v8, hv9, h⟩ := bindS h
  refine opsP_idr τ_ok 15 0 0 x4.length hv9 rfl (by kernel_rfl) ?_
  refine v 1 52 [(0, .ref 0 0 0 5 x4.length false), (1, I x2), (5, I x3), (14, I x2), (16, .ptr 0 0 (x3.toNat * 5))] [some ⟨0, eL x4⟩] ?_
  refine opsP_ste (vs := [I x2]) τ_ok 3 0 0 0 (({ v8 with fKind := x2 } : T_impl_Part)) hv9 (by kernel_rfl) (by kernel_rfl) (by kernel_rfl) (renC (ren_ref (List.length_set ..).symm) (renC trivial (renC trivial (renC trivial (renC trivial renC0))))) ?_
  refine ve 0 52 [(0, .ref 0 0 0 5 ((x4.set x3.toNat (({ v8 with fKind := x2 } : T_impl_Part)))).length false), (1, I x2), (5, I x3)] [some ⟨0, eL ((x4.set x3.toNat (({ v8 with fKind := x2 } : T_impl_Part))))⟩] ?_
  refine srve 52 [(0, .ref 0 0 0 5 ((x4.set x3.toNat (({ v8 with fKind := x2 } : T_impl_Part)))).length false), (1, I ((w64 (x2 + 1)))), (5, I x3)] [some ⟨0, eL ((x4.set x3.toNat (({ v8 with fKind := x2 } : T_impl_Part))))⟩] ?_
  refine srv 3 52 [(0, .ref 0 0 0 5 ((x4.set x3.toNat (({ v8 with fKind := x2 } : T_impl_Part)))).length false), (1, I ((w64 (x2 + 1)))), (5, I x3), (19, .ref 0 0 0 5 ((x4.set x3.toNat (({ v8 with fKind := x2 } : T_impl_Part)))).length false), (20, I x3), (21, I ((w64 (x2 + 1))))] [some ⟨0, eL ((x4.set x3.toNat (({ v8 with fKind := x2 } : T_impl_Part))))⟩] ?_
  obtain ⟨v10, hv11, h⟩ := bindS h
  refine opsP_idr τ_ok 22 0 0 ((x4.set x3.toNat (({ v8 with fKind := x2 } : T_impl_Part)))).length hv11 rfl (by kernel_rfl) ?_
  refine v 1 52 [(0, .ref 0 0 0 5 ((x4.set x3.toNat (({ v8 with fKind := x2 } : T_impl_Part)))).length false), (1, I ((w64 (x2 + 1)))), (5, I x3), (21, I ((w64 (x2 + 1)))), (23, .ptr 0 0 (x3.toNat * 5 + 1))] [some ⟨0, eL ((x4.set x3.toNat (({ v8 with fKind := x2 } : T_impl_Part))))⟩] ?_
  refine opsP_ste (vs := [I ((w64 (x2 + 1)))]) τ_ok 3 0 0 1 (({ v10 with fN := (w64 (x2 + 1)) } : T_impl_Part)) hv11 (by kernel_rfl) (by kernel_rfl) (by kernel_rfl) (renC (ren_ref (List.length_set ..).symm) (renC trivial (renC trivial (renC trivial (renC trivial renC0))))) ?_
  refine ve 0 52 [(0, .ref 0 0 0 5 ((((x4.set x3.toNat (({ v8 with fKind := x2 } : T_impl_Part)))).set x3.toNat (({ v10 with fN := (w64 (x2 + 1)) } : T_impl_Part)))).length false), (1, I ((w64 (x2 + 1)))), (5, I x3)] [some ⟨0, eL ((((x4.set x3.toNat (({ v8 with fKind := x2 } : T_impl_Part)))).set x3.toNat (({ v10 with fN := (w64 (x2 + 1)) } : T_impl_Part))))⟩] ?_
  refine srve 52 [(0, .ref 0 0 0 5 ((((x4.set x3.toNat (({ v8 with fKind := x2 } : T_impl_Part)))).set x3.toNat (({ v10 with fN := (w64 (x2 + 1)) } : T_impl_Part)))).length false), (1, I ((w64 (((w64 (x2 + 1))) + 1)))), (5, I x3)] [some ⟨0, eL ((((x4.set x3.toNat (({ v8 with fKind := x2 } : T_impl_Part)))).set x3.toNat (({ v10 with fN := (w64 (x2 + 1)) } : T_impl_Part))))⟩] ?_
  refine srv 3 52 [(0, .ref 0 0 0 5 ((((x4.set x3.toNat (({ v8 with fKind := x2 } : T_impl_Part)))).set x3.toNat (({ v10 with fN := (w64 (x2 + 1)) } : T_impl_Part)))).length false), (1, I ((w64 (((w64 (x2 + 1))) + 1)))), (5, I x3), (26, .ref 0 0 0 5 ((((x4.set x3.toNat (({ v8 with fKind := x2 } : T_impl_Part)))).set x3.toNat (({ v10 with fN := (w64 (x2 + 1)) } : T_impl_Part)))).length false), (27, I x3), (28, I ((w64 (((w64 (x2 + 1))) + 1))))] [some ⟨0, eL ((((x4.set x3.toNat (({ v8 with fKind := x2 } : T_impl_Part)))).set x3.toNat (({ v10 with fN := (w64 (x2 + 1)) } : T_impl_Part))))⟩] ?_
  obtain ⟨v12, hv13, h⟩ := bindS h
  refine opsP_idr τ_ok 29 0 0 ((((x4.set x3.toNat (({ v8 with fKind := x2 } : T_impl_Part)))).set x3.toNat (({ v10 with fN := (w64 (x2 + 1)) } : T_impl_Part)))).length hv13 rfl (by kernel_rfl) ?_
  refine v 2 52 [(0, .ref 0 0 0 5 ((((x4.set x3.toNat (({ v8 with fKind := x2 } : T_impl_Part)))).set x3.toNat (({ v10 with fN := (w64 (x2 + 1)) } : T_impl_Part)))).length false), (1, I ((w64 (((w64 (x2 + 1))) + 1)))), (5, I x3), (28, I ((w64 (((w64 (x2 + 1))) + 1)))), (31, .ptr 0 0 (x3.toNat * 5 + 2))] [some ⟨0, eL ((((x4.set x3.toNat (({ v8 with fKind := x2 } : T_impl_Part)))).set x3.toNat (({ v10 with fN := (w64 (x2 + 1)) } : T_impl_Part))))⟩] ?_
  refine opsP_ste (vs := [I ((w64 (((w64 (x2 + 1))) + 1)))]) τ_ok 3 0 0 2 (({ v12 with fV := { v12.fV with fKind := (w64 (((w64 (x2 + 1))) + 1)) } } : T_impl_Part)) hv13 (by kernel_rfl) (by kernel_rfl) (by kernel_rfl) (renC (ren_ref (List.length_set ..).symm) (renC trivial (renC trivial (renC trivial (renC trivial renC0))))) ?_
  refine ve 0 52 [(0, .ref 0 0 0 5 ((((((x4.set x3.toNat (({ v8 with fKind := x2 } : T_impl_Part)))).set x3.toNat (({ v10 with fN := (w64 (x2 + 1)) } : T_impl_Part)))).set x3.toNat (({ v12 with fV := { v12.fV with fKind := (w64 (((w64 (x2 + 1))) + 1)) } } : T_impl_Part)))).length false), (1, I ((w64 (((w64 (x2 + 1))) + 1)))), (5, I x3)] [some ⟨0, eL ((((((x4.set x3.toNat (({ v8 with fKind := x2 } : T_impl_Part)))).set x3.toNat (({ v10 with fN := (w64 (x2 + 1)) } : T_impl_Part)))).set x3.toNat (({ v12 with fV := { v12.fV with fKind := (w64 (((w64 (x2 + 1))) + 1)) } } : T_impl_Part))))⟩] ?_
  refine srve 52 [(0, .ref 0 0 0 5 ((((((x4.set x3.toNat (({ v8 with fKind := x2 } : T_impl_Part)))).set x3.toNat (({ v10 with fN := (w64 (x2 + 1)) } : T_impl_Part)))).set x3.toNat (({ v12 with fV := { v12.fV with fKind := (w64 (((w64 (x2 + 1))) + 1)) } } : T_impl_Part)))).length false), (1, I ((w64 (((w64 (((w64 (x2 + 1))) + 1))) + 1)))), (5, I x3)] [some ⟨0, eL ((((((x4.set x3.toNat (({ v8 with fKind := x2 } : T_impl_Part)))).set x3.toNat (({ v10 with fN := (w64 (x2 + 1)) } : T_impl_Part)))).set x3.toNat (({ v12 with fV := { v12.fV with fKind := (w64 (((w64 (x2 + 1))) + 1)) } } : T_impl_Part))))⟩] ?_
  refine srv 3 52 [(0, .ref 0 0 0 5 ((((((x4.set x3.toNat (({ v8 with fKind := x2 } : T_impl_Part)))).set x3.toNat (({ v10 with fN := (w64 (x2 + 1)) } : T_impl_Part)))).set x3.toNat (({ v12 with fV := { v12.fV with fKind := (w64 (((w64 (x2 + 1))) + 1)) } } : T_impl_Part)))).length false), (1, I ((w64 (((w64 (((w64 (x2 + 1))) + 1))) + 1)))), (5, I x3), (34, .ref 0 0 0 5 ((((((x4.set x3.toNat (({ v8 with fKind := x2 } : T_impl_Part)))).set x3.toNat (({ v10 with fN := (w64 (x2 + 1)) } : T_impl_Part)))).set x3.toNat (({ v12 with fV := { v12.fV with fKind := (w64 (((w64 (x2 + 1))) + 1)) } } : T_impl_Part)))).length false), (35, I x3), (36, I ((w64 (((w64 (((w64 (x2 + 1))) + 1))) + 1))))] [some ⟨0, eL ((((((x4.set x3.toNat (({ v8 with fKind := x2 } : T_impl_Part)))).set x3.toNat (({ v10 with fN := (w64 (x2 + 1)) } : T_impl_Part)))).set x3.toNat (({ v12 with fV := { v12.fV with fKind := (w64 (((w64 (x2 + 1))) + 1)) } } : T_impl_Part))))⟩] ?_
  obtain ⟨v14, hv15, h⟩ := bindS h
  refine opsP_idr τ_ok 37 0 0 ((((((x4.set x3.toNat (({ v8 with fKind := x2 } : T_impl_Part)))).set x3.toNat (({ v10 with fN := (w64 (x2 + 1)) } : T_impl_Part)))).set x3.toNat (({ v12 with fV := { v12.fV with fKind := (w64 (((w64 (x2 + 1))) + 1)) } } : T_impl_Part)))).length hv15 rfl (by kernel_rfl) ?_
  refine v 2 52 [(0, .ref 0 0 0 5 ((((((x4.set x3.toNat (({ v8 with fKind := x2 } : T_impl_Part)))).set x3.toNat (({ v10 with fN := (w64 (x2 + 1)) } : T_impl_Part)))).set x3.toNat (({ v12 with fV := { v12.fV with fKind := (w64 (((w64 (x2 + 1))) + 1)) } } : T_impl_Part)))).length false), (1, I ((w64 (((w64 (((w64 (x2 + 1))) + 1))) + 1)))), (5, I x3), (36, I ((w64 (((w64 (((w64 (x2 + 1))) + 1))) + 1)))), (39, .ptr 0 0 (x3.toNat * 5 + 3))] [some ⟨0, eL ((((((x4.set x3.toNat (({ v8 with fKind := x2 } : T_impl_Part)))).set x3.toNat (({ v10 with fN := (w64 (x2 + 1)) } : T_impl_Part)))).set x3.toNat (({ v12 with fV := { v12.fV with fKind := (w64 (((w64 (x2 + 1))) + 1)) } } : T_impl_Part))))⟩] ?_
  refine opsP_ste (vs := [I ((w64 (((w64 (((w64 (x2 + 1))) + 1))) + 1)))]) τ_ok 3 0 0 3 (({ v14 with fV := { v14.fV with fN := (w64 (((w64 (((w64 (x2 + 1))) + 1))) + 1)) } } : T_impl_Part)) hv15 (by kernel_rfl) (by kernel_rfl) (by kernel_rfl) (renC (ren_ref (List.length_set ..).symm) (renC trivial (renC trivial (renC trivial (renC trivial renC0))))) ?_
  refine ve 0 52 [(0, .ref 0 0 0 5 ((((((((x4.set x3.toNat (({ v8 with fKind := x2 } : T_impl_Part)))).set x3.toNat (({ v10 with fN := (w64 (x2 + 1)) } : T_impl_Part)))).set x3.toNat (({ v12 with fV := { v12.fV with fKind := (w64 (((w64 (x2 + 1))) + 1)) } } : T_impl_Part)))).set x3.toNat (({ v14 with fV := { v14.fV with fN := (w64 (((w64 (((w64 (x2 + 1))) + 1))) + 1)) } } : T_impl_Part)))).length false), (1, I ((w64 (((w64 (((w64 (x2 + 1))) + 1))) + 1)))), (5, I x3)] [some ⟨0, eL ((((((((x4.set x3.toNat (({ v8 with fKind := x2 } : T_impl_Part)))).set x3.toNat (({ v10 with fN := (w64 (x2 + 1)) } : T_impl_Part)))).set x3.toNat (({ v12 with fV := { v12.fV with fKind := (w64 (((w64 (x2 + 1))) + 1)) } } : T_impl_Part)))).set x3.toNat (({ v14 with fV := { v14.fV with fN := (w64 (((w64 (((w64 (x2 + 1))) + 1))) + 1)) } } : T_impl_Part))))⟩] ?_
  refine srve 52 [(0, .ref 0 0 0 5 ((((((((x4.set x3.toNat (({ v8 with fKind := x2 } : T_impl_Part)))).set x3.toNat (({ v10 with fN := (w64 (x2 + 1)) } : T_impl_Part)))).set x3.toNat (({ v12 with fV := { v12.fV with fKind := (w64 (((w64 (x2 + 1))) + 1)) } } : T_impl_Part)))).set x3.toNat (({ v14 with fV := { v14.fV with fN := (w64 (((w64 (((w64 (x2 + 1))) + 1))) + 1)) } } : T_impl_Part)))).length false), (1, I ((w64 (((w64 (((w64 (((w64 (x2 + 1))) + 1))) + 1))) + 1)))), (5, I x3)] [some ⟨0, eL ((((((((x4.set x3.toNat (({ v8 with fKind := x2 } : T_impl_Part)))).set x3.toNat (({ v10 with fN := (w64 (x2 + 1)) } : T_impl_Part)))).set x3.toNat (({ v12 with fV := { v12.fV with fKind := (w64 (((w64 (x2 + 1))) + 1)) } } : T_impl_Part)))).set x3.toNat (({ v14 with fV := { v14.fV with fN := (w64 (((w64 (((w64 (x2 + 1))) + 1))) + 1)) } } : T_impl_Part))))⟩] ?_
  refine srv 3 52 [(0, .ref 0 0 0 5 ((((((((x4.set x3.toNat (({ v8 with fKind := x2 } : T_impl_Part)))).set x3.toNat (({ v10 with fN := (w64 (x2 + 1)) } : T_impl_Part)))).set x3.toNat (({ v12 with fV := { v12.fV with fKind := (w64 (((w64 (x2 + 1))) + 1)) } } : T_impl_Part)))).set x3.toNat (({ v14 with fV := { v14.fV with fN := (w64 (((w64 (((w64 (x2 + 1))) + 1))) + 1)) } } : T_impl_Part)))).length false), (1, I ((w64 (((w64 (((w64 (((w64 (x2 + 1))) + 1))) + 1))) + 1)))), (5, I x3), (42, .ref 0 0 0 5 ((((((((x4.set x3.toNat (({ v8 with fKind := x2 } : T_impl_Part)))).set x3.toNat (({ v10 with fN := (w64 (x2 + 1)) } : T_impl_Part)))).set x3.toNat (({ v12 with fV := { v12.fV with fKind := (w64 (((w64 (x2 + 1))) + 1)) } } : T_impl_Part)))).set x3.toNat (({ v14 with fV := { v14.fV with fN := (w64 (((w64 (((w64 (x2 + 1))) + 1))) + 1)) } } : T_impl_Part)))).length false), (43, I x3), (44, I ((w64 (((w64 (((w64 (((w64 (x2 + 1))) + 1))) + 1))) + 1))))] [some ⟨0, eL ((((((((x4.set x3.toNat (({ v8 with fKind := x2 } : T_impl_Part)))).set x3.toNat (({ v10 with fN := (w64 (x2 + 1)) } : T_impl_Part)))).set x3.toNat (({ v12 with fV := { v12.fV with fKind := (w64 (((w64 (x2 + 1))) + 1)) } } : T_impl_Part)))).set x3.toNat (({ v14 with fV := { v14.fV with fN := (w64 (((w64 (((w64 (x2 + 1))) + 1))) + 1)) } } : T_impl_Part))))⟩] ?_
  obtain ⟨v16, hv17, h⟩ := bindS h
  refine opsP_callF τ 45 (ok_laws_markText hv17) (FzTo.frz rfl) rfl (by kernel_rfl) ?_
  obtain ⟨v18, hv19, h⟩ := bindS h
  refine opsP_idr τ_ok 46 0 0 ((((((((x4.set x3.toNat (({ v8 with fKind := x2 } : T_impl_Part)))).set x3.toNat (({ v10 with fN := (w64 (x2 + 1)) } : T_impl_Part)))).set x3.toNat (({ v12 with fV := { v12.fV with fKind := (w64 (((w64 (x2 + 1))) + 1)) } } : T_impl_Part)))).set x3.toNat (({ v14 with fV := { v14.fV with fN := (w64 (((w64 (((w64 (x2 + 1))) + 1))) + 1)) } } : T_impl_Part)))).length hv19 rfl (by kernel_rfl) ?_
  refine v 2 52 [(0, .ref 0 0 0 5 ((((((((x4.set x3.toNat (({ v8 with fKind := x2 } : T_impl_Part)))).set x3.toNat (({ v10 with fN := (w64 (x2 + 1)) } : T_impl_Part)))).set x3.toNat (({ v12 with fV := { v12.fV with fKind := (w64 (((w64 (x2 + 1))) + 1)) } } : T_impl_Part)))).set x3.toNat (({ v14 with fV := { v14.fV with fN := (w64 (((w64 (((w64 (x2 + 1))) + 1))) + 1)) } } : T_impl_Part)))).length false), (1, I ((w64 (((w64 (((w64 (((w64 (x2 + 1))) + 1))) + 1))) + 1)))), (5, I x3), (45, S v16), (48, .ptr 0 0 (x3.toNat * 5 + 4))] [some ⟨0, eL ((((((((x4.set x3.toNat (({ v8 with fKind := x2 } : T_impl_Part)))).set x3.toNat (({ v10 with fN := (w64 (x2 + 1)) } : T_impl_Part)))).set x3.toNat (({ v12 with fV := { v12.fV with fKind := (w64 (((w64 (x2 + 1))) + 1)) } } : T_impl_Part)))).set x3.toNat (({ v14 with fV := { v14.fV with fN := (w64 (((w64 (((w64 (x2 + 1))) + 1))) + 1)) } } : T_impl_Part))))⟩] ?_
  refine opsP_ste (vs := [S v16]) τ_ok 9 0 0 4 (({ v18 with fV := { v18.fV with fS := v16 } } : T_impl_Part)) hv19 (by kernel_rfl) (by kernel_rfl) (by kernel_rfl) (renC (ren_ref (List.length_set ..).symm) (renC trivial (renC trivial (renC trivial (renC trivial renC0))))) ?_
  refine ve 0 52 [(0, .ref 0 0 0 5 ((((((((((x4.set x3.toNat (({ v8 with fKind := x2 } : T_impl_Part)))).set x3.toNat (({ v10 with fN := (w64 (x2 + 1)) } : T_impl_Part)))).set x3.toNat (({ v12 with fV := { v12.fV with fKind := (w64 (((w64 (x2 + 1))) + 1)) } } : T_impl_Part)))).set x3.toNat (({ v14 with fV := { v14.fV with fN := (w64 (((w64 (((w64 (x2 + 1))) + 1))) + 1)) } } : T_impl_Part)))).set x3.toNat (({ v18 with fV := { v18.fV with fS := v16 } } : T_impl_Part)))).length false), (1, I ((w64 (((w64 (((w64 (((w64 (x2 + 1))) + 1))) + 1))) + 1)))), (5, I x3)] [some ⟨0, eL ((((((((((x4.set x3.toNat (({ v8 with fKind := x2 } : T_impl_Part)))).set x3.toNat (({ v10 with fN := (w64 (x2 + 1)) } : T_impl_Part)))).set x3.toNat (({ v12 with fV := { v12.fV with fKind := (w64 (((w64 (x2 + 1))) + 1)) } } : T_impl_Part)))).set x3.toNat (({ v14 with fV := { v14.fV with fN := (w64 (((w64 (((w64 (x2 + 1))) + 1))) + 1)) } } : T_impl_Part)))).set x3.toNat (({ v18 with fV := { v18.fV with fS := v16 } } : T_impl_Part))))⟩] ?_
  refine rve 52 [(0, .ref 0 0 0 5 ((((((((((x4.set x3.toNat (({ v8 with fKind := x2 } : T_impl_Part)))).set x3.toNat (({ v10 with fN := (w64 (x2 + 1)) } : T_impl_Part)))).set x3.toNat (({ v12 with fV := { v12.fV with fKind := (w64 (((w64 (x2 + 1))) + 1)) } } : T_impl_Part)))).set x3.toNat (({ v14 with fV := { v14.fV with fN := (w64 (((w64 (((w64 (x2 + 1))) + 1))) + 1)) } } : T_impl_Part)))).set x3.toNat (({ v18 with fV := { v18.fV with fS := v16 } } : T_impl_Part)))).length false), (1, I ((w64 (((w64 (((w64 (((w64 (((w64 (x2 + 1))) + 1))) + 1))) + 1))) + 1)))), (5, I x3)] [some ⟨0, eL ((((((((((x4.set x3.toNat (({ v8 with fKind := x2 } : T_impl_Part)))).set x3.toNat (({ v10 with fN := (w64 (x2 + 1)) } : T_impl_Part)))).set x3.toNat (({ v12 with fV := { v12.fV with fKind := (w64 (((w64 (x2 + 1))) + 1)) } } : T_impl_Part)))).set x3.toNat (({ v14 with fV := { v14.fV with fN := (w64 (((w64 (((w64 (x2 + 1))) + 1))) + 1)) } } : T_impl_Part)))).set x3.toNat (({ v18 with fV := { v18.fV with fS := v16 } } : T_impl_Part))))⟩] ?_
  refine rve 52 [(0, .ref 0 0 0 5 ((((((((((x4.set x3.toNat (({ v8 with fKind := x2 } : T_impl_Part)))).set x3.toNat (({ v10 with fN := (w64 (x2 + 1)) } : T_impl_Part)))).set x3.toNat (({ v12 with fV := { v12.fV with fKind := (w64 (((w64 (x2 + 1))) + 1)) } } : T_impl_Part)))).set x3.toNat (({ v14 with fV := { v14.fV with fN := (w64 (((w64 (((w64 (x2 + 1))) + 1))) + 1)) } } : T_impl_Part)))).set x3.toNat (({ v18 with fV := { v18.fV with fS := v16 } } : T_impl_Part)))).length false), (1, I ((w64 (((w64 (((w64 (((w64 (((w64 (x2 + 1))) + 1))) + 1))) + 1))) + 1)))), (5, I ((w64 (x3 + 1))))] [some ⟨0, eL ((((((((((x4.set x3.toNat (({ v8 with fKind := x2 } : T_impl_Part)))).set x3.toNat (({ v10 with fN := (w64 (x2 + 1)) } : T_impl_Part)))).set x3.toNat (({ v12 with fV := { v12.fV with fKind := (w64 (((w64 (x2 + 1))) + 1)) } } : T_impl_Part)))).set x3.toNat (({ v14 with fV := { v14.fV with fN := (w64 (((w64 (((w64 (x2 + 1))) + 1))) + 1)) } } : T_impl_Part)))).set x3.toNat (({ v18 with fV := { v18.fV with fS := v16 } } : T_impl_Part))))⟩] ?_
  exact ⟨(f5, (w64 (((w64 (((w64 (((w64 (((w64 (x2 + 1))) + 1))) + 1))) + 1))) + 1)), (w64 (x3 + 1)), (((((((((x4.set x3.toNat (({ v8 with fKind := x2 } : T_impl_Part)))).set x3.toNat (({ v10 with fN := (w64 (x2 + 1)) } : T_impl_Part)))).set x3.toNat (({ v12 with fV := { v12.fV with fKind := (w64 (((w64 (x2 + 1))) + 1)) } } : T_impl_Part)))).set x3.toNat (({ v14 with fV := { v14.fV with fN := (w64 (((w64 (((w64 (x2 + 1))) + 1))) + 1)) } } : T_impl_Part)))).set x3.toNat (({ v18 with fV := { v18.fV with fS := v16 } } : T_impl_Part)))), h, Nat.lt_succ_self _, (Imp.to (st' := ⟨52, [(0, .ref 0 0 0 5 ((((((((((x4.set x3.toNat (({ v8 with fKind := x2 } : T_impl_Part)))).set x3.toNat (({ v10 with fN := (w64 (x2 + 1)) } : T_impl_Part)))).set x3.toNat (({ v12 with fV := { v12.fV with fKind := (w64 (((w64 (x2 + 1))) + 1)) } } : T_impl_Part)))).set x3.toNat (({ v14 with fV := { v14.fV with fN := (w64 (((w64 (((w64 (x2 + 1))) + 1))) + 1)) } } : T_impl_Part)))).set x3.toNat (({ v18 with fV := { v18.fV with fS := v16 } } : T_impl_Part)))).length false), (1, I ((w64 (((w64 (((w64 (((w64 (((w64 (x2 + 1))) + 1))) + 1))) + 1))) + 1)))), (5, I ((w64 (x3 + 1))))], [some ⟨0, eL ((((((((((x4.set x3.toNat (({ v8 with fKind := x2 } : T_impl_Part)))).set x3.toNat (({ v10 with fN := (w64 (x2 + 1)) } : T_impl_Part)))).set x3.toNat (({ v12 with fV := { v12.fV with fKind := (w64 (((w64 (x2 + 1))) + 1)) } } : T_impl_Part)))).set x3.toNat (({ v14 with fV := { v14.fV with fN := (w64 (((w64 (((w64 (x2 + 1))) + 1))) + 1)) } } : T_impl_Part)))).set x3.toNat (({ v18 with fV := { v18.fV with fS := v16 } } : T_impl_Part))))⟩]⟩) [0, 1, 5] (by kernel_rfl)).trans (Imp.to [0, 1, 5] (by kernel_rfl))⟩
  refine pwp_exit ?_
  refine srve 52 [(4, I x2)] [some ⟨0, eL x4⟩] ?_
  have h := si h
  subst h
  exact pwp_ret ⟨.inr rfl, 0, by kernel_rfl, by kernel_rfl⟩
def laws_markValueS_l0 : Nat → Int → Int → (List T_impl_Value) → Option (Int × List T_impl_Value)
  | 0, _, _, _ => none
  | f5 + 1, x2, x3, x4 => bif (decide (x3 < ((x4.length : Int)))) then (getI x4 x3).bind fun v8 => (getI ((x4.set x3.toNat (({ v8 with fKind := x2 } : T_impl_Value)))) x3).bind fun v10 => (laws_markText ((w64 (((w64 (x2 + 1))) + 1)))).bind fun v12 => (getI ((((x4.set x3.toNat (({ v8 with fKind := x2 } : T_impl_Value)))).set x3.toNat (({ v10 with fN := (w64 (x2 + 1)) } : T_impl_Value)))) x3).bind fun v14 => (laws_markValueS_l0 f5) ((w64 (((w64 (((w64 (x2 + 1))) + 1))) + 1))) ((w64 (x3 + 1))) ((((((x4.set x3.toNat (({ v8 with fKind := x2 } : T_impl_Value)))).set x3.toNat (({ v10 with fN := (w64 (x2 + 1)) } : T_impl_Value)))).set x3.toNat (({ v14 with fS := v12 } : T_impl_Value)))) else some (x2, x4)
def laws_markValueS (a0 : List T_impl_Value) (a1 : Int) : Option (Int × List T_impl_Value) := laws_markValueS_l0 FUEL a1 0 a0
theorem len_laws_markValueS_l0 : ∀ (f5 : Nat) (x2 : Int) (x3 : Int) (x4 : List T_impl_Value) (y : Int × List T_impl_Value), laws_markValueS_l0 f5 x2 x3 x4 = some y → y.2.length = x4.length
  | 0, _, _, _, _, h => by cases h
  | f5 + 1, x2, x3, x4, y, h => by
    rw [laws_markValueS_l0] at h
    rcases condS h with h | h
    · obtain ⟨_, _, h⟩ := bindS h
      obtain ⟨_, _, h⟩ := bindS h
      obtain ⟨_, _, h⟩ := bindS h
      obtain ⟨_, _, h⟩ := bindS h
      have h2 := len_laws_markValueS_l0 f5 _ _ _ _ h
      simp only [List.length_set] at h2
      exact h2
    · cases h; rfl
theorem len_laws_markValueS {a0 : List T_impl_Value} {a1 : Int} {y : Int × List T_impl_Value} (h : laws_markValueS a0 a1 = some y) : y.2.length = a0.length := by
  unfold laws_markValueS at h
  exact len_laws_markValueS_l0 _ _ _ _ _ h
theorem ok_laws_markValueS {a0 : List T_impl_Value} {a1 : Int} {y : Int × List T_impl_Value} (h : laws_markValueS a0 a1 = some y) : OKd Tryz.prog 41 3 a0.length (eL a0) [I a1] (.int .i64 y.1) (eL y.2) := by
  refine OKd_of_pwp τ_ok Tryz.func41 rfl (by kernel_rfl) rfl (O_oc _) (O_oc _) (BlindL.lits (eL_lit DFlat.lit _)) (BlindL.lits (eL_lit DFlat.lit _)) rfl (fun hl => by rw [eL_len, len_laws_markValueS h, ← eL_len]; exact hl) fun Γ => ?_
  refine pwp_imp (Imp.to (st' := ⟨35, [(0, .ref 0 0 0 3 a0.length false), (1, I a1)], [some ⟨0, eL a0⟩]⟩) [0, 1] (by kernel_rfl)) ?_
  unfold laws_markValueS at h
  refine srve 35 [(0, .ref 0 0 0 3 a0.length false), (1, I a1)] [some ⟨0, eL a0⟩] ?_
  refine pwp_seq ?_
  refine srve 35 [(0, .ref 0 0 0 3 a0.length false), (1, I a1), (5, I 0)] [some ⟨0, eL a0⟩] ?_
  refine pwp_block ?_
  refine pwp_loop (ι := Nat × Int × Int × (List T_impl_Value)) (fun (f5, x2, x3, x4) => (⟨35, [(0, .ref 0 0 0 3 x4.length false), (1, I x2), (5, I x3)], [some ⟨0, eL x4⟩]⟩ : St)) (fun (f5, x2, x3, x4) => laws_markValueS_l0 f5 x2 x3 x4 = some y) (fun (f5, x2, x3, x4) => f5) (FUEL, a1, 0, a0) h ((Imp.to (st' := ⟨35, [(0, .ref 0 0 0 3 a0.length false), (1, I a1), (5, I 0)], [some ⟨0, eL a0⟩]⟩) [0, 1, 5] (by kernel_rfl)).trans (Imp.to [0, 1, 5] (by kernel_rfl))) ?_
  rintro ⟨f5, x2, x3, x4⟩ h
  dsimp only at h ⊢
  rcases f5 with _ | f5
  cases h
  rw [laws_markValueS_l0] at h
  refine pwp_seq ?_
  refine srve 35 [(0, .ref 0 0 0 3 x4.length false), (1, I x2), (5, I x3), (9, B ((decide (x3 < ((x4.length : Int))))))] [some ⟨0, eL x4⟩] ?_
  refine pc h (fun h => ?_) (fun h => ?_)
  refine pwp_skip ?_
  refine pwp_seq ?_
  refine pwp_block ?_
  refine srv 3 35 [(0, .ref 0 0 0 3 x4.length false), (1, I x2), (5, I x3), (12, .ref 0 0 0 3 x4.length false), (13, I x3), (14, I x2)] [some ⟨0, eL x4⟩] ?_
  obtain ⟨v8, hv9, h⟩ := bindS h
  refine opsP_idr τ_ok 15 0 0 x4.length hv9 rfl (by kernel_rfl) ?_
  refine v 1 35 [(0, .ref 0 0 0 3 x4.length false), (1, I x2), (5, I x3), (14, I x2), (16, .ptr 0 0 (x3.toNat * 3))] [some ⟨0, eL x4⟩] ?_
  refine opsP_ste (vs := [I x2]) τ_ok 3 0 0 0 (({ v8 with fKind := x2 } : T_impl_Value)) hv9 (by kernel_rfl) (by kernel_rfl) (by kernel_rfl) (renC (ren_ref (List.length_set ..).symm) (renC trivial (renC trivial (renC trivial (renC trivial renC0))))) ?_
  refine ve 0 35 [(0, .ref 0 0 0 3 ((x4.set x3.toNat (({ v8 with fKind := x2 } : T_impl_Value)))).length false), (1, I x2), (5, I x3)] [some ⟨0, eL ((x4.set x3.toNat (({ v8 with fKind := x2 } : T_impl_Value))))⟩] ?_
  refine srve 35 [(0, .ref 0 0 0 3 ((x4.set x3.toNat (({ v8 with fKind := x2 } : T_impl_Value)))).length false), (1, I ((w64 (x2 + 1)))), (5, I x3)] [some ⟨0, eL ((x4.set x3.toNat (({ v8 with fKind := x2 } : T_impl_Value))))⟩] ?_
  refine srv 3 35 [(0, .ref 0 0 0 3 ((x4.set x3.toNat (({ v8 with fKind := x2 } : T_impl_Value)))).length false), (1, I ((w64 (x2 + 1)))), (5, I x3), (19, .ref 0 0 0 3 ((x4.set x3.toNat (({ v8 with fKind := x2 } : T_impl_Value)))).length false), (20, I x3), (21, I ((w64 (x2 + 1))))] [some ⟨0, eL ((x4.set x3.toNat (({ v8 with fKind := x2 } : T_impl_Value))))⟩] ?_
  obtain ⟨v10, hv11, h⟩ := bindS h
  refine opsP_idr τ_ok 22 0 0 ((x4.set x3.toNat (({ v8 with fKind := x2 } : T_impl_Value)))).length hv11 rfl (by kernel_rfl) ?_
  refine v 1 35 [(0, .ref 0 0 0 3 ((x4.set x3.toNat (({ v8 with fKind := x2 } : T_impl_Value)))).length false), (1, I ((w64 (x2 + 1)))), (5, I x3), (21, I ((w64 (x2 + 1)))), (23, .ptr 0 0 (x3.toNat * 3 + 1))] [some ⟨0, eL ((x4.set x3.toNat (({ v8 with fKind := x2 } : T_impl_Value))))⟩] ?_
  refine opsP_ste (vs := [I ((w64 (x2 + 1)))]) τ_ok 3 0 0 1 (({ v10 with fN := (w64 (x2 + 1)) } : T_impl_Value)) hv11 (by kernel_rfl) (by kernel_rfl) (by kernel_rfl) (renC (ren_ref (List.length_set ..).symm) (renC trivial (renC trivial (renC trivial (renC trivial renC0))))) ?_
  refine ve 0 35 [(0, .ref 0 0 0 3 ((((x4.set x3.toNat (({ v8 with fKind := x2 } : T_impl_Value)))).set x3.toNat (({ v10 with fN := (w64 (x2 + 1)) } : T_impl_Value)))).length false), (1, I ((w64 (x2 + 1)))), (5, I x3)] [some ⟨0, eL ((((x4.set x3.toNat (({ v8 with fKind := x2 } : T_impl_Value)))).set x3.toNat (({ v10 with fN := (w64 (x2 + 1)) } : T_impl_Value))))⟩] ?_
  refine srve 35 [(0, .ref 0 0 0 3 ((((x4.set x3.toNat (({ v8 with fKind := x2 } : T_impl_Value)))).set x3.toNat (({ v10 with fN := (w64 (x2 + 1)) } : T_impl_Value)))).length false), (1, I ((w64 (((w64 (x2 + 1))) + 1)))), (5, I x3)] [some ⟨0, eL ((((x4.set x3.toNat (({ v8 with fKind := x2 } : T_impl_Value)))).set x3.toNat (({ v10 with fN := (w64 (x2 + 1)) } : T_impl_Value))))⟩] ?_
  refine srv 3 35 [(0, .ref 0 0 0 3 ((((x4.set x3.toNat (({ v8 with fKind := x2 } : T_impl_Value)))).set x3.toNat (({ v10 with fN := (w64 (x2 + 1)) } : T_impl_Value)))).length false), (1, I ((w64 (((w64 (x2 + 1))) + 1)))), (5, I x3), (26, .ref 0 0 0 3 ((((x4.set x3.toNat (({ v8 with fKind := x2 } : T_impl_Value)))).set x3.toNat (({ v10 with fN := (w64 (x2 + 1)) } : T_impl_Value)))).length false), (27, I x3), (28, I ((w64 (((w64 (x2 + 1))) + 1))))] [some ⟨0, eL ((((x4.set x3.toNat (({ v8 with fKind := x2 } : T_impl_Value)))).set x3.toNat (({ v10 with fN := (w64 (x2 + 1)) } : T_impl_Value))))⟩] ?_
  obtain ⟨v12, hv13, h⟩ := bindS h
  refine opsP_callF τ 29 (ok_laws_markText hv13) (FzTo.frz rfl) rfl (by kernel_rfl) ?_
  obtain ⟨v14, hv15, h⟩ := bindS h
  refine opsP_idr τ_ok 30 0 0 ((((x4.set x3.toNat (({ v8 with fKind := x2 } : T_impl_Value)))).set x3.toNat (({ v10 with fN := (w64 (x2 + 1)) } : T_impl_Value)))).length hv15 rfl (by kernel_rfl) ?_
  refine v 1 35 [(0, .ref 0 0 0 3 ((((x4.set x3.toNat (({ v8 with fKind := x2 } : T_impl_Value)))).set x3.toNat (({ v10 with fN := (w64 (x2 + 1)) } : T_impl_Value)))).length false), (1, I ((w64 (((w64 (x2 + 1))) + 1)))), (5, I x3), (29, S v12), (31, .ptr 0 0 (x3.toNat * 3 + 2))] [some ⟨0, eL ((((x4.set x3.toNat (({ v8 with fKind := x2 } : T_impl_Value)))).set x3.toNat (({ v10 with fN := (w64 (x2 + 1)) } : T_impl_Value))))⟩] ?_
  refine opsP_ste (vs := [S v12]) τ_ok 9 0 0 2 (({ v14 with fS := v12 } : T_impl_Value)) hv15 (by kernel_rfl) (by kernel_rfl) (by kernel_rfl) (renC (ren_ref (List.length_set ..).symm) (renC trivial (renC trivial (renC trivial (renC trivial renC0))))) ?_
  refine ve 0 35 [(0, .ref 0 0 0 3 ((((((x4.set x3.toNat (({ v8 with fKind := x2 } : T_impl_Value)))).set x3.toNat (({ v10 with fN := (w64 (x2 + 1)) } : T_impl_Value)))).set x3.toNat (({ v14 with fS := v12 } : T_impl_Value)))).length false), (1, I ((w64 (((w64 (x2 + 1))) + 1)))), (5, I x3)] [some ⟨0, eL ((((((x4.set x3.toNat (({ v8 with fKind := x2 } : T_impl_Value)))).set x3.toNat (({ v10 with fN := (w64 (x2 + 1)) } : T_impl_Value)))).set x3.toNat (({ v14 with fS := v12 } : T_impl_Value))))⟩] ?_
  refine rve 35 [(0, .ref 0 0 0 3 ((((((x4.set x3.toNat (({ v8 with fKind := x2 } : T_impl_Value)))).set x3.toNat (({ v10 with fN := (w64 (x2 + 1)) } : T_impl_Value)))).set x3.toNat (({ v14 with fS := v12 } : T_impl_Value)))).length false), (1, I ((w64 (((w64 (((w64 (x2 + 1))) + 1))) + 1)))), (5, I x3)] [some ⟨0, eL ((((((x4.set x3.toNat (({ v8 with fKind := x2 } : T_impl_Value)))).set x3.toNat (({ v10 with fN := (w64 (x2 + 1)) } : T_impl_Value)))).set x3.toNat (({ v14 with fS := v12 } : T_impl_Value))))⟩] ?_
  refine rve 35 [(0, .ref 0 0 0 3 ((((((x4.set x3.toNat (({ v8 with fKind := x2 } : T_impl_Value)))).set x3.toNat (({ v10 with fN := (w64 (x2 + 1)) } : T_impl_Value)))).set x3.toNat (({ v14 with fS := v12 } : T_impl_Value)))).length false), (1, I ((w64 (((w64 (((w64 (x2 + 1))) + 1))) + 1)))), (5, I ((w64 (x3 + 1))))] [some ⟨0, eL ((((((x4.set x3.toNat (({ v8 with fKind := x2 } : T_impl_Value)))).set x3.toNat (({ v10 with fN := (w64 (x2 + 1)) } : T_impl_Value)))).set x3.toNat (({ v14 with fS := v12 } : T_impl_Value))))⟩] ?_
  exact ⟨(f5, (w64 (((w64 (((w64 (x2 + 1))) + 1))) + 1)), (w64 (x3 + 1)), (((((x4.set x3.toNat (({ v8 with fKind := x2 } : T_impl_Value)))).set x3.toNat (({ v10 with fN := (w64 (x2 + 1)) } : T_impl_Value)))).set x3.toNat (({ v14 with fS := v12 } : T_impl_Value)))), h, Nat.lt_succ_self _, (Imp.to (st' := ⟨35, [(0, .ref 0 0 0 3 ((((((x4.set x3.toNat (({ v8 with fKind := x2 } : T_impl_Value)))).set x3.toNat (({ v10 with fN := (w64 (x2 + 1)) } : T_impl_Value)))).set x3.toNat (({ v14 with fS := v12 } : T_impl_Value)))).length false), (1, I ((w64 (((w64 (((w64 (x2 + 1))) + 1))) + 1)))), (5, I ((w64 (x3 + 1))))], [some ⟨0, eL ((((((x4.set x3.toNat (({ v8 with fKind := x2 } : T_impl_Value)))).set x3.toNat (({ v10 with fN := (w64 (x2 + 1)) } : T_impl_Value)))).set x3.toNat (({ v14 with fS := v12 } : T_impl_Value))))⟩]⟩) [0, 1, 5] (by kernel_rfl)).trans (Imp.to [0, 1, 5] (by kernel_rfl))⟩
  refine pwp_exit ?_
  refine srve 35 [(4, I x2)] [some ⟨0, eL x4⟩] ?_
  have h := si h
  subst h
  exact pwp_ret ⟨.inr rfl, 0, by kernel_rfl, by kernel_rfl⟩
def laws_heldValueS_l0 (a0 : List T_impl_Value) : Nat → Int → Int → Option Int
  | 0, _, _ => none
  | f3 + 1, x1, x2 => bif (decide (x2 < ((a0.length : Int)))) then (getI a0 x2).bind fun v6 => bif (!(v6.fKind == x1)) then some (-1) else (getI a0 x2).bind fun v9 => bif (!(v9.fN == ((w64 (x1 + 1))))) then some (-1) else (getI a0 x2).bind fun v12 => (laws_markText ((w64 (((w64 (x1 + 1))) + 1)))).bind fun v14 => bif (!(v12.fS.toList == v14.toList)) then some (-1) else (laws_heldValueS_l0 a0 f3) ((w64 (((w64 (((w64 (x1 + 1))) + 1))) + 1))) ((w64 (x2 + 1))) else some x1
def laws_heldValueS (a0 : List T_impl_Value) (a1 : Int) : Option Int := laws_heldValueS_l0 a0 FUEL a1 0
theorem ok_laws_heldValueS {a0 : List T_impl_Value} {a1 : Int} {y : Int} (h : laws_heldValueS a0 a1 = some y) : OK Tryz.prog 42 [A a0, I a1] (I y) := by
  refine OK_of_pwp τ_ok Tryz.func42 rfl (by kernel_rfl) rfl fun Γ hX => ?_
  unfold laws_heldValueS at h
  refine srve 41 [(0, A a0), (1, I a1)] [] ?_
  refine pwp_seq ?_
  refine srve 41 [(0, A a0), (1, I a1), (5, I 0)] [] ?_
  refine pwp_block ?_
  refine pwp_loop (ι := Nat × Int × Int) (fun (f3, x1, x2) => (⟨41, [(0, A a0), (1, I x1), (5, I x2)], []⟩ : St)) (fun (f3, x1, x2) => laws_heldValueS_l0 a0 f3 x1 x2 = some y) (fun (f3, x1, x2) => f3) (FUEL, a1, 0) h ((Imp.to (st' := ⟨41, [(0, A a0), (1, I a1), (5, I 0)], []⟩) [0, 1, 5] (by kernel_rfl)).trans (Imp.to [0, 1, 5] (by kernel_rfl))) ?_
  rintro ⟨f3, x1, x2⟩ h
  dsimp only at h ⊢
  rcases f3 with _ | f3
  cases h
  rw [laws_heldValueS_l0] at h
  refine pwp_seq ?_
  refine srve 41 [(0, A a0), (1, I x1), (5, I x2), (9, B ((decide (x2 < ((a0.length : Int))))))] [] ?_
  refine pc h (fun h => ?_) (fun h => ?_)
  refine pwp_skip ?_
  refine pwp_seq ?_
  refine pwp_block ?_
  refine pwp_seq ?_
  refine srv 2 41 [(0, A a0), (1, I x1), (5, I x2), (12, A a0), (13, I x2)] [] ?_
  obtain ⟨v6, hv7, h⟩ := bindS h
  refine opsP_idx τ_ok 14 hv7 (by kernel_rfl) ?_
  refine ve 4 41 [(0, A a0), (1, I x1), (5, I x2), (18, B ((!(v6.fKind == x1))))] [] ?_
  refine pc h (fun h => ?_) (fun h => ?_)
  refine srve 41 [(4, I (-1))] [] ?_
  cases h
  exact pwp_ret rz
  refine pwp_skip ?_
  refine srve 41 [(0, A a0), (1, I ((w64 (x1 + 1)))), (5, I x2)] [] ?_
  refine pwp_seq ?_
  refine srv 2 41 [(0, A a0), (1, I ((w64 (x1 + 1)))), (5, I x2), (21, A a0), (22, I x2)] [] ?_
  obtain ⟨v9, hv10, h⟩ := bindS h
  refine opsP_idx τ_ok 23 hv10 (by kernel_rfl) ?_
  refine ve 4 41 [(0, A a0), (1, I ((w64 (x1 + 1)))), (5, I x2), (27, B ((!(v9.fN == ((w64 (x1 + 1)))))))] [] ?_
  refine pc h (fun h => ?_) (fun h => ?_)
  refine srve 41 [(4, I (-1))] [] ?_
  cases h
  exact pwp_ret rz
  refine pwp_skip ?_
  refine srve 41 [(0, A a0), (1, I ((w64 (((w64 (x1 + 1))) + 1)))), (5, I x2)] [] ?_
  refine pwp_seq ?_
  refine pwp_seq ?_
  refine pwp_imp (Imp.to (st' := ⟨41, [(0, A a0), (1, I ((w64 (((w64 (x1 + 1))) + 1)))), (5, I x2)], []⟩) [0, 1, 5] (by kernel_rfl)) ?_
  refine pwp_any ([[], [], [], [], [], [], [], []]) ([[], [], [], [], [], [], [], []]) rfl (by kernel_rfl) ?_
  refine qA_ev (st' := ⟨41, [(31, I x2), (30, A a0), (0, A a0), (1, I ((w64 (((w64 (x1 + 1))) + 1)))), (5, I x2)], []⟩) τ_ok [] [] 2 (by exact trivial) (by kernel_rfl) ?_
  obtain ⟨v12, hv13, h⟩ := bindS h
  refine qA_E (dd := some 32) (x := .fptr (Enc.cells v12) 0) ([]) (⟨41, [(32, .fptr (Enc.cells v12) 0), (31, I x2), (30, A a0), (0, A a0), (1, I ((w64 (((w64 (x1 + 1))) + 1)))), (5, I x2)], []⟩) (fun Γ' hΓ => CoreE.of_y (idxV_sound τ_ok (by kernel_rfl) hv13)) (by kernel_rfl) (by kernel_rfl) (by exact trivial) (.inr (.inr rfl)) (by kernel_rfl) ?_
  refine qA_ev (st' := ⟨41, [(35, I ((w64 (((w64 (x1 + 1))) + 1)))), (34, S v12.fS), (33, .fptr (Enc.cells v12) 2), (32, .fptr (Enc.cells v12) 0), (31, I x2), (30, A a0), (0, A a0), (1, I ((w64 (((w64 (x1 + 1))) + 1)))), (5, I x2)], []⟩) τ_ok [] [] 3 (by exact trivial) (by kernel_rfl) ?_
  obtain ⟨v14, hv15, h⟩ := bindS h
  refine qA_E (dd := some 36) (x := S v14) ([]) (⟨41, [(36, S v14), (35, I ((w64 (((w64 (x1 + 1))) + 1)))), (34, S v12.fS), (33, .fptr (Enc.cells v12) 2), (32, .fptr (Enc.cells v12) 0), (31, I x2), (30, A a0), (0, A a0), (1, I ((w64 (((w64 (x1 + 1))) + 1)))), (5, I x2)], []⟩) (fun Γ' hΓ => CoreE.of_g (callV_sound (τ := τ) (by kernel_rfl) rfl (ok_laws_markText hv15) (FzTo.frz rfl))) (by kernel_rfl) (by kernel_rfl) (by exact trivial) (.inr (.inr rfl)) (by kernel_rfl) ?_
  refine qA_ev (st' := ⟨41, [(37, B ((!(v12.fS.toList == v14.toList)))), (36, S v14), (35, I ((w64 (((w64 (x1 + 1))) + 1)))), (34, S v12.fS), (33, .fptr (Enc.cells v12) 2), (32, .fptr (Enc.cells v12) 0), (31, I x2), (30, A a0), (0, A a0), (1, I ((w64 (((w64 (x1 + 1))) + 1)))), (5, I x2)], []⟩) τ_ok [] [] 1 (by exact trivial) (by kernel_rfl) ?_
  refine qA_end ?_
  refine opsP_imp (Imp.to (st' := ⟨41, [(0, A a0), (1, I ((w64 (((w64 (x1 + 1))) + 1)))), (5, I x2), (37, B ((!(v12.fS.toList == v14.toList))))], []⟩) [0, 1, 5, 37] (by kernel_rfl)) ?_
  refine opsP_end rfl ?_
  refine pc h (fun h => ?_) (fun h => ?_)
  refine srve 41 [(4, I (-1))] [] ?_
  cases h
  exact pwp_ret rz
  refine pwp_skip ?_
  refine rve 41 [(0, A a0), (1, I ((w64 (((w64 (((w64 (x1 + 1))) + 1))) + 1)))), (5, I x2)] [] ?_
  refine rve 41 [(0, A a0), (1, I ((w64 (((w64 (((w64 (x1 + 1))) + 1))) + 1)))), (5, I ((w64 (x2 + 1))))] [] ?_
  exact ⟨(f3, (w64 (((w64 (((w64 (x1 + 1))) + 1))) + 1)), (w64 (x2 + 1))), h, Nat.lt_succ_self _, (Imp.to (st' := ⟨41, [(0, A a0), (1, I ((w64 (((w64 (((w64 (x1 + 1))) + 1))) + 1)))), (5, I ((w64 (x2 + 1))))], []⟩) [0, 1, 5] (by kernel_rfl)).trans (Imp.to [0, 1, 5] (by kernel_rfl))⟩
  refine pwp_exit ?_
  refine srve 41 [(4, I x1)] [] ?_
  cases h
  exact pwp_ret rz
def laws_eqValueSS_l0 (a0 : List (List T_impl_Value)) (a1 : List (List T_impl_Value)) : Nat → Int → Option Bool
  | 0, _ => none
  | f3 + 1, x2 => bif (decide (x2 < ((a0.length : Int)))) then (getI a0 x2).bind fun v6 => (getI a1 x2).bind fun v8 => (laws_eqValueS v6 v8).bind fun v10 => bif (!v10) then some false else (laws_eqValueSS_l0 a0 a1 f3) ((w64 (x2 + 1))) else some true
def laws_eqValueSS (a0 : List (List T_impl_Value)) (a1 : List (List T_impl_Value)) : Option Bool := bif (!(((a0.length : Int)) == ((a1.length : Int)))) then some false else laws_eqValueSS_l0 a0 a1 FUEL 0
theorem ok_laws_eqValueSS {a0 : List (List T_impl_Value)} {a1 : List (List T_impl_Value)} {y : Bool} (h : laws_eqValueSS a0 a1 = some y) : OK Tryz.prog 50 [A a0, A a1] (B y) := by
  refine OK_of_pwp τ_ok Tryz.func50 rfl (by kernel_rfl) rfl fun Γ hX => ?_
  unfold laws_eqValueSS at h
  refine srve 27 [(0, A a0), (1, A a1)] [] ?_
  refine pwp_seq ?_
  refine srve 27 [(0, A a0), (1, A a1), (10, B ((!(((a0.length : Int)) == ((a1.length : Int))))))] [] ?_
  refine pc h (fun h => ?_) (fun h => ?_)
  refine srve 27 [(4, B false)] [] ?_
  cases h
  exact pwp_ret rz
  refine pwp_skip ?_
  refine pwp_seq ?_
  refine srve 27 [(0, A a0), (1, A a1), (5, I 0)] [] ?_
  refine pwp_block ?_
  refine pwp_loop (ι := Nat × Int) (fun (f3, x2) => (⟨27, [(0, A a0), (1, A a1), (5, I x2)], []⟩ : St)) (fun (f3, x2) => laws_eqValueSS_l0 a0 a1 f3 x2 = some y) (fun (f3, x2) => f3) (FUEL, 0) h ((Imp.to (st' := ⟨27, [(0, A a0), (1, A a1), (5, I 0)], []⟩) [0, 1, 5] (by kernel_rfl)).trans (Imp.to [0, 1, 5] (by kernel_rfl))) ?_
  rintro ⟨f3, x2⟩ h
  dsimp only at h ⊢
  rcases f3 with _ | f3
  cases h
  rw [laws_eqValueSS_l0] at h
  refine pwp_seq ?_
  refine srve 27 [(0, A a0), (1, A a1), (5, I x2), (14, B ((decide (x2 < ((a0.length : Int))))))] [] ?_
  refine pc h (fun h => ?_) (fun h => ?_)
  refine pwp_skip ?_
  refine pwp_seq ?_
  refine pwp_block ?_
  refine pwp_seq ?_
  refine pwp_imp (Imp.to (st' := ⟨27, [(0, A a0), (1, A a1), (5, I x2)], []⟩) [0, 1, 5] (by kernel_rfl)) ?_
  refine pwp_any ([[], [], [], [], [], [], [], [], [], []]) ([[], [], [], [], [], [], [], [], [], []]) rfl (by kernel_rfl) ?_
  refine qA_ev (st' := ⟨27, [(18, I x2), (17, A a0), (0, A a0), (1, A a1), (5, I x2)], []⟩) τ_ok [] [] 2 (by exact trivial) (by kernel_rfl) ?_
  obtain ⟨v6, hv7, h⟩ := bindS h
  refine qA_E (dd := some 19) (x := .fptr (Enc.cells v6) 0) ([]) (⟨27, [(19, .fptr (Enc.cells v6) 0), (18, I x2), (17, A a0), (0, A a0), (1, A a1), (5, I x2)], []⟩) (fun Γ' hΓ => CoreE.of_y (idxV_sound τ_ok (by kernel_rfl) hv7)) (by kernel_rfl) (by kernel_rfl) (by exact trivial) (.inr (.inr rfl)) (by kernel_rfl) ?_
  refine qA_ev (st' := ⟨27, [(22, I x2), (21, A a1), (20, A v6), (19, .fptr (Enc.cells v6) 0), (18, I x2), (17, A a0), (0, A a0), (1, A a1), (5, I x2)], []⟩) τ_ok [] [] 3 (by exact trivial) (by kernel_rfl) ?_
  obtain ⟨v8, hv9, h⟩ := bindS h
  refine qA_E (dd := some 23) (x := .fptr (Enc.cells v8) 0) ([]) (⟨27, [(23, .fptr (Enc.cells v8) 0), (22, I x2), (21, A a1), (20, A v6), (19, .fptr (Enc.cells v6) 0), (18, I x2), (17, A a0), (0, A a0), (1, A a1), (5, I x2)], []⟩) (fun Γ' hΓ => CoreE.of_y (idxV_sound τ_ok (by kernel_rfl) hv9)) (by kernel_rfl) (by kernel_rfl) (by exact trivial) (.inr (.inr rfl)) (by kernel_rfl) ?_
  refine qA_ev (st' := ⟨27, [(24, A v8), (23, .fptr (Enc.cells v8) 0), (22, I x2), (21, A a1), (20, A v6), (19, .fptr (Enc.cells v6) 0), (18, I x2), (17, A a0), (0, A a0), (1, A a1), (5, I x2)], []⟩) τ_ok [] [] 1 (by exact trivial) (by kernel_rfl) ?_
  obtain ⟨v10, hv11, h⟩ := bindS h
  refine qA_E (dd := some 25) (x := B v10) ([]) (⟨27, [(25, B v10), (24, A v8), (23, .fptr (Enc.cells v8) 0), (22, I x2), (21, A a1), (20, A v6), (19, .fptr (Enc.cells v6) 0), (18, I x2), (17, A a0), (0, A a0), (1, A a1), (5, I x2)], []⟩) (fun Γ' hΓ => CoreE.of_g (callV_sound (τ := τ) (by kernel_rfl) rfl (ok_laws_eqValueS hv11) (FzTo.frz rfl))) (by kernel_rfl) (by kernel_rfl) (by exact trivial) (.inr (.inr rfl)) (by kernel_rfl) ?_
  refine qA_ev (st' := ⟨27, [(26, B ((!v10))), (25, B v10), (24, A v8), (23, .fptr (Enc.cells v8) 0), (22, I x2), (21, A a1), (20, A v6), (19, .fptr (Enc.cells v6) 0), (18, I x2), (17, A a0), (0, A a0), (1, A a1), (5, I x2)], []⟩) τ_ok [] [] 1 (by exact trivial) (by kernel_rfl) ?_
  refine qA_end ?_
  refine opsP_imp (Imp.to (st' := ⟨27, [(0, A a0), (1, A a1), (5, I x2), (26, B ((!v10)))], []⟩) [0, 1, 5, 26] (by kernel_rfl)) ?_
  refine opsP_end rfl ?_
  refine pc h (fun h => ?_) (fun h => ?_)
  refine srve 27 [(4, B false)] [] ?_
  cases h
  exact pwp_ret rz
  refine pwp_skip ?_
  refine rve 27 [(0, A a0), (1, A a1), (5, I ((w64 (x2 + 1))))] [] ?_
  exact ⟨(f3, (w64 (x2 + 1))), h, Nat.lt_succ_self _, (Imp.to (st' := ⟨27, [(0, A a0), (1, A a1), (5, I ((w64 (x2 + 1))))], []⟩) [0, 1, 5] (by kernel_rfl)).trans (Imp.to [0, 1, 5] (by kernel_rfl))⟩
  refine pwp_exit ?_
  refine srve 27 [(4, B true)] [] ?_
  cases h
  exact pwp_ret rz
def laws_markValueSS_l0 : Nat → Int → Int → (List (List T_impl_Value)) → Option (Int × List (List T_impl_Value))
  | 0, _, _, _ => none
  | f5 + 1, x2, x3, x4 => bif (decide (x3 < ((x4.length : Int)))) then (getI x4 x3).bind fun v8 => (laws_markValueS v8 x2).bind fun v10 => (laws_markValueSS_l0 f5) v10.1 ((w64 (x3 + 1))) ((x4.set x3.toNat v10.2)) else some (x2, x4)
def laws_markValueSS (a0 : List (List T_impl_Value)) (a1 : Int) : Option (Int × List (List T_impl_Value)) := laws_markValueSS_l0 FUEL a1 0 a0
theorem len_laws_markValueSS_l0 : ∀ (f5 : Nat) (x2 : Int) (x3 : Int) (x4 : List (List T_impl_Value)) (y : Int × List (List T_impl_Value)), laws_markValueSS_l0 f5 x2 x3 x4 = some y → y.2.length = x4.length
  | 0, _, _, _, _, h => by cases h
  | f5 + 1, x2, x3, x4, y, h => by
    rw [laws_markValueSS_l0] at h
    rcases condS h with h | h
    · obtain ⟨_, _, h⟩ := bindS h
      obtain ⟨_, _, h⟩ := bindS h
      have h2 := len_laws_markValueSS_l0 f5 _ _ _ _ h
      simp only [List.length_set] at h2
      exact h2
    · cases h; rfl
theorem len_laws_markValueSS {a0 : List (List T_impl_Value)} {a1 : Int} {y : Int × List (List T_impl_Value)} (h : laws_markValueSS a0 a1 = some y) : y.2.length = a0.length := by
  unfold laws_markValueSS at h
  exact len_laws_markValueSS_l0 _ _ _ _ _ h
theorem ok_laws_markValueSS {a0 : List (List T_impl_Value)} {a1 : Int} {y : Int × List (List T_impl_Value)} (h : laws_markValueSS a0 a1 = some y) : OKd Tryz.prog 51 1 a0.length (dL a0) [I a1] (.int .i64 y.1) (dL y.2) := by
  refine OKd_of_pwp τ_ok Tryz.func51 rfl (by kernel_rfl) rfl (dL_oc _) (dL_oc _) (dL_bl _) (dL_bl _) rfl (fun hl => by rw [dL_len, len_laws_markValueSS h, ← dL_len]; exact hl) fun Γ => ?_
  refine pwp_imp (Imp.to (st' := ⟨19, [(0, .ref 0 0 0 1 a0.length false), (1, I a1)], [some ⟨0, dL a0⟩]⟩) [0, 1] (by kernel_rfl)) ?_
  unfold laws_markValueSS at h
  refine srve 19 [(0, .ref 0 0 0 1 a0.length false), (1, I a1)] [some ⟨0, dL a0⟩] ?_
  refine pwp_seq ?_
  refine srve 19 [(0, .ref 0 0 0 1 a0.length false), (1, I a1), (5, I 0)] [some ⟨0, dL a0⟩] ?_
  refine pwp_block ?_
  refine pwp_loop (ι := Nat × Int × Int × (List (List T_impl_Value))) (fun (f5, x2, x3, x4) => (⟨19, [(0, .ref 0 0 0 1 x4.length false), (1, I x2), (5, I x3)], [some ⟨0, dL x4⟩]⟩ : St)) (fun (f5, x2, x3, x4) => laws_markValueSS_l0 f5 x2 x3 x4 = some y) (fun (f5, x2, x3, x4) => f5) (FUEL, a1, 0, a0) h ((Imp.to (st' := ⟨19, [(0, .ref 0 0 0 1 a0.length false), (1, I a1), (5, I 0)], [some ⟨0, dL a0⟩]⟩) [0, 1, 5] (by kernel_rfl)).trans (Imp.to [0, 1, 5] (by kernel_rfl))) ?_
  rintro ⟨f5, x2, x3, x4⟩ h
  dsimp only at h ⊢
  rcases f5 with _ | f5
  cases h
  rw [laws_markValueSS_l0] at h
  refine pwp_seq ?_
  refine srve 19 [(0, .ref 0 0 0 1 x4.length false), (1, I x2), (5, I x3), (9, B ((decide (x3 < ((x4.length : Int))))))] [some ⟨0, dL x4⟩] ?_
  refine pc h (fun h => ?_) (fun h => ?_)
  refine pwp_skip ?_
  refine pwp_seq ?_
  refine pwp_block ?_
  refine rv 2 19 [(0, .ref 0 0 0 1 x4.length false), (1, I x2), (5, I x3), (12, .ref 0 0 0 1 x4.length false), (13, I x3)] [some ⟨0, dL x4⟩] ?_
  obtain ⟨v8, hv9, h⟩ := bindS h
  refine opsP_idr τ_ok 14 0 0 x4.length hv9 rfl (by kernel_rfl) ?_
  refine opsP_imp (Imp.to (st' := ⟨19, [(0, .ref 0 0 0 1 x4.length false), (1, I x2), (5, I x3), (12, .ref 0 0 0 1 x4.length false), (13, I x3), (14, .ptr 0 0 (x3.toNat * 1))], [some ⟨0, dL x4⟩]⟩) [0, 1, 5, 12, 13, 14] (by kernel_rfl)) ?_
  refine opsP_imp (Imp.ghosts 1 (st' := ⟨19, [(0, .ref 0 0 0 1 x4.length false), (1, I x2), (5, I x3), (12, .ref 0 0 0 1 x4.length false), (13, I x3), (14, .ptr 0 0 (x3.toNat * 1))], [some ⟨0, dL x4⟩, some ⟨0, []⟩]⟩) (by kernel_rfl)) ?_
  refine opsP_E (dd := some 15) (x := .ref 1 1 0 3 v8.length false) (CoreE.pre (H1 := [some ⟨0, setL (dL x4) (x3.toNat * 1 + 0) [.ref 1 1 0 3 v8.length false]⟩, some ⟨1, eL v8⟩]) (HStep.openL (cs0 := []) (xs := x4) (s := 3) (n := v8.length) (f := false) (cs := eL v8) 0 0 1 0 0 hv9 (by kernel_rfl) (by kernel_rfl) (by kernel_rfl) (by kernel_rfl) (by decide) (fun _ _ => by decide) (by kernel_rfl)) (ldo_E (xs := x4) τ_ok 15 36 0 hv9 (by kernel_rfl) (by kernel_rfl) (by kernel_rfl))) ?_
  refine v 1 19 [(0, .ref 0 0 0 1 x4.length false), (5, I x3), (15, .ref 1 1 0 3 v8.length false), (16, I x2)] [some ⟨0, setL (dL x4) (x3.toNat * 1 + 0) [.ref 1 1 0 3 v8.length false]⟩, some ⟨1, eL v8⟩] ?_
  obtain ⟨v10, hv11, h⟩ := bindS h
  refine opsP_E (dd := some 17) (x := I v10.1) ((callD_E τ 17 1 1 (ok_laws_markValueS hv11) (by kernel_rfl)).then (H2 := [some ⟨0, dL ((x4.set x3.toNat v10.2))⟩, some ⟨2, []⟩]) (HStep.nestL (xs := x4) (vs := [.ref 1 1 0 3 v8.length false]) 0 0 0 v10.2 hv9 (by kernel_rfl) (OutL.cons (OutP.listn (v := 1) (xs := v10.2) (len_laws_markValueS hv11) (by kernel_rfl)) (OutL.nil _)) (by decide) (by decide) (fun _ _ => by decide) (by kernel_rfl) (by kernel_rfl) (by kernel_rfl) (by kernel_rfl))) ?_
  refine opsP_imp (Imp.to (st' := ⟨19, [(0, .ref 0 0 0 1 x4.length false), (5, I x3), (16, I x2), (17, I v10.1)], [some ⟨0, dL ((x4.set x3.toNat v10.2))⟩, some ⟨2, []⟩]⟩) [0, 5, 16, 17] (by kernel_rfl)) ?_
  refine opsP_ren (st' := ⟨19, [(0, .ref 0 0 0 1 ((x4.set x3.toNat v10.2)).length false), (5, I x3), (16, I x2), (17, I v10.1)], [some ⟨0, dL ((x4.set x3.toNat v10.2))⟩, some ⟨2, []⟩]⟩) 0 ((x4.set x3.toNat v10.2)).length (renC (ren_ref (List.length_set ..).symm) (renC trivial (renC trivial (renC trivial renC0)))) (by kernel_rfl) ?_
  refine ve 1 19 [(0, .ref 0 0 0 1 ((x4.set x3.toNat v10.2)).length false), (1, I v10.1), (5, I x3)] [some ⟨0, dL ((x4.set x3.toNat v10.2))⟩, some ⟨2, []⟩] ?_
  refine rve 19 [(0, .ref 0 0 0 1 ((x4.set x3.toNat v10.2)).length false), (1, I v10.1), (5, I ((w64 (x3 + 1))))] [some ⟨0, dL ((x4.set x3.toNat v10.2))⟩, some ⟨2, []⟩] ?_
  exact ⟨(f5, v10.1, (w64 (x3 + 1)), (x4.set x3.toNat v10.2)), h, Nat.lt_succ_self _, (Imp.to (st' := ⟨19, [(0, .ref 0 0 0 1 ((x4.set x3.toNat v10.2)).length false), (1, I v10.1), (5, I ((w64 (x3 + 1))))], [some ⟨0, dL ((x4.set x3.toNat v10.2))⟩, some ⟨2, []⟩]⟩) [0, 1, 5] (by kernel_rfl)).trans ((Imp.truncS (st' := ⟨19, [(0, .ref 0 0 0 1 ((x4.set x3.toNat v10.2)).length false), (1, I v10.1), (5, I ((w64 (x3 + 1))))], [some ⟨0, dL ((x4.set x3.toNat v10.2))⟩]⟩) 1 (fun _ _ => by decide) (by kernel_rfl) (allBelow_mem (by exact (And.intro rfl (And.intro rfl (And.intro rfl trivial))))) (by exact (And.intro (dL_below _ _) trivial)) (by kernel_rfl)).trans (Imp.to [0, 1, 5] (by kernel_rfl)))⟩
  refine pwp_exit ?_
  refine srve 19 [(4, I x2)] [some ⟨0, dL x4⟩] ?_
  have h := si h
  subst h
  exact pwp_ret ⟨.inr rfl, 0, by kernel_rfl, by kernel_rfl⟩
def laws_szValueS_l0 (a0 : List T_laws_Value) : Nat → Int → Int → Option Int
  | 0, _, _ => none
  | f4 + 1, x2, x3 => bif (decide (x3 < ((a0.length : Int)))) then (getI a0 x3).bind fun v7 => (laws_szValue v7 x2).bind fun v9 => bif (decide (v9 < 0)) then some (-1) else (laws_szValueS_l0 a0 f4) v9 ((w64 (x3 + 1))) else some x2
def laws_szValueS (a0 : List T_laws_Value) (a1 : Int) : Option Int := bif (decide (((w64 (a1 - ((a0.length : Int))))) < 0)) then some (-1) else laws_szValueS_l0 a0 FUEL ((w64 (a1 - ((a0.length : Int))))) 0
theorem ok_laws_szValueS {a0 : List T_laws_Value} {a1 : Int} {y : Int} (h : laws_szValueS a0 a1 = some y) : OK Tryz.prog 59 [A a0, I a1] (I y) := by
  refine OK_of_pwp τ_ok Tryz.func59 rfl (by kernel_rfl) rfl fun Γ hX => ?_
  unfold laws_szValueS at h
  refine srve 27 [(0, A a0), (1, I a1)] [] ?_
  refine srve 27 [(0, A a0), (1, I ((w64 (a1 - ((a0.length : Int))))))] [] ?_
  refine pwp_seq ?_
  refine srve 27 [(0, A a0), (1, I ((w64 (a1 - ((a0.length : Int)))))), (11, B ((decide (((w64 (a1 - ((a0.length : Int))))) < 0))))] [] ?_
  refine pc h (fun h => ?_) (fun h => ?_)
  refine srve 27 [(4, I (-1))] [] ?_
  cases h
  exact pwp_ret rz
  refine pwp_skip ?_
  refine pwp_seq ?_
  refine srve 27 [(0, A a0), (1, I ((w64 (a1 - ((a0.length : Int)))))), (5, I 0)] [] ?_
  refine pwp_block ?_
  refine pwp_loop (ι := Nat × Int × Int) (fun (f4, x2, x3) => (⟨27, [(0, A a0), (1, I x2), (5, I x3)], []⟩ : St)) (fun (f4, x2, x3) => laws_szValueS_l0 a0 f4 x2 x3 = some y) (fun (f4, x2, x3) => f4) (FUEL, (w64 (a1 - ((a0.length : Int)))), 0) h ((Imp.to (st' := ⟨27, [(0, A a0), (1, I ((w64 (a1 - ((a0.length : Int)))))), (5, I 0)], []⟩) [0, 1, 5] (by kernel_rfl)).trans (Imp.to [0, 1, 5] (by kernel_rfl))) ?_
  rintro ⟨f4, x2, x3⟩ h
  dsimp only at h ⊢
  rcases f4 with _ | f4
  cases h
  rw [laws_szValueS_l0] at h
  refine pwp_seq ?_
  refine srve 27 [(0, A a0), (1, I x2), (5, I x3), (15, B ((decide (x3 < ((a0.length : Int))))))] [] ?_
  refine pc h (fun h => ?_) (fun h => ?_)
  refine pwp_skip ?_
  refine pwp_seq ?_
  refine pwp_block ?_
  refine srv 2 27 [(0, A a0), (1, I x2), (5, I x3), (18, A a0), (19, I x3)] [] ?_
  obtain ⟨v7, hv8, h⟩ := bindS h
  refine opsP_idx τ_ok 20 hv8 (by kernel_rfl) ?_
  refine v 2 27 [(0, A a0), (5, I x3), (21, E v7), (22, I x2)] [] ?_
  obtain ⟨v9, hv10, h⟩ := bindS h
  refine opsP_callF τ 23 (ok_laws_szValue hv10) (FzTo.frz rfl) rfl (by kernel_rfl) ?_
  refine ve 1 27 [(0, A a0), (1, I v9), (5, I x3)] [] ?_
  refine srve 27 [(0, A a0), (1, I v9), (5, I x3), (25, B ((decide (v9 < 0))))] [] ?_
  refine pc h (fun h => ?_) (fun h => ?_)
  refine srve 27 [(4, I (-1))] [] ?_
  cases h
  exact pwp_ret rz
  refine pwp_skip ?_
  refine rve 27 [(0, A a0), (1, I v9), (5, I ((w64 (x3 + 1))))] [] ?_
  exact ⟨(f4, v9, (w64 (x3 + 1))), h, Nat.lt_succ_self _, (Imp.to (st' := ⟨27, [(0, A a0), (1, I v9), (5, I ((w64 (x3 + 1))))], []⟩) [0, 1, 5] (by kernel_rfl)).trans (Imp.to [0, 1, 5] (by kernel_rfl))⟩
  refine pwp_exit ?_
  refine srve 27 [(4, I x2)] [] ?_
  cases h
  exact pwp_ret rz
def laws_toValueS_l0 (a0 : List T_laws_Value) : Nat → Int → (List T_impl_Value) → Option (List T_impl_Value)
  | 0, _, _ => none
  | f6 + 1, x4, x5 => bif (decide (x4 < ((a0.length : Int)))) then (getI a0 x4).bind fun v9 => (laws_toValue v9).bind fun v11 => (getI x5 x4).bind fun v13 => (laws_toValueS_l0 a0 f6) ((w64 (x4 + 1))) ((x5.set x4.toNat v11)) else some x5
def laws_toValueS (a0 : List T_laws_Value) : Option (List T_impl_Value) := (mkI ((a0.length : Int)) ((T_impl_Value.mk 0 0 (ByteArray.mk #[])))).bind fun v1 => laws_toValueS_l0 a0 FUEL 0 v1
theorem ok_laws_toValueS {a0 : List T_laws_Value} {y : List T_impl_Value} (h : laws_toValueS a0 = some y) : OK Tryz.prog 64 [A a0] (O y) := by
  refine OK_of_pwp τ_ok Tryz.func64 rfl (by kernel_rfl) rfl fun Γ hX => ?_
  unfold laws_toValueS at h
  refine srve 23 [(0, A a0)] [] ?_
  refine srv 2 23 [(0, A a0), (6, I ((a0.length : Int)))] [] ?_
  obtain ⟨v1, hv2, h⟩ := bindS h
  refine opsP_mk τ_ok 7 0 _ hv2 (by kernel_rfl) (by kernel_rfl) ?_
  refine ve 1 23 [(0, A a0), (3, .ref 0 0 0 3 v1.length false)] [some ⟨0, eL v1⟩] ?_
  refine pwp_seq ?_
  refine srve 23 [(0, A a0), (3, .ref 0 0 0 3 v1.length false), (4, I 0)] [some ⟨0, eL v1⟩] ?_
  refine pwp_block ?_
  refine pwp_loop (ι := Nat × Int × (List T_impl_Value)) (fun (f6, x4, x5) => (⟨23, [(0, A a0), (3, .ref 0 0 0 3 x5.length false), (4, I x4)], [some ⟨0, eL x5⟩]⟩ : St)) (fun (f6, x4, x5) => laws_toValueS_l0 a0 f6 x4 x5 = some y) (fun (f6, x4, x5) => f6) (FUEL, 0, v1) h ((Imp.to (st' := ⟨23, [(0, A a0), (3, .ref 0 0 0 3 v1.length false), (4, I 0)], [some ⟨0, eL v1⟩]⟩) [0, 3, 4] (by kernel_rfl)).trans (Imp.to [0, 3, 4] (by kernel_rfl))) ?_
  rintro ⟨f6, x4, x5⟩ h
  dsimp only at h ⊢
  rcases f6 with _ | f6
  cases h
  rw [laws_toValueS_l0] at h
  refine pwp_seq ?_
  refine srve 23 [(0, A a0), (3, .ref 0 0 0 3 x5.length false), (4, I x4), (11, B ((decide (x4 < ((a0.length : Int))))))] [some ⟨0, eL x5⟩] ?_
  refine pc h (fun h => ?_) (fun h => ?_)
  refine pwp_skip ?_
  refine pwp_seq ?_
  refine pwp_block ?_
  refine rv 4 23 [(0, A a0), (3, .ref 0 0 0 3 x5.length false), (4, I x4), (14, .ref 0 0 0 3 x5.length false), (15, I x4), (16, A a0), (17, I x4)] [some ⟨0, eL x5⟩] ?_
  obtain ⟨v9, hv10, h⟩ := bindS h
  refine opsP_idx τ_ok 18 hv10 (by kernel_rfl) ?_
  refine v 1 23 [(0, A a0), (3, .ref 0 0 0 3 x5.length false), (4, I x4), (14, .ref 0 0 0 3 x5.length false), (15, I x4), (19, E v9)] [some ⟨0, eL x5⟩] ?_
  obtain ⟨v11, hv12, h⟩ := bindS h
  refine opsP_callF τ 20 (ok_laws_toValue hv12) (FzTo.frz rfl) rfl (by kernel_rfl) ?_
  obtain ⟨v13, hv14, h⟩ := bindS h
  refine opsP_idr τ_ok 21 0 0 x5.length hv14 rfl (by kernel_rfl) ?_
  refine v 0 23 [(0, A a0), (3, .ref 0 0 0 3 x5.length false), (4, I x4), (20, E v11), (21, .ptr 0 0 (x4.toNat * 3))] [some ⟨0, eL x5⟩] ?_
  refine opsP_ste (vs := [I v11.fKind, I v11.fN, S v11.fS]) τ_ok 117 0 0 0 v11 hv14 (by kernel_rfl) (by kernel_rfl) (by kernel_rfl) (renC trivial (renC (ren_ref (List.length_set ..).symm) (renC trivial (renC trivial (renC trivial renC0))))) ?_
  refine ve 0 23 [(0, A a0), (3, .ref 0 0 0 3 ((x5.set x4.toNat v11)).length false), (4, I x4)] [some ⟨0, eL ((x5.set x4.toNat v11))⟩] ?_
  refine rve 23 [(0, A a0), (3, .ref 0 0 0 3 ((x5.set x4.toNat v11)).length false), (4, I ((w64 (x4 + 1))))] [some ⟨0, eL ((x5.set x4.toNat v11))⟩] ?_
  exact ⟨(f6, (w64 (x4 + 1)), (x5.set x4.toNat v11)), h, Nat.lt_succ_self _, (Imp.to (st' := ⟨23, [(0, A a0), (3, .ref 0 0 0 3 ((x5.set x4.toNat v11)).length false), (4, I ((w64 (x4 + 1))))], [some ⟨0, eL ((x5.set x4.toNat v11))⟩]⟩) [0, 3, 4] (by kernel_rfl)).trans (Imp.to [0, 3, 4] (by kernel_rfl))⟩
  refine pwp_exit ?_
  refine srve 23 [(2, .ref 0 0 0 3 x5.length false)] [some ⟨0, eL x5⟩] ?_
  have h := si h
  subst h
  exact pwp_ret (rt (.ref 0 0 0 3 x5.length false) (OutP.list (v := 0) (by kernel_rfl)))
def laws_szPart (a0 : T_laws_Part) (a1 : Int) : Option Int := (laws_szValue a0.fV a1).bind fun v1 => bif (decide (v1 < 0)) then some (-1) else some v1
theorem ok_laws_szPart {a0 : T_laws_Part} {a1 : Int} {y : Int} (h : laws_szPart a0 a1 = some y) : OK Tryz.prog 71 [E a0, I a1] (I y) := by
  refine OK_of_pwp τ_ok Tryz.func71 rfl (by kernel_rfl) rfl fun Γ hX => ?_
  unfold laws_szPart at h
  refine srve 12 [(1, I a1), (2, .fptr (Enc.cells a0) 0)] [] ?_
  refine srv 3 12 [(6, E a0.fV), (7, I a1)] [] ?_
  obtain ⟨v1, hv2, h⟩ := bindS h
  refine opsP_callF τ 8 (ok_laws_szValue hv2) (FzTo.frz rfl) rfl (by kernel_rfl) ?_
  refine ve 1 12 [(1, I v1)] [] ?_
  refine pwp_seq ?_
  refine srve 12 [(1, I v1), (10, B ((decide (v1 < 0))))] [] ?_
  refine pc h (fun h => ?_) (fun h => ?_)
  refine srve 12 [(4, I (-1))] [] ?_
  cases h
  exact pwp_ret rz
  refine pwp_skip ?_
  refine srve 12 [(4, I v1)] [] ?_
  cases h
  exact pwp_ret rz
def laws_toPart (a0 : T_laws_Part) : Option T_impl_Part := (laws_toValue a0.fV).bind fun v1 => some ({ (({ (({ ((T_impl_Part.mk 0 0 (T_impl_Value.mk 0 0 (ByteArray.mk #[])))) with fKind := a0.fKind }) : T_impl_Part) with fN := a0.fN }) : T_impl_Part) with fV := v1 })
theorem ok_laws_toPart {a0 : T_laws_Part} {y : T_impl_Part} (h : laws_toPart a0 = some y) : OK Tryz.prog 77 [E a0] (E y) := by
  refine OK_of_pwp τ_ok Tryz.func77 rfl (by kernel_rfl) rfl fun Γ hX => ?_
  unfold laws_toPart at h
  refine srveM [2, 3] 15 [(1, .fptr (Enc.cells a0) 0), (2, .ptr 0 0 0)] [some ⟨0, Enc.cells ((T_impl_Part.mk 0 0 (T_impl_Value.mk 0 0 (ByteArray.mk #[]))))⟩] ?_
  refine srveM [2, 3] 15 [(1, .fptr (Enc.cells a0) 0), (2, .ptr 0 0 0), (3, .ptr 1 0 0)] [some ⟨0, Enc.cells ((T_impl_Part.mk 0 0 (T_impl_Value.mk 0 0 (ByteArray.mk #[]))))⟩, some ⟨0, Enc.cells ((T_impl_Part.mk 0 0 (T_impl_Value.mk 0 0 (ByteArray.mk #[]))))⟩] ?_
  refine srveM [2, 3] 15 [(1, .fptr (Enc.cells a0) 0), (2, .ptr 0 0 0), (3, .ptr 1 0 0)] [some ⟨0, Enc.cells ((T_impl_Part.mk 0 0 (T_impl_Value.mk 0 0 (ByteArray.mk #[]))))⟩, some ⟨0, Enc.cells ({ ((T_impl_Part.mk 0 0 (T_impl_Value.mk 0 0 (ByteArray.mk #[])))) with fKind := a0.fKind })⟩] ?_
  refine srveM [2, 3] 15 [(1, .fptr (Enc.cells a0) 0), (2, .ptr 0 0 0), (3, .ptr 1 0 0)] [some ⟨0, Enc.cells ((T_impl_Part.mk 0 0 (T_impl_Value.mk 0 0 (ByteArray.mk #[]))))⟩, some ⟨0, Enc.cells ({ (({ ((T_impl_Part.mk 0 0 (T_impl_Value.mk 0 0 (ByteArray.mk #[])))) with fKind := a0.fKind }) : T_impl_Part) with fN := a0.fN })⟩] ?_
  refine srvM [2, 3] 2 15 [(2, .ptr 0 0 0), (3, .ptr 1 0 0), (11, E a0.fV)] [some ⟨0, Enc.cells ((T_impl_Part.mk 0 0 (T_impl_Value.mk 0 0 (ByteArray.mk #[]))))⟩, some ⟨0, Enc.cells ({ (({ ((T_impl_Part.mk 0 0 (T_impl_Value.mk 0 0 (ByteArray.mk #[])))) with fKind := a0.fKind }) : T_impl_Part) with fN := a0.fN })⟩] ?_
  obtain ⟨v1, hv2, h⟩ := bindS h
  refine opsP_callF τ 12 (ok_laws_toValue hv2) (FzTo.frz rfl) rfl (by kernel_rfl) ?_
  refine veM [2, 3] 2 15 [(2, .ptr 0 0 0), (3, .ptr 1 0 0)] [some ⟨0, Enc.cells ((T_impl_Part.mk 0 0 (T_impl_Value.mk 0 0 (ByteArray.mk #[]))))⟩, some ⟨0, Enc.cells ({ (({ (({ ((T_impl_Part.mk 0 0 (T_impl_Value.mk 0 0 (ByteArray.mk #[])))) with fKind := a0.fKind }) : T_impl_Part) with fN := a0.fN }) : T_impl_Part) with fV := v1 })⟩] ?_
  refine srveM [2, 3] 15 [(2, .ptr 0 0 0)] [some ⟨0, Enc.cells ({ (({ (({ ((T_impl_Part.mk 0 0 (T_impl_Value.mk 0 0 (ByteArray.mk #[])))) with fKind := a0.fKind }) : T_impl_Part) with fN := a0.fN }) : T_impl_Part) with fV := v1 })⟩, some ⟨0, Enc.cells ({ (({ (({ ((T_impl_Part.mk 0 0 (T_impl_Value.mk 0 0 (ByteArray.mk #[])))) with fKind := a0.fKind }) : T_impl_Part) with fN := a0.fN }) : T_impl_Part) with fV := v1 })⟩] ?_
  cases h
  exact pwp_ret rz
def spec_ValueOk (a0 : T_impl_Value) : Option Bool := bif (a0.fKind == 0) then bif (a0.fN == 0) then some ((a0.fS.toList == ((ByteArray.mk #[])).toList)) else some false else bif (a0.fKind == 1) then (spec_l1In a0.fN (-9999) 9999).bind fun v4 => bif v4 then some ((a0.fS.toList == ((ByteArray.mk #[])).toList)) else some false else bif (a0.fKind == 2) then bif (a0.fN == 0) then (spec_l1Text a0.fS).bind fun v8 => some v8 else some false else bif (a0.fKind == 3) then (spec_l1In a0.fN 0 1).bind fun v12 => bif v12 then some ((a0.fS.toList == ((ByteArray.mk #[])).toList)) else some false else some false
theorem ok_spec_ValueOk {a0 : T_impl_Value} {y : Bool} (h : spec_ValueOk a0 = some y) : OK Tryz.prog 152 [E a0] (B y) := by
  refine OK_of_pwp τ_ok Tryz.func152 rfl (by kernel_rfl) rfl fun Γ hX => ?_
  unfold spec_ValueOk at h
  refine srve 45 [(1, .fptr (Enc.cells a0) 0)] [] ?_
  refine pwp_seq ?_
  refine srve 45 [(1, .fptr (Enc.cells a0) 0), (4, I a0.fKind)] [] ?_
  refine pwp_block ?_
  refine srve 45 [(1, .fptr (Enc.cells a0) 0), (4, I a0.fKind), (5, B ((a0.fKind == 0)))] [] ?_
  refine pc h (fun h => ?_) (fun h => ?_)
  refine srv 4 45 [(1, .fptr (Enc.cells a0) 0), (10, B ((a0.fN == 0)))] [] ?_
  rcases fk ((a0.fN == 0)) with hc2 | hc2
  replace h := bT hc2 h
  rw [hc2]
  refine ve 5 45 [(2, B ((a0.fS.toList == ((ByteArray.mk #[])).toList)))] [] ?_
  cases h
  exact pwp_ret rz
  replace h := bF hc2 h
  rw [hc2]
  refine ve 5 45 [(2, B false)] [] ?_
  cases h
  exact pwp_ret rz
  refine srve 45 [(1, .fptr (Enc.cells a0) 0), (4, I a0.fKind), (15, B ((a0.fKind == 1)))] [] ?_
  refine pc h (fun h => ?_) (fun h => ?_)
  refine srv 2 45 [(1, .fptr (Enc.cells a0) 0), (18, I a0.fN)] [] ?_
  obtain ⟨v4, hv5, h⟩ := bindS h
  refine opsP_callF τ 19 (ok_spec_l1In hv5) (FzTo.frz rfl) rfl (by kernel_rfl) ?_
  refine v 1 45 [(1, .fptr (Enc.cells a0) 0), (20, B v4)] [] ?_
  rcases Bool.eq_false_or_eq_true v4 with hc6 | hc6
  replace h := bT hc6 h
  rw [hc6]
  refine ve 5 45 [(2, B ((a0.fS.toList == ((ByteArray.mk #[])).toList)))] [] ?_
  cases h
  exact pwp_ret rz
  replace h := bF hc6 h
  rw [hc6]
  refine ve 5 45 [(2, B false)] [] ?_
  cases h
  exact pwp_ret rz
  refine srve 45 [(1, .fptr (Enc.cells a0) 0), (4, I a0.fKind), (25, B ((a0.fKind == 2)))] [] ?_
  refine pc h (fun h => ?_) (fun h => ?_)
  refine srv 4 45 [(1, .fptr (Enc.cells a0) 0), (30, B ((a0.fN == 0)))] [] ?_
  rcases fk ((a0.fN == 0)) with hc10 | hc10
  replace h := bT hc10 h
  rw [hc10]
  refine v 2 45 [(30, B true), (32, S a0.fS)] [] ?_
  obtain ⟨v8, hv9, h⟩ := bindS h
  refine opsP_callF τ 33 (ok_spec_l1Text hv9) (FzTo.frz rfl) rfl (by kernel_rfl) ?_
  refine ve 2 45 [(2, B v8)] [] ?_
  cases h
  exact pwp_ret rz
  replace h := bF hc10 h
  rw [hc10]
  refine ve 5 45 [(2, B false)] [] ?_
  cases h
  exact pwp_ret rz
  refine srve 45 [(1, .fptr (Enc.cells a0) 0), (35, B ((a0.fKind == 3)))] [] ?_
  refine pc h (fun h => ?_) (fun h => ?_)
  refine srv 2 45 [(1, .fptr (Enc.cells a0) 0), (38, I a0.fN)] [] ?_
  obtain ⟨v12, hv13, h⟩ := bindS h
  refine opsP_callF τ 39 (ok_spec_l1In hv13) (FzTo.frz rfl) rfl (by kernel_rfl) ?_
  refine v 1 45 [(1, .fptr (Enc.cells a0) 0), (40, B v12)] [] ?_
  rcases Bool.eq_false_or_eq_true v12 with hc14 | hc14
  replace h := bT hc14 h
  rw [hc14]
  refine ve 5 45 [(2, B ((a0.fS.toList == ((ByteArray.mk #[])).toList)))] [] ?_
  cases h
  exact pwp_ret rz
  replace h := bF hc14 h
  rw [hc14]
  refine ve 5 45 [(2, B false)] [] ?_
  cases h
  exact pwp_ret rz
  refine pwp_skip ?_
  refine srve 45 [(2, B false)] [] ?_
  cases h
  exact pwp_ret rz
def spec_AndOf_j0 (a0 : Int) (a1 : Int) (x1 : Bool) : Option Int := bif x1 then some (-1) else (spec_l2Sure a0).bind fun v3 => (spec_l2Sure a1).bind fun v5 => (spec_l2Sure ((minL v3 [v5]))).bind fun v7 => some v7
def spec_AndOf (a0 : Int) (a1 : Int) : Option Int := (spec_TruthOk a0).bind fun v9 => bif (!v9) then spec_AndOf_j0 a0 a1 true else (spec_TruthOk a1).bind fun v11 => spec_AndOf_j0 a0 a1 ((!v11))
theorem ok_spec_AndOf {a0 : Int} {a1 : Int} {y : Int} (h : spec_AndOf a0 a1 = some y) : OK Tryz.prog 155 [I a0, I a1] (I y) := by
  refine OK_of_pwp τ_ok Tryz.func155 rfl (by kernel_rfl) rfl fun Γ hX => ?_
  unfold spec_AndOf at h
  refine srve 19 [(0, I a0), (1, I a1)] [] ?_
  refine pwp_seq ?_
  refine pwp_seq ?_
  refine pwp_join (σ := Bool) (fun x1 => (⟨19, [(0, I a0), (1, I a1), (12, B x1)], []⟩ : St)) (fun x1 => spec_AndOf_j0 a0 a1 x1 = some y) ?_ ?_
  refine rv 1 19 [(0, I a0), (1, I a1), (5, I a0)] [] ?_
  obtain ⟨v9, hv10, h⟩ := bindS h
  refine opsP_callF τ 6 (ok_spec_TruthOk hv10) (FzTo.frz rfl) rfl (by kernel_rfl) ?_
  refine v 2 19 [(0, I a0), (1, I a1), (8, B ((!v9)))] [] ?_
  rcases fk ((!v9)) with hc13 | hc13
  replace h := bT hc13 h
  rw [hc13]
  refine ve 4 19 [(0, I a0), (1, I a1), (12, B true)] [] ?_
  exact ⟨true, h, (Imp.to (st' := ⟨19, [(0, I a0), (1, I a1), (12, B true)], []⟩) [0, 1, 12] (by kernel_rfl)).trans (Imp.to [0, 1, 12] (by kernel_rfl))⟩
  replace h := bF hc13 h
  rw [hc13]
  refine v 1 19 [(0, I a0), (1, I a1), (8, B false), (9, I a1)] [] ?_
  obtain ⟨v11, hv12, h⟩ := bindS h
  refine opsP_callF τ 10 (ok_spec_TruthOk hv12) (FzTo.frz rfl) rfl (by kernel_rfl) ?_
  refine ve 2 19 [(0, I a0), (1, I a1), (12, B ((!v11)))] [] ?_
  exact ⟨(!v11), h, (Imp.to (st' := ⟨19, [(0, I a0), (1, I a1), (12, B ((!v11)))], []⟩) [0, 1, 12] (by kernel_rfl)).trans (Imp.to [0, 1, 12] (by kernel_rfl))⟩
  rintro x1 h
  unfold spec_AndOf_j0 at h
  refine pc h (fun h => ?_) (fun h => ?_)
  refine srve 19 [(4, I (-1))] [] ?_
  cases h
  exact pwp_ret rz
  refine pwp_skip ?_
  refine srv 1 19 [(1, I a1), (13, I a0)] [] ?_
  obtain ⟨v3, hv4, h⟩ := bindS h
  refine opsP_callF τ 14 (ok_spec_l2Sure hv4) (FzTo.frz rfl) rfl (by kernel_rfl) ?_
  refine v 1 19 [(14, I v3), (15, I a1)] [] ?_
  obtain ⟨v5, hv6, h⟩ := bindS h
  refine opsP_callF τ 16 (ok_spec_l2Sure hv6) (FzTo.frz rfl) rfl (by kernel_rfl) ?_
  refine opsP_E (dd := some 17) (x := I (minL v3 [v5])) (CoreE.of_y (mxmV_sound (τ := τ) (m := false) (a := v3) (l := [v5]) (by kernel_rfl))) ?_
  obtain ⟨v7, hv8, h⟩ := bindS h
  refine opsP_callF τ 18 (ok_spec_l2Sure hv8) (FzTo.frz rfl) rfl (by kernel_rfl) ?_
  refine ve 1 19 [(4, I v7)] [] ?_
  cases h
  exact pwp_ret rz
def spec_TruthOf_j0 (a0 : T_impl_Value) (x1 : Bool) : Option Int := bif x1 then some (-1) else bif (a0.fKind == 0) then some 2 else some a0.fN
def spec_TruthOf (a0 : T_impl_Value) : Option Int := (spec_ValueOk a0).bind fun v4 => bif (!v4) then spec_TruthOf_j0 a0 true else bif (a0.fKind == 1) then spec_TruthOf_j0 a0 true else spec_TruthOf_j0 a0 ((a0.fKind == 2))
theorem ok_spec_TruthOf {a0 : T_impl_Value} {y : Int} (h : spec_TruthOf a0 = some y) : OK Tryz.prog 156 [E a0] (I y) := by
  refine OK_of_pwp τ_ok Tryz.func156 rfl (by kernel_rfl) rfl fun Γ hX => ?_
  unfold spec_TruthOf at h
  refine srve 23 [(1, .fptr (Enc.cells a0) 0)] [] ?_
  refine pwp_seq ?_
  refine pwp_block ?_
  refine pwp_seq ?_
  refine pwp_join (σ := Bool) (fun x1 => (⟨23, [(1, .fptr (Enc.cells a0) 0), (3, B x1)], []⟩ : St)) (fun x1 => spec_TruthOf_j0 a0 x1 = some y) ?_ ?_
  refine rv 1 23 [(1, .fptr (Enc.cells a0) 0), (4, E a0)] [] ?_
  obtain ⟨v4, hv5, h⟩ := bindS h
  refine opsP_callF τ 5 (ok_spec_ValueOk hv5) (FzTo.frz rfl) rfl (by kernel_rfl) ?_
  refine v 2 23 [(1, .fptr (Enc.cells a0) 0), (7, B ((!v4)))] [] ?_
  rcases fk ((!v4)) with hc7 | hc7
  replace h := bT hc7 h
  rw [hc7]
  refine ve 10 23 [(1, .fptr (Enc.cells a0) 0), (3, B true)] [] ?_
  exact ⟨true, h, (Imp.to (st' := ⟨23, [(1, .fptr (Enc.cells a0) 0), (3, B true)], []⟩) [1, 3] (by kernel_rfl)).trans (Imp.to [1, 3] (by kernel_rfl))⟩
  replace h := bF hc7 h
  rw [hc7]
  refine v 5 23 [(1, .fptr (Enc.cells a0) 0), (12, B ((a0.fKind == 1)))] [] ?_
  rcases fk ((a0.fKind == 1)) with hc6 | hc6
  replace h := bT hc6 h
  rw [hc6]
  refine ve 5 23 [(1, .fptr (Enc.cells a0) 0), (3, B true)] [] ?_
  exact ⟨true, h, (Imp.to (st' := ⟨23, [(1, .fptr (Enc.cells a0) 0), (3, B true)], []⟩) [1, 3] (by kernel_rfl)).trans (Imp.to [1, 3] (by kernel_rfl))⟩
  replace h := bF hc6 h
  rw [hc6]
  refine ve 5 23 [(1, .fptr (Enc.cells a0) 0), (3, B ((a0.fKind == 2)))] [] ?_
  exact ⟨(a0.fKind == 2), h, (Imp.to (st' := ⟨23, [(1, .fptr (Enc.cells a0) 0), (3, B ((a0.fKind == 2)))], []⟩) [1, 3] (by kernel_rfl)).trans (Imp.to [1, 3] (by kernel_rfl))⟩
  rintro x1 h
  unfold spec_TruthOf_j0 at h
  refine pc h (fun h => ?_) (fun h => ?_)
  refine srve 23 [(2, I (-1))] [] ?_
  cases h
  exact pwp_ret rz
  refine srve 23 [(1, .fptr (Enc.cells a0) 0), (17, B ((a0.fKind == 0)))] [] ?_
  refine pc h (fun h => ?_) (fun h => ?_)
  refine srve 23 [(2, I 2)] [] ?_
  cases h
  exact pwp_ret rz
  refine pwp_skip ?_
  refine srve 23 [(2, I a0.fN)] [] ?_
  cases h
  exact pwp_ret rz
def spec_OrOf_j0 (a0 : Int) (a1 : Int) (x1 : Bool) : Option Int := bif x1 then some (-1) else (spec_l2Sure a0).bind fun v3 => (spec_l2Sure a1).bind fun v5 => (spec_l2Sure ((maxL v3 [v5]))).bind fun v7 => some v7
def spec_OrOf (a0 : Int) (a1 : Int) : Option Int := (spec_TruthOk a0).bind fun v9 => bif (!v9) then spec_OrOf_j0 a0 a1 true else (spec_TruthOk a1).bind fun v11 => spec_OrOf_j0 a0 a1 ((!v11))
theorem ok_spec_OrOf {a0 : Int} {a1 : Int} {y : Int} (h : spec_OrOf a0 a1 = some y) : OK Tryz.prog 157 [I a0, I a1] (I y) := by
  refine OK_of_pwp τ_ok Tryz.func157 rfl (by kernel_rfl) rfl fun Γ hX => ?_
  unfold spec_OrOf at h
  refine srve 19 [(0, I a0), (1, I a1)] [] ?_
  refine pwp_seq ?_
  refine pwp_seq ?_
  refine pwp_join (σ := Bool) (fun x1 => (⟨19, [(0, I a0), (1, I a1), (12, B x1)], []⟩ : St)) (fun x1 => spec_OrOf_j0 a0 a1 x1 = some y) ?_ ?_
  refine rv 1 19 [(0, I a0), (1, I a1), (5, I a0)] [] ?_
  obtain ⟨v9, hv10, h⟩ := bindS h
  refine opsP_callF τ 6 (ok_spec_TruthOk hv10) (FzTo.frz rfl) rfl (by kernel_rfl) ?_
  refine v 2 19 [(0, I a0), (1, I a1), (8, B ((!v9)))] [] ?_
  rcases fk ((!v9)) with hc13 | hc13
  replace h := bT hc13 h
  rw [hc13]
  refine ve 4 19 [(0, I a0), (1, I a1), (12, B true)] [] ?_
  exact ⟨true, h, (Imp.to (st' := ⟨19, [(0, I a0), (1, I a1), (12, B true)], []⟩) [0, 1, 12] (by kernel_rfl)).trans (Imp.to [0, 1, 12] (by kernel_rfl))⟩
  replace h := bF hc13 h
  rw [hc13]
  refine v 1 19 [(0, I a0), (1, I a1), (8, B false), (9, I a1)] [] ?_
  obtain ⟨v11, hv12, h⟩ := bindS h
  refine opsP_callF τ 10 (ok_spec_TruthOk hv12) (FzTo.frz rfl) rfl (by kernel_rfl) ?_
  refine ve 2 19 [(0, I a0), (1, I a1), (12, B ((!v11)))] [] ?_
  exact ⟨(!v11), h, (Imp.to (st' := ⟨19, [(0, I a0), (1, I a1), (12, B ((!v11)))], []⟩) [0, 1, 12] (by kernel_rfl)).trans (Imp.to [0, 1, 12] (by kernel_rfl))⟩
  rintro x1 h
  unfold spec_OrOf_j0 at h
  refine pc h (fun h => ?_) (fun h => ?_)
  refine srve 19 [(4, I (-1))] [] ?_
  cases h
  exact pwp_ret rz
  refine pwp_skip ?_
  refine srv 1 19 [(1, I a1), (13, I a0)] [] ?_
  obtain ⟨v3, hv4, h⟩ := bindS h
  refine opsP_callF τ 14 (ok_spec_l2Sure hv4) (FzTo.frz rfl) rfl (by kernel_rfl) ?_
  refine v 1 19 [(14, I v3), (15, I a1)] [] ?_
  obtain ⟨v5, hv6, h⟩ := bindS h
  refine opsP_callF τ 16 (ok_spec_l2Sure hv6) (FzTo.frz rfl) rfl (by kernel_rfl) ?_
  refine opsP_E (dd := some 17) (x := I (maxL v3 [v5])) (CoreE.of_y (mxmV_sound (τ := τ) (m := true) (a := v3) (l := [v5]) (by kernel_rfl))) ?_
  obtain ⟨v7, hv8, h⟩ := bindS h
  refine opsP_callF τ 18 (ok_spec_l2Sure hv8) (FzTo.frz rfl) rfl (by kernel_rfl) ?_
  refine ve 1 19 [(4, I v7)] [] ?_
  cases h
  exact pwp_ret rz
def spec_NotOf (a0 : Int) : Option Int := (spec_TruthOk a0).bind fun v1 => bif (!v1) then some (-1) else (spec_l2Sure a0).bind fun v4 => (spec_l2Sure ((w64 (2 - v4)))).bind fun v6 => some v6
theorem ok_spec_NotOf {a0 : Int} {y : Int} (h : spec_NotOf a0 = some y) : OK Tryz.prog 158 [I a0] (I y) := by
  refine OK_of_pwp τ_ok Tryz.func158 rfl (by kernel_rfl) rfl fun Γ hX => ?_
  unfold spec_NotOf at h
  refine srve 10 [(0, I a0)] [] ?_
  refine pwp_seq ?_
  refine srv 1 10 [(0, I a0), (3, I a0)] [] ?_
  obtain ⟨v1, hv2, h⟩ := bindS h
  refine opsP_callF τ 4 (ok_spec_TruthOk hv2) (FzTo.frz rfl) rfl (by kernel_rfl) ?_
  refine ve 1 10 [(0, I a0), (5, B ((!v1)))] [] ?_
  refine pc h (fun h => ?_) (fun h => ?_)
  refine srve 10 [(2, I (-1))] [] ?_
  cases h
  exact pwp_ret rz
  refine pwp_skip ?_
  refine srv 1 10 [(6, I a0)] [] ?_
  obtain ⟨v4, hv5, h⟩ := bindS h
  refine opsP_callF τ 7 (ok_spec_l2Sure hv5) (FzTo.frz rfl) rfl (by kernel_rfl) ?_
  refine v 1 10 [(8, I ((w64 (2 - v4))))] [] ?_
  obtain ⟨v6, hv7, h⟩ := bindS h
  refine opsP_callF τ 9 (ok_spec_l2Sure hv7) (FzTo.frz rfl) rfl (by kernel_rfl) ?_
  refine ve 1 10 [(2, I v6)] [] ?_
  cases h
  exact pwp_ret rz
def slices_ContainsFunc_impl_Column_impl_Column (a0 : List T_impl_Column) (a1 : T_impl_Column → Option Bool) : Option Bool := (slices_IndexFunc_impl_Column_impl_Column a0 a1).bind fun v1 => some ((decide (v1 ≥ 0)))
theorem ok_slices_ContainsFunc_impl_Column_impl_Column {a0 : List T_impl_Column} {g1 : FuncId} {c1 : List V} (hz1 : frzL c1 = true) {a1 : T_impl_Column → Option Bool} (hp1 : ∀ x0 y, a1 x0 = some y → OK Tryz.prog g1 ([E x0] ++ c1) (B y)) {y : Bool} (h : slices_ContainsFunc_impl_Column_impl_Column a0 a1 = some y) : OK Tryz.prog 160 [A a0, .fn g1 c1] (B y) := by
  refine OK_of_pwp τ_ok Tryz.func160 rfl (by kernel_rfl) rfl fun Γ hX => ?_
  unfold slices_ContainsFunc_impl_Column_impl_Column at h
  refine srve 9 [(0, A a0), (1, .fn g1 c1)] [] ?_
  refine srv 2 9 [(5, A a0), (6, .fn g1 c1)] [] ?_
  obtain ⟨v1, hv2, h⟩ := bindS h
  refine opsP_callF τ 7 (ok_slices_IndexFunc_impl_Column_impl_Column (hz1) (hp1) hv2) (FzTo.frz rfl) (by simp only [frzL, frz, hz1, Bool.and_true]) (by kernel_rfl) ?_
  refine ve 2 9 [(4, B ((decide (v1 ≥ 0))))] [] ?_
  cases h
  exact pwp_ret rz
def impl_Value_ok (a0 : T_impl_Value) : Option Bool := bif (a0.fKind == 0) then some ((eq_T_impl_Value a0 ((T_impl_Value.mk 0 0 (ByteArray.mk #[]))))) else bif (a0.fKind == 1) then bif (a0.fS.toList == ((ByteArray.mk #[])).toList) then (impl_between a0.fN (-9999) 9999).bind fun v3 => some v3 else some false else bif (a0.fKind == 2) then bif (a0.fN == 0) then bif (decide (((a0.fS.size : Int)) ≤ 6)) then (impl_letters a0.fS).bind fun v7 => some v7 else some false else some false else bif (a0.fKind == 3) then bif (a0.fS.toList == ((ByteArray.mk #[])).toList) then (impl_between a0.fN 0 1).bind fun v12 => some v12 else some false else some false
theorem ok_impl_Value_ok {a0 : T_impl_Value} {y : Bool} (h : impl_Value_ok a0 = some y) : OK Tryz.prog 162 [E a0] (B y) := by
  refine OK_of_pwp τ_ok Tryz.func162 rfl (by kernel_rfl) rfl fun Γ hX => ?_
  unfold impl_Value_ok at h
  refine srve 46 [(1, .fptr (Enc.cells a0) 0)] [] ?_
  refine pwp_seq ?_
  refine srve 46 [(1, .fptr (Enc.cells a0) 0), (4, I a0.fKind)] [] ?_
  refine pwp_block ?_
  refine srve 46 [(1, .fptr (Enc.cells a0) 0), (4, I a0.fKind), (5, B ((a0.fKind == 0)))] [] ?_
  refine pc h (fun h => ?_) (fun h => ?_)
  refine srve 46 [(2, B ((eq_T_impl_Value a0 ((T_impl_Value.mk 0 0 (ByteArray.mk #[]))))))] [] ?_
  cases h
  exact pwp_ret rz
  refine srve 46 [(1, .fptr (Enc.cells a0) 0), (4, I a0.fKind), (10, B ((a0.fKind == 1)))] [] ?_
  refine pc h (fun h => ?_) (fun h => ?_)
  refine srv 4 46 [(1, .fptr (Enc.cells a0) 0), (15, B ((a0.fS.toList == ((ByteArray.mk #[])).toList)))] [] ?_
  rcases fk ((a0.fS.toList == ((ByteArray.mk #[])).toList)) with hc5 | hc5
  replace h := bT hc5 h
  rw [hc5]
  refine v 2 46 [(15, B true), (17, I a0.fN)] [] ?_
  obtain ⟨v3, hv4, h⟩ := bindS h
  refine opsP_callF τ 18 (ok_impl_between hv4) (FzTo.frz rfl) rfl (by kernel_rfl) ?_
  refine ve 2 46 [(2, B v3)] [] ?_
  cases h
  exact pwp_ret rz
  replace h := bF hc5 h
  rw [hc5]
  refine ve 5 46 [(2, B false)] [] ?_
  cases h
  exact pwp_ret rz
  refine srve 46 [(1, .fptr (Enc.cells a0) 0), (4, I a0.fKind), (20, B ((a0.fKind == 2)))] [] ?_
  refine pc h (fun h => ?_) (fun h => ?_)
  refine srv 4 46 [(1, .fptr (Enc.cells a0) 0), (25, B ((a0.fN == 0)))] [] ?_
  rcases fk ((a0.fN == 0)) with hc10 | hc10
  replace h := bT hc10 h
  rw [hc10]
  refine v 6 46 [(1, .fptr (Enc.cells a0) 0), (31, B ((decide (((a0.fS.size : Int)) ≤ 6))))] [] ?_
  rcases fk ((decide (((a0.fS.size : Int)) ≤ 6))) with hc9 | hc9
  replace h := bT hc9 h
  rw [hc9]
  refine v 2 46 [(31, B true), (33, S a0.fS)] [] ?_
  obtain ⟨v7, hv8, h⟩ := bindS h
  refine opsP_callF τ 34 (ok_impl_letters hv8) (FzTo.frz rfl) rfl (by kernel_rfl) ?_
  refine ve 2 46 [(2, B v7)] [] ?_
  cases h
  exact pwp_ret rz
  replace h := bF hc9 h
  rw [hc9]
  refine ve 5 46 [(2, B false)] [] ?_
  cases h
  exact pwp_ret rz
  replace h := bF hc10 h
  rw [hc10]
  refine ve 11 46 [(2, B false)] [] ?_
  cases h
  exact pwp_ret rz
  refine srve 46 [(1, .fptr (Enc.cells a0) 0), (36, B ((a0.fKind == 3)))] [] ?_
  refine pc h (fun h => ?_) (fun h => ?_)
  refine srv 4 46 [(1, .fptr (Enc.cells a0) 0), (41, B ((a0.fS.toList == ((ByteArray.mk #[])).toList)))] [] ?_
  rcases fk ((a0.fS.toList == ((ByteArray.mk #[])).toList)) with hc14 | hc14
  replace h := bT hc14 h
  rw [hc14]
  refine v 2 46 [(41, B true), (43, I a0.fN)] [] ?_
  obtain ⟨v12, hv13, h⟩ := bindS h
  refine opsP_callF τ 44 (ok_impl_between hv13) (FzTo.frz rfl) rfl (by kernel_rfl) ?_
  refine ve 2 46 [(2, B v12)] [] ?_
  cases h
  exact pwp_ret rz
  replace h := bF hc14 h
  rw [hc14]
  refine ve 5 46 [(2, B false)] [] ?_
  cases h
  exact pwp_ret rz
  refine pwp_skip ?_
  refine srve 46 [(2, B false)] [] ?_
  cases h
  exact pwp_ret rz
def slices_ContainsFunc_int_int (a0 : List Int) (a1 : Int → Option Bool) : Option Bool := (slices_IndexFunc_int_int a0 a1).bind fun v1 => some ((decide (v1 ≥ 0)))
theorem ok_slices_ContainsFunc_int_int {a0 : List Int} {g1 : FuncId} {c1 : List V} (hz1 : frzL c1 = true) {a1 : Int → Option Bool} (hp1 : ∀ x0 y, a1 x0 = some y → OK Tryz.prog g1 ([I x0] ++ c1) (B y)) {y : Bool} (h : slices_ContainsFunc_int_int a0 a1 = some y) : OK Tryz.prog 164 [A a0, .fn g1 c1] (B y) := by
  refine OK_of_pwp τ_ok Tryz.func164 rfl (by kernel_rfl) rfl fun Γ hX => ?_
  unfold slices_ContainsFunc_int_int at h
  refine srve 9 [(0, A a0), (1, .fn g1 c1)] [] ?_
  refine srv 2 9 [(5, A a0), (6, .fn g1 c1)] [] ?_
  obtain ⟨v1, hv2, h⟩ := bindS h
  refine opsP_callF τ 7 (ok_slices_IndexFunc_int_int (hz1) (hp1) hv2) (FzTo.frz rfl) (by simp only [frzL, frz, hz1, Bool.and_true]) (by kernel_rfl) ?_
  refine ve 2 9 [(4, B ((decide (v1 ≥ 0))))] [] ?_
  cases h
  exact pwp_ret rz
def slices_ContainsFunc_impl_Value_impl_Value (a0 : List T_impl_Value) (a1 : T_impl_Value → Option Bool) : Option Bool := (slices_IndexFunc_impl_Value_impl_Value a0 a1).bind fun v1 => some ((decide (v1 ≥ 0)))
theorem ok_slices_ContainsFunc_impl_Value_impl_Value {a0 : List T_impl_Value} {g1 : FuncId} {c1 : List V} (hz1 : frzL c1 = true) {a1 : T_impl_Value → Option Bool} (hp1 : ∀ x0 y, a1 x0 = some y → OK Tryz.prog g1 ([E x0] ++ c1) (B y)) {y : Bool} (h : slices_ContainsFunc_impl_Value_impl_Value a0 a1 = some y) : OK Tryz.prog 168 [A a0, .fn g1 c1] (B y) := by
  refine OK_of_pwp τ_ok Tryz.func168 rfl (by kernel_rfl) rfl fun Γ hX => ?_
  unfold slices_ContainsFunc_impl_Value_impl_Value at h
  refine srve 9 [(0, A a0), (1, .fn g1 c1)] [] ?_
  refine srv 2 9 [(5, A a0), (6, .fn g1 c1)] [] ?_
  obtain ⟨v1, hv2, h⟩ := bindS h
  refine opsP_callF τ 7 (ok_slices_IndexFunc_impl_Value_impl_Value (hz1) (hp1) hv2) (FzTo.frz rfl) (by simp only [frzL, frz, hz1, Bool.and_true]) (by kernel_rfl) ?_
  refine ve 2 9 [(4, B ((decide (v1 ≥ 0))))] [] ?_
  cases h
  exact pwp_ret rz
def impl_BatchOk_1_1 (a0 : T_impl_Value) : Option Bool := (impl_Value_ok a0).bind fun v1 => some ((!v1))
theorem ok_impl_BatchOk_1_1 {a0 : T_impl_Value} {y : Bool} (h : impl_BatchOk_1_1 a0 = some y) : OK Tryz.prog 169 [E a0] (B y) := by
  refine OK_of_pwp τ_ok Tryz.func169 rfl (by kernel_rfl) rfl fun Γ hX => ?_
  unfold impl_BatchOk_1_1 at h
  refine srve 6 [(1, .fptr (Enc.cells a0) 0)] [] ?_
  refine srv 1 6 [(3, E a0)] [] ?_
  obtain ⟨v1, hv2, h⟩ := bindS h
  refine opsP_callF τ 4 (ok_impl_Value_ok hv2) (FzTo.frz rfl) rfl (by kernel_rfl) ?_
  refine ve 2 6 [(2, B ((!v1)))] [] ?_
  cases h
  exact pwp_ret rz
def impl_TruthOf (a0 : T_impl_Value) : Option Int := (impl_Value_ok a0).bind fun v1 => bif (!v1) then some (-1) else bif (a0.fKind == 0) then some 2 else bif (a0.fKind == 3) then some a0.fN else some (-1)
theorem ok_impl_TruthOf {a0 : T_impl_Value} {y : Int} (h : impl_TruthOf a0 = some y) : OK Tryz.prog 172 [E a0] (I y) := by
  refine OK_of_pwp τ_ok Tryz.func172 rfl (by kernel_rfl) rfl fun Γ hX => ?_
  unfold impl_TruthOf at h
  refine srve 17 [(1, .fptr (Enc.cells a0) 0)] [] ?_
  refine pwp_seq ?_
  refine pwp_block ?_
  refine srv 1 17 [(1, .fptr (Enc.cells a0) 0), (4, E a0)] [] ?_
  obtain ⟨v1, hv2, h⟩ := bindS h
  refine opsP_callF τ 5 (ok_impl_Value_ok hv2) (FzTo.frz rfl) rfl (by kernel_rfl) ?_
  refine ve 2 17 [(1, .fptr (Enc.cells a0) 0), (3, B ((!v1)))] [] ?_
  refine pc h (fun h => ?_) (fun h => ?_)
  refine srve 17 [(2, I (-1))] [] ?_
  cases h
  exact pwp_ret rz
  refine srve 17 [(1, .fptr (Enc.cells a0) 0), (7, B ((a0.fKind == 0)))] [] ?_
  refine pc h (fun h => ?_) (fun h => ?_)
  refine srve 17 [(2, I 2)] [] ?_
  cases h
  exact pwp_ret rz
  refine srve 17 [(1, .fptr (Enc.cells a0) 0), (11, B ((a0.fKind == 3)))] [] ?_
  refine pc h (fun h => ?_) (fun h => ?_)
  refine srve 17 [(2, I a0.fN)] [] ?_
  cases h
  exact pwp_ret rz
  refine pwp_skip ?_
  refine srve 17 [(2, I (-1))] [] ?_
  cases h
  exact pwp_ret rz
def impl_RowOk_1 (a0 : T_impl_Value) : Option Bool := (impl_Value_ok a0).bind fun v1 => some ((!v1))
theorem ok_impl_RowOk_1 {a0 : T_impl_Value} {y : Bool} (h : impl_RowOk_1 a0 = some y) : OK Tryz.prog 184 [E a0] (B y) := by
  refine OK_of_pwp τ_ok Tryz.func184 rfl (by kernel_rfl) rfl fun Γ hX => ?_
  unfold impl_RowOk_1 at h
  refine srve 6 [(1, .fptr (Enc.cells a0) 0)] [] ?_
  refine srv 1 6 [(3, E a0)] [] ?_
  obtain ⟨v1, hv2, h⟩ := bindS h
  refine opsP_callF τ 4 (ok_impl_Value_ok hv2) (FzTo.frz rfl) rfl (by kernel_rfl) ?_
  refine ve 2 6 [(2, B ((!v1)))] [] ?_
  cases h
  exact pwp_ret rz
def spec_ValueOrder_j0 (a0 : T_impl_Value) (a1 : T_impl_Value) (x1 : Bool) : Option Int := bif x1 then some 0 else bif (!(a0.fKind == a1.fKind)) then (spec_l1Less a1.fKind a0.fKind).bind fun v4 => some ((w64 (((w64 (2 * v4))) - 1))) else bif (!(a0.fN == a1.fN)) then (spec_l1Less a1.fN a0.fN).bind fun v7 => some ((w64 (((w64 (2 * v7))) - 1))) else (spec_l1Cmp a0.fS a1.fS).bind fun v9 => some v9
def spec_ValueOrder (a0 : T_impl_Value) (a1 : T_impl_Value) : Option Int := (spec_ValueOk a0).bind fun v11 => bif (!v11) then spec_ValueOrder_j0 a0 a1 true else (spec_ValueOk a1).bind fun v13 => spec_ValueOrder_j0 a0 a1 ((!v13))
theorem ok_spec_ValueOrder {a0 : T_impl_Value} {a1 : T_impl_Value} {y : Int} (h : spec_ValueOrder a0 a1 = some y) : OK Tryz.prog 186 [E a0, E a1] (I y) := by
  refine OK_of_pwp τ_ok Tryz.func186 rfl (by kernel_rfl) rfl fun Γ hX => ?_
  unfold spec_ValueOrder at h
  refine srve 44 [(2, .fptr (Enc.cells a0) 0), (3, .fptr (Enc.cells a1) 0)] [] ?_
  refine pwp_seq ?_
  refine pwp_seq ?_
  refine pwp_join (σ := Bool) (fun x1 => (⟨44, [(2, .fptr (Enc.cells a0) 0), (3, .fptr (Enc.cells a1) 0), (12, B x1)], []⟩ : St)) (fun x1 => spec_ValueOrder_j0 a0 a1 x1 = some y) ?_ ?_
  refine rv 1 44 [(2, .fptr (Enc.cells a0) 0), (3, .fptr (Enc.cells a1) 0), (5, E a0)] [] ?_
  obtain ⟨v11, hv12, h⟩ := bindS h
  refine opsP_callF τ 6 (ok_spec_ValueOk hv12) (FzTo.frz rfl) rfl (by kernel_rfl) ?_
  refine v 2 44 [(2, .fptr (Enc.cells a0) 0), (3, .fptr (Enc.cells a1) 0), (8, B ((!v11)))] [] ?_
  rcases fk ((!v11)) with hc15 | hc15
  replace h := bT hc15 h
  rw [hc15]
  refine ve 4 44 [(2, .fptr (Enc.cells a0) 0), (3, .fptr (Enc.cells a1) 0), (12, B true)] [] ?_
  exact ⟨true, h, (Imp.to (st' := ⟨44, [(2, .fptr (Enc.cells a0) 0), (3, .fptr (Enc.cells a1) 0), (12, B true)], []⟩) [2, 3, 12] (by kernel_rfl)).trans (Imp.to [2, 3, 12] (by kernel_rfl))⟩
  replace h := bF hc15 h
  rw [hc15]
  refine v 1 44 [(2, .fptr (Enc.cells a0) 0), (3, .fptr (Enc.cells a1) 0), (8, B false), (9, E a1)] [] ?_
  obtain ⟨v13, hv14, h⟩ := bindS h
  refine opsP_callF τ 10 (ok_spec_ValueOk hv14) (FzTo.frz rfl) rfl (by kernel_rfl) ?_
  refine ve 2 44 [(2, .fptr (Enc.cells a0) 0), (3, .fptr (Enc.cells a1) 0), (12, B ((!v13)))] [] ?_
  exact ⟨(!v13), h, (Imp.to (st' := ⟨44, [(2, .fptr (Enc.cells a0) 0), (3, .fptr (Enc.cells a1) 0), (12, B ((!v13)))], []⟩) [2, 3, 12] (by kernel_rfl)).trans (Imp.to [2, 3, 12] (by kernel_rfl))⟩
  rintro x1 h
  unfold spec_ValueOrder_j0 at h
  refine pc h (fun h => ?_) (fun h => ?_)
  refine srve 44 [(4, I 0)] [] ?_
  cases h
  exact pwp_ret rz
  refine pwp_skip ?_
  refine pwp_seq ?_
  refine pwp_block ?_
  refine srve 44 [(2, .fptr (Enc.cells a0) 0), (3, .fptr (Enc.cells a1) 0), (13, B ((!(a0.fKind == a1.fKind))))] [] ?_
  refine pc h (fun h => ?_) (fun h => ?_)
  refine srv 4 44 [(20, I a1.fKind), (22, I a0.fKind)] [] ?_
  obtain ⟨v4, hv5, h⟩ := bindS h
  refine opsP_callF τ 23 (ok_spec_l1Less hv5) (FzTo.frz rfl) rfl (by kernel_rfl) ?_
  refine ve 3 44 [(4, I ((w64 (((w64 (2 * v4))) - 1))))] [] ?_
  cases h
  exact pwp_ret rz
  refine srve 44 [(2, .fptr (Enc.cells a0) 0), (3, .fptr (Enc.cells a1) 0), (26, B ((!(a0.fN == a1.fN))))] [] ?_
  refine pc h (fun h => ?_) (fun h => ?_)
  refine srv 4 44 [(33, I a1.fN), (35, I a0.fN)] [] ?_
  obtain ⟨v7, hv8, h⟩ := bindS h
  refine opsP_callF τ 36 (ok_spec_l1Less hv8) (FzTo.frz rfl) rfl (by kernel_rfl) ?_
  refine ve 3 44 [(4, I ((w64 (((w64 (2 * v7))) - 1))))] [] ?_
  cases h
  exact pwp_ret rz
  refine pwp_skip ?_
  refine srv 4 44 [(40, S a0.fS), (42, S a1.fS)] [] ?_
  obtain ⟨v9, hv10, h⟩ := bindS h
  refine opsP_callF τ 43 (ok_spec_l1Cmp hv10) (FzTo.frz rfl) rfl (by kernel_rfl) ?_
  refine ve 1 44 [(4, I v9)] [] ?_
  cases h
  exact pwp_ret rz
def impl_fold_j2 (a2 : Int) (x5 : Bool) : Option Int := bif x5 then some 2 else some ((w64 (1 - a2)))
def impl_fold_j1 (a0 : Int) (a1 : Int) (a2 : Int) (x3 : Bool) : Option Int := bif x3 then some a2 else bif (a0 == 2) then impl_fold_j2 a2 true else impl_fold_j2 a2 ((a1 == 2))
def impl_fold_j0 (a0 : Int) (a1 : Int) (a2 : Int) (x1 : Bool) : Option Int := bif x1 then some (-1) else bif (a0 == a2) then impl_fold_j1 a0 a1 a2 true else impl_fold_j1 a0 a1 a2 ((a1 == a2))
def impl_fold (a0 : Int) (a1 : Int) (a2 : Int) : Option Int := (impl_TruthOk a0).bind fun v9 => bif (!v9) then impl_fold_j0 a0 a1 a2 true else (impl_TruthOk a1).bind fun v11 => impl_fold_j0 a0 a1 a2 ((!v11))
theorem ok_impl_fold {a0 : Int} {a1 : Int} {a2 : Int} {y : Int} (h : impl_fold a0 a1 a2 = some y) : OK Tryz.prog 194 [I a0, I a1, I a2] (I y) := by
  refine OK_of_pwp τ_ok Tryz.func194 rfl (by kernel_rfl) rfl fun Γ hX => ?_
  unfold impl_fold at h
  refine srve 35 [(0, I a0), (1, I a1), (2, I a2)] [] ?_
  refine pwp_seq ?_
  refine pwp_block ?_
  refine pwp_seq ?_
  refine pwp_join (σ := Bool) (fun x1 => (⟨35, [(0, I a0), (1, I a1), (2, I a2), (7, B x1)], []⟩ : St)) (fun x1 => impl_fold_j0 a0 a1 a2 x1 = some y) ?_ ?_
  refine rv 1 35 [(0, I a0), (1, I a1), (2, I a2), (8, I a0)] [] ?_
  obtain ⟨v9, hv10, h⟩ := bindS h
  refine opsP_callF τ 9 (ok_impl_TruthOk hv10) (FzTo.frz rfl) rfl (by kernel_rfl) ?_
  refine v 2 35 [(0, I a0), (1, I a1), (2, I a2), (11, B ((!v9)))] [] ?_
  rcases fk ((!v9)) with hc13 | hc13
  replace h := bT hc13 h
  rw [hc13]
  refine ve 5 35 [(0, I a0), (1, I a1), (2, I a2), (7, B true)] [] ?_
  exact ⟨true, h, (Imp.to (st' := ⟨35, [(0, I a0), (1, I a1), (2, I a2), (7, B true)], []⟩) [0, 1, 2, 7] (by kernel_rfl)).trans (Imp.to [0, 1, 2, 7] (by kernel_rfl))⟩
  replace h := bF hc13 h
  rw [hc13]
  refine v 1 35 [(0, I a0), (1, I a1), (2, I a2), (11, B false), (12, I a1)] [] ?_
  obtain ⟨v11, hv12, h⟩ := bindS h
  refine opsP_callF τ 13 (ok_impl_TruthOk hv12) (FzTo.frz rfl) rfl (by kernel_rfl) ?_
  refine ve 3 35 [(0, I a0), (1, I a1), (2, I a2), (7, B ((!v11)))] [] ?_
  exact ⟨(!v11), h, (Imp.to (st' := ⟨35, [(0, I a0), (1, I a1), (2, I a2), (7, B ((!v11)))], []⟩) [0, 1, 2, 7] (by kernel_rfl)).trans (Imp.to [0, 1, 2, 7] (by kernel_rfl))⟩
  rintro x1 h
  unfold impl_fold_j0 at h
  refine pc h (fun h => ?_) (fun h => ?_)
  refine srve 35 [(6, I (-1))] [] ?_
  cases h
  exact pwp_ret rz
  refine pwp_seq ?_
  refine pwp_join (σ := Bool) (fun x3 => (⟨35, [(0, I a0), (1, I a1), (2, I a2), (16, B x3)], []⟩ : St)) (fun x3 => impl_fold_j1 a0 a1 a2 x3 = some y) ?_ ?_
  refine rv 4 35 [(0, I a0), (1, I a1), (2, I a2), (20, B ((a0 == a2)))] [] ?_
  rcases fk ((a0 == a2)) with hc8 | hc8
  replace h := bT hc8 h
  rw [hc8]
  refine ve 5 35 [(0, I a0), (1, I a1), (2, I a2), (16, B true)] [] ?_
  exact ⟨true, h, (Imp.to (st' := ⟨35, [(0, I a0), (1, I a1), (2, I a2), (16, B true)], []⟩) [0, 1, 2, 16] (by kernel_rfl)).trans (Imp.to [0, 1, 2, 16] (by kernel_rfl))⟩
  replace h := bF hc8 h
  rw [hc8]
  refine ve 5 35 [(0, I a0), (1, I a1), (2, I a2), (16, B ((a1 == a2)))] [] ?_
  exact ⟨(a1 == a2), h, (Imp.to (st' := ⟨35, [(0, I a0), (1, I a1), (2, I a2), (16, B ((a1 == a2)))], []⟩) [0, 1, 2, 16] (by kernel_rfl)).trans (Imp.to [0, 1, 2, 16] (by kernel_rfl))⟩
  rintro x3 h
  unfold impl_fold_j1 at h
  refine pc h (fun h => ?_) (fun h => ?_)
  refine srve 35 [(6, I a2)] [] ?_
  cases h
  exact pwp_ret rz
  refine pwp_seq ?_
  refine pwp_join (σ := Bool) (fun x5 => (⟨35, [(2, I a2), (26, B x5)], []⟩ : St)) (fun x5 => impl_fold_j2 a2 x5 = some y) ?_ ?_
  refine rv 3 35 [(1, I a1), (2, I a2), (29, B ((a0 == 2)))] [] ?_
  rcases fk ((a0 == 2)) with hc7 | hc7
  replace h := bT hc7 h
  rw [hc7]
  refine ve 4 35 [(2, I a2), (26, B true)] [] ?_
  exact ⟨true, h, (Imp.to (st' := ⟨35, [(2, I a2), (26, B true)], []⟩) [2, 26] (by kernel_rfl)).trans (Imp.to [2, 26] (by kernel_rfl))⟩
  replace h := bF hc7 h
  rw [hc7]
  refine ve 4 35 [(2, I a2), (26, B ((a1 == 2)))] [] ?_
  exact ⟨(a1 == 2), h, (Imp.to (st' := ⟨35, [(2, I a2), (26, B ((a1 == 2)))], []⟩) [2, 26] (by kernel_rfl)).trans (Imp.to [2, 26] (by kernel_rfl))⟩
  rintro x5 h
  unfold impl_fold_j2 at h
  refine pc h (fun h => ?_) (fun h => ?_)
  refine srve 35 [(6, I 2)] [] ?_
  cases h
  exact pwp_ret rz
  refine pwp_skip ?_
  refine srve 35 [(6, I ((w64 (1 - a2))))] [] ?_
  cases h
  exact pwp_ret rz
def cmp_Compare_int (a0 : Int) (a1 : Int) : Option Int := (cmp_isNaN_int a0).bind fun v1 => (cmp_isNaN_int a1).bind fun v3 => bif v1 then bif v3 then some 0 else some (-1) else bif v3 then some 1 else bif (decide (a0 < a1)) then some (-1) else bif (decide (a0 > a1)) then some 1 else some 0
theorem ok_cmp_Compare_int {a0 : Int} {a1 : Int} {y : Int} (h : cmp_Compare_int a0 a1 = some y) : OK Tryz.prog 198 [I a0, I a1] (I y) := by
  refine OK_of_pwp τ_ok Tryz.func198 rfl (by kernel_rfl) rfl fun Γ hX => ?_
  unfold cmp_Compare_int at h
  refine srve 20 [(0, I a0), (1, I a1)] [] ?_
  refine srv 1 20 [(0, I a0), (1, I a1), (7, I a0)] [] ?_
  obtain ⟨v1, hv2, h⟩ := bindS h
  refine opsP_callF τ 8 (ok_cmp_isNaN_int hv2) (FzTo.frz rfl) rfl (by kernel_rfl) ?_
  refine ve 1 20 [(0, I a0), (1, I a1), (5, B v1)] [] ?_
  refine srv 1 20 [(0, I a0), (1, I a1), (5, B v1), (9, I a1)] [] ?_
  obtain ⟨v3, hv4, h⟩ := bindS h
  refine opsP_callF τ 10 (ok_cmp_isNaN_int hv4) (FzTo.frz rfl) rfl (by kernel_rfl) ?_
  refine ve 1 20 [(0, I a0), (1, I a1), (5, B v1), (6, B v3)] [] ?_
  refine pwp_seq ?_
  refine srve 20 [(0, I a0), (1, I a1), (6, B v3), (11, B v1)] [] ?_
  refine pc h (fun h => ?_) (fun h => ?_)
  refine pwp_seq ?_
  refine srve 20 [(12, B v3)] [] ?_
  refine pc h (fun h => ?_) (fun h => ?_)
  refine srve 20 [(4, I 0)] [] ?_
  cases h
  exact pwp_ret rz
  refine pwp_skip ?_
  refine srve 20 [(4, I (-1))] [] ?_
  cases h
  exact pwp_ret rz
  refine pwp_skip ?_
  refine pwp_seq ?_
  refine srve 20 [(0, I a0), (1, I a1), (13, B v3)] [] ?_
  refine pc h (fun h => ?_) (fun h => ?_)
  refine srve 20 [(4, I 1)] [] ?_
  cases h
  exact pwp_ret rz
  refine pwp_skip ?_
  refine pwp_seq ?_
  refine srve 20 [(0, I a0), (1, I a1), (16, B ((decide (a0 < a1))))] [] ?_
  refine pc h (fun h => ?_) (fun h => ?_)
  refine srve 20 [(4, I (-1))] [] ?_
  cases h
  exact pwp_ret rz
  refine pwp_skip ?_
  refine pwp_seq ?_
  refine srve 20 [(19, B ((decide (a0 > a1))))] [] ?_
  refine pc h (fun h => ?_) (fun h => ?_)
  refine srve 20 [(4, I 1)] [] ?_
  cases h
  exact pwp_ret rz
  refine pwp_skip ?_
  refine srve 20 [(4, I 0)] [] ?_
  cases h
  exact pwp_ret rz
def cmp_Compare_string (a0 : ByteArray) (a1 : ByteArray) : Option Int := (cmp_isNaN_string a0).bind fun v1 => (cmp_isNaN_string a1).bind fun v3 => bif v1 then bif v3 then some 0 else some (-1) else bif v3 then some 1 else bif (Op.bytesLess a0.toList a1.toList) then some (-1) else bif (!Op.bytesLess a0.toList a1.toList && !(a0.toList == a1.toList)) then some 1 else some 0
theorem ok_cmp_Compare_string {a0 : ByteArray} {a1 : ByteArray} {y : Int} (h : cmp_Compare_string a0 a1 = some y) : OK Tryz.prog 199 [S a0, S a1] (I y) := by
  refine OK_of_pwp τ_ok Tryz.func199 rfl (by kernel_rfl) rfl fun Γ hX => ?_
  unfold cmp_Compare_string at h
  refine srve 20 [(0, S a0), (1, S a1)] [] ?_
  refine srv 1 20 [(0, S a0), (1, S a1), (7, S a0)] [] ?_
  obtain ⟨v1, hv2, h⟩ := bindS h
  refine opsP_callF τ 8 (ok_cmp_isNaN_string hv2) (FzTo.frz rfl) rfl (by kernel_rfl) ?_
  refine ve 1 20 [(0, S a0), (1, S a1), (5, B v1)] [] ?_
  refine srv 1 20 [(0, S a0), (1, S a1), (5, B v1), (9, S a1)] [] ?_
  obtain ⟨v3, hv4, h⟩ := bindS h
  refine opsP_callF τ 10 (ok_cmp_isNaN_string hv4) (FzTo.frz rfl) rfl (by kernel_rfl) ?_
  refine ve 1 20 [(0, S a0), (1, S a1), (5, B v1), (6, B v3)] [] ?_
  refine pwp_seq ?_
  refine srve 20 [(0, S a0), (1, S a1), (6, B v3), (11, B v1)] [] ?_
  refine pc h (fun h => ?_) (fun h => ?_)
  refine pwp_seq ?_
  refine srve 20 [(12, B v3)] [] ?_
  refine pc h (fun h => ?_) (fun h => ?_)
  refine srve 20 [(4, I 0)] [] ?_
  cases h
  exact pwp_ret rz
  refine pwp_skip ?_
  refine srve 20 [(4, I (-1))] [] ?_
  cases h
  exact pwp_ret rz
  refine pwp_skip ?_
  refine pwp_seq ?_
  refine srve 20 [(0, S a0), (1, S a1), (13, B v3)] [] ?_
  refine pc h (fun h => ?_) (fun h => ?_)
  refine srve 20 [(4, I 1)] [] ?_
  cases h
  exact pwp_ret rz
  refine pwp_skip ?_
  refine pwp_seq ?_
  refine srve 20 [(0, S a0), (1, S a1), (16, B ((Op.bytesLess a0.toList a1.toList)))] [] ?_
  refine pc h (fun h => ?_) (fun h => ?_)
  refine srve 20 [(4, I (-1))] [] ?_
  cases h
  exact pwp_ret rz
  refine pwp_skip ?_
  refine pwp_seq ?_
  refine srve 20 [(19, B ((!Op.bytesLess a0.toList a1.toList && !(a0.toList == a1.toList))))] [] ?_
  refine pc h (fun h => ?_) (fun h => ?_)
  refine srve 20 [(4, I 1)] [] ?_
  cases h
  exact pwp_ret rz
  refine pwp_skip ?_
  refine srve 20 [(4, I 0)] [] ?_
  cases h
  exact pwp_ret rz
def laws_szPartS_l0 (a0 : List T_laws_Part) : Nat → Int → Int → Option Int
  | 0, _, _ => none
  | f4 + 1, x2, x3 => bif (decide (x3 < ((a0.length : Int)))) then (getI a0 x3).bind fun v7 => (laws_szPart v7 x2).bind fun v9 => bif (decide (v9 < 0)) then some (-1) else (laws_szPartS_l0 a0 f4) v9 ((w64 (x3 + 1))) else some x2
def laws_szPartS (a0 : List T_laws_Part) (a1 : Int) : Option Int := bif (decide (((w64 (a1 - ((a0.length : Int))))) < 0)) then some (-1) else laws_szPartS_l0 a0 FUEL ((w64 (a1 - ((a0.length : Int))))) 0
theorem ok_laws_szPartS {a0 : List T_laws_Part} {a1 : Int} {y : Int} (h : laws_szPartS a0 a1 = some y) : OK Tryz.prog 28 [A a0, I a1] (I y) := by
  refine OK_of_pwp τ_ok Tryz.func28 rfl (by kernel_rfl) rfl fun Γ hX => ?_
  unfold laws_szPartS at h
  refine srve 27 [(0, A a0), (1, I a1)] [] ?_
  refine srve 27 [(0, A a0), (1, I ((w64 (a1 - ((a0.length : Int))))))] [] ?_
  refine pwp_seq ?_
  refine srve 27 [(0, A a0), (1, I ((w64 (a1 - ((a0.length : Int)))))), (11, B ((decide (((w64 (a1 - ((a0.length : Int))))) < 0))))] [] ?_
  refine pc h (fun h => ?_) (fun h => ?_)
  refine srve 27 [(4, I (-1))] [] ?_
  cases h
  exact pwp_ret rz
  refine pwp_skip ?_
  refine pwp_seq ?_
  refine srve 27 [(0, A a0), (1, I ((w64 (a1 - ((a0.length : Int)))))), (5, I 0)] [] ?_
  refine pwp_block ?_
  refine pwp_loop (ι := Nat × Int × Int) (fun (f4, x2, x3) => (⟨27, [(0, A a0), (1, I x2), (5, I x3)], []⟩ : St)) (fun (f4, x2, x3) => laws_szPartS_l0 a0 f4 x2 x3 = some y) (fun (f4, x2, x3) => f4) (FUEL, (w64 (a1 - ((a0.length : Int)))), 0) h ((Imp.to (st' := ⟨27, [(0, A a0), (1, I ((w64 (a1 - ((a0.length : Int)))))), (5, I 0)], []⟩) [0, 1, 5] (by kernel_rfl)).trans (Imp.to [0, 1, 5] (by kernel_rfl))) ?_
  rintro ⟨f4, x2, x3⟩ h
  dsimp only at h ⊢
  rcases f4 with _ | f4
  cases h
  rw [laws_szPartS_l0] at h
  refine pwp_seq ?_
  refine srve 27 [(0, A a0), (1, I x2), (5, I x3), (15, B ((decide (x3 < ((a0.length : Int))))))] [] ?_
  refine pc h (fun h => ?_) (fun h => ?_)
  refine pwp_skip ?_
  refine pwp_seq ?_
  refine pwp_block ?_
  refine srv 2 27 [(0, A a0), (1, I x2), (5, I x3), (18, A a0), (19, I x3)] [] ?_
  obtain ⟨v7, hv8, h⟩ := bindS h
  refine opsP_idx τ_ok 20 hv8 (by kernel_rfl) ?_
  refine v 2 27 [(0, A a0), (5, I x3), (21, E v7), (22, I x2)] [] ?_
  obtain ⟨v9, hv10, h⟩ := bindS h
  refine opsP_callF τ 23 (ok_laws_szPart hv10) (FzTo.frz rfl) rfl (by kernel_rfl) ?_
  refine ve 1 27 [(0, A a0), (1, I v9), (5, I x3)] [] ?_
  refine srve 27 [(0, A a0), (1, I v9), (5, I x3), (25, B ((decide (v9 < 0))))] [] ?_
  refine pc h (fun h => ?_) (fun h => ?_)
  refine srve 27 [(4, I (-1))] [] ?_
  cases h
  exact pwp_ret rz
  refine pwp_skip ?_
  refine rve 27 [(0, A a0), (1, I v9), (5, I ((w64 (x3 + 1))))] [] ?_
  exact ⟨(f4, v9, (w64 (x3 + 1))), h, Nat.lt_succ_self _, (Imp.to (st' := ⟨27, [(0, A a0), (1, I v9), (5, I ((w64 (x3 + 1))))], []⟩) [0, 1, 5] (by kernel_rfl)).trans (Imp.to [0, 1, 5] (by kernel_rfl))⟩
  refine pwp_exit ?_
  refine srve 27 [(4, I x2)] [] ?_
  cases h
  exact pwp_ret rz
def laws_toPartS_l0 (a0 : List T_laws_Part) : Nat → Int → (List T_impl_Part) → Option (List T_impl_Part)
  | 0, _, _ => none
  | f6 + 1, x4, x5 => bif (decide (x4 < ((a0.length : Int)))) then (getI a0 x4).bind fun v9 => (laws_toPart v9).bind fun v11 => (getI x5 x4).bind fun v13 => (laws_toPartS_l0 a0 f6) ((w64 (x4 + 1))) ((x5.set x4.toNat v11)) else some x5
def laws_toPartS (a0 : List T_laws_Part) : Option (List T_impl_Part) := (mkI ((a0.length : Int)) ((T_impl_Part.mk 0 0 (T_impl_Value.mk 0 0 (ByteArray.mk #[]))))).bind fun v1 => laws_toPartS_l0 a0 FUEL 0 v1
theorem ok_laws_toPartS {a0 : List T_laws_Part} {y : List T_impl_Part} (h : laws_toPartS a0 = some y) : OK Tryz.prog 32 [A a0] (O y) := by
  refine OK_of_pwp τ_ok Tryz.func32 rfl (by kernel_rfl) rfl fun Γ hX => ?_
  unfold laws_toPartS at h
  refine srve 23 [(0, A a0)] [] ?_
  refine srv 2 23 [(0, A a0), (6, I ((a0.length : Int)))] [] ?_
  obtain ⟨v1, hv2, h⟩ := bindS h
  refine opsP_mk τ_ok 7 0 _ hv2 (by kernel_rfl) (by kernel_rfl) ?_
  refine ve 1 23 [(0, A a0), (3, .ref 0 0 0 5 v1.length false)] [some ⟨0, eL v1⟩] ?_
  refine pwp_seq ?_
  refine srve 23 [(0, A a0), (3, .ref 0 0 0 5 v1.length false), (4, I 0)] [some ⟨0, eL v1⟩] ?_
  refine pwp_block ?_
  refine pwp_loop (ι := Nat × Int × (List T_impl_Part)) (fun (f6, x4, x5) => (⟨23, [(0, A a0), (3, .ref 0 0 0 5 x5.length false), (4, I x4)], [some ⟨0, eL x5⟩]⟩ : St)) (fun (f6, x4, x5) => laws_toPartS_l0 a0 f6 x4 x5 = some y) (fun (f6, x4, x5) => f6) (FUEL, 0, v1) h ((Imp.to (st' := ⟨23, [(0, A a0), (3, .ref 0 0 0 5 v1.length false), (4, I 0)], [some ⟨0, eL v1⟩]⟩) [0, 3, 4] (by kernel_rfl)).trans (Imp.to [0, 3, 4] (by kernel_rfl))) ?_
  rintro ⟨f6, x4, x5⟩ h
  dsimp only at h ⊢
  rcases f6 with _ | f6
  cases h
  rw [laws_toPartS_l0] at h
  refine pwp_seq ?_
  refine srve 23 [(0, A a0), (3, .ref 0 0 0 5 x5.length false), (4, I x4), (11, B ((decide (x4 < ((a0.length : Int))))))] [some ⟨0, eL x5⟩] ?_
  refine pc h (fun h => ?_) (fun h => ?_)
  refine pwp_skip ?_
  refine pwp_seq ?_
  refine pwp_block ?_
  refine rv 4 23 [(0, A a0), (3, .ref 0 0 0 5 x5.length false), (4, I x4), (14, .ref 0 0 0 5 x5.length false), (15, I x4), (16, A a0), (17, I x4)] [some ⟨0, eL x5⟩] ?_
  obtain ⟨v9, hv10, h⟩ := bindS h
  refine opsP_idx τ_ok 18 hv10 (by kernel_rfl) ?_
  refine v 1 23 [(0, A a0), (3, .ref 0 0 0 5 x5.length false), (4, I x4), (14, .ref 0 0 0 5 x5.length false), (15, I x4), (19, E v9)] [some ⟨0, eL x5⟩] ?_
  obtain ⟨v11, hv12, h⟩ := bindS h
  refine opsP_callF τ 20 (ok_laws_toPart hv12) (FzTo.frz rfl) rfl (by kernel_rfl) ?_
  obtain ⟨v13, hv14, h⟩ := bindS h
  refine opsP_idr τ_ok 21 0 0 x5.length hv14 rfl (by kernel_rfl) ?_
  refine v 0 23 [(0, A a0), (3, .ref 0 0 0 5 x5.length false), (4, I x4), (20, E v11), (21, .ptr 0 0 (x4.toNat * 5))] [some ⟨0, eL x5⟩] ?_
  refine opsP_ste (vs := [I v11.fKind, I v11.fN, I v11.fV.fKind, I v11.fV.fN, S v11.fV.fS]) τ_ok 119 0 0 0 v11 hv14 (by kernel_rfl) (by kernel_rfl) (by kernel_rfl) (renC trivial (renC (ren_ref (List.length_set ..).symm) (renC trivial (renC trivial (renC trivial renC0))))) ?_
  refine ve 0 23 [(0, A a0), (3, .ref 0 0 0 5 ((x5.set x4.toNat v11)).length false), (4, I x4)] [some ⟨0, eL ((x5.set x4.toNat v11))⟩] ?_
  refine rve 23 [(0, A a0), (3, .ref 0 0 0 5 ((x5.set x4.toNat v11)).length false), (4, I ((w64 (x4 + 1))))] [some ⟨0, eL ((x5.set x4.toNat v11))⟩] ?_
  exact ⟨(f6, (w64 (x4 + 1)), (x5.set x4.toNat v11)), h, Nat.lt_succ_self _, (Imp.to (st' := ⟨23, [(0, A a0), (3, .ref 0 0 0 5 ((x5.set x4.toNat v11)).length false), (4, I ((w64 (x4 + 1))))], [some ⟨0, eL ((x5.set x4.toNat v11))⟩]⟩) [0, 3, 4] (by kernel_rfl)).trans (Imp.to [0, 3, 4] (by kernel_rfl))⟩
  refine pwp_exit ?_
  refine srve 23 [(2, .ref 0 0 0 5 x5.length false)] [some ⟨0, eL x5⟩] ?_
  have h := si h
  subst h
  exact pwp_ret (rt (.ref 0 0 0 5 x5.length false) (OutP.list (v := 0) (by kernel_rfl)))
def laws_eqBatch (a0 : T_impl_Batch) (a1 : T_impl_Batch) : Option Bool := (laws_eqValueSS a0.fColumns a1.fColumns).bind fun v1 => bif (!v1) then some false else (laws_eqBoolS a0.fPicked a1.fPicked).bind fun v4 => bif (!v4) then some false else some true
theorem ok_laws_eqBatch {a0 : T_impl_Batch} {a1 : T_impl_Batch} {y : Bool} (h : laws_eqBatch a0 a1 = some y) : OK Tryz.prog 36 [E a0, E a1] (B y) := by
  refine OK_of_pwp τ_ok Tryz.func36 rfl (by kernel_rfl) rfl fun Γ hX => ?_
  unfold laws_eqBatch at h
  refine srve 17 [(2, .fptr (Enc.cells a0) 0), (3, .fptr (Enc.cells a1) 0)] [] ?_
  refine pwp_seq ?_
  refine srv 4 17 [(2, .fptr (Enc.cells a0) 0), (3, .fptr (Enc.cells a1) 0), (6, A a0.fColumns), (8, A a1.fColumns)] [] ?_
  obtain ⟨v1, hv2, h⟩ := bindS h
  refine opsP_callF τ 9 (ok_laws_eqValueSS hv2) (FzTo.frz rfl) rfl (by kernel_rfl) ?_
  refine ve 1 17 [(2, .fptr (Enc.cells a0) 0), (3, .fptr (Enc.cells a1) 0), (10, B ((!v1)))] [] ?_
  refine pc h (fun h => ?_) (fun h => ?_)
  refine srve 17 [(4, B false)] [] ?_
  cases h
  exact pwp_ret rz
  refine pwp_skip ?_
  refine pwp_seq ?_
  refine srv 4 17 [(12, A a0.fPicked), (14, A a1.fPicked)] [] ?_
  obtain ⟨v4, hv5, h⟩ := bindS h
  refine opsP_callF τ 15 (ok_laws_eqBoolS hv5) (FzTo.frz rfl) rfl (by kernel_rfl) ?_
  refine ve 1 17 [(16, B ((!v4)))] [] ?_
  refine pc h (fun h => ?_) (fun h => ?_)
  refine srve 17 [(4, B false)] [] ?_
  cases h
  exact pwp_ret rz
  refine pwp_skip ?_
  refine srve 17 [(4, B true)] [] ?_
  cases h
  exact pwp_ret rz
def laws_markBatch (a0 : T_impl_Batch) (a1 : Int) : Option Int := (laws_markValueSS a0.fColumns a1).bind fun v1 => (laws_markBoolS a0.fPicked v1.1).bind fun v3 => some v3.1
theorem ok_laws_markBatch {a0 : T_impl_Batch} {a1 : Int} {y : Int} (h : laws_markBatch a0 a1 = some y) : OKm Tryz.prog 39 [.agg (DEnc.cells a0), I a1] (I y) := by
  refine OKm_of_pwp (sl := [.agg [.ref 0 0 0 1 a0.fColumns.length false, .ref 1 0 0 1 a0.fPicked.length false], I a1]) (bs := [⟨0, dL a0.fColumns⟩, ⟨0, eL a0.fPicked⟩]) τ_ok Tryz.func39 rfl (by kernel_rfl) rfl (by kernel_rfl) fun Γ hX => ?_
  refine pwp_imp (Imp.to (st' := ⟨14, [(0, .agg [.ref 0 0 0 1 a0.fColumns.length false, .ref 1 0 0 1 a0.fPicked.length false]), (1, I a1)], [some ⟨0, dL a0.fColumns⟩, some ⟨0, eL a0.fPicked⟩]⟩) [0, 1] (by kernel_rfl)) ?_
  unfold laws_markBatch at h
  refine srveM [2] 14 [(1, I a1), (2, .ptr 2 0 0)] [some ⟨0, dL a0.fColumns⟩, some ⟨0, eL a0.fPicked⟩, some ⟨0, [.ref 0 0 0 1 a0.fColumns.length false, .ref 1 0 0 1 a0.fPicked.length false]⟩] ?_
  refine srvM [2] 3 14 [(2, .ptr 2 0 0), (6, .ref 0 0 0 1 a0.fColumns.length false), (7, I a1)] [some ⟨0, dL a0.fColumns⟩, some ⟨0, eL a0.fPicked⟩, some ⟨0, [.ref 0 0 0 1 a0.fColumns.length false, .ref 1 0 0 1 a0.fPicked.length false]⟩] ?_
  obtain ⟨v1, hv2, h⟩ := bindS h
  refine opsP_E (dd := some 8) (x := I v1.1) (callD_E τ 8 0 0 (ok_laws_markValueSS hv2) (by kernel_rfl)) ?_
  refine opsP_imp (Imp.to (st' := ⟨14, [(2, .ptr 2 0 0), (6, .ref 0 0 0 1 a0.fColumns.length false), (7, I a1), (8, I v1.1)], [some ⟨0, dL v1.2⟩, some ⟨0, eL a0.fPicked⟩, some ⟨0, [.ref 0 0 0 1 a0.fColumns.length false, .ref 1 0 0 1 a0.fPicked.length false]⟩]⟩) [2, 6, 7, 8] (by kernel_rfl)) ?_
  refine opsP_ren (st' := ⟨14, [(2, .ptr 2 0 0), (6, .ref 0 0 0 1 v1.2.length false), (7, I a1), (8, I v1.1)], [some ⟨0, dL v1.2⟩, some ⟨0, eL a0.fPicked⟩, some ⟨0, [.ref 0 0 0 1 a0.fColumns.length false, .ref 1 0 0 1 a0.fPicked.length false]⟩]⟩) 0 v1.2.length (renC trivial (renC (ren_ref (len_laws_markValueSS hv2).symm) (renC trivial (renC trivial renC0)))) (by kernel_rfl) ?_
  refine veM [2] 1 14 [(1, I v1.1), (2, .ptr 2 0 0)] [some ⟨0, dL v1.2⟩, some ⟨0, eL a0.fPicked⟩, some ⟨0, [.ref 0 0 0 1 a0.fColumns.length false, .ref 1 0 0 1 a0.fPicked.length false]⟩] ?_
  refine srvM [2] 3 14 [(10, .ref 1 0 0 1 a0.fPicked.length false), (11, I v1.1)] [some ⟨0, dL v1.2⟩, some ⟨0, eL a0.fPicked⟩, some ⟨0, [.ref 0 0 0 1 a0.fColumns.length false, .ref 1 0 0 1 a0.fPicked.length false]⟩] ?_
  obtain ⟨v3, hv4, h⟩ := bindS h
  refine opsP_E (dd := some 12) (x := I v3.1) (callD_E τ 12 1 0 (ok_laws_markBoolS hv4) (by kernel_rfl)) ?_
  refine opsP_imp (Imp.to (st' := ⟨14, [(10, .ref 1 0 0 1 a0.fPicked.length false), (11, I v1.1), (12, I v3.1)], [some ⟨0, dL v1.2⟩, some ⟨0, eL v3.2⟩, some ⟨0, [.ref 0 0 0 1 a0.fColumns.length false, .ref 1 0 0 1 a0.fPicked.length false]⟩]⟩) [10, 11, 12] (by kernel_rfl)) ?_
  refine opsP_ren (st' := ⟨14, [(10, .ref 1 0 0 1 v3.2.length false), (11, I v1.1), (12, I v3.1)], [some ⟨0, dL v1.2⟩, some ⟨0, eL v3.2⟩, some ⟨0, [.ref 0 0 0 1 a0.fColumns.length false, .ref 1 0 0 1 a0.fPicked.length false]⟩]⟩) 1 v3.2.length (renC (ren_ref (len_laws_markBoolS hv4).symm) (renC trivial (renC trivial renC0))) (by kernel_rfl) ?_
  refine veM [2] 1 14 [(1, I v3.1)] [some ⟨0, dL v1.2⟩, some ⟨0, eL v3.2⟩, some ⟨0, [.ref 0 0 0 1 a0.fColumns.length false, .ref 1 0 0 1 a0.fPicked.length false]⟩] ?_
  refine srveM [2] 14 [(4, I v3.1)] [some ⟨0, dL v1.2⟩, some ⟨0, eL v3.2⟩, some ⟨0, [.ref 0 0 0 1 a0.fColumns.length false, .ref 1 0 0 1 a0.fPicked.length false]⟩] ?_
  cases h
  exact pwp_ret rz
def laws_szValueSS_l0 (a0 : List (List T_laws_Value)) : Nat → Int → Int → Option Int
  | 0, _, _ => none
  | f4 + 1, x2, x3 => bif (decide (x3 < ((a0.length : Int)))) then (getI a0 x3).bind fun v7 => (laws_szValueS v7 x2).bind fun v9 => bif (decide (v9 < 0)) then some (-1) else (laws_szValueSS_l0 a0 f4) v9 ((w64 (x3 + 1))) else some x2
def laws_szValueSS (a0 : List (List T_laws_Value)) (a1 : Int) : Option Int := bif (decide (((w64 (a1 - ((a0.length : Int))))) < 0)) then some (-1) else laws_szValueSS_l0 a0 FUEL ((w64 (a1 - ((a0.length : Int))))) 0
theorem ok_laws_szValueSS {a0 : List (List T_laws_Value)} {a1 : Int} {y : Int} (h : laws_szValueSS a0 a1 = some y) : OK Tryz.prog 46 [A a0, I a1] (I y) := by
  refine OK_of_pwp τ_ok Tryz.func46 rfl (by kernel_rfl) rfl fun Γ hX => ?_
  unfold laws_szValueSS at h
  refine srve 27 [(0, A a0), (1, I a1)] [] ?_
  refine srve 27 [(0, A a0), (1, I ((w64 (a1 - ((a0.length : Int))))))] [] ?_
  refine pwp_seq ?_
  refine srve 27 [(0, A a0), (1, I ((w64 (a1 - ((a0.length : Int)))))), (11, B ((decide (((w64 (a1 - ((a0.length : Int))))) < 0))))] [] ?_
  refine pc h (fun h => ?_) (fun h => ?_)
  refine srve 27 [(4, I (-1))] [] ?_
  cases h
  exact pwp_ret rz
  refine pwp_skip ?_
  refine pwp_seq ?_
  refine srve 27 [(0, A a0), (1, I ((w64 (a1 - ((a0.length : Int)))))), (5, I 0)] [] ?_
  refine pwp_block ?_
  refine pwp_loop (ι := Nat × Int × Int) (fun (f4, x2, x3) => (⟨27, [(0, A a0), (1, I x2), (5, I x3)], []⟩ : St)) (fun (f4, x2, x3) => laws_szValueSS_l0 a0 f4 x2 x3 = some y) (fun (f4, x2, x3) => f4) (FUEL, (w64 (a1 - ((a0.length : Int)))), 0) h ((Imp.to (st' := ⟨27, [(0, A a0), (1, I ((w64 (a1 - ((a0.length : Int)))))), (5, I 0)], []⟩) [0, 1, 5] (by kernel_rfl)).trans (Imp.to [0, 1, 5] (by kernel_rfl))) ?_
  rintro ⟨f4, x2, x3⟩ h
  dsimp only at h ⊢
  rcases f4 with _ | f4
  cases h
  rw [laws_szValueSS_l0] at h
  refine pwp_seq ?_
  refine srve 27 [(0, A a0), (1, I x2), (5, I x3), (15, B ((decide (x3 < ((a0.length : Int))))))] [] ?_
  refine pc h (fun h => ?_) (fun h => ?_)
  refine pwp_skip ?_
  refine pwp_seq ?_
  refine pwp_block ?_
  refine srv 2 27 [(0, A a0), (1, I x2), (5, I x3), (18, A a0), (19, I x3)] [] ?_
  obtain ⟨v7, hv8, h⟩ := bindS h
  refine opsP_idx τ_ok 20 hv8 (by kernel_rfl) ?_
  refine v 2 27 [(0, A a0), (5, I x3), (21, A v7), (22, I x2)] [] ?_
  obtain ⟨v9, hv10, h⟩ := bindS h
  refine opsP_callF τ 23 (ok_laws_szValueS hv10) (FzTo.frz rfl) rfl (by kernel_rfl) ?_
  refine ve 1 27 [(0, A a0), (1, I v9), (5, I x3)] [] ?_
  refine srve 27 [(0, A a0), (1, I v9), (5, I x3), (25, B ((decide (v9 < 0))))] [] ?_
  refine pc h (fun h => ?_) (fun h => ?_)
  refine srve 27 [(4, I (-1))] [] ?_
  cases h
  exact pwp_ret rz
  refine pwp_skip ?_
  refine rve 27 [(0, A a0), (1, I v9), (5, I ((w64 (x3 + 1))))] [] ?_
  exact ⟨(f4, v9, (w64 (x3 + 1))), h, Nat.lt_succ_self _, (Imp.to (st' := ⟨27, [(0, A a0), (1, I v9), (5, I ((w64 (x3 + 1))))], []⟩) [0, 1, 5] (by kernel_rfl)).trans (Imp.to [0, 1, 5] (by kernel_rfl))⟩
  refine pwp_exit ?_
  refine srve 27 [(4, I x2)] [] ?_
  cases h
  exact pwp_ret rz
def spec_l4Step_j1 (a1 : List Int) (a2 : T_impl_Part) (x4 : Bool) : Option ((List Int) × Bool) := bif x4 then some (a1, false) else (app a1 (([a2.fV.fKind] : List Int))).bind fun v6 => some (v6, true)
def spec_l4Step_j2 (a1 : List Int) (x20 : Bool) : Option ((List Int) × Bool) := (slI a1 none (some ((maxL ((w64 (((a1.length : Int)) - 2))) [0]))) none).bind fun v21 => (appT a1 (([1] : List Int)) v21.length).bind fun v23 => some (v23, x20)
def spec_l4Step_j3 (a1 : List Int) (x32 : Bool) : Option ((List Int) × Bool) := (slI a1 none (some ((maxL ((w64 (((a1.length : Int)) - 2))) [0]))) none).bind fun v33 => (appT a1 (([3] : List Int)) v33.length).bind fun v35 => some (v35, x32)
def spec_l4Step_j5 (a1 : List Int) (x47 : Bool) : Option ((List Int) × Bool) := (slI a1 none (some ((maxL ((w64 (((a1.length : Int)) - 2))) [0]))) none).bind fun v48 => (appT a1 (([3] : List Int)) v48.length).bind fun v50 => some (v50, x47)
def spec_l4Step_j4 (a1 : List Int) (a2 : T_impl_Part) (x45 : Bool) : Option ((List Int) × Bool) := bif x45 then bif (decide (((a1.length : Int)) > 1)) then (getI a1 ((w64 (((a1.length : Int)) - 1)))).bind fun v52 => bif (v52 == 3) then (getI a1 ((w64 (((a1.length : Int)) - 2)))).bind fun v54 => spec_l4Step_j5 a1 ((v54 == 3)) else spec_l4Step_j5 a1 false else spec_l4Step_j5 a1 false else bif (a2.fKind == 7) then bif (decide (((a1.length : Int)) > 0)) then (getI a1 ((w64 (((a1.length : Int)) - 1)))).bind fun v59 => some (a1, (v59 == 3)) else some (a1, false) else bif (a2.fKind == 8) then (slI a1 none (some ((maxL ((w64 (((a1.length : Int)) - 1))) [0]))) none).bind fun v63 => (appT a1 (([3] : List Int)) v63.length).bind fun v65 => some (v65, (decide (((a1.length : Int)) > 0))) else some (a1, false)
def spec_l4Step_j0 (a0 : List T_impl_Column) (a1 : List Int) (a2 : T_impl_Part) (x1 : Bool) : Option ((List Int) × Bool) := bif x1 then some (a1, false) else bif (a2.fKind == 1) then (spec_ValueOk a2.fV).bind fun v8 => bif (!v8) then spec_l4Step_j1 a1 a2 true else spec_l4Step_j1 a1 a2 ((a2.fV.fKind == 0)) else bif (a2.fKind == 2) then (spec_l1In a2.fN 0 ((w64 (((a0.length : Int)) - 1)))).bind fun v12 => bif (!v12) then some (a1, false) else (getI a0 a2.fN).bind fun v15 => (app a1 (([v15.fKind] : List Int))).bind fun v17 => some (v17, true) else bif (a2.fKind == 3) then bif (decide (((a1.length : Int)) > 1)) then (getI a1 ((w64 (((a1.length : Int)) - 1)))).bind fun v25 => bif (v25 == 1) then (getI a1 ((w64 (((a1.length : Int)) - 2)))).bind fun v27 => spec_l4Step_j2 a1 ((v27 == 1)) else spec_l4Step_j2 a1 false else spec_l4Step_j2 a1 false else bif (a2.fKind == 4) then bif (decide (((a1.length : Int)) > 1)) then (getI a1 ((w64 (((a1.length : Int)) - 1)))).bind fun v37 => (getI a1 ((w64 (((a1.length : Int)) - 2)))).bind fun v39 => bif (v37 == v39) then (spec_l1In a2.fN 1 4).bind fun v41 => spec_l4Step_j3 a1 v41 else spec_l4Step_j3 a1 false else spec_l4Step_j3 a1 false else bif (a2.fKind == 5) then spec_l4Step_j4 a1 a2 ((a2.fKind == 5)) else spec_l4Step_j4 a1 a2 ((a2.fKind == 6))
def spec_l4Step (a0 : List T_impl_Column) (a1 : List Int) (a2 : T_impl_Part) : Option ((List Int) × Bool) := bif (!(a2.fKind == 1)) then bif (!(eq_T_impl_Value a2.fV ((T_impl_Value.mk 0 0 (ByteArray.mk #[]))))) then spec_l4Step_j0 a0 a1 a2 true else bif (!(a2.fKind == 2)) then bif (!(a2.fKind == 4)) then spec_l4Step_j0 a0 a1 a2 ((!(a2.fN == 0))) else spec_l4Step_j0 a0 a1 a2 false else spec_l4Step_j0 a0 a1 a2 false else bif (!(a2.fKind == 2)) then bif (!(a2.fKind == 4)) then spec_l4Step_j0 a0 a1 a2 ((!(a2.fN == 0))) else spec_l4Step_j0 a0 a1 a2 false else spec_l4Step_j0 a0 a1 a2 false
theorem ok_spec_l4Step {a0 : List T_impl_Column} {a1 : List Int} {a2 : T_impl_Part} {y : (List Int) × Bool} (h : spec_l4Step a0 a1 a2 = some y) : OKm Tryz.prog 120 [A a0, O a1, E a2] (.tup [O y.1, B y.2]) := by
  refine OKm_of_pwp (sl := [A a0, .ref 0 0 0 1 a1.length false, E a2]) (bs := [⟨0, eL a1⟩]) τ_ok Tryz.func120 rfl (by kernel_rfl) rfl (by kernel_rfl) fun Γ hX => ?_
  refine pwp_imp (Imp.to (st' := ⟨191, [(0, A a0), (1, .ref 0 0 0 1 a1.length false), (2, E a2)], [some ⟨0, eL a1⟩]⟩) [0, 1, 2] (by kernel_rfl)) ?_
  unfold spec_l4Step at h
  refine srve 191 [(0, A a0), (1, .ref 0 0 0 1 a1.length false), (5, .fptr (Enc.cells a2) 0)] [some ⟨0, eL a1⟩] ?_
  refine srve 191 [(0, A a0), (1, .ref 0 0 0 1 a1.length false), (5, .fptr (Enc.cells a2) 0), (8, I ((a1.length : Int)))] [some ⟨0, eL a1⟩] ?_
  refine pwp_seq ?_
  refine pwp_seq ?_
  refine pwp_join (σ := Bool) (fun x1 => (⟨191, [(0, A a0), (1, .ref 0 0 0 1 a1.length false), (5, .fptr (Enc.cells a2) 0), (8, I ((a1.length : Int))), (37, B x1)], [some ⟨0, eL a1⟩]⟩ : St)) (fun x1 => spec_l4Step_j0 a0 a1 a2 x1 = some y) ?_ ?_
  refine rv 4 191 [(0, A a0), (1, .ref 0 0 0 1 a1.length false), (5, .fptr (Enc.cells a2) 0), (8, I ((a1.length : Int))), (17, B ((!(a2.fKind == 1))))] [some ⟨0, eL a1⟩] ?_
  rcases fk ((!(a2.fKind == 1))) with hc73 | hc73
  replace h := bT hc73 h
  rw [hc73]
  refine v 6 191 [(0, A a0), (1, .ref 0 0 0 1 a1.length false), (5, .fptr (Enc.cells a2) 0), (8, I ((a1.length : Int))), (23, B ((!(eq_T_impl_Value a2.fV ((T_impl_Value.mk 0 0 (ByteArray.mk #[])))))))] [some ⟨0, eL a1⟩] ?_
  rcases fk ((!(eq_T_impl_Value a2.fV ((T_impl_Value.mk 0 0 (ByteArray.mk #[])))))) with hc70 | hc70
  replace h := bT hc70 h
  rw [hc70]
  refine ve 14 191 [(0, A a0), (1, .ref 0 0 0 1 a1.length false), (5, .fptr (Enc.cells a2) 0), (8, I ((a1.length : Int))), (37, B true)] [some ⟨0, eL a1⟩] ?_
  exact ⟨true, h, (Imp.to (st' := ⟨191, [(0, A a0), (1, .ref 0 0 0 1 a1.length false), (5, .fptr (Enc.cells a2) 0), (8, I ((a1.length : Int))), (37, B true)], [some ⟨0, eL a1⟩]⟩) [0, 1, 5, 8, 37] (by kernel_rfl)).trans (Imp.to [0, 1, 5, 8, 37] (by kernel_rfl))⟩
  replace h := bF hc70 h
  rw [hc70]
  refine v 4 191 [(0, A a0), (1, .ref 0 0 0 1 a1.length false), (5, .fptr (Enc.cells a2) 0), (8, I ((a1.length : Int))), (23, B false), (27, B ((!(a2.fKind == 2))))] [some ⟨0, eL a1⟩] ?_
  rcases fk ((!(a2.fKind == 2))) with hc69 | hc69
  replace h := bT hc69 h
  rw [hc69]
  refine v 5 191 [(0, A a0), (1, .ref 0 0 0 1 a1.length false), (5, .fptr (Enc.cells a2) 0), (8, I ((a1.length : Int))), (23, B false), (32, B ((!(a2.fKind == 4))))] [some ⟨0, eL a1⟩] ?_
  rcases fk ((!(a2.fKind == 4))) with hc68 | hc68
  replace h := bT hc68 h
  rw [hc68]
  refine ve 5 191 [(0, A a0), (1, .ref 0 0 0 1 a1.length false), (5, .fptr (Enc.cells a2) 0), (8, I ((a1.length : Int))), (37, B ((!(a2.fN == 0))))] [some ⟨0, eL a1⟩] ?_
  exact ⟨(!(a2.fN == 0)), h, (Imp.to (st' := ⟨191, [(0, A a0), (1, .ref 0 0 0 1 a1.length false), (5, .fptr (Enc.cells a2) 0), (8, I ((a1.length : Int))), (37, B ((!(a2.fN == 0))))], [some ⟨0, eL a1⟩]⟩) [0, 1, 5, 8, 37] (by kernel_rfl)).trans (Imp.to [0, 1, 5, 8, 37] (by kernel_rfl))⟩
  replace h := bF hc68 h
  rw [hc68]
  refine ve 5 191 [(0, A a0), (1, .ref 0 0 0 1 a1.length false), (5, .fptr (Enc.cells a2) 0), (8, I ((a1.length : Int))), (37, B false)] [some ⟨0, eL a1⟩] ?_
  exact ⟨false, h, (Imp.to (st' := ⟨191, [(0, A a0), (1, .ref 0 0 0 1 a1.length false), (5, .fptr (Enc.cells a2) 0), (8, I ((a1.length : Int))), (37, B false)], [some ⟨0, eL a1⟩]⟩) [0, 1, 5, 8, 37] (by kernel_rfl)).trans (Imp.to [0, 1, 5, 8, 37] (by kernel_rfl))⟩
  replace h := bF hc69 h
  rw [hc69]
  refine ve 10 191 [(0, A a0), (1, .ref 0 0 0 1 a1.length false), (5, .fptr (Enc.cells a2) 0), (8, I ((a1.length : Int))), (37, B false)] [some ⟨0, eL a1⟩] ?_
  exact ⟨false, h, (Imp.to (st' := ⟨191, [(0, A a0), (1, .ref 0 0 0 1 a1.length false), (5, .fptr (Enc.cells a2) 0), (8, I ((a1.length : Int))), (37, B false)], [some ⟨0, eL a1⟩]⟩) [0, 1, 5, 8, 37] (by kernel_rfl)).trans (Imp.to [0, 1, 5, 8, 37] (by kernel_rfl))⟩
  replace h := bF hc73 h
  rw [hc73]
  refine v 10 191 [(0, A a0), (1, .ref 0 0 0 1 a1.length false), (5, .fptr (Enc.cells a2) 0), (8, I ((a1.length : Int))), (23, B false), (27, B ((!(a2.fKind == 2))))] [some ⟨0, eL a1⟩] ?_
  rcases fk ((!(a2.fKind == 2))) with hc72 | hc72
  replace h := bT hc72 h
  rw [hc72]
  refine v 5 191 [(0, A a0), (1, .ref 0 0 0 1 a1.length false), (5, .fptr (Enc.cells a2) 0), (8, I ((a1.length : Int))), (23, B false), (32, B ((!(a2.fKind == 4))))] [some ⟨0, eL a1⟩] ?_
  rcases fk ((!(a2.fKind == 4))) with hc71 | hc71
  replace h := bT hc71 h
  rw [hc71]
  refine ve 5 191 [(0, A a0), (1, .ref 0 0 0 1 a1.length false), (5, .fptr (Enc.cells a2) 0), (8, I ((a1.length : Int))), (37, B ((!(a2.fN == 0))))] [some ⟨0, eL a1⟩] ?_
  exact ⟨(!(a2.fN == 0)), h, (Imp.to (st' := ⟨191, [(0, A a0), (1, .ref 0 0 0 1 a1.length false), (5, .fptr (Enc.cells a2) 0), (8, I ((a1.length : Int))), (37, B ((!(a2.fN == 0))))], [some ⟨0, eL a1⟩]⟩) [0, 1, 5, 8, 37] (by kernel_rfl)).trans (Imp.to [0, 1, 5, 8, 37] (by kernel_rfl))⟩
  replace h := bF hc71 h
  rw [hc71]
  refine ve 5 191 [(0, A a0), (1, .ref 0 0 0 1 a1.length false), (5, .fptr (Enc.cells a2) 0), (8, I ((a1.length : Int))), (37, B false)] [some ⟨0, eL a1⟩] ?_
  exact ⟨false, h, (Imp.to (st' := ⟨191, [(0, A a0), (1, .ref 0 0 0 1 a1.length false), (5, .fptr (Enc.cells a2) 0), (8, I ((a1.length : Int))), (37, B false)], [some ⟨0, eL a1⟩]⟩) [0, 1, 5, 8, 37] (by kernel_rfl)).trans (Imp.to [0, 1, 5, 8, 37] (by kernel_rfl))⟩
  replace h := bF hc72 h
  rw [hc72]
  refine ve 10 191 [(0, A a0), (1, .ref 0 0 0 1 a1.length false), (5, .fptr (Enc.cells a2) 0), (8, I ((a1.length : Int))), (37, B false)] [some ⟨0, eL a1⟩] ?_
  exact ⟨false, h, (Imp.to (st' := ⟨191, [(0, A a0), (1, .ref 0 0 0 1 a1.length false), (5, .fptr (Enc.cells a2) 0), (8, I ((a1.length : Int))), (37, B false)], [some ⟨0, eL a1⟩]⟩) [0, 1, 5, 8, 37] (by kernel_rfl)).trans (Imp.to [0, 1, 5, 8, 37] (by kernel_rfl))⟩
  rintro x1 h
  unfold spec_l4Step_j0 at h
  refine pc h (fun h => ?_) (fun h => ?_)
  refine srve 191 [(6, .ref 0 0 0 1 a1.length false), (7, B false)] [some ⟨0, eL a1⟩] ?_
  have h := si h
  subst h
  exact pwp_ret (rt (.tup [.ref 0 0 0 1 a1.length false, B false]) (OutP.tup (OutL.cons (OutP.list (v := 0) (by kernel_rfl)) (OutL.cons (OutP.frz (by kernel_rfl)) (OutL.nil _)))))
  refine pwp_skip ?_
  refine pwp_seq ?_
  refine srve 191 [(0, A a0), (1, .ref 0 0 0 1 a1.length false), (5, .fptr (Enc.cells a2) 0), (8, I ((a1.length : Int))), (40, I a2.fKind)] [some ⟨0, eL a1⟩] ?_
  refine pwp_block ?_
  refine srve 191 [(0, A a0), (1, .ref 0 0 0 1 a1.length false), (5, .fptr (Enc.cells a2) 0), (8, I ((a1.length : Int))), (40, I a2.fKind), (41, B ((a2.fKind == 1)))] [some ⟨0, eL a1⟩] ?_
  refine pc h (fun h => ?_) (fun h => ?_)
  refine pwp_seq ?_
  refine pwp_seq ?_
  refine pwp_join (σ := Bool) (fun x4 => (⟨191, [(1, .ref 0 0 0 1 a1.length false), (5, .fptr (Enc.cells a2) 0), (52, B x4)], [some ⟨0, eL a1⟩]⟩ : St)) (fun x4 => spec_l4Step_j1 a1 a2 x4 = some y) ?_ ?_
  refine rv 2 191 [(1, .ref 0 0 0 1 a1.length false), (5, .fptr (Enc.cells a2) 0), (44, E a2.fV)] [some ⟨0, eL a1⟩] ?_
  obtain ⟨v8, hv9, h⟩ := bindS h
  refine opsP_callF τ 45 (ok_spec_ValueOk hv9) (FzTo.frz rfl) rfl (by kernel_rfl) ?_
  refine v 2 191 [(1, .ref 0 0 0 1 a1.length false), (5, .fptr (Enc.cells a2) 0), (47, B ((!v8)))] [some ⟨0, eL a1⟩] ?_
  rcases fk ((!v8)) with hc10 | hc10
  replace h := bT hc10 h
  rw [hc10]
  refine ve 5 191 [(1, .ref 0 0 0 1 a1.length false), (5, .fptr (Enc.cells a2) 0), (52, B true)] [some ⟨0, eL a1⟩] ?_
  exact ⟨true, h, (Imp.to (st' := ⟨191, [(1, .ref 0 0 0 1 a1.length false), (5, .fptr (Enc.cells a2) 0), (52, B true)], [some ⟨0, eL a1⟩]⟩) [1, 5, 52] (by kernel_rfl)).trans (Imp.to [1, 5, 52] (by kernel_rfl))⟩
  replace h := bF hc10 h
  rw [hc10]
  refine ve 5 191 [(1, .ref 0 0 0 1 a1.length false), (5, .fptr (Enc.cells a2) 0), (52, B ((a2.fV.fKind == 0)))] [some ⟨0, eL a1⟩] ?_
  exact ⟨(a2.fV.fKind == 0), h, (Imp.to (st' := ⟨191, [(1, .ref 0 0 0 1 a1.length false), (5, .fptr (Enc.cells a2) 0), (52, B ((a2.fV.fKind == 0)))], [some ⟨0, eL a1⟩]⟩) [1, 5, 52] (by kernel_rfl)).trans (Imp.to [1, 5, 52] (by kernel_rfl))⟩
  rintro x4 h
  unfold spec_l4Step_j1 at h
  refine pc h (fun h => ?_) (fun h => ?_)
  refine srve 191 [(6, .ref 0 0 0 1 a1.length false), (7, B false)] [some ⟨0, eL a1⟩] ?_
  have h := si h
  subst h
  exact pwp_ret (rt (.tup [.ref 0 0 0 1 a1.length false, B false]) (OutP.tup (OutL.cons (OutP.list (v := 0) (by kernel_rfl)) (OutL.cons (OutP.frz (by kernel_rfl)) (OutL.nil _)))))
  refine pwp_skip ?_
  refine srv 5 191 [(54, .ref 0 0 0 1 a1.length false), (58, .arr 1 (([a2.fV.fKind] : List Int)).length (eL ([a2.fV.fKind] : List Int)) true)] [some ⟨0, eL a1⟩] ?_
  obtain ⟨v6, hv7, h⟩ := bindS h
  refine opsP_app τ_ok 59 0 0 (fun b hb => absurd hb (hX b)) hv7 (by kernel_rfl) ?_
  refine ve 2 191 [(6, .ref 0 1 0 1 v6.length false), (7, B true)] [some ⟨1, eL v6⟩] ?_
  have h := si h
  subst h
  exact pwp_ret (rt (.tup [.ref 0 1 0 1 v6.length false, B true]) (OutP.tup (OutL.cons (OutP.list (v := 1) (by kernel_rfl)) (OutL.cons (OutP.frz (by kernel_rfl)) (OutL.nil _)))))
  refine srve 191 [(0, A a0), (1, .ref 0 0 0 1 a1.length false), (5, .fptr (Enc.cells a2) 0), (8, I ((a1.length : Int))), (40, I a2.fKind), (60, B ((a2.fKind == 2)))] [some ⟨0, eL a1⟩] ?_
  refine pc h (fun h => ?_) (fun h => ?_)
  refine pwp_seq ?_
  refine srv 5 191 [(0, A a0), (1, .ref 0 0 0 1 a1.length false), (5, .fptr (Enc.cells a2) 0), (63, I a2.fN), (66, I ((w64 (((a0.length : Int)) - 1))))] [some ⟨0, eL a1⟩] ?_
  obtain ⟨v12, hv13, h⟩ := bindS h
  refine opsP_callF τ 67 (ok_spec_l1In hv13) (FzTo.frz rfl) rfl (by kernel_rfl) ?_
  refine ve 1 191 [(0, A a0), (1, .ref 0 0 0 1 a1.length false), (5, .fptr (Enc.cells a2) 0), (68, B ((!v12)))] [some ⟨0, eL a1⟩] ?_
  refine pc h (fun h => ?_) (fun h => ?_)
  refine srve 191 [(6, .ref 0 0 0 1 a1.length false), (7, B false)] [some ⟨0, eL a1⟩] ?_
  have h := si h
  subst h
  exact pwp_ret (rt (.tup [.ref 0 0 0 1 a1.length false, B false]) (OutP.tup (OutL.cons (OutP.list (v := 0) (by kernel_rfl)) (OutL.cons (OutP.frz (by kernel_rfl)) (OutL.nil _)))))
  refine pwp_skip ?_
  refine srv 4 191 [(70, .ref 0 0 0 1 a1.length false), (71, A a0), (73, I a2.fN)] [some ⟨0, eL a1⟩] ?_
  obtain ⟨v15, hv16, h⟩ := bindS h
  refine opsP_idx τ_ok 74 hv16 (by kernel_rfl) ?_
  refine v 3 191 [(70, .ref 0 0 0 1 a1.length false), (77, .arr 1 (([v15.fKind] : List Int)).length (eL ([v15.fKind] : List Int)) true)] [some ⟨0, eL a1⟩] ?_
  obtain ⟨v17, hv18, h⟩ := bindS h
  refine opsP_app τ_ok 78 0 0 (fun b hb => absurd hb (hX b)) hv18 (by kernel_rfl) ?_
  refine ve 2 191 [(6, .ref 0 1 0 1 v17.length false), (7, B true)] [some ⟨1, eL v17⟩] ?_
  have h := si h
  subst h
  exact pwp_ret (rt (.tup [.ref 0 1 0 1 v17.length false, B true]) (OutP.tup (OutL.cons (OutP.list (v := 1) (by kernel_rfl)) (OutL.cons (OutP.frz (by kernel_rfl)) (OutL.nil _)))))
  refine srve 191 [(1, .ref 0 0 0 1 a1.length false), (5, .fptr (Enc.cells a2) 0), (8, I ((a1.length : Int))), (40, I a2.fKind), (79, B ((a2.fKind == 3)))] [some ⟨0, eL a1⟩] ?_
  refine pc h (fun h => ?_) (fun h => ?_)
  refine pwp_seq ?_
  refine pwp_join (σ := Bool) (fun x20 => (⟨191, [(1, .ref 0 0 0 1 a1.length false), (8, I ((a1.length : Int))), (9, B x20)], [some ⟨0, eL a1⟩]⟩ : St)) (fun x20 => spec_l4Step_j2 a1 x20 = some y) ?_ ?_
  refine rv 3 191 [(1, .ref 0 0 0 1 a1.length false), (8, I ((a1.length : Int))), (83, B ((decide (((a1.length : Int)) > 1))))] [some ⟨0, eL a1⟩] ?_
  rcases fk ((decide (((a1.length : Int)) > 1))) with hc30 | hc30
  replace h := bT hc30 h
  rw [hc30]
  refine v 3 191 [(1, .ref 0 0 0 1 a1.length false), (8, I ((a1.length : Int))), (83, B true), (84, .ref 0 0 0 1 a1.length false), (86, I ((w64 (((a1.length : Int)) - 1))))] [some ⟨0, eL a1⟩] ?_
  obtain ⟨v25, hv26, h⟩ := bindS h
  refine opsP_idr τ_ok 87 0 0 a1.length hv26 rfl (by kernel_rfl) ?_
  refine opsP_lde (r := I v25) τ_ok 88 3 0 hv26 (by kernel_rfl) (by kernel_rfl) ?_
  refine v 3 191 [(1, .ref 0 0 0 1 a1.length false), (8, I ((a1.length : Int))), (91, B ((v25 == 1)))] [some ⟨0, eL a1⟩] ?_
  rcases fk ((v25 == 1)) with hc29 | hc29
  replace h := bT hc29 h
  rw [hc29]
  refine v 3 191 [(1, .ref 0 0 0 1 a1.length false), (8, I ((a1.length : Int))), (91, B true), (92, .ref 0 0 0 1 a1.length false), (94, I ((w64 (((a1.length : Int)) - 2))))] [some ⟨0, eL a1⟩] ?_
  obtain ⟨v27, hv28, h⟩ := bindS h
  refine opsP_idr τ_ok 95 0 0 a1.length hv28 rfl (by kernel_rfl) ?_
  refine opsP_lde (r := I v27) τ_ok 96 3 0 hv28 (by kernel_rfl) (by kernel_rfl) ?_
  refine ve 3 191 [(1, .ref 0 0 0 1 a1.length false), (8, I ((a1.length : Int))), (9, B ((v27 == 1)))] [some ⟨0, eL a1⟩] ?_
  exact ⟨(v27 == 1), h, (Imp.to (st' := ⟨191, [(1, .ref 0 0 0 1 a1.length false), (8, I ((a1.length : Int))), (9, B ((v27 == 1)))], [some ⟨0, eL a1⟩]⟩) [1, 8, 9] (by kernel_rfl)).trans (Imp.to [1, 8, 9] (by kernel_rfl))⟩
  replace h := bF hc29 h
  rw [hc29]
  refine ve 8 191 [(1, .ref 0 0 0 1 a1.length false), (8, I ((a1.length : Int))), (9, B false)] [some ⟨0, eL a1⟩] ?_
  exact ⟨false, h, (Imp.to (st' := ⟨191, [(1, .ref 0 0 0 1 a1.length false), (8, I ((a1.length : Int))), (9, B false)], [some ⟨0, eL a1⟩]⟩) [1, 8, 9] (by kernel_rfl)).trans (Imp.to [1, 8, 9] (by kernel_rfl))⟩
  replace h := bF hc30 h
  rw [hc30]
  refine ve 16 191 [(1, .ref 0 0 0 1 a1.length false), (8, I ((a1.length : Int))), (9, B false)] [some ⟨0, eL a1⟩] ?_
  exact ⟨false, h, (Imp.to (st' := ⟨191, [(1, .ref 0 0 0 1 a1.length false), (8, I ((a1.length : Int))), (9, B false)], [some ⟨0, eL a1⟩]⟩) [1, 8, 9] (by kernel_rfl)).trans (Imp.to [1, 8, 9] (by kernel_rfl))⟩
  rintro x20 h
  unfold spec_l4Step_j2 at h
  refine srv 3 191 [(9, B x20), (99, .ref 0 0 0 1 a1.length false), (101, I ((w64 (((a1.length : Int)) - 2))))] [some ⟨0, eL a1⟩] ?_
  refine opsP_E (dd := some 102) (x := I (maxL ((w64 (((a1.length : Int)) - 2))) [0])) (CoreE.of_y (mxmV_sound (τ := τ) (m := true) (a := (w64 (((a1.length : Int)) - 2))) (l := [0]) (by kernel_rfl))) ?_
  obtain ⟨v21, hv22, h⟩ := bindS h
  refine opsP_slr τ_ok 103 0 0 a1.length hv22 rfl (by kernel_rfl) ?_
  refine v 1 191 [(9, B x20), (103, .ref 0 0 0 1 v21.length false), (104, .arr 1 (([1] : List Int)).length (eL ([1] : List Int)) true)] [some ⟨0, eL a1⟩] ?_
  obtain ⟨v23, hv24, h⟩ := bindS h
  refine opsP_apt τ_ok 105 0 0 v21.length (fun b hb => absurd hb (hX b)) hv24 (slI_le hv22) (by kernel_rfl) ?_
  refine ve 3 191 [(6, .ref 0 1 0 1 v23.length false), (7, B x20)] [some ⟨1, eL v23⟩] ?_
  have h := si h
  subst h
  exact pwp_ret (rt (.tup [.ref 0 1 0 1 v23.length false, B x20]) (OutP.tup (OutL.cons (OutP.list (v := 1) (by kernel_rfl)) (OutL.cons (OutP.frz (by kernel_rfl)) (OutL.nil _)))))
  refine srve 191 [(1, .ref 0 0 0 1 a1.length false), (5, .fptr (Enc.cells a2) 0), (8, I ((a1.length : Int))), (40, I a2.fKind), (107, B ((a2.fKind == 4)))] [some ⟨0, eL a1⟩] ?_
  refine pc h (fun h => ?_) (fun h => ?_)
  refine pwp_seq ?_
  refine pwp_join (σ := Bool) (fun x32 => (⟨191, [(1, .ref 0 0 0 1 a1.length false), (8, I ((a1.length : Int))), (10, B x32)], [some ⟨0, eL a1⟩]⟩ : St)) (fun x32 => spec_l4Step_j3 a1 x32 = some y) ?_ ?_
  refine pwp_imp (Imp.to (st' := ⟨191, [(1, .ref 0 0 0 1 a1.length false), (5, .fptr (Enc.cells a2) 0), (8, I ((a1.length : Int)))], [some ⟨0, eL a1⟩]⟩) [1, 5, 8] (by kernel_rfl)) ?_
  refine pwp_any ([[], [], [], [0], [], [], [0], [0], [0], [], [], [0], [0], [], [], [], [], [], [], [], []]) ([[], [], [], [], [], [], [], [], [], [], [], [], [], [], [], [], [], [], [], [], []]) rfl (by kernel_rfl) ?_
  refine qA_ev (st' := ⟨191, [(111, B ((decide (((a1.length : Int)) > 1)))), (110, B ((decide (((a1.length : Int)) > 1)))), (109, I ((a1.length : Int))), (1, .ref 0 0 0 1 a1.length false), (5, .fptr (Enc.cells a2) 0), (8, I ((a1.length : Int)))], [some ⟨0, eL a1⟩]⟩) τ_ok [] [] 3 (by exact trivial) (by kernel_rfl) ?_
  rcases fk ((decide (((a1.length : Int)) > 1))) with hc44 | hc44
  replace h := bT hc44 h
  rw [hc44]
  refine qA_ev (st' := ⟨191, [(112, .ref 0 0 0 1 a1.length false), (111, B true), (110, B true), (109, I ((a1.length : Int))), (1, .ref 0 0 0 1 a1.length false), (5, .fptr (Enc.cells a2) 0), (8, I ((a1.length : Int)))], [some ⟨0, eL a1⟩]⟩) τ_ok [] [0] 1 (by exact (And.intro (.inl (eL_frz _)) trivial)) (by kernel_rfl) ?_
  refine qA_ev (st' := ⟨191, [(114, I ((w64 (((a1.length : Int)) - 1)))), (113, I ((a1.length : Int))), (112, .ref 0 0 0 1 a1.length false), (111, B true), (110, B true), (109, I ((a1.length : Int))), (1, .ref 0 0 0 1 a1.length false), (5, .fptr (Enc.cells a2) 0), (8, I ((a1.length : Int)))], [some ⟨0, eL a1⟩]⟩) τ_ok [] [] 2 (by exact trivial) (by kernel_rfl) ?_
  obtain ⟨v37, hv38, h⟩ := bindS h
  refine qA_E (dd := some 115) (x := .ptr 0 0 (((w64 (((a1.length : Int)) - 1))).toNat * 1)) ([some ⟨0, eL a1⟩]) (⟨191, [(115, .ptr 0 0 (((w64 (((a1.length : Int)) - 1))).toNat * 1)), (114, I ((w64 (((a1.length : Int)) - 1)))), (113, I ((a1.length : Int))), (112, .ref 0 0 0 1 a1.length false), (111, B true), (110, B true), (109, I ((a1.length : Int))), (1, .ref 0 0 0 1 a1.length false), (5, .fptr (Enc.cells a2) 0), (8, I ((a1.length : Int)))], [some ⟨0, eL a1⟩]⟩) (fun Γ' hΓ => CoreE.of_y (idrV_sound (n := a1.length) τ_ok (by kernel_rfl) hv38 rfl)) (by kernel_rfl) (by kernel_rfl) (by exact (And.intro (.inl (eL_frz _)) trivial)) (.inr (.inl rfl)) (by kernel_rfl) ?_
  refine qA_E (dd := some 116) (x := I v37) ([some ⟨0, eL a1⟩]) (⟨191, [(116, I v37), (115, .ptr 0 0 (((w64 (((a1.length : Int)) - 1))).toNat * 1)), (114, I ((w64 (((a1.length : Int)) - 1)))), (113, I ((a1.length : Int))), (112, .ref 0 0 0 1 a1.length false), (111, B true), (110, B true), (109, I ((a1.length : Int))), (1, .ref 0 0 0 1 a1.length false), (5, .fptr (Enc.cells a2) 0), (8, I ((a1.length : Int)))], [some ⟨0, eL a1⟩]⟩) (fun Γ' hΓ => CoreE.of_y (ldeV_sound (t := 3) (o' := 0) (r := I v37) τ_ok hv38 (by kernel_rfl) (by kernel_rfl))) (by kernel_rfl) (by kernel_rfl) (by exact (And.intro (.inl (eL_frz _)) trivial)) (.inr (.inr rfl)) (by kernel_rfl) ?_
  refine qA_ev (st' := ⟨191, [(117, .ref 0 0 0 1 a1.length false), (116, I v37), (115, .ptr 0 0 (((w64 (((a1.length : Int)) - 1))).toNat * 1)), (114, I ((w64 (((a1.length : Int)) - 1)))), (113, I ((a1.length : Int))), (112, .ref 0 0 0 1 a1.length false), (111, B true), (110, B true), (109, I ((a1.length : Int))), (1, .ref 0 0 0 1 a1.length false), (5, .fptr (Enc.cells a2) 0), (8, I ((a1.length : Int)))], [some ⟨0, eL a1⟩]⟩) τ_ok [] [0] 1 (by exact (And.intro (.inl (eL_frz _)) trivial)) (by kernel_rfl) ?_
  refine qA_ev (st' := ⟨191, [(119, I ((w64 (((a1.length : Int)) - 2)))), (118, I ((a1.length : Int))), (117, .ref 0 0 0 1 a1.length false), (116, I v37), (115, .ptr 0 0 (((w64 (((a1.length : Int)) - 1))).toNat * 1)), (114, I ((w64 (((a1.length : Int)) - 1)))), (113, I ((a1.length : Int))), (112, .ref 0 0 0 1 a1.length false), (111, B true), (110, B true), (109, I ((a1.length : Int))), (1, .ref 0 0 0 1 a1.length false), (5, .fptr (Enc.cells a2) 0), (8, I ((a1.length : Int)))], [some ⟨0, eL a1⟩]⟩) τ_ok [] [] 2 (by exact trivial) (by kernel_rfl) ?_
  obtain ⟨v39, hv40, h⟩ := bindS h
  refine qA_E (dd := some 120) (x := .ptr 0 0 (((w64 (((a1.length : Int)) - 2))).toNat * 1)) ([some ⟨0, eL a1⟩]) (⟨191, [(120, .ptr 0 0 (((w64 (((a1.length : Int)) - 2))).toNat * 1)), (119, I ((w64 (((a1.length : Int)) - 2)))), (118, I ((a1.length : Int))), (117, .ref 0 0 0 1 a1.length false), (116, I v37), (115, .ptr 0 0 (((w64 (((a1.length : Int)) - 1))).toNat * 1)), (114, I ((w64 (((a1.length : Int)) - 1)))), (113, I ((a1.length : Int))), (112, .ref 0 0 0 1 a1.length false), (111, B true), (110, B true), (109, I ((a1.length : Int))), (1, .ref 0 0 0 1 a1.length false), (5, .fptr (Enc.cells a2) 0), (8, I ((a1.length : Int)))], [some ⟨0, eL a1⟩]⟩) (fun Γ' hΓ => CoreE.of_y (idrV_sound (n := a1.length) τ_ok (by kernel_rfl) hv40 rfl)) (by kernel_rfl) (by kernel_rfl) (by exact (And.intro (.inl (eL_frz _)) trivial)) (.inr (.inl rfl)) (by kernel_rfl) ?_
  refine qA_E (dd := some 121) (x := I v39) ([some ⟨0, eL a1⟩]) (⟨191, [(121, I v39), (120, .ptr 0 0 (((w64 (((a1.length : Int)) - 2))).toNat * 1)), (119, I ((w64 (((a1.length : Int)) - 2)))), (118, I ((a1.length : Int))), (117, .ref 0 0 0 1 a1.length false), (116, I v37), (115, .ptr 0 0 (((w64 (((a1.length : Int)) - 1))).toNat * 1)), (114, I ((w64 (((a1.length : Int)) - 1)))), (113, I ((a1.length : Int))), (112, .ref 0 0 0 1 a1.length false), (111, B true), (110, B true), (109, I ((a1.length : Int))), (1, .ref 0 0 0 1 a1.length false), (5, .fptr (Enc.cells a2) 0), (8, I ((a1.length : Int)))], [some ⟨0, eL a1⟩]⟩) (fun Γ' hΓ => CoreE.of_y (ldeV_sound (t := 3) (o' := 0) (r := I v39) τ_ok hv40 (by kernel_rfl) (by kernel_rfl))) (by kernel_rfl) (by kernel_rfl) (by exact (And.intro (.inl (eL_frz _)) trivial)) (.inr (.inr rfl)) (by kernel_rfl) ?_
  refine qA_ev (st' := ⟨191, [(124, B ((v37 == v39))), (123, B ((v37 == v39))), (122, B ((v37 == v39))), (121, I v39), (120, .ptr 0 0 (((w64 (((a1.length : Int)) - 2))).toNat * 1)), (119, I ((w64 (((a1.length : Int)) - 2)))), (118, I ((a1.length : Int))), (117, .ref 0 0 0 1 a1.length false), (116, I v37), (115, .ptr 0 0 (((w64 (((a1.length : Int)) - 1))).toNat * 1)), (114, I ((w64 (((a1.length : Int)) - 1)))), (113, I ((a1.length : Int))), (112, .ref 0 0 0 1 a1.length false), (111, B true), (110, B true), (109, I ((a1.length : Int))), (1, .ref 0 0 0 1 a1.length false), (5, .fptr (Enc.cells a2) 0), (8, I ((a1.length : Int)))], [some ⟨0, eL a1⟩]⟩) τ_ok [] [] 3 (by exact trivial) (by kernel_rfl) ?_
  rcases fk ((v37 == v39)) with hc43 | hc43
  replace h := bT hc43 h
  rw [hc43]
  refine qA_ev (st' := ⟨191, [(126, I a2.fN), (125, .fptr (Enc.cells a2) 1), (124, B true), (123, B true), (122, B true), (121, I v39), (120, .ptr 0 0 (((w64 (((a1.length : Int)) - 2))).toNat * 1)), (119, I ((w64 (((a1.length : Int)) - 2)))), (118, I ((a1.length : Int))), (117, .ref 0 0 0 1 a1.length false), (116, I v37), (115, .ptr 0 0 (((w64 (((a1.length : Int)) - 1))).toNat * 1)), (114, I ((w64 (((a1.length : Int)) - 1)))), (113, I ((a1.length : Int))), (112, .ref 0 0 0 1 a1.length false), (111, B true), (110, B true), (109, I ((a1.length : Int))), (1, .ref 0 0 0 1 a1.length false), (5, .fptr (Enc.cells a2) 0), (8, I ((a1.length : Int)))], [some ⟨0, eL a1⟩]⟩) τ_ok [] [] 2 (by exact trivial) (by kernel_rfl) ?_
  obtain ⟨v41, hv42, h⟩ := bindS h
  refine qA_E (dd := some 127) (x := B v41) ([none]) (⟨191, [(127, B v41), (126, I a2.fN), (125, .fptr (Enc.cells a2) 1), (124, B true), (123, B true), (122, B true), (121, I v39), (120, .ptr 0 0 (((w64 (((a1.length : Int)) - 2))).toNat * 1)), (119, I ((w64 (((a1.length : Int)) - 2)))), (118, I ((a1.length : Int))), (117, .ref 0 0 0 1 a1.length false), (116, I v37), (115, .ptr 0 0 (((w64 (((a1.length : Int)) - 1))).toNat * 1)), (114, I ((w64 (((a1.length : Int)) - 1)))), (113, I ((a1.length : Int))), (112, .ref 0 0 0 1 a1.length false), (111, B true), (110, B true), (109, I ((a1.length : Int))), (1, .ref 0 0 0 1 a1.length false), (5, .fptr (Enc.cells a2) 0), (8, I ((a1.length : Int)))], [some ⟨0, eL a1⟩]⟩) (fun Γ' hΓ => CoreE.of_g (callV_sound (τ := τ) (by kernel_rfl) rfl (ok_spec_l1In hv42) (FzTo.frz rfl))) (by kernel_rfl) (by kernel_rfl) (by exact trivial) (.inr (.inr rfl)) (by kernel_rfl) ?_
  refine qA_ev (st' := ⟨191, [(10, B v41), (128, B v41), (127, B v41), (126, I a2.fN), (125, .fptr (Enc.cells a2) 1), (124, B true), (123, B true), (122, B true), (121, I v39), (120, .ptr 0 0 (((w64 (((a1.length : Int)) - 2))).toNat * 1)), (119, I ((w64 (((a1.length : Int)) - 2)))), (118, I ((a1.length : Int))), (117, .ref 0 0 0 1 a1.length false), (116, I v37), (115, .ptr 0 0 (((w64 (((a1.length : Int)) - 1))).toNat * 1)), (114, I ((w64 (((a1.length : Int)) - 1)))), (113, I ((a1.length : Int))), (112, .ref 0 0 0 1 a1.length false), (111, B true), (110, B true), (109, I ((a1.length : Int))), (1, .ref 0 0 0 1 a1.length false), (5, .fptr (Enc.cells a2) 0), (8, I ((a1.length : Int)))], [some ⟨0, eL a1⟩]⟩) τ_ok [] [] 2 (by exact trivial) (by kernel_rfl) ?_
  refine qA_end ?_
  refine opsP_imp (Imp.to (st' := ⟨191, [(1, .ref 0 0 0 1 a1.length false), (8, I ((a1.length : Int))), (10, B v41)], [some ⟨0, eL a1⟩]⟩) [1, 8, 10] (by kernel_rfl)) ?_
  refine opsP_end rfl ?_
  exact ⟨v41, h, (Imp.to (st' := ⟨191, [(1, .ref 0 0 0 1 a1.length false), (8, I ((a1.length : Int))), (10, B v41)], [some ⟨0, eL a1⟩]⟩) [1, 8, 10] (by kernel_rfl)).trans (Imp.to [1, 8, 10] (by kernel_rfl))⟩
  replace h := bF hc43 h
  rw [hc43]
  refine qA_ev (st' := ⟨191, [(10, B false), (128, B false), (127, .lit undef), (126, .lit undef), (125, .lit undef), (124, B false), (123, B false), (122, B false), (121, I v39), (120, .ptr 0 0 (((w64 (((a1.length : Int)) - 2))).toNat * 1)), (119, I ((w64 (((a1.length : Int)) - 2)))), (118, I ((a1.length : Int))), (117, .ref 0 0 0 1 a1.length false), (116, I v37), (115, .ptr 0 0 (((w64 (((a1.length : Int)) - 1))).toNat * 1)), (114, I ((w64 (((a1.length : Int)) - 1)))), (113, I ((a1.length : Int))), (112, .ref 0 0 0 1 a1.length false), (111, B true), (110, B true), (109, I ((a1.length : Int))), (1, .ref 0 0 0 1 a1.length false), (5, .fptr (Enc.cells a2) 0), (8, I ((a1.length : Int)))], [some ⟨0, eL a1⟩]⟩) τ_ok [] [] 5 (by exact trivial) (by kernel_rfl) ?_
  refine qA_end ?_
  refine opsP_imp (Imp.to (st' := ⟨191, [(1, .ref 0 0 0 1 a1.length false), (8, I ((a1.length : Int))), (10, B false)], [some ⟨0, eL a1⟩]⟩) [1, 8, 10] (by kernel_rfl)) ?_
  refine opsP_end rfl ?_
  exact ⟨false, h, (Imp.to (st' := ⟨191, [(1, .ref 0 0 0 1 a1.length false), (8, I ((a1.length : Int))), (10, B false)], [some ⟨0, eL a1⟩]⟩) [1, 8, 10] (by kernel_rfl)).trans (Imp.to [1, 8, 10] (by kernel_rfl))⟩
  replace h := bF hc44 h
  rw [hc44]
  refine qA_ev (st' := ⟨191, [(112, .lit undef), (111, B false), (110, B false), (109, I ((a1.length : Int))), (1, .ref 0 0 0 1 a1.length false), (5, .fptr (Enc.cells a2) 0), (8, I ((a1.length : Int)))], [some ⟨0, eL a1⟩]⟩) τ_ok [] [0] 1 (by exact (And.intro (.inl (eL_frz _)) trivial)) (by kernel_rfl) ?_
  refine qA_ev (st' := ⟨191, [(114, .lit undef), (113, .lit undef), (112, .lit undef), (111, B false), (110, B false), (109, I ((a1.length : Int))), (1, .ref 0 0 0 1 a1.length false), (5, .fptr (Enc.cells a2) 0), (8, I ((a1.length : Int)))], [some ⟨0, eL a1⟩]⟩) τ_ok [] [] 2 (by exact trivial) (by kernel_rfl) ?_
  refine qA_ev (st' := ⟨191, [(117, .lit undef), (116, .lit undef), (115, .lit undef), (114, .lit undef), (113, .lit undef), (112, .lit undef), (111, B false), (110, B false), (109, I ((a1.length : Int))), (1, .ref 0 0 0 1 a1.length false), (5, .fptr (Enc.cells a2) 0), (8, I ((a1.length : Int)))], [some ⟨0, eL a1⟩]⟩) τ_ok [] [0] 3 (by exact (And.intro (.inl (eL_frz _)) trivial)) (by kernel_rfl) ?_
  refine qA_ev (st' := ⟨191, [(119, .lit undef), (118, .lit undef), (117, .lit undef), (116, .lit undef), (115, .lit undef), (114, .lit undef), (113, .lit undef), (112, .lit undef), (111, B false), (110, B false), (109, I ((a1.length : Int))), (1, .ref 0 0 0 1 a1.length false), (5, .fptr (Enc.cells a2) 0), (8, I ((a1.length : Int)))], [some ⟨0, eL a1⟩]⟩) τ_ok [] [] 2 (by exact trivial) (by kernel_rfl) ?_
  refine qA_ev (st' := ⟨191, [(121, .lit undef), (120, .lit undef), (119, .lit undef), (118, .lit undef), (117, .lit undef), (116, .lit undef), (115, .lit undef), (114, .lit undef), (113, .lit undef), (112, .lit undef), (111, B false), (110, B false), (109, I ((a1.length : Int))), (1, .ref 0 0 0 1 a1.length false), (5, .fptr (Enc.cells a2) 0), (8, I ((a1.length : Int)))], [some ⟨0, eL a1⟩]⟩) τ_ok [] [0] 2 (by exact (And.intro (.inl (eL_frz _)) trivial)) (by kernel_rfl) ?_
  refine qA_ev (st' := ⟨191, [(10, B false), (128, B false), (127, .lit undef), (126, .lit undef), (125, .lit undef), (124, B false), (123, B false), (122, .lit undef), (121, .lit undef), (120, .lit undef), (119, .lit undef), (118, .lit undef), (117, .lit undef), (116, .lit undef), (115, .lit undef), (114, .lit undef), (113, .lit undef), (112, .lit undef), (111, B false), (110, B false), (109, I ((a1.length : Int))), (1, .ref 0 0 0 1 a1.length false), (5, .fptr (Enc.cells a2) 0), (8, I ((a1.length : Int)))], [some ⟨0, eL a1⟩]⟩) τ_ok [] [] 8 (by exact trivial) (by kernel_rfl) ?_
  refine qA_end ?_
  refine opsP_imp (Imp.to (st' := ⟨191, [(1, .ref 0 0 0 1 a1.length false), (8, I ((a1.length : Int))), (10, B false)], [some ⟨0, eL a1⟩]⟩) [1, 8, 10] (by kernel_rfl)) ?_
  refine opsP_end rfl ?_
  exact ⟨false, h, (Imp.to (st' := ⟨191, [(1, .ref 0 0 0 1 a1.length false), (8, I ((a1.length : Int))), (10, B false)], [some ⟨0, eL a1⟩]⟩) [1, 8, 10] (by kernel_rfl)).trans (Imp.to [1, 8, 10] (by kernel_rfl))⟩
  rintro x32 h
  unfold spec_l4Step_j3 at h
  refine srv 3 191 [(10, B x32), (129, .ref 0 0 0 1 a1.length false), (131, I ((w64 (((a1.length : Int)) - 2))))] [some ⟨0, eL a1⟩] ?_
  refine opsP_E (dd := some 132) (x := I (maxL ((w64 (((a1.length : Int)) - 2))) [0])) (CoreE.of_y (mxmV_sound (τ := τ) (m := true) (a := (w64 (((a1.length : Int)) - 2))) (l := [0]) (by kernel_rfl))) ?_
  obtain ⟨v33, hv34, h⟩ := bindS h
  refine opsP_slr τ_ok 133 0 0 a1.length hv34 rfl (by kernel_rfl) ?_
  refine v 1 191 [(10, B x32), (133, .ref 0 0 0 1 v33.length false), (134, .arr 1 (([3] : List Int)).length (eL ([3] : List Int)) true)] [some ⟨0, eL a1⟩] ?_
  obtain ⟨v35, hv36, h⟩ := bindS h
  refine opsP_apt τ_ok 135 0 0 v33.length (fun b hb => absurd hb (hX b)) hv36 (slI_le hv34) (by kernel_rfl) ?_
  refine ve 3 191 [(6, .ref 0 1 0 1 v35.length false), (7, B x32)] [some ⟨1, eL v35⟩] ?_
  have h := si h
  subst h
  exact pwp_ret (rt (.tup [.ref 0 1 0 1 v35.length false, B x32]) (OutP.tup (OutL.cons (OutP.list (v := 1) (by kernel_rfl)) (OutL.cons (OutP.frz (by kernel_rfl)) (OutL.nil _)))))
  refine pwp_seq ?_
  refine pwp_join (σ := Bool) (fun x45 => (⟨191, [(1, .ref 0 0 0 1 a1.length false), (8, I ((a1.length : Int))), (40, I a2.fKind), (137, B x45)], [some ⟨0, eL a1⟩]⟩ : St)) (fun x45 => spec_l4Step_j4 a1 a2 x45 = some y) ?_ ?_
  refine srve 191 [(1, .ref 0 0 0 1 a1.length false), (8, I ((a1.length : Int))), (40, I a2.fKind), (137, B ((a2.fKind == 5)))] [some ⟨0, eL a1⟩] ?_
  refine pc h (fun h => ?_) (fun h => ?_)
  refine pwp_skip ?_
  exact ⟨(a2.fKind == 5), h, (Imp.to (st' := ⟨191, [(1, .ref 0 0 0 1 a1.length false), (8, I ((a1.length : Int))), (40, I a2.fKind), (137, B ((a2.fKind == 5)))], [some ⟨0, eL a1⟩]⟩) [1, 8, 40, 137] (by kernel_rfl)).trans (Imp.to [1, 8, 40, 137] (by kernel_rfl))⟩
  refine rve 191 [(1, .ref 0 0 0 1 a1.length false), (8, I ((a1.length : Int))), (40, I a2.fKind), (137, B ((a2.fKind == 6)))] [some ⟨0, eL a1⟩] ?_
  exact ⟨(a2.fKind == 6), h, (Imp.to (st' := ⟨191, [(1, .ref 0 0 0 1 a1.length false), (8, I ((a1.length : Int))), (40, I a2.fKind), (137, B ((a2.fKind == 6)))], [some ⟨0, eL a1⟩]⟩) [1, 8, 40, 137] (by kernel_rfl)).trans (Imp.to [1, 8, 40, 137] (by kernel_rfl))⟩
  rintro x45 h
  unfold spec_l4Step_j4 at h
  refine pc h (fun h => ?_) (fun h => ?_)
  refine pwp_seq ?_
  refine pwp_join (σ := Bool) (fun x47 => (⟨191, [(1, .ref 0 0 0 1 a1.length false), (8, I ((a1.length : Int))), (11, B x47)], [some ⟨0, eL a1⟩]⟩ : St)) (fun x47 => spec_l4Step_j5 a1 x47 = some y) ?_ ?_
  refine rv 3 191 [(1, .ref 0 0 0 1 a1.length false), (8, I ((a1.length : Int))), (142, B ((decide (((a1.length : Int)) > 1))))] [some ⟨0, eL a1⟩] ?_
  rcases fk ((decide (((a1.length : Int)) > 1))) with hc57 | hc57
  replace h := bT hc57 h
  rw [hc57]
  refine v 3 191 [(1, .ref 0 0 0 1 a1.length false), (8, I ((a1.length : Int))), (142, B true), (143, .ref 0 0 0 1 a1.length false), (145, I ((w64 (((a1.length : Int)) - 1))))] [some ⟨0, eL a1⟩] ?_
  obtain ⟨v52, hv53, h⟩ := bindS h
  refine opsP_idr τ_ok 146 0 0 a1.length hv53 rfl (by kernel_rfl) ?_
  refine opsP_lde (r := I v52) τ_ok 147 3 0 hv53 (by kernel_rfl) (by kernel_rfl) ?_
  refine v 3 191 [(1, .ref 0 0 0 1 a1.length false), (8, I ((a1.length : Int))), (150, B ((v52 == 3)))] [some ⟨0, eL a1⟩] ?_
  rcases fk ((v52 == 3)) with hc56 | hc56
  replace h := bT hc56 h
  rw [hc56]
  refine v 3 191 [(1, .ref 0 0 0 1 a1.length false), (8, I ((a1.length : Int))), (150, B true), (151, .ref 0 0 0 1 a1.length false), (153, I ((w64 (((a1.length : Int)) - 2))))] [some ⟨0, eL a1⟩] ?_
  obtain ⟨v54, hv55, h⟩ := bindS h
  refine opsP_idr τ_ok 154 0 0 a1.length hv55 rfl (by kernel_rfl) ?_
  refine opsP_lde (r := I v54) τ_ok 155 3 0 hv55 (by kernel_rfl) (by kernel_rfl) ?_
  refine ve 3 191 [(1, .ref 0 0 0 1 a1.length false), (8, I ((a1.length : Int))), (11, B ((v54 == 3)))] [some ⟨0, eL a1⟩] ?_
  exact ⟨(v54 == 3), h, (Imp.to (st' := ⟨191, [(1, .ref 0 0 0 1 a1.length false), (8, I ((a1.length : Int))), (11, B ((v54 == 3)))], [some ⟨0, eL a1⟩]⟩) [1, 8, 11] (by kernel_rfl)).trans (Imp.to [1, 8, 11] (by kernel_rfl))⟩
  replace h := bF hc56 h
  rw [hc56]
  refine ve 8 191 [(1, .ref 0 0 0 1 a1.length false), (8, I ((a1.length : Int))), (11, B false)] [some ⟨0, eL a1⟩] ?_
  exact ⟨false, h, (Imp.to (st' := ⟨191, [(1, .ref 0 0 0 1 a1.length false), (8, I ((a1.length : Int))), (11, B false)], [some ⟨0, eL a1⟩]⟩) [1, 8, 11] (by kernel_rfl)).trans (Imp.to [1, 8, 11] (by kernel_rfl))⟩
  replace h := bF hc57 h
  rw [hc57]
  refine ve 16 191 [(1, .ref 0 0 0 1 a1.length false), (8, I ((a1.length : Int))), (11, B false)] [some ⟨0, eL a1⟩] ?_
  exact ⟨false, h, (Imp.to (st' := ⟨191, [(1, .ref 0 0 0 1 a1.length false), (8, I ((a1.length : Int))), (11, B false)], [some ⟨0, eL a1⟩]⟩) [1, 8, 11] (by kernel_rfl)).trans (Imp.to [1, 8, 11] (by kernel_rfl))⟩
  rintro x47 h
  unfold spec_l4Step_j5 at h
  refine srv 3 191 [(11, B x47), (158, .ref 0 0 0 1 a1.length false), (160, I ((w64 (((a1.length : Int)) - 2))))] [some ⟨0, eL a1⟩] ?_
  refine opsP_E (dd := some 161) (x := I (maxL ((w64 (((a1.length : Int)) - 2))) [0])) (CoreE.of_y (mxmV_sound (τ := τ) (m := true) (a := (w64 (((a1.length : Int)) - 2))) (l := [0]) (by kernel_rfl))) ?_
  obtain ⟨v48, hv49, h⟩ := bindS h
  refine opsP_slr τ_ok 162 0 0 a1.length hv49 rfl (by kernel_rfl) ?_
  refine v 1 191 [(11, B x47), (162, .ref 0 0 0 1 v48.length false), (163, .arr 1 (([3] : List Int)).length (eL ([3] : List Int)) true)] [some ⟨0, eL a1⟩] ?_
  obtain ⟨v50, hv51, h⟩ := bindS h
  refine opsP_apt τ_ok 164 0 0 v48.length (fun b hb => absurd hb (hX b)) hv51 (slI_le hv49) (by kernel_rfl) ?_
  refine ve 3 191 [(6, .ref 0 1 0 1 v50.length false), (7, B x47)] [some ⟨1, eL v50⟩] ?_
  have h := si h
  subst h
  exact pwp_ret (rt (.tup [.ref 0 1 0 1 v50.length false, B x47]) (OutP.tup (OutL.cons (OutP.list (v := 1) (by kernel_rfl)) (OutL.cons (OutP.frz (by kernel_rfl)) (OutL.nil _)))))
  refine srve 191 [(1, .ref 0 0 0 1 a1.length false), (8, I ((a1.length : Int))), (40, I a2.fKind), (166, B ((a2.fKind == 7)))] [some ⟨0, eL a1⟩] ?_
  refine pc h (fun h => ?_) (fun h => ?_)
  refine pwp_seq ?_
  refine pwp_imp (Imp.to (st' := ⟨191, [(1, .ref 0 0 0 1 a1.length false), (8, I ((a1.length : Int)))], [some ⟨0, eL a1⟩]⟩) [1, 8] (by kernel_rfl)) ?_
  refine pwp_any ([[0], [], [], [], [0], [], [], [0], [0], [], [], [0], []]) ([[], [], [], [], [], [], [], [], [], [], [], [], []]) rfl (by kernel_rfl) ?_
  refine qA_ev (st' := ⟨191, [(168, .ref 0 0 0 1 a1.length false), (1, .ref 0 0 0 1 a1.length false), (8, I ((a1.length : Int)))], [some ⟨0, eL a1⟩]⟩) τ_ok [] [0] 1 (by exact (And.intro (.inl (eL_frz _)) trivial)) (by kernel_rfl) ?_
  refine qA_ev (st' := ⟨191, [(171, B ((decide (((a1.length : Int)) > 0)))), (170, B ((decide (((a1.length : Int)) > 0)))), (169, I ((a1.length : Int))), (168, .ref 0 0 0 1 a1.length false), (1, .ref 0 0 0 1 a1.length false), (8, I ((a1.length : Int)))], [some ⟨0, eL a1⟩]⟩) τ_ok [] [] 3 (by exact trivial) (by kernel_rfl) ?_
  rcases fk ((decide (((a1.length : Int)) > 0))) with hc61 | hc61
  replace h := bT hc61 h
  rw [hc61]
  refine qA_ev (st' := ⟨191, [(172, .ref 0 0 0 1 a1.length false), (171, B true), (170, B true), (169, I ((a1.length : Int))), (168, .ref 0 0 0 1 a1.length false), (1, .ref 0 0 0 1 a1.length false), (8, I ((a1.length : Int)))], [some ⟨0, eL a1⟩]⟩) τ_ok [] [0] 1 (by exact (And.intro (.inl (eL_frz _)) trivial)) (by kernel_rfl) ?_
  refine qA_ev (st' := ⟨191, [(174, I ((w64 (((a1.length : Int)) - 1)))), (173, I ((a1.length : Int))), (172, .ref 0 0 0 1 a1.length false), (171, B true), (170, B true), (169, I ((a1.length : Int))), (168, .ref 0 0 0 1 a1.length false), (1, .ref 0 0 0 1 a1.length false), (8, I ((a1.length : Int)))], [some ⟨0, eL a1⟩]⟩) τ_ok [] [] 2 (by exact trivial) (by kernel_rfl) ?_
  obtain ⟨v59, hv60, h⟩ := bindS h
  refine qA_E (dd := some 175) (x := .ptr 0 0 (((w64 (((a1.length : Int)) - 1))).toNat * 1)) ([some ⟨0, eL a1⟩]) (⟨191, [(175, .ptr 0 0 (((w64 (((a1.length : Int)) - 1))).toNat * 1)), (174, I ((w64 (((a1.length : Int)) - 1)))), (173, I ((a1.length : Int))), (172, .ref 0 0 0 1 a1.length false), (171, B true), (170, B true), (169, I ((a1.length : Int))), (168, .ref 0 0 0 1 a1.length false), (1, .ref 0 0 0 1 a1.length false), (8, I ((a1.length : Int)))], [some ⟨0, eL a1⟩]⟩) (fun Γ' hΓ => CoreE.of_y (idrV_sound (n := a1.length) τ_ok (by kernel_rfl) hv60 rfl)) (by kernel_rfl) (by kernel_rfl) (by exact (And.intro (.inl (eL_frz _)) trivial)) (.inr (.inl rfl)) (by kernel_rfl) ?_
  refine qA_E (dd := some 176) (x := I v59) ([some ⟨0, eL a1⟩]) (⟨191, [(176, I v59), (175, .ptr 0 0 (((w64 (((a1.length : Int)) - 1))).toNat * 1)), (174, I ((w64 (((a1.length : Int)) - 1)))), (173, I ((a1.length : Int))), (172, .ref 0 0 0 1 a1.length false), (171, B true), (170, B true), (169, I ((a1.length : Int))), (168, .ref 0 0 0 1 a1.length false), (1, .ref 0 0 0 1 a1.length false), (8, I ((a1.length : Int)))], [some ⟨0, eL a1⟩]⟩) (fun Γ' hΓ => CoreE.of_y (ldeV_sound (t := 3) (o' := 0) (r := I v59) τ_ok hv60 (by kernel_rfl) (by kernel_rfl))) (by kernel_rfl) (by kernel_rfl) (by exact (And.intro (.inl (eL_frz _)) trivial)) (.inr (.inr rfl)) (by kernel_rfl) ?_
  refine qA_ev (st' := ⟨191, [(178, B ((v59 == 3))), (177, B ((v59 == 3))), (176, I v59), (175, .ptr 0 0 (((w64 (((a1.length : Int)) - 1))).toNat * 1)), (174, I ((w64 (((a1.length : Int)) - 1)))), (173, I ((a1.length : Int))), (172, .ref 0 0 0 1 a1.length false), (171, B true), (170, B true), (169, I ((a1.length : Int))), (168, .ref 0 0 0 1 a1.length false), (1, .ref 0 0 0 1 a1.length false), (8, I ((a1.length : Int)))], [some ⟨0, eL a1⟩]⟩) τ_ok [] [] 2 (by exact trivial) (by kernel_rfl) ?_
  refine qA_ev (st' := ⟨191, [(6, .ref 0 0 0 1 a1.length false), (178, B ((v59 == 3))), (177, B ((v59 == 3))), (176, I v59), (175, .ptr 0 0 (((w64 (((a1.length : Int)) - 1))).toNat * 1)), (174, I ((w64 (((a1.length : Int)) - 1)))), (173, I ((a1.length : Int))), (172, .ref 0 0 0 1 a1.length false), (171, B true), (170, B true), (169, I ((a1.length : Int))), (168, .ref 0 0 0 1 a1.length false), (1, .ref 0 0 0 1 a1.length false), (8, I ((a1.length : Int)))], [some ⟨0, eL a1⟩]⟩) τ_ok [] [0] 1 (by exact (And.intro (.inl (eL_frz _)) trivial)) (by kernel_rfl) ?_
  refine qA_ev (st' := ⟨191, [(7, B ((v59 == 3))), (6, .ref 0 0 0 1 a1.length false), (178, B ((v59 == 3))), (177, B ((v59 == 3))), (176, I v59), (175, .ptr 0 0 (((w64 (((a1.length : Int)) - 1))).toNat * 1)), (174, I ((w64 (((a1.length : Int)) - 1)))), (173, I ((a1.length : Int))), (172, .ref 0 0 0 1 a1.length false), (171, B true), (170, B true), (169, I ((a1.length : Int))), (168, .ref 0 0 0 1 a1.length false), (1, .ref 0 0 0 1 a1.length false), (8, I ((a1.length : Int)))], [some ⟨0, eL a1⟩]⟩) τ_ok [] [] 1 (by exact trivial) (by kernel_rfl) ?_
  refine qA_end ?_
  refine opsP_imp (Imp.to (st' := ⟨191, [(6, .ref 0 0 0 1 a1.length false), (7, B ((v59 == 3)))], [some ⟨0, eL a1⟩]⟩) [6, 7] (by kernel_rfl)) ?_
  refine opsP_end rfl ?_
  have h := si h
  subst h
  exact pwp_ret (rt (.tup [.ref 0 0 0 1 a1.length false, B ((v59 == 3))]) (OutP.tup (OutL.cons (OutP.list (v := 0) (by kernel_rfl)) (OutL.cons (OutP.frz (by kernel_rfl)) (OutL.nil _)))))
  replace h := bF hc61 h
  rw [hc61]
  refine qA_ev (st' := ⟨191, [(172, .lit undef), (171, B false), (170, B false), (169, I ((a1.length : Int))), (168, .ref 0 0 0 1 a1.length false), (1, .ref 0 0 0 1 a1.length false), (8, I ((a1.length : Int)))], [some ⟨0, eL a1⟩]⟩) τ_ok [] [0] 1 (by exact (And.intro (.inl (eL_frz _)) trivial)) (by kernel_rfl) ?_
  refine qA_ev (st' := ⟨191, [(174, .lit undef), (173, .lit undef), (172, .lit undef), (171, B false), (170, B false), (169, I ((a1.length : Int))), (168, .ref 0 0 0 1 a1.length false), (1, .ref 0 0 0 1 a1.length false), (8, I ((a1.length : Int)))], [some ⟨0, eL a1⟩]⟩) τ_ok [] [] 2 (by exact trivial) (by kernel_rfl) ?_
  refine qA_ev (st' := ⟨191, [(176, .lit undef), (175, .lit undef), (174, .lit undef), (173, .lit undef), (172, .lit undef), (171, B false), (170, B false), (169, I ((a1.length : Int))), (168, .ref 0 0 0 1 a1.length false), (1, .ref 0 0 0 1 a1.length false), (8, I ((a1.length : Int)))], [some ⟨0, eL a1⟩]⟩) τ_ok [] [0] 2 (by exact (And.intro (.inl (eL_frz _)) trivial)) (by kernel_rfl) ?_
  refine qA_ev (st' := ⟨191, [(178, B false), (177, .lit undef), (176, .lit undef), (175, .lit undef), (174, .lit undef), (173, .lit undef), (172, .lit undef), (171, B false), (170, B false), (169, I ((a1.length : Int))), (168, .ref 0 0 0 1 a1.length false), (1, .ref 0 0 0 1 a1.length false), (8, I ((a1.length : Int)))], [some ⟨0, eL a1⟩]⟩) τ_ok [] [] 2 (by exact trivial) (by kernel_rfl) ?_
  refine qA_ev (st' := ⟨191, [(6, .ref 0 0 0 1 a1.length false), (178, B false), (177, .lit undef), (176, .lit undef), (175, .lit undef), (174, .lit undef), (173, .lit undef), (172, .lit undef), (171, B false), (170, B false), (169, I ((a1.length : Int))), (168, .ref 0 0 0 1 a1.length false), (1, .ref 0 0 0 1 a1.length false), (8, I ((a1.length : Int)))], [some ⟨0, eL a1⟩]⟩) τ_ok [] [0] 1 (by exact (And.intro (.inl (eL_frz _)) trivial)) (by kernel_rfl) ?_
  refine qA_ev (st' := ⟨191, [(7, B false), (6, .ref 0 0 0 1 a1.length false), (178, B false), (177, .lit undef), (176, .lit undef), (175, .lit undef), (174, .lit undef), (173, .lit undef), (172, .lit undef), (171, B false), (170, B false), (169, I ((a1.length : Int))), (168, .ref 0 0 0 1 a1.length false), (1, .ref 0 0 0 1 a1.length false), (8, I ((a1.length : Int)))], [some ⟨0, eL a1⟩]⟩) τ_ok [] [] 1 (by exact trivial) (by kernel_rfl) ?_
  refine qA_end ?_
  refine opsP_imp (Imp.to (st' := ⟨191, [(6, .ref 0 0 0 1 a1.length false), (7, B false)], [some ⟨0, eL a1⟩]⟩) [6, 7] (by kernel_rfl)) ?_
  refine opsP_end rfl ?_
  have h := si h
  subst h
  exact pwp_ret (rt (.tup [.ref 0 0 0 1 a1.length false, B false]) (OutP.tup (OutL.cons (OutP.list (v := 0) (by kernel_rfl)) (OutL.cons (OutP.frz (by kernel_rfl)) (OutL.nil _)))))
  refine srve 191 [(1, .ref 0 0 0 1 a1.length false), (8, I ((a1.length : Int))), (179, B ((a2.fKind == 8)))] [some ⟨0, eL a1⟩] ?_
  refine pc h (fun h => ?_) (fun h => ?_)
  refine srv 3 191 [(8, I ((a1.length : Int))), (181, .ref 0 0 0 1 a1.length false), (183, I ((w64 (((a1.length : Int)) - 1))))] [some ⟨0, eL a1⟩] ?_
  refine opsP_E (dd := some 184) (x := I (maxL ((w64 (((a1.length : Int)) - 1))) [0])) (CoreE.of_y (mxmV_sound (τ := τ) (m := true) (a := (w64 (((a1.length : Int)) - 1))) (l := [0]) (by kernel_rfl))) ?_
  obtain ⟨v63, hv64, h⟩ := bindS h
  refine opsP_slr τ_ok 185 0 0 a1.length hv64 rfl (by kernel_rfl) ?_
  refine v 1 191 [(8, I ((a1.length : Int))), (185, .ref 0 0 0 1 v63.length false), (186, .arr 1 (([3] : List Int)).length (eL ([3] : List Int)) true)] [some ⟨0, eL a1⟩] ?_
  obtain ⟨v65, hv66, h⟩ := bindS h
  refine opsP_apt τ_ok 187 0 0 v63.length (fun b hb => absurd hb (hX b)) hv66 (slI_le hv64) (by kernel_rfl) ?_
  refine ve 4 191 [(6, .ref 0 1 0 1 v65.length false), (7, B ((decide (((a1.length : Int)) > 0))))] [some ⟨1, eL v65⟩] ?_
  have h := si h
  subst h
  exact pwp_ret (rt (.tup [.ref 0 1 0 1 v65.length false, B ((decide (((a1.length : Int)) > 0)))]) (OutP.tup (OutL.cons (OutP.list (v := 1) (by kernel_rfl)) (OutL.cons (OutP.frz (by kernel_rfl)) (OutL.nil _)))))
  refine pwp_skip ?_
  refine srve 191 [(6, .ref 0 0 0 1 a1.length false), (7, B false)] [some ⟨0, eL a1⟩] ?_
  have h := si h
  subst h
  exact pwp_ret (rt (.tup [.ref 0 0 0 1 a1.length false, B false]) (OutP.tup (OutL.cons (OutP.list (v := 0) (by kernel_rfl)) (OutL.cons (OutP.frz (by kernel_rfl)) (OutL.nil _)))))
def spec_BatchOk_l1 (a0 : T_impl_Batch) (x1 : Int) (K3 : Int → Option Bool) : Nat → Int → Option Bool
  | 0, _ => none
  | f9 + 1, x8 => (getI a0.fColumns x1).bind fun v11 => bif (decide (x8 < ((v11.length : Int)))) then (getI a0.fColumns x1).bind fun v14 => (getI v14 x8).bind fun v16 => (spec_ValueOk v16).bind fun v18 => bif (!v18) then some false else (spec_BatchOk_l1 a0 x1 K3 f9) ((w64 (x8 + 1))) else K3 ((w64 (x1 + 1)))
def spec_BatchOk_l0 (a0 : T_impl_Batch) : Nat → Int → Option Bool
  | 0, _ => none
  | f2 + 1, x1 => bif (decide (x1 < ((a0.fColumns.length : Int)))) then (getI a0.fColumns x1).bind fun v5 => bif (!(((v5.length : Int)) == ((a0.fPicked.length : Int)))) then some false else spec_BatchOk_l1 a0 x1 (spec_BatchOk_l0 a0 f2) FUEL 0 else bif (decide (((a0.fColumns.length : Int)) ≤ 4)) then some ((decide (((a0.fPicked.length : Int)) ≤ 4))) else some false
def spec_BatchOk (a0 : T_impl_Batch) : Option Bool := spec_BatchOk_l0 a0 FUEL 0
theorem ok_spec_BatchOk {a0 : T_impl_Batch} {y : Bool} (h : spec_BatchOk a0 = some y) : OK Tryz.prog 121 [E a0] (B y) := by
  refine OK_of_pwp τ_ok Tryz.func121 rfl (by kernel_rfl) rfl fun Γ hX => ?_
  unfold spec_BatchOk at h
  refine srve 52 [(1, .fptr (Enc.cells a0) 0)] [] ?_
  refine pwp_seq ?_
  refine srve 52 [(1, .fptr (Enc.cells a0) 0), (3, I 0)] [] ?_
  refine pwp_block ?_
  refine pwp_loop (ι := Nat × Int) (fun (f2, x1) => (⟨52, [(1, .fptr (Enc.cells a0) 0), (3, I x1)], []⟩ : St)) (fun (f2, x1) => spec_BatchOk_l0 a0 f2 x1 = some y) (fun (f2, x1) => f2) (FUEL, 0) h ((Imp.to (st' := ⟨52, [(1, .fptr (Enc.cells a0) 0), (3, I 0)], []⟩) [1, 3] (by kernel_rfl)).trans (Imp.to [1, 3] (by kernel_rfl))) ?_
  rintro ⟨f2, x1⟩ h
  dsimp only at h ⊢
  rcases f2 with _ | f2
  cases h
  rw [spec_BatchOk_l0] at h
  refine pwp_seq ?_
  refine srve 52 [(1, .fptr (Enc.cells a0) 0), (3, I x1), (9, B ((decide (x1 < ((a0.fColumns.length : Int))))))] [] ?_
  refine pc h (fun h => ?_) (fun h => ?_)
  refine pwp_skip ?_
  refine pwp_seq ?_
  refine pwp_block ?_
  refine pwp_seq ?_
  refine pwp_seq ?_
  refine pwp_imp (Imp.to (st' := ⟨52, [(1, .fptr (Enc.cells a0) 0), (3, I x1)], []⟩) [1, 3] (by kernel_rfl)) ?_
  refine pwp_any ([[], [], [], [], [], [], [], [], [], []]) ([[], [], [], [], [], [], [], [], [], []]) rfl (by kernel_rfl) ?_
  refine qA_ev (st' := ⟨52, [(14, I x1), (13, A a0.fColumns), (12, .fptr (Enc.cells a0) 0), (1, .fptr (Enc.cells a0) 0), (3, I x1)], []⟩) τ_ok [] [] 3 (by exact trivial) (by kernel_rfl) ?_
  obtain ⟨v5, hv6, h⟩ := bindS h
  refine qA_E (dd := some 15) (x := .fptr (Enc.cells v5) 0) ([]) (⟨52, [(15, .fptr (Enc.cells v5) 0), (14, I x1), (13, A a0.fColumns), (12, .fptr (Enc.cells a0) 0), (1, .fptr (Enc.cells a0) 0), (3, I x1)], []⟩) (fun Γ' hΓ => CoreE.of_y (idxV_sound τ_ok (by kernel_rfl) hv6)) (by kernel_rfl) (by kernel_rfl) (by exact trivial) (.inr (.inr rfl)) (by kernel_rfl) ?_
  refine qA_ev (st' := ⟨52, [(21, B ((!(((v5.length : Int)) == ((a0.fPicked.length : Int)))))), (20, I ((a0.fPicked.length : Int))), (19, A a0.fPicked), (18, .fptr (Enc.cells a0) 1), (17, I ((v5.length : Int))), (16, A v5), (15, .fptr (Enc.cells v5) 0), (14, I x1), (13, A a0.fColumns), (12, .fptr (Enc.cells a0) 0), (1, .fptr (Enc.cells a0) 0), (3, I x1)], []⟩) τ_ok [] [] 6 (by exact trivial) (by kernel_rfl) ?_
  refine qA_end ?_
  refine opsP_imp (Imp.to (st' := ⟨52, [(1, .fptr (Enc.cells a0) 0), (3, I x1), (21, B ((!(((v5.length : Int)) == ((a0.fPicked.length : Int))))))], []⟩) [1, 3, 21] (by kernel_rfl)) ?_
  refine opsP_end rfl ?_
  refine pc h (fun h => ?_) (fun h => ?_)
  refine srve 52 [(2, B false)] [] ?_
  cases h
  exact pwp_ret rz
  refine pwp_skip ?_
  refine srve 52 [(1, .fptr (Enc.cells a0) 0), (3, I x1), (4, I 0)] [] ?_
  refine pwp_block ?_
  refine pwp_loop (ι := Nat × Int) (fun (f9, x8) => (⟨52, [(1, .fptr (Enc.cells a0) 0), (3, I x1), (4, I x8)], []⟩ : St)) (fun (f9, x8) => spec_BatchOk_l1 a0 x1 (spec_BatchOk_l0 a0 f2) f9 x8 = some y) (fun (f9, x8) => f9) (FUEL, 0) h ((Imp.to (st' := ⟨52, [(1, .fptr (Enc.cells a0) 0), (3, I x1), (4, I 0)], []⟩) [1, 3, 4] (by kernel_rfl)).trans (Imp.to [1, 3, 4] (by kernel_rfl))) ?_
  rintro ⟨f9, x8⟩ h
  dsimp only at h ⊢
  rcases f9 with _ | f9
  cases h
  rw [spec_BatchOk_l1] at h
  refine pwp_seq ?_
  refine srv 4 52 [(1, .fptr (Enc.cells a0) 0), (3, I x1), (4, I x8), (22, I x8), (24, A a0.fColumns), (25, I x1)] [] ?_
  obtain ⟨v11, hv12, h⟩ := bindS h
  refine opsP_idx τ_ok 26 hv12 (by kernel_rfl) ?_
  refine ve 3 52 [(1, .fptr (Enc.cells a0) 0), (3, I x1), (4, I x8), (29, B ((decide (x8 < ((v11.length : Int))))))] [] ?_
  refine pc h (fun h => ?_) (fun h => ?_)
  refine pwp_skip ?_
  refine pwp_seq ?_
  refine pwp_block ?_
  refine srv 3 52 [(1, .fptr (Enc.cells a0) 0), (3, I x1), (4, I x8), (33, A a0.fColumns), (34, I x1)] [] ?_
  obtain ⟨v14, hv15, h⟩ := bindS h
  refine opsP_idx τ_ok 35 hv15 (by kernel_rfl) ?_
  refine v 2 52 [(1, .fptr (Enc.cells a0) 0), (3, I x1), (4, I x8), (36, A v14), (37, I x8)] [] ?_
  obtain ⟨v16, hv17, h⟩ := bindS h
  refine opsP_idx τ_ok 38 hv17 (by kernel_rfl) ?_
  refine v 1 52 [(1, .fptr (Enc.cells a0) 0), (3, I x1), (4, I x8), (39, E v16)] [] ?_
  obtain ⟨v18, hv19, h⟩ := bindS h
  refine opsP_callF τ 40 (ok_spec_ValueOk hv19) (FzTo.frz rfl) rfl (by kernel_rfl) ?_
  refine ve 1 52 [(1, .fptr (Enc.cells a0) 0), (3, I x1), (4, I x8), (41, B ((!v18)))] [] ?_
  refine pc h (fun h => ?_) (fun h => ?_)
  refine srve 52 [(2, B false)] [] ?_
  cases h
  exact pwp_ret rz
  refine pwp_skip ?_
  refine rve 52 [(1, .fptr (Enc.cells a0) 0), (3, I x1), (4, I ((w64 (x8 + 1))))] [] ?_
  exact ⟨(f9, (w64 (x8 + 1))), h, Nat.lt_succ_self _, (Imp.to (st' := ⟨52, [(1, .fptr (Enc.cells a0) 0), (3, I x1), (4, I ((w64 (x8 + 1))))], []⟩) [1, 3, 4] (by kernel_rfl)).trans (Imp.to [1, 3, 4] (by kernel_rfl))⟩
  refine pwp_exit ?_
  refine rve 52 [(1, .fptr (Enc.cells a0) 0), (3, I ((w64 (x1 + 1))))] [] ?_
  exact ⟨(f2, (w64 (x1 + 1))), h, Nat.lt_succ_self _, (Imp.to (st' := ⟨52, [(1, .fptr (Enc.cells a0) 0), (3, I ((w64 (x1 + 1))))], []⟩) [1, 3] (by kernel_rfl)).trans (Imp.to [1, 3] (by kernel_rfl))⟩
  refine pwp_exit ?_
  refine srv 5 52 [(1, .fptr (Enc.cells a0) 0), (46, B ((decide (((a0.fColumns.length : Int)) ≤ 4))))] [] ?_
  rcases fk ((decide (((a0.fColumns.length : Int)) ≤ 4))) with hc21 | hc21
  replace h := bT hc21 h
  rw [hc21]
  refine ve 6 52 [(2, B ((decide (((a0.fPicked.length : Int)) ≤ 4))))] [] ?_
  cases h
  exact pwp_ret rz
  replace h := bF hc21 h
  rw [hc21]
  refine ve 6 52 [(2, B false)] [] ?_
  cases h
  exact pwp_ret rz
def impl_ColumnsOk (a0 : List T_impl_Column) : Option Bool := bif (decide (((a0.length : Int)) ≤ 4)) then (slices_ContainsFunc_impl_Column_impl_Column a0 impl_ColumnsOk_1).bind fun v1 => some ((!v1)) else some false
theorem ok_impl_ColumnsOk {a0 : List T_impl_Column} {y : Bool} (h : impl_ColumnsOk a0 = some y) : OK Tryz.prog 124 [A a0] (B y) := by
  refine OK_of_pwp τ_ok Tryz.func124 rfl (by kernel_rfl) rfl fun Γ hX => ?_
  unfold impl_ColumnsOk at h
  refine srve 11 [(0, A a0)] [] ?_
  refine srv 4 11 [(0, A a0), (6, B ((decide (((a0.length : Int)) ≤ 4))))] [] ?_
  rcases fk ((decide (((a0.length : Int)) ≤ 4))) with hc3 | hc3
  replace h := bT hc3 h
  rw [hc3]
  refine v 1 11 [(6, B true), (7, A a0)] [] ?_
  obtain ⟨v1, hv2, h⟩ := bindS h
  refine opsP_callF τ 8 (ok_slices_ContainsFunc_impl_Column_impl_Column (rfl) (fun _ w hw => ok_impl_ColumnsOk_1 hw) hv2) (FzTo.frz rfl) rfl (by kernel_rfl) ?_
  refine ve 3 11 [(2, B ((!v1)))] [] ?_
  cases h
  exact pwp_ret rz
  replace h := bF hc3 h
  rw [hc3]
  refine ve 5 11 [(2, B false)] [] ?_
  cases h
  exact pwp_ret rz
def impl_Part_tells_j0 (a0 : T_impl_Part) (x14 : Bool) : Option Bool := bif x14 then bif (a0.fN == 0) then some ((eq_T_impl_Value a0.fV ((T_impl_Value.mk 0 0 (ByteArray.mk #[]))))) else some false else some false
def impl_Part_tells (a0 : T_impl_Part) (a1 : List T_impl_Column) : Option Bool := bif (a0.fKind == 1) then bif (a0.fN == 0) then (impl_Value_ok a0.fV).bind fun v2 => bif v2 then some ((!(a0.fV.fKind == 0))) else some false else some false else bif (a0.fKind == 2) then (impl_between a0.fN 0 ((w64 (((a1.length : Int)) - 1)))).bind fun v7 => bif v7 then some ((eq_T_impl_Value a0.fV ((T_impl_Value.mk 0 0 (ByteArray.mk #[]))))) else some false else bif (a0.fKind == 4) then (impl_between a0.fN 1 4).bind fun v11 => bif v11 then some ((eq_T_impl_Value a0.fV ((T_impl_Value.mk 0 0 (ByteArray.mk #[]))))) else some false else bif (a0.fKind == 3) then impl_Part_tells_j0 a0 ((a0.fKind == 3)) else bif (a0.fKind == 5) then impl_Part_tells_j0 a0 ((a0.fKind == 5)) else bif (a0.fKind == 6) then impl_Part_tells_j0 a0 ((a0.fKind == 6)) else bif (a0.fKind == 7) then impl_Part_tells_j0 a0 ((a0.fKind == 7)) else impl_Part_tells_j0 a0 ((a0.fKind == 8))
theorem ok_impl_Part_tells {a0 : T_impl_Part} {a1 : List T_impl_Column} {y : Bool} (h : impl_Part_tells a0 a1 = some y) : OK Tryz.prog 126 [E a0, A a1] (B y) := by
  refine OK_of_pwp τ_ok Tryz.func126 rfl (by kernel_rfl) rfl fun Γ hX => ?_
  unfold impl_Part_tells at h
  refine srve 63 [(1, A a1), (2, .fptr (Enc.cells a0) 0)] [] ?_
  refine pwp_seq ?_
  refine srve 63 [(1, A a1), (2, .fptr (Enc.cells a0) 0), (6, I a0.fKind)] [] ?_
  refine pwp_block ?_
  refine srve 63 [(1, A a1), (2, .fptr (Enc.cells a0) 0), (6, I a0.fKind), (7, B ((a0.fKind == 1)))] [] ?_
  refine pc h (fun h => ?_) (fun h => ?_)
  refine srv 4 63 [(2, .fptr (Enc.cells a0) 0), (12, B ((a0.fN == 0)))] [] ?_
  rcases fk ((a0.fN == 0)) with hc5 | hc5
  replace h := bT hc5 h
  rw [hc5]
  refine v 2 63 [(2, .fptr (Enc.cells a0) 0), (12, B true), (14, E a0.fV)] [] ?_
  obtain ⟨v2, hv3, h⟩ := bindS h
  refine opsP_callF τ 15 (ok_impl_Value_ok hv3) (FzTo.frz rfl) rfl (by kernel_rfl) ?_
  refine v 2 63 [(2, .fptr (Enc.cells a0) 0), (17, B v2)] [] ?_
  rcases Bool.eq_false_or_eq_true v2 with hc4 | hc4
  replace h := bT hc4 h
  rw [hc4]
  refine ve 6 63 [(4, B ((!(a0.fV.fKind == 0))))] [] ?_
  cases h
  exact pwp_ret rz
  replace h := bF hc4 h
  rw [hc4]
  refine ve 6 63 [(4, B false)] [] ?_
  cases h
  exact pwp_ret rz
  replace h := bF hc5 h
  rw [hc5]
  refine ve 11 63 [(4, B false)] [] ?_
  cases h
  exact pwp_ret rz
  refine srve 63 [(1, A a1), (2, .fptr (Enc.cells a0) 0), (6, I a0.fKind), (23, B ((a0.fKind == 2)))] [] ?_
  refine pc h (fun h => ?_) (fun h => ?_)
  refine srv 5 63 [(2, .fptr (Enc.cells a0) 0), (26, I a0.fN), (29, I ((w64 (((a1.length : Int)) - 1))))] [] ?_
  obtain ⟨v7, hv8, h⟩ := bindS h
  refine opsP_callF τ 30 (ok_impl_between hv8) (FzTo.frz rfl) rfl (by kernel_rfl) ?_
  refine v 1 63 [(2, .fptr (Enc.cells a0) 0), (31, B v7)] [] ?_
  rcases Bool.eq_false_or_eq_true v7 with hc9 | hc9
  replace h := bT hc9 h
  rw [hc9]
  refine ve 6 63 [(4, B ((eq_T_impl_Value a0.fV ((T_impl_Value.mk 0 0 (ByteArray.mk #[]))))))] [] ?_
  cases h
  exact pwp_ret rz
  replace h := bF hc9 h
  rw [hc9]
  refine ve 6 63 [(4, B false)] [] ?_
  cases h
  exact pwp_ret rz
  refine srve 63 [(2, .fptr (Enc.cells a0) 0), (6, I a0.fKind), (37, B ((a0.fKind == 4)))] [] ?_
  refine pc h (fun h => ?_) (fun h => ?_)
  refine srv 2 63 [(2, .fptr (Enc.cells a0) 0), (40, I a0.fN)] [] ?_
  obtain ⟨v11, hv12, h⟩ := bindS h
  refine opsP_callF τ 41 (ok_impl_between hv12) (FzTo.frz rfl) rfl (by kernel_rfl) ?_
  refine v 1 63 [(2, .fptr (Enc.cells a0) 0), (42, B v11)] [] ?_
  rcases Bool.eq_false_or_eq_true v11 with hc13 | hc13
  replace h := bT hc13 h
  rw [hc13]
  refine ve 6 63 [(4, B ((eq_T_impl_Value a0.fV ((T_impl_Value.mk 0 0 (ByteArray.mk #[]))))))] [] ?_
  cases h
  exact pwp_ret rz
  replace h := bF hc13 h
  rw [hc13]
  refine ve 6 63 [(4, B false)] [] ?_
  cases h
  exact pwp_ret rz
  refine pwp_seq ?_
  refine pwp_join (σ := Bool) (fun x14 => (⟨63, [(2, .fptr (Enc.cells a0) 0), (48, B x14)], []⟩ : St)) (fun x14 => impl_Part_tells_j0 a0 x14 = some y) ?_ ?_
  refine srve 63 [(2, .fptr (Enc.cells a0) 0), (6, I a0.fKind), (48, B ((a0.fKind == 3)))] [] ?_
  refine pc h (fun h => ?_) (fun h => ?_)
  refine pwp_skip ?_
  exact ⟨(a0.fKind == 3), h, (Imp.to (st' := ⟨63, [(2, .fptr (Enc.cells a0) 0), (48, B ((a0.fKind == 3)))], []⟩) [2, 48] (by kernel_rfl)).trans (Imp.to [2, 48] (by kernel_rfl))⟩
  refine srve 63 [(2, .fptr (Enc.cells a0) 0), (6, I a0.fKind), (48, B ((a0.fKind == 5)))] [] ?_
  refine pc h (fun h => ?_) (fun h => ?_)
  refine pwp_skip ?_
  exact ⟨(a0.fKind == 5), h, (Imp.to (st' := ⟨63, [(2, .fptr (Enc.cells a0) 0), (48, B ((a0.fKind == 5)))], []⟩) [2, 48] (by kernel_rfl)).trans (Imp.to [2, 48] (by kernel_rfl))⟩
  refine srve 63 [(2, .fptr (Enc.cells a0) 0), (6, I a0.fKind), (48, B ((a0.fKind == 6)))] [] ?_
  refine pc h (fun h => ?_) (fun h => ?_)
  refine pwp_skip ?_
  exact ⟨(a0.fKind == 6), h, (Imp.to (st' := ⟨63, [(2, .fptr (Enc.cells a0) 0), (48, B ((a0.fKind == 6)))], []⟩) [2, 48] (by kernel_rfl)).trans (Imp.to [2, 48] (by kernel_rfl))⟩
  refine srve 63 [(2, .fptr (Enc.cells a0) 0), (6, I a0.fKind), (48, B ((a0.fKind == 7)))] [] ?_
  refine pc h (fun h => ?_) (fun h => ?_)
  refine pwp_skip ?_
  exact ⟨(a0.fKind == 7), h, (Imp.to (st' := ⟨63, [(2, .fptr (Enc.cells a0) 0), (48, B ((a0.fKind == 7)))], []⟩) [2, 48] (by kernel_rfl)).trans (Imp.to [2, 48] (by kernel_rfl))⟩
  refine rve 63 [(2, .fptr (Enc.cells a0) 0), (48, B ((a0.fKind == 8)))] [] ?_
  exact ⟨(a0.fKind == 8), h, (Imp.to (st' := ⟨63, [(2, .fptr (Enc.cells a0) 0), (48, B ((a0.fKind == 8)))], []⟩) [2, 48] (by kernel_rfl)).trans (Imp.to [2, 48] (by kernel_rfl))⟩
  rintro x14 h
  unfold impl_Part_tells_j0 at h
  refine pc h (fun h => ?_) (fun h => ?_)
  refine srv 4 63 [(2, .fptr (Enc.cells a0) 0), (57, B ((a0.fN == 0)))] [] ?_
  rcases fk ((a0.fN == 0)) with hc16 | hc16
  replace h := bT hc16 h
  rw [hc16]
  refine ve 6 63 [(4, B ((eq_T_impl_Value a0.fV ((T_impl_Value.mk 0 0 (ByteArray.mk #[]))))))] [] ?_
  cases h
  exact pwp_ret rz
  replace h := bF hc16 h
  rw [hc16]
  refine ve 6 63 [(4, B false)] [] ?_
  cases h
  exact pwp_ret rz
  refine pwp_skip ?_
  refine srve 63 [(4, B false)] [] ?_
  cases h
  exact pwp_ret rz
def spec_RowOk_l0 (a0 : List T_impl_Value) : Nat → Int → Option Bool
  | 0, _ => none
  | f2 + 1, x1 => bif (decide (x1 < ((a0.length : Int)))) then (getI a0 x1).bind fun v5 => (spec_ValueOk v5).bind fun v7 => bif (!v7) then some false else (spec_RowOk_l0 a0 f2) ((w64 (x1 + 1))) else some ((decide (((a0.length : Int)) ≤ 4)))
def spec_RowOk (a0 : List T_impl_Value) : Option Bool := spec_RowOk_l0 a0 FUEL 0
end Go.D
