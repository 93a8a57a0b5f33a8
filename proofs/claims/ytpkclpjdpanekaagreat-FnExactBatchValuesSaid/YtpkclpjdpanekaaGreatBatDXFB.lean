import Derived.Test.YtpkclpjdpanekaaGreatBatDXFA
import Derived.KernelRfl
set_option linter.unusedVariables false
set_option linter.unusedSimpArgs false
namespace Go.D
open Go.Proofs
theorem ok_spec_RowOk {a0 : List T_impl_Value} {y : Bool} (h : spec_RowOk a0 = some y) : OK Tryz.prog 141 [A a0] (B y) := by
  refine OK_of_pwp τ_ok Tryz.func141 rfl (by kernel_rfl) rfl fun Γ hX => ?_
  unfold spec_RowOk at h
  refine srve 19 [(0, A a0)] [] ?_
  refine pwp_seq ?_
  refine srve 19 [(0, A a0), (3, I 0)] [] ?_
  refine pwp_block ?_
  refine pwp_loop (ι := Nat × Int) (fun (f2, x1) => (⟨19, [(0, A a0), (3, I x1)], []⟩ : St)) (fun (f2, x1) => spec_RowOk_l0 a0 f2 x1 = some y) (fun (f2, x1) => f2) (FUEL, 0) h ((Imp.to (st' := ⟨19, [(0, A a0), (3, I 0)], []⟩) [0, 3] (by kernel_rfl)).trans (Imp.to [0, 3] (by kernel_rfl))) ?_
  rintro ⟨f2, x1⟩ h
  dsimp only at h ⊢
  rcases f2 with _ | f2
  cases h
  rw [spec_RowOk_l0] at h
  refine pwp_seq ?_
  refine srve 19 [(0, A a0), (3, I x1), (7, B ((decide (x1 < ((a0.length : Int))))))] [] ?_
  refine pc h (fun h => ?_) (fun h => ?_)
  refine pwp_skip ?_
  refine pwp_seq ?_
  refine pwp_block ?_
  refine srv 2 19 [(0, A a0), (3, I x1), (10, A a0), (11, I x1)] [] ?_
  obtain ⟨v5, hv6, h⟩ := bindS h
  refine opsP_idx τ_ok 12 hv6 (by kernel_rfl) ?_
  refine v 1 19 [(0, A a0), (3, I x1), (13, E v5)] [] ?_
  obtain ⟨v7, hv8, h⟩ := bindS h
  refine opsP_callF τ 14 (ok_spec_ValueOk hv8) (FzTo.frz rfl) rfl (by kernel_rfl) ?_
  refine ve 1 19 [(0, A a0), (3, I x1), (15, B ((!v7)))] [] ?_
  refine pc h (fun h => ?_) (fun h => ?_)
  refine srve 19 [(2, B false)] [] ?_
  cases h
  exact pwp_ret rz
  refine pwp_skip ?_
  refine rve 19 [(0, A a0), (3, I ((w64 (x1 + 1))))] [] ?_
  exact ⟨(f2, (w64 (x1 + 1))), h, Nat.lt_succ_self _, (Imp.to (st' := ⟨19, [(0, A a0), (3, I ((w64 (x1 + 1))))], []⟩) [0, 3] (by kernel_rfl)).trans (Imp.to [0, 3] (by kernel_rfl))⟩
  refine pwp_exit ?_
  refine srve 19 [(2, B ((decide (((a0.length : Int)) ≤ 4))))] [] ?_
  cases h
  exact pwp_ret rz
def impl_RowOk (a0 : List T_impl_Value) : Option Bool := bif (decide (((a0.length : Int)) ≤ 4)) then (slices_ContainsFunc_impl_Value_impl_Value a0 impl_RowOk_1).bind fun v1 => some ((!v1)) else some false
theorem ok_impl_RowOk {a0 : List T_impl_Value} {y : Bool} (h : impl_RowOk a0 = some y) : OK Tryz.prog 148 [A a0] (B y) := by
  refine OK_of_pwp τ_ok Tryz.func148 rfl (by kernel_rfl) rfl fun Γ hX => ?_
  unfold impl_RowOk at h
  refine srve 11 [(0, A a0)] [] ?_
  refine srv 4 11 [(0, A a0), (6, B ((decide (((a0.length : Int)) ≤ 4))))] [] ?_
  rcases fk ((decide (((a0.length : Int)) ≤ 4))) with hc3 | hc3
  replace h := bT hc3 h
  rw [hc3]
  refine v 1 11 [(6, B true), (7, A a0)] [] ?_
  obtain ⟨v1, hv2, h⟩ := bindS h
  refine opsP_callF τ 8 (ok_slices_ContainsFunc_impl_Value_impl_Value (rfl) (fun _ w hw => ok_impl_RowOk_1 hw) hv2) (FzTo.frz rfl) rfl (by kernel_rfl) ?_
  refine ve 3 11 [(2, B ((!v1)))] [] ?_
  cases h
  exact pwp_ret rz
  replace h := bF hc3 h
  rw [hc3]
  refine ve 5 11 [(2, B false)] [] ?_
  cases h
  exact pwp_ret rz
def spec_Compare_j1 (a0 : Int) (a1 : T_impl_Value) (a2 : T_impl_Value) (x3 : Bool) : Option Int := bif x3 then some 2 else bif (!(a1.fKind == a2.fKind)) then some (-1) else bif (a0 == 1) then (spec_ValueOrder a1 a2).bind fun v7 => (spec_l2Bool ((v7 == 0))).bind fun v9 => some v9 else bif (a0 == 2) then (spec_ValueOrder a1 a2).bind fun v12 => (spec_l2Bool ((!(v12 == 0)))).bind fun v14 => some v14 else bif (a0 == 3) then (spec_ValueOrder a1 a2).bind fun v17 => (spec_l2Bool ((decide (v17 < 0)))).bind fun v19 => some v19 else (spec_ValueOrder a1 a2).bind fun v21 => (spec_l2Bool ((decide (v21 ≤ 0)))).bind fun v23 => some v23
def spec_Compare_j0 (a0 : Int) (a1 : T_impl_Value) (a2 : T_impl_Value) (x1 : Bool) : Option Int := bif x1 then some (-1) else bif (a1.fKind == 0) then spec_Compare_j1 a0 a1 a2 true else spec_Compare_j1 a0 a1 a2 ((a2.fKind == 0))
def spec_Compare (a0 : Int) (a1 : T_impl_Value) (a2 : T_impl_Value) : Option Int := (spec_l1In a0 1 4).bind fun v26 => bif (!v26) then spec_Compare_j0 a0 a1 a2 true else (spec_ValueOk a1).bind fun v28 => bif (!v28) then spec_Compare_j0 a0 a1 a2 true else (spec_ValueOk a2).bind fun v30 => spec_Compare_j0 a0 a1 a2 ((!v30))
theorem ok_spec_Compare {a0 : Int} {a1 : T_impl_Value} {a2 : T_impl_Value} {y : Int} (h : spec_Compare a0 a1 a2 = some y) : OK Tryz.prog 154 [I a0, E a1, E a2] (I y) := by
  refine OK_of_pwp τ_ok Tryz.func154 rfl (by kernel_rfl) rfl fun Γ hX => ?_
  unfold spec_Compare at h
  refine srve 65 [(0, I a0), (4, .fptr (Enc.cells a1) 0), (5, .fptr (Enc.cells a2) 0)] [] ?_
  refine pwp_seq ?_
  refine pwp_block ?_
  refine pwp_seq ?_
  refine pwp_join (σ := Bool) (fun x1 => (⟨65, [(0, I a0), (4, .fptr (Enc.cells a1) 0), (5, .fptr (Enc.cells a2) 0), (7, B x1)], []⟩ : St)) (fun x1 => spec_Compare_j0 a0 a1 a2 x1 = some y) ?_ ?_
  refine rv 1 65 [(0, I a0), (4, .fptr (Enc.cells a1) 0), (5, .fptr (Enc.cells a2) 0), (8, I a0)] [] ?_
  obtain ⟨v26, hv27, h⟩ := bindS h
  refine opsP_callF τ 9 (ok_spec_l1In hv27) (FzTo.frz rfl) rfl (by kernel_rfl) ?_
  refine v 2 65 [(0, I a0), (4, .fptr (Enc.cells a1) 0), (5, .fptr (Enc.cells a2) 0), (11, B ((!v26)))] [] ?_
  rcases fk ((!v26)) with hc33 | hc33
  replace h := bT hc33 h
  rw [hc33]
  refine ve 10 65 [(0, I a0), (4, .fptr (Enc.cells a1) 0), (5, .fptr (Enc.cells a2) 0), (7, B true)] [] ?_
  exact ⟨true, h, (Imp.to (st' := ⟨65, [(0, I a0), (4, .fptr (Enc.cells a1) 0), (5, .fptr (Enc.cells a2) 0), (7, B true)], []⟩) [0, 4, 5, 7] (by kernel_rfl)).trans (Imp.to [0, 4, 5, 7] (by kernel_rfl))⟩
  replace h := bF hc33 h
  rw [hc33]
  refine v 1 65 [(0, I a0), (4, .fptr (Enc.cells a1) 0), (5, .fptr (Enc.cells a2) 0), (11, B false), (12, E a1)] [] ?_
  obtain ⟨v28, hv29, h⟩ := bindS h
  refine opsP_callF τ 13 (ok_spec_ValueOk hv29) (FzTo.frz rfl) rfl (by kernel_rfl) ?_
  refine v 3 65 [(0, I a0), (4, .fptr (Enc.cells a1) 0), (5, .fptr (Enc.cells a2) 0), (16, B ((!v28)))] [] ?_
  rcases fk ((!v28)) with hc32 | hc32
  replace h := bT hc32 h
  rw [hc32]
  refine ve 5 65 [(0, I a0), (4, .fptr (Enc.cells a1) 0), (5, .fptr (Enc.cells a2) 0), (7, B true)] [] ?_
  exact ⟨true, h, (Imp.to (st' := ⟨65, [(0, I a0), (4, .fptr (Enc.cells a1) 0), (5, .fptr (Enc.cells a2) 0), (7, B true)], []⟩) [0, 4, 5, 7] (by kernel_rfl)).trans (Imp.to [0, 4, 5, 7] (by kernel_rfl))⟩
  replace h := bF hc32 h
  rw [hc32]
  refine v 1 65 [(0, I a0), (4, .fptr (Enc.cells a1) 0), (5, .fptr (Enc.cells a2) 0), (16, B false), (17, E a2)] [] ?_
  obtain ⟨v30, hv31, h⟩ := bindS h
  refine opsP_callF τ 18 (ok_spec_ValueOk hv31) (FzTo.frz rfl) rfl (by kernel_rfl) ?_
  refine ve 3 65 [(0, I a0), (4, .fptr (Enc.cells a1) 0), (5, .fptr (Enc.cells a2) 0), (7, B ((!v30)))] [] ?_
  exact ⟨(!v30), h, (Imp.to (st' := ⟨65, [(0, I a0), (4, .fptr (Enc.cells a1) 0), (5, .fptr (Enc.cells a2) 0), (7, B ((!v30)))], []⟩) [0, 4, 5, 7] (by kernel_rfl)).trans (Imp.to [0, 4, 5, 7] (by kernel_rfl))⟩
  rintro x1 h
  unfold spec_Compare_j0 at h
  refine pc h (fun h => ?_) (fun h => ?_)
  refine srve 65 [(6, I (-1))] [] ?_
  cases h
  exact pwp_ret rz
  refine pwp_seq ?_
  refine pwp_join (σ := Bool) (fun x3 => (⟨65, [(0, I a0), (4, .fptr (Enc.cells a1) 0), (5, .fptr (Enc.cells a2) 0), (21, B x3)], []⟩ : St)) (fun x3 => spec_Compare_j1 a0 a1 a2 x3 = some y) ?_ ?_
  refine rv 4 65 [(0, I a0), (4, .fptr (Enc.cells a1) 0), (5, .fptr (Enc.cells a2) 0), (25, B ((a1.fKind == 0)))] [] ?_
  rcases fk ((a1.fKind == 0)) with hc25 | hc25
  replace h := bT hc25 h
  rw [hc25]
  refine ve 5 65 [(0, I a0), (4, .fptr (Enc.cells a1) 0), (5, .fptr (Enc.cells a2) 0), (21, B true)] [] ?_
  exact ⟨true, h, (Imp.to (st' := ⟨65, [(0, I a0), (4, .fptr (Enc.cells a1) 0), (5, .fptr (Enc.cells a2) 0), (21, B true)], []⟩) [0, 4, 5, 21] (by kernel_rfl)).trans (Imp.to [0, 4, 5, 21] (by kernel_rfl))⟩
  replace h := bF hc25 h
  rw [hc25]
  refine ve 5 65 [(0, I a0), (4, .fptr (Enc.cells a1) 0), (5, .fptr (Enc.cells a2) 0), (21, B ((a2.fKind == 0)))] [] ?_
  exact ⟨(a2.fKind == 0), h, (Imp.to (st' := ⟨65, [(0, I a0), (4, .fptr (Enc.cells a1) 0), (5, .fptr (Enc.cells a2) 0), (21, B ((a2.fKind == 0)))], []⟩) [0, 4, 5, 21] (by kernel_rfl)).trans (Imp.to [0, 4, 5, 21] (by kernel_rfl))⟩
  rintro x3 h
  unfold spec_Compare_j1 at h
  refine pc h (fun h => ?_) (fun h => ?_)
  refine srve 65 [(6, I 2)] [] ?_
  cases h
  exact pwp_ret rz
  refine srve 65 [(0, I a0), (4, .fptr (Enc.cells a1) 0), (5, .fptr (Enc.cells a2) 0), (30, B ((!(a1.fKind == a2.fKind))))] [] ?_
  refine pc h (fun h => ?_) (fun h => ?_)
  refine srve 65 [(6, I (-1))] [] ?_
  cases h
  exact pwp_ret rz
  refine srve 65 [(0, I a0), (4, .fptr (Enc.cells a1) 0), (5, .fptr (Enc.cells a2) 0), (36, B ((a0 == 1)))] [] ?_
  refine pc h (fun h => ?_) (fun h => ?_)
  refine srv 2 65 [(39, E a1), (40, E a2)] [] ?_
  obtain ⟨v7, hv8, h⟩ := bindS h
  refine opsP_callF τ 41 (ok_spec_ValueOrder hv8) (FzTo.frz rfl) rfl (by kernel_rfl) ?_
  refine v 1 65 [(42, B ((v7 == 0)))] [] ?_
  obtain ⟨v9, hv10, h⟩ := bindS h
  refine opsP_callF τ 43 (ok_spec_l2Bool hv10) (FzTo.frz rfl) rfl (by kernel_rfl) ?_
  refine ve 1 65 [(6, I v9)] [] ?_
  cases h
  exact pwp_ret rz
  refine srve 65 [(0, I a0), (4, .fptr (Enc.cells a1) 0), (5, .fptr (Enc.cells a2) 0), (44, B ((a0 == 2)))] [] ?_
  refine pc h (fun h => ?_) (fun h => ?_)
  refine srv 2 65 [(47, E a1), (48, E a2)] [] ?_
  obtain ⟨v12, hv13, h⟩ := bindS h
  refine opsP_callF τ 49 (ok_spec_ValueOrder hv13) (FzTo.frz rfl) rfl (by kernel_rfl) ?_
  refine v 1 65 [(50, B ((!(v12 == 0))))] [] ?_
  obtain ⟨v14, hv15, h⟩ := bindS h
  refine opsP_callF τ 51 (ok_spec_l2Bool hv15) (FzTo.frz rfl) rfl (by kernel_rfl) ?_
  refine ve 1 65 [(6, I v14)] [] ?_
  cases h
  exact pwp_ret rz
  refine srve 65 [(4, .fptr (Enc.cells a1) 0), (5, .fptr (Enc.cells a2) 0), (52, B ((a0 == 3)))] [] ?_
  refine pc h (fun h => ?_) (fun h => ?_)
  refine srv 2 65 [(55, E a1), (56, E a2)] [] ?_
  obtain ⟨v17, hv18, h⟩ := bindS h
  refine opsP_callF τ 57 (ok_spec_ValueOrder hv18) (FzTo.frz rfl) rfl (by kernel_rfl) ?_
  refine v 1 65 [(58, B ((decide (v17 < 0))))] [] ?_
  obtain ⟨v19, hv20, h⟩ := bindS h
  refine opsP_callF τ 59 (ok_spec_l2Bool hv20) (FzTo.frz rfl) rfl (by kernel_rfl) ?_
  refine ve 1 65 [(6, I v19)] [] ?_
  cases h
  exact pwp_ret rz
  refine pwp_skip ?_
  refine srv 2 65 [(60, E a1), (61, E a2)] [] ?_
  obtain ⟨v21, hv22, h⟩ := bindS h
  refine opsP_callF τ 62 (ok_spec_ValueOrder hv22) (FzTo.frz rfl) rfl (by kernel_rfl) ?_
  refine v 1 65 [(63, B ((decide (v21 ≤ 0))))] [] ?_
  obtain ⟨v23, hv24, h⟩ := bindS h
  refine opsP_callF τ 64 (ok_spec_l2Bool hv24) (FzTo.frz rfl) rfl (by kernel_rfl) ?_
  refine ve 1 65 [(6, I v23)] [] ?_
  cases h
  exact pwp_ret rz
def impl_Part_kind_1 (a0 : Int) (b0 : List Int) : Option Bool := (slices_ContainsFunc_int_int b0 (fun z0 => impl_Part_kind_1_1 z0 a0)).bind fun v1 => some ((!v1))
theorem ok_impl_Part_kind_1 {a0 : Int} {b0 : List Int} {y : Bool} (h : impl_Part_kind_1 a0 b0 = some y) : OK Tryz.prog 163 [I a0, .fptr (Enc.cells b0) 0] (B y) := by
  refine OK_of_pwp τ_ok Tryz.func163 rfl (by kernel_rfl) rfl fun Γ hX => ?_
  unfold impl_Part_kind_1 at h
  refine srve 8 [(1, .fptr (Enc.cells b0) 0), (2, .fptr (Enc.cells a0) 0)] [] ?_
  refine srv 2 8 [(4, A b0), (5, .fn 165 [.fptr (Enc.cells a0) 0])] [] ?_
  obtain ⟨v1, hv2, h⟩ := bindS h
  refine opsP_callF τ 6 (ok_slices_ContainsFunc_int_int (rfl) (fun _ w hw => ok_impl_Part_kind_1_1 hw) hv2) (FzTo.frz rfl) rfl (by kernel_rfl) ?_
  refine ve 2 8 [(3, B ((!v1)))] [] ?_
  cases h
  exact pwp_ret rz
def impl_BatchOk_1 (a0 : List T_impl_Value) (b0 : T_impl_Batch) : Option Bool := bif (!(((a0.length : Int)) == ((b0.fPicked.length : Int)))) then some true else (slices_ContainsFunc_impl_Value_impl_Value a0 impl_BatchOk_1_1).bind fun v1 => some v1
theorem ok_impl_BatchOk_1 {a0 : List T_impl_Value} {b0 : T_impl_Batch} {y : Bool} (h : impl_BatchOk_1 a0 b0 = some y) : OK Tryz.prog 167 [A a0, .fptr (Enc.cells b0) 0] (B y) := by
  refine OK_of_pwp τ_ok Tryz.func167 rfl (by kernel_rfl) rfl fun Γ hX => ?_
  unfold impl_BatchOk_1 at h
  refine srve 14 [(0, A a0), (1, .fptr (Enc.cells b0) 0)] [] ?_
  refine srv 7 14 [(0, A a0), (10, B ((!(((a0.length : Int)) == ((b0.fPicked.length : Int))))))] [] ?_
  rcases fk ((!(((a0.length : Int)) == ((b0.fPicked.length : Int))))) with hc3 | hc3
  replace h := bT hc3 h
  rw [hc3]
  refine ve 4 14 [(3, B true)] [] ?_
  cases h
  exact pwp_ret rz
  replace h := bF hc3 h
  rw [hc3]
  refine v 1 14 [(10, B false), (11, A a0)] [] ?_
  obtain ⟨v1, hv2, h⟩ := bindS h
  refine opsP_callF τ 12 (ok_slices_ContainsFunc_impl_Value_impl_Value (rfl) (fun _ w hw => ok_impl_BatchOk_1_1 hw) hv2) (FzTo.frz rfl) rfl (by kernel_rfl) ?_
  refine ve 2 14 [(3, B v1)] [] ?_
  cases h
  exact pwp_ret rz
def impl_AndOf (a0 : Int) (a1 : Int) : Option Int := (impl_fold a0 a1 0).bind fun v1 => some v1
theorem ok_impl_AndOf {a0 : Int} {a1 : Int} {y : Int} (h : impl_AndOf a0 a1 = some y) : OK Tryz.prog 171 [I a0, I a1] (I y) := by
  refine OK_of_pwp τ_ok Tryz.func171 rfl (by kernel_rfl) rfl fun Γ hX => ?_
  unfold impl_AndOf at h
  refine srve 8 [(0, I a0), (1, I a1)] [] ?_
  refine srv 2 8 [(5, I a0), (6, I a1)] [] ?_
  obtain ⟨v1, hv2, h⟩ := bindS h
  refine opsP_callF τ 7 (ok_impl_fold hv2) (FzTo.frz rfl) rfl (by kernel_rfl) ?_
  refine ve 1 8 [(4, I v1)] [] ?_
  cases h
  exact pwp_ret rz
def impl_OrOf (a0 : Int) (a1 : Int) : Option Int := (impl_fold a0 a1 1).bind fun v1 => some v1
theorem ok_impl_OrOf {a0 : Int} {a1 : Int} {y : Int} (h : impl_OrOf a0 a1 = some y) : OK Tryz.prog 173 [I a0, I a1] (I y) := by
  refine OK_of_pwp τ_ok Tryz.func173 rfl (by kernel_rfl) rfl fun Γ hX => ?_
  unfold impl_OrOf at h
  refine srve 8 [(0, I a0), (1, I a1)] [] ?_
  refine srv 2 8 [(5, I a0), (6, I a1)] [] ?_
  obtain ⟨v1, hv2, h⟩ := bindS h
  refine opsP_callF τ 7 (ok_impl_fold hv2) (FzTo.frz rfl) rfl (by kernel_rfl) ?_
  refine ve 1 8 [(4, I v1)] [] ?_
  cases h
  exact pwp_ret rz
def impl_Value_order (a0 : T_impl_Value) (a1 : T_impl_Value) : Option Int := (cmp_Compare_int a0.fKind a1.fKind).bind fun v1 => (cmp_Compare_int a0.fN a1.fN).bind fun v3 => (cmp_Compare_string a0.fS a1.fS).bind fun v5 => (cmp_Or_int ([v1, v3, v5])).bind fun v7 => some v7
theorem ok_impl_Value_order {a0 : T_impl_Value} {a1 : T_impl_Value} {y : Int} (h : impl_Value_order a0 a1 = some y) : OK Tryz.prog 193 [E a0, E a1] (I y) := by
  refine OK_of_pwp τ_ok Tryz.func193 rfl (by kernel_rfl) rfl fun Γ hX => ?_
  unfold impl_Value_order at h
  refine srve 22 [(2, .fptr (Enc.cells a0) 0), (3, .fptr (Enc.cells a1) 0)] [] ?_
  refine pwp_seq ?_
  refine pwp_imp (Imp.to (st' := ⟨22, [(2, .fptr (Enc.cells a0) 0), (3, .fptr (Enc.cells a1) 0)], []⟩) [2, 3] (by kernel_rfl)) ?_
  refine pwp_any ([[], [], [], [], [], [], [], [], [], [], [], [], [], [], [], [], [], []]) ([[], [], [], [], [], [], [], [], [], [], [], [], [], [], [], [], [], []]) rfl (by kernel_rfl) ?_
  refine qA_ev (st' := ⟨22, [(8, I a1.fKind), (7, .fptr (Enc.cells a1) 0), (6, I a0.fKind), (5, .fptr (Enc.cells a0) 0), (2, .fptr (Enc.cells a0) 0), (3, .fptr (Enc.cells a1) 0)], []⟩) τ_ok [] [] 4 (by exact trivial) (by kernel_rfl) ?_
  obtain ⟨v1, hv2, h⟩ := bindS h
  refine qA_E (dd := some 9) (x := I v1) ([]) (⟨22, [(9, I v1), (8, I a1.fKind), (7, .fptr (Enc.cells a1) 0), (6, I a0.fKind), (5, .fptr (Enc.cells a0) 0), (2, .fptr (Enc.cells a0) 0), (3, .fptr (Enc.cells a1) 0)], []⟩) (fun Γ' hΓ => CoreE.of_g (callV_sound (τ := τ) (by kernel_rfl) rfl (ok_cmp_Compare_int hv2) (FzTo.frz rfl))) (by kernel_rfl) (by kernel_rfl) (by exact trivial) (.inr (.inr rfl)) (by kernel_rfl) ?_
  refine qA_ev (st' := ⟨22, [(13, I a1.fN), (12, .fptr (Enc.cells a1) 1), (11, I a0.fN), (10, .fptr (Enc.cells a0) 1), (9, I v1), (8, I a1.fKind), (7, .fptr (Enc.cells a1) 0), (6, I a0.fKind), (5, .fptr (Enc.cells a0) 0), (2, .fptr (Enc.cells a0) 0), (3, .fptr (Enc.cells a1) 0)], []⟩) τ_ok [] [] 4 (by exact trivial) (by kernel_rfl) ?_
  obtain ⟨v3, hv4, h⟩ := bindS h
  refine qA_E (dd := some 14) (x := I v3) ([]) (⟨22, [(14, I v3), (13, I a1.fN), (12, .fptr (Enc.cells a1) 1), (11, I a0.fN), (10, .fptr (Enc.cells a0) 1), (9, I v1), (8, I a1.fKind), (7, .fptr (Enc.cells a1) 0), (6, I a0.fKind), (5, .fptr (Enc.cells a0) 0), (2, .fptr (Enc.cells a0) 0), (3, .fptr (Enc.cells a1) 0)], []⟩) (fun Γ' hΓ => CoreE.of_g (callV_sound (τ := τ) (by kernel_rfl) rfl (ok_cmp_Compare_int hv4) (FzTo.frz rfl))) (by kernel_rfl) (by kernel_rfl) (by exact trivial) (.inr (.inr rfl)) (by kernel_rfl) ?_
  refine qA_ev (st' := ⟨22, [(18, S a1.fS), (17, .fptr (Enc.cells a1) 2), (16, S a0.fS), (15, .fptr (Enc.cells a0) 2), (14, I v3), (13, I a1.fN), (12, .fptr (Enc.cells a1) 1), (11, I a0.fN), (10, .fptr (Enc.cells a0) 1), (9, I v1), (8, I a1.fKind), (7, .fptr (Enc.cells a1) 0), (6, I a0.fKind), (5, .fptr (Enc.cells a0) 0), (2, .fptr (Enc.cells a0) 0), (3, .fptr (Enc.cells a1) 0)], []⟩) τ_ok [] [] 4 (by exact trivial) (by kernel_rfl) ?_
  obtain ⟨v5, hv6, h⟩ := bindS h
  refine qA_E (dd := some 19) (x := I v5) ([]) (⟨22, [(19, I v5), (18, S a1.fS), (17, .fptr (Enc.cells a1) 2), (16, S a0.fS), (15, .fptr (Enc.cells a0) 2), (14, I v3), (13, I a1.fN), (12, .fptr (Enc.cells a1) 1), (11, I a0.fN), (10, .fptr (Enc.cells a0) 1), (9, I v1), (8, I a1.fKind), (7, .fptr (Enc.cells a1) 0), (6, I a0.fKind), (5, .fptr (Enc.cells a0) 0), (2, .fptr (Enc.cells a0) 0), (3, .fptr (Enc.cells a1) 0)], []⟩) (fun Γ' hΓ => CoreE.of_g (callV_sound (τ := τ) (by kernel_rfl) rfl (ok_cmp_Compare_string hv6) (FzTo.frz rfl))) (by kernel_rfl) (by kernel_rfl) (by exact trivial) (.inr (.inr rfl)) (by kernel_rfl) ?_
  refine qA_ev (st' := ⟨22, [(20, .arr 1 (([v1, v3, v5] : List Int)).length (eL ([v1, v3, v5] : List Int)) true), (19, I v5), (18, S a1.fS), (17, .fptr (Enc.cells a1) 2), (16, S a0.fS), (15, .fptr (Enc.cells a0) 2), (14, I v3), (13, I a1.fN), (12, .fptr (Enc.cells a1) 1), (11, I a0.fN), (10, .fptr (Enc.cells a0) 1), (9, I v1), (8, I a1.fKind), (7, .fptr (Enc.cells a1) 0), (6, I a0.fKind), (5, .fptr (Enc.cells a0) 0), (2, .fptr (Enc.cells a0) 0), (3, .fptr (Enc.cells a1) 0)], []⟩) τ_ok [] [] 1 (by exact trivial) (by kernel_rfl) ?_
  obtain ⟨v7, hv8, h⟩ := bindS h
  refine qA_E (dd := some 21) (x := I v7) ([]) (⟨22, [(21, I v7), (20, .arr 1 (([v1, v3, v5] : List Int)).length (eL ([v1, v3, v5] : List Int)) true), (19, I v5), (18, S a1.fS), (17, .fptr (Enc.cells a1) 2), (16, S a0.fS), (15, .fptr (Enc.cells a0) 2), (14, I v3), (13, I a1.fN), (12, .fptr (Enc.cells a1) 1), (11, I a0.fN), (10, .fptr (Enc.cells a0) 1), (9, I v1), (8, I a1.fKind), (7, .fptr (Enc.cells a1) 0), (6, I a0.fKind), (5, .fptr (Enc.cells a0) 0), (2, .fptr (Enc.cells a0) 0), (3, .fptr (Enc.cells a1) 0)], []⟩) (fun Γ' hΓ => CoreE.of_g (callV_sound (τ := τ) (by kernel_rfl) rfl (ok_cmp_Or_int hv8) (FzTo.frz rfl))) (by kernel_rfl) (by kernel_rfl) (by exact trivial) (.inr (.inr rfl)) (by kernel_rfl) ?_
  refine qA_ev (st' := ⟨22, [(4, I v7), (21, I v7), (20, .arr 1 (([v1, v3, v5] : List Int)).length (eL ([v1, v3, v5] : List Int)) true), (19, I v5), (18, S a1.fS), (17, .fptr (Enc.cells a1) 2), (16, S a0.fS), (15, .fptr (Enc.cells a0) 2), (14, I v3), (13, I a1.fN), (12, .fptr (Enc.cells a1) 1), (11, I a0.fN), (10, .fptr (Enc.cells a0) 1), (9, I v1), (8, I a1.fKind), (7, .fptr (Enc.cells a1) 0), (6, I a0.fKind), (5, .fptr (Enc.cells a0) 0), (2, .fptr (Enc.cells a0) 0), (3, .fptr (Enc.cells a1) 0)], []⟩) τ_ok [] [] 1 (by exact trivial) (by kernel_rfl) ?_
  refine qA_end ?_
  refine opsP_imp (Imp.to (st' := ⟨22, [(4, I v7)], []⟩) [4] (by kernel_rfl)) ?_
  refine opsP_end rfl ?_
  cases h
  exact pwp_ret rz
def laws_szBatch (a0 : T_laws_Batch) (a1 : Int) : Option Int := (laws_szValueSS a0.fColumns a1).bind fun v1 => bif (decide (v1 < 0)) then some (-1) else (laws_szBoolS a0.fPicked v1).bind fun v4 => bif (decide (v4 < 0)) then some (-1) else some v4
theorem ok_laws_szBatch {a0 : T_laws_Batch} {a1 : Int} {y : Int} (h : laws_szBatch a0 a1 = some y) : OK Tryz.prog 27 [E a0, I a1] (I y) := by
  refine OK_of_pwp τ_ok Tryz.func27 rfl (by kernel_rfl) rfl fun Γ hX => ?_
  unfold laws_szBatch at h
  refine srve 18 [(1, I a1), (2, .fptr (Enc.cells a0) 0)] [] ?_
  refine srv 3 18 [(2, .fptr (Enc.cells a0) 0), (6, A a0.fColumns), (7, I a1)] [] ?_
  obtain ⟨v1, hv2, h⟩ := bindS h
  refine opsP_callF τ 8 (ok_laws_szValueSS hv2) (FzTo.frz rfl) rfl (by kernel_rfl) ?_
  refine ve 1 18 [(1, I v1), (2, .fptr (Enc.cells a0) 0)] [] ?_
  refine pwp_seq ?_
  refine srve 18 [(1, I v1), (2, .fptr (Enc.cells a0) 0), (10, B ((decide (v1 < 0))))] [] ?_
  refine pc h (fun h => ?_) (fun h => ?_)
  refine srve 18 [(4, I (-1))] [] ?_
  cases h
  exact pwp_ret rz
  refine pwp_skip ?_
  refine srv 3 18 [(12, A a0.fPicked), (13, I v1)] [] ?_
  obtain ⟨v4, hv5, h⟩ := bindS h
  refine opsP_callF τ 14 (ok_laws_szBoolS hv5) (FzTo.frz rfl) rfl (by kernel_rfl) ?_
  refine ve 1 18 [(1, I v4)] [] ?_
  refine pwp_seq ?_
  refine srve 18 [(1, I v4), (16, B ((decide (v4 < 0))))] [] ?_
  refine pc h (fun h => ?_) (fun h => ?_)
  refine srve 18 [(4, I (-1))] [] ?_
  cases h
  exact pwp_ret rz
  refine pwp_skip ?_
  refine srve 18 [(4, I v4)] [] ?_
  cases h
  exact pwp_ret rz
def spec_ExprKind_j3 (x6 : List Int) (x15 : Bool) : Option Int := bif x15 then some (-1) else (getI x6 0).bind fun v17 => some v17
def spec_ExprKind_j2 (a0 : List T_impl_Column) (a1 : List T_impl_Part) (x4 : Bool) (x5 : Int) (x6 : List Int) (K8 : Bool → Int → (List Int) → Option Int) (x9 : Bool) : Option Int := bif x9 then (getI a1 x5).bind fun v11 => (spec_l4Step a0 x6 v11).bind fun v13 => K8 v13.2 ((w64 (x5 + 1))) v13.1 else bif (!x4) then spec_ExprKind_j3 x6 true else spec_ExprKind_j3 x6 ((!(((x6.length : Int)) == 1)))
def spec_ExprKind_l1 (a0 : List T_impl_Column) (a1 : List T_impl_Part) : Nat → Bool → Int → (List Int) → Option Int
  | 0, _, _, _ => none
  | f7 + 1, x4, x5, x6 => bif (decide (x5 < ((a1.length : Int)))) then spec_ExprKind_j2 a0 a1 x4 x5 x6 (spec_ExprKind_l1 a0 a1 f7) x4 else spec_ExprKind_j2 a0 a1 x4 x5 x6 (spec_ExprKind_l1 a0 a1 f7) false
def spec_ExprKind_j0 (a0 : List T_impl_Column) (a1 : List T_impl_Part) (x1 : Bool) : Option Int := bif x1 then some (-1) else spec_ExprKind_l1 a0 a1 FUEL true 0 (([] : List Int))
def spec_ExprKind (a0 : List T_impl_Column) (a1 : List T_impl_Part) : Option Int := (spec_ColumnsOk a0).bind fun v21 => bif (!v21) then spec_ExprKind_j0 a0 a1 true else spec_ExprKind_j0 a0 a1 ((decide (((a1.length : Int)) > 12)))
theorem ok_spec_ExprKind {a0 : List T_impl_Column} {a1 : List T_impl_Part} {y : Int} (h : spec_ExprKind a0 a1 = some y) : OK Tryz.prog 72 [A a0, A a1] (I y) := by
  refine OK_of_pwp τ_ok Tryz.func72 rfl (by kernel_rfl) rfl fun Γ hX => ?_
  unfold spec_ExprKind at h
  refine srve 46 [(0, A a0), (1, A a1)] [] ?_
  refine pwp_seq ?_
  refine pwp_seq ?_
  refine pwp_join (σ := Bool) (fun x1 => (⟨46, [(0, A a0), (1, A a1), (15, B x1)], []⟩ : St)) (fun x1 => spec_ExprKind_j0 a0 a1 x1 = some y) ?_ ?_
  refine rv 1 46 [(0, A a0), (1, A a1), (8, A a0)] [] ?_
  obtain ⟨v21, hv22, h⟩ := bindS h
  refine opsP_callF τ 9 (ok_spec_ColumnsOk hv22) (FzTo.frz rfl) rfl (by kernel_rfl) ?_
  refine v 2 46 [(0, A a0), (1, A a1), (11, B ((!v21)))] [] ?_
  rcases fk ((!v21)) with hc23 | hc23
  replace h := bT hc23 h
  rw [hc23]
  refine ve 4 46 [(0, A a0), (1, A a1), (15, B true)] [] ?_
  exact ⟨true, h, (Imp.to (st' := ⟨46, [(0, A a0), (1, A a1), (15, B true)], []⟩) [0, 1, 15] (by kernel_rfl)).trans (Imp.to [0, 1, 15] (by kernel_rfl))⟩
  replace h := bF hc23 h
  rw [hc23]
  refine ve 4 46 [(0, A a0), (1, A a1), (15, B ((decide (((a1.length : Int)) > 12))))] [] ?_
  exact ⟨(decide (((a1.length : Int)) > 12)), h, (Imp.to (st' := ⟨46, [(0, A a0), (1, A a1), (15, B ((decide (((a1.length : Int)) > 12))))], []⟩) [0, 1, 15] (by kernel_rfl)).trans (Imp.to [0, 1, 15] (by kernel_rfl))⟩
  rintro x1 h
  unfold spec_ExprKind_j0 at h
  refine pc h (fun h => ?_) (fun h => ?_)
  refine srve 46 [(4, I (-1))] [] ?_
  cases h
  exact pwp_ret rz
  refine pwp_skip ?_
  refine srve 46 [(0, A a0), (1, A a1), (5, .arr 1 0 (eL ([] : List Int)) true)] [] ?_
  refine srve 46 [(0, A a0), (1, A a1), (5, .arr 1 0 (eL ([] : List Int)) true), (6, B true)] [] ?_
  refine pwp_seq ?_
  refine srve 46 [(0, A a0), (1, A a1), (5, .arr 1 0 (eL ([] : List Int)) true), (6, B true), (7, I 0)] [] ?_
  refine pwp_block ?_
  refine pwp_loop (ι := Nat × Bool × Int × (List Int)) (fun (f7, x4, x5, x6) => (⟨46, [(0, A a0), (1, A a1), (5, .ref 0 0 0 1 x6.length false), (6, B x4), (7, I x5)], [some ⟨0, eL x6⟩]⟩ : St)) (fun (f7, x4, x5, x6) => spec_ExprKind_l1 a0 a1 f7 x4 x5 x6 = some y) (fun (f7, x4, x5, x6) => f7) (FUEL, true, 0, ([] : List Int)) h ((Imp.to (st' := ⟨46, [(0, A a0), (1, A a1), (5, .arr 1 0 (eL ([] : List Int)) true), (6, B true), (7, I 0)], []⟩) [0, 1, 5, 6, 7] (by kernel_rfl)).trans ((Imp.thawS (st' := ⟨46, [(0, A a0), (1, A a1), (5, .ref 0 0 0 1 (([] : List Int)).length false), (6, B true), (7, I 0)], [some ⟨0, eL (([] : List Int))⟩]⟩) 5 [0, 1, 5, 6, 7] (by kernel_rfl)).trans (Imp.to [0, 1, 5, 6, 7] (by kernel_rfl)))) ?_
  rintro ⟨f7, x4, x5, x6⟩ h
  dsimp only at h ⊢
  rcases f7 with _ | f7
  cases h
  rw [spec_ExprKind_l1] at h
  refine pwp_seq ?_
  refine pwp_seq ?_
  refine pwp_join (σ := Bool) (fun x9 => (⟨46, [(0, A a0), (1, A a1), (5, .ref 0 0 0 1 x6.length false), (6, B x4), (7, I x5), (23, B x9)], [some ⟨0, eL x6⟩]⟩ : St)) (fun x9 => spec_ExprKind_j2 a0 a1 x4 x5 x6 (spec_ExprKind_l1 a0 a1 f7) x9 = some y) ?_ ?_
  refine rv 5 46 [(0, A a0), (1, A a1), (5, .ref 0 0 0 1 x6.length false), (6, B x4), (7, I x5), (21, B ((decide (x5 < ((a1.length : Int))))))] [some ⟨0, eL x6⟩] ?_
  rcases fk ((decide (x5 < ((a1.length : Int))))) with hc20 | hc20
  replace h := bT hc20 h
  rw [hc20]
  refine ve 2 46 [(0, A a0), (1, A a1), (5, .ref 0 0 0 1 x6.length false), (6, B x4), (7, I x5), (22, B x4), (23, B x4)] [some ⟨0, eL x6⟩] ?_
  exact ⟨x4, h, (Imp.to (st' := ⟨46, [(0, A a0), (1, A a1), (5, .ref 0 0 0 1 x6.length false), (6, B x4), (7, I x5), (23, B x4)], [some ⟨0, eL x6⟩]⟩) [0, 1, 5, 6, 7, 23] (by kernel_rfl)).trans (Imp.to [0, 1, 5, 6, 7, 23] (by kernel_rfl))⟩
  replace h := bF hc20 h
  rw [hc20]
  refine ve 2 46 [(0, A a0), (1, A a1), (5, .ref 0 0 0 1 x6.length false), (6, B x4), (7, I x5), (22, .lit undef), (23, B false)] [some ⟨0, eL x6⟩] ?_
  exact ⟨false, h, (Imp.to (st' := ⟨46, [(0, A a0), (1, A a1), (5, .ref 0 0 0 1 x6.length false), (6, B x4), (7, I x5), (23, B false)], [some ⟨0, eL x6⟩]⟩) [0, 1, 5, 6, 7, 23] (by kernel_rfl)).trans (Imp.to [0, 1, 5, 6, 7, 23] (by kernel_rfl))⟩
  rintro x9 h
  unfold spec_ExprKind_j2 at h
  refine pc h (fun h => ?_) (fun h => ?_)
  refine pwp_skip ?_
  refine pwp_seq ?_
  refine pwp_block ?_
  refine rv 4 46 [(0, A a0), (1, A a1), (7, I x5), (27, A a0), (28, .ref 0 0 0 1 x6.length false), (29, A a1), (30, I x5)] [some ⟨0, eL x6⟩] ?_
  obtain ⟨v11, hv12, h⟩ := bindS h
  refine opsP_idx τ_ok 31 hv12 (by kernel_rfl) ?_
  refine v 1 46 [(0, A a0), (1, A a1), (7, I x5), (27, A a0), (28, .ref 0 0 0 1 x6.length false), (32, E v11)] [some ⟨0, eL x6⟩] ?_
  obtain ⟨v13, hv14, h⟩ := bindS h
  refine opsP_callM (xs := [A a0, .ref 0 0 0 1 x6.length false, E v11]) (x := .tup [.ref 1 0 0 1 v13.1.length false, B v13.2]) (bs := [⟨0, eL v13.1⟩]) τ 33 [0] (fun b hb => absurd hb (hX b)) (ok_spec_l4Step hv14) (by kernel_rfl) (OutL.cons (OutP.frz rfl) (OutL.cons (OutP.list (v := 0) (by kernel_rfl)) (OutL.cons (OutP.frz rfl) (OutL.nil _)))) (by decide) (by kernel_rfl) ?_
  refine ve 5 46 [(0, A a0), (1, A a1), (5, .ref 1 0 0 1 v13.1.length false), (6, B v13.2), (7, I x5)] [none, some ⟨0, eL v13.1⟩] ?_
  refine rve 46 [(0, A a0), (1, A a1), (5, .ref 1 0 0 1 v13.1.length false), (6, B v13.2), (7, I ((w64 (x5 + 1))))] [none, some ⟨0, eL v13.1⟩] ?_
  exact ⟨(f7, v13.2, (w64 (x5 + 1)), v13.1), h, Nat.lt_succ_self _, (Imp.to (st' := ⟨46, [(0, A a0), (1, A a1), (5, .ref 1 0 0 1 v13.1.length false), (6, B v13.2), (7, I ((w64 (x5 + 1))))], [none, some ⟨0, eL v13.1⟩]⟩) [0, 1, 5, 6, 7] (by kernel_rfl)).trans ((Imp.mvS (st' := ⟨46, [(0, A a0), (1, A a1), (5, .ref 0 0 0 1 v13.1.length false), (6, B v13.2), (7, I ((w64 (x5 + 1))))], [some ⟨0, eL v13.1⟩, none]⟩) 1 0 [0, 1, 5, 6, 7] (fun b hb => absurd hb (hX b)) (v := 0) (cs := eL v13.1) (by kernel_rfl) (by kernel_rfl) (by exact (And.intro (eL_frz _) trivial)) (by kernel_rfl) (by kernel_rfl)).trans ((Imp.truncS (st' := ⟨46, [(0, A a0), (1, A a1), (5, .ref 0 0 0 1 v13.1.length false), (6, B v13.2), (7, I ((w64 (x5 + 1))))], [some ⟨0, eL v13.1⟩]⟩) 1 (fun b hb => absurd hb (hX b)) (by kernel_rfl) (allBelow_mem (by exact (And.intro rfl (And.intro rfl (And.intro rfl (And.intro rfl (And.intro rfl trivial))))))) (by exact (And.intro (frz_below (eL_frz _)) trivial)) (by kernel_rfl)).trans (Imp.to [0, 1, 5, 6, 7] (by kernel_rfl))))⟩
  refine pwp_exit ?_
  refine pwp_seq ?_
  refine pwp_seq ?_
  refine pwp_join (σ := Bool) (fun x15 => (⟨46, [(5, .ref 0 0 0 1 x6.length false), (42, B x15)], [some ⟨0, eL x6⟩]⟩ : St)) (fun x15 => spec_ExprKind_j3 x6 x15 = some y) ?_ ?_
  refine rv 3 46 [(5, .ref 0 0 0 1 x6.length false), (38, B ((!x4)))] [some ⟨0, eL x6⟩] ?_
  rcases fk ((!x4)) with hc19 | hc19
  replace h := bT hc19 h
  rw [hc19]
  refine ve 4 46 [(5, .ref 0 0 0 1 x6.length false), (42, B true)] [some ⟨0, eL x6⟩] ?_
  exact ⟨true, h, (Imp.to (st' := ⟨46, [(5, .ref 0 0 0 1 x6.length false), (42, B true)], [some ⟨0, eL x6⟩]⟩) [5, 42] (by kernel_rfl)).trans (Imp.to [5, 42] (by kernel_rfl))⟩
  replace h := bF hc19 h
  rw [hc19]
  refine ve 4 46 [(5, .ref 0 0 0 1 x6.length false), (42, B ((!(((x6.length : Int)) == 1))))] [some ⟨0, eL x6⟩] ?_
  exact ⟨(!(((x6.length : Int)) == 1)), h, (Imp.to (st' := ⟨46, [(5, .ref 0 0 0 1 x6.length false), (42, B ((!(((x6.length : Int)) == 1))))], [some ⟨0, eL x6⟩]⟩) [5, 42] (by kernel_rfl)).trans (Imp.to [5, 42] (by kernel_rfl))⟩
  rintro x15 h
  unfold spec_ExprKind_j3 at h
  refine pc h (fun h => ?_) (fun h => ?_)
  refine srve 46 [(4, I (-1))] [some ⟨0, eL x6⟩] ?_
  cases h
  exact pwp_ret rz
  refine pwp_skip ?_
  refine srv 1 46 [(43, .ref 0 0 0 1 x6.length false)] [some ⟨0, eL x6⟩] ?_
  obtain ⟨v17, hv18, h⟩ := bindS h
  refine opsP_idr τ_ok 44 0 0 x6.length hv18 rfl (by kernel_rfl) ?_
  refine opsP_lde (r := I v17) τ_ok 45 3 0 hv18 (by kernel_rfl) (by kernel_rfl) ?_
  refine ve 1 46 [(4, I v17)] [some ⟨0, eL x6⟩] ?_
  cases h
  exact pwp_ret rz
def spec_RowFits_j2 (x3 : Int) (K5 : Int → Option Bool) (x7 : Bool) : Option Bool := bif x7 then some false else K5 ((w64 (x3 + 1)))
def spec_RowFits_l1 (a0 : List T_impl_Column) (a1 : List T_impl_Value) : Nat → Int → Option Bool
  | 0, _ => none
  | f4 + 1, x3 => bif (decide (x3 < ((a1.length : Int)))) then (getI a1 x3).bind fun v9 => (getI a0 x3).bind fun v11 => bif (!(v9.fKind == v11.fKind)) then (getI a1 x3).bind fun v13 => bif (!(v13.fKind == 0)) then spec_RowFits_j2 x3 (spec_RowFits_l1 a0 a1 f4) true else (getI a0 x3).bind fun v15 => spec_RowFits_j2 x3 (spec_RowFits_l1 a0 a1 f4) ((!v15.fEmpty)) else spec_RowFits_j2 x3 (spec_RowFits_l1 a0 a1 f4) false else some true
def spec_RowFits_j0 (a0 : List T_impl_Column) (a1 : List T_impl_Value) (x1 : Bool) : Option Bool := bif x1 then some false else spec_RowFits_l1 a0 a1 FUEL 0
def spec_RowFits (a0 : List T_impl_Column) (a1 : List T_impl_Value) : Option Bool := (spec_ColumnsOk a0).bind fun v19 => bif (!v19) then spec_RowFits_j0 a0 a1 true else (spec_RowOk a1).bind fun v21 => bif (!v21) then spec_RowFits_j0 a0 a1 true else spec_RowFits_j0 a0 a1 ((!(((a1.length : Int)) == ((a0.length : Int)))))
theorem ok_spec_RowFits {a0 : List T_impl_Column} {a1 : List T_impl_Value} {y : Bool} (h : spec_RowFits a0 a1 = some y) : OK Tryz.prog 106 [A a0, A a1] (B y) := by
  refine OK_of_pwp τ_ok Tryz.func106 rfl (by kernel_rfl) rfl fun Γ hX => ?_
  unfold spec_RowFits at h
  refine srve 54 [(0, A a0), (1, A a1)] [] ?_
  refine pwp_seq ?_
  refine pwp_seq ?_
  refine pwp_join (σ := Bool) (fun x1 => (⟨54, [(0, A a0), (1, A a1), (20, B x1)], []⟩ : St)) (fun x1 => spec_RowFits_j0 a0 a1 x1 = some y) ?_ ?_
  refine rv 1 54 [(0, A a0), (1, A a1), (6, A a0)] [] ?_
  obtain ⟨v19, hv20, h⟩ := bindS h
  refine opsP_callF τ 7 (ok_spec_ColumnsOk hv20) (FzTo.frz rfl) rfl (by kernel_rfl) ?_
  refine v 2 54 [(0, A a0), (1, A a1), (9, B ((!v19)))] [] ?_
  rcases fk ((!v19)) with hc24 | hc24
  replace h := bT hc24 h
  rw [hc24]
  refine ve 11 54 [(0, A a0), (1, A a1), (20, B true)] [] ?_
  exact ⟨true, h, (Imp.to (st' := ⟨54, [(0, A a0), (1, A a1), (20, B true)], []⟩) [0, 1, 20] (by kernel_rfl)).trans (Imp.to [0, 1, 20] (by kernel_rfl))⟩
  replace h := bF hc24 h
  rw [hc24]
  refine v 1 54 [(0, A a0), (1, A a1), (9, B false), (10, A a1)] [] ?_
  obtain ⟨v21, hv22, h⟩ := bindS h
  refine opsP_callF τ 11 (ok_spec_RowOk hv22) (FzTo.frz rfl) rfl (by kernel_rfl) ?_
  refine v 3 54 [(0, A a0), (1, A a1), (14, B ((!v21)))] [] ?_
  rcases fk ((!v21)) with hc23 | hc23
  replace h := bT hc23 h
  rw [hc23]
  refine ve 6 54 [(0, A a0), (1, A a1), (20, B true)] [] ?_
  exact ⟨true, h, (Imp.to (st' := ⟨54, [(0, A a0), (1, A a1), (20, B true)], []⟩) [0, 1, 20] (by kernel_rfl)).trans (Imp.to [0, 1, 20] (by kernel_rfl))⟩
  replace h := bF hc23 h
  rw [hc23]
  refine ve 6 54 [(0, A a0), (1, A a1), (20, B ((!(((a1.length : Int)) == ((a0.length : Int))))))] [] ?_
  exact ⟨(!(((a1.length : Int)) == ((a0.length : Int)))), h, (Imp.to (st' := ⟨54, [(0, A a0), (1, A a1), (20, B ((!(((a1.length : Int)) == ((a0.length : Int))))))], []⟩) [0, 1, 20] (by kernel_rfl)).trans (Imp.to [0, 1, 20] (by kernel_rfl))⟩
  rintro x1 h
  unfold spec_RowFits_j0 at h
  refine pc h (fun h => ?_) (fun h => ?_)
  refine srve 54 [(4, B false)] [] ?_
  cases h
  exact pwp_ret rz
  refine pwp_skip ?_
  refine pwp_seq ?_
  refine srve 54 [(0, A a0), (1, A a1), (5, I 0)] [] ?_
  refine pwp_block ?_
  refine pwp_loop (ι := Nat × Int) (fun (f4, x3) => (⟨54, [(0, A a0), (1, A a1), (5, I x3)], []⟩ : St)) (fun (f4, x3) => spec_RowFits_l1 a0 a1 f4 x3 = some y) (fun (f4, x3) => f4) (FUEL, 0) h ((Imp.to (st' := ⟨54, [(0, A a0), (1, A a1), (5, I 0)], []⟩) [0, 1, 5] (by kernel_rfl)).trans (Imp.to [0, 1, 5] (by kernel_rfl))) ?_
  rintro ⟨f4, x3⟩ h
  dsimp only at h ⊢
  rcases f4 with _ | f4
  cases h
  rw [spec_RowFits_l1] at h
  refine pwp_seq ?_
  refine srve 54 [(0, A a0), (1, A a1), (5, I x3), (24, B ((decide (x3 < ((a1.length : Int))))))] [] ?_
  refine pc h (fun h => ?_) (fun h => ?_)
  refine pwp_skip ?_
  refine pwp_seq ?_
  refine pwp_block ?_
  refine pwp_seq ?_
  refine pwp_join (σ := Bool) (fun x7 => (⟨54, [(0, A a0), (1, A a1), (5, I x3), (53, B x7)], []⟩ : St)) (fun x7 => spec_RowFits_j2 x3 (spec_RowFits_l1 a0 a1 f4) x7 = some y) ?_ ?_
  refine pwp_imp (Imp.to (st' := ⟨54, [(0, A a0), (1, A a1), (5, I x3)], []⟩) [0, 1, 5] (by kernel_rfl)) ?_
  refine pwp_any ([[], [], [], [], [], [], [], [], [], [], [], [], [], [], [], [], [], [], [], [], [], [], [], [], [], [], []]) ([[], [], [], [], [], [], [], [], [], [], [], [], [], [], [], [], [], [], [], [], [], [], [], [], [], [], []]) rfl (by kernel_rfl) ?_
  refine qA_ev (st' := ⟨54, [(28, I x3), (27, A a1), (0, A a0), (1, A a1), (5, I x3)], []⟩) τ_ok [] [] 2 (by exact trivial) (by kernel_rfl) ?_
  obtain ⟨v9, hv10, h⟩ := bindS h
  refine qA_E (dd := some 29) (x := .fptr (Enc.cells v9) 0) ([]) (⟨54, [(29, .fptr (Enc.cells v9) 0), (28, I x3), (27, A a1), (0, A a0), (1, A a1), (5, I x3)], []⟩) (fun Γ' hΓ => CoreE.of_y (idxV_sound τ_ok (by kernel_rfl) hv10)) (by kernel_rfl) (by kernel_rfl) (by exact trivial) (.inr (.inr rfl)) (by kernel_rfl) ?_
  refine qA_ev (st' := ⟨54, [(33, I x3), (32, A a0), (31, I v9.fKind), (30, .fptr (Enc.cells v9) 0), (29, .fptr (Enc.cells v9) 0), (28, I x3), (27, A a1), (0, A a0), (1, A a1), (5, I x3)], []⟩) τ_ok [] [] 4 (by exact trivial) (by kernel_rfl) ?_
  obtain ⟨v11, hv12, h⟩ := bindS h
  refine qA_E (dd := some 34) (x := .fptr (Enc.cells v11) 0) ([]) (⟨54, [(34, .fptr (Enc.cells v11) 0), (33, I x3), (32, A a0), (31, I v9.fKind), (30, .fptr (Enc.cells v9) 0), (29, .fptr (Enc.cells v9) 0), (28, I x3), (27, A a1), (0, A a0), (1, A a1), (5, I x3)], []⟩) (fun Γ' hΓ => CoreE.of_y (idxV_sound τ_ok (by kernel_rfl) hv12)) (by kernel_rfl) (by kernel_rfl) (by exact trivial) (.inr (.inr rfl)) (by kernel_rfl) ?_
  refine qA_ev (st' := ⟨54, [(38, B ((!(v9.fKind == v11.fKind)))), (37, B ((!(v9.fKind == v11.fKind)))), (36, I v11.fKind), (35, .fptr (Enc.cells v11) 0), (34, .fptr (Enc.cells v11) 0), (33, I x3), (32, A a0), (31, I v9.fKind), (30, .fptr (Enc.cells v9) 0), (29, .fptr (Enc.cells v9) 0), (28, I x3), (27, A a1), (0, A a0), (1, A a1), (5, I x3)], []⟩) τ_ok [] [] 4 (by exact trivial) (by kernel_rfl) ?_
  rcases fk ((!(v9.fKind == v11.fKind))) with hc18 | hc18
  replace h := bT hc18 h
  rw [hc18]
  refine qA_ev (st' := ⟨54, [(40, I x3), (39, A a1), (38, B true), (37, B true), (36, I v11.fKind), (35, .fptr (Enc.cells v11) 0), (34, .fptr (Enc.cells v11) 0), (33, I x3), (32, A a0), (31, I v9.fKind), (30, .fptr (Enc.cells v9) 0), (29, .fptr (Enc.cells v9) 0), (28, I x3), (27, A a1), (0, A a0), (1, A a1), (5, I x3)], []⟩) τ_ok [] [] 2 (by exact trivial) (by kernel_rfl) ?_
  obtain ⟨v13, hv14, h⟩ := bindS h
  refine qA_E (dd := some 41) (x := .fptr (Enc.cells v13) 0) ([]) (⟨54, [(41, .fptr (Enc.cells v13) 0), (40, I x3), (39, A a1), (38, B true), (37, B true), (36, I v11.fKind), (35, .fptr (Enc.cells v11) 0), (34, .fptr (Enc.cells v11) 0), (33, I x3), (32, A a0), (31, I v9.fKind), (30, .fptr (Enc.cells v9) 0), (29, .fptr (Enc.cells v9) 0), (28, I x3), (27, A a1), (0, A a0), (1, A a1), (5, I x3)], []⟩) (fun Γ' hΓ => CoreE.of_y (idxV_sound τ_ok (by kernel_rfl) hv14)) (by kernel_rfl) (by kernel_rfl) (by exact trivial) (.inr (.inr rfl)) (by kernel_rfl) ?_
  refine qA_ev (st' := ⟨54, [(45, B ((!(v13.fKind == 0)))), (44, B ((!(v13.fKind == 0)))), (43, I v13.fKind), (42, .fptr (Enc.cells v13) 0), (41, .fptr (Enc.cells v13) 0), (40, I x3), (39, A a1), (38, B true), (37, B true), (36, I v11.fKind), (35, .fptr (Enc.cells v11) 0), (34, .fptr (Enc.cells v11) 0), (33, I x3), (32, A a0), (31, I v9.fKind), (30, .fptr (Enc.cells v9) 0), (29, .fptr (Enc.cells v9) 0), (28, I x3), (27, A a1), (0, A a0), (1, A a1), (5, I x3)], []⟩) τ_ok [] [] 4 (by exact trivial) (by kernel_rfl) ?_
  rcases fk ((!(v13.fKind == 0))) with hc17 | hc17
  replace h := bT hc17 h
  rw [hc17]
  refine qA_ev (st' := ⟨54, [(53, B true), (52, B true), (51, .lit undef), (50, .lit undef), (49, .lit undef), (48, .lit undef), (47, .lit undef), (46, .lit undef), (45, B true), (44, B true), (43, I v13.fKind), (42, .fptr (Enc.cells v13) 0), (41, .fptr (Enc.cells v13) 0), (40, I x3), (39, A a1), (38, B true), (37, B true), (36, I v11.fKind), (35, .fptr (Enc.cells v11) 0), (34, .fptr (Enc.cells v11) 0), (33, I x3), (32, A a0), (31, I v9.fKind), (30, .fptr (Enc.cells v9) 0), (29, .fptr (Enc.cells v9) 0), (28, I x3), (27, A a1), (0, A a0), (1, A a1), (5, I x3)], []⟩) τ_ok [] [] 8 (by exact trivial) (by kernel_rfl) ?_
  refine qA_end ?_
  refine opsP_imp (Imp.to (st' := ⟨54, [(0, A a0), (1, A a1), (5, I x3), (39, A a1), (40, I x3), (41, .fptr (Enc.cells v13) 0), (42, .fptr (Enc.cells v13) 0), (43, I v13.fKind), (44, B true), (45, B true), (46, .lit undef), (47, .lit undef), (48, .lit undef), (49, .lit undef), (50, .lit undef), (51, .lit undef), (52, B true), (53, B true)], []⟩) [0, 1, 5, 39, 40, 41, 42, 43, 44, 45, 46, 47, 48, 49, 50, 51, 52, 53] (by kernel_rfl)) ?_
  refine opsP_end rfl ?_
  exact ⟨true, h, (Imp.to (st' := ⟨54, [(0, A a0), (1, A a1), (5, I x3), (53, B true)], []⟩) [0, 1, 5, 53] (by kernel_rfl)).trans (Imp.to [0, 1, 5, 53] (by kernel_rfl))⟩
  replace h := bF hc17 h
  rw [hc17]
  refine qA_ev (st' := ⟨54, [(47, I x3), (46, A a0), (45, B false), (44, B false), (43, I v13.fKind), (42, .fptr (Enc.cells v13) 0), (41, .fptr (Enc.cells v13) 0), (40, I x3), (39, A a1), (38, B true), (37, B true), (36, I v11.fKind), (35, .fptr (Enc.cells v11) 0), (34, .fptr (Enc.cells v11) 0), (33, I x3), (32, A a0), (31, I v9.fKind), (30, .fptr (Enc.cells v9) 0), (29, .fptr (Enc.cells v9) 0), (28, I x3), (27, A a1), (0, A a0), (1, A a1), (5, I x3)], []⟩) τ_ok [] [] 2 (by exact trivial) (by kernel_rfl) ?_
  obtain ⟨v15, hv16, h⟩ := bindS h
  refine qA_E (dd := some 48) (x := .fptr (Enc.cells v15) 0) ([]) (⟨54, [(48, .fptr (Enc.cells v15) 0), (47, I x3), (46, A a0), (45, B false), (44, B false), (43, I v13.fKind), (42, .fptr (Enc.cells v13) 0), (41, .fptr (Enc.cells v13) 0), (40, I x3), (39, A a1), (38, B true), (37, B true), (36, I v11.fKind), (35, .fptr (Enc.cells v11) 0), (34, .fptr (Enc.cells v11) 0), (33, I x3), (32, A a0), (31, I v9.fKind), (30, .fptr (Enc.cells v9) 0), (29, .fptr (Enc.cells v9) 0), (28, I x3), (27, A a1), (0, A a0), (1, A a1), (5, I x3)], []⟩) (fun Γ' hΓ => CoreE.of_y (idxV_sound τ_ok (by kernel_rfl) hv16)) (by kernel_rfl) (by kernel_rfl) (by exact trivial) (.inr (.inr rfl)) (by kernel_rfl) ?_
  refine qA_ev (st' := ⟨54, [(53, B ((!v15.fEmpty))), (52, B ((!v15.fEmpty))), (51, B ((!v15.fEmpty))), (50, B v15.fEmpty), (49, .fptr (Enc.cells v15) 1), (48, .fptr (Enc.cells v15) 0), (47, I x3), (46, A a0), (45, B false), (44, B false), (43, I v13.fKind), (42, .fptr (Enc.cells v13) 0), (41, .fptr (Enc.cells v13) 0), (40, I x3), (39, A a1), (38, B true), (37, B true), (36, I v11.fKind), (35, .fptr (Enc.cells v11) 0), (34, .fptr (Enc.cells v11) 0), (33, I x3), (32, A a0), (31, I v9.fKind), (30, .fptr (Enc.cells v9) 0), (29, .fptr (Enc.cells v9) 0), (28, I x3), (27, A a1), (0, A a0), (1, A a1), (5, I x3)], []⟩) τ_ok [] [] 5 (by exact trivial) (by kernel_rfl) ?_
  refine qA_end ?_
  refine opsP_imp (Imp.to (st' := ⟨54, [(0, A a0), (1, A a1), (5, I x3), (39, A a1), (40, I x3), (41, .fptr (Enc.cells v13) 0), (42, .fptr (Enc.cells v13) 0), (43, I v13.fKind), (44, B false), (45, B false), (46, A a0), (47, I x3), (48, .fptr (Enc.cells v15) 0), (49, .fptr (Enc.cells v15) 1), (50, B v15.fEmpty), (51, B ((!v15.fEmpty))), (52, B ((!v15.fEmpty))), (53, B ((!v15.fEmpty)))], []⟩) [0, 1, 5, 39, 40, 41, 42, 43, 44, 45, 46, 47, 48, 49, 50, 51, 52, 53] (by kernel_rfl)) ?_
  refine opsP_end rfl ?_
  exact ⟨(!v15.fEmpty), h, (Imp.to (st' := ⟨54, [(0, A a0), (1, A a1), (5, I x3), (53, B ((!v15.fEmpty)))], []⟩) [0, 1, 5, 53] (by kernel_rfl)).trans (Imp.to [0, 1, 5, 53] (by kernel_rfl))⟩
  replace h := bF hc18 h
  rw [hc18]
  refine qA_ev (st' := ⟨54, [(53, B false), (52, .lit undef), (51, .lit undef), (50, .lit undef), (49, .lit undef), (48, .lit undef), (47, .lit undef), (46, .lit undef), (45, .lit undef), (44, .lit undef), (43, .lit undef), (42, .lit undef), (41, .lit undef), (40, .lit undef), (39, .lit undef), (38, B false), (37, B false), (36, I v11.fKind), (35, .fptr (Enc.cells v11) 0), (34, .fptr (Enc.cells v11) 0), (33, I x3), (32, A a0), (31, I v9.fKind), (30, .fptr (Enc.cells v9) 0), (29, .fptr (Enc.cells v9) 0), (28, I x3), (27, A a1), (0, A a0), (1, A a1), (5, I x3)], []⟩) τ_ok [] [] 15 (by exact trivial) (by kernel_rfl) ?_
  refine qA_end ?_
  refine opsP_imp (Imp.to (st' := ⟨54, [(0, A a0), (1, A a1), (5, I x3), (39, .lit undef), (40, .lit undef), (41, .lit undef), (42, .lit undef), (43, .lit undef), (44, .lit undef), (45, .lit undef), (46, .lit undef), (47, .lit undef), (48, .lit undef), (49, .lit undef), (50, .lit undef), (51, .lit undef), (52, .lit undef), (53, B false)], []⟩) [0, 1, 5, 39, 40, 41, 42, 43, 44, 45, 46, 47, 48, 49, 50, 51, 52, 53] (by kernel_rfl)) ?_
  refine opsP_end rfl ?_
  exact ⟨false, h, (Imp.to (st' := ⟨54, [(0, A a0), (1, A a1), (5, I x3), (53, B false)], []⟩) [0, 1, 5, 53] (by kernel_rfl)).trans (Imp.to [0, 1, 5, 53] (by kernel_rfl))⟩
  rintro x7 h
  unfold spec_RowFits_j2 at h
  refine pc h (fun h => ?_) (fun h => ?_)
  refine srve 54 [(4, B false)] [] ?_
  cases h
  exact pwp_ret rz
  refine pwp_skip ?_
  refine rve 54 [(0, A a0), (1, A a1), (5, I ((w64 (x3 + 1))))] [] ?_
  exact ⟨(f4, (w64 (x3 + 1))), h, Nat.lt_succ_self _, (Imp.to (st' := ⟨54, [(0, A a0), (1, A a1), (5, I ((w64 (x3 + 1))))], []⟩) [0, 1, 5] (by kernel_rfl)).trans (Imp.to [0, 1, 5] (by kernel_rfl))⟩
  refine pwp_exit ?_
  refine srve 54 [(4, B true)] [] ?_
  cases h
  exact pwp_ret rz
def impl_RowFits_j2 (x3 : Int) (K5 : Int → Option Bool) (x9 : Bool) : Option Bool := bif x9 then some false else K5 ((w64 (x3 + 1)))
def impl_RowFits_l1 (a0 : List T_impl_Column) (a1 : List T_impl_Value) : Nat → Int → Option Bool
  | 0, _ => none
  | f4 + 1, x3 => bif (decide (x3 < ((a1.length : Int)))) then (getI a1 x3).bind fun v7 => (getI a0 x3).bind fun v11 => bif (!(v7.fKind == v11.fKind)) then bif (!(v7.fKind == 0)) then impl_RowFits_j2 x3 (impl_RowFits_l1 a0 a1 f4) true else (getI a0 x3).bind fun v13 => impl_RowFits_j2 x3 (impl_RowFits_l1 a0 a1 f4) ((!v13.fEmpty)) else impl_RowFits_j2 x3 (impl_RowFits_l1 a0 a1 f4) false else some true
def impl_RowFits_j0 (a0 : List T_impl_Column) (a1 : List T_impl_Value) (x1 : Bool) : Option Bool := bif x1 then some false else impl_RowFits_l1 a0 a1 FUEL 0
def impl_RowFits (a0 : List T_impl_Column) (a1 : List T_impl_Value) : Option Bool := (impl_ColumnsOk a0).bind fun v17 => bif (!v17) then impl_RowFits_j0 a0 a1 true else (impl_RowOk a1).bind fun v19 => bif (!v19) then impl_RowFits_j0 a0 a1 true else impl_RowFits_j0 a0 a1 ((!(((a1.length : Int)) == ((a0.length : Int)))))
theorem ok_impl_RowFits {a0 : List T_impl_Column} {a1 : List T_impl_Value} {y : Bool} (h : impl_RowFits a0 a1 = some y) : OK Tryz.prog 116 [A a0, A a1] (B y) := by
  refine OK_of_pwp τ_ok Tryz.func116 rfl (by kernel_rfl) rfl fun Γ hX => ?_
  unfold impl_RowFits at h
  refine srveM [6] 51 [(0, A a0), (1, A a1)] [] ?_
  refine pwp_seq ?_
  refine pwp_seq ?_
  refine pwp_join (σ := Bool) (fun x1 => (⟨51, [(0, A a0), (1, A a1), (21, B x1)], []⟩ : St)) (fun x1 => impl_RowFits_j0 a0 a1 x1 = some y) ?_ ?_
  refine rvM [6] 1 51 [(0, A a0), (1, A a1), (7, A a0)] [] ?_
  obtain ⟨v17, hv18, h⟩ := bindS h
  refine opsP_callF τ 8 (ok_impl_ColumnsOk hv18) (FzTo.frz rfl) rfl (by kernel_rfl) ?_
  refine vM [6] 2 51 [(0, A a0), (1, A a1), (10, B ((!v17)))] [] ?_
  rcases fk ((!v17)) with hc22 | hc22
  replace h := bT hc22 h
  rw [hc22]
  refine veM [6] 11 51 [(0, A a0), (1, A a1), (21, B true)] [] ?_
  exact ⟨true, h, (Imp.to (st' := ⟨51, [(0, A a0), (1, A a1), (21, B true)], []⟩) [0, 1, 21] (by kernel_rfl)).trans (Imp.to [0, 1, 21] (by kernel_rfl))⟩
  replace h := bF hc22 h
  rw [hc22]
  refine vM [6] 1 51 [(0, A a0), (1, A a1), (10, B false), (11, A a1)] [] ?_
  obtain ⟨v19, hv20, h⟩ := bindS h
  refine opsP_callF τ 12 (ok_impl_RowOk hv20) (FzTo.frz rfl) rfl (by kernel_rfl) ?_
  refine vM [6] 3 51 [(0, A a0), (1, A a1), (15, B ((!v19)))] [] ?_
  rcases fk ((!v19)) with hc21 | hc21
  replace h := bT hc21 h
  rw [hc21]
  refine veM [6] 6 51 [(0, A a0), (1, A a1), (21, B true)] [] ?_
  exact ⟨true, h, (Imp.to (st' := ⟨51, [(0, A a0), (1, A a1), (21, B true)], []⟩) [0, 1, 21] (by kernel_rfl)).trans (Imp.to [0, 1, 21] (by kernel_rfl))⟩
  replace h := bF hc21 h
  rw [hc21]
  refine veM [6] 6 51 [(0, A a0), (1, A a1), (21, B ((!(((a1.length : Int)) == ((a0.length : Int))))))] [] ?_
  exact ⟨(!(((a1.length : Int)) == ((a0.length : Int)))), h, (Imp.to (st' := ⟨51, [(0, A a0), (1, A a1), (21, B ((!(((a1.length : Int)) == ((a0.length : Int))))))], []⟩) [0, 1, 21] (by kernel_rfl)).trans (Imp.to [0, 1, 21] (by kernel_rfl))⟩
  rintro x1 h
  unfold impl_RowFits_j0 at h
  refine pc h (fun h => ?_) (fun h => ?_)
  refine srveM [6] 51 [(4, B false)] [] ?_
  cases h
  exact pwp_ret rz
  refine pwp_skip ?_
  refine pwp_seq ?_
  refine srveM [6] 51 [(0, A a0), (22, A a1), (23, I ((a1.length : Int))), (24, I 0)] [] ?_
  refine pwp_block ?_
  refine pwp_loop (ι := Nat × Int) (fun (f4, x3) => (⟨51, [(0, A a0), (22, A a1), (23, I ((a1.length : Int))), (24, I x3)], []⟩ : St)) (fun (f4, x3) => impl_RowFits_l1 a0 a1 f4 x3 = some y) (fun (f4, x3) => f4) (FUEL, 0) h ((Imp.to (st' := ⟨51, [(0, A a0), (22, A a1), (23, I ((a1.length : Int))), (24, I 0)], []⟩) [0, 22, 23, 24] (by kernel_rfl)).trans (Imp.to [0, 22, 23, 24] (by kernel_rfl))) ?_
  rintro ⟨f4, x3⟩ h
  dsimp only at h ⊢
  rcases f4 with _ | f4
  cases h
  rw [impl_RowFits_l1] at h
  refine srveM [6] 51 [(0, A a0), (22, A a1), (23, I ((a1.length : Int))), (24, I x3), (25, B ((decide (x3 < ((a1.length : Int))))))] [] ?_
  refine pwp_seq ?_
  refine pc h (fun h => ?_) (fun h => ?_)
  refine pwp_skip ?_
  refine pwp_seq ?_
  refine pwp_block ?_
  refine srvM [6] 1 51 [(0, A a0), (22, A a1), (23, I ((a1.length : Int))), (24, I x3), (26, I x3)] [] ?_
  obtain ⟨v7, hv8, h⟩ := bindS h
  refine opsP_idx τ_ok 27 hv8 (by kernel_rfl) ?_
  refine veM [6] 4 51 [(0, A a0), (5, I x3), (6, .ptr 0 0 0), (22, A a1), (23, I ((a1.length : Int))), (24, I x3)] [some ⟨0, Enc.cells v7⟩] ?_
  refine pwp_seq ?_
  refine pwp_join (σ := Bool) (fun x9 => (⟨51, [(0, A a0), (22, A a1), (23, I ((a1.length : Int))), (24, I x3), (49, B x9)], [some ⟨0, Enc.cells v7⟩]⟩ : St)) (fun x9 => impl_RowFits_j2 x3 (impl_RowFits_l1 a0 a1 f4) x9 = some y) ?_ ?_
  refine pwp_imp (Imp.to (st' := ⟨51, [(0, A a0), (5, I x3), (6, .ptr 0 0 0), (22, A a1), (23, I ((a1.length : Int))), (24, I x3)], [some ⟨0, Enc.cells v7⟩]⟩) [0, 5, 6, 22, 23, 24] (by kernel_rfl)) ?_
  refine pwp_any ([[0], [0], [], [], [], [], [], [], [], [0], [0], [], [], [], [], [], [], [], [], [], []]) ([[], [], [], [], [], [], [], [], [], [], [], [], [], [], [], [], [], [], [], [], []]) rfl (by kernel_rfl) ?_
  refine qA_ev (st' := ⟨51, [(30, I v7.fKind), (29, .ptr 0 0 0), (0, A a0), (5, I x3), (6, .ptr 0 0 0), (22, A a1), (23, I ((a1.length : Int))), (24, I x3)], [some ⟨0, Enc.cells v7⟩]⟩) τ_ok [6] [0] 2 (by exact (And.intro (.inl (Enc.frz _)) trivial)) (by kernel_rfl) ?_
  refine qA_ev (st' := ⟨51, [(32, I x3), (31, A a0), (30, I v7.fKind), (29, .ptr 0 0 0), (0, A a0), (5, I x3), (6, .ptr 0 0 0), (22, A a1), (23, I ((a1.length : Int))), (24, I x3)], [some ⟨0, Enc.cells v7⟩]⟩) τ_ok [6] [] 2 (by exact trivial) (by kernel_rfl) ?_
  obtain ⟨v11, hv12, h⟩ := bindS h
  refine qA_E (dd := some 33) (x := .fptr (Enc.cells v11) 0) ([none]) (⟨51, [(33, .fptr (Enc.cells v11) 0), (32, I x3), (31, A a0), (30, I v7.fKind), (29, .ptr 0 0 0), (0, A a0), (5, I x3), (6, .ptr 0 0 0), (22, A a1), (23, I ((a1.length : Int))), (24, I x3)], [some ⟨0, Enc.cells v7⟩]⟩) (fun Γ' hΓ => CoreE.of_y (idxV_sound τ_ok (by kernel_rfl) hv12)) (by kernel_rfl) (by kernel_rfl) (by exact trivial) (.inr (.inr rfl)) (by kernel_rfl) ?_
  refine qA_ev (st' := ⟨51, [(37, B ((!(v7.fKind == v11.fKind)))), (36, B ((!(v7.fKind == v11.fKind)))), (35, I v11.fKind), (34, .fptr (Enc.cells v11) 0), (33, .fptr (Enc.cells v11) 0), (32, I x3), (31, A a0), (30, I v7.fKind), (29, .ptr 0 0 0), (0, A a0), (5, I x3), (6, .ptr 0 0 0), (22, A a1), (23, I ((a1.length : Int))), (24, I x3)], [some ⟨0, Enc.cells v7⟩]⟩) τ_ok [6] [] 4 (by exact trivial) (by kernel_rfl) ?_
  rcases fk ((!(v7.fKind == v11.fKind))) with hc16 | hc16
  replace h := bT hc16 h
  rw [hc16]
  refine qA_ev (st' := ⟨51, [(39, I v7.fKind), (38, .ptr 0 0 0), (37, B true), (36, B true), (35, I v11.fKind), (34, .fptr (Enc.cells v11) 0), (33, .fptr (Enc.cells v11) 0), (32, I x3), (31, A a0), (30, I v7.fKind), (29, .ptr 0 0 0), (0, A a0), (5, I x3), (6, .ptr 0 0 0), (22, A a1), (23, I ((a1.length : Int))), (24, I x3)], [some ⟨0, Enc.cells v7⟩]⟩) τ_ok [6] [0] 2 (by exact (And.intro (.inl (Enc.frz _)) trivial)) (by kernel_rfl) ?_
  refine qA_ev (st' := ⟨51, [(41, B ((!(v7.fKind == 0)))), (40, B ((!(v7.fKind == 0)))), (39, I v7.fKind), (38, .ptr 0 0 0), (37, B true), (36, B true), (35, I v11.fKind), (34, .fptr (Enc.cells v11) 0), (33, .fptr (Enc.cells v11) 0), (32, I x3), (31, A a0), (30, I v7.fKind), (29, .ptr 0 0 0), (0, A a0), (5, I x3), (6, .ptr 0 0 0), (22, A a1), (23, I ((a1.length : Int))), (24, I x3)], [some ⟨0, Enc.cells v7⟩]⟩) τ_ok [6] [] 2 (by exact trivial) (by kernel_rfl) ?_
  rcases fk ((!(v7.fKind == 0))) with hc15 | hc15
  replace h := bT hc15 h
  rw [hc15]
  refine qA_ev (st' := ⟨51, [(49, B true), (48, B true), (47, .lit undef), (46, .lit undef), (45, .lit undef), (44, .lit undef), (43, .lit undef), (42, .lit undef), (41, B true), (40, B true), (39, I v7.fKind), (38, .ptr 0 0 0), (37, B true), (36, B true), (35, I v11.fKind), (34, .fptr (Enc.cells v11) 0), (33, .fptr (Enc.cells v11) 0), (32, I x3), (31, A a0), (30, I v7.fKind), (29, .ptr 0 0 0), (0, A a0), (5, I x3), (6, .ptr 0 0 0), (22, A a1), (23, I ((a1.length : Int))), (24, I x3)], [some ⟨0, Enc.cells v7⟩]⟩) τ_ok [6] [] 8 (by exact trivial) (by kernel_rfl) ?_
  refine qA_end ?_
  refine opsP_imp (Imp.to (st' := ⟨51, [(0, A a0), (22, A a1), (23, I ((a1.length : Int))), (24, I x3), (38, .ptr 0 0 0), (39, I v7.fKind), (40, B true), (41, B true), (42, .lit undef), (43, .lit undef), (44, .lit undef), (45, .lit undef), (46, .lit undef), (47, .lit undef), (48, B true), (49, B true)], [some ⟨0, Enc.cells v7⟩]⟩) [0, 22, 23, 24, 38, 39, 40, 41, 42, 43, 44, 45, 46, 47, 48, 49] (by kernel_rfl)) ?_
  refine opsP_end rfl ?_
  exact ⟨true, h, (Imp.to (st' := ⟨51, [(0, A a0), (22, A a1), (23, I ((a1.length : Int))), (24, I x3), (49, B true)], [some ⟨0, Enc.cells v7⟩]⟩) [0, 22, 23, 24, 49] (by kernel_rfl)).trans (Imp.to [0, 22, 23, 24, 49] (by kernel_rfl))⟩
  replace h := bF hc15 h
  rw [hc15]
  refine qA_ev (st' := ⟨51, [(43, I x3), (42, A a0), (41, B false), (40, B false), (39, I v7.fKind), (38, .ptr 0 0 0), (37, B true), (36, B true), (35, I v11.fKind), (34, .fptr (Enc.cells v11) 0), (33, .fptr (Enc.cells v11) 0), (32, I x3), (31, A a0), (30, I v7.fKind), (29, .ptr 0 0 0), (0, A a0), (5, I x3), (6, .ptr 0 0 0), (22, A a1), (23, I ((a1.length : Int))), (24, I x3)], [some ⟨0, Enc.cells v7⟩]⟩) τ_ok [6] [] 2 (by exact trivial) (by kernel_rfl) ?_
  obtain ⟨v13, hv14, h⟩ := bindS h
  refine qA_E (dd := some 44) (x := .fptr (Enc.cells v13) 0) ([none]) (⟨51, [(44, .fptr (Enc.cells v13) 0), (43, I x3), (42, A a0), (41, B false), (40, B false), (39, I v7.fKind), (38, .ptr 0 0 0), (37, B true), (36, B true), (35, I v11.fKind), (34, .fptr (Enc.cells v11) 0), (33, .fptr (Enc.cells v11) 0), (32, I x3), (31, A a0), (30, I v7.fKind), (29, .ptr 0 0 0), (0, A a0), (5, I x3), (6, .ptr 0 0 0), (22, A a1), (23, I ((a1.length : Int))), (24, I x3)], [some ⟨0, Enc.cells v7⟩]⟩) (fun Γ' hΓ => CoreE.of_y (idxV_sound τ_ok (by kernel_rfl) hv14)) (by kernel_rfl) (by kernel_rfl) (by exact trivial) (.inr (.inr rfl)) (by kernel_rfl) ?_
  refine qA_ev (st' := ⟨51, [(49, B ((!v13.fEmpty))), (48, B ((!v13.fEmpty))), (47, B ((!v13.fEmpty))), (46, B v13.fEmpty), (45, .fptr (Enc.cells v13) 1), (44, .fptr (Enc.cells v13) 0), (43, I x3), (42, A a0), (41, B false), (40, B false), (39, I v7.fKind), (38, .ptr 0 0 0), (37, B true), (36, B true), (35, I v11.fKind), (34, .fptr (Enc.cells v11) 0), (33, .fptr (Enc.cells v11) 0), (32, I x3), (31, A a0), (30, I v7.fKind), (29, .ptr 0 0 0), (0, A a0), (5, I x3), (6, .ptr 0 0 0), (22, A a1), (23, I ((a1.length : Int))), (24, I x3)], [some ⟨0, Enc.cells v7⟩]⟩) τ_ok [6] [] 5 (by exact trivial) (by kernel_rfl) ?_
  refine qA_end ?_
  refine opsP_imp (Imp.to (st' := ⟨51, [(0, A a0), (22, A a1), (23, I ((a1.length : Int))), (24, I x3), (38, .ptr 0 0 0), (39, I v7.fKind), (40, B false), (41, B false), (42, A a0), (43, I x3), (44, .fptr (Enc.cells v13) 0), (45, .fptr (Enc.cells v13) 1), (46, B v13.fEmpty), (47, B ((!v13.fEmpty))), (48, B ((!v13.fEmpty))), (49, B ((!v13.fEmpty)))], [some ⟨0, Enc.cells v7⟩]⟩) [0, 22, 23, 24, 38, 39, 40, 41, 42, 43, 44, 45, 46, 47, 48, 49] (by kernel_rfl)) ?_
  refine opsP_end rfl ?_
  exact ⟨(!v13.fEmpty), h, (Imp.to (st' := ⟨51, [(0, A a0), (22, A a1), (23, I ((a1.length : Int))), (24, I x3), (49, B ((!v13.fEmpty)))], [some ⟨0, Enc.cells v7⟩]⟩) [0, 22, 23, 24, 49] (by kernel_rfl)).trans (Imp.to [0, 22, 23, 24, 49] (by kernel_rfl))⟩
  replace h := bF hc16 h
  rw [hc16]
  refine qA_ev (st' := ⟨51, [(39, .lit undef), (38, .lit undef), (37, B false), (36, B false), (35, I v11.fKind), (34, .fptr (Enc.cells v11) 0), (33, .fptr (Enc.cells v11) 0), (32, I x3), (31, A a0), (30, I v7.fKind), (29, .ptr 0 0 0), (0, A a0), (5, I x3), (6, .ptr 0 0 0), (22, A a1), (23, I ((a1.length : Int))), (24, I x3)], [some ⟨0, Enc.cells v7⟩]⟩) τ_ok [6] [0] 2 (by exact (And.intro (.inl (Enc.frz _)) trivial)) (by kernel_rfl) ?_
  refine qA_ev (st' := ⟨51, [(49, B false), (48, .lit undef), (47, .lit undef), (46, .lit undef), (45, .lit undef), (44, .lit undef), (43, .lit undef), (42, .lit undef), (41, .lit undef), (40, .lit undef), (39, .lit undef), (38, .lit undef), (37, B false), (36, B false), (35, I v11.fKind), (34, .fptr (Enc.cells v11) 0), (33, .fptr (Enc.cells v11) 0), (32, I x3), (31, A a0), (30, I v7.fKind), (29, .ptr 0 0 0), (0, A a0), (5, I x3), (6, .ptr 0 0 0), (22, A a1), (23, I ((a1.length : Int))), (24, I x3)], [some ⟨0, Enc.cells v7⟩]⟩) τ_ok [6] [] 10 (by exact trivial) (by kernel_rfl) ?_
  refine qA_end ?_
  refine opsP_imp (Imp.to (st' := ⟨51, [(0, A a0), (22, A a1), (23, I ((a1.length : Int))), (24, I x3), (38, .lit undef), (39, .lit undef), (40, .lit undef), (41, .lit undef), (42, .lit undef), (43, .lit undef), (44, .lit undef), (45, .lit undef), (46, .lit undef), (47, .lit undef), (48, .lit undef), (49, B false)], [some ⟨0, Enc.cells v7⟩]⟩) [0, 22, 23, 24, 38, 39, 40, 41, 42, 43, 44, 45, 46, 47, 48, 49] (by kernel_rfl)) ?_
  refine opsP_end rfl ?_
  exact ⟨false, h, (Imp.to (st' := ⟨51, [(0, A a0), (22, A a1), (23, I ((a1.length : Int))), (24, I x3), (49, B false)], [some ⟨0, Enc.cells v7⟩]⟩) [0, 22, 23, 24, 49] (by kernel_rfl)).trans (Imp.to [0, 22, 23, 24, 49] (by kernel_rfl))⟩
  rintro x9 h
  unfold impl_RowFits_j2 at h
  refine pc h (fun h => ?_) (fun h => ?_)
  refine srveM [6] 51 [(4, B false)] [some ⟨0, Enc.cells v7⟩] ?_
  cases h
  exact pwp_ret rz
  refine pwp_skip ?_
  refine rveM [6] 51 [(0, A a0), (22, A a1), (23, I ((a1.length : Int))), (24, I ((w64 (x3 + 1))))] [some ⟨0, Enc.cells v7⟩] ?_
  exact ⟨(f4, (w64 (x3 + 1))), h, Nat.lt_succ_self _, (Imp.to (st' := ⟨51, [(0, A a0), (22, A a1), (23, I ((a1.length : Int))), (24, I ((w64 (x3 + 1))))], [some ⟨0, Enc.cells v7⟩]⟩) [0, 22, 23, 24] (by kernel_rfl)).trans ((Imp.truncS (st' := ⟨51, [(0, A a0), (22, A a1), (23, I ((a1.length : Int))), (24, I ((w64 (x3 + 1))))], []⟩) 0 (fun b hb => absurd hb (hX b)) (by kernel_rfl) (allBelow_mem (by exact (And.intro rfl (And.intro rfl (And.intro rfl (And.intro rfl trivial)))))) (by exact trivial) (by kernel_rfl)).trans (Imp.to [0, 22, 23, 24] (by kernel_rfl)))⟩
  refine pwp_exit ?_
  refine srveM [6] 51 [(4, B true)] [] ?_
  cases h
  exact pwp_ret rz
def spec_l4Do (a0 : List T_impl_Value) (a1 : List T_impl_Value) (a2 : T_impl_Part) : Option (List T_impl_Value) := bif (a2.fKind == 1) then (app a1 (([a2.fV] : List T_impl_Value))).bind fun v2 => some v2 else bif (a2.fKind == 2) then (getI a0 a2.fN).bind fun v5 => (app a1 (([v5] : List T_impl_Value))).bind fun v7 => some v7 else bif (a2.fKind == 3) then (slI a1 none (some ((w64 (((a1.length : Int)) - 2)))) none).bind fun v10 => (getI a1 ((w64 (((a1.length : Int)) - 2)))).bind fun v12 => (getI a1 ((w64 (((a1.length : Int)) - 1)))).bind fun v14 => (spec_l4Sum v12 v14).bind fun v16 => (appT a1 (([v16] : List T_impl_Value)) v10.length).bind fun v18 => some v18 else bif (a2.fKind == 4) then (slI a1 none (some ((w64 (((a1.length : Int)) - 2)))) none).bind fun v21 => (getI a1 ((w64 (((a1.length : Int)) - 2)))).bind fun v23 => (getI a1 ((w64 (((a1.length : Int)) - 1)))).bind fun v25 => (spec_Compare a2.fN v23 v25).bind fun v27 => (spec_ValueOf v27).bind fun v29 => (appT a1 (([v29] : List T_impl_Value)) v21.length).bind fun v31 => some v31 else bif (a2.fKind == 5) then (slI a1 none (some ((w64 (((a1.length : Int)) - 2)))) none).bind fun v34 => (getI a1 ((w64 (((a1.length : Int)) - 2)))).bind fun v36 => (spec_TruthOf v36).bind fun v38 => (getI a1 ((w64 (((a1.length : Int)) - 1)))).bind fun v40 => (spec_TruthOf v40).bind fun v42 => (spec_AndOf v38 v42).bind fun v44 => (spec_ValueOf v44).bind fun v46 => (appT a1 (([v46] : List T_impl_Value)) v34.length).bind fun v48 => some v48 else bif (a2.fKind == 6) then (slI a1 none (some ((w64 (((a1.length : Int)) - 2)))) none).bind fun v51 => (getI a1 ((w64 (((a1.length : Int)) - 2)))).bind fun v53 => (spec_TruthOf v53).bind fun v55 => (getI a1 ((w64 (((a1.length : Int)) - 1)))).bind fun v57 => (spec_TruthOf v57).bind fun v59 => (spec_OrOf v55 v59).bind fun v61 => (spec_ValueOf v61).bind fun v63 => (appT a1 (([v63] : List T_impl_Value)) v51.length).bind fun v65 => some v65 else bif (a2.fKind == 7) then (slI a1 none (some ((w64 (((a1.length : Int)) - 1)))) none).bind fun v68 => (getI a1 ((w64 (((a1.length : Int)) - 1)))).bind fun v70 => (spec_TruthOf v70).bind fun v72 => (spec_NotOf v72).bind fun v74 => (spec_ValueOf v74).bind fun v76 => (appT a1 (([v76] : List T_impl_Value)) v68.length).bind fun v78 => some v78 else (slI a1 none (some ((w64 (((a1.length : Int)) - 1)))) none).bind fun v80 => (getI a1 ((w64 (((a1.length : Int)) - 1)))).bind fun v82 => (spec_l2Bool ((v82.fKind == 0))).bind fun v84 => (spec_ValueOf v84).bind fun v86 => (appT a1 (([v86] : List T_impl_Value)) v80.length).bind fun v88 => some v88
theorem ok_spec_l4Do {a0 : List T_impl_Value} {a1 : List T_impl_Value} {a2 : T_impl_Part} {y : List T_impl_Value} (h : spec_l4Do a0 a1 a2 = some y) : OKm Tryz.prog 123 [A a0, O a1, E a2] (O y) := by
  refine OKm_of_pwp (sl := [A a0, .ref 0 0 0 3 a1.length false, E a2]) (bs := [⟨0, eL a1⟩]) τ_ok Tryz.func123 rfl (by kernel_rfl) rfl (by kernel_rfl) fun Γ hX => ?_
  refine pwp_imp (Imp.to (st' := ⟨145, [(0, A a0), (1, .ref 0 0 0 3 a1.length false), (2, E a2)], [some ⟨0, eL a1⟩]⟩) [0, 1, 2] (by kernel_rfl)) ?_
  unfold spec_l4Do at h
  refine srve 145 [(0, A a0), (1, .ref 0 0 0 3 a1.length false), (5, .fptr (Enc.cells a2) 0)] [some ⟨0, eL a1⟩] ?_
  refine srve 145 [(0, A a0), (1, .ref 0 0 0 3 a1.length false), (5, .fptr (Enc.cells a2) 0), (7, I ((a1.length : Int)))] [some ⟨0, eL a1⟩] ?_
  refine pwp_seq ?_
  refine srve 145 [(0, A a0), (1, .ref 0 0 0 3 a1.length false), (5, .fptr (Enc.cells a2) 0), (7, I ((a1.length : Int))), (11, I a2.fKind)] [some ⟨0, eL a1⟩] ?_
  refine pwp_block ?_
  refine srve 145 [(0, A a0), (1, .ref 0 0 0 3 a1.length false), (5, .fptr (Enc.cells a2) 0), (7, I ((a1.length : Int))), (11, I a2.fKind), (12, B ((a2.fKind == 1)))] [some ⟨0, eL a1⟩] ?_
  refine pc h (fun h => ?_) (fun h => ?_)
  refine srv 4 145 [(14, .ref 0 0 0 3 a1.length false), (17, .arr 3 (([a2.fV] : List T_impl_Value)).length (eL ([a2.fV] : List T_impl_Value)) true)] [some ⟨0, eL a1⟩] ?_
  obtain ⟨v2, hv3, h⟩ := bindS h
  refine opsP_app τ_ok 18 0 0 (fun b hb => absurd hb (hX b)) hv3 (by kernel_rfl) ?_
  refine ve 1 145 [(6, .ref 0 1 0 3 v2.length false)] [some ⟨1, eL v2⟩] ?_
  have h := si h
  subst h
  exact pwp_ret (rt (.ref 0 1 0 3 v2.length false) (OutP.list (v := 1) (by kernel_rfl)))
  refine srve 145 [(0, A a0), (1, .ref 0 0 0 3 a1.length false), (5, .fptr (Enc.cells a2) 0), (7, I ((a1.length : Int))), (11, I a2.fKind), (19, B ((a2.fKind == 2)))] [some ⟨0, eL a1⟩] ?_
  refine pc h (fun h => ?_) (fun h => ?_)
  refine srv 4 145 [(21, .ref 0 0 0 3 a1.length false), (22, A a0), (24, I a2.fN)] [some ⟨0, eL a1⟩] ?_
  obtain ⟨v5, hv6, h⟩ := bindS h
  refine opsP_idx τ_ok 25 hv6 (by kernel_rfl) ?_
  refine v 2 145 [(21, .ref 0 0 0 3 a1.length false), (27, .arr 3 (([v5] : List T_impl_Value)).length (eL ([v5] : List T_impl_Value)) true)] [some ⟨0, eL a1⟩] ?_
  obtain ⟨v7, hv8, h⟩ := bindS h
  refine opsP_app τ_ok 28 0 0 (fun b hb => absurd hb (hX b)) hv8 (by kernel_rfl) ?_
  refine ve 1 145 [(6, .ref 0 1 0 3 v7.length false)] [some ⟨1, eL v7⟩] ?_
  have h := si h
  subst h
  exact pwp_ret (rt (.ref 0 1 0 3 v7.length false) (OutP.list (v := 1) (by kernel_rfl)))
  refine srve 145 [(1, .ref 0 0 0 3 a1.length false), (5, .fptr (Enc.cells a2) 0), (7, I ((a1.length : Int))), (11, I a2.fKind), (29, B ((a2.fKind == 3)))] [some ⟨0, eL a1⟩] ?_
  refine pc h (fun h => ?_) (fun h => ?_)
  refine pwp_seq ?_
  refine pwp_imp (Imp.to (st' := ⟨145, [(1, .ref 0 0 0 3 a1.length false), (7, I ((a1.length : Int)))], [some ⟨0, eL a1⟩]⟩) [1, 7] (by kernel_rfl)) ?_
  refine pwp_any ([[0], [], [], [0], [0], [], [], [0], [0], [0], [], [], [0], [0], [], [], [0], [0]]) ([[], [], [], [], [], [], [], [], [], [], [], [], [], [], [], [], [0], []]) rfl (by kernel_rfl) ?_
  refine qA_ev (st' := ⟨145, [(31, .ref 0 0 0 3 a1.length false), (1, .ref 0 0 0 3 a1.length false), (7, I ((a1.length : Int)))], [some ⟨0, eL a1⟩]⟩) τ_ok [] [0] 1 (by exact (And.intro (.inl (eL_frz _)) trivial)) (by kernel_rfl) ?_
  refine qA_ev (st' := ⟨145, [(33, I ((w64 (((a1.length : Int)) - 2)))), (32, I ((a1.length : Int))), (31, .ref 0 0 0 3 a1.length false), (1, .ref 0 0 0 3 a1.length false), (7, I ((a1.length : Int)))], [some ⟨0, eL a1⟩]⟩) τ_ok [] [] 2 (by exact trivial) (by kernel_rfl) ?_
  obtain ⟨v10, hv11, h⟩ := bindS h
  refine qA_E (dd := some 34) (x := .ref 0 0 0 3 v10.length false) ([some ⟨0, eL a1⟩]) (⟨145, [(34, .ref 0 0 0 3 v10.length false), (33, I ((w64 (((a1.length : Int)) - 2)))), (32, I ((a1.length : Int))), (31, .ref 0 0 0 3 a1.length false), (1, .ref 0 0 0 3 a1.length false), (7, I ((a1.length : Int)))], [some ⟨0, eL a1⟩]⟩) (fun Γ' hΓ => CoreE.of_y (slrV_sound (n := a1.length) τ_ok (by kernel_rfl) rfl hv11)) (by kernel_rfl) (by kernel_rfl) (by exact (And.intro (.inl (eL_frz _)) trivial)) (.inr (.inl rfl)) (by kernel_rfl) ?_
  refine qA_ev (st' := ⟨145, [(35, .ref 0 0 0 3 a1.length false), (34, .ref 0 0 0 3 v10.length false), (33, I ((w64 (((a1.length : Int)) - 2)))), (32, I ((a1.length : Int))), (31, .ref 0 0 0 3 a1.length false), (1, .ref 0 0 0 3 a1.length false), (7, I ((a1.length : Int)))], [some ⟨0, eL a1⟩]⟩) τ_ok [] [0] 1 (by exact (And.intro (.inl (eL_frz _)) trivial)) (by kernel_rfl) ?_
  refine qA_ev (st' := ⟨145, [(37, I ((w64 (((a1.length : Int)) - 2)))), (36, I ((a1.length : Int))), (35, .ref 0 0 0 3 a1.length false), (34, .ref 0 0 0 3 v10.length false), (33, I ((w64 (((a1.length : Int)) - 2)))), (32, I ((a1.length : Int))), (31, .ref 0 0 0 3 a1.length false), (1, .ref 0 0 0 3 a1.length false), (7, I ((a1.length : Int)))], [some ⟨0, eL a1⟩]⟩) τ_ok [] [] 2 (by exact trivial) (by kernel_rfl) ?_
  obtain ⟨v12, hv13, h⟩ := bindS h
  refine qA_E (dd := some 38) (x := .ptr 0 0 (((w64 (((a1.length : Int)) - 2))).toNat * 3)) ([some ⟨0, eL a1⟩]) (⟨145, [(38, .ptr 0 0 (((w64 (((a1.length : Int)) - 2))).toNat * 3)), (37, I ((w64 (((a1.length : Int)) - 2)))), (36, I ((a1.length : Int))), (35, .ref 0 0 0 3 a1.length false), (34, .ref 0 0 0 3 v10.length false), (33, I ((w64 (((a1.length : Int)) - 2)))), (32, I ((a1.length : Int))), (31, .ref 0 0 0 3 a1.length false), (1, .ref 0 0 0 3 a1.length false), (7, I ((a1.length : Int)))], [some ⟨0, eL a1⟩]⟩) (fun Γ' hΓ => CoreE.of_y (idrV_sound (n := a1.length) τ_ok (by kernel_rfl) hv13 rfl)) (by kernel_rfl) (by kernel_rfl) (by exact (And.intro (.inl (eL_frz _)) trivial)) (.inr (.inl rfl)) (by kernel_rfl) ?_
  refine qA_E (dd := some 39) (x := E v12) ([some ⟨0, eL a1⟩]) (⟨145, [(39, E v12), (38, .ptr 0 0 (((w64 (((a1.length : Int)) - 2))).toNat * 3)), (37, I ((w64 (((a1.length : Int)) - 2)))), (36, I ((a1.length : Int))), (35, .ref 0 0 0 3 a1.length false), (34, .ref 0 0 0 3 v10.length false), (33, I ((w64 (((a1.length : Int)) - 2)))), (32, I ((a1.length : Int))), (31, .ref 0 0 0 3 a1.length false), (1, .ref 0 0 0 3 a1.length false), (7, I ((a1.length : Int)))], [some ⟨0, eL a1⟩]⟩) (fun Γ' hΓ => CoreE.of_y (ldeV_sound (t := 117) (o' := 0) (r := E v12) τ_ok hv13 (by kernel_rfl) (by kernel_rfl))) (by kernel_rfl) (by kernel_rfl) (by exact (And.intro (.inl (eL_frz _)) trivial)) (.inr (.inr rfl)) (by kernel_rfl) ?_
  refine qA_ev (st' := ⟨145, [(40, .ref 0 0 0 3 a1.length false), (39, E v12), (38, .ptr 0 0 (((w64 (((a1.length : Int)) - 2))).toNat * 3)), (37, I ((w64 (((a1.length : Int)) - 2)))), (36, I ((a1.length : Int))), (35, .ref 0 0 0 3 a1.length false), (34, .ref 0 0 0 3 v10.length false), (33, I ((w64 (((a1.length : Int)) - 2)))), (32, I ((a1.length : Int))), (31, .ref 0 0 0 3 a1.length false), (1, .ref 0 0 0 3 a1.length false), (7, I ((a1.length : Int)))], [some ⟨0, eL a1⟩]⟩) τ_ok [] [0] 1 (by exact (And.intro (.inl (eL_frz _)) trivial)) (by kernel_rfl) ?_
  refine qA_ev (st' := ⟨145, [(42, I ((w64 (((a1.length : Int)) - 1)))), (41, I ((a1.length : Int))), (40, .ref 0 0 0 3 a1.length false), (39, E v12), (38, .ptr 0 0 (((w64 (((a1.length : Int)) - 2))).toNat * 3)), (37, I ((w64 (((a1.length : Int)) - 2)))), (36, I ((a1.length : Int))), (35, .ref 0 0 0 3 a1.length false), (34, .ref 0 0 0 3 v10.length false), (33, I ((w64 (((a1.length : Int)) - 2)))), (32, I ((a1.length : Int))), (31, .ref 0 0 0 3 a1.length false), (1, .ref 0 0 0 3 a1.length false), (7, I ((a1.length : Int)))], [some ⟨0, eL a1⟩]⟩) τ_ok [] [] 2 (by exact trivial) (by kernel_rfl) ?_
  obtain ⟨v14, hv15, h⟩ := bindS h
  refine qA_E (dd := some 43) (x := .ptr 0 0 (((w64 (((a1.length : Int)) - 1))).toNat * 3)) ([some ⟨0, eL a1⟩]) (⟨145, [(43, .ptr 0 0 (((w64 (((a1.length : Int)) - 1))).toNat * 3)), (42, I ((w64 (((a1.length : Int)) - 1)))), (41, I ((a1.length : Int))), (40, .ref 0 0 0 3 a1.length false), (39, E v12), (38, .ptr 0 0 (((w64 (((a1.length : Int)) - 2))).toNat * 3)), (37, I ((w64 (((a1.length : Int)) - 2)))), (36, I ((a1.length : Int))), (35, .ref 0 0 0 3 a1.length false), (34, .ref 0 0 0 3 v10.length false), (33, I ((w64 (((a1.length : Int)) - 2)))), (32, I ((a1.length : Int))), (31, .ref 0 0 0 3 a1.length false), (1, .ref 0 0 0 3 a1.length false), (7, I ((a1.length : Int)))], [some ⟨0, eL a1⟩]⟩) (fun Γ' hΓ => CoreE.of_y (idrV_sound (n := a1.length) τ_ok (by kernel_rfl) hv15 rfl)) (by kernel_rfl) (by kernel_rfl) (by exact (And.intro (.inl (eL_frz _)) trivial)) (.inr (.inl rfl)) (by kernel_rfl) ?_
  refine qA_E (dd := some 44) (x := E v14) ([some ⟨0, eL a1⟩]) (⟨145, [(44, E v14), (43, .ptr 0 0 (((w64 (((a1.length : Int)) - 1))).toNat * 3)), (42, I ((w64 (((a1.length : Int)) - 1)))), (41, I ((a1.length : Int))), (40, .ref 0 0 0 3 a1.length false), (39, E v12), (38, .ptr 0 0 (((w64 (((a1.length : Int)) - 2))).toNat * 3)), (37, I ((w64 (((a1.length : Int)) - 2)))), (36, I ((a1.length : Int))), (35, .ref 0 0 0 3 a1.length false), (34, .ref 0 0 0 3 v10.length false), (33, I ((w64 (((a1.length : Int)) - 2)))), (32, I ((a1.length : Int))), (31, .ref 0 0 0 3 a1.length false), (1, .ref 0 0 0 3 a1.length false), (7, I ((a1.length : Int)))], [some ⟨0, eL a1⟩]⟩) (fun Γ' hΓ => CoreE.of_y (ldeV_sound (t := 117) (o' := 0) (r := E v14) τ_ok hv15 (by kernel_rfl) (by kernel_rfl))) (by kernel_rfl) (by kernel_rfl) (by exact (And.intro (.inl (eL_frz _)) trivial)) (.inr (.inr rfl)) (by kernel_rfl) ?_
  obtain ⟨v16, hv17, h⟩ := bindS h
  refine qA_E (dd := some 45) (x := E v16) ([none]) (⟨145, [(45, E v16), (44, E v14), (43, .ptr 0 0 (((w64 (((a1.length : Int)) - 1))).toNat * 3)), (42, I ((w64 (((a1.length : Int)) - 1)))), (41, I ((a1.length : Int))), (40, .ref 0 0 0 3 a1.length false), (39, E v12), (38, .ptr 0 0 (((w64 (((a1.length : Int)) - 2))).toNat * 3)), (37, I ((w64 (((a1.length : Int)) - 2)))), (36, I ((a1.length : Int))), (35, .ref 0 0 0 3 a1.length false), (34, .ref 0 0 0 3 v10.length false), (33, I ((w64 (((a1.length : Int)) - 2)))), (32, I ((a1.length : Int))), (31, .ref 0 0 0 3 a1.length false), (1, .ref 0 0 0 3 a1.length false), (7, I ((a1.length : Int)))], [some ⟨0, eL a1⟩]⟩) (fun Γ' hΓ => CoreE.of_g (callV_sound (τ := τ) (by kernel_rfl) rfl (ok_spec_l4Sum hv17) (FzTo.frz rfl))) (by kernel_rfl) (by kernel_rfl) (by exact trivial) (.inr (.inr rfl)) (by kernel_rfl) ?_
  refine qA_ev (st' := ⟨145, [(46, .arr 3 (([v16] : List T_impl_Value)).length (eL ([v16] : List T_impl_Value)) true), (45, E v16), (44, E v14), (43, .ptr 0 0 (((w64 (((a1.length : Int)) - 1))).toNat * 3)), (42, I ((w64 (((a1.length : Int)) - 1)))), (41, I ((a1.length : Int))), (40, .ref 0 0 0 3 a1.length false), (39, E v12), (38, .ptr 0 0 (((w64 (((a1.length : Int)) - 2))).toNat * 3)), (37, I ((w64 (((a1.length : Int)) - 2)))), (36, I ((a1.length : Int))), (35, .ref 0 0 0 3 a1.length false), (34, .ref 0 0 0 3 v10.length false), (33, I ((w64 (((a1.length : Int)) - 2)))), (32, I ((a1.length : Int))), (31, .ref 0 0 0 3 a1.length false), (1, .ref 0 0 0 3 a1.length false), (7, I ((a1.length : Int)))], [some ⟨0, eL a1⟩]⟩) τ_ok [] [] 1 (by exact trivial) (by kernel_rfl) ?_
  obtain ⟨v18, hv19, h⟩ := bindS h
  refine qA_E (dd := some 47) (x := .ref 0 1 0 3 v18.length false) ([some ⟨1, eL v18⟩]) (⟨145, [(47, .ref 0 1 0 3 v18.length false), (46, .arr 3 (([v16] : List T_impl_Value)).length (eL ([v16] : List T_impl_Value)) true), (45, E v16), (44, E v14), (43, .ptr 0 0 (((w64 (((a1.length : Int)) - 1))).toNat * 3)), (42, I ((w64 (((a1.length : Int)) - 1)))), (41, I ((a1.length : Int))), (40, .ref 0 0 0 3 a1.length false), (39, E v12), (38, .ptr 0 0 (((w64 (((a1.length : Int)) - 2))).toNat * 3)), (37, I ((w64 (((a1.length : Int)) - 2)))), (36, I ((a1.length : Int))), (35, .ref 0 0 0 3 a1.length false), (34, .ref 0 0 0 3 v10.length false), (33, I ((w64 (((a1.length : Int)) - 2)))), (32, I ((a1.length : Int))), (31, .ref 0 0 0 3 a1.length false), (1, .ref 0 0 0 3 a1.length false), (7, I ((a1.length : Int)))], [some ⟨1, eL v18⟩]⟩) (fun Γ' hΓ => app_E τ_ok 47 0 0 v10.length (fun b hb => absurd (hΓ b hb) (hX b)) hv19 (slI_le hv11) (by kernel_rfl)) (by kernel_rfl) (by kernel_rfl) (by exact (And.intro (.inl (eL_frz _)) trivial)) (.inr (.inl rfl)) (by kernel_rfl) ?_
  refine qA_ev (st' := ⟨145, [(6, .ref 0 1 0 3 v18.length false), (47, .ref 0 1 0 3 v18.length false), (46, .arr 3 (([v16] : List T_impl_Value)).length (eL ([v16] : List T_impl_Value)) true), (45, E v16), (44, E v14), (43, .ptr 0 0 (((w64 (((a1.length : Int)) - 1))).toNat * 3)), (42, I ((w64 (((a1.length : Int)) - 1)))), (41, I ((a1.length : Int))), (40, .ref 0 0 0 3 a1.length false), (39, E v12), (38, .ptr 0 0 (((w64 (((a1.length : Int)) - 2))).toNat * 3)), (37, I ((w64 (((a1.length : Int)) - 2)))), (36, I ((a1.length : Int))), (35, .ref 0 0 0 3 a1.length false), (34, .ref 0 0 0 3 v10.length false), (33, I ((w64 (((a1.length : Int)) - 2)))), (32, I ((a1.length : Int))), (31, .ref 0 0 0 3 a1.length false), (1, .ref 0 0 0 3 a1.length false), (7, I ((a1.length : Int)))], [some ⟨1, eL v18⟩]⟩) τ_ok [] [0] 1 (by exact (And.intro (.inl (eL_frz _)) trivial)) (by kernel_rfl) ?_
  refine qA_end ?_
  refine opsP_imp (Imp.to (st' := ⟨145, [(6, .ref 0 1 0 3 v18.length false)], [some ⟨1, eL v18⟩]⟩) [6] (by kernel_rfl)) ?_
  refine opsP_end rfl ?_
  have h := si h
  subst h
  exact pwp_ret (rt (.ref 0 1 0 3 v18.length false) (OutP.list (v := 1) (by kernel_rfl)))
  refine srve 145 [(1, .ref 0 0 0 3 a1.length false), (5, .fptr (Enc.cells a2) 0), (7, I ((a1.length : Int))), (11, I a2.fKind), (48, B ((a2.fKind == 4)))] [some ⟨0, eL a1⟩] ?_
  refine pc h (fun h => ?_) (fun h => ?_)
  refine pwp_seq ?_
  refine pwp_imp (Imp.to (st' := ⟨145, [(1, .ref 0 0 0 3 a1.length false), (5, .fptr (Enc.cells a2) 0), (7, I ((a1.length : Int)))], [some ⟨0, eL a1⟩]⟩) [1, 5, 7] (by kernel_rfl)) ?_
  refine pwp_any ([[0], [], [], [0], [], [], [0], [], [], [0], [0], [0], [], [], [0], [0], [], [], [], [0], [0]]) ([[], [], [], [], [], [], [], [], [], [], [], [], [], [], [], [], [], [], [], [0], []]) rfl (by kernel_rfl) ?_
  refine qA_ev (st' := ⟨145, [(50, .ref 0 0 0 3 a1.length false), (1, .ref 0 0 0 3 a1.length false), (5, .fptr (Enc.cells a2) 0), (7, I ((a1.length : Int)))], [some ⟨0, eL a1⟩]⟩) τ_ok [] [0] 1 (by exact (And.intro (.inl (eL_frz _)) trivial)) (by kernel_rfl) ?_
  refine qA_ev (st' := ⟨145, [(52, I ((w64 (((a1.length : Int)) - 2)))), (51, I ((a1.length : Int))), (50, .ref 0 0 0 3 a1.length false), (1, .ref 0 0 0 3 a1.length false), (5, .fptr (Enc.cells a2) 0), (7, I ((a1.length : Int)))], [some ⟨0, eL a1⟩]⟩) τ_ok [] [] 2 (by exact trivial) (by kernel_rfl) ?_
  obtain ⟨v21, hv22, h⟩ := bindS h
  refine qA_E (dd := some 53) (x := .ref 0 0 0 3 v21.length false) ([some ⟨0, eL a1⟩]) (⟨145, [(53, .ref 0 0 0 3 v21.length false), (52, I ((w64 (((a1.length : Int)) - 2)))), (51, I ((a1.length : Int))), (50, .ref 0 0 0 3 a1.length false), (1, .ref 0 0 0 3 a1.length false), (5, .fptr (Enc.cells a2) 0), (7, I ((a1.length : Int)))], [some ⟨0, eL a1⟩]⟩) (fun Γ' hΓ => CoreE.of_y (slrV_sound (n := a1.length) τ_ok (by kernel_rfl) rfl hv22)) (by kernel_rfl) (by kernel_rfl) (by exact (And.intro (.inl (eL_frz _)) trivial)) (.inr (.inl rfl)) (by kernel_rfl) ?_
  refine qA_ev (st' := ⟨145, [(55, I a2.fN), (54, .fptr (Enc.cells a2) 1), (53, .ref 0 0 0 3 v21.length false), (52, I ((w64 (((a1.length : Int)) - 2)))), (51, I ((a1.length : Int))), (50, .ref 0 0 0 3 a1.length false), (1, .ref 0 0 0 3 a1.length false), (5, .fptr (Enc.cells a2) 0), (7, I ((a1.length : Int)))], [some ⟨0, eL a1⟩]⟩) τ_ok [] [] 2 (by exact trivial) (by kernel_rfl) ?_
  refine qA_ev (st' := ⟨145, [(56, .ref 0 0 0 3 a1.length false), (55, I a2.fN), (54, .fptr (Enc.cells a2) 1), (53, .ref 0 0 0 3 v21.length false), (52, I ((w64 (((a1.length : Int)) - 2)))), (51, I ((a1.length : Int))), (50, .ref 0 0 0 3 a1.length false), (1, .ref 0 0 0 3 a1.length false), (5, .fptr (Enc.cells a2) 0), (7, I ((a1.length : Int)))], [some ⟨0, eL a1⟩]⟩) τ_ok [] [0] 1 (by exact (And.intro (.inl (eL_frz _)) trivial)) (by kernel_rfl) ?_
  refine qA_ev (st' := ⟨145, [(58, I ((w64 (((a1.length : Int)) - 2)))), (57, I ((a1.length : Int))), (56, .ref 0 0 0 3 a1.length false), (55, I a2.fN), (54, .fptr (Enc.cells a2) 1), (53, .ref 0 0 0 3 v21.length false), (52, I ((w64 (((a1.length : Int)) - 2)))), (51, I ((a1.length : Int))), (50, .ref 0 0 0 3 a1.length false), (1, .ref 0 0 0 3 a1.length false), (5, .fptr (Enc.cells a2) 0), (7, I ((a1.length : Int)))], [some ⟨0, eL a1⟩]⟩) τ_ok [] [] 2 (by exact trivial) (by kernel_rfl) ?_
  obtain ⟨v23, hv24, h⟩ := bindS h
  refine qA_E (dd := some 59) (x := .ptr 0 0 (((w64 (((a1.length : Int)) - 2))).toNat * 3)) ([some ⟨0, eL a1⟩]) (⟨145, [(59, .ptr 0 0 (((w64 (((a1.length : Int)) - 2))).toNat * 3)), (58, I ((w64 (((a1.length : Int)) - 2)))), (57, I ((a1.length : Int))), (56, .ref 0 0 0 3 a1.length false), (55, I a2.fN), (54, .fptr (Enc.cells a2) 1), (53, .ref 0 0 0 3 v21.length false), (52, I ((w64 (((a1.length : Int)) - 2)))), (51, I ((a1.length : Int))), (50, .ref 0 0 0 3 a1.length false), (1, .ref 0 0 0 3 a1.length false), (5, .fptr (Enc.cells a2) 0), (7, I ((a1.length : Int)))], [some ⟨0, eL a1⟩]⟩) (fun Γ' hΓ => CoreE.of_y (idrV_sound (n := a1.length) τ_ok (by kernel_rfl) hv24 rfl)) (by kernel_rfl) (by kernel_rfl) (by exact (And.intro (.inl (eL_frz _)) trivial)) (.inr (.inl rfl)) (by kernel_rfl) ?_
  refine qA_E (dd := some 60) (x := E v23) ([some ⟨0, eL a1⟩]) (⟨145, [(60, E v23), (59, .ptr 0 0 (((w64 (((a1.length : Int)) - 2))).toNat * 3)), (58, I ((w64 (((a1.length : Int)) - 2)))), (57, I ((a1.length : Int))), (56, .ref 0 0 0 3 a1.length false), (55, I a2.fN), (54, .fptr (Enc.cells a2) 1), (53, .ref 0 0 0 3 v21.length false), (52, I ((w64 (((a1.length : Int)) - 2)))), (51, I ((a1.length : Int))), (50, .ref 0 0 0 3 a1.length false), (1, .ref 0 0 0 3 a1.length false), (5, .fptr (Enc.cells a2) 0), (7, I ((a1.length : Int)))], [some ⟨0, eL a1⟩]⟩) (fun Γ' hΓ => CoreE.of_y (ldeV_sound (t := 117) (o' := 0) (r := E v23) τ_ok hv24 (by kernel_rfl) (by kernel_rfl))) (by kernel_rfl) (by kernel_rfl) (by exact (And.intro (.inl (eL_frz _)) trivial)) (.inr (.inr rfl)) (by kernel_rfl) ?_
  refine qA_ev (st' := ⟨145, [(61, .ref 0 0 0 3 a1.length false), (60, E v23), (59, .ptr 0 0 (((w64 (((a1.length : Int)) - 2))).toNat * 3)), (58, I ((w64 (((a1.length : Int)) - 2)))), (57, I ((a1.length : Int))), (56, .ref 0 0 0 3 a1.length false), (55, I a2.fN), (54, .fptr (Enc.cells a2) 1), (53, .ref 0 0 0 3 v21.length false), (52, I ((w64 (((a1.length : Int)) - 2)))), (51, I ((a1.length : Int))), (50, .ref 0 0 0 3 a1.length false), (1, .ref 0 0 0 3 a1.length false), (5, .fptr (Enc.cells a2) 0), (7, I ((a1.length : Int)))], [some ⟨0, eL a1⟩]⟩) τ_ok [] [0] 1 (by exact (And.intro (.inl (eL_frz _)) trivial)) (by kernel_rfl) ?_
  refine qA_ev (st' := ⟨145, [(63, I ((w64 (((a1.length : Int)) - 1)))), (62, I ((a1.length : Int))), (61, .ref 0 0 0 3 a1.length false), (60, E v23), (59, .ptr 0 0 (((w64 (((a1.length : Int)) - 2))).toNat * 3)), (58, I ((w64 (((a1.length : Int)) - 2)))), (57, I ((a1.length : Int))), (56, .ref 0 0 0 3 a1.length false), (55, I a2.fN), (54, .fptr (Enc.cells a2) 1), (53, .ref 0 0 0 3 v21.length false), (52, I ((w64 (((a1.length : Int)) - 2)))), (51, I ((a1.length : Int))), (50, .ref 0 0 0 3 a1.length false), (1, .ref 0 0 0 3 a1.length false), (5, .fptr (Enc.cells a2) 0), (7, I ((a1.length : Int)))], [some ⟨0, eL a1⟩]⟩) τ_ok [] [] 2 (by exact trivial) (by kernel_rfl) ?_
  obtain ⟨v25, hv26, h⟩ := bindS h
  refine qA_E (dd := some 64) (x := .ptr 0 0 (((w64 (((a1.length : Int)) - 1))).toNat * 3)) ([some ⟨0, eL a1⟩]) (⟨145, [(64, .ptr 0 0 (((w64 (((a1.length : Int)) - 1))).toNat * 3)), (63, I ((w64 (((a1.length : Int)) - 1)))), (62, I ((a1.length : Int))), (61, .ref 0 0 0 3 a1.length false), (60, E v23), (59, .ptr 0 0 (((w64 (((a1.length : Int)) - 2))).toNat * 3)), (58, I ((w64 (((a1.length : Int)) - 2)))), (57, I ((a1.length : Int))), (56, .ref 0 0 0 3 a1.length false), (55, I a2.fN), (54, .fptr (Enc.cells a2) 1), (53, .ref 0 0 0 3 v21.length false), (52, I ((w64 (((a1.length : Int)) - 2)))), (51, I ((a1.length : Int))), (50, .ref 0 0 0 3 a1.length false), (1, .ref 0 0 0 3 a1.length false), (5, .fptr (Enc.cells a2) 0), (7, I ((a1.length : Int)))], [some ⟨0, eL a1⟩]⟩) (fun Γ' hΓ => CoreE.of_y (idrV_sound (n := a1.length) τ_ok (by kernel_rfl) hv26 rfl)) (by kernel_rfl) (by kernel_rfl) (by exact (And.intro (.inl (eL_frz _)) trivial)) (.inr (.inl rfl)) (by kernel_rfl) ?_
  refine qA_E (dd := some 65) (x := E v25) ([some ⟨0, eL a1⟩]) (⟨145, [(65, E v25), (64, .ptr 0 0 (((w64 (((a1.length : Int)) - 1))).toNat * 3)), (63, I ((w64 (((a1.length : Int)) - 1)))), (62, I ((a1.length : Int))), (61, .ref 0 0 0 3 a1.length false), (60, E v23), (59, .ptr 0 0 (((w64 (((a1.length : Int)) - 2))).toNat * 3)), (58, I ((w64 (((a1.length : Int)) - 2)))), (57, I ((a1.length : Int))), (56, .ref 0 0 0 3 a1.length false), (55, I a2.fN), (54, .fptr (Enc.cells a2) 1), (53, .ref 0 0 0 3 v21.length false), (52, I ((w64 (((a1.length : Int)) - 2)))), (51, I ((a1.length : Int))), (50, .ref 0 0 0 3 a1.length false), (1, .ref 0 0 0 3 a1.length false), (5, .fptr (Enc.cells a2) 0), (7, I ((a1.length : Int)))], [some ⟨0, eL a1⟩]⟩) (fun Γ' hΓ => CoreE.of_y (ldeV_sound (t := 117) (o' := 0) (r := E v25) τ_ok hv26 (by kernel_rfl) (by kernel_rfl))) (by kernel_rfl) (by kernel_rfl) (by exact (And.intro (.inl (eL_frz _)) trivial)) (.inr (.inr rfl)) (by kernel_rfl) ?_
  obtain ⟨v27, hv28, h⟩ := bindS h
  refine qA_E (dd := some 66) (x := I v27) ([none]) (⟨145, [(66, I v27), (65, E v25), (64, .ptr 0 0 (((w64 (((a1.length : Int)) - 1))).toNat * 3)), (63, I ((w64 (((a1.length : Int)) - 1)))), (62, I ((a1.length : Int))), (61, .ref 0 0 0 3 a1.length false), (60, E v23), (59, .ptr 0 0 (((w64 (((a1.length : Int)) - 2))).toNat * 3)), (58, I ((w64 (((a1.length : Int)) - 2)))), (57, I ((a1.length : Int))), (56, .ref 0 0 0 3 a1.length false), (55, I a2.fN), (54, .fptr (Enc.cells a2) 1), (53, .ref 0 0 0 3 v21.length false), (52, I ((w64 (((a1.length : Int)) - 2)))), (51, I ((a1.length : Int))), (50, .ref 0 0 0 3 a1.length false), (1, .ref 0 0 0 3 a1.length false), (5, .fptr (Enc.cells a2) 0), (7, I ((a1.length : Int)))], [some ⟨0, eL a1⟩]⟩) (fun Γ' hΓ => CoreE.of_g (callV_sound (τ := τ) (by kernel_rfl) rfl (ok_spec_Compare hv28) (FzTo.frz rfl))) (by kernel_rfl) (by kernel_rfl) (by exact trivial) (.inr (.inr rfl)) (by kernel_rfl) ?_
  obtain ⟨v29, hv30, h⟩ := bindS h
  refine qA_E (dd := some 67) (x := E v29) ([none]) (⟨145, [(67, E v29), (66, I v27), (65, E v25), (64, .ptr 0 0 (((w64 (((a1.length : Int)) - 1))).toNat * 3)), (63, I ((w64 (((a1.length : Int)) - 1)))), (62, I ((a1.length : Int))), (61, .ref 0 0 0 3 a1.length false), (60, E v23), (59, .ptr 0 0 (((w64 (((a1.length : Int)) - 2))).toNat * 3)), (58, I ((w64 (((a1.length : Int)) - 2)))), (57, I ((a1.length : Int))), (56, .ref 0 0 0 3 a1.length false), (55, I a2.fN), (54, .fptr (Enc.cells a2) 1), (53, .ref 0 0 0 3 v21.length false), (52, I ((w64 (((a1.length : Int)) - 2)))), (51, I ((a1.length : Int))), (50, .ref 0 0 0 3 a1.length false), (1, .ref 0 0 0 3 a1.length false), (5, .fptr (Enc.cells a2) 0), (7, I ((a1.length : Int)))], [some ⟨0, eL a1⟩]⟩) (fun Γ' hΓ => CoreE.of_g (callV_sound (τ := τ) (by kernel_rfl) rfl (ok_spec_ValueOf hv30) (FzTo.frz rfl))) (by kernel_rfl) (by kernel_rfl) (by exact trivial) (.inr (.inr rfl)) (by kernel_rfl) ?_
  refine qA_ev (st' := ⟨145, [(68, .arr 3 (([v29] : List T_impl_Value)).length (eL ([v29] : List T_impl_Value)) true), (67, E v29), (66, I v27), (65, E v25), (64, .ptr 0 0 (((w64 (((a1.length : Int)) - 1))).toNat * 3)), (63, I ((w64 (((a1.length : Int)) - 1)))), (62, I ((a1.length : Int))), (61, .ref 0 0 0 3 a1.length false), (60, E v23), (59, .ptr 0 0 (((w64 (((a1.length : Int)) - 2))).toNat * 3)), (58, I ((w64 (((a1.length : Int)) - 2)))), (57, I ((a1.length : Int))), (56, .ref 0 0 0 3 a1.length false), (55, I a2.fN), (54, .fptr (Enc.cells a2) 1), (53, .ref 0 0 0 3 v21.length false), (52, I ((w64 (((a1.length : Int)) - 2)))), (51, I ((a1.length : Int))), (50, .ref 0 0 0 3 a1.length false), (1, .ref 0 0 0 3 a1.length false), (5, .fptr (Enc.cells a2) 0), (7, I ((a1.length : Int)))], [some ⟨0, eL a1⟩]⟩) τ_ok [] [] 1 (by exact trivial) (by kernel_rfl) ?_
  obtain ⟨v31, hv32, h⟩ := bindS h
  refine qA_E (dd := some 69) (x := .ref 0 1 0 3 v31.length false) ([some ⟨1, eL v31⟩]) (⟨145, [(69, .ref 0 1 0 3 v31.length false), (68, .arr 3 (([v29] : List T_impl_Value)).length (eL ([v29] : List T_impl_Value)) true), (67, E v29), (66, I v27), (65, E v25), (64, .ptr 0 0 (((w64 (((a1.length : Int)) - 1))).toNat * 3)), (63, I ((w64 (((a1.length : Int)) - 1)))), (62, I ((a1.length : Int))), (61, .ref 0 0 0 3 a1.length false), (60, E v23), (59, .ptr 0 0 (((w64 (((a1.length : Int)) - 2))).toNat * 3)), (58, I ((w64 (((a1.length : Int)) - 2)))), (57, I ((a1.length : Int))), (56, .ref 0 0 0 3 a1.length false), (55, I a2.fN), (54, .fptr (Enc.cells a2) 1), (53, .ref 0 0 0 3 v21.length false), (52, I ((w64 (((a1.length : Int)) - 2)))), (51, I ((a1.length : Int))), (50, .ref 0 0 0 3 a1.length false), (1, .ref 0 0 0 3 a1.length false), (5, .fptr (Enc.cells a2) 0), (7, I ((a1.length : Int)))], [some ⟨1, eL v31⟩]⟩) (fun Γ' hΓ => app_E τ_ok 69 0 0 v21.length (fun b hb => absurd (hΓ b hb) (hX b)) hv32 (slI_le hv22) (by kernel_rfl)) (by kernel_rfl) (by kernel_rfl) (by exact (And.intro (.inl (eL_frz _)) trivial)) (.inr (.inl rfl)) (by kernel_rfl) ?_
  refine qA_ev (st' := ⟨145, [(6, .ref 0 1 0 3 v31.length false), (69, .ref 0 1 0 3 v31.length false), (68, .arr 3 (([v29] : List T_impl_Value)).length (eL ([v29] : List T_impl_Value)) true), (67, E v29), (66, I v27), (65, E v25), (64, .ptr 0 0 (((w64 (((a1.length : Int)) - 1))).toNat * 3)), (63, I ((w64 (((a1.length : Int)) - 1)))), (62, I ((a1.length : Int))), (61, .ref 0 0 0 3 a1.length false), (60, E v23), (59, .ptr 0 0 (((w64 (((a1.length : Int)) - 2))).toNat * 3)), (58, I ((w64 (((a1.length : Int)) - 2)))), (57, I ((a1.length : Int))), (56, .ref 0 0 0 3 a1.length false), (55, I a2.fN), (54, .fptr (Enc.cells a2) 1), (53, .ref 0 0 0 3 v21.length false), (52, I ((w64 (((a1.length : Int)) - 2)))), (51, I ((a1.length : Int))), (50, .ref 0 0 0 3 a1.length false), (1, .ref 0 0 0 3 a1.length false), (5, .fptr (Enc.cells a2) 0), (7, I ((a1.length : Int)))], [some ⟨1, eL v31⟩]⟩) τ_ok [] [0] 1 (by exact (And.intro (.inl (eL_frz _)) trivial)) (by kernel_rfl) ?_
  refine qA_end ?_
  refine opsP_imp (Imp.to (st' := ⟨145, [(6, .ref 0 1 0 3 v31.length false)], [some ⟨1, eL v31⟩]⟩) [6] (by kernel_rfl)) ?_
  refine opsP_end rfl ?_
  have h := si h
  subst h
  exact pwp_ret (rt (.ref 0 1 0 3 v31.length false) (OutP.list (v := 1) (by kernel_rfl)))
  refine srve 145 [(1, .ref 0 0 0 3 a1.length false), (7, I ((a1.length : Int))), (11, I a2.fKind), (70, B ((a2.fKind == 5)))] [some ⟨0, eL a1⟩] ?_
  refine pc h (fun h => ?_) (fun h => ?_)
  refine pwp_seq ?_
  refine pwp_imp (Imp.to (st' := ⟨145, [(1, .ref 0 0 0 3 a1.length false), (7, I ((a1.length : Int)))], [some ⟨0, eL a1⟩]⟩) [1, 7] (by kernel_rfl)) ?_
  refine pwp_any ([[0], [], [], [0], [0], [], [], [0], [0], [], [0], [], [], [0], [0], [], [], [], [], [0], [0]]) ([[], [], [], [], [], [], [], [], [], [], [], [], [], [], [], [], [], [], [], [0], []]) rfl (by kernel_rfl) ?_
  refine qA_ev (st' := ⟨145, [(72, .ref 0 0 0 3 a1.length false), (1, .ref 0 0 0 3 a1.length false), (7, I ((a1.length : Int)))], [some ⟨0, eL a1⟩]⟩) τ_ok [] [0] 1 (by exact (And.intro (.inl (eL_frz _)) trivial)) (by kernel_rfl) ?_
  refine qA_ev (st' := ⟨145, [(74, I ((w64 (((a1.length : Int)) - 2)))), (73, I ((a1.length : Int))), (72, .ref 0 0 0 3 a1.length false), (1, .ref 0 0 0 3 a1.length false), (7, I ((a1.length : Int)))], [some ⟨0, eL a1⟩]⟩) τ_ok [] [] 2 (by exact trivial) (by kernel_rfl) ?_
  obtain ⟨v34, hv35, h⟩ := bindS h
  refine qA_E (dd := some 75) (x := .ref 0 0 0 3 v34.length false) ([some ⟨0, eL a1⟩]) (⟨145, [(75, .ref 0 0 0 3 v34.length false), (74, I ((w64 (((a1.length : Int)) - 2)))), (73, I ((a1.length : Int))), (72, .ref 0 0 0 3 a1.length false), (1, .ref 0 0 0 3 a1.length false), (7, I ((a1.length : Int)))], [some ⟨0, eL a1⟩]⟩) (fun Γ' hΓ => CoreE.of_y (slrV_sound (n := a1.length) τ_ok (by kernel_rfl) rfl hv35)) (by kernel_rfl) (by kernel_rfl) (by exact (And.intro (.inl (eL_frz _)) trivial)) (.inr (.inl rfl)) (by kernel_rfl) ?_
  refine qA_ev (st' := ⟨145, [(76, .ref 0 0 0 3 a1.length false), (75, .ref 0 0 0 3 v34.length false), (74, I ((w64 (((a1.length : Int)) - 2)))), (73, I ((a1.length : Int))), (72, .ref 0 0 0 3 a1.length false), (1, .ref 0 0 0 3 a1.length false), (7, I ((a1.length : Int)))], [some ⟨0, eL a1⟩]⟩) τ_ok [] [0] 1 (by exact (And.intro (.inl (eL_frz _)) trivial)) (by kernel_rfl) ?_
  refine qA_ev (st' := ⟨145, [(78, I ((w64 (((a1.length : Int)) - 2)))), (77, I ((a1.length : Int))), (76, .ref 0 0 0 3 a1.length false), (75, .ref 0 0 0 3 v34.length false), (74, I ((w64 (((a1.length : Int)) - 2)))), (73, I ((a1.length : Int))), (72, .ref 0 0 0 3 a1.length false), (1, .ref 0 0 0 3 a1.length false), (7, I ((a1.length : Int)))], [some ⟨0, eL a1⟩]⟩) τ_ok [] [] 2 (by exact trivial) (by kernel_rfl) ?_
  obtain ⟨v36, hv37, h⟩ := bindS h
  refine qA_E (dd := some 79) (x := .ptr 0 0 (((w64 (((a1.length : Int)) - 2))).toNat * 3)) ([some ⟨0, eL a1⟩]) (⟨145, [(79, .ptr 0 0 (((w64 (((a1.length : Int)) - 2))).toNat * 3)), (78, I ((w64 (((a1.length : Int)) - 2)))), (77, I ((a1.length : Int))), (76, .ref 0 0 0 3 a1.length false), (75, .ref 0 0 0 3 v34.length false), (74, I ((w64 (((a1.length : Int)) - 2)))), (73, I ((a1.length : Int))), (72, .ref 0 0 0 3 a1.length false), (1, .ref 0 0 0 3 a1.length false), (7, I ((a1.length : Int)))], [some ⟨0, eL a1⟩]⟩) (fun Γ' hΓ => CoreE.of_y (idrV_sound (n := a1.length) τ_ok (by kernel_rfl) hv37 rfl)) (by kernel_rfl) (by kernel_rfl) (by exact (And.intro (.inl (eL_frz _)) trivial)) (.inr (.inl rfl)) (by kernel_rfl) ?_
  refine qA_E (dd := some 80) (x := E v36) ([some ⟨0, eL a1⟩]) (⟨145, [(80, E v36), (79, .ptr 0 0 (((w64 (((a1.length : Int)) - 2))).toNat * 3)), (78, I ((w64 (((a1.length : Int)) - 2)))), (77, I ((a1.length : Int))), (76, .ref 0 0 0 3 a1.length false), (75, .ref 0 0 0 3 v34.length false), (74, I ((w64 (((a1.length : Int)) - 2)))), (73, I ((a1.length : Int))), (72, .ref 0 0 0 3 a1.length false), (1, .ref 0 0 0 3 a1.length false), (7, I ((a1.length : Int)))], [some ⟨0, eL a1⟩]⟩) (fun Γ' hΓ => CoreE.of_y (ldeV_sound (t := 117) (o' := 0) (r := E v36) τ_ok hv37 (by kernel_rfl) (by kernel_rfl))) (by kernel_rfl) (by kernel_rfl) (by exact (And.intro (.inl (eL_frz _)) trivial)) (.inr (.inr rfl)) (by kernel_rfl) ?_
  obtain ⟨v38, hv39, h⟩ := bindS h
  refine qA_E (dd := some 81) (x := I v38) ([none]) (⟨145, [(81, I v38), (80, E v36), (79, .ptr 0 0 (((w64 (((a1.length : Int)) - 2))).toNat * 3)), (78, I ((w64 (((a1.length : Int)) - 2)))), (77, I ((a1.length : Int))), (76, .ref 0 0 0 3 a1.length false), (75, .ref 0 0 0 3 v34.length false), (74, I ((w64 (((a1.length : Int)) - 2)))), (73, I ((a1.length : Int))), (72, .ref 0 0 0 3 a1.length false), (1, .ref 0 0 0 3 a1.length false), (7, I ((a1.length : Int)))], [some ⟨0, eL a1⟩]⟩) (fun Γ' hΓ => CoreE.of_g (callV_sound (τ := τ) (by kernel_rfl) rfl (ok_spec_TruthOf hv39) (FzTo.frz rfl))) (by kernel_rfl) (by kernel_rfl) (by exact trivial) (.inr (.inr rfl)) (by kernel_rfl) ?_
  refine qA_ev (st' := ⟨145, [(82, .ref 0 0 0 3 a1.length false), (81, I v38), (80, E v36), (79, .ptr 0 0 (((w64 (((a1.length : Int)) - 2))).toNat * 3)), (78, I ((w64 (((a1.length : Int)) - 2)))), (77, I ((a1.length : Int))), (76, .ref 0 0 0 3 a1.length false), (75, .ref 0 0 0 3 v34.length false), (74, I ((w64 (((a1.length : Int)) - 2)))), (73, I ((a1.length : Int))), (72, .ref 0 0 0 3 a1.length false), (1, .ref 0 0 0 3 a1.length false), (7, I ((a1.length : Int)))], [some ⟨0, eL a1⟩]⟩) τ_ok [] [0] 1 (by exact (And.intro (.inl (eL_frz _)) trivial)) (by kernel_rfl) ?_
  refine qA_ev (st' := ⟨145, [(84, I ((w64 (((a1.length : Int)) - 1)))), (83, I ((a1.length : Int))), (82, .ref 0 0 0 3 a1.length false), (81, I v38), (80, E v36), (79, .ptr 0 0 (((w64 (((a1.length : Int)) - 2))).toNat * 3)), (78, I ((w64 (((a1.length : Int)) - 2)))), (77, I ((a1.length : Int))), (76, .ref 0 0 0 3 a1.length false), (75, .ref 0 0 0 3 v34.length false), (74, I ((w64 (((a1.length : Int)) - 2)))), (73, I ((a1.length : Int))), (72, .ref 0 0 0 3 a1.length false), (1, .ref 0 0 0 3 a1.length false), (7, I ((a1.length : Int)))], [some ⟨0, eL a1⟩]⟩) τ_ok [] [] 2 (by exact trivial) (by kernel_rfl) ?_
  obtain ⟨v40, hv41, h⟩ := bindS h
  refine qA_E (dd := some 85) (x := .ptr 0 0 (((w64 (((a1.length : Int)) - 1))).toNat * 3)) ([some ⟨0, eL a1⟩]) (⟨145, [(85, .ptr 0 0 (((w64 (((a1.length : Int)) - 1))).toNat * 3)), (84, I ((w64 (((a1.length : Int)) - 1)))), (83, I ((a1.length : Int))), (82, .ref 0 0 0 3 a1.length false), (81, I v38), (80, E v36), (79, .ptr 0 0 (((w64 (((a1.length : Int)) - 2))).toNat * 3)), (78, I ((w64 (((a1.length : Int)) - 2)))), (77, I ((a1.length : Int))), (76, .ref 0 0 0 3 a1.length false), (75, .ref 0 0 0 3 v34.length false), (74, I ((w64 (((a1.length : Int)) - 2)))), (73, I ((a1.length : Int))), (72, .ref 0 0 0 3 a1.length false), (1, .ref 0 0 0 3 a1.length false), (7, I ((a1.length : Int)))], [some ⟨0, eL a1⟩]⟩) (fun Γ' hΓ => CoreE.of_y (idrV_sound (n := a1.length) τ_ok (by kernel_rfl) hv41 rfl)) (by kernel_rfl) (by kernel_rfl) (by exact (And.intro (.inl (eL_frz _)) trivial)) (.inr (.inl rfl)) (by kernel_rfl) ?_
  refine qA_E (dd := some 86) (x := E v40) ([some ⟨0, eL a1⟩]) (⟨145, [(86, E v40), (85, .ptr 0 0 (((w64 (((a1.length : Int)) - 1))).toNat * 3)), (84, I ((w64 (((a1.length : Int)) - 1)))), (83, I ((a1.length : Int))), (82, .ref 0 0 0 3 a1.length false), (81, I v38), (80, E v36), (79, .ptr 0 0 (((w64 (((a1.length : Int)) - 2))).toNat * 3)), (78, I ((w64 (((a1.length : Int)) - 2)))), (77, I ((a1.length : Int))), (76, .ref 0 0 0 3 a1.length false), (75, .ref 0 0 0 3 v34.length false), (74, I ((w64 (((a1.length : Int)) - 2)))), (73, I ((a1.length : Int))), (72, .ref 0 0 0 3 a1.length false), (1, .ref 0 0 0 3 a1.length false), (7, I ((a1.length : Int)))], [some ⟨0, eL a1⟩]⟩) (fun Γ' hΓ => CoreE.of_y (ldeV_sound (t := 117) (o' := 0) (r := E v40) τ_ok hv41 (by kernel_rfl) (by kernel_rfl))) (by kernel_rfl) (by kernel_rfl) (by exact (And.intro (.inl (eL_frz _)) trivial)) (.inr (.inr rfl)) (by kernel_rfl) ?_
  obtain ⟨v42, hv43, h⟩ := bindS h
  refine qA_E (dd := some 87) (x := I v42) ([none]) (⟨145, [(87, I v42), (86, E v40), (85, .ptr 0 0 (((w64 (((a1.length : Int)) - 1))).toNat * 3)), (84, I ((w64 (((a1.length : Int)) - 1)))), (83, I ((a1.length : Int))), (82, .ref 0 0 0 3 a1.length false), (81, I v38), (80, E v36), (79, .ptr 0 0 (((w64 (((a1.length : Int)) - 2))).toNat * 3)), (78, I ((w64 (((a1.length : Int)) - 2)))), (77, I ((a1.length : Int))), (76, .ref 0 0 0 3 a1.length false), (75, .ref 0 0 0 3 v34.length false), (74, I ((w64 (((a1.length : Int)) - 2)))), (73, I ((a1.length : Int))), (72, .ref 0 0 0 3 a1.length false), (1, .ref 0 0 0 3 a1.length false), (7, I ((a1.length : Int)))], [some ⟨0, eL a1⟩]⟩) (fun Γ' hΓ => CoreE.of_g (callV_sound (τ := τ) (by kernel_rfl) rfl (ok_spec_TruthOf hv43) (FzTo.frz rfl))) (by kernel_rfl) (by kernel_rfl) (by exact trivial) (.inr (.inr rfl)) (by kernel_rfl) ?_
  obtain ⟨v44, hv45, h⟩ := bindS h
  refine qA_E (dd := some 88) (x := I v44) ([none]) (⟨145, [(88, I v44), (87, I v42), (86, E v40), (85, .ptr 0 0 (((w64 (((a1.length : Int)) - 1))).toNat * 3)), (84, I ((w64 (((a1.length : Int)) - 1)))), (83, I ((a1.length : Int))), (82, .ref 0 0 0 3 a1.length false), (81, I v38), (80, E v36), (79, .ptr 0 0 (((w64 (((a1.length : Int)) - 2))).toNat * 3)), (78, I ((w64 (((a1.length : Int)) - 2)))), (77, I ((a1.length : Int))), (76, .ref 0 0 0 3 a1.length false), (75, .ref 0 0 0 3 v34.length false), (74, I ((w64 (((a1.length : Int)) - 2)))), (73, I ((a1.length : Int))), (72, .ref 0 0 0 3 a1.length false), (1, .ref 0 0 0 3 a1.length false), (7, I ((a1.length : Int)))], [some ⟨0, eL a1⟩]⟩) (fun Γ' hΓ => CoreE.of_g (callV_sound (τ := τ) (by kernel_rfl) rfl (ok_spec_AndOf hv45) (FzTo.frz rfl))) (by kernel_rfl) (by kernel_rfl) (by exact trivial) (.inr (.inr rfl)) (by kernel_rfl) ?_
  obtain ⟨v46, hv47, h⟩ := bindS h
  refine qA_E (dd := some 89) (x := E v46) ([none]) (⟨145, [(89, E v46), (88, I v44), (87, I v42), (86, E v40), (85, .ptr 0 0 (((w64 (((a1.length : Int)) - 1))).toNat * 3)), (84, I ((w64 (((a1.length : Int)) - 1)))), (83, I ((a1.length : Int))), (82, .ref 0 0 0 3 a1.length false), (81, I v38), (80, E v36), (79, .ptr 0 0 (((w64 (((a1.length : Int)) - 2))).toNat * 3)), (78, I ((w64 (((a1.length : Int)) - 2)))), (77, I ((a1.length : Int))), (76, .ref 0 0 0 3 a1.length false), (75, .ref 0 0 0 3 v34.length false), (74, I ((w64 (((a1.length : Int)) - 2)))), (73, I ((a1.length : Int))), (72, .ref 0 0 0 3 a1.length false), (1, .ref 0 0 0 3 a1.length false), (7, I ((a1.length : Int)))], [some ⟨0, eL a1⟩]⟩) (fun Γ' hΓ => CoreE.of_g (callV_sound (τ := τ) (by kernel_rfl) rfl (ok_spec_ValueOf hv47) (FzTo.frz rfl))) (by kernel_rfl) (by kernel_rfl) (by exact trivial) (.inr (.inr rfl)) (by kernel_rfl) ?_
  refine qA_ev (st' := ⟨145, [(90, .arr 3 (([v46] : List T_impl_Value)).length (eL ([v46] : List T_impl_Value)) true), (89, E v46), (88, I v44), (87, I v42), (86, E v40), (85, .ptr 0 0 (((w64 (((a1.length : Int)) - 1))).toNat * 3)), (84, I ((w64 (((a1.length : Int)) - 1)))), (83, I ((a1.length : Int))), (82, .ref 0 0 0 3 a1.length false), (81, I v38), (80, E v36), (79, .ptr 0 0 (((w64 (((a1.length : Int)) - 2))).toNat * 3)), (78, I ((w64 (((a1.length : Int)) - 2)))), (77, I ((a1.length : Int))), (76, .ref 0 0 0 3 a1.length false), (75, .ref 0 0 0 3 v34.length false), (74, I ((w64 (((a1.length : Int)) - 2)))), (73, I ((a1.length : Int))), (72, .ref 0 0 0 3 a1.length false), (1, .ref 0 0 0 3 a1.length false), (7, I ((a1.length : Int)))], [some ⟨0, eL a1⟩]⟩) τ_ok [] [] 1 (by exact trivial) (by kernel_rfl) ?_
  obtain ⟨v48, hv49, h⟩ := bindS h
  refine qA_E (dd := some 91) (x := .ref 0 1 0 3 v48.length false) ([some ⟨1, eL v48⟩]) (⟨145, [(91, .ref 0 1 0 3 v48.length false), (90, .arr 3 (([v46] : List T_impl_Value)).length (eL ([v46] : List T_impl_Value)) true), (89, E v46), (88, I v44), (87, I v42), (86, E v40), (85, .ptr 0 0 (((w64 (((a1.length : Int)) - 1))).toNat * 3)), (84, I ((w64 (((a1.length : Int)) - 1)))), (83, I ((a1.length : Int))), (82, .ref 0 0 0 3 a1.length false), (81, I v38), (80, E v36), (79, .ptr 0 0 (((w64 (((a1.length : Int)) - 2))).toNat * 3)), (78, I ((w64 (((a1.length : Int)) - 2)))), (77, I ((a1.length : Int))), (76, .ref 0 0 0 3 a1.length false), (75, .ref 0 0 0 3 v34.length false), (74, I ((w64 (((a1.length : Int)) - 2)))), (73, I ((a1.length : Int))), (72, .ref 0 0 0 3 a1.length false), (1, .ref 0 0 0 3 a1.length false), (7, I ((a1.length : Int)))], [some ⟨1, eL v48⟩]⟩) (fun Γ' hΓ => app_E τ_ok 91 0 0 v34.length (fun b hb => absurd (hΓ b hb) (hX b)) hv49 (slI_le hv35) (by kernel_rfl)) (by kernel_rfl) (by kernel_rfl) (by exact (And.intro (.inl (eL_frz _)) trivial)) (.inr (.inl rfl)) (by kernel_rfl) ?_
  refine qA_ev (st' := ⟨145, [(6, .ref 0 1 0 3 v48.length false), (91, .ref 0 1 0 3 v48.length false), (90, .arr 3 (([v46] : List T_impl_Value)).length (eL ([v46] : List T_impl_Value)) true), (89, E v46), (88, I v44), (87, I v42), (86, E v40), (85, .ptr 0 0 (((w64 (((a1.length : Int)) - 1))).toNat * 3)), (84, I ((w64 (((a1.length : Int)) - 1)))), (83, I ((a1.length : Int))), (82, .ref 0 0 0 3 a1.length false), (81, I v38), (80, E v36), (79, .ptr 0 0 (((w64 (((a1.length : Int)) - 2))).toNat * 3)), (78, I ((w64 (((a1.length : Int)) - 2)))), (77, I ((a1.length : Int))), (76, .ref 0 0 0 3 a1.length false), (75, .ref 0 0 0 3 v34.length false), (74, I ((w64 (((a1.length : Int)) - 2)))), (73, I ((a1.length : Int))), (72, .ref 0 0 0 3 a1.length false), (1, .ref 0 0 0 3 a1.length false), (7, I ((a1.length : Int)))], [some ⟨1, eL v48⟩]⟩) τ_ok [] [0] 1 (by exact (And.intro (.inl (eL_frz _)) trivial)) (by kernel_rfl) ?_
  refine qA_end ?_
  refine opsP_imp (Imp.to (st' := ⟨145, [(6, .ref 0 1 0 3 v48.length false)], [some ⟨1, eL v48⟩]⟩) [6] (by kernel_rfl)) ?_
  refine opsP_end rfl ?_
  have h := si h
  subst h
  exact pwp_ret (rt (.ref 0 1 0 3 v48.length false) (OutP.list (v := 1) (by kernel_rfl)))
  refine srve 145 [(1, .ref 0 0 0 3 a1.length false), (7, I ((a1.length : Int))), (11, I a2.fKind), (92, B ((a2.fKind == 6)))] [some ⟨0, eL a1⟩] ?_
  refine pc h (fun h => ?_) (fun h => ?_)
  refine pwp_seq ?_
  refine pwp_imp (Imp.to (st' := ⟨145, [(1, .ref 0 0 0 3 a1.length false), (7, I ((a1.length : Int)))], [some ⟨0, eL a1⟩]⟩) [1, 7] (by kernel_rfl)) ?_
  refine pwp_any ([[0], [], [], [0], [0], [], [], [0], [0], [], [0], [], [], [0], [0], [], [], [], [], [0], [0]]) ([[], [], [], [], [], [], [], [], [], [], [], [], [], [], [], [], [], [], [], [0], []]) rfl (by kernel_rfl) ?_
  refine qA_ev (st' := ⟨145, [(94, .ref 0 0 0 3 a1.length false), (1, .ref 0 0 0 3 a1.length false), (7, I ((a1.length : Int)))], [some ⟨0, eL a1⟩]⟩) τ_ok [] [0] 1 (by exact (And.intro (.inl (eL_frz _)) trivial)) (by kernel_rfl) ?_
  refine qA_ev (st' := ⟨145, [(96, I ((w64 (((a1.length : Int)) - 2)))), (95, I ((a1.length : Int))), (94, .ref 0 0 0 3 a1.length false), (1, .ref 0 0 0 3 a1.length false), (7, I ((a1.length : Int)))], [some ⟨0, eL a1⟩]⟩) τ_ok [] [] 2 (by exact trivial) (by kernel_rfl) ?_
  obtain ⟨v51, hv52, h⟩ := bindS h
  refine qA_E (dd := some 97) (x := .ref 0 0 0 3 v51.length false) ([some ⟨0, eL a1⟩]) (⟨145, [(97, .ref 0 0 0 3 v51.length false), (96, I ((w64 (((a1.length : Int)) - 2)))), (95, I ((a1.length : Int))), (94, .ref 0 0 0 3 a1.length false), (1, .ref 0 0 0 3 a1.length false), (7, I ((a1.length : Int)))], [some ⟨0, eL a1⟩]⟩) (fun Γ' hΓ => CoreE.of_y (slrV_sound (n := a1.length) τ_ok (by kernel_rfl) rfl hv52)) (by kernel_rfl) (by kernel_rfl) (by exact (And.intro (.inl (eL_frz _)) trivial)) (.inr (.inl rfl)) (by kernel_rfl) ?_
  refine qA_ev (st' := ⟨145, [(98, .ref 0 0 0 3 a1.length false), (97, .ref 0 0 0 3 v51.length false), (96, I ((w64 (((a1.length : Int)) - 2)))), (95, I ((a1.length : Int))), (94, .ref 0 0 0 3 a1.length false), (1, .ref 0 0 0 3 a1.length false), (7, I ((a1.length : Int)))], [some ⟨0, eL a1⟩]⟩) τ_ok [] [0] 1 (by exact (And.intro (.inl (eL_frz _)) trivial)) (by kernel_rfl) ?_
  refine qA_ev (st' := ⟨145, [(100, I ((w64 (((a1.length : Int)) - 2)))), (99, I ((a1.length : Int))), (98, .ref 0 0 0 3 a1.length false), (97, .ref 0 0 0 3 v51.length false), (96, I ((w64 (((a1.length : Int)) - 2)))), (95, I ((a1.length : Int))), (94, .ref 0 0 0 3 a1.length false), (1, .ref 0 0 0 3 a1.length false), (7, I ((a1.length : Int)))], [some ⟨0, eL a1⟩]⟩) τ_ok [] [] 2 (by exact trivial) (by kernel_rfl) ?_
  obtain ⟨v53, hv54, h⟩ := bindS h
  refine qA_E (dd := some 101) (x := .ptr 0 0 (((w64 (((a1.length : Int)) - 2))).toNat * 3)) ([some ⟨0, eL a1⟩]) (⟨145, [(101, .ptr 0 0 (((w64 (((a1.length : Int)) - 2))).toNat * 3)), (100, I ((w64 (((a1.length : Int)) - 2)))), (99, I ((a1.length : Int))), (98, .ref 0 0 0 3 a1.length false), (97, .ref 0 0 0 3 v51.length false), (96, I ((w64 (((a1.length : Int)) - 2)))), (95, I ((a1.length : Int))), (94, .ref 0 0 0 3 a1.length false), (1, .ref 0 0 0 3 a1.length false), (7, I ((a1.length : Int)))], [some ⟨0, eL a1⟩]⟩) (fun Γ' hΓ => CoreE.of_y (idrV_sound (n := a1.length) τ_ok (by kernel_rfl) hv54 rfl)) (by kernel_rfl) (by kernel_rfl) (by exact (And.intro (.inl (eL_frz _)) trivial)) (.inr (.inl rfl)) (by kernel_rfl) ?_
  refine qA_E (dd := some 102) (x := E v53) ([some ⟨0, eL a1⟩]) (⟨145, [(102, E v53), (101, .ptr 0 0 (((w64 (((a1.length : Int)) - 2))).toNat * 3)), (100, I ((w64 (((a1.length : Int)) - 2)))), (99, I ((a1.length : Int))), (98, .ref 0 0 0 3 a1.length false), (97, .ref 0 0 0 3 v51.length false), (96, I ((w64 (((a1.length : Int)) - 2)))), (95, I ((a1.length : Int))), (94, .ref 0 0 0 3 a1.length false), (1, .ref 0 0 0 3 a1.length false), (7, I ((a1.length : Int)))], [some ⟨0, eL a1⟩]⟩) (fun Γ' hΓ => CoreE.of_y (ldeV_sound (t := 117) (o' := 0) (r := E v53) τ_ok hv54 (by kernel_rfl) (by kernel_rfl))) (by kernel_rfl) (by kernel_rfl) (by exact (And.intro (.inl (eL_frz _)) trivial)) (.inr (.inr rfl)) (by kernel_rfl) ?_
  obtain ⟨v55, hv56, h⟩ := bindS h
  refine qA_E (dd := some 103) (x := I v55) ([none]) (⟨145, [(103, I v55), (102, E v53), (101, .ptr 0 0 (((w64 (((a1.length : Int)) - 2))).toNat * 3)), (100, I ((w64 (((a1.length : Int)) - 2)))), (99, I ((a1.length : Int))), (98, .ref 0 0 0 3 a1.length false), (97, .ref 0 0 0 3 v51.length false), (96, I ((w64 (((a1.length : Int)) - 2)))), (95, I ((a1.length : Int))), (94, .ref 0 0 0 3 a1.length false), (1, .ref 0 0 0 3 a1.length false), (7, I ((a1.length : Int)))], [some ⟨0, eL a1⟩]⟩) (fun Γ' hΓ => CoreE.of_g (callV_sound (τ := τ) (by kernel_rfl) rfl (ok_spec_TruthOf hv56) (FzTo.frz rfl))) (by kernel_rfl) (by kernel_rfl) (by exact trivial) (.inr (.inr rfl)) (by kernel_rfl) ?_
  refine qA_ev (st' := ⟨145, [(104, .ref 0 0 0 3 a1.length false), (103, I v55), (102, E v53), (101, .ptr 0 0 (((w64 (((a1.length : Int)) - 2))).toNat * 3)), (100, I ((w64 (((a1.length : Int)) - 2)))), (99, I ((a1.length : Int))), (98, .ref 0 0 0 3 a1.length false), (97, .ref 0 0 0 3 v51.length false), (96, I ((w64 (((a1.length : Int)) - 2)))), (95, I ((a1.length : Int))), (94, .ref 0 0 0 3 a1.length false), (1, .ref 0 0 0 3 a1.length false), (7, I ((a1.length : Int)))], [some ⟨0, eL a1⟩]⟩) τ_ok [] [0] 1 (by exact (And.intro (.inl (eL_frz _)) trivial)) (by kernel_rfl) ?_
  refine qA_ev (st' := ⟨145, [(106, I ((w64 (((a1.length : Int)) - 1)))), (105, I ((a1.length : Int))), (104, .ref 0 0 0 3 a1.length false), (103, I v55), (102, E v53), (101, .ptr 0 0 (((w64 (((a1.length : Int)) - 2))).toNat * 3)), (100, I ((w64 (((a1.length : Int)) - 2)))), (99, I ((a1.length : Int))), (98, .ref 0 0 0 3 a1.length false), (97, .ref 0 0 0 3 v51.length false), (96, I ((w64 (((a1.length : Int)) - 2)))), (95, I ((a1.length : Int))), (94, .ref 0 0 0 3 a1.length false), (1, .ref 0 0 0 3 a1.length false), (7, I ((a1.length : Int)))], [some ⟨0, eL a1⟩]⟩) τ_ok [] [] 2 (by exact trivial) (by kernel_rfl) ?_
  obtain ⟨v57, hv58, h⟩ := bindS h
  refine qA_E (dd := some 107) (x := .ptr 0 0 (((w64 (((a1.length : Int)) - 1))).toNat * 3)) ([some ⟨0, eL a1⟩]) (⟨145, [(107, .ptr 0 0 (((w64 (((a1.length : Int)) - 1))).toNat * 3)), (106, I ((w64 (((a1.length : Int)) - 1)))), (105, I ((a1.length : Int))), (104, .ref 0 0 0 3 a1.length false), (103, I v55), (102, E v53), (101, .ptr 0 0 (((w64 (((a1.length : Int)) - 2))).toNat * 3)), (100, I ((w64 (((a1.length : Int)) - 2)))), (99, I ((a1.length : Int))), (98, .ref 0 0 0 3 a1.length false), (97, .ref 0 0 0 3 v51.length false), (96, I ((w64 (((a1.length : Int)) - 2)))), (95, I ((a1.length : Int))), (94, .ref 0 0 0 3 a1.length false), (1, .ref 0 0 0 3 a1.length false), (7, I ((a1.length : Int)))], [some ⟨0, eL a1⟩]⟩) (fun Γ' hΓ => CoreE.of_y (idrV_sound (n := a1.length) τ_ok (by kernel_rfl) hv58 rfl)) (by kernel_rfl) (by kernel_rfl) (by exact (And.intro (.inl (eL_frz _)) trivial)) (.inr (.inl rfl)) (by kernel_rfl) ?_
  refine qA_E (dd := some 108) (x := E v57) ([some ⟨0, eL a1⟩]) (⟨145, [(108, E v57), (107, .ptr 0 0 (((w64 (((a1.length : Int)) - 1))).toNat * 3)), (106, I ((w64 (((a1.length : Int)) - 1)))), (105, I ((a1.length : Int))), (104, .ref 0 0 0 3 a1.length false), (103, I v55), (102, E v53), (101, .ptr 0 0 (((w64 (((a1.length : Int)) - 2))).toNat * 3)), (100, I ((w64 (((a1.length : Int)) - 2)))), (99, I ((a1.length : Int))), (98, .ref 0 0 0 3 a1.length false), (97, .ref 0 0 0 3 v51.length false), (96, I ((w64 (((a1.length : Int)) - 2)))), (95, I ((a1.length : Int))), (94, .ref 0 0 0 3 a1.length false), (1, .ref 0 0 0 3 a1.length false), (7, I ((a1.length : Int)))], [some ⟨0, eL a1⟩]⟩) (fun Γ' hΓ => CoreE.of_y (ldeV_sound (t := 117) (o' := 0) (r := E v57) τ_ok hv58 (by kernel_rfl) (by kernel_rfl))) (by kernel_rfl) (by kernel_rfl) (by exact (And.intro (.inl (eL_frz _)) trivial)) (.inr (.inr rfl)) (by kernel_rfl) ?_
  obtain ⟨v59, hv60, h⟩ := bindS h
  refine qA_E (dd := some 109) (x := I v59) ([none]) (⟨145, [(109, I v59), (108, E v57), (107, .ptr 0 0 (((w64 (((a1.length : Int)) - 1))).toNat * 3)), (106, I ((w64 (((a1.length : Int)) - 1)))), (105, I ((a1.length : Int))), (104, .ref 0 0 0 3 a1.length false), (103, I v55), (102, E v53), (101, .ptr 0 0 (((w64 (((a1.length : Int)) - 2))).toNat * 3)), (100, I ((w64 (((a1.length : Int)) - 2)))), (99, I ((a1.length : Int))), (98, .ref 0 0 0 3 a1.length false), (97, .ref 0 0 0 3 v51.length false), (96, I ((w64 (((a1.length : Int)) - 2)))), (95, I ((a1.length : Int))), (94, .ref 0 0 0 3 a1.length false), (1, .ref 0 0 0 3 a1.length false), (7, I ((a1.length : Int)))], [some ⟨0, eL a1⟩]⟩) (fun Γ' hΓ => CoreE.of_g (callV_sound (τ := τ) (by kernel_rfl) rfl (ok_spec_TruthOf hv60) (FzTo.frz rfl))) (by kernel_rfl) (by kernel_rfl) (by exact trivial) (.inr (.inr rfl)) (by kernel_rfl) ?_
  obtain ⟨v61, hv62, h⟩ := bindS h
  refine qA_E (dd := some 110) (x := I v61) ([none]) (⟨145, [(110, I v61), (109, I v59), (108, E v57), (107, .ptr 0 0 (((w64 (((a1.length : Int)) - 1))).toNat * 3)), (106, I ((w64 (((a1.length : Int)) - 1)))), (105, I ((a1.length : Int))), (104, .ref 0 0 0 3 a1.length false), (103, I v55), (102, E v53), (101, .ptr 0 0 (((w64 (((a1.length : Int)) - 2))).toNat * 3)), (100, I ((w64 (((a1.length : Int)) - 2)))), (99, I ((a1.length : Int))), (98, .ref 0 0 0 3 a1.length false), (97, .ref 0 0 0 3 v51.length false), (96, I ((w64 (((a1.length : Int)) - 2)))), (95, I ((a1.length : Int))), (94, .ref 0 0 0 3 a1.length false), (1, .ref 0 0 0 3 a1.length false), (7, I ((a1.length : Int)))], [some ⟨0, eL a1⟩]⟩) (fun Γ' hΓ => CoreE.of_g (callV_sound (τ := τ) (by kernel_rfl) rfl (ok_spec_OrOf hv62) (FzTo.frz rfl))) (by kernel_rfl) (by kernel_rfl) (by exact trivial) (.inr (.inr rfl)) (by kernel_rfl) ?_
  obtain ⟨v63, hv64, h⟩ := bindS h
  refine qA_E (dd := some 111) (x := E v63) ([none]) (⟨145, [(111, E v63), (110, I v61), (109, I v59), (108, E v57), (107, .ptr 0 0 (((w64 (((a1.length : Int)) - 1))).toNat * 3)), (106, I ((w64 (((a1.length : Int)) - 1)))), (105, I ((a1.length : Int))), (104, .ref 0 0 0 3 a1.length false), (103, I v55), (102, E v53), (101, .ptr 0 0 (((w64 (((a1.length : Int)) - 2))).toNat * 3)), (100, I ((w64 (((a1.length : Int)) - 2)))), (99, I ((a1.length : Int))), (98, .ref 0 0 0 3 a1.length false), (97, .ref 0 0 0 3 v51.length false), (96, I ((w64 (((a1.length : Int)) - 2)))), (95, I ((a1.length : Int))), (94, .ref 0 0 0 3 a1.length false), (1, .ref 0 0 0 3 a1.length false), (7, I ((a1.length : Int)))], [some ⟨0, eL a1⟩]⟩) (fun Γ' hΓ => CoreE.of_g (callV_sound (τ := τ) (by kernel_rfl) rfl (ok_spec_ValueOf hv64) (FzTo.frz rfl))) (by kernel_rfl) (by kernel_rfl) (by exact trivial) (.inr (.inr rfl)) (by kernel_rfl) ?_
  refine qA_ev (st' := ⟨145, [(112, .arr 3 (([v63] : List T_impl_Value)).length (eL ([v63] : List T_impl_Value)) true), (111, E v63), (110, I v61), (109, I v59), (108, E v57), (107, .ptr 0 0 (((w64 (((a1.length : Int)) - 1))).toNat * 3)), (106, I ((w64 (((a1.length : Int)) - 1)))), (105, I ((a1.length : Int))), (104, .ref 0 0 0 3 a1.length false), (103, I v55), (102, E v53), (101, .ptr 0 0 (((w64 (((a1.length : Int)) - 2))).toNat * 3)), (100, I ((w64 (((a1.length : Int)) - 2)))), (99, I ((a1.length : Int))), (98, .ref 0 0 0 3 a1.length false), (97, .ref 0 0 0 3 v51.length false), (96, I ((w64 (((a1.length : Int)) - 2)))), (95, I ((a1.length : Int))), (94, .ref 0 0 0 3 a1.length false), (1, .ref 0 0 0 3 a1.length false), (7, I ((a1.length : Int)))], [some ⟨0, eL a1⟩]⟩) τ_ok [] [] 1 (by exact trivial) (by kernel_rfl) ?_
  obtain ⟨v65, hv66, h⟩ := bindS h
  refine qA_E (dd := some 113) (x := .ref 0 1 0 3 v65.length false) ([some ⟨1, eL v65⟩]) (⟨145, [(113, .ref 0 1 0 3 v65.length false), (112, .arr 3 (([v63] : List T_impl_Value)).length (eL ([v63] : List T_impl_Value)) true), (111, E v63), (110, I v61), (109, I v59), (108, E v57), (107, .ptr 0 0 (((w64 (((a1.length : Int)) - 1))).toNat * 3)), (106, I ((w64 (((a1.length : Int)) - 1)))), (105, I ((a1.length : Int))), (104, .ref 0 0 0 3 a1.length false), (103, I v55), (102, E v53), (101, .ptr 0 0 (((w64 (((a1.length : Int)) - 2))).toNat * 3)), (100, I ((w64 (((a1.length : Int)) - 2)))), (99, I ((a1.length : Int))), (98, .ref 0 0 0 3 a1.length false), (97, .ref 0 0 0 3 v51.length false), (96, I ((w64 (((a1.length : Int)) - 2)))), (95, I ((a1.length : Int))), (94, .ref 0 0 0 3 a1.length false), (1, .ref 0 0 0 3 a1.length false), (7, I ((a1.length : Int)))], [some ⟨1, eL v65⟩]⟩) (fun Γ' hΓ => app_E τ_ok 113 0 0 v51.length (fun b hb => absurd (hΓ b hb) (hX b)) hv66 (slI_le hv52) (by kernel_rfl)) (by kernel_rfl) (by kernel_rfl) (by exact (And.intro (.inl (eL_frz _)) trivial)) (.inr (.inl rfl)) (by kernel_rfl) ?_
  refine qA_ev (st' := ⟨145, [(6, .ref 0 1 0 3 v65.length false), (113, .ref 0 1 0 3 v65.length false), (112, .arr 3 (([v63] : List T_impl_Value)).length (eL ([v63] : List T_impl_Value)) true), (111, E v63), (110, I v61), (109, I v59), (108, E v57), (107, .ptr 0 0 (((w64 (((a1.length : Int)) - 1))).toNat * 3)), (106, I ((w64 (((a1.length : Int)) - 1)))), (105, I ((a1.length : Int))), (104, .ref 0 0 0 3 a1.length false), (103, I v55), (102, E v53), (101, .ptr 0 0 (((w64 (((a1.length : Int)) - 2))).toNat * 3)), (100, I ((w64 (((a1.length : Int)) - 2)))), (99, I ((a1.length : Int))), (98, .ref 0 0 0 3 a1.length false), (97, .ref 0 0 0 3 v51.length false), (96, I ((w64 (((a1.length : Int)) - 2)))), (95, I ((a1.length : Int))), (94, .ref 0 0 0 3 a1.length false), (1, .ref 0 0 0 3 a1.length false), (7, I ((a1.length : Int)))], [some ⟨1, eL v65⟩]⟩) τ_ok [] [0] 1 (by exact (And.intro (.inl (eL_frz _)) trivial)) (by kernel_rfl) ?_
  refine qA_end ?_
  refine opsP_imp (Imp.to (st' := ⟨145, [(6, .ref 0 1 0 3 v65.length false)], [some ⟨1, eL v65⟩]⟩) [6] (by kernel_rfl)) ?_
  refine opsP_end rfl ?_
  have h := si h
  subst h
  exact pwp_ret (rt (.ref 0 1 0 3 v65.length false) (OutP.list (v := 1) (by kernel_rfl)))
  refine srve 145 [(1, .ref 0 0 0 3 a1.length false), (7, I ((a1.length : Int))), (114, B ((a2.fKind == 7)))] [some ⟨0, eL a1⟩] ?_
  refine pc h (fun h => ?_) (fun h => ?_)
  refine pwp_seq ?_
  refine pwp_imp (Imp.to (st' := ⟨145, [(1, .ref 0 0 0 3 a1.length false), (7, I ((a1.length : Int)))], [some ⟨0, eL a1⟩]⟩) [1, 7] (by kernel_rfl)) ?_
  refine pwp_any ([[0], [], [], [0], [0], [], [], [0], [0], [], [], [], [], [0], [0]]) ([[], [], [], [], [], [], [], [], [], [], [], [], [], [0], []]) rfl (by kernel_rfl) ?_
  refine qA_ev (st' := ⟨145, [(116, .ref 0 0 0 3 a1.length false), (1, .ref 0 0 0 3 a1.length false), (7, I ((a1.length : Int)))], [some ⟨0, eL a1⟩]⟩) τ_ok [] [0] 1 (by exact (And.intro (.inl (eL_frz _)) trivial)) (by kernel_rfl) ?_
  refine qA_ev (st' := ⟨145, [(118, I ((w64 (((a1.length : Int)) - 1)))), (117, I ((a1.length : Int))), (116, .ref 0 0 0 3 a1.length false), (1, .ref 0 0 0 3 a1.length false), (7, I ((a1.length : Int)))], [some ⟨0, eL a1⟩]⟩) τ_ok [] [] 2 (by exact trivial) (by kernel_rfl) ?_
  obtain ⟨v68, hv69, h⟩ := bindS h
  refine qA_E (dd := some 119) (x := .ref 0 0 0 3 v68.length false) ([some ⟨0, eL a1⟩]) (⟨145, [(119, .ref 0 0 0 3 v68.length false), (118, I ((w64 (((a1.length : Int)) - 1)))), (117, I ((a1.length : Int))), (116, .ref 0 0 0 3 a1.length false), (1, .ref 0 0 0 3 a1.length false), (7, I ((a1.length : Int)))], [some ⟨0, eL a1⟩]⟩) (fun Γ' hΓ => CoreE.of_y (slrV_sound (n := a1.length) τ_ok (by kernel_rfl) rfl hv69)) (by kernel_rfl) (by kernel_rfl) (by exact (And.intro (.inl (eL_frz _)) trivial)) (.inr (.inl rfl)) (by kernel_rfl) ?_
  refine qA_ev (st' := ⟨145, [(120, .ref 0 0 0 3 a1.length false), (119, .ref 0 0 0 3 v68.length false), (118, I ((w64 (((a1.length : Int)) - 1)))), (117, I ((a1.length : Int))), (116, .ref 0 0 0 3 a1.length false), (1, .ref 0 0 0 3 a1.length false), (7, I ((a1.length : Int)))], [some ⟨0, eL a1⟩]⟩) τ_ok [] [0] 1 (by exact (And.intro (.inl (eL_frz _)) trivial)) (by kernel_rfl) ?_
  refine qA_ev (st' := ⟨145, [(122, I ((w64 (((a1.length : Int)) - 1)))), (121, I ((a1.length : Int))), (120, .ref 0 0 0 3 a1.length false), (119, .ref 0 0 0 3 v68.length false), (118, I ((w64 (((a1.length : Int)) - 1)))), (117, I ((a1.length : Int))), (116, .ref 0 0 0 3 a1.length false), (1, .ref 0 0 0 3 a1.length false), (7, I ((a1.length : Int)))], [some ⟨0, eL a1⟩]⟩) τ_ok [] [] 2 (by exact trivial) (by kernel_rfl) ?_
  obtain ⟨v70, hv71, h⟩ := bindS h
  refine qA_E (dd := some 123) (x := .ptr 0 0 (((w64 (((a1.length : Int)) - 1))).toNat * 3)) ([some ⟨0, eL a1⟩]) (⟨145, [(123, .ptr 0 0 (((w64 (((a1.length : Int)) - 1))).toNat * 3)), (122, I ((w64 (((a1.length : Int)) - 1)))), (121, I ((a1.length : Int))), (120, .ref 0 0 0 3 a1.length false), (119, .ref 0 0 0 3 v68.length false), (118, I ((w64 (((a1.length : Int)) - 1)))), (117, I ((a1.length : Int))), (116, .ref 0 0 0 3 a1.length false), (1, .ref 0 0 0 3 a1.length false), (7, I ((a1.length : Int)))], [some ⟨0, eL a1⟩]⟩) (fun Γ' hΓ => CoreE.of_y (idrV_sound (n := a1.length) τ_ok (by kernel_rfl) hv71 rfl)) (by kernel_rfl) (by kernel_rfl) (by exact (And.intro (.inl (eL_frz _)) trivial)) (.inr (.inl rfl)) (by kernel_rfl) ?_
  refine qA_E (dd := some 124) (x := E v70) ([some ⟨0, eL a1⟩]) (⟨145, [(124, E v70), (123, .ptr 0 0 (((w64 (((a1.length : Int)) - 1))).toNat * 3)), (122, I ((w64 (((a1.length : Int)) - 1)))), (121, I ((a1.length : Int))), (120, .ref 0 0 0 3 a1.length false), (119, .ref 0 0 0 3 v68.length false), (118, I ((w64 (((a1.length : Int)) - 1)))), (117, I ((a1.length : Int))), (116, .ref 0 0 0 3 a1.length false), (1, .ref 0 0 0 3 a1.length false), (7, I ((a1.length : Int)))], [some ⟨0, eL a1⟩]⟩) (fun Γ' hΓ => CoreE.of_y (ldeV_sound (t := 117) (o' := 0) (r := E v70) τ_ok hv71 (by kernel_rfl) (by kernel_rfl))) (by kernel_rfl) (by kernel_rfl) (by exact (And.intro (.inl (eL_frz _)) trivial)) (.inr (.inr rfl)) (by kernel_rfl) ?_
  obtain ⟨v72, hv73, h⟩ := bindS h
  refine qA_E (dd := some 125) (x := I v72) ([none]) (⟨145, [(125, I v72), (124, E v70), (123, .ptr 0 0 (((w64 (((a1.length : Int)) - 1))).toNat * 3)), (122, I ((w64 (((a1.length : Int)) - 1)))), (121, I ((a1.length : Int))), (120, .ref 0 0 0 3 a1.length false), (119, .ref 0 0 0 3 v68.length false), (118, I ((w64 (((a1.length : Int)) - 1)))), (117, I ((a1.length : Int))), (116, .ref 0 0 0 3 a1.length false), (1, .ref 0 0 0 3 a1.length false), (7, I ((a1.length : Int)))], [some ⟨0, eL a1⟩]⟩) (fun Γ' hΓ => CoreE.of_g (callV_sound (τ := τ) (by kernel_rfl) rfl (ok_spec_TruthOf hv73) (FzTo.frz rfl))) (by kernel_rfl) (by kernel_rfl) (by exact trivial) (.inr (.inr rfl)) (by kernel_rfl) ?_
  obtain ⟨v74, hv75, h⟩ := bindS h
  refine qA_E (dd := some 126) (x := I v74) ([none]) (⟨145, [(126, I v74), (125, I v72), (124, E v70), (123, .ptr 0 0 (((w64 (((a1.length : Int)) - 1))).toNat * 3)), (122, I ((w64 (((a1.length : Int)) - 1)))), (121, I ((a1.length : Int))), (120, .ref 0 0 0 3 a1.length false), (119, .ref 0 0 0 3 v68.length false), (118, I ((w64 (((a1.length : Int)) - 1)))), (117, I ((a1.length : Int))), (116, .ref 0 0 0 3 a1.length false), (1, .ref 0 0 0 3 a1.length false), (7, I ((a1.length : Int)))], [some ⟨0, eL a1⟩]⟩) (fun Γ' hΓ => CoreE.of_g (callV_sound (τ := τ) (by kernel_rfl) rfl (ok_spec_NotOf hv75) (FzTo.frz rfl))) (by kernel_rfl) (by kernel_rfl) (by exact trivial) (.inr (.inr rfl)) (by kernel_rfl) ?_
  obtain ⟨v76, hv77, h⟩ := bindS h
  refine qA_E (dd := some 127) (x := E v76) ([none]) (⟨145, [(127, E v76), (126, I v74), (125, I v72), (124, E v70), (123, .ptr 0 0 (((w64 (((a1.length : Int)) - 1))).toNat * 3)), (122, I ((w64 (((a1.length : Int)) - 1)))), (121, I ((a1.length : Int))), (120, .ref 0 0 0 3 a1.length false), (119, .ref 0 0 0 3 v68.length false), (118, I ((w64 (((a1.length : Int)) - 1)))), (117, I ((a1.length : Int))), (116, .ref 0 0 0 3 a1.length false), (1, .ref 0 0 0 3 a1.length false), (7, I ((a1.length : Int)))], [some ⟨0, eL a1⟩]⟩) (fun Γ' hΓ => CoreE.of_g (callV_sound (τ := τ) (by kernel_rfl) rfl (ok_spec_ValueOf hv77) (FzTo.frz rfl))) (by kernel_rfl) (by kernel_rfl) (by exact trivial) (.inr (.inr rfl)) (by kernel_rfl) ?_
  refine qA_ev (st' := ⟨145, [(128, .arr 3 (([v76] : List T_impl_Value)).length (eL ([v76] : List T_impl_Value)) true), (127, E v76), (126, I v74), (125, I v72), (124, E v70), (123, .ptr 0 0 (((w64 (((a1.length : Int)) - 1))).toNat * 3)), (122, I ((w64 (((a1.length : Int)) - 1)))), (121, I ((a1.length : Int))), (120, .ref 0 0 0 3 a1.length false), (119, .ref 0 0 0 3 v68.length false), (118, I ((w64 (((a1.length : Int)) - 1)))), (117, I ((a1.length : Int))), (116, .ref 0 0 0 3 a1.length false), (1, .ref 0 0 0 3 a1.length false), (7, I ((a1.length : Int)))], [some ⟨0, eL a1⟩]⟩) τ_ok [] [] 1 (by exact trivial) (by kernel_rfl) ?_
  obtain ⟨v78, hv79, h⟩ := bindS h
  refine qA_E (dd := some 129) (x := .ref 0 1 0 3 v78.length false) ([some ⟨1, eL v78⟩]) (⟨145, [(129, .ref 0 1 0 3 v78.length false), (128, .arr 3 (([v76] : List T_impl_Value)).length (eL ([v76] : List T_impl_Value)) true), (127, E v76), (126, I v74), (125, I v72), (124, E v70), (123, .ptr 0 0 (((w64 (((a1.length : Int)) - 1))).toNat * 3)), (122, I ((w64 (((a1.length : Int)) - 1)))), (121, I ((a1.length : Int))), (120, .ref 0 0 0 3 a1.length false), (119, .ref 0 0 0 3 v68.length false), (118, I ((w64 (((a1.length : Int)) - 1)))), (117, I ((a1.length : Int))), (116, .ref 0 0 0 3 a1.length false), (1, .ref 0 0 0 3 a1.length false), (7, I ((a1.length : Int)))], [some ⟨1, eL v78⟩]⟩) (fun Γ' hΓ => app_E τ_ok 129 0 0 v68.length (fun b hb => absurd (hΓ b hb) (hX b)) hv79 (slI_le hv69) (by kernel_rfl)) (by kernel_rfl) (by kernel_rfl) (by exact (And.intro (.inl (eL_frz _)) trivial)) (.inr (.inl rfl)) (by kernel_rfl) ?_
  refine qA_ev (st' := ⟨145, [(6, .ref 0 1 0 3 v78.length false), (129, .ref 0 1 0 3 v78.length false), (128, .arr 3 (([v76] : List T_impl_Value)).length (eL ([v76] : List T_impl_Value)) true), (127, E v76), (126, I v74), (125, I v72), (124, E v70), (123, .ptr 0 0 (((w64 (((a1.length : Int)) - 1))).toNat * 3)), (122, I ((w64 (((a1.length : Int)) - 1)))), (121, I ((a1.length : Int))), (120, .ref 0 0 0 3 a1.length false), (119, .ref 0 0 0 3 v68.length false), (118, I ((w64 (((a1.length : Int)) - 1)))), (117, I ((a1.length : Int))), (116, .ref 0 0 0 3 a1.length false), (1, .ref 0 0 0 3 a1.length false), (7, I ((a1.length : Int)))], [some ⟨1, eL v78⟩]⟩) τ_ok [] [0] 1 (by exact (And.intro (.inl (eL_frz _)) trivial)) (by kernel_rfl) ?_
  refine qA_end ?_
  refine opsP_imp (Imp.to (st' := ⟨145, [(6, .ref 0 1 0 3 v78.length false)], [some ⟨1, eL v78⟩]⟩) [6] (by kernel_rfl)) ?_
  refine opsP_end rfl ?_
  have h := si h
  subst h
  exact pwp_ret (rt (.ref 0 1 0 3 v78.length false) (OutP.list (v := 1) (by kernel_rfl)))
  refine pwp_skip ?_
  refine pwp_seq ?_
  refine pwp_imp (Imp.to (st' := ⟨145, [(1, .ref 0 0 0 3 a1.length false), (7, I ((a1.length : Int)))], [some ⟨0, eL a1⟩]⟩) [1, 7] (by kernel_rfl)) ?_
  refine pwp_any ([[0], [], [], [0], [0], [], [], [0], [0], [0], [], [], [], [], [0], [0]]) ([[], [], [], [], [], [], [], [], [], [], [], [], [], [], [0], []]) rfl (by kernel_rfl) ?_
  refine qA_ev (st' := ⟨145, [(130, .ref 0 0 0 3 a1.length false), (1, .ref 0 0 0 3 a1.length false), (7, I ((a1.length : Int)))], [some ⟨0, eL a1⟩]⟩) τ_ok [] [0] 1 (by exact (And.intro (.inl (eL_frz _)) trivial)) (by kernel_rfl) ?_
  refine qA_ev (st' := ⟨145, [(132, I ((w64 (((a1.length : Int)) - 1)))), (131, I ((a1.length : Int))), (130, .ref 0 0 0 3 a1.length false), (1, .ref 0 0 0 3 a1.length false), (7, I ((a1.length : Int)))], [some ⟨0, eL a1⟩]⟩) τ_ok [] [] 2 (by exact trivial) (by kernel_rfl) ?_
  obtain ⟨v80, hv81, h⟩ := bindS h
  refine qA_E (dd := some 133) (x := .ref 0 0 0 3 v80.length false) ([some ⟨0, eL a1⟩]) (⟨145, [(133, .ref 0 0 0 3 v80.length false), (132, I ((w64 (((a1.length : Int)) - 1)))), (131, I ((a1.length : Int))), (130, .ref 0 0 0 3 a1.length false), (1, .ref 0 0 0 3 a1.length false), (7, I ((a1.length : Int)))], [some ⟨0, eL a1⟩]⟩) (fun Γ' hΓ => CoreE.of_y (slrV_sound (n := a1.length) τ_ok (by kernel_rfl) rfl hv81)) (by kernel_rfl) (by kernel_rfl) (by exact (And.intro (.inl (eL_frz _)) trivial)) (.inr (.inl rfl)) (by kernel_rfl) ?_
  refine qA_ev (st' := ⟨145, [(134, .ref 0 0 0 3 a1.length false), (133, .ref 0 0 0 3 v80.length false), (132, I ((w64 (((a1.length : Int)) - 1)))), (131, I ((a1.length : Int))), (130, .ref 0 0 0 3 a1.length false), (1, .ref 0 0 0 3 a1.length false), (7, I ((a1.length : Int)))], [some ⟨0, eL a1⟩]⟩) τ_ok [] [0] 1 (by exact (And.intro (.inl (eL_frz _)) trivial)) (by kernel_rfl) ?_
  refine qA_ev (st' := ⟨145, [(136, I ((w64 (((a1.length : Int)) - 1)))), (135, I ((a1.length : Int))), (134, .ref 0 0 0 3 a1.length false), (133, .ref 0 0 0 3 v80.length false), (132, I ((w64 (((a1.length : Int)) - 1)))), (131, I ((a1.length : Int))), (130, .ref 0 0 0 3 a1.length false), (1, .ref 0 0 0 3 a1.length false), (7, I ((a1.length : Int)))], [some ⟨0, eL a1⟩]⟩) τ_ok [] [] 2 (by exact trivial) (by kernel_rfl) ?_
  obtain ⟨v82, hv83, h⟩ := bindS h
  refine qA_E (dd := some 137) (x := .ptr 0 0 (((w64 (((a1.length : Int)) - 1))).toNat * 3)) ([some ⟨0, eL a1⟩]) (⟨145, [(137, .ptr 0 0 (((w64 (((a1.length : Int)) - 1))).toNat * 3)), (136, I ((w64 (((a1.length : Int)) - 1)))), (135, I ((a1.length : Int))), (134, .ref 0 0 0 3 a1.length false), (133, .ref 0 0 0 3 v80.length false), (132, I ((w64 (((a1.length : Int)) - 1)))), (131, I ((a1.length : Int))), (130, .ref 0 0 0 3 a1.length false), (1, .ref 0 0 0 3 a1.length false), (7, I ((a1.length : Int)))], [some ⟨0, eL a1⟩]⟩) (fun Γ' hΓ => CoreE.of_y (idrV_sound (n := a1.length) τ_ok (by kernel_rfl) hv83 rfl)) (by kernel_rfl) (by kernel_rfl) (by exact (And.intro (.inl (eL_frz _)) trivial)) (.inr (.inl rfl)) (by kernel_rfl) ?_
  refine qA_ev (st' := ⟨145, [(138, .ptr 0 0 (((w64 (((a1.length : Int)) - 1))).toNat * 3)), (137, .ptr 0 0 (((w64 (((a1.length : Int)) - 1))).toNat * 3)), (136, I ((w64 (((a1.length : Int)) - 1)))), (135, I ((a1.length : Int))), (134, .ref 0 0 0 3 a1.length false), (133, .ref 0 0 0 3 v80.length false), (132, I ((w64 (((a1.length : Int)) - 1)))), (131, I ((a1.length : Int))), (130, .ref 0 0 0 3 a1.length false), (1, .ref 0 0 0 3 a1.length false), (7, I ((a1.length : Int)))], [some ⟨0, eL a1⟩]⟩) τ_ok [] [0] 1 (by exact (And.intro (.inl (eL_frz _)) trivial)) (by kernel_rfl) ?_
  refine qA_E (dd := some 139) (x := I v82.fKind) ([some ⟨0, eL a1⟩]) (⟨145, [(139, I v82.fKind), (138, .ptr 0 0 (((w64 (((a1.length : Int)) - 1))).toNat * 3)), (137, .ptr 0 0 (((w64 (((a1.length : Int)) - 1))).toNat * 3)), (136, I ((w64 (((a1.length : Int)) - 1)))), (135, I ((a1.length : Int))), (134, .ref 0 0 0 3 a1.length false), (133, .ref 0 0 0 3 v80.length false), (132, I ((w64 (((a1.length : Int)) - 1)))), (131, I ((a1.length : Int))), (130, .ref 0 0 0 3 a1.length false), (1, .ref 0 0 0 3 a1.length false), (7, I ((a1.length : Int)))], [some ⟨0, eL a1⟩]⟩) (fun Γ' hΓ => CoreE.of_y (ldeV_sound (t := 3) (o' := 0) (r := I v82.fKind) τ_ok hv83 (by kernel_rfl) (by kernel_rfl))) (by kernel_rfl) (by kernel_rfl) (by exact (And.intro (.inl (eL_frz _)) trivial)) (.inr (.inr rfl)) (by kernel_rfl) ?_
  refine qA_ev (st' := ⟨145, [(140, B ((v82.fKind == 0))), (139, I v82.fKind), (138, .ptr 0 0 (((w64 (((a1.length : Int)) - 1))).toNat * 3)), (137, .ptr 0 0 (((w64 (((a1.length : Int)) - 1))).toNat * 3)), (136, I ((w64 (((a1.length : Int)) - 1)))), (135, I ((a1.length : Int))), (134, .ref 0 0 0 3 a1.length false), (133, .ref 0 0 0 3 v80.length false), (132, I ((w64 (((a1.length : Int)) - 1)))), (131, I ((a1.length : Int))), (130, .ref 0 0 0 3 a1.length false), (1, .ref 0 0 0 3 a1.length false), (7, I ((a1.length : Int)))], [some ⟨0, eL a1⟩]⟩) τ_ok [] [] 1 (by exact trivial) (by kernel_rfl) ?_
  obtain ⟨v84, hv85, h⟩ := bindS h
  refine qA_E (dd := some 141) (x := I v84) ([none]) (⟨145, [(141, I v84), (140, B ((v82.fKind == 0))), (139, I v82.fKind), (138, .ptr 0 0 (((w64 (((a1.length : Int)) - 1))).toNat * 3)), (137, .ptr 0 0 (((w64 (((a1.length : Int)) - 1))).toNat * 3)), (136, I ((w64 (((a1.length : Int)) - 1)))), (135, I ((a1.length : Int))), (134, .ref 0 0 0 3 a1.length false), (133, .ref 0 0 0 3 v80.length false), (132, I ((w64 (((a1.length : Int)) - 1)))), (131, I ((a1.length : Int))), (130, .ref 0 0 0 3 a1.length false), (1, .ref 0 0 0 3 a1.length false), (7, I ((a1.length : Int)))], [some ⟨0, eL a1⟩]⟩) (fun Γ' hΓ => CoreE.of_g (callV_sound (τ := τ) (by kernel_rfl) rfl (ok_spec_l2Bool hv85) (FzTo.frz rfl))) (by kernel_rfl) (by kernel_rfl) (by exact trivial) (.inr (.inr rfl)) (by kernel_rfl) ?_
  obtain ⟨v86, hv87, h⟩ := bindS h
  refine qA_E (dd := some 142) (x := E v86) ([none]) (⟨145, [(142, E v86), (141, I v84), (140, B ((v82.fKind == 0))), (139, I v82.fKind), (138, .ptr 0 0 (((w64 (((a1.length : Int)) - 1))).toNat * 3)), (137, .ptr 0 0 (((w64 (((a1.length : Int)) - 1))).toNat * 3)), (136, I ((w64 (((a1.length : Int)) - 1)))), (135, I ((a1.length : Int))), (134, .ref 0 0 0 3 a1.length false), (133, .ref 0 0 0 3 v80.length false), (132, I ((w64 (((a1.length : Int)) - 1)))), (131, I ((a1.length : Int))), (130, .ref 0 0 0 3 a1.length false), (1, .ref 0 0 0 3 a1.length false), (7, I ((a1.length : Int)))], [some ⟨0, eL a1⟩]⟩) (fun Γ' hΓ => CoreE.of_g (callV_sound (τ := τ) (by kernel_rfl) rfl (ok_spec_ValueOf hv87) (FzTo.frz rfl))) (by kernel_rfl) (by kernel_rfl) (by exact trivial) (.inr (.inr rfl)) (by kernel_rfl) ?_
  refine qA_ev (st' := ⟨145, [(143, .arr 3 (([v86] : List T_impl_Value)).length (eL ([v86] : List T_impl_Value)) true), (142, E v86), (141, I v84), (140, B ((v82.fKind == 0))), (139, I v82.fKind), (138, .ptr 0 0 (((w64 (((a1.length : Int)) - 1))).toNat * 3)), (137, .ptr 0 0 (((w64 (((a1.length : Int)) - 1))).toNat * 3)), (136, I ((w64 (((a1.length : Int)) - 1)))), (135, I ((a1.length : Int))), (134, .ref 0 0 0 3 a1.length false), (133, .ref 0 0 0 3 v80.length false), (132, I ((w64 (((a1.length : Int)) - 1)))), (131, I ((a1.length : Int))), (130, .ref 0 0 0 3 a1.length false), (1, .ref 0 0 0 3 a1.length false), (7, I ((a1.length : Int)))], [some ⟨0, eL a1⟩]⟩) τ_ok [] [] 1 (by exact trivial) (by kernel_rfl) ?_
  obtain ⟨v88, hv89, h⟩ := bindS h
  refine qA_E (dd := some 144) (x := .ref 0 1 0 3 v88.length false) ([some ⟨1, eL v88⟩]) (⟨145, [(144, .ref 0 1 0 3 v88.length false), (143, .arr 3 (([v86] : List T_impl_Value)).length (eL ([v86] : List T_impl_Value)) true), (142, E v86), (141, I v84), (140, B ((v82.fKind == 0))), (139, I v82.fKind), (138, .ptr 0 0 (((w64 (((a1.length : Int)) - 1))).toNat * 3)), (137, .ptr 0 0 (((w64 (((a1.length : Int)) - 1))).toNat * 3)), (136, I ((w64 (((a1.length : Int)) - 1)))), (135, I ((a1.length : Int))), (134, .ref 0 0 0 3 a1.length false), (133, .ref 0 0 0 3 v80.length false), (132, I ((w64 (((a1.length : Int)) - 1)))), (131, I ((a1.length : Int))), (130, .ref 0 0 0 3 a1.length false), (1, .ref 0 0 0 3 a1.length false), (7, I ((a1.length : Int)))], [some ⟨1, eL v88⟩]⟩) (fun Γ' hΓ => app_E τ_ok 144 0 0 v80.length (fun b hb => absurd (hΓ b hb) (hX b)) hv89 (slI_le hv81) (by kernel_rfl)) (by kernel_rfl) (by kernel_rfl) (by exact (And.intro (.inl (eL_frz _)) trivial)) (.inr (.inl rfl)) (by kernel_rfl) ?_
  refine qA_ev (st' := ⟨145, [(6, .ref 0 1 0 3 v88.length false), (144, .ref 0 1 0 3 v88.length false), (143, .arr 3 (([v86] : List T_impl_Value)).length (eL ([v86] : List T_impl_Value)) true), (142, E v86), (141, I v84), (140, B ((v82.fKind == 0))), (139, I v82.fKind), (138, .ptr 0 0 (((w64 (((a1.length : Int)) - 1))).toNat * 3)), (137, .ptr 0 0 (((w64 (((a1.length : Int)) - 1))).toNat * 3)), (136, I ((w64 (((a1.length : Int)) - 1)))), (135, I ((a1.length : Int))), (134, .ref 0 0 0 3 a1.length false), (133, .ref 0 0 0 3 v80.length false), (132, I ((w64 (((a1.length : Int)) - 1)))), (131, I ((a1.length : Int))), (130, .ref 0 0 0 3 a1.length false), (1, .ref 0 0 0 3 a1.length false), (7, I ((a1.length : Int)))], [some ⟨1, eL v88⟩]⟩) τ_ok [] [0] 1 (by exact (And.intro (.inl (eL_frz _)) trivial)) (by kernel_rfl) ?_
  refine qA_end ?_
  refine opsP_imp (Imp.to (st' := ⟨145, [(6, .ref 0 1 0 3 v88.length false)], [some ⟨1, eL v88⟩]⟩) [6] (by kernel_rfl)) ?_
  refine opsP_end rfl ?_
  have h := si h
  subst h
  exact pwp_ret (rt (.ref 0 1 0 3 v88.length false) (OutP.list (v := 1) (by kernel_rfl)))
def impl_Part_kind (a0 : T_impl_Part) (a1 : List T_impl_Column) (a2 : List Int) : Option (Int × Bool) := bif (a0.fKind == 1) then some (a0.fV.fKind, true) else bif (a0.fKind == 2) then (getI a1 a0.fN).bind fun v3 => some (v3.fKind, true) else bif (a0.fKind == 3) then (impl_Part_kind_1 1 a2).bind fun v6 => some (1, v6) else bif (a0.fKind == 4) then (getI a2 0).bind fun v9 => (getI a2 1).bind fun v11 => some (3, (v9 == v11)) else bif (a0.fKind == 8) then some (3, true) else (impl_Part_kind_1 3 a2).bind fun v14 => some (3, v14)
theorem ok_impl_Part_kind {a0 : T_impl_Part} {a1 : List T_impl_Column} {a2 : List Int} {y : Int × Bool} (h : impl_Part_kind a0 a1 a2 = some y) : OK Tryz.prog 127 [E a0, A a1, A a2] (.tup [I y.1, B y.2]) := by
  refine OK_of_pwp τ_ok Tryz.func127 rfl (by kernel_rfl) rfl fun Γ hX => ?_
  unfold impl_Part_kind at h
  refine srve 42 [(1, A a1), (3, .fptr (Enc.cells a0) 0), (5, .fptr (Enc.cells a2) 0)] [] ?_
  refine srve 42 [(1, A a1), (3, .fptr (Enc.cells a0) 0), (5, .fptr (Enc.cells a2) 0), (8, .fn 163 [.fptr (Enc.cells a2) 0])] [] ?_
  refine pwp_seq ?_
  refine srve 42 [(1, A a1), (3, .fptr (Enc.cells a0) 0), (5, .fptr (Enc.cells a2) 0), (8, .fn 163 [.fptr (Enc.cells a2) 0]), (11, I a0.fKind)] [] ?_
  refine pwp_block ?_
  refine srve 42 [(1, A a1), (3, .fptr (Enc.cells a0) 0), (5, .fptr (Enc.cells a2) 0), (8, .fn 163 [.fptr (Enc.cells a2) 0]), (11, I a0.fKind), (12, B ((a0.fKind == 1)))] [] ?_
  refine pc h (fun h => ?_) (fun h => ?_)
  refine srve 42 [(6, I a0.fV.fKind), (7, B true)] [] ?_
  have h := si h
  subst h
  exact pwp_ret (rt (.tup [I a0.fV.fKind, B true]) (OutP.tup (OutL.cons (OutP.frz (by kernel_rfl)) (OutL.cons (OutP.frz (by kernel_rfl)) (OutL.nil _)))))
  refine srve 42 [(1, A a1), (3, .fptr (Enc.cells a0) 0), (5, .fptr (Enc.cells a2) 0), (8, .fn 163 [.fptr (Enc.cells a2) 0]), (11, I a0.fKind), (17, B ((a0.fKind == 2)))] [] ?_
  refine pc h (fun h => ?_) (fun h => ?_)
  refine srv 3 42 [(19, A a1), (21, I a0.fN)] [] ?_
  obtain ⟨v3, hv4, h⟩ := bindS h
  refine opsP_idx τ_ok 22 hv4 (by kernel_rfl) ?_
  refine ve 4 42 [(6, I v3.fKind), (7, B true)] [] ?_
  have h := si h
  subst h
  exact pwp_ret (rt (.tup [I v3.fKind, B true]) (OutP.tup (OutL.cons (OutP.frz (by kernel_rfl)) (OutL.cons (OutP.frz (by kernel_rfl)) (OutL.nil _)))))
  refine srve 42 [(5, .fptr (Enc.cells a2) 0), (8, .fn 163 [.fptr (Enc.cells a2) 0]), (11, I a0.fKind), (25, B ((a0.fKind == 3)))] [] ?_
  refine pc h (fun h => ?_) (fun h => ?_)
  refine srv 1 42 [(27, .fn 163 [.fptr (Enc.cells a2) 0])] [] ?_
  obtain ⟨v6, hv7, h⟩ := bindS h
  refine opsP_callF τ 28 (ok_impl_Part_kind_1 hv7) (FzTo.frz rfl) rfl (by kernel_rfl) ?_
  refine ve 2 42 [(6, I 1), (7, B v6)] [] ?_
  have h := si h
  subst h
  exact pwp_ret (rt (.tup [I 1, B v6]) (OutP.tup (OutL.cons (OutP.frz (by kernel_rfl)) (OutL.cons (OutP.frz (by kernel_rfl)) (OutL.nil _)))))
  refine srve 42 [(5, .fptr (Enc.cells a2) 0), (8, .fn 163 [.fptr (Enc.cells a2) 0]), (11, I a0.fKind), (29, B ((a0.fKind == 4)))] [] ?_
  refine pc h (fun h => ?_) (fun h => ?_)
  refine pwp_seq ?_
  refine pwp_imp (Imp.to (st' := ⟨42, [(5, .fptr (Enc.cells a2) 0)], []⟩) [5] (by kernel_rfl)) ?_
  refine pwp_any ([[], [], [], [], [], [], [], [], []]) ([[], [], [], [], [], [], [], [], []]) rfl (by kernel_rfl) ?_
  refine qA_ev (st' := ⟨42, [(31, A a2), (5, .fptr (Enc.cells a2) 0)], []⟩) τ_ok [] [] 1 (by exact trivial) (by kernel_rfl) ?_
  obtain ⟨v9, hv10, h⟩ := bindS h
  refine qA_E (dd := some 32) (x := .fptr (Enc.cells v9) 0) ([]) (⟨42, [(32, .fptr (Enc.cells v9) 0), (31, A a2), (5, .fptr (Enc.cells a2) 0)], []⟩) (fun Γ' hΓ => CoreE.of_y (idxV_sound τ_ok (by kernel_rfl) hv10)) (by kernel_rfl) (by kernel_rfl) (by exact trivial) (.inr (.inr rfl)) (by kernel_rfl) ?_
  refine qA_ev (st' := ⟨42, [(34, A a2), (33, I v9), (32, .fptr (Enc.cells v9) 0), (31, A a2), (5, .fptr (Enc.cells a2) 0)], []⟩) τ_ok [] [] 2 (by exact trivial) (by kernel_rfl) ?_
  obtain ⟨v11, hv12, h⟩ := bindS h
  refine qA_E (dd := some 35) (x := .fptr (Enc.cells v11) 0) ([]) (⟨42, [(35, .fptr (Enc.cells v11) 0), (34, A a2), (33, I v9), (32, .fptr (Enc.cells v9) 0), (31, A a2), (5, .fptr (Enc.cells a2) 0)], []⟩) (fun Γ' hΓ => CoreE.of_y (idxV_sound τ_ok (by kernel_rfl) hv12)) (by kernel_rfl) (by kernel_rfl) (by exact trivial) (.inr (.inr rfl)) (by kernel_rfl) ?_
  refine qA_ev (st' := ⟨42, [(7, B ((v9 == v11))), (6, I 3), (37, B ((v9 == v11))), (36, I v11), (35, .fptr (Enc.cells v11) 0), (34, A a2), (33, I v9), (32, .fptr (Enc.cells v9) 0), (31, A a2), (5, .fptr (Enc.cells a2) 0)], []⟩) τ_ok [] [] 4 (by exact trivial) (by kernel_rfl) ?_
  refine qA_end ?_
  refine opsP_imp (Imp.to (st' := ⟨42, [(6, I 3), (7, B ((v9 == v11)))], []⟩) [6, 7] (by kernel_rfl)) ?_
  refine opsP_end rfl ?_
  have h := si h
  subst h
  exact pwp_ret (rt (.tup [I 3, B ((v9 == v11))]) (OutP.tup (OutL.cons (OutP.frz (by kernel_rfl)) (OutL.cons (OutP.frz (by kernel_rfl)) (OutL.nil _)))))
  refine srve 42 [(8, .fn 163 [.fptr (Enc.cells a2) 0]), (38, B ((a0.fKind == 8)))] [] ?_
  refine pc h (fun h => ?_) (fun h => ?_)
  refine srve 42 [(6, I 3), (7, B true)] [] ?_
  have h := si h
  subst h
  exact pwp_ret (rt (.tup [I 3, B true]) (OutP.tup (OutL.cons (OutP.frz (by kernel_rfl)) (OutL.cons (OutP.frz (by kernel_rfl)) (OutL.nil _)))))
  refine pwp_skip ?_
  refine srv 1 42 [(40, .fn 163 [.fptr (Enc.cells a2) 0])] [] ?_
  obtain ⟨v14, hv15, h⟩ := bindS h
  refine opsP_callF τ 41 (ok_impl_Part_kind_1 hv15) (FzTo.frz rfl) rfl (by kernel_rfl) ?_
  refine ve 2 42 [(6, I 3), (7, B v14)] [] ?_
  have h := si h
  subst h
  exact pwp_ret (rt (.tup [I 3, B v14]) (OutP.tup (OutL.cons (OutP.frz (by kernel_rfl)) (OutL.cons (OutP.frz (by kernel_rfl)) (OutL.nil _)))))
def impl_BatchOk (a0 : T_impl_Batch) : Option Bool := bif (decide (((a0.fColumns.length : Int)) ≤ 4)) then bif (decide (((a0.fPicked.length : Int)) ≤ 4)) then (slices_ContainsFunc_impl_Value_impl_Value_s3 a0.fColumns (fun z0 => impl_BatchOk_1 z0 a0)).bind fun v1 => some ((!v1)) else some false else some false
theorem ok_impl_BatchOk {a0 : T_impl_Batch} {y : Bool} (h : impl_BatchOk a0 = some y) : OK Tryz.prog 128 [E a0] (B y) := by
  refine OK_of_pwp τ_ok Tryz.func128 rfl (by kernel_rfl) rfl fun Γ hX => ?_
  unfold impl_BatchOk at h
  refine srve 20 [(1, .fptr (Enc.cells a0) 0)] [] ?_
  refine srv 5 20 [(1, .fptr (Enc.cells a0) 0), (7, B ((decide (((a0.fColumns.length : Int)) ≤ 4))))] [] ?_
  rcases fk ((decide (((a0.fColumns.length : Int)) ≤ 4))) with hc4 | hc4
  replace h := bT hc4 h
  rw [hc4]
  refine v 6 20 [(1, .fptr (Enc.cells a0) 0), (13, B ((decide (((a0.fPicked.length : Int)) ≤ 4))))] [] ?_
  rcases fk ((decide (((a0.fPicked.length : Int)) ≤ 4))) with hc3 | hc3
  replace h := bT hc3 h
  rw [hc3]
  refine v 3 20 [(13, B true), (15, A a0.fColumns), (16, .fn 167 [.fptr (Enc.cells a0) 0])] [] ?_
  obtain ⟨v1, hv2, h⟩ := bindS h
  refine opsP_callF τ 17 (ok_slices_ContainsFunc_impl_Value_impl_Value_s3 (rfl) (fun _ w hw => ok_impl_BatchOk_1 hw) hv2) (FzTo.frz rfl) rfl (by kernel_rfl) ?_
  refine ve 3 20 [(2, B ((!v1)))] [] ?_
  cases h
  exact pwp_ret rz
  replace h := bF hc3 h
  rw [hc3]
  refine ve 7 20 [(2, B false)] [] ?_
  cases h
  exact pwp_ret rz
  replace h := bF hc4 h
  rw [hc4]
  refine ve 13 20 [(2, B false)] [] ?_
  cases h
  exact pwp_ret rz
def impl_Compare_j1 (a0 : Int) (a1 : T_impl_Value) (a2 : T_impl_Value) (x3 : Bool) : Option Int := bif x3 then some 2 else bif (!(a1.fKind == a2.fKind)) then some (-1) else (impl_Value_order a1 a2).bind fun v6 => bif (a0 == 1) then bif (v6 == 0) then (impl_truthIf true).bind fun v8 => some v8 else bif (a0 == 2) then bif (!(v6 == 0)) then (impl_truthIf true).bind fun v10 => some v10 else bif (a0 == 3) then bif (decide (v6 < 0)) then (impl_truthIf true).bind fun v12 => some v12 else bif (a0 == 4) then (impl_truthIf ((decide (v6 ≤ 0)))).bind fun v14 => some v14 else (impl_truthIf false).bind fun v16 => some v16 else bif (a0 == 4) then (impl_truthIf ((decide (v6 ≤ 0)))).bind fun v20 => some v20 else (impl_truthIf false).bind fun v22 => some v22 else bif (a0 == 3) then bif (decide (v6 < 0)) then (impl_truthIf true).bind fun v27 => some v27 else bif (a0 == 4) then (impl_truthIf ((decide (v6 ≤ 0)))).bind fun v29 => some v29 else (impl_truthIf false).bind fun v31 => some v31 else bif (a0 == 4) then (impl_truthIf ((decide (v6 ≤ 0)))).bind fun v35 => some v35 else (impl_truthIf false).bind fun v37 => some v37 else bif (a0 == 2) then bif (!(v6 == 0)) then (impl_truthIf true).bind fun v43 => some v43 else bif (a0 == 3) then bif (decide (v6 < 0)) then (impl_truthIf true).bind fun v45 => some v45 else bif (a0 == 4) then (impl_truthIf ((decide (v6 ≤ 0)))).bind fun v47 => some v47 else (impl_truthIf false).bind fun v49 => some v49 else bif (a0 == 4) then (impl_truthIf ((decide (v6 ≤ 0)))).bind fun v53 => some v53 else (impl_truthIf false).bind fun v55 => some v55 else bif (a0 == 3) then bif (decide (v6 < 0)) then (impl_truthIf true).bind fun v60 => some v60 else bif (a0 == 4) then (impl_truthIf ((decide (v6 ≤ 0)))).bind fun v62 => some v62 else (impl_truthIf false).bind fun v64 => some v64 else bif (a0 == 4) then (impl_truthIf ((decide (v6 ≤ 0)))).bind fun v68 => some v68 else (impl_truthIf false).bind fun v70 => some v70
def impl_Compare_j0 (a0 : Int) (a1 : T_impl_Value) (a2 : T_impl_Value) (x1 : Bool) : Option Int := bif x1 then some (-1) else bif (a1.fKind == 0) then impl_Compare_j1 a0 a1 a2 true else impl_Compare_j1 a0 a1 a2 ((a2.fKind == 0))
def impl_Compare (a0 : Int) (a1 : T_impl_Value) (a2 : T_impl_Value) : Option Int := (impl_between a0 1 4).bind fun v77 => bif (!v77) then impl_Compare_j0 a0 a1 a2 true else (impl_Value_ok a1).bind fun v79 => bif (!v79) then impl_Compare_j0 a0 a1 a2 true else (impl_Value_ok a2).bind fun v81 => impl_Compare_j0 a0 a1 a2 ((!v81))
theorem ok_impl_Compare {a0 : Int} {a1 : T_impl_Value} {a2 : T_impl_Value} {y : Int} (h : impl_Compare a0 a1 a2 = some y) : OK Tryz.prog 170 [I a0, E a1, E a2] (I y) := by
  refine OK_of_pwp τ_ok Tryz.func170 rfl (by kernel_rfl) rfl fun Γ hX => ?_
  unfold impl_Compare at h
  refine srve 71 [(0, I a0), (4, .fptr (Enc.cells a1) 0), (5, .fptr (Enc.cells a2) 0)] [] ?_
  refine pwp_seq ?_
  refine pwp_block ?_
  refine pwp_seq ?_
  refine pwp_join (σ := Bool) (fun x1 => (⟨71, [(0, I a0), (4, .fptr (Enc.cells a1) 0), (5, .fptr (Enc.cells a2) 0), (8, B x1)], []⟩ : St)) (fun x1 => impl_Compare_j0 a0 a1 a2 x1 = some y) ?_ ?_
  refine rv 1 71 [(0, I a0), (4, .fptr (Enc.cells a1) 0), (5, .fptr (Enc.cells a2) 0), (9, I a0)] [] ?_
  obtain ⟨v77, hv78, h⟩ := bindS h
  refine opsP_callF τ 10 (ok_impl_between hv78) (FzTo.frz rfl) rfl (by kernel_rfl) ?_
  refine v 2 71 [(0, I a0), (4, .fptr (Enc.cells a1) 0), (5, .fptr (Enc.cells a2) 0), (12, B ((!v77)))] [] ?_
  rcases fk ((!v77)) with hc84 | hc84
  replace h := bT hc84 h
  rw [hc84]
  refine ve 10 71 [(0, I a0), (4, .fptr (Enc.cells a1) 0), (5, .fptr (Enc.cells a2) 0), (8, B true)] [] ?_
  exact ⟨true, h, (Imp.to (st' := ⟨71, [(0, I a0), (4, .fptr (Enc.cells a1) 0), (5, .fptr (Enc.cells a2) 0), (8, B true)], []⟩) [0, 4, 5, 8] (by kernel_rfl)).trans (Imp.to [0, 4, 5, 8] (by kernel_rfl))⟩
  replace h := bF hc84 h
  rw [hc84]
  refine v 1 71 [(0, I a0), (4, .fptr (Enc.cells a1) 0), (5, .fptr (Enc.cells a2) 0), (12, B false), (13, E a1)] [] ?_
  obtain ⟨v79, hv80, h⟩ := bindS h
  refine opsP_callF τ 14 (ok_impl_Value_ok hv80) (FzTo.frz rfl) rfl (by kernel_rfl) ?_
  refine v 3 71 [(0, I a0), (4, .fptr (Enc.cells a1) 0), (5, .fptr (Enc.cells a2) 0), (17, B ((!v79)))] [] ?_
  rcases fk ((!v79)) with hc83 | hc83
  replace h := bT hc83 h
  rw [hc83]
  refine ve 5 71 [(0, I a0), (4, .fptr (Enc.cells a1) 0), (5, .fptr (Enc.cells a2) 0), (8, B true)] [] ?_
  exact ⟨true, h, (Imp.to (st' := ⟨71, [(0, I a0), (4, .fptr (Enc.cells a1) 0), (5, .fptr (Enc.cells a2) 0), (8, B true)], []⟩) [0, 4, 5, 8] (by kernel_rfl)).trans (Imp.to [0, 4, 5, 8] (by kernel_rfl))⟩
  replace h := bF hc83 h
  rw [hc83]
  refine v 1 71 [(0, I a0), (4, .fptr (Enc.cells a1) 0), (5, .fptr (Enc.cells a2) 0), (17, B false), (18, E a2)] [] ?_
  obtain ⟨v81, hv82, h⟩ := bindS h
  refine opsP_callF τ 19 (ok_impl_Value_ok hv82) (FzTo.frz rfl) rfl (by kernel_rfl) ?_
  refine ve 3 71 [(0, I a0), (4, .fptr (Enc.cells a1) 0), (5, .fptr (Enc.cells a2) 0), (8, B ((!v81)))] [] ?_
  exact ⟨(!v81), h, (Imp.to (st' := ⟨71, [(0, I a0), (4, .fptr (Enc.cells a1) 0), (5, .fptr (Enc.cells a2) 0), (8, B ((!v81)))], []⟩) [0, 4, 5, 8] (by kernel_rfl)).trans (Imp.to [0, 4, 5, 8] (by kernel_rfl))⟩
  rintro x1 h
  unfold impl_Compare_j0 at h
  refine pc h (fun h => ?_) (fun h => ?_)
  refine srve 71 [(6, I (-1))] [] ?_
  cases h
  exact pwp_ret rz
  refine pwp_seq ?_
  refine pwp_join (σ := Bool) (fun x3 => (⟨71, [(0, I a0), (4, .fptr (Enc.cells a1) 0), (5, .fptr (Enc.cells a2) 0), (22, B x3)], []⟩ : St)) (fun x3 => impl_Compare_j1 a0 a1 a2 x3 = some y) ?_ ?_
  refine rv 4 71 [(0, I a0), (4, .fptr (Enc.cells a1) 0), (5, .fptr (Enc.cells a2) 0), (26, B ((a1.fKind == 0)))] [] ?_
  rcases fk ((a1.fKind == 0)) with hc76 | hc76
  replace h := bT hc76 h
  rw [hc76]
  refine ve 5 71 [(0, I a0), (4, .fptr (Enc.cells a1) 0), (5, .fptr (Enc.cells a2) 0), (22, B true)] [] ?_
  exact ⟨true, h, (Imp.to (st' := ⟨71, [(0, I a0), (4, .fptr (Enc.cells a1) 0), (5, .fptr (Enc.cells a2) 0), (22, B true)], []⟩) [0, 4, 5, 22] (by kernel_rfl)).trans (Imp.to [0, 4, 5, 22] (by kernel_rfl))⟩
  replace h := bF hc76 h
  rw [hc76]
  refine ve 5 71 [(0, I a0), (4, .fptr (Enc.cells a1) 0), (5, .fptr (Enc.cells a2) 0), (22, B ((a2.fKind == 0)))] [] ?_
  exact ⟨(a2.fKind == 0), h, (Imp.to (st' := ⟨71, [(0, I a0), (4, .fptr (Enc.cells a1) 0), (5, .fptr (Enc.cells a2) 0), (22, B ((a2.fKind == 0)))], []⟩) [0, 4, 5, 22] (by kernel_rfl)).trans (Imp.to [0, 4, 5, 22] (by kernel_rfl))⟩
  rintro x3 h
  unfold impl_Compare_j1 at h
  refine pc h (fun h => ?_) (fun h => ?_)
  refine srve 71 [(6, I 2)] [] ?_
  cases h
  exact pwp_ret rz
  refine srve 71 [(0, I a0), (4, .fptr (Enc.cells a1) 0), (5, .fptr (Enc.cells a2) 0), (31, B ((!(a1.fKind == a2.fKind))))] [] ?_
  refine pc h (fun h => ?_) (fun h => ?_)
  refine srve 71 [(6, I (-1))] [] ?_
  cases h
  exact pwp_ret rz
  refine pwp_skip ?_
  refine srv 2 71 [(0, I a0), (37, E a1), (38, E a2)] [] ?_
  obtain ⟨v6, hv7, h⟩ := bindS h
  refine opsP_callF τ 39 (ok_impl_Value_order hv7) (FzTo.frz rfl) rfl (by kernel_rfl) ?_
  refine ve 1 71 [(0, I a0), (7, I v6)] [] ?_
  refine srv 3 71 [(0, I a0), (7, I v6), (42, B ((a0 == 1)))] [] ?_
  rcases fk ((a0 == 1)) with hc75 | hc75
  replace h := bT hc75 h
  rw [hc75]
  refine v 4 71 [(0, I a0), (7, I v6), (46, B ((v6 == 0)))] [] ?_
  rcases fk ((v6 == 0)) with hc42 | hc42
  replace h := bT hc42 h
  rw [hc42]
  refine v 23 71 [(69, B true)] [] ?_
  obtain ⟨v8, hv9, h⟩ := bindS h
  refine opsP_callF τ 70 (ok_impl_truthIf hv9) (FzTo.frz rfl) rfl (by kernel_rfl) ?_
  refine ve 1 71 [(6, I v8)] [] ?_
  cases h
  exact pwp_ret rz
  replace h := bF hc42 h
  rw [hc42]
  refine v 3 71 [(0, I a0), (7, I v6), (46, B false), (49, B ((a0 == 2)))] [] ?_
  rcases fk ((a0 == 2)) with hc41 | hc41
  replace h := bT hc41 h
  rw [hc41]
  refine v 5 71 [(0, I a0), (7, I v6), (54, B ((!(v6 == 0))))] [] ?_
  rcases fk ((!(v6 == 0))) with hc26 | hc26
  replace h := bT hc26 h
  rw [hc26]
  refine v 15 71 [(69, B true)] [] ?_
  obtain ⟨v10, hv11, h⟩ := bindS h
  refine opsP_callF τ 70 (ok_impl_truthIf hv11) (FzTo.frz rfl) rfl (by kernel_rfl) ?_
  refine ve 1 71 [(6, I v10)] [] ?_
  cases h
  exact pwp_ret rz
  replace h := bF hc26 h
  rw [hc26]
  refine v 3 71 [(0, I a0), (7, I v6), (54, B false), (57, B ((a0 == 3)))] [] ?_
  rcases fk ((a0 == 3)) with hc25 | hc25
  replace h := bT hc25 h
  rw [hc25]
  refine v 5 71 [(0, I a0), (7, I v6), (62, B ((decide (v6 < 0))))] [] ?_
  rcases fk ((decide (v6 < 0))) with hc19 | hc19
  replace h := bT hc19 h
  rw [hc19]
  refine v 7 71 [(69, B true)] [] ?_
  obtain ⟨v12, hv13, h⟩ := bindS h
  refine opsP_callF τ 70 (ok_impl_truthIf hv13) (FzTo.frz rfl) rfl (by kernel_rfl) ?_
  refine ve 1 71 [(6, I v12)] [] ?_
  cases h
  exact pwp_ret rz
  replace h := bF hc19 h
  rw [hc19]
  refine v 3 71 [(7, I v6), (62, B false), (65, B ((a0 == 4)))] [] ?_
  rcases fk ((a0 == 4)) with hc18 | hc18
  replace h := bT hc18 h
  rw [hc18]
  refine v 4 71 [(69, B ((decide (v6 ≤ 0))))] [] ?_
  obtain ⟨v14, hv15, h⟩ := bindS h
  refine opsP_callF τ 70 (ok_impl_truthIf hv15) (FzTo.frz rfl) rfl (by kernel_rfl) ?_
  refine ve 1 71 [(6, I v14)] [] ?_
  cases h
  exact pwp_ret rz
  replace h := bF hc18 h
  rw [hc18]
  refine v 4 71 [(69, B false)] [] ?_
  obtain ⟨v16, hv17, h⟩ := bindS h
  refine opsP_callF τ 70 (ok_impl_truthIf hv17) (FzTo.frz rfl) rfl (by kernel_rfl) ?_
  refine ve 1 71 [(6, I v16)] [] ?_
  cases h
  exact pwp_ret rz
  replace h := bF hc25 h
  rw [hc25]
  refine v 8 71 [(7, I v6), (62, B false), (65, B ((a0 == 4)))] [] ?_
  rcases fk ((a0 == 4)) with hc24 | hc24
  replace h := bT hc24 h
  rw [hc24]
  refine v 4 71 [(69, B ((decide (v6 ≤ 0))))] [] ?_
  obtain ⟨v20, hv21, h⟩ := bindS h
  refine opsP_callF τ 70 (ok_impl_truthIf hv21) (FzTo.frz rfl) rfl (by kernel_rfl) ?_
  refine ve 1 71 [(6, I v20)] [] ?_
  cases h
  exact pwp_ret rz
  replace h := bF hc24 h
  rw [hc24]
  refine v 4 71 [(69, B false)] [] ?_
  obtain ⟨v22, hv23, h⟩ := bindS h
  refine opsP_callF τ 70 (ok_impl_truthIf hv23) (FzTo.frz rfl) rfl (by kernel_rfl) ?_
  refine ve 1 71 [(6, I v22)] [] ?_
  cases h
  exact pwp_ret rz
  replace h := bF hc41 h
  rw [hc41]
  refine v 8 71 [(0, I a0), (7, I v6), (54, B false), (57, B ((a0 == 3)))] [] ?_
  rcases fk ((a0 == 3)) with hc40 | hc40
  replace h := bT hc40 h
  rw [hc40]
  refine v 5 71 [(0, I a0), (7, I v6), (62, B ((decide (v6 < 0))))] [] ?_
  rcases fk ((decide (v6 < 0))) with hc34 | hc34
  replace h := bT hc34 h
  rw [hc34]
  refine v 7 71 [(69, B true)] [] ?_
  obtain ⟨v27, hv28, h⟩ := bindS h
  refine opsP_callF τ 70 (ok_impl_truthIf hv28) (FzTo.frz rfl) rfl (by kernel_rfl) ?_
  refine ve 1 71 [(6, I v27)] [] ?_
  cases h
  exact pwp_ret rz
  replace h := bF hc34 h
  rw [hc34]
  refine v 3 71 [(7, I v6), (62, B false), (65, B ((a0 == 4)))] [] ?_
  rcases fk ((a0 == 4)) with hc33 | hc33
  replace h := bT hc33 h
  rw [hc33]
  refine v 4 71 [(69, B ((decide (v6 ≤ 0))))] [] ?_
  obtain ⟨v29, hv30, h⟩ := bindS h
  refine opsP_callF τ 70 (ok_impl_truthIf hv30) (FzTo.frz rfl) rfl (by kernel_rfl) ?_
  refine ve 1 71 [(6, I v29)] [] ?_
  cases h
  exact pwp_ret rz
  replace h := bF hc33 h
  rw [hc33]
  refine v 4 71 [(69, B false)] [] ?_
  obtain ⟨v31, hv32, h⟩ := bindS h
  refine opsP_callF τ 70 (ok_impl_truthIf hv32) (FzTo.frz rfl) rfl (by kernel_rfl) ?_
  refine ve 1 71 [(6, I v31)] [] ?_
  cases h
  exact pwp_ret rz
  replace h := bF hc40 h
  rw [hc40]
  refine v 8 71 [(7, I v6), (62, B false), (65, B ((a0 == 4)))] [] ?_
  rcases fk ((a0 == 4)) with hc39 | hc39
  replace h := bT hc39 h
  rw [hc39]
  refine v 4 71 [(69, B ((decide (v6 ≤ 0))))] [] ?_
  obtain ⟨v35, hv36, h⟩ := bindS h
  refine opsP_callF τ 70 (ok_impl_truthIf hv36) (FzTo.frz rfl) rfl (by kernel_rfl) ?_
  refine ve 1 71 [(6, I v35)] [] ?_
  cases h
  exact pwp_ret rz
  replace h := bF hc39 h
  rw [hc39]
  refine v 4 71 [(69, B false)] [] ?_
  obtain ⟨v37, hv38, h⟩ := bindS h
  refine opsP_callF τ 70 (ok_impl_truthIf hv38) (FzTo.frz rfl) rfl (by kernel_rfl) ?_
  refine ve 1 71 [(6, I v37)] [] ?_
  cases h
  exact pwp_ret rz
  replace h := bF hc75 h
  rw [hc75]
  refine v 7 71 [(0, I a0), (7, I v6), (46, B false), (49, B ((a0 == 2)))] [] ?_
  rcases fk ((a0 == 2)) with hc74 | hc74
  replace h := bT hc74 h
  rw [hc74]
  refine v 5 71 [(0, I a0), (7, I v6), (54, B ((!(v6 == 0))))] [] ?_
  rcases fk ((!(v6 == 0))) with hc59 | hc59
  replace h := bT hc59 h
  rw [hc59]
  refine v 15 71 [(69, B true)] [] ?_
  obtain ⟨v43, hv44, h⟩ := bindS h
  refine opsP_callF τ 70 (ok_impl_truthIf hv44) (FzTo.frz rfl) rfl (by kernel_rfl) ?_
  refine ve 1 71 [(6, I v43)] [] ?_
  cases h
  exact pwp_ret rz
  replace h := bF hc59 h
  rw [hc59]
  refine v 3 71 [(0, I a0), (7, I v6), (54, B false), (57, B ((a0 == 3)))] [] ?_
  rcases fk ((a0 == 3)) with hc58 | hc58
  replace h := bT hc58 h
  rw [hc58]
  refine v 5 71 [(0, I a0), (7, I v6), (62, B ((decide (v6 < 0))))] [] ?_
  rcases fk ((decide (v6 < 0))) with hc52 | hc52
  replace h := bT hc52 h
  rw [hc52]
  refine v 7 71 [(69, B true)] [] ?_
  obtain ⟨v45, hv46, h⟩ := bindS h
  refine opsP_callF τ 70 (ok_impl_truthIf hv46) (FzTo.frz rfl) rfl (by kernel_rfl) ?_
  refine ve 1 71 [(6, I v45)] [] ?_
  cases h
  exact pwp_ret rz
  replace h := bF hc52 h
  rw [hc52]
  refine v 3 71 [(7, I v6), (62, B false), (65, B ((a0 == 4)))] [] ?_
  rcases fk ((a0 == 4)) with hc51 | hc51
  replace h := bT hc51 h
  rw [hc51]
  refine v 4 71 [(69, B ((decide (v6 ≤ 0))))] [] ?_
  obtain ⟨v47, hv48, h⟩ := bindS h
  refine opsP_callF τ 70 (ok_impl_truthIf hv48) (FzTo.frz rfl) rfl (by kernel_rfl) ?_
  refine ve 1 71 [(6, I v47)] [] ?_
  cases h
  exact pwp_ret rz
  replace h := bF hc51 h
  rw [hc51]
  refine v 4 71 [(69, B false)] [] ?_
  obtain ⟨v49, hv50, h⟩ := bindS h
  refine opsP_callF τ 70 (ok_impl_truthIf hv50) (FzTo.frz rfl) rfl (by kernel_rfl) ?_
  refine ve 1 71 [(6, I v49)] [] ?_
  cases h
  exact pwp_ret rz
  replace h := bF hc58 h
  rw [hc58]
  refine v 8 71 [(7, I v6), (62, B false), (65, B ((a0 == 4)))] [] ?_
  rcases fk ((a0 == 4)) with hc57 | hc57
  replace h := bT hc57 h
  rw [hc57]
  refine v 4 71 [(69, B ((decide (v6 ≤ 0))))] [] ?_
  obtain ⟨v53, hv54, h⟩ := bindS h
  refine opsP_callF τ 70 (ok_impl_truthIf hv54) (FzTo.frz rfl) rfl (by kernel_rfl) ?_
  refine ve 1 71 [(6, I v53)] [] ?_
  cases h
  exact pwp_ret rz
  replace h := bF hc57 h
  rw [hc57]
  refine v 4 71 [(69, B false)] [] ?_
  obtain ⟨v55, hv56, h⟩ := bindS h
  refine opsP_callF τ 70 (ok_impl_truthIf hv56) (FzTo.frz rfl) rfl (by kernel_rfl) ?_
  refine ve 1 71 [(6, I v55)] [] ?_
  cases h
  exact pwp_ret rz
  replace h := bF hc74 h
  rw [hc74]
  refine v 8 71 [(0, I a0), (7, I v6), (54, B false), (57, B ((a0 == 3)))] [] ?_
  rcases fk ((a0 == 3)) with hc73 | hc73
  replace h := bT hc73 h
  rw [hc73]
  refine v 5 71 [(0, I a0), (7, I v6), (62, B ((decide (v6 < 0))))] [] ?_
  rcases fk ((decide (v6 < 0))) with hc67 | hc67
  replace h := bT hc67 h
  rw [hc67]
  refine v 7 71 [(69, B true)] [] ?_
  obtain ⟨v60, hv61, h⟩ := bindS h
  refine opsP_callF τ 70 (ok_impl_truthIf hv61) (FzTo.frz rfl) rfl (by kernel_rfl) ?_
  refine ve 1 71 [(6, I v60)] [] ?_
  cases h
  exact pwp_ret rz
  replace h := bF hc67 h
  rw [hc67]
  refine v 3 71 [(7, I v6), (62, B false), (65, B ((a0 == 4)))] [] ?_
  rcases fk ((a0 == 4)) with hc66 | hc66
  replace h := bT hc66 h
  rw [hc66]
  refine v 4 71 [(69, B ((decide (v6 ≤ 0))))] [] ?_
  obtain ⟨v62, hv63, h⟩ := bindS h
  refine opsP_callF τ 70 (ok_impl_truthIf hv63) (FzTo.frz rfl) rfl (by kernel_rfl) ?_
  refine ve 1 71 [(6, I v62)] [] ?_
  cases h
  exact pwp_ret rz
  replace h := bF hc66 h
  rw [hc66]
  refine v 4 71 [(69, B false)] [] ?_
  obtain ⟨v64, hv65, h⟩ := bindS h
  refine opsP_callF τ 70 (ok_impl_truthIf hv65) (FzTo.frz rfl) rfl (by kernel_rfl) ?_
  refine ve 1 71 [(6, I v64)] [] ?_
  cases h
  exact pwp_ret rz
  replace h := bF hc73 h
  rw [hc73]
  refine v 8 71 [(7, I v6), (62, B false), (65, B ((a0 == 4)))] [] ?_
  rcases fk ((a0 == 4)) with hc72 | hc72
  replace h := bT hc72 h
  rw [hc72]
  refine v 4 71 [(69, B ((decide (v6 ≤ 0))))] [] ?_
  obtain ⟨v68, hv69, h⟩ := bindS h
  refine opsP_callF τ 70 (ok_impl_truthIf hv69) (FzTo.frz rfl) rfl (by kernel_rfl) ?_
  refine ve 1 71 [(6, I v68)] [] ?_
  cases h
  exact pwp_ret rz
  replace h := bF hc72 h
  rw [hc72]
  refine v 4 71 [(69, B false)] [] ?_
  obtain ⟨v70, hv71, h⟩ := bindS h
  refine opsP_callF τ 70 (ok_impl_truthIf hv71) (FzTo.frz rfl) rfl (by kernel_rfl) ?_
  refine ve 1 71 [(6, I v70)] [] ?_
  cases h
  exact pwp_ret rz
def spec_l9Ready_l1 (a0 : List T_impl_Column) (a1 : T_impl_Batch) : Nat → Int → Option Bool
  | 0, _ => none
  | f4 + 1, x3 => bif (decide (x3 < ((a1.fPicked.length : Int)))) then (spec_l9Row a1 x3).bind fun v7 => (spec_RowFits a0 v7).bind fun v9 => bif (!v9) then some false else (spec_l9Ready_l1 a0 a1 f4) ((w64 (x3 + 1))) else some true
def spec_l9Ready_j0 (a0 : List T_impl_Column) (a1 : T_impl_Batch) (x1 : Bool) : Option Bool := bif x1 then some false else spec_l9Ready_l1 a0 a1 FUEL 0
def spec_l9Ready (a0 : List T_impl_Column) (a1 : T_impl_Batch) : Option Bool := (spec_BatchOk a1).bind fun v12 => bif (!v12) then spec_l9Ready_j0 a0 a1 true else bif (!(((a1.fColumns.length : Int)) == ((a0.length : Int)))) then spec_l9Ready_j0 a0 a1 true else (spec_ColumnsOk a0).bind fun v14 => spec_l9Ready_j0 a0 a1 ((!v14))
theorem ok_spec_l9Ready {a0 : List T_impl_Column} {a1 : T_impl_Batch} {y : Bool} (h : spec_l9Ready a0 a1 = some y) : OK Tryz.prog 73 [A a0, E a1] (B y) := by
  refine OK_of_pwp τ_ok Tryz.func73 rfl (by kernel_rfl) rfl fun Γ hX => ?_
  unfold spec_l9Ready at h
  refine srve 35 [(0, A a0), (3, .fptr (Enc.cells a1) 0)] [] ?_
  refine pwp_seq ?_
  refine pwp_seq ?_
  refine pwp_join (σ := Bool) (fun x1 => (⟨35, [(0, A a0), (3, .fptr (Enc.cells a1) 0), (21, B x1)], []⟩ : St)) (fun x1 => spec_l9Ready_j0 a0 a1 x1 = some y) ?_ ?_
  refine rv 1 35 [(0, A a0), (3, .fptr (Enc.cells a1) 0), (6, E a1)] [] ?_
  obtain ⟨v12, hv13, h⟩ := bindS h
  refine opsP_callF τ 7 (ok_spec_BatchOk hv13) (FzTo.frz rfl) rfl (by kernel_rfl) ?_
  refine v 2 35 [(0, A a0), (3, .fptr (Enc.cells a1) 0), (9, B ((!v12)))] [] ?_
  rcases fk ((!v12)) with hc17 | hc17
  replace h := bT hc17 h
  rw [hc17]
  refine ve 12 35 [(0, A a0), (3, .fptr (Enc.cells a1) 0), (21, B true)] [] ?_
  exact ⟨true, h, (Imp.to (st' := ⟨35, [(0, A a0), (3, .fptr (Enc.cells a1) 0), (21, B true)], []⟩) [0, 3, 21] (by kernel_rfl)).trans (Imp.to [0, 3, 21] (by kernel_rfl))⟩
  replace h := bF hc17 h
  rw [hc17]
  refine v 8 35 [(0, A a0), (3, .fptr (Enc.cells a1) 0), (17, B ((!(((a1.fColumns.length : Int)) == ((a0.length : Int))))))] [] ?_
  rcases fk ((!(((a1.fColumns.length : Int)) == ((a0.length : Int))))) with hc16 | hc16
  replace h := bT hc16 h
  rw [hc16]
  refine ve 4 35 [(0, A a0), (3, .fptr (Enc.cells a1) 0), (21, B true)] [] ?_
  exact ⟨true, h, (Imp.to (st' := ⟨35, [(0, A a0), (3, .fptr (Enc.cells a1) 0), (21, B true)], []⟩) [0, 3, 21] (by kernel_rfl)).trans (Imp.to [0, 3, 21] (by kernel_rfl))⟩
  replace h := bF hc16 h
  rw [hc16]
  refine v 1 35 [(0, A a0), (3, .fptr (Enc.cells a1) 0), (17, B false), (18, A a0)] [] ?_
  obtain ⟨v14, hv15, h⟩ := bindS h
  refine opsP_callF τ 19 (ok_spec_ColumnsOk hv15) (FzTo.frz rfl) rfl (by kernel_rfl) ?_
  refine ve 2 35 [(0, A a0), (3, .fptr (Enc.cells a1) 0), (21, B ((!v14)))] [] ?_
  exact ⟨(!v14), h, (Imp.to (st' := ⟨35, [(0, A a0), (3, .fptr (Enc.cells a1) 0), (21, B ((!v14)))], []⟩) [0, 3, 21] (by kernel_rfl)).trans (Imp.to [0, 3, 21] (by kernel_rfl))⟩
  rintro x1 h
  unfold spec_l9Ready_j0 at h
  refine pc h (fun h => ?_) (fun h => ?_)
  refine srve 35 [(4, B false)] [] ?_
  cases h
  exact pwp_ret rz
  refine pwp_skip ?_
  refine pwp_seq ?_
  refine srve 35 [(0, A a0), (3, .fptr (Enc.cells a1) 0), (5, I 0)] [] ?_
  refine pwp_block ?_
  refine pwp_loop (ι := Nat × Int) (fun (f4, x3) => (⟨35, [(0, A a0), (3, .fptr (Enc.cells a1) 0), (5, I x3)], []⟩ : St)) (fun (f4, x3) => spec_l9Ready_l1 a0 a1 f4 x3 = some y) (fun (f4, x3) => f4) (FUEL, 0) h ((Imp.to (st' := ⟨35, [(0, A a0), (3, .fptr (Enc.cells a1) 0), (5, I 0)], []⟩) [0, 3, 5] (by kernel_rfl)).trans (Imp.to [0, 3, 5] (by kernel_rfl))) ?_
  rintro ⟨f4, x3⟩ h
  dsimp only at h ⊢
  rcases f4 with _ | f4
  cases h
  rw [spec_l9Ready_l1] at h
  refine pwp_seq ?_
  refine srve 35 [(0, A a0), (3, .fptr (Enc.cells a1) 0), (5, I x3), (26, B ((decide (x3 < ((a1.fPicked.length : Int))))))] [] ?_
  refine pc h (fun h => ?_) (fun h => ?_)
  refine pwp_skip ?_
  refine pwp_seq ?_
  refine pwp_block ?_
  refine srv 3 35 [(0, A a0), (3, .fptr (Enc.cells a1) 0), (5, I x3), (29, A a0), (30, E a1), (31, I x3)] [] ?_
  obtain ⟨v7, hv8, h⟩ := bindS h
  refine opsP_callF τ 32 (ok_spec_l9Row hv8) (FzTo.O _) rfl (by kernel_rfl) ?_
  obtain ⟨v9, hv10, h⟩ := bindS h
  refine opsP_callF τ 33 (ok_spec_RowFits hv10) (FzTo.frz rfl) rfl (by kernel_rfl) ?_
  refine ve 1 35 [(0, A a0), (3, .fptr (Enc.cells a1) 0), (5, I x3), (34, B ((!v9)))] [] ?_
  refine pc h (fun h => ?_) (fun h => ?_)
  refine srve 35 [(4, B false)] [] ?_
  cases h
  exact pwp_ret rz
  refine pwp_skip ?_
  refine rve 35 [(0, A a0), (3, .fptr (Enc.cells a1) 0), (5, I ((w64 (x3 + 1))))] [] ?_
  exact ⟨(f4, (w64 (x3 + 1))), h, Nat.lt_succ_self _, (Imp.to (st' := ⟨35, [(0, A a0), (3, .fptr (Enc.cells a1) 0), (5, I ((w64 (x3 + 1))))], []⟩) [0, 3, 5] (by kernel_rfl)).trans (Imp.to [0, 3, 5] (by kernel_rfl))⟩
  refine pwp_exit ?_
  refine srve 35 [(4, B true)] [] ?_
  cases h
  exact pwp_ret rz
def spec_l9Values_l3 (a0 : T_impl_Batch) (x3 : List (List T_impl_Value)) (v7 : T_impl_Part) (x13 : Int) (x14 : List T_impl_Value) (K16 : Int → (List T_impl_Value) → Option (List T_impl_Value)) : Nat → Int → (List T_impl_Value) → Option (List T_impl_Value)
  | 0, _, _ => none
  | f24 + 1, x22, x23 => bif (decide (x22 < ((x3.length : Int)))) then (getI x3 x22).bind fun v27 => (getI v27 x13).bind fun v29 => (app x23 (([v29] : List T_impl_Value))).bind fun v31 => (spec_l9Values_l3 a0 x3 v7 x13 x14 K16 f24) ((w64 (x22 + 1))) v31 else (spec_l9Row a0 x13).bind fun v33 => (spec_l4Do v33 x23 v7).bind fun v35 => (getI v35 ((w64 (((v35.length : Int)) - 1)))).bind fun v37 => (app x14 (([v37] : List T_impl_Value))).bind fun v39 => K16 ((w64 (x13 + 1))) v39
def spec_l9Values_l2 (a0 : T_impl_Batch) (x2 : Int) (x3 : List (List T_impl_Value)) (K5 : Int → (List (List T_impl_Value)) → Option (List T_impl_Value)) (v7 : T_impl_Part) (x9 : Int) : Nat → Int → (List T_impl_Value) → Option (List T_impl_Value)
  | 0, _, _ => none
  | f15 + 1, x13, x14 => bif (decide (x13 < ((a0.fPicked.length : Int)))) then spec_l9Values_l3 a0 x3 v7 x13 x14 (spec_l9Values_l2 a0 x2 x3 K5 v7 x9 f15) FUEL ((w64 (((x3.length : Int)) - x9))) (([] : List T_impl_Value)) else (slI x3 none (some ((w64 (((x3.length : Int)) - x9)))) none).bind fun v41 => (appT x3 (([x14] : List (List T_impl_Value))) v41.length).bind fun v43 => K5 ((w64 (x2 + 1))) v43
def spec_l9Values_j1 (a0 : T_impl_Batch) (x2 : Int) (x3 : List (List T_impl_Value)) (K5 : Int → (List (List T_impl_Value)) → Option (List T_impl_Value)) (v7 : T_impl_Part) (x9 : Int) : Option (List T_impl_Value) := spec_l9Values_l2 a0 x2 x3 K5 v7 x9 FUEL 0 (([] : List T_impl_Value))
def spec_l9Values_j5 (a0 : T_impl_Batch) (x2 : Int) (x3 : List (List T_impl_Value)) (K5 : Int → (List (List T_impl_Value)) → Option (List T_impl_Value)) (v7 : T_impl_Part) (x47 : Bool) : Option (List T_impl_Value) := bif x47 then spec_l9Values_j1 a0 x2 x3 K5 v7 1 else spec_l9Values_j1 a0 x2 x3 K5 v7 0
def spec_l9Values_j4 (a0 : T_impl_Batch) (x2 : Int) (x3 : List (List T_impl_Value)) (K5 : Int → (List (List T_impl_Value)) → Option (List T_impl_Value)) (v7 : T_impl_Part) (x45 : Bool) : Option (List T_impl_Value) := bif x45 then spec_l9Values_j1 a0 x2 x3 K5 v7 2 else bif (v7.fKind == 7) then spec_l9Values_j5 a0 x2 x3 K5 v7 ((v7.fKind == 7)) else spec_l9Values_j5 a0 x2 x3 K5 v7 ((v7.fKind == 8))
def spec_l9Values_l0 (a0 : T_impl_Batch) (a1 : List T_impl_Part) : Nat → Int → (List (List T_impl_Value)) → Option (List T_impl_Value)
  | 0, _, _ => none
  | f4 + 1, x2, x3 => bif (decide (x2 < ((a1.length : Int)))) then (getI a1 x2).bind fun v7 => bif (v7.fKind == 3) then spec_l9Values_j4 a0 x2 x3 (spec_l9Values_l0 a0 a1 f4) v7 ((v7.fKind == 3)) else bif (v7.fKind == 4) then spec_l9Values_j4 a0 x2 x3 (spec_l9Values_l0 a0 a1 f4) v7 ((v7.fKind == 4)) else bif (v7.fKind == 5) then spec_l9Values_j4 a0 x2 x3 (spec_l9Values_l0 a0 a1 f4) v7 ((v7.fKind == 5)) else spec_l9Values_j4 a0 x2 x3 (spec_l9Values_l0 a0 a1 f4) v7 ((v7.fKind == 6)) else (getI x3 0).bind fun v53 => some v53
def spec_l9Values (a0 : T_impl_Batch) (a1 : List T_impl_Part) : Option (List T_impl_Value) := spec_l9Values_l0 a0 a1 FUEL 0 (([] : List (List T_impl_Value)))
theorem ok_spec_l9Values {a0 : T_impl_Batch} {a1 : List T_impl_Part} {y : List T_impl_Value} (h : spec_l9Values a0 a1 = some y) : OK Tryz.prog 74 [E a0, A a1] (A y) := by
  refine OK_of_pwp τ_ok Tryz.func74 rfl (by kernel_rfl) rfl fun Γ hX => ?_
  unfold spec_l9Values at h
  refine srveM [7] 91 [(1, A a1), (2, .fptr (Enc.cells a0) 0)] [] ?_
  refine srveM [7] 91 [(1, A a1), (2, .fptr (Enc.cells a0) 0), (5, .arr 1 0 (eL ([] : List (List T_impl_Value))) true)] [] ?_
  refine pwp_seq ?_
  refine srveM [7] 91 [(1, A a1), (2, .fptr (Enc.cells a0) 0), (5, .arr 1 0 (eL ([] : List (List T_impl_Value))) true), (6, I 0)] [] ?_
  refine pwp_block ?_
  refine pwp_loop (ι := Nat × Int × (List (List T_impl_Value))) (fun (f4, x2, x3) => (⟨91, [(1, A a1), (2, .fptr (Enc.cells a0) 0), (5, .ref 0 0 0 1 x3.length false), (6, I x2)], [some ⟨0, eL x3⟩]⟩ : St)) (fun (f4, x2, x3) => spec_l9Values_l0 a0 a1 f4 x2 x3 = some y) (fun (f4, x2, x3) => f4) (FUEL, 0, ([] : List (List T_impl_Value))) h ((Imp.to (st' := ⟨91, [(1, A a1), (2, .fptr (Enc.cells a0) 0), (5, .arr 1 0 (eL ([] : List (List T_impl_Value))) true), (6, I 0)], []⟩) [1, 2, 5, 6] (by kernel_rfl)).trans ((Imp.thawS (st' := ⟨91, [(1, A a1), (2, .fptr (Enc.cells a0) 0), (5, .ref 0 0 0 1 (([] : List (List T_impl_Value))).length false), (6, I 0)], [some ⟨0, eL (([] : List (List T_impl_Value)))⟩]⟩) 5 [1, 2, 5, 6] (by kernel_rfl)).trans (Imp.to [1, 2, 5, 6] (by kernel_rfl)))) ?_
  rintro ⟨f4, x2, x3⟩ h
  dsimp only at h ⊢
  rcases f4 with _ | f4
  cases h
  rw [spec_l9Values_l0] at h
  refine pwp_seq ?_
  refine srveM [7] 91 [(1, A a1), (2, .fptr (Enc.cells a0) 0), (5, .ref 0 0 0 1 x3.length false), (6, I x2), (19, B ((decide (x2 < ((a1.length : Int))))))] [some ⟨0, eL x3⟩] ?_
  refine pc h (fun h => ?_) (fun h => ?_)
  refine pwp_skip ?_
  refine pwp_seq ?_
  refine pwp_block ?_
  refine srvM [7] 2 91 [(1, A a1), (2, .fptr (Enc.cells a0) 0), (5, .ref 0 0 0 1 x3.length false), (6, I x2), (22, A a1), (23, I x2)] [some ⟨0, eL x3⟩] ?_
  obtain ⟨v7, hv8, h⟩ := bindS h
  refine opsP_idx τ_ok 24 hv8 (by kernel_rfl) ?_
  refine veM [7] 3 91 [(1, A a1), (2, .fptr (Enc.cells a0) 0), (5, .ref 0 0 0 1 x3.length false), (6, I x2), (7, .ptr 1 0 0)] [some ⟨0, eL x3⟩, some ⟨0, Enc.cells v7⟩] ?_
  refine srveM [7] 91 [(1, A a1), (2, .fptr (Enc.cells a0) 0), (5, .ref 0 0 0 1 x3.length false), (6, I x2), (7, .ptr 1 0 0), (8, I ((x3.length : Int)))] [some ⟨0, eL x3⟩, some ⟨0, Enc.cells v7⟩] ?_
  refine srveM [7] 91 [(1, A a1), (2, .fptr (Enc.cells a0) 0), (5, .ref 0 0 0 1 x3.length false), (6, I x2), (7, .ptr 1 0 0), (8, I ((x3.length : Int))), (9, .arr 3 0 (eL ([] : List T_impl_Value)) true)] [some ⟨0, eL x3⟩, some ⟨0, Enc.cells v7⟩] ?_
  refine srveM [7] 91 [(1, A a1), (2, .fptr (Enc.cells a0) 0), (5, .ref 0 0 0 1 x3.length false), (6, I x2), (7, .ptr 1 0 0), (8, I ((x3.length : Int))), (9, .arr 3 0 (eL ([] : List T_impl_Value)) true), (10, I 0)] [some ⟨0, eL x3⟩, some ⟨0, Enc.cells v7⟩] ?_
  refine pwp_seq ?_
  refine pwp_join (σ := Int) (fun x9 => (⟨91, [(1, A a1), (2, .fptr (Enc.cells a0) 0), (5, .ref 0 0 0 1 x3.length false), (6, I x2), (7, .ptr 1 0 0), (8, I ((x3.length : Int))), (9, .arr 3 0 (eL ([] : List T_impl_Value)) true), (10, I x9)], [some ⟨0, eL x3⟩, some ⟨0, Enc.cells v7⟩]⟩ : St)) (fun x9 => spec_l9Values_j1 a0 x2 x3 (spec_l9Values_l0 a0 a1 f4) v7 x9 = some y) ?_ ?_
  refine srveM [7] 91 [(1, A a1), (2, .fptr (Enc.cells a0) 0), (5, .ref 0 0 0 1 x3.length false), (6, I x2), (7, .ptr 1 0 0), (8, I ((x3.length : Int))), (9, .arr 3 0 (eL ([] : List T_impl_Value)) true), (10, I 0), (30, I v7.fKind)] [some ⟨0, eL x3⟩, some ⟨0, Enc.cells v7⟩] ?_
  refine pwp_block ?_
  refine pwp_seq ?_
  refine pwp_join (σ := Bool) (fun x45 => (⟨91, [(1, A a1), (2, .fptr (Enc.cells a0) 0), (5, .ref 0 0 0 1 x3.length false), (6, I x2), (7, .ptr 1 0 0), (8, I ((x3.length : Int))), (9, .arr 3 0 (eL ([] : List T_impl_Value)) true), (10, I 0), (30, I v7.fKind), (31, B x45)], [some ⟨0, eL x3⟩, some ⟨0, Enc.cells v7⟩]⟩ : St)) (fun x45 => spec_l9Values_j4 a0 x2 x3 (spec_l9Values_l0 a0 a1 f4) v7 x45 = some y) ?_ ?_
  refine srveM [7] 91 [(1, A a1), (2, .fptr (Enc.cells a0) 0), (5, .ref 0 0 0 1 x3.length false), (6, I x2), (7, .ptr 1 0 0), (8, I ((x3.length : Int))), (9, .arr 3 0 (eL ([] : List T_impl_Value)) true), (10, I 0), (30, I v7.fKind), (31, B ((v7.fKind == 3)))] [some ⟨0, eL x3⟩, some ⟨0, Enc.cells v7⟩] ?_
  refine pc h (fun h => ?_) (fun h => ?_)
  refine pwp_skip ?_
  exact ⟨(v7.fKind == 3), h, (Imp.to (st' := ⟨91, [(1, A a1), (2, .fptr (Enc.cells a0) 0), (5, .ref 0 0 0 1 x3.length false), (6, I x2), (7, .ptr 1 0 0), (8, I ((x3.length : Int))), (9, .arr 3 0 (eL ([] : List T_impl_Value)) true), (10, I 0), (30, I v7.fKind), (31, B ((v7.fKind == 3)))], [some ⟨0, eL x3⟩, some ⟨0, Enc.cells v7⟩]⟩) [1, 2, 5, 6, 7, 8, 9, 10, 30, 31] (by kernel_rfl)).trans (Imp.to [1, 2, 5, 6, 7, 8, 9, 10, 30, 31] (by kernel_rfl))⟩
  refine srveM [7] 91 [(1, A a1), (2, .fptr (Enc.cells a0) 0), (5, .ref 0 0 0 1 x3.length false), (6, I x2), (7, .ptr 1 0 0), (8, I ((x3.length : Int))), (9, .arr 3 0 (eL ([] : List T_impl_Value)) true), (10, I 0), (30, I v7.fKind), (31, B ((v7.fKind == 4)))] [some ⟨0, eL x3⟩, some ⟨0, Enc.cells v7⟩] ?_
  refine pc h (fun h => ?_) (fun h => ?_)
  refine pwp_skip ?_
  exact ⟨(v7.fKind == 4), h, (Imp.to (st' := ⟨91, [(1, A a1), (2, .fptr (Enc.cells a0) 0), (5, .ref 0 0 0 1 x3.length false), (6, I x2), (7, .ptr 1 0 0), (8, I ((x3.length : Int))), (9, .arr 3 0 (eL ([] : List T_impl_Value)) true), (10, I 0), (30, I v7.fKind), (31, B ((v7.fKind == 4)))], [some ⟨0, eL x3⟩, some ⟨0, Enc.cells v7⟩]⟩) [1, 2, 5, 6, 7, 8, 9, 10, 30, 31] (by kernel_rfl)).trans (Imp.to [1, 2, 5, 6, 7, 8, 9, 10, 30, 31] (by kernel_rfl))⟩
  refine srveM [7] 91 [(1, A a1), (2, .fptr (Enc.cells a0) 0), (5, .ref 0 0 0 1 x3.length false), (6, I x2), (7, .ptr 1 0 0), (8, I ((x3.length : Int))), (9, .arr 3 0 (eL ([] : List T_impl_Value)) true), (10, I 0), (30, I v7.fKind), (31, B ((v7.fKind == 5)))] [some ⟨0, eL x3⟩, some ⟨0, Enc.cells v7⟩] ?_
  refine pc h (fun h => ?_) (fun h => ?_)
  refine pwp_skip ?_
  exact ⟨(v7.fKind == 5), h, (Imp.to (st' := ⟨91, [(1, A a1), (2, .fptr (Enc.cells a0) 0), (5, .ref 0 0 0 1 x3.length false), (6, I x2), (7, .ptr 1 0 0), (8, I ((x3.length : Int))), (9, .arr 3 0 (eL ([] : List T_impl_Value)) true), (10, I 0), (30, I v7.fKind), (31, B ((v7.fKind == 5)))], [some ⟨0, eL x3⟩, some ⟨0, Enc.cells v7⟩]⟩) [1, 2, 5, 6, 7, 8, 9, 10, 30, 31] (by kernel_rfl)).trans (Imp.to [1, 2, 5, 6, 7, 8, 9, 10, 30, 31] (by kernel_rfl))⟩
  refine rveM [7] 91 [(1, A a1), (2, .fptr (Enc.cells a0) 0), (5, .ref 0 0 0 1 x3.length false), (6, I x2), (7, .ptr 1 0 0), (8, I ((x3.length : Int))), (9, .arr 3 0 (eL ([] : List T_impl_Value)) true), (10, I 0), (30, I v7.fKind), (31, B ((v7.fKind == 6)))] [some ⟨0, eL x3⟩, some ⟨0, Enc.cells v7⟩] ?_
  exact ⟨(v7.fKind == 6), h, (Imp.to (st' := ⟨91, [(1, A a1), (2, .fptr (Enc.cells a0) 0), (5, .ref 0 0 0 1 x3.length false), (6, I x2), (7, .ptr 1 0 0), (8, I ((x3.length : Int))), (9, .arr 3 0 (eL ([] : List T_impl_Value)) true), (10, I 0), (30, I v7.fKind), (31, B ((v7.fKind == 6)))], [some ⟨0, eL x3⟩, some ⟨0, Enc.cells v7⟩]⟩) [1, 2, 5, 6, 7, 8, 9, 10, 30, 31] (by kernel_rfl)).trans (Imp.to [1, 2, 5, 6, 7, 8, 9, 10, 30, 31] (by kernel_rfl))⟩
  rintro x45 h
  unfold spec_l9Values_j4 at h
  refine pc h (fun h => ?_) (fun h => ?_)
  refine rveM [7] 91 [(1, A a1), (2, .fptr (Enc.cells a0) 0), (5, .ref 0 0 0 1 x3.length false), (6, I x2), (7, .ptr 1 0 0), (8, I ((x3.length : Int))), (9, .arr 3 0 (eL ([] : List T_impl_Value)) true), (10, I 2)] [some ⟨0, eL x3⟩, some ⟨0, Enc.cells v7⟩] ?_
  exact ⟨2, h, (Imp.to (st' := ⟨91, [(1, A a1), (2, .fptr (Enc.cells a0) 0), (5, .ref 0 0 0 1 x3.length false), (6, I x2), (7, .ptr 1 0 0), (8, I ((x3.length : Int))), (9, .arr 3 0 (eL ([] : List T_impl_Value)) true), (10, I 2)], [some ⟨0, eL x3⟩, some ⟨0, Enc.cells v7⟩]⟩) [1, 2, 5, 6, 7, 8, 9, 10] (by kernel_rfl)).trans (Imp.to [1, 2, 5, 6, 7, 8, 9, 10] (by kernel_rfl))⟩
  refine pwp_seq ?_
  refine pwp_join (σ := Bool) (fun x47 => (⟨91, [(1, A a1), (2, .fptr (Enc.cells a0) 0), (5, .ref 0 0 0 1 x3.length false), (6, I x2), (7, .ptr 1 0 0), (8, I ((x3.length : Int))), (9, .arr 3 0 (eL ([] : List T_impl_Value)) true), (10, I 0), (36, B x47)], [some ⟨0, eL x3⟩, some ⟨0, Enc.cells v7⟩]⟩ : St)) (fun x47 => spec_l9Values_j5 a0 x2 x3 (spec_l9Values_l0 a0 a1 f4) v7 x47 = some y) ?_ ?_
  refine srveM [7] 91 [(1, A a1), (2, .fptr (Enc.cells a0) 0), (5, .ref 0 0 0 1 x3.length false), (6, I x2), (7, .ptr 1 0 0), (8, I ((x3.length : Int))), (9, .arr 3 0 (eL ([] : List T_impl_Value)) true), (10, I 0), (30, I v7.fKind), (36, B ((v7.fKind == 7)))] [some ⟨0, eL x3⟩, some ⟨0, Enc.cells v7⟩] ?_
  refine pc h (fun h => ?_) (fun h => ?_)
  refine pwp_skip ?_
  exact ⟨(v7.fKind == 7), h, (Imp.to (st' := ⟨91, [(1, A a1), (2, .fptr (Enc.cells a0) 0), (5, .ref 0 0 0 1 x3.length false), (6, I x2), (7, .ptr 1 0 0), (8, I ((x3.length : Int))), (9, .arr 3 0 (eL ([] : List T_impl_Value)) true), (10, I 0), (36, B ((v7.fKind == 7)))], [some ⟨0, eL x3⟩, some ⟨0, Enc.cells v7⟩]⟩) [1, 2, 5, 6, 7, 8, 9, 10, 36] (by kernel_rfl)).trans (Imp.to [1, 2, 5, 6, 7, 8, 9, 10, 36] (by kernel_rfl))⟩
  refine rveM [7] 91 [(1, A a1), (2, .fptr (Enc.cells a0) 0), (5, .ref 0 0 0 1 x3.length false), (6, I x2), (7, .ptr 1 0 0), (8, I ((x3.length : Int))), (9, .arr 3 0 (eL ([] : List T_impl_Value)) true), (10, I 0), (36, B ((v7.fKind == 8)))] [some ⟨0, eL x3⟩, some ⟨0, Enc.cells v7⟩] ?_
  exact ⟨(v7.fKind == 8), h, (Imp.to (st' := ⟨91, [(1, A a1), (2, .fptr (Enc.cells a0) 0), (5, .ref 0 0 0 1 x3.length false), (6, I x2), (7, .ptr 1 0 0), (8, I ((x3.length : Int))), (9, .arr 3 0 (eL ([] : List T_impl_Value)) true), (10, I 0), (36, B ((v7.fKind == 8)))], [some ⟨0, eL x3⟩, some ⟨0, Enc.cells v7⟩]⟩) [1, 2, 5, 6, 7, 8, 9, 10, 36] (by kernel_rfl)).trans (Imp.to [1, 2, 5, 6, 7, 8, 9, 10, 36] (by kernel_rfl))⟩
  rintro x47 h
  unfold spec_l9Values_j5 at h
  refine pc h (fun h => ?_) (fun h => ?_)
  refine rveM [7] 91 [(1, A a1), (2, .fptr (Enc.cells a0) 0), (5, .ref 0 0 0 1 x3.length false), (6, I x2), (7, .ptr 1 0 0), (8, I ((x3.length : Int))), (9, .arr 3 0 (eL ([] : List T_impl_Value)) true), (10, I 1)] [some ⟨0, eL x3⟩, some ⟨0, Enc.cells v7⟩] ?_
  exact ⟨1, h, (Imp.to (st' := ⟨91, [(1, A a1), (2, .fptr (Enc.cells a0) 0), (5, .ref 0 0 0 1 x3.length false), (6, I x2), (7, .ptr 1 0 0), (8, I ((x3.length : Int))), (9, .arr 3 0 (eL ([] : List T_impl_Value)) true), (10, I 1)], [some ⟨0, eL x3⟩, some ⟨0, Enc.cells v7⟩]⟩) [1, 2, 5, 6, 7, 8, 9, 10] (by kernel_rfl)).trans (Imp.to [1, 2, 5, 6, 7, 8, 9, 10] (by kernel_rfl))⟩
  refine pwp_skip ?_
  exact ⟨0, h, (Imp.to (st' := ⟨91, [(1, A a1), (2, .fptr (Enc.cells a0) 0), (5, .ref 0 0 0 1 x3.length false), (6, I x2), (7, .ptr 1 0 0), (8, I ((x3.length : Int))), (9, .arr 3 0 (eL ([] : List T_impl_Value)) true), (10, I 0)], [some ⟨0, eL x3⟩, some ⟨0, Enc.cells v7⟩]⟩) [1, 2, 5, 6, 7, 8, 9, 10] (by kernel_rfl)).trans (Imp.to [1, 2, 5, 6, 7, 8, 9, 10] (by kernel_rfl))⟩
  rintro x9 h
  unfold spec_l9Values_j1 at h
  refine pwp_seq ?_
  refine srveM [7] 91 [(1, A a1), (2, .fptr (Enc.cells a0) 0), (5, .ref 0 0 0 1 x3.length false), (6, I x2), (7, .ptr 1 0 0), (8, I ((x3.length : Int))), (9, .arr 3 0 (eL ([] : List T_impl_Value)) true), (10, I x9), (11, I 0)] [some ⟨0, eL x3⟩, some ⟨0, Enc.cells v7⟩] ?_
  refine pwp_block ?_
  refine pwp_loop (ι := Nat × Int × (List T_impl_Value)) (fun (f15, x13, x14) => (⟨91, [(1, A a1), (2, .fptr (Enc.cells a0) 0), (5, .ref 0 0 0 1 x3.length false), (6, I x2), (7, .ptr 1 0 0), (8, I ((x3.length : Int))), (9, .ref 2 0 0 3 x14.length false), (10, I x9), (11, I x13)], [some ⟨0, eL x3⟩, some ⟨0, Enc.cells v7⟩, some ⟨0, eL x14⟩]⟩ : St)) (fun (f15, x13, x14) => spec_l9Values_l2 a0 x2 x3 (spec_l9Values_l0 a0 a1 f4) v7 x9 f15 x13 x14 = some y) (fun (f15, x13, x14) => f15) (FUEL, 0, ([] : List T_impl_Value)) h ((Imp.to (st' := ⟨91, [(1, A a1), (2, .fptr (Enc.cells a0) 0), (5, .ref 0 0 0 1 x3.length false), (6, I x2), (7, .ptr 1 0 0), (8, I ((x3.length : Int))), (9, .arr 3 0 (eL ([] : List T_impl_Value)) true), (10, I x9), (11, I 0)], [some ⟨0, eL x3⟩, some ⟨0, Enc.cells v7⟩]⟩) [1, 2, 5, 6, 7, 8, 9, 10, 11] (by kernel_rfl)).trans ((Imp.thawS (st' := ⟨91, [(1, A a1), (2, .fptr (Enc.cells a0) 0), (5, .ref 0 0 0 1 x3.length false), (6, I x2), (7, .ptr 1 0 0), (8, I ((x3.length : Int))), (9, .ref 2 0 0 3 (([] : List T_impl_Value)).length false), (10, I x9), (11, I 0)], [some ⟨0, eL x3⟩, some ⟨0, Enc.cells v7⟩, some ⟨0, eL (([] : List T_impl_Value))⟩]⟩) 9 [1, 2, 5, 6, 7, 8, 9, 10, 11] (by kernel_rfl)).trans (Imp.to [1, 2, 5, 6, 7, 8, 9, 10, 11] (by kernel_rfl)))) ?_
  rintro ⟨f15, x13, x14⟩ h
  dsimp only at h ⊢
  rcases f15 with _ | f15
  cases h
  rw [spec_l9Values_l2] at h
  refine pwp_seq ?_
  refine srveM [7] 91 [(1, A a1), (2, .fptr (Enc.cells a0) 0), (5, .ref 0 0 0 1 x3.length false), (6, I x2), (7, .ptr 1 0 0), (8, I ((x3.length : Int))), (9, .ref 2 0 0 3 x14.length false), (10, I x9), (11, I x13), (43, B ((decide (x13 < ((a0.fPicked.length : Int))))))] [some ⟨0, eL x3⟩, some ⟨0, Enc.cells v7⟩, some ⟨0, eL x14⟩] ?_
  refine pc h (fun h => ?_) (fun h => ?_)
  refine pwp_skip ?_
  refine pwp_seq ?_
  refine pwp_block ?_
  refine srveM [7] 91 [(1, A a1), (2, .fptr (Enc.cells a0) 0), (5, .ref 0 0 0 1 x3.length false), (6, I x2), (7, .ptr 1 0 0), (8, I ((x3.length : Int))), (9, .ref 2 0 0 3 x14.length false), (10, I x9), (11, I x13), (12, .arr 3 0 (eL ([] : List T_impl_Value)) true)] [some ⟨0, eL x3⟩, some ⟨0, Enc.cells v7⟩, some ⟨0, eL x14⟩] ?_
  refine pwp_seq ?_
  refine srveM [7] 91 [(1, A a1), (2, .fptr (Enc.cells a0) 0), (5, .ref 0 0 0 1 x3.length false), (6, I x2), (7, .ptr 1 0 0), (8, I ((x3.length : Int))), (9, .ref 2 0 0 3 x14.length false), (10, I x9), (11, I x13), (12, .arr 3 0 (eL ([] : List T_impl_Value)) true), (13, I ((w64 (((x3.length : Int)) - x9))))] [some ⟨0, eL x3⟩, some ⟨0, Enc.cells v7⟩, some ⟨0, eL x14⟩] ?_
  refine pwp_block ?_
  refine pwp_loop (ι := Nat × Int × (List T_impl_Value)) (fun (f24, x22, x23) => (⟨91, [(1, A a1), (2, .fptr (Enc.cells a0) 0), (5, .ref 0 0 0 1 x3.length false), (6, I x2), (7, .ptr 1 0 0), (8, I ((x3.length : Int))), (9, .ref 2 0 0 3 x14.length false), (10, I x9), (11, I x13), (12, .ref 3 0 0 3 x23.length false), (13, I x22)], [some ⟨0, eL x3⟩, some ⟨0, Enc.cells v7⟩, some ⟨0, eL x14⟩, some ⟨0, eL x23⟩]⟩ : St)) (fun (f24, x22, x23) => spec_l9Values_l3 a0 x3 v7 x13 x14 (spec_l9Values_l2 a0 x2 x3 (spec_l9Values_l0 a0 a1 f4) v7 x9 f15) f24 x22 x23 = some y) (fun (f24, x22, x23) => f24) (FUEL, (w64 (((x3.length : Int)) - x9)), ([] : List T_impl_Value)) h ((Imp.to (st' := ⟨91, [(1, A a1), (2, .fptr (Enc.cells a0) 0), (5, .ref 0 0 0 1 x3.length false), (6, I x2), (7, .ptr 1 0 0), (8, I ((x3.length : Int))), (9, .ref 2 0 0 3 x14.length false), (10, I x9), (11, I x13), (12, .arr 3 0 (eL ([] : List T_impl_Value)) true), (13, I ((w64 (((x3.length : Int)) - x9))))], [some ⟨0, eL x3⟩, some ⟨0, Enc.cells v7⟩, some ⟨0, eL x14⟩]⟩) [1, 2, 5, 6, 7, 8, 9, 10, 11, 12, 13] (by kernel_rfl)).trans ((Imp.thawS (st' := ⟨91, [(1, A a1), (2, .fptr (Enc.cells a0) 0), (5, .ref 0 0 0 1 x3.length false), (6, I x2), (7, .ptr 1 0 0), (8, I ((x3.length : Int))), (9, .ref 2 0 0 3 x14.length false), (10, I x9), (11, I x13), (12, .ref 3 0 0 3 (([] : List T_impl_Value)).length false), (13, I ((w64 (((x3.length : Int)) - x9))))], [some ⟨0, eL x3⟩, some ⟨0, Enc.cells v7⟩, some ⟨0, eL x14⟩, some ⟨0, eL (([] : List T_impl_Value))⟩]⟩) 12 [1, 2, 5, 6, 7, 8, 9, 10, 11, 12, 13] (by kernel_rfl)).trans (Imp.to [1, 2, 5, 6, 7, 8, 9, 10, 11, 12, 13] (by kernel_rfl)))) ?_
  rintro ⟨f24, x22, x23⟩ h
  dsimp only at h ⊢
  rcases f24 with _ | f24
  cases h
  rw [spec_l9Values_l3] at h
  refine pwp_seq ?_
  refine srveM [7] 91 [(1, A a1), (2, .fptr (Enc.cells a0) 0), (5, .ref 0 0 0 1 x3.length false), (6, I x2), (7, .ptr 1 0 0), (8, I ((x3.length : Int))), (9, .ref 2 0 0 3 x14.length false), (10, I x9), (11, I x13), (12, .ref 3 0 0 3 x23.length false), (13, I x22), (52, B ((decide (x22 < ((x3.length : Int))))))] [some ⟨0, eL x3⟩, some ⟨0, Enc.cells v7⟩, some ⟨0, eL x14⟩, some ⟨0, eL x23⟩] ?_
  refine pc h (fun h => ?_) (fun h => ?_)
  refine pwp_skip ?_
  refine pwp_seq ?_
  refine pwp_block ?_
  refine rvM [7] 3 91 [(1, A a1), (2, .fptr (Enc.cells a0) 0), (5, .ref 0 0 0 1 x3.length false), (6, I x2), (7, .ptr 1 0 0), (8, I ((x3.length : Int))), (9, .ref 2 0 0 3 x14.length false), (10, I x9), (11, I x13), (13, I x22), (55, .ref 3 0 0 3 x23.length false), (56, .ref 0 0 0 1 x3.length false), (57, I x22)] [some ⟨0, eL x3⟩, some ⟨0, Enc.cells v7⟩, some ⟨0, eL x14⟩, some ⟨0, eL x23⟩] ?_
  obtain ⟨v27, hv28, h⟩ := bindS h
  refine opsP_idr τ_ok 58 0 0 x3.length hv28 rfl (by kernel_rfl) ?_
  refine opsP_lde (r := A v27) τ_ok 59 36 0 hv28 (by kernel_rfl) (by kernel_rfl) ?_
  refine vM [7] 1 91 [(1, A a1), (2, .fptr (Enc.cells a0) 0), (5, .ref 0 0 0 1 x3.length false), (6, I x2), (7, .ptr 1 0 0), (8, I ((x3.length : Int))), (9, .ref 2 0 0 3 x14.length false), (10, I x9), (11, I x13), (13, I x22), (55, .ref 3 0 0 3 x23.length false), (59, A v27), (60, I x13)] [some ⟨0, eL x3⟩, some ⟨0, Enc.cells v7⟩, some ⟨0, eL x14⟩, some ⟨0, eL x23⟩] ?_
  obtain ⟨v29, hv30, h⟩ := bindS h
  refine opsP_idx τ_ok 61 hv30 (by kernel_rfl) ?_
  refine vM [7] 2 91 [(1, A a1), (2, .fptr (Enc.cells a0) 0), (5, .ref 0 0 0 1 x3.length false), (6, I x2), (7, .ptr 1 0 0), (8, I ((x3.length : Int))), (9, .ref 2 0 0 3 x14.length false), (10, I x9), (11, I x13), (13, I x22), (55, .ref 3 0 0 3 x23.length false), (63, .arr 3 (([v29] : List T_impl_Value)).length (eL ([v29] : List T_impl_Value)) true)] [some ⟨0, eL x3⟩, some ⟨0, Enc.cells v7⟩, some ⟨0, eL x14⟩, some ⟨0, eL x23⟩] ?_
  obtain ⟨v31, hv32, h⟩ := bindS h
  refine opsP_app τ_ok 64 3 0 (fun b hb => absurd hb (hX b)) hv32 (by kernel_rfl) ?_
  refine veM [7] 1 91 [(1, A a1), (2, .fptr (Enc.cells a0) 0), (5, .ref 0 0 0 1 x3.length false), (6, I x2), (7, .ptr 1 0 0), (8, I ((x3.length : Int))), (9, .ref 2 0 0 3 x14.length false), (10, I x9), (11, I x13), (12, .ref 3 1 0 3 v31.length false), (13, I x22)] [some ⟨0, eL x3⟩, some ⟨0, Enc.cells v7⟩, some ⟨0, eL x14⟩, some ⟨1, eL v31⟩] ?_
  refine rveM [7] 91 [(1, A a1), (2, .fptr (Enc.cells a0) 0), (5, .ref 0 0 0 1 x3.length false), (6, I x2), (7, .ptr 1 0 0), (8, I ((x3.length : Int))), (9, .ref 2 0 0 3 x14.length false), (10, I x9), (11, I x13), (12, .ref 3 1 0 3 v31.length false), (13, I ((w64 (x22 + 1))))] [some ⟨0, eL x3⟩, some ⟨0, Enc.cells v7⟩, some ⟨0, eL x14⟩, some ⟨1, eL v31⟩] ?_
  exact ⟨(f24, (w64 (x22 + 1)), v31), h, Nat.lt_succ_self _, (Imp.to (st' := ⟨91, [(1, A a1), (2, .fptr (Enc.cells a0) 0), (5, .ref 0 0 0 1 x3.length false), (6, I x2), (7, .ptr 1 0 0), (8, I ((x3.length : Int))), (9, .ref 2 0 0 3 x14.length false), (10, I x9), (11, I x13), (12, .ref 3 1 0 3 v31.length false), (13, I ((w64 (x22 + 1))))], [some ⟨0, eL x3⟩, some ⟨0, Enc.cells v7⟩, some ⟨0, eL x14⟩, some ⟨1, eL v31⟩]⟩) [1, 2, 5, 6, 7, 8, 9, 10, 11, 12, 13] (by kernel_rfl)).trans ((Imp.reverS (st' := ⟨91, [(1, A a1), (2, .fptr (Enc.cells a0) 0), (5, .ref 0 0 0 1 x3.length false), (6, I x2), (7, .ptr 1 0 0), (8, I ((x3.length : Int))), (9, .ref 2 0 0 3 x14.length false), (10, I x9), (11, I x13), (12, .ref 3 0 0 3 v31.length false), (13, I ((w64 (x22 + 1))))], [some ⟨0, eL x3⟩, some ⟨0, Enc.cells v7⟩, some ⟨0, eL x14⟩, some ⟨0, eL v31⟩]⟩) 3 1 (eL v31) [1, 2, 5, 6, 7, 8, 9, 10, 11, 12, 13] (by kernel_rfl) (by exact (And.intro (eL_frz _) (And.intro (rfl) (And.intro (eL_frz _) (And.intro (eL_frz _) trivial))))) (by kernel_rfl)).trans (Imp.to [1, 2, 5, 6, 7, 8, 9, 10, 11, 12, 13] (by kernel_rfl)))⟩
  refine pwp_exit ?_
  refine pwp_seq ?_
  refine pwp_imp (Imp.to (st' := ⟨91, [(1, A a1), (2, .fptr (Enc.cells a0) 0), (5, .ref 0 0 0 1 x3.length false), (6, I x2), (7, .ptr 1 0 0), (8, I ((x3.length : Int))), (9, .ref 2 0 0 3 x14.length false), (10, I x9), (11, I x13), (12, .ref 3 0 0 3 x23.length false)], [some ⟨0, eL x3⟩, some ⟨0, Enc.cells v7⟩, some ⟨0, eL x14⟩, some ⟨0, eL x23⟩]⟩) [1, 2, 5, 6, 7, 8, 9, 10, 11, 12] (by kernel_rfl)) ?_
  refine pwp_any ([[], [], [], [3], [1], [3], []]) ([[], [], [], [], [], [3], []]) rfl (by kernel_rfl) ?_
  refine qA_ev (st' := ⟨91, [(66, I x13), (65, E a0), (1, A a1), (2, .fptr (Enc.cells a0) 0), (5, .ref 0 0 0 1 x3.length false), (6, I x2), (7, .ptr 1 0 0), (8, I ((x3.length : Int))), (9, .ref 2 0 0 3 x14.length false), (10, I x9), (11, I x13), (12, .ref 3 0 0 3 x23.length false)], [some ⟨0, eL x3⟩, some ⟨0, Enc.cells v7⟩, some ⟨0, eL x14⟩, some ⟨0, eL x23⟩]⟩) τ_ok [7] [] 2 (by exact trivial) (by kernel_rfl) ?_
  obtain ⟨v33, hv34, h⟩ := bindS h
  refine qA_E (dd := some 67) (x := A v33) ([none, none, none, none]) (⟨91, [(67, A v33), (66, I x13), (65, E a0), (1, A a1), (2, .fptr (Enc.cells a0) 0), (5, .ref 0 0 0 1 x3.length false), (6, I x2), (7, .ptr 1 0 0), (8, I ((x3.length : Int))), (9, .ref 2 0 0 3 x14.length false), (10, I x9), (11, I x13), (12, .ref 3 0 0 3 x23.length false)], [some ⟨0, eL x3⟩, some ⟨0, Enc.cells v7⟩, some ⟨0, eL x14⟩, some ⟨0, eL x23⟩]⟩) (fun Γ' hΓ => CoreE.of_g (callV_sound (τ := τ) (by kernel_rfl) rfl (ok_spec_l9Row hv34) (FzTo.O _))) (by kernel_rfl) (by kernel_rfl) (by exact trivial) (.inr (.inr rfl)) (by kernel_rfl) ?_
  refine qA_ev (st' := ⟨91, [(68, .ref 3 0 0 3 x23.length false), (67, A v33), (66, I x13), (65, E a0), (1, A a1), (2, .fptr (Enc.cells a0) 0), (5, .ref 0 0 0 1 x3.length false), (6, I x2), (7, .ptr 1 0 0), (8, I ((x3.length : Int))), (9, .ref 2 0 0 3 x14.length false), (10, I x9), (11, I x13), (12, .ref 3 0 0 3 x23.length false)], [some ⟨0, eL x3⟩, some ⟨0, Enc.cells v7⟩, some ⟨0, eL x14⟩, some ⟨0, eL x23⟩]⟩) τ_ok [7] [3] 1 (by exact (And.intro (.inl (eL_frz _)) trivial)) (by kernel_rfl) ?_
  refine qA_ev (st' := ⟨91, [(69, E v7), (68, .ref 3 0 0 3 x23.length false), (67, A v33), (66, I x13), (65, E a0), (1, A a1), (2, .fptr (Enc.cells a0) 0), (5, .ref 0 0 0 1 x3.length false), (6, I x2), (7, .ptr 1 0 0), (8, I ((x3.length : Int))), (9, .ref 2 0 0 3 x14.length false), (10, I x9), (11, I x13), (12, .ref 3 0 0 3 x23.length false)], [some ⟨0, eL x3⟩, some ⟨0, Enc.cells v7⟩, some ⟨0, eL x14⟩, some ⟨0, eL x23⟩]⟩) τ_ok [7] [1] 1 (by exact (And.intro (.inl (Enc.frz _)) trivial)) (by kernel_rfl) ?_
  obtain ⟨v35, hv36, h⟩ := bindS h
  refine qA_E (dd := some 70) (x := A v35) ([none, none, none, none]) (⟨91, [(70, A v35), (69, E v7), (68, .ref 3 0 0 3 x23.length false), (67, A v33), (66, I x13), (65, E a0), (1, A a1), (2, .fptr (Enc.cells a0) 0), (5, .ref 0 0 0 1 x3.length false), (6, I x2), (7, .ptr 1 0 0), (8, I ((x3.length : Int))), (9, .ref 2 0 0 3 x14.length false), (10, I x9), (11, I x13), (12, .ref 3 0 0 3 x23.length false)], [some ⟨0, eL x3⟩, some ⟨0, Enc.cells v7⟩, some ⟨0, eL x14⟩, none]⟩) (fun Γ' hΓ => callMF_E (xs := [A v33, .ref 3 0 0 3 x23.length false, E v7]) τ 70 [3] (fun b hb => absurd (hΓ b hb) (hX b)) (ok_spec_l4Do hv36) (FzTo.O _) (by kernel_rfl) (OutL.cons (OutP.frz rfl) (OutL.cons (OutP.list (v := 0) (by kernel_rfl)) (OutL.cons (OutP.frz rfl) (OutL.nil _)))) (by decide)) (by kernel_rfl) (by kernel_rfl) (by exact trivial) (.inr (.inr rfl)) (by kernel_rfl) ?_
  refine qA_ev (st' := ⟨91, [(14, A v35), (70, A v35), (69, E v7), (68, .ref 3 0 0 3 x23.length false), (67, A v33), (66, I x13), (65, E a0), (1, A a1), (2, .fptr (Enc.cells a0) 0), (5, .ref 0 0 0 1 x3.length false), (6, I x2), (7, .ptr 1 0 0), (8, I ((x3.length : Int))), (9, .ref 2 0 0 3 x14.length false), (10, I x9), (11, I x13), (12, .ref 3 0 0 3 x23.length false)], [some ⟨0, eL x3⟩, some ⟨0, Enc.cells v7⟩, some ⟨0, eL x14⟩, none]⟩) τ_ok [7] [] 1 (by exact trivial) (by kernel_rfl) ?_
  refine qA_end ?_
  refine opsP_imp (Imp.to (st' := ⟨91, [(1, A a1), (2, .fptr (Enc.cells a0) 0), (5, .ref 0 0 0 1 x3.length false), (6, I x2), (7, .ptr 1 0 0), (8, I ((x3.length : Int))), (9, .ref 2 0 0 3 x14.length false), (10, I x9), (11, I x13), (14, A v35)], [some ⟨0, eL x3⟩, some ⟨0, Enc.cells v7⟩, some ⟨0, eL x14⟩, none]⟩) [1, 2, 5, 6, 7, 8, 9, 10, 11, 14] (by kernel_rfl)) ?_
  refine opsP_end rfl ?_
  refine rvM [7] 5 91 [(1, A a1), (2, .fptr (Enc.cells a0) 0), (5, .ref 0 0 0 1 x3.length false), (6, I x2), (7, .ptr 1 0 0), (8, I ((x3.length : Int))), (10, I x9), (11, I x13), (71, .ref 2 0 0 3 x14.length false), (72, A v35), (75, I ((w64 (((v35.length : Int)) - 1))))] [some ⟨0, eL x3⟩, some ⟨0, Enc.cells v7⟩, some ⟨0, eL x14⟩, none] ?_
  obtain ⟨v37, hv38, h⟩ := bindS h
  refine opsP_idx τ_ok 76 hv38 (by kernel_rfl) ?_
  refine vM [7] 2 91 [(1, A a1), (2, .fptr (Enc.cells a0) 0), (5, .ref 0 0 0 1 x3.length false), (6, I x2), (7, .ptr 1 0 0), (8, I ((x3.length : Int))), (10, I x9), (11, I x13), (71, .ref 2 0 0 3 x14.length false), (78, .arr 3 (([v37] : List T_impl_Value)).length (eL ([v37] : List T_impl_Value)) true)] [some ⟨0, eL x3⟩, some ⟨0, Enc.cells v7⟩, some ⟨0, eL x14⟩, none] ?_
  obtain ⟨v39, hv40, h⟩ := bindS h
  refine opsP_app τ_ok 79 2 0 (fun b hb => absurd hb (hX b)) hv40 (by kernel_rfl) ?_
  refine veM [7] 1 91 [(1, A a1), (2, .fptr (Enc.cells a0) 0), (5, .ref 0 0 0 1 x3.length false), (6, I x2), (7, .ptr 1 0 0), (8, I ((x3.length : Int))), (9, .ref 2 1 0 3 v39.length false), (10, I x9), (11, I x13)] [some ⟨0, eL x3⟩, some ⟨0, Enc.cells v7⟩, some ⟨1, eL v39⟩, none] ?_
  refine rveM [7] 91 [(1, A a1), (2, .fptr (Enc.cells a0) 0), (5, .ref 0 0 0 1 x3.length false), (6, I x2), (7, .ptr 1 0 0), (8, I ((x3.length : Int))), (9, .ref 2 1 0 3 v39.length false), (10, I x9), (11, I ((w64 (x13 + 1))))] [some ⟨0, eL x3⟩, some ⟨0, Enc.cells v7⟩, some ⟨1, eL v39⟩, none] ?_
  exact ⟨(f15, (w64 (x13 + 1)), v39), h, Nat.lt_succ_self _, (Imp.to (st' := ⟨91, [(1, A a1), (2, .fptr (Enc.cells a0) 0), (5, .ref 0 0 0 1 x3.length false), (6, I x2), (7, .ptr 1 0 0), (8, I ((x3.length : Int))), (9, .ref 2 1 0 3 v39.length false), (10, I x9), (11, I ((w64 (x13 + 1))))], [some ⟨0, eL x3⟩, some ⟨0, Enc.cells v7⟩, some ⟨1, eL v39⟩, none]⟩) [1, 2, 5, 6, 7, 8, 9, 10, 11] (by kernel_rfl)).trans ((Imp.truncS (st' := ⟨91, [(1, A a1), (2, .fptr (Enc.cells a0) 0), (5, .ref 0 0 0 1 x3.length false), (6, I x2), (7, .ptr 1 0 0), (8, I ((x3.length : Int))), (9, .ref 2 1 0 3 v39.length false), (10, I x9), (11, I ((w64 (x13 + 1))))], [some ⟨0, eL x3⟩, some ⟨0, Enc.cells v7⟩, some ⟨1, eL v39⟩]⟩) 3 (fun b hb => absurd hb (hX b)) (by kernel_rfl) (allBelow_mem (by exact (And.intro rfl (And.intro rfl (And.intro rfl (And.intro rfl (And.intro rfl (And.intro rfl (And.intro rfl (And.intro rfl (And.intro rfl trivial))))))))))) (by exact (And.intro (frz_below (eL_frz _)) (And.intro (rfl) (And.intro (frz_below (eL_frz _)) trivial)))) (by kernel_rfl)).trans ((Imp.reverS (st' := ⟨91, [(1, A a1), (2, .fptr (Enc.cells a0) 0), (5, .ref 0 0 0 1 x3.length false), (6, I x2), (7, .ptr 1 0 0), (8, I ((x3.length : Int))), (9, .ref 2 0 0 3 v39.length false), (10, I x9), (11, I ((w64 (x13 + 1))))], [some ⟨0, eL x3⟩, some ⟨0, Enc.cells v7⟩, some ⟨0, eL v39⟩]⟩) 2 1 (eL v39) [1, 2, 5, 6, 7, 8, 9, 10, 11] (by kernel_rfl) (by exact (And.intro (eL_frz _) (And.intro (rfl) (And.intro (eL_frz _) trivial)))) (by kernel_rfl)).trans (Imp.to [1, 2, 5, 6, 7, 8, 9, 10, 11] (by kernel_rfl))))⟩
  refine pwp_exit ?_
  refine rvM [7] 4 91 [(1, A a1), (2, .fptr (Enc.cells a0) 0), (6, I x2), (9, .ref 2 0 0 3 x14.length false), (80, .ref 0 0 0 1 x3.length false), (83, I ((w64 (((x3.length : Int)) - x9))))] [some ⟨0, eL x3⟩, some ⟨0, Enc.cells v7⟩, some ⟨0, eL x14⟩] ?_
  obtain ⟨v41, hv42, h⟩ := bindS h
  refine opsP_slr τ_ok 84 0 0 x3.length hv42 rfl (by kernel_rfl) ?_
  refine vM [7] 1 91 [(1, A a1), (2, .fptr (Enc.cells a0) 0), (6, I x2), (84, .ref 0 0 0 1 v41.length false), (85, .ref 2 0 0 3 x14.length false)] [some ⟨0, eL x3⟩, some ⟨0, Enc.cells v7⟩, some ⟨0, eL x14⟩] ?_
  refine opsP_imp ((Imp.freezeB (v := 0) (cs := eL x14) (st' := ⟨91, [(1, A a1), (2, .fptr (Enc.cells a0) 0), (6, I x2), (84, .ref 0 0 0 1 v41.length false), (85, A x14)], [some ⟨0, eL x3⟩, some ⟨0, Enc.cells v7⟩, none]⟩) 2 0 (fun b hb => absurd hb (hX b)) (by kernel_rfl) (eL_frz _) (wholeC (whole_noRef (by kernel_rfl)) (wholeC (whole_noRef (by kernel_rfl)) (wholeC (whole_noRef (by kernel_rfl)) (wholeC (whole_ne rfl) (wholeC (whole_is (eL_len x14).symm) wholeC0))))) (HpRel.frz rfl (eL_frz _) (HpRel.frz rfl (Enc.frz _) (HpRel.key HpRel.nil))) (by kernel_rfl) rfl (fun b hb => absurd hb (hX b)))) ?_
  refine vM [7] 1 91 [(1, A a1), (2, .fptr (Enc.cells a0) 0), (6, I x2), (84, .ref 0 0 0 1 v41.length false), (86, .arr 1 (([x14] : List (List T_impl_Value))).length (eL ([x14] : List (List T_impl_Value))) true)] [some ⟨0, eL x3⟩, some ⟨0, Enc.cells v7⟩, none] ?_
  obtain ⟨v43, hv44, h⟩ := bindS h
  refine opsP_apt τ_ok 87 0 0 v41.length (fun b hb => absurd hb (hX b)) hv44 (slI_le hv42) (by kernel_rfl) ?_
  refine veM [7] 1 91 [(1, A a1), (2, .fptr (Enc.cells a0) 0), (5, .ref 0 1 0 1 v43.length false), (6, I x2)] [some ⟨1, eL v43⟩, some ⟨0, Enc.cells v7⟩, none] ?_
  refine rveM [7] 91 [(1, A a1), (2, .fptr (Enc.cells a0) 0), (5, .ref 0 1 0 1 v43.length false), (6, I ((w64 (x2 + 1))))] [some ⟨1, eL v43⟩, some ⟨0, Enc.cells v7⟩, none] ?_
  exact ⟨(f4, (w64 (x2 + 1)), v43), h, Nat.lt_succ_self _, (Imp.to (st' := ⟨91, [(1, A a1), (2, .fptr (Enc.cells a0) 0), (5, .ref 0 1 0 1 v43.length false), (6, I ((w64 (x2 + 1))))], [some ⟨1, eL v43⟩, some ⟨0, Enc.cells v7⟩, none]⟩) [1, 2, 5, 6] (by kernel_rfl)).trans ((Imp.truncS (st' := ⟨91, [(1, A a1), (2, .fptr (Enc.cells a0) 0), (5, .ref 0 1 0 1 v43.length false), (6, I ((w64 (x2 + 1))))], [some ⟨1, eL v43⟩]⟩) 1 (fun b hb => absurd hb (hX b)) (by kernel_rfl) (allBelow_mem (by exact (And.intro rfl (And.intro rfl (And.intro rfl (And.intro rfl trivial)))))) (by exact (And.intro (frz_below (eL_frz _)) trivial)) (by kernel_rfl)).trans ((Imp.reverS (st' := ⟨91, [(1, A a1), (2, .fptr (Enc.cells a0) 0), (5, .ref 0 0 0 1 v43.length false), (6, I ((w64 (x2 + 1))))], [some ⟨0, eL v43⟩]⟩) 0 1 (eL v43) [1, 2, 5, 6] (by kernel_rfl) (by exact (And.intro (eL_frz _) trivial)) (by kernel_rfl)).trans (Imp.to [1, 2, 5, 6] (by kernel_rfl))))⟩
  refine pwp_exit ?_
  refine srvM [7] 1 91 [(88, .ref 0 0 0 1 x3.length false)] [some ⟨0, eL x3⟩] ?_
  obtain ⟨v53, hv54, h⟩ := bindS h
  refine opsP_idr τ_ok 89 0 0 x3.length hv54 rfl (by kernel_rfl) ?_
  refine opsP_lde (r := A v53) τ_ok 90 36 0 hv54 (by kernel_rfl) (by kernel_rfl) ?_
  refine veM [7] 1 91 [(4, A v53)] [some ⟨0, eL x3⟩] ?_
  cases h
  exact pwp_ret rz
def impl_ExprKind_j2 (a0 : List T_impl_Column) (x4 : Int) (x5 : List Int) (K7 : Int → (List Int) → Option Int) (v9 : T_impl_Part) (v11 : Int) (x13 : Bool) : Option Int := bif x13 then some (-1) else (slI x5 (some ((w64 (((x5.length : Int)) - v11)))) none none).bind fun v15 => (impl_Part_kind v9 a0 v15).bind fun v17 => bif (!v17.2) then some (-1) else (slI x5 none (some ((w64 (((x5.length : Int)) - v11)))) none).bind fun v20 => (appT x5 (([v17.1] : List Int)) v20.length).bind fun v22 => K7 ((w64 (x4 + 1))) v22
def impl_ExprKind_l1 (a0 : List T_impl_Column) (a1 : List T_impl_Part) : Nat → Int → (List Int) → Option Int
  | 0, _, _ => none
  | f6 + 1, x4, x5 => bif (decide (x4 < ((a1.length : Int)))) then (getI a1 x4).bind fun v9 => (impl_Part_takes v9).bind fun v11 => (impl_Part_tells v9 a0).bind fun v24 => bif (!v24) then impl_ExprKind_j2 a0 x4 x5 (impl_ExprKind_l1 a0 a1 f6) v9 v11 true else impl_ExprKind_j2 a0 x4 x5 (impl_ExprKind_l1 a0 a1 f6) v9 v11 ((decide (((x5.length : Int)) < v11))) else bif (!(((x5.length : Int)) == 1)) then some (-1) else (getI x5 0).bind fun v28 => some v28
def impl_ExprKind_j0 (a0 : List T_impl_Column) (a1 : List T_impl_Part) (x1 : Bool) : Option Int := bif x1 then some (-1) else impl_ExprKind_l1 a0 a1 FUEL 0 (([] : List Int))
def impl_ExprKind (a0 : List T_impl_Column) (a1 : List T_impl_Part) : Option Int := (impl_ColumnsOk a0).bind fun v30 => bif (!v30) then impl_ExprKind_j0 a0 a1 true else impl_ExprKind_j0 a0 a1 ((decide (((a1.length : Int)) > 12)))
theorem ok_impl_ExprKind {a0 : List T_impl_Column} {a1 : List T_impl_Part} {y : Int} (h : impl_ExprKind a0 a1 = some y) : OK Tryz.prog 78 [A a0, A a1] (I y) := by
  refine OK_of_pwp τ_ok Tryz.func78 rfl (by kernel_rfl) rfl fun Γ hX => ?_
  unfold impl_ExprKind at h
  refine srveM [7] 67 [(0, A a0), (1, A a1)] [] ?_
  refine pwp_seq ?_
  refine pwp_seq ?_
  refine pwp_join (σ := Bool) (fun x1 => (⟨67, [(0, A a0), (1, A a1), (18, B x1)], []⟩ : St)) (fun x1 => impl_ExprKind_j0 a0 a1 x1 = some y) ?_ ?_
  refine rvM [7] 1 67 [(0, A a0), (1, A a1), (11, A a0)] [] ?_
  obtain ⟨v30, hv31, h⟩ := bindS h
  refine opsP_callF τ 12 (ok_impl_ColumnsOk hv31) (FzTo.frz rfl) rfl (by kernel_rfl) ?_
  refine vM [7] 2 67 [(0, A a0), (1, A a1), (14, B ((!v30)))] [] ?_
  rcases fk ((!v30)) with hc32 | hc32
  replace h := bT hc32 h
  rw [hc32]
  refine veM [7] 4 67 [(0, A a0), (1, A a1), (18, B true)] [] ?_
  exact ⟨true, h, (Imp.to (st' := ⟨67, [(0, A a0), (1, A a1), (18, B true)], []⟩) [0, 1, 18] (by kernel_rfl)).trans (Imp.to [0, 1, 18] (by kernel_rfl))⟩
  replace h := bF hc32 h
  rw [hc32]
  refine veM [7] 4 67 [(0, A a0), (1, A a1), (18, B ((decide (((a1.length : Int)) > 12))))] [] ?_
  exact ⟨(decide (((a1.length : Int)) > 12)), h, (Imp.to (st' := ⟨67, [(0, A a0), (1, A a1), (18, B ((decide (((a1.length : Int)) > 12))))], []⟩) [0, 1, 18] (by kernel_rfl)).trans (Imp.to [0, 1, 18] (by kernel_rfl))⟩
  rintro x1 h
  unfold impl_ExprKind_j0 at h
  refine pc h (fun h => ?_) (fun h => ?_)
  refine srveM [7] 67 [(4, I (-1))] [] ?_
  cases h
  exact pwp_ret rz
  refine pwp_skip ?_
  refine srveM [7] 67 [(0, A a0), (1, A a1), (5, .arr 1 0 (eL ([] : List Int)) true)] [] ?_
  refine pwp_seq ?_
  refine srveM [7] 67 [(0, A a0), (5, .arr 1 0 (eL ([] : List Int)) true), (19, A a1), (20, I ((a1.length : Int))), (21, I 0)] [] ?_
  refine pwp_block ?_
  refine pwp_loop (ι := Nat × Int × (List Int)) (fun (f6, x4, x5) => (⟨67, [(0, A a0), (5, .ref 0 0 0 1 x5.length false), (19, A a1), (20, I ((a1.length : Int))), (21, I x4)], [some ⟨0, eL x5⟩]⟩ : St)) (fun (f6, x4, x5) => impl_ExprKind_l1 a0 a1 f6 x4 x5 = some y) (fun (f6, x4, x5) => f6) (FUEL, 0, ([] : List Int)) h ((Imp.to (st' := ⟨67, [(0, A a0), (5, .arr 1 0 (eL ([] : List Int)) true), (19, A a1), (20, I ((a1.length : Int))), (21, I 0)], []⟩) [0, 5, 19, 20, 21] (by kernel_rfl)).trans ((Imp.thawS (st' := ⟨67, [(0, A a0), (5, .ref 0 0 0 1 (([] : List Int)).length false), (19, A a1), (20, I ((a1.length : Int))), (21, I 0)], [some ⟨0, eL (([] : List Int))⟩]⟩) 5 [0, 5, 19, 20, 21] (by kernel_rfl)).trans (Imp.to [0, 5, 19, 20, 21] (by kernel_rfl)))) ?_
  rintro ⟨f6, x4, x5⟩ h
  dsimp only at h ⊢
  rcases f6 with _ | f6
  cases h
  rw [impl_ExprKind_l1] at h
  refine srveM [7] 67 [(0, A a0), (5, .ref 0 0 0 1 x5.length false), (19, A a1), (20, I ((a1.length : Int))), (21, I x4), (22, B ((decide (x4 < ((a1.length : Int))))))] [some ⟨0, eL x5⟩] ?_
  refine pwp_seq ?_
  refine pc h (fun h => ?_) (fun h => ?_)
  refine pwp_skip ?_
  refine pwp_seq ?_
  refine pwp_block ?_
  refine pwp_seq ?_
  refine pwp_region ?_
  obtain ⟨v9, hv10, h⟩ := bindS h
  refine opsP_idx τ_ok 23 hv10 (by kernel_rfl) ?_
  refine veM [7] 3 67 [(0, A a0), (5, .ref 0 0 0 1 x5.length false), (7, .ptr 1 0 0), (19, A a1), (20, I ((a1.length : Int))), (21, I x4)] [some ⟨0, eL x5⟩, some ⟨0, Enc.cells v9⟩] ?_
  refine srvM [7] 1 67 [(0, A a0), (5, .ref 0 0 0 1 x5.length false), (7, .ptr 1 0 0), (19, A a1), (20, I ((a1.length : Int))), (21, I x4), (25, E v9)] [some ⟨0, eL x5⟩, some ⟨0, Enc.cells v9⟩] ?_
  obtain ⟨v11, hv12, h⟩ := bindS h
  refine opsP_callF τ 26 (ok_impl_Part_takes hv12) (FzTo.frz rfl) rfl (by kernel_rfl) ?_
  refine veM [7] 1 67 [(0, A a0), (5, .ref 0 0 0 1 x5.length false), (7, .ptr 1 0 0), (8, I v11), (19, A a1), (20, I ((a1.length : Int))), (21, I x4)] [some ⟨0, eL x5⟩, some ⟨0, Enc.cells v9⟩] ?_
  refine pwp_seq ?_
  refine pwp_seq ?_
  refine pwp_join (σ := Bool) (fun x13 => (⟨67, [(0, A a0), (5, .ref 0 0 0 1 x5.length false), (7, .ptr 1 0 0), (8, I v11), (19, A a1), (20, I ((a1.length : Int))), (21, I x4), (36, B x13)], [some ⟨0, eL x5⟩, some ⟨0, Enc.cells v9⟩]⟩ : St)) (fun x13 => impl_ExprKind_j2 a0 x4 x5 (impl_ExprKind_l1 a0 a1 f6) v9 v11 x13 = some y) ?_ ?_
  refine rvM [7] 2 67 [(0, A a0), (5, .ref 0 0 0 1 x5.length false), (7, .ptr 1 0 0), (8, I v11), (19, A a1), (20, I ((a1.length : Int))), (21, I x4), (27, E v9), (28, A a0)] [some ⟨0, eL x5⟩, some ⟨0, Enc.cells v9⟩] ?_
  obtain ⟨v24, hv25, h⟩ := bindS h
  refine opsP_callF τ 29 (ok_impl_Part_tells hv25) (FzTo.frz rfl) rfl (by kernel_rfl) ?_
  refine vM [7] 2 67 [(0, A a0), (5, .ref 0 0 0 1 x5.length false), (7, .ptr 1 0 0), (8, I v11), (19, A a1), (20, I ((a1.length : Int))), (21, I x4), (31, B ((!v24)))] [some ⟨0, eL x5⟩, some ⟨0, Enc.cells v9⟩] ?_
  rcases fk ((!v24)) with hc26 | hc26
  replace h := bT hc26 h
  rw [hc26]
  refine veM [7] 5 67 [(0, A a0), (5, .ref 0 0 0 1 x5.length false), (7, .ptr 1 0 0), (8, I v11), (19, A a1), (20, I ((a1.length : Int))), (21, I x4), (32, .lit undef), (33, .lit undef), (34, .lit undef), (35, .lit undef), (36, B true)] [some ⟨0, eL x5⟩, some ⟨0, Enc.cells v9⟩] ?_
  exact ⟨true, h, (Imp.to (st' := ⟨67, [(0, A a0), (5, .ref 0 0 0 1 x5.length false), (7, .ptr 1 0 0), (8, I v11), (19, A a1), (20, I ((a1.length : Int))), (21, I x4), (36, B true)], [some ⟨0, eL x5⟩, some ⟨0, Enc.cells v9⟩]⟩) [0, 5, 7, 8, 19, 20, 21, 36] (by kernel_rfl)).trans (Imp.to [0, 5, 7, 8, 19, 20, 21, 36] (by kernel_rfl))⟩
  replace h := bF hc26 h
  rw [hc26]
  refine veM [7] 5 67 [(0, A a0), (5, .ref 0 0 0 1 x5.length false), (7, .ptr 1 0 0), (8, I v11), (19, A a1), (20, I ((a1.length : Int))), (21, I x4), (32, .ref 0 0 0 1 x5.length false), (33, I ((x5.length : Int))), (34, I v11), (35, B ((decide (((x5.length : Int)) < v11)))), (36, B ((decide (((x5.length : Int)) < v11))))] [some ⟨0, eL x5⟩, some ⟨0, Enc.cells v9⟩] ?_
  exact ⟨(decide (((x5.length : Int)) < v11)), h, (Imp.to (st' := ⟨67, [(0, A a0), (5, .ref 0 0 0 1 x5.length false), (7, .ptr 1 0 0), (8, I v11), (19, A a1), (20, I ((a1.length : Int))), (21, I x4), (36, B ((decide (((x5.length : Int)) < v11))))], [some ⟨0, eL x5⟩, some ⟨0, Enc.cells v9⟩]⟩) [0, 5, 7, 8, 19, 20, 21, 36] (by kernel_rfl)).trans (Imp.to [0, 5, 7, 8, 19, 20, 21, 36] (by kernel_rfl))⟩
  rintro x13 h
  unfold impl_ExprKind_j2 at h
  refine pc h (fun h => ?_) (fun h => ?_)
  refine srveM [7] 67 [(4, I (-1))] [some ⟨0, eL x5⟩, some ⟨0, Enc.cells v9⟩] ?_
  cases h
  exact pwp_ret rz
  refine pwp_skip ?_
  refine pwp_seq ?_
  refine pwp_imp (Imp.to (st' := ⟨67, [(0, A a0), (5, .ref 0 0 0 1 x5.length false), (7, .ptr 1 0 0), (8, I v11), (19, A a1), (20, I ((a1.length : Int))), (21, I x4)], [some ⟨0, eL x5⟩, some ⟨0, Enc.cells v9⟩]⟩) [0, 5, 7, 8, 19, 20, 21] (by kernel_rfl)) ?_
  refine pwp_any ([[1], [], [0], [0], [0], [], [], [0], [0], [], [], [], [], []]) ([[], [], [], [], [], [], [], [], [], [], [], [], [], []]) rfl (by kernel_rfl) ?_
  refine qA_ev (st' := ⟨67, [(38, E v9), (0, A a0), (5, .ref 0 0 0 1 x5.length false), (7, .ptr 1 0 0), (8, I v11), (19, A a1), (20, I ((a1.length : Int))), (21, I x4)], [some ⟨0, eL x5⟩, some ⟨0, Enc.cells v9⟩]⟩) τ_ok [7] [1] 1 (by exact (And.intro (.inl (Enc.frz _)) trivial)) (by kernel_rfl) ?_
  refine qA_ev (st' := ⟨67, [(39, A a0), (38, E v9), (0, A a0), (5, .ref 0 0 0 1 x5.length false), (7, .ptr 1 0 0), (8, I v11), (19, A a1), (20, I ((a1.length : Int))), (21, I x4)], [some ⟨0, eL x5⟩, some ⟨0, Enc.cells v9⟩]⟩) τ_ok [7] [] 1 (by exact trivial) (by kernel_rfl) ?_
  refine qA_ev (st' := ⟨67, [(42, I ((x5.length : Int))), (41, .ref 0 0 0 1 x5.length false), (40, .ref 0 0 0 1 x5.length false), (39, A a0), (38, E v9), (0, A a0), (5, .ref 0 0 0 1 x5.length false), (7, .ptr 1 0 0), (8, I v11), (19, A a1), (20, I ((a1.length : Int))), (21, I x4)], [some ⟨0, eL x5⟩, some ⟨0, Enc.cells v9⟩]⟩) τ_ok [7] [0] 3 (by exact (And.intro (.inl (eL_frz _)) trivial)) (by kernel_rfl) ?_
  refine qA_ev (st' := ⟨67, [(44, I ((w64 (((x5.length : Int)) - v11)))), (43, I v11), (42, I ((x5.length : Int))), (41, .ref 0 0 0 1 x5.length false), (40, .ref 0 0 0 1 x5.length false), (39, A a0), (38, E v9), (0, A a0), (5, .ref 0 0 0 1 x5.length false), (7, .ptr 1 0 0), (8, I v11), (19, A a1), (20, I ((a1.length : Int))), (21, I x4)], [some ⟨0, eL x5⟩, some ⟨0, Enc.cells v9⟩]⟩) τ_ok [7] [] 2 (by exact trivial) (by kernel_rfl) ?_
  obtain ⟨v15, hv16, h⟩ := bindS h
  refine qA_E (dd := some 45) (x := .ref 0 0 ((w64 (((x5.length : Int)) - v11)).toNat * 1) 1 v15.length false) ([some ⟨0, eL x5⟩, none]) (⟨67, [(45, .ref 0 0 ((w64 (((x5.length : Int)) - v11)).toNat * 1) 1 v15.length false), (44, I ((w64 (((x5.length : Int)) - v11)))), (43, I v11), (42, I ((x5.length : Int))), (41, .ref 0 0 0 1 x5.length false), (40, .ref 0 0 0 1 x5.length false), (39, A a0), (38, E v9), (0, A a0), (5, .ref 0 0 0 1 x5.length false), (7, .ptr 1 0 0), (8, I v11), (19, A a1), (20, I ((a1.length : Int))), (21, I x4)], [some ⟨0, eL x5⟩, some ⟨0, Enc.cells v9⟩]⟩) (fun Γ' hΓ => CoreE.of_y (slrV_sound (n := x5.length) τ_ok (by kernel_rfl) rfl hv16)) (by kernel_rfl) (by kernel_rfl) (by exact (And.intro (.inl (eL_frz _)) trivial)) (.inr (.inl rfl)) (by kernel_rfl) ?_
  obtain ⟨v17, hv18, h⟩ := bindS h
  refine qA_E (dd := some 46) (x := .tup [I v17.1, B v17.2]) ([some ⟨0, eL x5⟩, none]) (⟨67, [(46, .tup [I v17.1, B v17.2]), (45, .ref 0 0 ((w64 (((x5.length : Int)) - v11)).toNat * 1) 1 v15.length false), (44, I ((w64 (((x5.length : Int)) - v11)))), (43, I v11), (42, I ((x5.length : Int))), (41, .ref 0 0 0 1 x5.length false), (40, .ref 0 0 0 1 x5.length false), (39, A a0), (38, E v9), (0, A a0), (5, .ref 0 0 0 1 x5.length false), (7, .ptr 1 0 0), (8, I v11), (19, A a1), (20, I ((a1.length : Int))), (21, I x4)], [some ⟨0, eL x5⟩, some ⟨0, Enc.cells v9⟩]⟩) (fun Γ' hΓ => CoreE.of_g (callVV_sound (xs := [E v9, A a0, .ref 0 0 ((w64 (((x5.length : Int)) - v11)).toNat * 1) 1 v15.length false]) (τ := τ) (by kernel_rfl) (ViewL.cons (View.frz rfl) (ViewL.cons (View.frz rfl) (ViewL.cons (View.ref (v := 0) (lo := (w64 (((x5.length : Int)) - v11)).toNat) x5 v15 (by kernel_rfl) (slI_view hv16) rfl) (ViewL.nil _)))) (ok_impl_Part_kind hv18) (Blind.tup (BlindL.cons (Blind.lit _) (BlindL.cons (Blind.lit _) BlindL.nil))) (FzTo.tup (FzToL.cons (FzTo.frz rfl) (FzToL.cons (FzTo.frz rfl) FzToL.nil))))) (by kernel_rfl) (by kernel_rfl) (by exact (And.intro (.inl (eL_frz _)) trivial)) (.inr (.inr rfl)) (by kernel_rfl) ?_
  refine qA_ev (st' := ⟨67, [(10, B v17.2), (9, I v17.1), (48, B v17.2), (47, I v17.1), (37, .tup [I v17.1, B v17.2]), (46, .tup [I v17.1, B v17.2]), (45, .ref 0 0 ((w64 (((x5.length : Int)) - v11)).toNat * 1) 1 v15.length false), (44, I ((w64 (((x5.length : Int)) - v11)))), (43, I v11), (42, I ((x5.length : Int))), (41, .ref 0 0 0 1 x5.length false), (40, .ref 0 0 0 1 x5.length false), (39, A a0), (38, E v9), (0, A a0), (5, .ref 0 0 0 1 x5.length false), (7, .ptr 1 0 0), (8, I v11), (19, A a1), (20, I ((a1.length : Int))), (21, I x4)], [some ⟨0, eL x5⟩, some ⟨0, Enc.cells v9⟩]⟩) τ_ok [7] [] 5 (by exact trivial) (by kernel_rfl) ?_
  refine qA_end ?_
  refine opsP_imp (Imp.to (st' := ⟨67, [(0, A a0), (5, .ref 0 0 0 1 x5.length false), (8, I v11), (9, I v17.1), (10, B v17.2), (19, A a1), (20, I ((a1.length : Int))), (21, I x4)], [some ⟨0, eL x5⟩, some ⟨0, Enc.cells v9⟩]⟩) [0, 5, 8, 9, 10, 19, 20, 21] (by kernel_rfl)) ?_
  refine opsP_end rfl ?_
  refine pwp_seq ?_
  refine srveM [7] 67 [(0, A a0), (5, .ref 0 0 0 1 x5.length false), (8, I v11), (9, I v17.1), (19, A a1), (20, I ((a1.length : Int))), (21, I x4), (50, B ((!v17.2)))] [some ⟨0, eL x5⟩, some ⟨0, Enc.cells v9⟩] ?_
  refine pc h (fun h => ?_) (fun h => ?_)
  refine srveM [7] 67 [(4, I (-1))] [some ⟨0, eL x5⟩, some ⟨0, Enc.cells v9⟩] ?_
  cases h
  exact pwp_ret rz
  refine pwp_skip ?_
  refine rvM [7] 5 67 [(0, A a0), (9, I v17.1), (19, A a1), (20, I ((a1.length : Int))), (21, I x4), (51, .ref 0 0 0 1 x5.length false), (55, I ((w64 (((x5.length : Int)) - v11))))] [some ⟨0, eL x5⟩, some ⟨0, Enc.cells v9⟩] ?_
  obtain ⟨v20, hv21, h⟩ := bindS h
  refine opsP_slr τ_ok 56 0 0 x5.length hv21 rfl (by kernel_rfl) ?_
  refine vM [7] 2 67 [(0, A a0), (19, A a1), (20, I ((a1.length : Int))), (21, I x4), (56, .ref 0 0 0 1 v20.length false), (58, .arr 1 (([v17.1] : List Int)).length (eL ([v17.1] : List Int)) true)] [some ⟨0, eL x5⟩, some ⟨0, Enc.cells v9⟩] ?_
  obtain ⟨v22, hv23, h⟩ := bindS h
  refine opsP_apt τ_ok 59 0 0 v20.length (fun b hb => absurd hb (hX b)) hv23 (slI_le hv21) (by kernel_rfl) ?_
  refine veM [7] 1 67 [(0, A a0), (5, .ref 0 1 0 1 v22.length false), (19, A a1), (20, I ((a1.length : Int))), (21, I x4)] [some ⟨1, eL v22⟩, some ⟨0, Enc.cells v9⟩] ?_
  refine rveM [7] 67 [(0, A a0), (5, .ref 0 1 0 1 v22.length false), (19, A a1), (20, I ((a1.length : Int))), (21, I ((w64 (x4 + 1))))] [some ⟨1, eL v22⟩, some ⟨0, Enc.cells v9⟩] ?_
  exact ⟨(f6, (w64 (x4 + 1)), v22), h, Nat.lt_succ_self _, (Imp.to (st' := ⟨67, [(0, A a0), (5, .ref 0 1 0 1 v22.length false), (19, A a1), (20, I ((a1.length : Int))), (21, I ((w64 (x4 + 1))))], [some ⟨1, eL v22⟩, some ⟨0, Enc.cells v9⟩]⟩) [0, 5, 19, 20, 21] (by kernel_rfl)).trans ((Imp.truncS (st' := ⟨67, [(0, A a0), (5, .ref 0 1 0 1 v22.length false), (19, A a1), (20, I ((a1.length : Int))), (21, I ((w64 (x4 + 1))))], [some ⟨1, eL v22⟩]⟩) 1 (fun b hb => absurd hb (hX b)) (by kernel_rfl) (allBelow_mem (by exact (And.intro rfl (And.intro rfl (And.intro rfl (And.intro rfl (And.intro rfl trivial))))))) (by exact (And.intro (frz_below (eL_frz _)) trivial)) (by kernel_rfl)).trans ((Imp.reverS (st' := ⟨67, [(0, A a0), (5, .ref 0 0 0 1 v22.length false), (19, A a1), (20, I ((a1.length : Int))), (21, I ((w64 (x4 + 1))))], [some ⟨0, eL v22⟩]⟩) 0 1 (eL v22) [0, 5, 19, 20, 21] (by kernel_rfl) (by exact (And.intro (eL_frz _) trivial)) (by kernel_rfl)).trans (Imp.to [0, 5, 19, 20, 21] (by kernel_rfl))))⟩
  refine pwp_exit ?_
  refine pwp_seq ?_
  refine srveM [7] 67 [(5, .ref 0 0 0 1 x5.length false), (63, B ((!(((x5.length : Int)) == 1))))] [some ⟨0, eL x5⟩] ?_
  refine pc h (fun h => ?_) (fun h => ?_)
  refine srveM [7] 67 [(4, I (-1))] [some ⟨0, eL x5⟩] ?_
  cases h
  exact pwp_ret rz
  refine pwp_skip ?_
  refine srvM [7] 1 67 [(64, .ref 0 0 0 1 x5.length false)] [some ⟨0, eL x5⟩] ?_
  obtain ⟨v28, hv29, h⟩ := bindS h
  refine opsP_idr τ_ok 65 0 0 x5.length hv29 rfl (by kernel_rfl) ?_
  refine opsP_lde (r := I v28) τ_ok 66 3 0 hv29 (by kernel_rfl) (by kernel_rfl) ?_
  refine veM [7] 1 67 [(4, I v28)] [some ⟨0, eL x5⟩] ?_
  cases h
  exact pwp_ret rz
def impl_Batch_fits_l1 (a0 : T_impl_Batch) (a1 : List T_impl_Column) : Nat → Int → Option Bool
  | 0, _ => none
  | f4 + 1, x3 => bif (decide (x3 < ((a0.fPicked.length : Int)))) then (impl_Batch_row a0 x3).bind fun v7 => (impl_RowFits a1 v7).bind fun v9 => bif (!v9) then some false else (impl_Batch_fits_l1 a0 a1 f4) ((w64 (x3 + 1))) else some true
def impl_Batch_fits_j0 (a0 : T_impl_Batch) (a1 : List T_impl_Column) (x1 : Bool) : Option Bool := bif x1 then some false else impl_Batch_fits_l1 a0 a1 FUEL 0
def impl_Batch_fits (a0 : T_impl_Batch) (a1 : List T_impl_Column) : Option Bool := (impl_BatchOk a0).bind fun v12 => bif (!v12) then impl_Batch_fits_j0 a0 a1 true else (impl_ColumnsOk a1).bind fun v14 => impl_Batch_fits_j0 a0 a1 ((!v14))
theorem ok_impl_Batch_fits {a0 : T_impl_Batch} {a1 : List T_impl_Column} {y : Bool} (h : impl_Batch_fits a0 a1 = some y) : OK Tryz.prog 79 [E a0, A a1] (B y) := by
  refine OK_of_pwp τ_ok Tryz.func79 rfl (by kernel_rfl) rfl fun Γ hX => ?_
  unfold impl_Batch_fits at h
  refine srve 27 [(1, A a1), (2, .fptr (Enc.cells a0) 0)] [] ?_
  refine pwp_seq ?_
  refine pwp_seq ?_
  refine pwp_join (σ := Bool) (fun x1 => (⟨27, [(1, A a1), (2, .fptr (Enc.cells a0) 0), (13, B x1)], []⟩ : St)) (fun x1 => impl_Batch_fits_j0 a0 a1 x1 = some y) ?_ ?_
  refine rv 1 27 [(1, A a1), (2, .fptr (Enc.cells a0) 0), (6, E a0)] [] ?_
  obtain ⟨v12, hv13, h⟩ := bindS h
  refine opsP_callF τ 7 (ok_impl_BatchOk hv13) (FzTo.frz rfl) rfl (by kernel_rfl) ?_
  refine v 2 27 [(1, A a1), (2, .fptr (Enc.cells a0) 0), (9, B ((!v12)))] [] ?_
  rcases fk ((!v12)) with hc16 | hc16
  replace h := bT hc16 h
  rw [hc16]
  refine ve 4 27 [(1, A a1), (2, .fptr (Enc.cells a0) 0), (13, B true)] [] ?_
  exact ⟨true, h, (Imp.to (st' := ⟨27, [(1, A a1), (2, .fptr (Enc.cells a0) 0), (13, B true)], []⟩) [1, 2, 13] (by kernel_rfl)).trans (Imp.to [1, 2, 13] (by kernel_rfl))⟩
  replace h := bF hc16 h
  rw [hc16]
  refine v 1 27 [(1, A a1), (2, .fptr (Enc.cells a0) 0), (9, B false), (10, A a1)] [] ?_
  obtain ⟨v14, hv15, h⟩ := bindS h
  refine opsP_callF τ 11 (ok_impl_ColumnsOk hv15) (FzTo.frz rfl) rfl (by kernel_rfl) ?_
  refine ve 2 27 [(1, A a1), (2, .fptr (Enc.cells a0) 0), (13, B ((!v14)))] [] ?_
  exact ⟨(!v14), h, (Imp.to (st' := ⟨27, [(1, A a1), (2, .fptr (Enc.cells a0) 0), (13, B ((!v14)))], []⟩) [1, 2, 13] (by kernel_rfl)).trans (Imp.to [1, 2, 13] (by kernel_rfl))⟩
  rintro x1 h
  unfold impl_Batch_fits_j0 at h
  refine pc h (fun h => ?_) (fun h => ?_)
  refine srve 27 [(4, B false)] [] ?_
  cases h
  exact pwp_ret rz
  refine pwp_skip ?_
  refine pwp_seq ?_
  refine srve 27 [(1, A a1), (2, .fptr (Enc.cells a0) 0), (16, I ((a0.fPicked.length : Int))), (17, I 0)] [] ?_
  refine pwp_block ?_
  refine pwp_loop (ι := Nat × Int) (fun (f4, x3) => (⟨27, [(1, A a1), (2, .fptr (Enc.cells a0) 0), (16, I ((a0.fPicked.length : Int))), (17, I x3)], []⟩ : St)) (fun (f4, x3) => impl_Batch_fits_l1 a0 a1 f4 x3 = some y) (fun (f4, x3) => f4) (FUEL, 0) h ((Imp.to (st' := ⟨27, [(1, A a1), (2, .fptr (Enc.cells a0) 0), (16, I ((a0.fPicked.length : Int))), (17, I 0)], []⟩) [1, 2, 16, 17] (by kernel_rfl)).trans (Imp.to [1, 2, 16, 17] (by kernel_rfl))) ?_
  rintro ⟨f4, x3⟩ h
  dsimp only at h ⊢
  rcases f4 with _ | f4
  cases h
  rw [impl_Batch_fits_l1] at h
  refine srve 27 [(1, A a1), (2, .fptr (Enc.cells a0) 0), (16, I ((a0.fPicked.length : Int))), (17, I x3), (18, B ((decide (x3 < ((a0.fPicked.length : Int))))))] [] ?_
  refine pwp_seq ?_
  refine pc h (fun h => ?_) (fun h => ?_)
  refine pwp_skip ?_
  refine pwp_seq ?_
  refine pwp_block ?_
  refine srve 27 [(1, A a1), (2, .fptr (Enc.cells a0) 0), (5, I x3), (16, I ((a0.fPicked.length : Int))), (17, I x3)] [] ?_
  refine srv 3 27 [(1, A a1), (2, .fptr (Enc.cells a0) 0), (16, I ((a0.fPicked.length : Int))), (17, I x3), (20, A a1), (21, E a0), (22, I x3)] [] ?_
  obtain ⟨v7, hv8, h⟩ := bindS h
  refine opsP_callF τ 23 (ok_impl_Batch_row hv8) (FzTo.O _) rfl (by kernel_rfl) ?_
  obtain ⟨v9, hv10, h⟩ := bindS h
  refine opsP_callF τ 24 (ok_impl_RowFits hv10) (FzTo.frz rfl) rfl (by kernel_rfl) ?_
  refine ve 1 27 [(1, A a1), (2, .fptr (Enc.cells a0) 0), (16, I ((a0.fPicked.length : Int))), (17, I x3), (25, B ((!v9)))] [] ?_
  refine pc h (fun h => ?_) (fun h => ?_)
  refine srve 27 [(4, B false)] [] ?_
  cases h
  exact pwp_ret rz
  refine pwp_skip ?_
  refine rve 27 [(1, A a1), (2, .fptr (Enc.cells a0) 0), (16, I ((a0.fPicked.length : Int))), (17, I ((w64 (x3 + 1))))] [] ?_
  exact ⟨(f4, (w64 (x3 + 1))), h, Nat.lt_succ_self _, (Imp.to (st' := ⟨27, [(1, A a1), (2, .fptr (Enc.cells a0) 0), (16, I ((a0.fPicked.length : Int))), (17, I ((w64 (x3 + 1))))], []⟩) [1, 2, 16, 17] (by kernel_rfl)).trans (Imp.to [1, 2, 16, 17] (by kernel_rfl))⟩
  refine pwp_exit ?_
  refine srve 27 [(4, B true)] [] ?_
  cases h
  exact pwp_ret rz
def impl_Part_value_j0 (v6 : T_impl_Value) (v8 : T_impl_Value) (x10 : Bool) : Option T_impl_Value := bif x10 then some ((T_impl_Value.mk 0 0 (ByteArray.mk #[]))) else some ((T_impl_Value.mk 1 ((w64 (v6.fN + v8.fN))) (ByteArray.mk #[])))
def impl_Part_value (a0 : T_impl_Part) (a1 : List T_impl_Value) (a2 : List T_impl_Value) : Option T_impl_Value := bif (a0.fKind == 1) then some a0.fV else bif (a0.fKind == 2) then (getI a1 a0.fN).bind fun v3 => some v3 else bif (a0.fKind == 3) then (getI a2 0).bind fun v6 => (getI a2 1).bind fun v8 => (getI a2 0).bind fun v12 => bif (v12.fKind == 0) then impl_Part_value_j0 v6 v8 true else (getI a2 1).bind fun v14 => bif (v14.fKind == 0) then impl_Part_value_j0 v6 v8 true else (impl_Value_ok ((T_impl_Value.mk 1 ((w64 (v6.fN + v8.fN))) (ByteArray.mk #[])))).bind fun v16 => impl_Part_value_j0 v6 v8 ((!v16)) else bif (a0.fKind == 4) then (getI a2 0).bind fun v21 => (getI a2 1).bind fun v23 => (impl_Compare a0.fN v21 v23).bind fun v25 => (impl_ValueOf v25).bind fun v27 => some v27 else bif (a0.fKind == 5) then (getI a2 0).bind fun v30 => (impl_TruthOf v30).bind fun v32 => (getI a2 1).bind fun v34 => (impl_TruthOf v34).bind fun v36 => (impl_AndOf v32 v36).bind fun v38 => (impl_ValueOf v38).bind fun v40 => some v40 else bif (a0.fKind == 6) then (getI a2 0).bind fun v43 => (impl_TruthOf v43).bind fun v45 => (getI a2 1).bind fun v47 => (impl_TruthOf v47).bind fun v49 => (impl_OrOf v45 v49).bind fun v51 => (impl_ValueOf v51).bind fun v53 => some v53 else bif (a0.fKind == 7) then (getI a2 0).bind fun v56 => (impl_TruthOf v56).bind fun v58 => (impl_NotOf v58).bind fun v60 => (impl_ValueOf v60).bind fun v62 => some v62 else (getI a2 0).bind fun v64 => (impl_truthIf ((v64.fKind == 0))).bind fun v66 => (impl_ValueOf v66).bind fun v68 => some v68
theorem ok_impl_Part_value {a0 : T_impl_Part} {a1 : List T_impl_Value} {a2 : List T_impl_Value} {y : T_impl_Value} (h : impl_Part_value a0 a1 a2 = some y) : OK Tryz.prog 130 [E a0, A a1, A a2] (E y) := by
  refine OK_of_pwp τ_ok Tryz.func130 rfl (by kernel_rfl) rfl fun Γ hX => ?_
  unfold impl_Part_value at h
  refine srveM [6, 7] 103 [(1, A a1), (2, A a2), (3, .fptr (Enc.cells a0) 0), (6, .ptr 0 0 0)] [some ⟨0, Enc.cells ((T_impl_Value.mk 0 0 (ByteArray.mk #[])))⟩] ?_
  refine pwp_seq ?_
  refine srveM [6, 7] 103 [(1, A a1), (2, A a2), (3, .fptr (Enc.cells a0) 0), (6, .ptr 0 0 0), (9, I a0.fKind)] [some ⟨0, Enc.cells ((T_impl_Value.mk 0 0 (ByteArray.mk #[])))⟩] ?_
  refine pwp_block ?_
  refine srveM [6, 7] 103 [(1, A a1), (2, A a2), (3, .fptr (Enc.cells a0) 0), (6, .ptr 0 0 0), (9, I a0.fKind), (10, B ((a0.fKind == 1)))] [some ⟨0, Enc.cells ((T_impl_Value.mk 0 0 (ByteArray.mk #[])))⟩] ?_
  refine pc h (fun h => ?_) (fun h => ?_)
  refine srveM [6, 7] 103 [(6, .ptr 0 0 0)] [some ⟨0, Enc.cells a0.fV⟩] ?_
  cases h
  exact pwp_ret rz
  refine srveM [6, 7] 103 [(1, A a1), (2, A a2), (3, .fptr (Enc.cells a0) 0), (6, .ptr 0 0 0), (9, I a0.fKind), (14, B ((a0.fKind == 2)))] [some ⟨0, Enc.cells ((T_impl_Value.mk 0 0 (ByteArray.mk #[])))⟩] ?_
  refine pc h (fun h => ?_) (fun h => ?_)
  refine srvM [6, 7] 3 103 [(6, .ptr 0 0 0), (16, A a1), (18, I a0.fN)] [some ⟨0, Enc.cells ((T_impl_Value.mk 0 0 (ByteArray.mk #[])))⟩] ?_
  obtain ⟨v3, hv4, h⟩ := bindS h
  refine opsP_idx τ_ok 19 hv4 (by kernel_rfl) ?_
  refine veM [6, 7] 2 103 [(6, .ptr 0 0 0)] [some ⟨0, Enc.cells v3⟩] ?_
  cases h
  exact pwp_ret rz
  refine srveM [6, 7] 103 [(2, A a2), (3, .fptr (Enc.cells a0) 0), (6, .ptr 0 0 0), (9, I a0.fKind), (21, B ((a0.fKind == 3)))] [some ⟨0, Enc.cells ((T_impl_Value.mk 0 0 (ByteArray.mk #[])))⟩] ?_
  refine pc h (fun h => ?_) (fun h => ?_)
  refine pwp_seq ?_
  refine pwp_imp (Imp.to (st' := ⟨103, [(2, A a2), (6, .ptr 0 0 0)], [some ⟨0, Enc.cells ((T_impl_Value.mk 0 0 (ByteArray.mk #[])))⟩]⟩) [2, 6] (by kernel_rfl)) ?_
  refine pwp_imp (Imp.ghosts 1 (st' := ⟨103, [(2, A a2), (6, .ptr 0 0 0)], [some ⟨0, Enc.cells ((T_impl_Value.mk 0 0 (ByteArray.mk #[])))⟩, some ⟨0, []⟩]⟩) (by kernel_rfl)) ?_
  refine pwp_any ([[], [], [], [], [], [], [], [], [], [], [1], [1]]) ([[], [], [], [], [], [], [], [], [], [], [1], [1]]) rfl (by kernel_rfl) ?_
  refine qA_ev (st' := ⟨103, [(23, A a2), (2, A a2), (6, .ptr 0 0 0)], [some ⟨0, Enc.cells ((T_impl_Value.mk 0 0 (ByteArray.mk #[])))⟩, some ⟨0, []⟩]⟩) τ_ok [6, 7] [] 1 (by exact trivial) (by kernel_rfl) ?_
  obtain ⟨v6, hv7, h⟩ := bindS h
  refine qA_E (dd := some 24) (x := .fptr (Enc.cells v6) 0) ([none, none]) (⟨103, [(24, .fptr (Enc.cells v6) 0), (23, A a2), (2, A a2), (6, .ptr 0 0 0)], [some ⟨0, Enc.cells ((T_impl_Value.mk 0 0 (ByteArray.mk #[])))⟩, some ⟨0, []⟩]⟩) (fun Γ' hΓ => CoreE.of_y (idxV_sound τ_ok (by kernel_rfl) hv7)) (by kernel_rfl) (by kernel_rfl) (by exact trivial) (.inr (.inr rfl)) (by kernel_rfl) ?_
  refine qA_ev (st' := ⟨103, [(27, A a2), (26, I v6.fN), (25, .fptr (Enc.cells v6) 1), (24, .fptr (Enc.cells v6) 0), (23, A a2), (2, A a2), (6, .ptr 0 0 0)], [some ⟨0, Enc.cells ((T_impl_Value.mk 0 0 (ByteArray.mk #[])))⟩, some ⟨0, []⟩]⟩) τ_ok [6, 7] [] 3 (by exact trivial) (by kernel_rfl) ?_
  obtain ⟨v8, hv9, h⟩ := bindS h
  refine qA_E (dd := some 28) (x := .fptr (Enc.cells v8) 0) ([none, none]) (⟨103, [(28, .fptr (Enc.cells v8) 0), (27, A a2), (26, I v6.fN), (25, .fptr (Enc.cells v6) 1), (24, .fptr (Enc.cells v6) 0), (23, A a2), (2, A a2), (6, .ptr 0 0 0)], [some ⟨0, Enc.cells ((T_impl_Value.mk 0 0 (ByteArray.mk #[])))⟩, some ⟨0, []⟩]⟩) (fun Γ' hΓ => CoreE.of_y (idxV_sound τ_ok (by kernel_rfl) hv9)) (by kernel_rfl) (by kernel_rfl) (by exact trivial) (.inr (.inr rfl)) (by kernel_rfl) ?_
  refine qA_ev (st' := ⟨103, [(32, E ((T_impl_Value.mk 1 ((w64 (v6.fN + v8.fN))) (ByteArray.mk #[])))), (31, I ((w64 (v6.fN + v8.fN)))), (30, I v8.fN), (29, .fptr (Enc.cells v8) 1), (28, .fptr (Enc.cells v8) 0), (27, A a2), (26, I v6.fN), (25, .fptr (Enc.cells v6) 1), (24, .fptr (Enc.cells v6) 0), (23, A a2), (2, A a2), (6, .ptr 0 0 0)], [some ⟨0, Enc.cells ((T_impl_Value.mk 0 0 (ByteArray.mk #[])))⟩, some ⟨0, []⟩]⟩) τ_ok [6, 7] [] 4 (by exact trivial) (by kernel_rfl) ?_
  refine qA_E (dd := some 7) (x := .ptr 1 1 0) ([none, some ⟨1, Enc.cells ((T_impl_Value.mk 0 0 (ByteArray.mk #[])))⟩]) (⟨103, [(7, .ptr 1 1 0), (32, E ((T_impl_Value.mk 1 ((w64 (v6.fN + v8.fN))) (ByteArray.mk #[])))), (31, I ((w64 (v6.fN + v8.fN)))), (30, I v8.fN), (29, .fptr (Enc.cells v8) 1), (28, .fptr (Enc.cells v8) 0), (27, A a2), (26, I v6.fN), (25, .fptr (Enc.cells v6) 1), (24, .fptr (Enc.cells v6) 0), (23, A a2), (2, A a2), (6, .ptr 0 0 0)], [some ⟨0, Enc.cells ((T_impl_Value.mk 0 0 (ByteArray.mk #[])))⟩, some ⟨1, Enc.cells ((T_impl_Value.mk 0 0 (ByteArray.mk #[])))⟩]⟩) (fun Γ' hΓ => alc_E (blk := ⟨0, []⟩) τ_ok [6, 7] 7 1 0 (fun b hb => absurd (hΓ b hb) (hX b)) (by kernel_rfl) (by kernel_rfl)) (by kernel_rfl) (by kernel_rfl) (by exact (And.intro (.inl (Enc.frz _)) trivial)) (.inr (.inl rfl)) (by kernel_rfl) ?_
  refine qA_E (dd := none) (x := .any) ([none, some ⟨1, Enc.cells ((T_impl_Value.mk 1 ((w64 (v6.fN + v8.fN))) (ByteArray.mk #[])))⟩]) (⟨103, [(7, .ptr 1 1 0), (32, E ((T_impl_Value.mk 1 ((w64 (v6.fN + v8.fN))) (ByteArray.mk #[])))), (31, I ((w64 (v6.fN + v8.fN)))), (30, I v8.fN), (29, .fptr (Enc.cells v8) 1), (28, .fptr (Enc.cells v8) 0), (27, A a2), (26, I v6.fN), (25, .fptr (Enc.cells v6) 1), (24, .fptr (Enc.cells v6) 0), (23, A a2), (2, A a2), (6, .ptr 0 0 0)], [some ⟨0, Enc.cells ((T_impl_Value.mk 0 0 (ByteArray.mk #[])))⟩, some ⟨1, Enc.cells ((T_impl_Value.mk 1 ((w64 (v6.fN + v8.fN))) (ByteArray.mk #[])))⟩]⟩) (fun Γ' hΓ => sto_E τ_ok 1 1 (by kernel_rfl)) (by kernel_rfl) (by kernel_rfl) (by exact (And.intro (.inl (Enc.frz _)) trivial)) (.inl rfl) (by kernel_rfl) ?_
  refine qA_end ?_
  refine opsP_imp (Imp.to (st' := ⟨103, [(2, A a2), (6, .ptr 0 0 0), (7, .ptr 1 1 0)], [some ⟨0, Enc.cells ((T_impl_Value.mk 0 0 (ByteArray.mk #[])))⟩, some ⟨1, Enc.cells ((T_impl_Value.mk 1 ((w64 (v6.fN + v8.fN))) (ByteArray.mk #[])))⟩]⟩) [2, 6, 7] (by kernel_rfl)) ?_
  refine opsP_end rfl ?_
  refine pwp_seq ?_
  refine pwp_seq ?_
  refine pwp_join (σ := Bool) (fun x10 => (⟨103, [(6, .ptr 0 0 0), (7, .ptr 1 1 0), (49, B x10)], [some ⟨0, Enc.cells ((T_impl_Value.mk 0 0 (ByteArray.mk #[])))⟩, some ⟨1, Enc.cells ((T_impl_Value.mk 1 ((w64 (v6.fN + v8.fN))) (ByteArray.mk #[])))⟩]⟩ : St)) (fun x10 => impl_Part_value_j0 v6 v8 x10 = some y) ?_ ?_
  refine rvM [6, 7] 1 103 [(2, A a2), (6, .ptr 0 0 0), (7, .ptr 1 1 0), (33, A a2)] [some ⟨0, Enc.cells ((T_impl_Value.mk 0 0 (ByteArray.mk #[])))⟩, some ⟨1, Enc.cells ((T_impl_Value.mk 1 ((w64 (v6.fN + v8.fN))) (ByteArray.mk #[])))⟩] ?_
  obtain ⟨v12, hv13, h⟩ := bindS h
  refine opsP_idx τ_ok 34 hv13 (by kernel_rfl) ?_
  refine vM [6, 7] 4 103 [(2, A a2), (6, .ptr 0 0 0), (7, .ptr 1 1 0), (38, B ((v12.fKind == 0)))] [some ⟨0, Enc.cells ((T_impl_Value.mk 0 0 (ByteArray.mk #[])))⟩, some ⟨1, Enc.cells ((T_impl_Value.mk 1 ((w64 (v6.fN + v8.fN))) (ByteArray.mk #[])))⟩] ?_
  rcases fk ((v12.fKind == 0)) with hc19 | hc19
  replace h := bT hc19 h
  rw [hc19]
  refine veM [6, 7] 11 103 [(6, .ptr 0 0 0), (7, .ptr 1 1 0), (49, B true)] [some ⟨0, Enc.cells ((T_impl_Value.mk 0 0 (ByteArray.mk #[])))⟩, some ⟨1, Enc.cells ((T_impl_Value.mk 1 ((w64 (v6.fN + v8.fN))) (ByteArray.mk #[])))⟩] ?_
  exact ⟨true, h, (Imp.to (st' := ⟨103, [(6, .ptr 0 0 0), (7, .ptr 1 1 0), (49, B true)], [some ⟨0, Enc.cells ((T_impl_Value.mk 0 0 (ByteArray.mk #[])))⟩, some ⟨1, Enc.cells ((T_impl_Value.mk 1 ((w64 (v6.fN + v8.fN))) (ByteArray.mk #[])))⟩]⟩) [6, 7, 49] (by kernel_rfl)).trans (Imp.to [6, 7, 49] (by kernel_rfl))⟩
  replace h := bF hc19 h
  rw [hc19]
  refine vM [6, 7] 1 103 [(6, .ptr 0 0 0), (7, .ptr 1 1 0), (38, B false), (39, A a2)] [some ⟨0, Enc.cells ((T_impl_Value.mk 0 0 (ByteArray.mk #[])))⟩, some ⟨1, Enc.cells ((T_impl_Value.mk 1 ((w64 (v6.fN + v8.fN))) (ByteArray.mk #[])))⟩] ?_
  obtain ⟨v14, hv15, h⟩ := bindS h
  refine opsP_idx τ_ok 40 hv15 (by kernel_rfl) ?_
  refine vM [6, 7] 5 103 [(6, .ptr 0 0 0), (7, .ptr 1 1 0), (45, B ((v14.fKind == 0)))] [some ⟨0, Enc.cells ((T_impl_Value.mk 0 0 (ByteArray.mk #[])))⟩, some ⟨1, Enc.cells ((T_impl_Value.mk 1 ((w64 (v6.fN + v8.fN))) (ByteArray.mk #[])))⟩] ?_
  rcases fk ((v14.fKind == 0)) with hc18 | hc18
  replace h := bT hc18 h
  rw [hc18]
  refine veM [6, 7] 4 103 [(6, .ptr 0 0 0), (7, .ptr 1 1 0), (49, B true)] [some ⟨0, Enc.cells ((T_impl_Value.mk 0 0 (ByteArray.mk #[])))⟩, some ⟨1, Enc.cells ((T_impl_Value.mk 1 ((w64 (v6.fN + v8.fN))) (ByteArray.mk #[])))⟩] ?_
  exact ⟨true, h, (Imp.to (st' := ⟨103, [(6, .ptr 0 0 0), (7, .ptr 1 1 0), (49, B true)], [some ⟨0, Enc.cells ((T_impl_Value.mk 0 0 (ByteArray.mk #[])))⟩, some ⟨1, Enc.cells ((T_impl_Value.mk 1 ((w64 (v6.fN + v8.fN))) (ByteArray.mk #[])))⟩]⟩) [6, 7, 49] (by kernel_rfl)).trans (Imp.to [6, 7, 49] (by kernel_rfl))⟩
  replace h := bF hc18 h
  rw [hc18]
  refine vM [6, 7] 1 103 [(6, .ptr 0 0 0), (7, .ptr 1 1 0), (45, B false), (46, E ((T_impl_Value.mk 1 ((w64 (v6.fN + v8.fN))) (ByteArray.mk #[]))))] [some ⟨0, Enc.cells ((T_impl_Value.mk 0 0 (ByteArray.mk #[])))⟩, some ⟨1, Enc.cells ((T_impl_Value.mk 1 ((w64 (v6.fN + v8.fN))) (ByteArray.mk #[])))⟩] ?_
  obtain ⟨v16, hv17, h⟩ := bindS h
  refine opsP_callF τ 47 (ok_impl_Value_ok hv17) (FzTo.frz rfl) rfl (by kernel_rfl) ?_
  refine veM [6, 7] 2 103 [(6, .ptr 0 0 0), (7, .ptr 1 1 0), (49, B ((!v16)))] [some ⟨0, Enc.cells ((T_impl_Value.mk 0 0 (ByteArray.mk #[])))⟩, some ⟨1, Enc.cells ((T_impl_Value.mk 1 ((w64 (v6.fN + v8.fN))) (ByteArray.mk #[])))⟩] ?_
  exact ⟨(!v16), h, (Imp.to (st' := ⟨103, [(6, .ptr 0 0 0), (7, .ptr 1 1 0), (49, B ((!v16)))], [some ⟨0, Enc.cells ((T_impl_Value.mk 0 0 (ByteArray.mk #[])))⟩, some ⟨1, Enc.cells ((T_impl_Value.mk 1 ((w64 (v6.fN + v8.fN))) (ByteArray.mk #[])))⟩]⟩) [6, 7, 49] (by kernel_rfl)).trans (Imp.to [6, 7, 49] (by kernel_rfl))⟩
  rintro x10 h
  unfold impl_Part_value_j0 at h
  refine pc h (fun h => ?_) (fun h => ?_)
  refine srveM [6, 7] 103 [(6, .ptr 0 0 0)] [some ⟨0, Enc.cells ((T_impl_Value.mk 0 0 (ByteArray.mk #[])))⟩, some ⟨1, Enc.cells ((T_impl_Value.mk 1 ((w64 (v6.fN + v8.fN))) (ByteArray.mk #[])))⟩] ?_
  cases h
  exact pwp_ret rz
  refine pwp_skip ?_
  refine srveM [6, 7] 103 [(6, .ptr 0 0 0)] [some ⟨0, Enc.cells ((T_impl_Value.mk 1 ((w64 (v6.fN + v8.fN))) (ByteArray.mk #[])))⟩, some ⟨1, Enc.cells ((T_impl_Value.mk 1 ((w64 (v6.fN + v8.fN))) (ByteArray.mk #[])))⟩] ?_
  cases h
  exact pwp_ret rz
  refine srveM [6, 7] 103 [(2, A a2), (3, .fptr (Enc.cells a0) 0), (6, .ptr 0 0 0), (9, I a0.fKind), (52, B ((a0.fKind == 4)))] [some ⟨0, Enc.cells ((T_impl_Value.mk 0 0 (ByteArray.mk #[])))⟩] ?_
  refine pc h (fun h => ?_) (fun h => ?_)
  refine pwp_seq ?_
  refine pwp_imp (Imp.to (st' := ⟨103, [(2, A a2), (3, .fptr (Enc.cells a0) 0), (6, .ptr 0 0 0)], [some ⟨0, Enc.cells ((T_impl_Value.mk 0 0 (ByteArray.mk #[])))⟩]⟩) [2, 3, 6] (by kernel_rfl)) ?_
  refine pwp_any ([[], [], [], [], [], [], [], [], [], [], [0]]) ([[], [], [], [], [], [], [], [], [], [], [0]]) rfl (by kernel_rfl) ?_
  refine qA_ev (st' := ⟨103, [(56, A a2), (55, I a0.fN), (54, .fptr (Enc.cells a0) 1), (2, A a2), (3, .fptr (Enc.cells a0) 0), (6, .ptr 0 0 0)], [some ⟨0, Enc.cells ((T_impl_Value.mk 0 0 (ByteArray.mk #[])))⟩]⟩) τ_ok [6, 7] [] 3 (by exact trivial) (by kernel_rfl) ?_
  obtain ⟨v21, hv22, h⟩ := bindS h
  refine qA_E (dd := some 57) (x := .fptr (Enc.cells v21) 0) ([none]) (⟨103, [(57, .fptr (Enc.cells v21) 0), (56, A a2), (55, I a0.fN), (54, .fptr (Enc.cells a0) 1), (2, A a2), (3, .fptr (Enc.cells a0) 0), (6, .ptr 0 0 0)], [some ⟨0, Enc.cells ((T_impl_Value.mk 0 0 (ByteArray.mk #[])))⟩]⟩) (fun Γ' hΓ => CoreE.of_y (idxV_sound τ_ok (by kernel_rfl) hv22)) (by kernel_rfl) (by kernel_rfl) (by exact trivial) (.inr (.inr rfl)) (by kernel_rfl) ?_
  refine qA_ev (st' := ⟨103, [(59, A a2), (58, E v21), (57, .fptr (Enc.cells v21) 0), (56, A a2), (55, I a0.fN), (54, .fptr (Enc.cells a0) 1), (2, A a2), (3, .fptr (Enc.cells a0) 0), (6, .ptr 0 0 0)], [some ⟨0, Enc.cells ((T_impl_Value.mk 0 0 (ByteArray.mk #[])))⟩]⟩) τ_ok [6, 7] [] 2 (by exact trivial) (by kernel_rfl) ?_
  obtain ⟨v23, hv24, h⟩ := bindS h
  refine qA_E (dd := some 60) (x := .fptr (Enc.cells v23) 0) ([none]) (⟨103, [(60, .fptr (Enc.cells v23) 0), (59, A a2), (58, E v21), (57, .fptr (Enc.cells v21) 0), (56, A a2), (55, I a0.fN), (54, .fptr (Enc.cells a0) 1), (2, A a2), (3, .fptr (Enc.cells a0) 0), (6, .ptr 0 0 0)], [some ⟨0, Enc.cells ((T_impl_Value.mk 0 0 (ByteArray.mk #[])))⟩]⟩) (fun Γ' hΓ => CoreE.of_y (idxV_sound τ_ok (by kernel_rfl) hv24)) (by kernel_rfl) (by kernel_rfl) (by exact trivial) (.inr (.inr rfl)) (by kernel_rfl) ?_
  refine qA_ev (st' := ⟨103, [(61, E v23), (60, .fptr (Enc.cells v23) 0), (59, A a2), (58, E v21), (57, .fptr (Enc.cells v21) 0), (56, A a2), (55, I a0.fN), (54, .fptr (Enc.cells a0) 1), (2, A a2), (3, .fptr (Enc.cells a0) 0), (6, .ptr 0 0 0)], [some ⟨0, Enc.cells ((T_impl_Value.mk 0 0 (ByteArray.mk #[])))⟩]⟩) τ_ok [6, 7] [] 1 (by exact trivial) (by kernel_rfl) ?_
  obtain ⟨v25, hv26, h⟩ := bindS h
  refine qA_E (dd := some 62) (x := I v25) ([none]) (⟨103, [(62, I v25), (61, E v23), (60, .fptr (Enc.cells v23) 0), (59, A a2), (58, E v21), (57, .fptr (Enc.cells v21) 0), (56, A a2), (55, I a0.fN), (54, .fptr (Enc.cells a0) 1), (2, A a2), (3, .fptr (Enc.cells a0) 0), (6, .ptr 0 0 0)], [some ⟨0, Enc.cells ((T_impl_Value.mk 0 0 (ByteArray.mk #[])))⟩]⟩) (fun Γ' hΓ => CoreE.of_g (callV_sound (τ := τ) (by kernel_rfl) rfl (ok_impl_Compare hv26) (FzTo.frz rfl))) (by kernel_rfl) (by kernel_rfl) (by exact trivial) (.inr (.inr rfl)) (by kernel_rfl) ?_
  obtain ⟨v27, hv28, h⟩ := bindS h
  refine qA_E (dd := some 63) (x := E v27) ([none]) (⟨103, [(63, E v27), (62, I v25), (61, E v23), (60, .fptr (Enc.cells v23) 0), (59, A a2), (58, E v21), (57, .fptr (Enc.cells v21) 0), (56, A a2), (55, I a0.fN), (54, .fptr (Enc.cells a0) 1), (2, A a2), (3, .fptr (Enc.cells a0) 0), (6, .ptr 0 0 0)], [some ⟨0, Enc.cells ((T_impl_Value.mk 0 0 (ByteArray.mk #[])))⟩]⟩) (fun Γ' hΓ => CoreE.of_g (callV_sound (τ := τ) (by kernel_rfl) rfl (ok_impl_ValueOf hv28) (FzTo.frz rfl))) (by kernel_rfl) (by kernel_rfl) (by exact trivial) (.inr (.inr rfl)) (by kernel_rfl) ?_
  refine qA_E (dd := none) (x := .any) ([some ⟨0, Enc.cells v27⟩]) (⟨103, [(63, E v27), (62, I v25), (61, E v23), (60, .fptr (Enc.cells v23) 0), (59, A a2), (58, E v21), (57, .fptr (Enc.cells v21) 0), (56, A a2), (55, I a0.fN), (54, .fptr (Enc.cells a0) 1), (2, A a2), (3, .fptr (Enc.cells a0) 0), (6, .ptr 0 0 0)], [some ⟨0, Enc.cells v27⟩]⟩) (fun Γ' hΓ => sto_E τ_ok 0 0 (by kernel_rfl)) (by kernel_rfl) (by kernel_rfl) (by exact (And.intro (.inl (Enc.frz _)) trivial)) (.inl rfl) (by kernel_rfl) ?_
  refine qA_end ?_
  refine opsP_imp (Imp.to (st' := ⟨103, [(6, .ptr 0 0 0)], [some ⟨0, Enc.cells v27⟩]⟩) [6] (by kernel_rfl)) ?_
  refine opsP_end rfl ?_
  cases h
  exact pwp_ret rz
  refine srveM [6, 7] 103 [(2, A a2), (6, .ptr 0 0 0), (9, I a0.fKind), (64, B ((a0.fKind == 5)))] [some ⟨0, Enc.cells ((T_impl_Value.mk 0 0 (ByteArray.mk #[])))⟩] ?_
  refine pc h (fun h => ?_) (fun h => ?_)
  refine pwp_seq ?_
  refine pwp_imp (Imp.to (st' := ⟨103, [(2, A a2), (6, .ptr 0 0 0)], [some ⟨0, Enc.cells ((T_impl_Value.mk 0 0 (ByteArray.mk #[])))⟩]⟩) [2, 6] (by kernel_rfl)) ?_
  refine pwp_any ([[], [], [], [], [], [], [], [], [], [], [0]]) ([[], [], [], [], [], [], [], [], [], [], [0]]) rfl (by kernel_rfl) ?_
  refine qA_ev (st' := ⟨103, [(66, A a2), (2, A a2), (6, .ptr 0 0 0)], [some ⟨0, Enc.cells ((T_impl_Value.mk 0 0 (ByteArray.mk #[])))⟩]⟩) τ_ok [6, 7] [] 1 (by exact trivial) (by kernel_rfl) ?_
  obtain ⟨v30, hv31, h⟩ := bindS h
  refine qA_E (dd := some 67) (x := .fptr (Enc.cells v30) 0) ([none]) (⟨103, [(67, .fptr (Enc.cells v30) 0), (66, A a2), (2, A a2), (6, .ptr 0 0 0)], [some ⟨0, Enc.cells ((T_impl_Value.mk 0 0 (ByteArray.mk #[])))⟩]⟩) (fun Γ' hΓ => CoreE.of_y (idxV_sound τ_ok (by kernel_rfl) hv31)) (by kernel_rfl) (by kernel_rfl) (by exact trivial) (.inr (.inr rfl)) (by kernel_rfl) ?_
  refine qA_ev (st' := ⟨103, [(68, E v30), (67, .fptr (Enc.cells v30) 0), (66, A a2), (2, A a2), (6, .ptr 0 0 0)], [some ⟨0, Enc.cells ((T_impl_Value.mk 0 0 (ByteArray.mk #[])))⟩]⟩) τ_ok [6, 7] [] 1 (by exact trivial) (by kernel_rfl) ?_
  obtain ⟨v32, hv33, h⟩ := bindS h
  refine qA_E (dd := some 69) (x := I v32) ([none]) (⟨103, [(69, I v32), (68, E v30), (67, .fptr (Enc.cells v30) 0), (66, A a2), (2, A a2), (6, .ptr 0 0 0)], [some ⟨0, Enc.cells ((T_impl_Value.mk 0 0 (ByteArray.mk #[])))⟩]⟩) (fun Γ' hΓ => CoreE.of_g (callV_sound (τ := τ) (by kernel_rfl) rfl (ok_impl_TruthOf hv33) (FzTo.frz rfl))) (by kernel_rfl) (by kernel_rfl) (by exact trivial) (.inr (.inr rfl)) (by kernel_rfl) ?_
  refine qA_ev (st' := ⟨103, [(70, A a2), (69, I v32), (68, E v30), (67, .fptr (Enc.cells v30) 0), (66, A a2), (2, A a2), (6, .ptr 0 0 0)], [some ⟨0, Enc.cells ((T_impl_Value.mk 0 0 (ByteArray.mk #[])))⟩]⟩) τ_ok [6, 7] [] 1 (by exact trivial) (by kernel_rfl) ?_
  obtain ⟨v34, hv35, h⟩ := bindS h
  refine qA_E (dd := some 71) (x := .fptr (Enc.cells v34) 0) ([none]) (⟨103, [(71, .fptr (Enc.cells v34) 0), (70, A a2), (69, I v32), (68, E v30), (67, .fptr (Enc.cells v30) 0), (66, A a2), (2, A a2), (6, .ptr 0 0 0)], [some ⟨0, Enc.cells ((T_impl_Value.mk 0 0 (ByteArray.mk #[])))⟩]⟩) (fun Γ' hΓ => CoreE.of_y (idxV_sound τ_ok (by kernel_rfl) hv35)) (by kernel_rfl) (by kernel_rfl) (by exact trivial) (.inr (.inr rfl)) (by kernel_rfl) ?_
  refine qA_ev (st' := ⟨103, [(72, E v34), (71, .fptr (Enc.cells v34) 0), (70, A a2), (69, I v32), (68, E v30), (67, .fptr (Enc.cells v30) 0), (66, A a2), (2, A a2), (6, .ptr 0 0 0)], [some ⟨0, Enc.cells ((T_impl_Value.mk 0 0 (ByteArray.mk #[])))⟩]⟩) τ_ok [6, 7] [] 1 (by exact trivial) (by kernel_rfl) ?_
  obtain ⟨v36, hv37, h⟩ := bindS h
  refine qA_E (dd := some 73) (x := I v36) ([none]) (⟨103, [(73, I v36), (72, E v34), (71, .fptr (Enc.cells v34) 0), (70, A a2), (69, I v32), (68, E v30), (67, .fptr (Enc.cells v30) 0), (66, A a2), (2, A a2), (6, .ptr 0 0 0)], [some ⟨0, Enc.cells ((T_impl_Value.mk 0 0 (ByteArray.mk #[])))⟩]⟩) (fun Γ' hΓ => CoreE.of_g (callV_sound (τ := τ) (by kernel_rfl) rfl (ok_impl_TruthOf hv37) (FzTo.frz rfl))) (by kernel_rfl) (by kernel_rfl) (by exact trivial) (.inr (.inr rfl)) (by kernel_rfl) ?_
  obtain ⟨v38, hv39, h⟩ := bindS h
  refine qA_E (dd := some 74) (x := I v38) ([none]) (⟨103, [(74, I v38), (73, I v36), (72, E v34), (71, .fptr (Enc.cells v34) 0), (70, A a2), (69, I v32), (68, E v30), (67, .fptr (Enc.cells v30) 0), (66, A a2), (2, A a2), (6, .ptr 0 0 0)], [some ⟨0, Enc.cells ((T_impl_Value.mk 0 0 (ByteArray.mk #[])))⟩]⟩) (fun Γ' hΓ => CoreE.of_g (callV_sound (τ := τ) (by kernel_rfl) rfl (ok_impl_AndOf hv39) (FzTo.frz rfl))) (by kernel_rfl) (by kernel_rfl) (by exact trivial) (.inr (.inr rfl)) (by kernel_rfl) ?_
  obtain ⟨v40, hv41, h⟩ := bindS h
  refine qA_E (dd := some 75) (x := E v40) ([none]) (⟨103, [(75, E v40), (74, I v38), (73, I v36), (72, E v34), (71, .fptr (Enc.cells v34) 0), (70, A a2), (69, I v32), (68, E v30), (67, .fptr (Enc.cells v30) 0), (66, A a2), (2, A a2), (6, .ptr 0 0 0)], [some ⟨0, Enc.cells ((T_impl_Value.mk 0 0 (ByteArray.mk #[])))⟩]⟩) (fun Γ' hΓ => CoreE.of_g (callV_sound (τ := τ) (by kernel_rfl) rfl (ok_impl_ValueOf hv41) (FzTo.frz rfl))) (by kernel_rfl) (by kernel_rfl) (by exact trivial) (.inr (.inr rfl)) (by kernel_rfl) ?_
  refine qA_E (dd := none) (x := .any) ([some ⟨0, Enc.cells v40⟩]) (⟨103, [(75, E v40), (74, I v38), (73, I v36), (72, E v34), (71, .fptr (Enc.cells v34) 0), (70, A a2), (69, I v32), (68, E v30), (67, .fptr (Enc.cells v30) 0), (66, A a2), (2, A a2), (6, .ptr 0 0 0)], [some ⟨0, Enc.cells v40⟩]⟩) (fun Γ' hΓ => sto_E τ_ok 0 0 (by kernel_rfl)) (by kernel_rfl) (by kernel_rfl) (by exact (And.intro (.inl (Enc.frz _)) trivial)) (.inl rfl) (by kernel_rfl) ?_
  refine qA_end ?_
  refine opsP_imp (Imp.to (st' := ⟨103, [(6, .ptr 0 0 0)], [some ⟨0, Enc.cells v40⟩]⟩) [6] (by kernel_rfl)) ?_
  refine opsP_end rfl ?_
  cases h
  exact pwp_ret rz
  refine srveM [6, 7] 103 [(2, A a2), (6, .ptr 0 0 0), (9, I a0.fKind), (76, B ((a0.fKind == 6)))] [some ⟨0, Enc.cells ((T_impl_Value.mk 0 0 (ByteArray.mk #[])))⟩] ?_
  refine pc h (fun h => ?_) (fun h => ?_)
  refine pwp_seq ?_
  refine pwp_imp (Imp.to (st' := ⟨103, [(2, A a2), (6, .ptr 0 0 0)], [some ⟨0, Enc.cells ((T_impl_Value.mk 0 0 (ByteArray.mk #[])))⟩]⟩) [2, 6] (by kernel_rfl)) ?_
  refine pwp_any ([[], [], [], [], [], [], [], [], [], [], [0]]) ([[], [], [], [], [], [], [], [], [], [], [0]]) rfl (by kernel_rfl) ?_
  refine qA_ev (st' := ⟨103, [(78, A a2), (2, A a2), (6, .ptr 0 0 0)], [some ⟨0, Enc.cells ((T_impl_Value.mk 0 0 (ByteArray.mk #[])))⟩]⟩) τ_ok [6, 7] [] 1 (by exact trivial) (by kernel_rfl) ?_
  obtain ⟨v43, hv44, h⟩ := bindS h
  refine qA_E (dd := some 79) (x := .fptr (Enc.cells v43) 0) ([none]) (⟨103, [(79, .fptr (Enc.cells v43) 0), (78, A a2), (2, A a2), (6, .ptr 0 0 0)], [some ⟨0, Enc.cells ((T_impl_Value.mk 0 0 (ByteArray.mk #[])))⟩]⟩) (fun Γ' hΓ => CoreE.of_y (idxV_sound τ_ok (by kernel_rfl) hv44)) (by kernel_rfl) (by kernel_rfl) (by exact trivial) (.inr (.inr rfl)) (by kernel_rfl) ?_
  refine qA_ev (st' := ⟨103, [(80, E v43), (79, .fptr (Enc.cells v43) 0), (78, A a2), (2, A a2), (6, .ptr 0 0 0)], [some ⟨0, Enc.cells ((T_impl_Value.mk 0 0 (ByteArray.mk #[])))⟩]⟩) τ_ok [6, 7] [] 1 (by exact trivial) (by kernel_rfl) ?_
  obtain ⟨v45, hv46, h⟩ := bindS h
  refine qA_E (dd := some 81) (x := I v45) ([none]) (⟨103, [(81, I v45), (80, E v43), (79, .fptr (Enc.cells v43) 0), (78, A a2), (2, A a2), (6, .ptr 0 0 0)], [some ⟨0, Enc.cells ((T_impl_Value.mk 0 0 (ByteArray.mk #[])))⟩]⟩) (fun Γ' hΓ => CoreE.of_g (callV_sound (τ := τ) (by kernel_rfl) rfl (ok_impl_TruthOf hv46) (FzTo.frz rfl))) (by kernel_rfl) (by kernel_rfl) (by exact trivial) (.inr (.inr rfl)) (by kernel_rfl) ?_
  refine qA_ev (st' := ⟨103, [(82, A a2), (81, I v45), (80, E v43), (79, .fptr (Enc.cells v43) 0), (78, A a2), (2, A a2), (6, .ptr 0 0 0)], [some ⟨0, Enc.cells ((T_impl_Value.mk 0 0 (ByteArray.mk #[])))⟩]⟩) τ_ok [6, 7] [] 1 (by exact trivial) (by kernel_rfl) ?_
  obtain ⟨v47, hv48, h⟩ := bindS h
  refine qA_E (dd := some 83) (x := .fptr (Enc.cells v47) 0) ([none]) (⟨103, [(83, .fptr (Enc.cells v47) 0), (82, A a2), (81, I v45), (80, E v43), (79, .fptr (Enc.cells v43) 0), (78, A a2), (2, A a2), (6, .ptr 0 0 0)], [some ⟨0, Enc.cells ((T_impl_Value.mk 0 0 (ByteArray.mk #[])))⟩]⟩) (fun Γ' hΓ => CoreE.of_y (idxV_sound τ_ok (by kernel_rfl) hv48)) (by kernel_rfl) (by kernel_rfl) (by exact trivial) (.inr (.inr rfl)) (by kernel_rfl) ?_
  refine qA_ev (st' := ⟨103, [(84, E v47), (83, .fptr (Enc.cells v47) 0), (82, A a2), (81, I v45), (80, E v43), (79, .fptr (Enc.cells v43) 0), (78, A a2), (2, A a2), (6, .ptr 0 0 0)], [some ⟨0, Enc.cells ((T_impl_Value.mk 0 0 (ByteArray.mk #[])))⟩]⟩) τ_ok [6, 7] [] 1 (by exact trivial) (by kernel_rfl) ?_
  obtain ⟨v49, hv50, h⟩ := bindS h
  refine qA_E (dd := some 85) (x := I v49) ([none]) (⟨103, [(85, I v49), (84, E v47), (83, .fptr (Enc.cells v47) 0), (82, A a2), (81, I v45), (80, E v43), (79, .fptr (Enc.cells v43) 0), (78, A a2), (2, A a2), (6, .ptr 0 0 0)], [some ⟨0, Enc.cells ((T_impl_Value.mk 0 0 (ByteArray.mk #[])))⟩]⟩) (fun Γ' hΓ => CoreE.of_g (callV_sound (τ := τ) (by kernel_rfl) rfl (ok_impl_TruthOf hv50) (FzTo.frz rfl))) (by kernel_rfl) (by kernel_rfl) (by exact trivial) (.inr (.inr rfl)) (by kernel_rfl) ?_
  obtain ⟨v51, hv52, h⟩ := bindS h
  refine qA_E (dd := some 86) (x := I v51) ([none]) (⟨103, [(86, I v51), (85, I v49), (84, E v47), (83, .fptr (Enc.cells v47) 0), (82, A a2), (81, I v45), (80, E v43), (79, .fptr (Enc.cells v43) 0), (78, A a2), (2, A a2), (6, .ptr 0 0 0)], [some ⟨0, Enc.cells ((T_impl_Value.mk 0 0 (ByteArray.mk #[])))⟩]⟩) (fun Γ' hΓ => CoreE.of_g (callV_sound (τ := τ) (by kernel_rfl) rfl (ok_impl_OrOf hv52) (FzTo.frz rfl))) (by kernel_rfl) (by kernel_rfl) (by exact trivial) (.inr (.inr rfl)) (by kernel_rfl) ?_
  obtain ⟨v53, hv54, h⟩ := bindS h
  refine qA_E (dd := some 87) (x := E v53) ([none]) (⟨103, [(87, E v53), (86, I v51), (85, I v49), (84, E v47), (83, .fptr (Enc.cells v47) 0), (82, A a2), (81, I v45), (80, E v43), (79, .fptr (Enc.cells v43) 0), (78, A a2), (2, A a2), (6, .ptr 0 0 0)], [some ⟨0, Enc.cells ((T_impl_Value.mk 0 0 (ByteArray.mk #[])))⟩]⟩) (fun Γ' hΓ => CoreE.of_g (callV_sound (τ := τ) (by kernel_rfl) rfl (ok_impl_ValueOf hv54) (FzTo.frz rfl))) (by kernel_rfl) (by kernel_rfl) (by exact trivial) (.inr (.inr rfl)) (by kernel_rfl) ?_
  refine qA_E (dd := none) (x := .any) ([some ⟨0, Enc.cells v53⟩]) (⟨103, [(87, E v53), (86, I v51), (85, I v49), (84, E v47), (83, .fptr (Enc.cells v47) 0), (82, A a2), (81, I v45), (80, E v43), (79, .fptr (Enc.cells v43) 0), (78, A a2), (2, A a2), (6, .ptr 0 0 0)], [some ⟨0, Enc.cells v53⟩]⟩) (fun Γ' hΓ => sto_E τ_ok 0 0 (by kernel_rfl)) (by kernel_rfl) (by kernel_rfl) (by exact (And.intro (.inl (Enc.frz _)) trivial)) (.inl rfl) (by kernel_rfl) ?_
  refine qA_end ?_
  refine opsP_imp (Imp.to (st' := ⟨103, [(6, .ptr 0 0 0)], [some ⟨0, Enc.cells v53⟩]⟩) [6] (by kernel_rfl)) ?_
  refine opsP_end rfl ?_
  cases h
  exact pwp_ret rz
  refine srveM [6, 7] 103 [(2, A a2), (6, .ptr 0 0 0), (88, B ((a0.fKind == 7)))] [some ⟨0, Enc.cells ((T_impl_Value.mk 0 0 (ByteArray.mk #[])))⟩] ?_
  refine pc h (fun h => ?_) (fun h => ?_)
  refine srvM [6, 7] 1 103 [(6, .ptr 0 0 0), (90, A a2)] [some ⟨0, Enc.cells ((T_impl_Value.mk 0 0 (ByteArray.mk #[])))⟩] ?_
  obtain ⟨v56, hv57, h⟩ := bindS h
  refine opsP_idx τ_ok 91 hv57 (by kernel_rfl) ?_
  refine vM [6, 7] 1 103 [(6, .ptr 0 0 0), (92, E v56)] [some ⟨0, Enc.cells ((T_impl_Value.mk 0 0 (ByteArray.mk #[])))⟩] ?_
  obtain ⟨v58, hv59, h⟩ := bindS h
  refine opsP_callF τ 93 (ok_impl_TruthOf hv59) (FzTo.frz rfl) rfl (by kernel_rfl) ?_
  obtain ⟨v60, hv61, h⟩ := bindS h
  refine opsP_callF τ 94 (ok_impl_NotOf hv61) (FzTo.frz rfl) rfl (by kernel_rfl) ?_
  obtain ⟨v62, hv63, h⟩ := bindS h
  refine opsP_callF τ 95 (ok_impl_ValueOf hv63) (FzTo.frz rfl) rfl (by kernel_rfl) ?_
  refine veM [6, 7] 1 103 [(6, .ptr 0 0 0)] [some ⟨0, Enc.cells v62⟩] ?_
  cases h
  exact pwp_ret rz
  refine pwp_skip ?_
  refine srvM [6, 7] 1 103 [(6, .ptr 0 0 0), (96, A a2)] [some ⟨0, Enc.cells ((T_impl_Value.mk 0 0 (ByteArray.mk #[])))⟩] ?_
  obtain ⟨v64, hv65, h⟩ := bindS h
  refine opsP_idx τ_ok 97 hv65 (by kernel_rfl) ?_
  refine vM [6, 7] 3 103 [(6, .ptr 0 0 0), (100, B ((v64.fKind == 0)))] [some ⟨0, Enc.cells ((T_impl_Value.mk 0 0 (ByteArray.mk #[])))⟩] ?_
  obtain ⟨v66, hv67, h⟩ := bindS h
  refine opsP_callF τ 101 (ok_impl_truthIf hv67) (FzTo.frz rfl) rfl (by kernel_rfl) ?_
  obtain ⟨v68, hv69, h⟩ := bindS h
  refine opsP_callF τ 102 (ok_impl_ValueOf hv69) (FzTo.frz rfl) rfl (by kernel_rfl) ?_
  refine veM [6, 7] 1 103 [(6, .ptr 0 0 0)] [some ⟨0, Enc.cells v68⟩] ?_
  cases h
  exact pwp_ret rz
def spec_BatchValues_j0 (a1 : T_impl_Batch) (a2 : List T_impl_Part) (x1 : Bool) : Option (List T_impl_Value) := bif x1 then some (([] : List T_impl_Value)) else (spec_l9Values a1 a2).bind fun v3 => some v3
def spec_BatchValues (a0 : List T_impl_Column) (a1 : T_impl_Batch) (a2 : List T_impl_Part) : Option (List T_impl_Value) := (spec_ExprKind a0 a2).bind fun v5 => bif (decide (v5 < 0)) then spec_BatchValues_j0 a1 a2 true else (spec_l9Ready a0 a1).bind fun v7 => spec_BatchValues_j0 a1 a2 ((!v7))
theorem ok_spec_BatchValues {a0 : List T_impl_Column} {a1 : T_impl_Batch} {a2 : List T_impl_Part} {y : List T_impl_Value} (h : spec_BatchValues a0 a1 a2 = some y) : OK Tryz.prog 29 [A a0, E a1, A a2] (A y) := by
  refine OK_of_pwp τ_ok Tryz.func29 rfl (by kernel_rfl) rfl fun Γ hX => ?_
  unfold spec_BatchValues at h
  refine srve 21 [(0, A a0), (2, A a2), (4, .fptr (Enc.cells a1) 0)] [] ?_
  refine pwp_seq ?_
  refine pwp_seq ?_
  refine pwp_join (σ := Bool) (fun x1 => (⟨21, [(2, A a2), (4, .fptr (Enc.cells a1) 0), (16, B x1)], []⟩ : St)) (fun x1 => spec_BatchValues_j0 a1 a2 x1 = some y) ?_ ?_
  refine rv 2 21 [(0, A a0), (2, A a2), (4, .fptr (Enc.cells a1) 0), (7, A a0), (8, A a2)] [] ?_
  obtain ⟨v5, hv6, h⟩ := bindS h
  refine opsP_callF τ 9 (ok_spec_ExprKind hv6) (FzTo.frz rfl) rfl (by kernel_rfl) ?_
  refine v 2 21 [(0, A a0), (2, A a2), (4, .fptr (Enc.cells a1) 0), (11, B ((decide (v5 < 0))))] [] ?_
  rcases fk ((decide (v5 < 0))) with hc9 | hc9
  replace h := bT hc9 h
  rw [hc9]
  refine ve 5 21 [(2, A a2), (4, .fptr (Enc.cells a1) 0), (16, B true)] [] ?_
  exact ⟨true, h, (Imp.to (st' := ⟨21, [(2, A a2), (4, .fptr (Enc.cells a1) 0), (16, B true)], []⟩) [2, 4, 16] (by kernel_rfl)).trans (Imp.to [2, 4, 16] (by kernel_rfl))⟩
  replace h := bF hc9 h
  rw [hc9]
  refine v 2 21 [(2, A a2), (4, .fptr (Enc.cells a1) 0), (11, B false), (12, A a0), (13, E a1)] [] ?_
  obtain ⟨v7, hv8, h⟩ := bindS h
  refine opsP_callF τ 14 (ok_spec_l9Ready hv8) (FzTo.frz rfl) rfl (by kernel_rfl) ?_
  refine ve 2 21 [(2, A a2), (4, .fptr (Enc.cells a1) 0), (16, B ((!v7)))] [] ?_
  exact ⟨(!v7), h, (Imp.to (st' := ⟨21, [(2, A a2), (4, .fptr (Enc.cells a1) 0), (16, B ((!v7)))], []⟩) [2, 4, 16] (by kernel_rfl)).trans (Imp.to [2, 4, 16] (by kernel_rfl))⟩
  rintro x1 h
  unfold spec_BatchValues_j0 at h
  refine pc h (fun h => ?_) (fun h => ?_)
  refine srve 21 [(6, .arr 3 0 (eL ([] : List T_impl_Value)) true)] [] ?_
  refine pwp_imp (Imp.to (st' := ⟨21, [(6, .arr 3 0 (eL ([] : List T_impl_Value)) true)], []⟩) [6] (by kernel_rfl)) ?_
  refine pwp_imp (Imp.unfS (st' := ⟨21, [(6, A (([] : List T_impl_Value)))], []⟩) 6 [6] (by kernel_rfl)) ?_
  cases h
  exact pwp_ret rz
  refine pwp_skip ?_
  refine srv 2 21 [(18, E a1), (19, A a2)] [] ?_
  obtain ⟨v3, hv4, h⟩ := bindS h
  refine opsP_callF τ 20 (ok_spec_l9Values hv4) (FzTo.frz rfl) rfl (by kernel_rfl) ?_
  refine ve 1 21 [(6, A v3)] [] ?_
  cases h
  exact pwp_ret rz
def laws_toValueSS_D_l0 (a0 : List (List T_laws_Value)) : Nat → Int → (List (List T_impl_Value)) → Option (List (List T_impl_Value))
  | 0, _, _ => none
  | f6 + 1, x4, x5 => bif (decide (x4 < ((a0.length : Int)))) then (getI a0 x4).bind fun v9 => (laws_toValueS v9).bind fun v11 => (getI x5 x4).bind fun v13 => (laws_toValueSS_D_l0 a0 f6) ((w64 (x4 + 1))) ((x5.set x4.toNat v11)) else some x5
def laws_toValueSS_D (a0 : List (List T_laws_Value)) : Option (List (List T_impl_Value)) := (mkI ((a0.length : Int)) (([] : List T_impl_Value))).bind fun v1 => laws_toValueSS_D_l0 a0 FUEL 0 v1
theorem ok_laws_toValueSS_D {a0 : List (List T_laws_Value)} {y : List (List T_impl_Value)} (h : laws_toValueSS_D a0 = some y) : OK Tryz.prog 48 [A a0] (OD y) := by
  refine OK_of_pwp τ_ok Tryz.func48 rfl (by kernel_rfl) rfl fun Γ hX => ?_
  unfold laws_toValueSS_D at h
  refine srve 23 [(0, A a0)] [] ?_
  refine srv 2 23 [(0, A a0), (6, I ((a0.length : Int)))] [] ?_
  obtain ⟨v1, hv2, h⟩ := bindS h
  refine opsP_E (dd := some 7) (x := .ref 0 0 0 1 v1.length false) (mkD_N τ_ok 7 0 36 (fun b hb => absurd hb (hX b)) (by kernel_rfl) _ hv2 dz_ok36 (by kernel_rfl)) ?_
  refine ve 1 23 [(0, A a0), (3, .ref 0 0 0 1 v1.length false)] [some ⟨0, dL v1⟩] ?_
  refine pwp_seq ?_
  refine srve 23 [(0, A a0), (3, .ref 0 0 0 1 v1.length false), (4, I 0)] [some ⟨0, dL v1⟩] ?_
  refine pwp_block ?_
  refine pwp_loop (ι := Nat × Int × (List (List T_impl_Value))) (fun (f6, x4, x5) => (⟨23, [(0, A a0), (3, .ref 0 0 0 1 x5.length false), (4, I x4)], [some ⟨0, dL x5⟩]⟩ : St)) (fun (f6, x4, x5) => laws_toValueSS_D_l0 a0 f6 x4 x5 = some y) (fun (f6, x4, x5) => f6) (FUEL, 0, v1) h ((Imp.to (st' := ⟨23, [(0, A a0), (3, .ref 0 0 0 1 v1.length false), (4, I 0)], [some ⟨0, dL v1⟩]⟩) [0, 3, 4] (by kernel_rfl)).trans (Imp.to [0, 3, 4] (by kernel_rfl))) ?_
  rintro ⟨f6, x4, x5⟩ h
  dsimp only at h ⊢
  rcases f6 with _ | f6
  cases h
  rw [laws_toValueSS_D_l0] at h
  refine pwp_seq ?_
  refine srve 23 [(0, A a0), (3, .ref 0 0 0 1 x5.length false), (4, I x4), (11, B ((decide (x4 < ((a0.length : Int))))))] [some ⟨0, dL x5⟩] ?_
  refine pc h (fun h => ?_) (fun h => ?_)
  refine pwp_skip ?_
  refine pwp_seq ?_
  refine pwp_block ?_
  refine rv 4 23 [(0, A a0), (3, .ref 0 0 0 1 x5.length false), (4, I x4), (14, .ref 0 0 0 1 x5.length false), (15, I x4), (16, A a0), (17, I x4)] [some ⟨0, dL x5⟩] ?_
  obtain ⟨v9, hv10, h⟩ := bindS h
  refine opsP_idx τ_ok 18 hv10 (by kernel_rfl) ?_
  refine v 1 23 [(0, A a0), (3, .ref 0 0 0 1 x5.length false), (4, I x4), (14, .ref 0 0 0 1 x5.length false), (15, I x4), (19, A v9)] [some ⟨0, dL x5⟩] ?_
  obtain ⟨v11, hv12, h⟩ := bindS h
  refine opsP_callO τ 20 (ok_laws_toValueS hv12) rfl (by kernel_rfl) ?_
  obtain ⟨v13, hv14, h⟩ := bindS h
  refine opsP_idr τ_ok 21 0 0 x5.length hv14 rfl (by kernel_rfl) ?_
  refine v 0 23 [(0, A a0), (3, .ref 0 0 0 1 x5.length false), (4, I x4), (20, .ref 1 0 0 3 v11.length false), (21, .ptr 0 0 (x4.toNat * 1))] [some ⟨0, dL x5⟩, some ⟨0, eL v11⟩] ?_
  refine opsP_E (dd := none) (x := .any) ((std_E (xs := x5) (vs := [.ref 1 0 0 3 v11.length false]) (cells' := setL (dL x5) (x4.toNat * 1 + 0) [.ref 1 0 0 3 v11.length false]) τ_ok 36 0 0 0 hv14 (by kernel_rfl) (by kernel_rfl) rfl).then (H2 := [some ⟨0, dL ((x5.set x4.toNat v11))⟩, some ⟨1, []⟩]) (HStep.nestL (xs := x5) (vs := [.ref 1 0 0 3 v11.length false]) 0 0 0 v11 hv14 (by kernel_rfl) (OutL.cons (OutP.listn (v := 0) (xs := v11) rfl (by kernel_rfl)) (OutL.nil _)) (by decide) (by decide) (fun b hb => absurd hb (hX b)) (by kernel_rfl) (by kernel_rfl) (by kernel_rfl) (by kernel_rfl))) ?_
  refine opsP_imp (Imp.to (st' := ⟨23, [(0, A a0), (3, .ref 0 0 0 1 x5.length false), (4, I x4)], [some ⟨0, dL ((x5.set x4.toNat v11))⟩, some ⟨1, []⟩]⟩) [0, 3, 4] (by kernel_rfl)) ?_
  refine opsP_ren (st' := ⟨23, [(0, A a0), (3, .ref 0 0 0 1 ((x5.set x4.toNat v11)).length false), (4, I x4)], [some ⟨0, dL ((x5.set x4.toNat v11))⟩, some ⟨1, []⟩]⟩) 0 ((x5.set x4.toNat v11)).length (renC trivial (renC (ren_ref (List.length_set ..).symm) (renC trivial renC0))) (by kernel_rfl) ?_
  refine ve 0 23 [(0, A a0), (3, .ref 0 0 0 1 ((x5.set x4.toNat v11)).length false), (4, I x4)] [some ⟨0, dL ((x5.set x4.toNat v11))⟩, some ⟨1, []⟩] ?_
  refine rve 23 [(0, A a0), (3, .ref 0 0 0 1 ((x5.set x4.toNat v11)).length false), (4, I ((w64 (x4 + 1))))] [some ⟨0, dL ((x5.set x4.toNat v11))⟩, some ⟨1, []⟩] ?_
  exact ⟨(f6, (w64 (x4 + 1)), (x5.set x4.toNat v11)), h, Nat.lt_succ_self _, (Imp.to (st' := ⟨23, [(0, A a0), (3, .ref 0 0 0 1 ((x5.set x4.toNat v11)).length false), (4, I ((w64 (x4 + 1))))], [some ⟨0, dL ((x5.set x4.toNat v11))⟩, some ⟨1, []⟩]⟩) [0, 3, 4] (by kernel_rfl)).trans ((Imp.truncS (st' := ⟨23, [(0, A a0), (3, .ref 0 0 0 1 ((x5.set x4.toNat v11)).length false), (4, I ((w64 (x4 + 1))))], [some ⟨0, dL ((x5.set x4.toNat v11))⟩]⟩) 1 (fun b hb => absurd hb (hX b)) (by kernel_rfl) (allBelow_mem (by exact (And.intro rfl (And.intro rfl (And.intro rfl trivial))))) (by exact (And.intro (dL_below _ _) trivial)) (by kernel_rfl)).trans (Imp.to [0, 3, 4] (by kernel_rfl)))⟩
  refine pwp_exit ?_
  refine srve 23 [(2, .ref 0 0 0 1 x5.length false)] [some ⟨0, dL x5⟩] ?_
  have h := si h
  subst h
  exact pwp_ret (rt (.ref 0 0 0 1 x5.length false) (OutP.listD (v := 0) (by kernel_rfl)))
def laws_toBatch_D (a0 : T_laws_Batch) : Option T_impl_Batch := (laws_toValueSS_D a0.fColumns).bind fun v1 => (laws_toBoolS a0.fPicked).bind fun v3 => some ({ (({ ((T_impl_Batch.mk [] [])) with fColumns := v1 }) : T_impl_Batch) with fPicked := v3 })
theorem ok_laws_toBatch_D {a0 : T_laws_Batch} {y : T_impl_Batch} (h : laws_toBatch_D a0 = some y) : OK Tryz.prog 31 [E a0] (.agg (DEnc.cells y)) := by
  refine OK_of_pwp τ_ok Tryz.func31 rfl (by kernel_rfl) rfl fun Γ hX => ?_
  unfold laws_toBatch_D at h
  refine srvM [2, 3] 1 13 [(1, .fptr (Enc.cells a0) 0)] [] ?_
  refine opsP_imp (Imp.ghosts 1 (st' := ⟨13, [(1, .fptr (Enc.cells a0) 0)], [some ⟨0, []⟩]⟩) (by kernel_rfl)) ?_
  refine opsP_E (dd := some 2) (x := .ptr 0 1 0) (alz_E (blk := ⟨0, []⟩) (zs := [.arr 1 0 [] true, .arr 1 0 [] true]) 2 63 0 0 (fun b hb => absurd hb (hX b)) zi_ok63 (by kernel_rfl) (by kernel_rfl)) ?_
  refine veM [2, 3] 0 13 [(1, .fptr (Enc.cells a0) 0), (2, .ptr 0 1 0)] [some ⟨1, [.arr 1 0 (eL ([] : List (List T_impl_Value))) true, .arr 1 0 (eL ([] : List Bool)) true]⟩] ?_
  refine srvM [2, 3] 0 13 [(1, .fptr (Enc.cells a0) 0), (2, .ptr 0 1 0)] [some ⟨1, [.arr 1 0 (eL ([] : List (List T_impl_Value))) true, .arr 1 0 (eL ([] : List Bool)) true]⟩] ?_
  refine opsP_imp (Imp.ghosts 1 (st' := ⟨13, [(1, .fptr (Enc.cells a0) 0), (2, .ptr 0 1 0)], [some ⟨1, [.arr 1 0 (eL ([] : List (List T_impl_Value))) true, .arr 1 0 (eL ([] : List Bool)) true]⟩, some ⟨0, []⟩]⟩) (by kernel_rfl)) ?_
  refine opsP_E (dd := some 3) (x := .ptr 1 1 0) (alz_E (blk := ⟨0, []⟩) (zs := [.arr 1 0 [] true, .arr 1 0 [] true]) 3 63 1 0 (fun b hb => absurd hb (hX b)) zi_ok63 (by kernel_rfl) (by kernel_rfl)) ?_
  refine veM [2, 3] 0 13 [(1, .fptr (Enc.cells a0) 0), (2, .ptr 0 1 0), (3, .ptr 1 1 0)] [some ⟨1, [.arr 1 0 (eL ([] : List (List T_impl_Value))) true, .arr 1 0 (eL ([] : List Bool)) true]⟩, some ⟨1, [.arr 1 0 (eL ([] : List (List T_impl_Value))) true, .arr 1 0 (eL ([] : List Bool)) true]⟩] ?_
  refine srvM [2, 3] 2 13 [(1, .fptr (Enc.cells a0) 0), (2, .ptr 0 1 0), (3, .ptr 1 1 0), (5, A a0.fColumns)] [some ⟨1, [.arr 1 0 (eL ([] : List (List T_impl_Value))) true, .arr 1 0 (eL ([] : List Bool)) true]⟩, some ⟨1, [.arr 1 0 (eL ([] : List (List T_impl_Value))) true, .arr 1 0 (eL ([] : List Bool)) true]⟩] ?_
  obtain ⟨v1, hv2, h⟩ := bindS h
  refine opsP_callO τ 6 (ok_laws_toValueSS_D hv2) rfl (by kernel_rfl) ?_
  refine veM [2, 3] 2 13 [(1, .fptr (Enc.cells a0) 0), (2, .ptr 0 1 0), (3, .ptr 1 1 0)] [some ⟨1, [.arr 1 0 (eL ([] : List (List T_impl_Value))) true, .arr 1 0 (eL ([] : List Bool)) true]⟩, some ⟨1, [.ref 2 0 0 1 v1.length false, .arr 1 0 (eL ([] : List Bool)) true]⟩, some ⟨0, dL v1⟩] ?_
  refine srvM [2, 3] 2 13 [(2, .ptr 0 1 0), (3, .ptr 1 1 0), (9, A a0.fPicked)] [some ⟨1, [.arr 1 0 (eL ([] : List (List T_impl_Value))) true, .arr 1 0 (eL ([] : List Bool)) true]⟩, some ⟨1, [.ref 2 0 0 1 v1.length false, .arr 1 0 (eL ([] : List Bool)) true]⟩, some ⟨0, dL v1⟩] ?_
  obtain ⟨v3, hv4, h⟩ := bindS h
  refine opsP_callO τ 10 (ok_laws_toBoolS hv4) rfl (by kernel_rfl) ?_
  refine veM [2, 3] 2 13 [(2, .ptr 0 1 0), (3, .ptr 1 1 0)] [some ⟨1, [.arr 1 0 (eL ([] : List (List T_impl_Value))) true, .arr 1 0 (eL ([] : List Bool)) true]⟩, some ⟨1, [.ref 2 0 0 1 v1.length false, .ref 3 0 0 1 v3.length false]⟩, some ⟨0, dL v1⟩, some ⟨0, eL v3⟩] ?_
  refine srveM [2, 3] 13 [(2, .ptr 0 1 0)] [some ⟨1, [.ref 2 0 0 1 v1.length false, .ref 3 0 0 1 v3.length false]⟩, some ⟨1, [.ref 2 0 0 1 v1.length false, .ref 3 0 0 1 v3.length false]⟩, some ⟨0, dL v1⟩, some ⟨0, eL v3⟩] ?_
  have h := si h
  subst h
  exact pwp_ret (rt (.agg [.ref 2 0 0 1 v1.length false, .ref 3 0 0 1 v3.length false]) (OutP.agg (OutL.cons (OutP.listDn (v := 0) (xs := v1) rfl (by kernel_rfl)) (OutL.cons (OutP.listn (v := 0) (xs := v3) rfl (by kernel_rfl)) (OutL.nil _)))))
def slices_Clip_impl_Value_impl_Value_R (a0 : List T_impl_Value) : Option (List T_impl_Value) := (slI a0 none (some ((a0.length : Int))) (some ((a0.length : Int)))).bind fun v1 => some v1
theorem ok_slices_Clip_impl_Value_impl_Value_R {a0 : List T_impl_Value} {y : List T_impl_Value} (h : slices_Clip_impl_Value_impl_Value_R a0 = some y) : OKm Tryz.prog 176 [O a0] (O y) := by
  refine OKm_of_pwp (sl := [.ref 0 0 0 3 a0.length false]) (bs := [⟨0, eL a0⟩]) τ_ok Tryz.func176 rfl (by kernel_rfl) rfl (by kernel_rfl) fun Γ hX => ?_
  refine pwp_imp (Imp.to (st' := ⟨9, [(0, .ref 0 0 0 3 a0.length false)], [some ⟨0, eL a0⟩]⟩) [0] (by kernel_rfl)) ?_
  unfold slices_Clip_impl_Value_impl_Value_R at h
  refine srve 9 [(0, .ref 0 0 0 3 a0.length false)] [some ⟨0, eL a0⟩] ?_
  refine srv 5 9 [(3, .ref 0 0 0 3 a0.length false), (5, I ((a0.length : Int))), (7, I ((a0.length : Int)))] [some ⟨0, eL a0⟩] ?_
  obtain ⟨v1, hv2, h⟩ := bindS h
  refine opsP_slr τ_ok 8 0 0 a0.length hv2 rfl (by kernel_rfl) ?_
  refine ve 1 9 [(2, .ref 0 0 0 3 v1.length false)] [some ⟨0, eL a0⟩] ?_
  refine pwp_imp (Imp.to (st' := ⟨9, [(2, .ref 0 0 0 3 v1.length false)], [some ⟨0, eL a0⟩]⟩) [2] (by kernel_rfl)) ?_
  refine pwp_imp (Imp.cut (st' := ⟨9, [(2, .ref 0 0 0 3 v1.length false)], [some ⟨0, eL v1⟩]⟩) 0 0 a0 v1 (by kernel_rfl) (slI_view hv2) (by kernel_rfl)) ?_
  have h := si h
  subst h
  exact pwp_ret (rt (.ref 0 0 0 3 v1.length false) (OutP.list (v := 0) (by kernel_rfl)))
def impl_clone_impl_Value_R (a0 : List T_impl_Value) : Option (List T_impl_Value) := bif (((a0.length : Int)) == 0) then some (([] : List T_impl_Value)) else (app [] a0).bind fun v2 => (slices_Clip_impl_Value_impl_Value_R v2).bind fun v4 => some v4
theorem ok_impl_clone_impl_Value_R {a0 : List T_impl_Value} {y : List T_impl_Value} (h : impl_clone_impl_Value_R a0 = some y) : OK Tryz.prog 131 [A a0] (O y) := by
  refine OK_of_pwp τ_ok Tryz.func131 rfl (by kernel_rfl) rfl fun Γ hX => ?_
  unfold impl_clone_impl_Value_R at h
  refine srve 9 [(0, A a0)] [] ?_
  refine pwp_seq ?_
  refine srve 9 [(0, A a0), (5, B ((((a0.length : Int)) == 0)))] [] ?_
  refine pc h (fun h => ?_) (fun h => ?_)
  refine srve 9 [(2, .arr 3 0 (eL ([] : List T_impl_Value)) true)] [] ?_
  refine pwp_imp (Imp.to (st' := ⟨9, [(2, .arr 3 0 (eL ([] : List T_impl_Value)) true)], []⟩) [2] (by kernel_rfl)) ?_
  refine pwp_imp (Imp.thawS (st' := ⟨9, [(2, .ref 0 0 0 3 (([] : List T_impl_Value)).length false)], [some ⟨0, eL (([] : List T_impl_Value))⟩]⟩) 2 [2] (by kernel_rfl)) ?_
  have h := si h
  subst h
  exact pwp_ret (rt (.ref 0 0 0 3 (([] : List T_impl_Value)).length false) (OutP.list (v := 0) (by kernel_rfl)))
  refine pwp_skip ?_
  refine srv 1 9 [(6, A a0)] [] ?_
  obtain ⟨v2, hv3, h⟩ := bindS h
  refine opsP_apn τ_ok 7 0 (fun b hb => absurd hb (hX b)) hv3 (by kernel_rfl) ?_
  obtain ⟨v4, hv5, h⟩ := bindS h
  refine opsP_callM (xs := [.ref 0 1 0 3 v2.length false]) (x := .ref 1 0 0 3 v4.length false) (bs := [⟨0, eL v4⟩]) τ 8 [0] (fun b hb => absurd hb (hX b)) (ok_slices_Clip_impl_Value_impl_Value_R hv5) (by kernel_rfl) (OutL.cons (OutP.list (v := 1) (by kernel_rfl)) (OutL.nil _)) (by decide) (by kernel_rfl) ?_
  refine ve 1 9 [(2, .ref 1 0 0 3 v4.length false)] [none, some ⟨0, eL v4⟩] ?_
  have h := si h
  subst h
  exact pwp_ret (rt (.ref 1 0 0 3 v4.length false) (OutP.list (v := 0) (by kernel_rfl)))
def impl_Batch_values_R_j3 (v7 : T_impl_Part) (x16 : Int) (x17 : List T_impl_Value) (K19 : Int → (List T_impl_Value) → Option (List T_impl_Value)) (x27 : List T_impl_Value) (x37 : List T_impl_Value) : Option (List T_impl_Value) := (impl_Part_value v7 x37 x27).bind fun v38 => (getI x17 x16).bind fun v40 => K19 ((w64 (x16 + 1))) ((x17.set x16.toNat v38))
def impl_Batch_values_R_l2 (a0 : T_impl_Batch) (v7 : T_impl_Part) (x16 : Int) (x17 : List T_impl_Value) (K19 : Int → (List T_impl_Value) → Option (List T_impl_Value)) (v21 : List (List T_impl_Value)) : Nat → Int → (List T_impl_Value) → Option (List T_impl_Value)
  | 0, _, _ => none
  | f28 + 1, x26, x27 => bif (decide (x26 < ((v21.length : Int)))) then (getI v21 x26).bind fun v31 => (getI v31 x16).bind fun v33 => (app x27 (([v33] : List T_impl_Value))).bind fun v35 => (impl_Batch_values_R_l2 a0 v7 x16 x17 K19 v21 f28) ((w64 (x26 + 1))) v35 else bif (v7.fKind == 2) then (impl_Batch_row a0 x16).bind fun v43 => impl_Batch_values_R_j3 v7 x16 x17 K19 x27 v43 else impl_Batch_values_R_j3 v7 x16 x17 K19 x27 (([] : List T_impl_Value))
def impl_Batch_values_R_l1 (a0 : T_impl_Batch) (x2 : Int) (x3 : List (List T_impl_Value)) (K5 : Int → (List (List T_impl_Value)) → Option (List T_impl_Value)) (v7 : T_impl_Part) (v9 : Int) : Nat → Int → (List T_impl_Value) → Option (List T_impl_Value)
  | 0, _, _ => none
  | f18 + 1, x16, x17 => bif (decide (x16 < ((a0.fPicked.length : Int)))) then (slI x3 (some ((w64 (((x3.length : Int)) - v9)))) none none).bind fun v21 => impl_Batch_values_R_l2 a0 v7 x16 x17 (impl_Batch_values_R_l1 a0 x2 x3 K5 v7 v9 f18) v21 FUEL 0 (([] : List T_impl_Value)) else (slI x3 none (some ((w64 (((x3.length : Int)) - v9)))) none).bind fun v45 => (appT x3 (([x17] : List (List T_impl_Value))) v45.length).bind fun v47 => K5 ((w64 (x2 + 1))) v47
def impl_Batch_values_R_l0 (a0 : T_impl_Batch) (a1 : List T_impl_Part) : Nat → Int → (List (List T_impl_Value)) → Option (List T_impl_Value)
  | 0, _, _ => none
  | f4 + 1, x2, x3 => bif (decide (x2 < ((a1.length : Int)))) then (getI a1 x2).bind fun v7 => (impl_Part_takes v7).bind fun v9 => (mkI ((a0.fPicked.length : Int)) ((T_impl_Value.mk 0 0 (ByteArray.mk #[])))).bind fun v11 => impl_Batch_values_R_l1 a0 x2 x3 (impl_Batch_values_R_l0 a0 a1 f4) v7 v9 FUEL 0 v11 else (getI x3 0).bind fun v49 => (impl_clone_impl_Value_R v49).bind fun v51 => some v51
def impl_Batch_values_R (a0 : T_impl_Batch) (a1 : List T_impl_Part) : Option (List T_impl_Value) := impl_Batch_values_R_l0 a0 a1 FUEL 0 (([] : List (List T_impl_Value)))
end Go.D
