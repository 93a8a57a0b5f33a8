import Derived.Test.YtgddjdemlelffaadlaDXFA
import Derived.KernelRfl
set_option linter.unusedVariables false
set_option linter.unusedSimpArgs false
namespace Go.D
open Go.Proofs
theorem ok_slices_stableCmpFunc_impl_Value {a0 : List (List T_impl_Value)} {a1 : Int} {g2 : FuncId} {c2 : List V} (hz2 : frzL c2 = true) {a2 : (List T_impl_Value) → (List T_impl_Value) → Option Int} (hp2 : ∀ x0 x1 y, a2 x0 x1 = some y → OK Try.prog g2 ([A x0, A x1] ++ c2) (I y)) {y : List (List T_impl_Value)} (h : slices_stableCmpFunc_impl_Value a0 a1 a2 = some y) : OKs Try.prog 149 [] 1 a0.length (eL a0) [I a1, .fn g2 c2] (.tup []) (eL y) := by
 refine OKs_of_pwp τ_ok Try.func149 rfl (by kernel_rfl) rfl (eL_frz _) (eL_frz _) (by rw [eL_len, eL_len, len_slices_stableCmpFunc_impl_Value h]) fun Γ hQ => ?_
 refine pwp_imp (Imp.to (st' := ⟨63, [(0, rf 0 0 1 a0), (1, I a1), (2, .fn g2 c2)], [sl 0 a0]⟩) [0, 1, 2] (by kernel_rfl)) ?_
 have h := (bindLen (f := fun y : List (List T_impl_Value) => y) h).1
 unfold slices_stableCmpFunc_impl_Value_w at h
 refine srve 63 [(0, rf 0 0 1 a0), (1, I a1), (2, .fn g2 c2), (6, I 20)] [sl 0 a0] ?_
 refine srve 63 [(0, rf 0 0 1 a0), (1, I a1), (2, .fn g2 c2), (6, I 20), (7, I 0), (8, I 20)] [sl 0 a0] ?_
 refine pwp_seq ?_
 refine pwp_block ?_
 refine pwp_loop (ι := Nat × Int × Int × (List (List T_impl_Value))) (fun (f5, x2, x3, x4) => (⟨63, [(0, rf 0 0 1 x4), (1, I a1), (2, .fn g2 c2), (6, I 20), (7, I x2), (8, I x3)], [sl 0 x4]⟩ : St)) (fun (f5, x2, x3, x4) => slices_stableCmpFunc_impl_Value_l0 a1 a2 f5 x2 x3 x4 = some y) Prod.fst (FUEL, 0, 20, a0) h (it [0, 1, 2, 6, 7, 8]) ?_
 rintro ⟨f5, x2, x3, x4⟩ h
 dsimp only at h ⊢
 rcases f5 with _ | f5
 cases h
 rw [slices_stableCmpFunc_impl_Value_l0] at h
 refine pwp_seq ?_
 refine srve 63 [(0, rf 0 0 1 x4), (1, I a1), (2, .fn g2 c2), (6, I 20), (7, I x2), (8, I x3), (13, B (decide (x3 ≤ a1)))] [sl 0 x4] ?_
 refine pc h (fun h => ?_) (fun h => ?_)
 refine pwp_skip ?_
 refine pwp_block ?_
 refine srv 4 63 [(0, rf 0 0 1 x4), (1, I a1), (2, .fn g2 c2), (6, I 20), (8, I x3), (14, rf 0 0 1 x4), (15, I x2), (16, I x3), (17, .fn g2 c2)] [sl 0 x4] ?_
 obtain ⟨v8, hv9, h⟩ := bindS h
 refine opsP_E (dd := some 18) (x := .tup []) (callS_E τ 18 0 0 (ok_slices_insertionSortCmpFunc_impl_Value (hz2) (hp2) hv9) (FzTo.tup FzToL.nil) rfl (by simp only [frzL, frz, hz2, Bool.and_true]) (by kernel_rfl)) ?_
 refine io 63 [(0, rf 0 0 1 x4), (1, I a1), (2, .fn g2 c2), (6, I 20), (8, I x3), (14, rf 0 0 1 x4), (15, I x2), (16, I x3), (17, .fn g2 c2), (18, .tup [])] [sl 0 v8] ?_
 refine opsP_ren (st' := ⟨63, [(0, rf 0 0 1 v8), (1, I a1), (2, .fn g2 c2), (6, I 20), (8, I x3), (14, rf 0 0 1 v8), (15, I x2), (16, I x3), (17, .fn g2 c2), (18, .tup [])], [sl 0 v8]⟩) 0 v8.length (renC (ren_ref (len_slices_insertionSortCmpFunc_impl_Value hv9).symm) (renC trivial (renC trivial (renC trivial (renC trivial (renC (ren_ref (len_slices_insertionSortCmpFunc_impl_Value hv9).symm) (renC trivial (renC trivial (renC trivial (renC trivial renC0)))))))))) (by kernel_rfl) ?_
 refine ve 0 63 [(0, rf 0 0 1 v8), (1, I a1), (2, .fn g2 c2), (6, I 20), (8, I x3)] [sl 0 v8] ?_
 refine srve 63 [(0, rf 0 0 1 v8), (1, I a1), (2, .fn g2 c2), (6, I 20), (7, I x3), (8, I x3)] [sl 0 v8] ?_
 refine rve 63 [(0, rf 0 0 1 v8), (1, I a1), (2, .fn g2 c2), (6, I 20), (7, I x3), (8, I (w64 (x3 + 20)))] [sl 0 v8] ?_
 exact ⟨(f5, x3, (w64 (x3 + 20)), v8), h, Nat.lt_succ_self _, it [0, 1, 2, 6, 7, 8]⟩
 refine pwp_exit ?_
 refine srv 4 63 [(0, rf 0 0 1 x4), (1, I a1), (2, .fn g2 c2), (6, I 20), (23, rf 0 0 1 x4), (24, I x2), (25, I a1), (26, .fn g2 c2)] [sl 0 x4] ?_
 obtain ⟨v10, hv11, h⟩ := bindS h
 refine opsP_E (dd := some 27) (x := .tup []) (callS_E τ 27 0 0 (ok_slices_insertionSortCmpFunc_impl_Value (hz2) (hp2) hv11) (FzTo.tup FzToL.nil) rfl (by simp only [frzL, frz, hz2, Bool.and_true]) (by kernel_rfl)) ?_
 refine io 63 [(0, rf 0 0 1 x4), (1, I a1), (2, .fn g2 c2), (6, I 20), (23, rf 0 0 1 x4), (24, I x2), (25, I a1), (26, .fn g2 c2), (27, .tup [])] [sl 0 v10] ?_
 refine opsP_ren (st' := ⟨63, [(0, rf 0 0 1 v10), (1, I a1), (2, .fn g2 c2), (6, I 20), (23, rf 0 0 1 v10), (24, I x2), (25, I a1), (26, .fn g2 c2), (27, .tup [])], [sl 0 v10]⟩) 0 v10.length (renC (ren_ref (len_slices_insertionSortCmpFunc_impl_Value hv11).symm) (renC trivial (renC trivial (renC trivial (renC (ren_ref (len_slices_insertionSortCmpFunc_impl_Value hv11).symm) (renC trivial (renC trivial (renC trivial (renC trivial renC0))))))))) (by kernel_rfl) ?_
 refine ve 0 63 [(0, rf 0 0 1 v10), (1, I a1), (2, .fn g2 c2), (6, I 20)] [sl 0 v10] ?_
 refine pwp_block ?_
 refine pwp_loop (ι := Nat × Int × (List (List T_impl_Value))) (fun (f15, x13, x14) => (⟨63, [(0, rf 0 0 1 x14), (1, I a1), (2, .fn g2 c2), (6, I x13)], [sl 0 x14]⟩ : St)) (fun (f15, x13, x14) => slices_stableCmpFunc_impl_Value_l1 a1 a2 f15 x13 x14 = some y) Prod.fst (FUEL, 20, v10) h (it [0, 1, 2, 6]) ?_
 rintro ⟨f15, x13, x14⟩ h
 dsimp only at h ⊢
 rcases f15 with _ | f15
 cases h
 rw [slices_stableCmpFunc_impl_Value_l1] at h
 refine pwp_seq ?_
 refine srve 63 [(0, rf 0 0 1 x14), (1, I a1), (2, .fn g2 c2), (6, I x13), (30, B (decide (x13 < a1)))] [sl 0 x14] ?_
 refine pc h (fun h => ?_) (fun h => ?_)
 refine pwp_skip ?_
 refine pwp_block ?_
 refine srve 63 [(0, rf 0 0 1 x14), (1, I a1), (2, .fn g2 c2), (6, I x13), (7, I 0), (8, I (w64 (2 * x13)))] [sl 0 x14] ?_
 refine pwp_seq ?_
 refine pwp_block ?_
 refine pwp_loop (ι := Nat × Int × Int × (List (List T_impl_Value))) (fun (f22, x19, x20, x21) => (⟨63, [(0, rf 0 0 1 x21), (1, I a1), (2, .fn g2 c2), (6, I x13), (7, I x19), (8, I x20)], [sl 0 x21]⟩ : St)) (fun (f22, x19, x20, x21) => slices_stableCmpFunc_impl_Value_l2 a1 a2 x13 (slices_stableCmpFunc_impl_Value_l1 a1 a2 f15) f22 x19 x20 x21 = some y) Prod.fst (FUEL, 0, (w64 (2 * x13)), x14) h (it [0, 1, 2, 6, 7, 8]) ?_
 rintro ⟨f22, x19, x20, x21⟩ h
 dsimp only at h ⊢
 rcases f22 with _ | f22
 cases h
 rw [slices_stableCmpFunc_impl_Value_l2] at h
 refine pwp_seq ?_
 refine srve 63 [(0, rf 0 0 1 x21), (1, I a1), (2, .fn g2 c2), (6, I x13), (7, I x19), (8, I x20), (35, B (decide (x20 ≤ a1)))] [sl 0 x21] ?_
 refine pc h (fun h => ?_) (fun h => ?_)
 refine pwp_skip ?_
 refine pwp_block ?_
 refine srv 7 63 [(0, rf 0 0 1 x21), (1, I a1), (2, .fn g2 c2), (6, I x13), (8, I x20), (36, rf 0 0 1 x21), (37, I x19), (40, I (w64 (x19 + x13))), (41, I x20), (42, .fn g2 c2)] [sl 0 x21] ?_
 obtain ⟨v25, hv26, h⟩ := bindS h
 refine opsP_E (dd := some 43) (x := .tup []) (callS_E τ 43 0 0 (ok_slices_symMergeCmpFunc_impl_Value (hz2) (hp2) hv26) (FzTo.tup FzToL.nil) rfl (by simp only [frzL, frz, hz2, Bool.and_true]) (by kernel_rfl)) ?_
 refine io 63 [(0, rf 0 0 1 x21), (1, I a1), (2, .fn g2 c2), (6, I x13), (8, I x20), (36, rf 0 0 1 x21), (37, I x19), (40, I (w64 (x19 + x13))), (41, I x20), (42, .fn g2 c2), (43, .tup [])] [sl 0 v25] ?_
 refine opsP_ren (st' := ⟨63, [(0, rf 0 0 1 v25), (1, I a1), (2, .fn g2 c2), (6, I x13), (8, I x20), (36, rf 0 0 1 v25), (37, I x19), (40, I (w64 (x19 + x13))), (41, I x20), (42, .fn g2 c2), (43, .tup [])], [sl 0 v25]⟩) 0 v25.length (renC (ren_ref (len_slices_symMergeCmpFunc_impl_Value hv26).symm) (renC trivial (renC trivial (renC trivial (renC trivial (renC (ren_ref (len_slices_symMergeCmpFunc_impl_Value hv26).symm) (renC trivial (renC trivial (renC trivial (renC trivial (renC trivial renC0))))))))))) (by kernel_rfl) ?_
 refine ve 0 63 [(0, rf 0 0 1 v25), (1, I a1), (2, .fn g2 c2), (6, I x13), (8, I x20)] [sl 0 v25] ?_
 refine srve 63 [(0, rf 0 0 1 v25), (1, I a1), (2, .fn g2 c2), (6, I x13), (7, I x20), (8, I x20)] [sl 0 v25] ?_
 refine rve 63 [(0, rf 0 0 1 v25), (1, I a1), (2, .fn g2 c2), (6, I x13), (7, I x20), (8, I (w64 (x20 + (w64 (2 * x13)))))] [sl 0 v25] ?_
 exact ⟨(f22, x20, (w64 (x20 + (w64 (2 * x13)))), v25), h, Nat.lt_succ_self _, it [0, 1, 2, 6, 7, 8]⟩
 refine pwp_exit ?_
 refine pwp_seq ?_
 refine pwp_join (σ := (List (List T_impl_Value))) (fun x27 => (⟨63, [(0, rf 0 0 1 x27), (1, I a1), (2, .fn g2 c2), (6, I x13)], [sl 0 x27]⟩ : St)) (fun x27 => slices_stableCmpFunc_impl_Value_j3 x13 (slices_stableCmpFunc_impl_Value_l1 a1 a2 f15) x27 = some y) ?_ ?_
 refine srve 63 [(0, rf 0 0 1 x21), (1, I a1), (2, .fn g2 c2), (6, I x13), (7, I x19), (9, I (w64 (x19 + x13)))] [sl 0 x21] ?_
 refine srve 63 [(0, rf 0 0 1 x21), (1, I a1), (2, .fn g2 c2), (6, I x13), (7, I x19), (9, I (w64 (x19 + x13))), (54, B (decide ((w64 (x19 + x13)) < a1)))] [sl 0 x21] ?_
 refine pc h (fun h => ?_) (fun h => ?_)
 refine rv 5 63 [(0, rf 0 0 1 x21), (1, I a1), (2, .fn g2 c2), (6, I x13), (55, rf 0 0 1 x21), (56, I x19), (57, I (w64 (x19 + x13))), (58, I a1), (59, .fn g2 c2)] [sl 0 x21] ?_
 obtain ⟨v29, hv30, h⟩ := bindS h
 refine opsP_E (dd := some 60) (x := .tup []) (callS_E τ 60 0 0 (ok_slices_symMergeCmpFunc_impl_Value (hz2) (hp2) hv30) (FzTo.tup FzToL.nil) rfl (by simp only [frzL, frz, hz2, Bool.and_true]) (by kernel_rfl)) ?_
 refine io 63 [(0, rf 0 0 1 x21), (1, I a1), (2, .fn g2 c2), (6, I x13), (55, rf 0 0 1 x21), (56, I x19), (57, I (w64 (x19 + x13))), (58, I a1), (59, .fn g2 c2), (60, .tup [])] [sl 0 v29] ?_
 refine opsP_ren (st' := ⟨63, [(0, rf 0 0 1 v29), (1, I a1), (2, .fn g2 c2), (6, I x13), (55, rf 0 0 1 v29), (56, I x19), (57, I (w64 (x19 + x13))), (58, I a1), (59, .fn g2 c2), (60, .tup [])], [sl 0 v29]⟩) 0 v29.length (renC (ren_ref (len_slices_symMergeCmpFunc_impl_Value hv30).symm) (renC trivial (renC trivial (renC trivial (renC (ren_ref (len_slices_symMergeCmpFunc_impl_Value hv30).symm) (renC trivial (renC trivial (renC trivial (renC trivial (renC trivial renC0)))))))))) (by kernel_rfl) ?_
 refine ve 0 63 [(0, rf 0 0 1 v29), (1, I a1), (2, .fn g2 c2), (6, I x13)] [sl 0 v29] ?_
 exact ⟨v29, h, it [0, 1, 2, 6]⟩
 refine pwp_skip ?_
 exact ⟨x21, h, it [0, 1, 2, 6]⟩
 rintro x27 h
 unfold slices_stableCmpFunc_impl_Value_j3 at h
 refine rve 63 [(0, rf 0 0 1 x27), (1, I a1), (2, .fn g2 c2), (6, I (w64 (x13 * 2)))] [sl 0 x27] ?_
 exact ⟨(f15, (w64 (x13 * 2)), x27), h, Nat.lt_succ_self _, it [0, 1, 2, 6]⟩
 refine pwp_exit ?_
 have h := si h
 subst h
 first | exact ⟨.inl rfl, .tup [], _, 0, by kernel_rfl, (OutP.tup (OutL.nil _)), by decide, by decide, by kernel_rfl⟩ | exact pwp_ret ⟨.inr rfl, .tup [], _, 0, by kernel_rfl, (OutP.tup (OutL.nil _)), by decide, by decide, by kernel_rfl⟩
def spec_RowsOnce_L0_j1 (x3 : Int) (K6 : Int → (List (List T_impl_Value)) → Option (List (List T_impl_Value))) (x8 : List (List T_impl_Value)) : Option (List (List T_impl_Value)) := K6 (w64 (x3 + 1)) x8
def spec_RowsOnce_L0_l0 (a0 : List (List T_impl_Value)) : Nat → Int → (List (List T_impl_Value)) → Option (List (List T_impl_Value))
 | 0, _, _ => none
 | f5 + 1, x3, x4 => bif (decide (x3 < (a0.length : Int))) then (getI a0 x3).bind fun v9 => (spec_RowMany x4 v9).bind fun v11 => bif (v11 == 0) then (getI a0 x3).bind fun v14 => (spec_l3Own v14).bind fun v16 => (app x4 ([v16] : List (List T_impl_Value))).bind fun v18 => spec_RowsOnce_L0_j1 x3 (spec_RowsOnce_L0_l0 a0 f5) v18 else spec_RowsOnce_L0_j1 x3 (spec_RowsOnce_L0_l0 a0 f5) x4 else some x4
def spec_RowsOnce_L0 (a0 : List (List T_impl_Value)) : Option (List (List T_impl_Value)) := spec_RowsOnce_L0_l0 a0 FUEL 0 ([] : List (List T_impl_Value))
theorem ok_spec_RowsOnce_L0 {a0 : List (List T_impl_Value)} {y : List (List T_impl_Value)} (h : spec_RowsOnce_L0 a0 = some y) : OKs Try.prog 107 [] 1 a0.length (eL a0) [] (O y) (eL a0) := by
 refine OKs_of_pwp τ_ok Try.func107 rfl (by kernel_rfl) rfl (eL_frz _) (eL_frz _) rfl fun Γ hQ => ?_
 refine pwp_imp (Imp.to (st' := ⟨28, [(0, rf 0 0 1 a0)], [sl 0 a0]⟩) [0] (by kernel_rfl)) ?_
 unfold spec_RowsOnce_L0 at h
 refine srve 28 [(0, rf 0 0 1 a0)] [sl 0 a0] ?_
 refine srve 28 [(0, rf 0 0 1 a0), (3, .arr 1 0 (eL ([] : List (List T_impl_Value))) true)] [sl 0 a0] ?_
 refine pwp_seq ?_
 refine srve 28 [(0, rf 0 0 1 a0), (3, .arr 1 0 (eL ([] : List (List T_impl_Value))) true), (4, I 0)] [sl 0 a0] ?_
 refine pwp_block ?_
 refine pwp_loop (ι := Nat × Int × (List (List T_impl_Value))) (fun (f5, x3, x4) => (⟨28, [(0, rf 0 0 1 a0), (3, rf 1 0 1 x4), (4, I x3)], [sl 0 a0, sl 0 x4]⟩ : St)) (fun (f5, x3, x4) => spec_RowsOnce_L0_l0 a0 f5 x3 x4 = some y) Prod.fst (FUEL, 0, ([] : List (List T_impl_Value))) h (Imp.thawS 3 [0, 3, 4] (by kernel_rfl)) ?_
 rintro ⟨f5, x3, x4⟩ h
 dsimp only at h ⊢
 rcases f5 with _ | f5
 cases h
 rw [spec_RowsOnce_L0_l0] at h
 refine pwp_seq ?_
 refine srve 28 [(0, rf 0 0 1 a0), (3, rf 1 0 1 x4), (4, I x3), (9, B (decide (x3 < (a0.length : Int))))] [sl 0 a0, sl 0 x4] ?_
 refine pc h (fun h => ?_) (fun h => ?_)
 refine pwp_skip ?_
 refine pwp_seq ?_
 refine pwp_join (σ := (List (List T_impl_Value))) (fun x8 => (⟨28, [(0, rf 0 0 1 a0), (3, rf 1 0 1 x8), (4, I x3)], [sl 0 a0, sl 0 x8]⟩ : St)) (fun x8 => spec_RowsOnce_L0_j1 x3 (spec_RowsOnce_L0_l0 a0 f5) x8 = some y) ?_ ?_
 refine pwp_block ?_
 refine srv 3 28 [(0, rf 0 0 1 a0), (3, rf 1 0 1 x4), (4, I x3), (12, rf 1 0 1 x4), (13, rf 0 0 1 a0), (14, I x3)] [sl 0 a0, sl 0 x4] ?_
 obtain ⟨v9, hv10, h⟩ := bindS h
 refine opsP_idr τ_ok 15 0 0 a0.length hv10 rfl (by kernel_rfl) ?_
 refine opsP_lde (r := A v9) τ_ok 16 29 0 hv10 (by kernel_rfl) (by kernel_rfl) ?_
 obtain ⟨v11, hv12, h⟩ := bindS h
 refine opsP_callV (xs := [rf 1 0 1 x4, A v9]) τ 17 (ok_spec_RowMany hv12) (Blind.lit _) (FzTo.frz rfl) (by kernel_rfl) (ViewL.cons (View.whole (v := 0) x4 (by kernel_rfl) rfl) (ViewL.cons (View.frz rfl) (ViewL.nil _))) ?_
 refine ve 1 28 [(0, rf 0 0 1 a0), (3, rf 1 0 1 x4), (4, I x3), (18, B (v11 == 0))] [sl 0 a0, sl 0 x4] ?_
 refine pc h (fun h => ?_) (fun h => ?_)
 refine rv 3 28 [(0, rf 0 0 1 a0), (4, I x3), (19, rf 1 0 1 x4), (20, rf 0 0 1 a0), (21, I x3)] [sl 0 a0, sl 0 x4] ?_
 obtain ⟨v14, hv15, h⟩ := bindS h
 refine opsP_idr τ_ok 22 0 0 a0.length hv15 rfl (by kernel_rfl) ?_
 refine opsP_lde (r := A v14) τ_ok 23 29 0 hv15 (by kernel_rfl) (by kernel_rfl) ?_
 obtain ⟨v16, hv17, h⟩ := bindS h
 refine cFo 24 (ok_spec_l3Own hv17) ?_
 refine v 1 28 [(0, rf 0 0 1 a0), (4, I x3), (19, rf 1 0 1 x4), (25, .arr 1 ([v16] : List (List T_impl_Value)).length (eL ([v16] : List (List T_impl_Value))) true)] [sl 0 a0, sl 0 x4] ?_
 obtain ⟨v18, hv19, h⟩ := bindS h
 refine opsP_app τ_ok 26 1 0 (pn hQ) hv19 (by kernel_rfl) ?_
 refine ve 1 28 [(0, rf 0 0 1 a0), (3, rf 1 1 1 v18), (4, I x3)] [sl 0 a0, sl 1 v18] ?_
 exact ⟨v18, h, (it (st' := ⟨28, [(0, rf 0 0 1 a0), (3, rf 1 1 1 v18), (4, I x3)], [sl 0 a0, sl 1 v18]⟩) [0, 3, 4]).trans (Imp.reverS 1 1 (eL v18) [0, 3, 4] (by kernel_rfl) (by exact (And.intro (eL_frz _) (And.intro (eL_frz _) trivial))) (by kernel_rfl))⟩
 refine pwp_skip ?_
 exact ⟨x4, h, it [0, 3, 4]⟩
 rintro x8 h
 unfold spec_RowsOnce_L0_j1 at h
 refine rve 28 [(0, rf 0 0 1 a0), (3, rf 1 0 1 x8), (4, I (w64 (x3 + 1)))] [sl 0 a0, sl 0 x8] ?_
 exact ⟨(f5, (w64 (x3 + 1)), x8), h, Nat.lt_succ_self _, it [0, 3, 4]⟩
 refine pwp_exit ?_
 refine srve 28 [(2, rf 1 0 1 x4)] [sl 0 a0, sl 0 x4] ?_
 have h := si h
 subst h
 exact pwp_ret ⟨.inr rfl, rf 1 0 1 x4, _, 0, by kernel_rfl, (OutP.list (v := 0) (by kernel_rfl)), by decide, by decide, by kernel_rfl⟩
def impl_rowsCopy_L0_l0 (a0 : List (List T_impl_Value)) : Nat → Int → (List (List T_impl_Value)) → Option (List (List T_impl_Value))
 | 0, _, _ => none
 | f5 + 1, x3, x4 => bif (decide (x3 < (a0.length : Int))) then (getI a0 x3).bind fun v8 => (impl_clone_impl_Value v8).bind fun v10 => (app x4 ([v10] : List (List T_impl_Value))).bind fun v12 => (impl_rowsCopy_L0_l0 a0 f5) (w64 (x3 + 1)) v12 else (slices_Clip_impl_Value_impl_Value_s3 x4).bind fun v14 => some v14
def impl_rowsCopy_L0 (a0 : List (List T_impl_Value)) : Option (List (List T_impl_Value)) := impl_rowsCopy_L0_l0 a0 FUEL 0 ([] : List (List T_impl_Value))
theorem ok_impl_rowsCopy_L0 {a0 : List (List T_impl_Value)} {y : List (List T_impl_Value)} (h : impl_rowsCopy_L0 a0 = some y) : OKs Try.prog 58 [] 1 a0.length (eL a0) [] (A y) (eL a0) := by
 refine OKs_of_pwp τ_ok Try.func58 rfl (by kernel_rfl) rfl (eL_frz _) (eL_frz _) rfl fun Γ hQ => ?_
 refine pwp_imp (Imp.to (st' := ⟨20, [(0, rf 0 0 1 a0)], [sl 0 a0]⟩) [0] (by kernel_rfl)) ?_
 unfold impl_rowsCopy_L0 at h
 refine srve 20 [(0, rf 0 0 1 a0)] [sl 0 a0] ?_
 refine srve 20 [(0, rf 0 0 1 a0), (3, .arr 1 0 (eL ([] : List (List T_impl_Value))) true)] [sl 0 a0] ?_
 refine pwp_seq ?_
 refine srve 20 [(3, .arr 1 0 (eL ([] : List (List T_impl_Value))) true), (6, rf 0 0 1 a0), (7, I (a0.length : Int)), (8, I 0)] [sl 0 a0] ?_
 refine pwp_block ?_
 refine pwp_loop (ι := Nat × Int × (List (List T_impl_Value))) (fun (f5, x3, x4) => (⟨20, [(3, rf 1 0 1 x4), (6, rf 0 0 1 a0), (7, I (a0.length : Int)), (8, I x3)], [sl 0 a0, sl 0 x4]⟩ : St)) (fun (f5, x3, x4) => impl_rowsCopy_L0_l0 a0 f5 x3 x4 = some y) Prod.fst (FUEL, 0, ([] : List (List T_impl_Value))) h (Imp.thawS 3 [3, 6, 7, 8] (by kernel_rfl)) ?_
 rintro ⟨f5, x3, x4⟩ h
 dsimp only at h ⊢
 rcases f5 with _ | f5
 cases h
 rw [impl_rowsCopy_L0_l0] at h
 refine srve 20 [(3, rf 1 0 1 x4), (6, rf 0 0 1 a0), (7, I (a0.length : Int)), (8, I x3), (9, B (decide (x3 < (a0.length : Int))))] [sl 0 a0, sl 0 x4] ?_
 refine pwp_seq ?_
 refine pc h (fun h => ?_) (fun h => ?_)
 refine pwp_skip ?_
 refine pwp_seq ?_
 refine pwp_block ?_
 refine pwp_seq ?_
 refine pwp_region ?_
 obtain ⟨v8, hv9, h⟩ := bindS h
 refine opsP_idr τ_ok 10 0 0 a0.length hv9 rfl (by kernel_rfl) ?_
 refine opsP_lde (r := A v8) τ_ok 11 29 0 hv9 (by kernel_rfl) (by kernel_rfl) ?_
 refine ve 1 20 [(3, rf 1 0 1 x4), (5, A v8), (6, rf 0 0 1 a0), (7, I (a0.length : Int)), (8, I x3)] [sl 0 a0, sl 0 x4] ?_
 refine rv 2 20 [(6, rf 0 0 1 a0), (7, I (a0.length : Int)), (8, I x3), (12, rf 1 0 1 x4), (13, A v8)] [sl 0 a0, sl 0 x4] ?_
 obtain ⟨v10, hv11, h⟩ := bindS h
 refine cF 14 (ok_impl_clone_impl_Value hv11) ?_
 refine v 1 20 [(6, rf 0 0 1 a0), (7, I (a0.length : Int)), (8, I x3), (12, rf 1 0 1 x4), (15, .arr 1 ([v10] : List (List T_impl_Value)).length (eL ([v10] : List (List T_impl_Value))) true)] [sl 0 a0, sl 0 x4] ?_
 obtain ⟨v12, hv13, h⟩ := bindS h
 refine opsP_app τ_ok 16 1 0 (pn hQ) hv13 (by kernel_rfl) ?_
 refine ve 1 20 [(3, rf 1 1 1 v12), (6, rf 0 0 1 a0), (7, I (a0.length : Int)), (8, I x3)] [sl 0 a0, sl 1 v12] ?_
 refine rve 20 [(3, rf 1 1 1 v12), (6, rf 0 0 1 a0), (7, I (a0.length : Int)), (8, I (w64 (x3 + 1)))] [sl 0 a0, sl 1 v12] ?_
 exact ⟨(f5, (w64 (x3 + 1)), v12), h, Nat.lt_succ_self _, (it (st' := ⟨20, [(3, rf 1 1 1 v12), (6, rf 0 0 1 a0), (7, I (a0.length : Int)), (8, I (w64 (x3 + 1)))], [sl 0 a0, sl 1 v12]⟩) [3, 6, 7, 8]).trans (Imp.reverS 1 1 (eL v12) [3, 6, 7, 8] (by kernel_rfl) (by exact (And.intro (eL_frz _) (And.intro (eL_frz _) trivial))) (by kernel_rfl))⟩
 refine pwp_exit ?_
 refine srv 1 20 [(18, rf 1 0 1 x4)] [sl 0 a0, sl 0 x4] ?_
 refine opsP_imp (Imp.freezeB (v := 0) (cs := eL x4) (st' := ⟨20, [(18, A x4)], [sl 0 a0, none]⟩) 1 0 (pn hQ) (by kernel_rfl) (eL_frz _) (wholeC (whole_is (eL_len x4).symm) wholeC0) (HpRel.frz rfl (eL_frz _) (HpRel.key HpRel.nil)) (by kernel_rfl) rfl (p01 hQ)) ?_
 obtain ⟨v14, hv15, h⟩ := bindS h
 refine cF 19 (ok_slices_Clip_impl_Value_impl_Value_s3 hv15) ?_
 refine ve 1 20 [(2, A v14)] [sl 0 a0, none] ?_
 have h := si h
 subst h
 exact pwp_ret ⟨.inr rfl, A v14, _, 0, by kernel_rfl, (OutP.frz (by kernel_rfl)), by decide, by decide, by kernel_rfl⟩
def laws_allRows_l0 (a0 : List (List T_impl_Value)) : Nat → Int → Option Bool
 | 0, _ => none
 | f2 + 1, x1 => bif (decide (x1 < (a0.length : Int))) then (getI a0 x1).bind fun v5 => (impl_RowOk v5).bind fun v7 => bif (!v7) then some false else (laws_allRows_l0 a0 f2) (w64 (x1 + 1)) else some true
def laws_allRows (a0 : List (List T_impl_Value)) : Option Bool := laws_allRows_l0 a0 FUEL 0
theorem ok_laws_allRows {a0 : List (List T_impl_Value)} {y : Bool} (h : laws_allRows a0 = some y) : OK Try.prog 15 [A a0] (B y) := by
 refine ow Try.func15 fun Γ hX => ?_
 unfold laws_allRows at h
 refine srve 16 [(0, A a0)] [] ?_
 refine pwp_seq ?_
 refine srve 16 [(0, A a0), (3, I 0)] [] ?_
 refine pwp_block ?_
 refine pwp_loop (ι := Nat × Int) (fun (f2, x1) => (⟨16, [(0, A a0), (3, I x1)], []⟩ : St)) (fun (f2, x1) => laws_allRows_l0 a0 f2 x1 = some y) Prod.fst (FUEL, 0) h (it [0, 3]) ?_
 rintro ⟨f2, x1⟩ h
 dsimp only at h ⊢
 rcases f2 with _ | f2
 cases h
 rw [laws_allRows_l0] at h
 refine pwp_seq ?_
 refine srve 16 [(0, A a0), (3, I x1), (7, B (decide (x1 < (a0.length : Int))))] [] ?_
 refine pc h (fun h => ?_) (fun h => ?_)
 refine pwp_skip ?_
 refine pwp_seq ?_
 refine pwp_block ?_
 refine srv 2 16 [(0, A a0), (3, I x1), (10, A a0), (11, I x1)] [] ?_
 obtain ⟨v5, hv6, h⟩ := bindS h
 refine opsP_idx τ_ok 12 hv6 (by kernel_rfl) ?_
 refine v 1 16 [(0, A a0), (3, I x1), (13, A v5)] [] ?_
 obtain ⟨v7, hv8, h⟩ := bindS h
 refine cF 14 (ok_impl_RowOk hv8) ?_
 refine ve 1 16 [(0, A a0), (3, I x1), (15, B (!v7))] [] ?_
 refine pc h (fun h => ?_) (fun h => ?_)
 refine srve 16 [(2, B false)] [] ?_
 cases h
 exact pwp_ret rz
 refine pwp_skip ?_
 refine rve 16 [(0, A a0), (3, I (w64 (x1 + 1)))] [] ?_
 exact ⟨(f2, (w64 (x1 + 1))), h, Nat.lt_succ_self _, it [0, 3]⟩
 refine pwp_exit ?_
 refine srve 16 [(2, B true)] [] ?_
 cases h
 exact pwp_ret rz
def spec_l20Two (a0 : T_spec_l20Rd) : Option (((List (List T_impl_Value)) × (List (List T_impl_Value))) × T_spec_l20Rd) := (spec_l20Columns a0 0).bind fun v1 => (slI v1.1 none (some 1) none).bind fun v3 => (spec_l20Bag v1.2 v3 0).bind fun v5 => (spec_l20Rd_pick v5.2 3).bind fun v7 => bif (v7.1 == 0) then (spec_RowsSorted v5.1).bind fun v10 => some ((v5.1, v10), v7.2) else (spec_l20Bag v7.2 v3 0).bind fun v12 => some ((v5.1, v12.1), v12.2)
theorem ok_spec_l20Two {a0 : T_spec_l20Rd} {y : ((List (List T_impl_Value)) × (List (List T_impl_Value))) × T_spec_l20Rd} (h : spec_l20Two a0 = some y) : OKb Try.prog 45 (Enc.cells a0) [] (.tup [A y.1.1, A y.1.2]) (Enc.cells y.2) := by
 refine OKb_of_pwp τ_ok Try.func45 rfl (by kernel_rfl) rfl (Enc.frz _) (Enc.frz _) fun Γ hQ => ?_
 unfold spec_l20Two at h
 refine srve 22 [(0, .ptr 0 0 0)] [sc 0 a0] ?_
 refine srv 1 22 [(0, .ptr 0 0 0), (6, .ptr 0 0 0)] [sc 0 a0] ?_
 obtain ⟨v1, hv2, h⟩ := bindS h
 refine cBo 7 0 0 (ok_spec_l20Columns hv2) ?_
 obtain ⟨v3, hv4, h⟩ := bindS h
 refine opsP_slc τ_ok 8 hv4 (by kernel_rfl) ?_
 refine ve 1 22 [(0, .ptr 0 0 0), (4, A v3)] [sc 0 v1.2] ?_
 refine srv 2 22 [(0, .ptr 0 0 0), (4, A v3), (9, .ptr 0 0 0), (10, A v3)] [sc 0 v1.2] ?_
 obtain ⟨v5, hv6, h⟩ := bindS h
 refine cBo 11 0 0 (ok_spec_l20Bag hv6) ?_
 refine ve 1 22 [(0, .ptr 0 0 0), (4, A v3), (5, A v5.1)] [sc 0 v5.2] ?_
 refine pwp_seq ?_
 refine srv 1 22 [(0, .ptr 0 0 0), (4, A v3), (5, A v5.1), (12, .ptr 0 0 0)] [sc 0 v5.2] ?_
 obtain ⟨v7, hv8, h⟩ := bindS h
 refine cB 13 0 0 (ok_spec_l20Rd_pick hv8) ?_
 refine ve 1 22 [(0, .ptr 0 0 0), (4, A v3), (5, A v5.1), (14, B (v7.1 == 0))] [sc 0 v7.2] ?_
 refine pc h (fun h => ?_) (fun h => ?_)
 refine srv 2 22 [(15, A v5.1), (16, A v5.1)] [sc 0 v7.2] ?_
 obtain ⟨v10, hv11, h⟩ := bindS h
 refine cF 17 (ok_spec_RowsSorted hv11) ?_
 refine ve 2 22 [(2, A v5.1), (3, A v10)] [sc 0 v7.2] ?_
 have h := si h
 subst h
 exact pwp_ret ⟨.inr rfl, .tup [A v5.1, A v10], _, 0, by kernel_rfl, (OutP.tup (OutL.cons (OutP.frz (by kernel_rfl)) (OutL.cons (OutP.frz (by kernel_rfl)) (OutL.nil _)))), by decide, by decide, by kernel_rfl⟩
 refine pwp_skip ?_
 refine srv 3 22 [(18, A v5.1), (19, .ptr 0 0 0), (20, A v3)] [sc 0 v7.2] ?_
 obtain ⟨v12, hv13, h⟩ := bindS h
 refine cBo 21 0 0 (ok_spec_l20Bag hv13) ?_
 refine ve 2 22 [(2, A v5.1), (3, A v12.1)] [sc 0 v12.2] ?_
 have h := si h
 subst h
 exact pwp_ret ⟨.inr rfl, .tup [A v5.1, A v12.1], _, 0, by kernel_rfl, (OutP.tup (OutL.cons (OutP.frz (by kernel_rfl)) (OutL.cons (OutP.frz (by kernel_rfl)) (OutL.nil _)))), by decide, by decide, by kernel_rfl⟩
def impl_allOk (a0 : List (List T_impl_Value)) : Option Bool := (slices_ContainsFunc_impl_Value_impl_Value_s3 a0 impl_allOk_1).bind fun v1 => some (!v1)
theorem ok_impl_allOk {a0 : List (List T_impl_Value)} {y : Bool} (h : impl_allOk a0 = some y) : OK Try.prog 47 [A a0] (B y) := by
 refine ow Try.func47 fun Γ hX => ?_
 unfold impl_allOk at h
 refine srve 6 [(0, A a0)] [] ?_
 refine srv 1 6 [(3, A a0)] [] ?_
 obtain ⟨v1, hv2, h⟩ := bindS h
 refine cF 4 (ok_slices_ContainsFunc_impl_Value_impl_Value_s3 (rfl) (fun _ w hw => ok_impl_allOk_1 hw) hv2) ?_
 refine ve 2 6 [(2, B (!v1))] [] ?_
 cases h
 exact pwp_ret rz
def spec_l11Sum_j2 (x17 : Int) (K20 : Int → (List T_impl_Delta) → Option (List T_impl_Delta)) (x22 : List T_impl_Delta) : Option (List T_impl_Delta) := K20 (w64 (x17 + 1)) x22
def spec_l11Sum_j4 (x26 : Int) (K28 : Int → Int → Option (List T_impl_Delta)) (x30 : Int) : Option (List T_impl_Delta) := K28 x30 (w64 (x26 + 1))
def spec_l11Sum_l3 (a0 : List T_impl_Delta) (v13 : List (List T_impl_Value)) (x17 : Int) (x18 : List T_impl_Delta) (K20 : Int → (List T_impl_Delta) → Option (List T_impl_Delta)) : Nat → Int → Int → Option (List T_impl_Delta)
 | 0, _, _ => none
 | f27 + 1, x25, x26 => bif (decide (x26 < (a0.length : Int))) then (getI a0 x26).bind fun v31 => (getI v13 x17).bind fun v33 => (spec_l3Same v31.fRow v33).bind fun v35 => bif v35 then (getI a0 x26).bind fun v38 => spec_l11Sum_j4 x26 (spec_l11Sum_l3 a0 v13 x17 x18 K20 f27) (w64 (x25 + v38.fMany)) else spec_l11Sum_j4 x26 (spec_l11Sum_l3 a0 v13 x17 x18 K20 f27) x25 else bif (!(x25 == 0)) then (getI v13 x17).bind fun v41 => (app x18 ([(T_impl_Delta.mk v41 x25)] : List T_impl_Delta)).bind fun v43 => spec_l11Sum_j2 x17 K20 v43 else spec_l11Sum_j2 x17 K20 x18
def spec_l11Sum_l1 (a0 : List T_impl_Delta) (v13 : List (List T_impl_Value)) : Nat → Int → (List T_impl_Delta) → Option (List T_impl_Delta)
 | 0, _, _ => none
 | f19 + 1, x17, x18 => bif (decide (x17 < (v13.length : Int))) then spec_l11Sum_l3 a0 v13 x17 x18 (spec_l11Sum_l1 a0 v13 f19) FUEL 0 0 else some x18
def spec_l11Sum_l0 (a0 : List T_impl_Delta) : Nat → Int → (List (List T_impl_Value)) → Option (List T_impl_Delta)
 | 0, _, _ => none
 | f4 + 1, x2, x3 => bif (decide (x2 < (a0.length : Int))) then (getI a0 x2).bind fun v7 => (app x3 ([v7.fRow] : List (List T_impl_Value))).bind fun v9 => (spec_l11Sum_l0 a0 f4) (w64 (x2 + 1)) v9 else (spec_RowsOnce_L0 x3).bind fun v11 => (spec_RowsSorted v11).bind fun v13 => spec_l11Sum_l1 a0 v13 FUEL 0 ([] : List T_impl_Delta)
def spec_l11Sum (a0 : List T_impl_Delta) : Option (List T_impl_Delta) := spec_l11Sum_l0 a0 FUEL 0 ([] : List (List T_impl_Value))
theorem ok_spec_l11Sum {a0 : List T_impl_Delta} {y : List T_impl_Delta} (h : spec_l11Sum a0 = some y) : OK Try.prog 50 [A a0] (O y) := by
 refine ow Try.func50 fun Γ hX => ?_
 unfold spec_l11Sum at h
 refine srve 69 [(0, A a0)] [] ?_
 refine srve 69 [(0, A a0), (3, .arr 1 0 (eL ([] : List (List T_impl_Value))) true)] [] ?_
 refine pwp_seq ?_
 refine srve 69 [(0, A a0), (3, .arr 1 0 (eL ([] : List (List T_impl_Value))) true), (4, I 0)] [] ?_
 refine pwp_block ?_
 refine pwp_loop (ι := Nat × Int × (List (List T_impl_Value))) (fun (f4, x2, x3) => (⟨69, [(0, A a0), (3, rf 0 0 1 x3), (4, I x2)], [sl 0 x3]⟩ : St)) (fun (f4, x2, x3) => spec_l11Sum_l0 a0 f4 x2 x3 = some y) Prod.fst (FUEL, 0, ([] : List (List T_impl_Value))) h (Imp.thawS 3 [0, 3, 4] (by kernel_rfl)) ?_
 rintro ⟨f4, x2, x3⟩ h
 dsimp only at h ⊢
 rcases f4 with _ | f4
 cases h
 rw [spec_l11Sum_l0] at h
 refine pwp_seq ?_
 refine srve 69 [(0, A a0), (3, rf 0 0 1 x3), (4, I x2), (13, B (decide (x2 < (a0.length : Int))))] [sl 0 x3] ?_
 refine pc h (fun h => ?_) (fun h => ?_)
 refine pwp_skip ?_
 refine pwp_seq ?_
 refine pwp_block ?_
 refine rv 3 69 [(0, A a0), (4, I x2), (16, rf 0 0 1 x3), (17, A a0), (18, I x2)] [sl 0 x3] ?_
 obtain ⟨v7, hv8, h⟩ := bindS h
 refine opsP_idx τ_ok 19 hv8 (by kernel_rfl) ?_
 refine v 3 69 [(0, A a0), (4, I x2), (16, rf 0 0 1 x3), (22, .arr 1 ([v7.fRow] : List (List T_impl_Value)).length (eL ([v7.fRow] : List (List T_impl_Value))) true)] [sl 0 x3] ?_
 obtain ⟨v9, hv10, h⟩ := bindS h
 refine opsP_app τ_ok 23 0 0 (nx hX) hv10 (by kernel_rfl) ?_
 refine ve 1 69 [(0, A a0), (3, rf 0 1 1 v9), (4, I x2)] [sl 1 v9] ?_
 refine rve 69 [(0, A a0), (3, rf 0 1 1 v9), (4, I (w64 (x2 + 1)))] [sl 1 v9] ?_
 exact ⟨(f4, (w64 (x2 + 1)), v9), h, Nat.lt_succ_self _, (it (st' := ⟨69, [(0, A a0), (3, rf 0 1 1 v9), (4, I (w64 (x2 + 1)))], [sl 1 v9]⟩) [0, 3, 4]).trans (Imp.reverS 0 1 (eL v9) [0, 3, 4] (by kernel_rfl) (by exact (And.intro (eL_frz _) trivial)) (by kernel_rfl))⟩
 refine pwp_exit ?_
 refine srv 1 69 [(0, A a0), (24, rf 0 0 1 x3)] [sl 0 x3] ?_
 obtain ⟨v11, hv12, h⟩ := bindS h
 refine opsP_E (dd := some 25) (x := A v11) (callS_E τ 25 0 0 (ok_spec_RowsOnce_L0 hv12) (FzTo.O _) rfl rfl (by kernel_rfl)) ?_
 obtain ⟨v13, hv14, h⟩ := bindS h
 refine cF 26 (ok_spec_RowsSorted hv14) ?_
 refine ve 1 69 [(0, A a0), (3, A v13)] [sl 0 x3] ?_
 refine srve 69 [(0, A a0), (3, A v13), (5, .arr 2 0 (eL ([] : List T_impl_Delta)) true)] [sl 0 x3] ?_
 refine pwp_seq ?_
 refine srve 69 [(0, A a0), (3, A v13), (5, .arr 2 0 (eL ([] : List T_impl_Delta)) true), (6, I 0)] [sl 0 x3] ?_
 refine pwp_block ?_
 refine pwp_loop (ι := Nat × Int × (List T_impl_Delta)) (fun (f19, x17, x18) => (⟨69, [(0, A a0), (3, A v13), (5, rf 1 0 2 x18), (6, I x17)], [sl 0 x3, sl 0 x18]⟩ : St)) (fun (f19, x17, x18) => spec_l11Sum_l1 a0 v13 f19 x17 x18 = some y) Prod.fst (FUEL, 0, ([] : List T_impl_Delta)) h (Imp.thawS 5 [0, 3, 5, 6] (by kernel_rfl)) ?_
 rintro ⟨f19, x17, x18⟩ h
 dsimp only at h ⊢
 rcases f19 with _ | f19
 cases h
 rw [spec_l11Sum_l1] at h
 refine pwp_seq ?_
 refine srve 69 [(0, A a0), (3, A v13), (5, rf 1 0 2 x18), (6, I x17), (31, B (decide (x17 < (v13.length : Int))))] [sl 0 x3, sl 0 x18] ?_
 refine pc h (fun h => ?_) (fun h => ?_)
 refine pwp_skip ?_
 refine pwp_seq ?_
 refine pwp_join (σ := (List T_impl_Delta)) (fun x22 => (⟨69, [(0, A a0), (3, A v13), (5, rf 1 0 2 x22), (6, I x17)], [sl 0 x3, sl 0 x22]⟩ : St)) (fun x22 => spec_l11Sum_j2 x17 (spec_l11Sum_l1 a0 v13 f19) x22 = some y) ?_ ?_
 refine pwp_block ?_
 refine srve 69 [(0, A a0), (3, A v13), (5, rf 1 0 2 x18), (6, I x17), (7, I 0)] [sl 0 x3, sl 0 x18] ?_
 refine pwp_seq ?_
 refine srve 69 [(0, A a0), (3, A v13), (5, rf 1 0 2 x18), (6, I x17), (7, I 0), (8, I 0)] [sl 0 x3, sl 0 x18] ?_
 refine pwp_block ?_
 refine pwp_loop (ι := Nat × Int × Int) (fun (f27, x25, x26) => (⟨69, [(0, A a0), (3, A v13), (5, rf 1 0 2 x18), (6, I x17), (7, I x25), (8, I x26)], [sl 0 x3, sl 0 x18]⟩ : St)) (fun (f27, x25, x26) => spec_l11Sum_l3 a0 v13 x17 x18 (spec_l11Sum_l1 a0 v13 f19) f27 x25 x26 = some y) Prod.fst (FUEL, 0, 0) h (it [0, 3, 5, 6, 7, 8]) ?_
 rintro ⟨f27, x25, x26⟩ h
 dsimp only at h ⊢
 rcases f27 with _ | f27
 cases h
 rw [spec_l11Sum_l3] at h
 refine pwp_seq ?_
 refine srve 69 [(0, A a0), (3, A v13), (5, rf 1 0 2 x18), (6, I x17), (7, I x25), (8, I x26), (37, B (decide (x26 < (a0.length : Int))))] [sl 0 x3, sl 0 x18] ?_
 refine pc h (fun h => ?_) (fun h => ?_)
 refine pwp_skip ?_
 refine pwp_seq ?_
 refine pwp_join (σ := Int) (fun x30 => (⟨69, [(0, A a0), (3, A v13), (5, rf 1 0 2 x18), (6, I x17), (7, I x30), (8, I x26)], [sl 0 x3, sl 0 x18]⟩ : St)) (fun x30 => spec_l11Sum_j4 x26 (spec_l11Sum_l3 a0 v13 x17 x18 (spec_l11Sum_l1 a0 v13 f19) f27) x30 = some y) ?_ ?_
 refine pwp_block ?_
 refine pwp_seq ?_
 refine ip 69 [(0, A a0), (3, A v13), (5, rf 1 0 2 x18), (6, I x17), (7, I x25), (8, I x26)] [sl 0 x3, sl 0 x18] ?_
 refine pN 10 ?_
 refine qv [] trivial 2 69 [(41, I x26), (40, A a0), (0, A a0), (3, A v13), (5, rf 1 0 2 x18), (6, I x17), (7, I x25), (8, I x26)] [sl 0 x3, sl 0 x18] ?_
 obtain ⟨v31, hv32, h⟩ := bindS h
 refine qX (some 42) (pf v31 0) 69 [(42, pf v31 0), (0, A a0), (3, A v13), (5, rf 1 0 2 x18), (6, I x17), (7, I x25), (8, I x26)] [sl 0 x3, sl 0 x18] (fun Γ' hΓ => CoreE.of_y (idxV_sound τ_ok (by kernel_rfl) hv32)) trivial ?_
 refine qv [] trivial 4 69 [(46, I x17), (45, A v13), (44, A v31.fRow), (0, A a0), (3, A v13), (5, rf 1 0 2 x18), (6, I x17), (7, I x25), (8, I x26)] [sl 0 x3, sl 0 x18] ?_
 obtain ⟨v33, hv34, h⟩ := bindS h
 refine qX (some 47) (pf v33 0) 69 [(47, pf v33 0), (44, A v31.fRow), (0, A a0), (3, A v13), (5, rf 1 0 2 x18), (6, I x17), (7, I x25), (8, I x26)] [sl 0 x3, sl 0 x18] (fun Γ' hΓ => CoreE.of_y (idxV_sound τ_ok (by kernel_rfl) hv34)) trivial ?_
 refine qv [] trivial 1 69 [(48, A v33), (44, A v31.fRow), (0, A a0), (3, A v13), (5, rf 1 0 2 x18), (6, I x17), (7, I x25), (8, I x26)] [sl 0 x3, sl 0 x18] ?_
 obtain ⟨v35, hv36, h⟩ := bindS h
 refine qX (some 49) (B v35) 69 [(49, B v35), (0, A a0), (3, A v13), (5, rf 1 0 2 x18), (6, I x17), (7, I x25), (8, I x26)] [sl 0 x3, sl 0 x18] (fun Γ' hΓ => CoreE.of_g (callV_sound (τ := τ) (by kernel_rfl) rfl (ok_spec_l3Same hv36) (FzTo.frz rfl))) trivial ?_
 refine qn 69 [(0, A a0), (3, A v13), (5, rf 1 0 2 x18), (6, I x17), (7, I x25), (8, I x26), (49, B v35)] [sl 0 x3, sl 0 x18] ?_
 refine pc h (fun h => ?_) (fun h => ?_)
 refine rv 3 69 [(0, A a0), (3, A v13), (5, rf 1 0 2 x18), (6, I x17), (8, I x26), (50, I x25), (51, A a0), (52, I x26)] [sl 0 x3, sl 0 x18] ?_
 obtain ⟨v38, hv39, h⟩ := bindS h
 refine opsP_idx τ_ok 53 hv39 (by kernel_rfl) ?_
 refine ve 4 69 [(0, A a0), (3, A v13), (5, rf 1 0 2 x18), (6, I x17), (7, I (w64 (x25 + v38.fMany))), (8, I x26)] [sl 0 x3, sl 0 x18] ?_
 exact ⟨(w64 (x25 + v38.fMany)), h, it [0, 3, 5, 6, 7, 8]⟩
 refine pwp_skip ?_
 exact ⟨x25, h, it [0, 3, 5, 6, 7, 8]⟩
 rintro x30 h
 unfold spec_l11Sum_j4 at h
 refine rve 69 [(0, A a0), (3, A v13), (5, rf 1 0 2 x18), (6, I x17), (7, I x30), (8, I (w64 (x26 + 1)))] [sl 0 x3, sl 0 x18] ?_
 exact ⟨(f27, x30, (w64 (x26 + 1))), h, Nat.lt_succ_self _, it [0, 3, 5, 6, 7, 8]⟩
 refine pwp_exit ?_
 refine srve 69 [(0, A a0), (3, A v13), (5, rf 1 0 2 x18), (6, I x17), (7, I x25), (58, B (!(x25 == 0)))] [sl 0 x3, sl 0 x18] ?_
 refine pc h (fun h => ?_) (fun h => ?_)
 refine rv 3 69 [(0, A a0), (3, A v13), (6, I x17), (7, I x25), (59, rf 1 0 2 x18), (60, A v13), (61, I x17)] [sl 0 x3, sl 0 x18] ?_
 obtain ⟨v41, hv42, h⟩ := bindS h
 refine opsP_idx τ_ok 62 hv42 (by kernel_rfl) ?_
 refine v 4 69 [(0, A a0), (3, A v13), (6, I x17), (59, rf 1 0 2 x18), (66, .arr 2 ([(T_impl_Delta.mk v41 x25)] : List T_impl_Delta).length (eL ([(T_impl_Delta.mk v41 x25)] : List T_impl_Delta)) true)] [sl 0 x3, sl 0 x18] ?_
 obtain ⟨v43, hv44, h⟩ := bindS h
 refine opsP_app τ_ok 67 1 0 (nx hX) hv44 (by kernel_rfl) ?_
 refine ve 1 69 [(0, A a0), (3, A v13), (5, rf 1 1 2 v43), (6, I x17)] [sl 0 x3, sl 1 v43] ?_
 exact ⟨v43, h, (it (st' := ⟨69, [(0, A a0), (3, A v13), (5, rf 1 1 2 v43), (6, I x17)], [sl 0 x3, sl 1 v43]⟩) [0, 3, 5, 6]).trans (Imp.reverS 1 1 (eL v43) [0, 3, 5, 6] (by kernel_rfl) (by exact (And.intro (eL_frz _) (And.intro (eL_frz _) trivial))) (by kernel_rfl))⟩
 refine pwp_skip ?_
 exact ⟨x18, h, it [0, 3, 5, 6]⟩
 rintro x22 h
 unfold spec_l11Sum_j2 at h
 refine rve 69 [(0, A a0), (3, A v13), (5, rf 1 0 2 x22), (6, I (w64 (x17 + 1)))] [sl 0 x3, sl 0 x22] ?_
 exact ⟨(f19, (w64 (x17 + 1)), x22), h, Nat.lt_succ_self _, it [0, 3, 5, 6]⟩
 refine pwp_exit ?_
 refine srve 69 [(2, rf 1 0 2 x18)] [sl 0 x3, sl 0 x18] ?_
 have h := si h
 subst h
 exact pwp_ret (rt (rf 1 0 2 x18) (OutP.list (v := 0) (by kernel_rfl)))
def impl_DeltaRows_1 (a0 : T_impl_Delta) : Option Bool := (impl_RowOk a0.fRow).bind fun v1 => bif (!v1) then some true else (impl_between a0.fMany (-100) 100).bind fun v3 => some (!v3)
theorem ok_impl_DeltaRows_1 {a0 : T_impl_Delta} {y : Bool} (h : impl_DeltaRows_1 a0 = some y) : OK Try.prog 52 [E a0] (B y) := by
 refine ow Try.func52 fun Γ hX => ?_
 unfold impl_DeltaRows_1 at h
 refine srve 13 [(1, pf a0 0)] [] ?_
 refine srv 2 13 [(1, pf a0 0), (4, A a0.fRow)] [] ?_
 obtain ⟨v1, hv2, h⟩ := bindS h
 refine cF 5 (ok_impl_RowOk hv2) ?_
 refine v 2 13 [(1, pf a0 0), (7, B (!v1))] [] ?_
 rcases fk (!v1) with hc5 | hc5
 replace h := bT hc5 h
 rw [hc5]
 refine ve 6 13 [(2, B true)] [] ?_
 cases h
 exact pwp_ret rz
 replace h := bF hc5 h
 rw [hc5]
 refine v 2 13 [(7, B false), (9, I a0.fMany)] [] ?_
 obtain ⟨v3, hv4, h⟩ := bindS h
 refine cF 10 (ok_impl_between hv4) ?_
 refine ve 3 13 [(2, B (!v3))] [] ?_
 cases h
 exact pwp_ret rz
def impl_RowOrder_j0 (a0 : List T_impl_Value) (a1 : List T_impl_Value) (x1 : Bool) : Option Int := bif x1 then some 0 else (impl_rowOrder a0 a1).bind fun v3 => some v3
def impl_RowOrder (a0 : List T_impl_Value) (a1 : List T_impl_Value) : Option Int := (impl_RowOk a0).bind fun v5 => bif (!v5) then impl_RowOrder_j0 a0 a1 true else (impl_RowOk a1).bind fun v7 => impl_RowOrder_j0 a0 a1 (!v7)
theorem ok_impl_RowOrder {a0 : List T_impl_Value} {a1 : List T_impl_Value} {y : Int} (h : impl_RowOrder a0 a1 = some y) : OK Try.prog 56 [A a0, A a1] (I y) := by
 refine ow Try.func56 fun Γ hX => ?_
 unfold impl_RowOrder at h
 refine srve 16 [(0, A a0), (1, A a1)] [] ?_
 refine pwp_seq ?_
 refine pwp_seq ?_
 refine pwp_join (σ := Bool) (fun x1 => (⟨16, [(0, A a0), (1, A a1), (12, B x1)], []⟩ : St)) (fun x1 => impl_RowOrder_j0 a0 a1 x1 = some y) ?_ ?_
 refine rv 1 16 [(0, A a0), (1, A a1), (5, A a0)] [] ?_
 obtain ⟨v5, hv6, h⟩ := bindS h
 refine cF 6 (ok_impl_RowOk hv6) ?_
 refine v 2 16 [(0, A a0), (1, A a1), (8, B (!v5))] [] ?_
 rcases fk (!v5) with hc9 | hc9
 replace h := bT hc9 h
 rw [hc9]
 refine ve 4 16 [(0, A a0), (1, A a1), (12, B true)] [] ?_
 exact ⟨true, h, it [0, 1, 12]⟩
 replace h := bF hc9 h
 rw [hc9]
 refine v 1 16 [(0, A a0), (1, A a1), (8, B false), (9, A a1)] [] ?_
 obtain ⟨v7, hv8, h⟩ := bindS h
 refine cF 10 (ok_impl_RowOk hv8) ?_
 refine ve 2 16 [(0, A a0), (1, A a1), (12, B (!v7))] [] ?_
 exact ⟨(!v7), h, it [0, 1, 12]⟩
 rintro x1 h
 unfold impl_RowOrder_j0 at h
 refine pc h (fun h => ?_) (fun h => ?_)
 refine srve 16 [(4, I 0)] [] ?_
 cases h
 exact pwp_ret rz
 refine pwp_skip ?_
 refine srv 2 16 [(13, A a0), (14, A a1)] [] ?_
 obtain ⟨v3, hv4, h⟩ := bindS h
 refine cF 15 (ok_impl_rowOrder hv4) ?_
 refine ve 1 16 [(4, I v3)] [] ?_
 cases h
 exact pwp_ret rz
def slices_SortStableFunc_impl_Value_impl_Value_s3_w (a0 : List (List T_impl_Value)) (a1 : (List T_impl_Value) → (List T_impl_Value) → Option Int) : Option (List (List T_impl_Value)) := (slices_stableCmpFunc_impl_Value a0 (a0.length : Int) a1).bind fun v1 => some v1
def slices_SortStableFunc_impl_Value_impl_Value_s3 (a0 : List (List T_impl_Value)) (a1 : (List T_impl_Value) → (List T_impl_Value) → Option Int) : Option (List (List T_impl_Value)) := (slices_SortStableFunc_impl_Value_impl_Value_s3_w a0 a1).bind fun y => bif (y.length == a0.length) then some y else none
theorem len_slices_SortStableFunc_impl_Value_impl_Value_s3 {a0 : List (List T_impl_Value)} {a1 : (List T_impl_Value) → (List T_impl_Value) → Option Int} {y : List (List T_impl_Value)} (h : slices_SortStableFunc_impl_Value_impl_Value_s3 a0 a1 = some y) : y.length = a0.length := (bindLen (f := fun y : List (List T_impl_Value) => y) h).2
theorem ok_slices_SortStableFunc_impl_Value_impl_Value_s3 {a0 : List (List T_impl_Value)} {g1 : FuncId} {c1 : List V} (hz1 : frzL c1 = true) {a1 : (List T_impl_Value) → (List T_impl_Value) → Option Int} (hp1 : ∀ x0 x1 y, a1 x0 x1 = some y → OK Try.prog g1 ([A x0, A x1] ++ c1) (I y)) {y : List (List T_impl_Value)} (h : slices_SortStableFunc_impl_Value_impl_Value_s3 a0 a1 = some y) : OKs Try.prog 102 [] 1 a0.length (eL a0) [.fn g1 c1] (.tup []) (eL y) := by
 refine OKs_of_pwp τ_ok Try.func102 rfl (by kernel_rfl) rfl (eL_frz _) (eL_frz _) (by rw [eL_len, eL_len, len_slices_SortStableFunc_impl_Value_impl_Value_s3 h]) fun Γ hQ => ?_
 refine pwp_imp (Imp.to (st' := ⟨9, [(0, rf 0 0 1 a0), (1, .fn g1 c1)], [sl 0 a0]⟩) [0, 1] (by kernel_rfl)) ?_
 have h := (bindLen (f := fun y : List (List T_impl_Value) => y) h).1
 unfold slices_SortStableFunc_impl_Value_impl_Value_s3_w at h
 refine rv 4 9 [(4, rf 0 0 1 a0), (6, I (a0.length : Int)), (7, .fn g1 c1)] [sl 0 a0] ?_
 obtain ⟨v1, hv2, h⟩ := bindS h
 refine opsP_E (dd := some 8) (x := .tup []) (callS_E τ 8 0 0 (ok_slices_stableCmpFunc_impl_Value (hz1) (hp1) hv2) (FzTo.tup FzToL.nil) rfl (by simp only [frzL, frz, hz1, Bool.and_true]) (by kernel_rfl)) ?_
 refine io 9 [(4, rf 0 0 1 a0), (6, I (a0.length : Int)), (7, .fn g1 c1), (8, .tup [])] [sl 0 v1] ?_
 refine opsP_ren (st' := ⟨9, [(4, rf 0 0 1 v1), (6, I (a0.length : Int)), (7, .fn g1 c1), (8, .tup [])], [sl 0 v1]⟩) 0 v1.length (renC (ren_ref (len_slices_stableCmpFunc_impl_Value hv2).symm) (renC trivial (renC trivial (renC trivial renC0)))) (by kernel_rfl) ?_
 refine ve 0 9 [] [sl 0 v1] ?_
 have h := si h
 subst h
 first | exact ⟨.inl rfl, .tup [], _, 0, by kernel_rfl, (OutP.tup (OutL.nil _)), by decide, by decide, by kernel_rfl⟩ | exact pwp_ret ⟨.inr rfl, .tup [], _, 0, by kernel_rfl, (OutP.tup (OutL.nil _)), by decide, by decide, by kernel_rfl⟩
def spec_DrawDeltaOf (a0 : List UInt8) : Option ((List (List T_impl_Value)) × (List (List T_impl_Value))) := (spec_l20Open a0).bind fun v1 => (spec_l20Two v1).bind fun v3 => some (v3.1.1, v3.1.2)
theorem ok_spec_DrawDeltaOf {a0 : List UInt8} {y : (List (List T_impl_Value)) × (List (List T_impl_Value))} (h : spec_DrawDeltaOf a0 = some y) : OK Try.prog 9 [A a0] (.tup [A y.1, A y.2]) := by
 refine ow Try.func9 fun Γ hX => ?_
 unfold spec_DrawDeltaOf at h
 refine srve 9 [(0, A a0)] [] ?_
 refine srv 1 9 [(4, A a0)] [] ?_
 obtain ⟨v1, hv2, h⟩ := bindS h
 refine opsP_callO τ 5 (ok_spec_l20Open hv2) rfl (by kernel_rfl) ?_
 obtain ⟨v3, hv4, h⟩ := bindS h
 refine opsP_callB τ 6 0 0 (ok_spec_l20Two hv4) (FzTo.tup (FzToL.cons (FzTo.frz rfl) (FzToL.cons (FzTo.frz rfl) FzToL.nil))) rfl (by kernel_rfl) ?_
 refine ve 4 9 [(2, A v3.1.1), (3, A v3.1.2)] [sc 0 v3.2] ?_
 have h := si h
 subst h
 exact pwp_ret (rt (.tup [A v3.1.1, A v3.1.2]) (OutP.tup (OutL.cons (OutP.frz (by kernel_rfl)) (OutL.cons (OutP.frz (by kernel_rfl)) (OutL.nil _)))))
def impl_RowsSorted_j2 (x2 : Int) (x3 : List (List T_impl_Value)) (K5 : Int → (List (List T_impl_Value)) → Option (List (List T_impl_Value))) (v7 : List T_impl_Value) (x10 : Int) (K12 : Int → Option (List (List T_impl_Value))) (x13 : Bool) : Option (List (List T_impl_Value)) := bif x13 then K12 (w64 (x10 - 1)) else (insR x3 x10 ([v7] : List (List T_impl_Value))).bind fun v15 => K5 (w64 (x2 + 1)) v15
def impl_RowsSorted_l1 (x2 : Int) (x3 : List (List T_impl_Value)) (K5 : Int → (List (List T_impl_Value)) → Option (List (List T_impl_Value))) (v7 : List T_impl_Value) : Nat → Int → Option (List (List T_impl_Value))
 | 0, _ => none
 | f11 + 1, x10 => bif (decide (x10 > 0)) then (getI x3 (w64 (x10 - 1))).bind fun v17 => (impl_RowOrder v17 v7).bind fun v19 => impl_RowsSorted_j2 x2 x3 K5 v7 x10 (impl_RowsSorted_l1 x2 x3 K5 v7 f11) (decide (v19 > 0)) else impl_RowsSorted_j2 x2 x3 K5 v7 x10 (impl_RowsSorted_l1 x2 x3 K5 v7 f11) false
def impl_RowsSorted_l0 (a0 : List (List T_impl_Value)) : Nat → Int → (List (List T_impl_Value)) → Option (List (List T_impl_Value))
 | 0, _, _ => none
 | f4 + 1, x2, x3 => bif (decide (x2 < (a0.length : Int))) then (getI a0 x2).bind fun v7 => impl_RowsSorted_l1 x2 x3 (impl_RowsSorted_l0 a0 f4) v7 FUEL (x3.length : Int) else (impl_rowsCopy_L0 x3).bind fun v22 => some v22
def impl_RowsSorted (a0 : List (List T_impl_Value)) : Option (List (List T_impl_Value)) := impl_RowsSorted_l0 a0 FUEL 0 ([] : List (List T_impl_Value))
theorem ok_impl_RowsSorted {a0 : List (List T_impl_Value)} {y : List (List T_impl_Value)} (h : impl_RowsSorted a0 = some y) : OK Try.prog 17 [A a0] (A y) := by
 refine ow Try.func17 fun Γ hX => ?_
 unfold impl_RowsSorted at h
 refine srve 37 [(0, A a0)] [] ?_
 refine srve 37 [(0, A a0), (3, .arr 1 0 (eL ([] : List (List T_impl_Value))) true)] [] ?_
 refine pwp_seq ?_
 refine srve 37 [(3, .arr 1 0 (eL ([] : List (List T_impl_Value))) true), (7, A a0), (8, I (a0.length : Int)), (9, I 0)] [] ?_
 refine pwp_block ?_
 refine pwp_loop (ι := Nat × Int × (List (List T_impl_Value))) (fun (f4, x2, x3) => (⟨37, [(3, rf 0 0 1 x3), (7, A a0), (8, I (a0.length : Int)), (9, I x2)], [sl 0 x3]⟩ : St)) (fun (f4, x2, x3) => impl_RowsSorted_l0 a0 f4 x2 x3 = some y) Prod.fst (FUEL, 0, ([] : List (List T_impl_Value))) h (Imp.thawS 3 [3, 7, 8, 9] (by kernel_rfl)) ?_
 rintro ⟨f4, x2, x3⟩ h
 dsimp only at h ⊢
 rcases f4 with _ | f4
 cases h
 rw [impl_RowsSorted_l0] at h
 refine srve 37 [(3, rf 0 0 1 x3), (7, A a0), (8, I (a0.length : Int)), (9, I x2), (10, B (decide (x2 < (a0.length : Int))))] [sl 0 x3] ?_
 refine pwp_seq ?_
 refine pc h (fun h => ?_) (fun h => ?_)
 refine pwp_skip ?_
 refine pwp_seq ?_
 refine pwp_block ?_
 refine pwp_seq ?_
 refine pwp_region ?_
 obtain ⟨v7, hv8, h⟩ := bindS h
 refine opsP_idx τ_ok 11 hv8 (by kernel_rfl) ?_
 refine ve 2 37 [(3, rf 0 0 1 x3), (5, A v7), (7, A a0), (8, I (a0.length : Int)), (9, I x2)] [sl 0 x3] ?_
 refine srve 37 [(3, rf 0 0 1 x3), (5, A v7), (6, I (x3.length : Int)), (7, A a0), (8, I (a0.length : Int)), (9, I x2)] [sl 0 x3] ?_
 refine pwp_seq ?_
 refine pwp_block ?_
 refine pwp_loop (ι := Nat × Int) (fun (f11, x10) => (⟨37, [(3, rf 0 0 1 x3), (5, A v7), (6, I x10), (7, A a0), (8, I (a0.length : Int)), (9, I x2)], [sl 0 x3]⟩ : St)) (fun (f11, x10) => impl_RowsSorted_l1 x2 x3 (impl_RowsSorted_l0 a0 f4) v7 f11 x10 = some y) Prod.fst (FUEL, (x3.length : Int)) h (it [3, 5, 6, 7, 8, 9]) ?_
 rintro ⟨f11, x10⟩ h
 dsimp only at h ⊢
 rcases f11 with _ | f11
 cases h
 rw [impl_RowsSorted_l1] at h
 refine pwp_seq ?_
 refine pwp_seq ?_
 refine pwp_join (σ := Bool) (fun x13 => (⟨37, [(3, rf 0 0 1 x3), (5, A v7), (6, I x10), (7, A a0), (8, I (a0.length : Int)), (9, I x2), (26, B x13)], [sl 0 x3]⟩ : St)) (fun x13 => impl_RowsSorted_j2 x2 x3 (impl_RowsSorted_l0 a0 f4) v7 x10 (impl_RowsSorted_l1 x2 x3 (impl_RowsSorted_l0 a0 f4) v7 f11) x13 = some y) ?_ ?_
 refine rv 3 37 [(3, rf 0 0 1 x3), (5, A v7), (6, I x10), (7, A a0), (8, I (a0.length : Int)), (9, I x2), (17, B (decide (x10 > 0)))] [sl 0 x3] ?_
 rcases fk (decide (x10 > 0)) with hc21 | hc21
 replace h := bT hc21 h
 rw [hc21]
 refine v 3 37 [(3, rf 0 0 1 x3), (5, A v7), (6, I x10), (7, A a0), (8, I (a0.length : Int)), (9, I x2), (17, B true), (18, rf 0 0 1 x3), (19, I x10), (20, I (w64 (x10 - 1)))] [sl 0 x3] ?_
 obtain ⟨v17, hv18, h⟩ := bindS h
 refine opsP_idr τ_ok 21 0 0 x3.length hv18 rfl (by kernel_rfl) ?_
 refine opsP_lde (r := A v17) τ_ok 22 29 0 hv18 (by kernel_rfl) (by kernel_rfl) ?_
 refine v 1 37 [(3, rf 0 0 1 x3), (5, A v7), (6, I x10), (7, A a0), (8, I (a0.length : Int)), (9, I x2), (17, B true), (18, rf 0 0 1 x3), (19, I x10), (20, I (w64 (x10 - 1))), (21, .ptr 0 0 ((w64 (x10 - 1)).toNat * 1)), (22, A v17), (23, A v7)] [sl 0 x3] ?_
 obtain ⟨v19, hv20, h⟩ := bindS h
 refine cF 24 (ok_impl_RowOrder hv20) ?_
 refine ve 2 37 [(3, rf 0 0 1 x3), (5, A v7), (6, I x10), (7, A a0), (8, I (a0.length : Int)), (9, I x2), (18, rf 0 0 1 x3), (19, I x10), (20, I (w64 (x10 - 1))), (21, .ptr 0 0 ((w64 (x10 - 1)).toNat * 1)), (22, A v17), (23, A v7), (24, I v19), (25, B (decide (v19 > 0))), (26, B (decide (v19 > 0)))] [sl 0 x3] ?_
 exact ⟨(decide (v19 > 0)), h, it [3, 5, 6, 7, 8, 9, 26]⟩
 replace h := bF hc21 h
 rw [hc21]
 refine ve 9 37 [(3, rf 0 0 1 x3), (5, A v7), (6, I x10), (7, A a0), (8, I (a0.length : Int)), (9, I x2), (18, .lit undef), (19, .lit undef), (20, .lit undef), (21, .lit undef), (22, .lit undef), (23, .lit undef), (24, .lit undef), (25, .lit undef), (26, B false)] [sl 0 x3] ?_
 exact ⟨false, h, it [3, 5, 6, 7, 8, 9, 26]⟩
 rintro x13 h
 unfold impl_RowsSorted_j2 at h
 refine pc h (fun h => ?_) (fun h => ?_)
 refine pwp_skip ?_
 refine pwp_block ?_
 refine rve 37 [(3, rf 0 0 1 x3), (5, A v7), (6, I (w64 (x10 - 1))), (7, A a0), (8, I (a0.length : Int)), (9, I x2)] [sl 0 x3] ?_
 exact ⟨(f11, (w64 (x10 - 1))), h, Nat.lt_succ_self _, it [3, 5, 6, 7, 8, 9]⟩
 refine pwp_exit ?_
 refine rv 3 37 [(7, A a0), (8, I (a0.length : Int)), (9, I x2), (29, rf 0 0 1 x3), (30, I x10), (31, A v7)] [sl 0 x3] ?_
 refine opsP_E (dd := some 32) (x := .ref 1 0 0 1 ([v7] : List (List T_impl_Value)).length false) (bsl_N (cells := eL ([v7] : List (List T_impl_Value))) τ_ok 32 1 (nx hX) (by kernel_rfl) (by kernel_rfl)) ?_
 obtain ⟨v15, hv16, h⟩ := bindS h
 refine opsP_callM (xs := [rf 0 0 1 x3, I x10, .ref 1 0 0 1 ([v7] : List (List T_impl_Value)).length false]) (x := rf 2 0 1 v15) (bs := [⟨0, eL v15⟩]) τ 33 [0, 1] (nx hX) (ok_insR hv16) (by kernel_rfl) (OutL.cons (OutP.list (v := 0) (by kernel_rfl)) (OutL.cons (OutP.frz rfl) (OutL.cons (OutP.list (v := 0) (by kernel_rfl)) (OutL.nil _)))) (by decide) (by kernel_rfl) ?_
 refine ve 1 37 [(3, rf 2 0 1 v15), (7, A a0), (8, I (a0.length : Int)), (9, I x2)] [none, none, sl 0 v15] ?_
 refine rve 37 [(3, rf 2 0 1 v15), (7, A a0), (8, I (a0.length : Int)), (9, I (w64 (x2 + 1)))] [none, none, sl 0 v15] ?_
 exact ⟨(f4, (w64 (x2 + 1)), v15), h, Nat.lt_succ_self _, qt (it (st' := ⟨37, [(3, rf 2 0 1 v15), (7, A a0), (8, I (a0.length : Int)), (9, I (w64 (x2 + 1)))], [none, none, sl 0 v15]⟩) [3, 7, 8, 9]) (qt (Imp.mvS (st' := ⟨37, [(3, rf 0 0 1 v15), (7, A a0), (8, I (a0.length : Int)), (9, I (w64 (x2 + 1)))], [sl 0 v15, none, none]⟩) 2 0 [3, 7, 8, 9] (nx hX) (v := 0) (cs := eL v15) (by kernel_rfl) (by kernel_rfl) (by exact (And.intro (eL_frz _) trivial)) (by kernel_rfl) (by kernel_rfl)) (Imp.truncS 1 (nx hX) (by kernel_rfl) (allBelow_mem (by exact (And.intro rfl (And.intro rfl (And.intro rfl (And.intro rfl trivial)))))) (by exact (And.intro (frz_below (eL_frz _)) trivial)) (by kernel_rfl)))⟩
 refine pwp_exit ?_
 refine srv 1 37 [(35, rf 0 0 1 x3)] [sl 0 x3] ?_
 obtain ⟨v22, hv23, h⟩ := bindS h
 refine opsP_E (dd := some 36) (x := A v22) (callS_E τ 36 0 0 (ok_impl_rowsCopy_L0 hv23) (FzTo.frz rfl) rfl rfl (by kernel_rfl)) ?_
 refine ve 1 37 [(2, A v22)] [sl 0 x3] ?_
 cases h
 exact pwp_ret rz
def impl_afterDeltas_l2 (x4 : Int) (K7 : Int → (List (List T_impl_Value)) → Option ((List (List T_impl_Value)) × Bool)) (v9 : T_impl_Delta) : Nat → Int → (List (List T_impl_Value)) → Option ((List (List T_impl_Value)) × Bool)
 | 0, _, _ => none
 | f23 + 1, x21, x22 => bif (decide (x21 < 0)) then (slices_IndexFunc_impl_Value_impl_Value_s3 x22 (fun z0 => impl_afterDeltas_1 z0 v9)).bind fun v26 => bif (decide (v26 < 0)) then some (([] : List (List T_impl_Value)), false) else (delR x22 v26 (w64 (v26 + 1))).bind fun v29 => (impl_afterDeltas_l2 x4 K7 v9 f23) (w64 (x21 + 1)) v29 else K7 (w64 (x4 + 1)) x22
def impl_afterDeltas_l1 (x4 : Int) (K7 : Int → (List (List T_impl_Value)) → Option ((List (List T_impl_Value)) × Bool)) (v9 : T_impl_Delta) : Nat → Int → (List (List T_impl_Value)) → Option ((List (List T_impl_Value)) × Bool)
 | 0, _, _ => none
 | f15 + 1, x13, x14 => bif (decide (x13 < v9.fMany)) then (app x14 ([v9.fRow] : List (List T_impl_Value))).bind fun v18 => (impl_afterDeltas_l1 x4 K7 v9 f15) (w64 (x13 + 1)) v18 else impl_afterDeltas_l2 x4 K7 v9 FUEL v9.fMany x14
def impl_afterDeltas_l0 (a1 : List T_impl_Delta) : Nat → Int → (List (List T_impl_Value)) → Option ((List (List T_impl_Value)) × Bool)
 | 0, _, _ => none
 | f6 + 1, x4, x5 => bif (decide (x4 < (a1.length : Int))) then (getI a1 x4).bind fun v9 => impl_afterDeltas_l1 x4 (impl_afterDeltas_l0 a1 f6) v9 FUEL 0 x5 else (impl_RowsSorted x5).bind fun v31 => some (v31, true)
def impl_afterDeltas (a0 : List (List T_impl_Value)) (a1 : List T_impl_Delta) : Option ((List (List T_impl_Value)) × Bool) := (slices_Clone_impl_Value_impl_Value_s3 a0).bind fun v1 => impl_afterDeltas_l0 a1 FUEL 0 v1
theorem ok_impl_afterDeltas {a0 : List (List T_impl_Value)} {a1 : List T_impl_Delta} {y : (List (List T_impl_Value)) × Bool} (h : impl_afterDeltas a0 a1 = some y) : OK Try.prog 55 [A a0, A a1] (.tup [A y.1, B y.2]) := by
 refine ow Try.func55 fun Γ hX => ?_
 unfold impl_afterDeltas at h
 refine srveM [8] 48 [(0, A a0), (1, A a1)] [] ?_
 refine srvM [8] 1 48 [(1, A a1), (11, A a0)] [] ?_
 obtain ⟨v1, hv2, h⟩ := bindS h
 refine opsP_callO τ 12 (ok_slices_Clone_impl_Value_impl_Value_s3 hv2) rfl (by kernel_rfl) ?_
 refine veM [8] 1 48 [(1, A a1), (6, rf 0 0 1 v1)] [sl 0 v1] ?_
 refine pwp_seq ?_
 refine srveM [8] 48 [(6, rf 0 0 1 v1), (13, A a1), (14, I (a1.length : Int)), (15, I 0)] [sl 0 v1] ?_
 refine pwp_block ?_
 refine pwp_loop (ι := Nat × Int × (List (List T_impl_Value))) (fun (f6, x4, x5) => (⟨48, [(6, rf 0 0 1 x5), (13, A a1), (14, I (a1.length : Int)), (15, I x4)], [sl 0 x5]⟩ : St)) (fun (f6, x4, x5) => impl_afterDeltas_l0 a1 f6 x4 x5 = some y) Prod.fst (FUEL, 0, v1) h (it [6, 13, 14, 15]) ?_
 rintro ⟨f6, x4, x5⟩ h
 dsimp only at h ⊢
 rcases f6 with _ | f6
 cases h
 rw [impl_afterDeltas_l0] at h
 refine srveM [8] 48 [(6, rf 0 0 1 x5), (13, A a1), (14, I (a1.length : Int)), (15, I x4), (16, B (decide (x4 < (a1.length : Int))))] [sl 0 x5] ?_
 refine pwp_seq ?_
 refine pc h (fun h => ?_) (fun h => ?_)
 refine pwp_skip ?_
 refine pwp_seq ?_
 refine pwp_block ?_
 refine pwp_seq ?_
 refine pwp_region ?_
 obtain ⟨v9, hv10, h⟩ := bindS h
 refine opsP_idx τ_ok 17 hv10 (by kernel_rfl) ?_
 refine veM [8] 3 48 [(6, rf 0 0 1 x5), (8, .ptr 1 0 0), (13, A a1), (14, I (a1.length : Int)), (15, I x4)] [sl 0 x5, sc 0 v9] ?_
 refine pwp_seq ?_
 refine srveM [8] 48 [(6, rf 0 0 1 x5), (8, .ptr 1 0 0), (13, A a1), (14, I (a1.length : Int)), (15, I x4), (20, I v9.fMany), (21, I 0)] [sl 0 x5, sc 0 v9] ?_
 refine pwp_block ?_
 refine pwp_loop (ι := Nat × Int × (List (List T_impl_Value))) (fun (f15, x13, x14) => (⟨48, [(6, rf 0 0 1 x14), (8, .ptr 1 0 0), (13, A a1), (14, I (a1.length : Int)), (15, I x4), (20, I v9.fMany), (21, I x13)], [sl 0 x14, sc 0 v9]⟩ : St)) (fun (f15, x13, x14) => impl_afterDeltas_l1 x4 (impl_afterDeltas_l0 a1 f6) v9 f15 x13 x14 = some y) Prod.fst (FUEL, 0, x5) h (it [6, 8, 13, 14, 15, 20, 21]) ?_
 rintro ⟨f15, x13, x14⟩ h
 dsimp only at h ⊢
 rcases f15 with _ | f15
 cases h
 rw [impl_afterDeltas_l1] at h
 refine srveM [8] 48 [(6, rf 0 0 1 x14), (8, .ptr 1 0 0), (13, A a1), (14, I (a1.length : Int)), (15, I x4), (20, I v9.fMany), (21, I x13), (22, B (decide (x13 < v9.fMany)))] [sl 0 x14, sc 0 v9] ?_
 refine pwp_seq ?_
 refine pc h (fun h => ?_) (fun h => ?_)
 refine pwp_skip ?_
 refine pwp_seq ?_
 refine pwp_block ?_
 refine rvM [8] 4 48 [(8, .ptr 1 0 0), (13, A a1), (14, I (a1.length : Int)), (15, I x4), (20, I v9.fMany), (21, I x13), (23, rf 0 0 1 x14), (26, .arr 1 ([v9.fRow] : List (List T_impl_Value)).length (eL ([v9.fRow] : List (List T_impl_Value))) true)] [sl 0 x14, sc 0 v9] ?_
 obtain ⟨v18, hv19, h⟩ := bindS h
 refine opsP_app τ_ok 27 0 0 (nx hX) hv19 (by kernel_rfl) ?_
 refine veM [8] 1 48 [(6, rf 0 1 1 v18), (8, .ptr 1 0 0), (13, A a1), (14, I (a1.length : Int)), (15, I x4), (20, I v9.fMany), (21, I x13)] [sl 1 v18, sc 0 v9] ?_
 refine rveM [8] 48 [(6, rf 0 1 1 v18), (8, .ptr 1 0 0), (13, A a1), (14, I (a1.length : Int)), (15, I x4), (20, I v9.fMany), (21, I (w64 (x13 + 1)))] [sl 1 v18, sc 0 v9] ?_
 exact ⟨(f15, (w64 (x13 + 1)), v18), h, Nat.lt_succ_self _, (it (st' := ⟨48, [(6, rf 0 1 1 v18), (8, .ptr 1 0 0), (13, A a1), (14, I (a1.length : Int)), (15, I x4), (20, I v9.fMany), (21, I (w64 (x13 + 1)))], [sl 1 v18, sc 0 v9]⟩) [6, 8, 13, 14, 15, 20, 21]).trans (Imp.reverS 0 1 (eL v18) [6, 8, 13, 14, 15, 20, 21] (by kernel_rfl) (by exact (And.intro (eL_frz _) (And.intro (rfl) trivial))) (by kernel_rfl))⟩
 refine pwp_exit ?_
 refine srveM [8] 48 [(6, rf 0 0 1 x14), (8, .ptr 1 0 0), (9, I v9.fMany), (13, A a1), (14, I (a1.length : Int)), (15, I x4)] [sl 0 x14, sc 0 v9] ?_
 refine pwp_block ?_
 refine ip 48 [(6, rf 0 0 1 x14), (8, .ptr 1 0 0), (9, I v9.fMany), (13, A a1), (14, I (a1.length : Int)), (15, I x4)] [sl 0 x14, sc 0 v9] ?_
 refine pwp_imp (Imp.freezeB (v := 0) (cs := Enc.cells v9) (st' := ⟨48, [(6, rf 0 0 1 x14), (8, pf v9 0), (9, I v9.fMany), (13, A a1), (14, I (a1.length : Int)), (15, I x4)], [sl 0 x14, none]⟩) 1 0 (nx hX) (by kernel_rfl) (Enc.frz _) (wholeC (whole_ne rfl) (wholeC (whole_noRef (by kernel_rfl)) (wholeC (whole_noRef (by kernel_rfl)) (wholeC (whole_noRef (by kernel_rfl)) (wholeC (whole_noRef (by kernel_rfl)) (wholeC (whole_noRef (by kernel_rfl)) wholeC0)))))) (HpRel.frz rfl (eL_frz _) (HpRel.key HpRel.nil)) (by kernel_rfl) rfl (nx hX)) ?_
 refine pwp_loop (ι := Nat × Int × (List (List T_impl_Value))) (fun (f23, x21, x22) => (⟨48, [(6, rf 0 0 1 x22), (8, pf v9 0), (9, I x21), (13, A a1), (14, I (a1.length : Int)), (15, I x4)], [sl 0 x22, none]⟩ : St)) (fun (f23, x21, x22) => impl_afterDeltas_l2 x4 (impl_afterDeltas_l0 a1 f6) v9 f23 x21 x22 = some y) Prod.fst (FUEL, v9.fMany, x14) h (it [6, 8, 9, 13, 14, 15]) ?_
 rintro ⟨f23, x21, x22⟩ h
 dsimp only at h ⊢
 rcases f23 with _ | f23
 cases h
 rw [impl_afterDeltas_l2] at h
 refine pwp_seq ?_
 refine srveM [8] 48 [(6, rf 0 0 1 x22), (8, pf v9 0), (9, I x21), (13, A a1), (14, I (a1.length : Int)), (15, I x4), (32, B (decide (x21 < 0)))] [sl 0 x22, none] ?_
 refine pc h (fun h => ?_) (fun h => ?_)
 refine pwp_skip ?_
 refine pwp_seq ?_
 refine pwp_block ?_
 refine srvM [8] 2 48 [(6, rf 0 0 1 x22), (8, pf v9 0), (9, I x21), (13, A a1), (14, I (a1.length : Int)), (15, I x4), (35, rf 0 0 1 x22), (36, .fn 114 [pf v9 0])] [sl 0 x22, none] ?_
 obtain ⟨v26, hv27, h⟩ := bindS h
 refine opsP_callV (xs := [rf 0 0 1 x22, .fn 114 [pf v9 0]]) τ 37 (ok_slices_IndexFunc_impl_Value_impl_Value_s3 (rfl) (fun _ w hw => ok_impl_afterDeltas_1 hw) hv27) (Blind.lit _) (FzTo.frz rfl) (by kernel_rfl) (ViewL.cons (View.whole (v := 0) x22 (by kernel_rfl) rfl) (ViewL.cons (View.frz rfl) (ViewL.nil _))) ?_
 refine veM [8] 1 48 [(6, rf 0 0 1 x22), (8, pf v9 0), (9, I x21), (10, I v26), (13, A a1), (14, I (a1.length : Int)), (15, I x4)] [sl 0 x22, none] ?_
 refine pwp_seq ?_
 refine srveM [8] 48 [(6, rf 0 0 1 x22), (8, pf v9 0), (9, I x21), (10, I v26), (13, A a1), (14, I (a1.length : Int)), (15, I x4), (39, B (decide (v26 < 0)))] [sl 0 x22, none] ?_
 refine pc h (fun h => ?_) (fun h => ?_)
 refine srveM [8] 48 [(4, .arr 1 0 (eL ([] : List (List T_impl_Value))) true), (5, B false)] [sl 0 x22, none] ?_
 refine ip 48 [(4, .arr 1 0 (eL ([] : List (List T_impl_Value))) true), (5, B false)] [sl 0 x22, none] ?_
 refine pwp_imp (Imp.unfS (st' := ⟨48, [(4, A ([] : List (List T_impl_Value))), (5, B false)], [sl 0 x22, none]⟩) 4 [4, 5] (by kernel_rfl)) ?_
 have h := si h
 subst h
 exact pwp_ret (rt (.tup [A ([] : List (List T_impl_Value)), B false]) (OutP.tup (OutL.cons (OutP.frz (by kernel_rfl)) (OutL.cons (OutP.frz (by kernel_rfl)) (OutL.nil _)))))
 refine pwp_skip ?_
 refine rvM [8] 4 48 [(8, pf v9 0), (9, I x21), (13, A a1), (14, I (a1.length : Int)), (15, I x4), (40, rf 0 0 1 x22), (41, I v26), (43, I (w64 (v26 + 1)))] [sl 0 x22, none] ?_
 obtain ⟨v29, hv30, h⟩ := bindS h
 refine opsP_callM (xs := [rf 0 0 1 x22, I v26, I (w64 (v26 + 1))]) (x := rf 2 0 1 v29) (bs := [⟨0, eL v29⟩]) τ 44 [0] (nx hX) (ok_delR hv30) (by kernel_rfl) (OutL.cons (OutP.list (v := 0) (by kernel_rfl)) (OutL.cons (OutP.frz rfl) (OutL.cons (OutP.frz rfl) (OutL.nil _)))) (by decide) (by kernel_rfl) ?_
 refine veM [8] 1 48 [(6, rf 2 0 1 v29), (8, pf v9 0), (9, I x21), (13, A a1), (14, I (a1.length : Int)), (15, I x4)] [none, none, sl 0 v29] ?_
 refine rveM [8] 48 [(6, rf 2 0 1 v29), (8, pf v9 0), (9, I (w64 (x21 + 1))), (13, A a1), (14, I (a1.length : Int)), (15, I x4)] [none, none, sl 0 v29] ?_
 exact ⟨(f23, (w64 (x21 + 1)), v29), h, Nat.lt_succ_self _, qt (it (st' := ⟨48, [(6, rf 2 0 1 v29), (8, pf v9 0), (9, I (w64 (x21 + 1))), (13, A a1), (14, I (a1.length : Int)), (15, I x4)], [none, none, sl 0 v29]⟩) [6, 8, 9, 13, 14, 15]) (qt (Imp.mvS (st' := ⟨48, [(6, rf 0 0 1 v29), (8, pf v9 0), (9, I (w64 (x21 + 1))), (13, A a1), (14, I (a1.length : Int)), (15, I x4)], [sl 0 v29, none, none]⟩) 2 0 [6, 8, 9, 13, 14, 15] (nx hX) (v := 0) (cs := eL v29) (by kernel_rfl) (by kernel_rfl) (by exact (And.intro (eL_frz _) trivial)) (by kernel_rfl) (by kernel_rfl)) (Imp.truncS 2 (nx hX) (by kernel_rfl) (allBelow_mem (by exact (And.intro rfl (And.intro rfl (And.intro rfl (And.intro rfl (And.intro rfl (And.intro rfl trivial)))))))) (by exact (And.intro (frz_below (eL_frz _)) trivial)) (by kernel_rfl)))⟩
 refine pwp_exit ?_
 refine rveM [8] 48 [(6, rf 0 0 1 x22), (13, A a1), (14, I (a1.length : Int)), (15, I (w64 (x4 + 1)))] [sl 0 x22, none] ?_
 exact ⟨(f6, (w64 (x4 + 1)), x22), h, Nat.lt_succ_self _, (it (st' := ⟨48, [(6, rf 0 0 1 x22), (13, A a1), (14, I (a1.length : Int)), (15, I (w64 (x4 + 1)))], [sl 0 x22, none]⟩) [6, 13, 14, 15]).trans (Imp.truncS 1 (nx hX) (by kernel_rfl) (allBelow_mem (by exact (And.intro rfl (And.intro rfl (And.intro rfl (And.intro rfl trivial)))))) (by exact (And.intro (frz_below (eL_frz _)) trivial)) (by kernel_rfl))⟩
 refine pwp_exit ?_
 refine srvM [8] 1 48 [(46, rf 0 0 1 x5)] [sl 0 x5] ?_
 refine opsP_imp (Imp.freezeB (v := 0) (cs := eL x5) (st' := ⟨48, [(46, A x5)], [none]⟩) 0 0 (nx hX) (by kernel_rfl) (eL_frz _) (wholeC (whole_is (eL_len x5).symm) wholeC0) (HpRel.key HpRel.nil) (by kernel_rfl) rfl (nx hX)) ?_
 obtain ⟨v31, hv32, h⟩ := bindS h
 refine cF 47 (ok_impl_RowsSorted hv32) ?_
 refine veM [8] 2 48 [(4, A v31), (5, B true)] [none] ?_
 have h := si h
 subst h
 exact pwp_ret (rt (.tup [A v31, B true]) (OutP.tup (OutL.cons (OutP.frz (by kernel_rfl)) (OutL.cons (OutP.frz (by kernel_rfl)) (OutL.nil _)))))
def impl_DeltaRows_j0 (a0 : List (List T_impl_Value)) (a1 : List T_impl_Delta) (x1 : Bool) : Option ((List (List T_impl_Value)) × Bool) := bif x1 then some (([] : List (List T_impl_Value)), false) else (impl_afterDeltas a0 a1).bind fun v3 => some (v3.1, v3.2)
def impl_DeltaRows (a0 : List (List T_impl_Value)) (a1 : List T_impl_Delta) : Option ((List (List T_impl_Value)) × Bool) := (impl_allOk a0).bind fun v5 => bif (!v5) then impl_DeltaRows_j0 a0 a1 true else (slices_ContainsFunc_impl_Delta_impl_Delta a1 impl_DeltaRows_1).bind fun v7 => impl_DeltaRows_j0 a0 a1 v7
theorem ok_impl_DeltaRows {a0 : List (List T_impl_Value)} {a1 : List T_impl_Delta} {y : (List (List T_impl_Value)) × Bool} (h : impl_DeltaRows a0 a1 = some y) : OK Try.prog 14 [A a0, A a1] (.tup [A y.1, B y.2]) := by
 refine ow Try.func14 fun Γ hX => ?_
 unfold impl_DeltaRows at h
 refine srve 18 [(0, A a0), (1, A a1)] [] ?_
 refine pwp_seq ?_
 refine pwp_seq ?_
 refine pwp_join (σ := Bool) (fun x1 => (⟨18, [(0, A a0), (1, A a1), (12, B x1)], []⟩ : St)) (fun x1 => impl_DeltaRows_j0 a0 a1 x1 = some y) ?_ ?_
 refine rv 1 18 [(0, A a0), (1, A a1), (6, A a0)] [] ?_
 obtain ⟨v5, hv6, h⟩ := bindS h
 refine cF 7 (ok_impl_allOk hv6) ?_
 refine v 2 18 [(0, A a0), (1, A a1), (9, B (!v5))] [] ?_
 rcases fk (!v5) with hc9 | hc9
 replace h := bT hc9 h
 rw [hc9]
 refine ve 3 18 [(0, A a0), (1, A a1), (12, B true)] [] ?_
 exact ⟨true, h, it [0, 1, 12]⟩
 replace h := bF hc9 h
 rw [hc9]
 refine v 1 18 [(0, A a0), (1, A a1), (9, B false), (10, A a1)] [] ?_
 obtain ⟨v7, hv8, h⟩ := bindS h
 refine cF 11 (ok_slices_ContainsFunc_impl_Delta_impl_Delta (rfl) (fun _ w hw => ok_impl_DeltaRows_1 hw) hv8) ?_
 refine ve 1 18 [(0, A a0), (1, A a1), (12, B v7)] [] ?_
 exact ⟨v7, h, it [0, 1, 12]⟩
 rintro x1 h
 unfold impl_DeltaRows_j0 at h
 refine pc h (fun h => ?_) (fun h => ?_)
 refine srve 18 [(4, .arr 1 0 (eL ([] : List (List T_impl_Value))) true), (5, B false)] [] ?_
 refine ip 18 [(4, .arr 1 0 (eL ([] : List (List T_impl_Value))) true), (5, B false)] [] ?_
 refine pwp_imp (Imp.unfS (st' := ⟨18, [(4, A ([] : List (List T_impl_Value))), (5, B false)], []⟩) 4 [4, 5] (by kernel_rfl)) ?_
 have h := si h
 subst h
 exact pwp_ret (rt (.tup [A ([] : List (List T_impl_Value)), B false]) (OutP.tup (OutL.cons (OutP.frz (by kernel_rfl)) (OutL.cons (OutP.frz (by kernel_rfl)) (OutL.nil _)))))
 refine pwp_skip ?_
 refine srv 2 18 [(13, A a0), (14, A a1)] [] ?_
 obtain ⟨v3, hv4, h⟩ := bindS h
 refine opsP_callF τ 15 (ok_impl_afterDeltas hv4) (FzTo.tup (FzToL.cons (FzTo.frz rfl) (FzToL.cons (FzTo.frz rfl) FzToL.nil))) rfl (by kernel_rfl) ?_
 refine ve 4 18 [(4, A v3.1), (5, B v3.2)] [] ?_
 have h := si h
 subst h
 exact pwp_ret (rt (.tup [A v3.1, B v3.2]) (OutP.tup (OutL.cons (OutP.frz (by kernel_rfl)) (OutL.cons (OutP.frz (by kernel_rfl)) (OutL.nil _)))))
def spec_DeltaOf_R_l1 (a1 : List (List T_impl_Value)) : Nat → Int → (List T_impl_Delta) → Option (List T_impl_Delta)
 | 0, _, _ => none
 | f19 + 1, x17, x18 => bif (decide (x17 < (a1.length : Int))) then (getI a1 x17).bind fun v22 => (spec_RowOk v22).bind fun v24 => bif (!v24) then some ([] : List T_impl_Delta) else (getI a1 x17).bind fun v27 => (app x18 ([(T_impl_Delta.mk v27 1)] : List T_impl_Delta)).bind fun v29 => (spec_DeltaOf_R_l1 a1 f19) (w64 (x17 + 1)) v29 else (spec_l11Sum x18).bind fun v31 => some v31
def spec_DeltaOf_R_l0 (a0 : List (List T_impl_Value)) (a1 : List (List T_impl_Value)) : Nat → Int → (List T_impl_Delta) → Option (List T_impl_Delta)
 | 0, _, _ => none
 | f4 + 1, x2, x3 => bif (decide (x2 < (a0.length : Int))) then (getI a0 x2).bind fun v7 => (spec_RowOk v7).bind fun v9 => bif (!v9) then some ([] : List T_impl_Delta) else (getI a0 x2).bind fun v12 => (app x3 ([(T_impl_Delta.mk v12 (-1))] : List T_impl_Delta)).bind fun v14 => (spec_DeltaOf_R_l0 a0 a1 f4) (w64 (x2 + 1)) v14 else spec_DeltaOf_R_l1 a1 FUEL 0 x3
def spec_DeltaOf_R (a0 : List (List T_impl_Value)) (a1 : List (List T_impl_Value)) : Option (List T_impl_Delta) := spec_DeltaOf_R_l0 a0 a1 FUEL 0 ([] : List T_impl_Delta)
theorem ok_spec_DeltaOf_R {a0 : List (List T_impl_Value)} {a1 : List (List T_impl_Value)} {y : List T_impl_Delta} (h : spec_DeltaOf_R a0 a1 = some y) : OK Try.prog 12 [A a0, A a1] (O y) := by
 refine ow Try.func12 fun Γ hX => ?_
 unfold spec_DeltaOf_R at h
 refine srve 53 [(0, A a0), (1, A a1)] [] ?_
 refine srve 53 [(0, A a0), (1, A a1), (5, .arr 2 0 (eL ([] : List T_impl_Delta)) true)] [] ?_
 refine pwp_seq ?_
 refine srve 53 [(0, A a0), (1, A a1), (5, .arr 2 0 (eL ([] : List T_impl_Delta)) true), (6, I 0)] [] ?_
 refine pwp_block ?_
 refine pwp_loop (ι := Nat × Int × (List T_impl_Delta)) (fun (f4, x2, x3) => (⟨53, [(0, A a0), (1, A a1), (5, rf 0 0 2 x3), (6, I x2)], [sl 0 x3]⟩ : St)) (fun (f4, x2, x3) => spec_DeltaOf_R_l0 a0 a1 f4 x2 x3 = some y) Prod.fst (FUEL, 0, ([] : List T_impl_Delta)) h (Imp.thawS 5 [0, 1, 5, 6] (by kernel_rfl)) ?_
 rintro ⟨f4, x2, x3⟩ h
 dsimp only at h ⊢
 rcases f4 with _ | f4
 cases h
 rw [spec_DeltaOf_R_l0] at h
 refine pwp_seq ?_
 refine srve 53 [(0, A a0), (1, A a1), (5, rf 0 0 2 x3), (6, I x2), (12, B (decide (x2 < (a0.length : Int))))] [sl 0 x3] ?_
 refine pc h (fun h => ?_) (fun h => ?_)
 refine pwp_skip ?_
 refine pwp_seq ?_
 refine pwp_block ?_
 refine pwp_seq ?_
 refine srv 2 53 [(0, A a0), (1, A a1), (5, rf 0 0 2 x3), (6, I x2), (15, A a0), (16, I x2)] [sl 0 x3] ?_
 obtain ⟨v7, hv8, h⟩ := bindS h
 refine opsP_idx τ_ok 17 hv8 (by kernel_rfl) ?_
 refine v 1 53 [(0, A a0), (1, A a1), (5, rf 0 0 2 x3), (6, I x2), (18, A v7)] [sl 0 x3] ?_
 obtain ⟨v9, hv10, h⟩ := bindS h
 refine cF 19 (ok_spec_RowOk hv10) ?_
 refine ve 1 53 [(0, A a0), (1, A a1), (5, rf 0 0 2 x3), (6, I x2), (20, B (!v9))] [sl 0 x3] ?_
 refine pc h (fun h => ?_) (fun h => ?_)
 refine srve 53 [(4, .arr 2 0 (eL ([] : List T_impl_Delta)) true)] [sl 0 x3] ?_
 refine ip 53 [(4, .arr 2 0 (eL ([] : List T_impl_Delta)) true)] [sl 0 x3] ?_
 refine pwp_imp (Imp.thawS (st' := ⟨53, [(4, .ref 1 0 0 2 ([] : List T_impl_Delta).length false)], [sl 0 x3, some ⟨0, eL ([] : List T_impl_Delta)⟩]⟩) 4 [4] (by kernel_rfl)) ?_
 have h := si h
 subst h
 exact pwp_ret (rt (.ref 1 0 0 2 ([] : List T_impl_Delta).length false) (OutP.list (v := 0) (by kernel_rfl)))
 refine pwp_skip ?_
 refine rv 3 53 [(0, A a0), (1, A a1), (6, I x2), (22, rf 0 0 2 x3), (23, A a0), (24, I x2)] [sl 0 x3] ?_
 obtain ⟨v12, hv13, h⟩ := bindS h
 refine opsP_idx τ_ok 25 hv13 (by kernel_rfl) ?_
 refine v 3 53 [(0, A a0), (1, A a1), (6, I x2), (22, rf 0 0 2 x3), (28, .arr 2 ([(T_impl_Delta.mk v12 (-1))] : List T_impl_Delta).length (eL ([(T_impl_Delta.mk v12 (-1))] : List T_impl_Delta)) true)] [sl 0 x3] ?_
 obtain ⟨v14, hv15, h⟩ := bindS h
 refine opsP_app τ_ok 29 0 0 (nx hX) hv15 (by kernel_rfl) ?_
 refine ve 1 53 [(0, A a0), (1, A a1), (5, rf 0 1 2 v14), (6, I x2)] [sl 1 v14] ?_
 refine rve 53 [(0, A a0), (1, A a1), (5, rf 0 1 2 v14), (6, I (w64 (x2 + 1)))] [sl 1 v14] ?_
 exact ⟨(f4, (w64 (x2 + 1)), v14), h, Nat.lt_succ_self _, (it (st' := ⟨53, [(0, A a0), (1, A a1), (5, rf 0 1 2 v14), (6, I (w64 (x2 + 1)))], [sl 1 v14]⟩) [0, 1, 5, 6]).trans (Imp.reverS 0 1 (eL v14) [0, 1, 5, 6] (by kernel_rfl) (by exact (And.intro (eL_frz _) trivial)) (by kernel_rfl))⟩
 refine pwp_exit ?_
 refine pwp_seq ?_
 refine srve 53 [(1, A a1), (5, rf 0 0 2 x3), (7, I 0)] [sl 0 x3] ?_
 refine pwp_block ?_
 refine pwp_loop (ι := Nat × Int × (List T_impl_Delta)) (fun (f19, x17, x18) => (⟨53, [(1, A a1), (5, rf 0 0 2 x18), (7, I x17)], [sl 0 x18]⟩ : St)) (fun (f19, x17, x18) => spec_DeltaOf_R_l1 a1 f19 x17 x18 = some y) Prod.fst (FUEL, 0, x3) h (it [1, 5, 7]) ?_
 rintro ⟨f19, x17, x18⟩ h
 dsimp only at h ⊢
 rcases f19 with _ | f19
 cases h
 rw [spec_DeltaOf_R_l1] at h
 refine pwp_seq ?_
 refine srve 53 [(1, A a1), (5, rf 0 0 2 x18), (7, I x17), (33, B (decide (x17 < (a1.length : Int))))] [sl 0 x18] ?_
 refine pc h (fun h => ?_) (fun h => ?_)
 refine pwp_skip ?_
 refine pwp_seq ?_
 refine pwp_block ?_
 refine pwp_seq ?_
 refine srv 2 53 [(1, A a1), (5, rf 0 0 2 x18), (7, I x17), (36, A a1), (37, I x17)] [sl 0 x18] ?_
 obtain ⟨v22, hv23, h⟩ := bindS h
 refine opsP_idx τ_ok 38 hv23 (by kernel_rfl) ?_
 refine v 1 53 [(1, A a1), (5, rf 0 0 2 x18), (7, I x17), (39, A v22)] [sl 0 x18] ?_
 obtain ⟨v24, hv25, h⟩ := bindS h
 refine cF 40 (ok_spec_RowOk hv25) ?_
 refine ve 1 53 [(1, A a1), (5, rf 0 0 2 x18), (7, I x17), (41, B (!v24))] [sl 0 x18] ?_
 refine pc h (fun h => ?_) (fun h => ?_)
 refine srve 53 [(4, .arr 2 0 (eL ([] : List T_impl_Delta)) true)] [sl 0 x18] ?_
 refine ip 53 [(4, .arr 2 0 (eL ([] : List T_impl_Delta)) true)] [sl 0 x18] ?_
 refine pwp_imp (Imp.thawS (st' := ⟨53, [(4, .ref 1 0 0 2 ([] : List T_impl_Delta).length false)], [sl 0 x18, some ⟨0, eL ([] : List T_impl_Delta)⟩]⟩) 4 [4] (by kernel_rfl)) ?_
 have h := si h
 subst h
 exact pwp_ret (rt (.ref 1 0 0 2 ([] : List T_impl_Delta).length false) (OutP.list (v := 0) (by kernel_rfl)))
 refine pwp_skip ?_
 refine rv 3 53 [(1, A a1), (7, I x17), (43, rf 0 0 2 x18), (44, A a1), (45, I x17)] [sl 0 x18] ?_
 obtain ⟨v27, hv28, h⟩ := bindS h
 refine opsP_idx τ_ok 46 hv28 (by kernel_rfl) ?_
 refine v 3 53 [(1, A a1), (7, I x17), (43, rf 0 0 2 x18), (49, .arr 2 ([(T_impl_Delta.mk v27 1)] : List T_impl_Delta).length (eL ([(T_impl_Delta.mk v27 1)] : List T_impl_Delta)) true)] [sl 0 x18] ?_
 obtain ⟨v29, hv30, h⟩ := bindS h
 refine opsP_app τ_ok 50 0 0 (nx hX) hv30 (by kernel_rfl) ?_
 refine ve 1 53 [(1, A a1), (5, rf 0 1 2 v29), (7, I x17)] [sl 1 v29] ?_
 refine rve 53 [(1, A a1), (5, rf 0 1 2 v29), (7, I (w64 (x17 + 1)))] [sl 1 v29] ?_
 exact ⟨(f19, (w64 (x17 + 1)), v29), h, Nat.lt_succ_self _, (it (st' := ⟨53, [(1, A a1), (5, rf 0 1 2 v29), (7, I (w64 (x17 + 1)))], [sl 1 v29]⟩) [1, 5, 7]).trans (Imp.reverS 0 1 (eL v29) [1, 5, 7] (by kernel_rfl) (by exact (And.intro (eL_frz _) trivial)) (by kernel_rfl))⟩
 refine pwp_exit ?_
 refine srv 1 53 [(51, rf 0 0 2 x18)] [sl 0 x18] ?_
 refine opsP_imp (Imp.freezeB (v := 0) (cs := eL x18) (st' := ⟨53, [(51, A x18)], [none]⟩) 0 0 (nx hX) (by kernel_rfl) (eL_frz _) (wholeC (whole_is (eL_len x18).symm) wholeC0) (HpRel.key HpRel.nil) (by kernel_rfl) rfl (nx hX)) ?_
 obtain ⟨v31, hv32, h⟩ := bindS h
 refine opsP_callO τ 52 (ok_spec_l11Sum hv32) rfl (by kernel_rfl) ?_
 refine ve 1 53 [(4, rf 1 0 2 v31)] [none, sl 0 v31] ?_
 have h := si h
 subst h
 exact pwp_ret (rt (rf 1 0 2 v31) (OutP.list (v := 0) (by kernel_rfl)))
def slices_Clip_impl_Value_impl_Value_s3_R (a0 : List (List T_impl_Value)) : Option (List (List T_impl_Value)) := (slI a0 none (some (a0.length : Int)) (some (a0.length : Int))).bind fun v1 => some v1
theorem ok_slices_Clip_impl_Value_impl_Value_s3_R {a0 : List (List T_impl_Value)} {y : List (List T_impl_Value)} (h : slices_Clip_impl_Value_impl_Value_s3_R a0 = some y) : OKm Try.prog 120 [O a0] (O y) := by
 refine OKm_of_pwp (sl := [rf 0 0 1 a0]) (bs := [⟨0, eL a0⟩]) τ_ok Try.func120 rfl (by kernel_rfl) rfl (by kernel_rfl) fun Γ hX => ?_
 refine pwp_imp (Imp.to (st' := ⟨9, [(0, rf 0 0 1 a0)], [sl 0 a0]⟩) [0] (by kernel_rfl)) ?_
 unfold slices_Clip_impl_Value_impl_Value_s3_R at h
 refine srve 9 [(0, rf 0 0 1 a0)] [sl 0 a0] ?_
 refine srv 5 9 [(3, rf 0 0 1 a0), (5, I (a0.length : Int)), (7, I (a0.length : Int))] [sl 0 a0] ?_
 obtain ⟨v1, hv2, h⟩ := bindS h
 refine opsP_slr τ_ok 8 0 0 a0.length hv2 rfl (by kernel_rfl) ?_
 refine ve 1 9 [(2, rf 0 0 1 v1)] [sl 0 a0] ?_
 refine ip 9 [(2, rf 0 0 1 v1)] [sl 0 a0] ?_
 refine pwp_imp (Imp.cut (st' := ⟨9, [(2, rf 0 0 1 v1)], [sl 0 v1]⟩) 0 0 a0 v1 (by kernel_rfl) (slI_view hv2) (by kernel_rfl)) ?_
 have h := si h
 subst h
 exact pwp_ret (rt (rf 0 0 1 v1) (OutP.list (v := 0) (by kernel_rfl)))
def impl_rowsCopy_R_l0 (a0 : List (List T_impl_Value)) : Nat → Int → (List (List T_impl_Value)) → Option (List (List T_impl_Value))
 | 0, _, _ => none
 | f4 + 1, x2, x3 => bif (decide (x2 < (a0.length : Int))) then (getI a0 x2).bind fun v7 => (impl_clone_impl_Value v7).bind fun v9 => (app x3 ([v9] : List (List T_impl_Value))).bind fun v11 => (impl_rowsCopy_R_l0 a0 f4) (w64 (x2 + 1)) v11 else (slices_Clip_impl_Value_impl_Value_s3_R x3).bind fun v13 => some v13
def impl_rowsCopy_R (a0 : List (List T_impl_Value)) : Option (List (List T_impl_Value)) := impl_rowsCopy_R_l0 a0 FUEL 0 ([] : List (List T_impl_Value))
theorem ok_impl_rowsCopy_R {a0 : List (List T_impl_Value)} {y : List (List T_impl_Value)} (h : impl_rowsCopy_R a0 = some y) : OK Try.prog 58 [A a0] (O y) := by
 refine ow Try.func58 fun Γ hX => ?_
 unfold impl_rowsCopy_R at h
 refine srve 20 [(0, A a0)] [] ?_
 refine srve 20 [(0, A a0), (3, .arr 1 0 (eL ([] : List (List T_impl_Value))) true)] [] ?_
 refine pwp_seq ?_
 refine srve 20 [(3, .arr 1 0 (eL ([] : List (List T_impl_Value))) true), (6, A a0), (7, I (a0.length : Int)), (8, I 0)] [] ?_
 refine pwp_block ?_
 refine pwp_loop (ι := Nat × Int × (List (List T_impl_Value))) (fun (f4, x2, x3) => (⟨20, [(3, rf 0 0 1 x3), (6, A a0), (7, I (a0.length : Int)), (8, I x2)], [sl 0 x3]⟩ : St)) (fun (f4, x2, x3) => impl_rowsCopy_R_l0 a0 f4 x2 x3 = some y) Prod.fst (FUEL, 0, ([] : List (List T_impl_Value))) h (Imp.thawS 3 [3, 6, 7, 8] (by kernel_rfl)) ?_
 rintro ⟨f4, x2, x3⟩ h
 dsimp only at h ⊢
 rcases f4 with _ | f4
 cases h
 rw [impl_rowsCopy_R_l0] at h
 refine srve 20 [(3, rf 0 0 1 x3), (6, A a0), (7, I (a0.length : Int)), (8, I x2), (9, B (decide (x2 < (a0.length : Int))))] [sl 0 x3] ?_
 refine pwp_seq ?_
 refine pc h (fun h => ?_) (fun h => ?_)
 refine pwp_skip ?_
 refine pwp_seq ?_
 refine pwp_block ?_
 refine pwp_seq ?_
 refine pwp_region ?_
 obtain ⟨v7, hv8, h⟩ := bindS h
 refine opsP_idx τ_ok 10 hv8 (by kernel_rfl) ?_
 refine ve 2 20 [(3, rf 0 0 1 x3), (5, A v7), (6, A a0), (7, I (a0.length : Int)), (8, I x2)] [sl 0 x3] ?_
 refine rv 2 20 [(6, A a0), (7, I (a0.length : Int)), (8, I x2), (12, rf 0 0 1 x3), (13, A v7)] [sl 0 x3] ?_
 obtain ⟨v9, hv10, h⟩ := bindS h
 refine cF 14 (ok_impl_clone_impl_Value hv10) ?_
 refine v 1 20 [(6, A a0), (7, I (a0.length : Int)), (8, I x2), (12, rf 0 0 1 x3), (15, .arr 1 ([v9] : List (List T_impl_Value)).length (eL ([v9] : List (List T_impl_Value))) true)] [sl 0 x3] ?_
 obtain ⟨v11, hv12, h⟩ := bindS h
 refine opsP_app τ_ok 16 0 0 (nx hX) hv12 (by kernel_rfl) ?_
 refine ve 1 20 [(3, rf 0 1 1 v11), (6, A a0), (7, I (a0.length : Int)), (8, I x2)] [sl 1 v11] ?_
 refine rve 20 [(3, rf 0 1 1 v11), (6, A a0), (7, I (a0.length : Int)), (8, I (w64 (x2 + 1)))] [sl 1 v11] ?_
 exact ⟨(f4, (w64 (x2 + 1)), v11), h, Nat.lt_succ_self _, (it (st' := ⟨20, [(3, rf 0 1 1 v11), (6, A a0), (7, I (a0.length : Int)), (8, I (w64 (x2 + 1)))], [sl 1 v11]⟩) [3, 6, 7, 8]).trans (Imp.reverS 0 1 (eL v11) [3, 6, 7, 8] (by kernel_rfl) (by exact (And.intro (eL_frz _) trivial)) (by kernel_rfl))⟩
 refine pwp_exit ?_
 refine srv 1 20 [(18, rf 0 0 1 x3)] [sl 0 x3] ?_
 obtain ⟨v13, hv14, h⟩ := bindS h
 refine opsP_callM (xs := [rf 0 0 1 x3]) (x := rf 1 0 1 v13) (bs := [⟨0, eL v13⟩]) τ 19 [0] (nx hX) (ok_slices_Clip_impl_Value_impl_Value_s3_R hv14) (by kernel_rfl) (OutL.cons (OutP.list (v := 0) (by kernel_rfl)) (OutL.nil _)) (by decide) (by kernel_rfl) ?_
 refine ve 1 20 [(2, rf 1 0 1 v13)] [none, sl 0 v13] ?_
 have h := si h
 subst h
 exact pwp_ret (rt (rf 1 0 1 v13) (OutP.list (v := 0) (by kernel_rfl)))
def impl_RowsOnce_R_l0 (a0 : List (List T_impl_Value)) : Nat → Int → (List (List T_impl_Value)) → Option (List (List T_impl_Value))
 | 0, _, _ => none
 | f4 + 1, x2, x3 => bif (decide (x2 < (a0.length : Int))) then (getI a0 x2).bind fun v7 => (impl_rowsHas x3 v7).bind fun v9 => bif (!v9) then (app x3 ([v7] : List (List T_impl_Value))).bind fun v12 => (impl_RowsOnce_R_l0 a0 f4) (w64 (x2 + 1)) v12 else (impl_RowsOnce_R_l0 a0 f4) (w64 (x2 + 1)) x3 else (impl_rowsCopy_R x3).bind fun v14 => some v14
def impl_RowsOnce_R (a0 : List (List T_impl_Value)) : Option (List (List T_impl_Value)) := impl_RowsOnce_R_l0 a0 FUEL 0 ([] : List (List T_impl_Value))
theorem ok_impl_RowsOnce_R {a0 : List (List T_impl_Value)} {y : List (List T_impl_Value)} (h : impl_RowsOnce_R a0 = some y) : OK Try.prog 100 [A a0] (O y) := by
 refine ow Try.func100 fun Γ hX => ?_
 unfold impl_RowsOnce_R at h
 refine srve 23 [(0, A a0)] [] ?_
 refine srve 23 [(0, A a0), (3, .arr 1 0 (eL ([] : List (List T_impl_Value))) true)] [] ?_
 refine pwp_seq ?_
 refine srve 23 [(3, .arr 1 0 (eL ([] : List (List T_impl_Value))) true), (6, A a0), (7, I (a0.length : Int)), (8, I 0)] [] ?_
 refine pwp_block ?_
 refine pwp_loop (ι := Nat × Int × (List (List T_impl_Value))) (fun (f4, x2, x3) => (⟨23, [(3, rf 0 0 1 x3), (6, A a0), (7, I (a0.length : Int)), (8, I x2)], [sl 0 x3]⟩ : St)) (fun (f4, x2, x3) => impl_RowsOnce_R_l0 a0 f4 x2 x3 = some y) Prod.fst (FUEL, 0, ([] : List (List T_impl_Value))) h (Imp.thawS 3 [3, 6, 7, 8] (by kernel_rfl)) ?_
 rintro ⟨f4, x2, x3⟩ h
 dsimp only at h ⊢
 rcases f4 with _ | f4
 cases h
 rw [impl_RowsOnce_R_l0] at h
 refine srve 23 [(3, rf 0 0 1 x3), (6, A a0), (7, I (a0.length : Int)), (8, I x2), (9, B (decide (x2 < (a0.length : Int))))] [sl 0 x3] ?_
 refine pwp_seq ?_
 refine pc h (fun h => ?_) (fun h => ?_)
 refine pwp_skip ?_
 refine pwp_seq ?_
 refine pwp_block ?_
 refine pwp_seq ?_
 refine pwp_region ?_
 obtain ⟨v7, hv8, h⟩ := bindS h
 refine opsP_idx τ_ok 10 hv8 (by kernel_rfl) ?_
 refine ve 2 23 [(3, rf 0 0 1 x3), (5, A v7), (6, A a0), (7, I (a0.length : Int)), (8, I x2)] [sl 0 x3] ?_
 refine srv 2 23 [(3, rf 0 0 1 x3), (5, A v7), (6, A a0), (7, I (a0.length : Int)), (8, I x2), (12, rf 0 0 1 x3), (13, A v7)] [sl 0 x3] ?_
 obtain ⟨v9, hv10, h⟩ := bindS h
 refine opsP_callV (xs := [rf 0 0 1 x3, A v7]) τ 14 (ok_impl_rowsHas hv10) (Blind.lit _) (FzTo.frz rfl) (by kernel_rfl) (ViewL.cons (View.whole (v := 0) x3 (by kernel_rfl) rfl) (ViewL.cons (View.frz rfl) (ViewL.nil _))) ?_
 refine ve 1 23 [(3, rf 0 0 1 x3), (5, A v7), (6, A a0), (7, I (a0.length : Int)), (8, I x2), (15, B (!v9))] [sl 0 x3] ?_
 refine pc h (fun h => ?_) (fun h => ?_)
 refine rv 3 23 [(6, A a0), (7, I (a0.length : Int)), (8, I x2), (16, rf 0 0 1 x3), (18, .arr 1 ([v7] : List (List T_impl_Value)).length (eL ([v7] : List (List T_impl_Value))) true)] [sl 0 x3] ?_
 obtain ⟨v12, hv13, h⟩ := bindS h
 refine opsP_app τ_ok 19 0 0 (nx hX) hv13 (by kernel_rfl) ?_
 refine ve 1 23 [(3, rf 0 1 1 v12), (6, A a0), (7, I (a0.length : Int)), (8, I x2)] [sl 1 v12] ?_
 refine rve 23 [(3, rf 0 1 1 v12), (6, A a0), (7, I (a0.length : Int)), (8, I (w64 (x2 + 1)))] [sl 1 v12] ?_
 exact ⟨(f4, (w64 (x2 + 1)), v12), h, Nat.lt_succ_self _, (it (st' := ⟨23, [(3, rf 0 1 1 v12), (6, A a0), (7, I (a0.length : Int)), (8, I (w64 (x2 + 1)))], [sl 1 v12]⟩) [3, 6, 7, 8]).trans (Imp.reverS 0 1 (eL v12) [3, 6, 7, 8] (by kernel_rfl) (by exact (And.intro (eL_frz _) trivial)) (by kernel_rfl))⟩
 refine pwp_skip ?_
 refine rve 23 [(3, rf 0 0 1 x3), (6, A a0), (7, I (a0.length : Int)), (8, I (w64 (x2 + 1)))] [sl 0 x3] ?_
 exact ⟨(f4, (w64 (x2 + 1)), x3), h, Nat.lt_succ_self _, it [3, 6, 7, 8]⟩
 refine pwp_exit ?_
 refine srv 1 23 [(21, rf 0 0 1 x3)] [sl 0 x3] ?_
 refine opsP_imp (Imp.freezeB (v := 0) (cs := eL x3) (st' := ⟨23, [(21, A x3)], [none]⟩) 0 0 (nx hX) (by kernel_rfl) (eL_frz _) (wholeC (whole_is (eL_len x3).symm) wholeC0) (HpRel.key HpRel.nil) (by kernel_rfl) rfl (nx hX)) ?_
 obtain ⟨v14, hv15, h⟩ := bindS h
 refine opsP_callO τ 22 (ok_impl_rowsCopy_R hv15) rfl (by kernel_rfl) ?_
 refine ve 1 23 [(2, rf 1 0 1 v14)] [none, sl 0 v14] ?_
 have h := si h
 subst h
 exact pwp_ret (rt (rf 1 0 1 v14) (OutP.list (v := 0) (by kernel_rfl)))
def impl_deltaOf_l0 (a0 : List (List T_impl_Value)) (a1 : List (List T_impl_Value)) (v5 : List (List T_impl_Value)) : Nat → Int → (List T_impl_Delta) → Option (List T_impl_Delta)
 | 0, _, _ => none
 | f11 + 1, x9, x10 => bif (decide (x9 < (v5.length : Int))) then (getI v5 x9).bind fun v14 => (impl_RowMany a1 v14).bind fun v16 => (impl_RowMany a0 v14).bind fun v18 => bif (!((w64 (v16 - v18)) == 0)) then (app x10 ([(T_impl_Delta.mk v14 (w64 (v16 - v18)))] : List T_impl_Delta)).bind fun v21 => (impl_deltaOf_l0 a0 a1 v5 f11) (w64 (x9 + 1)) v21 else (impl_deltaOf_l0 a0 a1 v5 f11) (w64 (x9 + 1)) x10 else (slices_Clip_impl_Delta_impl_Delta x10).bind fun v23 => some v23
def impl_deltaOf (a0 : List (List T_impl_Value)) (a1 : List (List T_impl_Value)) : Option (List T_impl_Delta) := (slices_Concat_impl_Value_impl_Value_s3 ([a0, a1])).bind fun v1 => (impl_RowsOnce_R v1).bind fun v3 => (slices_SortStableFunc_impl_Value_impl_Value_s3 v3 impl_rowOrder).bind fun v5 => impl_deltaOf_l0 a0 a1 v5 FUEL 0 ([] : List T_impl_Delta)
theorem ok_impl_deltaOf {a0 : List (List T_impl_Value)} {a1 : List (List T_impl_Value)} {y : List T_impl_Delta} (h : impl_deltaOf a0 a1 = some y) : OK Try.prog 48 [A a0, A a1] (A y) := by
 refine ow Try.func48 fun Γ hX => ?_
 unfold impl_deltaOf at h
 refine srve 41 [(0, A a0), (1, A a1)] [] ?_
 refine srve 41 [(0, A a0), (1, A a1), (5, .arr 2 0 (eL ([] : List T_impl_Delta)) true)] [] ?_
 refine srv 3 41 [(0, A a0), (1, A a1), (5, .arr 2 0 (eL ([] : List T_impl_Delta)) true), (12, .arr 1 ([a0, a1] : List (List (List T_impl_Value))).length (eL ([a0, a1] : List (List (List T_impl_Value)))) true)] [] ?_
 obtain ⟨v1, hv2, h⟩ := bindS h
 refine cFo 13 (ok_slices_Concat_impl_Value_impl_Value_s3 hv2) ?_
 obtain ⟨v3, hv4, h⟩ := bindS h
 refine opsP_callO τ 14 (ok_impl_RowsOnce_R hv4) rfl (by kernel_rfl) ?_
 refine ve 1 41 [(0, A a0), (1, A a1), (5, .arr 2 0 (eL ([] : List T_impl_Delta)) true), (6, rf 0 0 1 v3)] [sl 0 v3] ?_
 refine srv 1 41 [(0, A a0), (1, A a1), (5, .arr 2 0 (eL ([] : List T_impl_Delta)) true), (6, rf 0 0 1 v3), (15, rf 0 0 1 v3)] [sl 0 v3] ?_
 obtain ⟨v5, hv6, h⟩ := bindS h
 refine opsP_E (dd := some 16) (x := .tup []) (callS_E τ 16 0 0 (ok_slices_SortStableFunc_impl_Value_impl_Value_s3 (rfl) (fun _ _ w hw => ok_impl_rowOrder hw) hv6) (FzTo.tup FzToL.nil) rfl rfl (by kernel_rfl)) ?_
 refine io 41 [(0, A a0), (1, A a1), (5, .arr 2 0 (eL ([] : List T_impl_Delta)) true), (6, rf 0 0 1 v3), (15, rf 0 0 1 v3), (16, .tup [])] [sl 0 v5] ?_
 refine opsP_ren (st' := ⟨41, [(0, A a0), (1, A a1), (5, .arr 2 0 (eL ([] : List T_impl_Delta)) true), (6, rf 0 0 1 v5), (15, rf 0 0 1 v5), (16, .tup [])], [sl 0 v5]⟩) 0 v5.length (renC trivial (renC trivial (renC trivial (renC (ren_ref (len_slices_SortStableFunc_impl_Value_impl_Value_s3 hv6).symm) (renC (ren_ref (len_slices_SortStableFunc_impl_Value_impl_Value_s3 hv6).symm) (renC trivial renC0)))))) (by kernel_rfl) ?_
 refine ve 0 41 [(0, A a0), (1, A a1), (5, .arr 2 0 (eL ([] : List T_impl_Delta)) true), (6, rf 0 0 1 v5)] [sl 0 v5] ?_
 refine pwp_seq ?_
 refine srve 41 [(0, A a0), (1, A a1), (5, .arr 2 0 (eL ([] : List T_impl_Delta)) true), (17, rf 0 0 1 v5), (18, I (v5.length : Int)), (19, I 0)] [sl 0 v5] ?_
 refine pwp_block ?_
 refine pwp_loop (ι := Nat × Int × (List T_impl_Delta)) (fun (f11, x9, x10) => (⟨41, [(0, A a0), (1, A a1), (5, rf 1 0 2 x10), (17, rf 0 0 1 v5), (18, I (v5.length : Int)), (19, I x9)], [sl 0 v5, sl 0 x10]⟩ : St)) (fun (f11, x9, x10) => impl_deltaOf_l0 a0 a1 v5 f11 x9 x10 = some y) Prod.fst (FUEL, 0, ([] : List T_impl_Delta)) h (Imp.thawS 5 [0, 1, 5, 17, 18, 19] (by kernel_rfl)) ?_
 rintro ⟨f11, x9, x10⟩ h
 dsimp only at h ⊢
 rcases f11 with _ | f11
 cases h
 rw [impl_deltaOf_l0] at h
 refine srve 41 [(0, A a0), (1, A a1), (5, rf 1 0 2 x10), (17, rf 0 0 1 v5), (18, I (v5.length : Int)), (19, I x9), (20, B (decide (x9 < (v5.length : Int))))] [sl 0 v5, sl 0 x10] ?_
 refine pwp_seq ?_
 refine pc h (fun h => ?_) (fun h => ?_)
 refine pwp_skip ?_
 refine pwp_seq ?_
 refine pwp_block ?_
 refine pwp_seq ?_
 refine pwp_region ?_
 obtain ⟨v14, hv15, h⟩ := bindS h
 refine opsP_idr τ_ok 21 0 0 v5.length hv15 rfl (by kernel_rfl) ?_
 refine opsP_lde (r := A v14) τ_ok 22 29 0 hv15 (by kernel_rfl) (by kernel_rfl) ?_
 refine ve 1 41 [(0, A a0), (1, A a1), (5, rf 1 0 2 x10), (8, A v14), (17, rf 0 0 1 v5), (18, I (v5.length : Int)), (19, I x9)] [sl 0 v5, sl 0 x10] ?_
 refine srv 2 41 [(0, A a0), (1, A a1), (5, rf 1 0 2 x10), (8, A v14), (17, rf 0 0 1 v5), (18, I (v5.length : Int)), (19, I x9), (23, A a1), (24, A v14)] [sl 0 v5, sl 0 x10] ?_
 obtain ⟨v16, hv17, h⟩ := bindS h
 refine cF 25 (ok_impl_RowMany hv17) ?_
 refine v 2 41 [(0, A a0), (1, A a1), (5, rf 1 0 2 x10), (8, A v14), (17, rf 0 0 1 v5), (18, I (v5.length : Int)), (19, I x9), (25, I v16), (26, A a0), (27, A v14)] [sl 0 v5, sl 0 x10] ?_
 obtain ⟨v18, hv19, h⟩ := bindS h
 refine cF 28 (ok_impl_RowMany hv19) ?_
 refine ve 2 41 [(0, A a0), (1, A a1), (5, rf 1 0 2 x10), (8, A v14), (9, I (w64 (v16 - v18))), (17, rf 0 0 1 v5), (18, I (v5.length : Int)), (19, I x9)] [sl 0 v5, sl 0 x10] ?_
 refine srve 41 [(0, A a0), (1, A a1), (5, rf 1 0 2 x10), (8, A v14), (9, I (w64 (v16 - v18))), (17, rf 0 0 1 v5), (18, I (v5.length : Int)), (19, I x9), (31, B (!((w64 (v16 - v18)) == 0)))] [sl 0 v5, sl 0 x10] ?_
 refine pc h (fun h => ?_) (fun h => ?_)
 refine rv 5 41 [(0, A a0), (1, A a1), (17, rf 0 0 1 v5), (18, I (v5.length : Int)), (19, I x9), (32, rf 1 0 2 x10), (36, .arr 2 ([(T_impl_Delta.mk v14 (w64 (v16 - v18)))] : List T_impl_Delta).length (eL ([(T_impl_Delta.mk v14 (w64 (v16 - v18)))] : List T_impl_Delta)) true)] [sl 0 v5, sl 0 x10] ?_
 obtain ⟨v21, hv22, h⟩ := bindS h
 refine opsP_app τ_ok 37 1 0 (nx hX) hv22 (by kernel_rfl) ?_
 refine ve 1 41 [(0, A a0), (1, A a1), (5, rf 1 1 2 v21), (17, rf 0 0 1 v5), (18, I (v5.length : Int)), (19, I x9)] [sl 0 v5, sl 1 v21] ?_
 refine rve 41 [(0, A a0), (1, A a1), (5, rf 1 1 2 v21), (17, rf 0 0 1 v5), (18, I (v5.length : Int)), (19, I (w64 (x9 + 1)))] [sl 0 v5, sl 1 v21] ?_
 exact ⟨(f11, (w64 (x9 + 1)), v21), h, Nat.lt_succ_self _, (it (st' := ⟨41, [(0, A a0), (1, A a1), (5, rf 1 1 2 v21), (17, rf 0 0 1 v5), (18, I (v5.length : Int)), (19, I (w64 (x9 + 1)))], [sl 0 v5, sl 1 v21]⟩) [0, 1, 5, 17, 18, 19]).trans (Imp.reverS 1 1 (eL v21) [0, 1, 5, 17, 18, 19] (by kernel_rfl) (by exact (And.intro (eL_frz _) (And.intro (eL_frz _) trivial))) (by kernel_rfl))⟩
 refine pwp_skip ?_
 refine rve 41 [(0, A a0), (1, A a1), (5, rf 1 0 2 x10), (17, rf 0 0 1 v5), (18, I (v5.length : Int)), (19, I (w64 (x9 + 1)))] [sl 0 v5, sl 0 x10] ?_
 exact ⟨(f11, (w64 (x9 + 1)), x10), h, Nat.lt_succ_self _, it [0, 1, 5, 17, 18, 19]⟩
 refine pwp_exit ?_
 refine srv 1 41 [(39, rf 1 0 2 x10)] [sl 0 v5, sl 0 x10] ?_
 refine opsP_imp (Imp.freezeB (v := 0) (cs := eL x10) (st' := ⟨41, [(39, A x10)], [sl 0 v5, none]⟩) 1 0 (nx hX) (by kernel_rfl) (eL_frz _) (wholeC (whole_is (eL_len x10).symm) wholeC0) (HpRel.frz rfl (eL_frz _) (HpRel.key HpRel.nil)) (by kernel_rfl) rfl (nx hX)) ?_
 obtain ⟨v23, hv24, h⟩ := bindS h
 refine cF 40 (ok_slices_Clip_impl_Delta_impl_Delta hv24) ?_
 refine ve 1 41 [(4, A v23)] [sl 0 v5, none] ?_
 cases h
 exact pwp_ret rz
def impl_DeltaOf_j0 (a0 : List (List T_impl_Value)) (a1 : List (List T_impl_Value)) (x1 : Bool) : Option (List T_impl_Delta) := bif x1 then some ([] : List T_impl_Delta) else (impl_deltaOf a0 a1).bind fun v3 => some v3
def impl_DeltaOf (a0 : List (List T_impl_Value)) (a1 : List (List T_impl_Value)) : Option (List T_impl_Delta) := (impl_allOk a0).bind fun v5 => bif (!v5) then impl_DeltaOf_j0 a0 a1 true else (impl_allOk a1).bind fun v7 => impl_DeltaOf_j0 a0 a1 (!v7)
theorem ok_impl_DeltaOf {a0 : List (List T_impl_Value)} {a1 : List (List T_impl_Value)} {y : List T_impl_Delta} (h : impl_DeltaOf a0 a1 = some y) : OK Try.prog 10 [A a0, A a1] (A y) := by
 refine ow Try.func10 fun Γ hX => ?_
 unfold impl_DeltaOf at h
 refine srve 16 [(0, A a0), (1, A a1)] [] ?_
 refine pwp_seq ?_
 refine pwp_seq ?_
 refine pwp_join (σ := Bool) (fun x1 => (⟨16, [(0, A a0), (1, A a1), (12, B x1)], []⟩ : St)) (fun x1 => impl_DeltaOf_j0 a0 a1 x1 = some y) ?_ ?_
 refine rv 1 16 [(0, A a0), (1, A a1), (5, A a0)] [] ?_
 obtain ⟨v5, hv6, h⟩ := bindS h
 refine cF 6 (ok_impl_allOk hv6) ?_
 refine v 2 16 [(0, A a0), (1, A a1), (8, B (!v5))] [] ?_
 rcases fk (!v5) with hc9 | hc9
 replace h := bT hc9 h
 rw [hc9]
 refine ve 4 16 [(0, A a0), (1, A a1), (12, B true)] [] ?_
 exact ⟨true, h, it [0, 1, 12]⟩
 replace h := bF hc9 h
 rw [hc9]
 refine v 1 16 [(0, A a0), (1, A a1), (8, B false), (9, A a1)] [] ?_
 obtain ⟨v7, hv8, h⟩ := bindS h
 refine cF 10 (ok_impl_allOk hv8) ?_
 refine ve 2 16 [(0, A a0), (1, A a1), (12, B (!v7))] [] ?_
 exact ⟨(!v7), h, it [0, 1, 12]⟩
 rintro x1 h
 unfold impl_DeltaOf_j0 at h
 refine pc h (fun h => ?_) (fun h => ?_)
 refine srve 16 [(4, .arr 2 0 (eL ([] : List T_impl_Delta)) true)] [] ?_
 refine ip 16 [(4, .arr 2 0 (eL ([] : List T_impl_Delta)) true)] [] ?_
 refine pwp_imp (Imp.unfS (st' := ⟨16, [(4, A ([] : List T_impl_Delta))], []⟩) 4 [4] (by kernel_rfl)) ?_
 cases h
 exact pwp_ret rz
 refine pwp_skip ?_
 refine srv 2 16 [(13, A a0), (14, A a1)] [] ?_
 obtain ⟨v3, hv4, h⟩ := bindS h
 refine cF 15 (ok_impl_deltaOf hv4) ?_
 refine ve 1 16 [(4, A v3)] [] ?_
 cases h
 exact pwp_ret rz
def laws_FnDeltaOf_j1 (x14 : Int) (K16 : Int → Option Bool) (x18 : Bool) : Option Bool := bif x18 then some false else K16 (w64 (x14 + 1))
def laws_FnDeltaOf_l0 (v2 : (List (List T_impl_Value)) × (List (List T_impl_Value))) (v4 : List T_impl_Delta) (v11 : List T_impl_Delta) : Nat → Int → Option Bool
 | 0, _ => none
 | f15 + 1, x14 => bif (decide (x14 < (v4.length : Int))) then (getI v4 x14).bind fun v20 => bif (v20.fMany == 0) then laws_FnDeltaOf_j1 x14 (laws_FnDeltaOf_l0 v2 v4 v11 f15) true else (getI v11 x14).bind fun v22 => (getI v4 x14).bind fun v24 => bif (!(v22.fMany == (w64 (-v24.fMany)))) then laws_FnDeltaOf_j1 x14 (laws_FnDeltaOf_l0 v2 v4 v11 f15) true else (getI v11 x14).bind fun v26 => (getI v4 x14).bind fun v28 => (laws_sameRow v26.fRow v28.fRow).bind fun v30 => laws_FnDeltaOf_j1 x14 (laws_FnDeltaOf_l0 v2 v4 v11 f15) (!v30) else (impl_DeltaRows v2.1 v4).bind fun v34 => (laws_allRows v2.1).bind fun v36 => bif (!v36) then (laws_alive).bind fun v38 => some v38 else (laws_allRows v2.2).bind fun v40 => bif (!v40) then (laws_alive).bind fun v42 => some v42 else bif v34.2 then (impl_RowsSorted v2.2).bind fun v44 => (laws_sameRows v34.1 v44).bind fun v46 => bif v46 then (laws_alive).bind fun v48 => some v48 else some false else some false
def laws_FnDeltaOf (a0 : List UInt8) : Option Bool := bif (decide ((a0.length : Int) > 1048576)) then some true else (spec_DrawDeltaOf a0).bind fun v2 => (impl_DeltaOf v2.1 v2.2).bind fun v4 => (spec_DeltaOf_R v2.1 v2.2).bind fun v6 => (laws_sameDeltas v4 v6).bind fun v8 => bif (!v8) then some false else (impl_DeltaOf v2.2 v2.1).bind fun v11 => bif (!((v11.length : Int) == (v4.length : Int))) then some false else laws_FnDeltaOf_l0 v2 v4 v11 FUEL 0
theorem ok_laws_FnDeltaOf {a0 : List UInt8} {y : Bool} (h : laws_FnDeltaOf a0 = some y) : OK Try.prog 3 [A a0] (B y) := by
 refine ow Try.func3 fun Γ hX => ?_
 unfold laws_FnDeltaOf at h
 refine srve 101 [(0, A a0)] [] ?_
 refine pwp_seq ?_
 refine srve 101 [(0, A a0), (12, B (decide ((a0.length : Int) > 1048576)))] [] ?_
 refine pc h (fun h => ?_) (fun h => ?_)
 refine srve 101 [(2, B true)] [] ?_
 cases h
 exact pwp_ret rz
 refine pwp_skip ?_
 refine srv 1 101 [(14, A a0)] [] ?_
 obtain ⟨v2, hv3, h⟩ := bindS h
 refine opsP_callF τ 15 (ok_spec_DrawDeltaOf hv3) (FzTo.tup (FzToL.cons (FzTo.frz rfl) (FzToL.cons (FzTo.frz rfl) FzToL.nil))) rfl (by kernel_rfl) ?_
 refine ve 5 101 [(3, A v2.1), (4, A v2.2)] [] ?_
 refine srv 2 101 [(3, A v2.1), (4, A v2.2), (18, A v2.1), (19, A v2.2)] [] ?_
 obtain ⟨v4, hv5, h⟩ := bindS h
 refine cF 20 (ok_impl_DeltaOf hv5) ?_
 refine ve 1 101 [(3, A v2.1), (4, A v2.2), (5, A v4)] [] ?_
 refine pwp_seq ?_
 refine srv 3 101 [(3, A v2.1), (4, A v2.2), (5, A v4), (21, A v4), (22, A v2.1), (23, A v2.2)] [] ?_
 obtain ⟨v6, hv7, h⟩ := bindS h
 refine cFo 24 (ok_spec_DeltaOf_R hv7) ?_
 obtain ⟨v8, hv9, h⟩ := bindS h
 refine cF 25 (ok_laws_sameDeltas hv9) ?_
 refine ve 1 101 [(3, A v2.1), (4, A v2.2), (5, A v4), (26, B (!v8))] [] ?_
 refine pc h (fun h => ?_) (fun h => ?_)
 refine srve 101 [(2, B false)] [] ?_
 cases h
 exact pwp_ret rz
 refine pwp_skip ?_
 refine srv 2 101 [(3, A v2.1), (4, A v2.2), (5, A v4), (27, A v2.2), (28, A v2.1)] [] ?_
 obtain ⟨v11, hv12, h⟩ := bindS h
 refine cF 29 (ok_impl_DeltaOf hv12) ?_
 refine ve 1 101 [(3, A v2.1), (4, A v2.2), (5, A v4), (6, A v11)] [] ?_
 refine pwp_seq ?_
 refine srve 101 [(3, A v2.1), (4, A v2.2), (5, A v4), (6, A v11), (34, B (!((v11.length : Int) == (v4.length : Int))))] [] ?_
 refine pc h (fun h => ?_) (fun h => ?_)
 refine srve 101 [(2, B false)] [] ?_
 cases h
 exact pwp_ret rz
 refine pwp_skip ?_
 refine pwp_seq ?_
 refine srve 101 [(3, A v2.1), (4, A v2.2), (5, A v4), (6, A v11), (7, I 0)] [] ?_
 refine pwp_block ?_
 refine pwp_loop (ι := Nat × Int) (fun (f15, x14) => (⟨101, [(3, A v2.1), (4, A v2.2), (5, A v4), (6, A v11), (7, I x14)], []⟩ : St)) (fun (f15, x14) => laws_FnDeltaOf_l0 v2 v4 v11 f15 x14 = some y) Prod.fst (FUEL, 0) h (it [3, 4, 5, 6, 7]) ?_
 rintro ⟨f15, x14⟩ h
 dsimp only at h ⊢
 rcases f15 with _ | f15
 cases h
 rw [laws_FnDeltaOf_l0] at h
 refine pwp_seq ?_
 refine srve 101 [(3, A v2.1), (4, A v2.2), (5, A v4), (6, A v11), (7, I x14), (38, B (decide (x14 < (v4.length : Int))))] [] ?_
 refine pc h (fun h => ?_) (fun h => ?_)
 refine pwp_skip ?_
 refine pwp_seq ?_
 refine pwp_block ?_
 refine pwp_seq ?_
 refine pwp_join (σ := Bool) (fun x18 => (⟨101, [(3, A v2.1), (4, A v2.2), (5, A v4), (6, A v11), (7, I x14), (74, B x18)], []⟩ : St)) (fun x18 => laws_FnDeltaOf_j1 x14 (laws_FnDeltaOf_l0 v2 v4 v11 f15) x18 = some y) ?_ ?_
 refine ip 101 [(3, A v2.1), (4, A v2.2), (5, A v4), (6, A v11), (7, I x14)] [] ?_
 refine pN 34 ?_
 refine qv [] trivial 2 101 [(42, I x14), (41, A v4), (3, A v2.1), (4, A v2.2), (5, A v4), (6, A v11), (7, I x14)] [] ?_
 obtain ⟨v20, hv21, h⟩ := bindS h
 refine qX (some 43) (pf v20 0) 101 [(43, pf v20 0), (3, A v2.1), (4, A v2.2), (5, A v4), (6, A v11), (7, I x14)] [] (fun Γ' hΓ => CoreE.of_y (idxV_sound τ_ok (by kernel_rfl) hv21)) trivial ?_
 refine qv [] trivial 4 101 [(47, B (v20.fMany == 0)), (3, A v2.1), (4, A v2.2), (5, A v4), (6, A v11), (7, I x14)] [] ?_
 rcases fk (v20.fMany == 0) with hc33 | hc33
 replace h := bT hc33 h
 rw [hc33]
 refine qvn [] trivial 27 101 [(3, A v2.1), (4, A v2.2), (5, A v4), (6, A v11), (7, I x14), (48, .lit undef), (49, .lit undef), (50, .lit undef), (51, .lit undef), (52, .lit undef), (53, .lit undef), (54, .lit undef), (55, .lit undef), (56, .lit undef), (57, .lit undef), (58, .lit undef), (59, .lit undef), (62, .lit undef), (63, .lit undef), (64, .lit undef), (65, .lit undef), (66, .lit undef), (67, .lit undef), (68, .lit undef), (69, .lit undef), (70, .lit undef), (71, .lit undef), (72, .lit undef), (73, .lit undef), (74, B true)] [] ?_
 exact ⟨true, h, it [3, 4, 5, 6, 7, 74]⟩
 replace h := bF hc33 h
 rw [hc33]
 refine qv [] trivial 2 101 [(49, I x14), (48, A v11), (47, B false), (3, A v2.1), (4, A v2.2), (5, A v4), (6, A v11), (7, I x14)] [] ?_
 obtain ⟨v22, hv23, h⟩ := bindS h
 refine qX (some 50) (pf v22 0) 101 [(50, pf v22 0), (49, I x14), (48, A v11), (47, B false), (3, A v2.1), (4, A v2.2), (5, A v4), (6, A v11), (7, I x14)] [] (fun Γ' hΓ => CoreE.of_y (idxV_sound τ_ok (by kernel_rfl) hv23)) trivial ?_
 refine qv [] trivial 4 101 [(54, I x14), (53, A v4), (52, I v22.fMany), (51, pf v22 1), (50, pf v22 0), (49, I x14), (48, A v11), (47, B false), (3, A v2.1), (4, A v2.2), (5, A v4), (6, A v11), (7, I x14)] [] ?_
 obtain ⟨v24, hv25, h⟩ := bindS h
 refine qX (some 55) (pf v24 0) 101 [(55, pf v24 0), (54, I x14), (53, A v4), (52, I v22.fMany), (51, pf v22 1), (50, pf v22 0), (49, I x14), (48, A v11), (47, B false), (3, A v2.1), (4, A v2.2), (5, A v4), (6, A v11), (7, I x14)] [] (fun Γ' hΓ => CoreE.of_y (idxV_sound τ_ok (by kernel_rfl) hv25)) trivial ?_
 refine qv [] trivial 6 101 [(61, B (!(v22.fMany == (w64 (-v24.fMany))))), (59, B (!(v22.fMany == (w64 (-v24.fMany))))), (58, I (w64 (-v24.fMany))), (57, I v24.fMany), (56, pf v24 1), (55, pf v24 0), (54, I x14), (53, A v4), (52, I v22.fMany), (51, pf v22 1), (50, pf v22 0), (49, I x14), (48, A v11), (3, A v2.1), (4, A v2.2), (5, A v4), (6, A v11), (7, I x14)] [] ?_
 rcases fk (!(v22.fMany == (w64 (-v24.fMany)))) with hc32 | hc32
 replace h := bT hc32 h
 rw [hc32]
 refine qvn [] trivial 13 101 [(3, A v2.1), (4, A v2.2), (5, A v4), (6, A v11), (7, I x14), (48, A v11), (49, I x14), (50, pf v22 0), (51, pf v22 1), (52, I v22.fMany), (53, A v4), (54, I x14), (55, pf v24 0), (56, pf v24 1), (57, I v24.fMany), (58, I (w64 (-v24.fMany))), (59, B true), (62, .lit undef), (63, .lit undef), (64, .lit undef), (65, .lit undef), (66, .lit undef), (67, .lit undef), (68, .lit undef), (69, .lit undef), (70, .lit undef), (71, .lit undef), (72, .lit undef), (73, .lit undef), (74, B true)] [] ?_
 exact ⟨true, h, it [3, 4, 5, 6, 7, 74]⟩
 replace h := bF hc32 h
 rw [hc32]
 refine qv [] trivial 2 101 [(63, I x14), (62, A v11), (61, B false), (59, B false), (58, I (w64 (-v24.fMany))), (57, I v24.fMany), (56, pf v24 1), (55, pf v24 0), (54, I x14), (53, A v4), (52, I v22.fMany), (51, pf v22 1), (50, pf v22 0), (49, I x14), (48, A v11), (3, A v2.1), (4, A v2.2), (5, A v4), (6, A v11), (7, I x14)] [] ?_
 obtain ⟨v26, hv27, h⟩ := bindS h
 refine qX (some 64) (pf v26 0) 101 [(64, pf v26 0), (63, I x14), (62, A v11), (61, B false), (59, B false), (58, I (w64 (-v24.fMany))), (57, I v24.fMany), (56, pf v24 1), (55, pf v24 0), (54, I x14), (53, A v4), (52, I v22.fMany), (51, pf v22 1), (50, pf v22 0), (49, I x14), (48, A v11), (3, A v2.1), (4, A v2.2), (5, A v4), (6, A v11), (7, I x14)] [] (fun Γ' hΓ => CoreE.of_y (idxV_sound τ_ok (by kernel_rfl) hv27)) trivial ?_
 refine qv [] trivial 4 101 [(68, I x14), (67, A v4), (66, A v26.fRow), (65, pf v26 0), (64, pf v26 0), (63, I x14), (62, A v11), (61, B false), (59, B false), (58, I (w64 (-v24.fMany))), (57, I v24.fMany), (56, pf v24 1), (55, pf v24 0), (54, I x14), (53, A v4), (52, I v22.fMany), (51, pf v22 1), (50, pf v22 0), (49, I x14), (48, A v11), (3, A v2.1), (4, A v2.2), (5, A v4), (6, A v11), (7, I x14)] [] ?_
 obtain ⟨v28, hv29, h⟩ := bindS h
 refine qX (some 69) (pf v28 0) 101 [(69, pf v28 0), (68, I x14), (67, A v4), (66, A v26.fRow), (65, pf v26 0), (64, pf v26 0), (63, I x14), (62, A v11), (61, B false), (59, B false), (58, I (w64 (-v24.fMany))), (57, I v24.fMany), (56, pf v24 1), (55, pf v24 0), (54, I x14), (53, A v4), (52, I v22.fMany), (51, pf v22 1), (50, pf v22 0), (49, I x14), (48, A v11), (3, A v2.1), (4, A v2.2), (5, A v4), (6, A v11), (7, I x14)] [] (fun Γ' hΓ => CoreE.of_y (idxV_sound τ_ok (by kernel_rfl) hv29)) trivial ?_
 refine qv [] trivial 2 101 [(71, A v28.fRow), (70, pf v28 0), (69, pf v28 0), (68, I x14), (67, A v4), (66, A v26.fRow), (65, pf v26 0), (64, pf v26 0), (63, I x14), (62, A v11), (61, B false), (59, B false), (58, I (w64 (-v24.fMany))), (57, I v24.fMany), (56, pf v24 1), (55, pf v24 0), (54, I x14), (53, A v4), (52, I v22.fMany), (51, pf v22 1), (50, pf v22 0), (49, I x14), (48, A v11), (3, A v2.1), (4, A v2.2), (5, A v4), (6, A v11), (7, I x14)] [] ?_
 obtain ⟨v30, hv31, h⟩ := bindS h
 refine qX (some 72) (B v30) 101 [(72, B v30), (71, A v28.fRow), (70, pf v28 0), (69, pf v28 0), (68, I x14), (67, A v4), (66, A v26.fRow), (65, pf v26 0), (64, pf v26 0), (63, I x14), (62, A v11), (61, B false), (59, B false), (58, I (w64 (-v24.fMany))), (57, I v24.fMany), (56, pf v24 1), (55, pf v24 0), (54, I x14), (53, A v4), (52, I v22.fMany), (51, pf v22 1), (50, pf v22 0), (49, I x14), (48, A v11), (3, A v2.1), (4, A v2.2), (5, A v4), (6, A v11), (7, I x14)] [] (fun Γ' hΓ => CoreE.of_g (callV_sound (τ := τ) (by kernel_rfl) rfl (ok_laws_sameRow hv31) (FzTo.frz rfl))) trivial ?_
 refine qvn [] trivial 2 101 [(3, A v2.1), (4, A v2.2), (5, A v4), (6, A v11), (7, I x14), (48, A v11), (49, I x14), (50, pf v22 0), (51, pf v22 1), (52, I v22.fMany), (53, A v4), (54, I x14), (55, pf v24 0), (56, pf v24 1), (57, I v24.fMany), (58, I (w64 (-v24.fMany))), (59, B false), (62, A v11), (63, I x14), (64, pf v26 0), (65, pf v26 0), (66, A v26.fRow), (67, A v4), (68, I x14), (69, pf v28 0), (70, pf v28 0), (71, A v28.fRow), (72, B v30), (73, B (!v30)), (74, B (!v30))] [] ?_
 exact ⟨(!v30), h, it [3, 4, 5, 6, 7, 74]⟩
 rintro x18 h
 unfold laws_FnDeltaOf_j1 at h
 refine pc h (fun h => ?_) (fun h => ?_)
 refine srve 101 [(2, B false)] [] ?_
 cases h
 exact pwp_ret rz
 refine pwp_skip ?_
 refine rve 101 [(3, A v2.1), (4, A v2.2), (5, A v4), (6, A v11), (7, I (w64 (x14 + 1)))] [] ?_
 exact ⟨(f15, (w64 (x14 + 1))), h, Nat.lt_succ_self _, it [3, 4, 5, 6, 7]⟩
 refine pwp_exit ?_
 refine srv 2 101 [(3, A v2.1), (4, A v2.2), (76, A v2.1), (77, A v4)] [] ?_
 obtain ⟨v34, hv35, h⟩ := bindS h
 refine opsP_callF τ 78 (ok_impl_DeltaRows hv35) (FzTo.tup (FzToL.cons (FzTo.frz rfl) (FzToL.cons (FzTo.frz rfl) FzToL.nil))) rfl (by kernel_rfl) ?_
 refine ve 5 101 [(3, A v2.1), (4, A v2.2), (8, A v34.1), (9, B v34.2)] [] ?_
 refine srv 1 101 [(4, A v2.2), (8, A v34.1), (9, B v34.2), (81, A v2.1)] [] ?_
 obtain ⟨v36, hv37, h⟩ := bindS h
 refine cF 82 (ok_laws_allRows hv37) ?_
 refine v 2 101 [(4, A v2.2), (8, A v34.1), (9, B v34.2), (84, B (!v36))] [] ?_
 rcases fk (!v36) with hc53 | hc53
 replace h := bT hc53 h
 rw [hc53]
 refine v 14 101 [(98, B true)] [] ?_
 obtain ⟨v38, hv39, h⟩ := bindS h
 refine cF 99 (ok_laws_alive hv39) ?_
 refine ve 2 101 [(2, B v38)] [] ?_
 cases h
 exact pwp_ret rz
 replace h := bF hc53 h
 rw [hc53]
 refine v 1 101 [(4, A v2.2), (8, A v34.1), (9, B v34.2), (84, B false), (85, A v2.2)] [] ?_
 obtain ⟨v40, hv41, h⟩ := bindS h
 refine cF 86 (ok_laws_allRows hv41) ?_
 refine v 3 101 [(4, A v2.2), (8, A v34.1), (9, B v34.2), (89, B (!v40))] [] ?_
 rcases fk (!v40) with hc52 | hc52
 replace h := bT hc52 h
 rw [hc52]
 refine v 9 101 [(98, B true)] [] ?_
 obtain ⟨v42, hv43, h⟩ := bindS h
 refine cF 99 (ok_laws_alive hv43) ?_
 refine ve 2 101 [(2, B v42)] [] ?_
 cases h
 exact pwp_ret rz
 replace h := bF hc52 h
 rw [hc52]
 refine v 2 101 [(4, A v2.2), (8, A v34.1), (89, B false), (91, B v34.2)] [] ?_
 rcases Bool.eq_false_or_eq_true v34.2 with hc51 | hc51
 replace h := bT hc51 h
 rw [hc51]
 refine v 2 101 [(89, B false), (91, B true), (92, A v34.1), (93, A v2.2)] [] ?_
 obtain ⟨v44, hv45, h⟩ := bindS h
 refine cF 94 (ok_impl_RowsSorted hv45) ?_
 obtain ⟨v46, hv47, h⟩ := bindS h
 refine cF 95 (ok_laws_sameRows hv47) ?_
 refine v 3 101 [(98, B v46)] [] ?_
 rcases Bool.eq_false_or_eq_true v46 with hc50 | hc50
 replace h := bT hc50 h
 rw [hc50]
 obtain ⟨v48, hv49, h⟩ := bindS h
 refine cF 99 (ok_laws_alive hv49) ?_
 refine ve 2 101 [(2, B v48)] [] ?_
 cases h
 exact pwp_ret rz
 replace h := bF hc50 h
 rw [hc50]
 refine ve 3 101 [(2, B false)] [] ?_
 cases h
 exact pwp_ret rz
 replace h := bF hc51 h
 rw [hc51]
 refine ve 10 101 [(2, B false)] [] ?_
 cases h
 exact pwp_ret rz
end Go.D
