import Derived.Test.YtpngnbmfhnjjmaaGreatLooDXFA
import Derived.KernelRfl
set_option linter.unusedVariables false
set_option linter.unusedSimpArgs false
namespace Go.D
open Go.Proofs
theorem ok_impl_joins {a0 : List (List T_impl_Value)} {a1 : Int} {g2 : FuncId} {c2 : List V} (hz2 : frzL c2 = true) {a2 : T_impl_Value → Option (List (List T_impl_Value))} (hp2 : ∀ x0 y, a2 x0 = some y → OK Tryz.prog g2 ([E x0] ++ c2) (A y)) {a3 : Int} {y : List (List T_impl_Value)} (h : impl_joins a0 a1 a2 a3 = some y) : OK Tryz.prog 61 [A a0, I a1, .fn g2 c2, I a3] (A y) := by
  refine ow Tryz.func61 fun Γ hX => ?_
  unfold impl_joins at h
  refine srve 56 [(0, A a0), (1, I a1), (2, .fn g2 c2), (3, I a3)] [] ?_
  refine srve 56 [(0, A a0), (1, I a1), (2, .fn g2 c2), (3, I a3), (9, .arr 1 0 (eL ([] : List (List T_impl_Value))) true)] [] ?_
  refine pwp_seq ?_
  refine srve 56 [(1, I a1), (2, .fn g2 c2), (3, I a3), (9, .arr 1 0 (eL ([] : List (List T_impl_Value))) true), (14, A a0), (15, I ((a0.length : Int))), (16, I 0)] [] ?_
  refine pwp_block ?_
  refine pwp_loop (ι := Nat × Int × (List (List T_impl_Value))) (fun (f4, x2, x3) => (⟨56, [(1, I a1), (2, .fn g2 c2), (3, I a3), (9, rf 0 0 1 x3), (14, A a0), (15, I ((a0.length : Int))), (16, I x2)], [sl 0 x3]⟩ : St)) (fun (f4, x2, x3) => impl_joins_l0 a0 a1 a2 a3 f4 x2 x3 = some y) Prod.fst (FUEL, 0, ([] : List (List T_impl_Value))) h (Imp.thawS 9 [1, 2, 3, 9, 14, 15, 16] (by kernel_rfl)) ?_
  rintro ⟨f4, x2, x3⟩ h
  dsimp only at h ⊢
  rcases f4 with _ | f4
  cases h
  rw [impl_joins_l0] at h
  refine srve 56 [(1, I a1), (2, .fn g2 c2), (3, I a3), (9, rf 0 0 1 x3), (14, A a0), (15, I ((a0.length : Int))), (16, I x2), (17, B ((decide (x2 < ((a0.length : Int))))))] [sl 0 x3] ?_
  refine pwp_seq ?_
  refine pc h (fun h => ?_) (fun h => ?_)
  refine pwp_skip ?_
  refine pwp_seq ?_
  refine pwp_block ?_
  refine pwp_seq ?_
  refine pwp_region ?_
  obtain ⟨v7, hv8, h⟩ := bindS h
  refine opsP_idx τ_ok 18 hv8 (by kernel_rfl) ?_
  refine ve 2 56 [(1, I a1), (2, .fn g2 c2), (3, I a3), (9, rf 0 0 1 x3), (11, A v7), (14, A a0), (15, I ((a0.length : Int))), (16, I x2)] [sl 0 x3] ?_
  refine pwp_seq ?_
  refine srv 2 56 [(1, I a1), (2, .fn g2 c2), (3, I a3), (9, rf 0 0 1 x3), (11, A v7), (14, A a0), (15, I ((a0.length : Int))), (16, I x2), (20, A v7), (21, I a1)] [sl 0 x3] ?_
  obtain ⟨v9, hv10, h⟩ := bindS h
  refine opsP_idx τ_ok 22 hv10 (by kernel_rfl) ?_
  refine ve 3 56 [(1, I a1), (2, .fn g2 c2), (3, I a3), (9, rf 0 0 1 x3), (11, A v7), (14, A a0), (15, I ((a0.length : Int))), (16, I x2), (25, B ((v9.fKind == 0)))] [sl 0 x3] ?_
  refine pc h (fun h => ?_) (fun h => ?_)
  refine pwp_exit ?_
  refine rve 56 [(1, I a1), (2, .fn g2 c2), (3, I a3), (9, rf 0 0 1 x3), (14, A a0), (15, I ((a0.length : Int))), (16, I ((w64 (x2 + 1))))] [sl 0 x3] ?_
  exact ⟨(f4, (w64 (x2 + 1)), x3), h, Nat.lt_succ_self _, it [1, 2, 3, 9, 14, 15, 16]⟩
  refine pwp_skip ?_
  refine srv 3 56 [(1, I a1), (2, .fn g2 c2), (3, I a3), (9, rf 0 0 1 x3), (11, A v7), (14, A a0), (15, I ((a0.length : Int))), (16, I x2), (26, .fn g2 c2), (27, A v7), (28, I a1)] [sl 0 x3] ?_
  obtain ⟨v12, hv13, h⟩ := bindS h
  refine opsP_idx τ_ok 29 hv13 (by kernel_rfl) ?_
  refine v 1 56 [(1, I a1), (2, .fn g2 c2), (3, I a3), (9, rf 0 0 1 x3), (11, A v7), (14, A a0), (15, I ((a0.length : Int))), (16, I x2), (26, .fn g2 c2), (30, E v12)] [sl 0 x3] ?_
  obtain ⟨v14, hv15, h⟩ := bindS h
  refine opsP_callF τ 31 (hp2 _ _ hv15) (FzTo.frz rfl) (frz_app (xs := [E v12]) rfl hz2) (by kernel_rfl) ?_
  refine ve 2 56 [(1, I a1), (2, .fn g2 c2), (3, I a3), (9, rf 0 0 1 x3), (11, A v7), (14, A a0), (15, I ((a0.length : Int))), (16, I x2), (31, A v14), (32, I ((v14.length : Int))), (33, I 0)] [sl 0 x3] ?_
  refine pwp_block ?_
  refine pwp_loop (ι := Nat × Int × (List (List T_impl_Value))) (fun (f19, x17, x18) => (⟨56, [(1, I a1), (2, .fn g2 c2), (3, I a3), (9, rf 0 0 1 x18), (11, A v7), (14, A a0), (15, I ((a0.length : Int))), (16, I x2), (31, A v14), (32, I ((v14.length : Int))), (33, I x17)], [sl 0 x18]⟩ : St)) (fun (f19, x17, x18) => impl_joins_l1 a1 a3 x2 (impl_joins_l0 a0 a1 a2 a3 f4) v7 v14 f19 x17 x18 = some y) Prod.fst (FUEL, 0, x3) h (it [1, 2, 3, 9, 11, 14, 15, 16, 31, 32, 33]) ?_
  rintro ⟨f19, x17, x18⟩ h
  dsimp only at h ⊢
  rcases f19 with _ | f19
  cases h
  rw [impl_joins_l1] at h
  refine srve 56 [(1, I a1), (2, .fn g2 c2), (3, I a3), (9, rf 0 0 1 x18), (11, A v7), (14, A a0), (15, I ((a0.length : Int))), (16, I x2), (31, A v14), (32, I ((v14.length : Int))), (33, I x17), (34, B ((decide (x17 < ((v14.length : Int))))))] [sl 0 x18] ?_
  refine pwp_seq ?_
  refine pc h (fun h => ?_) (fun h => ?_)
  refine pwp_skip ?_
  refine pwp_seq ?_
  refine pwp_block ?_
  refine pwp_seq ?_
  refine pwp_region ?_
  obtain ⟨v22, hv23, h⟩ := bindS h
  refine opsP_idx τ_ok 35 hv23 (by kernel_rfl) ?_
  refine ve 2 56 [(1, I a1), (2, .fn g2 c2), (3, I a3), (9, rf 0 0 1 x18), (11, A v7), (13, A v22), (14, A a0), (15, I ((a0.length : Int))), (16, I x2), (31, A v14), (32, I ((v14.length : Int))), (33, I x17)] [sl 0 x18] ?_
  refine pwp_seq ?_
  refine ip 56 [(1, I a1), (2, .fn g2 c2), (3, I a3), (9, rf 0 0 1 x18), (11, A v7), (13, A v22), (14, A a0), (15, I ((a0.length : Int))), (16, I x2), (31, A v14), (32, I ((v14.length : Int))), (33, I x17)] [sl 0 x18] ?_
  refine pN 9 ?_
  refine qv [] trivial 2 56 [(38, I a3), (37, A v22), (1, I a1), (2, .fn g2 c2), (3, I a3), (9, rf 0 0 1 x18), (11, A v7), (13, A v22), (14, A a0), (15, I ((a0.length : Int))), (16, I x2), (31, A v14), (32, I ((v14.length : Int))), (33, I x17)] [sl 0 x18] ?_
  obtain ⟨v24, hv25, h⟩ := bindS h
  refine qX (some 39) (pf v24 0) 56 [(39, pf v24 0), (1, I a1), (2, .fn g2 c2), (3, I a3), (9, rf 0 0 1 x18), (11, A v7), (13, A v22), (14, A a0), (15, I ((a0.length : Int))), (16, I x2), (31, A v14), (32, I ((v14.length : Int))), (33, I x17)] [sl 0 x18] (fun Γ' hΓ => CoreE.of_y (idxV_sound τ_ok (by kernel_rfl) hv25)) trivial ?_
  refine qv [] trivial 3 56 [(42, I a1), (41, A v7), (40, E v24), (1, I a1), (2, .fn g2 c2), (3, I a3), (9, rf 0 0 1 x18), (11, A v7), (13, A v22), (14, A a0), (15, I ((a0.length : Int))), (16, I x2), (31, A v14), (32, I ((v14.length : Int))), (33, I x17)] [sl 0 x18] ?_
  obtain ⟨v26, hv27, h⟩ := bindS h
  refine qX (some 43) (pf v26 0) 56 [(43, pf v26 0), (40, E v24), (1, I a1), (2, .fn g2 c2), (3, I a3), (9, rf 0 0 1 x18), (11, A v7), (13, A v22), (14, A a0), (15, I ((a0.length : Int))), (16, I x2), (31, A v14), (32, I ((v14.length : Int))), (33, I x17)] [sl 0 x18] (fun Γ' hΓ => CoreE.of_y (idxV_sound τ_ok (by kernel_rfl) hv27)) trivial ?_
  refine qvn [] trivial 2 56 [(1, I a1), (2, .fn g2 c2), (3, I a3), (9, rf 0 0 1 x18), (11, A v7), (13, A v22), (14, A a0), (15, I ((a0.length : Int))), (16, I x2), (31, A v14), (32, I ((v14.length : Int))), (33, I x17), (45, B ((eq_T_impl_Value v24 v26)))] [sl 0 x18] ?_
  refine pc h (fun h => ?_) (fun h => ?_)
  refine rv 3 56 [(1, I a1), (2, .fn g2 c2), (3, I a3), (11, A v7), (14, A a0), (15, I ((a0.length : Int))), (16, I x2), (31, A v14), (32, I ((v14.length : Int))), (33, I x17), (46, rf 0 0 1 x18), (47, A v7), (48, A v22)] [sl 0 x18] ?_
  obtain ⟨v29, hv30, h⟩ := bindS h
  refine cF 49 (ok_impl_beside hv30) ?_
  refine v 1 56 [(1, I a1), (2, .fn g2 c2), (3, I a3), (11, A v7), (14, A a0), (15, I ((a0.length : Int))), (16, I x2), (31, A v14), (32, I ((v14.length : Int))), (33, I x17), (46, rf 0 0 1 x18), (50, .arr 1 (([v29] : List (List T_impl_Value))).length (eL ([v29] : List (List T_impl_Value))) true)] [sl 0 x18] ?_
  obtain ⟨v31, hv32, h⟩ := bindS h
  refine opsP_app τ_ok 51 0 0 (nx hX) hv32 (by kernel_rfl) ?_
  refine ve 1 56 [(1, I a1), (2, .fn g2 c2), (3, I a3), (9, rf 0 1 1 v31), (11, A v7), (14, A a0), (15, I ((a0.length : Int))), (16, I x2), (31, A v14), (32, I ((v14.length : Int))), (33, I x17)] [sl 1 v31] ?_
  refine rve 56 [(1, I a1), (2, .fn g2 c2), (3, I a3), (9, rf 0 1 1 v31), (11, A v7), (14, A a0), (15, I ((a0.length : Int))), (16, I x2), (31, A v14), (32, I ((v14.length : Int))), (33, I ((w64 (x17 + 1))))] [sl 1 v31] ?_
  exact ⟨(f19, (w64 (x17 + 1)), v31), h, Nat.lt_succ_self _, (it (st' := ⟨56, [(1, I a1), (2, .fn g2 c2), (3, I a3), (9, rf 0 1 1 v31), (11, A v7), (14, A a0), (15, I ((a0.length : Int))), (16, I x2), (31, A v14), (32, I ((v14.length : Int))), (33, I ((w64 (x17 + 1))))], [sl 1 v31]⟩) [1, 2, 3, 9, 11, 14, 15, 16, 31, 32, 33]).trans ((Imp.reverF (cs := eL v31) (st' := ⟨56, [(1, I a1), (2, .fn g2 c2), (3, I a3), (9, rf 0 0 1 v31), (11, A v7), (14, A a0), (15, I ((a0.length : Int))), (16, I x2), (31, A v14), (32, I ((v14.length : Int))), (33, I ((w64 (x17 + 1))))], [sl 0 v31]⟩) 0 1 (by kernel_rfl) (qu_of_frzL (eL_frz _)) (HpRel.key HpRel.nil) (RvS.c rfl (RvS.f (show frz (.fn g2 c2) = true from hz2) (RvS.c rfl (RvS.c rfl (RvS.c rfl (RvS.c rfl (RvS.c rfl (RvS.c rfl (RvS.c rfl (RvS.c rfl (RvS.c rfl RvS.nil))))))))))) (by rfl) (nx hX)).trans (it [1, 2, 3, 9, 11, 14, 15, 16, 31, 32, 33]))⟩
  refine pwp_skip ?_
  refine rve 56 [(1, I a1), (2, .fn g2 c2), (3, I a3), (9, rf 0 0 1 x18), (11, A v7), (14, A a0), (15, I ((a0.length : Int))), (16, I x2), (31, A v14), (32, I ((v14.length : Int))), (33, I ((w64 (x17 + 1))))] [sl 0 x18] ?_
  exact ⟨(f19, (w64 (x17 + 1)), x18), h, Nat.lt_succ_self _, it [1, 2, 3, 9, 11, 14, 15, 16, 31, 32, 33]⟩
  refine pwp_exit ?_
  refine rve 56 [(1, I a1), (2, .fn g2 c2), (3, I a3), (9, rf 0 0 1 x18), (14, A a0), (15, I ((a0.length : Int))), (16, I ((w64 (x2 + 1))))] [sl 0 x18] ?_
  exact ⟨(f4, (w64 (x2 + 1)), x18), h, Nat.lt_succ_self _, it [1, 2, 3, 9, 14, 15, 16]⟩
  refine pwp_exit ?_
  refine srv 1 56 [(54, rf 0 0 1 x3)] [sl 0 x3] ?_
  refine opsP_imp ((Imp.freezeB (v := 0) (cs := eL x3) (st' := ⟨56, [(54, A x3)], [none]⟩) 0 0 (nx hX) (by kernel_rfl) (eL_frz _) (wholeC (whole_is (eL_len x3).symm) wholeC0) (HpRel.key HpRel.nil) (by kernel_rfl) rfl (nx hX))) ?_
  obtain ⟨v33, hv34, h⟩ := bindS h
  refine cF 55 (ok_slices_Clip_impl_Value_impl_Value_s3 hv34) ?_
  refine ve 1 56 [(8, A v33)] [none] ?_
  cases h
  exact pwp_ret rz
def spec_l22Ready (a0 : List T_impl_Column) (a1 : List T_impl_Column) (a2 : List (List T_impl_Value)) (a3 : List (List T_impl_Value)) (a4 : Int) (a5 : Int) : Option Bool := (spec_RowsOk a0 a2).bind fun v1 => bif v1 then (spec_RowsOk a1 a3).bind fun v3 => bif v3 then (spec_l1In a4 0 ((w64 (((a0.length : Int)) - 1)))).bind fun v5 => bif v5 then (spec_l1In a5 0 ((w64 (((a1.length : Int)) - 1)))).bind fun v7 => bif v7 then (getI a0 a4).bind fun v9 => (getI a1 a5).bind fun v11 => bif (v9.fKind == v11.fKind) then bif (decide (((w64 (((a0.length : Int)) + ((a1.length : Int))))) ≤ 4)) then bif (decide (((a2.length : Int)) ≤ 30)) then some ((decide (((a3.length : Int)) ≤ 30))) else some false else some false else some false else some false else some false else some false else some false
theorem ok_spec_l22Ready {a0 : List T_impl_Column} {a1 : List T_impl_Column} {a2 : List (List T_impl_Value)} {a3 : List (List T_impl_Value)} {a4 : Int} {a5 : Int} {y : Bool} (h : spec_l22Ready a0 a1 a2 a3 a4 a5 = some y) : OK Tryz.prog 64 [A a0, A a1, A a2, A a3, I a4, I a5] (B y) := by
  refine ow Tryz.func64 fun Γ hX => ?_
  unfold spec_l22Ready at h
  refine srve 66 [(0, A a0), (1, A a1), (2, A a2), (3, A a3), (4, I a4), (5, I a5)] [] ?_
  refine pwp_seq ?_
  refine ip 66 [(0, A a0), (1, A a1), (2, A a2), (3, A a3), (4, I a4), (5, I a5)] [] ?_
  refine pN 54 ?_
  refine qv [] trivial 2 66 [(14, A a2), (13, A a0), (0, A a0), (1, A a1), (2, A a2), (3, A a3), (4, I a4), (5, I a5)] [] ?_
  obtain ⟨v1, hv2, h⟩ := bindS h
  refine qX (some 15) (B v1) 66 [(15, B v1), (0, A a0), (1, A a1), (2, A a2), (3, A a3), (4, I a4), (5, I a5)] [] (fun Γ' hΓ => CoreE.of_g (callV_sound (τ := τ) (by kernel_rfl) rfl (ok_spec_RowsOk hv2) (FzTo.frz rfl))) trivial ?_
  refine qv [] trivial 1 66 [(16, B v1), (0, A a0), (1, A a1), (2, A a2), (3, A a3), (4, I a4), (5, I a5)] [] ?_
  rcases Bool.eq_false_or_eq_true v1 with hc19 | hc19
  replace h := bT hc19 h
  rw [hc19]
  refine qv [] trivial 2 66 [(18, A a3), (17, A a1), (16, B true), (0, A a0), (1, A a1), (2, A a2), (3, A a3), (4, I a4), (5, I a5)] [] ?_
  obtain ⟨v3, hv4, h⟩ := bindS h
  refine qX (some 19) (B v3) 66 [(19, B v3), (16, B true), (0, A a0), (1, A a1), (2, A a2), (3, A a3), (4, I a4), (5, I a5)] [] (fun Γ' hΓ => CoreE.of_g (callV_sound (τ := τ) (by kernel_rfl) rfl (ok_spec_RowsOk hv4) (FzTo.frz rfl))) trivial ?_
  refine qv [] trivial 2 66 [(21, B v3), (0, A a0), (1, A a1), (2, A a2), (3, A a3), (4, I a4), (5, I a5)] [] ?_
  rcases Bool.eq_false_or_eq_true v3 with hc18 | hc18
  replace h := bT hc18 h
  rw [hc18]
  refine qv [] trivial 4 66 [(25, I ((w64 (((a0.length : Int)) - 1)))), (22, I a4), (21, B true), (0, A a0), (1, A a1), (2, A a2), (3, A a3), (4, I a4), (5, I a5)] [] ?_
  obtain ⟨v5, hv6, h⟩ := bindS h
  refine qX (some 26) (B v5) 66 [(26, B v5), (21, B true), (0, A a0), (1, A a1), (2, A a2), (3, A a3), (4, I a4), (5, I a5)] [] (fun Γ' hΓ => CoreE.of_g (callV_sound (τ := τ) (by kernel_rfl) rfl (ok_spec_l1In hv6) (FzTo.frz rfl))) trivial ?_
  refine qv [] trivial 2 66 [(28, B v5), (0, A a0), (1, A a1), (2, A a2), (3, A a3), (4, I a4), (5, I a5)] [] ?_
  rcases Bool.eq_false_or_eq_true v5 with hc17 | hc17
  replace h := bT hc17 h
  rw [hc17]
  refine qv [] trivial 4 66 [(32, I ((w64 (((a1.length : Int)) - 1)))), (29, I a5), (28, B true), (0, A a0), (1, A a1), (2, A a2), (3, A a3), (4, I a4), (5, I a5)] [] ?_
  obtain ⟨v7, hv8, h⟩ := bindS h
  refine qX (some 33) (B v7) 66 [(33, B v7), (28, B true), (0, A a0), (1, A a1), (2, A a2), (3, A a3), (4, I a4), (5, I a5)] [] (fun Γ' hΓ => CoreE.of_g (callV_sound (τ := τ) (by kernel_rfl) rfl (ok_spec_l1In hv8) (FzTo.frz rfl))) trivial ?_
  refine qv [] trivial 2 66 [(35, B v7), (0, A a0), (1, A a1), (2, A a2), (3, A a3), (4, I a4), (5, I a5)] [] ?_
  rcases Bool.eq_false_or_eq_true v7 with hc16 | hc16
  replace h := bT hc16 h
  rw [hc16]
  refine qv [] trivial 2 66 [(37, I a4), (36, A a0), (35, B true), (0, A a0), (1, A a1), (2, A a2), (3, A a3), (5, I a5)] [] ?_
  obtain ⟨v9, hv10, h⟩ := bindS h
  refine qX (some 38) (pf v9 0) 66 [(38, pf v9 0), (35, B true), (0, A a0), (1, A a1), (2, A a2), (3, A a3), (5, I a5)] [] (fun Γ' hΓ => CoreE.of_y (idxV_sound τ_ok (by kernel_rfl) hv10)) trivial ?_
  refine qv [] trivial 4 66 [(42, I a5), (41, A a1), (40, I v9.fKind), (35, B true), (0, A a0), (1, A a1), (2, A a2), (3, A a3)] [] ?_
  obtain ⟨v11, hv12, h⟩ := bindS h
  refine qX (some 43) (pf v11 0) 66 [(43, pf v11 0), (40, I v9.fKind), (35, B true), (0, A a0), (1, A a1), (2, A a2), (3, A a3)] [] (fun Γ' hΓ => CoreE.of_y (idxV_sound τ_ok (by kernel_rfl) hv12)) trivial ?_
  refine qv [] trivial 5 66 [(48, B ((v9.fKind == v11.fKind))), (0, A a0), (1, A a1), (2, A a2), (3, A a3)] [] ?_
  rcases fk ((v9.fKind == v11.fKind)) with hc15 | hc15
  replace h := bT hc15 h
  rw [hc15]
  refine qv [] trivial 8 66 [(56, B ((decide (((w64 (((a0.length : Int)) + ((a1.length : Int))))) ≤ 4)))), (2, A a2), (3, A a3)] [] ?_
  rcases fk ((decide (((w64 (((a0.length : Int)) + ((a1.length : Int))))) ≤ 4))) with hc14 | hc14
  replace h := bT hc14 h
  rw [hc14]
  refine qv [] trivial 5 66 [(61, B ((decide (((a2.length : Int)) ≤ 30)))), (3, A a3)] [] ?_
  rcases fk ((decide (((a2.length : Int)) ≤ 30))) with hc13 | hc13
  replace h := bT hc13 h
  rw [hc13]
  refine qvn [] trivial 5 66 [(12, B ((decide (((a3.length : Int)) ≤ 30))))] [] ?_
  cases h
  exact pwp_ret rz
  replace h := bF hc13 h
  rw [hc13]
  refine qvn [] trivial 5 66 [(12, B false)] [] ?_
  cases h
  exact pwp_ret rz
  replace h := bF hc14 h
  rw [hc14]
  refine qvn [] trivial 10 66 [(12, B false)] [] ?_
  cases h
  exact pwp_ret rz
  replace h := bF hc15 h
  rw [hc15]
  refine qvn [] trivial 18 66 [(12, B false)] [] ?_
  cases h
  exact pwp_ret rz
  replace h := bF hc16 h
  rw [hc16]
  refine qvn [] trivial 31 66 [(12, B false)] [] ?_
  cases h
  exact pwp_ret rz
  replace h := bF hc17 h
  rw [hc17]
  refine qvn [] trivial 38 66 [(12, B false)] [] ?_
  cases h
  exact pwp_ret rz
  replace h := bF hc18 h
  rw [hc18]
  refine qvn [] trivial 45 66 [(12, B false)] [] ?_
  cases h
  exact pwp_ret rz
  replace h := bF hc19 h
  rw [hc19]
  refine qvn [] trivial 50 66 [(12, B false)] [] ?_
  cases h
  exact pwp_ret rz
def impl_RowsOk_1 (a0 : List T_impl_Value) (b0 : List T_impl_Column) : Option Bool := (impl_RowFits b0 a0).bind fun v1 => some ((!v1))
theorem ok_impl_RowsOk_1 {a0 : List T_impl_Value} {b0 : List T_impl_Column} {y : Bool} (h : impl_RowsOk_1 a0 b0 = some y) : OK Tryz.prog 67 [A a0, pf b0 0] (B y) := by
  refine ow Tryz.func67 fun Γ hX => ?_
  unfold impl_RowsOk_1 at h
  refine srve 8 [(0, A a0), (1, pf b0 0)] [] ?_
  refine srv 2 8 [(4, A b0), (5, A a0)] [] ?_
  obtain ⟨v1, hv2, h⟩ := bindS h
  refine cF 6 (ok_impl_RowFits hv2) ?_
  refine ve 2 8 [(3, B ((!v1)))] [] ?_
  cases h
  exact pwp_ret rz
def impl_Part_value_j0 (v6 : T_impl_Value) (v8 : T_impl_Value) (x10 : Bool) : Option T_impl_Value := bif x10 then some ((T_impl_Value.mk 0 0 (ByteArray.mk #[]))) else some ((T_impl_Value.mk 1 ((w64 (v6.fN + v8.fN))) (ByteArray.mk #[])))
def impl_Part_value (a0 : T_impl_Part) (a1 : List T_impl_Value) (a2 : List T_impl_Value) : Option T_impl_Value := bif (a0.fKind == 1) then some a0.fV else bif (a0.fKind == 2) then (getI a1 a0.fN).bind fun v3 => some v3 else bif (a0.fKind == 3) then (getI a2 0).bind fun v6 => (getI a2 1).bind fun v8 => (getI a2 0).bind fun v12 => bif (v12.fKind == 0) then impl_Part_value_j0 v6 v8 true else (getI a2 1).bind fun v14 => bif (v14.fKind == 0) then impl_Part_value_j0 v6 v8 true else (impl_Value_ok ((T_impl_Value.mk 1 ((w64 (v6.fN + v8.fN))) (ByteArray.mk #[])))).bind fun v16 => impl_Part_value_j0 v6 v8 ((!v16)) else bif (a0.fKind == 4) then (getI a2 0).bind fun v21 => (getI a2 1).bind fun v23 => (impl_Compare a0.fN v21 v23).bind fun v25 => (impl_ValueOf v25).bind fun v27 => some v27 else bif (a0.fKind == 5) then (getI a2 0).bind fun v30 => (impl_TruthOf v30).bind fun v32 => (getI a2 1).bind fun v34 => (impl_TruthOf v34).bind fun v36 => (impl_AndOf v32 v36).bind fun v38 => (impl_ValueOf v38).bind fun v40 => some v40 else bif (a0.fKind == 6) then (getI a2 0).bind fun v43 => (impl_TruthOf v43).bind fun v45 => (getI a2 1).bind fun v47 => (impl_TruthOf v47).bind fun v49 => (impl_OrOf v45 v49).bind fun v51 => (impl_ValueOf v51).bind fun v53 => some v53 else bif (a0.fKind == 7) then (getI a2 0).bind fun v56 => (impl_TruthOf v56).bind fun v58 => (impl_NotOf v58).bind fun v60 => (impl_ValueOf v60).bind fun v62 => some v62 else (getI a2 0).bind fun v64 => (impl_truthIf ((v64.fKind == 0))).bind fun v66 => (impl_ValueOf v66).bind fun v68 => some v68
theorem ok_impl_Part_value {a0 : T_impl_Part} {a1 : List T_impl_Value} {a2 : List T_impl_Value} {y : T_impl_Value} (h : impl_Part_value a0 a1 a2 = some y) : OK Tryz.prog 188 [E a0, A a1, A a2] (E y) := by
  refine ow Tryz.func188 fun Γ hX => ?_
  unfold impl_Part_value at h
  refine srveM [6, 7] 103 [(1, A a1), (2, A a2), (3, pf a0 0), (6, .ptr 0 0 0)] [some ⟨0, Enc.cells ((T_impl_Value.mk 0 0 (ByteArray.mk #[])))⟩] ?_
  refine pwp_seq ?_
  refine srveM [6, 7] 103 [(1, A a1), (2, A a2), (3, pf a0 0), (6, .ptr 0 0 0), (9, I a0.fKind)] [some ⟨0, Enc.cells ((T_impl_Value.mk 0 0 (ByteArray.mk #[])))⟩] ?_
  refine pwp_block ?_
  refine srveM [6, 7] 103 [(1, A a1), (2, A a2), (3, pf a0 0), (6, .ptr 0 0 0), (9, I a0.fKind), (10, B ((a0.fKind == 1)))] [some ⟨0, Enc.cells ((T_impl_Value.mk 0 0 (ByteArray.mk #[])))⟩] ?_
  refine pc h (fun h => ?_) (fun h => ?_)
  refine srveM [6, 7] 103 [(6, .ptr 0 0 0)] [sc 0 a0.fV] ?_
  cases h
  exact pwp_ret rz
  refine srveM [6, 7] 103 [(1, A a1), (2, A a2), (3, pf a0 0), (6, .ptr 0 0 0), (9, I a0.fKind), (14, B ((a0.fKind == 2)))] [some ⟨0, Enc.cells ((T_impl_Value.mk 0 0 (ByteArray.mk #[])))⟩] ?_
  refine pc h (fun h => ?_) (fun h => ?_)
  refine srvM [6, 7] 3 103 [(6, .ptr 0 0 0), (16, A a1), (18, I a0.fN)] [some ⟨0, Enc.cells ((T_impl_Value.mk 0 0 (ByteArray.mk #[])))⟩] ?_
  obtain ⟨v3, hv4, h⟩ := bindS h
  refine opsP_idx τ_ok 19 hv4 (by kernel_rfl) ?_
  refine veM [6, 7] 2 103 [(6, .ptr 0 0 0)] [sc 0 v3] ?_
  cases h
  exact pwp_ret rz
  refine srveM [6, 7] 103 [(2, A a2), (3, pf a0 0), (6, .ptr 0 0 0), (9, I a0.fKind), (21, B ((a0.fKind == 3)))] [some ⟨0, Enc.cells ((T_impl_Value.mk 0 0 (ByteArray.mk #[])))⟩] ?_
  refine pc h (fun h => ?_) (fun h => ?_)
  refine pwp_seq ?_
  refine ip 103 [(2, A a2), (6, .ptr 0 0 0)] [some ⟨0, Enc.cells ((T_impl_Value.mk 0 0 (ByteArray.mk #[])))⟩] ?_
  refine pwp_imp (Imp.ghosts 1 (st' := ⟨103, [(2, A a2), (6, .ptr 0 0 0)], [some ⟨0, Enc.cells ((T_impl_Value.mk 0 0 (ByteArray.mk #[])))⟩, some ⟨0, []⟩]⟩) (by kernel_rfl)) ?_
  refine pwp_any ([[], [], [], [], [], [], [], [], [], [], [1], [1]]) ([[], [], [], [], [], [], [], [], [], [], [1], [1]]) rfl (by kernel_rfl) ?_
  refine qvM [6, 7] [] trivial 1 103 [(23, A a2), (2, A a2), (6, .ptr 0 0 0)] [some ⟨0, Enc.cells ((T_impl_Value.mk 0 0 (ByteArray.mk #[])))⟩, some ⟨0, []⟩] ?_
  obtain ⟨v6, hv7, h⟩ := bindS h
  refine qX (some 24) (pf v6 0) 103 [(24, pf v6 0), (2, A a2), (6, .ptr 0 0 0)] [some ⟨0, Enc.cells ((T_impl_Value.mk 0 0 (ByteArray.mk #[])))⟩, some ⟨0, []⟩] (fun Γ' hΓ => CoreE.of_y (idxV_sound τ_ok (by kernel_rfl) hv7)) trivial ?_
  refine qvM [6, 7] [] trivial 3 103 [(27, A a2), (26, I v6.fN), (2, A a2), (6, .ptr 0 0 0)] [some ⟨0, Enc.cells ((T_impl_Value.mk 0 0 (ByteArray.mk #[])))⟩, some ⟨0, []⟩] ?_
  obtain ⟨v8, hv9, h⟩ := bindS h
  refine qX (some 28) (pf v8 0) 103 [(28, pf v8 0), (26, I v6.fN), (2, A a2), (6, .ptr 0 0 0)] [some ⟨0, Enc.cells ((T_impl_Value.mk 0 0 (ByteArray.mk #[])))⟩, some ⟨0, []⟩] (fun Γ' hΓ => CoreE.of_y (idxV_sound τ_ok (by kernel_rfl) hv9)) trivial ?_
  refine qvM [6, 7] [] trivial 4 103 [(32, E ((T_impl_Value.mk 1 ((w64 (v6.fN + v8.fN))) (ByteArray.mk #[])))), (2, A a2), (6, .ptr 0 0 0)] [some ⟨0, Enc.cells ((T_impl_Value.mk 0 0 (ByteArray.mk #[])))⟩, some ⟨0, []⟩] ?_
  refine qX (Hm' := [none, some ⟨1, Enc.cells ((T_impl_Value.mk 0 0 (ByteArray.mk #[])))⟩]) (some 7) (.ptr 1 1 0) 103 [(7, .ptr 1 1 0), (32, E ((T_impl_Value.mk 1 ((w64 (v6.fN + v8.fN))) (ByteArray.mk #[])))), (2, A a2), (6, .ptr 0 0 0)] [some ⟨0, Enc.cells ((T_impl_Value.mk 0 0 (ByteArray.mk #[])))⟩, some ⟨1, Enc.cells ((T_impl_Value.mk 0 0 (ByteArray.mk #[])))⟩] (fun Γ' hΓ => alc_E (blk := ⟨0, []⟩) τ_ok [6, 7] 7 1 0 (ny hΓ hX) (by kernel_rfl) (by kernel_rfl)) (hB trivial) ?_
  refine qX (Hm' := [none, some ⟨1, Enc.cells ((T_impl_Value.mk 1 ((w64 (v6.fN + v8.fN))) (ByteArray.mk #[])))⟩]) none (.any) 103 [(7, .ptr 1 1 0), (2, A a2), (6, .ptr 0 0 0)] [some ⟨0, Enc.cells ((T_impl_Value.mk 0 0 (ByteArray.mk #[])))⟩, some ⟨1, Enc.cells ((T_impl_Value.mk 1 ((w64 (v6.fN + v8.fN))) (ByteArray.mk #[])))⟩] (fun Γ' hΓ => sto_E τ_ok 1 1 (by kernel_rfl)) (hB trivial) ?_
  refine qn 103 [(2, A a2), (6, .ptr 0 0 0), (7, .ptr 1 1 0)] [some ⟨0, Enc.cells ((T_impl_Value.mk 0 0 (ByteArray.mk #[])))⟩, some ⟨1, Enc.cells ((T_impl_Value.mk 1 ((w64 (v6.fN + v8.fN))) (ByteArray.mk #[])))⟩] ?_
  refine pwp_seq ?_
  refine pwp_seq ?_
  refine pwp_join (σ := Bool) (fun x10 => (⟨103, [(6, .ptr 0 0 0), (7, .ptr 1 1 0), (49, B x10)], [some ⟨0, Enc.cells ((T_impl_Value.mk 0 0 (ByteArray.mk #[])))⟩, some ⟨1, Enc.cells ((T_impl_Value.mk 1 ((w64 (v6.fN + v8.fN))) (ByteArray.mk #[])))⟩]⟩ : St)) (fun x10 => impl_Part_value_j0 v6 v8 x10 = some y) ?_ ?_
  refine rvM [6, 7] 1 103 [(2, A a2), (6, .ptr 0 0 0), (7, .ptr 1 1 0), (33, A a2)] [some ⟨0, Enc.cells ((T_impl_Value.mk 0 0 (ByteArray.mk #[])))⟩, some ⟨1, Enc.cells ((T_impl_Value.mk 1 ((w64 (v6.fN + v8.fN))) (ByteArray.mk #[])))⟩] ?_
  obtain ⟨v12, hv13, h⟩ := bindS h
  refine opsP_idx τ_ok 34 hv13 (by kernel_rfl) ?_
  refine vM [6, 7] 4 103 [(2, A a2), (6, .ptr 0 0 0), (7, .ptr 1 1 0), (38, B ((v12.fKind == 0)))] [some ⟨0, Enc.cells ((T_impl_Value.mk 0 0 (ByteArray.mk #[])))⟩, some ⟨1, Enc.cells ((T_impl_Value.mk 1 ((w64 (v6.fN + v8.fN))) (ByteArray.mk #[])))⟩] ?_
  rcases fk ((v12.fKind == 0)) with hc19 | hc19
  replace h := bT hc19 h
  rw [hc19]
  refine veM [6, 7] 11 103 [(6, .ptr 0 0 0), (7, .ptr 1 1 0), (49, B true)] [some ⟨0, Enc.cells ((T_impl_Value.mk 0 0 (ByteArray.mk #[])))⟩, some ⟨1, Enc.cells ((T_impl_Value.mk 1 ((w64 (v6.fN + v8.fN))) (ByteArray.mk #[])))⟩] ?_
  exact ⟨true, h, it [6, 7, 49]⟩
  replace h := bF hc19 h
  rw [hc19]
  refine vM [6, 7] 1 103 [(6, .ptr 0 0 0), (7, .ptr 1 1 0), (38, B false), (39, A a2)] [some ⟨0, Enc.cells ((T_impl_Value.mk 0 0 (ByteArray.mk #[])))⟩, some ⟨1, Enc.cells ((T_impl_Value.mk 1 ((w64 (v6.fN + v8.fN))) (ByteArray.mk #[])))⟩] ?_
  obtain ⟨v14, hv15, h⟩ := bindS h
  refine opsP_idx τ_ok 40 hv15 (by kernel_rfl) ?_
  refine vM [6, 7] 5 103 [(6, .ptr 0 0 0), (7, .ptr 1 1 0), (45, B ((v14.fKind == 0)))] [some ⟨0, Enc.cells ((T_impl_Value.mk 0 0 (ByteArray.mk #[])))⟩, some ⟨1, Enc.cells ((T_impl_Value.mk 1 ((w64 (v6.fN + v8.fN))) (ByteArray.mk #[])))⟩] ?_
  rcases fk ((v14.fKind == 0)) with hc18 | hc18
  replace h := bT hc18 h
  rw [hc18]
  refine veM [6, 7] 4 103 [(6, .ptr 0 0 0), (7, .ptr 1 1 0), (49, B true)] [some ⟨0, Enc.cells ((T_impl_Value.mk 0 0 (ByteArray.mk #[])))⟩, some ⟨1, Enc.cells ((T_impl_Value.mk 1 ((w64 (v6.fN + v8.fN))) (ByteArray.mk #[])))⟩] ?_
  exact ⟨true, h, it [6, 7, 49]⟩
  replace h := bF hc18 h
  rw [hc18]
  refine vM [6, 7] 1 103 [(6, .ptr 0 0 0), (7, .ptr 1 1 0), (45, B false), (46, E ((T_impl_Value.mk 1 ((w64 (v6.fN + v8.fN))) (ByteArray.mk #[]))))] [some ⟨0, Enc.cells ((T_impl_Value.mk 0 0 (ByteArray.mk #[])))⟩, some ⟨1, Enc.cells ((T_impl_Value.mk 1 ((w64 (v6.fN + v8.fN))) (ByteArray.mk #[])))⟩] ?_
  obtain ⟨v16, hv17, h⟩ := bindS h
  refine cF 47 (ok_impl_Value_ok hv17) ?_
  refine veM [6, 7] 2 103 [(6, .ptr 0 0 0), (7, .ptr 1 1 0), (49, B ((!v16)))] [some ⟨0, Enc.cells ((T_impl_Value.mk 0 0 (ByteArray.mk #[])))⟩, some ⟨1, Enc.cells ((T_impl_Value.mk 1 ((w64 (v6.fN + v8.fN))) (ByteArray.mk #[])))⟩] ?_
  exact ⟨(!v16), h, it [6, 7, 49]⟩
  rintro x10 h
  unfold impl_Part_value_j0 at h
  refine pc h (fun h => ?_) (fun h => ?_)
  refine srveM [6, 7] 103 [(6, .ptr 0 0 0)] [some ⟨0, Enc.cells ((T_impl_Value.mk 0 0 (ByteArray.mk #[])))⟩, some ⟨1, Enc.cells ((T_impl_Value.mk 1 ((w64 (v6.fN + v8.fN))) (ByteArray.mk #[])))⟩] ?_
  cases h
  exact pwp_ret rz
  refine pwp_skip ?_
  refine srveM [6, 7] 103 [(6, .ptr 0 0 0)] [some ⟨0, Enc.cells ((T_impl_Value.mk 1 ((w64 (v6.fN + v8.fN))) (ByteArray.mk #[])))⟩, some ⟨1, Enc.cells ((T_impl_Value.mk 1 ((w64 (v6.fN + v8.fN))) (ByteArray.mk #[])))⟩] ?_
  cases h
  exact pwp_ret rz
  refine srveM [6, 7] 103 [(2, A a2), (3, pf a0 0), (6, .ptr 0 0 0), (9, I a0.fKind), (52, B ((a0.fKind == 4)))] [some ⟨0, Enc.cells ((T_impl_Value.mk 0 0 (ByteArray.mk #[])))⟩] ?_
  refine pc h (fun h => ?_) (fun h => ?_)
  refine pwp_seq ?_
  refine ip 103 [(2, A a2), (3, pf a0 0), (6, .ptr 0 0 0)] [some ⟨0, Enc.cells ((T_impl_Value.mk 0 0 (ByteArray.mk #[])))⟩] ?_
  refine pwp_any ([[], [], [], [], [], [], [], [], [], [], [0]]) ([[], [], [], [], [], [], [], [], [], [], [0]]) rfl (by kernel_rfl) ?_
  refine qvM [6, 7] [] trivial 3 103 [(56, A a2), (55, I a0.fN), (2, A a2), (6, .ptr 0 0 0)] [some ⟨0, Enc.cells ((T_impl_Value.mk 0 0 (ByteArray.mk #[])))⟩] ?_
  obtain ⟨v21, hv22, h⟩ := bindS h
  refine qX (some 57) (pf v21 0) 103 [(57, pf v21 0), (55, I a0.fN), (2, A a2), (6, .ptr 0 0 0)] [some ⟨0, Enc.cells ((T_impl_Value.mk 0 0 (ByteArray.mk #[])))⟩] (fun Γ' hΓ => CoreE.of_y (idxV_sound τ_ok (by kernel_rfl) hv22)) trivial ?_
  refine qvM [6, 7] [] trivial 2 103 [(59, A a2), (58, E v21), (55, I a0.fN), (6, .ptr 0 0 0)] [some ⟨0, Enc.cells ((T_impl_Value.mk 0 0 (ByteArray.mk #[])))⟩] ?_
  obtain ⟨v23, hv24, h⟩ := bindS h
  refine qX (some 60) (pf v23 0) 103 [(60, pf v23 0), (58, E v21), (55, I a0.fN), (6, .ptr 0 0 0)] [some ⟨0, Enc.cells ((T_impl_Value.mk 0 0 (ByteArray.mk #[])))⟩] (fun Γ' hΓ => CoreE.of_y (idxV_sound τ_ok (by kernel_rfl) hv24)) trivial ?_
  refine qvM [6, 7] [] trivial 1 103 [(61, E v23), (58, E v21), (55, I a0.fN), (6, .ptr 0 0 0)] [some ⟨0, Enc.cells ((T_impl_Value.mk 0 0 (ByteArray.mk #[])))⟩] ?_
  obtain ⟨v25, hv26, h⟩ := bindS h
  refine qX (some 62) (I v25) 103 [(62, I v25), (6, .ptr 0 0 0)] [some ⟨0, Enc.cells ((T_impl_Value.mk 0 0 (ByteArray.mk #[])))⟩] (fun Γ' hΓ => CoreE.of_g (callV_sound (τ := τ) (by kernel_rfl) rfl (ok_impl_Compare hv26) (FzTo.frz rfl))) trivial ?_
  obtain ⟨v27, hv28, h⟩ := bindS h
  refine qX (some 63) (E v27) 103 [(63, E v27), (6, .ptr 0 0 0)] [some ⟨0, Enc.cells ((T_impl_Value.mk 0 0 (ByteArray.mk #[])))⟩] (fun Γ' hΓ => CoreE.of_g (callV_sound (τ := τ) (by kernel_rfl) rfl (ok_impl_ValueOf hv28) (FzTo.frz rfl))) trivial ?_
  refine qX (Hm' := [sc 0 v27]) none (.any) 103 [(6, .ptr 0 0 0)] [sc 0 v27] (fun Γ' hΓ => sto_E τ_ok 0 0 (by kernel_rfl)) (hB trivial) ?_
  refine qn 103 [(6, .ptr 0 0 0)] [sc 0 v27] ?_
  cases h
  exact pwp_ret rz
  refine srveM [6, 7] 103 [(2, A a2), (6, .ptr 0 0 0), (9, I a0.fKind), (64, B ((a0.fKind == 5)))] [some ⟨0, Enc.cells ((T_impl_Value.mk 0 0 (ByteArray.mk #[])))⟩] ?_
  refine pc h (fun h => ?_) (fun h => ?_)
  refine pwp_seq ?_
  refine ip 103 [(2, A a2), (6, .ptr 0 0 0)] [some ⟨0, Enc.cells ((T_impl_Value.mk 0 0 (ByteArray.mk #[])))⟩] ?_
  refine pwp_any ([[], [], [], [], [], [], [], [], [], [], [0]]) ([[], [], [], [], [], [], [], [], [], [], [0]]) rfl (by kernel_rfl) ?_
  refine qvM [6, 7] [] trivial 1 103 [(66, A a2), (2, A a2), (6, .ptr 0 0 0)] [some ⟨0, Enc.cells ((T_impl_Value.mk 0 0 (ByteArray.mk #[])))⟩] ?_
  obtain ⟨v30, hv31, h⟩ := bindS h
  refine qX (some 67) (pf v30 0) 103 [(67, pf v30 0), (2, A a2), (6, .ptr 0 0 0)] [some ⟨0, Enc.cells ((T_impl_Value.mk 0 0 (ByteArray.mk #[])))⟩] (fun Γ' hΓ => CoreE.of_y (idxV_sound τ_ok (by kernel_rfl) hv31)) trivial ?_
  refine qvM [6, 7] [] trivial 1 103 [(68, E v30), (2, A a2), (6, .ptr 0 0 0)] [some ⟨0, Enc.cells ((T_impl_Value.mk 0 0 (ByteArray.mk #[])))⟩] ?_
  obtain ⟨v32, hv33, h⟩ := bindS h
  refine qX (some 69) (I v32) 103 [(69, I v32), (2, A a2), (6, .ptr 0 0 0)] [some ⟨0, Enc.cells ((T_impl_Value.mk 0 0 (ByteArray.mk #[])))⟩] (fun Γ' hΓ => CoreE.of_g (callV_sound (τ := τ) (by kernel_rfl) rfl (ok_impl_TruthOf hv33) (FzTo.frz rfl))) trivial ?_
  refine qvM [6, 7] [] trivial 1 103 [(70, A a2), (69, I v32), (6, .ptr 0 0 0)] [some ⟨0, Enc.cells ((T_impl_Value.mk 0 0 (ByteArray.mk #[])))⟩] ?_
  obtain ⟨v34, hv35, h⟩ := bindS h
  refine qX (some 71) (pf v34 0) 103 [(71, pf v34 0), (69, I v32), (6, .ptr 0 0 0)] [some ⟨0, Enc.cells ((T_impl_Value.mk 0 0 (ByteArray.mk #[])))⟩] (fun Γ' hΓ => CoreE.of_y (idxV_sound τ_ok (by kernel_rfl) hv35)) trivial ?_
  refine qvM [6, 7] [] trivial 1 103 [(72, E v34), (69, I v32), (6, .ptr 0 0 0)] [some ⟨0, Enc.cells ((T_impl_Value.mk 0 0 (ByteArray.mk #[])))⟩] ?_
  obtain ⟨v36, hv37, h⟩ := bindS h
  refine qX (some 73) (I v36) 103 [(73, I v36), (69, I v32), (6, .ptr 0 0 0)] [some ⟨0, Enc.cells ((T_impl_Value.mk 0 0 (ByteArray.mk #[])))⟩] (fun Γ' hΓ => CoreE.of_g (callV_sound (τ := τ) (by kernel_rfl) rfl (ok_impl_TruthOf hv37) (FzTo.frz rfl))) trivial ?_
  obtain ⟨v38, hv39, h⟩ := bindS h
  refine qX (some 74) (I v38) 103 [(74, I v38), (6, .ptr 0 0 0)] [some ⟨0, Enc.cells ((T_impl_Value.mk 0 0 (ByteArray.mk #[])))⟩] (fun Γ' hΓ => CoreE.of_g (callV_sound (τ := τ) (by kernel_rfl) rfl (ok_impl_AndOf hv39) (FzTo.frz rfl))) trivial ?_
  obtain ⟨v40, hv41, h⟩ := bindS h
  refine qX (some 75) (E v40) 103 [(75, E v40), (6, .ptr 0 0 0)] [some ⟨0, Enc.cells ((T_impl_Value.mk 0 0 (ByteArray.mk #[])))⟩] (fun Γ' hΓ => CoreE.of_g (callV_sound (τ := τ) (by kernel_rfl) rfl (ok_impl_ValueOf hv41) (FzTo.frz rfl))) trivial ?_
  refine qX (Hm' := [sc 0 v40]) none (.any) 103 [(6, .ptr 0 0 0)] [sc 0 v40] (fun Γ' hΓ => sto_E τ_ok 0 0 (by kernel_rfl)) (hB trivial) ?_
  refine qn 103 [(6, .ptr 0 0 0)] [sc 0 v40] ?_
  cases h
  exact pwp_ret rz
  refine srveM [6, 7] 103 [(2, A a2), (6, .ptr 0 0 0), (9, I a0.fKind), (76, B ((a0.fKind == 6)))] [some ⟨0, Enc.cells ((T_impl_Value.mk 0 0 (ByteArray.mk #[])))⟩] ?_
  refine pc h (fun h => ?_) (fun h => ?_)
  refine pwp_seq ?_
  refine ip 103 [(2, A a2), (6, .ptr 0 0 0)] [some ⟨0, Enc.cells ((T_impl_Value.mk 0 0 (ByteArray.mk #[])))⟩] ?_
  refine pwp_any ([[], [], [], [], [], [], [], [], [], [], [0]]) ([[], [], [], [], [], [], [], [], [], [], [0]]) rfl (by kernel_rfl) ?_
  refine qvM [6, 7] [] trivial 1 103 [(78, A a2), (2, A a2), (6, .ptr 0 0 0)] [some ⟨0, Enc.cells ((T_impl_Value.mk 0 0 (ByteArray.mk #[])))⟩] ?_
  obtain ⟨v43, hv44, h⟩ := bindS h
  refine qX (some 79) (pf v43 0) 103 [(79, pf v43 0), (2, A a2), (6, .ptr 0 0 0)] [some ⟨0, Enc.cells ((T_impl_Value.mk 0 0 (ByteArray.mk #[])))⟩] (fun Γ' hΓ => CoreE.of_y (idxV_sound τ_ok (by kernel_rfl) hv44)) trivial ?_
  refine qvM [6, 7] [] trivial 1 103 [(80, E v43), (2, A a2), (6, .ptr 0 0 0)] [some ⟨0, Enc.cells ((T_impl_Value.mk 0 0 (ByteArray.mk #[])))⟩] ?_
  obtain ⟨v45, hv46, h⟩ := bindS h
  refine qX (some 81) (I v45) 103 [(81, I v45), (2, A a2), (6, .ptr 0 0 0)] [some ⟨0, Enc.cells ((T_impl_Value.mk 0 0 (ByteArray.mk #[])))⟩] (fun Γ' hΓ => CoreE.of_g (callV_sound (τ := τ) (by kernel_rfl) rfl (ok_impl_TruthOf hv46) (FzTo.frz rfl))) trivial ?_
  refine qvM [6, 7] [] trivial 1 103 [(82, A a2), (81, I v45), (6, .ptr 0 0 0)] [some ⟨0, Enc.cells ((T_impl_Value.mk 0 0 (ByteArray.mk #[])))⟩] ?_
  obtain ⟨v47, hv48, h⟩ := bindS h
  refine qX (some 83) (pf v47 0) 103 [(83, pf v47 0), (81, I v45), (6, .ptr 0 0 0)] [some ⟨0, Enc.cells ((T_impl_Value.mk 0 0 (ByteArray.mk #[])))⟩] (fun Γ' hΓ => CoreE.of_y (idxV_sound τ_ok (by kernel_rfl) hv48)) trivial ?_
  refine qvM [6, 7] [] trivial 1 103 [(84, E v47), (81, I v45), (6, .ptr 0 0 0)] [some ⟨0, Enc.cells ((T_impl_Value.mk 0 0 (ByteArray.mk #[])))⟩] ?_
  obtain ⟨v49, hv50, h⟩ := bindS h
  refine qX (some 85) (I v49) 103 [(85, I v49), (81, I v45), (6, .ptr 0 0 0)] [some ⟨0, Enc.cells ((T_impl_Value.mk 0 0 (ByteArray.mk #[])))⟩] (fun Γ' hΓ => CoreE.of_g (callV_sound (τ := τ) (by kernel_rfl) rfl (ok_impl_TruthOf hv50) (FzTo.frz rfl))) trivial ?_
  obtain ⟨v51, hv52, h⟩ := bindS h
  refine qX (some 86) (I v51) 103 [(86, I v51), (6, .ptr 0 0 0)] [some ⟨0, Enc.cells ((T_impl_Value.mk 0 0 (ByteArray.mk #[])))⟩] (fun Γ' hΓ => CoreE.of_g (callV_sound (τ := τ) (by kernel_rfl) rfl (ok_impl_OrOf hv52) (FzTo.frz rfl))) trivial ?_
  obtain ⟨v53, hv54, h⟩ := bindS h
  refine qX (some 87) (E v53) 103 [(87, E v53), (6, .ptr 0 0 0)] [some ⟨0, Enc.cells ((T_impl_Value.mk 0 0 (ByteArray.mk #[])))⟩] (fun Γ' hΓ => CoreE.of_g (callV_sound (τ := τ) (by kernel_rfl) rfl (ok_impl_ValueOf hv54) (FzTo.frz rfl))) trivial ?_
  refine qX (Hm' := [sc 0 v53]) none (.any) 103 [(6, .ptr 0 0 0)] [sc 0 v53] (fun Γ' hΓ => sto_E τ_ok 0 0 (by kernel_rfl)) (hB trivial) ?_
  refine qn 103 [(6, .ptr 0 0 0)] [sc 0 v53] ?_
  cases h
  exact pwp_ret rz
  refine srveM [6, 7] 103 [(2, A a2), (6, .ptr 0 0 0), (88, B ((a0.fKind == 7)))] [some ⟨0, Enc.cells ((T_impl_Value.mk 0 0 (ByteArray.mk #[])))⟩] ?_
  refine pc h (fun h => ?_) (fun h => ?_)
  refine srvM [6, 7] 1 103 [(6, .ptr 0 0 0), (90, A a2)] [some ⟨0, Enc.cells ((T_impl_Value.mk 0 0 (ByteArray.mk #[])))⟩] ?_
  obtain ⟨v56, hv57, h⟩ := bindS h
  refine opsP_idx τ_ok 91 hv57 (by kernel_rfl) ?_
  refine vM [6, 7] 1 103 [(6, .ptr 0 0 0), (92, E v56)] [some ⟨0, Enc.cells ((T_impl_Value.mk 0 0 (ByteArray.mk #[])))⟩] ?_
  obtain ⟨v58, hv59, h⟩ := bindS h
  refine cF 93 (ok_impl_TruthOf hv59) ?_
  obtain ⟨v60, hv61, h⟩ := bindS h
  refine cF 94 (ok_impl_NotOf hv61) ?_
  obtain ⟨v62, hv63, h⟩ := bindS h
  refine cF 95 (ok_impl_ValueOf hv63) ?_
  refine veM [6, 7] 1 103 [(6, .ptr 0 0 0)] [sc 0 v62] ?_
  cases h
  exact pwp_ret rz
  refine pwp_skip ?_
  refine srvM [6, 7] 1 103 [(6, .ptr 0 0 0), (96, A a2)] [some ⟨0, Enc.cells ((T_impl_Value.mk 0 0 (ByteArray.mk #[])))⟩] ?_
  obtain ⟨v64, hv65, h⟩ := bindS h
  refine opsP_idx τ_ok 97 hv65 (by kernel_rfl) ?_
  refine vM [6, 7] 3 103 [(6, .ptr 0 0 0), (100, B ((v64.fKind == 0)))] [some ⟨0, Enc.cells ((T_impl_Value.mk 0 0 (ByteArray.mk #[])))⟩] ?_
  obtain ⟨v66, hv67, h⟩ := bindS h
  refine cF 101 (ok_impl_truthIf hv67) ?_
  obtain ⟨v68, hv69, h⟩ := bindS h
  refine cF 102 (ok_impl_ValueOf hv69) ?_
  refine veM [6, 7] 1 103 [(6, .ptr 0 0 0)] [sc 0 v68] ?_
  cases h
  exact pwp_ret rz
def spec_LoopJoin_j2 (x11 : Int) (K14 : Int → (List (List T_impl_Value)) → Option (List (List T_impl_Value))) (x16 : List (List T_impl_Value)) : Option (List (List T_impl_Value)) := K14 ((w64 (x11 + 1))) x16
def spec_LoopJoin_j3 (a2 : List (List T_impl_Value)) (a3 : List (List T_impl_Value)) (x5 : Int) (x11 : Int) (x12 : List (List T_impl_Value)) (K14 : Int → (List (List T_impl_Value)) → Option (List (List T_impl_Value))) (x17 : Bool) : Option (List (List T_impl_Value)) := bif x17 then (getI a2 x5).bind fun v19 => (getI a3 x11).bind fun v21 => (spec_l6Joined v19 v21).bind fun v23 => (app x12 (([v23] : List (List T_impl_Value)))).bind fun v25 => spec_LoopJoin_j2 x11 K14 v25 else spec_LoopJoin_j2 x11 K14 x12
def spec_LoopJoin_l1 (a2 : List (List T_impl_Value)) (a3 : List (List T_impl_Value)) (a4 : Int) (a5 : Int) (x5 : Int) (K8 : Int → (List (List T_impl_Value)) → Option (List (List T_impl_Value))) : Nat → Int → (List (List T_impl_Value)) → Option (List (List T_impl_Value))
  | 0, _, _ => none
  | f13 + 1, x11, x12 => bif (decide (x11 < ((a3.length : Int)))) then (getI a2 x5).bind fun v27 => (getI v27 a4).bind fun v29 => bif (!(v29.fKind == 0)) then (getI a2 x5).bind fun v31 => (getI v31 a4).bind fun v33 => (getI a3 x11).bind fun v35 => (getI v35 a5).bind fun v37 => spec_LoopJoin_j3 a2 a3 x5 x11 x12 (spec_LoopJoin_l1 a2 a3 a4 a5 x5 K8 f13) ((eq_T_impl_Value v33 v37)) else spec_LoopJoin_j3 a2 a3 x5 x11 x12 (spec_LoopJoin_l1 a2 a3 a4 a5 x5 K8 f13) false else K8 ((w64 (x5 + 1))) x12
def spec_LoopJoin_l0 (a2 : List (List T_impl_Value)) (a3 : List (List T_impl_Value)) (a4 : Int) (a5 : Int) : Nat → Int → (List (List T_impl_Value)) → Option (List (List T_impl_Value))
  | 0, _, _ => none
  | f7 + 1, x5, x6 => bif (decide (x5 < ((a2.length : Int)))) then spec_LoopJoin_l1 a2 a3 a4 a5 x5 (spec_LoopJoin_l0 a2 a3 a4 a5 f7) FUEL 0 x6 else some x6
def spec_LoopJoin (a0 : List T_impl_Column) (a1 : List T_impl_Column) (a2 : List (List T_impl_Value)) (a3 : List (List T_impl_Value)) (a4 : Int) (a5 : Int) : Option (List (List T_impl_Value)) := (spec_l22Ready a0 a1 a2 a3 a4 a5).bind fun v1 => bif (!v1) then some (([] : List (List T_impl_Value))) else spec_LoopJoin_l0 a2 a3 a4 a5 FUEL 0 (([] : List (List T_impl_Value)))
theorem ok_spec_LoopJoin {a0 : List T_impl_Column} {a1 : List T_impl_Column} {a2 : List (List T_impl_Value)} {a3 : List (List T_impl_Value)} {a4 : Int} {a5 : Int} {y : List (List T_impl_Value)} (h : spec_LoopJoin a0 a1 a2 a3 a4 a5 = some y) : OK Tryz.prog 15 [A a0, A a1, A a2, A a3, I a4, I a5] (O y) := by
  refine ow Tryz.func15 fun Γ hX => ?_
  unfold spec_LoopJoin at h
  refine srve 77 [(0, A a0), (1, A a1), (2, A a2), (3, A a3), (4, I a4), (5, I a5)] [] ?_
  refine srve 77 [(0, A a0), (1, A a1), (2, A a2), (3, A a3), (4, I a4), (5, I a5), (13, .arr 1 0 (eL ([] : List (List T_impl_Value))) true)] [] ?_
  refine pwp_seq ?_
  refine srv 6 77 [(2, A a2), (3, A a3), (4, I a4), (5, I a5), (13, .arr 1 0 (eL ([] : List (List T_impl_Value))) true), (17, A a0), (18, A a1), (19, A a2), (20, A a3), (21, I a4), (22, I a5)] [] ?_
  obtain ⟨v1, hv2, h⟩ := bindS h
  refine cF 23 (ok_spec_l22Ready hv2) ?_
  refine ve 1 77 [(2, A a2), (3, A a3), (4, I a4), (5, I a5), (13, .arr 1 0 (eL ([] : List (List T_impl_Value))) true), (24, B ((!v1)))] [] ?_
  refine pc h (fun h => ?_) (fun h => ?_)
  refine srve 77 [(12, .arr 1 0 (eL ([] : List (List T_impl_Value))) true)] [] ?_
  refine ip 77 [(12, .arr 1 0 (eL ([] : List (List T_impl_Value))) true)] [] ?_
  refine pwp_imp (Imp.thawS (st' := ⟨77, [(12, .ref 0 0 0 1 (([] : List (List T_impl_Value))).length false)], [some ⟨0, eL (([] : List (List T_impl_Value)))⟩]⟩) 12 [12] (by kernel_rfl)) ?_
  have h := si h
  subst h
  exact pwp_ret (rt (.ref 0 0 0 1 (([] : List (List T_impl_Value))).length false) (OutP.list (v := 0) (by kernel_rfl)))
  refine pwp_skip ?_
  refine pwp_seq ?_
  refine srve 77 [(2, A a2), (3, A a3), (4, I a4), (5, I a5), (13, .arr 1 0 (eL ([] : List (List T_impl_Value))) true), (14, I 0)] [] ?_
  refine pwp_block ?_
  refine pwp_loop (ι := Nat × Int × (List (List T_impl_Value))) (fun (f7, x5, x6) => (⟨77, [(2, A a2), (3, A a3), (4, I a4), (5, I a5), (13, rf 0 0 1 x6), (14, I x5)], [sl 0 x6]⟩ : St)) (fun (f7, x5, x6) => spec_LoopJoin_l0 a2 a3 a4 a5 f7 x5 x6 = some y) Prod.fst (FUEL, 0, ([] : List (List T_impl_Value))) h (Imp.thawS 13 [2, 3, 4, 5, 13, 14] (by kernel_rfl)) ?_
  rintro ⟨f7, x5, x6⟩ h
  dsimp only at h ⊢
  rcases f7 with _ | f7
  cases h
  rw [spec_LoopJoin_l0] at h
  refine pwp_seq ?_
  refine srve 77 [(2, A a2), (3, A a3), (4, I a4), (5, I a5), (13, rf 0 0 1 x6), (14, I x5), (29, B ((decide (x5 < ((a2.length : Int))))))] [sl 0 x6] ?_
  refine pc h (fun h => ?_) (fun h => ?_)
  refine pwp_skip ?_
  refine pwp_seq ?_
  refine pwp_block ?_
  refine srve 77 [(2, A a2), (3, A a3), (4, I a4), (5, I a5), (13, rf 0 0 1 x6), (14, I x5), (15, I 0)] [sl 0 x6] ?_
  refine pwp_block ?_
  refine pwp_loop (ι := Nat × Int × (List (List T_impl_Value))) (fun (f13, x11, x12) => (⟨77, [(2, A a2), (3, A a3), (4, I a4), (5, I a5), (13, rf 0 0 1 x12), (14, I x5), (15, I x11)], [sl 0 x12]⟩ : St)) (fun (f13, x11, x12) => spec_LoopJoin_l1 a2 a3 a4 a5 x5 (spec_LoopJoin_l0 a2 a3 a4 a5 f7) f13 x11 x12 = some y) Prod.fst (FUEL, 0, x6) h (it [2, 3, 4, 5, 13, 14, 15]) ?_
  rintro ⟨f13, x11, x12⟩ h
  dsimp only at h ⊢
  rcases f13 with _ | f13
  cases h
  rw [spec_LoopJoin_l1] at h
  refine pwp_seq ?_
  refine srve 77 [(2, A a2), (3, A a3), (4, I a4), (5, I a5), (13, rf 0 0 1 x12), (14, I x5), (15, I x11), (35, B ((decide (x11 < ((a3.length : Int))))))] [sl 0 x12] ?_
  refine pc h (fun h => ?_) (fun h => ?_)
  refine pwp_skip ?_
  refine pwp_seq ?_
  refine pwp_join (σ := (List (List T_impl_Value))) (fun x16 => (⟨77, [(2, A a2), (3, A a3), (4, I a4), (5, I a5), (13, rf 0 0 1 x16), (14, I x5), (15, I x11)], [sl 0 x16]⟩ : St)) (fun x16 => spec_LoopJoin_j2 x11 (spec_LoopJoin_l1 a2 a3 a4 a5 x5 (spec_LoopJoin_l0 a2 a3 a4 a5 f7) f13) x16 = some y) ?_ ?_
  refine pwp_block ?_
  refine pwp_seq ?_
  refine pwp_join (σ := Bool) (fun x17 => (⟨77, [(2, A a2), (3, A a3), (4, I a4), (5, I a5), (13, rf 0 0 1 x12), (14, I x5), (15, I x11), (63, B x17)], [sl 0 x12]⟩ : St)) (fun x17 => spec_LoopJoin_j3 a2 a3 x5 x11 x12 (spec_LoopJoin_l1 a2 a3 a4 a5 x5 (spec_LoopJoin_l0 a2 a3 a4 a5 f7) f13) x17 = some y) ?_ ?_
  refine ip 77 [(2, A a2), (3, A a3), (4, I a4), (5, I a5), (13, rf 0 0 1 x12), (14, I x5), (15, I x11)] [sl 0 x12] ?_
  refine pN 26 ?_
  refine qv [] trivial 2 77 [(39, I x5), (38, A a2), (2, A a2), (3, A a3), (4, I a4), (5, I a5), (13, rf 0 0 1 x12), (14, I x5), (15, I x11)] [sl 0 x12] ?_
  obtain ⟨v27, hv28, h⟩ := bindS h
  refine qX (some 40) (pf v27 0) 77 [(40, pf v27 0), (2, A a2), (3, A a3), (4, I a4), (5, I a5), (13, rf 0 0 1 x12), (14, I x5), (15, I x11)] [sl 0 x12] (fun Γ' hΓ => CoreE.of_y (idxV_sound τ_ok (by kernel_rfl) hv28)) trivial ?_
  refine qv [] trivial 2 77 [(42, I a4), (41, A v27), (2, A a2), (3, A a3), (4, I a4), (5, I a5), (13, rf 0 0 1 x12), (14, I x5), (15, I x11)] [sl 0 x12] ?_
  obtain ⟨v29, hv30, h⟩ := bindS h
  refine qX (some 43) (pf v29 0) 77 [(43, pf v29 0), (2, A a2), (3, A a3), (4, I a4), (5, I a5), (13, rf 0 0 1 x12), (14, I x5), (15, I x11)] [sl 0 x12] (fun Γ' hΓ => CoreE.of_y (idxV_sound τ_ok (by kernel_rfl) hv30)) trivial ?_
  refine qv [] trivial 4 77 [(47, B ((!(v29.fKind == 0)))), (2, A a2), (3, A a3), (4, I a4), (5, I a5), (13, rf 0 0 1 x12), (14, I x5), (15, I x11)] [sl 0 x12] ?_
  rcases fk ((!(v29.fKind == 0))) with hc39 | hc39
  replace h := bT hc39 h
  rw [hc39]
  refine qv [] trivial 2 77 [(49, I x5), (48, A a2), (47, B true), (2, A a2), (3, A a3), (4, I a4), (5, I a5), (13, rf 0 0 1 x12), (14, I x5), (15, I x11)] [sl 0 x12] ?_
  obtain ⟨v31, hv32, h⟩ := bindS h
  refine qX (some 50) (pf v31 0) 77 [(50, pf v31 0), (49, I x5), (48, A a2), (47, B true), (2, A a2), (3, A a3), (4, I a4), (5, I a5), (13, rf 0 0 1 x12), (14, I x5), (15, I x11)] [sl 0 x12] (fun Γ' hΓ => CoreE.of_y (idxV_sound τ_ok (by kernel_rfl) hv32)) trivial ?_
  refine qv [] trivial 2 77 [(52, I a4), (51, A v31), (50, pf v31 0), (49, I x5), (48, A a2), (47, B true), (2, A a2), (3, A a3), (4, I a4), (5, I a5), (13, rf 0 0 1 x12), (14, I x5), (15, I x11)] [sl 0 x12] ?_
  obtain ⟨v33, hv34, h⟩ := bindS h
  refine qX (some 53) (pf v33 0) 77 [(53, pf v33 0), (52, I a4), (51, A v31), (50, pf v31 0), (49, I x5), (48, A a2), (47, B true), (2, A a2), (3, A a3), (4, I a4), (5, I a5), (13, rf 0 0 1 x12), (14, I x5), (15, I x11)] [sl 0 x12] (fun Γ' hΓ => CoreE.of_y (idxV_sound τ_ok (by kernel_rfl) hv34)) trivial ?_
  refine qv [] trivial 3 77 [(56, I x11), (55, A a3), (54, E v33), (53, pf v33 0), (52, I a4), (51, A v31), (50, pf v31 0), (49, I x5), (48, A a2), (47, B true), (2, A a2), (3, A a3), (4, I a4), (5, I a5), (13, rf 0 0 1 x12), (14, I x5), (15, I x11)] [sl 0 x12] ?_
  obtain ⟨v35, hv36, h⟩ := bindS h
  refine qX (some 57) (pf v35 0) 77 [(57, pf v35 0), (56, I x11), (55, A a3), (54, E v33), (53, pf v33 0), (52, I a4), (51, A v31), (50, pf v31 0), (49, I x5), (48, A a2), (47, B true), (2, A a2), (3, A a3), (4, I a4), (5, I a5), (13, rf 0 0 1 x12), (14, I x5), (15, I x11)] [sl 0 x12] (fun Γ' hΓ => CoreE.of_y (idxV_sound τ_ok (by kernel_rfl) hv36)) trivial ?_
  refine qv [] trivial 2 77 [(59, I a5), (58, A v35), (57, pf v35 0), (56, I x11), (55, A a3), (54, E v33), (53, pf v33 0), (52, I a4), (51, A v31), (50, pf v31 0), (49, I x5), (48, A a2), (47, B true), (2, A a2), (3, A a3), (4, I a4), (5, I a5), (13, rf 0 0 1 x12), (14, I x5), (15, I x11)] [sl 0 x12] ?_
  obtain ⟨v37, hv38, h⟩ := bindS h
  refine qX (some 60) (pf v37 0) 77 [(60, pf v37 0), (59, I a5), (58, A v35), (57, pf v35 0), (56, I x11), (55, A a3), (54, E v33), (53, pf v33 0), (52, I a4), (51, A v31), (50, pf v31 0), (49, I x5), (48, A a2), (47, B true), (2, A a2), (3, A a3), (4, I a4), (5, I a5), (13, rf 0 0 1 x12), (14, I x5), (15, I x11)] [sl 0 x12] (fun Γ' hΓ => CoreE.of_y (idxV_sound τ_ok (by kernel_rfl) hv38)) trivial ?_
  refine qvn [] trivial 3 77 [(2, A a2), (3, A a3), (4, I a4), (5, I a5), (13, rf 0 0 1 x12), (14, I x5), (15, I x11), (48, A a2), (49, I x5), (50, pf v31 0), (51, A v31), (52, I a4), (53, pf v33 0), (54, E v33), (55, A a3), (56, I x11), (57, pf v35 0), (58, A v35), (59, I a5), (60, pf v37 0), (61, E v37), (62, B ((eq_T_impl_Value v33 v37))), (63, B ((eq_T_impl_Value v33 v37)))] [sl 0 x12] ?_
  exact ⟨(eq_T_impl_Value v33 v37), h, it [2, 3, 4, 5, 13, 14, 15, 63]⟩
  replace h := bF hc39 h
  rw [hc39]
  refine qvn [] trivial 16 77 [(2, A a2), (3, A a3), (4, I a4), (5, I a5), (13, rf 0 0 1 x12), (14, I x5), (15, I x11), (48, .lit undef), (49, .lit undef), (50, .lit undef), (51, .lit undef), (52, .lit undef), (53, .lit undef), (54, .lit undef), (55, .lit undef), (56, .lit undef), (57, .lit undef), (58, .lit undef), (59, .lit undef), (60, .lit undef), (61, .lit undef), (62, .lit undef), (63, B false)] [sl 0 x12] ?_
  exact ⟨false, h, it [2, 3, 4, 5, 13, 14, 15, 63]⟩
  rintro x17 h
  unfold spec_LoopJoin_j3 at h
  refine pc h (fun h => ?_) (fun h => ?_)
  refine ip 77 [(2, A a2), (3, A a3), (4, I a4), (5, I a5), (13, rf 0 0 1 x12), (14, I x5), (15, I x11)] [sl 0 x12] ?_
  refine pwp_any ([[0], [], [], [], [], [], [], [], [], [], [], [0], [0]]) ([[], [], [], [], [], [], [], [], [], [], [], [0], []]) rfl (by kernel_rfl) ?_
  refine qv [0] (hL trivial) 1 77 [(64, rf 0 0 1 x12), (2, A a2), (3, A a3), (4, I a4), (5, I a5), (13, rf 0 0 1 x12), (14, I x5), (15, I x11)] [sl 0 x12] ?_
  refine qv [] trivial 2 77 [(66, I x5), (65, A a2), (64, rf 0 0 1 x12), (2, A a2), (3, A a3), (4, I a4), (5, I a5), (13, rf 0 0 1 x12), (14, I x5), (15, I x11)] [sl 0 x12] ?_
  obtain ⟨v19, hv20, h⟩ := bindS h
  refine qX (some 67) (pf v19 0) 77 [(67, pf v19 0), (64, rf 0 0 1 x12), (2, A a2), (3, A a3), (4, I a4), (5, I a5), (13, rf 0 0 1 x12), (14, I x5), (15, I x11)] [sl 0 x12] (fun Γ' hΓ => CoreE.of_y (idxV_sound τ_ok (by kernel_rfl) hv20)) trivial ?_
  refine qv [] trivial 3 77 [(70, I x11), (69, A a3), (68, A v19), (64, rf 0 0 1 x12), (2, A a2), (3, A a3), (4, I a4), (5, I a5), (13, rf 0 0 1 x12), (14, I x5), (15, I x11)] [sl 0 x12] ?_
  obtain ⟨v21, hv22, h⟩ := bindS h
  refine qX (some 71) (pf v21 0) 77 [(71, pf v21 0), (68, A v19), (64, rf 0 0 1 x12), (2, A a2), (3, A a3), (4, I a4), (5, I a5), (13, rf 0 0 1 x12), (14, I x5), (15, I x11)] [sl 0 x12] (fun Γ' hΓ => CoreE.of_y (idxV_sound τ_ok (by kernel_rfl) hv22)) trivial ?_
  refine qv [] trivial 1 77 [(72, A v21), (68, A v19), (64, rf 0 0 1 x12), (2, A a2), (3, A a3), (4, I a4), (5, I a5), (13, rf 0 0 1 x12), (14, I x5), (15, I x11)] [sl 0 x12] ?_
  obtain ⟨v23, hv24, h⟩ := bindS h
  refine qX (some 73) (A v23) 77 [(73, A v23), (64, rf 0 0 1 x12), (2, A a2), (3, A a3), (4, I a4), (5, I a5), (13, rf 0 0 1 x12), (14, I x5), (15, I x11)] [sl 0 x12] (fun Γ' hΓ => CoreE.of_g (callV_sound (τ := τ) (by kernel_rfl) rfl (ok_spec_l6Joined hv24) (FzTo.O _))) trivial ?_
  refine qv [] trivial 1 77 [(74, .arr 1 (([v23] : List (List T_impl_Value))).length (eL ([v23] : List (List T_impl_Value))) true), (64, rf 0 0 1 x12), (2, A a2), (3, A a3), (4, I a4), (5, I a5), (13, rf 0 0 1 x12), (14, I x5), (15, I x11)] [sl 0 x12] ?_
  obtain ⟨v25, hv26, h⟩ := bindS h
  refine qX (some 75) (rf 0 1 1 v25) 77 [(75, rf 0 1 1 v25), (2, A a2), (3, A a3), (4, I a4), (5, I a5), (13, rf 0 0 1 x12), (14, I x5), (15, I x11)] [sl 1 v25] (fun Γ' hΓ => app_Ew τ_ok 75 0 0 (ny hΓ hX) hv26 (by kernel_rfl)) (hL trivial) ?_
  refine qvn [0] (hL trivial) 1 77 [(2, A a2), (3, A a3), (4, I a4), (5, I a5), (13, rf 0 1 1 v25), (14, I x5), (15, I x11)] [sl 1 v25] ?_
  exact ⟨v25, h, (it (st' := ⟨77, [(2, A a2), (3, A a3), (4, I a4), (5, I a5), (13, rf 0 1 1 v25), (14, I x5), (15, I x11)], [sl 1 v25]⟩) [2, 3, 4, 5, 13, 14, 15]).trans (Imp.reverS 0 1 (eL v25) [2, 3, 4, 5, 13, 14, 15] (by kernel_rfl) (by exact (And.intro (eL_frz _) trivial)) (by kernel_rfl))⟩
  refine pwp_skip ?_
  exact ⟨x12, h, it [2, 3, 4, 5, 13, 14, 15]⟩
  rintro x16 h
  unfold spec_LoopJoin_j2 at h
  refine rve 77 [(2, A a2), (3, A a3), (4, I a4), (5, I a5), (13, rf 0 0 1 x16), (14, I x5), (15, I ((w64 (x11 + 1))))] [sl 0 x16] ?_
  exact ⟨(f13, (w64 (x11 + 1)), x16), h, Nat.lt_succ_self _, it [2, 3, 4, 5, 13, 14, 15]⟩
  refine pwp_exit ?_
  refine rve 77 [(2, A a2), (3, A a3), (4, I a4), (5, I a5), (13, rf 0 0 1 x12), (14, I ((w64 (x5 + 1))))] [sl 0 x12] ?_
  exact ⟨(f7, (w64 (x5 + 1)), x12), h, Nat.lt_succ_self _, it [2, 3, 4, 5, 13, 14]⟩
  refine pwp_exit ?_
  refine srve 77 [(12, rf 0 0 1 x6)] [sl 0 x6] ?_
  have h := si h
  subst h
  exact pwp_ret (rt (rf 0 0 1 x6) (OutP.list (v := 0) (by kernel_rfl)))
def impl_RowsOk (a0 : List T_impl_Column) (a1 : List (List T_impl_Value)) : Option Bool := (impl_ColumnsOk a0).bind fun v1 => bif v1 then (slices_ContainsFunc_impl_Value_impl_Value_s3 a1 (fun z0 => impl_RowsOk_1 z0 a0)).bind fun v3 => some ((!v3)) else some false
theorem ok_impl_RowsOk {a0 : List T_impl_Column} {a1 : List (List T_impl_Value)} {y : Bool} (h : impl_RowsOk a0 a1 = some y) : OK Tryz.prog 16 [A a0, A a1] (B y) := by
  refine ow Tryz.func16 fun Γ hX => ?_
  unfold impl_RowsOk at h
  refine srve 13 [(1, A a1), (2, pf a0 0)] [] ?_
  refine srv 1 13 [(1, A a1), (2, pf a0 0), (5, A a0)] [] ?_
  obtain ⟨v1, hv2, h⟩ := bindS h
  refine cF 6 (ok_impl_ColumnsOk hv2) ?_
  refine v 1 13 [(1, A a1), (2, pf a0 0), (7, B v1)] [] ?_
  rcases Bool.eq_false_or_eq_true v1 with hc5 | hc5
  replace h := bT hc5 h
  rw [hc5]
  refine v 2 13 [(7, B true), (8, A a1), (9, .fn 67 [pf a0 0])] [] ?_
  obtain ⟨v3, hv4, h⟩ := bindS h
  refine cF 10 (ok_slices_ContainsFunc_impl_Value_impl_Value_s3 (rfl) (fun _ w hw => ok_impl_RowsOk_1 hw) hv4) ?_
  refine ve 3 13 [(4, B ((!v3)))] [] ?_
  cases h
  exact pwp_ret rz
  replace h := bF hc5 h
  rw [hc5]
  refine ve 6 13 [(4, B false)] [] ?_
  cases h
  exact pwp_ret rz
def impl_TablesOk_1 (a0 : T_impl_Table) : Option Bool := (impl_ColumnsOk a0.fColumns).bind fun v1 => bif (!v1) then some true else bif (decide (((a0.fRows.length : Int)) > 6)) then some true else (impl_RowsOk a0.fColumns a0.fRows).bind fun v3 => some ((!v3))
theorem ok_impl_TablesOk_1 {a0 : T_impl_Table} {y : Bool} (h : impl_TablesOk_1 a0 = some y) : OK Tryz.prog 112 [E a0] (B y) := by
  refine ow Tryz.func112 fun Γ hX => ?_
  unfold impl_TablesOk_1 at h
  refine srve 21 [(1, pf a0 0)] [] ?_
  refine srv 2 21 [(1, pf a0 0), (4, A a0.fColumns)] [] ?_
  obtain ⟨v1, hv2, h⟩ := bindS h
  refine cF 5 (ok_impl_ColumnsOk hv2) ?_
  refine v 2 21 [(1, pf a0 0), (7, B ((!v1)))] [] ?_
  rcases fk ((!v1)) with hc6 | hc6
  replace h := bT hc6 h
  rw [hc6]
  refine ve 14 21 [(2, B true)] [] ?_
  cases h
  exact pwp_ret rz
  replace h := bF hc6 h
  rw [hc6]
  refine v 6 21 [(1, pf a0 0), (13, B ((decide (((a0.fRows.length : Int)) > 6))))] [] ?_
  rcases fk ((decide (((a0.fRows.length : Int)) > 6))) with hc5 | hc5
  replace h := bT hc5 h
  rw [hc5]
  refine ve 8 21 [(2, B true)] [] ?_
  cases h
  exact pwp_ret rz
  replace h := bF hc5 h
  rw [hc5]
  refine v 4 21 [(13, B false), (15, A a0.fColumns), (17, A a0.fRows)] [] ?_
  obtain ⟨v3, hv4, h⟩ := bindS h
  refine cF 18 (ok_impl_RowsOk hv4) ?_
  refine ve 3 21 [(2, B ((!v3)))] [] ?_
  cases h
  exact pwp_ret rz
def impl_sidesOk (a0 : List T_impl_Column) (a1 : List T_impl_Column) (a2 : List (List T_impl_Value)) (a3 : List (List T_impl_Value)) : Option Bool := (impl_ColumnsOk a0).bind fun v1 => bif v1 then (impl_ColumnsOk a1).bind fun v3 => bif v3 then bif (decide (((w64 (((a0.length : Int)) + ((a1.length : Int))))) ≤ 4)) then bif (decide (((a2.length : Int)) ≤ 30)) then bif (decide (((a3.length : Int)) ≤ 30)) then (impl_RowsOk a0 a2).bind fun v5 => bif v5 then (impl_RowsOk a1 a3).bind fun v7 => some v7 else some false else some false else some false else some false else some false else some false
theorem ok_impl_sidesOk {a0 : List T_impl_Column} {a1 : List T_impl_Column} {a2 : List (List T_impl_Value)} {a3 : List (List T_impl_Value)} {y : Bool} (h : impl_sidesOk a0 a1 a2 a3 = some y) : OK Tryz.prog 131 [A a0, A a1, A a2, A a3] (B y) := by
  refine ow Tryz.func131 fun Γ hX => ?_
  unfold impl_sidesOk at h
  refine srve 43 [(0, A a0), (1, A a1), (2, A a2), (3, A a3)] [] ?_
  refine srv 1 43 [(0, A a0), (1, A a1), (2, A a2), (3, A a3), (9, A a0)] [] ?_
  obtain ⟨v1, hv2, h⟩ := bindS h
  refine cF 10 (ok_impl_ColumnsOk hv2) ?_
  refine v 1 43 [(0, A a0), (1, A a1), (2, A a2), (3, A a3), (11, B v1)] [] ?_
  rcases Bool.eq_false_or_eq_true v1 with hc14 | hc14
  replace h := bT hc14 h
  rw [hc14]
  refine v 1 43 [(0, A a0), (1, A a1), (2, A a2), (3, A a3), (11, B true), (12, A a1)] [] ?_
  obtain ⟨v3, hv4, h⟩ := bindS h
  refine cF 13 (ok_impl_ColumnsOk hv4) ?_
  refine v 2 43 [(0, A a0), (1, A a1), (2, A a2), (3, A a3), (15, B v3)] [] ?_
  rcases Bool.eq_false_or_eq_true v3 with hc13 | hc13
  replace h := bT hc13 h
  rw [hc13]
  refine v 8 43 [(0, A a0), (1, A a1), (2, A a2), (3, A a3), (23, B ((decide (((w64 (((a0.length : Int)) + ((a1.length : Int))))) ≤ 4))))] [] ?_
  rcases fk ((decide (((w64 (((a0.length : Int)) + ((a1.length : Int))))) ≤ 4))) with hc12 | hc12
  replace h := bT hc12 h
  rw [hc12]
  refine v 5 43 [(0, A a0), (1, A a1), (2, A a2), (3, A a3), (28, B ((decide (((a2.length : Int)) ≤ 30))))] [] ?_
  rcases fk ((decide (((a2.length : Int)) ≤ 30))) with hc11 | hc11
  replace h := bT hc11 h
  rw [hc11]
  refine v 5 43 [(0, A a0), (1, A a1), (2, A a2), (3, A a3), (33, B ((decide (((a3.length : Int)) ≤ 30))))] [] ?_
  rcases fk ((decide (((a3.length : Int)) ≤ 30))) with hc10 | hc10
  replace h := bT hc10 h
  rw [hc10]
  refine v 2 43 [(1, A a1), (3, A a3), (33, B true), (34, A a0), (35, A a2)] [] ?_
  obtain ⟨v5, hv6, h⟩ := bindS h
  refine cF 36 (ok_impl_RowsOk hv6) ?_
  refine v 2 43 [(1, A a1), (3, A a3), (38, B v5)] [] ?_
  rcases Bool.eq_false_or_eq_true v5 with hc9 | hc9
  replace h := bT hc9 h
  rw [hc9]
  refine v 2 43 [(38, B true), (39, A a1), (40, A a3)] [] ?_
  obtain ⟨v7, hv8, h⟩ := bindS h
  refine cF 41 (ok_impl_RowsOk hv8) ?_
  refine ve 2 43 [(8, B v7)] [] ?_
  cases h
  exact pwp_ret rz
  replace h := bF hc9 h
  rw [hc9]
  refine ve 5 43 [(8, B false)] [] ?_
  cases h
  exact pwp_ret rz
  replace h := bF hc10 h
  rw [hc10]
  refine ve 10 43 [(8, B false)] [] ?_
  cases h
  exact pwp_ret rz
  replace h := bF hc11 h
  rw [hc11]
  refine ve 15 43 [(8, B false)] [] ?_
  cases h
  exact pwp_ret rz
  replace h := bF hc12 h
  rw [hc12]
  refine ve 20 43 [(8, B false)] [] ?_
  cases h
  exact pwp_ret rz
  replace h := bF hc13 h
  rw [hc13]
  refine ve 28 43 [(8, B false)] [] ?_
  cases h
  exact pwp_ret rz
  replace h := bF hc14 h
  rw [hc14]
  refine ve 32 43 [(8, B false)] [] ?_
  cases h
  exact pwp_ret rz
def impl_exprValue_l0 (a0 : List T_impl_Value) (a1 : List T_impl_Part) : Nat → Int → (List T_impl_Value) → Option T_impl_Value
  | 0, _, _ => none
  | f5 + 1, x3, x4 => bif (decide (x3 < ((a1.length : Int)))) then (getI a1 x3).bind fun v8 => (impl_Part_takes v8).bind fun v10 => (slI x4 (some ((w64 (((x4.length : Int)) - v10)))) none none).bind fun v12 => (impl_Part_value v8 a0 v12).bind fun v14 => (slI x4 none (some ((w64 (((x4.length : Int)) - v10)))) none).bind fun v16 => (appT x4 (([v14] : List T_impl_Value)) v16.length).bind fun v18 => (impl_exprValue_l0 a0 a1 f5) ((w64 (x3 + 1))) v18 else (getI x4 ((0 : Int))).bind fun v20 => some v20
def impl_exprValue (a0 : List T_impl_Value) (a1 : List T_impl_Part) : Option T_impl_Value := impl_exprValue_l0 a0 a1 FUEL 0 (([] : List T_impl_Value))
theorem ok_impl_exprValue {a0 : List T_impl_Value} {a1 : List T_impl_Part} {y : T_impl_Value} (h : impl_exprValue a0 a1 = some y) : OK Tryz.prog 142 [A a0, A a1] (E y) := by
  refine ow Tryz.func142 fun Γ hX => ?_
  unfold impl_exprValue at h
  refine srveM [4, 7, 9] 37 [(0, A a0), (1, A a1), (4, .ptr 0 0 0)] [some ⟨0, Enc.cells ((T_impl_Value.mk 0 0 (ByteArray.mk #[])))⟩] ?_
  refine srveM [4, 7, 9] 37 [(0, A a0), (1, A a1), (4, .ptr 0 0 0), (5, .arr 3 0 (eL ([] : List T_impl_Value)) true)] [some ⟨0, Enc.cells ((T_impl_Value.mk 0 0 (ByteArray.mk #[])))⟩] ?_
  refine pwp_seq ?_
  refine srveM [4, 7, 9] 37 [(0, A a0), (4, .ptr 0 0 0), (5, .arr 3 0 (eL ([] : List T_impl_Value)) true), (10, A a1), (11, I ((a1.length : Int))), (12, I 0)] [some ⟨0, Enc.cells ((T_impl_Value.mk 0 0 (ByteArray.mk #[])))⟩] ?_
  refine pwp_block ?_
  refine pwp_loop (ι := Nat × Int × (List T_impl_Value)) (fun (f5, x3, x4) => (⟨37, [(0, A a0), (4, .ptr 0 0 0), (5, rf 1 0 3 x4), (10, A a1), (11, I ((a1.length : Int))), (12, I x3)], [some ⟨0, Enc.cells ((T_impl_Value.mk 0 0 (ByteArray.mk #[])))⟩, sl 0 x4]⟩ : St)) (fun (f5, x3, x4) => impl_exprValue_l0 a0 a1 f5 x3 x4 = some y) Prod.fst (FUEL, 0, ([] : List T_impl_Value)) h (Imp.thawS 5 [0, 4, 5, 10, 11, 12] (by kernel_rfl)) ?_
  rintro ⟨f5, x3, x4⟩ h
  dsimp only at h ⊢
  rcases f5 with _ | f5
  cases h
  rw [impl_exprValue_l0] at h
  refine srveM [4, 7, 9] 37 [(0, A a0), (4, .ptr 0 0 0), (5, rf 1 0 3 x4), (10, A a1), (11, I ((a1.length : Int))), (12, I x3), (13, B ((decide (x3 < ((a1.length : Int))))))] [some ⟨0, Enc.cells ((T_impl_Value.mk 0 0 (ByteArray.mk #[])))⟩, sl 0 x4] ?_
  refine pwp_seq ?_
  refine pc h (fun h => ?_) (fun h => ?_)
  refine pwp_skip ?_
  refine pwp_seq ?_
  refine pwp_block ?_
  refine pwp_seq ?_
  refine pwp_region ?_
  obtain ⟨v8, hv9, h⟩ := bindS h
  refine opsP_idx τ_ok 14 hv9 (by kernel_rfl) ?_
  refine veM [4, 7, 9] 3 37 [(0, A a0), (4, .ptr 0 0 0), (5, rf 1 0 3 x4), (7, .ptr 2 0 0), (10, A a1), (11, I ((a1.length : Int))), (12, I x3)] [some ⟨0, Enc.cells ((T_impl_Value.mk 0 0 (ByteArray.mk #[])))⟩, sl 0 x4, sc 0 v8] ?_
  refine srvM [4, 7, 9] 3 37 [(0, A a0), (4, .ptr 0 0 0), (5, rf 1 0 3 x4), (7, .ptr 2 0 0), (10, A a1), (11, I ((a1.length : Int))), (12, I x3), (17, I ((x4.length : Int))), (18, E v8)] [some ⟨0, Enc.cells ((T_impl_Value.mk 0 0 (ByteArray.mk #[])))⟩, sl 0 x4, sc 0 v8] ?_
  obtain ⟨v10, hv11, h⟩ := bindS h
  refine cF 19 (ok_impl_Part_takes hv11) ?_
  refine veM [4, 7, 9] 2 37 [(0, A a0), (4, .ptr 0 0 0), (5, rf 1 0 3 x4), (7, .ptr 2 0 0), (8, I ((w64 (((x4.length : Int)) - v10)))), (10, A a1), (11, I ((a1.length : Int))), (12, I x3)] [some ⟨0, Enc.cells ((T_impl_Value.mk 0 0 (ByteArray.mk #[])))⟩, sl 0 x4, sc 0 v8] ?_
  refine pwp_seq ?_
  refine ip 37 [(0, A a0), (4, .ptr 0 0 0), (5, rf 1 0 3 x4), (7, .ptr 2 0 0), (8, I ((w64 (((x4.length : Int)) - v10)))), (10, A a1), (11, I ((a1.length : Int))), (12, I x3)] [some ⟨0, Enc.cells ((T_impl_Value.mk 0 0 (ByteArray.mk #[])))⟩, sl 0 x4, sc 0 v8] ?_
  refine pwp_imp (Imp.ghosts 1 (st' := ⟨37, [(0, A a0), (4, .ptr 0 0 0), (5, rf 1 0 3 x4), (7, .ptr 2 0 0), (8, I ((w64 (((x4.length : Int)) - v10)))), (10, A a1), (11, I ((a1.length : Int))), (12, I x3)], [some ⟨0, Enc.cells ((T_impl_Value.mk 0 0 (ByteArray.mk #[])))⟩, sl 0 x4, sc 0 v8, some ⟨0, []⟩]⟩) (by kernel_rfl)) ?_
  refine pwp_any ([[2], [], [1], [], [1], [1], [3], [3]]) ([[], [], [], [], [], [], [3], [3]]) rfl (by kernel_rfl) ?_
  refine qvM [4, 7, 9] [2] (hB trivial) 1 37 [(21, E v8), (0, A a0), (4, .ptr 0 0 0), (5, rf 1 0 3 x4), (8, I ((w64 (((x4.length : Int)) - v10)))), (10, A a1), (11, I ((a1.length : Int))), (12, I x3)] [some ⟨0, Enc.cells ((T_impl_Value.mk 0 0 (ByteArray.mk #[])))⟩, sl 0 x4, sc 0 v8, some ⟨0, []⟩] ?_
  refine qvM [4, 7, 9] [] trivial 1 37 [(22, A a0), (21, E v8), (0, A a0), (4, .ptr 0 0 0), (5, rf 1 0 3 x4), (8, I ((w64 (((x4.length : Int)) - v10)))), (10, A a1), (11, I ((a1.length : Int))), (12, I x3)] [some ⟨0, Enc.cells ((T_impl_Value.mk 0 0 (ByteArray.mk #[])))⟩, sl 0 x4, sc 0 v8, some ⟨0, []⟩] ?_
  refine qvM [4, 7, 9] [1] (hL trivial) 1 37 [(23, rf 1 0 3 x4), (22, A a0), (21, E v8), (0, A a0), (4, .ptr 0 0 0), (5, rf 1 0 3 x4), (8, I ((w64 (((x4.length : Int)) - v10)))), (10, A a1), (11, I ((a1.length : Int))), (12, I x3)] [some ⟨0, Enc.cells ((T_impl_Value.mk 0 0 (ByteArray.mk #[])))⟩, sl 0 x4, sc 0 v8, some ⟨0, []⟩] ?_
  refine qvM [4, 7, 9] [] trivial 1 37 [(24, I ((w64 (((x4.length : Int)) - v10)))), (23, rf 1 0 3 x4), (22, A a0), (21, E v8), (0, A a0), (4, .ptr 0 0 0), (5, rf 1 0 3 x4), (8, I ((w64 (((x4.length : Int)) - v10)))), (10, A a1), (11, I ((a1.length : Int))), (12, I x3)] [some ⟨0, Enc.cells ((T_impl_Value.mk 0 0 (ByteArray.mk #[])))⟩, sl 0 x4, sc 0 v8, some ⟨0, []⟩] ?_
  obtain ⟨v12, hv13, h⟩ := bindS h
  refine qX (some 25) (.ref 1 0 ((w64 (((x4.length : Int)) - v10)).toNat * 3) 3 v12.length false) 37 [(25, .ref 1 0 ((w64 (((x4.length : Int)) - v10)).toNat * 3) 3 v12.length false), (22, A a0), (21, E v8), (0, A a0), (4, .ptr 0 0 0), (5, rf 1 0 3 x4), (8, I ((w64 (((x4.length : Int)) - v10)))), (10, A a1), (11, I ((a1.length : Int))), (12, I x3)] [some ⟨0, Enc.cells ((T_impl_Value.mk 0 0 (ByteArray.mk #[])))⟩, sl 0 x4, sc 0 v8, some ⟨0, []⟩] (fun Γ' hΓ => CoreE.of_y (slrV_sound (n := x4.length) τ_ok (by kernel_rfl) rfl hv13)) (hL trivial) ?_
  obtain ⟨v14, hv15, h⟩ := bindS h
  refine qX (some 26) (E v14) 37 [(26, E v14), (0, A a0), (4, .ptr 0 0 0), (5, rf 1 0 3 x4), (8, I ((w64 (((x4.length : Int)) - v10)))), (10, A a1), (11, I ((a1.length : Int))), (12, I x3)] [some ⟨0, Enc.cells ((T_impl_Value.mk 0 0 (ByteArray.mk #[])))⟩, sl 0 x4, sc 0 v8, some ⟨0, []⟩] (fun Γ' hΓ => CoreE.of_g (callVV_sound (xs := [E v8, A a0, .ref 1 0 ((w64 (((x4.length : Int)) - v10)).toNat * 3) 3 v12.length false]) (τ := τ) (by kernel_rfl) (ViewL.cons (View.frz rfl) (ViewL.cons (View.frz rfl) (ViewL.cons (View.ref (v := 0) (lo := (w64 (((x4.length : Int)) - v10)).toNat) x4 v12 (by kernel_rfl) (slI_view hv13) rfl) (ViewL.nil _)))) (ok_impl_Part_value hv15) (Blind.E _ rfl rfl) (FzTo.frz rfl))) (hL trivial) ?_
  refine qX (Hm' := [none, none, none, some ⟨1, Enc.cells ((T_impl_Value.mk 0 0 (ByteArray.mk #[])))⟩]) (some 9) (.ptr 3 1 0) 37 [(9, .ptr 3 1 0), (26, E v14), (0, A a0), (4, .ptr 0 0 0), (5, rf 1 0 3 x4), (8, I ((w64 (((x4.length : Int)) - v10)))), (10, A a1), (11, I ((a1.length : Int))), (12, I x3)] [some ⟨0, Enc.cells ((T_impl_Value.mk 0 0 (ByteArray.mk #[])))⟩, sl 0 x4, sc 0 v8, some ⟨1, Enc.cells ((T_impl_Value.mk 0 0 (ByteArray.mk #[])))⟩] (fun Γ' hΓ => alc_E (blk := ⟨0, []⟩) τ_ok [4, 7, 9] 9 3 0 (ny hΓ hX) (by kernel_rfl) (by kernel_rfl)) (hB trivial) ?_
  refine qX (Hm' := [none, none, none, sc 1 v14]) none (.any) 37 [(9, .ptr 3 1 0), (0, A a0), (4, .ptr 0 0 0), (5, rf 1 0 3 x4), (8, I ((w64 (((x4.length : Int)) - v10)))), (10, A a1), (11, I ((a1.length : Int))), (12, I x3)] [some ⟨0, Enc.cells ((T_impl_Value.mk 0 0 (ByteArray.mk #[])))⟩, sl 0 x4, sc 0 v8, sc 1 v14] (fun Γ' hΓ => sto_E τ_ok 3 1 (by kernel_rfl)) (hB trivial) ?_
  refine qn 37 [(0, A a0), (4, .ptr 0 0 0), (5, rf 1 0 3 x4), (8, I ((w64 (((x4.length : Int)) - v10)))), (9, .ptr 3 1 0), (10, A a1), (11, I ((a1.length : Int))), (12, I x3)] [some ⟨0, Enc.cells ((T_impl_Value.mk 0 0 (ByteArray.mk #[])))⟩, sl 0 x4, sc 0 v8, sc 1 v14] ?_
  refine ip 37 [(0, A a0), (4, .ptr 0 0 0), (5, rf 1 0 3 x4), (8, I ((w64 (((x4.length : Int)) - v10)))), (9, .ptr 3 1 0), (10, A a1), (11, I ((a1.length : Int))), (12, I x3)] [some ⟨0, Enc.cells ((T_impl_Value.mk 0 0 (ByteArray.mk #[])))⟩, sl 0 x4, sc 0 v8, sc 1 v14] ?_
  refine pwp_any ([[1], [], [1], [3], [], [1], [1]]) ([[], [], [], [], [], [1], []]) rfl (by kernel_rfl) ?_
  refine qvM [4, 7, 9] [1] (hL trivial) 1 37 [(27, rf 1 0 3 x4), (0, A a0), (4, .ptr 0 0 0), (5, rf 1 0 3 x4), (8, I ((w64 (((x4.length : Int)) - v10)))), (9, .ptr 3 1 0), (10, A a1), (11, I ((a1.length : Int))), (12, I x3)] [some ⟨0, Enc.cells ((T_impl_Value.mk 0 0 (ByteArray.mk #[])))⟩, sl 0 x4, sc 0 v8, sc 1 v14] ?_
  refine qvM [4, 7, 9] [] trivial 1 37 [(28, I ((w64 (((x4.length : Int)) - v10)))), (27, rf 1 0 3 x4), (0, A a0), (4, .ptr 0 0 0), (5, rf 1 0 3 x4), (9, .ptr 3 1 0), (10, A a1), (11, I ((a1.length : Int))), (12, I x3)] [some ⟨0, Enc.cells ((T_impl_Value.mk 0 0 (ByteArray.mk #[])))⟩, sl 0 x4, sc 0 v8, sc 1 v14] ?_
  obtain ⟨v16, hv17, h⟩ := bindS h
  refine qX (some 29) (rf 1 0 3 v16) 37 [(29, rf 1 0 3 v16), (0, A a0), (4, .ptr 0 0 0), (5, rf 1 0 3 x4), (9, .ptr 3 1 0), (10, A a1), (11, I ((a1.length : Int))), (12, I x3)] [some ⟨0, Enc.cells ((T_impl_Value.mk 0 0 (ByteArray.mk #[])))⟩, sl 0 x4, sc 0 v8, sc 1 v14] (fun Γ' hΓ => CoreE.of_y (slrV_sound (n := x4.length) τ_ok (by kernel_rfl) rfl hv17)) (hL trivial) ?_
  refine qvM [4, 7, 9] [3] (hB trivial) 1 37 [(30, E v14), (29, rf 1 0 3 v16), (0, A a0), (4, .ptr 0 0 0), (5, rf 1 0 3 x4), (10, A a1), (11, I ((a1.length : Int))), (12, I x3)] [some ⟨0, Enc.cells ((T_impl_Value.mk 0 0 (ByteArray.mk #[])))⟩, sl 0 x4, sc 0 v8, sc 1 v14] ?_
  refine qvM [4, 7, 9] [] trivial 1 37 [(31, .arr 3 (([v14] : List T_impl_Value)).length (eL ([v14] : List T_impl_Value)) true), (29, rf 1 0 3 v16), (0, A a0), (4, .ptr 0 0 0), (5, rf 1 0 3 x4), (10, A a1), (11, I ((a1.length : Int))), (12, I x3)] [some ⟨0, Enc.cells ((T_impl_Value.mk 0 0 (ByteArray.mk #[])))⟩, sl 0 x4, sc 0 v8, sc 1 v14] ?_
  obtain ⟨v18, hv19, h⟩ := bindS h
  refine qX (some 32) (rf 1 1 3 v18) 37 [(32, rf 1 1 3 v18), (0, A a0), (4, .ptr 0 0 0), (5, rf 1 0 3 x4), (10, A a1), (11, I ((a1.length : Int))), (12, I x3)] [some ⟨0, Enc.cells ((T_impl_Value.mk 0 0 (ByteArray.mk #[])))⟩, sl 1 v18, sc 0 v8, sc 1 v14] (fun Γ' hΓ => app_E τ_ok 32 1 0 v16.length (ny hΓ hX) hv19 (slI_le hv17) (by kernel_rfl)) (hL trivial) ?_
  refine qvnM [4, 7, 9] [1] (hL trivial) 1 37 [(0, A a0), (4, .ptr 0 0 0), (5, rf 1 1 3 v18), (10, A a1), (11, I ((a1.length : Int))), (12, I x3)] [some ⟨0, Enc.cells ((T_impl_Value.mk 0 0 (ByteArray.mk #[])))⟩, sl 1 v18, sc 0 v8, sc 1 v14] ?_
  refine rveM [4, 7, 9] 37 [(0, A a0), (4, .ptr 0 0 0), (5, rf 1 1 3 v18), (10, A a1), (11, I ((a1.length : Int))), (12, I ((w64 (x3 + 1))))] [some ⟨0, Enc.cells ((T_impl_Value.mk 0 0 (ByteArray.mk #[])))⟩, sl 1 v18, sc 0 v8, sc 1 v14] ?_
  exact ⟨(f5, (w64 (x3 + 1)), v18), h, Nat.lt_succ_self _, (it (st' := ⟨37, [(0, A a0), (4, .ptr 0 0 0), (5, rf 1 1 3 v18), (10, A a1), (11, I ((a1.length : Int))), (12, I ((w64 (x3 + 1))))], [some ⟨0, Enc.cells ((T_impl_Value.mk 0 0 (ByteArray.mk #[])))⟩, sl 1 v18, sc 0 v8, sc 1 v14]⟩) [0, 4, 5, 10, 11, 12]).trans ((Imp.truncS (st' := ⟨37, [(0, A a0), (4, .ptr 0 0 0), (5, rf 1 1 3 v18), (10, A a1), (11, I ((a1.length : Int))), (12, I ((w64 (x3 + 1))))], [some ⟨0, Enc.cells ((T_impl_Value.mk 0 0 (ByteArray.mk #[])))⟩, sl 1 v18]⟩) 2 (nx hX) (by kernel_rfl) (allBelow_mem (by exact (And.intro rfl (And.intro rfl (And.intro rfl (And.intro rfl (And.intro rfl (And.intro rfl trivial)))))))) (by exact (And.intro (rfl) (And.intro (frz_below (eL_frz _)) trivial))) (by kernel_rfl)).trans (Imp.reverS 1 1 (eL v18) [0, 4, 5, 10, 11, 12] (by kernel_rfl) (by exact (And.intro (rfl) (And.intro (eL_frz _) trivial))) (by kernel_rfl)))⟩
  refine pwp_exit ?_
  refine srvM [4, 7, 9] 1 37 [(4, .ptr 0 0 0), (34, rf 1 0 3 x4)] [some ⟨0, Enc.cells ((T_impl_Value.mk 0 0 (ByteArray.mk #[])))⟩, sl 0 x4] ?_
  obtain ⟨v20, hv21, h⟩ := bindS h
  refine opsP_idr τ_ok 35 1 0 x4.length hv21 rfl (by kernel_rfl) ?_
  refine opsP_lde (r := E v20) τ_ok 36 35 0 hv21 (by kernel_rfl) (by kernel_rfl) ?_
  refine veM [4, 7, 9] 1 37 [(4, .ptr 0 0 0)] [sc 0 v20, sl 0 x4] ?_
  cases h
  exact pwp_ret rz
def slices_Clip_impl_Column_impl_Column_R (a0 : List T_impl_Column) : Option (List T_impl_Column) := (slI a0 none (some ((a0.length : Int))) (some ((a0.length : Int)))).bind fun v1 => some v1
theorem ok_slices_Clip_impl_Column_impl_Column_R {a0 : List T_impl_Column} {y : List T_impl_Column} (h : slices_Clip_impl_Column_impl_Column_R a0 = some y) : OKm Tryz.prog 148 [O a0] (O y) := by
  refine OKm_of_pwp (sl := [rf 0 0 2 a0]) (bs := [⟨0, eL a0⟩]) τ_ok Tryz.func148 rfl (by kernel_rfl) rfl (by kernel_rfl) fun Γ hX => ?_
  refine pwp_imp (Imp.to (st' := ⟨9, [(0, rf 0 0 2 a0)], [sl 0 a0]⟩) [0] (by kernel_rfl)) ?_
  unfold slices_Clip_impl_Column_impl_Column_R at h
  refine srve 9 [(0, rf 0 0 2 a0)] [sl 0 a0] ?_
  refine srv 5 9 [(3, rf 0 0 2 a0), (5, I ((a0.length : Int))), (7, I ((a0.length : Int)))] [sl 0 a0] ?_
  obtain ⟨v1, hv2, h⟩ := bindS h
  refine opsP_slr τ_ok 8 0 0 a0.length hv2 rfl (by kernel_rfl) ?_
  refine ve 1 9 [(2, rf 0 0 2 v1)] [sl 0 a0] ?_
  refine ip 9 [(2, rf 0 0 2 v1)] [sl 0 a0] ?_
  refine pwp_imp (Imp.cut (st' := ⟨9, [(2, rf 0 0 2 v1)], [sl 0 v1]⟩) 0 0 a0 v1 (by kernel_rfl) (slI_view hv2) (by kernel_rfl)) ?_
  have h := si h
  subst h
  exact pwp_ret (rt (rf 0 0 2 v1) (OutP.list (v := 0) (by kernel_rfl)))
def impl_clone_impl_Column_R (a0 : List T_impl_Column) : Option (List T_impl_Column) := bif (((a0.length : Int)) == 0) then some (([] : List T_impl_Column)) else (app [] a0).bind fun v2 => (slices_Clip_impl_Column_impl_Column_R v2).bind fun v4 => some v4
theorem ok_impl_clone_impl_Column_R {a0 : List T_impl_Column} {y : List T_impl_Column} (h : impl_clone_impl_Column_R a0 = some y) : OK Tryz.prog 89 [A a0] (O y) := by
  refine ow Tryz.func89 fun Γ hX => ?_
  unfold impl_clone_impl_Column_R at h
  refine srve 9 [(0, A a0)] [] ?_
  refine pwp_seq ?_
  refine srve 9 [(0, A a0), (5, B ((((a0.length : Int)) == 0)))] [] ?_
  refine pc h (fun h => ?_) (fun h => ?_)
  refine srve 9 [(2, .arr 2 0 (eL ([] : List T_impl_Column)) true)] [] ?_
  refine ip 9 [(2, .arr 2 0 (eL ([] : List T_impl_Column)) true)] [] ?_
  refine pwp_imp (Imp.thawS (st' := ⟨9, [(2, .ref 0 0 0 2 (([] : List T_impl_Column)).length false)], [some ⟨0, eL (([] : List T_impl_Column))⟩]⟩) 2 [2] (by kernel_rfl)) ?_
  have h := si h
  subst h
  exact pwp_ret (rt (.ref 0 0 0 2 (([] : List T_impl_Column)).length false) (OutP.list (v := 0) (by kernel_rfl)))
  refine pwp_skip ?_
  refine srv 1 9 [(6, A a0)] [] ?_
  obtain ⟨v2, hv3, h⟩ := bindS h
  refine opsP_apn τ_ok 7 0 (nx hX) hv3 (by kernel_rfl) ?_
  obtain ⟨v4, hv5, h⟩ := bindS h
  refine opsP_callM (xs := [rf 0 1 2 v2]) (x := rf 1 0 2 v4) (bs := [⟨0, eL v4⟩]) τ 8 [0] (nx hX) (ok_slices_Clip_impl_Column_impl_Column_R hv5) (by kernel_rfl) (OutL.cons (OutP.list (v := 1) (by kernel_rfl)) (OutL.nil _)) (by decide) (by kernel_rfl) ?_
  refine ve 1 9 [(2, rf 1 0 2 v4)] [none, sl 0 v4] ?_
  have h := si h
  subst h
  exact pwp_ret (rt (rf 1 0 2 v4) (OutP.list (v := 0) (by kernel_rfl)))
def impl_TablesOk (a0 : List T_impl_Table) : Option Bool := bif (decide (((a0.length : Int)) ≤ 3)) then (slices_ContainsFunc_impl_Table_impl_Table a0 impl_TablesOk_1).bind fun v1 => some ((!v1)) else some false
theorem ok_impl_TablesOk {a0 : List T_impl_Table} {y : Bool} (h : impl_TablesOk a0 = some y) : OK Tryz.prog 46 [A a0] (B y) := by
  refine ow Tryz.func46 fun Γ hX => ?_
  unfold impl_TablesOk at h
  refine srve 11 [(0, A a0)] [] ?_
  refine srv 4 11 [(0, A a0), (6, B ((decide (((a0.length : Int)) ≤ 3))))] [] ?_
  rcases fk ((decide (((a0.length : Int)) ≤ 3))) with hc3 | hc3
  replace h := bT hc3 h
  rw [hc3]
  refine v 1 11 [(6, B true), (7, A a0)] [] ?_
  obtain ⟨v1, hv2, h⟩ := bindS h
  refine cF 8 (ok_slices_ContainsFunc_impl_Table_impl_Table (rfl) (fun _ w hw => ok_impl_TablesOk_1 hw) hv2) ?_
  refine ve 3 11 [(2, B ((!v1)))] [] ?_
  cases h
  exact pwp_ret rz
  replace h := bF hc3 h
  rw [hc3]
  refine ve 5 11 [(2, B false)] [] ?_
  cases h
  exact pwp_ret rz
def impl_joinOk (a0 : List T_impl_Column) (a1 : List T_impl_Column) (a2 : List (List T_impl_Value)) (a3 : List (List T_impl_Value)) (a4 : Int) (a5 : Int) : Option Bool := (impl_sidesOk a0 a1 a2 a3).bind fun v1 => bif v1 then (impl_between a4 0 ((w64 (((a0.length : Int)) - 1)))).bind fun v3 => bif v3 then (impl_between a5 0 ((w64 (((a1.length : Int)) - 1)))).bind fun v5 => bif v5 then (getI a0 a4).bind fun v7 => (getI a1 a5).bind fun v9 => some ((v7.fKind == v9.fKind)) else some false else some false else some false
theorem ok_impl_joinOk {a0 : List T_impl_Column} {a1 : List T_impl_Column} {a2 : List (List T_impl_Value)} {a3 : List (List T_impl_Value)} {a4 : Int} {a5 : Int} {y : Bool} (h : impl_joinOk a0 a1 a2 a3 a4 a5 = some y) : OK Tryz.prog 60 [A a0, A a1, A a2, A a3, I a4, I a5] (B y) := by
  refine ow Tryz.func60 fun Γ hX => ?_
  unfold impl_joinOk at h
  refine srve 45 [(0, A a0), (1, A a1), (2, A a2), (3, A a3), (4, I a4), (5, I a5)] [] ?_
  refine pwp_seq ?_
  refine ip 45 [(0, A a0), (1, A a1), (2, A a2), (3, A a3), (4, I a4), (5, I a5)] [] ?_
  refine pN 33 ?_
  refine qv [] trivial 4 45 [(16, A a3), (15, A a2), (14, A a1), (13, A a0), (0, A a0), (1, A a1), (4, I a4), (5, I a5)] [] ?_
  obtain ⟨v1, hv2, h⟩ := bindS h
  refine qX (some 17) (B v1) 45 [(17, B v1), (0, A a0), (1, A a1), (4, I a4), (5, I a5)] [] (fun Γ' hΓ => CoreE.of_g (callV_sound (τ := τ) (by kernel_rfl) rfl (ok_impl_sidesOk hv2) (FzTo.frz rfl))) trivial ?_
  refine qv [] trivial 1 45 [(18, B v1), (0, A a0), (1, A a1), (4, I a4), (5, I a5)] [] ?_
  rcases Bool.eq_false_or_eq_true v1 with hc13 | hc13
  replace h := bT hc13 h
  rw [hc13]
  refine qv [] trivial 4 45 [(22, I ((w64 (((a0.length : Int)) - 1)))), (19, I a4), (18, B true), (0, A a0), (1, A a1), (4, I a4), (5, I a5)] [] ?_
  obtain ⟨v3, hv4, h⟩ := bindS h
  refine qX (some 23) (B v3) 45 [(23, B v3), (18, B true), (0, A a0), (1, A a1), (4, I a4), (5, I a5)] [] (fun Γ' hΓ => CoreE.of_g (callV_sound (τ := τ) (by kernel_rfl) rfl (ok_impl_between hv4) (FzTo.frz rfl))) trivial ?_
  refine qv [] trivial 2 45 [(25, B v3), (0, A a0), (1, A a1), (4, I a4), (5, I a5)] [] ?_
  rcases Bool.eq_false_or_eq_true v3 with hc12 | hc12
  replace h := bT hc12 h
  rw [hc12]
  refine qv [] trivial 4 45 [(29, I ((w64 (((a1.length : Int)) - 1)))), (26, I a5), (25, B true), (0, A a0), (1, A a1), (4, I a4), (5, I a5)] [] ?_
  obtain ⟨v5, hv6, h⟩ := bindS h
  refine qX (some 30) (B v5) 45 [(30, B v5), (25, B true), (0, A a0), (1, A a1), (4, I a4), (5, I a5)] [] (fun Γ' hΓ => CoreE.of_g (callV_sound (τ := τ) (by kernel_rfl) rfl (ok_impl_between hv6) (FzTo.frz rfl))) trivial ?_
  refine qv [] trivial 2 45 [(32, B v5), (0, A a0), (1, A a1), (4, I a4), (5, I a5)] [] ?_
  rcases Bool.eq_false_or_eq_true v5 with hc11 | hc11
  replace h := bT hc11 h
  rw [hc11]
  refine qv [] trivial 2 45 [(34, I a4), (33, A a0), (32, B true), (1, A a1), (5, I a5)] [] ?_
  obtain ⟨v7, hv8, h⟩ := bindS h
  refine qX (some 35) (pf v7 0) 45 [(35, pf v7 0), (32, B true), (1, A a1), (5, I a5)] [] (fun Γ' hΓ => CoreE.of_y (idxV_sound τ_ok (by kernel_rfl) hv8)) trivial ?_
  refine qv [] trivial 4 45 [(39, I a5), (38, A a1), (37, I v7.fKind), (32, B true)] [] ?_
  obtain ⟨v9, hv10, h⟩ := bindS h
  refine qX (some 40) (pf v9 0) 45 [(40, pf v9 0), (37, I v7.fKind), (32, B true)] [] (fun Γ' hΓ => CoreE.of_y (idxV_sound τ_ok (by kernel_rfl) hv10)) trivial ?_
  refine qvn [] trivial 5 45 [(12, B ((v7.fKind == v9.fKind)))] [] ?_
  cases h
  exact pwp_ret rz
  replace h := bF hc11 h
  rw [hc11]
  refine qvn [] trivial 13 45 [(12, B false)] [] ?_
  cases h
  exact pwp_ret rz
  replace h := bF hc12 h
  rw [hc12]
  refine qvn [] trivial 20 45 [(12, B false)] [] ?_
  cases h
  exact pwp_ret rz
  replace h := bF hc13 h
  rw [hc13]
  refine qvn [] trivial 27 45 [(12, B false)] [] ?_
  cases h
  exact pwp_ret rz
def impl_exprHolds (a0 : List T_impl_Value) (a1 : List T_impl_Part) : Option Bool := (impl_exprValue a0 a1).bind fun v1 => (impl_ValueOf 1).bind fun v3 => some ((eq_T_impl_Value v1 v3))
theorem ok_impl_exprHolds {a0 : List T_impl_Value} {a1 : List T_impl_Part} {y : Bool} (h : impl_exprHolds a0 a1 = some y) : OK Tryz.prog 82 [A a0, A a1] (B y) := by
  refine ow Tryz.func82 fun Γ hX => ?_
  unfold impl_exprHolds at h
  refine srve 10 [(0, A a0), (1, A a1)] [] ?_
  refine srv 2 10 [(5, A a0), (6, A a1)] [] ?_
  obtain ⟨v1, hv2, h⟩ := bindS h
  refine cF 7 (ok_impl_exprValue hv2) ?_
  obtain ⟨v3, hv4, h⟩ := bindS h
  refine cF 8 (ok_impl_ValueOf hv4) ?_
  refine ve 2 10 [(4, B ((eq_T_impl_Value v1 v3)))] [] ?_
  cases h
  exact pwp_ret rz
def impl_LoopJoin (a0 : List T_impl_Column) (a1 : List T_impl_Column) (a2 : List (List T_impl_Value)) (a3 : List (List T_impl_Value)) (a4 : Int) (a5 : Int) : Option (List (List T_impl_Value)) := (impl_joinOk a0 a1 a2 a3 a4 a5).bind fun v1 => bif (!v1) then some (([] : List (List T_impl_Value))) else (impl_joins a2 a4 (fun z0 => impl_LoopJoin_1 z0 a3) a5).bind fun v4 => some v4
theorem ok_impl_LoopJoin {a0 : List T_impl_Column} {a1 : List T_impl_Column} {a2 : List (List T_impl_Value)} {a3 : List (List T_impl_Value)} {a4 : Int} {a5 : Int} {y : List (List T_impl_Value)} (h : impl_LoopJoin a0 a1 a2 a3 a4 a5 = some y) : OK Tryz.prog 13 [A a0, A a1, A a2, A a3, I a4, I a5] (A y) := by
  refine ow Tryz.func13 fun Γ hX => ?_
  unfold impl_LoopJoin at h
  refine srve 26 [(0, A a0), (1, A a1), (2, A a2), (4, I a4), (5, I a5), (9, pf a3 0)] [] ?_
  refine pwp_seq ?_
  refine srv 6 26 [(2, A a2), (4, I a4), (5, I a5), (9, pf a3 0), (13, A a0), (14, A a1), (15, A a2), (16, A a3), (17, I a4), (18, I a5)] [] ?_
  obtain ⟨v1, hv2, h⟩ := bindS h
  refine cF 19 (ok_impl_joinOk hv2) ?_
  refine ve 1 26 [(2, A a2), (4, I a4), (5, I a5), (9, pf a3 0), (20, B ((!v1)))] [] ?_
  refine pc h (fun h => ?_) (fun h => ?_)
  refine srve 26 [(12, .arr 1 0 (eL ([] : List (List T_impl_Value))) true)] [] ?_
  refine ip 26 [(12, .arr 1 0 (eL ([] : List (List T_impl_Value))) true)] [] ?_
  refine pwp_imp (Imp.unfS (st' := ⟨26, [(12, A (([] : List (List T_impl_Value))))], []⟩) 12 [12] (by kernel_rfl)) ?_
  cases h
  exact pwp_ret rz
  refine pwp_skip ?_
  refine srv 4 26 [(21, A a2), (22, I a4), (23, .fn 62 [pf a3 0]), (24, I a5)] [] ?_
  obtain ⟨v4, hv5, h⟩ := bindS h
  refine cF 25 (ok_impl_joins (rfl) (fun _ w hw => ok_impl_LoopJoin_1 hw) hv5) ?_
  refine ve 1 26 [(12, A v4)] [] ?_
  cases h
  exact pwp_ret rz
def impl_Step_rows_L2_l0 (a0 : T_impl_Step) (v5 : List (List T_impl_Value)) : Nat → Int → (List (List T_impl_Value)) → Option (List (List T_impl_Value))
  | 0, _, _ => none
  | f11 + 1, x9, x10 => bif (decide (x9 < ((v5.length : Int)))) then (getI v5 x9).bind fun v14 => (impl_exprHolds v14 a0.fE).bind fun v16 => bif v16 then (app x10 (([v14] : List (List T_impl_Value)))).bind fun v19 => (impl_Step_rows_L2_l0 a0 v5 f11) ((w64 (x9 + 1))) v19 else (impl_Step_rows_L2_l0 a0 v5 f11) ((w64 (x9 + 1))) x10 else some x10
def impl_Step_rows_L2_l1 (a0 : T_impl_Step) (v22 : List (List T_impl_Value)) : Nat → Int → (List (List T_impl_Value)) → Option (List (List T_impl_Value))
  | 0, _, _ => none
  | f28 + 1, x26, x27 => bif (decide (x26 < ((v22.length : Int)))) then (getI v22 x26).bind fun v31 => (impl_taken v31 a0.fList).bind fun v33 => (app x27 (([v33] : List (List T_impl_Value)))).bind fun v35 => (impl_Step_rows_L2_l1 a0 v22 f28) ((w64 (x26 + 1))) v35 else some x27
def impl_Step_rows_L2_l3 (a0 : T_impl_Step) (x42 : Int) (K45 : Int → (List (List T_impl_Value)) → Option (List (List T_impl_Value))) (v47 : List T_impl_Value) (v49 : List (List T_impl_Value)) : Nat → Int → (List (List T_impl_Value)) → Option (List (List T_impl_Value))
  | 0, _, _ => none
  | f55 + 1, x53, x54 => bif (decide (x53 < ((v49.length : Int)))) then (getI v49 x53).bind fun v58 => (impl_beside v47 v58).bind fun v60 => (impl_exprHolds v60 a0.fE).bind fun v62 => bif v62 then (app x54 (([v60] : List (List T_impl_Value)))).bind fun v65 => (impl_Step_rows_L2_l3 a0 x42 K45 v47 v49 f55) ((w64 (x53 + 1))) v65 else (impl_Step_rows_L2_l3 a0 x42 K45 v47 v49 f55) ((w64 (x53 + 1))) x54 else K45 ((w64 (x42 + 1))) x54
def impl_Step_rows_L2_l2 (a0 : T_impl_Step) (a2 : List (List (List T_impl_Value))) (v38 : List (List T_impl_Value)) : Nat → Int → (List (List T_impl_Value)) → Option (List (List T_impl_Value))
  | 0, _, _ => none
  | f44 + 1, x42, x43 => bif (decide (x42 < ((v38.length : Int)))) then (getI v38 x42).bind fun v47 => (getI a2 a0.fB).bind fun v49 => impl_Step_rows_L2_l3 a0 x42 (impl_Step_rows_L2_l2 a0 a2 v38 f44) v47 v49 FUEL 0 x43 else some x43
def impl_Step_rows_L2 (a0 : T_impl_Step) (a1 : List T_impl_Table) (a2 : List (List (List T_impl_Value))) : Option (List (List T_impl_Value)) := bif (a0.fKind == 1) then (getI a1 a0.fN).bind fun v2 => some v2.fRows else bif (a0.fKind == 2) then (getI a2 a0.fA).bind fun v5 => impl_Step_rows_L2_l0 a0 v5 FUEL 0 (([] : List (List T_impl_Value))) else bif (a0.fKind == 3) then (getI a2 a0.fA).bind fun v22 => impl_Step_rows_L2_l1 a0 v22 FUEL 0 (([] : List (List T_impl_Value))) else bif (a0.fKind == 4) then (getI a2 a0.fA).bind fun v38 => impl_Step_rows_L2_l2 a0 a2 v38 FUEL 0 (([] : List (List T_impl_Value))) else bif (a0.fKind == 5) then (getI a2 a0.fA).bind fun v68 => (getI a2 a0.fB).bind fun v70 => (slices_Concat_impl_Value_impl_Value_s3 ([v68, v70])).bind fun v72 => some v72 else bif (a0.fKind == 6) then (getI a2 a0.fA).bind fun v75 => (impl_RowsOnce v75).bind fun v77 => some v77 else some (([] : List (List T_impl_Value)))
theorem ok_impl_Step_rows_L2 {a0 : T_impl_Step} {a1 : List T_impl_Table} {a2 : List (List (List T_impl_Value))} {y : List (List T_impl_Value)} (h : impl_Step_rows_L2 a0 a1 a2 = some y) : OKs Tryz.prog 137 [E a0, A a1] 1 a2.length (eL a2) [] (A y) (eL a2) := by
  refine OKs_of_pwp τ_ok Tryz.func137 rfl (by kernel_rfl) rfl (eL_frz _) (eL_frz _) rfl fun Γ hQ => ?_
  refine pwp_imp (Imp.to (st' := ⟨126, [(0, E a0), (1, A a1), (2, rf 0 0 1 a2)], [sl 0 a2]⟩) [0, 1, 2] (by kernel_rfl)) ?_
  unfold impl_Step_rows_L2 at h
  refine srve 126 [(1, A a1), (2, rf 0 0 1 a2), (3, pf a0 0)] [sl 0 a2] ?_
  refine srve 126 [(1, A a1), (2, rf 0 0 1 a2), (3, pf a0 0), (7, .arr 1 0 (eL ([] : List (List T_impl_Value))) true)] [sl 0 a2] ?_
  refine pwp_seq ?_
  refine srve 126 [(1, A a1), (2, rf 0 0 1 a2), (3, pf a0 0), (7, .arr 1 0 (eL ([] : List (List T_impl_Value))) true), (18, I a0.fKind)] [sl 0 a2] ?_
  refine pwp_block ?_
  refine srve 126 [(1, A a1), (2, rf 0 0 1 a2), (3, pf a0 0), (7, .arr 1 0 (eL ([] : List (List T_impl_Value))) true), (18, I a0.fKind), (19, B ((a0.fKind == 1)))] [sl 0 a2] ?_
  refine pc h (fun h => ?_) (fun h => ?_)
  refine srv 3 126 [(21, A a1), (23, I a0.fN)] [sl 0 a2] ?_
  obtain ⟨v2, hv3, h⟩ := bindS h
  refine opsP_idx τ_ok 24 hv3 (by kernel_rfl) ?_
  refine ve 3 126 [(6, A v2.fRows)] [sl 0 a2] ?_
  have h := si h
  subst h
  exact pwp_ret ⟨.inr rfl, A v2.fRows, _, 0, by kernel_rfl, (OutP.frz (by kernel_rfl)), by decide, by decide, by kernel_rfl⟩
  refine srve 126 [(2, rf 0 0 1 a2), (3, pf a0 0), (7, .arr 1 0 (eL ([] : List (List T_impl_Value))) true), (18, I a0.fKind), (27, B ((a0.fKind == 2)))] [sl 0 a2] ?_
  refine pc h (fun h => ?_) (fun h => ?_)
  refine srv 3 126 [(3, pf a0 0), (7, .arr 1 0 (eL ([] : List (List T_impl_Value))) true), (29, rf 0 0 1 a2), (31, I a0.fA)] [sl 0 a2] ?_
  obtain ⟨v5, hv6, h⟩ := bindS h
  refine opsP_idr τ_ok 32 0 0 a2.length hv6 rfl (by kernel_rfl) ?_
  refine opsP_lde (r := A v5) τ_ok 33 24 0 hv6 (by kernel_rfl) (by kernel_rfl) ?_
  refine ve 2 126 [(3, pf a0 0), (7, .arr 1 0 (eL ([] : List (List T_impl_Value))) true), (33, A v5), (34, I ((v5.length : Int))), (35, I 0)] [sl 0 a2] ?_
  refine pwp_block ?_
  refine pwp_loop (ι := Nat × Int × (List (List T_impl_Value))) (fun (f11, x9, x10) => (⟨126, [(3, pf a0 0), (7, rf 1 0 1 x10), (33, A v5), (34, I ((v5.length : Int))), (35, I x9)], [sl 0 a2, sl 0 x10]⟩ : St)) (fun (f11, x9, x10) => impl_Step_rows_L2_l0 a0 v5 f11 x9 x10 = some y) Prod.fst (FUEL, 0, ([] : List (List T_impl_Value))) h (Imp.thawS 7 [3, 7, 33, 34, 35] (by kernel_rfl)) ?_
  rintro ⟨f11, x9, x10⟩ h
  dsimp only at h ⊢
  rcases f11 with _ | f11
  cases h
  rw [impl_Step_rows_L2_l0] at h
  refine srve 126 [(3, pf a0 0), (7, rf 1 0 1 x10), (33, A v5), (34, I ((v5.length : Int))), (35, I x9), (36, B ((decide (x9 < ((v5.length : Int))))))] [sl 0 a2, sl 0 x10] ?_
  refine pwp_seq ?_
  refine pc h (fun h => ?_) (fun h => ?_)
  refine pwp_skip ?_
  refine pwp_seq ?_
  refine pwp_block ?_
  refine pwp_seq ?_
  refine pwp_region ?_
  obtain ⟨v14, hv15, h⟩ := bindS h
  refine opsP_idx τ_ok 37 hv15 (by kernel_rfl) ?_
  refine ve 2 126 [(3, pf a0 0), (7, rf 1 0 1 x10), (9, A v14), (33, A v5), (34, I ((v5.length : Int))), (35, I x9)] [sl 0 a2, sl 0 x10] ?_
  refine srv 3 126 [(3, pf a0 0), (7, rf 1 0 1 x10), (9, A v14), (33, A v5), (34, I ((v5.length : Int))), (35, I x9), (39, A v14), (41, A a0.fE)] [sl 0 a2, sl 0 x10] ?_
  obtain ⟨v16, hv17, h⟩ := bindS h
  refine cF 42 (ok_impl_exprHolds hv17) ?_
  refine ve 0 126 [(3, pf a0 0), (7, rf 1 0 1 x10), (9, A v14), (33, A v5), (34, I ((v5.length : Int))), (35, I x9), (42, B v16)] [sl 0 a2, sl 0 x10] ?_
  refine pc h (fun h => ?_) (fun h => ?_)
  refine rv 3 126 [(3, pf a0 0), (33, A v5), (34, I ((v5.length : Int))), (35, I x9), (43, rf 1 0 1 x10), (45, .arr 1 (([v14] : List (List T_impl_Value))).length (eL ([v14] : List (List T_impl_Value))) true)] [sl 0 a2, sl 0 x10] ?_
  obtain ⟨v19, hv20, h⟩ := bindS h
  refine opsP_app τ_ok 46 1 0 (pn hQ) hv20 (by kernel_rfl) ?_
  refine ve 1 126 [(3, pf a0 0), (7, rf 1 1 1 v19), (33, A v5), (34, I ((v5.length : Int))), (35, I x9)] [sl 0 a2, sl 1 v19] ?_
  refine rve 126 [(3, pf a0 0), (7, rf 1 1 1 v19), (33, A v5), (34, I ((v5.length : Int))), (35, I ((w64 (x9 + 1))))] [sl 0 a2, sl 1 v19] ?_
  exact ⟨(f11, (w64 (x9 + 1)), v19), h, Nat.lt_succ_self _, (it (st' := ⟨126, [(3, pf a0 0), (7, rf 1 1 1 v19), (33, A v5), (34, I ((v5.length : Int))), (35, I ((w64 (x9 + 1))))], [sl 0 a2, sl 1 v19]⟩) [3, 7, 33, 34, 35]).trans (Imp.reverS 1 1 (eL v19) [3, 7, 33, 34, 35] (by kernel_rfl) (by exact (And.intro (eL_frz _) (And.intro (eL_frz _) trivial))) (by kernel_rfl))⟩
  refine pwp_skip ?_
  refine rve 126 [(3, pf a0 0), (7, rf 1 0 1 x10), (33, A v5), (34, I ((v5.length : Int))), (35, I ((w64 (x9 + 1))))] [sl 0 a2, sl 0 x10] ?_
  exact ⟨(f11, (w64 (x9 + 1)), x10), h, Nat.lt_succ_self _, it [3, 7, 33, 34, 35]⟩
  refine pwp_exit ?_
  refine srve 126 [(6, rf 1 0 1 x10)] [sl 0 a2, sl 0 x10] ?_
  refine ip 126 [(6, rf 1 0 1 x10)] [sl 0 a2, sl 0 x10] ?_
  refine pwp_imp ((Imp.freezeB (v := 0) (cs := eL x10) (st' := ⟨126, [(6, A x10)], [sl 0 a2, none]⟩) 1 0 (pn hQ) (by kernel_rfl) (eL_frz _) (wholeC (whole_is (eL_len x10).symm) wholeC0) (HpRel.frz rfl (eL_frz _) (HpRel.key HpRel.nil)) (by kernel_rfl) rfl (p01 hQ))) ?_
  have h := si h
  subst h
  exact pwp_ret ⟨.inr rfl, A x10, _, 0, by kernel_rfl, (OutP.frz (by kernel_rfl)), by decide, by decide, by kernel_rfl⟩
  refine srve 126 [(2, rf 0 0 1 a2), (3, pf a0 0), (7, .arr 1 0 (eL ([] : List (List T_impl_Value))) true), (18, I a0.fKind), (48, B ((a0.fKind == 3)))] [sl 0 a2] ?_
  refine pc h (fun h => ?_) (fun h => ?_)
  refine srv 3 126 [(3, pf a0 0), (7, .arr 1 0 (eL ([] : List (List T_impl_Value))) true), (50, rf 0 0 1 a2), (52, I a0.fA)] [sl 0 a2] ?_
  obtain ⟨v22, hv23, h⟩ := bindS h
  refine opsP_idr τ_ok 53 0 0 a2.length hv23 rfl (by kernel_rfl) ?_
  refine opsP_lde (r := A v22) τ_ok 54 24 0 hv23 (by kernel_rfl) (by kernel_rfl) ?_
  refine ve 2 126 [(3, pf a0 0), (7, .arr 1 0 (eL ([] : List (List T_impl_Value))) true), (54, A v22), (55, I ((v22.length : Int))), (56, I 0)] [sl 0 a2] ?_
  refine pwp_block ?_
  refine pwp_loop (ι := Nat × Int × (List (List T_impl_Value))) (fun (f28, x26, x27) => (⟨126, [(3, pf a0 0), (7, rf 1 0 1 x27), (54, A v22), (55, I ((v22.length : Int))), (56, I x26)], [sl 0 a2, sl 0 x27]⟩ : St)) (fun (f28, x26, x27) => impl_Step_rows_L2_l1 a0 v22 f28 x26 x27 = some y) Prod.fst (FUEL, 0, ([] : List (List T_impl_Value))) h (Imp.thawS 7 [3, 7, 54, 55, 56] (by kernel_rfl)) ?_
  rintro ⟨f28, x26, x27⟩ h
  dsimp only at h ⊢
  rcases f28 with _ | f28
  cases h
  rw [impl_Step_rows_L2_l1] at h
  refine srve 126 [(3, pf a0 0), (7, rf 1 0 1 x27), (54, A v22), (55, I ((v22.length : Int))), (56, I x26), (57, B ((decide (x26 < ((v22.length : Int))))))] [sl 0 a2, sl 0 x27] ?_
  refine pwp_seq ?_
  refine pc h (fun h => ?_) (fun h => ?_)
  refine pwp_skip ?_
  refine pwp_seq ?_
  refine pwp_block ?_
  refine pwp_seq ?_
  refine pwp_region ?_
  obtain ⟨v31, hv32, h⟩ := bindS h
  refine opsP_idx τ_ok 58 hv32 (by kernel_rfl) ?_
  refine ve 2 126 [(3, pf a0 0), (7, rf 1 0 1 x27), (11, A v31), (54, A v22), (55, I ((v22.length : Int))), (56, I x26)] [sl 0 a2, sl 0 x27] ?_
  refine rv 4 126 [(3, pf a0 0), (54, A v22), (55, I ((v22.length : Int))), (56, I x26), (60, rf 1 0 1 x27), (61, A v31), (63, A a0.fList)] [sl 0 a2, sl 0 x27] ?_
  obtain ⟨v33, hv34, h⟩ := bindS h
  refine cF 64 (ok_impl_taken hv34) ?_
  refine v 1 126 [(3, pf a0 0), (54, A v22), (55, I ((v22.length : Int))), (56, I x26), (60, rf 1 0 1 x27), (65, .arr 1 (([v33] : List (List T_impl_Value))).length (eL ([v33] : List (List T_impl_Value))) true)] [sl 0 a2, sl 0 x27] ?_
  obtain ⟨v35, hv36, h⟩ := bindS h
  refine opsP_app τ_ok 66 1 0 (pn hQ) hv36 (by kernel_rfl) ?_
  refine ve 1 126 [(3, pf a0 0), (7, rf 1 1 1 v35), (54, A v22), (55, I ((v22.length : Int))), (56, I x26)] [sl 0 a2, sl 1 v35] ?_
  refine rve 126 [(3, pf a0 0), (7, rf 1 1 1 v35), (54, A v22), (55, I ((v22.length : Int))), (56, I ((w64 (x26 + 1))))] [sl 0 a2, sl 1 v35] ?_
  exact ⟨(f28, (w64 (x26 + 1)), v35), h, Nat.lt_succ_self _, (it (st' := ⟨126, [(3, pf a0 0), (7, rf 1 1 1 v35), (54, A v22), (55, I ((v22.length : Int))), (56, I ((w64 (x26 + 1))))], [sl 0 a2, sl 1 v35]⟩) [3, 7, 54, 55, 56]).trans (Imp.reverS 1 1 (eL v35) [3, 7, 54, 55, 56] (by kernel_rfl) (by exact (And.intro (eL_frz _) (And.intro (eL_frz _) trivial))) (by kernel_rfl))⟩
  refine pwp_exit ?_
  refine srve 126 [(6, rf 1 0 1 x27)] [sl 0 a2, sl 0 x27] ?_
  refine ip 126 [(6, rf 1 0 1 x27)] [sl 0 a2, sl 0 x27] ?_
  refine pwp_imp ((Imp.freezeB (v := 0) (cs := eL x27) (st' := ⟨126, [(6, A x27)], [sl 0 a2, none]⟩) 1 0 (pn hQ) (by kernel_rfl) (eL_frz _) (wholeC (whole_is (eL_len x27).symm) wholeC0) (HpRel.frz rfl (eL_frz _) (HpRel.key HpRel.nil)) (by kernel_rfl) rfl (p01 hQ))) ?_
  have h := si h
  subst h
  exact pwp_ret ⟨.inr rfl, A x27, _, 0, by kernel_rfl, (OutP.frz (by kernel_rfl)), by decide, by decide, by kernel_rfl⟩
  refine srve 126 [(2, rf 0 0 1 a2), (3, pf a0 0), (7, .arr 1 0 (eL ([] : List (List T_impl_Value))) true), (18, I a0.fKind), (68, B ((a0.fKind == 4)))] [sl 0 a2] ?_
  refine pc h (fun h => ?_) (fun h => ?_)
  refine srv 3 126 [(2, rf 0 0 1 a2), (3, pf a0 0), (7, .arr 1 0 (eL ([] : List (List T_impl_Value))) true), (70, rf 0 0 1 a2), (72, I a0.fA)] [sl 0 a2] ?_
  obtain ⟨v38, hv39, h⟩ := bindS h
  refine opsP_idr τ_ok 73 0 0 a2.length hv39 rfl (by kernel_rfl) ?_
  refine opsP_lde (r := A v38) τ_ok 74 24 0 hv39 (by kernel_rfl) (by kernel_rfl) ?_
  refine ve 2 126 [(2, rf 0 0 1 a2), (3, pf a0 0), (7, .arr 1 0 (eL ([] : List (List T_impl_Value))) true), (74, A v38), (75, I ((v38.length : Int))), (76, I 0)] [sl 0 a2] ?_
  refine pwp_block ?_
  refine pwp_loop (ι := Nat × Int × (List (List T_impl_Value))) (fun (f44, x42, x43) => (⟨126, [(2, rf 0 0 1 a2), (3, pf a0 0), (7, rf 1 0 1 x43), (74, A v38), (75, I ((v38.length : Int))), (76, I x42)], [sl 0 a2, sl 0 x43]⟩ : St)) (fun (f44, x42, x43) => impl_Step_rows_L2_l2 a0 a2 v38 f44 x42 x43 = some y) Prod.fst (FUEL, 0, ([] : List (List T_impl_Value))) h (Imp.thawS 7 [2, 3, 7, 74, 75, 76] (by kernel_rfl)) ?_
  rintro ⟨f44, x42, x43⟩ h
  dsimp only at h ⊢
  rcases f44 with _ | f44
  cases h
  rw [impl_Step_rows_L2_l2] at h
  refine srve 126 [(2, rf 0 0 1 a2), (3, pf a0 0), (7, rf 1 0 1 x43), (74, A v38), (75, I ((v38.length : Int))), (76, I x42), (77, B ((decide (x42 < ((v38.length : Int))))))] [sl 0 a2, sl 0 x43] ?_
  refine pwp_seq ?_
  refine pc h (fun h => ?_) (fun h => ?_)
  refine pwp_skip ?_
  refine pwp_seq ?_
  refine pwp_block ?_
  refine pwp_seq ?_
  refine pwp_region ?_
  obtain ⟨v47, hv48, h⟩ := bindS h
  refine opsP_idx τ_ok 78 hv48 (by kernel_rfl) ?_
  refine ve 2 126 [(2, rf 0 0 1 a2), (3, pf a0 0), (7, rf 1 0 1 x43), (13, A v47), (74, A v38), (75, I ((v38.length : Int))), (76, I x42)] [sl 0 a2, sl 0 x43] ?_
  refine srv 3 126 [(2, rf 0 0 1 a2), (3, pf a0 0), (7, rf 1 0 1 x43), (13, A v47), (74, A v38), (75, I ((v38.length : Int))), (76, I x42), (80, rf 0 0 1 a2), (82, I a0.fB)] [sl 0 a2, sl 0 x43] ?_
  obtain ⟨v49, hv50, h⟩ := bindS h
  refine opsP_idr τ_ok 83 0 0 a2.length hv50 rfl (by kernel_rfl) ?_
  refine opsP_lde (r := A v49) τ_ok 84 24 0 hv50 (by kernel_rfl) (by kernel_rfl) ?_
  refine ve 2 126 [(2, rf 0 0 1 a2), (3, pf a0 0), (7, rf 1 0 1 x43), (13, A v47), (74, A v38), (75, I ((v38.length : Int))), (76, I x42), (84, A v49), (85, I ((v49.length : Int))), (86, I 0)] [sl 0 a2, sl 0 x43] ?_
  refine pwp_block ?_
  refine pwp_loop (ι := Nat × Int × (List (List T_impl_Value))) (fun (f55, x53, x54) => (⟨126, [(2, rf 0 0 1 a2), (3, pf a0 0), (7, rf 1 0 1 x54), (13, A v47), (74, A v38), (75, I ((v38.length : Int))), (76, I x42), (84, A v49), (85, I ((v49.length : Int))), (86, I x53)], [sl 0 a2, sl 0 x54]⟩ : St)) (fun (f55, x53, x54) => impl_Step_rows_L2_l3 a0 x42 (impl_Step_rows_L2_l2 a0 a2 v38 f44) v47 v49 f55 x53 x54 = some y) Prod.fst (FUEL, 0, x43) h (it [2, 3, 7, 13, 74, 75, 76, 84, 85, 86]) ?_
  rintro ⟨f55, x53, x54⟩ h
  dsimp only at h ⊢
  rcases f55 with _ | f55
  cases h
  rw [impl_Step_rows_L2_l3] at h
  refine srve 126 [(2, rf 0 0 1 a2), (3, pf a0 0), (7, rf 1 0 1 x54), (13, A v47), (74, A v38), (75, I ((v38.length : Int))), (76, I x42), (84, A v49), (85, I ((v49.length : Int))), (86, I x53), (87, B ((decide (x53 < ((v49.length : Int))))))] [sl 0 a2, sl 0 x54] ?_
  refine pwp_seq ?_
  refine pc h (fun h => ?_) (fun h => ?_)
  refine pwp_skip ?_
  refine pwp_seq ?_
  refine pwp_block ?_
  refine pwp_seq ?_
  refine pwp_region ?_
  obtain ⟨v58, hv59, h⟩ := bindS h
  refine opsP_idx τ_ok 88 hv59 (by kernel_rfl) ?_
  refine ve 2 126 [(2, rf 0 0 1 a2), (3, pf a0 0), (7, rf 1 0 1 x54), (13, A v47), (15, A v58), (74, A v38), (75, I ((v38.length : Int))), (76, I x42), (84, A v49), (85, I ((v49.length : Int))), (86, I x53)] [sl 0 a2, sl 0 x54] ?_
  refine srv 2 126 [(2, rf 0 0 1 a2), (3, pf a0 0), (7, rf 1 0 1 x54), (13, A v47), (74, A v38), (75, I ((v38.length : Int))), (76, I x42), (84, A v49), (85, I ((v49.length : Int))), (86, I x53), (90, A v47), (91, A v58)] [sl 0 a2, sl 0 x54] ?_
  obtain ⟨v60, hv61, h⟩ := bindS h
  refine cF 92 (ok_impl_beside hv61) ?_
  refine ve 1 126 [(2, rf 0 0 1 a2), (3, pf a0 0), (7, rf 1 0 1 x54), (13, A v47), (16, A v60), (74, A v38), (75, I ((v38.length : Int))), (76, I x42), (84, A v49), (85, I ((v49.length : Int))), (86, I x53)] [sl 0 a2, sl 0 x54] ?_
  refine srv 3 126 [(2, rf 0 0 1 a2), (3, pf a0 0), (7, rf 1 0 1 x54), (13, A v47), (16, A v60), (74, A v38), (75, I ((v38.length : Int))), (76, I x42), (84, A v49), (85, I ((v49.length : Int))), (86, I x53), (93, A v60), (95, A a0.fE)] [sl 0 a2, sl 0 x54] ?_
  obtain ⟨v62, hv63, h⟩ := bindS h
  refine cF 96 (ok_impl_exprHolds hv63) ?_
  refine ve 0 126 [(2, rf 0 0 1 a2), (3, pf a0 0), (7, rf 1 0 1 x54), (13, A v47), (16, A v60), (74, A v38), (75, I ((v38.length : Int))), (76, I x42), (84, A v49), (85, I ((v49.length : Int))), (86, I x53), (96, B v62)] [sl 0 a2, sl 0 x54] ?_
  refine pc h (fun h => ?_) (fun h => ?_)
  refine rv 3 126 [(2, rf 0 0 1 a2), (3, pf a0 0), (13, A v47), (74, A v38), (75, I ((v38.length : Int))), (76, I x42), (84, A v49), (85, I ((v49.length : Int))), (86, I x53), (97, rf 1 0 1 x54), (99, .arr 1 (([v60] : List (List T_impl_Value))).length (eL ([v60] : List (List T_impl_Value))) true)] [sl 0 a2, sl 0 x54] ?_
  obtain ⟨v65, hv66, h⟩ := bindS h
  refine opsP_app τ_ok 100 1 0 (pn hQ) hv66 (by kernel_rfl) ?_
  refine ve 1 126 [(2, rf 0 0 1 a2), (3, pf a0 0), (7, rf 1 1 1 v65), (13, A v47), (74, A v38), (75, I ((v38.length : Int))), (76, I x42), (84, A v49), (85, I ((v49.length : Int))), (86, I x53)] [sl 0 a2, sl 1 v65] ?_
  refine rve 126 [(2, rf 0 0 1 a2), (3, pf a0 0), (7, rf 1 1 1 v65), (13, A v47), (74, A v38), (75, I ((v38.length : Int))), (76, I x42), (84, A v49), (85, I ((v49.length : Int))), (86, I ((w64 (x53 + 1))))] [sl 0 a2, sl 1 v65] ?_
  exact ⟨(f55, (w64 (x53 + 1)), v65), h, Nat.lt_succ_self _, (it (st' := ⟨126, [(2, rf 0 0 1 a2), (3, pf a0 0), (7, rf 1 1 1 v65), (13, A v47), (74, A v38), (75, I ((v38.length : Int))), (76, I x42), (84, A v49), (85, I ((v49.length : Int))), (86, I ((w64 (x53 + 1))))], [sl 0 a2, sl 1 v65]⟩) [2, 3, 7, 13, 74, 75, 76, 84, 85, 86]).trans (Imp.reverS 1 1 (eL v65) [2, 3, 7, 13, 74, 75, 76, 84, 85, 86] (by kernel_rfl) (by exact (And.intro (eL_frz _) (And.intro (eL_frz _) trivial))) (by kernel_rfl))⟩
  refine pwp_skip ?_
  refine rve 126 [(2, rf 0 0 1 a2), (3, pf a0 0), (7, rf 1 0 1 x54), (13, A v47), (74, A v38), (75, I ((v38.length : Int))), (76, I x42), (84, A v49), (85, I ((v49.length : Int))), (86, I ((w64 (x53 + 1))))] [sl 0 a2, sl 0 x54] ?_
  exact ⟨(f55, (w64 (x53 + 1)), x54), h, Nat.lt_succ_self _, it [2, 3, 7, 13, 74, 75, 76, 84, 85, 86]⟩
  refine pwp_exit ?_
  refine rve 126 [(2, rf 0 0 1 a2), (3, pf a0 0), (7, rf 1 0 1 x54), (74, A v38), (75, I ((v38.length : Int))), (76, I ((w64 (x42 + 1))))] [sl 0 a2, sl 0 x54] ?_
  exact ⟨(f44, (w64 (x42 + 1)), x54), h, Nat.lt_succ_self _, it [2, 3, 7, 74, 75, 76]⟩
  refine pwp_exit ?_
  refine srve 126 [(6, rf 1 0 1 x43)] [sl 0 a2, sl 0 x43] ?_
  refine ip 126 [(6, rf 1 0 1 x43)] [sl 0 a2, sl 0 x43] ?_
  refine pwp_imp ((Imp.freezeB (v := 0) (cs := eL x43) (st' := ⟨126, [(6, A x43)], [sl 0 a2, none]⟩) 1 0 (pn hQ) (by kernel_rfl) (eL_frz _) (wholeC (whole_is (eL_len x43).symm) wholeC0) (HpRel.frz rfl (eL_frz _) (HpRel.key HpRel.nil)) (by kernel_rfl) rfl (p01 hQ))) ?_
  have h := si h
  subst h
  exact pwp_ret ⟨.inr rfl, A x43, _, 0, by kernel_rfl, (OutP.frz (by kernel_rfl)), by decide, by decide, by kernel_rfl⟩
  refine srve 126 [(2, rf 0 0 1 a2), (3, pf a0 0), (7, .arr 1 0 (eL ([] : List (List T_impl_Value))) true), (18, I a0.fKind), (103, B ((a0.fKind == 5)))] [sl 0 a2] ?_
  refine pc h (fun h => ?_) (fun h => ?_)
  refine pwp_seq ?_
  refine ip 126 [(2, rf 0 0 1 a2), (3, pf a0 0)] [sl 0 a2] ?_
  refine pwp_any ([[0], [], [], [0], [0], [0], [], [], [0], [0], [], [], []]) ([[], [], [], [], [], [], [], [], [], [], [], [], []]) rfl (by kernel_rfl) ?_
  refine qv [0] (hL trivial) 1 126 [(105, rf 0 0 1 a2), (2, rf 0 0 1 a2), (3, pf a0 0)] [sl 0 a2] ?_
  refine qv [] trivial 2 126 [(107, I a0.fA), (105, rf 0 0 1 a2), (2, rf 0 0 1 a2), (3, pf a0 0)] [sl 0 a2] ?_
  obtain ⟨v68, hv69, h⟩ := bindS h
  refine qX (some 108) (.ptr 0 0 (a0.fA.toNat * 1)) 126 [(108, .ptr 0 0 (a0.fA.toNat * 1)), (2, rf 0 0 1 a2), (3, pf a0 0)] [sl 0 a2] (fun Γ' hΓ => CoreE.of_y (idrV_sound (n := a2.length) τ_ok (by kernel_rfl) hv69 rfl)) (hL trivial) ?_
  refine qX (some 109) (A v68) 126 [(109, A v68), (2, rf 0 0 1 a2), (3, pf a0 0)] [sl 0 a2] (fun Γ' hΓ => CoreE.of_y (ldeV_sound (t := 24) (o' := 0) (r := A v68) τ_ok hv69 (by kernel_rfl) (by kernel_rfl))) (hL trivial) ?_
  refine qv [0] (hL trivial) 1 126 [(110, rf 0 0 1 a2), (109, A v68), (3, pf a0 0)] [sl 0 a2] ?_
  refine qv [] trivial 2 126 [(112, I a0.fB), (110, rf 0 0 1 a2), (109, A v68)] [sl 0 a2] ?_
  obtain ⟨v70, hv71, h⟩ := bindS h
  refine qX (some 113) (.ptr 0 0 (a0.fB.toNat * 1)) 126 [(113, .ptr 0 0 (a0.fB.toNat * 1)), (109, A v68)] [sl 0 a2] (fun Γ' hΓ => CoreE.of_y (idrV_sound (n := a2.length) τ_ok (by kernel_rfl) hv71 rfl)) (hL trivial) ?_
  refine qX (some 114) (A v70) 126 [(114, A v70), (109, A v68)] [sl 0 a2] (fun Γ' hΓ => CoreE.of_y (ldeV_sound (t := 24) (o' := 0) (r := A v70) τ_ok hv71 (by kernel_rfl) (by kernel_rfl))) (hL trivial) ?_
  refine qv [] trivial 1 126 [(115, .arr 1 (([v68, v70] : List (List (List T_impl_Value)))).length (eL ([v68, v70] : List (List (List T_impl_Value)))) true)] [sl 0 a2] ?_
  obtain ⟨v72, hv73, h⟩ := bindS h
  refine qX (some 116) (A v72) 126 [(116, A v72)] [sl 0 a2] (fun Γ' hΓ => CoreE.of_g (callV_sound (τ := τ) (by kernel_rfl) rfl (ok_slices_Concat_impl_Value_impl_Value_s3 hv73) (FzTo.O _))) trivial ?_
  refine qvn [] trivial 1 126 [(6, A v72)] [sl 0 a2] ?_
  have h := si h
  subst h
  exact pwp_ret ⟨.inr rfl, A v72, _, 0, by kernel_rfl, (OutP.frz (by kernel_rfl)), by decide, by decide, by kernel_rfl⟩
  refine srve 126 [(2, rf 0 0 1 a2), (3, pf a0 0), (7, .arr 1 0 (eL ([] : List (List T_impl_Value))) true), (117, B ((a0.fKind == 6)))] [sl 0 a2] ?_
  refine pc h (fun h => ?_) (fun h => ?_)
  refine srv 3 126 [(119, rf 0 0 1 a2), (121, I a0.fA)] [sl 0 a2] ?_
  obtain ⟨v75, hv76, h⟩ := bindS h
  refine opsP_idr τ_ok 122 0 0 a2.length hv76 rfl (by kernel_rfl) ?_
  refine opsP_lde (r := A v75) τ_ok 123 24 0 hv76 (by kernel_rfl) (by kernel_rfl) ?_
  obtain ⟨v77, hv78, h⟩ := bindS h
  refine cF 124 (ok_impl_RowsOnce hv78) ?_
  refine ve 1 126 [(6, A v77)] [sl 0 a2] ?_
  have h := si h
  subst h
  exact pwp_ret ⟨.inr rfl, A v77, _, 0, by kernel_rfl, (OutP.frz (by kernel_rfl)), by decide, by decide, by kernel_rfl⟩
  refine pwp_skip ?_
  refine srve 126 [(6, .arr 1 0 (eL ([] : List (List T_impl_Value))) true)] [sl 0 a2] ?_
  refine ip 126 [(6, .arr 1 0 (eL ([] : List (List T_impl_Value))) true)] [sl 0 a2] ?_
  refine pwp_imp (Imp.unfS (st' := ⟨126, [(6, A (([] : List (List T_impl_Value))))], [sl 0 a2]⟩) 6 [6] (by kernel_rfl)) ?_
  have h := si h
  subst h
  exact pwp_ret ⟨.inr rfl, A (([] : List (List T_impl_Value))), _, 0, by kernel_rfl, (OutP.frz (by kernel_rfl)), by decide, by decide, by kernel_rfl⟩
def impl_Step_make_L2_l2 (a0 : T_impl_Step) (v11 : T_impl_made) : Nat → Int → (List T_impl_Column) → Option (T_impl_made × Bool)
  | 0, _, _ => none
  | f27 + 1, x25, x26 => bif (decide (x25 < ((a0.fList.length : Int)))) then (getI a0.fList x25).bind fun v30 => (impl_between v30 0 ((w64 (((v11.fColumns.length : Int)) - 1)))).bind fun v32 => bif (!v32) then some ((T_impl_made.mk [] 0), false) else (getI v11.fColumns v30).bind fun v35 => (app x26 (([v35] : List T_impl_Column))).bind fun v37 => (impl_Step_make_L2_l2 a0 v11 f27) ((w64 (x25 + 1))) v37 else some ({ (({ ((T_impl_made.mk [] 0)) with fMost := v11.fMost }) : T_impl_made) with fColumns := x26 }, (decide (((a0.fList.length : Int)) ≤ 4)))
def impl_Step_make_L2_l3 (v11 : T_impl_made) (v13 : T_impl_made) : Nat → Int → (List T_impl_Column) → Option (T_impl_made × Bool)
  | 0, _, _ => none
  | f57 + 1, x55, x56 => bif (decide (x55 < ((v13.fColumns.length : Int)))) then (getI v13.fColumns x55).bind fun v60 => (getI x56 x55).bind fun v62 => bif (!(v60.fKind == v62.fKind)) then some ((T_impl_made.mk [] 0), false) else (getI x56 x55).bind fun v65 => bif v65.fEmpty then (getI x56 x55).bind fun v67 => (impl_Step_make_L2_l3 v11 v13 f57) ((w64 (x55 + 1))) ((x56.set x55.toNat (({ v67 with fEmpty := true } : T_impl_Column)))) else (getI x56 x55).bind fun v69 => (impl_Step_make_L2_l3 v11 v13 f57) ((w64 (x55 + 1))) ((x56.set x55.toNat (({ v69 with fEmpty := v60.fEmpty } : T_impl_Column)))) else some ({ (({ ((T_impl_made.mk [] 0)) with fMost := (w64 (v11.fMost + v13.fMost)) }) : T_impl_made) with fColumns := x56 }, true)
def impl_Step_make_L2_j1 (a0 : T_impl_Step) (a2 : List T_impl_made) (x9 : Bool) : Option (T_impl_made × Bool) := bif x9 then some ((T_impl_made.mk [] 0), false) else (getI a2 a0.fA).bind fun v11 => (getI a2 a0.fB).bind fun v13 => bif (a0.fKind == 2) then (impl_ExprKind v11.fColumns a0.fE).bind fun v16 => some (v11, (v16 == 3)) else bif (a0.fKind == 3) then impl_Step_make_L2_l2 a0 v11 FUEL 0 (([] : List T_impl_Column)) else bif (a0.fKind == 4) then (slices_Concat_impl_Column_impl_Column ([v11.fColumns, v13.fColumns])).bind fun v40 => bif (decide (((((T_impl_made.mk v40 ((w64 (v11.fMost * v13.fMost)))).fColumns).length : Int)) ≤ 4)) then (impl_ExprKind ((T_impl_made.mk v40 ((w64 (v11.fMost * v13.fMost)))).fColumns) a0.fE).bind fun v42 => some ((T_impl_made.mk v40 ((w64 (v11.fMost * v13.fMost)))), (v42 == 3)) else some ((T_impl_made.mk v40 ((w64 (v11.fMost * v13.fMost)))), false) else bif (a0.fKind == 5) then (impl_clone_impl_Column_R v11.fColumns).bind fun v46 => bif (!(((v11.fColumns.length : Int)) == ((v13.fColumns.length : Int)))) then some ((T_impl_made.mk [] 0), false) else impl_Step_make_L2_l3 v11 v13 FUEL 0 v46 else some (v11, true)
def impl_Step_make_L2_j0 (a0 : T_impl_Step) (a1 : List T_impl_Table) (a2 : List T_impl_made) (x1 : Bool) : Option (T_impl_made × Bool) := bif x1 then some ((T_impl_made.mk [] 0), false) else bif (a0.fKind == 1) then (impl_between a0.fN 0 ((w64 (((a1.length : Int)) - 1)))).bind fun v4 => bif (!v4) then some ((T_impl_made.mk [] 0), false) else (getI a1 a0.fN).bind fun v7 => some ((T_impl_made.mk v7.fColumns 6), true) else (impl_between a0.fA 0 ((w64 (((a2.length : Int)) - 1)))).bind fun v72 => bif (!v72) then impl_Step_make_L2_j1 a0 a2 true else (impl_between a0.fB 0 ((w64 (((a2.length : Int)) - 1)))).bind fun v74 => impl_Step_make_L2_j1 a0 a2 ((!v74))
def impl_Step_make_L2 (a0 : T_impl_Step) (a1 : List T_impl_Table) (a2 : List T_impl_made) : Option (T_impl_made × Bool) := (impl_Step_plain a0).bind fun v77 => bif (!v77) then impl_Step_make_L2_j0 a0 a1 a2 true else (impl_between a0.fKind 1 6).bind fun v79 => impl_Step_make_L2_j0 a0 a1 a2 ((!v79))
theorem ok_impl_Step_make_L2 {a0 : T_impl_Step} {a1 : List T_impl_Table} {a2 : List T_impl_made} {y : T_impl_made × Bool} (h : impl_Step_make_L2 a0 a1 a2 = some y) : OKs Tryz.prog 179 [E a0, A a1] 2 a2.length (eL a2) [] (.tup [E y.1, B y.2]) (eL a2) := by
  refine OKs_of_pwp τ_ok Tryz.func179 rfl (by kernel_rfl) rfl (eL_frz _) (eL_frz _) rfl fun Γ hQ => ?_
  refine pwp_imp (Imp.to (st' := ⟨201, [(0, E a0), (1, A a1), (2, rf 0 0 2 a2)], [sl 0 a2]⟩) [0, 1, 2] (by kernel_rfl)) ?_
  unfold impl_Step_make_L2 at h
  refine srveM [6, 8, 9, 10, 13, 14, 16] 201 [(1, A a1), (2, rf 0 0 2 a2), (3, pf a0 0), (6, .ptr 1 0 0)] [sl 0 a2, some ⟨0, Enc.cells ((T_impl_made.mk [] 0))⟩] ?_
  refine pwp_seq ?_
  refine pwp_seq ?_
  refine pwp_join (σ := Bool) (fun x1 => (⟨201, [(1, A a1), (2, rf 0 0 2 a2), (3, pf a0 0), (6, .ptr 1 0 0), (25, B x1)], [sl 0 a2, some ⟨0, Enc.cells ((T_impl_made.mk [] 0))⟩]⟩ : St)) (fun x1 => impl_Step_make_L2_j0 a0 a1 a2 x1 = some y) ?_ ?_
  refine rvM [6, 8, 9, 10, 13, 14, 16] 1 201 [(1, A a1), (2, rf 0 0 2 a2), (3, pf a0 0), (6, .ptr 1 0 0), (17, E a0)] [sl 0 a2, some ⟨0, Enc.cells ((T_impl_made.mk [] 0))⟩] ?_
  obtain ⟨v77, hv78, h⟩ := bindS h
  refine cF 18 (ok_impl_Step_plain hv78) ?_
  refine vM [6, 8, 9, 10, 13, 14, 16] 2 201 [(1, A a1), (2, rf 0 0 2 a2), (3, pf a0 0), (6, .ptr 1 0 0), (20, B ((!v77)))] [sl 0 a2, some ⟨0, Enc.cells ((T_impl_made.mk [] 0))⟩] ?_
  rcases fk ((!v77)) with hc81 | hc81
  replace h := bT hc81 h
  rw [hc81]
  refine veM [6, 8, 9, 10, 13, 14, 16] 5 201 [(1, A a1), (2, rf 0 0 2 a2), (3, pf a0 0), (6, .ptr 1 0 0), (25, B true)] [sl 0 a2, some ⟨0, Enc.cells ((T_impl_made.mk [] 0))⟩] ?_
  exact ⟨true, h, it [1, 2, 3, 6, 25]⟩
  replace h := bF hc81 h
  rw [hc81]
  refine vM [6, 8, 9, 10, 13, 14, 16] 2 201 [(1, A a1), (2, rf 0 0 2 a2), (3, pf a0 0), (6, .ptr 1 0 0), (20, B false), (22, I a0.fKind)] [sl 0 a2, some ⟨0, Enc.cells ((T_impl_made.mk [] 0))⟩] ?_
  obtain ⟨v79, hv80, h⟩ := bindS h
  refine cF 23 (ok_impl_between hv80) ?_
  refine veM [6, 8, 9, 10, 13, 14, 16] 2 201 [(1, A a1), (2, rf 0 0 2 a2), (3, pf a0 0), (6, .ptr 1 0 0), (25, B ((!v79)))] [sl 0 a2, some ⟨0, Enc.cells ((T_impl_made.mk [] 0))⟩] ?_
  exact ⟨(!v79), h, it [1, 2, 3, 6, 25]⟩
  rintro x1 h
  unfold impl_Step_make_L2_j0 at h
  refine pc h (fun h => ?_) (fun h => ?_)
  refine srveM [6, 8, 9, 10, 13, 14, 16] 201 [(6, .ptr 1 0 0), (7, B false)] [sl 0 a2, some ⟨0, Enc.cells ((T_impl_made.mk [] 0))⟩] ?_
  have h := si h
  subst h
  exact pwp_ret ⟨.inr rfl, .tup [E ((T_impl_made.mk [] 0)), B false], _, 0, by kernel_rfl, (OutP.tup (OutL.cons (OutP.frz (by kernel_rfl)) (OutL.cons (OutP.frz (by kernel_rfl)) (OutL.nil _)))), by decide, by decide, by kernel_rfl⟩
  refine pwp_skip ?_
  refine pwp_seq ?_
  refine srveM [6, 8, 9, 10, 13, 14, 16] 201 [(1, A a1), (2, rf 0 0 2 a2), (3, pf a0 0), (6, .ptr 1 0 0), (29, B ((a0.fKind == 1)))] [sl 0 a2, some ⟨0, Enc.cells ((T_impl_made.mk [] 0))⟩] ?_
  refine pc h (fun h => ?_) (fun h => ?_)
  refine pwp_seq ?_
  refine srvM [6, 8, 9, 10, 13, 14, 16] 5 201 [(1, A a1), (3, pf a0 0), (6, .ptr 1 0 0), (31, I a0.fN), (34, I ((w64 (((a1.length : Int)) - 1))))] [sl 0 a2, some ⟨0, Enc.cells ((T_impl_made.mk [] 0))⟩] ?_
  obtain ⟨v4, hv5, h⟩ := bindS h
  refine cF 35 (ok_impl_between hv5) ?_
  refine veM [6, 8, 9, 10, 13, 14, 16] 1 201 [(1, A a1), (3, pf a0 0), (6, .ptr 1 0 0), (36, B ((!v4)))] [sl 0 a2, some ⟨0, Enc.cells ((T_impl_made.mk [] 0))⟩] ?_
  refine pc h (fun h => ?_) (fun h => ?_)
  refine srveM [6, 8, 9, 10, 13, 14, 16] 201 [(6, .ptr 1 0 0), (7, B false)] [sl 0 a2, some ⟨0, Enc.cells ((T_impl_made.mk [] 0))⟩] ?_
  have h := si h
  subst h
  exact pwp_ret ⟨.inr rfl, .tup [E ((T_impl_made.mk [] 0)), B false], _, 0, by kernel_rfl, (OutP.tup (OutL.cons (OutP.frz (by kernel_rfl)) (OutL.cons (OutP.frz (by kernel_rfl)) (OutL.nil _)))), by decide, by decide, by kernel_rfl⟩
  refine pwp_skip ?_
  refine srvM [6, 8, 9, 10, 13, 14, 16] 3 201 [(6, .ptr 1 0 0), (38, A a1), (40, I a0.fN)] [sl 0 a2, some ⟨0, Enc.cells ((T_impl_made.mk [] 0))⟩] ?_
  obtain ⟨v7, hv8, h⟩ := bindS h
  refine opsP_idx τ_ok 41 hv8 (by kernel_rfl) ?_
  refine veM [6, 8, 9, 10, 13, 14, 16] 5 201 [(6, .ptr 1 0 0), (7, B true)] [sl 0 a2, some ⟨0, Enc.cells ((T_impl_made.mk v7.fColumns 6))⟩] ?_
  have h := si h
  subst h
  exact pwp_ret ⟨.inr rfl, .tup [E ((T_impl_made.mk v7.fColumns 6)), B true], _, 0, by kernel_rfl, (OutP.tup (OutL.cons (OutP.frz (by kernel_rfl)) (OutL.cons (OutP.frz (by kernel_rfl)) (OutL.nil _)))), by decide, by decide, by kernel_rfl⟩
  refine pwp_skip ?_
  refine pwp_seq ?_
  refine pwp_seq ?_
  refine pwp_join (σ := Bool) (fun x9 => (⟨201, [(2, rf 0 0 2 a2), (3, pf a0 0), (6, .ptr 1 0 0), (60, B x9)], [sl 0 a2, some ⟨0, Enc.cells ((T_impl_made.mk [] 0))⟩]⟩ : St)) (fun x9 => impl_Step_make_L2_j1 a0 a2 x9 = some y) ?_ ?_
  refine rvM [6, 8, 9, 10, 13, 14, 16] 5 201 [(2, rf 0 0 2 a2), (3, pf a0 0), (6, .ptr 1 0 0), (46, I a0.fA), (49, I ((w64 (((a2.length : Int)) - 1))))] [sl 0 a2, some ⟨0, Enc.cells ((T_impl_made.mk [] 0))⟩] ?_
  obtain ⟨v72, hv73, h⟩ := bindS h
  refine cF 50 (ok_impl_between hv73) ?_
  refine vM [6, 8, 9, 10, 13, 14, 16] 2 201 [(2, rf 0 0 2 a2), (3, pf a0 0), (6, .ptr 1 0 0), (52, B ((!v72)))] [sl 0 a2, some ⟨0, Enc.cells ((T_impl_made.mk [] 0))⟩] ?_
  rcases fk ((!v72)) with hc76 | hc76
  replace h := bT hc76 h
  rw [hc76]
  refine veM [6, 8, 9, 10, 13, 14, 16] 8 201 [(2, rf 0 0 2 a2), (3, pf a0 0), (6, .ptr 1 0 0), (60, B true)] [sl 0 a2, some ⟨0, Enc.cells ((T_impl_made.mk [] 0))⟩] ?_
  exact ⟨true, h, it [2, 3, 6, 60]⟩
  replace h := bF hc76 h
  rw [hc76]
  refine vM [6, 8, 9, 10, 13, 14, 16] 5 201 [(2, rf 0 0 2 a2), (3, pf a0 0), (6, .ptr 1 0 0), (52, B false), (54, I a0.fB), (57, I ((w64 (((a2.length : Int)) - 1))))] [sl 0 a2, some ⟨0, Enc.cells ((T_impl_made.mk [] 0))⟩] ?_
  obtain ⟨v74, hv75, h⟩ := bindS h
  refine cF 58 (ok_impl_between hv75) ?_
  refine veM [6, 8, 9, 10, 13, 14, 16] 2 201 [(2, rf 0 0 2 a2), (3, pf a0 0), (6, .ptr 1 0 0), (60, B ((!v74)))] [sl 0 a2, some ⟨0, Enc.cells ((T_impl_made.mk [] 0))⟩] ?_
  exact ⟨(!v74), h, it [2, 3, 6, 60]⟩
  rintro x9 h
  unfold impl_Step_make_L2_j1 at h
  refine pc h (fun h => ?_) (fun h => ?_)
  refine srveM [6, 8, 9, 10, 13, 14, 16] 201 [(6, .ptr 1 0 0), (7, B false)] [sl 0 a2, some ⟨0, Enc.cells ((T_impl_made.mk [] 0))⟩] ?_
  have h := si h
  subst h
  exact pwp_ret ⟨.inr rfl, .tup [E ((T_impl_made.mk [] 0)), B false], _, 0, by kernel_rfl, (OutP.tup (OutL.cons (OutP.frz (by kernel_rfl)) (OutL.cons (OutP.frz (by kernel_rfl)) (OutL.nil _)))), by decide, by decide, by kernel_rfl⟩
  refine pwp_skip ?_
  refine pwp_seq ?_
  refine ip 201 [(2, rf 0 0 2 a2), (3, pf a0 0), (6, .ptr 1 0 0)] [sl 0 a2, some ⟨0, Enc.cells ((T_impl_made.mk [] 0))⟩] ?_
  refine pwp_imp (Imp.ghosts 2 (st' := ⟨201, [(2, rf 0 0 2 a2), (3, pf a0 0), (6, .ptr 1 0 0)], [sl 0 a2, some ⟨0, Enc.cells ((T_impl_made.mk [] 0))⟩, some ⟨0, []⟩, some ⟨0, []⟩]⟩) (by kernel_rfl)) ?_
  refine pwp_any ([[0], [], [], [0], [0], [0], [], [], [0], [0], [2], [3], [2], [3]]) ([[], [], [], [], [], [], [], [], [], [], [2], [3], [2], [3]]) rfl (by kernel_rfl) ?_
  refine qvM [6, 8, 9, 10, 13, 14, 16] [0] (hL trivial) 1 201 [(62, rf 0 0 2 a2), (2, rf 0 0 2 a2), (3, pf a0 0), (6, .ptr 1 0 0)] [sl 0 a2, some ⟨0, Enc.cells ((T_impl_made.mk [] 0))⟩, some ⟨0, []⟩, some ⟨0, []⟩] ?_
  refine qvM [6, 8, 9, 10, 13, 14, 16] [] trivial 2 201 [(64, I a0.fA), (62, rf 0 0 2 a2), (2, rf 0 0 2 a2), (3, pf a0 0), (6, .ptr 1 0 0)] [sl 0 a2, some ⟨0, Enc.cells ((T_impl_made.mk [] 0))⟩, some ⟨0, []⟩, some ⟨0, []⟩] ?_
  obtain ⟨v11, hv12, h⟩ := bindS h
  refine qX (some 65) (.ptr 0 0 (a0.fA.toNat * 2)) 201 [(65, .ptr 0 0 (a0.fA.toNat * 2)), (2, rf 0 0 2 a2), (3, pf a0 0), (6, .ptr 1 0 0)] [sl 0 a2, some ⟨0, Enc.cells ((T_impl_made.mk [] 0))⟩, some ⟨0, []⟩, some ⟨0, []⟩] (fun Γ' hΓ => CoreE.of_y (idrV_sound (n := a2.length) τ_ok (by kernel_rfl) hv12 rfl)) (hL trivial) ?_
  refine qX (some 66) (E v11) 201 [(66, E v11), (2, rf 0 0 2 a2), (3, pf a0 0), (6, .ptr 1 0 0)] [sl 0 a2, some ⟨0, Enc.cells ((T_impl_made.mk [] 0))⟩, some ⟨0, []⟩, some ⟨0, []⟩] (fun Γ' hΓ => CoreE.of_y (ldeV_sound (t := 139) (o' := 0) (r := E v11) τ_ok hv12 (by kernel_rfl) (by kernel_rfl))) (hL trivial) ?_
  refine qvM [6, 8, 9, 10, 13, 14, 16] [0] (hL trivial) 1 201 [(67, rf 0 0 2 a2), (66, E v11), (3, pf a0 0), (6, .ptr 1 0 0)] [sl 0 a2, some ⟨0, Enc.cells ((T_impl_made.mk [] 0))⟩, some ⟨0, []⟩, some ⟨0, []⟩] ?_
  refine qvM [6, 8, 9, 10, 13, 14, 16] [] trivial 2 201 [(69, I a0.fB), (67, rf 0 0 2 a2), (66, E v11), (3, pf a0 0), (6, .ptr 1 0 0)] [sl 0 a2, some ⟨0, Enc.cells ((T_impl_made.mk [] 0))⟩, some ⟨0, []⟩, some ⟨0, []⟩] ?_
  obtain ⟨v13, hv14, h⟩ := bindS h
  refine qX (some 70) (.ptr 0 0 (a0.fB.toNat * 2)) 201 [(70, .ptr 0 0 (a0.fB.toNat * 2)), (66, E v11), (3, pf a0 0), (6, .ptr 1 0 0)] [sl 0 a2, some ⟨0, Enc.cells ((T_impl_made.mk [] 0))⟩, some ⟨0, []⟩, some ⟨0, []⟩] (fun Γ' hΓ => CoreE.of_y (idrV_sound (n := a2.length) τ_ok (by kernel_rfl) hv14 rfl)) (hL trivial) ?_
  refine qX (some 71) (E v13) 201 [(71, E v13), (66, E v11), (3, pf a0 0), (6, .ptr 1 0 0)] [sl 0 a2, some ⟨0, Enc.cells ((T_impl_made.mk [] 0))⟩, some ⟨0, []⟩, some ⟨0, []⟩] (fun Γ' hΓ => CoreE.of_y (ldeV_sound (t := 139) (o' := 0) (r := E v13) τ_ok hv14 (by kernel_rfl) (by kernel_rfl))) (hL trivial) ?_
  refine qX (some 8) (.ptr 2 1 0) 201 [(8, .ptr 2 1 0), (71, E v13), (66, E v11), (3, pf a0 0), (6, .ptr 1 0 0)] [sl 0 a2, some ⟨0, Enc.cells ((T_impl_made.mk [] 0))⟩, some ⟨1, [.arr 2 0 (eL ([] : List T_impl_Column)) true, I ((T_impl_made.mk [] 0).fMost)]⟩, some ⟨0, []⟩] (fun Γ' hΓ => alz_E (blk := ⟨0, []⟩) (zs := [.arr 2 0 [] true, .lit (.int .i64 0)]) 8 139 2 0 (by first | exact py hΓ hQ | exact pky hΓ hQ) zi_ok139 (by kernel_rfl) (by kernel_rfl)) (hG trivial) ?_
  refine qX (Hm' := [none, none, none, some ⟨1, Enc.cells ((T_impl_made.mk [] 0))⟩]) (some 9) (.ptr 3 1 0) 201 [(9, .ptr 3 1 0), (8, .ptr 2 1 0), (71, E v13), (66, E v11), (3, pf a0 0), (6, .ptr 1 0 0)] [sl 0 a2, some ⟨0, Enc.cells ((T_impl_made.mk [] 0))⟩, some ⟨1, [.arr 2 0 (eL ([] : List T_impl_Column)) true, I ((T_impl_made.mk [] 0).fMost)]⟩, some ⟨1, Enc.cells ((T_impl_made.mk [] 0))⟩] (fun Γ' hΓ => alc_E (blk := ⟨0, []⟩) τ_ok [6, 8, 9, 10, 13, 14, 16] 9 3 0 (by first | exact py hΓ hQ | exact pky hΓ hQ) (by kernel_rfl) (by kernel_rfl)) (hB trivial) ?_
  refine qX (Hm' := [none, none, sc 1 v11, none]) none (.any) 201 [(9, .ptr 3 1 0), (8, .ptr 2 1 0), (71, E v13), (3, pf a0 0), (6, .ptr 1 0 0)] [sl 0 a2, some ⟨0, Enc.cells ((T_impl_made.mk [] 0))⟩, sc 1 v11, some ⟨1, Enc.cells ((T_impl_made.mk [] 0))⟩] (fun Γ' hΓ => sto_E τ_ok 2 1 (by kernel_rfl)) (hB trivial) ?_
  refine qX (Hm' := [none, none, none, sc 1 v13]) none (.any) 201 [(9, .ptr 3 1 0), (8, .ptr 2 1 0), (3, pf a0 0), (6, .ptr 1 0 0)] [sl 0 a2, some ⟨0, Enc.cells ((T_impl_made.mk [] 0))⟩, sc 1 v11, sc 1 v13] (fun Γ' hΓ => sto_E τ_ok 3 1 (by kernel_rfl)) (hB trivial) ?_
  refine qn 201 [(3, pf a0 0), (6, .ptr 1 0 0), (8, .ptr 2 1 0), (9, .ptr 3 1 0)] [sl 0 a2, some ⟨0, Enc.cells ((T_impl_made.mk [] 0))⟩, sc 1 v11, sc 1 v13] ?_
  refine pwp_seq ?_
  refine srveM [6, 8, 9, 10, 13, 14, 16] 201 [(3, pf a0 0), (6, .ptr 1 0 0), (8, .ptr 2 1 0), (9, .ptr 3 1 0), (73, I a0.fKind)] [sl 0 a2, some ⟨0, Enc.cells ((T_impl_made.mk [] 0))⟩, sc 1 v11, sc 1 v13] ?_
  refine pwp_block ?_
  refine srveM [6, 8, 9, 10, 13, 14, 16] 201 [(3, pf a0 0), (6, .ptr 1 0 0), (8, .ptr 2 1 0), (9, .ptr 3 1 0), (73, I a0.fKind), (74, B ((a0.fKind == 2)))] [sl 0 a2, some ⟨0, Enc.cells ((T_impl_made.mk [] 0))⟩, sc 1 v11, sc 1 v13] ?_
  refine pc h (fun h => ?_) (fun h => ?_)
  refine pwp_seq ?_
  refine ip 201 [(3, pf a0 0), (6, .ptr 1 0 0), (8, .ptr 2 1 0)] [sl 0 a2, some ⟨0, Enc.cells ((T_impl_made.mk [] 0))⟩, sc 1 v11, sc 1 v13] ?_
  refine pwp_any ([[2], [2], [2], [], [], [], [], [1], []]) ([[], [], [], [], [], [], [], [1], []]) rfl (by kernel_rfl) ?_
  refine qvM [6, 8, 9, 10, 13, 14, 16] [2] (hB trivial) 3 201 [(78, A v11.fColumns), (76, E v11), (3, pf a0 0), (6, .ptr 1 0 0)] [sl 0 a2, some ⟨0, Enc.cells ((T_impl_made.mk [] 0))⟩, sc 1 v11, sc 1 v13] ?_
  refine qvM [6, 8, 9, 10, 13, 14, 16] [] trivial 2 201 [(80, A a0.fE), (78, A v11.fColumns), (76, E v11), (6, .ptr 1 0 0)] [sl 0 a2, some ⟨0, Enc.cells ((T_impl_made.mk [] 0))⟩, sc 1 v11, sc 1 v13] ?_
  obtain ⟨v16, hv17, h⟩ := bindS h
  refine qX (some 81) (I v16) 201 [(81, I v16), (76, E v11), (6, .ptr 1 0 0)] [sl 0 a2, some ⟨0, Enc.cells ((T_impl_made.mk [] 0))⟩, sc 1 v11, sc 1 v13] (fun Γ' hΓ => CoreE.of_g (callV_sound (τ := τ) (by kernel_rfl) rfl (ok_impl_ExprKind hv17) (FzTo.frz rfl))) trivial ?_
  refine qvM [6, 8, 9, 10, 13, 14, 16] [] trivial 1 201 [(82, B ((v16 == 3))), (76, E v11), (6, .ptr 1 0 0)] [sl 0 a2, some ⟨0, Enc.cells ((T_impl_made.mk [] 0))⟩, sc 1 v11, sc 1 v13] ?_
  refine qX (Hm' := [none, sc 0 v11, none, none]) none (.any) 201 [(82, B ((v16 == 3))), (6, .ptr 1 0 0)] [sl 0 a2, sc 0 v11, sc 1 v11, sc 1 v13] (fun Γ' hΓ => sto_E τ_ok 1 0 (by kernel_rfl)) (hB trivial) ?_
  refine qvnM [6, 8, 9, 10, 13, 14, 16] [] trivial 1 201 [(6, .ptr 1 0 0), (7, B ((v16 == 3)))] [sl 0 a2, sc 0 v11, sc 1 v11, sc 1 v13] ?_
  have h := si h
  subst h
  exact pwp_ret ⟨.inr rfl, .tup [E v11, B ((v16 == 3))], _, 0, by kernel_rfl, (OutP.tup (OutL.cons (OutP.frz (by kernel_rfl)) (OutL.cons (OutP.frz (by kernel_rfl)) (OutL.nil _)))), by decide, by decide, by kernel_rfl⟩
  refine srveM [6, 8, 9, 10, 13, 14, 16] 201 [(3, pf a0 0), (6, .ptr 1 0 0), (8, .ptr 2 1 0), (9, .ptr 3 1 0), (73, I a0.fKind), (83, B ((a0.fKind == 3)))] [sl 0 a2, some ⟨0, Enc.cells ((T_impl_made.mk [] 0))⟩, sc 1 v11, sc 1 v13] ?_
  refine pc h (fun h => ?_) (fun h => ?_)
  refine srvM [6, 8, 9, 10, 13, 14, 16] 2 201 [(3, pf a0 0), (6, .ptr 1 0 0), (8, .ptr 2 1 0), (86, I v11.fMost)] [sl 0 a2, some ⟨0, Enc.cells ((T_impl_made.mk [] 0))⟩, sc 1 v11, sc 1 v13] ?_
  refine opsP_E (dd := some 87) (x := .agg [.arr 2 0 (eL ([] : List T_impl_Column)) true, I ({ ((T_impl_made.mk [] 0)) with fMost := v11.fMost }.fMost)]) (CoreE.of_y (bldV_sound (zs := [.arr 2 0 [] true, .lit (.int .i64 0)]) (cells := [.arr 2 0 (eL ([] : List T_impl_Column)) true, I ({ ((T_impl_made.mk [] 0)) with fMost := v11.fMost }.fMost)]) τ_ok zi_ok139 (by kernel_rfl))) ?_
  refine vM [6, 8, 9, 10, 13, 14, 16] 0 201 [(3, pf a0 0), (6, .ptr 1 0 0), (8, .ptr 2 1 0), (87, .agg [.arr 2 0 (eL ([] : List T_impl_Column)) true, I ({ ((T_impl_made.mk [] 0)) with fMost := v11.fMost }.fMost)])] [sl 0 a2, some ⟨0, Enc.cells ((T_impl_made.mk [] 0))⟩, sc 1 v11, sc 1 v13] ?_
  refine opsP_imp (Imp.ghosts 1 (st' := ⟨201, [(3, pf a0 0), (6, .ptr 1 0 0), (8, .ptr 2 1 0), (87, .agg [.arr 2 0 (eL ([] : List T_impl_Column)) true, I ({ ((T_impl_made.mk [] 0)) with fMost := v11.fMost }.fMost)])], [sl 0 a2, some ⟨0, Enc.cells ((T_impl_made.mk [] 0))⟩, sc 1 v11, sc 1 v13, some ⟨0, []⟩]⟩) (by kernel_rfl)) ?_
  refine opsP_E (dd := some 10) (x := .ptr 4 1 0) (alz_E (blk := ⟨0, []⟩) (zs := [.arr 2 0 [] true, .lit (.int .i64 0)]) 10 139 4 0 (pn hQ) zi_ok139 (by kernel_rfl) (by kernel_rfl)) ?_
  refine veM [6, 8, 9, 10, 13, 14, 16] 1 201 [(3, pf a0 0), (6, .ptr 1 0 0), (8, .ptr 2 1 0), (10, .ptr 4 1 0)] [sl 0 a2, some ⟨0, Enc.cells ((T_impl_made.mk [] 0))⟩, sc 1 v11, sc 1 v13, some ⟨1, [.arr 2 0 (eL ([] : List T_impl_Column)) true, I ({ ((T_impl_made.mk [] 0)) with fMost := v11.fMost }.fMost)]⟩] ?_
  refine pwp_seq ?_
  refine srveM [6, 8, 9, 10, 13, 14, 16] 201 [(3, pf a0 0), (6, .ptr 1 0 0), (8, .ptr 2 1 0), (10, .ptr 4 1 0), (89, A a0.fList), (90, I ((a0.fList.length : Int))), (91, I 0)] [sl 0 a2, some ⟨0, Enc.cells ((T_impl_made.mk [] 0))⟩, sc 1 v11, sc 1 v13, some ⟨1, [.arr 2 0 (eL ([] : List T_impl_Column)) true, I ({ ((T_impl_made.mk [] 0)) with fMost := v11.fMost }.fMost)]⟩] ?_
  refine pwp_block ?_
  refine ip 201 [(3, pf a0 0), (6, .ptr 1 0 0), (8, .ptr 2 1 0), (10, .ptr 4 1 0), (89, A a0.fList), (90, I ((a0.fList.length : Int))), (91, I 0)] [sl 0 a2, some ⟨0, Enc.cells ((T_impl_made.mk [] 0))⟩, sc 1 v11, sc 1 v13, some ⟨1, [.arr 2 0 (eL ([] : List T_impl_Column)) true, I ({ ((T_impl_made.mk [] 0)) with fMost := v11.fMost }.fMost)]⟩] ?_
  refine pwp_imp (Imp.thawB (st' := ⟨201, [(3, pf a0 0), (6, .ptr 1 0 0), (8, .ptr 2 1 0), (10, .ptr 4 1 0), (89, A a0.fList), (90, I ((a0.fList.length : Int))), (91, I 0)], [sl 0 a2, some ⟨0, Enc.cells ((T_impl_made.mk [] 0))⟩, sc 1 v11, sc 1 v13, some ⟨1, [.ref 5 0 0 2 (([] : List T_impl_Column)).length false, I ({ ((T_impl_made.mk [] 0)) with fMost := v11.fMost }.fMost)]⟩, some ⟨0, eL (([] : List T_impl_Column))⟩]⟩) 5 (by kernel_rfl) (HpRel.frz rfl (eL_frz _) (HpRel.frz rfl (Enc.frz _) (HpRel.frz rfl (Enc.frz _) (HpRel.frz rfl (Enc.frz _) (HpRel.box rfl (CellRel.cons (.inr ⟨_, rfl, rfl⟩) (CellRel.cons (.inl ⟨rfl, rfl⟩) CellRel.nil)) (HpRel.key HpRel.nil)))))) (by rfl) (by rfl) (p01 hQ)) ?_
  refine pwp_loop (ι := Nat × Int × (List T_impl_Column)) (fun (f27, x25, x26) => (⟨201, [(3, pf a0 0), (6, .ptr 1 0 0), (8, .ptr 2 1 0), (10, .ptr 4 1 0), (89, A a0.fList), (90, I ((a0.fList.length : Int))), (91, I x25)], [sl 0 a2, some ⟨0, Enc.cells ((T_impl_made.mk [] 0))⟩, sc 1 v11, sc 1 v13, some ⟨1, [rf 5 0 2 x26, I ({ ((T_impl_made.mk [] 0)) with fMost := v11.fMost }.fMost)]⟩, sl 0 x26]⟩ : St)) (fun (f27, x25, x26) => impl_Step_make_L2_l2 a0 v11 f27 x25 x26 = some y) Prod.fst (FUEL, 0, ([] : List T_impl_Column)) h (it [3, 6, 8, 10, 89, 90, 91]) ?_
  rintro ⟨f27, x25, x26⟩ h
  dsimp only at h ⊢
  rcases f27 with _ | f27
  cases h
  rw [impl_Step_make_L2_l2] at h
  refine srveM [6, 8, 9, 10, 13, 14, 16] 201 [(3, pf a0 0), (6, .ptr 1 0 0), (8, .ptr 2 1 0), (10, .ptr 4 1 0), (89, A a0.fList), (90, I ((a0.fList.length : Int))), (91, I x25), (92, B ((decide (x25 < ((a0.fList.length : Int))))))] [sl 0 a2, some ⟨0, Enc.cells ((T_impl_made.mk [] 0))⟩, sc 1 v11, sc 1 v13, some ⟨1, [rf 5 0 2 x26, I ({ ((T_impl_made.mk [] 0)) with fMost := v11.fMost }.fMost)]⟩, sl 0 x26] ?_
  refine pwp_seq ?_
  refine pc h (fun h => ?_) (fun h => ?_)
  refine pwp_skip ?_
  refine pwp_seq ?_
  refine pwp_block ?_
  refine pwp_seq ?_
  refine pwp_region ?_
  obtain ⟨v30, hv31, h⟩ := bindS h
  refine opsP_idx τ_ok 93 hv31 (by kernel_rfl) ?_
  refine veM [6, 8, 9, 10, 13, 14, 16] 2 201 [(3, pf a0 0), (6, .ptr 1 0 0), (8, .ptr 2 1 0), (10, .ptr 4 1 0), (12, I v30), (89, A a0.fList), (90, I ((a0.fList.length : Int))), (91, I x25)] [sl 0 a2, some ⟨0, Enc.cells ((T_impl_made.mk [] 0))⟩, sc 1 v11, sc 1 v13, some ⟨1, [rf 5 0 2 x26, I ({ ((T_impl_made.mk [] 0)) with fMost := v11.fMost }.fMost)]⟩, sl 0 x26] ?_
  refine pwp_seq ?_
  refine srvM [6, 8, 9, 10, 13, 14, 16] 5 201 [(3, pf a0 0), (6, .ptr 1 0 0), (8, .ptr 2 1 0), (10, .ptr 4 1 0), (12, I v30), (89, A a0.fList), (90, I ((a0.fList.length : Int))), (91, I x25), (95, I v30), (99, I ((w64 (((v11.fColumns.length : Int)) - 1))))] [sl 0 a2, some ⟨0, Enc.cells ((T_impl_made.mk [] 0))⟩, sc 1 v11, sc 1 v13, some ⟨1, [rf 5 0 2 x26, I ({ ((T_impl_made.mk [] 0)) with fMost := v11.fMost }.fMost)]⟩, sl 0 x26] ?_
  obtain ⟨v32, hv33, h⟩ := bindS h
  refine cF 100 (ok_impl_between hv33) ?_
  refine veM [6, 8, 9, 10, 13, 14, 16] 1 201 [(3, pf a0 0), (6, .ptr 1 0 0), (8, .ptr 2 1 0), (10, .ptr 4 1 0), (12, I v30), (89, A a0.fList), (90, I ((a0.fList.length : Int))), (91, I x25), (101, B ((!v32)))] [sl 0 a2, some ⟨0, Enc.cells ((T_impl_made.mk [] 0))⟩, sc 1 v11, sc 1 v13, some ⟨1, [rf 5 0 2 x26, I ({ ((T_impl_made.mk [] 0)) with fMost := v11.fMost }.fMost)]⟩, sl 0 x26] ?_
  refine pc h (fun h => ?_) (fun h => ?_)
  refine srveM [6, 8, 9, 10, 13, 14, 16] 201 [(6, .ptr 1 0 0), (7, B false)] [sl 0 a2, some ⟨0, Enc.cells ((T_impl_made.mk [] 0))⟩, sc 1 v11, sc 1 v13, some ⟨1, [rf 5 0 2 x26, I ({ ((T_impl_made.mk [] 0)) with fMost := v11.fMost }.fMost)]⟩, sl 0 x26] ?_
  have h := si h
  subst h
  exact pwp_ret ⟨.inr rfl, .tup [E ((T_impl_made.mk [] 0)), B false], _, 0, by kernel_rfl, (OutP.tup (OutL.cons (OutP.frz (by kernel_rfl)) (OutL.cons (OutP.frz (by kernel_rfl)) (OutL.nil _)))), by decide, by decide, by kernel_rfl⟩
  refine pwp_skip ?_
  refine ip 201 [(3, pf a0 0), (6, .ptr 1 0 0), (8, .ptr 2 1 0), (10, .ptr 4 1 0), (12, I v30), (89, A a0.fList), (90, I ((a0.fList.length : Int))), (91, I x25)] [sl 0 a2, some ⟨0, Enc.cells ((T_impl_made.mk [] 0))⟩, sc 1 v11, sc 1 v13, some ⟨1, [rf 5 0 2 x26, I ({ ((T_impl_made.mk [] 0)) with fMost := v11.fMost }.fMost)]⟩, sl 0 x26] ?_
  refine pwp_any ([[4, 5], [4, 5], [2], [2], [], [], [], [], [5], [4, 5], [4, 5]]) ([[], [], [], [], [], [], [], [], [5], [], [4]]) rfl (by kernel_rfl) ?_
  refine qvM [6, 8, 9, 10, 13, 14, 16] [4, 5] (hR (hL trivial)) 2 201 [(104, rf 5 0 2 x26), (3, pf a0 0), (6, .ptr 1 0 0), (8, .ptr 2 1 0), (10, .ptr 4 1 0), (12, I v30), (89, A a0.fList), (90, I ((a0.fList.length : Int))), (91, I x25)] [sl 0 a2, some ⟨0, Enc.cells ((T_impl_made.mk [] 0))⟩, sc 1 v11, sc 1 v13, some ⟨1, [rf 5 0 2 x26, I ({ ((T_impl_made.mk [] 0)) with fMost := v11.fMost }.fMost)]⟩, sl 0 x26] ?_
  refine qvM [6, 8, 9, 10, 13, 14, 16] [2] (hB trivial) 2 201 [(106, A v11.fColumns), (104, rf 5 0 2 x26), (3, pf a0 0), (6, .ptr 1 0 0), (8, .ptr 2 1 0), (10, .ptr 4 1 0), (12, I v30), (89, A a0.fList), (90, I ((a0.fList.length : Int))), (91, I x25)] [sl 0 a2, some ⟨0, Enc.cells ((T_impl_made.mk [] 0))⟩, sc 1 v11, sc 1 v13, some ⟨1, [rf 5 0 2 x26, I ({ ((T_impl_made.mk [] 0)) with fMost := v11.fMost }.fMost)]⟩, sl 0 x26] ?_
  refine qvM [6, 8, 9, 10, 13, 14, 16] [] trivial 1 201 [(107, I v30), (106, A v11.fColumns), (104, rf 5 0 2 x26), (3, pf a0 0), (6, .ptr 1 0 0), (8, .ptr 2 1 0), (10, .ptr 4 1 0), (89, A a0.fList), (90, I ((a0.fList.length : Int))), (91, I x25)] [sl 0 a2, some ⟨0, Enc.cells ((T_impl_made.mk [] 0))⟩, sc 1 v11, sc 1 v13, some ⟨1, [rf 5 0 2 x26, I ({ ((T_impl_made.mk [] 0)) with fMost := v11.fMost }.fMost)]⟩, sl 0 x26] ?_
  obtain ⟨v35, hv36, h⟩ := bindS h
  refine qX (some 108) (pf v35 0) 201 [(108, pf v35 0), (104, rf 5 0 2 x26), (3, pf a0 0), (6, .ptr 1 0 0), (8, .ptr 2 1 0), (10, .ptr 4 1 0), (89, A a0.fList), (90, I ((a0.fList.length : Int))), (91, I x25)] [sl 0 a2, some ⟨0, Enc.cells ((T_impl_made.mk [] 0))⟩, sc 1 v11, sc 1 v13, some ⟨1, [rf 5 0 2 x26, I ({ ((T_impl_made.mk [] 0)) with fMost := v11.fMost }.fMost)]⟩, sl 0 x26] (fun Γ' hΓ => CoreE.of_y (idxV_sound τ_ok (by kernel_rfl) hv36)) trivial ?_
  refine qvM [6, 8, 9, 10, 13, 14, 16] [] trivial 2 201 [(110, .arr 2 (([v35] : List T_impl_Column)).length (eL ([v35] : List T_impl_Column)) true), (104, rf 5 0 2 x26), (3, pf a0 0), (6, .ptr 1 0 0), (8, .ptr 2 1 0), (10, .ptr 4 1 0), (89, A a0.fList), (90, I ((a0.fList.length : Int))), (91, I x25)] [sl 0 a2, some ⟨0, Enc.cells ((T_impl_made.mk [] 0))⟩, sc 1 v11, sc 1 v13, some ⟨1, [rf 5 0 2 x26, I ({ ((T_impl_made.mk [] 0)) with fMost := v11.fMost }.fMost)]⟩, sl 0 x26] ?_
  obtain ⟨v37, hv38, h⟩ := bindS h
  refine qX (some 111) (rf 5 1 2 v37) 201 [(111, rf 5 1 2 v37), (3, pf a0 0), (6, .ptr 1 0 0), (8, .ptr 2 1 0), (10, .ptr 4 1 0), (89, A a0.fList), (90, I ((a0.fList.length : Int))), (91, I x25)] [sl 0 a2, some ⟨0, Enc.cells ((T_impl_made.mk [] 0))⟩, sc 1 v11, sc 1 v13, some ⟨1, [rf 5 0 2 x26, I ({ ((T_impl_made.mk [] 0)) with fMost := v11.fMost }.fMost)]⟩, sl 1 v37] (fun Γ' hΓ => app_Ew τ_ok 111 5 0 (by first | exact py hΓ hQ | exact pky hΓ hQ) hv38 (by kernel_rfl)) (hL trivial) ?_
  refine qvM [6, 8, 9, 10, 13, 14, 16] [4, 5] (hR (hL trivial)) 1 201 [(112, .ptr 4 1 0), (111, rf 5 1 2 v37), (3, pf a0 0), (6, .ptr 1 0 0), (8, .ptr 2 1 0), (10, .ptr 4 1 0), (89, A a0.fList), (90, I ((a0.fList.length : Int))), (91, I x25)] [sl 0 a2, some ⟨0, Enc.cells ((T_impl_made.mk [] 0))⟩, sc 1 v11, sc 1 v13, some ⟨1, [rf 5 0 2 x26, I ({ ((T_impl_made.mk [] 0)) with fMost := v11.fMost }.fMost)]⟩, sl 1 v37] ?_
  refine qX (Hm' := [none, none, none, none, some ⟨1, [rf 5 1 2 v37, I ({ ((T_impl_made.mk [] 0)) with fMost := v11.fMost }.fMost)]⟩, sl 1 v37]) none (.any) 201 [(3, pf a0 0), (6, .ptr 1 0 0), (8, .ptr 2 1 0), (10, .ptr 4 1 0), (89, A a0.fList), (90, I ((a0.fList.length : Int))), (91, I x25)] [sl 0 a2, some ⟨0, Enc.cells ((T_impl_made.mk [] 0))⟩, sc 1 v11, sc 1 v13, some ⟨1, [rf 5 1 2 v37, I ({ ((T_impl_made.mk [] 0)) with fMost := v11.fMost }.fMost)]⟩, sl 1 v37] (fun Γ' hΓ => sto_E τ_ok 4 1 (by kernel_rfl)) (hR (hL trivial)) ?_
  refine qn 201 [(3, pf a0 0), (6, .ptr 1 0 0), (8, .ptr 2 1 0), (10, .ptr 4 1 0), (89, A a0.fList), (90, I ((a0.fList.length : Int))), (91, I x25)] [sl 0 a2, some ⟨0, Enc.cells ((T_impl_made.mk [] 0))⟩, sc 1 v11, sc 1 v13, some ⟨1, [rf 5 1 2 v37, I ({ ((T_impl_made.mk [] 0)) with fMost := v11.fMost }.fMost)]⟩, sl 1 v37] ?_
  refine rveM [6, 8, 9, 10, 13, 14, 16] 201 [(3, pf a0 0), (6, .ptr 1 0 0), (8, .ptr 2 1 0), (10, .ptr 4 1 0), (89, A a0.fList), (90, I ((a0.fList.length : Int))), (91, I ((w64 (x25 + 1))))] [sl 0 a2, some ⟨0, Enc.cells ((T_impl_made.mk [] 0))⟩, sc 1 v11, sc 1 v13, some ⟨1, [rf 5 1 2 v37, I ({ ((T_impl_made.mk [] 0)) with fMost := v11.fMost }.fMost)]⟩, sl 1 v37] ?_
  exact ⟨(f27, (w64 (x25 + 1)), v37), h, Nat.lt_succ_self _, (it (st' := ⟨201, [(3, pf a0 0), (6, .ptr 1 0 0), (8, .ptr 2 1 0), (10, .ptr 4 1 0), (89, A a0.fList), (90, I ((a0.fList.length : Int))), (91, I ((w64 (x25 + 1))))], [sl 0 a2, some ⟨0, Enc.cells ((T_impl_made.mk [] 0))⟩, sc 1 v11, sc 1 v13, some ⟨1, [rf 5 1 2 v37, I ({ ((T_impl_made.mk [] 0)) with fMost := v11.fMost }.fMost)]⟩, sl 1 v37]⟩) [3, 6, 8, 10, 89, 90, 91]).trans ((Imp.reverB (cs := eL v37) (st' := ⟨201, [(3, pf a0 0), (6, .ptr 1 0 0), (8, .ptr 2 1 0), (10, .ptr 4 1 0), (89, A a0.fList), (90, I ((a0.fList.length : Int))), (91, I ((w64 (x25 + 1))))], [sl 0 a2, some ⟨0, Enc.cells ((T_impl_made.mk [] 0))⟩, sc 1 v11, sc 1 v13, some ⟨1, [rf 5 0 2 v37, I ({ ((T_impl_made.mk [] 0)) with fMost := v11.fMost }.fMost)]⟩, sl 0 v37]⟩) 5 1 (by kernel_rfl) (qu_of_frzL (eL_frz _)) (HpRel.frz rfl (eL_frz _) (HpRel.frz rfl (Enc.frz _) (HpRel.frz rfl (Enc.frz _) (HpRel.frz rfl (Enc.frz _) (HpRel.box rfl (CellRel.cons ⟨rfl, rfl⟩ (CellRel.cons ⟨rfl, rfl⟩ CellRel.nil)) (HpRel.key HpRel.nil)))))) (by kernel_rfl) (by rfl) (p01 hQ)).trans (it [3, 6, 8, 10, 89, 90, 91]))⟩
  refine pwp_exit ?_
  refine pwp_seq ?_
  refine ip 201 [(3, pf a0 0), (6, .ptr 1 0 0), (10, .ptr 4 1 0)] [sl 0 a2, some ⟨0, Enc.cells ((T_impl_made.mk [] 0))⟩, sc 1 v11, sc 1 v13, some ⟨1, [rf 5 0 2 x26, I ({ ((T_impl_made.mk [] 0)) with fMost := v11.fMost }.fMost)]⟩, sl 0 x26] ?_
  refine pwp_imp ((Imp.freezeB (v := 0) (cs := eL x26) (st' := ⟨201, [(3, pf a0 0), (6, .ptr 1 0 0), (10, .ptr 4 1 0)], [sl 0 a2, some ⟨0, Enc.cells ((T_impl_made.mk [] 0))⟩, sc 1 v11, sc 1 v13, some ⟨1, Enc.cells ({ (({ ((T_impl_made.mk [] 0)) with fMost := v11.fMost }) : T_impl_made) with fColumns := x26 })⟩, none]⟩) 5 0 (pn hQ) (by kernel_rfl) (eL_frz _) (wholeC (whole_noRef (by kernel_rfl)) (wholeC (whole_noRef (by kernel_rfl)) (wholeC (whole_noRef (by kernel_rfl)) wholeC0))) (HpRel.frz rfl (eL_frz _) (HpRel.frz rfl (Enc.frz _) (HpRel.frz rfl (Enc.frz _) (HpRel.frz rfl (Enc.frz _) (HpRel.box rfl (CellRel.cons ⟨rfl, (whole_is (eL_len x26).symm), rfl⟩ (CellRel.cons ⟨rfl, trivial, rfl⟩ CellRel.nil)) (HpRel.key HpRel.nil)))))) (by kernel_rfl) rfl (p01 hQ))) ?_
  refine ip 201 [(3, pf a0 0), (6, .ptr 1 0 0), (10, .ptr 4 1 0)] [sl 0 a2, some ⟨0, Enc.cells ((T_impl_made.mk [] 0))⟩, sc 1 v11, sc 1 v13, some ⟨1, Enc.cells ({ (({ ((T_impl_made.mk [] 0)) with fMost := v11.fMost }) : T_impl_made) with fColumns := x26 })⟩, none] ?_
  refine pwp_any ([[4], [], [], [], [], [1], []]) ([[], [], [], [], [], [1], []]) rfl (by kernel_rfl) ?_
  refine qvM [6, 8, 9, 10, 13, 14, 16] [4] (hB trivial) 1 201 [(114, E ({ (({ ((T_impl_made.mk [] 0)) with fMost := v11.fMost }) : T_impl_made) with fColumns := x26 })), (3, pf a0 0), (6, .ptr 1 0 0)] [sl 0 a2, some ⟨0, Enc.cells ((T_impl_made.mk [] 0))⟩, sc 1 v11, sc 1 v13, some ⟨1, Enc.cells ({ (({ ((T_impl_made.mk [] 0)) with fMost := v11.fMost }) : T_impl_made) with fColumns := x26 })⟩, none] ?_
  refine qvM [6, 8, 9, 10, 13, 14, 16] [] trivial 4 201 [(118, B ((decide (((a0.fList.length : Int)) ≤ 4)))), (114, E ({ (({ ((T_impl_made.mk [] 0)) with fMost := v11.fMost }) : T_impl_made) with fColumns := x26 })), (6, .ptr 1 0 0)] [sl 0 a2, some ⟨0, Enc.cells ((T_impl_made.mk [] 0))⟩, sc 1 v11, sc 1 v13, some ⟨1, Enc.cells ({ (({ ((T_impl_made.mk [] 0)) with fMost := v11.fMost }) : T_impl_made) with fColumns := x26 })⟩, none] ?_
  refine qX (Hm' := [none, some ⟨0, Enc.cells ({ (({ ((T_impl_made.mk [] 0)) with fMost := v11.fMost }) : T_impl_made) with fColumns := x26 })⟩, none, none, none, none]) none (.any) 201 [(118, B ((decide (((a0.fList.length : Int)) ≤ 4)))), (6, .ptr 1 0 0)] [sl 0 a2, some ⟨0, Enc.cells ({ (({ ((T_impl_made.mk [] 0)) with fMost := v11.fMost }) : T_impl_made) with fColumns := x26 })⟩, sc 1 v11, sc 1 v13, some ⟨1, Enc.cells ({ (({ ((T_impl_made.mk [] 0)) with fMost := v11.fMost }) : T_impl_made) with fColumns := x26 })⟩, none] (fun Γ' hΓ => sto_E τ_ok 1 0 (by kernel_rfl)) (hB trivial) ?_
  refine qvnM [6, 8, 9, 10, 13, 14, 16] [] trivial 1 201 [(6, .ptr 1 0 0), (7, B ((decide (((a0.fList.length : Int)) ≤ 4))))] [sl 0 a2, some ⟨0, Enc.cells ({ (({ ((T_impl_made.mk [] 0)) with fMost := v11.fMost }) : T_impl_made) with fColumns := x26 })⟩, sc 1 v11, sc 1 v13, some ⟨1, Enc.cells ({ (({ ((T_impl_made.mk [] 0)) with fMost := v11.fMost }) : T_impl_made) with fColumns := x26 })⟩, none] ?_
  have h := si h
  subst h
  exact pwp_ret ⟨.inr rfl, .tup [E ({ (({ ((T_impl_made.mk [] 0)) with fMost := v11.fMost }) : T_impl_made) with fColumns := x26 }), B ((decide (((a0.fList.length : Int)) ≤ 4)))], _, 0, by kernel_rfl, (OutP.tup (OutL.cons (OutP.frz (by kernel_rfl)) (OutL.cons (OutP.frz (by kernel_rfl)) (OutL.nil _)))), by decide, by decide, by kernel_rfl⟩
  refine srveM [6, 8, 9, 10, 13, 14, 16] 201 [(3, pf a0 0), (6, .ptr 1 0 0), (8, .ptr 2 1 0), (9, .ptr 3 1 0), (73, I a0.fKind), (119, B ((a0.fKind == 4)))] [sl 0 a2, some ⟨0, Enc.cells ((T_impl_made.mk [] 0))⟩, sc 1 v11, sc 1 v13] ?_
  refine pc h (fun h => ?_) (fun h => ?_)
  refine pwp_seq ?_
  refine ip 201 [(3, pf a0 0), (6, .ptr 1 0 0), (8, .ptr 2 1 0), (9, .ptr 3 1 0)] [sl 0 a2, some ⟨0, Enc.cells ((T_impl_made.mk [] 0))⟩, sc 1 v11, sc 1 v13] ?_
  refine pwp_imp (Imp.ghosts 1 (st' := ⟨201, [(3, pf a0 0), (6, .ptr 1 0 0), (8, .ptr 2 1 0), (9, .ptr 3 1 0)], [sl 0 a2, some ⟨0, Enc.cells ((T_impl_made.mk [] 0))⟩, sc 1 v11, sc 1 v13, some ⟨0, []⟩]⟩) (by kernel_rfl)) ?_
  refine pwp_any ([[2], [2], [3], [3], [], [], [2], [2], [3], [3], [], [], [4], [4]]) ([[], [], [], [], [], [], [], [], [], [], [], [], [4], [4]]) rfl (by kernel_rfl) ?_
  refine qvM [6, 8, 9, 10, 13, 14, 16] [2] (hB trivial) 2 201 [(122, A v11.fColumns), (3, pf a0 0), (6, .ptr 1 0 0), (8, .ptr 2 1 0), (9, .ptr 3 1 0)] [sl 0 a2, some ⟨0, Enc.cells ((T_impl_made.mk [] 0))⟩, sc 1 v11, sc 1 v13, some ⟨0, []⟩] ?_
  refine qvM [6, 8, 9, 10, 13, 14, 16] [3] (hB trivial) 2 201 [(124, A v13.fColumns), (122, A v11.fColumns), (3, pf a0 0), (6, .ptr 1 0 0), (8, .ptr 2 1 0), (9, .ptr 3 1 0)] [sl 0 a2, some ⟨0, Enc.cells ((T_impl_made.mk [] 0))⟩, sc 1 v11, sc 1 v13, some ⟨0, []⟩] ?_
  refine qvM [6, 8, 9, 10, 13, 14, 16] [] trivial 1 201 [(125, .arr 1 (([v11.fColumns, v13.fColumns] : List (List T_impl_Column))).length (eL ([v11.fColumns, v13.fColumns] : List (List T_impl_Column))) true), (3, pf a0 0), (6, .ptr 1 0 0), (8, .ptr 2 1 0), (9, .ptr 3 1 0)] [sl 0 a2, some ⟨0, Enc.cells ((T_impl_made.mk [] 0))⟩, sc 1 v11, sc 1 v13, some ⟨0, []⟩] ?_
  obtain ⟨v40, hv41, h⟩ := bindS h
  refine qX (some 126) (A v40) 201 [(126, A v40), (3, pf a0 0), (6, .ptr 1 0 0), (8, .ptr 2 1 0), (9, .ptr 3 1 0)] [sl 0 a2, some ⟨0, Enc.cells ((T_impl_made.mk [] 0))⟩, sc 1 v11, sc 1 v13, some ⟨0, []⟩] (fun Γ' hΓ => CoreE.of_g (callV_sound (τ := τ) (by kernel_rfl) rfl (ok_slices_Concat_impl_Column_impl_Column hv41) (FzTo.O _))) trivial ?_
  refine qvM [6, 8, 9, 10, 13, 14, 16] [2] (hB trivial) 2 201 [(128, I v11.fMost), (126, A v40), (3, pf a0 0), (6, .ptr 1 0 0), (9, .ptr 3 1 0)] [sl 0 a2, some ⟨0, Enc.cells ((T_impl_made.mk [] 0))⟩, sc 1 v11, sc 1 v13, some ⟨0, []⟩] ?_
  refine qvM [6, 8, 9, 10, 13, 14, 16] [3] (hB trivial) 2 201 [(130, I v13.fMost), (128, I v11.fMost), (126, A v40), (3, pf a0 0), (6, .ptr 1 0 0)] [sl 0 a2, some ⟨0, Enc.cells ((T_impl_made.mk [] 0))⟩, sc 1 v11, sc 1 v13, some ⟨0, []⟩] ?_
  refine qvM [6, 8, 9, 10, 13, 14, 16] [] trivial 2 201 [(132, E ((T_impl_made.mk v40 ((w64 (v11.fMost * v13.fMost)))))), (3, pf a0 0), (6, .ptr 1 0 0)] [sl 0 a2, some ⟨0, Enc.cells ((T_impl_made.mk [] 0))⟩, sc 1 v11, sc 1 v13, some ⟨0, []⟩] ?_
  refine qX (Hm' := [none, none, none, none, some ⟨1, Enc.cells ((T_impl_made.mk [] 0))⟩]) (some 13) (.ptr 4 1 0) 201 [(13, .ptr 4 1 0), (132, E ((T_impl_made.mk v40 ((w64 (v11.fMost * v13.fMost)))))), (3, pf a0 0), (6, .ptr 1 0 0)] [sl 0 a2, some ⟨0, Enc.cells ((T_impl_made.mk [] 0))⟩, sc 1 v11, sc 1 v13, some ⟨1, Enc.cells ((T_impl_made.mk [] 0))⟩] (fun Γ' hΓ => alc_E (blk := ⟨0, []⟩) τ_ok [6, 8, 9, 10, 13, 14, 16] 13 4 0 (by first | exact py hΓ hQ | exact pky hΓ hQ) (by kernel_rfl) (by kernel_rfl)) (hB trivial) ?_
  refine qX (Hm' := [none, none, none, none, some ⟨1, Enc.cells ((T_impl_made.mk v40 ((w64 (v11.fMost * v13.fMost)))))⟩]) none (.any) 201 [(13, .ptr 4 1 0), (3, pf a0 0), (6, .ptr 1 0 0)] [sl 0 a2, some ⟨0, Enc.cells ((T_impl_made.mk [] 0))⟩, sc 1 v11, sc 1 v13, some ⟨1, Enc.cells ((T_impl_made.mk v40 ((w64 (v11.fMost * v13.fMost)))))⟩] (fun Γ' hΓ => sto_E τ_ok 4 1 (by kernel_rfl)) (hB trivial) ?_
  refine qn 201 [(3, pf a0 0), (6, .ptr 1 0 0), (13, .ptr 4 1 0)] [sl 0 a2, some ⟨0, Enc.cells ((T_impl_made.mk [] 0))⟩, sc 1 v11, sc 1 v13, some ⟨1, Enc.cells ((T_impl_made.mk v40 ((w64 (v11.fMost * v13.fMost)))))⟩] ?_
  refine pwp_seq ?_
  refine ip 201 [(3, pf a0 0), (6, .ptr 1 0 0), (13, .ptr 4 1 0)] [sl 0 a2, some ⟨0, Enc.cells ((T_impl_made.mk [] 0))⟩, sc 1 v11, sc 1 v13, some ⟨1, Enc.cells ((T_impl_made.mk v40 ((w64 (v11.fMost * v13.fMost)))))⟩] ?_
  refine pwp_any ([[4], [4], [4], [], [], [], [4], [4], [], [], [], [], [], [1], []]) ([[], [], [], [], [], [], [], [], [], [], [], [], [], [1], []]) rfl (by kernel_rfl) ?_
  refine qvM [6, 8, 9, 10, 13, 14, 16] [4] (hB trivial) 3 201 [(135, A ((T_impl_made.mk v40 ((w64 (v11.fMost * v13.fMost)))).fColumns)), (133, E ((T_impl_made.mk v40 ((w64 (v11.fMost * v13.fMost)))))), (3, pf a0 0), (6, .ptr 1 0 0), (13, .ptr 4 1 0)] [sl 0 a2, some ⟨0, Enc.cells ((T_impl_made.mk [] 0))⟩, sc 1 v11, sc 1 v13, some ⟨1, Enc.cells ((T_impl_made.mk v40 ((w64 (v11.fMost * v13.fMost)))))⟩] ?_
  refine qvM [6, 8, 9, 10, 13, 14, 16] [] trivial 3 201 [(138, B ((decide (((((T_impl_made.mk v40 ((w64 (v11.fMost * v13.fMost)))).fColumns).length : Int)) ≤ 4)))), (133, E ((T_impl_made.mk v40 ((w64 (v11.fMost * v13.fMost)))))), (3, pf a0 0), (6, .ptr 1 0 0), (13, .ptr 4 1 0)] [sl 0 a2, some ⟨0, Enc.cells ((T_impl_made.mk [] 0))⟩, sc 1 v11, sc 1 v13, some ⟨1, Enc.cells ((T_impl_made.mk v40 ((w64 (v11.fMost * v13.fMost)))))⟩] ?_
  rcases fk ((decide (((((T_impl_made.mk v40 ((w64 (v11.fMost * v13.fMost)))).fColumns).length : Int)) ≤ 4))) with hc44 | hc44
  replace h := bT hc44 h
  rw [hc44]
  refine qvM [6, 8, 9, 10, 13, 14, 16] [4] (hB trivial) 2 201 [(140, A ((T_impl_made.mk v40 ((w64 (v11.fMost * v13.fMost)))).fColumns)), (138, B true), (133, E ((T_impl_made.mk v40 ((w64 (v11.fMost * v13.fMost)))))), (3, pf a0 0), (6, .ptr 1 0 0)] [sl 0 a2, some ⟨0, Enc.cells ((T_impl_made.mk [] 0))⟩, sc 1 v11, sc 1 v13, some ⟨1, Enc.cells ((T_impl_made.mk v40 ((w64 (v11.fMost * v13.fMost)))))⟩] ?_
  refine qvM [6, 8, 9, 10, 13, 14, 16] [] trivial 2 201 [(142, A a0.fE), (140, A ((T_impl_made.mk v40 ((w64 (v11.fMost * v13.fMost)))).fColumns)), (138, B true), (133, E ((T_impl_made.mk v40 ((w64 (v11.fMost * v13.fMost)))))), (6, .ptr 1 0 0)] [sl 0 a2, some ⟨0, Enc.cells ((T_impl_made.mk [] 0))⟩, sc 1 v11, sc 1 v13, some ⟨1, Enc.cells ((T_impl_made.mk v40 ((w64 (v11.fMost * v13.fMost)))))⟩] ?_
  obtain ⟨v42, hv43, h⟩ := bindS h
  refine qX (some 143) (I v42) 201 [(143, I v42), (138, B true), (133, E ((T_impl_made.mk v40 ((w64 (v11.fMost * v13.fMost)))))), (6, .ptr 1 0 0)] [sl 0 a2, some ⟨0, Enc.cells ((T_impl_made.mk [] 0))⟩, sc 1 v11, sc 1 v13, some ⟨1, Enc.cells ((T_impl_made.mk v40 ((w64 (v11.fMost * v13.fMost)))))⟩] (fun Γ' hΓ => CoreE.of_g (callV_sound (τ := τ) (by kernel_rfl) rfl (ok_impl_ExprKind hv43) (FzTo.frz rfl))) trivial ?_
  refine qvM [6, 8, 9, 10, 13, 14, 16] [] trivial 2 201 [(145, B ((v42 == 3))), (133, E ((T_impl_made.mk v40 ((w64 (v11.fMost * v13.fMost)))))), (6, .ptr 1 0 0)] [sl 0 a2, some ⟨0, Enc.cells ((T_impl_made.mk [] 0))⟩, sc 1 v11, sc 1 v13, some ⟨1, Enc.cells ((T_impl_made.mk v40 ((w64 (v11.fMost * v13.fMost)))))⟩] ?_
  refine qX (Hm' := [none, some ⟨0, Enc.cells ((T_impl_made.mk v40 ((w64 (v11.fMost * v13.fMost)))))⟩, none, none, none]) none (.any) 201 [(145, B ((v42 == 3))), (6, .ptr 1 0 0)] [sl 0 a2, some ⟨0, Enc.cells ((T_impl_made.mk v40 ((w64 (v11.fMost * v13.fMost)))))⟩, sc 1 v11, sc 1 v13, some ⟨1, Enc.cells ((T_impl_made.mk v40 ((w64 (v11.fMost * v13.fMost)))))⟩] (fun Γ' hΓ => sto_E τ_ok 1 0 (by kernel_rfl)) (hB trivial) ?_
  refine qvnM [6, 8, 9, 10, 13, 14, 16] [] trivial 1 201 [(6, .ptr 1 0 0), (7, B ((v42 == 3)))] [sl 0 a2, some ⟨0, Enc.cells ((T_impl_made.mk v40 ((w64 (v11.fMost * v13.fMost)))))⟩, sc 1 v11, sc 1 v13, some ⟨1, Enc.cells ((T_impl_made.mk v40 ((w64 (v11.fMost * v13.fMost)))))⟩] ?_
  have h := si h
  subst h
  exact pwp_ret ⟨.inr rfl, .tup [E ((T_impl_made.mk v40 ((w64 (v11.fMost * v13.fMost))))), B ((v42 == 3))], _, 0, by kernel_rfl, (OutP.tup (OutL.cons (OutP.frz (by kernel_rfl)) (OutL.cons (OutP.frz (by kernel_rfl)) (OutL.nil _)))), by decide, by decide, by kernel_rfl⟩
  replace h := bF hc44 h
  rw [hc44]
  refine qvM [6, 8, 9, 10, 13, 14, 16] [4] (hB trivial) 2 201 [(140, .lit undef), (138, B false), (133, E ((T_impl_made.mk v40 ((w64 (v11.fMost * v13.fMost)))))), (3, pf a0 0), (6, .ptr 1 0 0)] [sl 0 a2, some ⟨0, Enc.cells ((T_impl_made.mk [] 0))⟩, sc 1 v11, sc 1 v13, some ⟨1, Enc.cells ((T_impl_made.mk v40 ((w64 (v11.fMost * v13.fMost)))))⟩] ?_
  refine qvM [6, 8, 9, 10, 13, 14, 16] [] trivial 5 201 [(145, B false), (133, E ((T_impl_made.mk v40 ((w64 (v11.fMost * v13.fMost)))))), (6, .ptr 1 0 0)] [sl 0 a2, some ⟨0, Enc.cells ((T_impl_made.mk [] 0))⟩, sc 1 v11, sc 1 v13, some ⟨1, Enc.cells ((T_impl_made.mk v40 ((w64 (v11.fMost * v13.fMost)))))⟩] ?_
  refine qX (Hm' := [none, some ⟨0, Enc.cells ((T_impl_made.mk v40 ((w64 (v11.fMost * v13.fMost)))))⟩, none, none, none]) none (.any) 201 [(145, B false), (6, .ptr 1 0 0)] [sl 0 a2, some ⟨0, Enc.cells ((T_impl_made.mk v40 ((w64 (v11.fMost * v13.fMost)))))⟩, sc 1 v11, sc 1 v13, some ⟨1, Enc.cells ((T_impl_made.mk v40 ((w64 (v11.fMost * v13.fMost)))))⟩] (fun Γ' hΓ => sto_E τ_ok 1 0 (by kernel_rfl)) (hB trivial) ?_
  refine qvnM [6, 8, 9, 10, 13, 14, 16] [] trivial 1 201 [(6, .ptr 1 0 0), (7, B false)] [sl 0 a2, some ⟨0, Enc.cells ((T_impl_made.mk v40 ((w64 (v11.fMost * v13.fMost)))))⟩, sc 1 v11, sc 1 v13, some ⟨1, Enc.cells ((T_impl_made.mk v40 ((w64 (v11.fMost * v13.fMost)))))⟩] ?_
  have h := si h
  subst h
  exact pwp_ret ⟨.inr rfl, .tup [E ((T_impl_made.mk v40 ((w64 (v11.fMost * v13.fMost))))), B false], _, 0, by kernel_rfl, (OutP.tup (OutL.cons (OutP.frz (by kernel_rfl)) (OutL.cons (OutP.frz (by kernel_rfl)) (OutL.nil _)))), by decide, by decide, by kernel_rfl⟩
  refine srveM [6, 8, 9, 10, 13, 14, 16] 201 [(6, .ptr 1 0 0), (8, .ptr 2 1 0), (9, .ptr 3 1 0), (146, B ((a0.fKind == 5)))] [sl 0 a2, some ⟨0, Enc.cells ((T_impl_made.mk [] 0))⟩, sc 1 v11, sc 1 v13] ?_
  refine pc h (fun h => ?_) (fun h => ?_)
  refine pwp_seq ?_
  refine ip 201 [(6, .ptr 1 0 0), (8, .ptr 2 1 0), (9, .ptr 3 1 0)] [sl 0 a2, some ⟨0, Enc.cells ((T_impl_made.mk [] 0))⟩, sc 1 v11, sc 1 v13] ?_
  refine pwp_imp (Imp.ghosts 2 (st' := ⟨201, [(6, .ptr 1 0 0), (8, .ptr 2 1 0), (9, .ptr 3 1 0)], [sl 0 a2, some ⟨0, Enc.cells ((T_impl_made.mk [] 0))⟩, sc 1 v11, sc 1 v13, some ⟨0, []⟩, some ⟨0, []⟩]⟩) (by kernel_rfl)) ?_
  refine pwp_any ([[2], [2], [4], [2], [2], [3], [3], [], [4], [5], [4, 5]]) ([[], [], [4], [], [], [], [], [], [], [5], [5]]) rfl (by kernel_rfl) ?_
  refine qvM [6, 8, 9, 10, 13, 14, 16] [2] (hB trivial) 2 201 [(149, A v11.fColumns), (6, .ptr 1 0 0), (8, .ptr 2 1 0), (9, .ptr 3 1 0)] [sl 0 a2, some ⟨0, Enc.cells ((T_impl_made.mk [] 0))⟩, sc 1 v11, sc 1 v13, some ⟨0, []⟩, some ⟨0, []⟩] ?_
  obtain ⟨v46, hv47, h⟩ := bindS h
  refine qX (some 150) (rf 4 1 2 v46) 201 [(150, rf 4 1 2 v46), (6, .ptr 1 0 0), (8, .ptr 2 1 0), (9, .ptr 3 1 0)] [sl 0 a2, some ⟨0, Enc.cells ((T_impl_made.mk [] 0))⟩, sc 1 v11, sc 1 v13, sl 1 v46, some ⟨0, []⟩] (fun Γ' hΓ => callK_E (blk := ⟨0, []⟩) τ 150 4 0 (by first | exact py hΓ hQ | exact pky hΓ hQ) (by kernel_rfl) (ok_impl_clone_impl_Column_R hv47) rfl (by kernel_rfl)) (hL trivial) ?_
  refine qvM [6, 8, 9, 10, 13, 14, 16] [2] (hB trivial) 2 201 [(152, I v11.fMost), (150, rf 4 1 2 v46), (6, .ptr 1 0 0), (8, .ptr 2 1 0), (9, .ptr 3 1 0)] [sl 0 a2, some ⟨0, Enc.cells ((T_impl_made.mk [] 0))⟩, sc 1 v11, sc 1 v13, sl 1 v46, some ⟨0, []⟩] ?_
  refine qvM [6, 8, 9, 10, 13, 14, 16] [3] (hB trivial) 2 201 [(154, I v13.fMost), (152, I v11.fMost), (150, rf 4 1 2 v46), (6, .ptr 1 0 0), (8, .ptr 2 1 0), (9, .ptr 3 1 0)] [sl 0 a2, some ⟨0, Enc.cells ((T_impl_made.mk [] 0))⟩, sc 1 v11, sc 1 v13, sl 1 v46, some ⟨0, []⟩] ?_
  refine qvM [6, 8, 9, 10, 13, 14, 16] [] trivial 1 201 [(155, I ((w64 (v11.fMost + v13.fMost)))), (150, rf 4 1 2 v46), (6, .ptr 1 0 0), (8, .ptr 2 1 0), (9, .ptr 3 1 0)] [sl 0 a2, some ⟨0, Enc.cells ((T_impl_made.mk [] 0))⟩, sc 1 v11, sc 1 v13, sl 1 v46, some ⟨0, []⟩] ?_
  refine qX (some 156) (.agg [rf 4 1 2 v46, I ({ ((T_impl_made.mk [] 0)) with fMost := (w64 (v11.fMost + v13.fMost)) }.fMost)]) 201 [(156, .agg [rf 4 1 2 v46, I ({ ((T_impl_made.mk [] 0)) with fMost := (w64 (v11.fMost + v13.fMost)) }.fMost)]), (6, .ptr 1 0 0), (8, .ptr 2 1 0), (9, .ptr 3 1 0)] [sl 0 a2, some ⟨0, Enc.cells ((T_impl_made.mk [] 0))⟩, sc 1 v11, sc 1 v13, sl 1 v46, some ⟨0, []⟩] (fun Γ' hΓ => CoreE.of_y (bldV_sound (zs := [.arr 2 0 [] true, .lit (.int .i64 0)]) (cells := [rf 4 1 2 v46, I ({ ((T_impl_made.mk [] 0)) with fMost := (w64 (v11.fMost + v13.fMost)) }.fMost)]) τ_ok zi_ok139 (by kernel_rfl))) (hL trivial) ?_
  refine qX (some 14) (.ptr 5 1 0) 201 [(14, .ptr 5 1 0), (156, .agg [rf 4 1 2 v46, I ({ ((T_impl_made.mk [] 0)) with fMost := (w64 (v11.fMost + v13.fMost)) }.fMost)]), (6, .ptr 1 0 0), (8, .ptr 2 1 0), (9, .ptr 3 1 0)] [sl 0 a2, some ⟨0, Enc.cells ((T_impl_made.mk [] 0))⟩, sc 1 v11, sc 1 v13, sl 1 v46, some ⟨1, [.arr 2 0 (eL ([] : List T_impl_Column)) true, I ((T_impl_made.mk [] 0).fMost)]⟩] (fun Γ' hΓ => alz_E (blk := ⟨0, []⟩) (zs := [.arr 2 0 [] true, .lit (.int .i64 0)]) 14 139 5 0 (by first | exact py hΓ hQ | exact pky hΓ hQ) zi_ok139 (by kernel_rfl) (by kernel_rfl)) (hG trivial) ?_
  refine qX (Hm' := [none, none, none, none, sl 1 v46, some ⟨1, [rf 4 1 2 v46, I ({ ((T_impl_made.mk [] 0)) with fMost := (w64 (v11.fMost + v13.fMost)) }.fMost)]⟩]) none (.any) 201 [(14, .ptr 5 1 0), (6, .ptr 1 0 0), (8, .ptr 2 1 0), (9, .ptr 3 1 0)] [sl 0 a2, some ⟨0, Enc.cells ((T_impl_made.mk [] 0))⟩, sc 1 v11, sc 1 v13, sl 1 v46, some ⟨1, [rf 4 1 2 v46, I ({ ((T_impl_made.mk [] 0)) with fMost := (w64 (v11.fMost + v13.fMost)) }.fMost)]⟩] (fun Γ' hΓ => sto_E τ_ok 5 1 (by kernel_rfl)) (hL (hR trivial)) ?_
  refine qn 201 [(6, .ptr 1 0 0), (8, .ptr 2 1 0), (9, .ptr 3 1 0), (14, .ptr 5 1 0)] [sl 0 a2, some ⟨0, Enc.cells ((T_impl_made.mk [] 0))⟩, sc 1 v11, sc 1 v13, sl 1 v46, some ⟨1, [rf 4 1 2 v46, I ({ ((T_impl_made.mk [] 0)) with fMost := (w64 (v11.fMost + v13.fMost)) }.fMost)]⟩] ?_
  refine pwp_seq ?_
  refine srveM [6, 8, 9, 10, 13, 14, 16] 201 [(6, .ptr 1 0 0), (9, .ptr 3 1 0), (14, .ptr 5 1 0), (163, B ((!(((v11.fColumns.length : Int)) == ((v13.fColumns.length : Int))))))] [sl 0 a2, some ⟨0, Enc.cells ((T_impl_made.mk [] 0))⟩, sc 1 v11, sc 1 v13, sl 1 v46, some ⟨1, [rf 4 1 2 v46, I ({ ((T_impl_made.mk [] 0)) with fMost := (w64 (v11.fMost + v13.fMost)) }.fMost)]⟩] ?_
  refine pc h (fun h => ?_) (fun h => ?_)
  refine srveM [6, 8, 9, 10, 13, 14, 16] 201 [(6, .ptr 1 0 0), (7, B false)] [sl 0 a2, some ⟨0, Enc.cells ((T_impl_made.mk [] 0))⟩, sc 1 v11, sc 1 v13, sl 1 v46, some ⟨1, [rf 4 1 2 v46, I ({ ((T_impl_made.mk [] 0)) with fMost := (w64 (v11.fMost + v13.fMost)) }.fMost)]⟩] ?_
  have h := si h
  subst h
  exact pwp_ret ⟨.inr rfl, .tup [E ((T_impl_made.mk [] 0)), B false], _, 0, by kernel_rfl, (OutP.tup (OutL.cons (OutP.frz (by kernel_rfl)) (OutL.cons (OutP.frz (by kernel_rfl)) (OutL.nil _)))), by decide, by decide, by kernel_rfl⟩
  refine pwp_skip ?_
  refine pwp_seq ?_
  refine srveM [6, 8, 9, 10, 13, 14, 16] 201 [(6, .ptr 1 0 0), (14, .ptr 5 1 0), (166, A v13.fColumns), (167, I ((v13.fColumns.length : Int))), (168, I 0)] [sl 0 a2, some ⟨0, Enc.cells ((T_impl_made.mk [] 0))⟩, sc 1 v11, sc 1 v13, sl 1 v46, some ⟨1, [rf 4 1 2 v46, I ({ ((T_impl_made.mk [] 0)) with fMost := (w64 (v11.fMost + v13.fMost)) }.fMost)]⟩] ?_
  refine pwp_block ?_
  refine pwp_loop (ι := Nat × Int × (List T_impl_Column)) (fun (f57, x55, x56) => (⟨201, [(6, .ptr 1 0 0), (14, .ptr 5 1 0), (166, A v13.fColumns), (167, I ((v13.fColumns.length : Int))), (168, I x55)], [sl 0 a2, some ⟨0, Enc.cells ((T_impl_made.mk [] 0))⟩, sc 1 v11, sc 1 v13, sl 0 x56, some ⟨1, [rf 4 0 2 x56, I ({ ((T_impl_made.mk [] 0)) with fMost := (w64 (v11.fMost + v13.fMost)) }.fMost)]⟩]⟩ : St)) (fun (f57, x55, x56) => impl_Step_make_L2_l3 v11 v13 f57 x55 x56 = some y) Prod.fst (FUEL, 0, v46) h ((it (st' := ⟨201, [(6, .ptr 1 0 0), (14, .ptr 5 1 0), (166, A v13.fColumns), (167, I ((v13.fColumns.length : Int))), (168, I 0)], [sl 0 a2, some ⟨0, Enc.cells ((T_impl_made.mk [] 0))⟩, sc 1 v11, sc 1 v13, sl 1 v46, some ⟨1, [rf 4 1 2 v46, I ({ ((T_impl_made.mk [] 0)) with fMost := (w64 (v11.fMost + v13.fMost)) }.fMost)]⟩]⟩) [6, 14, 166, 167, 168]).trans ((Imp.reverB (cs := eL v46) (st' := ⟨201, [(6, .ptr 1 0 0), (14, .ptr 5 1 0), (166, A v13.fColumns), (167, I ((v13.fColumns.length : Int))), (168, I 0)], [sl 0 a2, some ⟨0, Enc.cells ((T_impl_made.mk [] 0))⟩, sc 1 v11, sc 1 v13, sl 0 v46, some ⟨1, [rf 4 0 2 v46, I ({ ((T_impl_made.mk [] 0)) with fMost := (w64 (v11.fMost + v13.fMost)) }.fMost)]⟩]⟩) 4 1 (by kernel_rfl) (qu_of_frzL (eL_frz _)) (HpRel.frz rfl (eL_frz _) (HpRel.frz rfl (Enc.frz _) (HpRel.frz rfl (Enc.frz _) (HpRel.frz rfl (Enc.frz _) (HpRel.key (HpRel.box rfl (CellRel.cons ⟨rfl, rfl⟩ (CellRel.cons ⟨rfl, rfl⟩ CellRel.nil)) HpRel.nil)))))) (by kernel_rfl) (by rfl) (p01 hQ)).trans (it [6, 14, 166, 167, 168]))) ?_
  rintro ⟨f57, x55, x56⟩ h
  dsimp only at h ⊢
  rcases f57 with _ | f57
  cases h
  rw [impl_Step_make_L2_l3] at h
  refine srveM [6, 8, 9, 10, 13, 14, 16] 201 [(6, .ptr 1 0 0), (14, .ptr 5 1 0), (166, A v13.fColumns), (167, I ((v13.fColumns.length : Int))), (168, I x55), (169, B ((decide (x55 < ((v13.fColumns.length : Int))))))] [sl 0 a2, some ⟨0, Enc.cells ((T_impl_made.mk [] 0))⟩, sc 1 v11, sc 1 v13, sl 0 x56, some ⟨1, [rf 4 0 2 x56, I ({ ((T_impl_made.mk [] 0)) with fMost := (w64 (v11.fMost + v13.fMost)) }.fMost)]⟩] ?_
  refine pwp_seq ?_
  refine pc h (fun h => ?_) (fun h => ?_)
  refine pwp_skip ?_
  refine pwp_seq ?_
  refine pwp_block ?_
  refine srvM [6, 8, 9, 10, 13, 14, 16] 1 201 [(6, .ptr 1 0 0), (14, .ptr 5 1 0), (166, A v13.fColumns), (167, I ((v13.fColumns.length : Int))), (168, I x55), (170, I x55)] [sl 0 a2, some ⟨0, Enc.cells ((T_impl_made.mk [] 0))⟩, sc 1 v11, sc 1 v13, sl 0 x56, some ⟨1, [rf 4 0 2 x56, I ({ ((T_impl_made.mk [] 0)) with fMost := (w64 (v11.fMost + v13.fMost)) }.fMost)]⟩] ?_
  obtain ⟨v60, hv61, h⟩ := bindS h
  refine opsP_idx τ_ok 171 hv61 (by kernel_rfl) ?_
  refine veM [6, 8, 9, 10, 13, 14, 16] 4 201 [(6, .ptr 1 0 0), (14, .ptr 5 1 0), (15, I x55), (16, .ptr 6 0 0), (166, A v13.fColumns), (167, I ((v13.fColumns.length : Int))), (168, I x55)] [sl 0 a2, some ⟨0, Enc.cells ((T_impl_made.mk [] 0))⟩, sc 1 v11, sc 1 v13, sl 0 x56, some ⟨1, [rf 4 0 2 x56, I ({ ((T_impl_made.mk [] 0)) with fMost := (w64 (v11.fMost + v13.fMost)) }.fMost)]⟩, sc 0 v60] ?_
  refine pwp_seq ?_
  refine pwp_seq ?_
  refine ip 201 [(6, .ptr 1 0 0), (14, .ptr 5 1 0), (15, I x55), (16, .ptr 6 0 0), (166, A v13.fColumns), (167, I ((v13.fColumns.length : Int))), (168, I x55)] [sl 0 a2, some ⟨0, Enc.cells ((T_impl_made.mk [] 0))⟩, sc 1 v11, sc 1 v13, sl 0 x56, some ⟨1, [rf 4 0 2 x56, I ({ ((T_impl_made.mk [] 0)) with fMost := (w64 (v11.fMost + v13.fMost)) }.fMost)]⟩, sc 0 v60] ?_
  refine pwp_any ([[6], [6], [4, 5], [4, 5], [], [4], [4], [4], []]) ([[], [], [], [], [], [], [], [], []]) rfl (by kernel_rfl) ?_
  refine qvM [6, 8, 9, 10, 13, 14, 16] [6] (hB trivial) 2 201 [(174, I v60.fKind), (6, .ptr 1 0 0), (14, .ptr 5 1 0), (15, I x55), (16, .ptr 6 0 0), (166, A v13.fColumns), (167, I ((v13.fColumns.length : Int))), (168, I x55)] [sl 0 a2, some ⟨0, Enc.cells ((T_impl_made.mk [] 0))⟩, sc 1 v11, sc 1 v13, sl 0 x56, some ⟨1, [rf 4 0 2 x56, I ({ ((T_impl_made.mk [] 0)) with fMost := (w64 (v11.fMost + v13.fMost)) }.fMost)]⟩, sc 0 v60] ?_
  refine qvM [6, 8, 9, 10, 13, 14, 16] [4, 5] (hL (hR trivial)) 2 201 [(176, rf 4 0 2 x56), (174, I v60.fKind), (6, .ptr 1 0 0), (14, .ptr 5 1 0), (15, I x55), (16, .ptr 6 0 0), (166, A v13.fColumns), (167, I ((v13.fColumns.length : Int))), (168, I x55)] [sl 0 a2, some ⟨0, Enc.cells ((T_impl_made.mk [] 0))⟩, sc 1 v11, sc 1 v13, sl 0 x56, some ⟨1, [rf 4 0 2 x56, I ({ ((T_impl_made.mk [] 0)) with fMost := (w64 (v11.fMost + v13.fMost)) }.fMost)]⟩, sc 0 v60] ?_
  refine qvM [6, 8, 9, 10, 13, 14, 16] [] trivial 1 201 [(177, I x55), (176, rf 4 0 2 x56), (174, I v60.fKind), (6, .ptr 1 0 0), (14, .ptr 5 1 0), (15, I x55), (16, .ptr 6 0 0), (166, A v13.fColumns), (167, I ((v13.fColumns.length : Int))), (168, I x55)] [sl 0 a2, some ⟨0, Enc.cells ((T_impl_made.mk [] 0))⟩, sc 1 v11, sc 1 v13, sl 0 x56, some ⟨1, [rf 4 0 2 x56, I ({ ((T_impl_made.mk [] 0)) with fMost := (w64 (v11.fMost + v13.fMost)) }.fMost)]⟩, sc 0 v60] ?_
  obtain ⟨v62, hv63, h⟩ := bindS h
  refine qX (some 178) (.ptr 4 0 (x55.toNat * 2)) 201 [(178, .ptr 4 0 (x55.toNat * 2)), (174, I v60.fKind), (6, .ptr 1 0 0), (14, .ptr 5 1 0), (15, I x55), (16, .ptr 6 0 0), (166, A v13.fColumns), (167, I ((v13.fColumns.length : Int))), (168, I x55)] [sl 0 a2, some ⟨0, Enc.cells ((T_impl_made.mk [] 0))⟩, sc 1 v11, sc 1 v13, sl 0 x56, some ⟨1, [rf 4 0 2 x56, I ({ ((T_impl_made.mk [] 0)) with fMost := (w64 (v11.fMost + v13.fMost)) }.fMost)]⟩, sc 0 v60] (fun Γ' hΓ => CoreE.of_y (idrV_sound (n := x56.length) τ_ok (by kernel_rfl) hv63 rfl)) (hL trivial) ?_
  refine qvM [6, 8, 9, 10, 13, 14, 16] [4] (hL trivial) 1 201 [(179, .ptr 4 0 (x55.toNat * 2)), (174, I v60.fKind), (6, .ptr 1 0 0), (14, .ptr 5 1 0), (15, I x55), (16, .ptr 6 0 0), (166, A v13.fColumns), (167, I ((v13.fColumns.length : Int))), (168, I x55)] [sl 0 a2, some ⟨0, Enc.cells ((T_impl_made.mk [] 0))⟩, sc 1 v11, sc 1 v13, sl 0 x56, some ⟨1, [rf 4 0 2 x56, I ({ ((T_impl_made.mk [] 0)) with fMost := (w64 (v11.fMost + v13.fMost)) }.fMost)]⟩, sc 0 v60] ?_
  refine qX (some 180) (I v62.fKind) 201 [(180, I v62.fKind), (174, I v60.fKind), (6, .ptr 1 0 0), (14, .ptr 5 1 0), (15, I x55), (16, .ptr 6 0 0), (166, A v13.fColumns), (167, I ((v13.fColumns.length : Int))), (168, I x55)] [sl 0 a2, some ⟨0, Enc.cells ((T_impl_made.mk [] 0))⟩, sc 1 v11, sc 1 v13, sl 0 x56, some ⟨1, [rf 4 0 2 x56, I ({ ((T_impl_made.mk [] 0)) with fMost := (w64 (v11.fMost + v13.fMost)) }.fMost)]⟩, sc 0 v60] (fun Γ' hΓ => CoreE.of_y (ldeV_sound (t := 3) (o' := 0) (r := I v62.fKind) τ_ok hv63 (by kernel_rfl) (by kernel_rfl))) (hL trivial) ?_
  refine qvnM [6, 8, 9, 10, 13, 14, 16] [] trivial 1 201 [(6, .ptr 1 0 0), (14, .ptr 5 1 0), (15, I x55), (16, .ptr 6 0 0), (166, A v13.fColumns), (167, I ((v13.fColumns.length : Int))), (168, I x55), (181, B ((!(v60.fKind == v62.fKind))))] [sl 0 a2, some ⟨0, Enc.cells ((T_impl_made.mk [] 0))⟩, sc 1 v11, sc 1 v13, sl 0 x56, some ⟨1, [rf 4 0 2 x56, I ({ ((T_impl_made.mk [] 0)) with fMost := (w64 (v11.fMost + v13.fMost)) }.fMost)]⟩, sc 0 v60] ?_
  refine pc h (fun h => ?_) (fun h => ?_)
  refine srveM [6, 8, 9, 10, 13, 14, 16] 201 [(6, .ptr 1 0 0), (7, B false)] [sl 0 a2, some ⟨0, Enc.cells ((T_impl_made.mk [] 0))⟩, sc 1 v11, sc 1 v13, sl 0 x56, some ⟨1, [rf 4 0 2 x56, I ({ ((T_impl_made.mk [] 0)) with fMost := (w64 (v11.fMost + v13.fMost)) }.fMost)]⟩, sc 0 v60] ?_
  have h := si h
  subst h
  exact pwp_ret ⟨.inr rfl, .tup [E ((T_impl_made.mk [] 0)), B false], _, 0, by kernel_rfl, (OutP.tup (OutL.cons (OutP.frz (by kernel_rfl)) (OutL.cons (OutP.frz (by kernel_rfl)) (OutL.nil _)))), by decide, by decide, by kernel_rfl⟩
  refine pwp_skip ?_
  refine ip 201 [(6, .ptr 1 0 0), (14, .ptr 5 1 0), (15, I x55), (16, .ptr 6 0 0), (166, A v13.fColumns), (167, I ((v13.fColumns.length : Int))), (168, I x55)] [sl 0 a2, some ⟨0, Enc.cells ((T_impl_made.mk [] 0))⟩, sc 1 v11, sc 1 v13, sl 0 x56, some ⟨1, [rf 4 0 2 x56, I ({ ((T_impl_made.mk [] 0)) with fMost := (w64 (v11.fMost + v13.fMost)) }.fMost)]⟩, sc 0 v60] ?_
  refine pwp_any ([[4, 5], [4, 5], [], [4, 5], [4, 5], [], [4], [4], [4], [], [6], [6], [], [4], [4], [4]]) ([[], [], [], [], [], [], [], [], [], [], [], [], [], [], [], [4]]) rfl (by kernel_rfl) ?_
  refine qvM [6, 8, 9, 10, 13, 14, 16] [4, 5] (hL (hR trivial)) 2 201 [(184, rf 4 0 2 x56), (6, .ptr 1 0 0), (14, .ptr 5 1 0), (15, I x55), (16, .ptr 6 0 0), (166, A v13.fColumns), (167, I ((v13.fColumns.length : Int))), (168, I x55)] [sl 0 a2, some ⟨0, Enc.cells ((T_impl_made.mk [] 0))⟩, sc 1 v11, sc 1 v13, sl 0 x56, some ⟨1, [rf 4 0 2 x56, I ({ ((T_impl_made.mk [] 0)) with fMost := (w64 (v11.fMost + v13.fMost)) }.fMost)]⟩, sc 0 v60] ?_
  refine qvM [6, 8, 9, 10, 13, 14, 16] [] trivial 1 201 [(185, I x55), (184, rf 4 0 2 x56), (6, .ptr 1 0 0), (14, .ptr 5 1 0), (15, I x55), (16, .ptr 6 0 0), (166, A v13.fColumns), (167, I ((v13.fColumns.length : Int))), (168, I x55)] [sl 0 a2, some ⟨0, Enc.cells ((T_impl_made.mk [] 0))⟩, sc 1 v11, sc 1 v13, sl 0 x56, some ⟨1, [rf 4 0 2 x56, I ({ ((T_impl_made.mk [] 0)) with fMost := (w64 (v11.fMost + v13.fMost)) }.fMost)]⟩, sc 0 v60] ?_
  refine qvM [6, 8, 9, 10, 13, 14, 16] [4, 5] (hL (hR trivial)) 2 201 [(187, rf 4 0 2 x56), (185, I x55), (184, rf 4 0 2 x56), (6, .ptr 1 0 0), (14, .ptr 5 1 0), (15, I x55), (16, .ptr 6 0 0), (166, A v13.fColumns), (167, I ((v13.fColumns.length : Int))), (168, I x55)] [sl 0 a2, some ⟨0, Enc.cells ((T_impl_made.mk [] 0))⟩, sc 1 v11, sc 1 v13, sl 0 x56, some ⟨1, [rf 4 0 2 x56, I ({ ((T_impl_made.mk [] 0)) with fMost := (w64 (v11.fMost + v13.fMost)) }.fMost)]⟩, sc 0 v60] ?_
  refine qvM [6, 8, 9, 10, 13, 14, 16] [] trivial 1 201 [(188, I x55), (187, rf 4 0 2 x56), (185, I x55), (184, rf 4 0 2 x56), (6, .ptr 1 0 0), (14, .ptr 5 1 0), (16, .ptr 6 0 0), (166, A v13.fColumns), (167, I ((v13.fColumns.length : Int))), (168, I x55)] [sl 0 a2, some ⟨0, Enc.cells ((T_impl_made.mk [] 0))⟩, sc 1 v11, sc 1 v13, sl 0 x56, some ⟨1, [rf 4 0 2 x56, I ({ ((T_impl_made.mk [] 0)) with fMost := (w64 (v11.fMost + v13.fMost)) }.fMost)]⟩, sc 0 v60] ?_
  obtain ⟨v65, hv66, h⟩ := bindS h
  refine qX (some 189) (.ptr 4 0 (x55.toNat * 2)) 201 [(189, .ptr 4 0 (x55.toNat * 2)), (185, I x55), (184, rf 4 0 2 x56), (6, .ptr 1 0 0), (14, .ptr 5 1 0), (16, .ptr 6 0 0), (166, A v13.fColumns), (167, I ((v13.fColumns.length : Int))), (168, I x55)] [sl 0 a2, some ⟨0, Enc.cells ((T_impl_made.mk [] 0))⟩, sc 1 v11, sc 1 v13, sl 0 x56, some ⟨1, [rf 4 0 2 x56, I ({ ((T_impl_made.mk [] 0)) with fMost := (w64 (v11.fMost + v13.fMost)) }.fMost)]⟩, sc 0 v60] (fun Γ' hΓ => CoreE.of_y (idrV_sound (n := x56.length) τ_ok (by kernel_rfl) hv66 rfl)) (hL trivial) ?_
  refine qvM [6, 8, 9, 10, 13, 14, 16] [4] (hL trivial) 1 201 [(190, .ptr 4 0 (x55.toNat * 2 + 1)), (185, I x55), (184, rf 4 0 2 x56), (6, .ptr 1 0 0), (14, .ptr 5 1 0), (16, .ptr 6 0 0), (166, A v13.fColumns), (167, I ((v13.fColumns.length : Int))), (168, I x55)] [sl 0 a2, some ⟨0, Enc.cells ((T_impl_made.mk [] 0))⟩, sc 1 v11, sc 1 v13, sl 0 x56, some ⟨1, [rf 4 0 2 x56, I ({ ((T_impl_made.mk [] 0)) with fMost := (w64 (v11.fMost + v13.fMost)) }.fMost)]⟩, sc 0 v60] ?_
  refine qX (some 191) (B v65.fEmpty) 201 [(191, B v65.fEmpty), (185, I x55), (184, rf 4 0 2 x56), (6, .ptr 1 0 0), (14, .ptr 5 1 0), (16, .ptr 6 0 0), (166, A v13.fColumns), (167, I ((v13.fColumns.length : Int))), (168, I x55)] [sl 0 a2, some ⟨0, Enc.cells ((T_impl_made.mk [] 0))⟩, sc 1 v11, sc 1 v13, sl 0 x56, some ⟨1, [rf 4 0 2 x56, I ({ ((T_impl_made.mk [] 0)) with fMost := (w64 (v11.fMost + v13.fMost)) }.fMost)]⟩, sc 0 v60] (fun Γ' hΓ => CoreE.of_y (ldeV_sound (t := 4) (o' := 1) (r := B v65.fEmpty) τ_ok hv66 (by kernel_rfl) (by kernel_rfl))) (hL trivial) ?_
  refine qvM [6, 8, 9, 10, 13, 14, 16] [] trivial 1 201 [(192, B v65.fEmpty), (185, I x55), (184, rf 4 0 2 x56), (6, .ptr 1 0 0), (14, .ptr 5 1 0), (16, .ptr 6 0 0), (166, A v13.fColumns), (167, I ((v13.fColumns.length : Int))), (168, I x55)] [sl 0 a2, some ⟨0, Enc.cells ((T_impl_made.mk [] 0))⟩, sc 1 v11, sc 1 v13, sl 0 x56, some ⟨1, [rf 4 0 2 x56, I ({ ((T_impl_made.mk [] 0)) with fMost := (w64 (v11.fMost + v13.fMost)) }.fMost)]⟩, sc 0 v60] ?_
  rcases Bool.eq_false_or_eq_true v65.fEmpty with hc71 | hc71
  replace h := bT hc71 h
  rw [hc71]
  refine qvM [6, 8, 9, 10, 13, 14, 16] [6] (hB trivial) 2 201 [(194, .lit undef), (193, .lit undef), (192, B true), (185, I x55), (184, rf 4 0 2 x56), (6, .ptr 1 0 0), (14, .ptr 5 1 0), (166, A v13.fColumns), (167, I ((v13.fColumns.length : Int))), (168, I x55)] [sl 0 a2, some ⟨0, Enc.cells ((T_impl_made.mk [] 0))⟩, sc 1 v11, sc 1 v13, sl 0 x56, some ⟨1, [rf 4 0 2 x56, I ({ ((T_impl_made.mk [] 0)) with fMost := (w64 (v11.fMost + v13.fMost)) }.fMost)]⟩, sc 0 v60] ?_
  refine qvM [6, 8, 9, 10, 13, 14, 16] [] trivial 1 201 [(195, B true), (194, .lit undef), (193, .lit undef), (185, I x55), (184, rf 4 0 2 x56), (6, .ptr 1 0 0), (14, .ptr 5 1 0), (166, A v13.fColumns), (167, I ((v13.fColumns.length : Int))), (168, I x55)] [sl 0 a2, some ⟨0, Enc.cells ((T_impl_made.mk [] 0))⟩, sc 1 v11, sc 1 v13, sl 0 x56, some ⟨1, [rf 4 0 2 x56, I ({ ((T_impl_made.mk [] 0)) with fMost := (w64 (v11.fMost + v13.fMost)) }.fMost)]⟩, sc 0 v60] ?_
  obtain ⟨v67, hv68, h⟩ := bindS h
  refine qX (some 196) (.ptr 4 0 (x55.toNat * 2)) 201 [(196, .ptr 4 0 (x55.toNat * 2)), (195, B true), (194, .lit undef), (193, .lit undef), (6, .ptr 1 0 0), (14, .ptr 5 1 0), (166, A v13.fColumns), (167, I ((v13.fColumns.length : Int))), (168, I x55)] [sl 0 a2, some ⟨0, Enc.cells ((T_impl_made.mk [] 0))⟩, sc 1 v11, sc 1 v13, sl 0 x56, some ⟨1, [rf 4 0 2 x56, I ({ ((T_impl_made.mk [] 0)) with fMost := (w64 (v11.fMost + v13.fMost)) }.fMost)]⟩, sc 0 v60] (fun Γ' hΓ => CoreE.of_y (idrV_sound (n := x56.length) τ_ok (by kernel_rfl) hv68 rfl)) (hL trivial) ?_
  refine qvM [6, 8, 9, 10, 13, 14, 16] [4] (hL trivial) 1 201 [(197, .ptr 4 0 (x55.toNat * 2 + 1)), (195, B true), (194, .lit undef), (193, .lit undef), (6, .ptr 1 0 0), (14, .ptr 5 1 0), (166, A v13.fColumns), (167, I ((v13.fColumns.length : Int))), (168, I x55)] [sl 0 a2, some ⟨0, Enc.cells ((T_impl_made.mk [] 0))⟩, sc 1 v11, sc 1 v13, sl 0 x56, some ⟨1, [rf 4 0 2 x56, I ({ ((T_impl_made.mk [] 0)) with fMost := (w64 (v11.fMost + v13.fMost)) }.fMost)]⟩, sc 0 v60] ?_
  refine qX none (.any) 201 [(194, .lit undef), (193, .lit undef), (6, .ptr 1 0 0), (14, .ptr 5 1 0), (166, A v13.fColumns), (167, I ((v13.fColumns.length : Int))), (168, I x55)] [sl 0 a2, some ⟨0, Enc.cells ((T_impl_made.mk [] 0))⟩, sc 1 v11, sc 1 v13, some ⟨0, eL ((x56.set x55.toNat (({ v67 with fEmpty := true } : T_impl_Column))))⟩, some ⟨1, [rf 4 0 2 x56, I ({ ((T_impl_made.mk [] 0)) with fMost := (w64 (v11.fMost + v13.fMost)) }.fMost)]⟩, sc 0 v60] (fun Γ' hΓ => ste_E (vs := [B true]) τ_ok 4 4 0 1 (({ v67 with fEmpty := true } : T_impl_Column)) hv68 (by kernel_rfl) (by kernel_rfl) (by kernel_rfl)) (hL trivial) ?_
  refine qA_ren (st' := ⟨201, [(194, .lit undef), (193, .lit undef), (6, .ptr 1 0 0), (14, .ptr 5 1 0), (166, A v13.fColumns), (167, I ((v13.fColumns.length : Int))), (168, I x55)], [sl 0 a2, some ⟨0, Enc.cells ((T_impl_made.mk [] 0))⟩, sc 1 v11, sc 1 v13, some ⟨0, eL ((x56.set x55.toNat (({ v67 with fEmpty := true } : T_impl_Column))))⟩, some ⟨1, [rf 4 0 2 x56, I ({ ((T_impl_made.mk [] 0)) with fMost := (w64 (v11.fMost + v13.fMost)) }.fMost)]⟩, sc 0 v60]⟩) 4 ((x56.set x55.toNat (({ v67 with fEmpty := true } : T_impl_Column)))).length (renC trivial (renC trivial (renC trivial (renC trivial (renC trivial (renC trivial (renC trivial renC0))))))) (by kernel_rfl) ?_
  refine qA_of_eq (st' := ⟨201, [(194, .lit undef), (193, .lit undef), (6, .ptr 1 0 0), (14, .ptr 5 1 0), (166, A v13.fColumns), (167, I ((v13.fColumns.length : Int))), (168, I x55)], [sl 0 a2, some ⟨0, Enc.cells ((T_impl_made.mk [] 0))⟩, sc 1 v11, sc 1 v13, some ⟨0, eL ((x56.set x55.toNat (({ v67 with fEmpty := true } : T_impl_Column))))⟩, some ⟨1, [.ref 4 0 0 2 ((x56.set x55.toNat (({ v67 with fEmpty := true } : T_impl_Column)))).length false, I ({ ((T_impl_made.mk [] 0)) with fMost := (w64 (v11.fMost + v13.fMost)) }.fMost)]⟩, sc 0 v60]⟩) (by simp only [List.length_set]) ?_
  refine qn 201 [(6, .ptr 1 0 0), (14, .ptr 5 1 0), (166, A v13.fColumns), (167, I ((v13.fColumns.length : Int))), (168, I x55), (193, .lit undef), (194, .lit undef)] [sl 0 a2, some ⟨0, Enc.cells ((T_impl_made.mk [] 0))⟩, sc 1 v11, sc 1 v13, some ⟨0, eL ((x56.set x55.toNat (({ v67 with fEmpty := true } : T_impl_Column))))⟩, some ⟨1, [.ref 4 0 0 2 ((x56.set x55.toNat (({ v67 with fEmpty := true } : T_impl_Column)))).length false, I ({ ((T_impl_made.mk [] 0)) with fMost := (w64 (v11.fMost + v13.fMost)) }.fMost)]⟩, sc 0 v60] ?_
  refine rveM [6, 8, 9, 10, 13, 14, 16] 201 [(6, .ptr 1 0 0), (14, .ptr 5 1 0), (166, A v13.fColumns), (167, I ((v13.fColumns.length : Int))), (168, I ((w64 (x55 + 1)))), (193, .lit undef), (194, .lit undef)] [sl 0 a2, some ⟨0, Enc.cells ((T_impl_made.mk [] 0))⟩, sc 1 v11, sc 1 v13, some ⟨0, eL ((x56.set x55.toNat (({ v67 with fEmpty := true } : T_impl_Column))))⟩, some ⟨1, [.ref 4 0 0 2 ((x56.set x55.toNat (({ v67 with fEmpty := true } : T_impl_Column)))).length false, I ({ ((T_impl_made.mk [] 0)) with fMost := (w64 (v11.fMost + v13.fMost)) }.fMost)]⟩, sc 0 v60] ?_
  exact ⟨(f57, (w64 (x55 + 1)), (x56.set x55.toNat (({ v67 with fEmpty := true } : T_impl_Column)))), h, Nat.lt_succ_self _, (it (st' := ⟨201, [(6, .ptr 1 0 0), (14, .ptr 5 1 0), (166, A v13.fColumns), (167, I ((v13.fColumns.length : Int))), (168, I ((w64 (x55 + 1))))], [sl 0 a2, some ⟨0, Enc.cells ((T_impl_made.mk [] 0))⟩, sc 1 v11, sc 1 v13, some ⟨0, eL ((x56.set x55.toNat (({ v67 with fEmpty := true } : T_impl_Column))))⟩, some ⟨1, [.ref 4 0 0 2 ((x56.set x55.toNat (({ v67 with fEmpty := true } : T_impl_Column)))).length false, I ({ ((T_impl_made.mk [] 0)) with fMost := (w64 (v11.fMost + v13.fMost)) }.fMost)]⟩, sc 0 v60]⟩) [6, 14, 166, 167, 168]).trans (Imp.truncS 6 (pl hQ) (by kernel_rfl) (allBelow_mem (by exact (And.intro rfl (And.intro rfl (And.intro rfl (And.intro rfl (And.intro rfl trivial))))))) (by exact (And.intro (frz_below (eL_frz _)) (And.intro (rfl) (And.intro (rfl) (And.intro (rfl) (And.intro (frz_below (eL_frz _)) (And.intro (rfl) trivial))))))) (by kernel_rfl))⟩
  replace h := bF hc71 h
  rw [hc71]
  refine qvM [6, 8, 9, 10, 13, 14, 16] [6] (hB trivial) 2 201 [(194, B v60.fEmpty), (193, .ptr 6 0 1), (192, B false), (185, I x55), (184, rf 4 0 2 x56), (6, .ptr 1 0 0), (14, .ptr 5 1 0), (166, A v13.fColumns), (167, I ((v13.fColumns.length : Int))), (168, I x55)] [sl 0 a2, some ⟨0, Enc.cells ((T_impl_made.mk [] 0))⟩, sc 1 v11, sc 1 v13, sl 0 x56, some ⟨1, [rf 4 0 2 x56, I ({ ((T_impl_made.mk [] 0)) with fMost := (w64 (v11.fMost + v13.fMost)) }.fMost)]⟩, sc 0 v60] ?_
  refine qvM [6, 8, 9, 10, 13, 14, 16] [] trivial 1 201 [(195, B v60.fEmpty), (194, B v60.fEmpty), (193, .ptr 6 0 1), (185, I x55), (184, rf 4 0 2 x56), (6, .ptr 1 0 0), (14, .ptr 5 1 0), (166, A v13.fColumns), (167, I ((v13.fColumns.length : Int))), (168, I x55)] [sl 0 a2, some ⟨0, Enc.cells ((T_impl_made.mk [] 0))⟩, sc 1 v11, sc 1 v13, sl 0 x56, some ⟨1, [rf 4 0 2 x56, I ({ ((T_impl_made.mk [] 0)) with fMost := (w64 (v11.fMost + v13.fMost)) }.fMost)]⟩, sc 0 v60] ?_
  obtain ⟨v69, hv70, h⟩ := bindS h
  refine qX (some 196) (.ptr 4 0 (x55.toNat * 2)) 201 [(196, .ptr 4 0 (x55.toNat * 2)), (195, B v60.fEmpty), (194, B v60.fEmpty), (193, .ptr 6 0 1), (6, .ptr 1 0 0), (14, .ptr 5 1 0), (166, A v13.fColumns), (167, I ((v13.fColumns.length : Int))), (168, I x55)] [sl 0 a2, some ⟨0, Enc.cells ((T_impl_made.mk [] 0))⟩, sc 1 v11, sc 1 v13, sl 0 x56, some ⟨1, [rf 4 0 2 x56, I ({ ((T_impl_made.mk [] 0)) with fMost := (w64 (v11.fMost + v13.fMost)) }.fMost)]⟩, sc 0 v60] (fun Γ' hΓ => CoreE.of_y (idrV_sound (n := x56.length) τ_ok (by kernel_rfl) hv70 rfl)) (hL trivial) ?_
  refine qvM [6, 8, 9, 10, 13, 14, 16] [4] (hL trivial) 1 201 [(197, .ptr 4 0 (x55.toNat * 2 + 1)), (195, B v60.fEmpty), (194, B v60.fEmpty), (193, .ptr 6 0 1), (6, .ptr 1 0 0), (14, .ptr 5 1 0), (166, A v13.fColumns), (167, I ((v13.fColumns.length : Int))), (168, I x55)] [sl 0 a2, some ⟨0, Enc.cells ((T_impl_made.mk [] 0))⟩, sc 1 v11, sc 1 v13, sl 0 x56, some ⟨1, [rf 4 0 2 x56, I ({ ((T_impl_made.mk [] 0)) with fMost := (w64 (v11.fMost + v13.fMost)) }.fMost)]⟩, sc 0 v60] ?_
  refine qX none (.any) 201 [(194, B v60.fEmpty), (193, .ptr 6 0 1), (6, .ptr 1 0 0), (14, .ptr 5 1 0), (166, A v13.fColumns), (167, I ((v13.fColumns.length : Int))), (168, I x55)] [sl 0 a2, some ⟨0, Enc.cells ((T_impl_made.mk [] 0))⟩, sc 1 v11, sc 1 v13, some ⟨0, eL ((x56.set x55.toNat (({ v69 with fEmpty := v60.fEmpty } : T_impl_Column))))⟩, some ⟨1, [rf 4 0 2 x56, I ({ ((T_impl_made.mk [] 0)) with fMost := (w64 (v11.fMost + v13.fMost)) }.fMost)]⟩, sc 0 v60] (fun Γ' hΓ => ste_E (vs := [B v60.fEmpty]) τ_ok 4 4 0 1 (({ v69 with fEmpty := v60.fEmpty } : T_impl_Column)) hv70 (by kernel_rfl) (by kernel_rfl) (by kernel_rfl)) (hL trivial) ?_
  refine qA_ren (st' := ⟨201, [(194, B v60.fEmpty), (193, .ptr 6 0 1), (6, .ptr 1 0 0), (14, .ptr 5 1 0), (166, A v13.fColumns), (167, I ((v13.fColumns.length : Int))), (168, I x55)], [sl 0 a2, some ⟨0, Enc.cells ((T_impl_made.mk [] 0))⟩, sc 1 v11, sc 1 v13, some ⟨0, eL ((x56.set x55.toNat (({ v69 with fEmpty := v60.fEmpty } : T_impl_Column))))⟩, some ⟨1, [rf 4 0 2 x56, I ({ ((T_impl_made.mk [] 0)) with fMost := (w64 (v11.fMost + v13.fMost)) }.fMost)]⟩, sc 0 v60]⟩) 4 ((x56.set x55.toNat (({ v69 with fEmpty := v60.fEmpty } : T_impl_Column)))).length (renC trivial (renC trivial (renC trivial (renC trivial (renC trivial (renC trivial (renC trivial renC0))))))) (by kernel_rfl) ?_
  refine qA_of_eq (st' := ⟨201, [(194, B v60.fEmpty), (193, .ptr 6 0 1), (6, .ptr 1 0 0), (14, .ptr 5 1 0), (166, A v13.fColumns), (167, I ((v13.fColumns.length : Int))), (168, I x55)], [sl 0 a2, some ⟨0, Enc.cells ((T_impl_made.mk [] 0))⟩, sc 1 v11, sc 1 v13, some ⟨0, eL ((x56.set x55.toNat (({ v69 with fEmpty := v60.fEmpty } : T_impl_Column))))⟩, some ⟨1, [.ref 4 0 0 2 ((x56.set x55.toNat (({ v69 with fEmpty := v60.fEmpty } : T_impl_Column)))).length false, I ({ ((T_impl_made.mk [] 0)) with fMost := (w64 (v11.fMost + v13.fMost)) }.fMost)]⟩, sc 0 v60]⟩) (by simp only [List.length_set]) ?_
  refine qn 201 [(6, .ptr 1 0 0), (14, .ptr 5 1 0), (166, A v13.fColumns), (167, I ((v13.fColumns.length : Int))), (168, I x55), (193, .ptr 6 0 1), (194, B v60.fEmpty)] [sl 0 a2, some ⟨0, Enc.cells ((T_impl_made.mk [] 0))⟩, sc 1 v11, sc 1 v13, some ⟨0, eL ((x56.set x55.toNat (({ v69 with fEmpty := v60.fEmpty } : T_impl_Column))))⟩, some ⟨1, [.ref 4 0 0 2 ((x56.set x55.toNat (({ v69 with fEmpty := v60.fEmpty } : T_impl_Column)))).length false, I ({ ((T_impl_made.mk [] 0)) with fMost := (w64 (v11.fMost + v13.fMost)) }.fMost)]⟩, sc 0 v60] ?_
  refine rveM [6, 8, 9, 10, 13, 14, 16] 201 [(6, .ptr 1 0 0), (14, .ptr 5 1 0), (166, A v13.fColumns), (167, I ((v13.fColumns.length : Int))), (168, I ((w64 (x55 + 1)))), (193, .ptr 6 0 1), (194, B v60.fEmpty)] [sl 0 a2, some ⟨0, Enc.cells ((T_impl_made.mk [] 0))⟩, sc 1 v11, sc 1 v13, some ⟨0, eL ((x56.set x55.toNat (({ v69 with fEmpty := v60.fEmpty } : T_impl_Column))))⟩, some ⟨1, [.ref 4 0 0 2 ((x56.set x55.toNat (({ v69 with fEmpty := v60.fEmpty } : T_impl_Column)))).length false, I ({ ((T_impl_made.mk [] 0)) with fMost := (w64 (v11.fMost + v13.fMost)) }.fMost)]⟩, sc 0 v60] ?_
  exact ⟨(f57, (w64 (x55 + 1)), (x56.set x55.toNat (({ v69 with fEmpty := v60.fEmpty } : T_impl_Column)))), h, Nat.lt_succ_self _, (it (st' := ⟨201, [(6, .ptr 1 0 0), (14, .ptr 5 1 0), (166, A v13.fColumns), (167, I ((v13.fColumns.length : Int))), (168, I ((w64 (x55 + 1))))], [sl 0 a2, some ⟨0, Enc.cells ((T_impl_made.mk [] 0))⟩, sc 1 v11, sc 1 v13, some ⟨0, eL ((x56.set x55.toNat (({ v69 with fEmpty := v60.fEmpty } : T_impl_Column))))⟩, some ⟨1, [.ref 4 0 0 2 ((x56.set x55.toNat (({ v69 with fEmpty := v60.fEmpty } : T_impl_Column)))).length false, I ({ ((T_impl_made.mk [] 0)) with fMost := (w64 (v11.fMost + v13.fMost)) }.fMost)]⟩, sc 0 v60]⟩) [6, 14, 166, 167, 168]).trans (Imp.truncS 6 (pl hQ) (by kernel_rfl) (allBelow_mem (by exact (And.intro rfl (And.intro rfl (And.intro rfl (And.intro rfl (And.intro rfl trivial))))))) (by exact (And.intro (frz_below (eL_frz _)) (And.intro (rfl) (And.intro (rfl) (And.intro (rfl) (And.intro (frz_below (eL_frz _)) (And.intro (rfl) trivial))))))) (by kernel_rfl))⟩
  refine pwp_exit ?_
  refine srvM [6, 8, 9, 10, 13, 14, 16] 1 201 [(6, .ptr 1 0 0), (199, .agg [rf 4 0 2 x56, I ({ ((T_impl_made.mk [] 0)) with fMost := (w64 (v11.fMost + v13.fMost)) }.fMost)])] [sl 0 a2, some ⟨0, Enc.cells ((T_impl_made.mk [] 0))⟩, sc 1 v11, sc 1 v13, sl 0 x56, some ⟨1, [rf 4 0 2 x56, I ({ ((T_impl_made.mk [] 0)) with fMost := (w64 (v11.fMost + v13.fMost)) }.fMost)]⟩] ?_
  refine opsP_imp ((Imp.freezeB (v := 0) (cs := eL x56) (st' := ⟨201, [(6, .ptr 1 0 0), (199, E ({ (({ ((T_impl_made.mk [] 0)) with fMost := (w64 (v11.fMost + v13.fMost)) }) : T_impl_made) with fColumns := x56 }))], [sl 0 a2, some ⟨0, Enc.cells ((T_impl_made.mk [] 0))⟩, sc 1 v11, sc 1 v13, none, some ⟨1, Enc.cells ({ (({ ((T_impl_made.mk [] 0)) with fMost := (w64 (v11.fMost + v13.fMost)) }) : T_impl_made) with fColumns := x56 })⟩]⟩) 4 0 (pn hQ) (by kernel_rfl) (eL_frz _) (wholeC (whole_noRef (by kernel_rfl)) (wholeC (whole_agg (wholeL (whole_is (eL_len x56).symm) (wholeL (whole_noRef (by kernel_rfl)) wholeL0))) wholeC0)) (HpRel.frz rfl (eL_frz _) (HpRel.frz rfl (Enc.frz _) (HpRel.frz rfl (Enc.frz _) (HpRel.frz rfl (Enc.frz _) (HpRel.key (HpRel.box rfl (CellRel.cons ⟨rfl, (whole_is (eL_len x56).symm), rfl⟩ (CellRel.cons ⟨rfl, trivial, rfl⟩ CellRel.nil)) HpRel.nil)))))) (by kernel_rfl) rfl (p01 hQ))) ?_
  refine veM [6, 8, 9, 10, 13, 14, 16] 2 201 [(6, .ptr 1 0 0), (7, B true)] [sl 0 a2, some ⟨0, Enc.cells ({ (({ ((T_impl_made.mk [] 0)) with fMost := (w64 (v11.fMost + v13.fMost)) }) : T_impl_made) with fColumns := x56 })⟩, sc 1 v11, sc 1 v13, none, some ⟨1, Enc.cells ({ (({ ((T_impl_made.mk [] 0)) with fMost := (w64 (v11.fMost + v13.fMost)) }) : T_impl_made) with fColumns := x56 })⟩] ?_
  have h := si h
  subst h
  exact pwp_ret ⟨.inr rfl, .tup [E ({ (({ ((T_impl_made.mk [] 0)) with fMost := (w64 (v11.fMost + v13.fMost)) }) : T_impl_made) with fColumns := x56 }), B true], _, 0, by kernel_rfl, (OutP.tup (OutL.cons (OutP.frz (by kernel_rfl)) (OutL.cons (OutP.frz (by kernel_rfl)) (OutL.nil _)))), by decide, by decide, by kernel_rfl⟩
  refine pwp_skip ?_
  refine srveM [6, 8, 9, 10, 13, 14, 16] 201 [(6, .ptr 1 0 0), (7, B true)] [sl 0 a2, sc 0 v11, sc 1 v11, sc 1 v13] ?_
  have h := si h
  subst h
  exact pwp_ret ⟨.inr rfl, .tup [E v11, B true], _, 0, by kernel_rfl, (OutP.tup (OutL.cons (OutP.frz (by kernel_rfl)) (OutL.cons (OutP.frz (by kernel_rfl)) (OutL.nil _)))), by decide, by decide, by kernel_rfl⟩
def impl_planRows_l0 (a0 : List T_impl_Table) (a1 : List T_impl_Step) : Nat → Int → (List (List (List T_impl_Value))) → Option (List (List T_impl_Value))
  | 0, _, _ => none
  | f4 + 1, x2, x3 => bif (decide (x2 < ((a1.length : Int)))) then (getI a1 x2).bind fun v7 => (impl_Step_rows_L2 v7 a0 x3).bind fun v9 => (app x3 (([v9] : List (List (List T_impl_Value))))).bind fun v11 => (impl_planRows_l0 a0 a1 f4) ((w64 (x2 + 1))) v11 else (getI x3 ((w64 (((x3.length : Int)) - 1)))).bind fun v13 => (impl_rowsCopy v13).bind fun v15 => some v15
def impl_planRows (a0 : List T_impl_Table) (a1 : List T_impl_Step) : Option (List (List T_impl_Value)) := impl_planRows_l0 a0 a1 FUEL 0 (([] : List (List (List T_impl_Value))))
theorem ok_impl_planRows {a0 : List T_impl_Table} {a1 : List T_impl_Step} {y : List (List T_impl_Value)} (h : impl_planRows a0 a1 = some y) : OK Tryz.prog 71 [A a0, A a1] (A y) := by
  refine ow Tryz.func71 fun Γ hX => ?_
  unfold impl_planRows at h
  refine srveM [7] 29 [(0, A a0), (1, A a1)] [] ?_
  refine srveM [7] 29 [(0, A a0), (1, A a1), (5, .arr 1 0 (eL ([] : List (List (List T_impl_Value)))) true)] [] ?_
  refine pwp_seq ?_
  refine srveM [7] 29 [(0, A a0), (5, .arr 1 0 (eL ([] : List (List (List T_impl_Value)))) true), (8, A a1), (9, I ((a1.length : Int))), (10, I 0)] [] ?_
  refine pwp_block ?_
  refine pwp_loop (ι := Nat × Int × (List (List (List T_impl_Value)))) (fun (f4, x2, x3) => (⟨29, [(0, A a0), (5, rf 0 0 1 x3), (8, A a1), (9, I ((a1.length : Int))), (10, I x2)], [sl 0 x3]⟩ : St)) (fun (f4, x2, x3) => impl_planRows_l0 a0 a1 f4 x2 x3 = some y) Prod.fst (FUEL, 0, ([] : List (List (List T_impl_Value)))) h (Imp.thawS 5 [0, 5, 8, 9, 10] (by kernel_rfl)) ?_
  rintro ⟨f4, x2, x3⟩ h
  dsimp only at h ⊢
  rcases f4 with _ | f4
  cases h
  rw [impl_planRows_l0] at h
  refine srveM [7] 29 [(0, A a0), (5, rf 0 0 1 x3), (8, A a1), (9, I ((a1.length : Int))), (10, I x2), (11, B ((decide (x2 < ((a1.length : Int))))))] [sl 0 x3] ?_
  refine pwp_seq ?_
  refine pc h (fun h => ?_) (fun h => ?_)
  refine pwp_skip ?_
  refine pwp_seq ?_
  refine pwp_block ?_
  refine pwp_seq ?_
  refine pwp_region ?_
  obtain ⟨v7, hv8, h⟩ := bindS h
  refine opsP_idx τ_ok 12 hv8 (by kernel_rfl) ?_
  refine veM [7] 3 29 [(0, A a0), (5, rf 0 0 1 x3), (7, .ptr 1 0 0), (8, A a1), (9, I ((a1.length : Int))), (10, I x2)] [sl 0 x3, sc 0 v7] ?_
  refine rvM [7] 4 29 [(0, A a0), (8, A a1), (9, I ((a1.length : Int))), (10, I x2), (14, rf 0 0 1 x3), (15, E v7), (16, A a0), (17, rf 0 0 1 x3)] [sl 0 x3, sc 0 v7] ?_
  obtain ⟨v9, hv10, h⟩ := bindS h
  refine opsP_E (dd := some 18) (x := A v9) (callS_E τ 18 0 0 (ok_impl_Step_rows_L2 hv10) (FzTo.frz rfl) rfl rfl (by kernel_rfl)) ?_
  refine vM [7] 1 29 [(0, A a0), (8, A a1), (9, I ((a1.length : Int))), (10, I x2), (14, rf 0 0 1 x3), (19, .arr 1 (([v9] : List (List (List T_impl_Value)))).length (eL ([v9] : List (List (List T_impl_Value)))) true)] [sl 0 x3, sc 0 v7] ?_
  obtain ⟨v11, hv12, h⟩ := bindS h
  refine opsP_app τ_ok 20 0 0 (nx hX) hv12 (by kernel_rfl) ?_
  refine veM [7] 1 29 [(0, A a0), (5, rf 0 1 1 v11), (8, A a1), (9, I ((a1.length : Int))), (10, I x2)] [sl 1 v11, sc 0 v7] ?_
  refine rveM [7] 29 [(0, A a0), (5, rf 0 1 1 v11), (8, A a1), (9, I ((a1.length : Int))), (10, I ((w64 (x2 + 1))))] [sl 1 v11, sc 0 v7] ?_
  exact ⟨(f4, (w64 (x2 + 1)), v11), h, Nat.lt_succ_self _, (it (st' := ⟨29, [(0, A a0), (5, rf 0 1 1 v11), (8, A a1), (9, I ((a1.length : Int))), (10, I ((w64 (x2 + 1))))], [sl 1 v11, sc 0 v7]⟩) [0, 5, 8, 9, 10]).trans ((Imp.truncS (st' := ⟨29, [(0, A a0), (5, rf 0 1 1 v11), (8, A a1), (9, I ((a1.length : Int))), (10, I ((w64 (x2 + 1))))], [sl 1 v11]⟩) 1 (nx hX) (by kernel_rfl) (allBelow_mem (by exact (And.intro rfl (And.intro rfl (And.intro rfl (And.intro rfl (And.intro rfl trivial))))))) (by exact (And.intro (frz_below (eL_frz _)) trivial)) (by kernel_rfl)).trans (Imp.reverS 0 1 (eL v11) [0, 5, 8, 9, 10] (by kernel_rfl) (by exact (And.intro (eL_frz _) trivial)) (by kernel_rfl)))⟩
  refine pwp_exit ?_
  refine srvM [7] 4 29 [(22, rf 0 0 1 x3), (25, I ((w64 (((x3.length : Int)) - 1))))] [sl 0 x3] ?_
  obtain ⟨v13, hv14, h⟩ := bindS h
  refine opsP_idr τ_ok 26 0 0 x3.length hv14 rfl (by kernel_rfl) ?_
  refine opsP_lde (r := A v13) τ_ok 27 24 0 hv14 (by kernel_rfl) (by kernel_rfl) ?_
  obtain ⟨v15, hv16, h⟩ := bindS h
  refine cF 28 (ok_impl_rowsCopy hv16) ?_
  refine veM [7] 1 29 [(4, A v15)] [sl 0 x3] ?_
  cases h
  exact pwp_ret rz
def impl_makes_j2 (x4 : Int) (x5 : List T_impl_made) (K7 : Int → (List T_impl_made) → Option ((List T_impl_made) × Bool)) (v11 : T_impl_made × Bool) (x13 : Bool) : Option ((List T_impl_made) × Bool) := bif x13 then some (([] : List T_impl_made), false) else (app x5 (([v11.1] : List T_impl_made))).bind fun v15 => K7 ((w64 (x4 + 1))) v15
def impl_makes_l1 (a0 : List T_impl_Table) (a1 : List T_impl_Step) : Nat → Int → (List T_impl_made) → Option ((List T_impl_made) × Bool)
  | 0, _, _ => none
  | f6 + 1, x4, x5 => bif (decide (x4 < ((a1.length : Int)))) then (getI a1 x4).bind fun v9 => (impl_Step_make_L2 v9 a0 x5).bind fun v11 => bif (!v11.2) then impl_makes_j2 x4 x5 (impl_makes_l1 a0 a1 f6) v11 true else impl_makes_j2 x4 x5 (impl_makes_l1 a0 a1 f6) v11 ((decide (v11.1.fMost > 300))) else some (x5, true)
def impl_makes_j0 (a0 : List T_impl_Table) (a1 : List T_impl_Step) (x1 : Bool) : Option ((List T_impl_made) × Bool) := bif x1 then some (([] : List T_impl_made), false) else impl_makes_l1 a0 a1 FUEL 0 (([] : List T_impl_made))
def impl_makes (a0 : List T_impl_Table) (a1 : List T_impl_Step) : Option ((List T_impl_made) × Bool) := (impl_TablesOk a0).bind fun v18 => bif (!v18) then impl_makes_j0 a0 a1 true else (impl_between ((a1.length : Int)) 1 6).bind fun v20 => impl_makes_j0 a0 a1 ((!v20))
theorem ok_impl_makes {a0 : List T_impl_Table} {a1 : List T_impl_Step} {y : (List T_impl_made) × Bool} (h : impl_makes a0 a1 = some y) : OK Tryz.prog 123 [A a0, A a1] (.tup [O y.1, B y.2]) := by
  refine ow Tryz.func123 fun Γ hX => ?_
  unfold impl_makes at h
  refine srveM [8, 9] 46 [(0, A a0), (1, A a1)] [] ?_
  refine pwp_seq ?_
  refine pwp_seq ?_
  refine pwp_join (σ := Bool) (fun x1 => (⟨46, [(0, A a0), (1, A a1), (19, B x1)], []⟩ : St)) (fun x1 => impl_makes_j0 a0 a1 x1 = some y) ?_ ?_
  refine rvM [8, 9] 1 46 [(0, A a0), (1, A a1), (11, A a0)] [] ?_
  obtain ⟨v18, hv19, h⟩ := bindS h
  refine cF 12 (ok_impl_TablesOk hv19) ?_
  refine vM [8, 9] 2 46 [(0, A a0), (1, A a1), (14, B ((!v18)))] [] ?_
  rcases fk ((!v18)) with hc22 | hc22
  replace h := bT hc22 h
  rw [hc22]
  refine veM [8, 9] 5 46 [(0, A a0), (1, A a1), (19, B true)] [] ?_
  exact ⟨true, h, it [0, 1, 19]⟩
  replace h := bF hc22 h
  rw [hc22]
  refine vM [8, 9] 2 46 [(0, A a0), (1, A a1), (14, B false), (16, I ((a1.length : Int)))] [] ?_
  obtain ⟨v20, hv21, h⟩ := bindS h
  refine cF 17 (ok_impl_between hv21) ?_
  refine veM [8, 9] 2 46 [(0, A a0), (1, A a1), (19, B ((!v20)))] [] ?_
  exact ⟨(!v20), h, it [0, 1, 19]⟩
  rintro x1 h
  unfold impl_makes_j0 at h
  refine pc h (fun h => ?_) (fun h => ?_)
  refine srveM [8, 9] 46 [(4, .arr 2 0 (eL ([] : List T_impl_made)) true), (5, B false)] [] ?_
  refine ip 46 [(4, .arr 2 0 (eL ([] : List T_impl_made)) true), (5, B false)] [] ?_
  refine pwp_imp (Imp.thawS (st' := ⟨46, [(4, .ref 0 0 0 2 (([] : List T_impl_made)).length false), (5, B false)], [some ⟨0, eL (([] : List T_impl_made))⟩]⟩) 4 [4, 5] (by kernel_rfl)) ?_
  have h := si h
  subst h
  exact pwp_ret (rt (.tup [.ref 0 0 0 2 (([] : List T_impl_made)).length false, B false]) (OutP.tup (OutL.cons (OutP.list (v := 0) (by kernel_rfl)) (OutL.cons (OutP.frz (by kernel_rfl)) (OutL.nil _)))))
  refine pwp_skip ?_
  refine srveM [8, 9] 46 [(0, A a0), (1, A a1), (6, .arr 2 0 (eL ([] : List T_impl_made)) true)] [] ?_
  refine pwp_seq ?_
  refine srveM [8, 9] 46 [(0, A a0), (6, .arr 2 0 (eL ([] : List T_impl_made)) true), (20, A a1), (21, I ((a1.length : Int))), (22, I 0)] [] ?_
  refine pwp_block ?_
  refine pwp_loop (ι := Nat × Int × (List T_impl_made)) (fun (f6, x4, x5) => (⟨46, [(0, A a0), (6, rf 0 0 2 x5), (20, A a1), (21, I ((a1.length : Int))), (22, I x4)], [sl 0 x5]⟩ : St)) (fun (f6, x4, x5) => impl_makes_l1 a0 a1 f6 x4 x5 = some y) Prod.fst (FUEL, 0, ([] : List T_impl_made)) h (Imp.thawS 6 [0, 6, 20, 21, 22] (by kernel_rfl)) ?_
  rintro ⟨f6, x4, x5⟩ h
  dsimp only at h ⊢
  rcases f6 with _ | f6
  cases h
  rw [impl_makes_l1] at h
  refine srveM [8, 9] 46 [(0, A a0), (6, rf 0 0 2 x5), (20, A a1), (21, I ((a1.length : Int))), (22, I x4), (23, B ((decide (x4 < ((a1.length : Int))))))] [sl 0 x5] ?_
  refine pwp_seq ?_
  refine pc h (fun h => ?_) (fun h => ?_)
  refine pwp_skip ?_
  refine pwp_seq ?_
  refine pwp_block ?_
  refine pwp_seq ?_
  refine pwp_region ?_
  obtain ⟨v9, hv10, h⟩ := bindS h
  refine opsP_idx τ_ok 24 hv10 (by kernel_rfl) ?_
  refine veM [8, 9] 3 46 [(0, A a0), (6, rf 0 0 2 x5), (8, .ptr 1 0 0), (20, A a1), (21, I ((a1.length : Int))), (22, I x4)] [sl 0 x5, sc 0 v9] ?_
  refine srvM [8, 9] 3 46 [(0, A a0), (6, rf 0 0 2 x5), (20, A a1), (21, I ((a1.length : Int))), (22, I x4), (27, E v9), (28, A a0), (29, rf 0 0 2 x5)] [sl 0 x5, sc 0 v9] ?_
  obtain ⟨v11, hv12, h⟩ := bindS h
  refine opsP_E (dd := some 30) (x := .tup [E v11.1, B v11.2]) (callS_E τ 30 0 0 (ok_impl_Step_make_L2 hv12) (FzTo.tup (FzToL.cons (FzTo.frz rfl) (FzToL.cons (FzTo.frz rfl) FzToL.nil))) rfl rfl (by kernel_rfl)) ?_
  refine veM [8, 9] 6 46 [(0, A a0), (6, rf 0 0 2 x5), (9, .ptr 2 0 0), (10, B v11.2), (20, A a1), (21, I ((a1.length : Int))), (22, I x4)] [sl 0 x5, sc 0 v9, sc 0 v11.1] ?_
  refine pwp_seq ?_
  refine pwp_seq ?_
  refine pwp_join (σ := Bool) (fun x13 => (⟨46, [(0, A a0), (6, rf 0 0 2 x5), (9, .ptr 2 0 0), (20, A a1), (21, I ((a1.length : Int))), (22, I x4), (39, B x13)], [sl 0 x5, sc 0 v9, sc 0 v11.1]⟩ : St)) (fun x13 => impl_makes_j2 x4 x5 (impl_makes_l1 a0 a1 f6) v11 x13 = some y) ?_ ?_
  refine rvM [8, 9] 3 46 [(0, A a0), (6, rf 0 0 2 x5), (9, .ptr 2 0 0), (20, A a1), (21, I ((a1.length : Int))), (22, I x4), (35, B ((!v11.2)))] [sl 0 x5, sc 0 v9, sc 0 v11.1] ?_
  rcases fk ((!v11.2)) with hc17 | hc17
  replace h := bT hc17 h
  rw [hc17]
  refine veM [8, 9] 4 46 [(0, A a0), (6, rf 0 0 2 x5), (9, .ptr 2 0 0), (20, A a1), (21, I ((a1.length : Int))), (22, I x4), (36, .lit undef), (37, .lit undef), (38, .lit undef), (39, B true)] [sl 0 x5, sc 0 v9, sc 0 v11.1] ?_
  exact ⟨true, h, it [0, 6, 9, 20, 21, 22, 39]⟩
  replace h := bF hc17 h
  rw [hc17]
  refine veM [8, 9] 4 46 [(0, A a0), (6, rf 0 0 2 x5), (9, .ptr 2 0 0), (20, A a1), (21, I ((a1.length : Int))), (22, I x4), (36, .ptr 2 0 1), (37, I v11.1.fMost), (38, B ((decide (v11.1.fMost > 300)))), (39, B ((decide (v11.1.fMost > 300))))] [sl 0 x5, sc 0 v9, sc 0 v11.1] ?_
  exact ⟨(decide (v11.1.fMost > 300)), h, it [0, 6, 9, 20, 21, 22, 39]⟩
  rintro x13 h
  unfold impl_makes_j2 at h
  refine pc h (fun h => ?_) (fun h => ?_)
  refine srveM [8, 9] 46 [(4, .arr 2 0 (eL ([] : List T_impl_made)) true), (5, B false)] [sl 0 x5, sc 0 v9, sc 0 v11.1] ?_
  refine ip 46 [(4, .arr 2 0 (eL ([] : List T_impl_made)) true), (5, B false)] [sl 0 x5, sc 0 v9, sc 0 v11.1] ?_
  refine pwp_imp (Imp.thawS (st' := ⟨46, [(4, .ref 3 0 0 2 (([] : List T_impl_made)).length false), (5, B false)], [sl 0 x5, sc 0 v9, sc 0 v11.1, some ⟨0, eL (([] : List T_impl_made))⟩]⟩) 4 [4, 5] (by kernel_rfl)) ?_
  have h := si h
  subst h
  exact pwp_ret (rt (.tup [.ref 3 0 0 2 (([] : List T_impl_made)).length false, B false]) (OutP.tup (OutL.cons (OutP.list (v := 0) (by kernel_rfl)) (OutL.cons (OutP.frz (by kernel_rfl)) (OutL.nil _)))))
  refine pwp_skip ?_
  refine rvM [8, 9] 3 46 [(0, A a0), (20, A a1), (21, I ((a1.length : Int))), (22, I x4), (40, rf 0 0 2 x5), (42, .arr 2 (([v11.1] : List T_impl_made)).length (eL ([v11.1] : List T_impl_made)) true)] [sl 0 x5, sc 0 v9, sc 0 v11.1] ?_
  obtain ⟨v15, hv16, h⟩ := bindS h
  refine opsP_app τ_ok 43 0 0 (nx hX) hv16 (by kernel_rfl) ?_
  refine veM [8, 9] 1 46 [(0, A a0), (6, rf 0 1 2 v15), (20, A a1), (21, I ((a1.length : Int))), (22, I x4)] [sl 1 v15, sc 0 v9, sc 0 v11.1] ?_
  refine rveM [8, 9] 46 [(0, A a0), (6, rf 0 1 2 v15), (20, A a1), (21, I ((a1.length : Int))), (22, I ((w64 (x4 + 1))))] [sl 1 v15, sc 0 v9, sc 0 v11.1] ?_
  exact ⟨(f6, (w64 (x4 + 1)), v15), h, Nat.lt_succ_self _, (it (st' := ⟨46, [(0, A a0), (6, rf 0 1 2 v15), (20, A a1), (21, I ((a1.length : Int))), (22, I ((w64 (x4 + 1))))], [sl 1 v15, sc 0 v9, sc 0 v11.1]⟩) [0, 6, 20, 21, 22]).trans ((Imp.truncS (st' := ⟨46, [(0, A a0), (6, rf 0 1 2 v15), (20, A a1), (21, I ((a1.length : Int))), (22, I ((w64 (x4 + 1))))], [sl 1 v15]⟩) 1 (nx hX) (by kernel_rfl) (allBelow_mem (by exact (And.intro rfl (And.intro rfl (And.intro rfl (And.intro rfl (And.intro rfl trivial))))))) (by exact (And.intro (frz_below (eL_frz _)) trivial)) (by kernel_rfl)).trans (Imp.reverS 0 1 (eL v15) [0, 6, 20, 21, 22] (by kernel_rfl) (by exact (And.intro (eL_frz _) trivial)) (by kernel_rfl)))⟩
  refine pwp_exit ?_
  refine srveM [8, 9] 46 [(4, rf 0 0 2 x5), (5, B true)] [sl 0 x5] ?_
  have h := si h
  subst h
  exact pwp_ret (rt (.tup [rf 0 0 2 x5, B true]) (OutP.tup (OutL.cons (OutP.list (v := 0) (by kernel_rfl)) (OutL.cons (OutP.frz (by kernel_rfl)) (OutL.nil _)))))
def impl_PlanOk (a0 : List T_impl_Table) (a1 : List T_impl_Step) : Option Bool := (impl_makes a0 a1).bind fun v1 => some v1.2
theorem ok_impl_PlanOk {a0 : List T_impl_Table} {a1 : List T_impl_Step} {y : Bool} (h : impl_PlanOk a0 a1 = some y) : OK Tryz.prog 70 [A a0, A a1] (B y) := by
  refine ow Tryz.func70 fun Γ hX => ?_
  unfold impl_PlanOk at h
  refine srve 14 [(0, A a0), (1, A a1)] [] ?_
  refine srv 2 14 [(8, A a0), (9, A a1)] [] ?_
  obtain ⟨v1, hv2, h⟩ := bindS h
  refine opsP_callF τ 10 (ok_impl_makes hv2) (FzTo.tup (FzToL.cons (FzTo.O _) (FzToL.cons (FzTo.frz rfl) FzToL.nil))) rfl (by kernel_rfl) ?_
  refine ve 5 14 [(6, B v1.2)] [] ?_
  refine srve 14 [(4, B v1.2)] [] ?_
  cases h
  exact pwp_ret rz
def impl_PlanRows (a0 : List T_impl_Table) (a1 : List T_impl_Step) : Option (List (List T_impl_Value)) := (impl_PlanOk a0 a1).bind fun v1 => bif (!v1) then some (([] : List (List T_impl_Value))) else (impl_planRows a0 a1).bind fun v4 => some v4
theorem ok_impl_PlanRows {a0 : List T_impl_Table} {a1 : List T_impl_Step} {y : List (List T_impl_Value)} (h : impl_PlanRows a0 a1 = some y) : OK Tryz.prog 18 [A a0, A a1] (A y) := by
  refine ow Tryz.func18 fun Γ hX => ?_
  unfold impl_PlanRows at h
  refine srve 12 [(0, A a0), (1, A a1)] [] ?_
  refine pwp_seq ?_
  refine srv 2 12 [(0, A a0), (1, A a1), (5, A a0), (6, A a1)] [] ?_
  obtain ⟨v1, hv2, h⟩ := bindS h
  refine cF 7 (ok_impl_PlanOk hv2) ?_
  refine ve 1 12 [(0, A a0), (1, A a1), (8, B ((!v1)))] [] ?_
  refine pc h (fun h => ?_) (fun h => ?_)
  refine srve 12 [(4, .arr 1 0 (eL ([] : List (List T_impl_Value))) true)] [] ?_
  refine ip 12 [(4, .arr 1 0 (eL ([] : List (List T_impl_Value))) true)] [] ?_
  refine pwp_imp (Imp.unfS (st' := ⟨12, [(4, A (([] : List (List T_impl_Value))))], []⟩) 4 [4] (by kernel_rfl)) ?_
  cases h
  exact pwp_ret rz
  refine pwp_skip ?_
  refine srv 2 12 [(9, A a0), (10, A a1)] [] ?_
  obtain ⟨v4, hv5, h⟩ := bindS h
  refine cF 11 (ok_impl_planRows hv5) ?_
  refine ve 1 12 [(4, A v4)] [] ?_
  cases h
  exact pwp_ret rz
def laws_FnLoopJoin_j1 (v2 : (List T_impl_Column) × (List T_impl_Column) × (List (List T_impl_Value)) × (List (List T_impl_Value)) × Int × Int) (v4 : List (List T_impl_Value)) (x16 : Bool) : Option Bool := bif x16 then (laws_alive).bind fun v18 => some v18 else (impl_PlanRows ([(T_impl_Table.mk v2.1 v2.2.2.1), (T_impl_Table.mk v2.2.1 v2.2.2.2.1)]) ([(T_impl_Step.mk 1 0 0 0 [] []), (T_impl_Step.mk 1 0 0 1 [] []), (T_impl_Step.mk 4 0 1 0 ([(T_impl_Part.mk 2 v2.2.2.2.2.1 (T_impl_Value.mk 0 0 (ByteArray.mk #[]))), (T_impl_Part.mk 2 ((w64 (((v2.1.length : Int)) + v2.2.2.2.2.2))) (T_impl_Value.mk 0 0 (ByteArray.mk #[]))), (T_impl_Part.mk 4 1 (T_impl_Value.mk 0 0 (ByteArray.mk #[])))]) [])])).bind fun v20 => (laws_sameRows v4 v20).bind fun v22 => bif v22 then (laws_alive).bind fun v24 => some v24 else some false
def laws_FnLoopJoin_j0 (v2 : (List T_impl_Column) × (List T_impl_Column) × (List (List T_impl_Value)) × (List (List T_impl_Value)) × Int × Int) (v4 : List (List T_impl_Value)) (x11 : Bool) : Option Bool := bif x11 then bif (((v4.length : Int)) == 0) then (laws_alive).bind fun v13 => some v13 else some false else bif (decide (((v2.2.2.1.length : Int)) > 6)) then laws_FnLoopJoin_j1 v2 v4 true else laws_FnLoopJoin_j1 v2 v4 ((decide (((v2.2.2.2.1.length : Int)) > 6)))
def laws_FnLoopJoin (a0 : List UInt8) : Option Bool := bif (decide (((a0.length : Int)) > 1048576)) then some true else (spec_DrawLoopJoin a0).bind fun v2 => (impl_LoopJoin v2.1 v2.2.1 v2.2.2.1 v2.2.2.2.1 v2.2.2.2.2.1 v2.2.2.2.2.2).bind fun v4 => (spec_LoopJoin v2.1 v2.2.1 v2.2.2.1 v2.2.2.2.1 v2.2.2.2.2.1 v2.2.2.2.2.2).bind fun v6 => (laws_sameRows v4 v6).bind fun v8 => bif (!v8) then some false else (impl_RowsOk v2.1 v2.2.2.1).bind fun v28 => bif (!v28) then laws_FnLoopJoin_j0 v2 v4 true else (impl_RowsOk v2.2.1 v2.2.2.2.1).bind fun v30 => bif (!v30) then laws_FnLoopJoin_j0 v2 v4 true else bif (decide (v2.2.2.2.2.1 < 0)) then laws_FnLoopJoin_j0 v2 v4 true else bif (decide (v2.2.2.2.2.1 ≥ ((v2.1.length : Int)))) then laws_FnLoopJoin_j0 v2 v4 true else bif (decide (v2.2.2.2.2.2 < 0)) then laws_FnLoopJoin_j0 v2 v4 true else laws_FnLoopJoin_j0 v2 v4 ((decide (v2.2.2.2.2.2 ≥ ((v2.2.1.length : Int)))))
theorem ok_laws_FnLoopJoin {a0 : List UInt8} {y : Bool} (h : laws_FnLoopJoin a0 = some y) : OK Tryz.prog 3 [A a0] (B y) := by
  refine ow Tryz.func3 fun Γ hX => ?_
  unfold laws_FnLoopJoin at h
  refine srve 116 [(0, A a0)] [] ?_
  refine pwp_seq ?_
  refine srve 116 [(0, A a0), (15, B ((decide (((a0.length : Int)) > 1048576))))] [] ?_
  refine pc h (fun h => ?_) (fun h => ?_)
  refine srve 116 [(2, B true)] [] ?_
  cases h
  exact pwp_ret rz
  refine pwp_skip ?_
  refine srv 1 116 [(17, A a0)] [] ?_
  obtain ⟨v2, hv3, h⟩ := bindS h
  refine opsP_callF τ 18 (ok_spec_DrawLoopJoin hv3) (FzTo.tup (FzToL.cons (FzTo.frz rfl) (FzToL.cons (FzTo.frz rfl) (FzToL.cons (FzTo.frz rfl) (FzToL.cons (FzTo.frz rfl) (FzToL.cons (FzTo.frz rfl) (FzToL.cons (FzTo.frz rfl) FzToL.nil))))))) rfl (by kernel_rfl) ?_
  refine ve 13 116 [(3, A v2.1), (4, A v2.2.1), (5, A v2.2.2.1), (6, A v2.2.2.2.1), (7, I v2.2.2.2.2.1), (8, I v2.2.2.2.2.2)] [] ?_
  refine srv 6 116 [(3, A v2.1), (4, A v2.2.1), (5, A v2.2.2.1), (6, A v2.2.2.2.1), (7, I v2.2.2.2.2.1), (8, I v2.2.2.2.2.2), (25, A v2.1), (26, A v2.2.1), (27, A v2.2.2.1), (28, A v2.2.2.2.1), (29, I v2.2.2.2.2.1), (30, I v2.2.2.2.2.2)] [] ?_
  obtain ⟨v4, hv5, h⟩ := bindS h
  refine cF 31 (ok_impl_LoopJoin hv5) ?_
  refine ve 1 116 [(3, A v2.1), (4, A v2.2.1), (5, A v2.2.2.1), (6, A v2.2.2.2.1), (7, I v2.2.2.2.2.1), (8, I v2.2.2.2.2.2), (9, A v4)] [] ?_
  refine pwp_seq ?_
  refine srv 7 116 [(3, A v2.1), (4, A v2.2.1), (5, A v2.2.2.1), (6, A v2.2.2.2.1), (7, I v2.2.2.2.2.1), (8, I v2.2.2.2.2.2), (9, A v4), (32, A v4), (33, A v2.1), (34, A v2.2.1), (35, A v2.2.2.1), (36, A v2.2.2.2.1), (37, I v2.2.2.2.2.1), (38, I v2.2.2.2.2.2)] [] ?_
  obtain ⟨v6, hv7, h⟩ := bindS h
  refine cFo 39 (ok_spec_LoopJoin hv7) ?_
  obtain ⟨v8, hv9, h⟩ := bindS h
  refine cF 40 (ok_laws_sameRows hv9) ?_
  refine ve 1 116 [(3, A v2.1), (4, A v2.2.1), (5, A v2.2.2.1), (6, A v2.2.2.2.1), (7, I v2.2.2.2.2.1), (8, I v2.2.2.2.2.2), (9, A v4), (41, B ((!v8)))] [] ?_
  refine pc h (fun h => ?_) (fun h => ?_)
  refine srve 116 [(2, B false)] [] ?_
  cases h
  exact pwp_ret rz
  refine pwp_skip ?_
  refine pwp_seq ?_
  refine pwp_seq ?_
  refine pwp_join (σ := Bool) (fun x11 => (⟨116, [(3, A v2.1), (4, A v2.2.1), (5, A v2.2.2.1), (6, A v2.2.2.2.1), (7, I v2.2.2.2.2.1), (8, I v2.2.2.2.2.2), (9, A v4), (71, B x11)], []⟩ : St)) (fun x11 => laws_FnLoopJoin_j0 v2 v4 x11 = some y) ?_ ?_
  refine rv 2 116 [(3, A v2.1), (4, A v2.2.1), (5, A v2.2.2.1), (6, A v2.2.2.2.1), (7, I v2.2.2.2.2.1), (8, I v2.2.2.2.2.2), (9, A v4), (42, A v2.1), (43, A v2.2.2.1)] [] ?_
  obtain ⟨v28, hv29, h⟩ := bindS h
  refine cF 44 (ok_impl_RowsOk hv29) ?_
  refine v 2 116 [(3, A v2.1), (4, A v2.2.1), (5, A v2.2.2.1), (6, A v2.2.2.2.1), (7, I v2.2.2.2.2.1), (8, I v2.2.2.2.2.2), (9, A v4), (46, B ((!v28)))] [] ?_
  rcases fk ((!v28)) with hc36 | hc36
  replace h := bT hc36 h
  rw [hc36]
  refine ve 25 116 [(3, A v2.1), (4, A v2.2.1), (5, A v2.2.2.1), (6, A v2.2.2.2.1), (7, I v2.2.2.2.2.1), (8, I v2.2.2.2.2.2), (9, A v4), (71, B true)] [] ?_
  exact ⟨true, h, it [3, 4, 5, 6, 7, 8, 9, 71]⟩
  replace h := bF hc36 h
  rw [hc36]
  refine v 2 116 [(3, A v2.1), (4, A v2.2.1), (5, A v2.2.2.1), (6, A v2.2.2.2.1), (7, I v2.2.2.2.2.1), (8, I v2.2.2.2.2.2), (9, A v4), (46, B false), (47, A v2.2.1), (48, A v2.2.2.2.1)] [] ?_
  obtain ⟨v30, hv31, h⟩ := bindS h
  refine cF 49 (ok_impl_RowsOk hv31) ?_
  refine v 3 116 [(3, A v2.1), (4, A v2.2.1), (5, A v2.2.2.1), (6, A v2.2.2.2.1), (7, I v2.2.2.2.2.1), (8, I v2.2.2.2.2.2), (9, A v4), (52, B ((!v30)))] [] ?_
  rcases fk ((!v30)) with hc35 | hc35
  replace h := bT hc35 h
  rw [hc35]
  refine ve 19 116 [(3, A v2.1), (4, A v2.2.1), (5, A v2.2.2.1), (6, A v2.2.2.2.1), (7, I v2.2.2.2.2.1), (8, I v2.2.2.2.2.2), (9, A v4), (71, B true)] [] ?_
  exact ⟨true, h, it [3, 4, 5, 6, 7, 8, 9, 71]⟩
  replace h := bF hc35 h
  rw [hc35]
  refine v 4 116 [(3, A v2.1), (4, A v2.2.1), (5, A v2.2.2.1), (6, A v2.2.2.2.1), (7, I v2.2.2.2.2.1), (8, I v2.2.2.2.2.2), (9, A v4), (56, B ((decide (v2.2.2.2.2.1 < 0))))] [] ?_
  rcases fk ((decide (v2.2.2.2.2.1 < 0))) with hc34 | hc34
  replace h := bT hc34 h
  rw [hc34]
  refine ve 15 116 [(3, A v2.1), (4, A v2.2.1), (5, A v2.2.2.1), (6, A v2.2.2.2.1), (7, I v2.2.2.2.2.1), (8, I v2.2.2.2.2.2), (9, A v4), (71, B true)] [] ?_
  exact ⟨true, h, it [3, 4, 5, 6, 7, 8, 9, 71]⟩
  replace h := bF hc34 h
  rw [hc34]
  refine v 6 116 [(3, A v2.1), (4, A v2.2.1), (5, A v2.2.2.1), (6, A v2.2.2.2.1), (7, I v2.2.2.2.2.1), (8, I v2.2.2.2.2.2), (9, A v4), (62, B ((decide (v2.2.2.2.2.1 ≥ ((v2.1.length : Int))))))] [] ?_
  rcases fk ((decide (v2.2.2.2.2.1 ≥ ((v2.1.length : Int))))) with hc33 | hc33
  replace h := bT hc33 h
  rw [hc33]
  refine ve 9 116 [(3, A v2.1), (4, A v2.2.1), (5, A v2.2.2.1), (6, A v2.2.2.2.1), (7, I v2.2.2.2.2.1), (8, I v2.2.2.2.2.2), (9, A v4), (71, B true)] [] ?_
  exact ⟨true, h, it [3, 4, 5, 6, 7, 8, 9, 71]⟩
  replace h := bF hc33 h
  rw [hc33]
  refine v 4 116 [(3, A v2.1), (4, A v2.2.1), (5, A v2.2.2.1), (6, A v2.2.2.2.1), (7, I v2.2.2.2.2.1), (8, I v2.2.2.2.2.2), (9, A v4), (66, B ((decide (v2.2.2.2.2.2 < 0))))] [] ?_
  rcases fk ((decide (v2.2.2.2.2.2 < 0))) with hc32 | hc32
  replace h := bT hc32 h
  rw [hc32]
  refine ve 5 116 [(3, A v2.1), (4, A v2.2.1), (5, A v2.2.2.1), (6, A v2.2.2.2.1), (7, I v2.2.2.2.2.1), (8, I v2.2.2.2.2.2), (9, A v4), (71, B true)] [] ?_
  exact ⟨true, h, it [3, 4, 5, 6, 7, 8, 9, 71]⟩
  replace h := bF hc32 h
  rw [hc32]
  refine ve 5 116 [(3, A v2.1), (4, A v2.2.1), (5, A v2.2.2.1), (6, A v2.2.2.2.1), (7, I v2.2.2.2.2.1), (8, I v2.2.2.2.2.2), (9, A v4), (71, B ((decide (v2.2.2.2.2.2 ≥ ((v2.2.1.length : Int))))))] [] ?_
  exact ⟨(decide (v2.2.2.2.2.2 ≥ ((v2.2.1.length : Int)))), h, it [3, 4, 5, 6, 7, 8, 9, 71]⟩
  rintro x11 h
  unfold laws_FnLoopJoin_j0 at h
  refine pc h (fun h => ?_) (fun h => ?_)
  refine srv 4 116 [(75, B ((((v4.length : Int)) == 0)))] [] ?_
  rcases fk ((((v4.length : Int)) == 0)) with hc15 | hc15
  replace h := bT hc15 h
  rw [hc15]
  obtain ⟨v13, hv14, h⟩ := bindS h
  refine cF 76 (ok_laws_alive hv14) ?_
  refine ve 2 116 [(2, B v13)] [] ?_
  cases h
  exact pwp_ret rz
  replace h := bF hc15 h
  rw [hc15]
  refine ve 3 116 [(2, B false)] [] ?_
  cases h
  exact pwp_ret rz
  refine pwp_skip ?_
  refine pwp_seq ?_
  refine pwp_seq ?_
  refine pwp_join (σ := Bool) (fun x16 => (⟨116, [(3, A v2.1), (4, A v2.2.1), (5, A v2.2.2.1), (6, A v2.2.2.2.1), (7, I v2.2.2.2.2.1), (8, I v2.2.2.2.2.2), (9, A v4), (85, B x16)], []⟩ : St)) (fun x16 => laws_FnLoopJoin_j1 v2 v4 x16 = some y) ?_ ?_
  refine rv 4 116 [(3, A v2.1), (4, A v2.2.1), (5, A v2.2.2.1), (6, A v2.2.2.2.1), (7, I v2.2.2.2.2.1), (8, I v2.2.2.2.2.2), (9, A v4), (81, B ((decide (((v2.2.2.1.length : Int)) > 6))))] [] ?_
  rcases fk ((decide (((v2.2.2.1.length : Int)) > 6))) with hc27 | hc27
  replace h := bT hc27 h
  rw [hc27]
  refine ve 4 116 [(3, A v2.1), (4, A v2.2.1), (5, A v2.2.2.1), (6, A v2.2.2.2.1), (7, I v2.2.2.2.2.1), (8, I v2.2.2.2.2.2), (9, A v4), (85, B true)] [] ?_
  exact ⟨true, h, it [3, 4, 5, 6, 7, 8, 9, 85]⟩
  replace h := bF hc27 h
  rw [hc27]
  refine ve 4 116 [(3, A v2.1), (4, A v2.2.1), (5, A v2.2.2.1), (6, A v2.2.2.2.1), (7, I v2.2.2.2.2.1), (8, I v2.2.2.2.2.2), (9, A v4), (85, B ((decide (((v2.2.2.2.1.length : Int)) > 6))))] [] ?_
  exact ⟨(decide (((v2.2.2.2.1.length : Int)) > 6)), h, it [3, 4, 5, 6, 7, 8, 9, 85]⟩
  rintro x16 h
  unfold laws_FnLoopJoin_j1 at h
  refine pc h (fun h => ?_) (fun h => ?_)
  refine pwp_seq ?_
  refine pwp_region ?_
  obtain ⟨v18, hv19, h⟩ := bindS h
  refine cF 86 (ok_laws_alive hv19) ?_
  refine ve 1 116 [(2, B v18)] [] ?_
  cases h
  exact pwp_ret rz
  refine pwp_skip ?_
  refine srve 116 [(3, A v2.1), (7, I v2.2.2.2.2.1), (8, I v2.2.2.2.2.2), (9, A v4), (10, .arr 2 (([(T_impl_Table.mk v2.1 v2.2.2.1), (T_impl_Table.mk v2.2.1 v2.2.2.2.1)] : List T_impl_Table)).length (eL ([(T_impl_Table.mk v2.1 v2.2.2.1), (T_impl_Table.mk v2.2.1 v2.2.2.2.1)] : List T_impl_Table)) true)] [] ?_
  refine srve 116 [(9, A v4), (10, .arr 2 (([(T_impl_Table.mk v2.1 v2.2.2.1), (T_impl_Table.mk v2.2.1 v2.2.2.2.1)] : List T_impl_Table)).length (eL ([(T_impl_Table.mk v2.1 v2.2.2.1), (T_impl_Table.mk v2.2.1 v2.2.2.2.1)] : List T_impl_Table)) true), (11, .arr 5 (([(T_impl_Part.mk 2 v2.2.2.2.2.1 (T_impl_Value.mk 0 0 (ByteArray.mk #[]))), (T_impl_Part.mk 2 ((w64 (((v2.1.length : Int)) + v2.2.2.2.2.2))) (T_impl_Value.mk 0 0 (ByteArray.mk #[]))), (T_impl_Part.mk 4 1 (T_impl_Value.mk 0 0 (ByteArray.mk #[])))] : List T_impl_Part)).length (eL ([(T_impl_Part.mk 2 v2.2.2.2.2.1 (T_impl_Value.mk 0 0 (ByteArray.mk #[]))), (T_impl_Part.mk 2 ((w64 (((v2.1.length : Int)) + v2.2.2.2.2.2))) (T_impl_Value.mk 0 0 (ByteArray.mk #[]))), (T_impl_Part.mk 4 1 (T_impl_Value.mk 0 0 (ByteArray.mk #[])))] : List T_impl_Part)) true)] [] ?_
  refine srve 116 [(9, A v4), (10, .arr 2 (([(T_impl_Table.mk v2.1 v2.2.2.1), (T_impl_Table.mk v2.2.1 v2.2.2.2.1)] : List T_impl_Table)).length (eL ([(T_impl_Table.mk v2.1 v2.2.2.1), (T_impl_Table.mk v2.2.1 v2.2.2.2.1)] : List T_impl_Table)) true), (12, .arr 6 (([(T_impl_Step.mk 1 0 0 0 [] []), (T_impl_Step.mk 1 0 0 1 [] []), (T_impl_Step.mk 4 0 1 0 ([(T_impl_Part.mk 2 v2.2.2.2.2.1 (T_impl_Value.mk 0 0 (ByteArray.mk #[]))), (T_impl_Part.mk 2 ((w64 (((v2.1.length : Int)) + v2.2.2.2.2.2))) (T_impl_Value.mk 0 0 (ByteArray.mk #[]))), (T_impl_Part.mk 4 1 (T_impl_Value.mk 0 0 (ByteArray.mk #[])))]) [])] : List T_impl_Step)).length (eL ([(T_impl_Step.mk 1 0 0 0 [] []), (T_impl_Step.mk 1 0 0 1 [] []), (T_impl_Step.mk 4 0 1 0 ([(T_impl_Part.mk 2 v2.2.2.2.2.1 (T_impl_Value.mk 0 0 (ByteArray.mk #[]))), (T_impl_Part.mk 2 ((w64 (((v2.1.length : Int)) + v2.2.2.2.2.2))) (T_impl_Value.mk 0 0 (ByteArray.mk #[]))), (T_impl_Part.mk 4 1 (T_impl_Value.mk 0 0 (ByteArray.mk #[])))]) [])] : List T_impl_Step)) true)] [] ?_
  refine srv 3 116 [(108, A v4), (109, .arr 2 (([(T_impl_Table.mk v2.1 v2.2.2.1), (T_impl_Table.mk v2.2.1 v2.2.2.2.1)] : List T_impl_Table)).length (eL ([(T_impl_Table.mk v2.1 v2.2.2.1), (T_impl_Table.mk v2.2.1 v2.2.2.2.1)] : List T_impl_Table)) true), (110, .arr 6 (([(T_impl_Step.mk 1 0 0 0 [] []), (T_impl_Step.mk 1 0 0 1 [] []), (T_impl_Step.mk 4 0 1 0 ([(T_impl_Part.mk 2 v2.2.2.2.2.1 (T_impl_Value.mk 0 0 (ByteArray.mk #[]))), (T_impl_Part.mk 2 ((w64 (((v2.1.length : Int)) + v2.2.2.2.2.2))) (T_impl_Value.mk 0 0 (ByteArray.mk #[]))), (T_impl_Part.mk 4 1 (T_impl_Value.mk 0 0 (ByteArray.mk #[])))]) [])] : List T_impl_Step)).length (eL ([(T_impl_Step.mk 1 0 0 0 [] []), (T_impl_Step.mk 1 0 0 1 [] []), (T_impl_Step.mk 4 0 1 0 ([(T_impl_Part.mk 2 v2.2.2.2.2.1 (T_impl_Value.mk 0 0 (ByteArray.mk #[]))), (T_impl_Part.mk 2 ((w64 (((v2.1.length : Int)) + v2.2.2.2.2.2))) (T_impl_Value.mk 0 0 (ByteArray.mk #[]))), (T_impl_Part.mk 4 1 (T_impl_Value.mk 0 0 (ByteArray.mk #[])))]) [])] : List T_impl_Step)) true)] [] ?_
  obtain ⟨v20, hv21, h⟩ := bindS h
  refine cF 111 (ok_impl_PlanRows hv21) ?_
  obtain ⟨v22, hv23, h⟩ := bindS h
  refine cF 112 (ok_laws_sameRows hv23) ?_
  refine v 1 116 [(113, B v22)] [] ?_
  rcases Bool.eq_false_or_eq_true v22 with hc26 | hc26
  replace h := bT hc26 h
  rw [hc26]
  obtain ⟨v24, hv25, h⟩ := bindS h
  refine cF 114 (ok_laws_alive hv25) ?_
  refine ve 2 116 [(2, B v24)] [] ?_
  cases h
  exact pwp_ret rz
  replace h := bF hc26 h
  rw [hc26]
  refine ve 3 116 [(2, B false)] [] ?_
  cases h
  exact pwp_ret rz
end Go.D
