import Derived.Test.YtpngnbmfhnjjmaaGreatLefDXFA
import Derived.KernelRfl
set_option linter.unusedVariables false
set_option linter.unusedSimpArgs false
namespace Go.D
open Go.Proofs
theorem ok_impl_kept {a0 : List (List T_impl_Value)} {g1 : FuncId} {c1 : List V} (hz1 : frzL c1 = true) {a1 : (List T_impl_Value) → Option Bool} (hp1 : ∀ x0 y, a1 x0 = some y → OK Tryz.prog g1 ([A x0] ++ c1) (B y)) {y : List (List T_impl_Value)} (h : impl_kept a0 a1 = some y) : OK Tryz.prog 74 [A a0, .fn g1 c1] (A y) := by
  refine ow Tryz.func74 fun Γ hX => ?_
  unfold impl_kept at h
  refine srve 24 [(0, A a0), (1, .fn g1 c1)] [] ?_
  refine srve 24 [(0, A a0), (1, .fn g1 c1), (5, .arr 1 0 (eL ([] : List (List T_impl_Value))) true)] [] ?_
  refine pwp_seq ?_
  refine srve 24 [(1, .fn g1 c1), (5, .arr 1 0 (eL ([] : List (List T_impl_Value))) true), (8, A a0), (9, I ((a0.length : Int))), (10, I 0)] [] ?_
  refine pwp_block ?_
  refine pwp_loop (ι := Nat × Int × (List (List T_impl_Value))) (fun (f4, x2, x3) => (⟨24, [(1, .fn g1 c1), (5, rf 0 0 1 x3), (8, A a0), (9, I ((a0.length : Int))), (10, I x2)], [sl 0 x3]⟩ : St)) (fun (f4, x2, x3) => impl_kept_l0 a0 a1 f4 x2 x3 = some y) Prod.fst (FUEL, 0, ([] : List (List T_impl_Value))) h (Imp.thawS 5 [1, 5, 8, 9, 10] (by kernel_rfl)) ?_
  rintro ⟨f4, x2, x3⟩ h
  dsimp only at h ⊢
  rcases f4 with _ | f4
  cases h
  rw [impl_kept_l0] at h
  refine srve 24 [(1, .fn g1 c1), (5, rf 0 0 1 x3), (8, A a0), (9, I ((a0.length : Int))), (10, I x2), (11, B ((decide (x2 < ((a0.length : Int))))))] [sl 0 x3] ?_
  refine pwp_seq ?_
  refine pc h (fun h => ?_) (fun h => ?_)
  refine pwp_skip ?_
  refine pwp_seq ?_
  refine pwp_block ?_
  refine pwp_seq ?_
  refine pwp_region ?_
  obtain ⟨v7, hv8, h⟩ := bindS h
  refine opsP_idx τ_ok 12 hv8 (by kernel_rfl) ?_
  refine ve 2 24 [(1, .fn g1 c1), (5, rf 0 0 1 x3), (7, A v7), (8, A a0), (9, I ((a0.length : Int))), (10, I x2)] [sl 0 x3] ?_
  refine srv 2 24 [(1, .fn g1 c1), (5, rf 0 0 1 x3), (7, A v7), (8, A a0), (9, I ((a0.length : Int))), (10, I x2), (14, .fn g1 c1), (15, A v7)] [sl 0 x3] ?_
  obtain ⟨v9, hv10, h⟩ := bindS h
  refine opsP_callF τ 16 (hp1 _ _ hv10) (FzTo.frz rfl) (frz_app (xs := [A v7]) rfl hz1) (by kernel_rfl) ?_
  refine ve 0 24 [(1, .fn g1 c1), (5, rf 0 0 1 x3), (7, A v7), (8, A a0), (9, I ((a0.length : Int))), (10, I x2), (16, B v9)] [sl 0 x3] ?_
  refine pc h (fun h => ?_) (fun h => ?_)
  refine rv 3 24 [(1, .fn g1 c1), (8, A a0), (9, I ((a0.length : Int))), (10, I x2), (17, rf 0 0 1 x3), (19, .arr 1 (([v7] : List (List T_impl_Value))).length (eL ([v7] : List (List T_impl_Value))) true)] [sl 0 x3] ?_
  obtain ⟨v12, hv13, h⟩ := bindS h
  refine opsP_app τ_ok 20 0 0 (nx hX) hv13 (by kernel_rfl) ?_
  refine ve 1 24 [(1, .fn g1 c1), (5, rf 0 1 1 v12), (8, A a0), (9, I ((a0.length : Int))), (10, I x2)] [sl 1 v12] ?_
  refine rve 24 [(1, .fn g1 c1), (5, rf 0 1 1 v12), (8, A a0), (9, I ((a0.length : Int))), (10, I ((w64 (x2 + 1))))] [sl 1 v12] ?_
  exact ⟨(f4, (w64 (x2 + 1)), v12), h, Nat.lt_succ_self _, (it (st' := ⟨24, [(1, .fn g1 c1), (5, rf 0 1 1 v12), (8, A a0), (9, I ((a0.length : Int))), (10, I ((w64 (x2 + 1))))], [sl 1 v12]⟩) [1, 5, 8, 9, 10]).trans ((Imp.reverF (cs := eL v12) (st' := ⟨24, [(1, .fn g1 c1), (5, rf 0 0 1 v12), (8, A a0), (9, I ((a0.length : Int))), (10, I ((w64 (x2 + 1))))], [sl 0 v12]⟩) 0 1 (by kernel_rfl) (qu_of_frzL (eL_frz _)) (HpRel.key HpRel.nil) (RvS.f (show frz (.fn g1 c1) = true from hz1) (RvS.c rfl (RvS.c rfl (RvS.c rfl (RvS.c rfl RvS.nil))))) (by rfl) (nx hX)).trans (it [1, 5, 8, 9, 10]))⟩
  refine pwp_skip ?_
  refine rve 24 [(1, .fn g1 c1), (5, rf 0 0 1 x3), (8, A a0), (9, I ((a0.length : Int))), (10, I ((w64 (x2 + 1))))] [sl 0 x3] ?_
  exact ⟨(f4, (w64 (x2 + 1)), x3), h, Nat.lt_succ_self _, it [1, 5, 8, 9, 10]⟩
  refine pwp_exit ?_
  refine srv 1 24 [(22, rf 0 0 1 x3)] [sl 0 x3] ?_
  refine opsP_imp ((Imp.freezeB (v := 0) (cs := eL x3) (st' := ⟨24, [(22, A x3)], [none]⟩) 0 0 (nx hX) (by kernel_rfl) (eL_frz _) (wholeC (whole_is (eL_len x3).symm) wholeC0) (HpRel.key HpRel.nil) (by kernel_rfl) rfl (nx hX))) ?_
  obtain ⟨v14, hv15, h⟩ := bindS h
  refine cF 23 (ok_impl_rowsCopy hv15) ?_
  refine ve 1 24 [(4, A v14)] [none] ?_
  cases h
  exact pwp_ret rz
def impl_Part_kind (a0 : T_impl_Part) (a1 : List T_impl_Column) (a2 : List Int) : Option (Int × Bool) := bif (a0.fKind == 1) then some (a0.fV.fKind, true) else bif (a0.fKind == 2) then (getI a1 a0.fN).bind fun v3 => some (v3.fKind, true) else bif (a0.fKind == 3) then (impl_Part_kind_1 1 a2).bind fun v6 => some (1, v6) else bif (a0.fKind == 4) then (getI a2 0).bind fun v9 => (getI a2 1).bind fun v11 => some (3, (v9 == v11)) else bif (a0.fKind == 8) then some (3, true) else (impl_Part_kind_1 3 a2).bind fun v14 => some (3, v14)
theorem ok_impl_Part_kind {a0 : T_impl_Part} {a1 : List T_impl_Column} {a2 : List Int} {y : Int × Bool} (h : impl_Part_kind a0 a1 a2 = some y) : OK Tryz.prog 81 [E a0, A a1, A a2] (.tup [I y.1, B y.2]) := by
  refine ow Tryz.func81 fun Γ hX => ?_
  unfold impl_Part_kind at h
  refine srve 42 [(1, A a1), (3, pf a0 0), (5, pf a2 0)] [] ?_
  refine srve 42 [(1, A a1), (3, pf a0 0), (5, pf a2 0), (8, .fn 139 [pf a2 0])] [] ?_
  refine pwp_seq ?_
  refine srve 42 [(1, A a1), (3, pf a0 0), (5, pf a2 0), (8, .fn 139 [pf a2 0]), (11, I a0.fKind)] [] ?_
  refine pwp_block ?_
  refine srve 42 [(1, A a1), (3, pf a0 0), (5, pf a2 0), (8, .fn 139 [pf a2 0]), (11, I a0.fKind), (12, B ((a0.fKind == 1)))] [] ?_
  refine pc h (fun h => ?_) (fun h => ?_)
  refine srve 42 [(6, I a0.fV.fKind), (7, B true)] [] ?_
  have h := si h
  subst h
  exact pwp_ret (rt (.tup [I a0.fV.fKind, B true]) (OutP.tup (OutL.cons (OutP.frz (by kernel_rfl)) (OutL.cons (OutP.frz (by kernel_rfl)) (OutL.nil _)))))
  refine srve 42 [(1, A a1), (3, pf a0 0), (5, pf a2 0), (8, .fn 139 [pf a2 0]), (11, I a0.fKind), (17, B ((a0.fKind == 2)))] [] ?_
  refine pc h (fun h => ?_) (fun h => ?_)
  refine srv 3 42 [(19, A a1), (21, I a0.fN)] [] ?_
  obtain ⟨v3, hv4, h⟩ := bindS h
  refine opsP_idx τ_ok 22 hv4 (by kernel_rfl) ?_
  refine ve 4 42 [(6, I v3.fKind), (7, B true)] [] ?_
  have h := si h
  subst h
  exact pwp_ret (rt (.tup [I v3.fKind, B true]) (OutP.tup (OutL.cons (OutP.frz (by kernel_rfl)) (OutL.cons (OutP.frz (by kernel_rfl)) (OutL.nil _)))))
  refine srve 42 [(5, pf a2 0), (8, .fn 139 [pf a2 0]), (11, I a0.fKind), (25, B ((a0.fKind == 3)))] [] ?_
  refine pc h (fun h => ?_) (fun h => ?_)
  refine srv 1 42 [(27, .fn 139 [pf a2 0])] [] ?_
  obtain ⟨v6, hv7, h⟩ := bindS h
  refine cF 28 (ok_impl_Part_kind_1 hv7) ?_
  refine ve 2 42 [(6, I 1), (7, B v6)] [] ?_
  have h := si h
  subst h
  exact pwp_ret (rt (.tup [I 1, B v6]) (OutP.tup (OutL.cons (OutP.frz (by kernel_rfl)) (OutL.cons (OutP.frz (by kernel_rfl)) (OutL.nil _)))))
  refine srve 42 [(5, pf a2 0), (8, .fn 139 [pf a2 0]), (11, I a0.fKind), (29, B ((a0.fKind == 4)))] [] ?_
  refine pc h (fun h => ?_) (fun h => ?_)
  refine pwp_seq ?_
  refine ip 42 [(5, pf a2 0)] [] ?_
  refine pN 9 ?_
  refine qv [] trivial 1 42 [(31, A a2), (5, pf a2 0)] [] ?_
  obtain ⟨v9, hv10, h⟩ := bindS h
  refine qX (some 32) (pf v9 0) 42 [(32, pf v9 0), (5, pf a2 0)] [] (fun Γ' hΓ => CoreE.of_y (idxV_sound τ_ok (by kernel_rfl) hv10)) trivial ?_
  refine qv [] trivial 2 42 [(34, A a2), (33, I v9)] [] ?_
  obtain ⟨v11, hv12, h⟩ := bindS h
  refine qX (some 35) (pf v11 0) 42 [(35, pf v11 0), (33, I v9)] [] (fun Γ' hΓ => CoreE.of_y (idxV_sound τ_ok (by kernel_rfl) hv12)) trivial ?_
  refine qvn [] trivial 4 42 [(6, I 3), (7, B ((v9 == v11)))] [] ?_
  have h := si h
  subst h
  exact pwp_ret (rt (.tup [I 3, B ((v9 == v11))]) (OutP.tup (OutL.cons (OutP.frz (by kernel_rfl)) (OutL.cons (OutP.frz (by kernel_rfl)) (OutL.nil _)))))
  refine srve 42 [(8, .fn 139 [pf a2 0]), (38, B ((a0.fKind == 8)))] [] ?_
  refine pc h (fun h => ?_) (fun h => ?_)
  refine srve 42 [(6, I 3), (7, B true)] [] ?_
  have h := si h
  subst h
  exact pwp_ret (rt (.tup [I 3, B true]) (OutP.tup (OutL.cons (OutP.frz (by kernel_rfl)) (OutL.cons (OutP.frz (by kernel_rfl)) (OutL.nil _)))))
  refine pwp_skip ?_
  refine srv 1 42 [(40, .fn 139 [pf a2 0])] [] ?_
  obtain ⟨v14, hv15, h⟩ := bindS h
  refine cF 41 (ok_impl_Part_kind_1 hv15) ?_
  refine ve 2 42 [(6, I 3), (7, B v14)] [] ?_
  have h := si h
  subst h
  exact pwp_ret (rt (.tup [I 3, B v14]) (OutP.tup (OutL.cons (OutP.frz (by kernel_rfl)) (OutL.cons (OutP.frz (by kernel_rfl)) (OutL.nil _)))))
def impl_beside (a0 : List T_impl_Value) (a1 : List T_impl_Value) : Option (List T_impl_Value) := (slices_Concat_impl_Value_impl_Value ([a0, a1])).bind fun v1 => (impl_clone_impl_Value v1).bind fun v3 => some v3
theorem ok_impl_beside {a0 : List T_impl_Value} {a1 : List T_impl_Value} {y : List T_impl_Value} (h : impl_beside a0 a1 = some y) : OK Tryz.prog 86 [A a0, A a1] (A y) := by
  refine ow Tryz.func86 fun Γ hX => ?_
  unfold impl_beside at h
  refine srve 10 [(0, A a0), (1, A a1)] [] ?_
  refine srv 3 10 [(7, .arr 1 (([a0, a1] : List (List T_impl_Value))).length (eL ([a0, a1] : List (List T_impl_Value))) true)] [] ?_
  obtain ⟨v1, hv2, h⟩ := bindS h
  refine cFo 8 (ok_slices_Concat_impl_Value_impl_Value hv2) ?_
  obtain ⟨v3, hv4, h⟩ := bindS h
  refine cF 9 (ok_impl_clone_impl_Value hv4) ?_
  refine ve 1 10 [(4, A v3)] [] ?_
  cases h
  exact pwp_ret rz
def spec_ExprKind_j3 (x6 : List Int) (x15 : Bool) : Option Int := bif x15 then some (-1) else (getI x6 ((0 : Int))).bind fun v17 => some v17
def spec_ExprKind_j2 (a0 : List T_impl_Column) (a1 : List T_impl_Part) (x4 : Bool) (x5 : Int) (x6 : List Int) (K8 : Bool → Int → (List Int) → Option Int) (x9 : Bool) : Option Int := bif x9 then (getI a1 x5).bind fun v11 => (spec_l4Step a0 x6 v11).bind fun v13 => K8 v13.2 ((w64 (x5 + 1))) v13.1 else bif (!x4) then spec_ExprKind_j3 x6 true else spec_ExprKind_j3 x6 ((!(((x6.length : Int)) == 1)))
def spec_ExprKind_l1 (a0 : List T_impl_Column) (a1 : List T_impl_Part) : Nat → Bool → Int → (List Int) → Option Int
  | 0, _, _, _ => none
  | f7 + 1, x4, x5, x6 => bif (decide (x5 < ((a1.length : Int)))) then spec_ExprKind_j2 a0 a1 x4 x5 x6 (spec_ExprKind_l1 a0 a1 f7) x4 else spec_ExprKind_j2 a0 a1 x4 x5 x6 (spec_ExprKind_l1 a0 a1 f7) false
def spec_ExprKind_j0 (a0 : List T_impl_Column) (a1 : List T_impl_Part) (x1 : Bool) : Option Int := bif x1 then some (-1) else spec_ExprKind_l1 a0 a1 FUEL true 0 (([] : List Int))
def spec_ExprKind (a0 : List T_impl_Column) (a1 : List T_impl_Part) : Option Int := (spec_ColumnsOk a0).bind fun v21 => bif (!v21) then spec_ExprKind_j0 a0 a1 true else spec_ExprKind_j0 a0 a1 ((decide (((a1.length : Int)) > 12)))
theorem ok_spec_ExprKind {a0 : List T_impl_Column} {a1 : List T_impl_Part} {y : Int} (h : spec_ExprKind a0 a1 = some y) : OK Tryz.prog 97 [A a0, A a1] (I y) := by
  refine ow Tryz.func97 fun Γ hX => ?_
  unfold spec_ExprKind at h
  refine srve 46 [(0, A a0), (1, A a1)] [] ?_
  refine pwp_seq ?_
  refine pwp_seq ?_
  refine pwp_join (σ := Bool) (fun x1 => (⟨46, [(0, A a0), (1, A a1), (15, B x1)], []⟩ : St)) (fun x1 => spec_ExprKind_j0 a0 a1 x1 = some y) ?_ ?_
  refine rv 1 46 [(0, A a0), (1, A a1), (8, A a0)] [] ?_
  obtain ⟨v21, hv22, h⟩ := bindS h
  refine cF 9 (ok_spec_ColumnsOk hv22) ?_
  refine v 2 46 [(0, A a0), (1, A a1), (11, B ((!v21)))] [] ?_
  rcases fk ((!v21)) with hc23 | hc23
  replace h := bT hc23 h
  rw [hc23]
  refine ve 4 46 [(0, A a0), (1, A a1), (15, B true)] [] ?_
  exact ⟨true, h, it [0, 1, 15]⟩
  replace h := bF hc23 h
  rw [hc23]
  refine ve 4 46 [(0, A a0), (1, A a1), (15, B ((decide (((a1.length : Int)) > 12))))] [] ?_
  exact ⟨(decide (((a1.length : Int)) > 12)), h, it [0, 1, 15]⟩
  rintro x1 h
  unfold spec_ExprKind_j0 at h
  refine pc h (fun h => ?_) (fun h => ?_)
  refine srve 46 [(4, I (-1))] [] ?_
  cases h
  exact pwp_ret rz
  refine pwp_skip ?_
  refine srve 46 [(0, A a0), (1, A a1), (5, .arr 1 0 (eL ([] : List Int)) true)] [] ?_
  refine srve 46 [(0, A a0), (1, A a1), (5, .arr 1 0 (eL ([] : List Int)) true), (6, B true)] [] ?_
  refine pwp_seq ?_
  refine srve 46 [(0, A a0), (1, A a1), (5, .arr 1 0 (eL ([] : List Int)) true), (6, B true), (7, I 0)] [] ?_
  refine pwp_block ?_
  refine pwp_loop (ι := Nat × Bool × Int × (List Int)) (fun (f7, x4, x5, x6) => (⟨46, [(0, A a0), (1, A a1), (5, rf 0 0 1 x6), (6, B x4), (7, I x5)], [sl 0 x6]⟩ : St)) (fun (f7, x4, x5, x6) => spec_ExprKind_l1 a0 a1 f7 x4 x5 x6 = some y) Prod.fst (FUEL, true, 0, ([] : List Int)) h (Imp.thawS 5 [0, 1, 5, 6, 7] (by kernel_rfl)) ?_
  rintro ⟨f7, x4, x5, x6⟩ h
  dsimp only at h ⊢
  rcases f7 with _ | f7
  cases h
  rw [spec_ExprKind_l1] at h
  refine pwp_seq ?_
  refine pwp_seq ?_
  refine pwp_join (σ := Bool) (fun x9 => (⟨46, [(0, A a0), (1, A a1), (5, rf 0 0 1 x6), (6, B x4), (7, I x5), (23, B x9)], [sl 0 x6]⟩ : St)) (fun x9 => spec_ExprKind_j2 a0 a1 x4 x5 x6 (spec_ExprKind_l1 a0 a1 f7) x9 = some y) ?_ ?_
  refine rv 5 46 [(0, A a0), (1, A a1), (5, rf 0 0 1 x6), (6, B x4), (7, I x5), (21, B ((decide (x5 < ((a1.length : Int))))))] [sl 0 x6] ?_
  rcases fk ((decide (x5 < ((a1.length : Int))))) with hc20 | hc20
  replace h := bT hc20 h
  rw [hc20]
  refine ve 2 46 [(0, A a0), (1, A a1), (5, rf 0 0 1 x6), (6, B x4), (7, I x5), (22, B x4), (23, B x4)] [sl 0 x6] ?_
  exact ⟨x4, h, it [0, 1, 5, 6, 7, 23]⟩
  replace h := bF hc20 h
  rw [hc20]
  refine ve 2 46 [(0, A a0), (1, A a1), (5, rf 0 0 1 x6), (6, B x4), (7, I x5), (22, .lit undef), (23, B false)] [sl 0 x6] ?_
  exact ⟨false, h, it [0, 1, 5, 6, 7, 23]⟩
  rintro x9 h
  unfold spec_ExprKind_j2 at h
  refine pc h (fun h => ?_) (fun h => ?_)
  refine pwp_skip ?_
  refine pwp_seq ?_
  refine pwp_block ?_
  refine rv 4 46 [(0, A a0), (1, A a1), (7, I x5), (27, A a0), (28, rf 0 0 1 x6), (29, A a1), (30, I x5)] [sl 0 x6] ?_
  obtain ⟨v11, hv12, h⟩ := bindS h
  refine opsP_idx τ_ok 31 hv12 (by kernel_rfl) ?_
  refine v 1 46 [(0, A a0), (1, A a1), (7, I x5), (27, A a0), (28, rf 0 0 1 x6), (32, E v11)] [sl 0 x6] ?_
  obtain ⟨v13, hv14, h⟩ := bindS h
  refine opsP_callM (xs := [A a0, rf 0 0 1 x6, E v11]) (x := .tup [rf 1 0 1 v13.1, B v13.2]) (bs := [⟨0, eL v13.1⟩]) τ 33 [0] (nx hX) (ok_spec_l4Step hv14) (by kernel_rfl) (OutL.cons (OutP.frz rfl) (OutL.cons (OutP.list (v := 0) (by kernel_rfl)) (OutL.cons (OutP.frz rfl) (OutL.nil _)))) (by decide) (by kernel_rfl) ?_
  refine ve 5 46 [(0, A a0), (1, A a1), (5, rf 1 0 1 v13.1), (6, B v13.2), (7, I x5)] [none, sl 0 v13.1] ?_
  refine rve 46 [(0, A a0), (1, A a1), (5, rf 1 0 1 v13.1), (6, B v13.2), (7, I ((w64 (x5 + 1))))] [none, sl 0 v13.1] ?_
  exact ⟨(f7, v13.2, (w64 (x5 + 1)), v13.1), h, Nat.lt_succ_self _, (it (st' := ⟨46, [(0, A a0), (1, A a1), (5, rf 1 0 1 v13.1), (6, B v13.2), (7, I ((w64 (x5 + 1))))], [none, sl 0 v13.1]⟩) [0, 1, 5, 6, 7]).trans ((Imp.mvS (st' := ⟨46, [(0, A a0), (1, A a1), (5, rf 0 0 1 v13.1), (6, B v13.2), (7, I ((w64 (x5 + 1))))], [sl 0 v13.1, none]⟩) 1 0 [0, 1, 5, 6, 7] (nx hX) (v := 0) (cs := eL v13.1) (by kernel_rfl) (by kernel_rfl) (by exact (And.intro (eL_frz _) trivial)) (by kernel_rfl) (by kernel_rfl)).trans (Imp.truncS 1 (nx hX) (by kernel_rfl) (allBelow_mem (by exact (And.intro rfl (And.intro rfl (And.intro rfl (And.intro rfl (And.intro rfl trivial))))))) (by exact (And.intro (frz_below (eL_frz _)) trivial)) (by kernel_rfl)))⟩
  refine pwp_exit ?_
  refine pwp_seq ?_
  refine pwp_seq ?_
  refine pwp_join (σ := Bool) (fun x15 => (⟨46, [(5, rf 0 0 1 x6), (42, B x15)], [sl 0 x6]⟩ : St)) (fun x15 => spec_ExprKind_j3 x6 x15 = some y) ?_ ?_
  refine rv 3 46 [(5, rf 0 0 1 x6), (38, B ((!x4)))] [sl 0 x6] ?_
  rcases fk ((!x4)) with hc19 | hc19
  replace h := bT hc19 h
  rw [hc19]
  refine ve 4 46 [(5, rf 0 0 1 x6), (42, B true)] [sl 0 x6] ?_
  exact ⟨true, h, it [5, 42]⟩
  replace h := bF hc19 h
  rw [hc19]
  refine ve 4 46 [(5, rf 0 0 1 x6), (42, B ((!(((x6.length : Int)) == 1))))] [sl 0 x6] ?_
  exact ⟨(!(((x6.length : Int)) == 1)), h, it [5, 42]⟩
  rintro x15 h
  unfold spec_ExprKind_j3 at h
  refine pc h (fun h => ?_) (fun h => ?_)
  refine srve 46 [(4, I (-1))] [sl 0 x6] ?_
  cases h
  exact pwp_ret rz
  refine pwp_skip ?_
  refine srv 1 46 [(43, rf 0 0 1 x6)] [sl 0 x6] ?_
  obtain ⟨v17, hv18, h⟩ := bindS h
  refine opsP_idr τ_ok 44 0 0 x6.length hv18 rfl (by kernel_rfl) ?_
  refine opsP_lde (r := I v17) τ_ok 45 3 0 hv18 (by kernel_rfl) (by kernel_rfl) ?_
  refine ve 1 46 [(4, I v17)] [sl 0 x6] ?_
  cases h
  exact pwp_ret rz
def spec_RowsOk_l0 (a0 : List T_impl_Column) (a1 : List (List T_impl_Value)) : Nat → Int → Option Bool
  | 0, _ => none
  | f2 + 1, x1 => bif (decide (x1 < ((a1.length : Int)))) then (getI a1 x1).bind fun v5 => (spec_RowFits a0 v5).bind fun v7 => bif (!v7) then some false else (spec_RowsOk_l0 a0 a1 f2) ((w64 (x1 + 1))) else (spec_ColumnsOk a0).bind fun v10 => some v10
def spec_RowsOk (a0 : List T_impl_Column) (a1 : List (List T_impl_Value)) : Option Bool := spec_RowsOk_l0 a0 a1 FUEL 0
theorem ok_spec_RowsOk {a0 : List T_impl_Column} {a1 : List (List T_impl_Value)} {y : Bool} (h : spec_RowsOk a0 a1 = some y) : OK Tryz.prog 132 [A a0, A a1] (B y) := by
  refine ow Tryz.func132 fun Γ hX => ?_
  unfold spec_RowsOk at h
  refine srve 21 [(0, A a0), (1, A a1)] [] ?_
  refine pwp_seq ?_
  refine srve 21 [(0, A a0), (1, A a1), (5, I 0)] [] ?_
  refine pwp_block ?_
  refine pwp_loop (ι := Nat × Int) (fun (f2, x1) => (⟨21, [(0, A a0), (1, A a1), (5, I x1)], []⟩ : St)) (fun (f2, x1) => spec_RowsOk_l0 a0 a1 f2 x1 = some y) Prod.fst (FUEL, 0) h (it [0, 1, 5]) ?_
  rintro ⟨f2, x1⟩ h
  dsimp only at h ⊢
  rcases f2 with _ | f2
  cases h
  rw [spec_RowsOk_l0] at h
  refine pwp_seq ?_
  refine srve 21 [(0, A a0), (1, A a1), (5, I x1), (9, B ((decide (x1 < ((a1.length : Int))))))] [] ?_
  refine pc h (fun h => ?_) (fun h => ?_)
  refine pwp_skip ?_
  refine pwp_seq ?_
  refine pwp_block ?_
  refine srv 3 21 [(0, A a0), (1, A a1), (5, I x1), (12, A a0), (13, A a1), (14, I x1)] [] ?_
  obtain ⟨v5, hv6, h⟩ := bindS h
  refine opsP_idx τ_ok 15 hv6 (by kernel_rfl) ?_
  refine v 1 21 [(0, A a0), (1, A a1), (5, I x1), (12, A a0), (16, A v5)] [] ?_
  obtain ⟨v7, hv8, h⟩ := bindS h
  refine cF 17 (ok_spec_RowFits hv8) ?_
  refine ve 1 21 [(0, A a0), (1, A a1), (5, I x1), (18, B ((!v7)))] [] ?_
  refine pc h (fun h => ?_) (fun h => ?_)
  refine srve 21 [(4, B false)] [] ?_
  cases h
  exact pwp_ret rz
  refine pwp_skip ?_
  refine rve 21 [(0, A a0), (1, A a1), (5, I ((w64 (x1 + 1))))] [] ?_
  exact ⟨(f2, (w64 (x1 + 1))), h, Nat.lt_succ_self _, it [0, 1, 5]⟩
  refine pwp_exit ?_
  refine srv 1 21 [(19, A a0)] [] ?_
  obtain ⟨v10, hv11, h⟩ := bindS h
  refine cF 20 (ok_spec_ColumnsOk hv11) ?_
  refine ve 1 21 [(4, B v10)] [] ?_
  cases h
  exact pwp_ret rz
def spec_l4Do (a0 : List T_impl_Value) (a1 : List T_impl_Value) (a2 : T_impl_Part) : Option (List T_impl_Value) := bif (a2.fKind == 1) then (app a1 (([a2.fV] : List T_impl_Value))).bind fun v2 => some v2 else bif (a2.fKind == 2) then (getI a0 a2.fN).bind fun v5 => (app a1 (([v5] : List T_impl_Value))).bind fun v7 => some v7 else bif (a2.fKind == 3) then (slI a1 none (some ((w64 (((a1.length : Int)) - 2)))) none).bind fun v10 => (getI a1 ((w64 (((a1.length : Int)) - 2)))).bind fun v12 => (getI a1 ((w64 (((a1.length : Int)) - 1)))).bind fun v14 => (spec_l4Sum v12 v14).bind fun v16 => (appT a1 (([v16] : List T_impl_Value)) v10.length).bind fun v18 => some v18 else bif (a2.fKind == 4) then (slI a1 none (some ((w64 (((a1.length : Int)) - 2)))) none).bind fun v21 => (getI a1 ((w64 (((a1.length : Int)) - 2)))).bind fun v23 => (getI a1 ((w64 (((a1.length : Int)) - 1)))).bind fun v25 => (spec_Compare a2.fN v23 v25).bind fun v27 => (spec_ValueOf v27).bind fun v29 => (appT a1 (([v29] : List T_impl_Value)) v21.length).bind fun v31 => some v31 else bif (a2.fKind == 5) then (slI a1 none (some ((w64 (((a1.length : Int)) - 2)))) none).bind fun v34 => (getI a1 ((w64 (((a1.length : Int)) - 2)))).bind fun v36 => (spec_TruthOf v36).bind fun v38 => (getI a1 ((w64 (((a1.length : Int)) - 1)))).bind fun v40 => (spec_TruthOf v40).bind fun v42 => (spec_AndOf v38 v42).bind fun v44 => (spec_ValueOf v44).bind fun v46 => (appT a1 (([v46] : List T_impl_Value)) v34.length).bind fun v48 => some v48 else bif (a2.fKind == 6) then (slI a1 none (some ((w64 (((a1.length : Int)) - 2)))) none).bind fun v51 => (getI a1 ((w64 (((a1.length : Int)) - 2)))).bind fun v53 => (spec_TruthOf v53).bind fun v55 => (getI a1 ((w64 (((a1.length : Int)) - 1)))).bind fun v57 => (spec_TruthOf v57).bind fun v59 => (spec_OrOf v55 v59).bind fun v61 => (spec_ValueOf v61).bind fun v63 => (appT a1 (([v63] : List T_impl_Value)) v51.length).bind fun v65 => some v65 else bif (a2.fKind == 7) then (slI a1 none (some ((w64 (((a1.length : Int)) - 1)))) none).bind fun v68 => (getI a1 ((w64 (((a1.length : Int)) - 1)))).bind fun v70 => (spec_TruthOf v70).bind fun v72 => (spec_NotOf v72).bind fun v74 => (spec_ValueOf v74).bind fun v76 => (appT a1 (([v76] : List T_impl_Value)) v68.length).bind fun v78 => some v78 else (slI a1 none (some ((w64 (((a1.length : Int)) - 1)))) none).bind fun v80 => (getI a1 ((w64 (((a1.length : Int)) - 1)))).bind fun v82 => (spec_l2Bool ((v82.fKind == 0))).bind fun v84 => (spec_ValueOf v84).bind fun v86 => (appT a1 (([v86] : List T_impl_Value)) v80.length).bind fun v88 => some v88
theorem ok_spec_l4Do {a0 : List T_impl_Value} {a1 : List T_impl_Value} {a2 : T_impl_Part} {y : List T_impl_Value} (h : spec_l4Do a0 a1 a2 = some y) : OKm Tryz.prog 161 [A a0, O a1, E a2] (O y) := by
  refine OKm_of_pwp (sl := [A a0, rf 0 0 3 a1, E a2]) (bs := [⟨0, eL a1⟩]) τ_ok Tryz.func161 rfl (by kernel_rfl) rfl (by kernel_rfl) fun Γ hX => ?_
  refine pwp_imp (Imp.to (st' := ⟨145, [(0, A a0), (1, rf 0 0 3 a1), (2, E a2)], [sl 0 a1]⟩) [0, 1, 2] (by kernel_rfl)) ?_
  unfold spec_l4Do at h
  refine srve 145 [(0, A a0), (1, rf 0 0 3 a1), (5, pf a2 0)] [sl 0 a1] ?_
  refine srve 145 [(0, A a0), (1, rf 0 0 3 a1), (5, pf a2 0), (7, I ((a1.length : Int)))] [sl 0 a1] ?_
  refine pwp_seq ?_
  refine srve 145 [(0, A a0), (1, rf 0 0 3 a1), (5, pf a2 0), (7, I ((a1.length : Int))), (11, I a2.fKind)] [sl 0 a1] ?_
  refine pwp_block ?_
  refine srve 145 [(0, A a0), (1, rf 0 0 3 a1), (5, pf a2 0), (7, I ((a1.length : Int))), (11, I a2.fKind), (12, B ((a2.fKind == 1)))] [sl 0 a1] ?_
  refine pc h (fun h => ?_) (fun h => ?_)
  refine srv 4 145 [(14, rf 0 0 3 a1), (17, .arr 3 (([a2.fV] : List T_impl_Value)).length (eL ([a2.fV] : List T_impl_Value)) true)] [sl 0 a1] ?_
  obtain ⟨v2, hv3, h⟩ := bindS h
  refine opsP_app τ_ok 18 0 0 (nx hX) hv3 (by kernel_rfl) ?_
  refine ve 1 145 [(6, rf 0 1 3 v2)] [sl 1 v2] ?_
  have h := si h
  subst h
  exact pwp_ret (rt (rf 0 1 3 v2) (OutP.list (v := 1) (by kernel_rfl)))
  refine srve 145 [(0, A a0), (1, rf 0 0 3 a1), (5, pf a2 0), (7, I ((a1.length : Int))), (11, I a2.fKind), (19, B ((a2.fKind == 2)))] [sl 0 a1] ?_
  refine pc h (fun h => ?_) (fun h => ?_)
  refine srv 4 145 [(21, rf 0 0 3 a1), (22, A a0), (24, I a2.fN)] [sl 0 a1] ?_
  obtain ⟨v5, hv6, h⟩ := bindS h
  refine opsP_idx τ_ok 25 hv6 (by kernel_rfl) ?_
  refine v 2 145 [(21, rf 0 0 3 a1), (27, .arr 3 (([v5] : List T_impl_Value)).length (eL ([v5] : List T_impl_Value)) true)] [sl 0 a1] ?_
  obtain ⟨v7, hv8, h⟩ := bindS h
  refine opsP_app τ_ok 28 0 0 (nx hX) hv8 (by kernel_rfl) ?_
  refine ve 1 145 [(6, rf 0 1 3 v7)] [sl 1 v7] ?_
  have h := si h
  subst h
  exact pwp_ret (rt (rf 0 1 3 v7) (OutP.list (v := 1) (by kernel_rfl)))
  refine srve 145 [(1, rf 0 0 3 a1), (5, pf a2 0), (7, I ((a1.length : Int))), (11, I a2.fKind), (29, B ((a2.fKind == 3)))] [sl 0 a1] ?_
  refine pc h (fun h => ?_) (fun h => ?_)
  refine pwp_seq ?_
  refine ip 145 [(1, rf 0 0 3 a1), (7, I ((a1.length : Int)))] [sl 0 a1] ?_
  refine pwp_any ([[0], [], [], [0], [0], [], [], [0], [0], [0], [], [], [0], [0], [], [], [0], [0]]) ([[], [], [], [], [], [], [], [], [], [], [], [], [], [], [], [], [0], []]) rfl (by kernel_rfl) ?_
  refine qv [0] (hL trivial) 1 145 [(31, rf 0 0 3 a1), (1, rf 0 0 3 a1), (7, I ((a1.length : Int)))] [sl 0 a1] ?_
  refine qv [] trivial 2 145 [(33, I ((w64 (((a1.length : Int)) - 2)))), (31, rf 0 0 3 a1), (1, rf 0 0 3 a1), (7, I ((a1.length : Int)))] [sl 0 a1] ?_
  obtain ⟨v10, hv11, h⟩ := bindS h
  refine qX (some 34) (rf 0 0 3 v10) 145 [(34, rf 0 0 3 v10), (1, rf 0 0 3 a1), (7, I ((a1.length : Int)))] [sl 0 a1] (fun Γ' hΓ => CoreE.of_y (slrV_sound (n := a1.length) τ_ok (by kernel_rfl) rfl hv11)) (hL trivial) ?_
  refine qv [0] (hL trivial) 1 145 [(35, rf 0 0 3 a1), (34, rf 0 0 3 v10), (1, rf 0 0 3 a1), (7, I ((a1.length : Int)))] [sl 0 a1] ?_
  refine qv [] trivial 2 145 [(37, I ((w64 (((a1.length : Int)) - 2)))), (35, rf 0 0 3 a1), (34, rf 0 0 3 v10), (1, rf 0 0 3 a1), (7, I ((a1.length : Int)))] [sl 0 a1] ?_
  obtain ⟨v12, hv13, h⟩ := bindS h
  refine qX (some 38) (.ptr 0 0 (((w64 (((a1.length : Int)) - 2))).toNat * 3)) 145 [(38, .ptr 0 0 (((w64 (((a1.length : Int)) - 2))).toNat * 3)), (34, rf 0 0 3 v10), (1, rf 0 0 3 a1), (7, I ((a1.length : Int)))] [sl 0 a1] (fun Γ' hΓ => CoreE.of_y (idrV_sound (n := a1.length) τ_ok (by kernel_rfl) hv13 rfl)) (hL trivial) ?_
  refine qX (some 39) (E v12) 145 [(39, E v12), (34, rf 0 0 3 v10), (1, rf 0 0 3 a1), (7, I ((a1.length : Int)))] [sl 0 a1] (fun Γ' hΓ => CoreE.of_y (ldeV_sound (t := 35) (o' := 0) (r := E v12) τ_ok hv13 (by kernel_rfl) (by kernel_rfl))) (hL trivial) ?_
  refine qv [0] (hL trivial) 1 145 [(40, rf 0 0 3 a1), (39, E v12), (34, rf 0 0 3 v10), (7, I ((a1.length : Int)))] [sl 0 a1] ?_
  refine qv [] trivial 2 145 [(42, I ((w64 (((a1.length : Int)) - 1)))), (40, rf 0 0 3 a1), (39, E v12), (34, rf 0 0 3 v10)] [sl 0 a1] ?_
  obtain ⟨v14, hv15, h⟩ := bindS h
  refine qX (some 43) (.ptr 0 0 (((w64 (((a1.length : Int)) - 1))).toNat * 3)) 145 [(43, .ptr 0 0 (((w64 (((a1.length : Int)) - 1))).toNat * 3)), (39, E v12), (34, rf 0 0 3 v10)] [sl 0 a1] (fun Γ' hΓ => CoreE.of_y (idrV_sound (n := a1.length) τ_ok (by kernel_rfl) hv15 rfl)) (hL trivial) ?_
  refine qX (some 44) (E v14) 145 [(44, E v14), (39, E v12), (34, rf 0 0 3 v10)] [sl 0 a1] (fun Γ' hΓ => CoreE.of_y (ldeV_sound (t := 35) (o' := 0) (r := E v14) τ_ok hv15 (by kernel_rfl) (by kernel_rfl))) (hL trivial) ?_
  obtain ⟨v16, hv17, h⟩ := bindS h
  refine qX (some 45) (E v16) 145 [(45, E v16), (34, rf 0 0 3 v10)] [sl 0 a1] (fun Γ' hΓ => CoreE.of_g (callV_sound (τ := τ) (by kernel_rfl) rfl (ok_spec_l4Sum hv17) (FzTo.frz rfl))) trivial ?_
  refine qv [] trivial 1 145 [(46, .arr 3 (([v16] : List T_impl_Value)).length (eL ([v16] : List T_impl_Value)) true), (34, rf 0 0 3 v10)] [sl 0 a1] ?_
  obtain ⟨v18, hv19, h⟩ := bindS h
  refine qX (some 47) (rf 0 1 3 v18) 145 [(47, rf 0 1 3 v18)] [sl 1 v18] (fun Γ' hΓ => app_E τ_ok 47 0 0 v10.length (ny hΓ hX) hv19 (slI_le hv11) (by kernel_rfl)) (hL trivial) ?_
  refine qvn [0] (hL trivial) 1 145 [(6, rf 0 1 3 v18)] [sl 1 v18] ?_
  have h := si h
  subst h
  exact pwp_ret (rt (rf 0 1 3 v18) (OutP.list (v := 1) (by kernel_rfl)))
  refine srve 145 [(1, rf 0 0 3 a1), (5, pf a2 0), (7, I ((a1.length : Int))), (11, I a2.fKind), (48, B ((a2.fKind == 4)))] [sl 0 a1] ?_
  refine pc h (fun h => ?_) (fun h => ?_)
  refine pwp_seq ?_
  refine ip 145 [(1, rf 0 0 3 a1), (5, pf a2 0), (7, I ((a1.length : Int)))] [sl 0 a1] ?_
  refine pwp_any ([[0], [], [], [0], [], [], [0], [], [], [0], [0], [0], [], [], [0], [0], [], [], [], [0], [0]]) ([[], [], [], [], [], [], [], [], [], [], [], [], [], [], [], [], [], [], [], [0], []]) rfl (by kernel_rfl) ?_
  refine qv [0] (hL trivial) 1 145 [(50, rf 0 0 3 a1), (1, rf 0 0 3 a1), (5, pf a2 0), (7, I ((a1.length : Int)))] [sl 0 a1] ?_
  refine qv [] trivial 2 145 [(52, I ((w64 (((a1.length : Int)) - 2)))), (50, rf 0 0 3 a1), (1, rf 0 0 3 a1), (5, pf a2 0), (7, I ((a1.length : Int)))] [sl 0 a1] ?_
  obtain ⟨v21, hv22, h⟩ := bindS h
  refine qX (some 53) (rf 0 0 3 v21) 145 [(53, rf 0 0 3 v21), (1, rf 0 0 3 a1), (5, pf a2 0), (7, I ((a1.length : Int)))] [sl 0 a1] (fun Γ' hΓ => CoreE.of_y (slrV_sound (n := a1.length) τ_ok (by kernel_rfl) rfl hv22)) (hL trivial) ?_
  refine qv [] trivial 2 145 [(55, I a2.fN), (53, rf 0 0 3 v21), (1, rf 0 0 3 a1), (7, I ((a1.length : Int)))] [sl 0 a1] ?_
  refine qv [0] (hL trivial) 1 145 [(56, rf 0 0 3 a1), (55, I a2.fN), (53, rf 0 0 3 v21), (1, rf 0 0 3 a1), (7, I ((a1.length : Int)))] [sl 0 a1] ?_
  refine qv [] trivial 2 145 [(58, I ((w64 (((a1.length : Int)) - 2)))), (56, rf 0 0 3 a1), (55, I a2.fN), (53, rf 0 0 3 v21), (1, rf 0 0 3 a1), (7, I ((a1.length : Int)))] [sl 0 a1] ?_
  obtain ⟨v23, hv24, h⟩ := bindS h
  refine qX (some 59) (.ptr 0 0 (((w64 (((a1.length : Int)) - 2))).toNat * 3)) 145 [(59, .ptr 0 0 (((w64 (((a1.length : Int)) - 2))).toNat * 3)), (55, I a2.fN), (53, rf 0 0 3 v21), (1, rf 0 0 3 a1), (7, I ((a1.length : Int)))] [sl 0 a1] (fun Γ' hΓ => CoreE.of_y (idrV_sound (n := a1.length) τ_ok (by kernel_rfl) hv24 rfl)) (hL trivial) ?_
  refine qX (some 60) (E v23) 145 [(60, E v23), (55, I a2.fN), (53, rf 0 0 3 v21), (1, rf 0 0 3 a1), (7, I ((a1.length : Int)))] [sl 0 a1] (fun Γ' hΓ => CoreE.of_y (ldeV_sound (t := 35) (o' := 0) (r := E v23) τ_ok hv24 (by kernel_rfl) (by kernel_rfl))) (hL trivial) ?_
  refine qv [0] (hL trivial) 1 145 [(61, rf 0 0 3 a1), (60, E v23), (55, I a2.fN), (53, rf 0 0 3 v21), (7, I ((a1.length : Int)))] [sl 0 a1] ?_
  refine qv [] trivial 2 145 [(63, I ((w64 (((a1.length : Int)) - 1)))), (61, rf 0 0 3 a1), (60, E v23), (55, I a2.fN), (53, rf 0 0 3 v21)] [sl 0 a1] ?_
  obtain ⟨v25, hv26, h⟩ := bindS h
  refine qX (some 64) (.ptr 0 0 (((w64 (((a1.length : Int)) - 1))).toNat * 3)) 145 [(64, .ptr 0 0 (((w64 (((a1.length : Int)) - 1))).toNat * 3)), (60, E v23), (55, I a2.fN), (53, rf 0 0 3 v21)] [sl 0 a1] (fun Γ' hΓ => CoreE.of_y (idrV_sound (n := a1.length) τ_ok (by kernel_rfl) hv26 rfl)) (hL trivial) ?_
  refine qX (some 65) (E v25) 145 [(65, E v25), (60, E v23), (55, I a2.fN), (53, rf 0 0 3 v21)] [sl 0 a1] (fun Γ' hΓ => CoreE.of_y (ldeV_sound (t := 35) (o' := 0) (r := E v25) τ_ok hv26 (by kernel_rfl) (by kernel_rfl))) (hL trivial) ?_
  obtain ⟨v27, hv28, h⟩ := bindS h
  refine qX (some 66) (I v27) 145 [(66, I v27), (53, rf 0 0 3 v21)] [sl 0 a1] (fun Γ' hΓ => CoreE.of_g (callV_sound (τ := τ) (by kernel_rfl) rfl (ok_spec_Compare hv28) (FzTo.frz rfl))) trivial ?_
  obtain ⟨v29, hv30, h⟩ := bindS h
  refine qX (some 67) (E v29) 145 [(67, E v29), (53, rf 0 0 3 v21)] [sl 0 a1] (fun Γ' hΓ => CoreE.of_g (callV_sound (τ := τ) (by kernel_rfl) rfl (ok_spec_ValueOf hv30) (FzTo.frz rfl))) trivial ?_
  refine qv [] trivial 1 145 [(68, .arr 3 (([v29] : List T_impl_Value)).length (eL ([v29] : List T_impl_Value)) true), (53, rf 0 0 3 v21)] [sl 0 a1] ?_
  obtain ⟨v31, hv32, h⟩ := bindS h
  refine qX (some 69) (rf 0 1 3 v31) 145 [(69, rf 0 1 3 v31)] [sl 1 v31] (fun Γ' hΓ => app_E τ_ok 69 0 0 v21.length (ny hΓ hX) hv32 (slI_le hv22) (by kernel_rfl)) (hL trivial) ?_
  refine qvn [0] (hL trivial) 1 145 [(6, rf 0 1 3 v31)] [sl 1 v31] ?_
  have h := si h
  subst h
  exact pwp_ret (rt (rf 0 1 3 v31) (OutP.list (v := 1) (by kernel_rfl)))
  refine srve 145 [(1, rf 0 0 3 a1), (7, I ((a1.length : Int))), (11, I a2.fKind), (70, B ((a2.fKind == 5)))] [sl 0 a1] ?_
  refine pc h (fun h => ?_) (fun h => ?_)
  refine pwp_seq ?_
  refine ip 145 [(1, rf 0 0 3 a1), (7, I ((a1.length : Int)))] [sl 0 a1] ?_
  refine pwp_any ([[0], [], [], [0], [0], [], [], [0], [0], [], [0], [], [], [0], [0], [], [], [], [], [0], [0]]) ([[], [], [], [], [], [], [], [], [], [], [], [], [], [], [], [], [], [], [], [0], []]) rfl (by kernel_rfl) ?_
  refine qv [0] (hL trivial) 1 145 [(72, rf 0 0 3 a1), (1, rf 0 0 3 a1), (7, I ((a1.length : Int)))] [sl 0 a1] ?_
  refine qv [] trivial 2 145 [(74, I ((w64 (((a1.length : Int)) - 2)))), (72, rf 0 0 3 a1), (1, rf 0 0 3 a1), (7, I ((a1.length : Int)))] [sl 0 a1] ?_
  obtain ⟨v34, hv35, h⟩ := bindS h
  refine qX (some 75) (rf 0 0 3 v34) 145 [(75, rf 0 0 3 v34), (1, rf 0 0 3 a1), (7, I ((a1.length : Int)))] [sl 0 a1] (fun Γ' hΓ => CoreE.of_y (slrV_sound (n := a1.length) τ_ok (by kernel_rfl) rfl hv35)) (hL trivial) ?_
  refine qv [0] (hL trivial) 1 145 [(76, rf 0 0 3 a1), (75, rf 0 0 3 v34), (1, rf 0 0 3 a1), (7, I ((a1.length : Int)))] [sl 0 a1] ?_
  refine qv [] trivial 2 145 [(78, I ((w64 (((a1.length : Int)) - 2)))), (76, rf 0 0 3 a1), (75, rf 0 0 3 v34), (1, rf 0 0 3 a1), (7, I ((a1.length : Int)))] [sl 0 a1] ?_
  obtain ⟨v36, hv37, h⟩ := bindS h
  refine qX (some 79) (.ptr 0 0 (((w64 (((a1.length : Int)) - 2))).toNat * 3)) 145 [(79, .ptr 0 0 (((w64 (((a1.length : Int)) - 2))).toNat * 3)), (75, rf 0 0 3 v34), (1, rf 0 0 3 a1), (7, I ((a1.length : Int)))] [sl 0 a1] (fun Γ' hΓ => CoreE.of_y (idrV_sound (n := a1.length) τ_ok (by kernel_rfl) hv37 rfl)) (hL trivial) ?_
  refine qX (some 80) (E v36) 145 [(80, E v36), (75, rf 0 0 3 v34), (1, rf 0 0 3 a1), (7, I ((a1.length : Int)))] [sl 0 a1] (fun Γ' hΓ => CoreE.of_y (ldeV_sound (t := 35) (o' := 0) (r := E v36) τ_ok hv37 (by kernel_rfl) (by kernel_rfl))) (hL trivial) ?_
  obtain ⟨v38, hv39, h⟩ := bindS h
  refine qX (some 81) (I v38) 145 [(81, I v38), (75, rf 0 0 3 v34), (1, rf 0 0 3 a1), (7, I ((a1.length : Int)))] [sl 0 a1] (fun Γ' hΓ => CoreE.of_g (callV_sound (τ := τ) (by kernel_rfl) rfl (ok_spec_TruthOf hv39) (FzTo.frz rfl))) trivial ?_
  refine qv [0] (hL trivial) 1 145 [(82, rf 0 0 3 a1), (81, I v38), (75, rf 0 0 3 v34), (7, I ((a1.length : Int)))] [sl 0 a1] ?_
  refine qv [] trivial 2 145 [(84, I ((w64 (((a1.length : Int)) - 1)))), (82, rf 0 0 3 a1), (81, I v38), (75, rf 0 0 3 v34)] [sl 0 a1] ?_
  obtain ⟨v40, hv41, h⟩ := bindS h
  refine qX (some 85) (.ptr 0 0 (((w64 (((a1.length : Int)) - 1))).toNat * 3)) 145 [(85, .ptr 0 0 (((w64 (((a1.length : Int)) - 1))).toNat * 3)), (81, I v38), (75, rf 0 0 3 v34)] [sl 0 a1] (fun Γ' hΓ => CoreE.of_y (idrV_sound (n := a1.length) τ_ok (by kernel_rfl) hv41 rfl)) (hL trivial) ?_
  refine qX (some 86) (E v40) 145 [(86, E v40), (81, I v38), (75, rf 0 0 3 v34)] [sl 0 a1] (fun Γ' hΓ => CoreE.of_y (ldeV_sound (t := 35) (o' := 0) (r := E v40) τ_ok hv41 (by kernel_rfl) (by kernel_rfl))) (hL trivial) ?_
  obtain ⟨v42, hv43, h⟩ := bindS h
  refine qX (some 87) (I v42) 145 [(87, I v42), (81, I v38), (75, rf 0 0 3 v34)] [sl 0 a1] (fun Γ' hΓ => CoreE.of_g (callV_sound (τ := τ) (by kernel_rfl) rfl (ok_spec_TruthOf hv43) (FzTo.frz rfl))) trivial ?_
  obtain ⟨v44, hv45, h⟩ := bindS h
  refine qX (some 88) (I v44) 145 [(88, I v44), (75, rf 0 0 3 v34)] [sl 0 a1] (fun Γ' hΓ => CoreE.of_g (callV_sound (τ := τ) (by kernel_rfl) rfl (ok_spec_AndOf hv45) (FzTo.frz rfl))) trivial ?_
  obtain ⟨v46, hv47, h⟩ := bindS h
  refine qX (some 89) (E v46) 145 [(89, E v46), (75, rf 0 0 3 v34)] [sl 0 a1] (fun Γ' hΓ => CoreE.of_g (callV_sound (τ := τ) (by kernel_rfl) rfl (ok_spec_ValueOf hv47) (FzTo.frz rfl))) trivial ?_
  refine qv [] trivial 1 145 [(90, .arr 3 (([v46] : List T_impl_Value)).length (eL ([v46] : List T_impl_Value)) true), (75, rf 0 0 3 v34)] [sl 0 a1] ?_
  obtain ⟨v48, hv49, h⟩ := bindS h
  refine qX (some 91) (rf 0 1 3 v48) 145 [(91, rf 0 1 3 v48)] [sl 1 v48] (fun Γ' hΓ => app_E τ_ok 91 0 0 v34.length (ny hΓ hX) hv49 (slI_le hv35) (by kernel_rfl)) (hL trivial) ?_
  refine qvn [0] (hL trivial) 1 145 [(6, rf 0 1 3 v48)] [sl 1 v48] ?_
  have h := si h
  subst h
  exact pwp_ret (rt (rf 0 1 3 v48) (OutP.list (v := 1) (by kernel_rfl)))
  refine srve 145 [(1, rf 0 0 3 a1), (7, I ((a1.length : Int))), (11, I a2.fKind), (92, B ((a2.fKind == 6)))] [sl 0 a1] ?_
  refine pc h (fun h => ?_) (fun h => ?_)
  refine pwp_seq ?_
  refine ip 145 [(1, rf 0 0 3 a1), (7, I ((a1.length : Int)))] [sl 0 a1] ?_
  refine pwp_any ([[0], [], [], [0], [0], [], [], [0], [0], [], [0], [], [], [0], [0], [], [], [], [], [0], [0]]) ([[], [], [], [], [], [], [], [], [], [], [], [], [], [], [], [], [], [], [], [0], []]) rfl (by kernel_rfl) ?_
  refine qv [0] (hL trivial) 1 145 [(94, rf 0 0 3 a1), (1, rf 0 0 3 a1), (7, I ((a1.length : Int)))] [sl 0 a1] ?_
  refine qv [] trivial 2 145 [(96, I ((w64 (((a1.length : Int)) - 2)))), (94, rf 0 0 3 a1), (1, rf 0 0 3 a1), (7, I ((a1.length : Int)))] [sl 0 a1] ?_
  obtain ⟨v51, hv52, h⟩ := bindS h
  refine qX (some 97) (rf 0 0 3 v51) 145 [(97, rf 0 0 3 v51), (1, rf 0 0 3 a1), (7, I ((a1.length : Int)))] [sl 0 a1] (fun Γ' hΓ => CoreE.of_y (slrV_sound (n := a1.length) τ_ok (by kernel_rfl) rfl hv52)) (hL trivial) ?_
  refine qv [0] (hL trivial) 1 145 [(98, rf 0 0 3 a1), (97, rf 0 0 3 v51), (1, rf 0 0 3 a1), (7, I ((a1.length : Int)))] [sl 0 a1] ?_
  refine qv [] trivial 2 145 [(100, I ((w64 (((a1.length : Int)) - 2)))), (98, rf 0 0 3 a1), (97, rf 0 0 3 v51), (1, rf 0 0 3 a1), (7, I ((a1.length : Int)))] [sl 0 a1] ?_
  obtain ⟨v53, hv54, h⟩ := bindS h
  refine qX (some 101) (.ptr 0 0 (((w64 (((a1.length : Int)) - 2))).toNat * 3)) 145 [(101, .ptr 0 0 (((w64 (((a1.length : Int)) - 2))).toNat * 3)), (97, rf 0 0 3 v51), (1, rf 0 0 3 a1), (7, I ((a1.length : Int)))] [sl 0 a1] (fun Γ' hΓ => CoreE.of_y (idrV_sound (n := a1.length) τ_ok (by kernel_rfl) hv54 rfl)) (hL trivial) ?_
  refine qX (some 102) (E v53) 145 [(102, E v53), (97, rf 0 0 3 v51), (1, rf 0 0 3 a1), (7, I ((a1.length : Int)))] [sl 0 a1] (fun Γ' hΓ => CoreE.of_y (ldeV_sound (t := 35) (o' := 0) (r := E v53) τ_ok hv54 (by kernel_rfl) (by kernel_rfl))) (hL trivial) ?_
  obtain ⟨v55, hv56, h⟩ := bindS h
  refine qX (some 103) (I v55) 145 [(103, I v55), (97, rf 0 0 3 v51), (1, rf 0 0 3 a1), (7, I ((a1.length : Int)))] [sl 0 a1] (fun Γ' hΓ => CoreE.of_g (callV_sound (τ := τ) (by kernel_rfl) rfl (ok_spec_TruthOf hv56) (FzTo.frz rfl))) trivial ?_
  refine qv [0] (hL trivial) 1 145 [(104, rf 0 0 3 a1), (103, I v55), (97, rf 0 0 3 v51), (7, I ((a1.length : Int)))] [sl 0 a1] ?_
  refine qv [] trivial 2 145 [(106, I ((w64 (((a1.length : Int)) - 1)))), (104, rf 0 0 3 a1), (103, I v55), (97, rf 0 0 3 v51)] [sl 0 a1] ?_
  obtain ⟨v57, hv58, h⟩ := bindS h
  refine qX (some 107) (.ptr 0 0 (((w64 (((a1.length : Int)) - 1))).toNat * 3)) 145 [(107, .ptr 0 0 (((w64 (((a1.length : Int)) - 1))).toNat * 3)), (103, I v55), (97, rf 0 0 3 v51)] [sl 0 a1] (fun Γ' hΓ => CoreE.of_y (idrV_sound (n := a1.length) τ_ok (by kernel_rfl) hv58 rfl)) (hL trivial) ?_
  refine qX (some 108) (E v57) 145 [(108, E v57), (103, I v55), (97, rf 0 0 3 v51)] [sl 0 a1] (fun Γ' hΓ => CoreE.of_y (ldeV_sound (t := 35) (o' := 0) (r := E v57) τ_ok hv58 (by kernel_rfl) (by kernel_rfl))) (hL trivial) ?_
  obtain ⟨v59, hv60, h⟩ := bindS h
  refine qX (some 109) (I v59) 145 [(109, I v59), (103, I v55), (97, rf 0 0 3 v51)] [sl 0 a1] (fun Γ' hΓ => CoreE.of_g (callV_sound (τ := τ) (by kernel_rfl) rfl (ok_spec_TruthOf hv60) (FzTo.frz rfl))) trivial ?_
  obtain ⟨v61, hv62, h⟩ := bindS h
  refine qX (some 110) (I v61) 145 [(110, I v61), (97, rf 0 0 3 v51)] [sl 0 a1] (fun Γ' hΓ => CoreE.of_g (callV_sound (τ := τ) (by kernel_rfl) rfl (ok_spec_OrOf hv62) (FzTo.frz rfl))) trivial ?_
  obtain ⟨v63, hv64, h⟩ := bindS h
  refine qX (some 111) (E v63) 145 [(111, E v63), (97, rf 0 0 3 v51)] [sl 0 a1] (fun Γ' hΓ => CoreE.of_g (callV_sound (τ := τ) (by kernel_rfl) rfl (ok_spec_ValueOf hv64) (FzTo.frz rfl))) trivial ?_
  refine qv [] trivial 1 145 [(112, .arr 3 (([v63] : List T_impl_Value)).length (eL ([v63] : List T_impl_Value)) true), (97, rf 0 0 3 v51)] [sl 0 a1] ?_
  obtain ⟨v65, hv66, h⟩ := bindS h
  refine qX (some 113) (rf 0 1 3 v65) 145 [(113, rf 0 1 3 v65)] [sl 1 v65] (fun Γ' hΓ => app_E τ_ok 113 0 0 v51.length (ny hΓ hX) hv66 (slI_le hv52) (by kernel_rfl)) (hL trivial) ?_
  refine qvn [0] (hL trivial) 1 145 [(6, rf 0 1 3 v65)] [sl 1 v65] ?_
  have h := si h
  subst h
  exact pwp_ret (rt (rf 0 1 3 v65) (OutP.list (v := 1) (by kernel_rfl)))
  refine srve 145 [(1, rf 0 0 3 a1), (7, I ((a1.length : Int))), (114, B ((a2.fKind == 7)))] [sl 0 a1] ?_
  refine pc h (fun h => ?_) (fun h => ?_)
  refine pwp_seq ?_
  refine ip 145 [(1, rf 0 0 3 a1), (7, I ((a1.length : Int)))] [sl 0 a1] ?_
  refine pwp_any ([[0], [], [], [0], [0], [], [], [0], [0], [], [], [], [], [0], [0]]) ([[], [], [], [], [], [], [], [], [], [], [], [], [], [0], []]) rfl (by kernel_rfl) ?_
  refine qv [0] (hL trivial) 1 145 [(116, rf 0 0 3 a1), (1, rf 0 0 3 a1), (7, I ((a1.length : Int)))] [sl 0 a1] ?_
  refine qv [] trivial 2 145 [(118, I ((w64 (((a1.length : Int)) - 1)))), (116, rf 0 0 3 a1), (1, rf 0 0 3 a1), (7, I ((a1.length : Int)))] [sl 0 a1] ?_
  obtain ⟨v68, hv69, h⟩ := bindS h
  refine qX (some 119) (rf 0 0 3 v68) 145 [(119, rf 0 0 3 v68), (1, rf 0 0 3 a1), (7, I ((a1.length : Int)))] [sl 0 a1] (fun Γ' hΓ => CoreE.of_y (slrV_sound (n := a1.length) τ_ok (by kernel_rfl) rfl hv69)) (hL trivial) ?_
  refine qv [0] (hL trivial) 1 145 [(120, rf 0 0 3 a1), (119, rf 0 0 3 v68), (7, I ((a1.length : Int)))] [sl 0 a1] ?_
  refine qv [] trivial 2 145 [(122, I ((w64 (((a1.length : Int)) - 1)))), (120, rf 0 0 3 a1), (119, rf 0 0 3 v68)] [sl 0 a1] ?_
  obtain ⟨v70, hv71, h⟩ := bindS h
  refine qX (some 123) (.ptr 0 0 (((w64 (((a1.length : Int)) - 1))).toNat * 3)) 145 [(123, .ptr 0 0 (((w64 (((a1.length : Int)) - 1))).toNat * 3)), (119, rf 0 0 3 v68)] [sl 0 a1] (fun Γ' hΓ => CoreE.of_y (idrV_sound (n := a1.length) τ_ok (by kernel_rfl) hv71 rfl)) (hL trivial) ?_
  refine qX (some 124) (E v70) 145 [(124, E v70), (119, rf 0 0 3 v68)] [sl 0 a1] (fun Γ' hΓ => CoreE.of_y (ldeV_sound (t := 35) (o' := 0) (r := E v70) τ_ok hv71 (by kernel_rfl) (by kernel_rfl))) (hL trivial) ?_
  obtain ⟨v72, hv73, h⟩ := bindS h
  refine qX (some 125) (I v72) 145 [(125, I v72), (119, rf 0 0 3 v68)] [sl 0 a1] (fun Γ' hΓ => CoreE.of_g (callV_sound (τ := τ) (by kernel_rfl) rfl (ok_spec_TruthOf hv73) (FzTo.frz rfl))) trivial ?_
  obtain ⟨v74, hv75, h⟩ := bindS h
  refine qX (some 126) (I v74) 145 [(126, I v74), (119, rf 0 0 3 v68)] [sl 0 a1] (fun Γ' hΓ => CoreE.of_g (callV_sound (τ := τ) (by kernel_rfl) rfl (ok_spec_NotOf hv75) (FzTo.frz rfl))) trivial ?_
  obtain ⟨v76, hv77, h⟩ := bindS h
  refine qX (some 127) (E v76) 145 [(127, E v76), (119, rf 0 0 3 v68)] [sl 0 a1] (fun Γ' hΓ => CoreE.of_g (callV_sound (τ := τ) (by kernel_rfl) rfl (ok_spec_ValueOf hv77) (FzTo.frz rfl))) trivial ?_
  refine qv [] trivial 1 145 [(128, .arr 3 (([v76] : List T_impl_Value)).length (eL ([v76] : List T_impl_Value)) true), (119, rf 0 0 3 v68)] [sl 0 a1] ?_
  obtain ⟨v78, hv79, h⟩ := bindS h
  refine qX (some 129) (rf 0 1 3 v78) 145 [(129, rf 0 1 3 v78)] [sl 1 v78] (fun Γ' hΓ => app_E τ_ok 129 0 0 v68.length (ny hΓ hX) hv79 (slI_le hv69) (by kernel_rfl)) (hL trivial) ?_
  refine qvn [0] (hL trivial) 1 145 [(6, rf 0 1 3 v78)] [sl 1 v78] ?_
  have h := si h
  subst h
  exact pwp_ret (rt (rf 0 1 3 v78) (OutP.list (v := 1) (by kernel_rfl)))
  refine pwp_skip ?_
  refine pwp_seq ?_
  refine ip 145 [(1, rf 0 0 3 a1), (7, I ((a1.length : Int)))] [sl 0 a1] ?_
  refine pwp_any ([[0], [], [], [0], [0], [], [], [0], [0], [0], [], [], [], [], [0], [0]]) ([[], [], [], [], [], [], [], [], [], [], [], [], [], [], [0], []]) rfl (by kernel_rfl) ?_
  refine qv [0] (hL trivial) 1 145 [(130, rf 0 0 3 a1), (1, rf 0 0 3 a1), (7, I ((a1.length : Int)))] [sl 0 a1] ?_
  refine qv [] trivial 2 145 [(132, I ((w64 (((a1.length : Int)) - 1)))), (130, rf 0 0 3 a1), (1, rf 0 0 3 a1), (7, I ((a1.length : Int)))] [sl 0 a1] ?_
  obtain ⟨v80, hv81, h⟩ := bindS h
  refine qX (some 133) (rf 0 0 3 v80) 145 [(133, rf 0 0 3 v80), (1, rf 0 0 3 a1), (7, I ((a1.length : Int)))] [sl 0 a1] (fun Γ' hΓ => CoreE.of_y (slrV_sound (n := a1.length) τ_ok (by kernel_rfl) rfl hv81)) (hL trivial) ?_
  refine qv [0] (hL trivial) 1 145 [(134, rf 0 0 3 a1), (133, rf 0 0 3 v80), (7, I ((a1.length : Int)))] [sl 0 a1] ?_
  refine qv [] trivial 2 145 [(136, I ((w64 (((a1.length : Int)) - 1)))), (134, rf 0 0 3 a1), (133, rf 0 0 3 v80)] [sl 0 a1] ?_
  obtain ⟨v82, hv83, h⟩ := bindS h
  refine qX (some 137) (.ptr 0 0 (((w64 (((a1.length : Int)) - 1))).toNat * 3)) 145 [(137, .ptr 0 0 (((w64 (((a1.length : Int)) - 1))).toNat * 3)), (133, rf 0 0 3 v80)] [sl 0 a1] (fun Γ' hΓ => CoreE.of_y (idrV_sound (n := a1.length) τ_ok (by kernel_rfl) hv83 rfl)) (hL trivial) ?_
  refine qv [0] (hL trivial) 1 145 [(138, .ptr 0 0 (((w64 (((a1.length : Int)) - 1))).toNat * 3)), (133, rf 0 0 3 v80)] [sl 0 a1] ?_
  refine qX (some 139) (I v82.fKind) 145 [(139, I v82.fKind), (133, rf 0 0 3 v80)] [sl 0 a1] (fun Γ' hΓ => CoreE.of_y (ldeV_sound (t := 3) (o' := 0) (r := I v82.fKind) τ_ok hv83 (by kernel_rfl) (by kernel_rfl))) (hL trivial) ?_
  refine qv [] trivial 1 145 [(140, B ((v82.fKind == 0))), (133, rf 0 0 3 v80)] [sl 0 a1] ?_
  obtain ⟨v84, hv85, h⟩ := bindS h
  refine qX (some 141) (I v84) 145 [(141, I v84), (133, rf 0 0 3 v80)] [sl 0 a1] (fun Γ' hΓ => CoreE.of_g (callV_sound (τ := τ) (by kernel_rfl) rfl (ok_spec_l2Bool hv85) (FzTo.frz rfl))) trivial ?_
  obtain ⟨v86, hv87, h⟩ := bindS h
  refine qX (some 142) (E v86) 145 [(142, E v86), (133, rf 0 0 3 v80)] [sl 0 a1] (fun Γ' hΓ => CoreE.of_g (callV_sound (τ := τ) (by kernel_rfl) rfl (ok_spec_ValueOf hv87) (FzTo.frz rfl))) trivial ?_
  refine qv [] trivial 1 145 [(143, .arr 3 (([v86] : List T_impl_Value)).length (eL ([v86] : List T_impl_Value)) true), (133, rf 0 0 3 v80)] [sl 0 a1] ?_
  obtain ⟨v88, hv89, h⟩ := bindS h
  refine qX (some 144) (rf 0 1 3 v88) 145 [(144, rf 0 1 3 v88)] [sl 1 v88] (fun Γ' hΓ => app_E τ_ok 144 0 0 v80.length (ny hΓ hX) hv89 (slI_le hv81) (by kernel_rfl)) (hL trivial) ?_
  refine qvn [0] (hL trivial) 1 145 [(6, rf 0 1 3 v88)] [sl 1 v88] ?_
  have h := si h
  subst h
  exact pwp_ret (rt (rf 0 1 3 v88) (OutP.list (v := 1) (by kernel_rfl)))
def impl_Compare_j1 (a0 : Int) (a1 : T_impl_Value) (a2 : T_impl_Value) (x3 : Bool) : Option Int := bif x3 then some 2 else bif (!(a1.fKind == a2.fKind)) then some (-1) else (impl_Value_order a1 a2).bind fun v6 => bif (a0 == 1) then bif (v6 == 0) then (impl_truthIf true).bind fun v8 => some v8 else bif (a0 == 2) then bif (!(v6 == 0)) then (impl_truthIf true).bind fun v10 => some v10 else bif (a0 == 3) then bif (decide (v6 < 0)) then (impl_truthIf true).bind fun v12 => some v12 else bif (a0 == 4) then (impl_truthIf ((decide (v6 ≤ 0)))).bind fun v14 => some v14 else (impl_truthIf false).bind fun v16 => some v16 else bif (a0 == 4) then (impl_truthIf ((decide (v6 ≤ 0)))).bind fun v20 => some v20 else (impl_truthIf false).bind fun v22 => some v22 else bif (a0 == 3) then bif (decide (v6 < 0)) then (impl_truthIf true).bind fun v27 => some v27 else bif (a0 == 4) then (impl_truthIf ((decide (v6 ≤ 0)))).bind fun v29 => some v29 else (impl_truthIf false).bind fun v31 => some v31 else bif (a0 == 4) then (impl_truthIf ((decide (v6 ≤ 0)))).bind fun v35 => some v35 else (impl_truthIf false).bind fun v37 => some v37 else bif (a0 == 2) then bif (!(v6 == 0)) then (impl_truthIf true).bind fun v43 => some v43 else bif (a0 == 3) then bif (decide (v6 < 0)) then (impl_truthIf true).bind fun v45 => some v45 else bif (a0 == 4) then (impl_truthIf ((decide (v6 ≤ 0)))).bind fun v47 => some v47 else (impl_truthIf false).bind fun v49 => some v49 else bif (a0 == 4) then (impl_truthIf ((decide (v6 ≤ 0)))).bind fun v53 => some v53 else (impl_truthIf false).bind fun v55 => some v55 else bif (a0 == 3) then bif (decide (v6 < 0)) then (impl_truthIf true).bind fun v60 => some v60 else bif (a0 == 4) then (impl_truthIf ((decide (v6 ≤ 0)))).bind fun v62 => some v62 else (impl_truthIf false).bind fun v64 => some v64 else bif (a0 == 4) then (impl_truthIf ((decide (v6 ≤ 0)))).bind fun v68 => some v68 else (impl_truthIf false).bind fun v70 => some v70
def impl_Compare_j0 (a0 : Int) (a1 : T_impl_Value) (a2 : T_impl_Value) (x1 : Bool) : Option Int := bif x1 then some (-1) else bif (a1.fKind == 0) then impl_Compare_j1 a0 a1 a2 true else impl_Compare_j1 a0 a1 a2 ((a2.fKind == 0))
def impl_Compare (a0 : Int) (a1 : T_impl_Value) (a2 : T_impl_Value) : Option Int := (impl_between a0 1 4).bind fun v77 => bif (!v77) then impl_Compare_j0 a0 a1 a2 true else (impl_Value_ok a1).bind fun v79 => bif (!v79) then impl_Compare_j0 a0 a1 a2 true else (impl_Value_ok a2).bind fun v81 => impl_Compare_j0 a0 a1 a2 ((!v81))
theorem ok_impl_Compare {a0 : Int} {a1 : T_impl_Value} {a2 : T_impl_Value} {y : Int} (h : impl_Compare a0 a1 a2 = some y) : OK Tryz.prog 210 [I a0, E a1, E a2] (I y) := by
  refine ow Tryz.func210 fun Γ hX => ?_
  unfold impl_Compare at h
  refine srve 71 [(0, I a0), (4, pf a1 0), (5, pf a2 0)] [] ?_
  refine pwp_seq ?_
  refine pwp_block ?_
  refine pwp_seq ?_
  refine pwp_join (σ := Bool) (fun x1 => (⟨71, [(0, I a0), (4, pf a1 0), (5, pf a2 0), (8, B x1)], []⟩ : St)) (fun x1 => impl_Compare_j0 a0 a1 a2 x1 = some y) ?_ ?_
  refine rv 1 71 [(0, I a0), (4, pf a1 0), (5, pf a2 0), (9, I a0)] [] ?_
  obtain ⟨v77, hv78, h⟩ := bindS h
  refine cF 10 (ok_impl_between hv78) ?_
  refine v 2 71 [(0, I a0), (4, pf a1 0), (5, pf a2 0), (12, B ((!v77)))] [] ?_
  rcases fk ((!v77)) with hc84 | hc84
  replace h := bT hc84 h
  rw [hc84]
  refine ve 10 71 [(0, I a0), (4, pf a1 0), (5, pf a2 0), (8, B true)] [] ?_
  exact ⟨true, h, it [0, 4, 5, 8]⟩
  replace h := bF hc84 h
  rw [hc84]
  refine v 1 71 [(0, I a0), (4, pf a1 0), (5, pf a2 0), (12, B false), (13, E a1)] [] ?_
  obtain ⟨v79, hv80, h⟩ := bindS h
  refine cF 14 (ok_impl_Value_ok hv80) ?_
  refine v 3 71 [(0, I a0), (4, pf a1 0), (5, pf a2 0), (17, B ((!v79)))] [] ?_
  rcases fk ((!v79)) with hc83 | hc83
  replace h := bT hc83 h
  rw [hc83]
  refine ve 5 71 [(0, I a0), (4, pf a1 0), (5, pf a2 0), (8, B true)] [] ?_
  exact ⟨true, h, it [0, 4, 5, 8]⟩
  replace h := bF hc83 h
  rw [hc83]
  refine v 1 71 [(0, I a0), (4, pf a1 0), (5, pf a2 0), (17, B false), (18, E a2)] [] ?_
  obtain ⟨v81, hv82, h⟩ := bindS h
  refine cF 19 (ok_impl_Value_ok hv82) ?_
  refine ve 3 71 [(0, I a0), (4, pf a1 0), (5, pf a2 0), (8, B ((!v81)))] [] ?_
  exact ⟨(!v81), h, it [0, 4, 5, 8]⟩
  rintro x1 h
  unfold impl_Compare_j0 at h
  refine pc h (fun h => ?_) (fun h => ?_)
  refine srve 71 [(6, I (-1))] [] ?_
  cases h
  exact pwp_ret rz
  refine pwp_seq ?_
  refine pwp_join (σ := Bool) (fun x3 => (⟨71, [(0, I a0), (4, pf a1 0), (5, pf a2 0), (22, B x3)], []⟩ : St)) (fun x3 => impl_Compare_j1 a0 a1 a2 x3 = some y) ?_ ?_
  refine rv 4 71 [(0, I a0), (4, pf a1 0), (5, pf a2 0), (26, B ((a1.fKind == 0)))] [] ?_
  rcases fk ((a1.fKind == 0)) with hc76 | hc76
  replace h := bT hc76 h
  rw [hc76]
  refine ve 5 71 [(0, I a0), (4, pf a1 0), (5, pf a2 0), (22, B true)] [] ?_
  exact ⟨true, h, it [0, 4, 5, 22]⟩
  replace h := bF hc76 h
  rw [hc76]
  refine ve 5 71 [(0, I a0), (4, pf a1 0), (5, pf a2 0), (22, B ((a2.fKind == 0)))] [] ?_
  exact ⟨(a2.fKind == 0), h, it [0, 4, 5, 22]⟩
  rintro x3 h
  unfold impl_Compare_j1 at h
  refine pc h (fun h => ?_) (fun h => ?_)
  refine srve 71 [(6, I 2)] [] ?_
  cases h
  exact pwp_ret rz
  refine srve 71 [(0, I a0), (4, pf a1 0), (5, pf a2 0), (31, B ((!(a1.fKind == a2.fKind))))] [] ?_
  refine pc h (fun h => ?_) (fun h => ?_)
  refine srve 71 [(6, I (-1))] [] ?_
  cases h
  exact pwp_ret rz
  refine pwp_skip ?_
  refine srv 2 71 [(0, I a0), (37, E a1), (38, E a2)] [] ?_
  obtain ⟨v6, hv7, h⟩ := bindS h
  refine cF 39 (ok_impl_Value_order hv7) ?_
  refine ve 1 71 [(0, I a0), (7, I v6)] [] ?_
  refine srv 3 71 [(0, I a0), (7, I v6), (42, B ((a0 == 1)))] [] ?_
  rcases fk ((a0 == 1)) with hc75 | hc75
  replace h := bT hc75 h
  rw [hc75]
  refine v 4 71 [(0, I a0), (7, I v6), (46, B ((v6 == 0)))] [] ?_
  rcases fk ((v6 == 0)) with hc42 | hc42
  replace h := bT hc42 h
  rw [hc42]
  refine v 23 71 [(69, B true)] [] ?_
  obtain ⟨v8, hv9, h⟩ := bindS h
  refine cF 70 (ok_impl_truthIf hv9) ?_
  refine ve 1 71 [(6, I v8)] [] ?_
  cases h
  exact pwp_ret rz
  replace h := bF hc42 h
  rw [hc42]
  refine v 3 71 [(0, I a0), (7, I v6), (46, B false), (49, B ((a0 == 2)))] [] ?_
  rcases fk ((a0 == 2)) with hc41 | hc41
  replace h := bT hc41 h
  rw [hc41]
  refine v 5 71 [(0, I a0), (7, I v6), (54, B ((!(v6 == 0))))] [] ?_
  rcases fk ((!(v6 == 0))) with hc26 | hc26
  replace h := bT hc26 h
  rw [hc26]
  refine v 15 71 [(69, B true)] [] ?_
  obtain ⟨v10, hv11, h⟩ := bindS h
  refine cF 70 (ok_impl_truthIf hv11) ?_
  refine ve 1 71 [(6, I v10)] [] ?_
  cases h
  exact pwp_ret rz
  replace h := bF hc26 h
  rw [hc26]
  refine v 3 71 [(0, I a0), (7, I v6), (54, B false), (57, B ((a0 == 3)))] [] ?_
  rcases fk ((a0 == 3)) with hc25 | hc25
  replace h := bT hc25 h
  rw [hc25]
  refine v 5 71 [(0, I a0), (7, I v6), (62, B ((decide (v6 < 0))))] [] ?_
  rcases fk ((decide (v6 < 0))) with hc19 | hc19
  replace h := bT hc19 h
  rw [hc19]
  refine v 7 71 [(69, B true)] [] ?_
  obtain ⟨v12, hv13, h⟩ := bindS h
  refine cF 70 (ok_impl_truthIf hv13) ?_
  refine ve 1 71 [(6, I v12)] [] ?_
  cases h
  exact pwp_ret rz
  replace h := bF hc19 h
  rw [hc19]
  refine v 3 71 [(7, I v6), (62, B false), (65, B ((a0 == 4)))] [] ?_
  rcases fk ((a0 == 4)) with hc18 | hc18
  replace h := bT hc18 h
  rw [hc18]
  refine v 4 71 [(69, B ((decide (v6 ≤ 0))))] [] ?_
  obtain ⟨v14, hv15, h⟩ := bindS h
  refine cF 70 (ok_impl_truthIf hv15) ?_
  refine ve 1 71 [(6, I v14)] [] ?_
  cases h
  exact pwp_ret rz
  replace h := bF hc18 h
  rw [hc18]
  refine v 4 71 [(69, B false)] [] ?_
  obtain ⟨v16, hv17, h⟩ := bindS h
  refine cF 70 (ok_impl_truthIf hv17) ?_
  refine ve 1 71 [(6, I v16)] [] ?_
  cases h
  exact pwp_ret rz
  replace h := bF hc25 h
  rw [hc25]
  refine v 8 71 [(7, I v6), (62, B false), (65, B ((a0 == 4)))] [] ?_
  rcases fk ((a0 == 4)) with hc24 | hc24
  replace h := bT hc24 h
  rw [hc24]
  refine v 4 71 [(69, B ((decide (v6 ≤ 0))))] [] ?_
  obtain ⟨v20, hv21, h⟩ := bindS h
  refine cF 70 (ok_impl_truthIf hv21) ?_
  refine ve 1 71 [(6, I v20)] [] ?_
  cases h
  exact pwp_ret rz
  replace h := bF hc24 h
  rw [hc24]
  refine v 4 71 [(69, B false)] [] ?_
  obtain ⟨v22, hv23, h⟩ := bindS h
  refine cF 70 (ok_impl_truthIf hv23) ?_
  refine ve 1 71 [(6, I v22)] [] ?_
  cases h
  exact pwp_ret rz
  replace h := bF hc41 h
  rw [hc41]
  refine v 8 71 [(0, I a0), (7, I v6), (54, B false), (57, B ((a0 == 3)))] [] ?_
  rcases fk ((a0 == 3)) with hc40 | hc40
  replace h := bT hc40 h
  rw [hc40]
  refine v 5 71 [(0, I a0), (7, I v6), (62, B ((decide (v6 < 0))))] [] ?_
  rcases fk ((decide (v6 < 0))) with hc34 | hc34
  replace h := bT hc34 h
  rw [hc34]
  refine v 7 71 [(69, B true)] [] ?_
  obtain ⟨v27, hv28, h⟩ := bindS h
  refine cF 70 (ok_impl_truthIf hv28) ?_
  refine ve 1 71 [(6, I v27)] [] ?_
  cases h
  exact pwp_ret rz
  replace h := bF hc34 h
  rw [hc34]
  refine v 3 71 [(7, I v6), (62, B false), (65, B ((a0 == 4)))] [] ?_
  rcases fk ((a0 == 4)) with hc33 | hc33
  replace h := bT hc33 h
  rw [hc33]
  refine v 4 71 [(69, B ((decide (v6 ≤ 0))))] [] ?_
  obtain ⟨v29, hv30, h⟩ := bindS h
  refine cF 70 (ok_impl_truthIf hv30) ?_
  refine ve 1 71 [(6, I v29)] [] ?_
  cases h
  exact pwp_ret rz
  replace h := bF hc33 h
  rw [hc33]
  refine v 4 71 [(69, B false)] [] ?_
  obtain ⟨v31, hv32, h⟩ := bindS h
  refine cF 70 (ok_impl_truthIf hv32) ?_
  refine ve 1 71 [(6, I v31)] [] ?_
  cases h
  exact pwp_ret rz
  replace h := bF hc40 h
  rw [hc40]
  refine v 8 71 [(7, I v6), (62, B false), (65, B ((a0 == 4)))] [] ?_
  rcases fk ((a0 == 4)) with hc39 | hc39
  replace h := bT hc39 h
  rw [hc39]
  refine v 4 71 [(69, B ((decide (v6 ≤ 0))))] [] ?_
  obtain ⟨v35, hv36, h⟩ := bindS h
  refine cF 70 (ok_impl_truthIf hv36) ?_
  refine ve 1 71 [(6, I v35)] [] ?_
  cases h
  exact pwp_ret rz
  replace h := bF hc39 h
  rw [hc39]
  refine v 4 71 [(69, B false)] [] ?_
  obtain ⟨v37, hv38, h⟩ := bindS h
  refine cF 70 (ok_impl_truthIf hv38) ?_
  refine ve 1 71 [(6, I v37)] [] ?_
  cases h
  exact pwp_ret rz
  replace h := bF hc75 h
  rw [hc75]
  refine v 7 71 [(0, I a0), (7, I v6), (46, B false), (49, B ((a0 == 2)))] [] ?_
  rcases fk ((a0 == 2)) with hc74 | hc74
  replace h := bT hc74 h
  rw [hc74]
  refine v 5 71 [(0, I a0), (7, I v6), (54, B ((!(v6 == 0))))] [] ?_
  rcases fk ((!(v6 == 0))) with hc59 | hc59
  replace h := bT hc59 h
  rw [hc59]
  refine v 15 71 [(69, B true)] [] ?_
  obtain ⟨v43, hv44, h⟩ := bindS h
  refine cF 70 (ok_impl_truthIf hv44) ?_
  refine ve 1 71 [(6, I v43)] [] ?_
  cases h
  exact pwp_ret rz
  replace h := bF hc59 h
  rw [hc59]
  refine v 3 71 [(0, I a0), (7, I v6), (54, B false), (57, B ((a0 == 3)))] [] ?_
  rcases fk ((a0 == 3)) with hc58 | hc58
  replace h := bT hc58 h
  rw [hc58]
  refine v 5 71 [(0, I a0), (7, I v6), (62, B ((decide (v6 < 0))))] [] ?_
  rcases fk ((decide (v6 < 0))) with hc52 | hc52
  replace h := bT hc52 h
  rw [hc52]
  refine v 7 71 [(69, B true)] [] ?_
  obtain ⟨v45, hv46, h⟩ := bindS h
  refine cF 70 (ok_impl_truthIf hv46) ?_
  refine ve 1 71 [(6, I v45)] [] ?_
  cases h
  exact pwp_ret rz
  replace h := bF hc52 h
  rw [hc52]
  refine v 3 71 [(7, I v6), (62, B false), (65, B ((a0 == 4)))] [] ?_
  rcases fk ((a0 == 4)) with hc51 | hc51
  replace h := bT hc51 h
  rw [hc51]
  refine v 4 71 [(69, B ((decide (v6 ≤ 0))))] [] ?_
  obtain ⟨v47, hv48, h⟩ := bindS h
  refine cF 70 (ok_impl_truthIf hv48) ?_
  refine ve 1 71 [(6, I v47)] [] ?_
  cases h
  exact pwp_ret rz
  replace h := bF hc51 h
  rw [hc51]
  refine v 4 71 [(69, B false)] [] ?_
  obtain ⟨v49, hv50, h⟩ := bindS h
  refine cF 70 (ok_impl_truthIf hv50) ?_
  refine ve 1 71 [(6, I v49)] [] ?_
  cases h
  exact pwp_ret rz
  replace h := bF hc58 h
  rw [hc58]
  refine v 8 71 [(7, I v6), (62, B false), (65, B ((a0 == 4)))] [] ?_
  rcases fk ((a0 == 4)) with hc57 | hc57
  replace h := bT hc57 h
  rw [hc57]
  refine v 4 71 [(69, B ((decide (v6 ≤ 0))))] [] ?_
  obtain ⟨v53, hv54, h⟩ := bindS h
  refine cF 70 (ok_impl_truthIf hv54) ?_
  refine ve 1 71 [(6, I v53)] [] ?_
  cases h
  exact pwp_ret rz
  replace h := bF hc57 h
  rw [hc57]
  refine v 4 71 [(69, B false)] [] ?_
  obtain ⟨v55, hv56, h⟩ := bindS h
  refine cF 70 (ok_impl_truthIf hv56) ?_
  refine ve 1 71 [(6, I v55)] [] ?_
  cases h
  exact pwp_ret rz
  replace h := bF hc74 h
  rw [hc74]
  refine v 8 71 [(0, I a0), (7, I v6), (54, B false), (57, B ((a0 == 3)))] [] ?_
  rcases fk ((a0 == 3)) with hc73 | hc73
  replace h := bT hc73 h
  rw [hc73]
  refine v 5 71 [(0, I a0), (7, I v6), (62, B ((decide (v6 < 0))))] [] ?_
  rcases fk ((decide (v6 < 0))) with hc67 | hc67
  replace h := bT hc67 h
  rw [hc67]
  refine v 7 71 [(69, B true)] [] ?_
  obtain ⟨v60, hv61, h⟩ := bindS h
  refine cF 70 (ok_impl_truthIf hv61) ?_
  refine ve 1 71 [(6, I v60)] [] ?_
  cases h
  exact pwp_ret rz
  replace h := bF hc67 h
  rw [hc67]
  refine v 3 71 [(7, I v6), (62, B false), (65, B ((a0 == 4)))] [] ?_
  rcases fk ((a0 == 4)) with hc66 | hc66
  replace h := bT hc66 h
  rw [hc66]
  refine v 4 71 [(69, B ((decide (v6 ≤ 0))))] [] ?_
  obtain ⟨v62, hv63, h⟩ := bindS h
  refine cF 70 (ok_impl_truthIf hv63) ?_
  refine ve 1 71 [(6, I v62)] [] ?_
  cases h
  exact pwp_ret rz
  replace h := bF hc66 h
  rw [hc66]
  refine v 4 71 [(69, B false)] [] ?_
  obtain ⟨v64, hv65, h⟩ := bindS h
  refine cF 70 (ok_impl_truthIf hv65) ?_
  refine ve 1 71 [(6, I v64)] [] ?_
  cases h
  exact pwp_ret rz
  replace h := bF hc73 h
  rw [hc73]
  refine v 8 71 [(7, I v6), (62, B false), (65, B ((a0 == 4)))] [] ?_
  rcases fk ((a0 == 4)) with hc72 | hc72
  replace h := bT hc72 h
  rw [hc72]
  refine v 4 71 [(69, B ((decide (v6 ≤ 0))))] [] ?_
  obtain ⟨v68, hv69, h⟩ := bindS h
  refine cF 70 (ok_impl_truthIf hv69) ?_
  refine ve 1 71 [(6, I v68)] [] ?_
  cases h
  exact pwp_ret rz
  replace h := bF hc72 h
  rw [hc72]
  refine v 4 71 [(69, B false)] [] ?_
  obtain ⟨v70, hv71, h⟩ := bindS h
  refine cF 70 (ok_impl_truthIf hv71) ?_
  refine ve 1 71 [(6, I v70)] [] ?_
  cases h
  exact pwp_ret rz
def impl_ExprKind_j2 (a0 : List T_impl_Column) (x4 : Int) (x5 : List Int) (K7 : Int → (List Int) → Option Int) (v9 : T_impl_Part) (v11 : Int) (x13 : Bool) : Option Int := bif x13 then some (-1) else (slI x5 (some ((w64 (((x5.length : Int)) - v11)))) none none).bind fun v15 => (impl_Part_kind v9 a0 v15).bind fun v17 => bif (!v17.2) then some (-1) else (slI x5 none (some ((w64 (((x5.length : Int)) - v11)))) none).bind fun v20 => (appT x5 (([v17.1] : List Int)) v20.length).bind fun v22 => K7 ((w64 (x4 + 1))) v22
def impl_ExprKind_l1 (a0 : List T_impl_Column) (a1 : List T_impl_Part) : Nat → Int → (List Int) → Option Int
  | 0, _, _ => none
  | f6 + 1, x4, x5 => bif (decide (x4 < ((a1.length : Int)))) then (getI a1 x4).bind fun v9 => (impl_Part_takes v9).bind fun v11 => (impl_Part_tells v9 a0).bind fun v24 => bif (!v24) then impl_ExprKind_j2 a0 x4 x5 (impl_ExprKind_l1 a0 a1 f6) v9 v11 true else impl_ExprKind_j2 a0 x4 x5 (impl_ExprKind_l1 a0 a1 f6) v9 v11 ((decide (((x5.length : Int)) < v11))) else bif (!(((x5.length : Int)) == 1)) then some (-1) else (getI x5 ((0 : Int))).bind fun v28 => some v28
def impl_ExprKind_j0 (a0 : List T_impl_Column) (a1 : List T_impl_Part) (x1 : Bool) : Option Int := bif x1 then some (-1) else impl_ExprKind_l1 a0 a1 FUEL 0 (([] : List Int))
def impl_ExprKind (a0 : List T_impl_Column) (a1 : List T_impl_Part) : Option Int := (impl_ColumnsOk a0).bind fun v30 => bif (!v30) then impl_ExprKind_j0 a0 a1 true else impl_ExprKind_j0 a0 a1 ((decide (((a1.length : Int)) > 12)))
theorem ok_impl_ExprKind {a0 : List T_impl_Column} {a1 : List T_impl_Part} {y : Int} (h : impl_ExprKind a0 a1 = some y) : OK Tryz.prog 22 [A a0, A a1] (I y) := by
  refine ow Tryz.func22 fun Γ hX => ?_
  unfold impl_ExprKind at h
  refine srveM [7] 67 [(0, A a0), (1, A a1)] [] ?_
  refine pwp_seq ?_
  refine pwp_seq ?_
  refine pwp_join (σ := Bool) (fun x1 => (⟨67, [(0, A a0), (1, A a1), (18, B x1)], []⟩ : St)) (fun x1 => impl_ExprKind_j0 a0 a1 x1 = some y) ?_ ?_
  refine rvM [7] 1 67 [(0, A a0), (1, A a1), (11, A a0)] [] ?_
  obtain ⟨v30, hv31, h⟩ := bindS h
  refine cF 12 (ok_impl_ColumnsOk hv31) ?_
  refine vM [7] 2 67 [(0, A a0), (1, A a1), (14, B ((!v30)))] [] ?_
  rcases fk ((!v30)) with hc32 | hc32
  replace h := bT hc32 h
  rw [hc32]
  refine veM [7] 4 67 [(0, A a0), (1, A a1), (18, B true)] [] ?_
  exact ⟨true, h, it [0, 1, 18]⟩
  replace h := bF hc32 h
  rw [hc32]
  refine veM [7] 4 67 [(0, A a0), (1, A a1), (18, B ((decide (((a1.length : Int)) > 12))))] [] ?_
  exact ⟨(decide (((a1.length : Int)) > 12)), h, it [0, 1, 18]⟩
  rintro x1 h
  unfold impl_ExprKind_j0 at h
  refine pc h (fun h => ?_) (fun h => ?_)
  refine srveM [7] 67 [(4, I (-1))] [] ?_
  cases h
  exact pwp_ret rz
  refine pwp_skip ?_
  refine srveM [7] 67 [(0, A a0), (1, A a1), (5, .arr 1 0 (eL ([] : List Int)) true)] [] ?_
  refine pwp_seq ?_
  refine srveM [7] 67 [(0, A a0), (5, .arr 1 0 (eL ([] : List Int)) true), (19, A a1), (20, I ((a1.length : Int))), (21, I 0)] [] ?_
  refine pwp_block ?_
  refine pwp_loop (ι := Nat × Int × (List Int)) (fun (f6, x4, x5) => (⟨67, [(0, A a0), (5, rf 0 0 1 x5), (19, A a1), (20, I ((a1.length : Int))), (21, I x4)], [sl 0 x5]⟩ : St)) (fun (f6, x4, x5) => impl_ExprKind_l1 a0 a1 f6 x4 x5 = some y) Prod.fst (FUEL, 0, ([] : List Int)) h (Imp.thawS 5 [0, 5, 19, 20, 21] (by kernel_rfl)) ?_
  rintro ⟨f6, x4, x5⟩ h
  dsimp only at h ⊢
  rcases f6 with _ | f6
  cases h
  rw [impl_ExprKind_l1] at h
  refine srveM [7] 67 [(0, A a0), (5, rf 0 0 1 x5), (19, A a1), (20, I ((a1.length : Int))), (21, I x4), (22, B ((decide (x4 < ((a1.length : Int))))))] [sl 0 x5] ?_
  refine pwp_seq ?_
  refine pc h (fun h => ?_) (fun h => ?_)
  refine pwp_skip ?_
  refine pwp_seq ?_
  refine pwp_block ?_
  refine pwp_seq ?_
  refine pwp_region ?_
  obtain ⟨v9, hv10, h⟩ := bindS h
  refine opsP_idx τ_ok 23 hv10 (by kernel_rfl) ?_
  refine veM [7] 3 67 [(0, A a0), (5, rf 0 0 1 x5), (7, .ptr 1 0 0), (19, A a1), (20, I ((a1.length : Int))), (21, I x4)] [sl 0 x5, sc 0 v9] ?_
  refine srvM [7] 1 67 [(0, A a0), (5, rf 0 0 1 x5), (7, .ptr 1 0 0), (19, A a1), (20, I ((a1.length : Int))), (21, I x4), (25, E v9)] [sl 0 x5, sc 0 v9] ?_
  obtain ⟨v11, hv12, h⟩ := bindS h
  refine cF 26 (ok_impl_Part_takes hv12) ?_
  refine veM [7] 1 67 [(0, A a0), (5, rf 0 0 1 x5), (7, .ptr 1 0 0), (8, I v11), (19, A a1), (20, I ((a1.length : Int))), (21, I x4)] [sl 0 x5, sc 0 v9] ?_
  refine pwp_seq ?_
  refine pwp_seq ?_
  refine pwp_join (σ := Bool) (fun x13 => (⟨67, [(0, A a0), (5, rf 0 0 1 x5), (7, .ptr 1 0 0), (8, I v11), (19, A a1), (20, I ((a1.length : Int))), (21, I x4), (36, B x13)], [sl 0 x5, sc 0 v9]⟩ : St)) (fun x13 => impl_ExprKind_j2 a0 x4 x5 (impl_ExprKind_l1 a0 a1 f6) v9 v11 x13 = some y) ?_ ?_
  refine rvM [7] 2 67 [(0, A a0), (5, rf 0 0 1 x5), (7, .ptr 1 0 0), (8, I v11), (19, A a1), (20, I ((a1.length : Int))), (21, I x4), (27, E v9), (28, A a0)] [sl 0 x5, sc 0 v9] ?_
  obtain ⟨v24, hv25, h⟩ := bindS h
  refine cF 29 (ok_impl_Part_tells hv25) ?_
  refine vM [7] 2 67 [(0, A a0), (5, rf 0 0 1 x5), (7, .ptr 1 0 0), (8, I v11), (19, A a1), (20, I ((a1.length : Int))), (21, I x4), (31, B ((!v24)))] [sl 0 x5, sc 0 v9] ?_
  rcases fk ((!v24)) with hc26 | hc26
  replace h := bT hc26 h
  rw [hc26]
  refine veM [7] 5 67 [(0, A a0), (5, rf 0 0 1 x5), (7, .ptr 1 0 0), (8, I v11), (19, A a1), (20, I ((a1.length : Int))), (21, I x4), (32, .lit undef), (33, .lit undef), (34, .lit undef), (35, .lit undef), (36, B true)] [sl 0 x5, sc 0 v9] ?_
  exact ⟨true, h, it [0, 5, 7, 8, 19, 20, 21, 36]⟩
  replace h := bF hc26 h
  rw [hc26]
  refine veM [7] 5 67 [(0, A a0), (5, rf 0 0 1 x5), (7, .ptr 1 0 0), (8, I v11), (19, A a1), (20, I ((a1.length : Int))), (21, I x4), (32, rf 0 0 1 x5), (33, I ((x5.length : Int))), (34, I v11), (35, B ((decide (((x5.length : Int)) < v11)))), (36, B ((decide (((x5.length : Int)) < v11))))] [sl 0 x5, sc 0 v9] ?_
  exact ⟨(decide (((x5.length : Int)) < v11)), h, it [0, 5, 7, 8, 19, 20, 21, 36]⟩
  rintro x13 h
  unfold impl_ExprKind_j2 at h
  refine pc h (fun h => ?_) (fun h => ?_)
  refine srveM [7] 67 [(4, I (-1))] [sl 0 x5, sc 0 v9] ?_
  cases h
  exact pwp_ret rz
  refine pwp_skip ?_
  refine pwp_seq ?_
  refine ip 67 [(0, A a0), (5, rf 0 0 1 x5), (7, .ptr 1 0 0), (8, I v11), (19, A a1), (20, I ((a1.length : Int))), (21, I x4)] [sl 0 x5, sc 0 v9] ?_
  refine pwp_any ([[1], [], [0], [0], [0], [], [], [0], [0], [], [], [], [], []]) ([[], [], [], [], [], [], [], [], [], [], [], [], [], []]) rfl (by kernel_rfl) ?_
  refine qvM [7] [1] (hB trivial) 1 67 [(38, E v9), (0, A a0), (5, rf 0 0 1 x5), (8, I v11), (19, A a1), (20, I ((a1.length : Int))), (21, I x4)] [sl 0 x5, sc 0 v9] ?_
  refine qvM [7] [] trivial 1 67 [(39, A a0), (38, E v9), (0, A a0), (5, rf 0 0 1 x5), (8, I v11), (19, A a1), (20, I ((a1.length : Int))), (21, I x4)] [sl 0 x5, sc 0 v9] ?_
  refine qvM [7] [0] (hL trivial) 3 67 [(42, I ((x5.length : Int))), (40, rf 0 0 1 x5), (39, A a0), (38, E v9), (0, A a0), (5, rf 0 0 1 x5), (8, I v11), (19, A a1), (20, I ((a1.length : Int))), (21, I x4)] [sl 0 x5, sc 0 v9] ?_
  refine qvM [7] [] trivial 2 67 [(44, I ((w64 (((x5.length : Int)) - v11)))), (40, rf 0 0 1 x5), (39, A a0), (38, E v9), (0, A a0), (5, rf 0 0 1 x5), (8, I v11), (19, A a1), (20, I ((a1.length : Int))), (21, I x4)] [sl 0 x5, sc 0 v9] ?_
  obtain ⟨v15, hv16, h⟩ := bindS h
  refine qX (some 45) (.ref 0 0 ((w64 (((x5.length : Int)) - v11)).toNat * 1) 1 v15.length false) 67 [(45, .ref 0 0 ((w64 (((x5.length : Int)) - v11)).toNat * 1) 1 v15.length false), (39, A a0), (38, E v9), (0, A a0), (5, rf 0 0 1 x5), (8, I v11), (19, A a1), (20, I ((a1.length : Int))), (21, I x4)] [sl 0 x5, sc 0 v9] (fun Γ' hΓ => CoreE.of_y (slrV_sound (n := x5.length) τ_ok (by kernel_rfl) rfl hv16)) (hL trivial) ?_
  obtain ⟨v17, hv18, h⟩ := bindS h
  refine qX (some 46) (.tup [I v17.1, B v17.2]) 67 [(46, .tup [I v17.1, B v17.2]), (0, A a0), (5, rf 0 0 1 x5), (8, I v11), (19, A a1), (20, I ((a1.length : Int))), (21, I x4)] [sl 0 x5, sc 0 v9] (fun Γ' hΓ => CoreE.of_g (callVV_sound (xs := [E v9, A a0, .ref 0 0 ((w64 (((x5.length : Int)) - v11)).toNat * 1) 1 v15.length false]) (τ := τ) (by kernel_rfl) (ViewL.cons (View.frz rfl) (ViewL.cons (View.frz rfl) (ViewL.cons (View.ref (v := 0) (lo := (w64 (((x5.length : Int)) - v11)).toNat) x5 v15 (by kernel_rfl) (slI_view hv16) rfl) (ViewL.nil _)))) (ok_impl_Part_kind hv18) (Blind.tup (BlindL.cons (Blind.lit _) (BlindL.cons (Blind.lit _) BlindL.nil))) (FzTo.tup (FzToL.cons (FzTo.frz rfl) (FzToL.cons (FzTo.frz rfl) FzToL.nil))))) (hL trivial) ?_
  refine qvnM [7] [] trivial 5 67 [(0, A a0), (5, rf 0 0 1 x5), (8, I v11), (9, I v17.1), (10, B v17.2), (19, A a1), (20, I ((a1.length : Int))), (21, I x4)] [sl 0 x5, sc 0 v9] ?_
  refine pwp_seq ?_
  refine srveM [7] 67 [(0, A a0), (5, rf 0 0 1 x5), (8, I v11), (9, I v17.1), (19, A a1), (20, I ((a1.length : Int))), (21, I x4), (50, B ((!v17.2)))] [sl 0 x5, sc 0 v9] ?_
  refine pc h (fun h => ?_) (fun h => ?_)
  refine srveM [7] 67 [(4, I (-1))] [sl 0 x5, sc 0 v9] ?_
  cases h
  exact pwp_ret rz
  refine pwp_skip ?_
  refine rvM [7] 5 67 [(0, A a0), (9, I v17.1), (19, A a1), (20, I ((a1.length : Int))), (21, I x4), (51, rf 0 0 1 x5), (55, I ((w64 (((x5.length : Int)) - v11))))] [sl 0 x5, sc 0 v9] ?_
  obtain ⟨v20, hv21, h⟩ := bindS h
  refine opsP_slr τ_ok 56 0 0 x5.length hv21 rfl (by kernel_rfl) ?_
  refine vM [7] 2 67 [(0, A a0), (19, A a1), (20, I ((a1.length : Int))), (21, I x4), (56, rf 0 0 1 v20), (58, .arr 1 (([v17.1] : List Int)).length (eL ([v17.1] : List Int)) true)] [sl 0 x5, sc 0 v9] ?_
  obtain ⟨v22, hv23, h⟩ := bindS h
  refine opsP_apt τ_ok 59 0 0 v20.length (nx hX) hv23 (slI_le hv21) (by kernel_rfl) ?_
  refine veM [7] 1 67 [(0, A a0), (5, rf 0 1 1 v22), (19, A a1), (20, I ((a1.length : Int))), (21, I x4)] [sl 1 v22, sc 0 v9] ?_
  refine rveM [7] 67 [(0, A a0), (5, rf 0 1 1 v22), (19, A a1), (20, I ((a1.length : Int))), (21, I ((w64 (x4 + 1))))] [sl 1 v22, sc 0 v9] ?_
  exact ⟨(f6, (w64 (x4 + 1)), v22), h, Nat.lt_succ_self _, (it (st' := ⟨67, [(0, A a0), (5, rf 0 1 1 v22), (19, A a1), (20, I ((a1.length : Int))), (21, I ((w64 (x4 + 1))))], [sl 1 v22, sc 0 v9]⟩) [0, 5, 19, 20, 21]).trans ((Imp.truncS (st' := ⟨67, [(0, A a0), (5, rf 0 1 1 v22), (19, A a1), (20, I ((a1.length : Int))), (21, I ((w64 (x4 + 1))))], [sl 1 v22]⟩) 1 (nx hX) (by kernel_rfl) (allBelow_mem (by exact (And.intro rfl (And.intro rfl (And.intro rfl (And.intro rfl (And.intro rfl trivial))))))) (by exact (And.intro (frz_below (eL_frz _)) trivial)) (by kernel_rfl)).trans (Imp.reverS 0 1 (eL v22) [0, 5, 19, 20, 21] (by kernel_rfl) (by exact (And.intro (eL_frz _) trivial)) (by kernel_rfl)))⟩
  refine pwp_exit ?_
  refine pwp_seq ?_
  refine srveM [7] 67 [(5, rf 0 0 1 x5), (63, B ((!(((x5.length : Int)) == 1))))] [sl 0 x5] ?_
  refine pc h (fun h => ?_) (fun h => ?_)
  refine srveM [7] 67 [(4, I (-1))] [sl 0 x5] ?_
  cases h
  exact pwp_ret rz
  refine pwp_skip ?_
  refine srvM [7] 1 67 [(64, rf 0 0 1 x5)] [sl 0 x5] ?_
  obtain ⟨v28, hv29, h⟩ := bindS h
  refine opsP_idr τ_ok 65 0 0 x5.length hv29 rfl (by kernel_rfl) ?_
  refine opsP_lde (r := I v28) τ_ok 66 3 0 hv29 (by kernel_rfl) (by kernel_rfl) ?_
  refine veM [7] 1 67 [(4, I v28)] [sl 0 x5] ?_
  cases h
  exact pwp_ret rz
def impl_RowsOk_1 (a0 : List T_impl_Value) (b0 : List T_impl_Column) : Option Bool := (impl_RowFits b0 a0).bind fun v1 => some ((!v1))
theorem ok_impl_RowsOk_1 {a0 : List T_impl_Value} {b0 : List T_impl_Column} {y : Bool} (h : impl_RowsOk_1 a0 b0 = some y) : OK Tryz.prog 67 [A a0, pf b0 0] (B y) := by
  refine ow Tryz.func67 fun Γ hX => ?_
  unfold impl_RowsOk_1 at h
  refine srve 8 [(0, A a0), (1, pf b0 0)] [] ?_
  refine srv 2 8 [(4, A b0), (5, A a0)] [] ?_
  obtain ⟨v1, hv2, h⟩ := bindS h
  refine cF 6 (ok_impl_RowFits hv2) ?_
  refine ve 2 8 [(3, B ((!v1)))] [] ?_
  cases h
  exact pwp_ret rz
def spec_l23Ready (a0 : List T_impl_Column) (a1 : List T_impl_Column) (a2 : List (List T_impl_Value)) (a3 : List (List T_impl_Value)) (a4 : List T_impl_Part) : Option Bool := (app (([] : List T_impl_Column)) a0).bind fun v1 => (app v1 a1).bind fun v3 => (spec_RowsOk a0 a2).bind fun v5 => bif v5 then (spec_RowsOk a1 a3).bind fun v7 => bif v7 then (spec_ExprKind v3 a4).bind fun v9 => bif (v9 == 3) then bif (decide (((a2.length : Int)) ≤ 30)) then some ((decide (((a3.length : Int)) ≤ 30))) else some false else some false else some false else some false
theorem ok_spec_l23Ready {a0 : List T_impl_Column} {a1 : List T_impl_Column} {a2 : List (List T_impl_Value)} {a3 : List (List T_impl_Value)} {a4 : List T_impl_Part} {y : Bool} (h : spec_l23Ready a0 a1 a2 a3 a4 = some y) : OK Tryz.prog 77 [A a0, A a1, A a2, A a3, A a4] (B y) := by
  refine ow Tryz.func77 fun Γ hX => ?_
  unfold spec_l23Ready at h
  refine srve 41 [(0, A a0), (1, A a1), (2, A a2), (3, A a3), (4, A a4)] [] ?_
  refine srv 2 41 [(0, A a0), (1, A a1), (2, A a2), (3, A a3), (4, A a4), (12, .arr 2 0 (eL ([] : List T_impl_Column)) true), (13, A a0)] [] ?_
  refine opsP_thaw 12 2 (by kernel_rfl) ?_
  obtain ⟨v1, hv2, h⟩ := bindS h
  refine opsP_app τ_ok 14 0 0 (nx hX) hv2 (by kernel_rfl) ?_
  refine v 1 41 [(0, A a0), (1, A a1), (2, A a2), (3, A a3), (4, A a4), (14, rf 0 1 2 v1), (15, A a1)] [sl 1 v1] ?_
  obtain ⟨v3, hv4, h⟩ := bindS h
  refine opsP_app τ_ok 16 0 1 (nx hX) hv4 (by kernel_rfl) ?_
  refine ve 1 41 [(0, A a0), (1, A a1), (2, A a2), (3, A a3), (4, A a4), (11, rf 0 2 2 v3)] [sl 2 v3] ?_
  refine srv 2 41 [(1, A a1), (2, A a2), (3, A a3), (4, A a4), (11, rf 0 2 2 v3), (17, A a0), (18, A a2)] [sl 2 v3] ?_
  obtain ⟨v5, hv6, h⟩ := bindS h
  refine cF 19 (ok_spec_RowsOk hv6) ?_
  refine v 1 41 [(1, A a1), (2, A a2), (3, A a3), (4, A a4), (11, rf 0 2 2 v3), (20, B v5)] [sl 2 v3] ?_
  rcases Bool.eq_false_or_eq_true v5 with hc14 | hc14
  replace h := bT hc14 h
  rw [hc14]
  refine v 2 41 [(2, A a2), (3, A a3), (4, A a4), (11, rf 0 2 2 v3), (20, B true), (21, A a1), (22, A a3)] [sl 2 v3] ?_
  obtain ⟨v7, hv8, h⟩ := bindS h
  refine cF 23 (ok_spec_RowsOk hv8) ?_
  refine v 2 41 [(2, A a2), (3, A a3), (4, A a4), (11, rf 0 2 2 v3), (25, B v7)] [sl 2 v3] ?_
  rcases Bool.eq_false_or_eq_true v7 with hc13 | hc13
  replace h := bT hc13 h
  rw [hc13]
  refine v 2 41 [(2, A a2), (3, A a3), (25, B true), (26, rf 0 2 2 v3), (27, A a4)] [sl 2 v3] ?_
  obtain ⟨v9, hv10, h⟩ := bindS h
  refine opsP_callV (xs := [rf 0 2 2 v3, A a4]) τ 28 (ok_spec_ExprKind hv10) (Blind.lit _) (FzTo.frz rfl) (by kernel_rfl) (ViewL.cons (View.whole (v := 2) v3 (by kernel_rfl) rfl) (ViewL.cons (View.frz rfl) (ViewL.nil _))) ?_
  refine v 3 41 [(2, A a2), (3, A a3), (31, B ((v9 == 3)))] [sl 2 v3] ?_
  rcases fk ((v9 == 3)) with hc12 | hc12
  replace h := bT hc12 h
  rw [hc12]
  refine v 5 41 [(3, A a3), (36, B ((decide (((a2.length : Int)) ≤ 30))))] [sl 2 v3] ?_
  rcases fk ((decide (((a2.length : Int)) ≤ 30))) with hc11 | hc11
  replace h := bT hc11 h
  rw [hc11]
  refine ve 5 41 [(10, B ((decide (((a3.length : Int)) ≤ 30))))] [sl 2 v3] ?_
  cases h
  exact pwp_ret rz
  replace h := bF hc11 h
  rw [hc11]
  refine ve 5 41 [(10, B false)] [sl 2 v3] ?_
  cases h
  exact pwp_ret rz
  replace h := bF hc12 h
  rw [hc12]
  refine ve 10 41 [(10, B false)] [sl 2 v3] ?_
  cases h
  exact pwp_ret rz
  replace h := bF hc13 h
  rw [hc13]
  refine ve 16 41 [(10, B false)] [sl 2 v3] ?_
  cases h
  exact pwp_ret rz
  replace h := bF hc14 h
  rw [hc14]
  refine ve 21 41 [(10, B false)] [sl 2 v3] ?_
  cases h
  exact pwp_ret rz
def spec_l4Value_l0 (a0 : List T_impl_Value) (a1 : List T_impl_Part) : Nat → Int → (List T_impl_Value) → Option T_impl_Value
  | 0, _, _ => none
  | f5 + 1, x3, x4 => bif (decide (x3 < ((a1.length : Int)))) then (getI a1 x3).bind fun v8 => (spec_l4Do a0 x4 v8).bind fun v10 => (spec_l4Value_l0 a0 a1 f5) ((w64 (x3 + 1))) v10 else (getI x4 ((0 : Int))).bind fun v12 => some v12
def spec_l4Value (a0 : List T_impl_Value) (a1 : List T_impl_Part) : Option T_impl_Value := spec_l4Value_l0 a0 a1 FUEL 0 (([] : List T_impl_Value))
theorem ok_spec_l4Value {a0 : List T_impl_Value} {a1 : List T_impl_Part} {y : T_impl_Value} (h : spec_l4Value a0 a1 = some y) : OK Tryz.prog 147 [A a0, A a1] (E y) := by
  refine ow Tryz.func147 fun Γ hX => ?_
  unfold spec_l4Value at h
  refine srveM [4] 24 [(0, A a0), (1, A a1), (4, .ptr 0 0 0)] [some ⟨0, Enc.cells ((T_impl_Value.mk 0 0 (ByteArray.mk #[])))⟩] ?_
  refine srveM [4] 24 [(0, A a0), (1, A a1), (4, .ptr 0 0 0), (5, .arr 3 0 (eL ([] : List T_impl_Value)) true)] [some ⟨0, Enc.cells ((T_impl_Value.mk 0 0 (ByteArray.mk #[])))⟩] ?_
  refine pwp_seq ?_
  refine srveM [4] 24 [(0, A a0), (1, A a1), (4, .ptr 0 0 0), (5, .arr 3 0 (eL ([] : List T_impl_Value)) true), (6, I 0)] [some ⟨0, Enc.cells ((T_impl_Value.mk 0 0 (ByteArray.mk #[])))⟩] ?_
  refine pwp_block ?_
  refine pwp_loop (ι := Nat × Int × (List T_impl_Value)) (fun (f5, x3, x4) => (⟨24, [(0, A a0), (1, A a1), (4, .ptr 0 0 0), (5, rf 1 0 3 x4), (6, I x3)], [some ⟨0, Enc.cells ((T_impl_Value.mk 0 0 (ByteArray.mk #[])))⟩, sl 0 x4]⟩ : St)) (fun (f5, x3, x4) => spec_l4Value_l0 a0 a1 f5 x3 x4 = some y) Prod.fst (FUEL, 0, ([] : List T_impl_Value)) h (Imp.thawS 5 [0, 1, 4, 5, 6] (by kernel_rfl)) ?_
  rintro ⟨f5, x3, x4⟩ h
  dsimp only at h ⊢
  rcases f5 with _ | f5
  cases h
  rw [spec_l4Value_l0] at h
  refine pwp_seq ?_
  refine srveM [4] 24 [(0, A a0), (1, A a1), (4, .ptr 0 0 0), (5, rf 1 0 3 x4), (6, I x3), (11, B ((decide (x3 < ((a1.length : Int))))))] [some ⟨0, Enc.cells ((T_impl_Value.mk 0 0 (ByteArray.mk #[])))⟩, sl 0 x4] ?_
  refine pc h (fun h => ?_) (fun h => ?_)
  refine pwp_skip ?_
  refine pwp_seq ?_
  refine pwp_block ?_
  refine rvM [4] 4 24 [(0, A a0), (1, A a1), (4, .ptr 0 0 0), (6, I x3), (14, A a0), (15, rf 1 0 3 x4), (16, A a1), (17, I x3)] [some ⟨0, Enc.cells ((T_impl_Value.mk 0 0 (ByteArray.mk #[])))⟩, sl 0 x4] ?_
  obtain ⟨v8, hv9, h⟩ := bindS h
  refine opsP_idx τ_ok 18 hv9 (by kernel_rfl) ?_
  refine vM [4] 1 24 [(0, A a0), (1, A a1), (4, .ptr 0 0 0), (6, I x3), (14, A a0), (15, rf 1 0 3 x4), (19, E v8)] [some ⟨0, Enc.cells ((T_impl_Value.mk 0 0 (ByteArray.mk #[])))⟩, sl 0 x4] ?_
  obtain ⟨v10, hv11, h⟩ := bindS h
  refine opsP_callM (xs := [A a0, rf 1 0 3 x4, E v8]) (x := rf 2 0 3 v10) (bs := [⟨0, eL v10⟩]) τ 20 [1] (nx hX) (ok_spec_l4Do hv11) (by kernel_rfl) (OutL.cons (OutP.frz rfl) (OutL.cons (OutP.list (v := 0) (by kernel_rfl)) (OutL.cons (OutP.frz rfl) (OutL.nil _)))) (by decide) (by kernel_rfl) ?_
  refine veM [4] 1 24 [(0, A a0), (1, A a1), (4, .ptr 0 0 0), (5, rf 2 0 3 v10), (6, I x3)] [some ⟨0, Enc.cells ((T_impl_Value.mk 0 0 (ByteArray.mk #[])))⟩, none, sl 0 v10] ?_
  refine rveM [4] 24 [(0, A a0), (1, A a1), (4, .ptr 0 0 0), (5, rf 2 0 3 v10), (6, I ((w64 (x3 + 1))))] [some ⟨0, Enc.cells ((T_impl_Value.mk 0 0 (ByteArray.mk #[])))⟩, none, sl 0 v10] ?_
  exact ⟨(f5, (w64 (x3 + 1)), v10), h, Nat.lt_succ_self _, (it (st' := ⟨24, [(0, A a0), (1, A a1), (4, .ptr 0 0 0), (5, rf 2 0 3 v10), (6, I ((w64 (x3 + 1))))], [some ⟨0, Enc.cells ((T_impl_Value.mk 0 0 (ByteArray.mk #[])))⟩, none, sl 0 v10]⟩) [0, 1, 4, 5, 6]).trans ((Imp.mvS (st' := ⟨24, [(0, A a0), (1, A a1), (4, .ptr 0 0 0), (5, rf 1 0 3 v10), (6, I ((w64 (x3 + 1))))], [some ⟨0, Enc.cells ((T_impl_Value.mk 0 0 (ByteArray.mk #[])))⟩, sl 0 v10, none]⟩) 2 1 [0, 1, 4, 5, 6] (nx hX) (v := 0) (cs := eL v10) (by kernel_rfl) (by kernel_rfl) (by exact (And.intro (rfl) (And.intro (eL_frz _) trivial))) (by kernel_rfl) (by kernel_rfl)).trans (Imp.truncS 2 (nx hX) (by kernel_rfl) (allBelow_mem (by exact (And.intro rfl (And.intro rfl (And.intro rfl (And.intro rfl (And.intro rfl trivial))))))) (by exact (And.intro (rfl) (And.intro (frz_below (eL_frz _)) trivial))) (by kernel_rfl)))⟩
  refine pwp_exit ?_
  refine srvM [4] 1 24 [(4, .ptr 0 0 0), (21, rf 1 0 3 x4)] [some ⟨0, Enc.cells ((T_impl_Value.mk 0 0 (ByteArray.mk #[])))⟩, sl 0 x4] ?_
  obtain ⟨v12, hv13, h⟩ := bindS h
  refine opsP_idr τ_ok 22 1 0 x4.length hv13 rfl (by kernel_rfl) ?_
  refine opsP_lde (r := E v12) τ_ok 23 35 0 hv13 (by kernel_rfl) (by kernel_rfl) ?_
  refine veM [4] 1 24 [(4, .ptr 0 0 0)] [sc 0 v12, sl 0 x4] ?_
  cases h
  exact pwp_ret rz
def impl_Part_value_j0 (v6 : T_impl_Value) (v8 : T_impl_Value) (x10 : Bool) : Option T_impl_Value := bif x10 then some ((T_impl_Value.mk 0 0 (ByteArray.mk #[]))) else some ((T_impl_Value.mk 1 ((w64 (v6.fN + v8.fN))) (ByteArray.mk #[])))
def impl_Part_value (a0 : T_impl_Part) (a1 : List T_impl_Value) (a2 : List T_impl_Value) : Option T_impl_Value := bif (a0.fKind == 1) then some a0.fV else bif (a0.fKind == 2) then (getI a1 a0.fN).bind fun v3 => some v3 else bif (a0.fKind == 3) then (getI a2 0).bind fun v6 => (getI a2 1).bind fun v8 => (getI a2 0).bind fun v12 => bif (v12.fKind == 0) then impl_Part_value_j0 v6 v8 true else (getI a2 1).bind fun v14 => bif (v14.fKind == 0) then impl_Part_value_j0 v6 v8 true else (impl_Value_ok ((T_impl_Value.mk 1 ((w64 (v6.fN + v8.fN))) (ByteArray.mk #[])))).bind fun v16 => impl_Part_value_j0 v6 v8 ((!v16)) else bif (a0.fKind == 4) then (getI a2 0).bind fun v21 => (getI a2 1).bind fun v23 => (impl_Compare a0.fN v21 v23).bind fun v25 => (impl_ValueOf v25).bind fun v27 => some v27 else bif (a0.fKind == 5) then (getI a2 0).bind fun v30 => (impl_TruthOf v30).bind fun v32 => (getI a2 1).bind fun v34 => (impl_TruthOf v34).bind fun v36 => (impl_AndOf v32 v36).bind fun v38 => (impl_ValueOf v38).bind fun v40 => some v40 else bif (a0.fKind == 6) then (getI a2 0).bind fun v43 => (impl_TruthOf v43).bind fun v45 => (getI a2 1).bind fun v47 => (impl_TruthOf v47).bind fun v49 => (impl_OrOf v45 v49).bind fun v51 => (impl_ValueOf v51).bind fun v53 => some v53 else bif (a0.fKind == 7) then (getI a2 0).bind fun v56 => (impl_TruthOf v56).bind fun v58 => (impl_NotOf v58).bind fun v60 => (impl_ValueOf v60).bind fun v62 => some v62 else (getI a2 0).bind fun v64 => (impl_truthIf ((v64.fKind == 0))).bind fun v66 => (impl_ValueOf v66).bind fun v68 => some v68
theorem ok_impl_Part_value {a0 : T_impl_Part} {a1 : List T_impl_Value} {a2 : List T_impl_Value} {y : T_impl_Value} (h : impl_Part_value a0 a1 a2 = some y) : OK Tryz.prog 188 [E a0, A a1, A a2] (E y) := by
  refine ow Tryz.func188 fun Γ hX => ?_
  unfold impl_Part_value at h
  refine srveM [6, 7] 103 [(1, A a1), (2, A a2), (3, pf a0 0), (6, .ptr 0 0 0)] [some ⟨0, Enc.cells ((T_impl_Value.mk 0 0 (ByteArray.mk #[])))⟩] ?_
  refine pwp_seq ?_
  refine srveM [6, 7] 103 [(1, A a1), (2, A a2), (3, pf a0 0), (6, .ptr 0 0 0), (9, I a0.fKind)] [some ⟨0, Enc.cells ((T_impl_Value.mk 0 0 (ByteArray.mk #[])))⟩] ?_
  refine pwp_block ?_
  refine srveM [6, 7] 103 [(1, A a1), (2, A a2), (3, pf a0 0), (6, .ptr 0 0 0), (9, I a0.fKind), (10, B ((a0.fKind == 1)))] [some ⟨0, Enc.cells ((T_impl_Value.mk 0 0 (ByteArray.mk #[])))⟩] ?_
  refine pc h (fun h => ?_) (fun h => ?_)
  refine srveM [6, 7] 103 [(6, .ptr 0 0 0)] [sc 0 a0.fV] ?_
  cases h
  exact pwp_ret rz
  refine srveM [6, 7] 103 [(1, A a1), (2, A a2), (3, pf a0 0), (6, .ptr 0 0 0), (9, I a0.fKind), (14, B ((a0.fKind == 2)))] [some ⟨0, Enc.cells ((T_impl_Value.mk 0 0 (ByteArray.mk #[])))⟩] ?_
  refine pc h (fun h => ?_) (fun h => ?_)
  refine srvM [6, 7] 3 103 [(6, .ptr 0 0 0), (16, A a1), (18, I a0.fN)] [some ⟨0, Enc.cells ((T_impl_Value.mk 0 0 (ByteArray.mk #[])))⟩] ?_
  obtain ⟨v3, hv4, h⟩ := bindS h
  refine opsP_idx τ_ok 19 hv4 (by kernel_rfl) ?_
  refine veM [6, 7] 2 103 [(6, .ptr 0 0 0)] [sc 0 v3] ?_
  cases h
  exact pwp_ret rz
  refine srveM [6, 7] 103 [(2, A a2), (3, pf a0 0), (6, .ptr 0 0 0), (9, I a0.fKind), (21, B ((a0.fKind == 3)))] [some ⟨0, Enc.cells ((T_impl_Value.mk 0 0 (ByteArray.mk #[])))⟩] ?_
  refine pc h (fun h => ?_) (fun h => ?_)
  refine pwp_seq ?_
  refine ip 103 [(2, A a2), (6, .ptr 0 0 0)] [some ⟨0, Enc.cells ((T_impl_Value.mk 0 0 (ByteArray.mk #[])))⟩] ?_
  refine pwp_imp (Imp.ghosts 1 (st' := ⟨103, [(2, A a2), (6, .ptr 0 0 0)], [some ⟨0, Enc.cells ((T_impl_Value.mk 0 0 (ByteArray.mk #[])))⟩, some ⟨0, []⟩]⟩) (by kernel_rfl)) ?_
  refine pwp_any ([[], [], [], [], [], [], [], [], [], [], [1], [1]]) ([[], [], [], [], [], [], [], [], [], [], [1], [1]]) rfl (by kernel_rfl) ?_
  refine qvM [6, 7] [] trivial 1 103 [(23, A a2), (2, A a2), (6, .ptr 0 0 0)] [some ⟨0, Enc.cells ((T_impl_Value.mk 0 0 (ByteArray.mk #[])))⟩, some ⟨0, []⟩] ?_
  obtain ⟨v6, hv7, h⟩ := bindS h
  refine qX (some 24) (pf v6 0) 103 [(24, pf v6 0), (2, A a2), (6, .ptr 0 0 0)] [some ⟨0, Enc.cells ((T_impl_Value.mk 0 0 (ByteArray.mk #[])))⟩, some ⟨0, []⟩] (fun Γ' hΓ => CoreE.of_y (idxV_sound τ_ok (by kernel_rfl) hv7)) trivial ?_
  refine qvM [6, 7] [] trivial 3 103 [(27, A a2), (26, I v6.fN), (2, A a2), (6, .ptr 0 0 0)] [some ⟨0, Enc.cells ((T_impl_Value.mk 0 0 (ByteArray.mk #[])))⟩, some ⟨0, []⟩] ?_
  obtain ⟨v8, hv9, h⟩ := bindS h
  refine qX (some 28) (pf v8 0) 103 [(28, pf v8 0), (26, I v6.fN), (2, A a2), (6, .ptr 0 0 0)] [some ⟨0, Enc.cells ((T_impl_Value.mk 0 0 (ByteArray.mk #[])))⟩, some ⟨0, []⟩] (fun Γ' hΓ => CoreE.of_y (idxV_sound τ_ok (by kernel_rfl) hv9)) trivial ?_
  refine qvM [6, 7] [] trivial 4 103 [(32, E ((T_impl_Value.mk 1 ((w64 (v6.fN + v8.fN))) (ByteArray.mk #[])))), (2, A a2), (6, .ptr 0 0 0)] [some ⟨0, Enc.cells ((T_impl_Value.mk 0 0 (ByteArray.mk #[])))⟩, some ⟨0, []⟩] ?_
  refine qX (Hm' := [none, some ⟨1, Enc.cells ((T_impl_Value.mk 0 0 (ByteArray.mk #[])))⟩]) (some 7) (.ptr 1 1 0) 103 [(7, .ptr 1 1 0), (32, E ((T_impl_Value.mk 1 ((w64 (v6.fN + v8.fN))) (ByteArray.mk #[])))), (2, A a2), (6, .ptr 0 0 0)] [some ⟨0, Enc.cells ((T_impl_Value.mk 0 0 (ByteArray.mk #[])))⟩, some ⟨1, Enc.cells ((T_impl_Value.mk 0 0 (ByteArray.mk #[])))⟩] (fun Γ' hΓ => alc_E (blk := ⟨0, []⟩) τ_ok [6, 7] 7 1 0 (ny hΓ hX) (by kernel_rfl) (by kernel_rfl)) (hB trivial) ?_
  refine qX (Hm' := [none, some ⟨1, Enc.cells ((T_impl_Value.mk 1 ((w64 (v6.fN + v8.fN))) (ByteArray.mk #[])))⟩]) none (.any) 103 [(7, .ptr 1 1 0), (2, A a2), (6, .ptr 0 0 0)] [some ⟨0, Enc.cells ((T_impl_Value.mk 0 0 (ByteArray.mk #[])))⟩, some ⟨1, Enc.cells ((T_impl_Value.mk 1 ((w64 (v6.fN + v8.fN))) (ByteArray.mk #[])))⟩] (fun Γ' hΓ => sto_E τ_ok 1 1 (by kernel_rfl)) (hB trivial) ?_
  refine qn 103 [(2, A a2), (6, .ptr 0 0 0), (7, .ptr 1 1 0)] [some ⟨0, Enc.cells ((T_impl_Value.mk 0 0 (ByteArray.mk #[])))⟩, some ⟨1, Enc.cells ((T_impl_Value.mk 1 ((w64 (v6.fN + v8.fN))) (ByteArray.mk #[])))⟩] ?_
  refine pwp_seq ?_
  refine pwp_seq ?_
  refine pwp_join (σ := Bool) (fun x10 => (⟨103, [(6, .ptr 0 0 0), (7, .ptr 1 1 0), (49, B x10)], [some ⟨0, Enc.cells ((T_impl_Value.mk 0 0 (ByteArray.mk #[])))⟩, some ⟨1, Enc.cells ((T_impl_Value.mk 1 ((w64 (v6.fN + v8.fN))) (ByteArray.mk #[])))⟩]⟩ : St)) (fun x10 => impl_Part_value_j0 v6 v8 x10 = some y) ?_ ?_
  refine rvM [6, 7] 1 103 [(2, A a2), (6, .ptr 0 0 0), (7, .ptr 1 1 0), (33, A a2)] [some ⟨0, Enc.cells ((T_impl_Value.mk 0 0 (ByteArray.mk #[])))⟩, some ⟨1, Enc.cells ((T_impl_Value.mk 1 ((w64 (v6.fN + v8.fN))) (ByteArray.mk #[])))⟩] ?_
  obtain ⟨v12, hv13, h⟩ := bindS h
  refine opsP_idx τ_ok 34 hv13 (by kernel_rfl) ?_
  refine vM [6, 7] 4 103 [(2, A a2), (6, .ptr 0 0 0), (7, .ptr 1 1 0), (38, B ((v12.fKind == 0)))] [some ⟨0, Enc.cells ((T_impl_Value.mk 0 0 (ByteArray.mk #[])))⟩, some ⟨1, Enc.cells ((T_impl_Value.mk 1 ((w64 (v6.fN + v8.fN))) (ByteArray.mk #[])))⟩] ?_
  rcases fk ((v12.fKind == 0)) with hc19 | hc19
  replace h := bT hc19 h
  rw [hc19]
  refine veM [6, 7] 11 103 [(6, .ptr 0 0 0), (7, .ptr 1 1 0), (49, B true)] [some ⟨0, Enc.cells ((T_impl_Value.mk 0 0 (ByteArray.mk #[])))⟩, some ⟨1, Enc.cells ((T_impl_Value.mk 1 ((w64 (v6.fN + v8.fN))) (ByteArray.mk #[])))⟩] ?_
  exact ⟨true, h, it [6, 7, 49]⟩
  replace h := bF hc19 h
  rw [hc19]
  refine vM [6, 7] 1 103 [(6, .ptr 0 0 0), (7, .ptr 1 1 0), (38, B false), (39, A a2)] [some ⟨0, Enc.cells ((T_impl_Value.mk 0 0 (ByteArray.mk #[])))⟩, some ⟨1, Enc.cells ((T_impl_Value.mk 1 ((w64 (v6.fN + v8.fN))) (ByteArray.mk #[])))⟩] ?_
  obtain ⟨v14, hv15, h⟩ := bindS h
  refine opsP_idx τ_ok 40 hv15 (by kernel_rfl) ?_
  refine vM [6, 7] 5 103 [(6, .ptr 0 0 0), (7, .ptr 1 1 0), (45, B ((v14.fKind == 0)))] [some ⟨0, Enc.cells ((T_impl_Value.mk 0 0 (ByteArray.mk #[])))⟩, some ⟨1, Enc.cells ((T_impl_Value.mk 1 ((w64 (v6.fN + v8.fN))) (ByteArray.mk #[])))⟩] ?_
  rcases fk ((v14.fKind == 0)) with hc18 | hc18
  replace h := bT hc18 h
  rw [hc18]
  refine veM [6, 7] 4 103 [(6, .ptr 0 0 0), (7, .ptr 1 1 0), (49, B true)] [some ⟨0, Enc.cells ((T_impl_Value.mk 0 0 (ByteArray.mk #[])))⟩, some ⟨1, Enc.cells ((T_impl_Value.mk 1 ((w64 (v6.fN + v8.fN))) (ByteArray.mk #[])))⟩] ?_
  exact ⟨true, h, it [6, 7, 49]⟩
  replace h := bF hc18 h
  rw [hc18]
  refine vM [6, 7] 1 103 [(6, .ptr 0 0 0), (7, .ptr 1 1 0), (45, B false), (46, E ((T_impl_Value.mk 1 ((w64 (v6.fN + v8.fN))) (ByteArray.mk #[]))))] [some ⟨0, Enc.cells ((T_impl_Value.mk 0 0 (ByteArray.mk #[])))⟩, some ⟨1, Enc.cells ((T_impl_Value.mk 1 ((w64 (v6.fN + v8.fN))) (ByteArray.mk #[])))⟩] ?_
  obtain ⟨v16, hv17, h⟩ := bindS h
  refine cF 47 (ok_impl_Value_ok hv17) ?_
  refine veM [6, 7] 2 103 [(6, .ptr 0 0 0), (7, .ptr 1 1 0), (49, B ((!v16)))] [some ⟨0, Enc.cells ((T_impl_Value.mk 0 0 (ByteArray.mk #[])))⟩, some ⟨1, Enc.cells ((T_impl_Value.mk 1 ((w64 (v6.fN + v8.fN))) (ByteArray.mk #[])))⟩] ?_
  exact ⟨(!v16), h, it [6, 7, 49]⟩
  rintro x10 h
  unfold impl_Part_value_j0 at h
  refine pc h (fun h => ?_) (fun h => ?_)
  refine srveM [6, 7] 103 [(6, .ptr 0 0 0)] [some ⟨0, Enc.cells ((T_impl_Value.mk 0 0 (ByteArray.mk #[])))⟩, some ⟨1, Enc.cells ((T_impl_Value.mk 1 ((w64 (v6.fN + v8.fN))) (ByteArray.mk #[])))⟩] ?_
  cases h
  exact pwp_ret rz
  refine pwp_skip ?_
  refine srveM [6, 7] 103 [(6, .ptr 0 0 0)] [some ⟨0, Enc.cells ((T_impl_Value.mk 1 ((w64 (v6.fN + v8.fN))) (ByteArray.mk #[])))⟩, some ⟨1, Enc.cells ((T_impl_Value.mk 1 ((w64 (v6.fN + v8.fN))) (ByteArray.mk #[])))⟩] ?_
  cases h
  exact pwp_ret rz
  refine srveM [6, 7] 103 [(2, A a2), (3, pf a0 0), (6, .ptr 0 0 0), (9, I a0.fKind), (52, B ((a0.fKind == 4)))] [some ⟨0, Enc.cells ((T_impl_Value.mk 0 0 (ByteArray.mk #[])))⟩] ?_
  refine pc h (fun h => ?_) (fun h => ?_)
  refine pwp_seq ?_
  refine ip 103 [(2, A a2), (3, pf a0 0), (6, .ptr 0 0 0)] [some ⟨0, Enc.cells ((T_impl_Value.mk 0 0 (ByteArray.mk #[])))⟩] ?_
  refine pwp_any ([[], [], [], [], [], [], [], [], [], [], [0]]) ([[], [], [], [], [], [], [], [], [], [], [0]]) rfl (by kernel_rfl) ?_
  refine qvM [6, 7] [] trivial 3 103 [(56, A a2), (55, I a0.fN), (2, A a2), (6, .ptr 0 0 0)] [some ⟨0, Enc.cells ((T_impl_Value.mk 0 0 (ByteArray.mk #[])))⟩] ?_
  obtain ⟨v21, hv22, h⟩ := bindS h
  refine qX (some 57) (pf v21 0) 103 [(57, pf v21 0), (55, I a0.fN), (2, A a2), (6, .ptr 0 0 0)] [some ⟨0, Enc.cells ((T_impl_Value.mk 0 0 (ByteArray.mk #[])))⟩] (fun Γ' hΓ => CoreE.of_y (idxV_sound τ_ok (by kernel_rfl) hv22)) trivial ?_
  refine qvM [6, 7] [] trivial 2 103 [(59, A a2), (58, E v21), (55, I a0.fN), (6, .ptr 0 0 0)] [some ⟨0, Enc.cells ((T_impl_Value.mk 0 0 (ByteArray.mk #[])))⟩] ?_
  obtain ⟨v23, hv24, h⟩ := bindS h
  refine qX (some 60) (pf v23 0) 103 [(60, pf v23 0), (58, E v21), (55, I a0.fN), (6, .ptr 0 0 0)] [some ⟨0, Enc.cells ((T_impl_Value.mk 0 0 (ByteArray.mk #[])))⟩] (fun Γ' hΓ => CoreE.of_y (idxV_sound τ_ok (by kernel_rfl) hv24)) trivial ?_
  refine qvM [6, 7] [] trivial 1 103 [(61, E v23), (58, E v21), (55, I a0.fN), (6, .ptr 0 0 0)] [some ⟨0, Enc.cells ((T_impl_Value.mk 0 0 (ByteArray.mk #[])))⟩] ?_
  obtain ⟨v25, hv26, h⟩ := bindS h
  refine qX (some 62) (I v25) 103 [(62, I v25), (6, .ptr 0 0 0)] [some ⟨0, Enc.cells ((T_impl_Value.mk 0 0 (ByteArray.mk #[])))⟩] (fun Γ' hΓ => CoreE.of_g (callV_sound (τ := τ) (by kernel_rfl) rfl (ok_impl_Compare hv26) (FzTo.frz rfl))) trivial ?_
  obtain ⟨v27, hv28, h⟩ := bindS h
  refine qX (some 63) (E v27) 103 [(63, E v27), (6, .ptr 0 0 0)] [some ⟨0, Enc.cells ((T_impl_Value.mk 0 0 (ByteArray.mk #[])))⟩] (fun Γ' hΓ => CoreE.of_g (callV_sound (τ := τ) (by kernel_rfl) rfl (ok_impl_ValueOf hv28) (FzTo.frz rfl))) trivial ?_
  refine qX (Hm' := [sc 0 v27]) none (.any) 103 [(6, .ptr 0 0 0)] [sc 0 v27] (fun Γ' hΓ => sto_E τ_ok 0 0 (by kernel_rfl)) (hB trivial) ?_
  refine qn 103 [(6, .ptr 0 0 0)] [sc 0 v27] ?_
  cases h
  exact pwp_ret rz
  refine srveM [6, 7] 103 [(2, A a2), (6, .ptr 0 0 0), (9, I a0.fKind), (64, B ((a0.fKind == 5)))] [some ⟨0, Enc.cells ((T_impl_Value.mk 0 0 (ByteArray.mk #[])))⟩] ?_
  refine pc h (fun h => ?_) (fun h => ?_)
  refine pwp_seq ?_
  refine ip 103 [(2, A a2), (6, .ptr 0 0 0)] [some ⟨0, Enc.cells ((T_impl_Value.mk 0 0 (ByteArray.mk #[])))⟩] ?_
  refine pwp_any ([[], [], [], [], [], [], [], [], [], [], [0]]) ([[], [], [], [], [], [], [], [], [], [], [0]]) rfl (by kernel_rfl) ?_
  refine qvM [6, 7] [] trivial 1 103 [(66, A a2), (2, A a2), (6, .ptr 0 0 0)] [some ⟨0, Enc.cells ((T_impl_Value.mk 0 0 (ByteArray.mk #[])))⟩] ?_
  obtain ⟨v30, hv31, h⟩ := bindS h
  refine qX (some 67) (pf v30 0) 103 [(67, pf v30 0), (2, A a2), (6, .ptr 0 0 0)] [some ⟨0, Enc.cells ((T_impl_Value.mk 0 0 (ByteArray.mk #[])))⟩] (fun Γ' hΓ => CoreE.of_y (idxV_sound τ_ok (by kernel_rfl) hv31)) trivial ?_
  refine qvM [6, 7] [] trivial 1 103 [(68, E v30), (2, A a2), (6, .ptr 0 0 0)] [some ⟨0, Enc.cells ((T_impl_Value.mk 0 0 (ByteArray.mk #[])))⟩] ?_
  obtain ⟨v32, hv33, h⟩ := bindS h
  refine qX (some 69) (I v32) 103 [(69, I v32), (2, A a2), (6, .ptr 0 0 0)] [some ⟨0, Enc.cells ((T_impl_Value.mk 0 0 (ByteArray.mk #[])))⟩] (fun Γ' hΓ => CoreE.of_g (callV_sound (τ := τ) (by kernel_rfl) rfl (ok_impl_TruthOf hv33) (FzTo.frz rfl))) trivial ?_
  refine qvM [6, 7] [] trivial 1 103 [(70, A a2), (69, I v32), (6, .ptr 0 0 0)] [some ⟨0, Enc.cells ((T_impl_Value.mk 0 0 (ByteArray.mk #[])))⟩] ?_
  obtain ⟨v34, hv35, h⟩ := bindS h
  refine qX (some 71) (pf v34 0) 103 [(71, pf v34 0), (69, I v32), (6, .ptr 0 0 0)] [some ⟨0, Enc.cells ((T_impl_Value.mk 0 0 (ByteArray.mk #[])))⟩] (fun Γ' hΓ => CoreE.of_y (idxV_sound τ_ok (by kernel_rfl) hv35)) trivial ?_
  refine qvM [6, 7] [] trivial 1 103 [(72, E v34), (69, I v32), (6, .ptr 0 0 0)] [some ⟨0, Enc.cells ((T_impl_Value.mk 0 0 (ByteArray.mk #[])))⟩] ?_
  obtain ⟨v36, hv37, h⟩ := bindS h
  refine qX (some 73) (I v36) 103 [(73, I v36), (69, I v32), (6, .ptr 0 0 0)] [some ⟨0, Enc.cells ((T_impl_Value.mk 0 0 (ByteArray.mk #[])))⟩] (fun Γ' hΓ => CoreE.of_g (callV_sound (τ := τ) (by kernel_rfl) rfl (ok_impl_TruthOf hv37) (FzTo.frz rfl))) trivial ?_
  obtain ⟨v38, hv39, h⟩ := bindS h
  refine qX (some 74) (I v38) 103 [(74, I v38), (6, .ptr 0 0 0)] [some ⟨0, Enc.cells ((T_impl_Value.mk 0 0 (ByteArray.mk #[])))⟩] (fun Γ' hΓ => CoreE.of_g (callV_sound (τ := τ) (by kernel_rfl) rfl (ok_impl_AndOf hv39) (FzTo.frz rfl))) trivial ?_
  obtain ⟨v40, hv41, h⟩ := bindS h
  refine qX (some 75) (E v40) 103 [(75, E v40), (6, .ptr 0 0 0)] [some ⟨0, Enc.cells ((T_impl_Value.mk 0 0 (ByteArray.mk #[])))⟩] (fun Γ' hΓ => CoreE.of_g (callV_sound (τ := τ) (by kernel_rfl) rfl (ok_impl_ValueOf hv41) (FzTo.frz rfl))) trivial ?_
  refine qX (Hm' := [sc 0 v40]) none (.any) 103 [(6, .ptr 0 0 0)] [sc 0 v40] (fun Γ' hΓ => sto_E τ_ok 0 0 (by kernel_rfl)) (hB trivial) ?_
  refine qn 103 [(6, .ptr 0 0 0)] [sc 0 v40] ?_
  cases h
  exact pwp_ret rz
  refine srveM [6, 7] 103 [(2, A a2), (6, .ptr 0 0 0), (9, I a0.fKind), (76, B ((a0.fKind == 6)))] [some ⟨0, Enc.cells ((T_impl_Value.mk 0 0 (ByteArray.mk #[])))⟩] ?_
  refine pc h (fun h => ?_) (fun h => ?_)
  refine pwp_seq ?_
  refine ip 103 [(2, A a2), (6, .ptr 0 0 0)] [some ⟨0, Enc.cells ((T_impl_Value.mk 0 0 (ByteArray.mk #[])))⟩] ?_
  refine pwp_any ([[], [], [], [], [], [], [], [], [], [], [0]]) ([[], [], [], [], [], [], [], [], [], [], [0]]) rfl (by kernel_rfl) ?_
  refine qvM [6, 7] [] trivial 1 103 [(78, A a2), (2, A a2), (6, .ptr 0 0 0)] [some ⟨0, Enc.cells ((T_impl_Value.mk 0 0 (ByteArray.mk #[])))⟩] ?_
  obtain ⟨v43, hv44, h⟩ := bindS h
  refine qX (some 79) (pf v43 0) 103 [(79, pf v43 0), (2, A a2), (6, .ptr 0 0 0)] [some ⟨0, Enc.cells ((T_impl_Value.mk 0 0 (ByteArray.mk #[])))⟩] (fun Γ' hΓ => CoreE.of_y (idxV_sound τ_ok (by kernel_rfl) hv44)) trivial ?_
  refine qvM [6, 7] [] trivial 1 103 [(80, E v43), (2, A a2), (6, .ptr 0 0 0)] [some ⟨0, Enc.cells ((T_impl_Value.mk 0 0 (ByteArray.mk #[])))⟩] ?_
  obtain ⟨v45, hv46, h⟩ := bindS h
  refine qX (some 81) (I v45) 103 [(81, I v45), (2, A a2), (6, .ptr 0 0 0)] [some ⟨0, Enc.cells ((T_impl_Value.mk 0 0 (ByteArray.mk #[])))⟩] (fun Γ' hΓ => CoreE.of_g (callV_sound (τ := τ) (by kernel_rfl) rfl (ok_impl_TruthOf hv46) (FzTo.frz rfl))) trivial ?_
  refine qvM [6, 7] [] trivial 1 103 [(82, A a2), (81, I v45), (6, .ptr 0 0 0)] [some ⟨0, Enc.cells ((T_impl_Value.mk 0 0 (ByteArray.mk #[])))⟩] ?_
  obtain ⟨v47, hv48, h⟩ := bindS h
  refine qX (some 83) (pf v47 0) 103 [(83, pf v47 0), (81, I v45), (6, .ptr 0 0 0)] [some ⟨0, Enc.cells ((T_impl_Value.mk 0 0 (ByteArray.mk #[])))⟩] (fun Γ' hΓ => CoreE.of_y (idxV_sound τ_ok (by kernel_rfl) hv48)) trivial ?_
  refine qvM [6, 7] [] trivial 1 103 [(84, E v47), (81, I v45), (6, .ptr 0 0 0)] [some ⟨0, Enc.cells ((T_impl_Value.mk 0 0 (ByteArray.mk #[])))⟩] ?_
  obtain ⟨v49, hv50, h⟩ := bindS h
  refine qX (some 85) (I v49) 103 [(85, I v49), (81, I v45), (6, .ptr 0 0 0)] [some ⟨0, Enc.cells ((T_impl_Value.mk 0 0 (ByteArray.mk #[])))⟩] (fun Γ' hΓ => CoreE.of_g (callV_sound (τ := τ) (by kernel_rfl) rfl (ok_impl_TruthOf hv50) (FzTo.frz rfl))) trivial ?_
  obtain ⟨v51, hv52, h⟩ := bindS h
  refine qX (some 86) (I v51) 103 [(86, I v51), (6, .ptr 0 0 0)] [some ⟨0, Enc.cells ((T_impl_Value.mk 0 0 (ByteArray.mk #[])))⟩] (fun Γ' hΓ => CoreE.of_g (callV_sound (τ := τ) (by kernel_rfl) rfl (ok_impl_OrOf hv52) (FzTo.frz rfl))) trivial ?_
  obtain ⟨v53, hv54, h⟩ := bindS h
  refine qX (some 87) (E v53) 103 [(87, E v53), (6, .ptr 0 0 0)] [some ⟨0, Enc.cells ((T_impl_Value.mk 0 0 (ByteArray.mk #[])))⟩] (fun Γ' hΓ => CoreE.of_g (callV_sound (τ := τ) (by kernel_rfl) rfl (ok_impl_ValueOf hv54) (FzTo.frz rfl))) trivial ?_
  refine qX (Hm' := [sc 0 v53]) none (.any) 103 [(6, .ptr 0 0 0)] [sc 0 v53] (fun Γ' hΓ => sto_E τ_ok 0 0 (by kernel_rfl)) (hB trivial) ?_
  refine qn 103 [(6, .ptr 0 0 0)] [sc 0 v53] ?_
  cases h
  exact pwp_ret rz
  refine srveM [6, 7] 103 [(2, A a2), (6, .ptr 0 0 0), (88, B ((a0.fKind == 7)))] [some ⟨0, Enc.cells ((T_impl_Value.mk 0 0 (ByteArray.mk #[])))⟩] ?_
  refine pc h (fun h => ?_) (fun h => ?_)
  refine srvM [6, 7] 1 103 [(6, .ptr 0 0 0), (90, A a2)] [some ⟨0, Enc.cells ((T_impl_Value.mk 0 0 (ByteArray.mk #[])))⟩] ?_
  obtain ⟨v56, hv57, h⟩ := bindS h
  refine opsP_idx τ_ok 91 hv57 (by kernel_rfl) ?_
  refine vM [6, 7] 1 103 [(6, .ptr 0 0 0), (92, E v56)] [some ⟨0, Enc.cells ((T_impl_Value.mk 0 0 (ByteArray.mk #[])))⟩] ?_
  obtain ⟨v58, hv59, h⟩ := bindS h
  refine cF 93 (ok_impl_TruthOf hv59) ?_
  obtain ⟨v60, hv61, h⟩ := bindS h
  refine cF 94 (ok_impl_NotOf hv61) ?_
  obtain ⟨v62, hv63, h⟩ := bindS h
  refine cF 95 (ok_impl_ValueOf hv63) ?_
  refine veM [6, 7] 1 103 [(6, .ptr 0 0 0)] [sc 0 v62] ?_
  cases h
  exact pwp_ret rz
  refine pwp_skip ?_
  refine srvM [6, 7] 1 103 [(6, .ptr 0 0 0), (96, A a2)] [some ⟨0, Enc.cells ((T_impl_Value.mk 0 0 (ByteArray.mk #[])))⟩] ?_
  obtain ⟨v64, hv65, h⟩ := bindS h
  refine opsP_idx τ_ok 97 hv65 (by kernel_rfl) ?_
  refine vM [6, 7] 3 103 [(6, .ptr 0 0 0), (100, B ((v64.fKind == 0)))] [some ⟨0, Enc.cells ((T_impl_Value.mk 0 0 (ByteArray.mk #[])))⟩] ?_
  obtain ⟨v66, hv67, h⟩ := bindS h
  refine cF 101 (ok_impl_truthIf hv67) ?_
  obtain ⟨v68, hv69, h⟩ := bindS h
  refine cF 102 (ok_impl_ValueOf hv69) ?_
  refine veM [6, 7] 1 103 [(6, .ptr 0 0 0)] [sc 0 v68] ?_
  cases h
  exact pwp_ret rz
def spec_l20Fit_L1_l0 (a1 : List T_impl_Column) (a2 : Int) : Nat → Int → T_spec_l20Rd → (List T_impl_Value) → Option ((List T_impl_Value) × T_spec_l20Rd)
  | 0, _, _, _ => none
  | f7 + 1, x4, x5, x6 => bif (decide (x4 < ((a1.length : Int)))) then (getI a1 x4).bind fun v10 => (spec_l20Like x5 v10).bind fun v12 => (app x6 (([v12.1] : List T_impl_Value))).bind fun v14 => (spec_l20Fit_L1_l0 a1 a2 f7) ((w64 (x4 + 1))) v12.2 v14 else (spec_l20Rd_odd x5 a2).bind fun v16 => bif v16.1 then (spec_l20Rd_pick v16.2 3).bind fun v19 => bif (v19.1 == 0) then (app x6 (([(T_impl_Value.mk 0 0 (ByteArray.mk #[]))] : List T_impl_Value))).bind fun v22 => some (v22, v19.2) else bif (v19.1 == 1) then bif (decide (((x6.length : Int)) > 0)) then (spec_l20Rd_pick v19.2 ((x6.length : Int))).bind fun v26 => (spec_l20Value v26.2 3).bind fun v28 => (getI x6 v26.1).bind fun v30 => some (((x6.set v26.1.toNat v28.1)), v28.2) else some (x6, v19.2) else (spec_l20Value v19.2 0).bind fun v32 => (spec_l20Value v32.2 0).bind fun v34 => (spec_l20Value v34.2 0).bind fun v36 => (app x6 (([v32.1, v34.1, v36.1] : List T_impl_Value))).bind fun v38 => some (v38, v36.2) else some (x6, v16.2)
def spec_l20Fit_L1 (a0 : T_spec_l20Rd) (a1 : List T_impl_Column) (a2 : Int) : Option ((List T_impl_Value) × T_spec_l20Rd) := spec_l20Fit_L1_l0 a1 a2 FUEL 0 a0 (([] : List T_impl_Value))
theorem ok_spec_l20Fit_L1 {a0 : T_spec_l20Rd} {a1 : List T_impl_Column} {a2 : Int} {y : (List T_impl_Value) × T_spec_l20Rd} (h : spec_l20Fit_L1 a0 a1 a2 = some y) : OKx Tryz.prog 149 (Enc.cells a0) [] 2 a1.length (eL a1) [I a2] (O y.1) (Enc.cells y.2) := by
  refine OKx_of_pwp τ_ok Tryz.func149 rfl (by kernel_rfl) rfl (Enc.frz _) (Enc.frz _) (eL_frz _) fun Γ hQ => ?_
  refine pwp_imp (Imp.to (st' := ⟨59, [(0, .ptr 0 0 0), (1, rf 1 0 2 a1), (2, I a2)], [sc 0 a0, sl 0 a1]⟩) [0, 1, 2] (by kernel_rfl)) ?_
  unfold spec_l20Fit_L1 at h
  refine srve 59 [(0, .ptr 0 0 0), (1, rf 1 0 2 a1), (2, I a2)] [sc 0 a0, sl 0 a1] ?_
  refine srve 59 [(0, .ptr 0 0 0), (1, rf 1 0 2 a1), (2, I a2), (7, .arr 3 0 (eL ([] : List T_impl_Value)) true)] [sc 0 a0, sl 0 a1] ?_
  refine pwp_seq ?_
  refine srve 59 [(0, .ptr 0 0 0), (1, rf 1 0 2 a1), (2, I a2), (7, .arr 3 0 (eL ([] : List T_impl_Value)) true), (8, I 0)] [sc 0 a0, sl 0 a1] ?_
  refine pwp_block ?_
  refine pwp_loop (ι := Nat × Int × T_spec_l20Rd × (List T_impl_Value)) (fun (f7, x4, x5, x6) => (⟨59, [(0, .ptr 0 0 0), (1, rf 1 0 2 a1), (2, I a2), (7, rf 2 0 3 x6), (8, I x4)], [sc 0 x5, sl 0 a1, sl 0 x6]⟩ : St)) (fun (f7, x4, x5, x6) => spec_l20Fit_L1_l0 a1 a2 f7 x4 x5 x6 = some y) Prod.fst (FUEL, 0, a0, ([] : List T_impl_Value)) h (Imp.thawS 7 [0, 1, 2, 7, 8] (by kernel_rfl)) ?_
  rintro ⟨f7, x4, x5, x6⟩ h
  dsimp only at h ⊢
  rcases f7 with _ | f7
  cases h
  rw [spec_l20Fit_L1_l0] at h
  refine pwp_seq ?_
  refine srve 59 [(0, .ptr 0 0 0), (1, rf 1 0 2 a1), (2, I a2), (7, rf 2 0 3 x6), (8, I x4), (13, B ((decide (x4 < ((a1.length : Int))))))] [sc 0 x5, sl 0 a1, sl 0 x6] ?_
  refine pc h (fun h => ?_) (fun h => ?_)
  refine pwp_skip ?_
  refine pwp_seq ?_
  refine pwp_block ?_
  refine rv 4 59 [(0, .ptr 0 0 0), (1, rf 1 0 2 a1), (2, I a2), (8, I x4), (16, rf 2 0 3 x6), (17, .ptr 0 0 0), (18, rf 1 0 2 a1), (19, I x4)] [sc 0 x5, sl 0 a1, sl 0 x6] ?_
  obtain ⟨v10, hv11, h⟩ := bindS h
  refine opsP_idr τ_ok 20 1 0 a1.length hv11 rfl (by kernel_rfl) ?_
  refine opsP_lde (r := E v10) τ_ok 21 84 0 hv11 (by kernel_rfl) (by kernel_rfl) ?_
  obtain ⟨v12, hv13, h⟩ := bindS h
  refine cB 22 0 0 (ok_spec_l20Like hv13) ?_
  refine v 1 59 [(0, .ptr 0 0 0), (1, rf 1 0 2 a1), (2, I a2), (8, I x4), (16, rf 2 0 3 x6), (23, .arr 3 (([v12.1] : List T_impl_Value)).length (eL ([v12.1] : List T_impl_Value)) true)] [sc 0 v12.2, sl 0 a1, sl 0 x6] ?_
  obtain ⟨v14, hv15, h⟩ := bindS h
  refine opsP_app τ_ok 24 2 0 (pn hQ) hv15 (by kernel_rfl) ?_
  refine ve 1 59 [(0, .ptr 0 0 0), (1, rf 1 0 2 a1), (2, I a2), (7, rf 2 1 3 v14), (8, I x4)] [sc 0 v12.2, sl 0 a1, sl 1 v14] ?_
  refine rve 59 [(0, .ptr 0 0 0), (1, rf 1 0 2 a1), (2, I a2), (7, rf 2 1 3 v14), (8, I ((w64 (x4 + 1))))] [sc 0 v12.2, sl 0 a1, sl 1 v14] ?_
  exact ⟨(f7, (w64 (x4 + 1)), v12.2, v14), h, Nat.lt_succ_self _, (it (st' := ⟨59, [(0, .ptr 0 0 0), (1, rf 1 0 2 a1), (2, I a2), (7, rf 2 1 3 v14), (8, I ((w64 (x4 + 1))))], [sc 0 v12.2, sl 0 a1, sl 1 v14]⟩) [0, 1, 2, 7, 8]).trans (Imp.reverS 2 1 (eL v14) [0, 1, 2, 7, 8] (by kernel_rfl) (by exact (And.intro (rfl) (And.intro (eL_frz _) (And.intro (eL_frz _) trivial)))) (by kernel_rfl))⟩
  refine pwp_exit ?_
  refine pwp_seq ?_
  refine srv 2 59 [(0, .ptr 0 0 0), (7, rf 2 0 3 x6), (25, .ptr 0 0 0), (26, I a2)] [sc 0 x5, sl 0 a1, sl 0 x6] ?_
  obtain ⟨v16, hv17, h⟩ := bindS h
  refine cB 27 0 0 (ok_spec_l20Rd_odd hv17) ?_
  refine ve 0 59 [(0, .ptr 0 0 0), (7, rf 2 0 3 x6), (27, B v16.1)] [sc 0 v16.2, sl 0 a1, sl 0 x6] ?_
  refine pc h (fun h => ?_) (fun h => ?_)
  refine srv 1 59 [(0, .ptr 0 0 0), (7, rf 2 0 3 x6), (28, .ptr 0 0 0)] [sc 0 v16.2, sl 0 a1, sl 0 x6] ?_
  obtain ⟨v19, hv20, h⟩ := bindS h
  refine cB 29 0 0 (ok_spec_l20Rd_pick hv20) ?_
  refine ve 0 59 [(0, .ptr 0 0 0), (7, rf 2 0 3 x6), (29, I v19.1)] [sc 0 v19.2, sl 0 a1, sl 0 x6] ?_
  refine pwp_block ?_
  refine srve 59 [(0, .ptr 0 0 0), (7, rf 2 0 3 x6), (29, I v19.1), (39, B ((v19.1 == 0)))] [sc 0 v19.2, sl 0 a1, sl 0 x6] ?_
  refine pc h (fun h => ?_) (fun h => ?_)
  refine rv 3 59 [(41, rf 2 0 3 x6), (43, .arr 3 (([(T_impl_Value.mk 0 0 (ByteArray.mk #[]))] : List T_impl_Value)).length (eL ([(T_impl_Value.mk 0 0 (ByteArray.mk #[]))] : List T_impl_Value)) true)] [sc 0 v19.2, sl 0 a1, sl 0 x6] ?_
  obtain ⟨v22, hv23, h⟩ := bindS h
  refine opsP_app τ_ok 44 2 0 (pn hQ) hv23 (by kernel_rfl) ?_
  refine ve 1 59 [(7, rf 2 1 3 v22)] [sc 0 v19.2, sl 0 a1, sl 1 v22] ?_
  refine srve 59 [(6, rf 2 1 3 v22)] [sc 0 v19.2, sl 0 a1, sl 1 v22] ?_
  have h := si h
  subst h
  exact pwp_ret ⟨.inr rfl, rf 2 1 3 v22, _, 0, 0, by kernel_rfl, (OutP.list (v := 1) (by kernel_rfl)), by decide, by decide, by kernel_rfl, by kernel_rfl⟩
  refine srve 59 [(0, .ptr 0 0 0), (7, rf 2 0 3 x6), (45, B ((v19.1 == 1)))] [sc 0 v19.2, sl 0 a1, sl 0 x6] ?_
  refine pc h (fun h => ?_) (fun h => ?_)
  refine srve 59 [(0, .ptr 0 0 0), (7, rf 2 0 3 x6), (49, B ((decide (((x6.length : Int)) > 0))))] [sc 0 v19.2, sl 0 a1, sl 0 x6] ?_
  refine pc h (fun h => ?_) (fun h => ?_)
  refine rv 4 59 [(0, .ptr 0 0 0), (7, rf 2 0 3 x6), (50, rf 2 0 3 x6), (51, .ptr 0 0 0), (53, I ((x6.length : Int)))] [sc 0 v19.2, sl 0 a1, sl 0 x6] ?_
  obtain ⟨v26, hv27, h⟩ := bindS h
  refine cB 54 0 0 (ok_spec_l20Rd_pick hv27) ?_
  refine v 1 59 [(7, rf 2 0 3 x6), (50, rf 2 0 3 x6), (54, I v26.1), (55, .ptr 0 0 0)] [sc 0 v26.2, sl 0 a1, sl 0 x6] ?_
  obtain ⟨v28, hv29, h⟩ := bindS h
  refine cB 56 0 0 (ok_spec_l20Value hv29) ?_
  obtain ⟨v30, hv31, h⟩ := bindS h
  refine opsP_idr τ_ok 57 2 0 x6.length hv31 rfl (by kernel_rfl) ?_
  refine v 0 59 [(7, rf 2 0 3 x6), (56, E v28.1), (57, .ptr 2 0 (v26.1.toNat * 3))] [sc 0 v28.2, sl 0 a1, sl 0 x6] ?_
  refine opsP_ste (vs := [I v28.1.fKind, I v28.1.fN, S v28.1.fS]) τ_ok 35 2 0 0 v28.1 hv31 (by kernel_rfl) (by kernel_rfl) (by kernel_rfl) (renC (ren_ref (List.length_set ..).symm) (renC trivial (renC trivial renC0))) ?_
  refine ve 0 59 [(7, .ref 2 0 0 3 ((x6.set v26.1.toNat v28.1)).length false)] [sc 0 v28.2, sl 0 a1, some ⟨0, eL ((x6.set v26.1.toNat v28.1))⟩] ?_
  refine srve 59 [(6, .ref 2 0 0 3 ((x6.set v26.1.toNat v28.1)).length false)] [sc 0 v28.2, sl 0 a1, some ⟨0, eL ((x6.set v26.1.toNat v28.1))⟩] ?_
  have h := si h
  subst h
  exact pwp_ret ⟨.inr rfl, .ref 2 0 0 3 ((x6.set v26.1.toNat v28.1)).length false, _, 0, 0, by kernel_rfl, (OutP.list (v := 0) (by kernel_rfl)), by decide, by decide, by kernel_rfl, by kernel_rfl⟩
  refine pwp_skip ?_
  refine srve 59 [(6, rf 2 0 3 x6)] [sc 0 v19.2, sl 0 a1, sl 0 x6] ?_
  have h := si h
  subst h
  exact pwp_ret ⟨.inr rfl, rf 2 0 3 x6, _, 0, 0, by kernel_rfl, (OutP.list (v := 0) (by kernel_rfl)), by decide, by decide, by kernel_rfl, by kernel_rfl⟩
  refine rv 2 59 [(0, .ptr 0 0 0), (30, rf 2 0 3 x6), (31, .ptr 0 0 0)] [sc 0 v19.2, sl 0 a1, sl 0 x6] ?_
  obtain ⟨v32, hv33, h⟩ := bindS h
  refine cB 32 0 0 (ok_spec_l20Value hv33) ?_
  refine v 1 59 [(0, .ptr 0 0 0), (30, rf 2 0 3 x6), (32, E v32.1), (33, .ptr 0 0 0)] [sc 0 v32.2, sl 0 a1, sl 0 x6] ?_
  obtain ⟨v34, hv35, h⟩ := bindS h
  refine cB 34 0 0 (ok_spec_l20Value hv35) ?_
  refine v 1 59 [(30, rf 2 0 3 x6), (32, E v32.1), (34, E v34.1), (35, .ptr 0 0 0)] [sc 0 v34.2, sl 0 a1, sl 0 x6] ?_
  obtain ⟨v36, hv37, h⟩ := bindS h
  refine cB 36 0 0 (ok_spec_l20Value hv37) ?_
  refine v 1 59 [(30, rf 2 0 3 x6), (37, .arr 3 (([v32.1, v34.1, v36.1] : List T_impl_Value)).length (eL ([v32.1, v34.1, v36.1] : List T_impl_Value)) true)] [sc 0 v36.2, sl 0 a1, sl 0 x6] ?_
  obtain ⟨v38, hv39, h⟩ := bindS h
  refine opsP_app τ_ok 38 2 0 (pn hQ) hv39 (by kernel_rfl) ?_
  refine ve 1 59 [(7, rf 2 1 3 v38)] [sc 0 v36.2, sl 0 a1, sl 1 v38] ?_
  refine srve 59 [(6, rf 2 1 3 v38)] [sc 0 v36.2, sl 0 a1, sl 1 v38] ?_
  have h := si h
  subst h
  exact pwp_ret ⟨.inr rfl, rf 2 1 3 v38, _, 0, 0, by kernel_rfl, (OutP.list (v := 1) (by kernel_rfl)), by decide, by decide, by kernel_rfl, by kernel_rfl⟩
  refine pwp_skip ?_
  refine srve 59 [(6, rf 2 0 3 x6)] [sc 0 v16.2, sl 0 a1, sl 0 x6] ?_
  have h := si h
  subst h
  exact pwp_ret ⟨.inr rfl, rf 2 0 3 x6, _, 0, 0, by kernel_rfl, (OutP.list (v := 0) (by kernel_rfl)), by decide, by decide, by kernel_rfl, by kernel_rfl⟩
def impl_RowsOk (a0 : List T_impl_Column) (a1 : List (List T_impl_Value)) : Option Bool := (impl_ColumnsOk a0).bind fun v1 => bif v1 then (slices_ContainsFunc_impl_Value_impl_Value_s3 a1 (fun z0 => impl_RowsOk_1 z0 a0)).bind fun v3 => some ((!v3)) else some false
theorem ok_impl_RowsOk {a0 : List T_impl_Column} {a1 : List (List T_impl_Value)} {y : Bool} (h : impl_RowsOk a0 a1 = some y) : OK Tryz.prog 16 [A a0, A a1] (B y) := by
  refine ow Tryz.func16 fun Γ hX => ?_
  unfold impl_RowsOk at h
  refine srve 13 [(1, A a1), (2, pf a0 0)] [] ?_
  refine srv 1 13 [(1, A a1), (2, pf a0 0), (5, A a0)] [] ?_
  obtain ⟨v1, hv2, h⟩ := bindS h
  refine cF 6 (ok_impl_ColumnsOk hv2) ?_
  refine v 1 13 [(1, A a1), (2, pf a0 0), (7, B v1)] [] ?_
  rcases Bool.eq_false_or_eq_true v1 with hc5 | hc5
  replace h := bT hc5 h
  rw [hc5]
  refine v 2 13 [(7, B true), (8, A a1), (9, .fn 67 [pf a0 0])] [] ?_
  obtain ⟨v3, hv4, h⟩ := bindS h
  refine cF 10 (ok_slices_ContainsFunc_impl_Value_impl_Value_s3 (rfl) (fun _ w hw => ok_impl_RowsOk_1 hw) hv4) ?_
  refine ve 3 13 [(4, B ((!v3)))] [] ?_
  cases h
  exact pwp_ret rz
  replace h := bF hc5 h
  rw [hc5]
  refine ve 6 13 [(4, B false)] [] ?_
  cases h
  exact pwp_ret rz
def spec_l6Holds (a0 : List T_impl_Value) (a1 : List T_impl_Part) : Option Bool := (spec_l4Value a0 a1).bind fun v1 => (spec_ValueOf 1).bind fun v3 => some ((eq_T_impl_Value v1 v3))
theorem ok_spec_l6Holds {a0 : List T_impl_Value} {a1 : List T_impl_Part} {y : Bool} (h : spec_l6Holds a0 a1 = some y) : OK Tryz.prog 88 [A a0, A a1] (B y) := by
  refine ow Tryz.func88 fun Γ hX => ?_
  unfold spec_l6Holds at h
  refine srve 10 [(0, A a0), (1, A a1)] [] ?_
  refine srv 2 10 [(5, A a0), (6, A a1)] [] ?_
  obtain ⟨v1, hv2, h⟩ := bindS h
  refine cF 7 (ok_spec_l4Value hv2) ?_
  obtain ⟨v3, hv4, h⟩ := bindS h
  refine cF 8 (ok_spec_ValueOf hv4) ?_
  refine ve 2 10 [(4, B ((eq_T_impl_Value v1 v3)))] [] ?_
  cases h
  exact pwp_ret rz
def impl_sidesOk (a0 : List T_impl_Column) (a1 : List T_impl_Column) (a2 : List (List T_impl_Value)) (a3 : List (List T_impl_Value)) : Option Bool := (impl_ColumnsOk a0).bind fun v1 => bif v1 then (impl_ColumnsOk a1).bind fun v3 => bif v3 then bif (decide (((w64 (((a0.length : Int)) + ((a1.length : Int))))) ≤ 4)) then bif (decide (((a2.length : Int)) ≤ 30)) then bif (decide (((a3.length : Int)) ≤ 30)) then (impl_RowsOk a0 a2).bind fun v5 => bif v5 then (impl_RowsOk a1 a3).bind fun v7 => some v7 else some false else some false else some false else some false else some false else some false
theorem ok_impl_sidesOk {a0 : List T_impl_Column} {a1 : List T_impl_Column} {a2 : List (List T_impl_Value)} {a3 : List (List T_impl_Value)} {y : Bool} (h : impl_sidesOk a0 a1 a2 a3 = some y) : OK Tryz.prog 131 [A a0, A a1, A a2, A a3] (B y) := by
  refine ow Tryz.func131 fun Γ hX => ?_
  unfold impl_sidesOk at h
  refine srve 43 [(0, A a0), (1, A a1), (2, A a2), (3, A a3)] [] ?_
  refine srv 1 43 [(0, A a0), (1, A a1), (2, A a2), (3, A a3), (9, A a0)] [] ?_
  obtain ⟨v1, hv2, h⟩ := bindS h
  refine cF 10 (ok_impl_ColumnsOk hv2) ?_
  refine v 1 43 [(0, A a0), (1, A a1), (2, A a2), (3, A a3), (11, B v1)] [] ?_
  rcases Bool.eq_false_or_eq_true v1 with hc14 | hc14
  replace h := bT hc14 h
  rw [hc14]
  refine v 1 43 [(0, A a0), (1, A a1), (2, A a2), (3, A a3), (11, B true), (12, A a1)] [] ?_
  obtain ⟨v3, hv4, h⟩ := bindS h
  refine cF 13 (ok_impl_ColumnsOk hv4) ?_
  refine v 2 43 [(0, A a0), (1, A a1), (2, A a2), (3, A a3), (15, B v3)] [] ?_
  rcases Bool.eq_false_or_eq_true v3 with hc13 | hc13
  replace h := bT hc13 h
  rw [hc13]
  refine v 8 43 [(0, A a0), (1, A a1), (2, A a2), (3, A a3), (23, B ((decide (((w64 (((a0.length : Int)) + ((a1.length : Int))))) ≤ 4))))] [] ?_
  rcases fk ((decide (((w64 (((a0.length : Int)) + ((a1.length : Int))))) ≤ 4))) with hc12 | hc12
  replace h := bT hc12 h
  rw [hc12]
  refine v 5 43 [(0, A a0), (1, A a1), (2, A a2), (3, A a3), (28, B ((decide (((a2.length : Int)) ≤ 30))))] [] ?_
  rcases fk ((decide (((a2.length : Int)) ≤ 30))) with hc11 | hc11
  replace h := bT hc11 h
  rw [hc11]
  refine v 5 43 [(0, A a0), (1, A a1), (2, A a2), (3, A a3), (33, B ((decide (((a3.length : Int)) ≤ 30))))] [] ?_
  rcases fk ((decide (((a3.length : Int)) ≤ 30))) with hc10 | hc10
  replace h := bT hc10 h
  rw [hc10]
  refine v 2 43 [(1, A a1), (3, A a3), (33, B true), (34, A a0), (35, A a2)] [] ?_
  obtain ⟨v5, hv6, h⟩ := bindS h
  refine cF 36 (ok_impl_RowsOk hv6) ?_
  refine v 2 43 [(1, A a1), (3, A a3), (38, B v5)] [] ?_
  rcases Bool.eq_false_or_eq_true v5 with hc9 | hc9
  replace h := bT hc9 h
  rw [hc9]
  refine v 2 43 [(38, B true), (39, A a1), (40, A a3)] [] ?_
  obtain ⟨v7, hv8, h⟩ := bindS h
  refine cF 41 (ok_impl_RowsOk hv8) ?_
  refine ve 2 43 [(8, B v7)] [] ?_
  cases h
  exact pwp_ret rz
  replace h := bF hc9 h
  rw [hc9]
  refine ve 5 43 [(8, B false)] [] ?_
  cases h
  exact pwp_ret rz
  replace h := bF hc10 h
  rw [hc10]
  refine ve 10 43 [(8, B false)] [] ?_
  cases h
  exact pwp_ret rz
  replace h := bF hc11 h
  rw [hc11]
  refine ve 15 43 [(8, B false)] [] ?_
  cases h
  exact pwp_ret rz
  replace h := bF hc12 h
  rw [hc12]
  refine ve 20 43 [(8, B false)] [] ?_
  cases h
  exact pwp_ret rz
  replace h := bF hc13 h
  rw [hc13]
  refine ve 28 43 [(8, B false)] [] ?_
  cases h
  exact pwp_ret rz
  replace h := bF hc14 h
  rw [hc14]
  refine ve 32 43 [(8, B false)] [] ?_
  cases h
  exact pwp_ret rz
def impl_exprValue_l0 (a0 : List T_impl_Value) (a1 : List T_impl_Part) : Nat → Int → (List T_impl_Value) → Option T_impl_Value
  | 0, _, _ => none
  | f5 + 1, x3, x4 => bif (decide (x3 < ((a1.length : Int)))) then (getI a1 x3).bind fun v8 => (impl_Part_takes v8).bind fun v10 => (slI x4 (some ((w64 (((x4.length : Int)) - v10)))) none none).bind fun v12 => (impl_Part_value v8 a0 v12).bind fun v14 => (slI x4 none (some ((w64 (((x4.length : Int)) - v10)))) none).bind fun v16 => (appT x4 (([v14] : List T_impl_Value)) v16.length).bind fun v18 => (impl_exprValue_l0 a0 a1 f5) ((w64 (x3 + 1))) v18 else (getI x4 ((0 : Int))).bind fun v20 => some v20
def impl_exprValue (a0 : List T_impl_Value) (a1 : List T_impl_Part) : Option T_impl_Value := impl_exprValue_l0 a0 a1 FUEL 0 (([] : List T_impl_Value))
theorem ok_impl_exprValue {a0 : List T_impl_Value} {a1 : List T_impl_Part} {y : T_impl_Value} (h : impl_exprValue a0 a1 = some y) : OK Tryz.prog 142 [A a0, A a1] (E y) := by
  refine ow Tryz.func142 fun Γ hX => ?_
  unfold impl_exprValue at h
  refine srveM [4, 7, 9] 37 [(0, A a0), (1, A a1), (4, .ptr 0 0 0)] [some ⟨0, Enc.cells ((T_impl_Value.mk 0 0 (ByteArray.mk #[])))⟩] ?_
  refine srveM [4, 7, 9] 37 [(0, A a0), (1, A a1), (4, .ptr 0 0 0), (5, .arr 3 0 (eL ([] : List T_impl_Value)) true)] [some ⟨0, Enc.cells ((T_impl_Value.mk 0 0 (ByteArray.mk #[])))⟩] ?_
  refine pwp_seq ?_
  refine srveM [4, 7, 9] 37 [(0, A a0), (4, .ptr 0 0 0), (5, .arr 3 0 (eL ([] : List T_impl_Value)) true), (10, A a1), (11, I ((a1.length : Int))), (12, I 0)] [some ⟨0, Enc.cells ((T_impl_Value.mk 0 0 (ByteArray.mk #[])))⟩] ?_
  refine pwp_block ?_
  refine pwp_loop (ι := Nat × Int × (List T_impl_Value)) (fun (f5, x3, x4) => (⟨37, [(0, A a0), (4, .ptr 0 0 0), (5, rf 1 0 3 x4), (10, A a1), (11, I ((a1.length : Int))), (12, I x3)], [some ⟨0, Enc.cells ((T_impl_Value.mk 0 0 (ByteArray.mk #[])))⟩, sl 0 x4]⟩ : St)) (fun (f5, x3, x4) => impl_exprValue_l0 a0 a1 f5 x3 x4 = some y) Prod.fst (FUEL, 0, ([] : List T_impl_Value)) h (Imp.thawS 5 [0, 4, 5, 10, 11, 12] (by kernel_rfl)) ?_
  rintro ⟨f5, x3, x4⟩ h
  dsimp only at h ⊢
  rcases f5 with _ | f5
  cases h
  rw [impl_exprValue_l0] at h
  refine srveM [4, 7, 9] 37 [(0, A a0), (4, .ptr 0 0 0), (5, rf 1 0 3 x4), (10, A a1), (11, I ((a1.length : Int))), (12, I x3), (13, B ((decide (x3 < ((a1.length : Int))))))] [some ⟨0, Enc.cells ((T_impl_Value.mk 0 0 (ByteArray.mk #[])))⟩, sl 0 x4] ?_
  refine pwp_seq ?_
  refine pc h (fun h => ?_) (fun h => ?_)
  refine pwp_skip ?_
  refine pwp_seq ?_
  refine pwp_block ?_
  refine pwp_seq ?_
  refine pwp_region ?_
  obtain ⟨v8, hv9, h⟩ := bindS h
  refine opsP_idx τ_ok 14 hv9 (by kernel_rfl) ?_
  refine veM [4, 7, 9] 3 37 [(0, A a0), (4, .ptr 0 0 0), (5, rf 1 0 3 x4), (7, .ptr 2 0 0), (10, A a1), (11, I ((a1.length : Int))), (12, I x3)] [some ⟨0, Enc.cells ((T_impl_Value.mk 0 0 (ByteArray.mk #[])))⟩, sl 0 x4, sc 0 v8] ?_
  refine srvM [4, 7, 9] 3 37 [(0, A a0), (4, .ptr 0 0 0), (5, rf 1 0 3 x4), (7, .ptr 2 0 0), (10, A a1), (11, I ((a1.length : Int))), (12, I x3), (17, I ((x4.length : Int))), (18, E v8)] [some ⟨0, Enc.cells ((T_impl_Value.mk 0 0 (ByteArray.mk #[])))⟩, sl 0 x4, sc 0 v8] ?_
  obtain ⟨v10, hv11, h⟩ := bindS h
  refine cF 19 (ok_impl_Part_takes hv11) ?_
  refine veM [4, 7, 9] 2 37 [(0, A a0), (4, .ptr 0 0 0), (5, rf 1 0 3 x4), (7, .ptr 2 0 0), (8, I ((w64 (((x4.length : Int)) - v10)))), (10, A a1), (11, I ((a1.length : Int))), (12, I x3)] [some ⟨0, Enc.cells ((T_impl_Value.mk 0 0 (ByteArray.mk #[])))⟩, sl 0 x4, sc 0 v8] ?_
  refine pwp_seq ?_
  refine ip 37 [(0, A a0), (4, .ptr 0 0 0), (5, rf 1 0 3 x4), (7, .ptr 2 0 0), (8, I ((w64 (((x4.length : Int)) - v10)))), (10, A a1), (11, I ((a1.length : Int))), (12, I x3)] [some ⟨0, Enc.cells ((T_impl_Value.mk 0 0 (ByteArray.mk #[])))⟩, sl 0 x4, sc 0 v8] ?_
  refine pwp_imp (Imp.ghosts 1 (st' := ⟨37, [(0, A a0), (4, .ptr 0 0 0), (5, rf 1 0 3 x4), (7, .ptr 2 0 0), (8, I ((w64 (((x4.length : Int)) - v10)))), (10, A a1), (11, I ((a1.length : Int))), (12, I x3)], [some ⟨0, Enc.cells ((T_impl_Value.mk 0 0 (ByteArray.mk #[])))⟩, sl 0 x4, sc 0 v8, some ⟨0, []⟩]⟩) (by kernel_rfl)) ?_
  refine pwp_any ([[2], [], [1], [], [1], [1], [3], [3]]) ([[], [], [], [], [], [], [3], [3]]) rfl (by kernel_rfl) ?_
  refine qvM [4, 7, 9] [2] (hB trivial) 1 37 [(21, E v8), (0, A a0), (4, .ptr 0 0 0), (5, rf 1 0 3 x4), (8, I ((w64 (((x4.length : Int)) - v10)))), (10, A a1), (11, I ((a1.length : Int))), (12, I x3)] [some ⟨0, Enc.cells ((T_impl_Value.mk 0 0 (ByteArray.mk #[])))⟩, sl 0 x4, sc 0 v8, some ⟨0, []⟩] ?_
  refine qvM [4, 7, 9] [] trivial 1 37 [(22, A a0), (21, E v8), (0, A a0), (4, .ptr 0 0 0), (5, rf 1 0 3 x4), (8, I ((w64 (((x4.length : Int)) - v10)))), (10, A a1), (11, I ((a1.length : Int))), (12, I x3)] [some ⟨0, Enc.cells ((T_impl_Value.mk 0 0 (ByteArray.mk #[])))⟩, sl 0 x4, sc 0 v8, some ⟨0, []⟩] ?_
  refine qvM [4, 7, 9] [1] (hL trivial) 1 37 [(23, rf 1 0 3 x4), (22, A a0), (21, E v8), (0, A a0), (4, .ptr 0 0 0), (5, rf 1 0 3 x4), (8, I ((w64 (((x4.length : Int)) - v10)))), (10, A a1), (11, I ((a1.length : Int))), (12, I x3)] [some ⟨0, Enc.cells ((T_impl_Value.mk 0 0 (ByteArray.mk #[])))⟩, sl 0 x4, sc 0 v8, some ⟨0, []⟩] ?_
  refine qvM [4, 7, 9] [] trivial 1 37 [(24, I ((w64 (((x4.length : Int)) - v10)))), (23, rf 1 0 3 x4), (22, A a0), (21, E v8), (0, A a0), (4, .ptr 0 0 0), (5, rf 1 0 3 x4), (8, I ((w64 (((x4.length : Int)) - v10)))), (10, A a1), (11, I ((a1.length : Int))), (12, I x3)] [some ⟨0, Enc.cells ((T_impl_Value.mk 0 0 (ByteArray.mk #[])))⟩, sl 0 x4, sc 0 v8, some ⟨0, []⟩] ?_
  obtain ⟨v12, hv13, h⟩ := bindS h
  refine qX (some 25) (.ref 1 0 ((w64 (((x4.length : Int)) - v10)).toNat * 3) 3 v12.length false) 37 [(25, .ref 1 0 ((w64 (((x4.length : Int)) - v10)).toNat * 3) 3 v12.length false), (22, A a0), (21, E v8), (0, A a0), (4, .ptr 0 0 0), (5, rf 1 0 3 x4), (8, I ((w64 (((x4.length : Int)) - v10)))), (10, A a1), (11, I ((a1.length : Int))), (12, I x3)] [some ⟨0, Enc.cells ((T_impl_Value.mk 0 0 (ByteArray.mk #[])))⟩, sl 0 x4, sc 0 v8, some ⟨0, []⟩] (fun Γ' hΓ => CoreE.of_y (slrV_sound (n := x4.length) τ_ok (by kernel_rfl) rfl hv13)) (hL trivial) ?_
  obtain ⟨v14, hv15, h⟩ := bindS h
  refine qX (some 26) (E v14) 37 [(26, E v14), (0, A a0), (4, .ptr 0 0 0), (5, rf 1 0 3 x4), (8, I ((w64 (((x4.length : Int)) - v10)))), (10, A a1), (11, I ((a1.length : Int))), (12, I x3)] [some ⟨0, Enc.cells ((T_impl_Value.mk 0 0 (ByteArray.mk #[])))⟩, sl 0 x4, sc 0 v8, some ⟨0, []⟩] (fun Γ' hΓ => CoreE.of_g (callVV_sound (xs := [E v8, A a0, .ref 1 0 ((w64 (((x4.length : Int)) - v10)).toNat * 3) 3 v12.length false]) (τ := τ) (by kernel_rfl) (ViewL.cons (View.frz rfl) (ViewL.cons (View.frz rfl) (ViewL.cons (View.ref (v := 0) (lo := (w64 (((x4.length : Int)) - v10)).toNat) x4 v12 (by kernel_rfl) (slI_view hv13) rfl) (ViewL.nil _)))) (ok_impl_Part_value hv15) (Blind.E _ rfl rfl) (FzTo.frz rfl))) (hL trivial) ?_
  refine qX (Hm' := [none, none, none, some ⟨1, Enc.cells ((T_impl_Value.mk 0 0 (ByteArray.mk #[])))⟩]) (some 9) (.ptr 3 1 0) 37 [(9, .ptr 3 1 0), (26, E v14), (0, A a0), (4, .ptr 0 0 0), (5, rf 1 0 3 x4), (8, I ((w64 (((x4.length : Int)) - v10)))), (10, A a1), (11, I ((a1.length : Int))), (12, I x3)] [some ⟨0, Enc.cells ((T_impl_Value.mk 0 0 (ByteArray.mk #[])))⟩, sl 0 x4, sc 0 v8, some ⟨1, Enc.cells ((T_impl_Value.mk 0 0 (ByteArray.mk #[])))⟩] (fun Γ' hΓ => alc_E (blk := ⟨0, []⟩) τ_ok [4, 7, 9] 9 3 0 (ny hΓ hX) (by kernel_rfl) (by kernel_rfl)) (hB trivial) ?_
  refine qX (Hm' := [none, none, none, sc 1 v14]) none (.any) 37 [(9, .ptr 3 1 0), (0, A a0), (4, .ptr 0 0 0), (5, rf 1 0 3 x4), (8, I ((w64 (((x4.length : Int)) - v10)))), (10, A a1), (11, I ((a1.length : Int))), (12, I x3)] [some ⟨0, Enc.cells ((T_impl_Value.mk 0 0 (ByteArray.mk #[])))⟩, sl 0 x4, sc 0 v8, sc 1 v14] (fun Γ' hΓ => sto_E τ_ok 3 1 (by kernel_rfl)) (hB trivial) ?_
  refine qn 37 [(0, A a0), (4, .ptr 0 0 0), (5, rf 1 0 3 x4), (8, I ((w64 (((x4.length : Int)) - v10)))), (9, .ptr 3 1 0), (10, A a1), (11, I ((a1.length : Int))), (12, I x3)] [some ⟨0, Enc.cells ((T_impl_Value.mk 0 0 (ByteArray.mk #[])))⟩, sl 0 x4, sc 0 v8, sc 1 v14] ?_
  refine ip 37 [(0, A a0), (4, .ptr 0 0 0), (5, rf 1 0 3 x4), (8, I ((w64 (((x4.length : Int)) - v10)))), (9, .ptr 3 1 0), (10, A a1), (11, I ((a1.length : Int))), (12, I x3)] [some ⟨0, Enc.cells ((T_impl_Value.mk 0 0 (ByteArray.mk #[])))⟩, sl 0 x4, sc 0 v8, sc 1 v14] ?_
  refine pwp_any ([[1], [], [1], [3], [], [1], [1]]) ([[], [], [], [], [], [1], []]) rfl (by kernel_rfl) ?_
  refine qvM [4, 7, 9] [1] (hL trivial) 1 37 [(27, rf 1 0 3 x4), (0, A a0), (4, .ptr 0 0 0), (5, rf 1 0 3 x4), (8, I ((w64 (((x4.length : Int)) - v10)))), (9, .ptr 3 1 0), (10, A a1), (11, I ((a1.length : Int))), (12, I x3)] [some ⟨0, Enc.cells ((T_impl_Value.mk 0 0 (ByteArray.mk #[])))⟩, sl 0 x4, sc 0 v8, sc 1 v14] ?_
  refine qvM [4, 7, 9] [] trivial 1 37 [(28, I ((w64 (((x4.length : Int)) - v10)))), (27, rf 1 0 3 x4), (0, A a0), (4, .ptr 0 0 0), (5, rf 1 0 3 x4), (9, .ptr 3 1 0), (10, A a1), (11, I ((a1.length : Int))), (12, I x3)] [some ⟨0, Enc.cells ((T_impl_Value.mk 0 0 (ByteArray.mk #[])))⟩, sl 0 x4, sc 0 v8, sc 1 v14] ?_
  obtain ⟨v16, hv17, h⟩ := bindS h
  refine qX (some 29) (rf 1 0 3 v16) 37 [(29, rf 1 0 3 v16), (0, A a0), (4, .ptr 0 0 0), (5, rf 1 0 3 x4), (9, .ptr 3 1 0), (10, A a1), (11, I ((a1.length : Int))), (12, I x3)] [some ⟨0, Enc.cells ((T_impl_Value.mk 0 0 (ByteArray.mk #[])))⟩, sl 0 x4, sc 0 v8, sc 1 v14] (fun Γ' hΓ => CoreE.of_y (slrV_sound (n := x4.length) τ_ok (by kernel_rfl) rfl hv17)) (hL trivial) ?_
  refine qvM [4, 7, 9] [3] (hB trivial) 1 37 [(30, E v14), (29, rf 1 0 3 v16), (0, A a0), (4, .ptr 0 0 0), (5, rf 1 0 3 x4), (10, A a1), (11, I ((a1.length : Int))), (12, I x3)] [some ⟨0, Enc.cells ((T_impl_Value.mk 0 0 (ByteArray.mk #[])))⟩, sl 0 x4, sc 0 v8, sc 1 v14] ?_
  refine qvM [4, 7, 9] [] trivial 1 37 [(31, .arr 3 (([v14] : List T_impl_Value)).length (eL ([v14] : List T_impl_Value)) true), (29, rf 1 0 3 v16), (0, A a0), (4, .ptr 0 0 0), (5, rf 1 0 3 x4), (10, A a1), (11, I ((a1.length : Int))), (12, I x3)] [some ⟨0, Enc.cells ((T_impl_Value.mk 0 0 (ByteArray.mk #[])))⟩, sl 0 x4, sc 0 v8, sc 1 v14] ?_
  obtain ⟨v18, hv19, h⟩ := bindS h
  refine qX (some 32) (rf 1 1 3 v18) 37 [(32, rf 1 1 3 v18), (0, A a0), (4, .ptr 0 0 0), (5, rf 1 0 3 x4), (10, A a1), (11, I ((a1.length : Int))), (12, I x3)] [some ⟨0, Enc.cells ((T_impl_Value.mk 0 0 (ByteArray.mk #[])))⟩, sl 1 v18, sc 0 v8, sc 1 v14] (fun Γ' hΓ => app_E τ_ok 32 1 0 v16.length (ny hΓ hX) hv19 (slI_le hv17) (by kernel_rfl)) (hL trivial) ?_
  refine qvnM [4, 7, 9] [1] (hL trivial) 1 37 [(0, A a0), (4, .ptr 0 0 0), (5, rf 1 1 3 v18), (10, A a1), (11, I ((a1.length : Int))), (12, I x3)] [some ⟨0, Enc.cells ((T_impl_Value.mk 0 0 (ByteArray.mk #[])))⟩, sl 1 v18, sc 0 v8, sc 1 v14] ?_
  refine rveM [4, 7, 9] 37 [(0, A a0), (4, .ptr 0 0 0), (5, rf 1 1 3 v18), (10, A a1), (11, I ((a1.length : Int))), (12, I ((w64 (x3 + 1))))] [some ⟨0, Enc.cells ((T_impl_Value.mk 0 0 (ByteArray.mk #[])))⟩, sl 1 v18, sc 0 v8, sc 1 v14] ?_
  exact ⟨(f5, (w64 (x3 + 1)), v18), h, Nat.lt_succ_self _, (it (st' := ⟨37, [(0, A a0), (4, .ptr 0 0 0), (5, rf 1 1 3 v18), (10, A a1), (11, I ((a1.length : Int))), (12, I ((w64 (x3 + 1))))], [some ⟨0, Enc.cells ((T_impl_Value.mk 0 0 (ByteArray.mk #[])))⟩, sl 1 v18, sc 0 v8, sc 1 v14]⟩) [0, 4, 5, 10, 11, 12]).trans ((Imp.truncS (st' := ⟨37, [(0, A a0), (4, .ptr 0 0 0), (5, rf 1 1 3 v18), (10, A a1), (11, I ((a1.length : Int))), (12, I ((w64 (x3 + 1))))], [some ⟨0, Enc.cells ((T_impl_Value.mk 0 0 (ByteArray.mk #[])))⟩, sl 1 v18]⟩) 2 (nx hX) (by kernel_rfl) (allBelow_mem (by exact (And.intro rfl (And.intro rfl (And.intro rfl (And.intro rfl (And.intro rfl (And.intro rfl trivial)))))))) (by exact (And.intro (rfl) (And.intro (frz_below (eL_frz _)) trivial))) (by kernel_rfl)).trans (Imp.reverS 1 1 (eL v18) [0, 4, 5, 10, 11, 12] (by kernel_rfl) (by exact (And.intro (rfl) (And.intro (eL_frz _) trivial))) (by kernel_rfl)))⟩
  refine pwp_exit ?_
  refine srvM [4, 7, 9] 1 37 [(4, .ptr 0 0 0), (34, rf 1 0 3 x4)] [some ⟨0, Enc.cells ((T_impl_Value.mk 0 0 (ByteArray.mk #[])))⟩, sl 0 x4] ?_
  obtain ⟨v20, hv21, h⟩ := bindS h
  refine opsP_idr τ_ok 35 1 0 x4.length hv21 rfl (by kernel_rfl) ?_
  refine opsP_lde (r := E v20) τ_ok 36 35 0 hv21 (by kernel_rfl) (by kernel_rfl) ?_
  refine veM [4, 7, 9] 1 37 [(4, .ptr 0 0 0)] [sc 0 v20, sl 0 x4] ?_
  cases h
  exact pwp_ret rz
def spec_l20Bag_L1_j1 (x6 : Int) (K10 : Int → T_spec_l20Rd → (List (List T_impl_Value)) → Option ((List (List T_impl_Value)) × T_spec_l20Rd)) (x12 : T_spec_l20Rd) (x13 : List (List T_impl_Value)) : Option ((List (List T_impl_Value)) × T_spec_l20Rd) := K10 ((w64 (x6 - 1))) x12 x13
def spec_l20Bag_L1_j2 (a1 : List T_impl_Column) (a2 : Int) (x6 : Int) (x8 : List (List T_impl_Value)) (K10 : Int → T_spec_l20Rd → (List (List T_impl_Value)) → Option ((List (List T_impl_Value)) × T_spec_l20Rd)) (x14 : Bool) (x15 : T_spec_l20Rd) : Option ((List (List T_impl_Value)) × T_spec_l20Rd) := bif x14 then (spec_l20Rd_pick x15 ((x8.length : Int))).bind fun v17 => (getI x8 v17.1).bind fun v19 => (spec_l3Own v19).bind fun v21 => (app x8 (([v21] : List (List T_impl_Value)))).bind fun v23 => spec_l20Bag_L1_j1 x6 K10 v17.2 v23 else (spec_l20Fit_L1 x15 a1 a2).bind fun v25 => (app x8 (([v25.1] : List (List T_impl_Value)))).bind fun v27 => spec_l20Bag_L1_j1 x6 K10 v25.2 v27
def spec_l20Bag_L1_l0 (a1 : List T_impl_Column) (a2 : Int) : Nat → Int → T_spec_l20Rd → (List (List T_impl_Value)) → Option ((List (List T_impl_Value)) × T_spec_l20Rd)
  | 0, _, _, _ => none
  | f9 + 1, x6, x7, x8 => bif (decide (x6 > 0)) then bif (decide (((x8.length : Int)) > 0)) then (spec_l20Rd_pick x7 3).bind fun v29 => spec_l20Bag_L1_j2 a1 a2 x6 x8 (spec_l20Bag_L1_l0 a1 a2 f9) ((v29.1 == 0)) v29.2 else spec_l20Bag_L1_j2 a1 a2 x6 x8 (spec_l20Bag_L1_l0 a1 a2 f9) false x7 else some (x8, x7)
def spec_l20Bag_L1 (a0 : T_spec_l20Rd) (a1 : List T_impl_Column) (a2 : Int) : Option ((List (List T_impl_Value)) × T_spec_l20Rd) := (spec_l20Rd_pick a0 7).bind fun v1 => spec_l20Bag_L1_l0 a1 a2 FUEL v1.1 v1.2 (([] : List (List T_impl_Value)))
theorem ok_spec_l20Bag_L1 {a0 : T_spec_l20Rd} {a1 : List T_impl_Column} {a2 : Int} {y : (List (List T_impl_Value)) × T_spec_l20Rd} (h : spec_l20Bag_L1 a0 a1 a2 = some y) : OKx Tryz.prog 129 (Enc.cells a0) [] 2 a1.length (eL a1) [I a2] (O y.1) (Enc.cells y.2) := by
  refine OKx_of_pwp τ_ok Tryz.func129 rfl (by kernel_rfl) rfl (Enc.frz _) (Enc.frz _) (eL_frz _) fun Γ hQ => ?_
  refine pwp_imp (Imp.to (st' := ⟨43, [(0, .ptr 0 0 0), (1, rf 1 0 2 a1), (2, I a2)], [sc 0 a0, sl 0 a1]⟩) [0, 1, 2] (by kernel_rfl)) ?_
  unfold spec_l20Bag_L1 at h
  refine srve 43 [(0, .ptr 0 0 0), (1, rf 1 0 2 a1), (2, I a2)] [sc 0 a0, sl 0 a1] ?_
  refine srve 43 [(0, .ptr 0 0 0), (1, rf 1 0 2 a1), (2, I a2), (7, .arr 1 0 (eL ([] : List (List T_impl_Value))) true)] [sc 0 a0, sl 0 a1] ?_
  refine pwp_seq ?_
  refine srv 1 43 [(0, .ptr 0 0 0), (1, rf 1 0 2 a1), (2, I a2), (7, .arr 1 0 (eL ([] : List (List T_impl_Value))) true), (10, .ptr 0 0 0)] [sc 0 a0, sl 0 a1] ?_
  obtain ⟨v1, hv2, h⟩ := bindS h
  refine cB 11 0 0 (ok_spec_l20Rd_pick hv2) ?_
  refine ve 1 43 [(0, .ptr 0 0 0), (1, rf 1 0 2 a1), (2, I a2), (7, .arr 1 0 (eL ([] : List (List T_impl_Value))) true), (8, I v1.1)] [sc 0 v1.2, sl 0 a1] ?_
  refine pwp_block ?_
  refine pwp_loop (ι := Nat × Int × T_spec_l20Rd × (List (List T_impl_Value))) (fun (f9, x6, x7, x8) => (⟨43, [(0, .ptr 0 0 0), (1, rf 1 0 2 a1), (2, I a2), (7, rf 2 0 1 x8), (8, I x6)], [sc 0 x7, sl 0 a1, sl 0 x8]⟩ : St)) (fun (f9, x6, x7, x8) => spec_l20Bag_L1_l0 a1 a2 f9 x6 x7 x8 = some y) Prod.fst (FUEL, v1.1, v1.2, ([] : List (List T_impl_Value))) h (Imp.thawS 7 [0, 1, 2, 7, 8] (by kernel_rfl)) ?_
  rintro ⟨f9, x6, x7, x8⟩ h
  dsimp only at h ⊢
  rcases f9 with _ | f9
  cases h
  rw [spec_l20Bag_L1_l0] at h
  refine pwp_seq ?_
  refine srve 43 [(0, .ptr 0 0 0), (1, rf 1 0 2 a1), (2, I a2), (7, rf 2 0 1 x8), (8, I x6), (13, B ((decide (x6 > 0))))] [sc 0 x7, sl 0 a1, sl 0 x8] ?_
  refine pc h (fun h => ?_) (fun h => ?_)
  refine pwp_skip ?_
  refine pwp_seq ?_
  refine pwp_join (σ := T_spec_l20Rd × (List (List T_impl_Value))) (fun (x12, x13) => (⟨43, [(0, .ptr 0 0 0), (1, rf 1 0 2 a1), (2, I a2), (7, rf 2 0 1 x13), (8, I x6)], [sc 0 x12, sl 0 a1, sl 0 x13]⟩ : St)) (fun (x12, x13) => spec_l20Bag_L1_j1 x6 (spec_l20Bag_L1_l0 a1 a2 f9) x12 x13 = some y) ?_ ?_
  refine pwp_block ?_
  refine pwp_seq ?_
  refine pwp_join (σ := Bool × T_spec_l20Rd) (fun (x14, x15) => (⟨43, [(0, .ptr 0 0 0), (1, rf 1 0 2 a1), (2, I a2), (7, rf 2 0 1 x8), (8, I x6), (23, B x14)], [sc 0 x15, sl 0 a1, sl 0 x8]⟩ : St)) (fun (x14, x15) => spec_l20Bag_L1_j2 a1 a2 x6 x8 (spec_l20Bag_L1_l0 a1 a2 f9) x14 x15 = some y) ?_ ?_
  refine rv 4 43 [(0, .ptr 0 0 0), (1, rf 1 0 2 a1), (2, I a2), (7, rf 2 0 1 x8), (8, I x6), (19, B ((decide (((x8.length : Int)) > 0))))] [sc 0 x7, sl 0 a1, sl 0 x8] ?_
  rcases fk ((decide (((x8.length : Int)) > 0))) with hc31 | hc31
  replace h := bT hc31 h
  rw [hc31]
  refine v 1 43 [(0, .ptr 0 0 0), (1, rf 1 0 2 a1), (2, I a2), (7, rf 2 0 1 x8), (8, I x6), (19, B true), (20, .ptr 0 0 0)] [sc 0 x7, sl 0 a1, sl 0 x8] ?_
  obtain ⟨v29, hv30, h⟩ := bindS h
  refine cB 21 0 0 (ok_spec_l20Rd_pick hv30) ?_
  refine ve 2 43 [(0, .ptr 0 0 0), (1, rf 1 0 2 a1), (2, I a2), (7, rf 2 0 1 x8), (8, I x6), (20, .ptr 0 0 0), (21, I v29.1), (22, B ((v29.1 == 0))), (23, B ((v29.1 == 0)))] [sc 0 v29.2, sl 0 a1, sl 0 x8] ?_
  exact ⟨((v29.1 == 0), v29.2), h, it [0, 1, 2, 7, 8, 23]⟩
  replace h := bF hc31 h
  rw [hc31]
  refine ve 4 43 [(0, .ptr 0 0 0), (1, rf 1 0 2 a1), (2, I a2), (7, rf 2 0 1 x8), (8, I x6), (20, .lit undef), (21, .lit undef), (22, .lit undef), (23, B false)] [sc 0 x7, sl 0 a1, sl 0 x8] ?_
  exact ⟨(false, x7), h, it [0, 1, 2, 7, 8, 23]⟩
  rintro ⟨x14, x15⟩ h
  dsimp only at h ⊢
  unfold spec_l20Bag_L1_j2 at h
  refine pc h (fun h => ?_) (fun h => ?_)
  refine rv 5 43 [(0, .ptr 0 0 0), (1, rf 1 0 2 a1), (2, I a2), (8, I x6), (24, rf 2 0 1 x8), (25, rf 2 0 1 x8), (26, .ptr 0 0 0), (28, I ((x8.length : Int)))] [sc 0 x15, sl 0 a1, sl 0 x8] ?_
  obtain ⟨v17, hv18, h⟩ := bindS h
  refine cB 29 0 0 (ok_spec_l20Rd_pick hv18) ?_
  obtain ⟨v19, hv20, h⟩ := bindS h
  refine opsP_idr τ_ok 30 2 0 x8.length hv20 rfl (by kernel_rfl) ?_
  refine opsP_lde (r := A v19) τ_ok 31 50 0 hv20 (by kernel_rfl) (by kernel_rfl) ?_
  obtain ⟨v21, hv22, h⟩ := bindS h
  refine cFo 32 (ok_spec_l3Own hv22) ?_
  refine v 1 43 [(0, .ptr 0 0 0), (1, rf 1 0 2 a1), (2, I a2), (8, I x6), (24, rf 2 0 1 x8), (33, .arr 1 (([v21] : List (List T_impl_Value))).length (eL ([v21] : List (List T_impl_Value))) true)] [sc 0 v17.2, sl 0 a1, sl 0 x8] ?_
  obtain ⟨v23, hv24, h⟩ := bindS h
  refine opsP_app τ_ok 34 2 0 (pn hQ) hv24 (by kernel_rfl) ?_
  refine ve 1 43 [(0, .ptr 0 0 0), (1, rf 1 0 2 a1), (2, I a2), (7, rf 2 1 1 v23), (8, I x6)] [sc 0 v17.2, sl 0 a1, sl 1 v23] ?_
  exact ⟨(v17.2, v23), h, (it (st' := ⟨43, [(0, .ptr 0 0 0), (1, rf 1 0 2 a1), (2, I a2), (7, rf 2 1 1 v23), (8, I x6)], [sc 0 v17.2, sl 0 a1, sl 1 v23]⟩) [0, 1, 2, 7, 8]).trans (Imp.reverS 2 1 (eL v23) [0, 1, 2, 7, 8] (by kernel_rfl) (by exact (And.intro (rfl) (And.intro (eL_frz _) (And.intro (eL_frz _) trivial)))) (by kernel_rfl))⟩
  refine rv 4 43 [(0, .ptr 0 0 0), (1, rf 1 0 2 a1), (2, I a2), (8, I x6), (35, rf 2 0 1 x8), (36, .ptr 0 0 0), (37, rf 1 0 2 a1), (38, I a2)] [sc 0 x15, sl 0 a1, sl 0 x8] ?_
  obtain ⟨v25, hv26, h⟩ := bindS h
  refine opsP_E (dd := some 39) (x := rf 3 0 3 v25.1) (callX_E (bs := [⟨0, eL v25.1⟩]) τ 39 0 0 1 0 (ok_spec_l20Fit_L1 hv26) rfl rfl (by kernel_rfl) (by kernel_rfl)) ?_
  refine v 0 43 [(0, .ptr 0 0 0), (1, rf 1 0 2 a1), (2, I a2), (8, I x6), (35, rf 2 0 1 x8), (39, rf 3 0 3 v25.1)] [sc 0 v25.2, sl 0 a1, sl 0 x8, sl 0 v25.1] ?_
  refine opsP_imp ((Imp.freezeB (v := 0) (cs := eL v25.1) (st' := ⟨43, [(0, .ptr 0 0 0), (1, rf 1 0 2 a1), (2, I a2), (8, I x6), (35, rf 2 0 1 x8), (39, A v25.1)], [sc 0 v25.2, sl 0 a1, sl 0 x8, none]⟩) 3 0 (pn hQ) (by kernel_rfl) (eL_frz _) (wholeC (whole_noRef (by kernel_rfl)) (wholeC (whole_ne rfl) (wholeC (whole_noRef (by kernel_rfl)) (wholeC (whole_noRef (by kernel_rfl)) (wholeC (whole_ne rfl) (wholeC (whole_is (eL_len v25.1).symm) wholeC0)))))) (HpRel.frz rfl (Enc.frz _) (HpRel.frz rfl (eL_frz _) (HpRel.frz rfl (eL_frz _) (HpRel.key HpRel.nil)))) (by kernel_rfl) rfl (p02 hQ))) ?_
  refine v 1 43 [(0, .ptr 0 0 0), (1, rf 1 0 2 a1), (2, I a2), (8, I x6), (35, rf 2 0 1 x8), (40, .arr 1 (([v25.1] : List (List T_impl_Value))).length (eL ([v25.1] : List (List T_impl_Value))) true)] [sc 0 v25.2, sl 0 a1, sl 0 x8, none] ?_
  obtain ⟨v27, hv28, h⟩ := bindS h
  refine opsP_app τ_ok 41 2 0 (pn hQ) hv28 (by kernel_rfl) ?_
  refine ve 1 43 [(0, .ptr 0 0 0), (1, rf 1 0 2 a1), (2, I a2), (7, rf 2 1 1 v27), (8, I x6)] [sc 0 v25.2, sl 0 a1, sl 1 v27, none] ?_
  exact ⟨(v25.2, v27), h, (it (st' := ⟨43, [(0, .ptr 0 0 0), (1, rf 1 0 2 a1), (2, I a2), (7, rf 2 1 1 v27), (8, I x6)], [sc 0 v25.2, sl 0 a1, sl 1 v27, none]⟩) [0, 1, 2, 7, 8]).trans ((Imp.truncS (st' := ⟨43, [(0, .ptr 0 0 0), (1, rf 1 0 2 a1), (2, I a2), (7, rf 2 1 1 v27), (8, I x6)], [sc 0 v25.2, sl 0 a1, sl 1 v27]⟩) 3 (pl hQ) (by kernel_rfl) (allBelow_mem (by exact (And.intro rfl (And.intro rfl (And.intro rfl (And.intro rfl (And.intro rfl trivial))))))) (by exact (And.intro (rfl) (And.intro (frz_below (eL_frz _)) (And.intro (frz_below (eL_frz _)) trivial)))) (by kernel_rfl)).trans (Imp.reverS 2 1 (eL v27) [0, 1, 2, 7, 8] (by kernel_rfl) (by exact (And.intro (rfl) (And.intro (eL_frz _) (And.intro (eL_frz _) trivial)))) (by kernel_rfl)))⟩
  rintro ⟨x12, x13⟩ h
  dsimp only at h ⊢
  unfold spec_l20Bag_L1_j1 at h
  refine rve 43 [(0, .ptr 0 0 0), (1, rf 1 0 2 a1), (2, I a2), (7, rf 2 0 1 x13), (8, I ((w64 (x6 - 1))))] [sc 0 x12, sl 0 a1, sl 0 x13] ?_
  exact ⟨(f9, (w64 (x6 - 1)), x12, x13), h, Nat.lt_succ_self _, it [0, 1, 2, 7, 8]⟩
  refine pwp_exit ?_
  refine srve 43 [(6, rf 2 0 1 x8)] [sc 0 x7, sl 0 a1, sl 0 x8] ?_
  have h := si h
  subst h
  exact pwp_ret ⟨.inr rfl, rf 2 0 1 x8, _, 0, 0, by kernel_rfl, (OutP.list (v := 0) (by kernel_rfl)), by decide, by decide, by kernel_rfl, by kernel_rfl⟩
def slices_Clip_impl_Column_impl_Column_R (a0 : List T_impl_Column) : Option (List T_impl_Column) := (slI a0 none (some ((a0.length : Int))) (some ((a0.length : Int)))).bind fun v1 => some v1
theorem ok_slices_Clip_impl_Column_impl_Column_R {a0 : List T_impl_Column} {y : List T_impl_Column} (h : slices_Clip_impl_Column_impl_Column_R a0 = some y) : OKm Tryz.prog 148 [O a0] (O y) := by
  refine OKm_of_pwp (sl := [rf 0 0 2 a0]) (bs := [⟨0, eL a0⟩]) τ_ok Tryz.func148 rfl (by kernel_rfl) rfl (by kernel_rfl) fun Γ hX => ?_
  refine pwp_imp (Imp.to (st' := ⟨9, [(0, rf 0 0 2 a0)], [sl 0 a0]⟩) [0] (by kernel_rfl)) ?_
  unfold slices_Clip_impl_Column_impl_Column_R at h
  refine srve 9 [(0, rf 0 0 2 a0)] [sl 0 a0] ?_
  refine srv 5 9 [(3, rf 0 0 2 a0), (5, I ((a0.length : Int))), (7, I ((a0.length : Int)))] [sl 0 a0] ?_
  obtain ⟨v1, hv2, h⟩ := bindS h
  refine opsP_slr τ_ok 8 0 0 a0.length hv2 rfl (by kernel_rfl) ?_
  refine ve 1 9 [(2, rf 0 0 2 v1)] [sl 0 a0] ?_
  refine ip 9 [(2, rf 0 0 2 v1)] [sl 0 a0] ?_
  refine pwp_imp (Imp.cut (st' := ⟨9, [(2, rf 0 0 2 v1)], [sl 0 v1]⟩) 0 0 a0 v1 (by kernel_rfl) (slI_view hv2) (by kernel_rfl)) ?_
  have h := si h
  subst h
  exact pwp_ret (rt (rf 0 0 2 v1) (OutP.list (v := 0) (by kernel_rfl)))
def impl_clone_impl_Column_R (a0 : List T_impl_Column) : Option (List T_impl_Column) := bif (((a0.length : Int)) == 0) then some (([] : List T_impl_Column)) else (app [] a0).bind fun v2 => (slices_Clip_impl_Column_impl_Column_R v2).bind fun v4 => some v4
theorem ok_impl_clone_impl_Column_R {a0 : List T_impl_Column} {y : List T_impl_Column} (h : impl_clone_impl_Column_R a0 = some y) : OK Tryz.prog 89 [A a0] (O y) := by
  refine ow Tryz.func89 fun Γ hX => ?_
  unfold impl_clone_impl_Column_R at h
  refine srve 9 [(0, A a0)] [] ?_
  refine pwp_seq ?_
  refine srve 9 [(0, A a0), (5, B ((((a0.length : Int)) == 0)))] [] ?_
  refine pc h (fun h => ?_) (fun h => ?_)
  refine srve 9 [(2, .arr 2 0 (eL ([] : List T_impl_Column)) true)] [] ?_
  refine ip 9 [(2, .arr 2 0 (eL ([] : List T_impl_Column)) true)] [] ?_
  refine pwp_imp (Imp.thawS (st' := ⟨9, [(2, .ref 0 0 0 2 (([] : List T_impl_Column)).length false)], [some ⟨0, eL (([] : List T_impl_Column))⟩]⟩) 2 [2] (by kernel_rfl)) ?_
  have h := si h
  subst h
  exact pwp_ret (rt (.ref 0 0 0 2 (([] : List T_impl_Column)).length false) (OutP.list (v := 0) (by kernel_rfl)))
  refine pwp_skip ?_
  refine srv 1 9 [(6, A a0)] [] ?_
  obtain ⟨v2, hv3, h⟩ := bindS h
  refine opsP_apn τ_ok 7 0 (nx hX) hv3 (by kernel_rfl) ?_
  obtain ⟨v4, hv5, h⟩ := bindS h
  refine opsP_callM (xs := [rf 0 1 2 v2]) (x := rf 1 0 2 v4) (bs := [⟨0, eL v4⟩]) τ 8 [0] (nx hX) (ok_slices_Clip_impl_Column_impl_Column_R hv5) (by kernel_rfl) (OutL.cons (OutP.list (v := 1) (by kernel_rfl)) (OutL.nil _)) (by decide) (by kernel_rfl) ?_
  refine ve 1 9 [(2, rf 1 0 2 v4)] [none, sl 0 v4] ?_
  have h := si h
  subst h
  exact pwp_ret (rt (rf 1 0 2 v4) (OutP.list (v := 0) (by kernel_rfl)))
def spec_LeftRows_j1 (x5 : Int) (K8 : Int → (List (List T_impl_Value)) → Option (List (List T_impl_Value))) (x10 : List (List T_impl_Value)) : Option (List (List T_impl_Value)) := K8 ((w64 (x5 + 1))) x10
def spec_LeftRows_j3 (x13 : Int) (K16 : Bool → Int → (List (List T_impl_Value)) → Option (List (List T_impl_Value))) (x18 : Bool) (x19 : List (List T_impl_Value)) : Option (List (List T_impl_Value)) := K16 x18 ((w64 (x13 + 1))) x19
def spec_LeftRows_l2 (a1 : List T_impl_Column) (a2 : List (List T_impl_Value)) (a3 : List (List T_impl_Value)) (a4 : List T_impl_Part) (x5 : Int) (K8 : Int → (List (List T_impl_Value)) → Option (List (List T_impl_Value))) : Nat → Bool → Int → (List (List T_impl_Value)) → Option (List (List T_impl_Value))
  | 0, _, _, _ => none
  | f15 + 1, x12, x13, x14 => bif (decide (x13 < ((a3.length : Int)))) then (getI a2 x5).bind fun v20 => (getI a3 x13).bind fun v22 => (spec_l6Joined v20 v22).bind fun v24 => (spec_l6Holds v24 a4).bind fun v26 => bif v26 then (app x14 (([v24] : List (List T_impl_Value)))).bind fun v29 => spec_LeftRows_j3 x13 (spec_LeftRows_l2 a1 a2 a3 a4 x5 K8 f15) true v29 else spec_LeftRows_j3 x13 (spec_LeftRows_l2 a1 a2 a3 a4 x5 K8 f15) x12 x14 else bif (!x12) then (getI a2 x5).bind fun v32 => (mkI ((a1.length : Int)) ((T_impl_Value.mk 0 0 (ByteArray.mk #[])))).bind fun v34 => (spec_l6Joined v32 v34).bind fun v36 => (app x14 (([v36] : List (List T_impl_Value)))).bind fun v38 => spec_LeftRows_j1 x5 K8 v38 else spec_LeftRows_j1 x5 K8 x14
def spec_LeftRows_l0 (a1 : List T_impl_Column) (a2 : List (List T_impl_Value)) (a3 : List (List T_impl_Value)) (a4 : List T_impl_Part) : Nat → Int → (List (List T_impl_Value)) → Option (List (List T_impl_Value))
  | 0, _, _ => none
  | f7 + 1, x5, x6 => bif (decide (x5 < ((a2.length : Int)))) then spec_LeftRows_l2 a1 a2 a3 a4 x5 (spec_LeftRows_l0 a1 a2 a3 a4 f7) FUEL false 0 x6 else some x6
def spec_LeftRows (a0 : List T_impl_Column) (a1 : List T_impl_Column) (a2 : List (List T_impl_Value)) (a3 : List (List T_impl_Value)) (a4 : List T_impl_Part) : Option (List (List T_impl_Value)) := (spec_l23Ready a0 a1 a2 a3 a4).bind fun v1 => bif (!v1) then some (([] : List (List T_impl_Value))) else spec_LeftRows_l0 a1 a2 a3 a4 FUEL 0 (([] : List (List T_impl_Value)))
theorem ok_spec_LeftRows {a0 : List T_impl_Column} {a1 : List T_impl_Column} {a2 : List (List T_impl_Value)} {a3 : List (List T_impl_Value)} {a4 : List T_impl_Part} {y : List (List T_impl_Value)} (h : spec_LeftRows a0 a1 a2 a3 a4 = some y) : OK Tryz.prog 32 [A a0, A a1, A a2, A a3, A a4] (O y) := by
  refine ow Tryz.func32 fun Γ hX => ?_
  unfold spec_LeftRows at h
  refine srve 67 [(0, A a0), (1, A a1), (2, A a2), (3, A a3), (4, A a4)] [] ?_
  refine srve 67 [(0, A a0), (1, A a1), (2, A a2), (3, A a3), (4, A a4), (11, .arr 1 0 (eL ([] : List (List T_impl_Value))) true)] [] ?_
  refine pwp_seq ?_
  refine srv 5 67 [(1, A a1), (2, A a2), (3, A a3), (4, A a4), (11, .arr 1 0 (eL ([] : List (List T_impl_Value))) true), (17, A a0), (18, A a1), (19, A a2), (20, A a3), (21, A a4)] [] ?_
  obtain ⟨v1, hv2, h⟩ := bindS h
  refine cF 22 (ok_spec_l23Ready hv2) ?_
  refine ve 1 67 [(1, A a1), (2, A a2), (3, A a3), (4, A a4), (11, .arr 1 0 (eL ([] : List (List T_impl_Value))) true), (23, B ((!v1)))] [] ?_
  refine pc h (fun h => ?_) (fun h => ?_)
  refine srve 67 [(10, .arr 1 0 (eL ([] : List (List T_impl_Value))) true)] [] ?_
  refine ip 67 [(10, .arr 1 0 (eL ([] : List (List T_impl_Value))) true)] [] ?_
  refine pwp_imp (Imp.thawS (st' := ⟨67, [(10, .ref 0 0 0 1 (([] : List (List T_impl_Value))).length false)], [some ⟨0, eL (([] : List (List T_impl_Value)))⟩]⟩) 10 [10] (by kernel_rfl)) ?_
  have h := si h
  subst h
  exact pwp_ret (rt (.ref 0 0 0 1 (([] : List (List T_impl_Value))).length false) (OutP.list (v := 0) (by kernel_rfl)))
  refine pwp_skip ?_
  refine pwp_seq ?_
  refine srve 67 [(1, A a1), (2, A a2), (3, A a3), (4, A a4), (11, .arr 1 0 (eL ([] : List (List T_impl_Value))) true), (12, I 0)] [] ?_
  refine pwp_block ?_
  refine pwp_loop (ι := Nat × Int × (List (List T_impl_Value))) (fun (f7, x5, x6) => (⟨67, [(1, A a1), (2, A a2), (3, A a3), (4, A a4), (11, rf 0 0 1 x6), (12, I x5)], [sl 0 x6]⟩ : St)) (fun (f7, x5, x6) => spec_LeftRows_l0 a1 a2 a3 a4 f7 x5 x6 = some y) Prod.fst (FUEL, 0, ([] : List (List T_impl_Value))) h (Imp.thawS 11 [1, 2, 3, 4, 11, 12] (by kernel_rfl)) ?_
  rintro ⟨f7, x5, x6⟩ h
  dsimp only at h ⊢
  rcases f7 with _ | f7
  cases h
  rw [spec_LeftRows_l0] at h
  refine pwp_seq ?_
  refine srve 67 [(1, A a1), (2, A a2), (3, A a3), (4, A a4), (11, rf 0 0 1 x6), (12, I x5), (28, B ((decide (x5 < ((a2.length : Int))))))] [sl 0 x6] ?_
  refine pc h (fun h => ?_) (fun h => ?_)
  refine pwp_skip ?_
  refine pwp_seq ?_
  refine pwp_join (σ := (List (List T_impl_Value))) (fun x10 => (⟨67, [(1, A a1), (2, A a2), (3, A a3), (4, A a4), (11, rf 0 0 1 x10), (12, I x5)], [sl 0 x10]⟩ : St)) (fun x10 => spec_LeftRows_j1 x5 (spec_LeftRows_l0 a1 a2 a3 a4 f7) x10 = some y) ?_ ?_
  refine pwp_block ?_
  refine srve 67 [(1, A a1), (2, A a2), (3, A a3), (4, A a4), (11, rf 0 0 1 x6), (12, I x5), (13, B false)] [sl 0 x6] ?_
  refine pwp_seq ?_
  refine srve 67 [(1, A a1), (2, A a2), (3, A a3), (4, A a4), (11, rf 0 0 1 x6), (12, I x5), (13, B false), (14, I 0)] [sl 0 x6] ?_
  refine pwp_block ?_
  refine pwp_loop (ι := Nat × Bool × Int × (List (List T_impl_Value))) (fun (f15, x12, x13, x14) => (⟨67, [(1, A a1), (2, A a2), (3, A a3), (4, A a4), (11, rf 0 0 1 x14), (12, I x5), (13, B x12), (14, I x13)], [sl 0 x14]⟩ : St)) (fun (f15, x12, x13, x14) => spec_LeftRows_l2 a1 a2 a3 a4 x5 (spec_LeftRows_l0 a1 a2 a3 a4 f7) f15 x12 x13 x14 = some y) Prod.fst (FUEL, false, 0, x6) h (it [1, 2, 3, 4, 11, 12, 13, 14]) ?_
  rintro ⟨f15, x12, x13, x14⟩ h
  dsimp only at h ⊢
  rcases f15 with _ | f15
  cases h
  rw [spec_LeftRows_l2] at h
  refine pwp_seq ?_
  refine srve 67 [(1, A a1), (2, A a2), (3, A a3), (4, A a4), (11, rf 0 0 1 x14), (12, I x5), (13, B x12), (14, I x13), (34, B ((decide (x13 < ((a3.length : Int))))))] [sl 0 x14] ?_
  refine pc h (fun h => ?_) (fun h => ?_)
  refine pwp_skip ?_
  refine pwp_seq ?_
  refine pwp_join (σ := Bool × (List (List T_impl_Value))) (fun (x18, x19) => (⟨67, [(1, A a1), (2, A a2), (3, A a3), (4, A a4), (11, rf 0 0 1 x19), (12, I x5), (13, B x18), (14, I x13)], [sl 0 x19]⟩ : St)) (fun (x18, x19) => spec_LeftRows_j3 x13 (spec_LeftRows_l2 a1 a2 a3 a4 x5 (spec_LeftRows_l0 a1 a2 a3 a4 f7) f15) x18 x19 = some y) ?_ ?_
  refine pwp_block ?_
  refine pwp_seq ?_
  refine ip 67 [(1, A a1), (2, A a2), (3, A a3), (4, A a4), (11, rf 0 0 1 x14), (12, I x5), (13, B x12), (14, I x13)] [sl 0 x14] ?_
  refine pN 10 ?_
  refine qv [] trivial 2 67 [(38, I x5), (37, A a2), (1, A a1), (2, A a2), (3, A a3), (4, A a4), (11, rf 0 0 1 x14), (12, I x5), (13, B x12), (14, I x13)] [sl 0 x14] ?_
  obtain ⟨v20, hv21, h⟩ := bindS h
  refine qX (some 39) (pf v20 0) 67 [(39, pf v20 0), (1, A a1), (2, A a2), (3, A a3), (4, A a4), (11, rf 0 0 1 x14), (12, I x5), (13, B x12), (14, I x13)] [sl 0 x14] (fun Γ' hΓ => CoreE.of_y (idxV_sound τ_ok (by kernel_rfl) hv21)) trivial ?_
  refine qv [] trivial 3 67 [(42, I x13), (41, A a3), (40, A v20), (1, A a1), (2, A a2), (3, A a3), (4, A a4), (11, rf 0 0 1 x14), (12, I x5), (13, B x12), (14, I x13)] [sl 0 x14] ?_
  obtain ⟨v22, hv23, h⟩ := bindS h
  refine qX (some 43) (pf v22 0) 67 [(43, pf v22 0), (40, A v20), (1, A a1), (2, A a2), (3, A a3), (4, A a4), (11, rf 0 0 1 x14), (12, I x5), (13, B x12), (14, I x13)] [sl 0 x14] (fun Γ' hΓ => CoreE.of_y (idxV_sound τ_ok (by kernel_rfl) hv23)) trivial ?_
  refine qv [] trivial 1 67 [(44, A v22), (40, A v20), (1, A a1), (2, A a2), (3, A a3), (4, A a4), (11, rf 0 0 1 x14), (12, I x5), (13, B x12), (14, I x13)] [sl 0 x14] ?_
  obtain ⟨v24, hv25, h⟩ := bindS h
  refine qX (some 45) (A v24) 67 [(45, A v24), (1, A a1), (2, A a2), (3, A a3), (4, A a4), (11, rf 0 0 1 x14), (12, I x5), (13, B x12), (14, I x13)] [sl 0 x14] (fun Γ' hΓ => CoreE.of_g (callV_sound (τ := τ) (by kernel_rfl) rfl (ok_spec_l6Joined hv25) (FzTo.O _))) trivial ?_
  refine qvn [] trivial 1 67 [(1, A a1), (2, A a2), (3, A a3), (4, A a4), (11, rf 0 0 1 x14), (12, I x5), (13, B x12), (14, I x13), (15, A v24)] [sl 0 x14] ?_
  refine srv 2 67 [(1, A a1), (2, A a2), (3, A a3), (4, A a4), (11, rf 0 0 1 x14), (12, I x5), (13, B x12), (14, I x13), (15, A v24), (46, A v24), (47, A a4)] [sl 0 x14] ?_
  obtain ⟨v26, hv27, h⟩ := bindS h
  refine cF 48 (ok_spec_l6Holds hv27) ?_
  refine ve 0 67 [(1, A a1), (2, A a2), (3, A a3), (4, A a4), (11, rf 0 0 1 x14), (12, I x5), (13, B x12), (14, I x13), (15, A v24), (48, B v26)] [sl 0 x14] ?_
  refine pc h (fun h => ?_) (fun h => ?_)
  refine srv 3 67 [(1, A a1), (2, A a2), (3, A a3), (4, A a4), (12, I x5), (14, I x13), (49, rf 0 0 1 x14), (51, .arr 1 (([v24] : List (List T_impl_Value))).length (eL ([v24] : List (List T_impl_Value))) true)] [sl 0 x14] ?_
  obtain ⟨v29, hv30, h⟩ := bindS h
  refine opsP_app τ_ok 52 0 0 (nx hX) hv30 (by kernel_rfl) ?_
  refine ve 1 67 [(1, A a1), (2, A a2), (3, A a3), (4, A a4), (11, rf 0 1 1 v29), (12, I x5), (14, I x13)] [sl 1 v29] ?_
  refine rve 67 [(1, A a1), (2, A a2), (3, A a3), (4, A a4), (11, rf 0 1 1 v29), (12, I x5), (13, B true), (14, I x13)] [sl 1 v29] ?_
  exact ⟨(true, v29), h, (it (st' := ⟨67, [(1, A a1), (2, A a2), (3, A a3), (4, A a4), (11, rf 0 1 1 v29), (12, I x5), (13, B true), (14, I x13)], [sl 1 v29]⟩) [1, 2, 3, 4, 11, 12, 13, 14]).trans (Imp.reverS 0 1 (eL v29) [1, 2, 3, 4, 11, 12, 13, 14] (by kernel_rfl) (by exact (And.intro (eL_frz _) trivial)) (by kernel_rfl))⟩
  refine pwp_skip ?_
  exact ⟨(x12, x14), h, it [1, 2, 3, 4, 11, 12, 13, 14]⟩
  rintro ⟨x18, x19⟩ h
  dsimp only at h ⊢
  unfold spec_LeftRows_j3 at h
  refine rve 67 [(1, A a1), (2, A a2), (3, A a3), (4, A a4), (11, rf 0 0 1 x19), (12, I x5), (13, B x18), (14, I ((w64 (x13 + 1))))] [sl 0 x19] ?_
  exact ⟨(f15, x18, (w64 (x13 + 1)), x19), h, Nat.lt_succ_self _, it [1, 2, 3, 4, 11, 12, 13, 14]⟩
  refine pwp_exit ?_
  refine srve 67 [(1, A a1), (2, A a2), (3, A a3), (4, A a4), (11, rf 0 0 1 x14), (12, I x5), (54, B ((!x12)))] [sl 0 x14] ?_
  refine pc h (fun h => ?_) (fun h => ?_)
  refine ip 67 [(1, A a1), (2, A a2), (3, A a3), (4, A a4), (11, rf 0 0 1 x14), (12, I x5)] [sl 0 x14] ?_
  refine pwp_imp (Imp.ghosts 1 (st' := ⟨67, [(1, A a1), (2, A a2), (3, A a3), (4, A a4), (11, rf 0 0 1 x14), (12, I x5)], [sl 0 x14, some ⟨0, []⟩]⟩) (by kernel_rfl)) ?_
  refine pwp_any ([[0], [], [], [], [], [], [], [1], [1], [], [0], [0]]) ([[], [], [], [], [], [], [], [1], [], [], [0], []]) rfl (by kernel_rfl) ?_
  refine qv [0] (hL trivial) 1 67 [(55, rf 0 0 1 x14), (1, A a1), (2, A a2), (3, A a3), (4, A a4), (11, rf 0 0 1 x14), (12, I x5)] [sl 0 x14, some ⟨0, []⟩] ?_
  refine qv [] trivial 2 67 [(57, I x5), (56, A a2), (55, rf 0 0 1 x14), (1, A a1), (2, A a2), (3, A a3), (4, A a4), (11, rf 0 0 1 x14), (12, I x5)] [sl 0 x14, some ⟨0, []⟩] ?_
  obtain ⟨v32, hv33, h⟩ := bindS h
  refine qX (some 58) (pf v32 0) 67 [(58, pf v32 0), (55, rf 0 0 1 x14), (1, A a1), (2, A a2), (3, A a3), (4, A a4), (11, rf 0 0 1 x14), (12, I x5)] [sl 0 x14, some ⟨0, []⟩] (fun Γ' hΓ => CoreE.of_y (idxV_sound τ_ok (by kernel_rfl) hv33)) trivial ?_
  refine qv [] trivial 3 67 [(61, I ((a1.length : Int))), (59, A v32), (55, rf 0 0 1 x14), (1, A a1), (2, A a2), (3, A a3), (4, A a4), (11, rf 0 0 1 x14), (12, I x5)] [sl 0 x14, some ⟨0, []⟩] ?_
  obtain ⟨v34, hv35, h⟩ := bindS h
  refine qX (some 62) (rf 1 1 3 v34) 67 [(62, rf 1 1 3 v34), (59, A v32), (55, rf 0 0 1 x14), (1, A a1), (2, A a2), (3, A a3), (4, A a4), (11, rf 0 0 1 x14), (12, I x5)] [sl 0 x14, sl 1 v34] (fun Γ' hΓ => mk_E (blk := ⟨0, []⟩) τ_ok 62 1 0 (ny hΓ hX) (by kernel_rfl) _ hv35 (by kernel_rfl)) (hL trivial) ?_
  obtain ⟨v36, hv37, h⟩ := bindS h
  refine qX (some 63) (A v36) 67 [(63, A v36), (55, rf 0 0 1 x14), (1, A a1), (2, A a2), (3, A a3), (4, A a4), (11, rf 0 0 1 x14), (12, I x5)] [sl 0 x14, sl 1 v34] (fun Γ' hΓ => CoreE.of_g (callVV_sound (xs := [A v32, rf 1 1 3 v34]) (τ := τ) (by kernel_rfl) (ViewL.cons (View.frz rfl) (ViewL.cons (View.whole (v := 1) v34 (by kernel_rfl) rfl) (ViewL.nil _))) (ok_spec_l6Joined hv37) (Blind.O (fun _ => rfl) _) (FzTo.O _))) (hL trivial) ?_
  refine qv [] trivial 1 67 [(64, .arr 1 (([v36] : List (List T_impl_Value))).length (eL ([v36] : List (List T_impl_Value))) true), (55, rf 0 0 1 x14), (1, A a1), (2, A a2), (3, A a3), (4, A a4), (11, rf 0 0 1 x14), (12, I x5)] [sl 0 x14, sl 1 v34] ?_
  obtain ⟨v38, hv39, h⟩ := bindS h
  refine qX (some 65) (rf 0 1 1 v38) 67 [(65, rf 0 1 1 v38), (1, A a1), (2, A a2), (3, A a3), (4, A a4), (11, rf 0 0 1 x14), (12, I x5)] [sl 1 v38, sl 1 v34] (fun Γ' hΓ => app_Ew τ_ok 65 0 0 (ny hΓ hX) hv39 (by kernel_rfl)) (hL trivial) ?_
  refine qvn [0] (hL trivial) 1 67 [(1, A a1), (2, A a2), (3, A a3), (4, A a4), (11, rf 0 1 1 v38), (12, I x5)] [sl 1 v38, sl 1 v34] ?_
  exact ⟨v38, h, (it (st' := ⟨67, [(1, A a1), (2, A a2), (3, A a3), (4, A a4), (11, rf 0 1 1 v38), (12, I x5)], [sl 1 v38, sl 1 v34]⟩) [1, 2, 3, 4, 11, 12]).trans ((Imp.truncS (st' := ⟨67, [(1, A a1), (2, A a2), (3, A a3), (4, A a4), (11, rf 0 1 1 v38), (12, I x5)], [sl 1 v38]⟩) 1 (nx hX) (by kernel_rfl) (allBelow_mem (by exact (And.intro rfl (And.intro rfl (And.intro rfl (And.intro rfl (And.intro rfl (And.intro rfl trivial)))))))) (by exact (And.intro (frz_below (eL_frz _)) trivial)) (by kernel_rfl)).trans (Imp.reverS 0 1 (eL v38) [1, 2, 3, 4, 11, 12] (by kernel_rfl) (by exact (And.intro (eL_frz _) trivial)) (by kernel_rfl)))⟩
  refine pwp_skip ?_
  exact ⟨x14, h, it [1, 2, 3, 4, 11, 12]⟩
  rintro x10 h
  unfold spec_LeftRows_j1 at h
  refine rve 67 [(1, A a1), (2, A a2), (3, A a3), (4, A a4), (11, rf 0 0 1 x10), (12, I ((w64 (x5 + 1))))] [sl 0 x10] ?_
  exact ⟨(f7, (w64 (x5 + 1)), x10), h, Nat.lt_succ_self _, it [1, 2, 3, 4, 11, 12]⟩
  refine pwp_exit ?_
  refine srve 67 [(10, rf 0 0 1 x6)] [sl 0 x6] ?_
  have h := si h
  subst h
  exact pwp_ret (rt (rf 0 0 1 x6) (OutP.list (v := 0) (by kernel_rfl)))
def impl_LeftColumns_l1 (a1 : List T_impl_Column) : Nat → Int → (List T_impl_Column) → Option (List T_impl_Column)
  | 0, _, _ => none
  | f8 + 1, x6, x7 => bif (decide (x6 < ((a1.length : Int)))) then (getI a1 x6).bind fun v11 => (app x7 (([(T_impl_Column.mk v11.fKind true)] : List T_impl_Column))).bind fun v13 => (impl_LeftColumns_l1 a1 f8) ((w64 (x6 + 1))) v13 else (impl_clone_impl_Column x7).bind fun v15 => some v15
def impl_LeftColumns_j0 (a0 : List T_impl_Column) (a1 : List T_impl_Column) (x1 : Bool) : Option (List T_impl_Column) := bif x1 then some (([] : List T_impl_Column)) else (impl_clone_impl_Column_R a0).bind fun v3 => impl_LeftColumns_l1 a1 FUEL 0 v3
def impl_LeftColumns (a0 : List T_impl_Column) (a1 : List T_impl_Column) : Option (List T_impl_Column) := (impl_ColumnsOk a0).bind fun v17 => bif (!v17) then impl_LeftColumns_j0 a0 a1 true else (impl_ColumnsOk a1).bind fun v19 => bif (!v19) then impl_LeftColumns_j0 a0 a1 true else impl_LeftColumns_j0 a0 a1 ((decide (((w64 (((a0.length : Int)) + ((a1.length : Int))))) > 4)))
theorem ok_impl_LeftColumns {a0 : List T_impl_Column} {a1 : List T_impl_Column} {y : List T_impl_Column} (h : impl_LeftColumns a0 a1 = some y) : OK Tryz.prog 33 [A a0, A a1] (A y) := by
  refine ow Tryz.func33 fun Γ hX => ?_
  unfold impl_LeftColumns at h
  refine srveM [7] 41 [(0, A a0), (1, A a1)] [] ?_
  refine pwp_seq ?_
  refine pwp_seq ?_
  refine pwp_join (σ := Bool) (fun x1 => (⟨41, [(0, A a0), (1, A a1), (23, B x1)], []⟩ : St)) (fun x1 => impl_LeftColumns_j0 a0 a1 x1 = some y) ?_ ?_
  refine rvM [7] 1 41 [(0, A a0), (1, A a1), (8, A a0)] [] ?_
  obtain ⟨v17, hv18, h⟩ := bindS h
  refine cF 9 (ok_impl_ColumnsOk hv18) ?_
  refine vM [7] 2 41 [(0, A a0), (1, A a1), (11, B ((!v17)))] [] ?_
  rcases fk ((!v17)) with hc22 | hc22
  replace h := bT hc22 h
  rw [hc22]
  refine veM [7] 12 41 [(0, A a0), (1, A a1), (23, B true)] [] ?_
  exact ⟨true, h, it [0, 1, 23]⟩
  replace h := bF hc22 h
  rw [hc22]
  refine vM [7] 1 41 [(0, A a0), (1, A a1), (11, B false), (12, A a1)] [] ?_
  obtain ⟨v19, hv20, h⟩ := bindS h
  refine cF 13 (ok_impl_ColumnsOk hv20) ?_
  refine vM [7] 3 41 [(0, A a0), (1, A a1), (16, B ((!v19)))] [] ?_
  rcases fk ((!v19)) with hc21 | hc21
  replace h := bT hc21 h
  rw [hc21]
  refine veM [7] 7 41 [(0, A a0), (1, A a1), (23, B true)] [] ?_
  exact ⟨true, h, it [0, 1, 23]⟩
  replace h := bF hc21 h
  rw [hc21]
  refine veM [7] 7 41 [(0, A a0), (1, A a1), (23, B ((decide (((w64 (((a0.length : Int)) + ((a1.length : Int))))) > 4))))] [] ?_
  exact ⟨(decide (((w64 (((a0.length : Int)) + ((a1.length : Int))))) > 4)), h, it [0, 1, 23]⟩
  rintro x1 h
  unfold impl_LeftColumns_j0 at h
  refine pc h (fun h => ?_) (fun h => ?_)
  refine srveM [7] 41 [(4, .arr 2 0 (eL ([] : List T_impl_Column)) true)] [] ?_
  refine ip 41 [(4, .arr 2 0 (eL ([] : List T_impl_Column)) true)] [] ?_
  refine pwp_imp (Imp.unfS (st' := ⟨41, [(4, A (([] : List T_impl_Column)))], []⟩) 4 [4] (by kernel_rfl)) ?_
  cases h
  exact pwp_ret rz
  refine pwp_skip ?_
  refine srvM [7] 1 41 [(1, A a1), (24, A a0)] [] ?_
  obtain ⟨v3, hv4, h⟩ := bindS h
  refine opsP_callO τ 25 (ok_impl_clone_impl_Column_R hv4) rfl (by kernel_rfl) ?_
  refine veM [7] 1 41 [(1, A a1), (5, rf 0 0 2 v3)] [sl 0 v3] ?_
  refine pwp_seq ?_
  refine srveM [7] 41 [(5, rf 0 0 2 v3), (26, A a1), (27, I ((a1.length : Int))), (28, I 0)] [sl 0 v3] ?_
  refine pwp_block ?_
  refine pwp_loop (ι := Nat × Int × (List T_impl_Column)) (fun (f8, x6, x7) => (⟨41, [(5, rf 0 0 2 x7), (26, A a1), (27, I ((a1.length : Int))), (28, I x6)], [sl 0 x7]⟩ : St)) (fun (f8, x6, x7) => impl_LeftColumns_l1 a1 f8 x6 x7 = some y) Prod.fst (FUEL, 0, v3) h (it [5, 26, 27, 28]) ?_
  rintro ⟨f8, x6, x7⟩ h
  dsimp only at h ⊢
  rcases f8 with _ | f8
  cases h
  rw [impl_LeftColumns_l1] at h
  refine srveM [7] 41 [(5, rf 0 0 2 x7), (26, A a1), (27, I ((a1.length : Int))), (28, I x6), (29, B ((decide (x6 < ((a1.length : Int))))))] [sl 0 x7] ?_
  refine pwp_seq ?_
  refine pc h (fun h => ?_) (fun h => ?_)
  refine pwp_skip ?_
  refine pwp_seq ?_
  refine pwp_block ?_
  refine pwp_seq ?_
  refine pwp_region ?_
  obtain ⟨v11, hv12, h⟩ := bindS h
  refine opsP_idx τ_ok 30 hv12 (by kernel_rfl) ?_
  refine veM [7] 3 41 [(5, rf 0 0 2 x7), (7, .ptr 1 0 0), (26, A a1), (27, I ((a1.length : Int))), (28, I x6)] [sl 0 x7, sc 0 v11] ?_
  refine rvM [7] 5 41 [(26, A a1), (27, I ((a1.length : Int))), (28, I x6), (32, rf 0 0 2 x7), (36, .arr 2 (([(T_impl_Column.mk v11.fKind true)] : List T_impl_Column)).length (eL ([(T_impl_Column.mk v11.fKind true)] : List T_impl_Column)) true)] [sl 0 x7, sc 0 v11] ?_
  obtain ⟨v13, hv14, h⟩ := bindS h
  refine opsP_app τ_ok 37 0 0 (nx hX) hv14 (by kernel_rfl) ?_
  refine veM [7] 1 41 [(5, rf 0 1 2 v13), (26, A a1), (27, I ((a1.length : Int))), (28, I x6)] [sl 1 v13, sc 0 v11] ?_
  refine rveM [7] 41 [(5, rf 0 1 2 v13), (26, A a1), (27, I ((a1.length : Int))), (28, I ((w64 (x6 + 1))))] [sl 1 v13, sc 0 v11] ?_
  exact ⟨(f8, (w64 (x6 + 1)), v13), h, Nat.lt_succ_self _, (it (st' := ⟨41, [(5, rf 0 1 2 v13), (26, A a1), (27, I ((a1.length : Int))), (28, I ((w64 (x6 + 1))))], [sl 1 v13, sc 0 v11]⟩) [5, 26, 27, 28]).trans ((Imp.truncS (st' := ⟨41, [(5, rf 0 1 2 v13), (26, A a1), (27, I ((a1.length : Int))), (28, I ((w64 (x6 + 1))))], [sl 1 v13]⟩) 1 (nx hX) (by kernel_rfl) (allBelow_mem (by exact (And.intro rfl (And.intro rfl (And.intro rfl (And.intro rfl trivial)))))) (by exact (And.intro (frz_below (eL_frz _)) trivial)) (by kernel_rfl)).trans (Imp.reverS 0 1 (eL v13) [5, 26, 27, 28] (by kernel_rfl) (by exact (And.intro (eL_frz _) trivial)) (by kernel_rfl)))⟩
  refine pwp_exit ?_
  refine srvM [7] 1 41 [(39, rf 0 0 2 x7)] [sl 0 x7] ?_
  refine opsP_imp ((Imp.freezeB (v := 0) (cs := eL x7) (st' := ⟨41, [(39, A x7)], [none]⟩) 0 0 (nx hX) (by kernel_rfl) (eL_frz _) (wholeC (whole_is (eL_len x7).symm) wholeC0) (HpRel.key HpRel.nil) (by kernel_rfl) rfl (nx hX))) ?_
  obtain ⟨v15, hv16, h⟩ := bindS h
  refine cF 40 (ok_impl_clone_impl_Column hv16) ?_
  refine veM [7] 1 41 [(4, A v15)] [none] ?_
  cases h
  exact pwp_ret rz
def spec_l20Pair_j0 (v7 : List T_impl_Column) (v15 : List T_impl_Column) (v19 : Int × T_spec_l20Rd) (v21 : T_impl_Column) (v23 : T_impl_Column) (v29 : List (List T_impl_Value)) (x33 : Int) (x34 : Int) (x35 : T_spec_l20Rd) (x36 : List (List T_impl_Value)) : Option (((List T_impl_Column) × (List T_impl_Column) × (List (List T_impl_Value)) × (List (List T_impl_Value)) × Int × Int) × T_spec_l20Rd) := some ((v7, (v15.set v19.1.toNat (({ v23 with fKind := v21.fKind } : T_impl_Column))), v29, x36, x33, x34), x35)
def spec_l20Pair (a0 : T_spec_l20Rd) (a1 : Int) : Option (((List T_impl_Column) × (List T_impl_Column) × (List (List T_impl_Value)) × (List (List T_impl_Value)) × Int × Int) × T_spec_l20Rd) := (spec_l20Columns a0 0).bind fun v1 => (spec_l20Rd_pick v1.2 2).bind fun v3 => (remI v3.1 ((v1.1.length : Int))).bind fun v5 => (slI v1.1 none (some ((w64 (1 + v5)))) none).bind fun v7 => (spec_l20Columns v3.2 0).bind fun v9 => (spec_l20Rd_pick v9.2 2).bind fun v11 => (remI v11.1 ((v9.1.length : Int))).bind fun v13 => (slI v9.1 none (some ((w64 (1 + v13)))) none).bind fun v15 => (spec_l20Rd_pick v11.2 ((v7.length : Int))).bind fun v17 => (spec_l20Rd_pick v17.2 ((v15.length : Int))).bind fun v19 => (getI v7 v17.1).bind fun v21 => (getI v15 v19.1).bind fun v23 => (spec_l20Bag v19.2 v7 0).bind fun v25 => (spec_l20Bag v25.2 v7 0).bind fun v27 => (app v25.1 v27.1).bind fun v29 => (spec_l20Bag_L1 v27.2 ((v15.set v19.1.toNat (({ v23 with fKind := v21.fKind } : T_impl_Column)))) 0).bind fun v31 => (spec_l20Rd_odd v31.2 a1).bind fun v37 => bif v37.1 then (spec_l20Rd_pick v37.2 3).bind fun v40 => bif (v40.1 == 0) then (spec_l20Rd_pick v40.2 6).bind fun v43 => spec_l20Pair_j0 v7 v15 v19 v21 v23 v29 ((w64 (v43.1 - 1))) v19.1 v43.2 v31.1 else bif (v40.1 == 1) then (app v31.1 (([[(T_impl_Value.mk 7 0 (ByteArray.mk #[]))]] : List (List T_impl_Value)))).bind fun v46 => spec_l20Pair_j0 v7 v15 v19 v21 v23 v29 v17.1 v19.1 v40.2 v46 else (spec_l20Rd_pick v40.2 6).bind fun v48 => spec_l20Pair_j0 v7 v15 v19 v21 v23 v29 v17.1 ((w64 (v48.1 - 1))) v48.2 v31.1 else spec_l20Pair_j0 v7 v15 v19 v21 v23 v29 v17.1 v19.1 v37.2 v31.1
theorem ok_spec_l20Pair {a0 : T_spec_l20Rd} {a1 : Int} {y : ((List T_impl_Column) × (List T_impl_Column) × (List (List T_impl_Value)) × (List (List T_impl_Value)) × Int × Int) × T_spec_l20Rd} (h : spec_l20Pair a0 a1 = some y) : OKb Tryz.prog 58 (Enc.cells a0) [I a1] (.tup [A y.1.1, O y.1.2.1, O y.1.2.2.1, O y.1.2.2.2.1, I y.1.2.2.2.2.1, I y.1.2.2.2.2.2]) (Enc.cells y.2) := by
  refine OKb_of_pwp τ_ok Tryz.func58 rfl (by kernel_rfl) rfl (Enc.frz _) (Enc.frz _) fun Γ hQ => ?_
  unfold spec_l20Pair at h
  refine srve 89 [(0, .ptr 0 0 0), (1, I a1)] [sc 0 a0] ?_
  refine srv 1 89 [(0, .ptr 0 0 0), (1, I a1), (16, .ptr 0 0 0)] [sc 0 a0] ?_
  obtain ⟨v1, hv2, h⟩ := bindS h
  refine cBo 17 0 0 (ok_spec_l20Columns hv2) ?_
  refine ve 1 89 [(0, .ptr 0 0 0), (1, I a1), (10, A v1.1)] [sc 0 v1.2] ?_
  refine srv 2 89 [(0, .ptr 0 0 0), (1, I a1), (10, A v1.1), (18, A v1.1), (19, .ptr 0 0 0)] [sc 0 v1.2] ?_
  obtain ⟨v3, hv4, h⟩ := bindS h
  refine cB 20 0 0 (ok_spec_l20Rd_pick hv4) ?_
  refine v 2 89 [(0, .ptr 0 0 0), (1, I a1), (18, A v1.1), (20, I v3.1), (22, I ((v1.1.length : Int)))] [sc 0 v3.2] ?_
  obtain ⟨v5, hv6, h⟩ := bindS h
  refine opsP_div τ_ok (r := true) 23 hv6 (by kernel_rfl) ?_
  refine v 1 89 [(0, .ptr 0 0 0), (1, I a1), (18, A v1.1), (24, I ((w64 (1 + v5))))] [sc 0 v3.2] ?_
  obtain ⟨v7, hv8, h⟩ := bindS h
  refine opsP_slc τ_ok 25 hv8 (by kernel_rfl) ?_
  refine ve 1 89 [(0, .ptr 0 0 0), (1, I a1), (10, A v7)] [sc 0 v3.2] ?_
  refine srv 1 89 [(0, .ptr 0 0 0), (1, I a1), (10, A v7), (26, .ptr 0 0 0)] [sc 0 v3.2] ?_
  obtain ⟨v9, hv10, h⟩ := bindS h
  refine opsP_E (dd := some 27) (x := rf 1 0 2 v9.1) (callBN_E τ 27 0 0 1 (by first | exact pn hQ | exact pk hQ) (by decide) (ok_spec_l20Columns hv10) rfl (by kernel_rfl) (by kernel_rfl)) ?_
  refine ve 1 89 [(0, .ptr 0 0 0), (1, I a1), (10, A v7), (11, rf 1 0 2 v9.1)] [sc 0 v9.2, sl 0 v9.1] ?_
  refine srv 2 89 [(0, .ptr 0 0 0), (1, I a1), (10, A v7), (11, rf 1 0 2 v9.1), (28, rf 1 0 2 v9.1), (29, .ptr 0 0 0)] [sc 0 v9.2, sl 0 v9.1] ?_
  obtain ⟨v11, hv12, h⟩ := bindS h
  refine cB 30 0 0 (ok_spec_l20Rd_pick hv12) ?_
  refine v 2 89 [(0, .ptr 0 0 0), (1, I a1), (10, A v7), (28, rf 1 0 2 v9.1), (30, I v11.1), (32, I ((v9.1.length : Int)))] [sc 0 v11.2, sl 0 v9.1] ?_
  obtain ⟨v13, hv14, h⟩ := bindS h
  refine opsP_div τ_ok (r := true) 33 hv14 (by kernel_rfl) ?_
  refine v 1 89 [(0, .ptr 0 0 0), (1, I a1), (10, A v7), (28, rf 1 0 2 v9.1), (34, I ((w64 (1 + v13))))] [sc 0 v11.2, sl 0 v9.1] ?_
  obtain ⟨v15, hv16, h⟩ := bindS h
  refine opsP_slr τ_ok 35 1 0 v9.1.length hv16 rfl (by kernel_rfl) ?_
  refine ve 1 89 [(0, .ptr 0 0 0), (1, I a1), (10, A v7), (11, rf 1 0 2 v15)] [sc 0 v11.2, sl 0 v9.1] ?_
  refine srv 3 89 [(0, .ptr 0 0 0), (1, I a1), (10, A v7), (11, rf 1 0 2 v15), (36, .ptr 0 0 0), (38, I ((v7.length : Int)))] [sc 0 v11.2, sl 0 v9.1] ?_
  obtain ⟨v17, hv18, h⟩ := bindS h
  refine cB 39 0 0 (ok_spec_l20Rd_pick hv18) ?_
  refine ve 1 89 [(0, .ptr 0 0 0), (1, I a1), (10, A v7), (11, rf 1 0 2 v15), (12, I v17.1)] [sc 0 v17.2, sl 0 v9.1] ?_
  refine srv 3 89 [(0, .ptr 0 0 0), (1, I a1), (10, A v7), (11, rf 1 0 2 v15), (12, I v17.1), (40, .ptr 0 0 0), (42, I ((v15.length : Int)))] [sc 0 v17.2, sl 0 v9.1] ?_
  obtain ⟨v19, hv20, h⟩ := bindS h
  refine cB 43 0 0 (ok_spec_l20Rd_pick hv20) ?_
  refine ve 1 89 [(0, .ptr 0 0 0), (1, I a1), (10, A v7), (11, rf 1 0 2 v15), (12, I v17.1), (13, I v19.1)] [sc 0 v19.2, sl 0 v9.1] ?_
  refine srv 4 89 [(0, .ptr 0 0 0), (1, I a1), (10, A v7), (11, rf 1 0 2 v15), (12, I v17.1), (13, I v19.1), (44, rf 1 0 2 v15), (45, I v19.1), (46, A v7), (47, I v17.1)] [sc 0 v19.2, sl 0 v9.1] ?_
  obtain ⟨v21, hv22, h⟩ := bindS h
  refine opsP_idx τ_ok 48 hv22 (by kernel_rfl) ?_
  refine v 2 89 [(0, .ptr 0 0 0), (1, I a1), (10, A v7), (11, rf 1 0 2 v15), (12, I v17.1), (13, I v19.1), (44, rf 1 0 2 v15), (45, I v19.1), (50, I v21.fKind)] [sc 0 v19.2, sl 0 v9.1] ?_
  obtain ⟨v23, hv24, h⟩ := bindS h
  refine opsP_idr τ_ok 51 1 0 v15.length hv24 rfl (by kernel_rfl) ?_
  refine v 1 89 [(0, .ptr 0 0 0), (1, I a1), (10, A v7), (11, rf 1 0 2 v15), (12, I v17.1), (13, I v19.1), (50, I v21.fKind), (52, .ptr 1 0 (v19.1.toNat * 2))] [sc 0 v19.2, sl 0 v9.1] ?_
  refine opsP_E (dd := none) (x := .any) (ste_E (vs := [I v21.fKind]) τ_ok 3 1 0 0 (({ v23 with fKind := v21.fKind } : T_impl_Column)) (getI_part0 hv16 hv24) (by kernel_rfl) (by kernel_rfl) (by kernel_rfl)) ?_
  refine io 89 [(0, .ptr 0 0 0), (1, I a1), (10, A v7), (11, rf 1 0 2 v15), (12, I v17.1), (13, I v19.1), (50, I v21.fKind), (52, .ptr 1 0 (v19.1.toNat * 2))] [sc 0 v19.2, some ⟨0, eL ((v9.1.set v19.1.toNat (({ v23 with fKind := v21.fKind } : T_impl_Column))))⟩] ?_
  refine opsP_imp (Imp.of_eq (st' := ⟨89, [(0, .ptr 0 0 0), (1, I a1), (10, A v7), (11, .ref 1 0 0 2 ((v15.set v19.1.toNat (({ v23 with fKind := v21.fKind } : T_impl_Column)))).length false), (12, I v17.1), (13, I v19.1), (50, I v21.fKind), (52, .ptr 1 0 (v19.1.toNat * 2))], [sc 0 v19.2, some ⟨0, eL ((v9.1.set v19.1.toNat (({ v23 with fKind := v21.fKind } : T_impl_Column))))⟩]⟩) (by simp only [List.length_set])) ?_
  refine ve 0 89 [(0, .ptr 0 0 0), (1, I a1), (10, A v7), (11, .ref 1 0 0 2 ((v15.set v19.1.toNat (({ v23 with fKind := v21.fKind } : T_impl_Column)))).length false), (12, I v17.1), (13, I v19.1)] [sc 0 v19.2, some ⟨0, eL ((v9.1.set v19.1.toNat (({ v23 with fKind := v21.fKind } : T_impl_Column))))⟩] ?_
  refine srv 2 89 [(0, .ptr 0 0 0), (1, I a1), (10, A v7), (11, .ref 1 0 0 2 ((v15.set v19.1.toNat (({ v23 with fKind := v21.fKind } : T_impl_Column)))).length false), (12, I v17.1), (13, I v19.1), (53, .ptr 0 0 0), (54, A v7)] [sc 0 v19.2, some ⟨0, eL ((v9.1.set v19.1.toNat (({ v23 with fKind := v21.fKind } : T_impl_Column))))⟩] ?_
  obtain ⟨v25, hv26, h⟩ := bindS h
  refine opsP_E (dd := some 55) (x := rf 2 0 1 v25.1) (callBN_E τ 55 0 0 2 (by first | exact pn hQ | exact pk hQ) (by decide) (ok_spec_l20Bag hv26) rfl (by kernel_rfl) (by kernel_rfl)) ?_
  refine v 2 89 [(0, .ptr 0 0 0), (1, I a1), (10, A v7), (11, .ref 1 0 0 2 ((v15.set v19.1.toNat (({ v23 with fKind := v21.fKind } : T_impl_Column)))).length false), (12, I v17.1), (13, I v19.1), (55, rf 2 0 1 v25.1), (56, .ptr 0 0 0), (57, A v7)] [sc 0 v25.2, some ⟨0, eL ((v9.1.set v19.1.toNat (({ v23 with fKind := v21.fKind } : T_impl_Column))))⟩, sl 0 v25.1] ?_
  obtain ⟨v27, hv28, h⟩ := bindS h
  refine cBo 58 0 0 (ok_spec_l20Bag hv28) ?_
  obtain ⟨v29, hv30, h⟩ := bindS h
  refine opsP_app τ_ok 59 2 0 (pn hQ) hv30 (by kernel_rfl) ?_
  refine ve 1 89 [(0, .ptr 0 0 0), (1, I a1), (10, A v7), (11, .ref 1 0 0 2 ((v15.set v19.1.toNat (({ v23 with fKind := v21.fKind } : T_impl_Column)))).length false), (12, I v17.1), (13, I v19.1), (14, rf 2 1 1 v29)] [sc 0 v27.2, some ⟨0, eL ((v9.1.set v19.1.toNat (({ v23 with fKind := v21.fKind } : T_impl_Column))))⟩, sl 1 v29] ?_
  refine srv 2 89 [(0, .ptr 0 0 0), (1, I a1), (10, A v7), (11, .ref 1 0 0 2 ((v15.set v19.1.toNat (({ v23 with fKind := v21.fKind } : T_impl_Column)))).length false), (12, I v17.1), (13, I v19.1), (14, rf 2 1 1 v29), (60, .ptr 0 0 0), (61, .ref 1 0 0 2 ((v15.set v19.1.toNat (({ v23 with fKind := v21.fKind } : T_impl_Column)))).length false)] [sc 0 v27.2, some ⟨0, eL ((v9.1.set v19.1.toNat (({ v23 with fKind := v21.fKind } : T_impl_Column))))⟩, sl 1 v29] ?_
  refine opsP_imp (Imp.cut (st' := ⟨89, [(0, .ptr 0 0 0), (1, I a1), (10, A v7), (11, .ref 1 0 0 2 ((v15.set v19.1.toNat (({ v23 with fKind := v21.fKind } : T_impl_Column)))).length false), (12, I v17.1), (13, I v19.1), (14, rf 2 1 1 v29), (60, .ptr 0 0 0), (61, .ref 1 0 0 2 ((v15.set v19.1.toNat (({ v23 with fKind := v21.fKind } : T_impl_Column)))).length false)], [sc 0 v27.2, some ⟨0, eL ((v15.set v19.1.toNat (({ v23 with fKind := v21.fKind } : T_impl_Column))))⟩, sl 1 v29]⟩) 1 0 ((v9.1.set v19.1.toNat (({ v23 with fKind := v21.fKind } : T_impl_Column)))) ((v15.set v19.1.toNat (({ v23 with fKind := v21.fKind } : T_impl_Column)))) (by kernel_rfl) (slI_view (slI_set0 hv16)) (by kernel_rfl)) ?_
  obtain ⟨v31, hv32, h⟩ := bindS h
  refine opsP_E (dd := some 62) (x := rf 3 0 1 v31.1) (callX_E (bs := [⟨0, eL v31.1⟩]) τ 62 0 0 1 0 (ok_spec_l20Bag_L1 hv32) rfl rfl (by kernel_rfl) (by kernel_rfl)) ?_
  refine ve 1 89 [(0, .ptr 0 0 0), (1, I a1), (10, A v7), (11, .ref 1 0 0 2 ((v15.set v19.1.toNat (({ v23 with fKind := v21.fKind } : T_impl_Column)))).length false), (12, I v17.1), (13, I v19.1), (14, rf 2 1 1 v29), (15, rf 3 0 1 v31.1)] [sc 0 v31.2, some ⟨0, eL ((v15.set v19.1.toNat (({ v23 with fKind := v21.fKind } : T_impl_Column))))⟩, sl 1 v29, sl 0 v31.1] ?_
  refine pwp_seq ?_
  refine pwp_join (σ := Int × Int × T_spec_l20Rd × (List (List T_impl_Value))) (fun (x33, x34, x35, x36) => (⟨89, [(10, A v7), (11, .ref 1 0 0 2 ((v15.set v19.1.toNat (({ v23 with fKind := v21.fKind } : T_impl_Column)))).length false), (12, I x33), (13, I x34), (14, rf 2 0 1 v29), (15, rf 3 0 1 x36)], [sc 0 x35, some ⟨0, eL ((v15.set v19.1.toNat (({ v23 with fKind := v21.fKind } : T_impl_Column))))⟩, sl 0 v29, sl 0 x36]⟩ : St)) (fun (x33, x34, x35, x36) => spec_l20Pair_j0 v7 v15 v19 v21 v23 v29 x33 x34 x35 x36 = some y) ?_ ?_
  refine srv 2 89 [(0, .ptr 0 0 0), (10, A v7), (11, .ref 1 0 0 2 ((v15.set v19.1.toNat (({ v23 with fKind := v21.fKind } : T_impl_Column)))).length false), (12, I v17.1), (13, I v19.1), (14, rf 2 1 1 v29), (15, rf 3 0 1 v31.1), (63, .ptr 0 0 0), (64, I a1)] [sc 0 v31.2, some ⟨0, eL ((v15.set v19.1.toNat (({ v23 with fKind := v21.fKind } : T_impl_Column))))⟩, sl 1 v29, sl 0 v31.1] ?_
  obtain ⟨v37, hv38, h⟩ := bindS h
  refine cB 65 0 0 (ok_spec_l20Rd_odd hv38) ?_
  refine ve 0 89 [(0, .ptr 0 0 0), (10, A v7), (11, .ref 1 0 0 2 ((v15.set v19.1.toNat (({ v23 with fKind := v21.fKind } : T_impl_Column)))).length false), (12, I v17.1), (13, I v19.1), (14, rf 2 1 1 v29), (15, rf 3 0 1 v31.1), (65, B v37.1)] [sc 0 v37.2, some ⟨0, eL ((v15.set v19.1.toNat (({ v23 with fKind := v21.fKind } : T_impl_Column))))⟩, sl 1 v29, sl 0 v31.1] ?_
  refine pc h (fun h => ?_) (fun h => ?_)
  refine srv 1 89 [(0, .ptr 0 0 0), (10, A v7), (11, .ref 1 0 0 2 ((v15.set v19.1.toNat (({ v23 with fKind := v21.fKind } : T_impl_Column)))).length false), (12, I v17.1), (13, I v19.1), (14, rf 2 1 1 v29), (15, rf 3 0 1 v31.1), (66, .ptr 0 0 0)] [sc 0 v37.2, some ⟨0, eL ((v15.set v19.1.toNat (({ v23 with fKind := v21.fKind } : T_impl_Column))))⟩, sl 1 v29, sl 0 v31.1] ?_
  obtain ⟨v40, hv41, h⟩ := bindS h
  refine cB 67 0 0 (ok_spec_l20Rd_pick hv41) ?_
  refine ve 0 89 [(0, .ptr 0 0 0), (10, A v7), (11, .ref 1 0 0 2 ((v15.set v19.1.toNat (({ v23 with fKind := v21.fKind } : T_impl_Column)))).length false), (12, I v17.1), (13, I v19.1), (14, rf 2 1 1 v29), (15, rf 3 0 1 v31.1), (67, I v40.1)] [sc 0 v40.2, some ⟨0, eL ((v15.set v19.1.toNat (({ v23 with fKind := v21.fKind } : T_impl_Column))))⟩, sl 1 v29, sl 0 v31.1] ?_
  refine pwp_block ?_
  refine srve 89 [(0, .ptr 0 0 0), (10, A v7), (11, .ref 1 0 0 2 ((v15.set v19.1.toNat (({ v23 with fKind := v21.fKind } : T_impl_Column)))).length false), (12, I v17.1), (13, I v19.1), (14, rf 2 1 1 v29), (15, rf 3 0 1 v31.1), (67, I v40.1), (71, B ((v40.1 == 0)))] [sc 0 v40.2, some ⟨0, eL ((v15.set v19.1.toNat (({ v23 with fKind := v21.fKind } : T_impl_Column))))⟩, sl 1 v29, sl 0 v31.1] ?_
  refine pc h (fun h => ?_) (fun h => ?_)
  refine rv 1 89 [(10, A v7), (11, .ref 1 0 0 2 ((v15.set v19.1.toNat (({ v23 with fKind := v21.fKind } : T_impl_Column)))).length false), (13, I v19.1), (14, rf 2 1 1 v29), (15, rf 3 0 1 v31.1), (73, .ptr 0 0 0)] [sc 0 v40.2, some ⟨0, eL ((v15.set v19.1.toNat (({ v23 with fKind := v21.fKind } : T_impl_Column))))⟩, sl 1 v29, sl 0 v31.1] ?_
  obtain ⟨v43, hv44, h⟩ := bindS h
  refine cB 74 0 0 (ok_spec_l20Rd_pick hv44) ?_
  refine ve 2 89 [(10, A v7), (11, .ref 1 0 0 2 ((v15.set v19.1.toNat (({ v23 with fKind := v21.fKind } : T_impl_Column)))).length false), (12, I ((w64 (v43.1 - 1)))), (13, I v19.1), (14, rf 2 1 1 v29), (15, rf 3 0 1 v31.1)] [sc 0 v43.2, some ⟨0, eL ((v15.set v19.1.toNat (({ v23 with fKind := v21.fKind } : T_impl_Column))))⟩, sl 1 v29, sl 0 v31.1] ?_
  exact ⟨((w64 (v43.1 - 1)), v19.1, v43.2, v31.1), h, (it (st' := ⟨89, [(10, A v7), (11, .ref 1 0 0 2 ((v15.set v19.1.toNat (({ v23 with fKind := v21.fKind } : T_impl_Column)))).length false), (12, I ((w64 (v43.1 - 1)))), (13, I v19.1), (14, rf 2 1 1 v29), (15, rf 3 0 1 v31.1)], [sc 0 v43.2, some ⟨0, eL ((v15.set v19.1.toNat (({ v23 with fKind := v21.fKind } : T_impl_Column))))⟩, sl 1 v29, sl 0 v31.1]⟩) [10, 11, 12, 13, 14, 15]).trans (Imp.reverS 2 1 (eL v29) [10, 11, 12, 13, 14, 15] (by kernel_rfl) (by exact (And.intro (rfl) (And.intro (eL_frz _) (And.intro (eL_frz _) (And.intro (eL_frz _) trivial))))) (by kernel_rfl))⟩
  refine srve 89 [(0, .ptr 0 0 0), (10, A v7), (11, .ref 1 0 0 2 ((v15.set v19.1.toNat (({ v23 with fKind := v21.fKind } : T_impl_Column)))).length false), (12, I v17.1), (13, I v19.1), (14, rf 2 1 1 v29), (15, rf 3 0 1 v31.1), (76, B ((v40.1 == 1)))] [sc 0 v40.2, some ⟨0, eL ((v15.set v19.1.toNat (({ v23 with fKind := v21.fKind } : T_impl_Column))))⟩, sl 1 v29, sl 0 v31.1] ?_
  refine pc h (fun h => ?_) (fun h => ?_)
  refine rv 4 89 [(10, A v7), (11, .ref 1 0 0 2 ((v15.set v19.1.toNat (({ v23 with fKind := v21.fKind } : T_impl_Column)))).length false), (12, I v17.1), (13, I v19.1), (14, rf 2 1 1 v29), (78, rf 3 0 1 v31.1), (81, .arr 1 (([[(T_impl_Value.mk 7 0 (ByteArray.mk #[]))]] : List (List T_impl_Value))).length (eL ([[(T_impl_Value.mk 7 0 (ByteArray.mk #[]))]] : List (List T_impl_Value))) true)] [sc 0 v40.2, some ⟨0, eL ((v15.set v19.1.toNat (({ v23 with fKind := v21.fKind } : T_impl_Column))))⟩, sl 1 v29, sl 0 v31.1] ?_
  obtain ⟨v46, hv47, h⟩ := bindS h
  refine opsP_app τ_ok 82 3 0 (pn hQ) hv47 (by kernel_rfl) ?_
  refine ve 1 89 [(10, A v7), (11, .ref 1 0 0 2 ((v15.set v19.1.toNat (({ v23 with fKind := v21.fKind } : T_impl_Column)))).length false), (12, I v17.1), (13, I v19.1), (14, rf 2 1 1 v29), (15, rf 3 1 1 v46)] [sc 0 v40.2, some ⟨0, eL ((v15.set v19.1.toNat (({ v23 with fKind := v21.fKind } : T_impl_Column))))⟩, sl 1 v29, sl 1 v46] ?_
  exact ⟨(v17.1, v19.1, v40.2, v46), h, (it (st' := ⟨89, [(10, A v7), (11, .ref 1 0 0 2 ((v15.set v19.1.toNat (({ v23 with fKind := v21.fKind } : T_impl_Column)))).length false), (12, I v17.1), (13, I v19.1), (14, rf 2 1 1 v29), (15, rf 3 1 1 v46)], [sc 0 v40.2, some ⟨0, eL ((v15.set v19.1.toNat (({ v23 with fKind := v21.fKind } : T_impl_Column))))⟩, sl 1 v29, sl 1 v46]⟩) [10, 11, 12, 13, 14, 15]).trans ((Imp.reverS (st' := ⟨89, [(10, A v7), (11, .ref 1 0 0 2 ((v15.set v19.1.toNat (({ v23 with fKind := v21.fKind } : T_impl_Column)))).length false), (12, I v17.1), (13, I v19.1), (14, rf 2 0 1 v29), (15, rf 3 1 1 v46)], [sc 0 v40.2, some ⟨0, eL ((v15.set v19.1.toNat (({ v23 with fKind := v21.fKind } : T_impl_Column))))⟩, sl 0 v29, sl 1 v46]⟩) 2 1 (eL v29) [10, 11, 12, 13, 14, 15] (by kernel_rfl) (by exact (And.intro (rfl) (And.intro (eL_frz _) (And.intro (eL_frz _) (And.intro (eL_frz _) trivial))))) (by kernel_rfl)).trans (Imp.reverS 3 1 (eL v46) [10, 11, 12, 13, 14, 15] (by kernel_rfl) (by exact (And.intro (rfl) (And.intro (eL_frz _) (And.intro (eL_frz _) (And.intro (eL_frz _) trivial))))) (by kernel_rfl)))⟩
  refine rv 1 89 [(10, A v7), (11, .ref 1 0 0 2 ((v15.set v19.1.toNat (({ v23 with fKind := v21.fKind } : T_impl_Column)))).length false), (12, I v17.1), (14, rf 2 1 1 v29), (15, rf 3 0 1 v31.1), (68, .ptr 0 0 0)] [sc 0 v40.2, some ⟨0, eL ((v15.set v19.1.toNat (({ v23 with fKind := v21.fKind } : T_impl_Column))))⟩, sl 1 v29, sl 0 v31.1] ?_
  obtain ⟨v48, hv49, h⟩ := bindS h
  refine cB 69 0 0 (ok_spec_l20Rd_pick hv49) ?_
  refine ve 2 89 [(10, A v7), (11, .ref 1 0 0 2 ((v15.set v19.1.toNat (({ v23 with fKind := v21.fKind } : T_impl_Column)))).length false), (12, I v17.1), (13, I ((w64 (v48.1 - 1)))), (14, rf 2 1 1 v29), (15, rf 3 0 1 v31.1)] [sc 0 v48.2, some ⟨0, eL ((v15.set v19.1.toNat (({ v23 with fKind := v21.fKind } : T_impl_Column))))⟩, sl 1 v29, sl 0 v31.1] ?_
  exact ⟨(v17.1, (w64 (v48.1 - 1)), v48.2, v31.1), h, (it (st' := ⟨89, [(10, A v7), (11, .ref 1 0 0 2 ((v15.set v19.1.toNat (({ v23 with fKind := v21.fKind } : T_impl_Column)))).length false), (12, I v17.1), (13, I ((w64 (v48.1 - 1)))), (14, rf 2 1 1 v29), (15, rf 3 0 1 v31.1)], [sc 0 v48.2, some ⟨0, eL ((v15.set v19.1.toNat (({ v23 with fKind := v21.fKind } : T_impl_Column))))⟩, sl 1 v29, sl 0 v31.1]⟩) [10, 11, 12, 13, 14, 15]).trans (Imp.reverS 2 1 (eL v29) [10, 11, 12, 13, 14, 15] (by kernel_rfl) (by exact (And.intro (rfl) (And.intro (eL_frz _) (And.intro (eL_frz _) (And.intro (eL_frz _) trivial))))) (by kernel_rfl))⟩
  refine pwp_skip ?_
  exact ⟨(v17.1, v19.1, v37.2, v31.1), h, (it (st' := ⟨89, [(10, A v7), (11, .ref 1 0 0 2 ((v15.set v19.1.toNat (({ v23 with fKind := v21.fKind } : T_impl_Column)))).length false), (12, I v17.1), (13, I v19.1), (14, rf 2 1 1 v29), (15, rf 3 0 1 v31.1)], [sc 0 v37.2, some ⟨0, eL ((v15.set v19.1.toNat (({ v23 with fKind := v21.fKind } : T_impl_Column))))⟩, sl 1 v29, sl 0 v31.1]⟩) [10, 11, 12, 13, 14, 15]).trans (Imp.reverS 2 1 (eL v29) [10, 11, 12, 13, 14, 15] (by kernel_rfl) (by exact (And.intro (rfl) (And.intro (eL_frz _) (And.intro (eL_frz _) (And.intro (eL_frz _) trivial))))) (by kernel_rfl))⟩
  rintro ⟨x33, x34, x35, x36⟩ h
  dsimp only at h ⊢
  unfold spec_l20Pair_j0 at h
  refine srve 89 [(4, A v7), (5, .ref 1 0 0 2 ((v15.set v19.1.toNat (({ v23 with fKind := v21.fKind } : T_impl_Column)))).length false), (6, rf 2 0 1 v29), (7, rf 3 0 1 x36), (8, I x33), (9, I x34)] [sc 0 x35, some ⟨0, eL ((v15.set v19.1.toNat (({ v23 with fKind := v21.fKind } : T_impl_Column))))⟩, sl 0 v29, sl 0 x36] ?_
  have h := si h
  subst h
  exact pwp_ret ⟨.inr rfl, .tup [A v7, .ref 1 0 0 2 ((v15.set v19.1.toNat (({ v23 with fKind := v21.fKind } : T_impl_Column)))).length false, rf 2 0 1 v29, rf 3 0 1 x36, I x33, I x34], _, 0, by kernel_rfl, (OutP.tup (OutL.cons (OutP.frz (by kernel_rfl)) (OutL.cons (OutP.list (v := 0) (by kernel_rfl)) (OutL.cons (OutP.list (v := 0) (by kernel_rfl)) (OutL.cons (OutP.list (v := 0) (by kernel_rfl)) (OutL.cons (OutP.frz (by kernel_rfl)) (OutL.cons (OutP.frz (by kernel_rfl)) (OutL.nil _)))))))), by decide, by decide, by kernel_rfl⟩
def spec_l20Test_j0 (v1 : ((List T_impl_Column) × (List T_impl_Column) × (List (List T_impl_Value)) × (List (List T_impl_Value)) × Int × Int) × T_spec_l20Rd) (x9 : List T_impl_Part) (x10 : T_spec_l20Rd) (x11 : List T_impl_Column) (x12 : List (List T_impl_Value)) : Option (((List T_impl_Column) × (List T_impl_Column) × (List (List T_impl_Value)) × (List (List T_impl_Value)) × (List T_impl_Part)) × T_spec_l20Rd) := some ((v1.1.1, x11, x12, v1.1.2.2.2.1, x9), x10)
def spec_l20Test (a0 : T_spec_l20Rd) (a1 : Int) : Option (((List T_impl_Column) × (List T_impl_Column) × (List (List T_impl_Value)) × (List (List T_impl_Value)) × (List T_impl_Part)) × T_spec_l20Rd) := (spec_l20Pair a0 0).bind fun v1 => (app (([] : List T_impl_Column)) v1.1.1).bind fun v3 => (appT v3 v1.1.2.1 v3.length).bind fun v5 => (spec_l20Expr v1.2 v5 3 2).bind fun v7 => (spec_l20Rd_odd v7.2 a1).bind fun v13 => bif v13.1 then (spec_l20Rd_pick v13.2 3).bind fun v16 => bif (v16.1 == 0) then (spec_l20Rd_pick v16.2 ((v7.1.length : Int))).bind fun v19 => (slI v7.1 none (some v19.1) none).bind fun v21 => spec_l20Test_j0 v1 v21 v19.2 v1.1.2.1 v1.1.2.2.1 else bif (v16.1 == 1) then (app v1.1.2.2.1 (([[(T_impl_Value.mk 7 0 (ByteArray.mk #[]))]] : List (List T_impl_Value)))).bind fun v24 => spec_l20Test_j0 v1 v7.1 v16.2 v1.1.2.1 v24 else (app v1.1.2.1 (([(T_impl_Column.mk 9 false)] : List T_impl_Column))).bind fun v26 => spec_l20Test_j0 v1 v7.1 v16.2 v26 v1.1.2.2.1 else spec_l20Test_j0 v1 v7.1 v13.2 v1.1.2.1 v1.1.2.2.1
theorem ok_spec_l20Test {a0 : T_spec_l20Rd} {a1 : Int} {y : ((List T_impl_Column) × (List T_impl_Column) × (List (List T_impl_Value)) × (List (List T_impl_Value)) × (List T_impl_Part)) × T_spec_l20Rd} (h : spec_l20Test a0 a1 = some y) : OKb Tryz.prog 72 (Enc.cells a0) [I a1] (.tup [A y.1.1, O y.1.2.1, O y.1.2.2.1, O y.1.2.2.2.1, A y.1.2.2.2.2]) (Enc.cells y.2) := by
  refine OKb_of_pwp τ_ok Tryz.func72 rfl (by kernel_rfl) rfl (Enc.frz _) (Enc.frz _) fun Γ hQ => ?_
  unfold spec_l20Test at h
  refine srve 61 [(0, .ptr 0 0 0), (1, I a1)] [sc 0 a0] ?_
  refine srv 1 61 [(0, .ptr 0 0 0), (1, I a1), (17, .ptr 0 0 0)] [sc 0 a0] ?_
  obtain ⟨v1, hv2, h⟩ := bindS h
  refine opsP_E (dd := some 18) (x := .tup [A v1.1.1, rf 1 0 2 v1.1.2.1, rf 2 0 1 v1.1.2.2.1, rf 3 0 1 v1.1.2.2.2.1, I v1.1.2.2.2.2.1, I v1.1.2.2.2.2.2]) (callBT_E (bs := [⟨0, eL v1.1.2.1⟩, ⟨0, eL v1.1.2.2.1⟩, ⟨0, eL v1.1.2.2.2.1⟩]) τ 18 0 0 (ok_spec_l20Pair hv2) rfl (by kernel_rfl) (by kernel_rfl)) ?_
  refine ve 13 61 [(0, .ptr 0 0 0), (1, I a1), (9, A v1.1.1), (10, rf 1 0 2 v1.1.2.1), (11, rf 2 0 1 v1.1.2.2.1), (12, rf 3 0 1 v1.1.2.2.2.1)] [sc 0 v1.2, sl 0 v1.1.2.1, sl 0 v1.1.2.2.1, sl 0 v1.1.2.2.2.1] ?_
  refine srv 3 61 [(0, .ptr 0 0 0), (1, I a1), (9, A v1.1.1), (10, rf 1 0 2 v1.1.2.1), (11, rf 2 0 1 v1.1.2.2.1), (12, rf 3 0 1 v1.1.2.2.2.1), (25, .ptr 0 0 0), (26, .arr 2 0 (eL ([] : List T_impl_Column)) true), (27, A v1.1.1)] [sc 0 v1.2, sl 0 v1.1.2.1, sl 0 v1.1.2.2.1, sl 0 v1.1.2.2.2.1] ?_
  refine opsP_thaw 26 2 (by kernel_rfl) ?_
  obtain ⟨v3, hv4, h⟩ := bindS h
  refine opsP_app τ_ok 28 4 0 (pn hQ) hv4 (by kernel_rfl) ?_
  refine v 1 61 [(0, .ptr 0 0 0), (1, I a1), (9, A v1.1.1), (10, rf 1 0 2 v1.1.2.1), (11, rf 2 0 1 v1.1.2.2.1), (12, rf 3 0 1 v1.1.2.2.2.1), (25, .ptr 0 0 0), (28, rf 4 1 2 v3), (29, rf 1 0 2 v1.1.2.1)] [sc 0 v1.2, sl 0 v1.1.2.1, sl 0 v1.1.2.2.1, sl 0 v1.1.2.2.2.1, sl 1 v3] ?_
  obtain ⟨v5, hv6, h⟩ := bindS h
  refine opsP_E (dd := some 30) (x := rf 4 2 2 v5) (apR_E τ_ok 30 4 1 v3.length (pn hQ) hv6 (Nat.le_refl _) (by kernel_rfl)) ?_
  refine v 0 61 [(0, .ptr 0 0 0), (1, I a1), (9, A v1.1.1), (10, rf 1 0 2 v1.1.2.1), (11, rf 2 0 1 v1.1.2.2.1), (12, rf 3 0 1 v1.1.2.2.2.1), (25, .ptr 0 0 0), (30, rf 4 2 2 v5)] [sc 0 v1.2, sl 0 v1.1.2.1, sl 0 v1.1.2.2.1, sl 0 v1.1.2.2.2.1, sl 2 v5] ?_
  refine opsP_imp ((Imp.freezeB (v := 2) (cs := eL v5) (st' := ⟨61, [(0, .ptr 0 0 0), (1, I a1), (9, A v1.1.1), (10, rf 1 0 2 v1.1.2.1), (11, rf 2 0 1 v1.1.2.2.1), (12, rf 3 0 1 v1.1.2.2.2.1), (25, .ptr 0 0 0), (30, A v5)], [sc 0 v1.2, sl 0 v1.1.2.1, sl 0 v1.1.2.2.1, sl 0 v1.1.2.2.2.1, none]⟩) 4 2 (pn hQ) (by kernel_rfl) (eL_frz _) (wholeC (whole_noRef (by kernel_rfl)) (wholeC (whole_noRef (by kernel_rfl)) (wholeC (whole_noRef (by kernel_rfl)) (wholeC (whole_ne rfl) (wholeC (whole_ne rfl) (wholeC (whole_ne rfl) (wholeC (whole_noRef (by kernel_rfl)) (wholeC (whole_is (eL_len v5).symm) wholeC0)))))))) (HpRel.frz rfl (Enc.frz _) (HpRel.frz rfl (eL_frz _) (HpRel.frz rfl (eL_frz _) (HpRel.frz rfl (eL_frz _) (HpRel.key HpRel.nil))))) (by kernel_rfl) rfl (p01 hQ))) ?_
  obtain ⟨v7, hv8, h⟩ := bindS h
  refine cBo 31 0 0 (ok_spec_l20Expr hv8) ?_
  refine ve 1 61 [(0, .ptr 0 0 0), (1, I a1), (9, A v1.1.1), (10, rf 1 0 2 v1.1.2.1), (11, rf 2 0 1 v1.1.2.2.1), (12, rf 3 0 1 v1.1.2.2.2.1), (15, A v7.1)] [sc 0 v7.2, sl 0 v1.1.2.1, sl 0 v1.1.2.2.1, sl 0 v1.1.2.2.2.1, none] ?_
  refine pwp_seq ?_
  refine pwp_join (σ := (List T_impl_Part) × T_spec_l20Rd × (List T_impl_Column) × (List (List T_impl_Value))) (fun (x9, x10, x11, x12) => (⟨61, [(9, A v1.1.1), (10, rf 1 0 2 x11), (11, rf 2 0 1 x12), (12, rf 3 0 1 v1.1.2.2.2.1), (15, A x9)], [sc 0 x10, sl 0 x11, sl 0 x12, sl 0 v1.1.2.2.2.1, none]⟩ : St)) (fun (x9, x10, x11, x12) => spec_l20Test_j0 v1 x9 x10 x11 x12 = some y) ?_ ?_
  refine srv 2 61 [(0, .ptr 0 0 0), (9, A v1.1.1), (10, rf 1 0 2 v1.1.2.1), (11, rf 2 0 1 v1.1.2.2.1), (12, rf 3 0 1 v1.1.2.2.2.1), (15, A v7.1), (32, .ptr 0 0 0), (33, I a1)] [sc 0 v7.2, sl 0 v1.1.2.1, sl 0 v1.1.2.2.1, sl 0 v1.1.2.2.2.1, none] ?_
  obtain ⟨v13, hv14, h⟩ := bindS h
  refine cB 34 0 0 (ok_spec_l20Rd_odd hv14) ?_
  refine ve 0 61 [(0, .ptr 0 0 0), (9, A v1.1.1), (10, rf 1 0 2 v1.1.2.1), (11, rf 2 0 1 v1.1.2.2.1), (12, rf 3 0 1 v1.1.2.2.2.1), (15, A v7.1), (34, B v13.1)] [sc 0 v13.2, sl 0 v1.1.2.1, sl 0 v1.1.2.2.1, sl 0 v1.1.2.2.2.1, none] ?_
  refine pc h (fun h => ?_) (fun h => ?_)
  refine srv 1 61 [(0, .ptr 0 0 0), (9, A v1.1.1), (10, rf 1 0 2 v1.1.2.1), (11, rf 2 0 1 v1.1.2.2.1), (12, rf 3 0 1 v1.1.2.2.2.1), (15, A v7.1), (35, .ptr 0 0 0)] [sc 0 v13.2, sl 0 v1.1.2.1, sl 0 v1.1.2.2.1, sl 0 v1.1.2.2.2.1, none] ?_
  obtain ⟨v16, hv17, h⟩ := bindS h
  refine cB 36 0 0 (ok_spec_l20Rd_pick hv17) ?_
  refine ve 0 61 [(0, .ptr 0 0 0), (9, A v1.1.1), (10, rf 1 0 2 v1.1.2.1), (11, rf 2 0 1 v1.1.2.2.1), (12, rf 3 0 1 v1.1.2.2.2.1), (15, A v7.1), (36, I v16.1)] [sc 0 v16.2, sl 0 v1.1.2.1, sl 0 v1.1.2.2.1, sl 0 v1.1.2.2.2.1, none] ?_
  refine pwp_block ?_
  refine srve 61 [(0, .ptr 0 0 0), (9, A v1.1.1), (10, rf 1 0 2 v1.1.2.1), (11, rf 2 0 1 v1.1.2.2.1), (12, rf 3 0 1 v1.1.2.2.2.1), (15, A v7.1), (36, I v16.1), (41, B ((v16.1 == 0)))] [sc 0 v16.2, sl 0 v1.1.2.1, sl 0 v1.1.2.2.1, sl 0 v1.1.2.2.2.1, none] ?_
  refine pc h (fun h => ?_) (fun h => ?_)
  refine rv 4 61 [(9, A v1.1.1), (10, rf 1 0 2 v1.1.2.1), (11, rf 2 0 1 v1.1.2.2.1), (12, rf 3 0 1 v1.1.2.2.2.1), (43, A v7.1), (44, .ptr 0 0 0), (46, I ((v7.1.length : Int)))] [sc 0 v16.2, sl 0 v1.1.2.1, sl 0 v1.1.2.2.1, sl 0 v1.1.2.2.2.1, none] ?_
  obtain ⟨v19, hv20, h⟩ := bindS h
  refine cB 47 0 0 (ok_spec_l20Rd_pick hv20) ?_
  obtain ⟨v21, hv22, h⟩ := bindS h
  refine opsP_slc τ_ok 48 hv22 (by kernel_rfl) ?_
  refine ve 1 61 [(9, A v1.1.1), (10, rf 1 0 2 v1.1.2.1), (11, rf 2 0 1 v1.1.2.2.1), (12, rf 3 0 1 v1.1.2.2.2.1), (15, A v21)] [sc 0 v19.2, sl 0 v1.1.2.1, sl 0 v1.1.2.2.1, sl 0 v1.1.2.2.2.1, none] ?_
  exact ⟨(v21, v19.2, v1.1.2.1, v1.1.2.2.1), h, it [9, 10, 11, 12, 15]⟩
  refine srve 61 [(9, A v1.1.1), (10, rf 1 0 2 v1.1.2.1), (11, rf 2 0 1 v1.1.2.2.1), (12, rf 3 0 1 v1.1.2.2.2.1), (15, A v7.1), (49, B ((v16.1 == 1)))] [sc 0 v16.2, sl 0 v1.1.2.1, sl 0 v1.1.2.2.1, sl 0 v1.1.2.2.2.1, none] ?_
  refine pc h (fun h => ?_) (fun h => ?_)
  refine rv 4 61 [(9, A v1.1.1), (10, rf 1 0 2 v1.1.2.1), (12, rf 3 0 1 v1.1.2.2.2.1), (15, A v7.1), (51, rf 2 0 1 v1.1.2.2.1), (54, .arr 1 (([[(T_impl_Value.mk 7 0 (ByteArray.mk #[]))]] : List (List T_impl_Value))).length (eL ([[(T_impl_Value.mk 7 0 (ByteArray.mk #[]))]] : List (List T_impl_Value))) true)] [sc 0 v16.2, sl 0 v1.1.2.1, sl 0 v1.1.2.2.1, sl 0 v1.1.2.2.2.1, none] ?_
  obtain ⟨v24, hv25, h⟩ := bindS h
  refine opsP_app τ_ok 55 2 0 (pn hQ) hv25 (by kernel_rfl) ?_
  refine ve 1 61 [(9, A v1.1.1), (10, rf 1 0 2 v1.1.2.1), (11, rf 2 1 1 v24), (12, rf 3 0 1 v1.1.2.2.2.1), (15, A v7.1)] [sc 0 v16.2, sl 0 v1.1.2.1, sl 1 v24, sl 0 v1.1.2.2.2.1, none] ?_
  exact ⟨(v7.1, v16.2, v1.1.2.1, v24), h, (it (st' := ⟨61, [(9, A v1.1.1), (10, rf 1 0 2 v1.1.2.1), (11, rf 2 1 1 v24), (12, rf 3 0 1 v1.1.2.2.2.1), (15, A v7.1)], [sc 0 v16.2, sl 0 v1.1.2.1, sl 1 v24, sl 0 v1.1.2.2.2.1, none]⟩) [9, 10, 11, 12, 15]).trans (Imp.reverS 2 1 (eL v24) [9, 10, 11, 12, 15] (by kernel_rfl) (by exact (And.intro (rfl) (And.intro (eL_frz _) (And.intro (eL_frz _) (And.intro (eL_frz _) trivial))))) (by kernel_rfl))⟩
  refine rv 3 61 [(9, A v1.1.1), (11, rf 2 0 1 v1.1.2.2.1), (12, rf 3 0 1 v1.1.2.2.2.1), (15, A v7.1), (37, rf 1 0 2 v1.1.2.1), (39, .arr 2 (([(T_impl_Column.mk 9 false)] : List T_impl_Column)).length (eL ([(T_impl_Column.mk 9 false)] : List T_impl_Column)) true)] [sc 0 v16.2, sl 0 v1.1.2.1, sl 0 v1.1.2.2.1, sl 0 v1.1.2.2.2.1, none] ?_
  obtain ⟨v26, hv27, h⟩ := bindS h
  refine opsP_app τ_ok 40 1 0 (pn hQ) hv27 (by kernel_rfl) ?_
  refine ve 1 61 [(9, A v1.1.1), (10, rf 1 1 2 v26), (11, rf 2 0 1 v1.1.2.2.1), (12, rf 3 0 1 v1.1.2.2.2.1), (15, A v7.1)] [sc 0 v16.2, sl 1 v26, sl 0 v1.1.2.2.1, sl 0 v1.1.2.2.2.1, none] ?_
  exact ⟨(v7.1, v16.2, v26, v1.1.2.2.1), h, (it (st' := ⟨61, [(9, A v1.1.1), (10, rf 1 1 2 v26), (11, rf 2 0 1 v1.1.2.2.1), (12, rf 3 0 1 v1.1.2.2.2.1), (15, A v7.1)], [sc 0 v16.2, sl 1 v26, sl 0 v1.1.2.2.1, sl 0 v1.1.2.2.2.1, none]⟩) [9, 10, 11, 12, 15]).trans (Imp.reverS 1 1 (eL v26) [9, 10, 11, 12, 15] (by kernel_rfl) (by exact (And.intro (rfl) (And.intro (eL_frz _) (And.intro (eL_frz _) (And.intro (eL_frz _) trivial))))) (by kernel_rfl))⟩
  refine pwp_skip ?_
  exact ⟨(v7.1, v13.2, v1.1.2.1, v1.1.2.2.1), h, it [9, 10, 11, 12, 15]⟩
  rintro ⟨x9, x10, x11, x12⟩ h
  dsimp only at h ⊢
  unfold spec_l20Test_j0 at h
  refine srve 61 [(4, A v1.1.1), (5, rf 1 0 2 x11), (6, rf 2 0 1 x12), (7, rf 3 0 1 v1.1.2.2.2.1), (8, A x9)] [sc 0 x10, sl 0 x11, sl 0 x12, sl 0 v1.1.2.2.2.1, none] ?_
  have h := si h
  subst h
  exact pwp_ret ⟨.inr rfl, .tup [A v1.1.1, rf 1 0 2 x11, rf 2 0 1 x12, rf 3 0 1 v1.1.2.2.2.1, A x9], _, 0, by kernel_rfl, (OutP.tup (OutL.cons (OutP.frz (by kernel_rfl)) (OutL.cons (OutP.list (v := 0) (by kernel_rfl)) (OutL.cons (OutP.list (v := 0) (by kernel_rfl)) (OutL.cons (OutP.list (v := 0) (by kernel_rfl)) (OutL.cons (OutP.frz (by kernel_rfl)) (OutL.nil _))))))), by decide, by decide, by kernel_rfl⟩
def impl_testOk (a0 : List T_impl_Column) (a1 : List T_impl_Column) (a2 : List (List T_impl_Value)) (a3 : List (List T_impl_Value)) (a4 : List T_impl_Part) : Option Bool := (impl_sidesOk a0 a1 a2 a3).bind fun v1 => bif v1 then (slices_Concat_impl_Column_impl_Column ([a0, a1])).bind fun v3 => (impl_ExprKind v3 a4).bind fun v5 => some ((v5 == 3)) else some false
theorem ok_impl_testOk {a0 : List T_impl_Column} {a1 : List T_impl_Column} {a2 : List (List T_impl_Value)} {a3 : List (List T_impl_Value)} {a4 : List T_impl_Part} {y : Bool} (h : impl_testOk a0 a1 a2 a3 a4 = some y) : OK Tryz.prog 73 [A a0, A a1, A a2, A a3, A a4] (B y) := by
  refine ow Tryz.func73 fun Γ hX => ?_
  unfold impl_testOk at h
  refine srve 25 [(0, A a0), (1, A a1), (2, A a2), (3, A a3), (4, A a4)] [] ?_
  refine srv 4 25 [(0, A a0), (1, A a1), (4, A a4), (11, A a0), (12, A a1), (13, A a2), (14, A a3)] [] ?_
  obtain ⟨v1, hv2, h⟩ := bindS h
  refine cF 15 (ok_impl_sidesOk hv2) ?_
  refine v 1 25 [(0, A a0), (1, A a1), (4, A a4), (16, B v1)] [] ?_
  rcases Bool.eq_false_or_eq_true v1 with hc7 | hc7
  replace h := bT hc7 h
  rw [hc7]
  refine v 3 25 [(4, A a4), (16, B true), (19, .arr 1 (([a0, a1] : List (List T_impl_Column))).length (eL ([a0, a1] : List (List T_impl_Column))) true)] [] ?_
  obtain ⟨v3, hv4, h⟩ := bindS h
  refine cFo 20 (ok_slices_Concat_impl_Column_impl_Column hv4) ?_
  refine v 1 25 [(16, B true), (20, A v3), (21, A a4)] [] ?_
  obtain ⟨v5, hv6, h⟩ := bindS h
  refine cF 22 (ok_impl_ExprKind hv6) ?_
  refine ve 3 25 [(10, B ((v5 == 3)))] [] ?_
  cases h
  exact pwp_ret rz
  replace h := bF hc7 h
  rw [hc7]
  refine ve 9 25 [(10, B false)] [] ?_
  cases h
  exact pwp_ret rz
def impl_exprHolds (a0 : List T_impl_Value) (a1 : List T_impl_Part) : Option Bool := (impl_exprValue a0 a1).bind fun v1 => (impl_ValueOf 1).bind fun v3 => some ((eq_T_impl_Value v1 v3))
theorem ok_impl_exprHolds {a0 : List T_impl_Value} {a1 : List T_impl_Part} {y : Bool} (h : impl_exprHolds a0 a1 = some y) : OK Tryz.prog 82 [A a0, A a1] (B y) := by
  refine ow Tryz.func82 fun Γ hX => ?_
  unfold impl_exprHolds at h
  refine srve 10 [(0, A a0), (1, A a1)] [] ?_
  refine srv 2 10 [(5, A a0), (6, A a1)] [] ?_
  obtain ⟨v1, hv2, h⟩ := bindS h
  refine cF 7 (ok_impl_exprValue hv2) ?_
  obtain ⟨v3, hv4, h⟩ := bindS h
  refine cF 8 (ok_impl_ValueOf hv4) ?_
  refine ve 2 10 [(4, B ((eq_T_impl_Value v1 v3)))] [] ?_
  cases h
  exact pwp_ret rz
def spec_DrawLeftRows (a0 : List UInt8) : Option ((List T_impl_Column) × (List T_impl_Column) × (List (List T_impl_Value)) × (List (List T_impl_Value)) × (List T_impl_Part)) := (spec_l20Open a0).bind fun v1 => (spec_l20Test v1 12).bind fun v3 => some (v3.1.1, v3.1.2.1, v3.1.2.2.1, v3.1.2.2.2.1, v3.1.2.2.2.2)
theorem ok_spec_DrawLeftRows {a0 : List UInt8} {y : (List T_impl_Column) × (List T_impl_Column) × (List (List T_impl_Value)) × (List (List T_impl_Value)) × (List T_impl_Part)} (h : spec_DrawLeftRows a0 = some y) : OK Tryz.prog 30 [A a0] (.tup [A y.1, A y.2.1, A y.2.2.1, A y.2.2.2.1, A y.2.2.2.2]) := by
  refine ow Tryz.func30 fun Γ hX => ?_
  unfold spec_DrawLeftRows at h
  refine srve 15 [(0, A a0)] [] ?_
  refine srv 1 15 [(7, A a0)] [] ?_
  obtain ⟨v1, hv2, h⟩ := bindS h
  refine opsP_callO τ 8 (ok_spec_l20Open hv2) rfl (by kernel_rfl) ?_
  obtain ⟨v3, hv4, h⟩ := bindS h
  refine opsP_callB τ 9 0 0 (ok_spec_l20Test hv4) (FzTo.tup (FzToL.cons (FzTo.frz rfl) (FzToL.cons (FzTo.O _) (FzToL.cons (FzTo.O _) (FzToL.cons (FzTo.O _) (FzToL.cons (FzTo.frz rfl) FzToL.nil)))))) rfl (by kernel_rfl) ?_
  refine ve 10 15 [(2, A v3.1.1), (3, A v3.1.2.1), (4, A v3.1.2.2.1), (5, A v3.1.2.2.2.1), (6, A v3.1.2.2.2.2)] [sc 0 v3.2] ?_
  have h := si h
  subst h
  exact pwp_ret (rt (.tup [A v3.1.1, A v3.1.2.1, A v3.1.2.2.1, A v3.1.2.2.2.1, A v3.1.2.2.2.2]) (OutP.tup (OutL.cons (OutP.frz (by kernel_rfl)) (OutL.cons (OutP.frz (by kernel_rfl)) (OutL.cons (OutP.frz (by kernel_rfl)) (OutL.cons (OutP.frz (by kernel_rfl)) (OutL.cons (OutP.frz (by kernel_rfl)) (OutL.nil _))))))))
def impl_partners_l0 (a0 : List T_impl_Value) (a1 : List (List T_impl_Value)) (a2 : List T_impl_Part) : Nat → Int → (List (List T_impl_Value)) → Option (List (List T_impl_Value))
  | 0, _, _ => none
  | f4 + 1, x2, x3 => bif (decide (x2 < ((a1.length : Int)))) then (getI a1 x2).bind fun v7 => (impl_beside a0 v7).bind fun v9 => (impl_exprHolds v9 a2).bind fun v11 => bif v11 then (app x3 (([v9] : List (List T_impl_Value)))).bind fun v14 => (impl_partners_l0 a0 a1 a2 f4) ((w64 (x2 + 1))) v14 else (impl_partners_l0 a0 a1 a2 f4) ((w64 (x2 + 1))) x3 else some x3
def impl_partners (a0 : List T_impl_Value) (a1 : List (List T_impl_Value)) (a2 : List T_impl_Part) : Option (List (List T_impl_Value)) := impl_partners_l0 a0 a1 a2 FUEL 0 (([] : List (List T_impl_Value)))
theorem ok_impl_partners {a0 : List T_impl_Value} {a1 : List (List T_impl_Value)} {a2 : List T_impl_Part} {y : List (List T_impl_Value)} (h : impl_partners a0 a1 a2 = some y) : OK Tryz.prog 76 [A a0, A a1, A a2] (O y) := by
  refine ow Tryz.func76 fun Γ hX => ?_
  unfold impl_partners at h
  refine srve 29 [(0, A a0), (1, A a1), (2, A a2)] [] ?_
  refine srve 29 [(0, A a0), (1, A a1), (2, A a2), (7, .arr 1 0 (eL ([] : List (List T_impl_Value))) true)] [] ?_
  refine pwp_seq ?_
  refine srve 29 [(0, A a0), (2, A a2), (7, .arr 1 0 (eL ([] : List (List T_impl_Value))) true), (11, A a1), (12, I ((a1.length : Int))), (13, I 0)] [] ?_
  refine pwp_block ?_
  refine pwp_loop (ι := Nat × Int × (List (List T_impl_Value))) (fun (f4, x2, x3) => (⟨29, [(0, A a0), (2, A a2), (7, rf 0 0 1 x3), (11, A a1), (12, I ((a1.length : Int))), (13, I x2)], [sl 0 x3]⟩ : St)) (fun (f4, x2, x3) => impl_partners_l0 a0 a1 a2 f4 x2 x3 = some y) Prod.fst (FUEL, 0, ([] : List (List T_impl_Value))) h (Imp.thawS 7 [0, 2, 7, 11, 12, 13] (by kernel_rfl)) ?_
  rintro ⟨f4, x2, x3⟩ h
  dsimp only at h ⊢
  rcases f4 with _ | f4
  cases h
  rw [impl_partners_l0] at h
  refine srve 29 [(0, A a0), (2, A a2), (7, rf 0 0 1 x3), (11, A a1), (12, I ((a1.length : Int))), (13, I x2), (14, B ((decide (x2 < ((a1.length : Int))))))] [sl 0 x3] ?_
  refine pwp_seq ?_
  refine pc h (fun h => ?_) (fun h => ?_)
  refine pwp_skip ?_
  refine pwp_seq ?_
  refine pwp_block ?_
  refine pwp_seq ?_
  refine pwp_region ?_
  obtain ⟨v7, hv8, h⟩ := bindS h
  refine opsP_idx τ_ok 15 hv8 (by kernel_rfl) ?_
  refine ve 2 29 [(0, A a0), (2, A a2), (7, rf 0 0 1 x3), (9, A v7), (11, A a1), (12, I ((a1.length : Int))), (13, I x2)] [sl 0 x3] ?_
  refine srv 2 29 [(0, A a0), (2, A a2), (7, rf 0 0 1 x3), (11, A a1), (12, I ((a1.length : Int))), (13, I x2), (17, A a0), (18, A v7)] [sl 0 x3] ?_
  obtain ⟨v9, hv10, h⟩ := bindS h
  refine cF 19 (ok_impl_beside hv10) ?_
  refine ve 1 29 [(0, A a0), (2, A a2), (7, rf 0 0 1 x3), (10, A v9), (11, A a1), (12, I ((a1.length : Int))), (13, I x2)] [sl 0 x3] ?_
  refine srv 2 29 [(0, A a0), (2, A a2), (7, rf 0 0 1 x3), (10, A v9), (11, A a1), (12, I ((a1.length : Int))), (13, I x2), (20, A v9), (21, A a2)] [sl 0 x3] ?_
  obtain ⟨v11, hv12, h⟩ := bindS h
  refine cF 22 (ok_impl_exprHolds hv12) ?_
  refine ve 0 29 [(0, A a0), (2, A a2), (7, rf 0 0 1 x3), (10, A v9), (11, A a1), (12, I ((a1.length : Int))), (13, I x2), (22, B v11)] [sl 0 x3] ?_
  refine pc h (fun h => ?_) (fun h => ?_)
  refine rv 3 29 [(0, A a0), (2, A a2), (11, A a1), (12, I ((a1.length : Int))), (13, I x2), (23, rf 0 0 1 x3), (25, .arr 1 (([v9] : List (List T_impl_Value))).length (eL ([v9] : List (List T_impl_Value))) true)] [sl 0 x3] ?_
  obtain ⟨v14, hv15, h⟩ := bindS h
  refine opsP_app τ_ok 26 0 0 (nx hX) hv15 (by kernel_rfl) ?_
  refine ve 1 29 [(0, A a0), (2, A a2), (7, rf 0 1 1 v14), (11, A a1), (12, I ((a1.length : Int))), (13, I x2)] [sl 1 v14] ?_
  refine rve 29 [(0, A a0), (2, A a2), (7, rf 0 1 1 v14), (11, A a1), (12, I ((a1.length : Int))), (13, I ((w64 (x2 + 1))))] [sl 1 v14] ?_
  exact ⟨(f4, (w64 (x2 + 1)), v14), h, Nat.lt_succ_self _, (it (st' := ⟨29, [(0, A a0), (2, A a2), (7, rf 0 1 1 v14), (11, A a1), (12, I ((a1.length : Int))), (13, I ((w64 (x2 + 1))))], [sl 1 v14]⟩) [0, 2, 7, 11, 12, 13]).trans (Imp.reverS 0 1 (eL v14) [0, 2, 7, 11, 12, 13] (by kernel_rfl) (by exact (And.intro (eL_frz _) trivial)) (by kernel_rfl))⟩
  refine pwp_skip ?_
  refine rve 29 [(0, A a0), (2, A a2), (7, rf 0 0 1 x3), (11, A a1), (12, I ((a1.length : Int))), (13, I ((w64 (x2 + 1))))] [sl 0 x3] ?_
  exact ⟨(f4, (w64 (x2 + 1)), x3), h, Nat.lt_succ_self _, it [0, 2, 7, 11, 12, 13]⟩
  refine pwp_exit ?_
  refine srve 29 [(6, rf 0 0 1 x3)] [sl 0 x3] ?_
  have h := si h
  subst h
  exact pwp_ret (rt (rf 0 0 1 x3) (OutP.list (v := 0) (by kernel_rfl)))
def impl_AntiRows_1 (a0 : List T_impl_Value) (b0 : List (List T_impl_Value)) (b1 : List T_impl_Part) : Option Bool := (impl_partners a0 b0 b1).bind fun v1 => some ((((v1.length : Int)) == 0))
theorem ok_impl_AntiRows_1 {a0 : List T_impl_Value} {b0 : List (List T_impl_Value)} {b1 : List T_impl_Part} {y : Bool} (h : impl_AntiRows_1 a0 b0 b1 = some y) : OK Tryz.prog 84 [A a0, pf b0 0, pf b1 0] (B y) := by
  refine ow Tryz.func84 fun Γ hX => ?_
  unfold impl_AntiRows_1 at h
  refine srve 11 [(0, A a0), (1, pf b0 0), (2, pf b1 0)] [] ?_
  refine srv 3 11 [(5, A a0), (6, A b0), (7, A b1)] [] ?_
  obtain ⟨v1, hv2, h⟩ := bindS h
  refine cFo 8 (ok_impl_partners hv2) ?_
  refine ve 3 11 [(4, B ((((v1.length : Int)) == 0)))] [] ?_
  cases h
  exact pwp_ret rz
def impl_AntiRows (a0 : List T_impl_Column) (a1 : List T_impl_Column) (a2 : List (List T_impl_Value)) (a3 : List (List T_impl_Value)) (a4 : List T_impl_Part) : Option (List (List T_impl_Value)) := (impl_testOk a0 a1 a2 a3 a4).bind fun v1 => bif (!v1) then some (([] : List (List T_impl_Value))) else (impl_kept a2 (fun z0 => impl_AntiRows_1 z0 a3 a4)).bind fun v4 => some v4
theorem ok_impl_AntiRows {a0 : List T_impl_Column} {a1 : List T_impl_Column} {a2 : List (List T_impl_Value)} {a3 : List (List T_impl_Value)} {a4 : List T_impl_Part} {y : List (List T_impl_Value)} (h : impl_AntiRows a0 a1 a2 a3 a4 = some y) : OK Tryz.prog 26 [A a0, A a1, A a2, A a3, A a4] (A y) := by
  refine ow Tryz.func26 fun Γ hX => ?_
  unfold impl_AntiRows at h
  refine srve 21 [(0, A a0), (1, A a1), (2, A a2), (8, pf a3 0), (9, pf a4 0)] [] ?_
  refine pwp_seq ?_
  refine srv 5 21 [(2, A a2), (8, pf a3 0), (9, pf a4 0), (11, A a0), (12, A a1), (13, A a2), (14, A a3), (15, A a4)] [] ?_
  obtain ⟨v1, hv2, h⟩ := bindS h
  refine cF 16 (ok_impl_testOk hv2) ?_
  refine ve 1 21 [(2, A a2), (8, pf a3 0), (9, pf a4 0), (17, B ((!v1)))] [] ?_
  refine pc h (fun h => ?_) (fun h => ?_)
  refine srve 21 [(10, .arr 1 0 (eL ([] : List (List T_impl_Value))) true)] [] ?_
  refine ip 21 [(10, .arr 1 0 (eL ([] : List (List T_impl_Value))) true)] [] ?_
  refine pwp_imp (Imp.unfS (st' := ⟨21, [(10, A (([] : List (List T_impl_Value))))], []⟩) 10 [10] (by kernel_rfl)) ?_
  cases h
  exact pwp_ret rz
  refine pwp_skip ?_
  refine srv 2 21 [(18, A a2), (19, .fn 84 [pf a3 0, pf a4 0])] [] ?_
  obtain ⟨v4, hv5, h⟩ := bindS h
  refine cF 20 (ok_impl_kept (rfl) (fun _ w hw => ok_impl_AntiRows_1 hw) hv5) ?_
  refine ve 1 21 [(10, A v4)] [] ?_
  cases h
  exact pwp_ret rz
def impl_LeftRows_j1 (x5 : Int) (x6 : List (List T_impl_Value)) (K8 : Int → (List (List T_impl_Value)) → Option (List (List T_impl_Value))) (x14 : List (List T_impl_Value)) : Option (List (List T_impl_Value)) := (app x6 x14).bind fun v15 => K8 ((w64 (x5 + 1))) v15
def impl_LeftRows_l0 (a1 : List T_impl_Column) (a2 : List (List T_impl_Value)) (a3 : List (List T_impl_Value)) (a4 : List T_impl_Part) : Nat → Int → (List (List T_impl_Value)) → Option (List (List T_impl_Value))
  | 0, _, _ => none
  | f7 + 1, x5, x6 => bif (decide (x5 < ((a2.length : Int)))) then (getI a2 x5).bind fun v10 => (impl_partners v10 a3 a4).bind fun v12 => bif (((v12.length : Int)) == 0) then (mkI ((a1.length : Int)) ((T_impl_Value.mk 0 0 (ByteArray.mk #[])))).bind fun v18 => (impl_beside v10 v18).bind fun v20 => impl_LeftRows_j1 x5 x6 (impl_LeftRows_l0 a1 a2 a3 a4 f7) (([v20] : List (List T_impl_Value))) else impl_LeftRows_j1 x5 x6 (impl_LeftRows_l0 a1 a2 a3 a4 f7) v12 else (slices_Clip_impl_Value_impl_Value_s3 x6).bind fun v22 => some v22
def impl_LeftRows (a0 : List T_impl_Column) (a1 : List T_impl_Column) (a2 : List (List T_impl_Value)) (a3 : List (List T_impl_Value)) (a4 : List T_impl_Part) : Option (List (List T_impl_Value)) := (impl_testOk a0 a1 a2 a3 a4).bind fun v1 => bif (!v1) then some (([] : List (List T_impl_Value))) else impl_LeftRows_l0 a1 a2 a3 a4 FUEL 0 (([] : List (List T_impl_Value)))
theorem ok_impl_LeftRows {a0 : List T_impl_Column} {a1 : List T_impl_Column} {a2 : List (List T_impl_Value)} {a3 : List (List T_impl_Value)} {a4 : List T_impl_Part} {y : List (List T_impl_Value)} (h : impl_LeftRows a0 a1 a2 a3 a4 = some y) : OK Tryz.prog 31 [A a0, A a1, A a2, A a3, A a4] (A y) := by
  refine ow Tryz.func31 fun Γ hX => ?_
  unfold impl_LeftRows at h
  refine srve 47 [(0, A a0), (1, A a1), (2, A a2), (3, A a3), (4, A a4)] [] ?_
  refine pwp_seq ?_
  refine srv 5 47 [(1, A a1), (2, A a2), (3, A a3), (4, A a4), (15, A a0), (16, A a1), (17, A a2), (18, A a3), (19, A a4)] [] ?_
  obtain ⟨v1, hv2, h⟩ := bindS h
  refine cF 20 (ok_impl_testOk hv2) ?_
  refine ve 1 47 [(1, A a1), (2, A a2), (3, A a3), (4, A a4), (21, B ((!v1)))] [] ?_
  refine pc h (fun h => ?_) (fun h => ?_)
  refine srve 47 [(10, .arr 1 0 (eL ([] : List (List T_impl_Value))) true)] [] ?_
  refine ip 47 [(10, .arr 1 0 (eL ([] : List (List T_impl_Value))) true)] [] ?_
  refine pwp_imp (Imp.unfS (st' := ⟨47, [(10, A (([] : List (List T_impl_Value))))], []⟩) 10 [10] (by kernel_rfl)) ?_
  cases h
  exact pwp_ret rz
  refine pwp_skip ?_
  refine srve 47 [(1, A a1), (2, A a2), (3, A a3), (4, A a4), (11, .arr 1 0 (eL ([] : List (List T_impl_Value))) true)] [] ?_
  refine pwp_seq ?_
  refine srve 47 [(1, A a1), (3, A a3), (4, A a4), (11, .arr 1 0 (eL ([] : List (List T_impl_Value))) true), (22, A a2), (23, I ((a2.length : Int))), (24, I 0)] [] ?_
  refine pwp_block ?_
  refine pwp_loop (ι := Nat × Int × (List (List T_impl_Value))) (fun (f7, x5, x6) => (⟨47, [(1, A a1), (3, A a3), (4, A a4), (11, rf 0 0 1 x6), (22, A a2), (23, I ((a2.length : Int))), (24, I x5)], [sl 0 x6]⟩ : St)) (fun (f7, x5, x6) => impl_LeftRows_l0 a1 a2 a3 a4 f7 x5 x6 = some y) Prod.fst (FUEL, 0, ([] : List (List T_impl_Value))) h (Imp.thawS 11 [1, 3, 4, 11, 22, 23, 24] (by kernel_rfl)) ?_
  rintro ⟨f7, x5, x6⟩ h
  dsimp only at h ⊢
  rcases f7 with _ | f7
  cases h
  rw [impl_LeftRows_l0] at h
  refine srve 47 [(1, A a1), (3, A a3), (4, A a4), (11, rf 0 0 1 x6), (22, A a2), (23, I ((a2.length : Int))), (24, I x5), (25, B ((decide (x5 < ((a2.length : Int))))))] [sl 0 x6] ?_
  refine pwp_seq ?_
  refine pc h (fun h => ?_) (fun h => ?_)
  refine pwp_skip ?_
  refine pwp_seq ?_
  refine pwp_block ?_
  refine pwp_seq ?_
  refine pwp_region ?_
  obtain ⟨v10, hv11, h⟩ := bindS h
  refine opsP_idx τ_ok 26 hv11 (by kernel_rfl) ?_
  refine ve 2 47 [(1, A a1), (3, A a3), (4, A a4), (11, rf 0 0 1 x6), (13, A v10), (22, A a2), (23, I ((a2.length : Int))), (24, I x5)] [sl 0 x6] ?_
  refine srv 3 47 [(1, A a1), (3, A a3), (4, A a4), (11, rf 0 0 1 x6), (13, A v10), (22, A a2), (23, I ((a2.length : Int))), (24, I x5), (28, A v10), (29, A a3), (30, A a4)] [sl 0 x6] ?_
  obtain ⟨v12, hv13, h⟩ := bindS h
  refine cFo 31 (ok_impl_partners hv13) ?_
  refine ve 1 47 [(1, A a1), (3, A a3), (4, A a4), (11, rf 0 0 1 x6), (13, A v10), (14, A v12), (22, A a2), (23, I ((a2.length : Int))), (24, I x5)] [sl 0 x6] ?_
  refine pwp_seq ?_
  refine pwp_join (σ := (List (List T_impl_Value))) (fun x14 => (⟨47, [(1, A a1), (3, A a3), (4, A a4), (11, rf 0 0 1 x6), (14, A x14), (22, A a2), (23, I ((a2.length : Int))), (24, I x5)], [sl 0 x6]⟩ : St)) (fun x14 => impl_LeftRows_j1 x5 x6 (impl_LeftRows_l0 a1 a2 a3 a4 f7) x14 = some y) ?_ ?_
  refine srve 47 [(1, A a1), (3, A a3), (4, A a4), (11, rf 0 0 1 x6), (13, A v10), (14, A v12), (22, A a2), (23, I ((a2.length : Int))), (24, I x5), (34, B ((((v12.length : Int)) == 0)))] [sl 0 x6] ?_
  refine pc h (fun h => ?_) (fun h => ?_)
  refine rv 3 47 [(1, A a1), (3, A a3), (4, A a4), (11, rf 0 0 1 x6), (22, A a2), (23, I ((a2.length : Int))), (24, I x5), (35, A v10), (37, I ((a1.length : Int)))] [sl 0 x6] ?_
  obtain ⟨v18, hv19, h⟩ := bindS h
  refine opsP_mk τ_ok 38 1 _ hv19 (by kernel_rfl) (by kernel_rfl) ?_
  refine v 0 47 [(1, A a1), (3, A a3), (4, A a4), (11, rf 0 0 1 x6), (22, A a2), (23, I ((a2.length : Int))), (24, I x5), (35, A v10), (38, rf 1 0 3 v18)] [sl 0 x6, sl 0 v18] ?_
  refine opsP_imp ((Imp.freezeB (v := 0) (cs := eL v18) (st' := ⟨47, [(1, A a1), (3, A a3), (4, A a4), (11, rf 0 0 1 x6), (22, A a2), (23, I ((a2.length : Int))), (24, I x5), (35, A v10), (38, A v18)], [sl 0 x6, none]⟩) 1 0 (nx hX) (by kernel_rfl) (eL_frz _) (wholeC (whole_noRef (by kernel_rfl)) (wholeC (whole_noRef (by kernel_rfl)) (wholeC (whole_noRef (by kernel_rfl)) (wholeC (whole_ne rfl) (wholeC (whole_noRef (by kernel_rfl)) (wholeC (whole_noRef (by kernel_rfl)) (wholeC (whole_noRef (by kernel_rfl)) (wholeC (whole_noRef (by kernel_rfl)) (wholeC (whole_is (eL_len v18).symm) wholeC0))))))))) (HpRel.frz rfl (eL_frz _) (HpRel.key HpRel.nil)) (by kernel_rfl) rfl (nx hX))) ?_
  obtain ⟨v20, hv21, h⟩ := bindS h
  refine cF 39 (ok_impl_beside hv21) ?_
  refine ve 2 47 [(1, A a1), (3, A a3), (4, A a4), (11, rf 0 0 1 x6), (14, .arr 1 (([v20] : List (List T_impl_Value))).length (eL ([v20] : List (List T_impl_Value))) true), (22, A a2), (23, I ((a2.length : Int))), (24, I x5)] [sl 0 x6, none] ?_
  exact ⟨([v20] : List (List T_impl_Value)), h, (Imp.unfS (st' := ⟨47, [(1, A a1), (3, A a3), (4, A a4), (11, rf 0 0 1 x6), (14, A (([v20] : List (List T_impl_Value)))), (22, A a2), (23, I ((a2.length : Int))), (24, I x5)], [sl 0 x6, none]⟩) 14 [1, 3, 4, 11, 14, 22, 23, 24] (by kernel_rfl)).trans (Imp.truncS 1 (nx hX) (by kernel_rfl) (allBelow_mem (by exact (And.intro rfl (And.intro rfl (And.intro rfl (And.intro rfl (And.intro rfl (And.intro rfl (And.intro rfl (And.intro rfl trivial)))))))))) (by exact (And.intro (frz_below (eL_frz _)) trivial)) (by kernel_rfl))⟩
  refine pwp_skip ?_
  exact ⟨v12, h, it [1, 3, 4, 11, 14, 22, 23, 24]⟩
  rintro x14 h
  unfold impl_LeftRows_j1 at h
  refine rv 2 47 [(1, A a1), (3, A a3), (4, A a4), (22, A a2), (23, I ((a2.length : Int))), (24, I x5), (41, rf 0 0 1 x6), (42, A x14)] [sl 0 x6] ?_
  obtain ⟨v15, hv16, h⟩ := bindS h
  refine opsP_app τ_ok 43 0 0 (nx hX) hv16 (by kernel_rfl) ?_
  refine ve 1 47 [(1, A a1), (3, A a3), (4, A a4), (11, rf 0 1 1 v15), (22, A a2), (23, I ((a2.length : Int))), (24, I x5)] [sl 1 v15] ?_
  refine rve 47 [(1, A a1), (3, A a3), (4, A a4), (11, rf 0 1 1 v15), (22, A a2), (23, I ((a2.length : Int))), (24, I ((w64 (x5 + 1))))] [sl 1 v15] ?_
  exact ⟨(f7, (w64 (x5 + 1)), v15), h, Nat.lt_succ_self _, (it (st' := ⟨47, [(1, A a1), (3, A a3), (4, A a4), (11, rf 0 1 1 v15), (22, A a2), (23, I ((a2.length : Int))), (24, I ((w64 (x5 + 1))))], [sl 1 v15]⟩) [1, 3, 4, 11, 22, 23, 24]).trans (Imp.reverS 0 1 (eL v15) [1, 3, 4, 11, 22, 23, 24] (by kernel_rfl) (by exact (And.intro (eL_frz _) trivial)) (by kernel_rfl))⟩
  refine pwp_exit ?_
  refine srv 1 47 [(45, rf 0 0 1 x6)] [sl 0 x6] ?_
  refine opsP_imp ((Imp.freezeB (v := 0) (cs := eL x6) (st' := ⟨47, [(45, A x6)], [none]⟩) 0 0 (nx hX) (by kernel_rfl) (eL_frz _) (wholeC (whole_is (eL_len x6).symm) wholeC0) (HpRel.key HpRel.nil) (by kernel_rfl) rfl (nx hX))) ?_
  obtain ⟨v22, hv23, h⟩ := bindS h
  refine cF 46 (ok_slices_Clip_impl_Value_impl_Value_s3 hv23) ?_
  refine ve 1 47 [(10, A v22)] [none] ?_
  cases h
  exact pwp_ret rz
def laws_FnLeftRows_l1 (v2 : (List T_impl_Column) × (List T_impl_Column) × (List (List T_impl_Value)) × (List (List T_impl_Value)) × (List T_impl_Part)) (v4 : List (List T_impl_Value)) (x16 : List (List T_impl_Value)) (v28 : List (List T_impl_Value)) : Nat → Int → Option Bool
  | 0, _ => none
  | f32 + 1, x31 => bif (decide (x31 < ((v28.length : Int)))) then (getI v28 x31).bind fun v35 => (impl_RowMany x16 v35).bind fun v37 => (getI v28 x31).bind fun v39 => (impl_RowMany v28 v39).bind fun v41 => bif (!(v37 == v41)) then some false else (laws_FnLeftRows_l1 v2 v4 x16 v28 f32) ((w64 (x31 + 1))) else (impl_LeftColumns v2.1 v2.2.1).bind fun v44 => (impl_RowsOk v44 v4).bind fun v46 => bif v46 then (impl_RowsOnce x16).bind fun v48 => (impl_RowsOnce v2.2.2.1).bind fun v50 => (impl_SameBag v48 v50).bind fun v52 => bif v52 then (laws_alive).bind fun v54 => some v54 else some false else some false
def laws_FnLeftRows_l0 (v2 : (List T_impl_Column) × (List T_impl_Column) × (List (List T_impl_Value)) × (List (List T_impl_Value)) × (List T_impl_Part)) (v4 : List (List T_impl_Value)) : Nat → Int → (List (List T_impl_Value)) → Option Bool
  | 0, _, _ => none
  | f17 + 1, x15, x16 => bif (decide (x15 < ((v4.length : Int)))) then (getI v4 x15).bind fun v20 => (slI v20 none (some ((v2.1.length : Int))) none).bind fun v22 => (app (([] : List T_impl_Value)) v22).bind fun v24 => (app x16 (([v24] : List (List T_impl_Value)))).bind fun v26 => (laws_FnLeftRows_l0 v2 v4 f17) ((w64 (x15 + 1))) v26 else (impl_AntiRows v2.1 v2.2.1 v2.2.2.1 v2.2.2.2.1 v2.2.2.2.2).bind fun v28 => laws_FnLeftRows_l1 v2 v4 x16 v28 FUEL 0
def laws_FnLeftRows (a0 : List UInt8) : Option Bool := bif (decide (((a0.length : Int)) > 1048576)) then some true else (spec_DrawLeftRows a0).bind fun v2 => (impl_LeftRows v2.1 v2.2.1 v2.2.2.1 v2.2.2.2.1 v2.2.2.2.2).bind fun v4 => (spec_LeftRows v2.1 v2.2.1 v2.2.2.1 v2.2.2.2.1 v2.2.2.2.2).bind fun v6 => (laws_sameRows v4 v6).bind fun v8 => bif (!v8) then some false else bif (((v4.length : Int)) == 0) then (laws_alive).bind fun v12 => some v12 else laws_FnLeftRows_l0 v2 v4 FUEL 0 (([] : List (List T_impl_Value)))
theorem ok_laws_FnLeftRows {a0 : List UInt8} {y : Bool} (h : laws_FnLeftRows a0 = some y) : OK Tryz.prog 6 [A a0] (B y) := by
  refine ow Tryz.func6 fun Γ hX => ?_
  unfold laws_FnLeftRows at h
  refine srve 102 [(0, A a0)] [] ?_
  refine pwp_seq ?_
  refine srve 102 [(0, A a0), (15, B ((decide (((a0.length : Int)) > 1048576))))] [] ?_
  refine pc h (fun h => ?_) (fun h => ?_)
  refine srve 102 [(2, B true)] [] ?_
  cases h
  exact pwp_ret rz
  refine pwp_skip ?_
  refine srv 1 102 [(17, A a0)] [] ?_
  obtain ⟨v2, hv3, h⟩ := bindS h
  refine opsP_callF τ 18 (ok_spec_DrawLeftRows hv3) (FzTo.tup (FzToL.cons (FzTo.frz rfl) (FzToL.cons (FzTo.frz rfl) (FzToL.cons (FzTo.frz rfl) (FzToL.cons (FzTo.frz rfl) (FzToL.cons (FzTo.frz rfl) FzToL.nil)))))) rfl (by kernel_rfl) ?_
  refine ve 11 102 [(3, A v2.1), (4, A v2.2.1), (5, A v2.2.2.1), (6, A v2.2.2.2.1), (7, A v2.2.2.2.2)] [] ?_
  refine srv 5 102 [(3, A v2.1), (4, A v2.2.1), (5, A v2.2.2.1), (6, A v2.2.2.2.1), (7, A v2.2.2.2.2), (24, A v2.1), (25, A v2.2.1), (26, A v2.2.2.1), (27, A v2.2.2.2.1), (28, A v2.2.2.2.2)] [] ?_
  obtain ⟨v4, hv5, h⟩ := bindS h
  refine cF 29 (ok_impl_LeftRows hv5) ?_
  refine ve 1 102 [(3, A v2.1), (4, A v2.2.1), (5, A v2.2.2.1), (6, A v2.2.2.2.1), (7, A v2.2.2.2.2), (8, A v4)] [] ?_
  refine pwp_seq ?_
  refine srv 6 102 [(3, A v2.1), (4, A v2.2.1), (5, A v2.2.2.1), (6, A v2.2.2.2.1), (7, A v2.2.2.2.2), (8, A v4), (30, A v4), (31, A v2.1), (32, A v2.2.1), (33, A v2.2.2.1), (34, A v2.2.2.2.1), (35, A v2.2.2.2.2)] [] ?_
  obtain ⟨v6, hv7, h⟩ := bindS h
  refine cFo 36 (ok_spec_LeftRows hv7) ?_
  obtain ⟨v8, hv9, h⟩ := bindS h
  refine cF 37 (ok_laws_sameRows hv9) ?_
  refine ve 1 102 [(3, A v2.1), (4, A v2.2.1), (5, A v2.2.2.1), (6, A v2.2.2.2.1), (7, A v2.2.2.2.2), (8, A v4), (38, B ((!v8)))] [] ?_
  refine pc h (fun h => ?_) (fun h => ?_)
  refine srve 102 [(2, B false)] [] ?_
  cases h
  exact pwp_ret rz
  refine pwp_skip ?_
  refine pwp_seq ?_
  refine srve 102 [(3, A v2.1), (4, A v2.2.1), (5, A v2.2.2.1), (6, A v2.2.2.2.1), (7, A v2.2.2.2.2), (8, A v4), (41, B ((((v4.length : Int)) == 0)))] [] ?_
  refine pc h (fun h => ?_) (fun h => ?_)
  refine pwp_seq ?_
  refine pwp_region ?_
  obtain ⟨v12, hv13, h⟩ := bindS h
  refine cF 42 (ok_laws_alive hv13) ?_
  refine ve 1 102 [(2, B v12)] [] ?_
  cases h
  exact pwp_ret rz
  refine pwp_skip ?_
  refine srve 102 [(3, A v2.1), (4, A v2.2.1), (5, A v2.2.2.1), (6, A v2.2.2.2.1), (7, A v2.2.2.2.2), (8, A v4), (9, .arr 1 0 (eL ([] : List (List T_impl_Value))) true)] [] ?_
  refine pwp_seq ?_
  refine srve 102 [(3, A v2.1), (4, A v2.2.1), (5, A v2.2.2.1), (6, A v2.2.2.2.1), (7, A v2.2.2.2.2), (8, A v4), (9, .arr 1 0 (eL ([] : List (List T_impl_Value))) true), (10, I 0)] [] ?_
  refine pwp_block ?_
  refine pwp_loop (ι := Nat × Int × (List (List T_impl_Value))) (fun (f17, x15, x16) => (⟨102, [(3, A v2.1), (4, A v2.2.1), (5, A v2.2.2.1), (6, A v2.2.2.2.1), (7, A v2.2.2.2.2), (8, A v4), (9, rf 0 0 1 x16), (10, I x15)], [sl 0 x16]⟩ : St)) (fun (f17, x15, x16) => laws_FnLeftRows_l0 v2 v4 f17 x15 x16 = some y) Prod.fst (FUEL, 0, ([] : List (List T_impl_Value))) h (Imp.thawS 9 [3, 4, 5, 6, 7, 8, 9, 10] (by kernel_rfl)) ?_
  rintro ⟨f17, x15, x16⟩ h
  dsimp only at h ⊢
  rcases f17 with _ | f17
  cases h
  rw [laws_FnLeftRows_l0] at h
  refine pwp_seq ?_
  refine srve 102 [(3, A v2.1), (4, A v2.2.1), (5, A v2.2.2.1), (6, A v2.2.2.2.1), (7, A v2.2.2.2.2), (8, A v4), (9, rf 0 0 1 x16), (10, I x15), (47, B ((decide (x15 < ((v4.length : Int))))))] [sl 0 x16] ?_
  refine pc h (fun h => ?_) (fun h => ?_)
  refine pwp_skip ?_
  refine pwp_seq ?_
  refine pwp_block ?_
  refine rv 4 102 [(3, A v2.1), (4, A v2.2.1), (5, A v2.2.2.1), (6, A v2.2.2.2.1), (7, A v2.2.2.2.2), (8, A v4), (10, I x15), (50, rf 0 0 1 x16), (51, .arr 3 0 (eL ([] : List T_impl_Value)) true), (52, A v4), (53, I x15)] [sl 0 x16] ?_
  obtain ⟨v20, hv21, h⟩ := bindS h
  refine opsP_idx τ_ok 54 hv21 (by kernel_rfl) ?_
  refine v 3 102 [(3, A v2.1), (4, A v2.2.1), (5, A v2.2.2.1), (6, A v2.2.2.2.1), (7, A v2.2.2.2.2), (8, A v4), (10, I x15), (50, rf 0 0 1 x16), (51, .arr 3 0 (eL ([] : List T_impl_Value)) true), (55, A v20), (57, I ((v2.1.length : Int)))] [sl 0 x16] ?_
  obtain ⟨v22, hv23, h⟩ := bindS h
  refine opsP_slc τ_ok 58 hv23 (by kernel_rfl) ?_
  refine opsP_thaw 51 3 (by kernel_rfl) ?_
  obtain ⟨v24, hv25, h⟩ := bindS h
  refine opsP_app τ_ok 59 1 0 (nx hX) hv25 (by kernel_rfl) ?_
  refine v 0 102 [(3, A v2.1), (4, A v2.2.1), (5, A v2.2.2.1), (6, A v2.2.2.2.1), (7, A v2.2.2.2.2), (8, A v4), (10, I x15), (50, rf 0 0 1 x16), (59, rf 1 1 3 v24)] [sl 0 x16, sl 1 v24] ?_
  refine opsP_imp ((Imp.freezeB (v := 1) (cs := eL v24) (st' := ⟨102, [(3, A v2.1), (4, A v2.2.1), (5, A v2.2.2.1), (6, A v2.2.2.2.1), (7, A v2.2.2.2.2), (8, A v4), (10, I x15), (50, rf 0 0 1 x16), (59, A v24)], [sl 0 x16, none]⟩) 1 1 (nx hX) (by kernel_rfl) (eL_frz _) (wholeC (whole_noRef (by kernel_rfl)) (wholeC (whole_noRef (by kernel_rfl)) (wholeC (whole_noRef (by kernel_rfl)) (wholeC (whole_noRef (by kernel_rfl)) (wholeC (whole_noRef (by kernel_rfl)) (wholeC (whole_noRef (by kernel_rfl)) (wholeC (whole_noRef (by kernel_rfl)) (wholeC (whole_ne rfl) (wholeC (whole_is (eL_len v24).symm) wholeC0))))))))) (HpRel.frz rfl (eL_frz _) (HpRel.key HpRel.nil)) (by kernel_rfl) rfl (nx hX))) ?_
  refine v 1 102 [(3, A v2.1), (4, A v2.2.1), (5, A v2.2.2.1), (6, A v2.2.2.2.1), (7, A v2.2.2.2.2), (8, A v4), (10, I x15), (50, rf 0 0 1 x16), (60, .arr 1 (([v24] : List (List T_impl_Value))).length (eL ([v24] : List (List T_impl_Value))) true)] [sl 0 x16, none] ?_
  obtain ⟨v26, hv27, h⟩ := bindS h
  refine opsP_app τ_ok 61 0 0 (nx hX) hv27 (by kernel_rfl) ?_
  refine ve 1 102 [(3, A v2.1), (4, A v2.2.1), (5, A v2.2.2.1), (6, A v2.2.2.2.1), (7, A v2.2.2.2.2), (8, A v4), (9, rf 0 1 1 v26), (10, I x15)] [sl 1 v26, none] ?_
  refine rve 102 [(3, A v2.1), (4, A v2.2.1), (5, A v2.2.2.1), (6, A v2.2.2.2.1), (7, A v2.2.2.2.2), (8, A v4), (9, rf 0 1 1 v26), (10, I ((w64 (x15 + 1))))] [sl 1 v26, none] ?_
  exact ⟨(f17, (w64 (x15 + 1)), v26), h, Nat.lt_succ_self _, (it (st' := ⟨102, [(3, A v2.1), (4, A v2.2.1), (5, A v2.2.2.1), (6, A v2.2.2.2.1), (7, A v2.2.2.2.2), (8, A v4), (9, rf 0 1 1 v26), (10, I ((w64 (x15 + 1))))], [sl 1 v26, none]⟩) [3, 4, 5, 6, 7, 8, 9, 10]).trans ((Imp.truncS (st' := ⟨102, [(3, A v2.1), (4, A v2.2.1), (5, A v2.2.2.1), (6, A v2.2.2.2.1), (7, A v2.2.2.2.2), (8, A v4), (9, rf 0 1 1 v26), (10, I ((w64 (x15 + 1))))], [sl 1 v26]⟩) 1 (nx hX) (by kernel_rfl) (allBelow_mem (by exact (And.intro rfl (And.intro rfl (And.intro rfl (And.intro rfl (And.intro rfl (And.intro rfl (And.intro rfl (And.intro rfl trivial)))))))))) (by exact (And.intro (frz_below (eL_frz _)) trivial)) (by kernel_rfl)).trans (Imp.reverS 0 1 (eL v26) [3, 4, 5, 6, 7, 8, 9, 10] (by kernel_rfl) (by exact (And.intro (eL_frz _) trivial)) (by kernel_rfl)))⟩
  refine pwp_exit ?_
  refine srv 5 102 [(3, A v2.1), (4, A v2.2.1), (5, A v2.2.2.1), (8, A v4), (9, rf 0 0 1 x16), (62, A v2.1), (63, A v2.2.1), (64, A v2.2.2.1), (65, A v2.2.2.2.1), (66, A v2.2.2.2.2)] [sl 0 x16] ?_
  obtain ⟨v28, hv29, h⟩ := bindS h
  refine cF 67 (ok_impl_AntiRows hv29) ?_
  refine ve 1 102 [(3, A v2.1), (4, A v2.2.1), (5, A v2.2.2.1), (8, A v4), (9, rf 0 0 1 x16), (11, A v28)] [sl 0 x16] ?_
  refine pwp_seq ?_
  refine srve 102 [(3, A v2.1), (4, A v2.2.1), (5, A v2.2.2.1), (8, A v4), (9, rf 0 0 1 x16), (11, A v28), (12, I 0)] [sl 0 x16] ?_
  refine pwp_block ?_
  refine pwp_loop (ι := Nat × Int) (fun (f32, x31) => (⟨102, [(3, A v2.1), (4, A v2.2.1), (5, A v2.2.2.1), (8, A v4), (9, rf 0 0 1 x16), (11, A v28), (12, I x31)], [sl 0 x16]⟩ : St)) (fun (f32, x31) => laws_FnLeftRows_l1 v2 v4 x16 v28 f32 x31 = some y) Prod.fst (FUEL, 0) h (it [3, 4, 5, 8, 9, 11, 12]) ?_
  rintro ⟨f32, x31⟩ h
  dsimp only at h ⊢
  rcases f32 with _ | f32
  cases h
  rw [laws_FnLeftRows_l1] at h
  refine pwp_seq ?_
  refine srve 102 [(3, A v2.1), (4, A v2.2.1), (5, A v2.2.2.1), (8, A v4), (9, rf 0 0 1 x16), (11, A v28), (12, I x31), (71, B ((decide (x31 < ((v28.length : Int))))))] [sl 0 x16] ?_
  refine pc h (fun h => ?_) (fun h => ?_)
  refine pwp_skip ?_
  refine pwp_seq ?_
  refine pwp_block ?_
  refine pwp_seq ?_
  refine ip 102 [(3, A v2.1), (4, A v2.2.1), (5, A v2.2.2.1), (8, A v4), (9, rf 0 0 1 x16), (11, A v28), (12, I x31)] [sl 0 x16] ?_
  refine pwp_any ([[0], [], [], [], [], [0], [], [], [], [], [], [], []]) ([[], [], [], [], [], [], [], [], [], [], [], [], []]) rfl (by kernel_rfl) ?_
  refine qv [0] (hL trivial) 1 102 [(74, rf 0 0 1 x16), (3, A v2.1), (4, A v2.2.1), (5, A v2.2.2.1), (8, A v4), (9, rf 0 0 1 x16), (11, A v28), (12, I x31)] [sl 0 x16] ?_
  refine qv [] trivial 2 102 [(76, I x31), (75, A v28), (74, rf 0 0 1 x16), (3, A v2.1), (4, A v2.2.1), (5, A v2.2.2.1), (8, A v4), (9, rf 0 0 1 x16), (11, A v28), (12, I x31)] [sl 0 x16] ?_
  obtain ⟨v35, hv36, h⟩ := bindS h
  refine qX (some 77) (pf v35 0) 102 [(77, pf v35 0), (74, rf 0 0 1 x16), (3, A v2.1), (4, A v2.2.1), (5, A v2.2.2.1), (8, A v4), (9, rf 0 0 1 x16), (11, A v28), (12, I x31)] [sl 0 x16] (fun Γ' hΓ => CoreE.of_y (idxV_sound τ_ok (by kernel_rfl) hv36)) trivial ?_
  refine qv [] trivial 1 102 [(78, A v35), (74, rf 0 0 1 x16), (3, A v2.1), (4, A v2.2.1), (5, A v2.2.2.1), (8, A v4), (9, rf 0 0 1 x16), (11, A v28), (12, I x31)] [sl 0 x16] ?_
  obtain ⟨v37, hv38, h⟩ := bindS h
  refine qX (some 79) (I v37) 102 [(79, I v37), (3, A v2.1), (4, A v2.2.1), (5, A v2.2.2.1), (8, A v4), (9, rf 0 0 1 x16), (11, A v28), (12, I x31)] [sl 0 x16] (fun Γ' hΓ => CoreE.of_g (callVV_sound (xs := [rf 0 0 1 x16, A v35]) (τ := τ) (by kernel_rfl) (ViewL.cons (View.whole (v := 0) x16 (by kernel_rfl) rfl) (ViewL.cons (View.frz rfl) (ViewL.nil _))) (ok_impl_RowMany hv38) (Blind.lit _) (FzTo.frz rfl))) (hL trivial) ?_
  refine qv [] trivial 3 102 [(82, I x31), (81, A v28), (80, A v28), (79, I v37), (3, A v2.1), (4, A v2.2.1), (5, A v2.2.2.1), (8, A v4), (9, rf 0 0 1 x16), (11, A v28), (12, I x31)] [sl 0 x16] ?_
  obtain ⟨v39, hv40, h⟩ := bindS h
  refine qX (some 83) (pf v39 0) 102 [(83, pf v39 0), (80, A v28), (79, I v37), (3, A v2.1), (4, A v2.2.1), (5, A v2.2.2.1), (8, A v4), (9, rf 0 0 1 x16), (11, A v28), (12, I x31)] [sl 0 x16] (fun Γ' hΓ => CoreE.of_y (idxV_sound τ_ok (by kernel_rfl) hv40)) trivial ?_
  refine qv [] trivial 1 102 [(84, A v39), (80, A v28), (79, I v37), (3, A v2.1), (4, A v2.2.1), (5, A v2.2.2.1), (8, A v4), (9, rf 0 0 1 x16), (11, A v28), (12, I x31)] [sl 0 x16] ?_
  obtain ⟨v41, hv42, h⟩ := bindS h
  refine qX (some 85) (I v41) 102 [(85, I v41), (79, I v37), (3, A v2.1), (4, A v2.2.1), (5, A v2.2.2.1), (8, A v4), (9, rf 0 0 1 x16), (11, A v28), (12, I x31)] [sl 0 x16] (fun Γ' hΓ => CoreE.of_g (callV_sound (τ := τ) (by kernel_rfl) rfl (ok_impl_RowMany hv42) (FzTo.frz rfl))) trivial ?_
  refine qvn [] trivial 1 102 [(3, A v2.1), (4, A v2.2.1), (5, A v2.2.2.1), (8, A v4), (9, rf 0 0 1 x16), (11, A v28), (12, I x31), (86, B ((!(v37 == v41))))] [sl 0 x16] ?_
  refine pc h (fun h => ?_) (fun h => ?_)
  refine srve 102 [(2, B false)] [sl 0 x16] ?_
  cases h
  exact pwp_ret rz
  refine pwp_skip ?_
  refine rve 102 [(3, A v2.1), (4, A v2.2.1), (5, A v2.2.2.1), (8, A v4), (9, rf 0 0 1 x16), (11, A v28), (12, I ((w64 (x31 + 1))))] [sl 0 x16] ?_
  exact ⟨(f32, (w64 (x31 + 1))), h, Nat.lt_succ_self _, it [3, 4, 5, 8, 9, 11, 12]⟩
  refine pwp_exit ?_
  refine srv 2 102 [(5, A v2.2.2.1), (8, A v4), (9, rf 0 0 1 x16), (87, A v2.1), (88, A v2.2.1)] [sl 0 x16] ?_
  obtain ⟨v44, hv45, h⟩ := bindS h
  refine cF 89 (ok_impl_LeftColumns hv45) ?_
  refine v 1 102 [(5, A v2.2.2.1), (9, rf 0 0 1 x16), (89, A v44), (90, A v4)] [sl 0 x16] ?_
  obtain ⟨v46, hv47, h⟩ := bindS h
  refine cF 91 (ok_impl_RowsOk hv47) ?_
  refine v 1 102 [(5, A v2.2.2.1), (9, rf 0 0 1 x16), (92, B v46)] [sl 0 x16] ?_
  rcases Bool.eq_false_or_eq_true v46 with hc57 | hc57
  replace h := bT hc57 h
  rw [hc57]
  refine v 1 102 [(5, A v2.2.2.1), (92, B true), (93, rf 0 0 1 x16)] [sl 0 x16] ?_
  refine opsP_imp ((Imp.freezeB (v := 0) (cs := eL x16) (st' := ⟨102, [(5, A v2.2.2.1), (92, B true), (93, A x16)], [none]⟩) 0 0 (nx hX) (by kernel_rfl) (eL_frz _) (wholeC (whole_noRef (by kernel_rfl)) (wholeC (whole_noRef (by kernel_rfl)) (wholeC (whole_is (eL_len x16).symm) wholeC0))) (HpRel.key HpRel.nil) (by kernel_rfl) rfl (nx hX))) ?_
  obtain ⟨v48, hv49, h⟩ := bindS h
  refine cF 94 (ok_impl_RowsOnce hv49) ?_
  refine v 1 102 [(92, B true), (94, A v48), (95, A v2.2.2.1)] [none] ?_
  obtain ⟨v50, hv51, h⟩ := bindS h
  refine cF 96 (ok_impl_RowsOnce hv51) ?_
  obtain ⟨v52, hv53, h⟩ := bindS h
  refine cF 97 (ok_impl_SameBag hv53) ?_
  refine v 2 102 [(99, B v52)] [none] ?_
  rcases Bool.eq_false_or_eq_true v52 with hc56 | hc56
  replace h := bT hc56 h
  rw [hc56]
  obtain ⟨v54, hv55, h⟩ := bindS h
  refine cF 100 (ok_laws_alive hv55) ?_
  refine ve 2 102 [(2, B v54)] [none] ?_
  cases h
  exact pwp_ret rz
  replace h := bF hc56 h
  rw [hc56]
  refine ve 3 102 [(2, B false)] [none] ?_
  cases h
  exact pwp_ret rz
  replace h := bF hc57 h
  rw [hc57]
  refine ve 10 102 [(2, B false)] [sl 0 x16] ?_
  cases h
  exact pwp_ret rz
end Go.D
