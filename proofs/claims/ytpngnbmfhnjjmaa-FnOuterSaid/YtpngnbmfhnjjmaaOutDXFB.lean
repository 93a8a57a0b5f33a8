import Derived.Test.YtpngnbmfhnjjmaaOutDXFA
import Derived.KernelRfl
set_option linter.unusedVariables false
set_option linter.unusedSimpArgs false
namespace Go.D
open Go.Proofs
theorem ok_spec_l4Step {a0 : List T_impl_Column} {a1 : List Int} {a2 : T_impl_Part} {y : (List Int) × Bool} (h : spec_l4Step a0 a1 a2 = some y) : OKm Try.prog 81 [A a0, O a1, E a2] (.tup [O y.1, B y.2]) := by
  refine OKm_of_pwp (sl := [A a0, rf 0 0 1 a1, E a2]) (bs := [⟨0, eL a1⟩]) τ_ok Try.func81 rfl (by kernel_rfl) rfl (by kernel_rfl) fun Γ hX => ?_
  refine pwp_imp (Imp.to (st' := ⟨191, [(0, A a0), (1, rf 0 0 1 a1), (2, E a2)], [sl 0 a1]⟩) [0, 1, 2] (by kernel_rfl)) ?_
  unfold spec_l4Step at h
  refine srve 191 [(0, A a0), (1, rf 0 0 1 a1), (5, pf a2 0)] [sl 0 a1] ?_
  refine srve 191 [(0, A a0), (1, rf 0 0 1 a1), (5, pf a2 0), (8, I ((a1.length : Int)))] [sl 0 a1] ?_
  refine pwp_seq ?_
  refine pwp_seq ?_
  refine pwp_join (σ := Bool) (fun x1 => (⟨191, [(0, A a0), (1, rf 0 0 1 a1), (5, pf a2 0), (8, I ((a1.length : Int))), (37, B x1)], [sl 0 a1]⟩ : St)) (fun x1 => spec_l4Step_j0 a0 a1 a2 x1 = some y) ?_ ?_
  refine rv 4 191 [(0, A a0), (1, rf 0 0 1 a1), (5, pf a2 0), (8, I ((a1.length : Int))), (17, B ((!(a2.fKind == 1))))] [sl 0 a1] ?_
  rcases fk ((!(a2.fKind == 1))) with hc73 | hc73
  replace h := bT hc73 h
  rw [hc73]
  refine v 6 191 [(0, A a0), (1, rf 0 0 1 a1), (5, pf a2 0), (8, I ((a1.length : Int))), (23, B ((!(eq_T_impl_Value a2.fV ((T_impl_Value.mk 0 0 (ByteArray.mk #[])))))))] [sl 0 a1] ?_
  rcases fk ((!(eq_T_impl_Value a2.fV ((T_impl_Value.mk 0 0 (ByteArray.mk #[])))))) with hc70 | hc70
  replace h := bT hc70 h
  rw [hc70]
  refine ve 14 191 [(0, A a0), (1, rf 0 0 1 a1), (5, pf a2 0), (8, I ((a1.length : Int))), (37, B true)] [sl 0 a1] ?_
  exact ⟨true, h, it [0, 1, 5, 8, 37]⟩
  replace h := bF hc70 h
  rw [hc70]
  refine v 4 191 [(0, A a0), (1, rf 0 0 1 a1), (5, pf a2 0), (8, I ((a1.length : Int))), (23, B false), (27, B ((!(a2.fKind == 2))))] [sl 0 a1] ?_
  rcases fk ((!(a2.fKind == 2))) with hc69 | hc69
  replace h := bT hc69 h
  rw [hc69]
  refine v 5 191 [(0, A a0), (1, rf 0 0 1 a1), (5, pf a2 0), (8, I ((a1.length : Int))), (23, B false), (32, B ((!(a2.fKind == 4))))] [sl 0 a1] ?_
  rcases fk ((!(a2.fKind == 4))) with hc68 | hc68
  replace h := bT hc68 h
  rw [hc68]
  refine ve 5 191 [(0, A a0), (1, rf 0 0 1 a1), (5, pf a2 0), (8, I ((a1.length : Int))), (37, B ((!(a2.fN == 0))))] [sl 0 a1] ?_
  exact ⟨(!(a2.fN == 0)), h, it [0, 1, 5, 8, 37]⟩
  replace h := bF hc68 h
  rw [hc68]
  refine ve 5 191 [(0, A a0), (1, rf 0 0 1 a1), (5, pf a2 0), (8, I ((a1.length : Int))), (37, B false)] [sl 0 a1] ?_
  exact ⟨false, h, it [0, 1, 5, 8, 37]⟩
  replace h := bF hc69 h
  rw [hc69]
  refine ve 10 191 [(0, A a0), (1, rf 0 0 1 a1), (5, pf a2 0), (8, I ((a1.length : Int))), (37, B false)] [sl 0 a1] ?_
  exact ⟨false, h, it [0, 1, 5, 8, 37]⟩
  replace h := bF hc73 h
  rw [hc73]
  refine v 10 191 [(0, A a0), (1, rf 0 0 1 a1), (5, pf a2 0), (8, I ((a1.length : Int))), (23, B false), (27, B ((!(a2.fKind == 2))))] [sl 0 a1] ?_
  rcases fk ((!(a2.fKind == 2))) with hc72 | hc72
  replace h := bT hc72 h
  rw [hc72]
  refine v 5 191 [(0, A a0), (1, rf 0 0 1 a1), (5, pf a2 0), (8, I ((a1.length : Int))), (23, B false), (32, B ((!(a2.fKind == 4))))] [sl 0 a1] ?_
  rcases fk ((!(a2.fKind == 4))) with hc71 | hc71
  replace h := bT hc71 h
  rw [hc71]
  refine ve 5 191 [(0, A a0), (1, rf 0 0 1 a1), (5, pf a2 0), (8, I ((a1.length : Int))), (37, B ((!(a2.fN == 0))))] [sl 0 a1] ?_
  exact ⟨(!(a2.fN == 0)), h, it [0, 1, 5, 8, 37]⟩
  replace h := bF hc71 h
  rw [hc71]
  refine ve 5 191 [(0, A a0), (1, rf 0 0 1 a1), (5, pf a2 0), (8, I ((a1.length : Int))), (37, B false)] [sl 0 a1] ?_
  exact ⟨false, h, it [0, 1, 5, 8, 37]⟩
  replace h := bF hc72 h
  rw [hc72]
  refine ve 10 191 [(0, A a0), (1, rf 0 0 1 a1), (5, pf a2 0), (8, I ((a1.length : Int))), (37, B false)] [sl 0 a1] ?_
  exact ⟨false, h, it [0, 1, 5, 8, 37]⟩
  rintro x1 h
  unfold spec_l4Step_j0 at h
  refine pc h (fun h => ?_) (fun h => ?_)
  refine srve 191 [(6, rf 0 0 1 a1), (7, B false)] [sl 0 a1] ?_
  have h := si h
  subst h
  exact pwp_ret (rt (.tup [rf 0 0 1 a1, B false]) (OutP.tup (OutL.cons (OutP.list (v := 0) (by kernel_rfl)) (OutL.cons (OutP.frz (by kernel_rfl)) (OutL.nil _)))))
  refine pwp_skip ?_
  refine pwp_seq ?_
  refine srve 191 [(0, A a0), (1, rf 0 0 1 a1), (5, pf a2 0), (8, I ((a1.length : Int))), (40, I a2.fKind)] [sl 0 a1] ?_
  refine pwp_block ?_
  refine srve 191 [(0, A a0), (1, rf 0 0 1 a1), (5, pf a2 0), (8, I ((a1.length : Int))), (40, I a2.fKind), (41, B ((a2.fKind == 1)))] [sl 0 a1] ?_
  refine pc h (fun h => ?_) (fun h => ?_)
  refine pwp_seq ?_
  refine pwp_seq ?_
  refine pwp_join (σ := Bool) (fun x4 => (⟨191, [(1, rf 0 0 1 a1), (5, pf a2 0), (52, B x4)], [sl 0 a1]⟩ : St)) (fun x4 => spec_l4Step_j1 a1 a2 x4 = some y) ?_ ?_
  refine rv 2 191 [(1, rf 0 0 1 a1), (5, pf a2 0), (44, E a2.fV)] [sl 0 a1] ?_
  obtain ⟨v8, hv9, h⟩ := bindS h
  refine cF 45 (ok_spec_ValueOk hv9) ?_
  refine v 2 191 [(1, rf 0 0 1 a1), (5, pf a2 0), (47, B ((!v8)))] [sl 0 a1] ?_
  rcases fk ((!v8)) with hc10 | hc10
  replace h := bT hc10 h
  rw [hc10]
  refine ve 5 191 [(1, rf 0 0 1 a1), (5, pf a2 0), (52, B true)] [sl 0 a1] ?_
  exact ⟨true, h, it [1, 5, 52]⟩
  replace h := bF hc10 h
  rw [hc10]
  refine ve 5 191 [(1, rf 0 0 1 a1), (5, pf a2 0), (52, B ((a2.fV.fKind == 0)))] [sl 0 a1] ?_
  exact ⟨(a2.fV.fKind == 0), h, it [1, 5, 52]⟩
  rintro x4 h
  unfold spec_l4Step_j1 at h
  refine pc h (fun h => ?_) (fun h => ?_)
  refine srve 191 [(6, rf 0 0 1 a1), (7, B false)] [sl 0 a1] ?_
  have h := si h
  subst h
  exact pwp_ret (rt (.tup [rf 0 0 1 a1, B false]) (OutP.tup (OutL.cons (OutP.list (v := 0) (by kernel_rfl)) (OutL.cons (OutP.frz (by kernel_rfl)) (OutL.nil _)))))
  refine pwp_skip ?_
  refine srv 5 191 [(54, rf 0 0 1 a1), (58, .arr 1 (([a2.fV.fKind] : List Int)).length (eL ([a2.fV.fKind] : List Int)) true)] [sl 0 a1] ?_
  obtain ⟨v6, hv7, h⟩ := bindS h
  refine opsP_app τ_ok 59 0 0 (nx hX) hv7 (by kernel_rfl) ?_
  refine ve 2 191 [(6, rf 0 1 1 v6), (7, B true)] [sl 1 v6] ?_
  have h := si h
  subst h
  exact pwp_ret (rt (.tup [rf 0 1 1 v6, B true]) (OutP.tup (OutL.cons (OutP.list (v := 1) (by kernel_rfl)) (OutL.cons (OutP.frz (by kernel_rfl)) (OutL.nil _)))))
  refine srve 191 [(0, A a0), (1, rf 0 0 1 a1), (5, pf a2 0), (8, I ((a1.length : Int))), (40, I a2.fKind), (60, B ((a2.fKind == 2)))] [sl 0 a1] ?_
  refine pc h (fun h => ?_) (fun h => ?_)
  refine pwp_seq ?_
  refine srv 5 191 [(0, A a0), (1, rf 0 0 1 a1), (5, pf a2 0), (63, I a2.fN), (66, I ((w64 (((a0.length : Int)) - 1))))] [sl 0 a1] ?_
  obtain ⟨v12, hv13, h⟩ := bindS h
  refine cF 67 (ok_spec_l1In hv13) ?_
  refine ve 1 191 [(0, A a0), (1, rf 0 0 1 a1), (5, pf a2 0), (68, B ((!v12)))] [sl 0 a1] ?_
  refine pc h (fun h => ?_) (fun h => ?_)
  refine srve 191 [(6, rf 0 0 1 a1), (7, B false)] [sl 0 a1] ?_
  have h := si h
  subst h
  exact pwp_ret (rt (.tup [rf 0 0 1 a1, B false]) (OutP.tup (OutL.cons (OutP.list (v := 0) (by kernel_rfl)) (OutL.cons (OutP.frz (by kernel_rfl)) (OutL.nil _)))))
  refine pwp_skip ?_
  refine srv 4 191 [(70, rf 0 0 1 a1), (71, A a0), (73, I a2.fN)] [sl 0 a1] ?_
  obtain ⟨v15, hv16, h⟩ := bindS h
  refine opsP_idx τ_ok 74 hv16 (by kernel_rfl) ?_
  refine v 3 191 [(70, rf 0 0 1 a1), (77, .arr 1 (([v15.fKind] : List Int)).length (eL ([v15.fKind] : List Int)) true)] [sl 0 a1] ?_
  obtain ⟨v17, hv18, h⟩ := bindS h
  refine opsP_app τ_ok 78 0 0 (nx hX) hv18 (by kernel_rfl) ?_
  refine ve 2 191 [(6, rf 0 1 1 v17), (7, B true)] [sl 1 v17] ?_
  have h := si h
  subst h
  exact pwp_ret (rt (.tup [rf 0 1 1 v17, B true]) (OutP.tup (OutL.cons (OutP.list (v := 1) (by kernel_rfl)) (OutL.cons (OutP.frz (by kernel_rfl)) (OutL.nil _)))))
  refine srve 191 [(1, rf 0 0 1 a1), (5, pf a2 0), (8, I ((a1.length : Int))), (40, I a2.fKind), (79, B ((a2.fKind == 3)))] [sl 0 a1] ?_
  refine pc h (fun h => ?_) (fun h => ?_)
  refine pwp_seq ?_
  refine pwp_join (σ := Bool) (fun x20 => (⟨191, [(1, rf 0 0 1 a1), (8, I ((a1.length : Int))), (9, B x20)], [sl 0 a1]⟩ : St)) (fun x20 => spec_l4Step_j2 a1 x20 = some y) ?_ ?_
  refine rv 3 191 [(1, rf 0 0 1 a1), (8, I ((a1.length : Int))), (83, B ((decide (((a1.length : Int)) > 1))))] [sl 0 a1] ?_
  rcases fk ((decide (((a1.length : Int)) > 1))) with hc30 | hc30
  replace h := bT hc30 h
  rw [hc30]
  refine v 3 191 [(1, rf 0 0 1 a1), (8, I ((a1.length : Int))), (83, B true), (84, rf 0 0 1 a1), (86, I ((w64 (((a1.length : Int)) - 1))))] [sl 0 a1] ?_
  obtain ⟨v25, hv26, h⟩ := bindS h
  refine opsP_idr τ_ok 87 0 0 a1.length hv26 rfl (by kernel_rfl) ?_
  refine opsP_lde (r := I v25) τ_ok 88 3 0 hv26 (by kernel_rfl) (by kernel_rfl) ?_
  refine v 3 191 [(1, rf 0 0 1 a1), (8, I ((a1.length : Int))), (91, B ((v25 == 1)))] [sl 0 a1] ?_
  rcases fk ((v25 == 1)) with hc29 | hc29
  replace h := bT hc29 h
  rw [hc29]
  refine v 3 191 [(1, rf 0 0 1 a1), (8, I ((a1.length : Int))), (91, B true), (92, rf 0 0 1 a1), (94, I ((w64 (((a1.length : Int)) - 2))))] [sl 0 a1] ?_
  obtain ⟨v27, hv28, h⟩ := bindS h
  refine opsP_idr τ_ok 95 0 0 a1.length hv28 rfl (by kernel_rfl) ?_
  refine opsP_lde (r := I v27) τ_ok 96 3 0 hv28 (by kernel_rfl) (by kernel_rfl) ?_
  refine ve 3 191 [(1, rf 0 0 1 a1), (8, I ((a1.length : Int))), (9, B ((v27 == 1)))] [sl 0 a1] ?_
  exact ⟨(v27 == 1), h, it [1, 8, 9]⟩
  replace h := bF hc29 h
  rw [hc29]
  refine ve 8 191 [(1, rf 0 0 1 a1), (8, I ((a1.length : Int))), (9, B false)] [sl 0 a1] ?_
  exact ⟨false, h, it [1, 8, 9]⟩
  replace h := bF hc30 h
  rw [hc30]
  refine ve 16 191 [(1, rf 0 0 1 a1), (8, I ((a1.length : Int))), (9, B false)] [sl 0 a1] ?_
  exact ⟨false, h, it [1, 8, 9]⟩
  rintro x20 h
  unfold spec_l4Step_j2 at h
  refine srv 3 191 [(9, B x20), (99, rf 0 0 1 a1), (101, I ((w64 (((a1.length : Int)) - 2))))] [sl 0 a1] ?_
  refine opsP_E (dd := some 102) (x := I (maxL ((w64 (((a1.length : Int)) - 2))) [0])) (CoreE.of_y (mxmV_sound (τ := τ) (m := true) (a := (w64 (((a1.length : Int)) - 2))) (l := [0]) (by kernel_rfl))) ?_
  obtain ⟨v21, hv22, h⟩ := bindS h
  refine opsP_slr τ_ok 103 0 0 a1.length hv22 rfl (by kernel_rfl) ?_
  refine v 1 191 [(9, B x20), (103, rf 0 0 1 v21), (104, .arr 1 (([1] : List Int)).length (eL ([1] : List Int)) true)] [sl 0 a1] ?_
  obtain ⟨v23, hv24, h⟩ := bindS h
  refine opsP_apt τ_ok 105 0 0 v21.length (nx hX) hv24 (slI_le hv22) (by kernel_rfl) ?_
  refine ve 3 191 [(6, rf 0 1 1 v23), (7, B x20)] [sl 1 v23] ?_
  have h := si h
  subst h
  exact pwp_ret (rt (.tup [rf 0 1 1 v23, B x20]) (OutP.tup (OutL.cons (OutP.list (v := 1) (by kernel_rfl)) (OutL.cons (OutP.frz (by kernel_rfl)) (OutL.nil _)))))
  refine srve 191 [(1, rf 0 0 1 a1), (5, pf a2 0), (8, I ((a1.length : Int))), (40, I a2.fKind), (107, B ((a2.fKind == 4)))] [sl 0 a1] ?_
  refine pc h (fun h => ?_) (fun h => ?_)
  refine pwp_seq ?_
  refine pwp_join (σ := Bool) (fun x32 => (⟨191, [(1, rf 0 0 1 a1), (8, I ((a1.length : Int))), (10, B x32)], [sl 0 a1]⟩ : St)) (fun x32 => spec_l4Step_j3 a1 x32 = some y) ?_ ?_
  refine ip 191 [(1, rf 0 0 1 a1), (5, pf a2 0), (8, I ((a1.length : Int)))] [sl 0 a1] ?_
  refine pwp_any ([[], [], [], [0], [], [], [0], [0], [0], [], [], [0], [0], [], [], [], [], [], [], [], []]) ([[], [], [], [], [], [], [], [], [], [], [], [], [], [], [], [], [], [], [], [], []]) rfl (by kernel_rfl) ?_
  refine qv [] trivial 3 191 [(111, B ((decide (((a1.length : Int)) > 1)))), (1, rf 0 0 1 a1), (5, pf a2 0), (8, I ((a1.length : Int)))] [sl 0 a1] ?_
  rcases fk ((decide (((a1.length : Int)) > 1))) with hc44 | hc44
  replace h := bT hc44 h
  rw [hc44]
  refine qv [0] (hL trivial) 1 191 [(112, rf 0 0 1 a1), (111, B true), (1, rf 0 0 1 a1), (5, pf a2 0), (8, I ((a1.length : Int)))] [sl 0 a1] ?_
  refine qv [] trivial 2 191 [(114, I ((w64 (((a1.length : Int)) - 1)))), (112, rf 0 0 1 a1), (111, B true), (1, rf 0 0 1 a1), (5, pf a2 0), (8, I ((a1.length : Int)))] [sl 0 a1] ?_
  obtain ⟨v37, hv38, h⟩ := bindS h
  refine qX (some 115) (.ptr 0 0 (((w64 (((a1.length : Int)) - 1))).toNat * 1)) 191 [(115, .ptr 0 0 (((w64 (((a1.length : Int)) - 1))).toNat * 1)), (111, B true), (1, rf 0 0 1 a1), (5, pf a2 0), (8, I ((a1.length : Int)))] [sl 0 a1] (fun Γ' hΓ => CoreE.of_y (idrV_sound (n := a1.length) τ_ok (by kernel_rfl) hv38 rfl)) (hL trivial) ?_
  refine qX (some 116) (I v37) 191 [(116, I v37), (111, B true), (1, rf 0 0 1 a1), (5, pf a2 0), (8, I ((a1.length : Int)))] [sl 0 a1] (fun Γ' hΓ => CoreE.of_y (ldeV_sound (t := 3) (o' := 0) (r := I v37) τ_ok hv38 (by kernel_rfl) (by kernel_rfl))) (hL trivial) ?_
  refine qv [0] (hL trivial) 1 191 [(117, rf 0 0 1 a1), (116, I v37), (111, B true), (1, rf 0 0 1 a1), (5, pf a2 0), (8, I ((a1.length : Int)))] [sl 0 a1] ?_
  refine qv [] trivial 2 191 [(119, I ((w64 (((a1.length : Int)) - 2)))), (117, rf 0 0 1 a1), (116, I v37), (111, B true), (1, rf 0 0 1 a1), (5, pf a2 0), (8, I ((a1.length : Int)))] [sl 0 a1] ?_
  obtain ⟨v39, hv40, h⟩ := bindS h
  refine qX (some 120) (.ptr 0 0 (((w64 (((a1.length : Int)) - 2))).toNat * 1)) 191 [(120, .ptr 0 0 (((w64 (((a1.length : Int)) - 2))).toNat * 1)), (116, I v37), (111, B true), (1, rf 0 0 1 a1), (5, pf a2 0), (8, I ((a1.length : Int)))] [sl 0 a1] (fun Γ' hΓ => CoreE.of_y (idrV_sound (n := a1.length) τ_ok (by kernel_rfl) hv40 rfl)) (hL trivial) ?_
  refine qX (some 121) (I v39) 191 [(121, I v39), (116, I v37), (111, B true), (1, rf 0 0 1 a1), (5, pf a2 0), (8, I ((a1.length : Int)))] [sl 0 a1] (fun Γ' hΓ => CoreE.of_y (ldeV_sound (t := 3) (o' := 0) (r := I v39) τ_ok hv40 (by kernel_rfl) (by kernel_rfl))) (hL trivial) ?_
  refine qv [] trivial 3 191 [(124, B ((v37 == v39))), (1, rf 0 0 1 a1), (5, pf a2 0), (8, I ((a1.length : Int)))] [sl 0 a1] ?_
  rcases fk ((v37 == v39)) with hc43 | hc43
  replace h := bT hc43 h
  rw [hc43]
  refine qv [] trivial 2 191 [(126, I a2.fN), (124, B true), (1, rf 0 0 1 a1), (8, I ((a1.length : Int)))] [sl 0 a1] ?_
  obtain ⟨v41, hv42, h⟩ := bindS h
  refine qX (some 127) (B v41) 191 [(127, B v41), (124, B true), (1, rf 0 0 1 a1), (8, I ((a1.length : Int)))] [sl 0 a1] (fun Γ' hΓ => CoreE.of_g (callV_sound (τ := τ) (by kernel_rfl) rfl (ok_spec_l1In hv42) (FzTo.frz rfl))) trivial ?_
  refine qvn [] trivial 2 191 [(1, rf 0 0 1 a1), (8, I ((a1.length : Int))), (10, B v41)] [sl 0 a1] ?_
  exact ⟨v41, h, it [1, 8, 10]⟩
  replace h := bF hc43 h
  rw [hc43]
  refine qvn [] trivial 5 191 [(1, rf 0 0 1 a1), (8, I ((a1.length : Int))), (10, B false)] [sl 0 a1] ?_
  exact ⟨false, h, it [1, 8, 10]⟩
  replace h := bF hc44 h
  rw [hc44]
  refine qv [0] (hL trivial) 1 191 [(112, .lit undef), (111, B false), (1, rf 0 0 1 a1), (5, pf a2 0), (8, I ((a1.length : Int)))] [sl 0 a1] ?_
  refine qv [] trivial 2 191 [(114, .lit undef), (112, .lit undef), (111, B false), (1, rf 0 0 1 a1), (5, pf a2 0), (8, I ((a1.length : Int)))] [sl 0 a1] ?_
  refine qv [0] (hL trivial) 3 191 [(117, .lit undef), (116, .lit undef), (111, B false), (1, rf 0 0 1 a1), (5, pf a2 0), (8, I ((a1.length : Int)))] [sl 0 a1] ?_
  refine qv [] trivial 2 191 [(119, .lit undef), (117, .lit undef), (116, .lit undef), (111, B false), (1, rf 0 0 1 a1), (5, pf a2 0), (8, I ((a1.length : Int)))] [sl 0 a1] ?_
  refine qv [0] (hL trivial) 2 191 [(121, .lit undef), (116, .lit undef), (111, B false), (1, rf 0 0 1 a1), (5, pf a2 0), (8, I ((a1.length : Int)))] [sl 0 a1] ?_
  refine qv [] trivial 8 191 [(10, B false), (1, rf 0 0 1 a1), (8, I ((a1.length : Int)))] [sl 0 a1] ?_
  refine qn 191 [(1, rf 0 0 1 a1), (8, I ((a1.length : Int))), (10, B false)] [sl 0 a1] ?_
  exact ⟨false, h, it [1, 8, 10]⟩
  rintro x32 h
  unfold spec_l4Step_j3 at h
  refine srv 3 191 [(10, B x32), (129, rf 0 0 1 a1), (131, I ((w64 (((a1.length : Int)) - 2))))] [sl 0 a1] ?_
  refine opsP_E (dd := some 132) (x := I (maxL ((w64 (((a1.length : Int)) - 2))) [0])) (CoreE.of_y (mxmV_sound (τ := τ) (m := true) (a := (w64 (((a1.length : Int)) - 2))) (l := [0]) (by kernel_rfl))) ?_
  obtain ⟨v33, hv34, h⟩ := bindS h
  refine opsP_slr τ_ok 133 0 0 a1.length hv34 rfl (by kernel_rfl) ?_
  refine v 1 191 [(10, B x32), (133, rf 0 0 1 v33), (134, .arr 1 (([3] : List Int)).length (eL ([3] : List Int)) true)] [sl 0 a1] ?_
  obtain ⟨v35, hv36, h⟩ := bindS h
  refine opsP_apt τ_ok 135 0 0 v33.length (nx hX) hv36 (slI_le hv34) (by kernel_rfl) ?_
  refine ve 3 191 [(6, rf 0 1 1 v35), (7, B x32)] [sl 1 v35] ?_
  have h := si h
  subst h
  exact pwp_ret (rt (.tup [rf 0 1 1 v35, B x32]) (OutP.tup (OutL.cons (OutP.list (v := 1) (by kernel_rfl)) (OutL.cons (OutP.frz (by kernel_rfl)) (OutL.nil _)))))
  refine pwp_seq ?_
  refine pwp_join (σ := Bool) (fun x45 => (⟨191, [(1, rf 0 0 1 a1), (8, I ((a1.length : Int))), (40, I a2.fKind), (137, B x45)], [sl 0 a1]⟩ : St)) (fun x45 => spec_l4Step_j4 a1 a2 x45 = some y) ?_ ?_
  refine srve 191 [(1, rf 0 0 1 a1), (8, I ((a1.length : Int))), (40, I a2.fKind), (137, B ((a2.fKind == 5)))] [sl 0 a1] ?_
  refine pc h (fun h => ?_) (fun h => ?_)
  refine pwp_skip ?_
  exact ⟨(a2.fKind == 5), h, it [1, 8, 40, 137]⟩
  refine rve 191 [(1, rf 0 0 1 a1), (8, I ((a1.length : Int))), (40, I a2.fKind), (137, B ((a2.fKind == 6)))] [sl 0 a1] ?_
  exact ⟨(a2.fKind == 6), h, it [1, 8, 40, 137]⟩
  rintro x45 h
  unfold spec_l4Step_j4 at h
  refine pc h (fun h => ?_) (fun h => ?_)
  refine pwp_seq ?_
  refine pwp_join (σ := Bool) (fun x47 => (⟨191, [(1, rf 0 0 1 a1), (8, I ((a1.length : Int))), (11, B x47)], [sl 0 a1]⟩ : St)) (fun x47 => spec_l4Step_j5 a1 x47 = some y) ?_ ?_
  refine rv 3 191 [(1, rf 0 0 1 a1), (8, I ((a1.length : Int))), (142, B ((decide (((a1.length : Int)) > 1))))] [sl 0 a1] ?_
  rcases fk ((decide (((a1.length : Int)) > 1))) with hc57 | hc57
  replace h := bT hc57 h
  rw [hc57]
  refine v 3 191 [(1, rf 0 0 1 a1), (8, I ((a1.length : Int))), (142, B true), (143, rf 0 0 1 a1), (145, I ((w64 (((a1.length : Int)) - 1))))] [sl 0 a1] ?_
  obtain ⟨v52, hv53, h⟩ := bindS h
  refine opsP_idr τ_ok 146 0 0 a1.length hv53 rfl (by kernel_rfl) ?_
  refine opsP_lde (r := I v52) τ_ok 147 3 0 hv53 (by kernel_rfl) (by kernel_rfl) ?_
  refine v 3 191 [(1, rf 0 0 1 a1), (8, I ((a1.length : Int))), (150, B ((v52 == 3)))] [sl 0 a1] ?_
  rcases fk ((v52 == 3)) with hc56 | hc56
  replace h := bT hc56 h
  rw [hc56]
  refine v 3 191 [(1, rf 0 0 1 a1), (8, I ((a1.length : Int))), (150, B true), (151, rf 0 0 1 a1), (153, I ((w64 (((a1.length : Int)) - 2))))] [sl 0 a1] ?_
  obtain ⟨v54, hv55, h⟩ := bindS h
  refine opsP_idr τ_ok 154 0 0 a1.length hv55 rfl (by kernel_rfl) ?_
  refine opsP_lde (r := I v54) τ_ok 155 3 0 hv55 (by kernel_rfl) (by kernel_rfl) ?_
  refine ve 3 191 [(1, rf 0 0 1 a1), (8, I ((a1.length : Int))), (11, B ((v54 == 3)))] [sl 0 a1] ?_
  exact ⟨(v54 == 3), h, it [1, 8, 11]⟩
  replace h := bF hc56 h
  rw [hc56]
  refine ve 8 191 [(1, rf 0 0 1 a1), (8, I ((a1.length : Int))), (11, B false)] [sl 0 a1] ?_
  exact ⟨false, h, it [1, 8, 11]⟩
  replace h := bF hc57 h
  rw [hc57]
  refine ve 16 191 [(1, rf 0 0 1 a1), (8, I ((a1.length : Int))), (11, B false)] [sl 0 a1] ?_
  exact ⟨false, h, it [1, 8, 11]⟩
  rintro x47 h
  unfold spec_l4Step_j5 at h
  refine srv 3 191 [(11, B x47), (158, rf 0 0 1 a1), (160, I ((w64 (((a1.length : Int)) - 2))))] [sl 0 a1] ?_
  refine opsP_E (dd := some 161) (x := I (maxL ((w64 (((a1.length : Int)) - 2))) [0])) (CoreE.of_y (mxmV_sound (τ := τ) (m := true) (a := (w64 (((a1.length : Int)) - 2))) (l := [0]) (by kernel_rfl))) ?_
  obtain ⟨v48, hv49, h⟩ := bindS h
  refine opsP_slr τ_ok 162 0 0 a1.length hv49 rfl (by kernel_rfl) ?_
  refine v 1 191 [(11, B x47), (162, rf 0 0 1 v48), (163, .arr 1 (([3] : List Int)).length (eL ([3] : List Int)) true)] [sl 0 a1] ?_
  obtain ⟨v50, hv51, h⟩ := bindS h
  refine opsP_apt τ_ok 164 0 0 v48.length (nx hX) hv51 (slI_le hv49) (by kernel_rfl) ?_
  refine ve 3 191 [(6, rf 0 1 1 v50), (7, B x47)] [sl 1 v50] ?_
  have h := si h
  subst h
  exact pwp_ret (rt (.tup [rf 0 1 1 v50, B x47]) (OutP.tup (OutL.cons (OutP.list (v := 1) (by kernel_rfl)) (OutL.cons (OutP.frz (by kernel_rfl)) (OutL.nil _)))))
  refine srve 191 [(1, rf 0 0 1 a1), (8, I ((a1.length : Int))), (40, I a2.fKind), (166, B ((a2.fKind == 7)))] [sl 0 a1] ?_
  refine pc h (fun h => ?_) (fun h => ?_)
  refine pwp_seq ?_
  refine ip 191 [(1, rf 0 0 1 a1), (8, I ((a1.length : Int)))] [sl 0 a1] ?_
  refine pwp_any ([[0], [], [], [], [0], [], [], [0], [0], [], [], [0], []]) ([[], [], [], [], [], [], [], [], [], [], [], [], []]) rfl (by kernel_rfl) ?_
  refine qv [0] (hL trivial) 1 191 [(168, rf 0 0 1 a1), (1, rf 0 0 1 a1), (8, I ((a1.length : Int)))] [sl 0 a1] ?_
  refine qv [] trivial 3 191 [(171, B ((decide (((a1.length : Int)) > 0)))), (168, rf 0 0 1 a1), (1, rf 0 0 1 a1), (8, I ((a1.length : Int)))] [sl 0 a1] ?_
  rcases fk ((decide (((a1.length : Int)) > 0))) with hc61 | hc61
  replace h := bT hc61 h
  rw [hc61]
  refine qv [0] (hL trivial) 1 191 [(172, rf 0 0 1 a1), (171, B true), (168, rf 0 0 1 a1), (8, I ((a1.length : Int)))] [sl 0 a1] ?_
  refine qv [] trivial 2 191 [(174, I ((w64 (((a1.length : Int)) - 1)))), (172, rf 0 0 1 a1), (171, B true), (168, rf 0 0 1 a1)] [sl 0 a1] ?_
  obtain ⟨v59, hv60, h⟩ := bindS h
  refine qX (some 175) (.ptr 0 0 (((w64 (((a1.length : Int)) - 1))).toNat * 1)) 191 [(175, .ptr 0 0 (((w64 (((a1.length : Int)) - 1))).toNat * 1)), (171, B true), (168, rf 0 0 1 a1)] [sl 0 a1] (fun Γ' hΓ => CoreE.of_y (idrV_sound (n := a1.length) τ_ok (by kernel_rfl) hv60 rfl)) (hL trivial) ?_
  refine qX (some 176) (I v59) 191 [(176, I v59), (171, B true), (168, rf 0 0 1 a1)] [sl 0 a1] (fun Γ' hΓ => CoreE.of_y (ldeV_sound (t := 3) (o' := 0) (r := I v59) τ_ok hv60 (by kernel_rfl) (by kernel_rfl))) (hL trivial) ?_
  refine qv [] trivial 2 191 [(178, B ((v59 == 3))), (168, rf 0 0 1 a1)] [sl 0 a1] ?_
  refine qv [0] (hL trivial) 1 191 [(6, rf 0 0 1 a1), (178, B ((v59 == 3)))] [sl 0 a1] ?_
  refine qv [] trivial 1 191 [(7, B ((v59 == 3))), (6, rf 0 0 1 a1)] [sl 0 a1] ?_
  refine qn 191 [(6, rf 0 0 1 a1), (7, B ((v59 == 3)))] [sl 0 a1] ?_
  have h := si h
  subst h
  exact pwp_ret (rt (.tup [rf 0 0 1 a1, B ((v59 == 3))]) (OutP.tup (OutL.cons (OutP.list (v := 0) (by kernel_rfl)) (OutL.cons (OutP.frz (by kernel_rfl)) (OutL.nil _)))))
  replace h := bF hc61 h
  rw [hc61]
  refine qv [0] (hL trivial) 1 191 [(172, .lit undef), (171, B false), (168, rf 0 0 1 a1), (8, I ((a1.length : Int)))] [sl 0 a1] ?_
  refine qv [] trivial 2 191 [(174, .lit undef), (172, .lit undef), (171, B false), (168, rf 0 0 1 a1)] [sl 0 a1] ?_
  refine qv [0] (hL trivial) 2 191 [(176, .lit undef), (171, B false), (168, rf 0 0 1 a1)] [sl 0 a1] ?_
  refine qv [] trivial 2 191 [(178, B false), (168, rf 0 0 1 a1)] [sl 0 a1] ?_
  refine qv [0] (hL trivial) 1 191 [(6, rf 0 0 1 a1), (178, B false)] [sl 0 a1] ?_
  refine qv [] trivial 1 191 [(7, B false), (6, rf 0 0 1 a1)] [sl 0 a1] ?_
  refine qn 191 [(6, rf 0 0 1 a1), (7, B false)] [sl 0 a1] ?_
  have h := si h
  subst h
  exact pwp_ret (rt (.tup [rf 0 0 1 a1, B false]) (OutP.tup (OutL.cons (OutP.list (v := 0) (by kernel_rfl)) (OutL.cons (OutP.frz (by kernel_rfl)) (OutL.nil _)))))
  refine srve 191 [(1, rf 0 0 1 a1), (8, I ((a1.length : Int))), (179, B ((a2.fKind == 8)))] [sl 0 a1] ?_
  refine pc h (fun h => ?_) (fun h => ?_)
  refine srv 3 191 [(8, I ((a1.length : Int))), (181, rf 0 0 1 a1), (183, I ((w64 (((a1.length : Int)) - 1))))] [sl 0 a1] ?_
  refine opsP_E (dd := some 184) (x := I (maxL ((w64 (((a1.length : Int)) - 1))) [0])) (CoreE.of_y (mxmV_sound (τ := τ) (m := true) (a := (w64 (((a1.length : Int)) - 1))) (l := [0]) (by kernel_rfl))) ?_
  obtain ⟨v63, hv64, h⟩ := bindS h
  refine opsP_slr τ_ok 185 0 0 a1.length hv64 rfl (by kernel_rfl) ?_
  refine v 1 191 [(8, I ((a1.length : Int))), (185, rf 0 0 1 v63), (186, .arr 1 (([3] : List Int)).length (eL ([3] : List Int)) true)] [sl 0 a1] ?_
  obtain ⟨v65, hv66, h⟩ := bindS h
  refine opsP_apt τ_ok 187 0 0 v63.length (nx hX) hv66 (slI_le hv64) (by kernel_rfl) ?_
  refine ve 4 191 [(6, rf 0 1 1 v65), (7, B ((decide (((a1.length : Int)) > 0))))] [sl 1 v65] ?_
  have h := si h
  subst h
  exact pwp_ret (rt (.tup [rf 0 1 1 v65, B ((decide (((a1.length : Int)) > 0)))]) (OutP.tup (OutL.cons (OutP.list (v := 1) (by kernel_rfl)) (OutL.cons (OutP.frz (by kernel_rfl)) (OutL.nil _)))))
  refine pwp_skip ?_
  refine srve 191 [(6, rf 0 0 1 a1), (7, B false)] [sl 0 a1] ?_
  have h := si h
  subst h
  exact pwp_ret (rt (.tup [rf 0 0 1 a1, B false]) (OutP.tup (OutL.cons (OutP.list (v := 0) (by kernel_rfl)) (OutL.cons (OutP.frz (by kernel_rfl)) (OutL.nil _)))))
def slices_Concat_impl_Column_impl_Column_l1 (a0 : List (List T_impl_Column)) : Nat → Int → (List T_impl_Column) → Option (List T_impl_Column)
  | 0, _, _ => none
  | f14 + 1, x12, x13 => bif (decide (x12 < ((a0.length : Int)))) then (getI a0 x12).bind fun v17 => (app x13 v17).bind fun v19 => (slices_Concat_impl_Column_impl_Column_l1 a0 f14) ((w64 (x12 + 1))) v19 else some x13
def slices_Concat_impl_Column_impl_Column_l0 (a0 : List (List T_impl_Column)) : Nat → Int → Int → Option (List T_impl_Column)
  | 0, _, _ => none
  | f3 + 1, x1, x2 => bif (decide (x2 < ((a0.length : Int)))) then (getI a0 x2).bind fun v6 => bif (decide (((w64 (x1 + ((v6.length : Int))))) < 0)) then none else (slices_Concat_impl_Column_impl_Column_l0 a0 f3) ((w64 (x1 + ((v6.length : Int))))) ((w64 (x2 + 1))) else (slices_Grow_impl_Column_impl_Column_n0 x1).bind fun v9 => slices_Concat_impl_Column_impl_Column_l1 a0 FUEL 0 v9
def slices_Concat_impl_Column_impl_Column (a0 : List (List T_impl_Column)) : Option (List T_impl_Column) := slices_Concat_impl_Column_impl_Column_l0 a0 FUEL 0 0
theorem ok_slices_Concat_impl_Column_impl_Column {a0 : List (List T_impl_Column)} {y : List T_impl_Column} (h : slices_Concat_impl_Column_impl_Column a0 = some y) : OK Try.prog 84 [A a0] (O y) := by
  refine ow Try.func84 fun Γ hX => ?_
  unfold slices_Concat_impl_Column_impl_Column at h
  refine srve 36 [(0, A a0)] [] ?_
  refine srve 36 [(0, A a0), (3, I 0)] [] ?_
  refine pwp_seq ?_
  refine srve 36 [(0, A a0), (3, I 0), (9, A a0), (10, I ((a0.length : Int))), (11, I 0)] [] ?_
  refine pwp_block ?_
  refine pwp_loop (ι := Nat × Int × Int) (fun (f3, x1, x2) => (⟨36, [(0, A a0), (3, I x1), (9, A a0), (10, I ((a0.length : Int))), (11, I x2)], []⟩ : St)) (fun (f3, x1, x2) => slices_Concat_impl_Column_impl_Column_l0 a0 f3 x1 x2 = some y) Prod.fst (FUEL, 0, 0) h (it [0, 3, 9, 10, 11]) ?_
  rintro ⟨f3, x1, x2⟩ h
  dsimp only at h ⊢
  rcases f3 with _ | f3
  cases h
  rw [slices_Concat_impl_Column_impl_Column_l0] at h
  refine srve 36 [(0, A a0), (3, I x1), (9, A a0), (10, I ((a0.length : Int))), (11, I x2), (12, B ((decide (x2 < ((a0.length : Int))))))] [] ?_
  refine pwp_seq ?_
  refine pc h (fun h => ?_) (fun h => ?_)
  refine pwp_skip ?_
  refine pwp_seq ?_
  refine pwp_block ?_
  refine pwp_seq ?_
  refine pwp_region ?_
  obtain ⟨v6, hv7, h⟩ := bindS h
  refine opsP_idx τ_ok 13 hv7 (by kernel_rfl) ?_
  refine ve 2 36 [(0, A a0), (3, I x1), (5, A v6), (9, A a0), (10, I ((a0.length : Int))), (11, I x2)] [] ?_
  refine srve 36 [(0, A a0), (3, I ((w64 (x1 + ((v6.length : Int)))))), (9, A a0), (10, I ((a0.length : Int))), (11, I x2)] [] ?_
  refine srve 36 [(0, A a0), (3, I ((w64 (x1 + ((v6.length : Int)))))), (9, A a0), (10, I ((a0.length : Int))), (11, I x2), (20, B ((decide (((w64 (x1 + ((v6.length : Int))))) < 0))))] [] ?_
  refine pc h (fun h => ?_) (fun h => ?_)
  cases h
  refine pwp_skip ?_
  refine rve 36 [(0, A a0), (3, I ((w64 (x1 + ((v6.length : Int)))))), (9, A a0), (10, I ((a0.length : Int))), (11, I ((w64 (x2 + 1))))] [] ?_
  exact ⟨(f3, (w64 (x1 + ((v6.length : Int)))), (w64 (x2 + 1))), h, Nat.lt_succ_self _, it [0, 3, 9, 10, 11]⟩
  refine pwp_exit ?_
  refine srv 1 36 [(0, A a0), (23, I x1)] [] ?_
  obtain ⟨v9, hv10, h⟩ := bindS h
  refine opsP_callH τ 24 (ok_slices_Grow_impl_Column_impl_Column_n0 hv10) rfl (by kernel_rfl) ?_
  refine ve 1 36 [(0, A a0), (6, rf 0 0 2 v9)] [sl 0 v9] ?_
  refine pwp_seq ?_
  refine srve 36 [(6, rf 0 0 2 v9), (25, A a0), (26, I ((a0.length : Int))), (27, I 0)] [sl 0 v9] ?_
  refine pwp_block ?_
  refine pwp_loop (ι := Nat × Int × (List T_impl_Column)) (fun (f14, x12, x13) => (⟨36, [(6, rf 0 0 2 x13), (25, A a0), (26, I ((a0.length : Int))), (27, I x12)], [sl 0 x13]⟩ : St)) (fun (f14, x12, x13) => slices_Concat_impl_Column_impl_Column_l1 a0 f14 x12 x13 = some y) Prod.fst (FUEL, 0, v9) h (it [6, 25, 26, 27]) ?_
  rintro ⟨f14, x12, x13⟩ h
  dsimp only at h ⊢
  rcases f14 with _ | f14
  cases h
  rw [slices_Concat_impl_Column_impl_Column_l1] at h
  refine srve 36 [(6, rf 0 0 2 x13), (25, A a0), (26, I ((a0.length : Int))), (27, I x12), (28, B ((decide (x12 < ((a0.length : Int))))))] [sl 0 x13] ?_
  refine pwp_seq ?_
  refine pc h (fun h => ?_) (fun h => ?_)
  refine pwp_skip ?_
  refine pwp_seq ?_
  refine pwp_block ?_
  refine pwp_seq ?_
  refine pwp_region ?_
  obtain ⟨v17, hv18, h⟩ := bindS h
  refine opsP_idx τ_ok 29 hv18 (by kernel_rfl) ?_
  refine ve 2 36 [(6, rf 0 0 2 x13), (8, A v17), (25, A a0), (26, I ((a0.length : Int))), (27, I x12)] [sl 0 x13] ?_
  refine rv 2 36 [(25, A a0), (26, I ((a0.length : Int))), (27, I x12), (31, rf 0 0 2 x13), (32, A v17)] [sl 0 x13] ?_
  obtain ⟨v19, hv20, h⟩ := bindS h
  refine opsP_app τ_ok 33 0 0 (nx hX) hv20 (by kernel_rfl) ?_
  refine ve 1 36 [(6, rf 0 1 2 v19), (25, A a0), (26, I ((a0.length : Int))), (27, I x12)] [sl 1 v19] ?_
  refine rve 36 [(6, rf 0 1 2 v19), (25, A a0), (26, I ((a0.length : Int))), (27, I ((w64 (x12 + 1))))] [sl 1 v19] ?_
  exact ⟨(f14, (w64 (x12 + 1)), v19), h, Nat.lt_succ_self _, (it (st' := ⟨36, [(6, rf 0 1 2 v19), (25, A a0), (26, I ((a0.length : Int))), (27, I ((w64 (x12 + 1))))], [sl 1 v19]⟩) [6, 25, 26, 27]).trans (Imp.reverS 0 1 (eL v19) [6, 25, 26, 27] (by kernel_rfl) (by exact (And.intro (eL_frz _) trivial)) (by kernel_rfl))⟩
  refine pwp_exit ?_
  refine srve 36 [(2, rf 0 0 2 x13)] [sl 0 x13] ?_
  have h := si h
  subst h
  exact pwp_ret (rt (rf 0 0 2 x13) (OutP.list (v := 0) (by kernel_rfl)))
def slices_Concat_impl_Value_impl_Value_l1 (a0 : List (List T_impl_Value)) : Nat → Int → (List T_impl_Value) → Option (List T_impl_Value)
  | 0, _, _ => none
  | f14 + 1, x12, x13 => bif (decide (x12 < ((a0.length : Int)))) then (getI a0 x12).bind fun v17 => (app x13 v17).bind fun v19 => (slices_Concat_impl_Value_impl_Value_l1 a0 f14) ((w64 (x12 + 1))) v19 else some x13
def slices_Concat_impl_Value_impl_Value_l0 (a0 : List (List T_impl_Value)) : Nat → Int → Int → Option (List T_impl_Value)
  | 0, _, _ => none
  | f3 + 1, x1, x2 => bif (decide (x2 < ((a0.length : Int)))) then (getI a0 x2).bind fun v6 => bif (decide (((w64 (x1 + ((v6.length : Int))))) < 0)) then none else (slices_Concat_impl_Value_impl_Value_l0 a0 f3) ((w64 (x1 + ((v6.length : Int))))) ((w64 (x2 + 1))) else (slices_Grow_impl_Value_impl_Value_n0 x1).bind fun v9 => slices_Concat_impl_Value_impl_Value_l1 a0 FUEL 0 v9
def slices_Concat_impl_Value_impl_Value (a0 : List (List T_impl_Value)) : Option (List T_impl_Value) := slices_Concat_impl_Value_impl_Value_l0 a0 FUEL 0 0
theorem ok_slices_Concat_impl_Value_impl_Value {a0 : List (List T_impl_Value)} {y : List T_impl_Value} (h : slices_Concat_impl_Value_impl_Value a0 = some y) : OK Try.prog 86 [A a0] (O y) := by
  refine ow Try.func86 fun Γ hX => ?_
  unfold slices_Concat_impl_Value_impl_Value at h
  refine srve 36 [(0, A a0)] [] ?_
  refine srve 36 [(0, A a0), (3, I 0)] [] ?_
  refine pwp_seq ?_
  refine srve 36 [(0, A a0), (3, I 0), (9, A a0), (10, I ((a0.length : Int))), (11, I 0)] [] ?_
  refine pwp_block ?_
  refine pwp_loop (ι := Nat × Int × Int) (fun (f3, x1, x2) => (⟨36, [(0, A a0), (3, I x1), (9, A a0), (10, I ((a0.length : Int))), (11, I x2)], []⟩ : St)) (fun (f3, x1, x2) => slices_Concat_impl_Value_impl_Value_l0 a0 f3 x1 x2 = some y) Prod.fst (FUEL, 0, 0) h (it [0, 3, 9, 10, 11]) ?_
  rintro ⟨f3, x1, x2⟩ h
  dsimp only at h ⊢
  rcases f3 with _ | f3
  cases h
  rw [slices_Concat_impl_Value_impl_Value_l0] at h
  refine srve 36 [(0, A a0), (3, I x1), (9, A a0), (10, I ((a0.length : Int))), (11, I x2), (12, B ((decide (x2 < ((a0.length : Int))))))] [] ?_
  refine pwp_seq ?_
  refine pc h (fun h => ?_) (fun h => ?_)
  refine pwp_skip ?_
  refine pwp_seq ?_
  refine pwp_block ?_
  refine pwp_seq ?_
  refine pwp_region ?_
  obtain ⟨v6, hv7, h⟩ := bindS h
  refine opsP_idx τ_ok 13 hv7 (by kernel_rfl) ?_
  refine ve 2 36 [(0, A a0), (3, I x1), (5, A v6), (9, A a0), (10, I ((a0.length : Int))), (11, I x2)] [] ?_
  refine srve 36 [(0, A a0), (3, I ((w64 (x1 + ((v6.length : Int)))))), (9, A a0), (10, I ((a0.length : Int))), (11, I x2)] [] ?_
  refine srve 36 [(0, A a0), (3, I ((w64 (x1 + ((v6.length : Int)))))), (9, A a0), (10, I ((a0.length : Int))), (11, I x2), (20, B ((decide (((w64 (x1 + ((v6.length : Int))))) < 0))))] [] ?_
  refine pc h (fun h => ?_) (fun h => ?_)
  cases h
  refine pwp_skip ?_
  refine rve 36 [(0, A a0), (3, I ((w64 (x1 + ((v6.length : Int)))))), (9, A a0), (10, I ((a0.length : Int))), (11, I ((w64 (x2 + 1))))] [] ?_
  exact ⟨(f3, (w64 (x1 + ((v6.length : Int)))), (w64 (x2 + 1))), h, Nat.lt_succ_self _, it [0, 3, 9, 10, 11]⟩
  refine pwp_exit ?_
  refine srv 1 36 [(0, A a0), (23, I x1)] [] ?_
  obtain ⟨v9, hv10, h⟩ := bindS h
  refine opsP_callH τ 24 (ok_slices_Grow_impl_Value_impl_Value_n0 hv10) rfl (by kernel_rfl) ?_
  refine ve 1 36 [(0, A a0), (6, rf 0 0 3 v9)] [sl 0 v9] ?_
  refine pwp_seq ?_
  refine srve 36 [(6, rf 0 0 3 v9), (25, A a0), (26, I ((a0.length : Int))), (27, I 0)] [sl 0 v9] ?_
  refine pwp_block ?_
  refine pwp_loop (ι := Nat × Int × (List T_impl_Value)) (fun (f14, x12, x13) => (⟨36, [(6, rf 0 0 3 x13), (25, A a0), (26, I ((a0.length : Int))), (27, I x12)], [sl 0 x13]⟩ : St)) (fun (f14, x12, x13) => slices_Concat_impl_Value_impl_Value_l1 a0 f14 x12 x13 = some y) Prod.fst (FUEL, 0, v9) h (it [6, 25, 26, 27]) ?_
  rintro ⟨f14, x12, x13⟩ h
  dsimp only at h ⊢
  rcases f14 with _ | f14
  cases h
  rw [slices_Concat_impl_Value_impl_Value_l1] at h
  refine srve 36 [(6, rf 0 0 3 x13), (25, A a0), (26, I ((a0.length : Int))), (27, I x12), (28, B ((decide (x12 < ((a0.length : Int))))))] [sl 0 x13] ?_
  refine pwp_seq ?_
  refine pc h (fun h => ?_) (fun h => ?_)
  refine pwp_skip ?_
  refine pwp_seq ?_
  refine pwp_block ?_
  refine pwp_seq ?_
  refine pwp_region ?_
  obtain ⟨v17, hv18, h⟩ := bindS h
  refine opsP_idx τ_ok 29 hv18 (by kernel_rfl) ?_
  refine ve 2 36 [(6, rf 0 0 3 x13), (8, A v17), (25, A a0), (26, I ((a0.length : Int))), (27, I x12)] [sl 0 x13] ?_
  refine rv 2 36 [(25, A a0), (26, I ((a0.length : Int))), (27, I x12), (31, rf 0 0 3 x13), (32, A v17)] [sl 0 x13] ?_
  obtain ⟨v19, hv20, h⟩ := bindS h
  refine opsP_app τ_ok 33 0 0 (nx hX) hv20 (by kernel_rfl) ?_
  refine ve 1 36 [(6, rf 0 1 3 v19), (25, A a0), (26, I ((a0.length : Int))), (27, I x12)] [sl 1 v19] ?_
  refine rve 36 [(6, rf 0 1 3 v19), (25, A a0), (26, I ((a0.length : Int))), (27, I ((w64 (x12 + 1))))] [sl 1 v19] ?_
  exact ⟨(f14, (w64 (x12 + 1)), v19), h, Nat.lt_succ_self _, (it (st' := ⟨36, [(6, rf 0 1 3 v19), (25, A a0), (26, I ((a0.length : Int))), (27, I ((w64 (x12 + 1))))], [sl 1 v19]⟩) [6, 25, 26, 27]).trans (Imp.reverS 0 1 (eL v19) [6, 25, 26, 27] (by kernel_rfl) (by exact (And.intro (eL_frz _) trivial)) (by kernel_rfl))⟩
  refine pwp_exit ?_
  refine srve 36 [(2, rf 0 0 3 x13)] [sl 0 x13] ?_
  have h := si h
  subst h
  exact pwp_ret (rt (rf 0 0 3 x13) (OutP.list (v := 0) (by kernel_rfl)))
def impl_Part_kind_1 (a0 : Int) (b0 : List Int) : Option Bool := (slices_ContainsFunc_int_int b0 (fun z0 => impl_Part_kind_1_1 z0 a0)).bind fun v1 => some ((!v1))
theorem ok_impl_Part_kind_1 {a0 : Int} {b0 : List Int} {y : Bool} (h : impl_Part_kind_1 a0 b0 = some y) : OK Try.prog 120 [I a0, pf b0 0] (B y) := by
  refine ow Try.func120 fun Γ hX => ?_
  unfold impl_Part_kind_1 at h
  refine srve 8 [(1, pf b0 0), (2, pf a0 0)] [] ?_
  refine srv 2 8 [(4, A b0), (5, .fn 122 [pf a0 0])] [] ?_
  obtain ⟨v1, hv2, h⟩ := bindS h
  refine cF 6 (ok_slices_ContainsFunc_int_int (rfl) (fun _ w hw => ok_impl_Part_kind_1_1 hw) hv2) ?_
  refine ve 2 8 [(3, B ((!v1)))] [] ?_
  cases h
  exact pwp_ret rz
def impl_AndOf (a0 : Int) (a1 : Int) : Option Int := (impl_fold a0 a1 0).bind fun v1 => some v1
theorem ok_impl_AndOf {a0 : Int} {a1 : Int} {y : Int} (h : impl_AndOf a0 a1 = some y) : OK Try.prog 132 [I a0, I a1] (I y) := by
  refine ow Try.func132 fun Γ hX => ?_
  unfold impl_AndOf at h
  refine srve 8 [(0, I a0), (1, I a1)] [] ?_
  refine srv 2 8 [(5, I a0), (6, I a1)] [] ?_
  obtain ⟨v1, hv2, h⟩ := bindS h
  refine cF 7 (ok_impl_fold hv2) ?_
  refine ve 1 8 [(4, I v1)] [] ?_
  cases h
  exact pwp_ret rz
def impl_OrOf (a0 : Int) (a1 : Int) : Option Int := (impl_fold a0 a1 1).bind fun v1 => some v1
theorem ok_impl_OrOf {a0 : Int} {a1 : Int} {y : Int} (h : impl_OrOf a0 a1 = some y) : OK Try.prog 134 [I a0, I a1] (I y) := by
  refine ow Try.func134 fun Γ hX => ?_
  unfold impl_OrOf at h
  refine srve 8 [(0, I a0), (1, I a1)] [] ?_
  refine srv 2 8 [(5, I a0), (6, I a1)] [] ?_
  obtain ⟨v1, hv2, h⟩ := bindS h
  refine cF 7 (ok_impl_fold hv2) ?_
  refine ve 1 8 [(4, I v1)] [] ?_
  cases h
  exact pwp_ret rz
def impl_Value_order (a0 : T_impl_Value) (a1 : T_impl_Value) : Option Int := (cmp_Compare_int a0.fKind a1.fKind).bind fun v1 => (cmp_Compare_int a0.fN a1.fN).bind fun v3 => (cmp_Compare_string a0.fS a1.fS).bind fun v5 => (cmp_Or_int ([v1, v3, v5])).bind fun v7 => some v7
theorem ok_impl_Value_order {a0 : T_impl_Value} {a1 : T_impl_Value} {y : Int} (h : impl_Value_order a0 a1 = some y) : OK Try.prog 155 [E a0, E a1] (I y) := by
  refine ow Try.func155 fun Γ hX => ?_
  unfold impl_Value_order at h
  refine srve 22 [(2, pf a0 0), (3, pf a1 0)] [] ?_
  refine pwp_seq ?_
  refine ip 22 [(2, pf a0 0), (3, pf a1 0)] [] ?_
  refine pN 18 ?_
  refine qv [] trivial 4 22 [(8, I a1.fKind), (6, I a0.fKind), (2, pf a0 0), (3, pf a1 0)] [] ?_
  obtain ⟨v1, hv2, h⟩ := bindS h
  refine qX (some 9) (I v1) 22 [(9, I v1), (2, pf a0 0), (3, pf a1 0)] [] (fun Γ' hΓ => CoreE.of_g (callV_sound (τ := τ) (by kernel_rfl) rfl (ok_cmp_Compare_int hv2) (FzTo.frz rfl))) trivial ?_
  refine qv [] trivial 4 22 [(13, I a1.fN), (11, I a0.fN), (9, I v1), (2, pf a0 0), (3, pf a1 0)] [] ?_
  obtain ⟨v3, hv4, h⟩ := bindS h
  refine qX (some 14) (I v3) 22 [(14, I v3), (9, I v1), (2, pf a0 0), (3, pf a1 0)] [] (fun Γ' hΓ => CoreE.of_g (callV_sound (τ := τ) (by kernel_rfl) rfl (ok_cmp_Compare_int hv4) (FzTo.frz rfl))) trivial ?_
  refine qv [] trivial 4 22 [(18, S a1.fS), (16, S a0.fS), (14, I v3), (9, I v1)] [] ?_
  obtain ⟨v5, hv6, h⟩ := bindS h
  refine qX (some 19) (I v5) 22 [(19, I v5), (14, I v3), (9, I v1)] [] (fun Γ' hΓ => CoreE.of_g (callV_sound (τ := τ) (by kernel_rfl) rfl (ok_cmp_Compare_string hv6) (FzTo.frz rfl))) trivial ?_
  refine qv [] trivial 1 22 [(20, .arr 1 (([v1, v3, v5] : List Int)).length (eL ([v1, v3, v5] : List Int)) true)] [] ?_
  obtain ⟨v7, hv8, h⟩ := bindS h
  refine qX (some 21) (I v7) 22 [(21, I v7)] [] (fun Γ' hΓ => CoreE.of_g (callV_sound (τ := τ) (by kernel_rfl) rfl (ok_cmp_Or_int hv8) (FzTo.frz rfl))) trivial ?_
  refine qvn [] trivial 1 22 [(4, I v7)] [] ?_
  cases h
  exact pwp_ret rz
def laws_alive  : Option Bool := (impl_ValueOk ((T_impl_Value.mk 1 3 (ByteArray.mk #[])))).bind fun v1 => bif v1 then (impl_ValueOk ((T_impl_Value.mk 9 0 (ByteArray.mk #[])))).bind fun v3 => some ((!v3)) else some false
theorem ok_laws_alive  {y : Bool} (h : laws_alive  = some y) : OK Try.prog 10 [] (B y) := by
  refine ow Try.func10 fun Γ hX => ?_
  unfold laws_alive at h
  refine srve 8 [] [] ?_
  refine srv 1 8 [(1, E ((T_impl_Value.mk 1 3 (ByteArray.mk #[]))))] [] ?_
  obtain ⟨v1, hv2, h⟩ := bindS h
  refine cF 2 (ok_impl_ValueOk hv2) ?_
  refine v 1 8 [(3, B v1)] [] ?_
  rcases Bool.eq_false_or_eq_true v1 with hc5 | hc5
  replace h := bT hc5 h
  rw [hc5]
  refine v 1 8 [(3, B true), (4, E ((T_impl_Value.mk 9 0 (ByteArray.mk #[]))))] [] ?_
  obtain ⟨v3, hv4, h⟩ := bindS h
  refine cF 5 (ok_impl_ValueOk hv4) ?_
  refine ve 3 8 [(0, B ((!v3)))] [] ?_
  cases h
  exact pwp_ret rz
  replace h := bF hc5 h
  rw [hc5]
  refine ve 5 8 [(0, B false)] [] ?_
  cases h
  exact pwp_ret rz
def spec_ExprKind_j3 (x6 : List Int) (x15 : Bool) : Option Int := bif x15 then some (-1) else (getI x6 ((0 : Int))).bind fun v17 => some v17
def spec_ExprKind_j2 (a0 : List T_impl_Column) (a1 : List T_impl_Part) (x4 : Bool) (x5 : Int) (x6 : List Int) (K8 : Bool → Int → (List Int) → Option Int) (x9 : Bool) : Option Int := bif x9 then (getI a1 x5).bind fun v11 => (spec_l4Step a0 x6 v11).bind fun v13 => K8 v13.2 ((w64 (x5 + 1))) v13.1 else bif (!x4) then spec_ExprKind_j3 x6 true else spec_ExprKind_j3 x6 ((!(((x6.length : Int)) == 1)))
def spec_ExprKind_l1 (a0 : List T_impl_Column) (a1 : List T_impl_Part) : Nat → Bool → Int → (List Int) → Option Int
  | 0, _, _, _ => none
  | f7 + 1, x4, x5, x6 => bif (decide (x5 < ((a1.length : Int)))) then spec_ExprKind_j2 a0 a1 x4 x5 x6 (spec_ExprKind_l1 a0 a1 f7) x4 else spec_ExprKind_j2 a0 a1 x4 x5 x6 (spec_ExprKind_l1 a0 a1 f7) false
def spec_ExprKind_j0 (a0 : List T_impl_Column) (a1 : List T_impl_Part) (x1 : Bool) : Option Int := bif x1 then some (-1) else spec_ExprKind_l1 a0 a1 FUEL true 0 (([] : List Int))
def spec_ExprKind (a0 : List T_impl_Column) (a1 : List T_impl_Part) : Option Int := (spec_ColumnsOk a0).bind fun v21 => bif (!v21) then spec_ExprKind_j0 a0 a1 true else spec_ExprKind_j0 a0 a1 ((decide (((a1.length : Int)) > 12)))
theorem ok_spec_ExprKind {a0 : List T_impl_Column} {a1 : List T_impl_Part} {y : Int} (h : spec_ExprKind a0 a1 = some y) : OK Try.prog 36 [A a0, A a1] (I y) := by
  refine ow Try.func36 fun Γ hX => ?_
  unfold spec_ExprKind at h
  refine srve 46 [(0, A a0), (1, A a1)] [] ?_
  refine pwp_seq ?_
  refine pwp_seq ?_
  refine pwp_join (σ := Bool) (fun x1 => (⟨46, [(0, A a0), (1, A a1), (15, B x1)], []⟩ : St)) (fun x1 => spec_ExprKind_j0 a0 a1 x1 = some y) ?_ ?_
  refine rv 1 46 [(0, A a0), (1, A a1), (8, A a0)] [] ?_
  obtain ⟨v21, hv22, h⟩ := bindS h
  refine cF 9 (ok_spec_ColumnsOk hv22) ?_
  refine v 2 46 [(0, A a0), (1, A a1), (11, B ((!v21)))] [] ?_
  rcases fk ((!v21)) with hc23 | hc23
  replace h := bT hc23 h
  rw [hc23]
  refine ve 4 46 [(0, A a0), (1, A a1), (15, B true)] [] ?_
  exact ⟨true, h, it [0, 1, 15]⟩
  replace h := bF hc23 h
  rw [hc23]
  refine ve 4 46 [(0, A a0), (1, A a1), (15, B ((decide (((a1.length : Int)) > 12))))] [] ?_
  exact ⟨(decide (((a1.length : Int)) > 12)), h, it [0, 1, 15]⟩
  rintro x1 h
  unfold spec_ExprKind_j0 at h
  refine pc h (fun h => ?_) (fun h => ?_)
  refine srve 46 [(4, I (-1))] [] ?_
  cases h
  exact pwp_ret rz
  refine pwp_skip ?_
  refine srve 46 [(0, A a0), (1, A a1), (5, .arr 1 0 (eL ([] : List Int)) true)] [] ?_
  refine srve 46 [(0, A a0), (1, A a1), (5, .arr 1 0 (eL ([] : List Int)) true), (6, B true)] [] ?_
  refine pwp_seq ?_
  refine srve 46 [(0, A a0), (1, A a1), (5, .arr 1 0 (eL ([] : List Int)) true), (6, B true), (7, I 0)] [] ?_
  refine pwp_block ?_
  refine pwp_loop (ι := Nat × Bool × Int × (List Int)) (fun (f7, x4, x5, x6) => (⟨46, [(0, A a0), (1, A a1), (5, rf 0 0 1 x6), (6, B x4), (7, I x5)], [sl 0 x6]⟩ : St)) (fun (f7, x4, x5, x6) => spec_ExprKind_l1 a0 a1 f7 x4 x5 x6 = some y) Prod.fst (FUEL, true, 0, ([] : List Int)) h (Imp.thawS 5 [0, 1, 5, 6, 7] (by kernel_rfl)) ?_
  rintro ⟨f7, x4, x5, x6⟩ h
  dsimp only at h ⊢
  rcases f7 with _ | f7
  cases h
  rw [spec_ExprKind_l1] at h
  refine pwp_seq ?_
  refine pwp_seq ?_
  refine pwp_join (σ := Bool) (fun x9 => (⟨46, [(0, A a0), (1, A a1), (5, rf 0 0 1 x6), (6, B x4), (7, I x5), (23, B x9)], [sl 0 x6]⟩ : St)) (fun x9 => spec_ExprKind_j2 a0 a1 x4 x5 x6 (spec_ExprKind_l1 a0 a1 f7) x9 = some y) ?_ ?_
  refine rv 5 46 [(0, A a0), (1, A a1), (5, rf 0 0 1 x6), (6, B x4), (7, I x5), (21, B ((decide (x5 < ((a1.length : Int))))))] [sl 0 x6] ?_
  rcases fk ((decide (x5 < ((a1.length : Int))))) with hc20 | hc20
  replace h := bT hc20 h
  rw [hc20]
  refine ve 2 46 [(0, A a0), (1, A a1), (5, rf 0 0 1 x6), (6, B x4), (7, I x5), (22, B x4), (23, B x4)] [sl 0 x6] ?_
  exact ⟨x4, h, it [0, 1, 5, 6, 7, 23]⟩
  replace h := bF hc20 h
  rw [hc20]
  refine ve 2 46 [(0, A a0), (1, A a1), (5, rf 0 0 1 x6), (6, B x4), (7, I x5), (22, .lit undef), (23, B false)] [sl 0 x6] ?_
  exact ⟨false, h, it [0, 1, 5, 6, 7, 23]⟩
  rintro x9 h
  unfold spec_ExprKind_j2 at h
  refine pc h (fun h => ?_) (fun h => ?_)
  refine pwp_skip ?_
  refine pwp_seq ?_
  refine pwp_block ?_
  refine rv 4 46 [(0, A a0), (1, A a1), (7, I x5), (27, A a0), (28, rf 0 0 1 x6), (29, A a1), (30, I x5)] [sl 0 x6] ?_
  obtain ⟨v11, hv12, h⟩ := bindS h
  refine opsP_idx τ_ok 31 hv12 (by kernel_rfl) ?_
  refine v 1 46 [(0, A a0), (1, A a1), (7, I x5), (27, A a0), (28, rf 0 0 1 x6), (32, E v11)] [sl 0 x6] ?_
  obtain ⟨v13, hv14, h⟩ := bindS h
  refine opsP_callM (xs := [A a0, rf 0 0 1 x6, E v11]) (x := .tup [rf 1 0 1 v13.1, B v13.2]) (bs := [⟨0, eL v13.1⟩]) τ 33 [0] (nx hX) (ok_spec_l4Step hv14) (by kernel_rfl) (OutL.cons (OutP.frz rfl) (OutL.cons (OutP.list (v := 0) (by kernel_rfl)) (OutL.cons (OutP.frz rfl) (OutL.nil _)))) (by decide) (by kernel_rfl) ?_
  refine ve 5 46 [(0, A a0), (1, A a1), (5, rf 1 0 1 v13.1), (6, B v13.2), (7, I x5)] [none, sl 0 v13.1] ?_
  refine rve 46 [(0, A a0), (1, A a1), (5, rf 1 0 1 v13.1), (6, B v13.2), (7, I ((w64 (x5 + 1))))] [none, sl 0 v13.1] ?_
  exact ⟨(f7, v13.2, (w64 (x5 + 1)), v13.1), h, Nat.lt_succ_self _, (it (st' := ⟨46, [(0, A a0), (1, A a1), (5, rf 1 0 1 v13.1), (6, B v13.2), (7, I ((w64 (x5 + 1))))], [none, sl 0 v13.1]⟩) [0, 1, 5, 6, 7]).trans ((Imp.mvS (st' := ⟨46, [(0, A a0), (1, A a1), (5, rf 0 0 1 v13.1), (6, B v13.2), (7, I ((w64 (x5 + 1))))], [sl 0 v13.1, none]⟩) 1 0 [0, 1, 5, 6, 7] (nx hX) (v := 0) (cs := eL v13.1) (by kernel_rfl) (by kernel_rfl) (by exact (And.intro (eL_frz _) trivial)) (by kernel_rfl) (by kernel_rfl)).trans (Imp.truncS 1 (nx hX) (by kernel_rfl) (allBelow_mem (by exact (And.intro rfl (And.intro rfl (And.intro rfl (And.intro rfl (And.intro rfl trivial))))))) (by exact (And.intro (frz_below (eL_frz _)) trivial)) (by kernel_rfl)))⟩
  refine pwp_exit ?_
  refine pwp_seq ?_
  refine pwp_seq ?_
  refine pwp_join (σ := Bool) (fun x15 => (⟨46, [(5, rf 0 0 1 x6), (42, B x15)], [sl 0 x6]⟩ : St)) (fun x15 => spec_ExprKind_j3 x6 x15 = some y) ?_ ?_
  refine rv 3 46 [(5, rf 0 0 1 x6), (38, B ((!x4)))] [sl 0 x6] ?_
  rcases fk ((!x4)) with hc19 | hc19
  replace h := bT hc19 h
  rw [hc19]
  refine ve 4 46 [(5, rf 0 0 1 x6), (42, B true)] [sl 0 x6] ?_
  exact ⟨true, h, it [5, 42]⟩
  replace h := bF hc19 h
  rw [hc19]
  refine ve 4 46 [(5, rf 0 0 1 x6), (42, B ((!(((x6.length : Int)) == 1))))] [sl 0 x6] ?_
  exact ⟨(!(((x6.length : Int)) == 1)), h, it [5, 42]⟩
  rintro x15 h
  unfold spec_ExprKind_j3 at h
  refine pc h (fun h => ?_) (fun h => ?_)
  refine srve 46 [(4, I (-1))] [sl 0 x6] ?_
  cases h
  exact pwp_ret rz
  refine pwp_skip ?_
  refine srv 1 46 [(43, rf 0 0 1 x6)] [sl 0 x6] ?_
  obtain ⟨v17, hv18, h⟩ := bindS h
  refine opsP_idr τ_ok 44 0 0 x6.length hv18 rfl (by kernel_rfl) ?_
  refine opsP_lde (r := I v17) τ_ok 45 3 0 hv18 (by kernel_rfl) (by kernel_rfl) ?_
  refine ve 1 46 [(4, I v17)] [sl 0 x6] ?_
  cases h
  exact pwp_ret rz
def impl_RowFits_j2 (x3 : Int) (K5 : Int → Option Bool) (x9 : Bool) : Option Bool := bif x9 then some false else K5 ((w64 (x3 + 1)))
def impl_RowFits_l1 (a0 : List T_impl_Column) (a1 : List T_impl_Value) : Nat → Int → Option Bool
  | 0, _ => none
  | f4 + 1, x3 => bif (decide (x3 < ((a1.length : Int)))) then (getI a1 x3).bind fun v7 => (getI a0 x3).bind fun v11 => bif (!(v7.fKind == v11.fKind)) then bif (!(v7.fKind == 0)) then impl_RowFits_j2 x3 (impl_RowFits_l1 a0 a1 f4) true else (getI a0 x3).bind fun v13 => impl_RowFits_j2 x3 (impl_RowFits_l1 a0 a1 f4) ((!v13.fEmpty)) else impl_RowFits_j2 x3 (impl_RowFits_l1 a0 a1 f4) false else some true
def impl_RowFits_j0 (a0 : List T_impl_Column) (a1 : List T_impl_Value) (x1 : Bool) : Option Bool := bif x1 then some false else impl_RowFits_l1 a0 a1 FUEL 0
def impl_RowFits (a0 : List T_impl_Column) (a1 : List T_impl_Value) : Option Bool := (impl_ColumnsOk a0).bind fun v17 => bif (!v17) then impl_RowFits_j0 a0 a1 true else (impl_RowOk a1).bind fun v19 => bif (!v19) then impl_RowFits_j0 a0 a1 true else impl_RowFits_j0 a0 a1 ((!(((a1.length : Int)) == ((a0.length : Int)))))
theorem ok_impl_RowFits {a0 : List T_impl_Column} {a1 : List T_impl_Value} {y : Bool} (h : impl_RowFits a0 a1 = some y) : OK Try.prog 39 [A a0, A a1] (B y) := by
  refine ow Try.func39 fun Γ hX => ?_
  unfold impl_RowFits at h
  refine srveM [6] 51 [(0, A a0), (1, A a1)] [] ?_
  refine pwp_seq ?_
  refine pwp_seq ?_
  refine pwp_join (σ := Bool) (fun x1 => (⟨51, [(0, A a0), (1, A a1), (21, B x1)], []⟩ : St)) (fun x1 => impl_RowFits_j0 a0 a1 x1 = some y) ?_ ?_
  refine rvM [6] 1 51 [(0, A a0), (1, A a1), (7, A a0)] [] ?_
  obtain ⟨v17, hv18, h⟩ := bindS h
  refine cF 8 (ok_impl_ColumnsOk hv18) ?_
  refine vM [6] 2 51 [(0, A a0), (1, A a1), (10, B ((!v17)))] [] ?_
  rcases fk ((!v17)) with hc22 | hc22
  replace h := bT hc22 h
  rw [hc22]
  refine veM [6] 11 51 [(0, A a0), (1, A a1), (21, B true)] [] ?_
  exact ⟨true, h, it [0, 1, 21]⟩
  replace h := bF hc22 h
  rw [hc22]
  refine vM [6] 1 51 [(0, A a0), (1, A a1), (10, B false), (11, A a1)] [] ?_
  obtain ⟨v19, hv20, h⟩ := bindS h
  refine cF 12 (ok_impl_RowOk hv20) ?_
  refine vM [6] 3 51 [(0, A a0), (1, A a1), (15, B ((!v19)))] [] ?_
  rcases fk ((!v19)) with hc21 | hc21
  replace h := bT hc21 h
  rw [hc21]
  refine veM [6] 6 51 [(0, A a0), (1, A a1), (21, B true)] [] ?_
  exact ⟨true, h, it [0, 1, 21]⟩
  replace h := bF hc21 h
  rw [hc21]
  refine veM [6] 6 51 [(0, A a0), (1, A a1), (21, B ((!(((a1.length : Int)) == ((a0.length : Int))))))] [] ?_
  exact ⟨(!(((a1.length : Int)) == ((a0.length : Int)))), h, it [0, 1, 21]⟩
  rintro x1 h
  unfold impl_RowFits_j0 at h
  refine pc h (fun h => ?_) (fun h => ?_)
  refine srveM [6] 51 [(4, B false)] [] ?_
  cases h
  exact pwp_ret rz
  refine pwp_skip ?_
  refine pwp_seq ?_
  refine srveM [6] 51 [(0, A a0), (22, A a1), (23, I ((a1.length : Int))), (24, I 0)] [] ?_
  refine pwp_block ?_
  refine pwp_loop (ι := Nat × Int) (fun (f4, x3) => (⟨51, [(0, A a0), (22, A a1), (23, I ((a1.length : Int))), (24, I x3)], []⟩ : St)) (fun (f4, x3) => impl_RowFits_l1 a0 a1 f4 x3 = some y) Prod.fst (FUEL, 0) h (it [0, 22, 23, 24]) ?_
  rintro ⟨f4, x3⟩ h
  dsimp only at h ⊢
  rcases f4 with _ | f4
  cases h
  rw [impl_RowFits_l1] at h
  refine srveM [6] 51 [(0, A a0), (22, A a1), (23, I ((a1.length : Int))), (24, I x3), (25, B ((decide (x3 < ((a1.length : Int))))))] [] ?_
  refine pwp_seq ?_
  refine pc h (fun h => ?_) (fun h => ?_)
  refine pwp_skip ?_
  refine pwp_seq ?_
  refine pwp_block ?_
  refine srvM [6] 1 51 [(0, A a0), (22, A a1), (23, I ((a1.length : Int))), (24, I x3), (26, I x3)] [] ?_
  obtain ⟨v7, hv8, h⟩ := bindS h
  refine opsP_idx τ_ok 27 hv8 (by kernel_rfl) ?_
  refine veM [6] 4 51 [(0, A a0), (5, I x3), (6, .ptr 0 0 0), (22, A a1), (23, I ((a1.length : Int))), (24, I x3)] [sc 0 v7] ?_
  refine pwp_seq ?_
  refine pwp_join (σ := Bool) (fun x9 => (⟨51, [(0, A a0), (22, A a1), (23, I ((a1.length : Int))), (24, I x3), (49, B x9)], [sc 0 v7]⟩ : St)) (fun x9 => impl_RowFits_j2 x3 (impl_RowFits_l1 a0 a1 f4) x9 = some y) ?_ ?_
  refine ip 51 [(0, A a0), (5, I x3), (6, .ptr 0 0 0), (22, A a1), (23, I ((a1.length : Int))), (24, I x3)] [sc 0 v7] ?_
  refine pwp_any ([[0], [0], [], [], [], [], [], [], [], [0], [0], [], [], [], [], [], [], [], [], [], []]) ([[], [], [], [], [], [], [], [], [], [], [], [], [], [], [], [], [], [], [], [], []]) rfl (by kernel_rfl) ?_
  refine qvM [6] [0] (hB trivial) 2 51 [(30, I v7.fKind), (0, A a0), (5, I x3), (6, .ptr 0 0 0), (22, A a1), (23, I ((a1.length : Int))), (24, I x3)] [sc 0 v7] ?_
  refine qvM [6] [] trivial 2 51 [(32, I x3), (31, A a0), (30, I v7.fKind), (0, A a0), (5, I x3), (6, .ptr 0 0 0), (22, A a1), (23, I ((a1.length : Int))), (24, I x3)] [sc 0 v7] ?_
  obtain ⟨v11, hv12, h⟩ := bindS h
  refine qX (some 33) (pf v11 0) 51 [(33, pf v11 0), (30, I v7.fKind), (0, A a0), (5, I x3), (6, .ptr 0 0 0), (22, A a1), (23, I ((a1.length : Int))), (24, I x3)] [sc 0 v7] (fun Γ' hΓ => CoreE.of_y (idxV_sound τ_ok (by kernel_rfl) hv12)) trivial ?_
  refine qvM [6] [] trivial 4 51 [(37, B ((!(v7.fKind == v11.fKind)))), (0, A a0), (5, I x3), (6, .ptr 0 0 0), (22, A a1), (23, I ((a1.length : Int))), (24, I x3)] [sc 0 v7] ?_
  rcases fk ((!(v7.fKind == v11.fKind))) with hc16 | hc16
  replace h := bT hc16 h
  rw [hc16]
  refine qvM [6] [0] (hB trivial) 2 51 [(39, I v7.fKind), (38, .ptr 0 0 0), (37, B true), (0, A a0), (5, I x3), (22, A a1), (23, I ((a1.length : Int))), (24, I x3)] [sc 0 v7] ?_
  refine qvM [6] [] trivial 2 51 [(41, B ((!(v7.fKind == 0)))), (40, B ((!(v7.fKind == 0)))), (39, I v7.fKind), (38, .ptr 0 0 0), (37, B true), (0, A a0), (5, I x3), (22, A a1), (23, I ((a1.length : Int))), (24, I x3)] [sc 0 v7] ?_
  rcases fk ((!(v7.fKind == 0))) with hc15 | hc15
  replace h := bT hc15 h
  rw [hc15]
  refine qvnM [6] [] trivial 8 51 [(0, A a0), (22, A a1), (23, I ((a1.length : Int))), (24, I x3), (38, .ptr 0 0 0), (39, I v7.fKind), (40, B true), (41, B true), (42, .lit undef), (43, .lit undef), (44, .lit undef), (45, .lit undef), (46, .lit undef), (47, .lit undef), (48, B true), (49, B true)] [sc 0 v7] ?_
  exact ⟨true, h, it [0, 22, 23, 24, 49]⟩
  replace h := bF hc15 h
  rw [hc15]
  refine qvM [6] [] trivial 2 51 [(43, I x3), (42, A a0), (41, B false), (40, B false), (39, I v7.fKind), (38, .ptr 0 0 0), (37, B true), (0, A a0), (22, A a1), (23, I ((a1.length : Int))), (24, I x3)] [sc 0 v7] ?_
  obtain ⟨v13, hv14, h⟩ := bindS h
  refine qX (some 44) (pf v13 0) 51 [(44, pf v13 0), (43, I x3), (42, A a0), (41, B false), (40, B false), (39, I v7.fKind), (38, .ptr 0 0 0), (37, B true), (0, A a0), (22, A a1), (23, I ((a1.length : Int))), (24, I x3)] [sc 0 v7] (fun Γ' hΓ => CoreE.of_y (idxV_sound τ_ok (by kernel_rfl) hv14)) trivial ?_
  refine qvnM [6] [] trivial 5 51 [(0, A a0), (22, A a1), (23, I ((a1.length : Int))), (24, I x3), (38, .ptr 0 0 0), (39, I v7.fKind), (40, B false), (41, B false), (42, A a0), (43, I x3), (44, pf v13 0), (45, pf v13 1), (46, B v13.fEmpty), (47, B ((!v13.fEmpty))), (48, B ((!v13.fEmpty))), (49, B ((!v13.fEmpty)))] [sc 0 v7] ?_
  exact ⟨(!v13.fEmpty), h, it [0, 22, 23, 24, 49]⟩
  replace h := bF hc16 h
  rw [hc16]
  refine qvM [6] [0] (hB trivial) 2 51 [(39, .lit undef), (38, .lit undef), (37, B false), (0, A a0), (5, I x3), (22, A a1), (23, I ((a1.length : Int))), (24, I x3)] [sc 0 v7] ?_
  refine qvM [6] [] trivial 10 51 [(49, B false), (48, .lit undef), (47, .lit undef), (46, .lit undef), (45, .lit undef), (44, .lit undef), (43, .lit undef), (42, .lit undef), (41, .lit undef), (40, .lit undef), (39, .lit undef), (38, .lit undef), (0, A a0), (22, A a1), (23, I ((a1.length : Int))), (24, I x3)] [sc 0 v7] ?_
  refine qn 51 [(0, A a0), (22, A a1), (23, I ((a1.length : Int))), (24, I x3), (38, .lit undef), (39, .lit undef), (40, .lit undef), (41, .lit undef), (42, .lit undef), (43, .lit undef), (44, .lit undef), (45, .lit undef), (46, .lit undef), (47, .lit undef), (48, .lit undef), (49, B false)] [sc 0 v7] ?_
  exact ⟨false, h, it [0, 22, 23, 24, 49]⟩
  rintro x9 h
  unfold impl_RowFits_j2 at h
  refine pc h (fun h => ?_) (fun h => ?_)
  refine srveM [6] 51 [(4, B false)] [sc 0 v7] ?_
  cases h
  exact pwp_ret rz
  refine pwp_skip ?_
  refine rveM [6] 51 [(0, A a0), (22, A a1), (23, I ((a1.length : Int))), (24, I ((w64 (x3 + 1))))] [sc 0 v7] ?_
  exact ⟨(f4, (w64 (x3 + 1))), h, Nat.lt_succ_self _, (it (st' := ⟨51, [(0, A a0), (22, A a1), (23, I ((a1.length : Int))), (24, I ((w64 (x3 + 1))))], [sc 0 v7]⟩) [0, 22, 23, 24]).trans (Imp.truncS 0 (nx hX) (by kernel_rfl) (allBelow_mem (by exact (And.intro rfl (And.intro rfl (And.intro rfl (And.intro rfl trivial)))))) (by exact trivial) (by kernel_rfl))⟩
  refine pwp_exit ?_
  refine srveM [6] 51 [(4, B true)] [] ?_
  cases h
  exact pwp_ret rz
def impl_beside (a0 : List T_impl_Value) (a1 : List T_impl_Value) : Option (List T_impl_Value) := (slices_Concat_impl_Value_impl_Value ([a0, a1])).bind fun v1 => (impl_clone_impl_Value v1).bind fun v3 => some v3
theorem ok_impl_beside {a0 : List T_impl_Value} {a1 : List T_impl_Value} {y : List T_impl_Value} (h : impl_beside a0 a1 = some y) : OK Try.prog 43 [A a0, A a1] (A y) := by
  refine ow Try.func43 fun Γ hX => ?_
  unfold impl_beside at h
  refine srve 10 [(0, A a0), (1, A a1)] [] ?_
  refine srv 3 10 [(7, .arr 1 (([a0, a1] : List (List T_impl_Value))).length (eL ([a0, a1] : List (List T_impl_Value))) true)] [] ?_
  obtain ⟨v1, hv2, h⟩ := bindS h
  refine cFo 8 (ok_slices_Concat_impl_Value_impl_Value hv2) ?_
  obtain ⟨v3, hv4, h⟩ := bindS h
  refine cF 9 (ok_impl_clone_impl_Value hv4) ?_
  refine ve 1 10 [(4, A v3)] [] ?_
  cases h
  exact pwp_ret rz
def impl_Part_kind (a0 : T_impl_Part) (a1 : List T_impl_Column) (a2 : List Int) : Option (Int × Bool) := bif (a0.fKind == 1) then some (a0.fV.fKind, true) else bif (a0.fKind == 2) then (getI a1 a0.fN).bind fun v3 => some (v3.fKind, true) else bif (a0.fKind == 3) then (impl_Part_kind_1 1 a2).bind fun v6 => some (1, v6) else bif (a0.fKind == 4) then (getI a2 0).bind fun v9 => (getI a2 1).bind fun v11 => some (3, (v9 == v11)) else bif (a0.fKind == 8) then some (3, true) else (impl_Part_kind_1 3 a2).bind fun v14 => some (3, v14)
theorem ok_impl_Part_kind {a0 : T_impl_Part} {a1 : List T_impl_Column} {a2 : List Int} {y : Int × Bool} (h : impl_Part_kind a0 a1 a2 = some y) : OK Try.prog 79 [E a0, A a1, A a2] (.tup [I y.1, B y.2]) := by
  refine ow Try.func79 fun Γ hX => ?_
  unfold impl_Part_kind at h
  refine srve 42 [(1, A a1), (3, pf a0 0), (5, pf a2 0)] [] ?_
  refine srve 42 [(1, A a1), (3, pf a0 0), (5, pf a2 0), (8, .fn 120 [pf a2 0])] [] ?_
  refine pwp_seq ?_
  refine srve 42 [(1, A a1), (3, pf a0 0), (5, pf a2 0), (8, .fn 120 [pf a2 0]), (11, I a0.fKind)] [] ?_
  refine pwp_block ?_
  refine srve 42 [(1, A a1), (3, pf a0 0), (5, pf a2 0), (8, .fn 120 [pf a2 0]), (11, I a0.fKind), (12, B ((a0.fKind == 1)))] [] ?_
  refine pc h (fun h => ?_) (fun h => ?_)
  refine srve 42 [(6, I a0.fV.fKind), (7, B true)] [] ?_
  have h := si h
  subst h
  exact pwp_ret (rt (.tup [I a0.fV.fKind, B true]) (OutP.tup (OutL.cons (OutP.frz (by kernel_rfl)) (OutL.cons (OutP.frz (by kernel_rfl)) (OutL.nil _)))))
  refine srve 42 [(1, A a1), (3, pf a0 0), (5, pf a2 0), (8, .fn 120 [pf a2 0]), (11, I a0.fKind), (17, B ((a0.fKind == 2)))] [] ?_
  refine pc h (fun h => ?_) (fun h => ?_)
  refine srv 3 42 [(19, A a1), (21, I a0.fN)] [] ?_
  obtain ⟨v3, hv4, h⟩ := bindS h
  refine opsP_idx τ_ok 22 hv4 (by kernel_rfl) ?_
  refine ve 4 42 [(6, I v3.fKind), (7, B true)] [] ?_
  have h := si h
  subst h
  exact pwp_ret (rt (.tup [I v3.fKind, B true]) (OutP.tup (OutL.cons (OutP.frz (by kernel_rfl)) (OutL.cons (OutP.frz (by kernel_rfl)) (OutL.nil _)))))
  refine srve 42 [(5, pf a2 0), (8, .fn 120 [pf a2 0]), (11, I a0.fKind), (25, B ((a0.fKind == 3)))] [] ?_
  refine pc h (fun h => ?_) (fun h => ?_)
  refine srv 1 42 [(27, .fn 120 [pf a2 0])] [] ?_
  obtain ⟨v6, hv7, h⟩ := bindS h
  refine cF 28 (ok_impl_Part_kind_1 hv7) ?_
  refine ve 2 42 [(6, I 1), (7, B v6)] [] ?_
  have h := si h
  subst h
  exact pwp_ret (rt (.tup [I 1, B v6]) (OutP.tup (OutL.cons (OutP.frz (by kernel_rfl)) (OutL.cons (OutP.frz (by kernel_rfl)) (OutL.nil _)))))
  refine srve 42 [(5, pf a2 0), (8, .fn 120 [pf a2 0]), (11, I a0.fKind), (29, B ((a0.fKind == 4)))] [] ?_
  refine pc h (fun h => ?_) (fun h => ?_)
  refine pwp_seq ?_
  refine ip 42 [(5, pf a2 0)] [] ?_
  refine pN 9 ?_
  refine qv [] trivial 1 42 [(31, A a2), (5, pf a2 0)] [] ?_
  obtain ⟨v9, hv10, h⟩ := bindS h
  refine qX (some 32) (pf v9 0) 42 [(32, pf v9 0), (5, pf a2 0)] [] (fun Γ' hΓ => CoreE.of_y (idxV_sound τ_ok (by kernel_rfl) hv10)) trivial ?_
  refine qv [] trivial 2 42 [(34, A a2), (33, I v9)] [] ?_
  obtain ⟨v11, hv12, h⟩ := bindS h
  refine qX (some 35) (pf v11 0) 42 [(35, pf v11 0), (33, I v9)] [] (fun Γ' hΓ => CoreE.of_y (idxV_sound τ_ok (by kernel_rfl) hv12)) trivial ?_
  refine qvn [] trivial 4 42 [(6, I 3), (7, B ((v9 == v11)))] [] ?_
  have h := si h
  subst h
  exact pwp_ret (rt (.tup [I 3, B ((v9 == v11))]) (OutP.tup (OutL.cons (OutP.frz (by kernel_rfl)) (OutL.cons (OutP.frz (by kernel_rfl)) (OutL.nil _)))))
  refine srve 42 [(8, .fn 120 [pf a2 0]), (38, B ((a0.fKind == 8)))] [] ?_
  refine pc h (fun h => ?_) (fun h => ?_)
  refine srve 42 [(6, I 3), (7, B true)] [] ?_
  have h := si h
  subst h
  exact pwp_ret (rt (.tup [I 3, B true]) (OutP.tup (OutL.cons (OutP.frz (by kernel_rfl)) (OutL.cons (OutP.frz (by kernel_rfl)) (OutL.nil _)))))
  refine pwp_skip ?_
  refine srv 1 42 [(40, .fn 120 [pf a2 0])] [] ?_
  obtain ⟨v14, hv15, h⟩ := bindS h
  refine cF 41 (ok_impl_Part_kind_1 hv15) ?_
  refine ve 2 42 [(6, I 3), (7, B v14)] [] ?_
  have h := si h
  subst h
  exact pwp_ret (rt (.tup [I 3, B v14]) (OutP.tup (OutL.cons (OutP.frz (by kernel_rfl)) (OutL.cons (OutP.frz (by kernel_rfl)) (OutL.nil _)))))
def impl_Compare_j1 (a0 : Int) (a1 : T_impl_Value) (a2 : T_impl_Value) (x3 : Bool) : Option Int := bif x3 then some 2 else bif (!(a1.fKind == a2.fKind)) then some (-1) else (impl_Value_order a1 a2).bind fun v6 => bif (a0 == 1) then bif (v6 == 0) then (impl_truthIf true).bind fun v8 => some v8 else bif (a0 == 2) then bif (!(v6 == 0)) then (impl_truthIf true).bind fun v10 => some v10 else bif (a0 == 3) then bif (decide (v6 < 0)) then (impl_truthIf true).bind fun v12 => some v12 else bif (a0 == 4) then (impl_truthIf ((decide (v6 ≤ 0)))).bind fun v14 => some v14 else (impl_truthIf false).bind fun v16 => some v16 else bif (a0 == 4) then (impl_truthIf ((decide (v6 ≤ 0)))).bind fun v20 => some v20 else (impl_truthIf false).bind fun v22 => some v22 else bif (a0 == 3) then bif (decide (v6 < 0)) then (impl_truthIf true).bind fun v27 => some v27 else bif (a0 == 4) then (impl_truthIf ((decide (v6 ≤ 0)))).bind fun v29 => some v29 else (impl_truthIf false).bind fun v31 => some v31 else bif (a0 == 4) then (impl_truthIf ((decide (v6 ≤ 0)))).bind fun v35 => some v35 else (impl_truthIf false).bind fun v37 => some v37 else bif (a0 == 2) then bif (!(v6 == 0)) then (impl_truthIf true).bind fun v43 => some v43 else bif (a0 == 3) then bif (decide (v6 < 0)) then (impl_truthIf true).bind fun v45 => some v45 else bif (a0 == 4) then (impl_truthIf ((decide (v6 ≤ 0)))).bind fun v47 => some v47 else (impl_truthIf false).bind fun v49 => some v49 else bif (a0 == 4) then (impl_truthIf ((decide (v6 ≤ 0)))).bind fun v53 => some v53 else (impl_truthIf false).bind fun v55 => some v55 else bif (a0 == 3) then bif (decide (v6 < 0)) then (impl_truthIf true).bind fun v60 => some v60 else bif (a0 == 4) then (impl_truthIf ((decide (v6 ≤ 0)))).bind fun v62 => some v62 else (impl_truthIf false).bind fun v64 => some v64 else bif (a0 == 4) then (impl_truthIf ((decide (v6 ≤ 0)))).bind fun v68 => some v68 else (impl_truthIf false).bind fun v70 => some v70
def impl_Compare_j0 (a0 : Int) (a1 : T_impl_Value) (a2 : T_impl_Value) (x1 : Bool) : Option Int := bif x1 then some (-1) else bif (a1.fKind == 0) then impl_Compare_j1 a0 a1 a2 true else impl_Compare_j1 a0 a1 a2 ((a2.fKind == 0))
def impl_Compare (a0 : Int) (a1 : T_impl_Value) (a2 : T_impl_Value) : Option Int := (impl_between a0 1 4).bind fun v77 => bif (!v77) then impl_Compare_j0 a0 a1 a2 true else (impl_Value_ok a1).bind fun v79 => bif (!v79) then impl_Compare_j0 a0 a1 a2 true else (impl_Value_ok a2).bind fun v81 => impl_Compare_j0 a0 a1 a2 ((!v81))
theorem ok_impl_Compare {a0 : Int} {a1 : T_impl_Value} {a2 : T_impl_Value} {y : Int} (h : impl_Compare a0 a1 a2 = some y) : OK Try.prog 131 [I a0, E a1, E a2] (I y) := by
  refine ow Try.func131 fun Γ hX => ?_
  unfold impl_Compare at h
  refine srve 71 [(0, I a0), (4, pf a1 0), (5, pf a2 0)] [] ?_
  refine pwp_seq ?_
  refine pwp_block ?_
  refine pwp_seq ?_
  refine pwp_join (σ := Bool) (fun x1 => (⟨71, [(0, I a0), (4, pf a1 0), (5, pf a2 0), (8, B x1)], []⟩ : St)) (fun x1 => impl_Compare_j0 a0 a1 a2 x1 = some y) ?_ ?_
  refine rv 1 71 [(0, I a0), (4, pf a1 0), (5, pf a2 0), (9, I a0)] [] ?_
  obtain ⟨v77, hv78, h⟩ := bindS h
  refine cF 10 (ok_impl_between hv78) ?_
  refine v 2 71 [(0, I a0), (4, pf a1 0), (5, pf a2 0), (12, B ((!v77)))] [] ?_
  rcases fk ((!v77)) with hc84 | hc84
  replace h := bT hc84 h
  rw [hc84]
  refine ve 10 71 [(0, I a0), (4, pf a1 0), (5, pf a2 0), (8, B true)] [] ?_
  exact ⟨true, h, it [0, 4, 5, 8]⟩
  replace h := bF hc84 h
  rw [hc84]
  refine v 1 71 [(0, I a0), (4, pf a1 0), (5, pf a2 0), (12, B false), (13, E a1)] [] ?_
  obtain ⟨v79, hv80, h⟩ := bindS h
  refine cF 14 (ok_impl_Value_ok hv80) ?_
  refine v 3 71 [(0, I a0), (4, pf a1 0), (5, pf a2 0), (17, B ((!v79)))] [] ?_
  rcases fk ((!v79)) with hc83 | hc83
  replace h := bT hc83 h
  rw [hc83]
  refine ve 5 71 [(0, I a0), (4, pf a1 0), (5, pf a2 0), (8, B true)] [] ?_
  exact ⟨true, h, it [0, 4, 5, 8]⟩
  replace h := bF hc83 h
  rw [hc83]
  refine v 1 71 [(0, I a0), (4, pf a1 0), (5, pf a2 0), (17, B false), (18, E a2)] [] ?_
  obtain ⟨v81, hv82, h⟩ := bindS h
  refine cF 19 (ok_impl_Value_ok hv82) ?_
  refine ve 3 71 [(0, I a0), (4, pf a1 0), (5, pf a2 0), (8, B ((!v81)))] [] ?_
  exact ⟨(!v81), h, it [0, 4, 5, 8]⟩
  rintro x1 h
  unfold impl_Compare_j0 at h
  refine pc h (fun h => ?_) (fun h => ?_)
  refine srve 71 [(6, I (-1))] [] ?_
  cases h
  exact pwp_ret rz
  refine pwp_seq ?_
  refine pwp_join (σ := Bool) (fun x3 => (⟨71, [(0, I a0), (4, pf a1 0), (5, pf a2 0), (22, B x3)], []⟩ : St)) (fun x3 => impl_Compare_j1 a0 a1 a2 x3 = some y) ?_ ?_
  refine rv 4 71 [(0, I a0), (4, pf a1 0), (5, pf a2 0), (26, B ((a1.fKind == 0)))] [] ?_
  rcases fk ((a1.fKind == 0)) with hc76 | hc76
  replace h := bT hc76 h
  rw [hc76]
  refine ve 5 71 [(0, I a0), (4, pf a1 0), (5, pf a2 0), (22, B true)] [] ?_
  exact ⟨true, h, it [0, 4, 5, 22]⟩
  replace h := bF hc76 h
  rw [hc76]
  refine ve 5 71 [(0, I a0), (4, pf a1 0), (5, pf a2 0), (22, B ((a2.fKind == 0)))] [] ?_
  exact ⟨(a2.fKind == 0), h, it [0, 4, 5, 22]⟩
  rintro x3 h
  unfold impl_Compare_j1 at h
  refine pc h (fun h => ?_) (fun h => ?_)
  refine srve 71 [(6, I 2)] [] ?_
  cases h
  exact pwp_ret rz
  refine srve 71 [(0, I a0), (4, pf a1 0), (5, pf a2 0), (31, B ((!(a1.fKind == a2.fKind))))] [] ?_
  refine pc h (fun h => ?_) (fun h => ?_)
  refine srve 71 [(6, I (-1))] [] ?_
  cases h
  exact pwp_ret rz
  refine pwp_skip ?_
  refine srv 2 71 [(0, I a0), (37, E a1), (38, E a2)] [] ?_
  obtain ⟨v6, hv7, h⟩ := bindS h
  refine cF 39 (ok_impl_Value_order hv7) ?_
  refine ve 1 71 [(0, I a0), (7, I v6)] [] ?_
  refine srv 3 71 [(0, I a0), (7, I v6), (42, B ((a0 == 1)))] [] ?_
  rcases fk ((a0 == 1)) with hc75 | hc75
  replace h := bT hc75 h
  rw [hc75]
  refine v 4 71 [(0, I a0), (7, I v6), (46, B ((v6 == 0)))] [] ?_
  rcases fk ((v6 == 0)) with hc42 | hc42
  replace h := bT hc42 h
  rw [hc42]
  refine v 23 71 [(69, B true)] [] ?_
  obtain ⟨v8, hv9, h⟩ := bindS h
  refine cF 70 (ok_impl_truthIf hv9) ?_
  refine ve 1 71 [(6, I v8)] [] ?_
  cases h
  exact pwp_ret rz
  replace h := bF hc42 h
  rw [hc42]
  refine v 3 71 [(0, I a0), (7, I v6), (46, B false), (49, B ((a0 == 2)))] [] ?_
  rcases fk ((a0 == 2)) with hc41 | hc41
  replace h := bT hc41 h
  rw [hc41]
  refine v 5 71 [(0, I a0), (7, I v6), (54, B ((!(v6 == 0))))] [] ?_
  rcases fk ((!(v6 == 0))) with hc26 | hc26
  replace h := bT hc26 h
  rw [hc26]
  refine v 15 71 [(69, B true)] [] ?_
  obtain ⟨v10, hv11, h⟩ := bindS h
  refine cF 70 (ok_impl_truthIf hv11) ?_
  refine ve 1 71 [(6, I v10)] [] ?_
  cases h
  exact pwp_ret rz
  replace h := bF hc26 h
  rw [hc26]
  refine v 3 71 [(0, I a0), (7, I v6), (54, B false), (57, B ((a0 == 3)))] [] ?_
  rcases fk ((a0 == 3)) with hc25 | hc25
  replace h := bT hc25 h
  rw [hc25]
  refine v 5 71 [(0, I a0), (7, I v6), (62, B ((decide (v6 < 0))))] [] ?_
  rcases fk ((decide (v6 < 0))) with hc19 | hc19
  replace h := bT hc19 h
  rw [hc19]
  refine v 7 71 [(69, B true)] [] ?_
  obtain ⟨v12, hv13, h⟩ := bindS h
  refine cF 70 (ok_impl_truthIf hv13) ?_
  refine ve 1 71 [(6, I v12)] [] ?_
  cases h
  exact pwp_ret rz
  replace h := bF hc19 h
  rw [hc19]
  refine v 3 71 [(7, I v6), (62, B false), (65, B ((a0 == 4)))] [] ?_
  rcases fk ((a0 == 4)) with hc18 | hc18
  replace h := bT hc18 h
  rw [hc18]
  refine v 4 71 [(69, B ((decide (v6 ≤ 0))))] [] ?_
  obtain ⟨v14, hv15, h⟩ := bindS h
  refine cF 70 (ok_impl_truthIf hv15) ?_
  refine ve 1 71 [(6, I v14)] [] ?_
  cases h
  exact pwp_ret rz
  replace h := bF hc18 h
  rw [hc18]
  refine v 4 71 [(69, B false)] [] ?_
  obtain ⟨v16, hv17, h⟩ := bindS h
  refine cF 70 (ok_impl_truthIf hv17) ?_
  refine ve 1 71 [(6, I v16)] [] ?_
  cases h
  exact pwp_ret rz
  replace h := bF hc25 h
  rw [hc25]
  refine v 8 71 [(7, I v6), (62, B false), (65, B ((a0 == 4)))] [] ?_
  rcases fk ((a0 == 4)) with hc24 | hc24
  replace h := bT hc24 h
  rw [hc24]
  refine v 4 71 [(69, B ((decide (v6 ≤ 0))))] [] ?_
  obtain ⟨v20, hv21, h⟩ := bindS h
  refine cF 70 (ok_impl_truthIf hv21) ?_
  refine ve 1 71 [(6, I v20)] [] ?_
  cases h
  exact pwp_ret rz
  replace h := bF hc24 h
  rw [hc24]
  refine v 4 71 [(69, B false)] [] ?_
  obtain ⟨v22, hv23, h⟩ := bindS h
  refine cF 70 (ok_impl_truthIf hv23) ?_
  refine ve 1 71 [(6, I v22)] [] ?_
  cases h
  exact pwp_ret rz
  replace h := bF hc41 h
  rw [hc41]
  refine v 8 71 [(0, I a0), (7, I v6), (54, B false), (57, B ((a0 == 3)))] [] ?_
  rcases fk ((a0 == 3)) with hc40 | hc40
  replace h := bT hc40 h
  rw [hc40]
  refine v 5 71 [(0, I a0), (7, I v6), (62, B ((decide (v6 < 0))))] [] ?_
  rcases fk ((decide (v6 < 0))) with hc34 | hc34
  replace h := bT hc34 h
  rw [hc34]
  refine v 7 71 [(69, B true)] [] ?_
  obtain ⟨v27, hv28, h⟩ := bindS h
  refine cF 70 (ok_impl_truthIf hv28) ?_
  refine ve 1 71 [(6, I v27)] [] ?_
  cases h
  exact pwp_ret rz
  replace h := bF hc34 h
  rw [hc34]
  refine v 3 71 [(7, I v6), (62, B false), (65, B ((a0 == 4)))] [] ?_
  rcases fk ((a0 == 4)) with hc33 | hc33
  replace h := bT hc33 h
  rw [hc33]
  refine v 4 71 [(69, B ((decide (v6 ≤ 0))))] [] ?_
  obtain ⟨v29, hv30, h⟩ := bindS h
  refine cF 70 (ok_impl_truthIf hv30) ?_
  refine ve 1 71 [(6, I v29)] [] ?_
  cases h
  exact pwp_ret rz
  replace h := bF hc33 h
  rw [hc33]
  refine v 4 71 [(69, B false)] [] ?_
  obtain ⟨v31, hv32, h⟩ := bindS h
  refine cF 70 (ok_impl_truthIf hv32) ?_
  refine ve 1 71 [(6, I v31)] [] ?_
  cases h
  exact pwp_ret rz
  replace h := bF hc40 h
  rw [hc40]
  refine v 8 71 [(7, I v6), (62, B false), (65, B ((a0 == 4)))] [] ?_
  rcases fk ((a0 == 4)) with hc39 | hc39
  replace h := bT hc39 h
  rw [hc39]
  refine v 4 71 [(69, B ((decide (v6 ≤ 0))))] [] ?_
  obtain ⟨v35, hv36, h⟩ := bindS h
  refine cF 70 (ok_impl_truthIf hv36) ?_
  refine ve 1 71 [(6, I v35)] [] ?_
  cases h
  exact pwp_ret rz
  replace h := bF hc39 h
  rw [hc39]
  refine v 4 71 [(69, B false)] [] ?_
  obtain ⟨v37, hv38, h⟩ := bindS h
  refine cF 70 (ok_impl_truthIf hv38) ?_
  refine ve 1 71 [(6, I v37)] [] ?_
  cases h
  exact pwp_ret rz
  replace h := bF hc75 h
  rw [hc75]
  refine v 7 71 [(0, I a0), (7, I v6), (46, B false), (49, B ((a0 == 2)))] [] ?_
  rcases fk ((a0 == 2)) with hc74 | hc74
  replace h := bT hc74 h
  rw [hc74]
  refine v 5 71 [(0, I a0), (7, I v6), (54, B ((!(v6 == 0))))] [] ?_
  rcases fk ((!(v6 == 0))) with hc59 | hc59
  replace h := bT hc59 h
  rw [hc59]
  refine v 15 71 [(69, B true)] [] ?_
  obtain ⟨v43, hv44, h⟩ := bindS h
  refine cF 70 (ok_impl_truthIf hv44) ?_
  refine ve 1 71 [(6, I v43)] [] ?_
  cases h
  exact pwp_ret rz
  replace h := bF hc59 h
  rw [hc59]
  refine v 3 71 [(0, I a0), (7, I v6), (54, B false), (57, B ((a0 == 3)))] [] ?_
  rcases fk ((a0 == 3)) with hc58 | hc58
  replace h := bT hc58 h
  rw [hc58]
  refine v 5 71 [(0, I a0), (7, I v6), (62, B ((decide (v6 < 0))))] [] ?_
  rcases fk ((decide (v6 < 0))) with hc52 | hc52
  replace h := bT hc52 h
  rw [hc52]
  refine v 7 71 [(69, B true)] [] ?_
  obtain ⟨v45, hv46, h⟩ := bindS h
  refine cF 70 (ok_impl_truthIf hv46) ?_
  refine ve 1 71 [(6, I v45)] [] ?_
  cases h
  exact pwp_ret rz
  replace h := bF hc52 h
  rw [hc52]
  refine v 3 71 [(7, I v6), (62, B false), (65, B ((a0 == 4)))] [] ?_
  rcases fk ((a0 == 4)) with hc51 | hc51
  replace h := bT hc51 h
  rw [hc51]
  refine v 4 71 [(69, B ((decide (v6 ≤ 0))))] [] ?_
  obtain ⟨v47, hv48, h⟩ := bindS h
  refine cF 70 (ok_impl_truthIf hv48) ?_
  refine ve 1 71 [(6, I v47)] [] ?_
  cases h
  exact pwp_ret rz
  replace h := bF hc51 h
  rw [hc51]
  refine v 4 71 [(69, B false)] [] ?_
  obtain ⟨v49, hv50, h⟩ := bindS h
  refine cF 70 (ok_impl_truthIf hv50) ?_
  refine ve 1 71 [(6, I v49)] [] ?_
  cases h
  exact pwp_ret rz
  replace h := bF hc58 h
  rw [hc58]
  refine v 8 71 [(7, I v6), (62, B false), (65, B ((a0 == 4)))] [] ?_
  rcases fk ((a0 == 4)) with hc57 | hc57
  replace h := bT hc57 h
  rw [hc57]
  refine v 4 71 [(69, B ((decide (v6 ≤ 0))))] [] ?_
  obtain ⟨v53, hv54, h⟩ := bindS h
  refine cF 70 (ok_impl_truthIf hv54) ?_
  refine ve 1 71 [(6, I v53)] [] ?_
  cases h
  exact pwp_ret rz
  replace h := bF hc57 h
  rw [hc57]
  refine v 4 71 [(69, B false)] [] ?_
  obtain ⟨v55, hv56, h⟩ := bindS h
  refine cF 70 (ok_impl_truthIf hv56) ?_
  refine ve 1 71 [(6, I v55)] [] ?_
  cases h
  exact pwp_ret rz
  replace h := bF hc74 h
  rw [hc74]
  refine v 8 71 [(0, I a0), (7, I v6), (54, B false), (57, B ((a0 == 3)))] [] ?_
  rcases fk ((a0 == 3)) with hc73 | hc73
  replace h := bT hc73 h
  rw [hc73]
  refine v 5 71 [(0, I a0), (7, I v6), (62, B ((decide (v6 < 0))))] [] ?_
  rcases fk ((decide (v6 < 0))) with hc67 | hc67
  replace h := bT hc67 h
  rw [hc67]
  refine v 7 71 [(69, B true)] [] ?_
  obtain ⟨v60, hv61, h⟩ := bindS h
  refine cF 70 (ok_impl_truthIf hv61) ?_
  refine ve 1 71 [(6, I v60)] [] ?_
  cases h
  exact pwp_ret rz
  replace h := bF hc67 h
  rw [hc67]
  refine v 3 71 [(7, I v6), (62, B false), (65, B ((a0 == 4)))] [] ?_
  rcases fk ((a0 == 4)) with hc66 | hc66
  replace h := bT hc66 h
  rw [hc66]
  refine v 4 71 [(69, B ((decide (v6 ≤ 0))))] [] ?_
  obtain ⟨v62, hv63, h⟩ := bindS h
  refine cF 70 (ok_impl_truthIf hv63) ?_
  refine ve 1 71 [(6, I v62)] [] ?_
  cases h
  exact pwp_ret rz
  replace h := bF hc66 h
  rw [hc66]
  refine v 4 71 [(69, B false)] [] ?_
  obtain ⟨v64, hv65, h⟩ := bindS h
  refine cF 70 (ok_impl_truthIf hv65) ?_
  refine ve 1 71 [(6, I v64)] [] ?_
  cases h
  exact pwp_ret rz
  replace h := bF hc73 h
  rw [hc73]
  refine v 8 71 [(7, I v6), (62, B false), (65, B ((a0 == 4)))] [] ?_
  rcases fk ((a0 == 4)) with hc72 | hc72
  replace h := bT hc72 h
  rw [hc72]
  refine v 4 71 [(69, B ((decide (v6 ≤ 0))))] [] ?_
  obtain ⟨v68, hv69, h⟩ := bindS h
  refine cF 70 (ok_impl_truthIf hv69) ?_
  refine ve 1 71 [(6, I v68)] [] ?_
  cases h
  exact pwp_ret rz
  replace h := bF hc72 h
  rw [hc72]
  refine v 4 71 [(69, B false)] [] ?_
  obtain ⟨v70, hv71, h⟩ := bindS h
  refine cF 70 (ok_impl_truthIf hv71) ?_
  refine ve 1 71 [(6, I v70)] [] ?_
  cases h
  exact pwp_ret rz
def impl_RowsOk_1 (a0 : List T_impl_Value) (b0 : List T_impl_Column) : Option Bool := (impl_RowFits b0 a0).bind fun v1 => some ((!v1))
theorem ok_impl_RowsOk_1 {a0 : List T_impl_Value} {b0 : List T_impl_Column} {y : Bool} (h : impl_RowsOk_1 a0 b0 = some y) : OK Try.prog 160 [A a0, pf b0 0] (B y) := by
  refine ow Try.func160 fun Γ hX => ?_
  unfold impl_RowsOk_1 at h
  refine srve 8 [(0, A a0), (1, pf b0 0)] [] ?_
  refine srv 2 8 [(4, A b0), (5, A a0)] [] ?_
  obtain ⟨v1, hv2, h⟩ := bindS h
  refine cF 6 (ok_impl_RowFits hv2) ?_
  refine ve 2 8 [(3, B ((!v1)))] [] ?_
  cases h
  exact pwp_ret rz
def spec_l20Fit_L1_l0 (a1 : List T_impl_Column) (a2 : Int) : Nat → Int → T_spec_l20Rd → (List T_impl_Value) → Option ((List T_impl_Value) × T_spec_l20Rd)
  | 0, _, _, _ => none
  | f7 + 1, x4, x5, x6 => bif (decide (x4 < ((a1.length : Int)))) then (getI a1 x4).bind fun v10 => (spec_l20Like x5 v10).bind fun v12 => (app x6 (([v12.1] : List T_impl_Value))).bind fun v14 => (spec_l20Fit_L1_l0 a1 a2 f7) ((w64 (x4 + 1))) v12.2 v14 else (spec_l20Rd_odd x5 a2).bind fun v16 => bif v16.1 then (spec_l20Rd_pick v16.2 3).bind fun v19 => bif (v19.1 == 0) then (app x6 (([(T_impl_Value.mk 0 0 (ByteArray.mk #[]))] : List T_impl_Value))).bind fun v22 => some (v22, v19.2) else bif (v19.1 == 1) then bif (decide (((x6.length : Int)) > 0)) then (spec_l20Rd_pick v19.2 ((x6.length : Int))).bind fun v26 => (spec_l20Value v26.2 3).bind fun v28 => (getI x6 v26.1).bind fun v30 => some (((x6.set v26.1.toNat v28.1)), v28.2) else some (x6, v19.2) else (spec_l20Value v19.2 0).bind fun v32 => (spec_l20Value v32.2 0).bind fun v34 => (spec_l20Value v34.2 0).bind fun v36 => (app x6 (([v32.1, v34.1, v36.1] : List T_impl_Value))).bind fun v38 => some (v38, v36.2) else some (x6, v16.2)
def spec_l20Fit_L1 (a0 : T_spec_l20Rd) (a1 : List T_impl_Column) (a2 : Int) : Option ((List T_impl_Value) × T_spec_l20Rd) := spec_l20Fit_L1_l0 a1 a2 FUEL 0 a0 (([] : List T_impl_Value))
theorem ok_spec_l20Fit_L1 {a0 : T_spec_l20Rd} {a1 : List T_impl_Column} {a2 : Int} {y : (List T_impl_Value) × T_spec_l20Rd} (h : spec_l20Fit_L1 a0 a1 a2 = some y) : OKx Try.prog 88 (Enc.cells a0) [] 2 a1.length (eL a1) [I a2] (O y.1) (Enc.cells y.2) := by
  refine OKx_of_pwp τ_ok Try.func88 rfl (by kernel_rfl) rfl (Enc.frz _) (Enc.frz _) (eL_frz _) fun Γ hQ => ?_
  refine pwp_imp (Imp.to (st' := ⟨59, [(0, .ptr 0 0 0), (1, rf 1 0 2 a1), (2, I a2)], [sc 0 a0, sl 0 a1]⟩) [0, 1, 2] (by kernel_rfl)) ?_
  unfold spec_l20Fit_L1 at h
  refine srve 59 [(0, .ptr 0 0 0), (1, rf 1 0 2 a1), (2, I a2)] [sc 0 a0, sl 0 a1] ?_
  refine srve 59 [(0, .ptr 0 0 0), (1, rf 1 0 2 a1), (2, I a2), (7, .arr 3 0 (eL ([] : List T_impl_Value)) true)] [sc 0 a0, sl 0 a1] ?_
  refine pwp_seq ?_
  refine srve 59 [(0, .ptr 0 0 0), (1, rf 1 0 2 a1), (2, I a2), (7, .arr 3 0 (eL ([] : List T_impl_Value)) true), (8, I 0)] [sc 0 a0, sl 0 a1] ?_
  refine pwp_block ?_
  refine pwp_loop (ι := Nat × Int × T_spec_l20Rd × (List T_impl_Value)) (fun (f7, x4, x5, x6) => (⟨59, [(0, .ptr 0 0 0), (1, rf 1 0 2 a1), (2, I a2), (7, rf 2 0 3 x6), (8, I x4)], [sc 0 x5, sl 0 a1, sl 0 x6]⟩ : St)) (fun (f7, x4, x5, x6) => spec_l20Fit_L1_l0 a1 a2 f7 x4 x5 x6 = some y) Prod.fst (FUEL, 0, a0, ([] : List T_impl_Value)) h (Imp.thawS 7 [0, 1, 2, 7, 8] (by kernel_rfl)) ?_
  rintro ⟨f7, x4, x5, x6⟩ h
  dsimp only at h ⊢
  rcases f7 with _ | f7
  cases h
  rw [spec_l20Fit_L1_l0] at h
  refine pwp_seq ?_
  refine srve 59 [(0, .ptr 0 0 0), (1, rf 1 0 2 a1), (2, I a2), (7, rf 2 0 3 x6), (8, I x4), (13, B ((decide (x4 < ((a1.length : Int))))))] [sc 0 x5, sl 0 a1, sl 0 x6] ?_
  refine pc h (fun h => ?_) (fun h => ?_)
  refine pwp_skip ?_
  refine pwp_seq ?_
  refine pwp_block ?_
  refine rv 4 59 [(0, .ptr 0 0 0), (1, rf 1 0 2 a1), (2, I a2), (8, I x4), (16, rf 2 0 3 x6), (17, .ptr 0 0 0), (18, rf 1 0 2 a1), (19, I x4)] [sc 0 x5, sl 0 a1, sl 0 x6] ?_
  obtain ⟨v10, hv11, h⟩ := bindS h
  refine opsP_idr τ_ok 20 1 0 a1.length hv11 rfl (by kernel_rfl) ?_
  refine opsP_lde (r := E v10) τ_ok 21 70 0 hv11 (by kernel_rfl) (by kernel_rfl) ?_
  obtain ⟨v12, hv13, h⟩ := bindS h
  refine cB 22 0 0 (ok_spec_l20Like hv13) ?_
  refine v 1 59 [(0, .ptr 0 0 0), (1, rf 1 0 2 a1), (2, I a2), (8, I x4), (16, rf 2 0 3 x6), (23, .arr 3 (([v12.1] : List T_impl_Value)).length (eL ([v12.1] : List T_impl_Value)) true)] [sc 0 v12.2, sl 0 a1, sl 0 x6] ?_
  obtain ⟨v14, hv15, h⟩ := bindS h
  refine opsP_app τ_ok 24 2 0 (pn hQ) hv15 (by kernel_rfl) ?_
  refine ve 1 59 [(0, .ptr 0 0 0), (1, rf 1 0 2 a1), (2, I a2), (7, rf 2 1 3 v14), (8, I x4)] [sc 0 v12.2, sl 0 a1, sl 1 v14] ?_
  refine rve 59 [(0, .ptr 0 0 0), (1, rf 1 0 2 a1), (2, I a2), (7, rf 2 1 3 v14), (8, I ((w64 (x4 + 1))))] [sc 0 v12.2, sl 0 a1, sl 1 v14] ?_
  exact ⟨(f7, (w64 (x4 + 1)), v12.2, v14), h, Nat.lt_succ_self _, (it (st' := ⟨59, [(0, .ptr 0 0 0), (1, rf 1 0 2 a1), (2, I a2), (7, rf 2 1 3 v14), (8, I ((w64 (x4 + 1))))], [sc 0 v12.2, sl 0 a1, sl 1 v14]⟩) [0, 1, 2, 7, 8]).trans (Imp.reverS 2 1 (eL v14) [0, 1, 2, 7, 8] (by kernel_rfl) (by exact (And.intro (rfl) (And.intro (eL_frz _) (And.intro (eL_frz _) trivial)))) (by kernel_rfl))⟩
  refine pwp_exit ?_
  refine pwp_seq ?_
  refine srv 2 59 [(0, .ptr 0 0 0), (7, rf 2 0 3 x6), (25, .ptr 0 0 0), (26, I a2)] [sc 0 x5, sl 0 a1, sl 0 x6] ?_
  obtain ⟨v16, hv17, h⟩ := bindS h
  refine cB 27 0 0 (ok_spec_l20Rd_odd hv17) ?_
  refine ve 0 59 [(0, .ptr 0 0 0), (7, rf 2 0 3 x6), (27, B v16.1)] [sc 0 v16.2, sl 0 a1, sl 0 x6] ?_
  refine pc h (fun h => ?_) (fun h => ?_)
  refine srv 1 59 [(0, .ptr 0 0 0), (7, rf 2 0 3 x6), (28, .ptr 0 0 0)] [sc 0 v16.2, sl 0 a1, sl 0 x6] ?_
  obtain ⟨v19, hv20, h⟩ := bindS h
  refine cB 29 0 0 (ok_spec_l20Rd_pick hv20) ?_
  refine ve 0 59 [(0, .ptr 0 0 0), (7, rf 2 0 3 x6), (29, I v19.1)] [sc 0 v19.2, sl 0 a1, sl 0 x6] ?_
  refine pwp_block ?_
  refine srve 59 [(0, .ptr 0 0 0), (7, rf 2 0 3 x6), (29, I v19.1), (39, B ((v19.1 == 0)))] [sc 0 v19.2, sl 0 a1, sl 0 x6] ?_
  refine pc h (fun h => ?_) (fun h => ?_)
  refine rv 3 59 [(41, rf 2 0 3 x6), (43, .arr 3 (([(T_impl_Value.mk 0 0 (ByteArray.mk #[]))] : List T_impl_Value)).length (eL ([(T_impl_Value.mk 0 0 (ByteArray.mk #[]))] : List T_impl_Value)) true)] [sc 0 v19.2, sl 0 a1, sl 0 x6] ?_
  obtain ⟨v22, hv23, h⟩ := bindS h
  refine opsP_app τ_ok 44 2 0 (pn hQ) hv23 (by kernel_rfl) ?_
  refine ve 1 59 [(7, rf 2 1 3 v22)] [sc 0 v19.2, sl 0 a1, sl 1 v22] ?_
  refine srve 59 [(6, rf 2 1 3 v22)] [sc 0 v19.2, sl 0 a1, sl 1 v22] ?_
  have h := si h
  subst h
  exact pwp_ret ⟨.inr rfl, rf 2 1 3 v22, _, 0, 0, by kernel_rfl, (OutP.list (v := 1) (by kernel_rfl)), by decide, by decide, by kernel_rfl, by kernel_rfl⟩
  refine srve 59 [(0, .ptr 0 0 0), (7, rf 2 0 3 x6), (45, B ((v19.1 == 1)))] [sc 0 v19.2, sl 0 a1, sl 0 x6] ?_
  refine pc h (fun h => ?_) (fun h => ?_)
  refine srve 59 [(0, .ptr 0 0 0), (7, rf 2 0 3 x6), (49, B ((decide (((x6.length : Int)) > 0))))] [sc 0 v19.2, sl 0 a1, sl 0 x6] ?_
  refine pc h (fun h => ?_) (fun h => ?_)
  refine rv 4 59 [(0, .ptr 0 0 0), (7, rf 2 0 3 x6), (50, rf 2 0 3 x6), (51, .ptr 0 0 0), (53, I ((x6.length : Int)))] [sc 0 v19.2, sl 0 a1, sl 0 x6] ?_
  obtain ⟨v26, hv27, h⟩ := bindS h
  refine cB 54 0 0 (ok_spec_l20Rd_pick hv27) ?_
  refine v 1 59 [(7, rf 2 0 3 x6), (50, rf 2 0 3 x6), (54, I v26.1), (55, .ptr 0 0 0)] [sc 0 v26.2, sl 0 a1, sl 0 x6] ?_
  obtain ⟨v28, hv29, h⟩ := bindS h
  refine cB 56 0 0 (ok_spec_l20Value hv29) ?_
  obtain ⟨v30, hv31, h⟩ := bindS h
  refine opsP_idr τ_ok 57 2 0 x6.length hv31 rfl (by kernel_rfl) ?_
  refine v 0 59 [(7, rf 2 0 3 x6), (56, E v28.1), (57, .ptr 2 0 (v26.1.toNat * 3))] [sc 0 v28.2, sl 0 a1, sl 0 x6] ?_
  refine opsP_ste (vs := [I v28.1.fKind, I v28.1.fN, S v28.1.fS]) τ_ok 45 2 0 0 v28.1 hv31 (by kernel_rfl) (by kernel_rfl) (by kernel_rfl) (renC (ren_ref (List.length_set ..).symm) (renC trivial (renC trivial renC0))) ?_
  refine ve 0 59 [(7, .ref 2 0 0 3 ((x6.set v26.1.toNat v28.1)).length false)] [sc 0 v28.2, sl 0 a1, some ⟨0, eL ((x6.set v26.1.toNat v28.1))⟩] ?_
  refine srve 59 [(6, .ref 2 0 0 3 ((x6.set v26.1.toNat v28.1)).length false)] [sc 0 v28.2, sl 0 a1, some ⟨0, eL ((x6.set v26.1.toNat v28.1))⟩] ?_
  have h := si h
  subst h
  exact pwp_ret ⟨.inr rfl, .ref 2 0 0 3 ((x6.set v26.1.toNat v28.1)).length false, _, 0, 0, by kernel_rfl, (OutP.list (v := 0) (by kernel_rfl)), by decide, by decide, by kernel_rfl, by kernel_rfl⟩
  refine pwp_skip ?_
  refine srve 59 [(6, rf 2 0 3 x6)] [sc 0 v19.2, sl 0 a1, sl 0 x6] ?_
  have h := si h
  subst h
  exact pwp_ret ⟨.inr rfl, rf 2 0 3 x6, _, 0, 0, by kernel_rfl, (OutP.list (v := 0) (by kernel_rfl)), by decide, by decide, by kernel_rfl, by kernel_rfl⟩
  refine rv 2 59 [(0, .ptr 0 0 0), (30, rf 2 0 3 x6), (31, .ptr 0 0 0)] [sc 0 v19.2, sl 0 a1, sl 0 x6] ?_
  obtain ⟨v32, hv33, h⟩ := bindS h
  refine cB 32 0 0 (ok_spec_l20Value hv33) ?_
  refine v 1 59 [(0, .ptr 0 0 0), (30, rf 2 0 3 x6), (32, E v32.1), (33, .ptr 0 0 0)] [sc 0 v32.2, sl 0 a1, sl 0 x6] ?_
  obtain ⟨v34, hv35, h⟩ := bindS h
  refine cB 34 0 0 (ok_spec_l20Value hv35) ?_
  refine v 1 59 [(30, rf 2 0 3 x6), (32, E v32.1), (34, E v34.1), (35, .ptr 0 0 0)] [sc 0 v34.2, sl 0 a1, sl 0 x6] ?_
  obtain ⟨v36, hv37, h⟩ := bindS h
  refine cB 36 0 0 (ok_spec_l20Value hv37) ?_
  refine v 1 59 [(30, rf 2 0 3 x6), (37, .arr 3 (([v32.1, v34.1, v36.1] : List T_impl_Value)).length (eL ([v32.1, v34.1, v36.1] : List T_impl_Value)) true)] [sc 0 v36.2, sl 0 a1, sl 0 x6] ?_
  obtain ⟨v38, hv39, h⟩ := bindS h
  refine opsP_app τ_ok 38 2 0 (pn hQ) hv39 (by kernel_rfl) ?_
  refine ve 1 59 [(7, rf 2 1 3 v38)] [sc 0 v36.2, sl 0 a1, sl 1 v38] ?_
  refine srve 59 [(6, rf 2 1 3 v38)] [sc 0 v36.2, sl 0 a1, sl 1 v38] ?_
  have h := si h
  subst h
  exact pwp_ret ⟨.inr rfl, rf 2 1 3 v38, _, 0, 0, by kernel_rfl, (OutP.list (v := 1) (by kernel_rfl)), by decide, by decide, by kernel_rfl, by kernel_rfl⟩
  refine pwp_skip ?_
  refine srve 59 [(6, rf 2 0 3 x6)] [sc 0 v16.2, sl 0 a1, sl 0 x6] ?_
  have h := si h
  subst h
  exact pwp_ret ⟨.inr rfl, rf 2 0 3 x6, _, 0, 0, by kernel_rfl, (OutP.list (v := 0) (by kernel_rfl)), by decide, by decide, by kernel_rfl, by kernel_rfl⟩
def spec_Rejects_l0 (a1 : List T_impl_Part) (a2 : Int) : Nat → Int → (List T_spec_l24Fact) → Option Bool
  | 0, _, _ => none
  | f7 + 1, x5, x6 => bif (decide (x5 < ((a1.length : Int)))) then (getI a1 x5).bind fun v10 => (spec_l24Next x6 v10 a2).bind fun v12 => (spec_Rejects_l0 a1 a2 f7) ((w64 (x5 + 1))) v12 else (getI x6 ((0 : Int))).bind fun v14 => some v14.fNotT
def spec_Rejects (a0 : List T_impl_Column) (a1 : List T_impl_Part) (a2 : Int) : Option Bool := (spec_ExprKind a0 a1).bind fun v1 => bif (!(v1 == 3)) then some false else spec_Rejects_l0 a1 a2 FUEL 0 (([] : List T_spec_l24Fact))
theorem ok_spec_Rejects {a0 : List T_impl_Column} {a1 : List T_impl_Part} {a2 : Int} {y : Bool} (h : spec_Rejects a0 a1 a2 = some y) : OK Try.prog 9 [A a0, A a1, I a2] (B y) := by
  refine ow Try.func9 fun Γ hX => ?_
  unfold spec_Rejects at h
  refine srve 31 [(0, A a0), (1, A a1), (2, I a2)] [] ?_
  refine pwp_seq ?_
  refine srv 2 31 [(1, A a1), (2, I a2), (9, A a0), (10, A a1)] [] ?_
  obtain ⟨v1, hv2, h⟩ := bindS h
  refine cF 11 (ok_spec_ExprKind hv2) ?_
  refine ve 1 31 [(1, A a1), (2, I a2), (12, B ((!(v1 == 3))))] [] ?_
  refine pc h (fun h => ?_) (fun h => ?_)
  refine srve 31 [(6, B false)] [] ?_
  cases h
  exact pwp_ret rz
  refine pwp_skip ?_
  refine srve 31 [(1, A a1), (2, I a2), (7, .arr 3 0 (eL ([] : List T_spec_l24Fact)) true)] [] ?_
  refine pwp_seq ?_
  refine srve 31 [(1, A a1), (2, I a2), (7, .arr 3 0 (eL ([] : List T_spec_l24Fact)) true), (8, I 0)] [] ?_
  refine pwp_block ?_
  refine pwp_loop (ι := Nat × Int × (List T_spec_l24Fact)) (fun (f7, x5, x6) => (⟨31, [(1, A a1), (2, I a2), (7, rf 0 0 3 x6), (8, I x5)], [sl 0 x6]⟩ : St)) (fun (f7, x5, x6) => spec_Rejects_l0 a1 a2 f7 x5 x6 = some y) Prod.fst (FUEL, 0, ([] : List T_spec_l24Fact)) h (Imp.thawS 7 [1, 2, 7, 8] (by kernel_rfl)) ?_
  rintro ⟨f7, x5, x6⟩ h
  dsimp only at h ⊢
  rcases f7 with _ | f7
  cases h
  rw [spec_Rejects_l0] at h
  refine pwp_seq ?_
  refine srve 31 [(1, A a1), (2, I a2), (7, rf 0 0 3 x6), (8, I x5), (17, B ((decide (x5 < ((a1.length : Int))))))] [sl 0 x6] ?_
  refine pc h (fun h => ?_) (fun h => ?_)
  refine pwp_skip ?_
  refine pwp_seq ?_
  refine pwp_block ?_
  refine rv 3 31 [(1, A a1), (2, I a2), (8, I x5), (20, rf 0 0 3 x6), (21, A a1), (22, I x5)] [sl 0 x6] ?_
  obtain ⟨v10, hv11, h⟩ := bindS h
  refine opsP_idx τ_ok 23 hv11 (by kernel_rfl) ?_
  refine v 2 31 [(1, A a1), (2, I a2), (8, I x5), (20, rf 0 0 3 x6), (24, E v10), (25, I a2)] [sl 0 x6] ?_
  obtain ⟨v12, hv13, h⟩ := bindS h
  refine opsP_callM (xs := [rf 0 0 3 x6, E v10, I a2]) (x := rf 1 0 3 v12) (bs := [⟨0, eL v12⟩]) τ 26 [0] (nx hX) (ok_spec_l24Next hv13) (by kernel_rfl) (OutL.cons (OutP.list (v := 0) (by kernel_rfl)) (OutL.cons (OutP.frz rfl) (OutL.cons (OutP.frz rfl) (OutL.nil _)))) (by decide) (by kernel_rfl) ?_
  refine ve 1 31 [(1, A a1), (2, I a2), (7, rf 1 0 3 v12), (8, I x5)] [none, sl 0 v12] ?_
  refine rve 31 [(1, A a1), (2, I a2), (7, rf 1 0 3 v12), (8, I ((w64 (x5 + 1))))] [none, sl 0 v12] ?_
  exact ⟨(f7, (w64 (x5 + 1)), v12), h, Nat.lt_succ_self _, (it (st' := ⟨31, [(1, A a1), (2, I a2), (7, rf 1 0 3 v12), (8, I ((w64 (x5 + 1))))], [none, sl 0 v12]⟩) [1, 2, 7, 8]).trans ((Imp.mvS (st' := ⟨31, [(1, A a1), (2, I a2), (7, rf 0 0 3 v12), (8, I ((w64 (x5 + 1))))], [sl 0 v12, none]⟩) 1 0 [1, 2, 7, 8] (nx hX) (v := 0) (cs := eL v12) (by kernel_rfl) (by kernel_rfl) (by exact (And.intro (eL_frz _) trivial)) (by kernel_rfl) (by kernel_rfl)).trans (Imp.truncS 1 (nx hX) (by kernel_rfl) (allBelow_mem (by exact (And.intro rfl (And.intro rfl (And.intro rfl (And.intro rfl trivial)))))) (by exact (And.intro (frz_below (eL_frz _)) trivial)) (by kernel_rfl)))⟩
  refine pwp_exit ?_
  refine srv 1 31 [(27, rf 0 0 3 x6)] [sl 0 x6] ?_
  obtain ⟨v14, hv15, h⟩ := bindS h
  refine opsP_idr τ_ok 28 0 0 x6.length hv15 rfl (by kernel_rfl) ?_
  refine v 1 31 [(29, .ptr 0 0 (((0 : Int)).toNat * 3 + 1))] [sl 0 x6] ?_
  refine opsP_lde (r := B v14.fNotT) τ_ok 30 4 1 hv15 (by kernel_rfl) (by kernel_rfl) ?_
  refine ve 1 31 [(6, B v14.fNotT)] [sl 0 x6] ?_
  cases h
  exact pwp_ret rz
def impl_ExprKind_j2 (a0 : List T_impl_Column) (x4 : Int) (x5 : List Int) (K7 : Int → (List Int) → Option Int) (v9 : T_impl_Part) (v11 : Int) (x13 : Bool) : Option Int := bif x13 then some (-1) else (slI x5 (some ((w64 (((x5.length : Int)) - v11)))) none none).bind fun v15 => (impl_Part_kind v9 a0 v15).bind fun v17 => bif (!v17.2) then some (-1) else (slI x5 none (some ((w64 (((x5.length : Int)) - v11)))) none).bind fun v20 => (appT x5 (([v17.1] : List Int)) v20.length).bind fun v22 => K7 ((w64 (x4 + 1))) v22
def impl_ExprKind_l1 (a0 : List T_impl_Column) (a1 : List T_impl_Part) : Nat → Int → (List Int) → Option Int
  | 0, _, _ => none
  | f6 + 1, x4, x5 => bif (decide (x4 < ((a1.length : Int)))) then (getI a1 x4).bind fun v9 => (impl_Part_takes v9).bind fun v11 => (impl_Part_tells v9 a0).bind fun v24 => bif (!v24) then impl_ExprKind_j2 a0 x4 x5 (impl_ExprKind_l1 a0 a1 f6) v9 v11 true else impl_ExprKind_j2 a0 x4 x5 (impl_ExprKind_l1 a0 a1 f6) v9 v11 ((decide (((x5.length : Int)) < v11))) else bif (!(((x5.length : Int)) == 1)) then some (-1) else (getI x5 ((0 : Int))).bind fun v28 => some v28
def impl_ExprKind_j0 (a0 : List T_impl_Column) (a1 : List T_impl_Part) (x1 : Bool) : Option Int := bif x1 then some (-1) else impl_ExprKind_l1 a0 a1 FUEL 0 (([] : List Int))
def impl_ExprKind (a0 : List T_impl_Column) (a1 : List T_impl_Part) : Option Int := (impl_ColumnsOk a0).bind fun v30 => bif (!v30) then impl_ExprKind_j0 a0 a1 true else impl_ExprKind_j0 a0 a1 ((decide (((a1.length : Int)) > 12)))
theorem ok_impl_ExprKind {a0 : List T_impl_Column} {a1 : List T_impl_Part} {y : Int} (h : impl_ExprKind a0 a1 = some y) : OK Try.prog 33 [A a0, A a1] (I y) := by
  refine ow Try.func33 fun Γ hX => ?_
  unfold impl_ExprKind at h
  refine srveM [7] 67 [(0, A a0), (1, A a1)] [] ?_
  refine pwp_seq ?_
  refine pwp_seq ?_
  refine pwp_join (σ := Bool) (fun x1 => (⟨67, [(0, A a0), (1, A a1), (18, B x1)], []⟩ : St)) (fun x1 => impl_ExprKind_j0 a0 a1 x1 = some y) ?_ ?_
  refine rvM [7] 1 67 [(0, A a0), (1, A a1), (11, A a0)] [] ?_
  obtain ⟨v30, hv31, h⟩ := bindS h
  refine cF 12 (ok_impl_ColumnsOk hv31) ?_
  refine vM [7] 2 67 [(0, A a0), (1, A a1), (14, B ((!v30)))] [] ?_
  rcases fk ((!v30)) with hc32 | hc32
  replace h := bT hc32 h
  rw [hc32]
  refine veM [7] 4 67 [(0, A a0), (1, A a1), (18, B true)] [] ?_
  exact ⟨true, h, it [0, 1, 18]⟩
  replace h := bF hc32 h
  rw [hc32]
  refine veM [7] 4 67 [(0, A a0), (1, A a1), (18, B ((decide (((a1.length : Int)) > 12))))] [] ?_
  exact ⟨(decide (((a1.length : Int)) > 12)), h, it [0, 1, 18]⟩
  rintro x1 h
  unfold impl_ExprKind_j0 at h
  refine pc h (fun h => ?_) (fun h => ?_)
  refine srveM [7] 67 [(4, I (-1))] [] ?_
  cases h
  exact pwp_ret rz
  refine pwp_skip ?_
  refine srveM [7] 67 [(0, A a0), (1, A a1), (5, .arr 1 0 (eL ([] : List Int)) true)] [] ?_
  refine pwp_seq ?_
  refine srveM [7] 67 [(0, A a0), (5, .arr 1 0 (eL ([] : List Int)) true), (19, A a1), (20, I ((a1.length : Int))), (21, I 0)] [] ?_
  refine pwp_block ?_
  refine pwp_loop (ι := Nat × Int × (List Int)) (fun (f6, x4, x5) => (⟨67, [(0, A a0), (5, rf 0 0 1 x5), (19, A a1), (20, I ((a1.length : Int))), (21, I x4)], [sl 0 x5]⟩ : St)) (fun (f6, x4, x5) => impl_ExprKind_l1 a0 a1 f6 x4 x5 = some y) Prod.fst (FUEL, 0, ([] : List Int)) h (Imp.thawS 5 [0, 5, 19, 20, 21] (by kernel_rfl)) ?_
  rintro ⟨f6, x4, x5⟩ h
  dsimp only at h ⊢
  rcases f6 with _ | f6
  cases h
  rw [impl_ExprKind_l1] at h
  refine srveM [7] 67 [(0, A a0), (5, rf 0 0 1 x5), (19, A a1), (20, I ((a1.length : Int))), (21, I x4), (22, B ((decide (x4 < ((a1.length : Int))))))] [sl 0 x5] ?_
  refine pwp_seq ?_
  refine pc h (fun h => ?_) (fun h => ?_)
  refine pwp_skip ?_
  refine pwp_seq ?_
  refine pwp_block ?_
  refine pwp_seq ?_
  refine pwp_region ?_
  obtain ⟨v9, hv10, h⟩ := bindS h
  refine opsP_idx τ_ok 23 hv10 (by kernel_rfl) ?_
  refine veM [7] 3 67 [(0, A a0), (5, rf 0 0 1 x5), (7, .ptr 1 0 0), (19, A a1), (20, I ((a1.length : Int))), (21, I x4)] [sl 0 x5, sc 0 v9] ?_
  refine srvM [7] 1 67 [(0, A a0), (5, rf 0 0 1 x5), (7, .ptr 1 0 0), (19, A a1), (20, I ((a1.length : Int))), (21, I x4), (25, E v9)] [sl 0 x5, sc 0 v9] ?_
  obtain ⟨v11, hv12, h⟩ := bindS h
  refine cF 26 (ok_impl_Part_takes hv12) ?_
  refine veM [7] 1 67 [(0, A a0), (5, rf 0 0 1 x5), (7, .ptr 1 0 0), (8, I v11), (19, A a1), (20, I ((a1.length : Int))), (21, I x4)] [sl 0 x5, sc 0 v9] ?_
  refine pwp_seq ?_
  refine pwp_seq ?_
  refine pwp_join (σ := Bool) (fun x13 => (⟨67, [(0, A a0), (5, rf 0 0 1 x5), (7, .ptr 1 0 0), (8, I v11), (19, A a1), (20, I ((a1.length : Int))), (21, I x4), (36, B x13)], [sl 0 x5, sc 0 v9]⟩ : St)) (fun x13 => impl_ExprKind_j2 a0 x4 x5 (impl_ExprKind_l1 a0 a1 f6) v9 v11 x13 = some y) ?_ ?_
  refine rvM [7] 2 67 [(0, A a0), (5, rf 0 0 1 x5), (7, .ptr 1 0 0), (8, I v11), (19, A a1), (20, I ((a1.length : Int))), (21, I x4), (27, E v9), (28, A a0)] [sl 0 x5, sc 0 v9] ?_
  obtain ⟨v24, hv25, h⟩ := bindS h
  refine cF 29 (ok_impl_Part_tells hv25) ?_
  refine vM [7] 2 67 [(0, A a0), (5, rf 0 0 1 x5), (7, .ptr 1 0 0), (8, I v11), (19, A a1), (20, I ((a1.length : Int))), (21, I x4), (31, B ((!v24)))] [sl 0 x5, sc 0 v9] ?_
  rcases fk ((!v24)) with hc26 | hc26
  replace h := bT hc26 h
  rw [hc26]
  refine veM [7] 5 67 [(0, A a0), (5, rf 0 0 1 x5), (7, .ptr 1 0 0), (8, I v11), (19, A a1), (20, I ((a1.length : Int))), (21, I x4), (32, .lit undef), (33, .lit undef), (34, .lit undef), (35, .lit undef), (36, B true)] [sl 0 x5, sc 0 v9] ?_
  exact ⟨true, h, it [0, 5, 7, 8, 19, 20, 21, 36]⟩
  replace h := bF hc26 h
  rw [hc26]
  refine veM [7] 5 67 [(0, A a0), (5, rf 0 0 1 x5), (7, .ptr 1 0 0), (8, I v11), (19, A a1), (20, I ((a1.length : Int))), (21, I x4), (32, rf 0 0 1 x5), (33, I ((x5.length : Int))), (34, I v11), (35, B ((decide (((x5.length : Int)) < v11)))), (36, B ((decide (((x5.length : Int)) < v11))))] [sl 0 x5, sc 0 v9] ?_
  exact ⟨(decide (((x5.length : Int)) < v11)), h, it [0, 5, 7, 8, 19, 20, 21, 36]⟩
  rintro x13 h
  unfold impl_ExprKind_j2 at h
  refine pc h (fun h => ?_) (fun h => ?_)
  refine srveM [7] 67 [(4, I (-1))] [sl 0 x5, sc 0 v9] ?_
  cases h
  exact pwp_ret rz
  refine pwp_skip ?_
  refine pwp_seq ?_
  refine ip 67 [(0, A a0), (5, rf 0 0 1 x5), (7, .ptr 1 0 0), (8, I v11), (19, A a1), (20, I ((a1.length : Int))), (21, I x4)] [sl 0 x5, sc 0 v9] ?_
  refine pwp_any ([[1], [], [0], [0], [0], [], [], [0], [0], [], [], [], [], []]) ([[], [], [], [], [], [], [], [], [], [], [], [], [], []]) rfl (by kernel_rfl) ?_
  refine qvM [7] [1] (hB trivial) 1 67 [(38, E v9), (0, A a0), (5, rf 0 0 1 x5), (8, I v11), (19, A a1), (20, I ((a1.length : Int))), (21, I x4)] [sl 0 x5, sc 0 v9] ?_
  refine qvM [7] [] trivial 1 67 [(39, A a0), (38, E v9), (0, A a0), (5, rf 0 0 1 x5), (8, I v11), (19, A a1), (20, I ((a1.length : Int))), (21, I x4)] [sl 0 x5, sc 0 v9] ?_
  refine qvM [7] [0] (hL trivial) 3 67 [(42, I ((x5.length : Int))), (40, rf 0 0 1 x5), (39, A a0), (38, E v9), (0, A a0), (5, rf 0 0 1 x5), (8, I v11), (19, A a1), (20, I ((a1.length : Int))), (21, I x4)] [sl 0 x5, sc 0 v9] ?_
  refine qvM [7] [] trivial 2 67 [(44, I ((w64 (((x5.length : Int)) - v11)))), (40, rf 0 0 1 x5), (39, A a0), (38, E v9), (0, A a0), (5, rf 0 0 1 x5), (8, I v11), (19, A a1), (20, I ((a1.length : Int))), (21, I x4)] [sl 0 x5, sc 0 v9] ?_
  obtain ⟨v15, hv16, h⟩ := bindS h
  refine qX (some 45) (.ref 0 0 ((w64 (((x5.length : Int)) - v11)).toNat * 1) 1 v15.length false) 67 [(45, .ref 0 0 ((w64 (((x5.length : Int)) - v11)).toNat * 1) 1 v15.length false), (39, A a0), (38, E v9), (0, A a0), (5, rf 0 0 1 x5), (8, I v11), (19, A a1), (20, I ((a1.length : Int))), (21, I x4)] [sl 0 x5, sc 0 v9] (fun Γ' hΓ => CoreE.of_y (slrV_sound (n := x5.length) τ_ok (by kernel_rfl) rfl hv16)) (hL trivial) ?_
  obtain ⟨v17, hv18, h⟩ := bindS h
  refine qX (some 46) (.tup [I v17.1, B v17.2]) 67 [(46, .tup [I v17.1, B v17.2]), (0, A a0), (5, rf 0 0 1 x5), (8, I v11), (19, A a1), (20, I ((a1.length : Int))), (21, I x4)] [sl 0 x5, sc 0 v9] (fun Γ' hΓ => CoreE.of_g (callVV_sound (xs := [E v9, A a0, .ref 0 0 ((w64 (((x5.length : Int)) - v11)).toNat * 1) 1 v15.length false]) (τ := τ) (by kernel_rfl) (ViewL.cons (View.frz rfl) (ViewL.cons (View.frz rfl) (ViewL.cons (View.ref (v := 0) (lo := (w64 (((x5.length : Int)) - v11)).toNat) x5 v15 (by kernel_rfl) (slI_view hv16) rfl) (ViewL.nil _)))) (ok_impl_Part_kind hv18) (Blind.tup (BlindL.cons (Blind.lit _) (BlindL.cons (Blind.lit _) BlindL.nil))) (FzTo.tup (FzToL.cons (FzTo.frz rfl) (FzToL.cons (FzTo.frz rfl) FzToL.nil))))) (hL trivial) ?_
  refine qvnM [7] [] trivial 5 67 [(0, A a0), (5, rf 0 0 1 x5), (8, I v11), (9, I v17.1), (10, B v17.2), (19, A a1), (20, I ((a1.length : Int))), (21, I x4)] [sl 0 x5, sc 0 v9] ?_
  refine pwp_seq ?_
  refine srveM [7] 67 [(0, A a0), (5, rf 0 0 1 x5), (8, I v11), (9, I v17.1), (19, A a1), (20, I ((a1.length : Int))), (21, I x4), (50, B ((!v17.2)))] [sl 0 x5, sc 0 v9] ?_
  refine pc h (fun h => ?_) (fun h => ?_)
  refine srveM [7] 67 [(4, I (-1))] [sl 0 x5, sc 0 v9] ?_
  cases h
  exact pwp_ret rz
  refine pwp_skip ?_
  refine rvM [7] 5 67 [(0, A a0), (9, I v17.1), (19, A a1), (20, I ((a1.length : Int))), (21, I x4), (51, rf 0 0 1 x5), (55, I ((w64 (((x5.length : Int)) - v11))))] [sl 0 x5, sc 0 v9] ?_
  obtain ⟨v20, hv21, h⟩ := bindS h
  refine opsP_slr τ_ok 56 0 0 x5.length hv21 rfl (by kernel_rfl) ?_
  refine vM [7] 2 67 [(0, A a0), (19, A a1), (20, I ((a1.length : Int))), (21, I x4), (56, rf 0 0 1 v20), (58, .arr 1 (([v17.1] : List Int)).length (eL ([v17.1] : List Int)) true)] [sl 0 x5, sc 0 v9] ?_
  obtain ⟨v22, hv23, h⟩ := bindS h
  refine opsP_apt τ_ok 59 0 0 v20.length (nx hX) hv23 (slI_le hv21) (by kernel_rfl) ?_
  refine veM [7] 1 67 [(0, A a0), (5, rf 0 1 1 v22), (19, A a1), (20, I ((a1.length : Int))), (21, I x4)] [sl 1 v22, sc 0 v9] ?_
  refine rveM [7] 67 [(0, A a0), (5, rf 0 1 1 v22), (19, A a1), (20, I ((a1.length : Int))), (21, I ((w64 (x4 + 1))))] [sl 1 v22, sc 0 v9] ?_
  exact ⟨(f6, (w64 (x4 + 1)), v22), h, Nat.lt_succ_self _, (it (st' := ⟨67, [(0, A a0), (5, rf 0 1 1 v22), (19, A a1), (20, I ((a1.length : Int))), (21, I ((w64 (x4 + 1))))], [sl 1 v22, sc 0 v9]⟩) [0, 5, 19, 20, 21]).trans ((Imp.truncS (st' := ⟨67, [(0, A a0), (5, rf 0 1 1 v22), (19, A a1), (20, I ((a1.length : Int))), (21, I ((w64 (x4 + 1))))], [sl 1 v22]⟩) 1 (nx hX) (by kernel_rfl) (allBelow_mem (by exact (And.intro rfl (And.intro rfl (And.intro rfl (And.intro rfl (And.intro rfl trivial))))))) (by exact (And.intro (frz_below (eL_frz _)) trivial)) (by kernel_rfl)).trans (Imp.reverS 0 1 (eL v22) [0, 5, 19, 20, 21] (by kernel_rfl) (by exact (And.intro (eL_frz _) trivial)) (by kernel_rfl)))⟩
  refine pwp_exit ?_
  refine pwp_seq ?_
  refine srveM [7] 67 [(5, rf 0 0 1 x5), (63, B ((!(((x5.length : Int)) == 1))))] [sl 0 x5] ?_
  refine pc h (fun h => ?_) (fun h => ?_)
  refine srveM [7] 67 [(4, I (-1))] [sl 0 x5] ?_
  cases h
  exact pwp_ret rz
  refine pwp_skip ?_
  refine srvM [7] 1 67 [(64, rf 0 0 1 x5)] [sl 0 x5] ?_
  obtain ⟨v28, hv29, h⟩ := bindS h
  refine opsP_idr τ_ok 65 0 0 x5.length hv29 rfl (by kernel_rfl) ?_
  refine opsP_lde (r := I v28) τ_ok 66 3 0 hv29 (by kernel_rfl) (by kernel_rfl) ?_
  refine veM [7] 1 67 [(4, I v28)] [sl 0 x5] ?_
  cases h
  exact pwp_ret rz
def impl_Part_value_j0 (v6 : T_impl_Value) (v8 : T_impl_Value) (x10 : Bool) : Option T_impl_Value := bif x10 then some ((T_impl_Value.mk 0 0 (ByteArray.mk #[]))) else some ((T_impl_Value.mk 1 ((w64 (v6.fN + v8.fN))) (ByteArray.mk #[])))
def impl_Part_value (a0 : T_impl_Part) (a1 : List T_impl_Value) (a2 : List T_impl_Value) : Option T_impl_Value := bif (a0.fKind == 1) then some a0.fV else bif (a0.fKind == 2) then (getI a1 a0.fN).bind fun v3 => some v3 else bif (a0.fKind == 3) then (getI a2 0).bind fun v6 => (getI a2 1).bind fun v8 => (getI a2 0).bind fun v12 => bif (v12.fKind == 0) then impl_Part_value_j0 v6 v8 true else (getI a2 1).bind fun v14 => bif (v14.fKind == 0) then impl_Part_value_j0 v6 v8 true else (impl_Value_ok ((T_impl_Value.mk 1 ((w64 (v6.fN + v8.fN))) (ByteArray.mk #[])))).bind fun v16 => impl_Part_value_j0 v6 v8 ((!v16)) else bif (a0.fKind == 4) then (getI a2 0).bind fun v21 => (getI a2 1).bind fun v23 => (impl_Compare a0.fN v21 v23).bind fun v25 => (impl_ValueOf v25).bind fun v27 => some v27 else bif (a0.fKind == 5) then (getI a2 0).bind fun v30 => (impl_TruthOf v30).bind fun v32 => (getI a2 1).bind fun v34 => (impl_TruthOf v34).bind fun v36 => (impl_AndOf v32 v36).bind fun v38 => (impl_ValueOf v38).bind fun v40 => some v40 else bif (a0.fKind == 6) then (getI a2 0).bind fun v43 => (impl_TruthOf v43).bind fun v45 => (getI a2 1).bind fun v47 => (impl_TruthOf v47).bind fun v49 => (impl_OrOf v45 v49).bind fun v51 => (impl_ValueOf v51).bind fun v53 => some v53 else bif (a0.fKind == 7) then (getI a2 0).bind fun v56 => (impl_TruthOf v56).bind fun v58 => (impl_NotOf v58).bind fun v60 => (impl_ValueOf v60).bind fun v62 => some v62 else (getI a2 0).bind fun v64 => (impl_truthIf ((v64.fKind == 0))).bind fun v66 => (impl_ValueOf v66).bind fun v68 => some v68
theorem ok_impl_Part_value {a0 : T_impl_Part} {a1 : List T_impl_Value} {a2 : List T_impl_Value} {y : T_impl_Value} (h : impl_Part_value a0 a1 a2 = some y) : OK Try.prog 93 [E a0, A a1, A a2] (E y) := by
  refine ow Try.func93 fun Γ hX => ?_
  unfold impl_Part_value at h
  refine srveM [6, 7] 103 [(1, A a1), (2, A a2), (3, pf a0 0), (6, .ptr 0 0 0)] [some ⟨0, Enc.cells ((T_impl_Value.mk 0 0 (ByteArray.mk #[])))⟩] ?_
  refine pwp_seq ?_
  refine srveM [6, 7] 103 [(1, A a1), (2, A a2), (3, pf a0 0), (6, .ptr 0 0 0), (9, I a0.fKind)] [some ⟨0, Enc.cells ((T_impl_Value.mk 0 0 (ByteArray.mk #[])))⟩] ?_
  refine pwp_block ?_
  refine srveM [6, 7] 103 [(1, A a1), (2, A a2), (3, pf a0 0), (6, .ptr 0 0 0), (9, I a0.fKind), (10, B ((a0.fKind == 1)))] [some ⟨0, Enc.cells ((T_impl_Value.mk 0 0 (ByteArray.mk #[])))⟩] ?_
  refine pc h (fun h => ?_) (fun h => ?_)
  refine srveM [6, 7] 103 [(6, .ptr 0 0 0)] [sc 0 a0.fV] ?_
  cases h
  exact pwp_ret rz
  refine srveM [6, 7] 103 [(1, A a1), (2, A a2), (3, pf a0 0), (6, .ptr 0 0 0), (9, I a0.fKind), (14, B ((a0.fKind == 2)))] [some ⟨0, Enc.cells ((T_impl_Value.mk 0 0 (ByteArray.mk #[])))⟩] ?_
  refine pc h (fun h => ?_) (fun h => ?_)
  refine srvM [6, 7] 3 103 [(6, .ptr 0 0 0), (16, A a1), (18, I a0.fN)] [some ⟨0, Enc.cells ((T_impl_Value.mk 0 0 (ByteArray.mk #[])))⟩] ?_
  obtain ⟨v3, hv4, h⟩ := bindS h
  refine opsP_idx τ_ok 19 hv4 (by kernel_rfl) ?_
  refine veM [6, 7] 2 103 [(6, .ptr 0 0 0)] [sc 0 v3] ?_
  cases h
  exact pwp_ret rz
  refine srveM [6, 7] 103 [(2, A a2), (3, pf a0 0), (6, .ptr 0 0 0), (9, I a0.fKind), (21, B ((a0.fKind == 3)))] [some ⟨0, Enc.cells ((T_impl_Value.mk 0 0 (ByteArray.mk #[])))⟩] ?_
  refine pc h (fun h => ?_) (fun h => ?_)
  refine pwp_seq ?_
  refine ip 103 [(2, A a2), (6, .ptr 0 0 0)] [some ⟨0, Enc.cells ((T_impl_Value.mk 0 0 (ByteArray.mk #[])))⟩] ?_
  refine pwp_imp (Imp.ghosts 1 (st' := ⟨103, [(2, A a2), (6, .ptr 0 0 0)], [some ⟨0, Enc.cells ((T_impl_Value.mk 0 0 (ByteArray.mk #[])))⟩, some ⟨0, []⟩]⟩) (by kernel_rfl)) ?_
  refine pwp_any ([[], [], [], [], [], [], [], [], [], [], [1], [1]]) ([[], [], [], [], [], [], [], [], [], [], [1], [1]]) rfl (by kernel_rfl) ?_
  refine qvM [6, 7] [] trivial 1 103 [(23, A a2), (2, A a2), (6, .ptr 0 0 0)] [some ⟨0, Enc.cells ((T_impl_Value.mk 0 0 (ByteArray.mk #[])))⟩, some ⟨0, []⟩] ?_
  obtain ⟨v6, hv7, h⟩ := bindS h
  refine qX (some 24) (pf v6 0) 103 [(24, pf v6 0), (2, A a2), (6, .ptr 0 0 0)] [some ⟨0, Enc.cells ((T_impl_Value.mk 0 0 (ByteArray.mk #[])))⟩, some ⟨0, []⟩] (fun Γ' hΓ => CoreE.of_y (idxV_sound τ_ok (by kernel_rfl) hv7)) trivial ?_
  refine qvM [6, 7] [] trivial 3 103 [(27, A a2), (26, I v6.fN), (2, A a2), (6, .ptr 0 0 0)] [some ⟨0, Enc.cells ((T_impl_Value.mk 0 0 (ByteArray.mk #[])))⟩, some ⟨0, []⟩] ?_
  obtain ⟨v8, hv9, h⟩ := bindS h
  refine qX (some 28) (pf v8 0) 103 [(28, pf v8 0), (26, I v6.fN), (2, A a2), (6, .ptr 0 0 0)] [some ⟨0, Enc.cells ((T_impl_Value.mk 0 0 (ByteArray.mk #[])))⟩, some ⟨0, []⟩] (fun Γ' hΓ => CoreE.of_y (idxV_sound τ_ok (by kernel_rfl) hv9)) trivial ?_
  refine qvM [6, 7] [] trivial 4 103 [(32, E ((T_impl_Value.mk 1 ((w64 (v6.fN + v8.fN))) (ByteArray.mk #[])))), (2, A a2), (6, .ptr 0 0 0)] [some ⟨0, Enc.cells ((T_impl_Value.mk 0 0 (ByteArray.mk #[])))⟩, some ⟨0, []⟩] ?_
  refine qX (Hm' := [none, some ⟨1, Enc.cells ((T_impl_Value.mk 0 0 (ByteArray.mk #[])))⟩]) (some 7) (.ptr 1 1 0) 103 [(7, .ptr 1 1 0), (32, E ((T_impl_Value.mk 1 ((w64 (v6.fN + v8.fN))) (ByteArray.mk #[])))), (2, A a2), (6, .ptr 0 0 0)] [some ⟨0, Enc.cells ((T_impl_Value.mk 0 0 (ByteArray.mk #[])))⟩, some ⟨1, Enc.cells ((T_impl_Value.mk 0 0 (ByteArray.mk #[])))⟩] (fun Γ' hΓ => alc_E (blk := ⟨0, []⟩) τ_ok [6, 7] 7 1 0 (ny hΓ hX) (by kernel_rfl) (by kernel_rfl)) (hB trivial) ?_
  refine qX (Hm' := [none, some ⟨1, Enc.cells ((T_impl_Value.mk 1 ((w64 (v6.fN + v8.fN))) (ByteArray.mk #[])))⟩]) none (.any) 103 [(7, .ptr 1 1 0), (2, A a2), (6, .ptr 0 0 0)] [some ⟨0, Enc.cells ((T_impl_Value.mk 0 0 (ByteArray.mk #[])))⟩, some ⟨1, Enc.cells ((T_impl_Value.mk 1 ((w64 (v6.fN + v8.fN))) (ByteArray.mk #[])))⟩] (fun Γ' hΓ => sto_E τ_ok 1 1 (by kernel_rfl)) (hB trivial) ?_
  refine qn 103 [(2, A a2), (6, .ptr 0 0 0), (7, .ptr 1 1 0)] [some ⟨0, Enc.cells ((T_impl_Value.mk 0 0 (ByteArray.mk #[])))⟩, some ⟨1, Enc.cells ((T_impl_Value.mk 1 ((w64 (v6.fN + v8.fN))) (ByteArray.mk #[])))⟩] ?_
  refine pwp_seq ?_
  refine pwp_seq ?_
  refine pwp_join (σ := Bool) (fun x10 => (⟨103, [(6, .ptr 0 0 0), (7, .ptr 1 1 0), (49, B x10)], [some ⟨0, Enc.cells ((T_impl_Value.mk 0 0 (ByteArray.mk #[])))⟩, some ⟨1, Enc.cells ((T_impl_Value.mk 1 ((w64 (v6.fN + v8.fN))) (ByteArray.mk #[])))⟩]⟩ : St)) (fun x10 => impl_Part_value_j0 v6 v8 x10 = some y) ?_ ?_
  refine rvM [6, 7] 1 103 [(2, A a2), (6, .ptr 0 0 0), (7, .ptr 1 1 0), (33, A a2)] [some ⟨0, Enc.cells ((T_impl_Value.mk 0 0 (ByteArray.mk #[])))⟩, some ⟨1, Enc.cells ((T_impl_Value.mk 1 ((w64 (v6.fN + v8.fN))) (ByteArray.mk #[])))⟩] ?_
  obtain ⟨v12, hv13, h⟩ := bindS h
  refine opsP_idx τ_ok 34 hv13 (by kernel_rfl) ?_
  refine vM [6, 7] 4 103 [(2, A a2), (6, .ptr 0 0 0), (7, .ptr 1 1 0), (38, B ((v12.fKind == 0)))] [some ⟨0, Enc.cells ((T_impl_Value.mk 0 0 (ByteArray.mk #[])))⟩, some ⟨1, Enc.cells ((T_impl_Value.mk 1 ((w64 (v6.fN + v8.fN))) (ByteArray.mk #[])))⟩] ?_
  rcases fk ((v12.fKind == 0)) with hc19 | hc19
  replace h := bT hc19 h
  rw [hc19]
  refine veM [6, 7] 11 103 [(6, .ptr 0 0 0), (7, .ptr 1 1 0), (49, B true)] [some ⟨0, Enc.cells ((T_impl_Value.mk 0 0 (ByteArray.mk #[])))⟩, some ⟨1, Enc.cells ((T_impl_Value.mk 1 ((w64 (v6.fN + v8.fN))) (ByteArray.mk #[])))⟩] ?_
  exact ⟨true, h, it [6, 7, 49]⟩
  replace h := bF hc19 h
  rw [hc19]
  refine vM [6, 7] 1 103 [(6, .ptr 0 0 0), (7, .ptr 1 1 0), (38, B false), (39, A a2)] [some ⟨0, Enc.cells ((T_impl_Value.mk 0 0 (ByteArray.mk #[])))⟩, some ⟨1, Enc.cells ((T_impl_Value.mk 1 ((w64 (v6.fN + v8.fN))) (ByteArray.mk #[])))⟩] ?_
  obtain ⟨v14, hv15, h⟩ := bindS h
  refine opsP_idx τ_ok 40 hv15 (by kernel_rfl) ?_
  refine vM [6, 7] 5 103 [(6, .ptr 0 0 0), (7, .ptr 1 1 0), (45, B ((v14.fKind == 0)))] [some ⟨0, Enc.cells ((T_impl_Value.mk 0 0 (ByteArray.mk #[])))⟩, some ⟨1, Enc.cells ((T_impl_Value.mk 1 ((w64 (v6.fN + v8.fN))) (ByteArray.mk #[])))⟩] ?_
  rcases fk ((v14.fKind == 0)) with hc18 | hc18
  replace h := bT hc18 h
  rw [hc18]
  refine veM [6, 7] 4 103 [(6, .ptr 0 0 0), (7, .ptr 1 1 0), (49, B true)] [some ⟨0, Enc.cells ((T_impl_Value.mk 0 0 (ByteArray.mk #[])))⟩, some ⟨1, Enc.cells ((T_impl_Value.mk 1 ((w64 (v6.fN + v8.fN))) (ByteArray.mk #[])))⟩] ?_
  exact ⟨true, h, it [6, 7, 49]⟩
  replace h := bF hc18 h
  rw [hc18]
  refine vM [6, 7] 1 103 [(6, .ptr 0 0 0), (7, .ptr 1 1 0), (45, B false), (46, E ((T_impl_Value.mk 1 ((w64 (v6.fN + v8.fN))) (ByteArray.mk #[]))))] [some ⟨0, Enc.cells ((T_impl_Value.mk 0 0 (ByteArray.mk #[])))⟩, some ⟨1, Enc.cells ((T_impl_Value.mk 1 ((w64 (v6.fN + v8.fN))) (ByteArray.mk #[])))⟩] ?_
  obtain ⟨v16, hv17, h⟩ := bindS h
  refine cF 47 (ok_impl_Value_ok hv17) ?_
  refine veM [6, 7] 2 103 [(6, .ptr 0 0 0), (7, .ptr 1 1 0), (49, B ((!v16)))] [some ⟨0, Enc.cells ((T_impl_Value.mk 0 0 (ByteArray.mk #[])))⟩, some ⟨1, Enc.cells ((T_impl_Value.mk 1 ((w64 (v6.fN + v8.fN))) (ByteArray.mk #[])))⟩] ?_
  exact ⟨(!v16), h, it [6, 7, 49]⟩
  rintro x10 h
  unfold impl_Part_value_j0 at h
  refine pc h (fun h => ?_) (fun h => ?_)
  refine srveM [6, 7] 103 [(6, .ptr 0 0 0)] [some ⟨0, Enc.cells ((T_impl_Value.mk 0 0 (ByteArray.mk #[])))⟩, some ⟨1, Enc.cells ((T_impl_Value.mk 1 ((w64 (v6.fN + v8.fN))) (ByteArray.mk #[])))⟩] ?_
  cases h
  exact pwp_ret rz
  refine pwp_skip ?_
  refine srveM [6, 7] 103 [(6, .ptr 0 0 0)] [some ⟨0, Enc.cells ((T_impl_Value.mk 1 ((w64 (v6.fN + v8.fN))) (ByteArray.mk #[])))⟩, some ⟨1, Enc.cells ((T_impl_Value.mk 1 ((w64 (v6.fN + v8.fN))) (ByteArray.mk #[])))⟩] ?_
  cases h
  exact pwp_ret rz
  refine srveM [6, 7] 103 [(2, A a2), (3, pf a0 0), (6, .ptr 0 0 0), (9, I a0.fKind), (52, B ((a0.fKind == 4)))] [some ⟨0, Enc.cells ((T_impl_Value.mk 0 0 (ByteArray.mk #[])))⟩] ?_
  refine pc h (fun h => ?_) (fun h => ?_)
  refine pwp_seq ?_
  refine ip 103 [(2, A a2), (3, pf a0 0), (6, .ptr 0 0 0)] [some ⟨0, Enc.cells ((T_impl_Value.mk 0 0 (ByteArray.mk #[])))⟩] ?_
  refine pwp_any ([[], [], [], [], [], [], [], [], [], [], [0]]) ([[], [], [], [], [], [], [], [], [], [], [0]]) rfl (by kernel_rfl) ?_
  refine qvM [6, 7] [] trivial 3 103 [(56, A a2), (55, I a0.fN), (2, A a2), (6, .ptr 0 0 0)] [some ⟨0, Enc.cells ((T_impl_Value.mk 0 0 (ByteArray.mk #[])))⟩] ?_
  obtain ⟨v21, hv22, h⟩ := bindS h
  refine qX (some 57) (pf v21 0) 103 [(57, pf v21 0), (55, I a0.fN), (2, A a2), (6, .ptr 0 0 0)] [some ⟨0, Enc.cells ((T_impl_Value.mk 0 0 (ByteArray.mk #[])))⟩] (fun Γ' hΓ => CoreE.of_y (idxV_sound τ_ok (by kernel_rfl) hv22)) trivial ?_
  refine qvM [6, 7] [] trivial 2 103 [(59, A a2), (58, E v21), (55, I a0.fN), (6, .ptr 0 0 0)] [some ⟨0, Enc.cells ((T_impl_Value.mk 0 0 (ByteArray.mk #[])))⟩] ?_
  obtain ⟨v23, hv24, h⟩ := bindS h
  refine qX (some 60) (pf v23 0) 103 [(60, pf v23 0), (58, E v21), (55, I a0.fN), (6, .ptr 0 0 0)] [some ⟨0, Enc.cells ((T_impl_Value.mk 0 0 (ByteArray.mk #[])))⟩] (fun Γ' hΓ => CoreE.of_y (idxV_sound τ_ok (by kernel_rfl) hv24)) trivial ?_
  refine qvM [6, 7] [] trivial 1 103 [(61, E v23), (58, E v21), (55, I a0.fN), (6, .ptr 0 0 0)] [some ⟨0, Enc.cells ((T_impl_Value.mk 0 0 (ByteArray.mk #[])))⟩] ?_
  obtain ⟨v25, hv26, h⟩ := bindS h
  refine qX (some 62) (I v25) 103 [(62, I v25), (6, .ptr 0 0 0)] [some ⟨0, Enc.cells ((T_impl_Value.mk 0 0 (ByteArray.mk #[])))⟩] (fun Γ' hΓ => CoreE.of_g (callV_sound (τ := τ) (by kernel_rfl) rfl (ok_impl_Compare hv26) (FzTo.frz rfl))) trivial ?_
  obtain ⟨v27, hv28, h⟩ := bindS h
  refine qX (some 63) (E v27) 103 [(63, E v27), (6, .ptr 0 0 0)] [some ⟨0, Enc.cells ((T_impl_Value.mk 0 0 (ByteArray.mk #[])))⟩] (fun Γ' hΓ => CoreE.of_g (callV_sound (τ := τ) (by kernel_rfl) rfl (ok_impl_ValueOf hv28) (FzTo.frz rfl))) trivial ?_
  refine qX (Hm' := [sc 0 v27]) none (.any) 103 [(6, .ptr 0 0 0)] [sc 0 v27] (fun Γ' hΓ => sto_E τ_ok 0 0 (by kernel_rfl)) (hB trivial) ?_
  refine qn 103 [(6, .ptr 0 0 0)] [sc 0 v27] ?_
  cases h
  exact pwp_ret rz
  refine srveM [6, 7] 103 [(2, A a2), (6, .ptr 0 0 0), (9, I a0.fKind), (64, B ((a0.fKind == 5)))] [some ⟨0, Enc.cells ((T_impl_Value.mk 0 0 (ByteArray.mk #[])))⟩] ?_
  refine pc h (fun h => ?_) (fun h => ?_)
  refine pwp_seq ?_
  refine ip 103 [(2, A a2), (6, .ptr 0 0 0)] [some ⟨0, Enc.cells ((T_impl_Value.mk 0 0 (ByteArray.mk #[])))⟩] ?_
  refine pwp_any ([[], [], [], [], [], [], [], [], [], [], [0]]) ([[], [], [], [], [], [], [], [], [], [], [0]]) rfl (by kernel_rfl) ?_
  refine qvM [6, 7] [] trivial 1 103 [(66, A a2), (2, A a2), (6, .ptr 0 0 0)] [some ⟨0, Enc.cells ((T_impl_Value.mk 0 0 (ByteArray.mk #[])))⟩] ?_
  obtain ⟨v30, hv31, h⟩ := bindS h
  refine qX (some 67) (pf v30 0) 103 [(67, pf v30 0), (2, A a2), (6, .ptr 0 0 0)] [some ⟨0, Enc.cells ((T_impl_Value.mk 0 0 (ByteArray.mk #[])))⟩] (fun Γ' hΓ => CoreE.of_y (idxV_sound τ_ok (by kernel_rfl) hv31)) trivial ?_
  refine qvM [6, 7] [] trivial 1 103 [(68, E v30), (2, A a2), (6, .ptr 0 0 0)] [some ⟨0, Enc.cells ((T_impl_Value.mk 0 0 (ByteArray.mk #[])))⟩] ?_
  obtain ⟨v32, hv33, h⟩ := bindS h
  refine qX (some 69) (I v32) 103 [(69, I v32), (2, A a2), (6, .ptr 0 0 0)] [some ⟨0, Enc.cells ((T_impl_Value.mk 0 0 (ByteArray.mk #[])))⟩] (fun Γ' hΓ => CoreE.of_g (callV_sound (τ := τ) (by kernel_rfl) rfl (ok_impl_TruthOf hv33) (FzTo.frz rfl))) trivial ?_
  refine qvM [6, 7] [] trivial 1 103 [(70, A a2), (69, I v32), (6, .ptr 0 0 0)] [some ⟨0, Enc.cells ((T_impl_Value.mk 0 0 (ByteArray.mk #[])))⟩] ?_
  obtain ⟨v34, hv35, h⟩ := bindS h
  refine qX (some 71) (pf v34 0) 103 [(71, pf v34 0), (69, I v32), (6, .ptr 0 0 0)] [some ⟨0, Enc.cells ((T_impl_Value.mk 0 0 (ByteArray.mk #[])))⟩] (fun Γ' hΓ => CoreE.of_y (idxV_sound τ_ok (by kernel_rfl) hv35)) trivial ?_
  refine qvM [6, 7] [] trivial 1 103 [(72, E v34), (69, I v32), (6, .ptr 0 0 0)] [some ⟨0, Enc.cells ((T_impl_Value.mk 0 0 (ByteArray.mk #[])))⟩] ?_
  obtain ⟨v36, hv37, h⟩ := bindS h
  refine qX (some 73) (I v36) 103 [(73, I v36), (69, I v32), (6, .ptr 0 0 0)] [some ⟨0, Enc.cells ((T_impl_Value.mk 0 0 (ByteArray.mk #[])))⟩] (fun Γ' hΓ => CoreE.of_g (callV_sound (τ := τ) (by kernel_rfl) rfl (ok_impl_TruthOf hv37) (FzTo.frz rfl))) trivial ?_
  obtain ⟨v38, hv39, h⟩ := bindS h
  refine qX (some 74) (I v38) 103 [(74, I v38), (6, .ptr 0 0 0)] [some ⟨0, Enc.cells ((T_impl_Value.mk 0 0 (ByteArray.mk #[])))⟩] (fun Γ' hΓ => CoreE.of_g (callV_sound (τ := τ) (by kernel_rfl) rfl (ok_impl_AndOf hv39) (FzTo.frz rfl))) trivial ?_
  obtain ⟨v40, hv41, h⟩ := bindS h
  refine qX (some 75) (E v40) 103 [(75, E v40), (6, .ptr 0 0 0)] [some ⟨0, Enc.cells ((T_impl_Value.mk 0 0 (ByteArray.mk #[])))⟩] (fun Γ' hΓ => CoreE.of_g (callV_sound (τ := τ) (by kernel_rfl) rfl (ok_impl_ValueOf hv41) (FzTo.frz rfl))) trivial ?_
  refine qX (Hm' := [sc 0 v40]) none (.any) 103 [(6, .ptr 0 0 0)] [sc 0 v40] (fun Γ' hΓ => sto_E τ_ok 0 0 (by kernel_rfl)) (hB trivial) ?_
  refine qn 103 [(6, .ptr 0 0 0)] [sc 0 v40] ?_
  cases h
  exact pwp_ret rz
  refine srveM [6, 7] 103 [(2, A a2), (6, .ptr 0 0 0), (9, I a0.fKind), (76, B ((a0.fKind == 6)))] [some ⟨0, Enc.cells ((T_impl_Value.mk 0 0 (ByteArray.mk #[])))⟩] ?_
  refine pc h (fun h => ?_) (fun h => ?_)
  refine pwp_seq ?_
  refine ip 103 [(2, A a2), (6, .ptr 0 0 0)] [some ⟨0, Enc.cells ((T_impl_Value.mk 0 0 (ByteArray.mk #[])))⟩] ?_
  refine pwp_any ([[], [], [], [], [], [], [], [], [], [], [0]]) ([[], [], [], [], [], [], [], [], [], [], [0]]) rfl (by kernel_rfl) ?_
  refine qvM [6, 7] [] trivial 1 103 [(78, A a2), (2, A a2), (6, .ptr 0 0 0)] [some ⟨0, Enc.cells ((T_impl_Value.mk 0 0 (ByteArray.mk #[])))⟩] ?_
  obtain ⟨v43, hv44, h⟩ := bindS h
  refine qX (some 79) (pf v43 0) 103 [(79, pf v43 0), (2, A a2), (6, .ptr 0 0 0)] [some ⟨0, Enc.cells ((T_impl_Value.mk 0 0 (ByteArray.mk #[])))⟩] (fun Γ' hΓ => CoreE.of_y (idxV_sound τ_ok (by kernel_rfl) hv44)) trivial ?_
  refine qvM [6, 7] [] trivial 1 103 [(80, E v43), (2, A a2), (6, .ptr 0 0 0)] [some ⟨0, Enc.cells ((T_impl_Value.mk 0 0 (ByteArray.mk #[])))⟩] ?_
  obtain ⟨v45, hv46, h⟩ := bindS h
  refine qX (some 81) (I v45) 103 [(81, I v45), (2, A a2), (6, .ptr 0 0 0)] [some ⟨0, Enc.cells ((T_impl_Value.mk 0 0 (ByteArray.mk #[])))⟩] (fun Γ' hΓ => CoreE.of_g (callV_sound (τ := τ) (by kernel_rfl) rfl (ok_impl_TruthOf hv46) (FzTo.frz rfl))) trivial ?_
  refine qvM [6, 7] [] trivial 1 103 [(82, A a2), (81, I v45), (6, .ptr 0 0 0)] [some ⟨0, Enc.cells ((T_impl_Value.mk 0 0 (ByteArray.mk #[])))⟩] ?_
  obtain ⟨v47, hv48, h⟩ := bindS h
  refine qX (some 83) (pf v47 0) 103 [(83, pf v47 0), (81, I v45), (6, .ptr 0 0 0)] [some ⟨0, Enc.cells ((T_impl_Value.mk 0 0 (ByteArray.mk #[])))⟩] (fun Γ' hΓ => CoreE.of_y (idxV_sound τ_ok (by kernel_rfl) hv48)) trivial ?_
  refine qvM [6, 7] [] trivial 1 103 [(84, E v47), (81, I v45), (6, .ptr 0 0 0)] [some ⟨0, Enc.cells ((T_impl_Value.mk 0 0 (ByteArray.mk #[])))⟩] ?_
  obtain ⟨v49, hv50, h⟩ := bindS h
  refine qX (some 85) (I v49) 103 [(85, I v49), (81, I v45), (6, .ptr 0 0 0)] [some ⟨0, Enc.cells ((T_impl_Value.mk 0 0 (ByteArray.mk #[])))⟩] (fun Γ' hΓ => CoreE.of_g (callV_sound (τ := τ) (by kernel_rfl) rfl (ok_impl_TruthOf hv50) (FzTo.frz rfl))) trivial ?_
  obtain ⟨v51, hv52, h⟩ := bindS h
  refine qX (some 86) (I v51) 103 [(86, I v51), (6, .ptr 0 0 0)] [some ⟨0, Enc.cells ((T_impl_Value.mk 0 0 (ByteArray.mk #[])))⟩] (fun Γ' hΓ => CoreE.of_g (callV_sound (τ := τ) (by kernel_rfl) rfl (ok_impl_OrOf hv52) (FzTo.frz rfl))) trivial ?_
  obtain ⟨v53, hv54, h⟩ := bindS h
  refine qX (some 87) (E v53) 103 [(87, E v53), (6, .ptr 0 0 0)] [some ⟨0, Enc.cells ((T_impl_Value.mk 0 0 (ByteArray.mk #[])))⟩] (fun Γ' hΓ => CoreE.of_g (callV_sound (τ := τ) (by kernel_rfl) rfl (ok_impl_ValueOf hv54) (FzTo.frz rfl))) trivial ?_
  refine qX (Hm' := [sc 0 v53]) none (.any) 103 [(6, .ptr 0 0 0)] [sc 0 v53] (fun Γ' hΓ => sto_E τ_ok 0 0 (by kernel_rfl)) (hB trivial) ?_
  refine qn 103 [(6, .ptr 0 0 0)] [sc 0 v53] ?_
  cases h
  exact pwp_ret rz
  refine srveM [6, 7] 103 [(2, A a2), (6, .ptr 0 0 0), (88, B ((a0.fKind == 7)))] [some ⟨0, Enc.cells ((T_impl_Value.mk 0 0 (ByteArray.mk #[])))⟩] ?_
  refine pc h (fun h => ?_) (fun h => ?_)
  refine srvM [6, 7] 1 103 [(6, .ptr 0 0 0), (90, A a2)] [some ⟨0, Enc.cells ((T_impl_Value.mk 0 0 (ByteArray.mk #[])))⟩] ?_
  obtain ⟨v56, hv57, h⟩ := bindS h
  refine opsP_idx τ_ok 91 hv57 (by kernel_rfl) ?_
  refine vM [6, 7] 1 103 [(6, .ptr 0 0 0), (92, E v56)] [some ⟨0, Enc.cells ((T_impl_Value.mk 0 0 (ByteArray.mk #[])))⟩] ?_
  obtain ⟨v58, hv59, h⟩ := bindS h
  refine cF 93 (ok_impl_TruthOf hv59) ?_
  obtain ⟨v60, hv61, h⟩ := bindS h
  refine cF 94 (ok_impl_NotOf hv61) ?_
  obtain ⟨v62, hv63, h⟩ := bindS h
  refine cF 95 (ok_impl_ValueOf hv63) ?_
  refine veM [6, 7] 1 103 [(6, .ptr 0 0 0)] [sc 0 v62] ?_
  cases h
  exact pwp_ret rz
  refine pwp_skip ?_
  refine srvM [6, 7] 1 103 [(6, .ptr 0 0 0), (96, A a2)] [some ⟨0, Enc.cells ((T_impl_Value.mk 0 0 (ByteArray.mk #[])))⟩] ?_
  obtain ⟨v64, hv65, h⟩ := bindS h
  refine opsP_idx τ_ok 97 hv65 (by kernel_rfl) ?_
  refine vM [6, 7] 3 103 [(6, .ptr 0 0 0), (100, B ((v64.fKind == 0)))] [some ⟨0, Enc.cells ((T_impl_Value.mk 0 0 (ByteArray.mk #[])))⟩] ?_
  obtain ⟨v66, hv67, h⟩ := bindS h
  refine cF 101 (ok_impl_truthIf hv67) ?_
  obtain ⟨v68, hv69, h⟩ := bindS h
  refine cF 102 (ok_impl_ValueOf hv69) ?_
  refine veM [6, 7] 1 103 [(6, .ptr 0 0 0)] [sc 0 v68] ?_
  cases h
  exact pwp_ret rz
def impl_RowsOk (a0 : List T_impl_Column) (a1 : List (List T_impl_Value)) : Option Bool := (impl_ColumnsOk a0).bind fun v1 => bif v1 then (slices_ContainsFunc_impl_Value_impl_Value_s3 a1 (fun z0 => impl_RowsOk_1 z0 a0)).bind fun v3 => some ((!v3)) else some false
theorem ok_impl_RowsOk {a0 : List T_impl_Column} {a1 : List (List T_impl_Value)} {y : Bool} (h : impl_RowsOk a0 a1 = some y) : OK Try.prog 125 [A a0, A a1] (B y) := by
  refine ow Try.func125 fun Γ hX => ?_
  unfold impl_RowsOk at h
  refine srve 13 [(1, A a1), (2, pf a0 0)] [] ?_
  refine srv 1 13 [(1, A a1), (2, pf a0 0), (5, A a0)] [] ?_
  obtain ⟨v1, hv2, h⟩ := bindS h
  refine cF 6 (ok_impl_ColumnsOk hv2) ?_
  refine v 1 13 [(1, A a1), (2, pf a0 0), (7, B v1)] [] ?_
  rcases Bool.eq_false_or_eq_true v1 with hc5 | hc5
  replace h := bT hc5 h
  rw [hc5]
  refine v 2 13 [(7, B true), (8, A a1), (9, .fn 160 [pf a0 0])] [] ?_
  obtain ⟨v3, hv4, h⟩ := bindS h
  refine cF 10 (ok_slices_ContainsFunc_impl_Value_impl_Value_s3 (rfl) (fun _ w hw => ok_impl_RowsOk_1 hw) hv4) ?_
  refine ve 3 13 [(4, B ((!v3)))] [] ?_
  cases h
  exact pwp_ret rz
  replace h := bF hc5 h
  rw [hc5]
  refine ve 6 13 [(4, B false)] [] ?_
  cases h
  exact pwp_ret rz
def spec_l20Bag_L1_j1 (x6 : Int) (K10 : Int → T_spec_l20Rd → (List (List T_impl_Value)) → Option ((List (List T_impl_Value)) × T_spec_l20Rd)) (x12 : T_spec_l20Rd) (x13 : List (List T_impl_Value)) : Option ((List (List T_impl_Value)) × T_spec_l20Rd) := K10 ((w64 (x6 - 1))) x12 x13
def spec_l20Bag_L1_j2 (a1 : List T_impl_Column) (a2 : Int) (x6 : Int) (x8 : List (List T_impl_Value)) (K10 : Int → T_spec_l20Rd → (List (List T_impl_Value)) → Option ((List (List T_impl_Value)) × T_spec_l20Rd)) (x14 : Bool) (x15 : T_spec_l20Rd) : Option ((List (List T_impl_Value)) × T_spec_l20Rd) := bif x14 then (spec_l20Rd_pick x15 ((x8.length : Int))).bind fun v17 => (getI x8 v17.1).bind fun v19 => (spec_l3Own v19).bind fun v21 => (app x8 (([v21] : List (List T_impl_Value)))).bind fun v23 => spec_l20Bag_L1_j1 x6 K10 v17.2 v23 else (spec_l20Fit_L1 x15 a1 a2).bind fun v25 => (app x8 (([v25.1] : List (List T_impl_Value)))).bind fun v27 => spec_l20Bag_L1_j1 x6 K10 v25.2 v27
def spec_l20Bag_L1_l0 (a1 : List T_impl_Column) (a2 : Int) : Nat → Int → T_spec_l20Rd → (List (List T_impl_Value)) → Option ((List (List T_impl_Value)) × T_spec_l20Rd)
  | 0, _, _, _ => none
  | f9 + 1, x6, x7, x8 => bif (decide (x6 > 0)) then bif (decide (((x8.length : Int)) > 0)) then (spec_l20Rd_pick x7 3).bind fun v29 => spec_l20Bag_L1_j2 a1 a2 x6 x8 (spec_l20Bag_L1_l0 a1 a2 f9) ((v29.1 == 0)) v29.2 else spec_l20Bag_L1_j2 a1 a2 x6 x8 (spec_l20Bag_L1_l0 a1 a2 f9) false x7 else some (x8, x7)
def spec_l20Bag_L1 (a0 : T_spec_l20Rd) (a1 : List T_impl_Column) (a2 : Int) : Option ((List (List T_impl_Value)) × T_spec_l20Rd) := (spec_l20Rd_pick a0 7).bind fun v1 => spec_l20Bag_L1_l0 a1 a2 FUEL v1.1 v1.2 (([] : List (List T_impl_Value)))
theorem ok_spec_l20Bag_L1 {a0 : T_spec_l20Rd} {a1 : List T_impl_Column} {a2 : Int} {y : (List (List T_impl_Value)) × T_spec_l20Rd} (h : spec_l20Bag_L1 a0 a1 a2 = some y) : OKx Try.prog 117 (Enc.cells a0) [] 2 a1.length (eL a1) [I a2] (O y.1) (Enc.cells y.2) := by
  refine OKx_of_pwp τ_ok Try.func117 rfl (by kernel_rfl) rfl (Enc.frz _) (Enc.frz _) (eL_frz _) fun Γ hQ => ?_
  refine pwp_imp (Imp.to (st' := ⟨43, [(0, .ptr 0 0 0), (1, rf 1 0 2 a1), (2, I a2)], [sc 0 a0, sl 0 a1]⟩) [0, 1, 2] (by kernel_rfl)) ?_
  unfold spec_l20Bag_L1 at h
  refine srve 43 [(0, .ptr 0 0 0), (1, rf 1 0 2 a1), (2, I a2)] [sc 0 a0, sl 0 a1] ?_
  refine srve 43 [(0, .ptr 0 0 0), (1, rf 1 0 2 a1), (2, I a2), (7, .arr 1 0 (eL ([] : List (List T_impl_Value))) true)] [sc 0 a0, sl 0 a1] ?_
  refine pwp_seq ?_
  refine srv 1 43 [(0, .ptr 0 0 0), (1, rf 1 0 2 a1), (2, I a2), (7, .arr 1 0 (eL ([] : List (List T_impl_Value))) true), (10, .ptr 0 0 0)] [sc 0 a0, sl 0 a1] ?_
  obtain ⟨v1, hv2, h⟩ := bindS h
  refine cB 11 0 0 (ok_spec_l20Rd_pick hv2) ?_
  refine ve 1 43 [(0, .ptr 0 0 0), (1, rf 1 0 2 a1), (2, I a2), (7, .arr 1 0 (eL ([] : List (List T_impl_Value))) true), (8, I v1.1)] [sc 0 v1.2, sl 0 a1] ?_
  refine pwp_block ?_
  refine pwp_loop (ι := Nat × Int × T_spec_l20Rd × (List (List T_impl_Value))) (fun (f9, x6, x7, x8) => (⟨43, [(0, .ptr 0 0 0), (1, rf 1 0 2 a1), (2, I a2), (7, rf 2 0 1 x8), (8, I x6)], [sc 0 x7, sl 0 a1, sl 0 x8]⟩ : St)) (fun (f9, x6, x7, x8) => spec_l20Bag_L1_l0 a1 a2 f9 x6 x7 x8 = some y) Prod.fst (FUEL, v1.1, v1.2, ([] : List (List T_impl_Value))) h (Imp.thawS 7 [0, 1, 2, 7, 8] (by kernel_rfl)) ?_
  rintro ⟨f9, x6, x7, x8⟩ h
  dsimp only at h ⊢
  rcases f9 with _ | f9
  cases h
  rw [spec_l20Bag_L1_l0] at h
  refine pwp_seq ?_
  refine srve 43 [(0, .ptr 0 0 0), (1, rf 1 0 2 a1), (2, I a2), (7, rf 2 0 1 x8), (8, I x6), (13, B ((decide (x6 > 0))))] [sc 0 x7, sl 0 a1, sl 0 x8] ?_
  refine pc h (fun h => ?_) (fun h => ?_)
  refine pwp_skip ?_
  refine pwp_seq ?_
  refine pwp_join (σ := T_spec_l20Rd × (List (List T_impl_Value))) (fun (x12, x13) => (⟨43, [(0, .ptr 0 0 0), (1, rf 1 0 2 a1), (2, I a2), (7, rf 2 0 1 x13), (8, I x6)], [sc 0 x12, sl 0 a1, sl 0 x13]⟩ : St)) (fun (x12, x13) => spec_l20Bag_L1_j1 x6 (spec_l20Bag_L1_l0 a1 a2 f9) x12 x13 = some y) ?_ ?_
  refine pwp_block ?_
  refine pwp_seq ?_
  refine pwp_join (σ := Bool × T_spec_l20Rd) (fun (x14, x15) => (⟨43, [(0, .ptr 0 0 0), (1, rf 1 0 2 a1), (2, I a2), (7, rf 2 0 1 x8), (8, I x6), (23, B x14)], [sc 0 x15, sl 0 a1, sl 0 x8]⟩ : St)) (fun (x14, x15) => spec_l20Bag_L1_j2 a1 a2 x6 x8 (spec_l20Bag_L1_l0 a1 a2 f9) x14 x15 = some y) ?_ ?_
  refine rv 4 43 [(0, .ptr 0 0 0), (1, rf 1 0 2 a1), (2, I a2), (7, rf 2 0 1 x8), (8, I x6), (19, B ((decide (((x8.length : Int)) > 0))))] [sc 0 x7, sl 0 a1, sl 0 x8] ?_
  rcases fk ((decide (((x8.length : Int)) > 0))) with hc31 | hc31
  replace h := bT hc31 h
  rw [hc31]
  refine v 1 43 [(0, .ptr 0 0 0), (1, rf 1 0 2 a1), (2, I a2), (7, rf 2 0 1 x8), (8, I x6), (19, B true), (20, .ptr 0 0 0)] [sc 0 x7, sl 0 a1, sl 0 x8] ?_
  obtain ⟨v29, hv30, h⟩ := bindS h
  refine cB 21 0 0 (ok_spec_l20Rd_pick hv30) ?_
  refine ve 2 43 [(0, .ptr 0 0 0), (1, rf 1 0 2 a1), (2, I a2), (7, rf 2 0 1 x8), (8, I x6), (20, .ptr 0 0 0), (21, I v29.1), (22, B ((v29.1 == 0))), (23, B ((v29.1 == 0)))] [sc 0 v29.2, sl 0 a1, sl 0 x8] ?_
  exact ⟨((v29.1 == 0), v29.2), h, it [0, 1, 2, 7, 8, 23]⟩
  replace h := bF hc31 h
  rw [hc31]
  refine ve 4 43 [(0, .ptr 0 0 0), (1, rf 1 0 2 a1), (2, I a2), (7, rf 2 0 1 x8), (8, I x6), (20, .lit undef), (21, .lit undef), (22, .lit undef), (23, B false)] [sc 0 x7, sl 0 a1, sl 0 x8] ?_
  exact ⟨(false, x7), h, it [0, 1, 2, 7, 8, 23]⟩
  rintro ⟨x14, x15⟩ h
  dsimp only at h ⊢
  unfold spec_l20Bag_L1_j2 at h
  refine pc h (fun h => ?_) (fun h => ?_)
  refine rv 5 43 [(0, .ptr 0 0 0), (1, rf 1 0 2 a1), (2, I a2), (8, I x6), (24, rf 2 0 1 x8), (25, rf 2 0 1 x8), (26, .ptr 0 0 0), (28, I ((x8.length : Int)))] [sc 0 x15, sl 0 a1, sl 0 x8] ?_
  obtain ⟨v17, hv18, h⟩ := bindS h
  refine cB 29 0 0 (ok_spec_l20Rd_pick hv18) ?_
  obtain ⟨v19, hv20, h⟩ := bindS h
  refine opsP_idr τ_ok 30 2 0 x8.length hv20 rfl (by kernel_rfl) ?_
  refine opsP_lde (r := A v19) τ_ok 31 31 0 hv20 (by kernel_rfl) (by kernel_rfl) ?_
  obtain ⟨v21, hv22, h⟩ := bindS h
  refine cFo 32 (ok_spec_l3Own hv22) ?_
  refine v 1 43 [(0, .ptr 0 0 0), (1, rf 1 0 2 a1), (2, I a2), (8, I x6), (24, rf 2 0 1 x8), (33, .arr 1 (([v21] : List (List T_impl_Value))).length (eL ([v21] : List (List T_impl_Value))) true)] [sc 0 v17.2, sl 0 a1, sl 0 x8] ?_
  obtain ⟨v23, hv24, h⟩ := bindS h
  refine opsP_app τ_ok 34 2 0 (pn hQ) hv24 (by kernel_rfl) ?_
  refine ve 1 43 [(0, .ptr 0 0 0), (1, rf 1 0 2 a1), (2, I a2), (7, rf 2 1 1 v23), (8, I x6)] [sc 0 v17.2, sl 0 a1, sl 1 v23] ?_
  exact ⟨(v17.2, v23), h, (it (st' := ⟨43, [(0, .ptr 0 0 0), (1, rf 1 0 2 a1), (2, I a2), (7, rf 2 1 1 v23), (8, I x6)], [sc 0 v17.2, sl 0 a1, sl 1 v23]⟩) [0, 1, 2, 7, 8]).trans (Imp.reverS 2 1 (eL v23) [0, 1, 2, 7, 8] (by kernel_rfl) (by exact (And.intro (rfl) (And.intro (eL_frz _) (And.intro (eL_frz _) trivial)))) (by kernel_rfl))⟩
  refine rv 4 43 [(0, .ptr 0 0 0), (1, rf 1 0 2 a1), (2, I a2), (8, I x6), (35, rf 2 0 1 x8), (36, .ptr 0 0 0), (37, rf 1 0 2 a1), (38, I a2)] [sc 0 x15, sl 0 a1, sl 0 x8] ?_
  obtain ⟨v25, hv26, h⟩ := bindS h
  refine opsP_E (dd := some 39) (x := rf 3 0 3 v25.1) (callX_E (bs := [⟨0, eL v25.1⟩]) τ 39 0 0 1 0 (ok_spec_l20Fit_L1 hv26) rfl rfl (by kernel_rfl) (by kernel_rfl)) ?_
  refine v 0 43 [(0, .ptr 0 0 0), (1, rf 1 0 2 a1), (2, I a2), (8, I x6), (35, rf 2 0 1 x8), (39, rf 3 0 3 v25.1)] [sc 0 v25.2, sl 0 a1, sl 0 x8, sl 0 v25.1] ?_
  refine opsP_imp ((Imp.freezeB (v := 0) (cs := eL v25.1) (st' := ⟨43, [(0, .ptr 0 0 0), (1, rf 1 0 2 a1), (2, I a2), (8, I x6), (35, rf 2 0 1 x8), (39, A v25.1)], [sc 0 v25.2, sl 0 a1, sl 0 x8, none]⟩) 3 0 (pn hQ) (by kernel_rfl) (eL_frz _) (wholeC (whole_noRef (by kernel_rfl)) (wholeC (whole_ne rfl) (wholeC (whole_noRef (by kernel_rfl)) (wholeC (whole_noRef (by kernel_rfl)) (wholeC (whole_ne rfl) (wholeC (whole_is (eL_len v25.1).symm) wholeC0)))))) (HpRel.frz rfl (Enc.frz _) (HpRel.frz rfl (eL_frz _) (HpRel.frz rfl (eL_frz _) (HpRel.key HpRel.nil)))) (by kernel_rfl) rfl (p02 hQ))) ?_
  refine v 1 43 [(0, .ptr 0 0 0), (1, rf 1 0 2 a1), (2, I a2), (8, I x6), (35, rf 2 0 1 x8), (40, .arr 1 (([v25.1] : List (List T_impl_Value))).length (eL ([v25.1] : List (List T_impl_Value))) true)] [sc 0 v25.2, sl 0 a1, sl 0 x8, none] ?_
  obtain ⟨v27, hv28, h⟩ := bindS h
  refine opsP_app τ_ok 41 2 0 (pn hQ) hv28 (by kernel_rfl) ?_
  refine ve 1 43 [(0, .ptr 0 0 0), (1, rf 1 0 2 a1), (2, I a2), (7, rf 2 1 1 v27), (8, I x6)] [sc 0 v25.2, sl 0 a1, sl 1 v27, none] ?_
  exact ⟨(v25.2, v27), h, (it (st' := ⟨43, [(0, .ptr 0 0 0), (1, rf 1 0 2 a1), (2, I a2), (7, rf 2 1 1 v27), (8, I x6)], [sc 0 v25.2, sl 0 a1, sl 1 v27, none]⟩) [0, 1, 2, 7, 8]).trans ((Imp.truncS (st' := ⟨43, [(0, .ptr 0 0 0), (1, rf 1 0 2 a1), (2, I a2), (7, rf 2 1 1 v27), (8, I x6)], [sc 0 v25.2, sl 0 a1, sl 1 v27]⟩) 3 (pl hQ) (by kernel_rfl) (allBelow_mem (by exact (And.intro rfl (And.intro rfl (And.intro rfl (And.intro rfl (And.intro rfl trivial))))))) (by exact (And.intro (rfl) (And.intro (frz_below (eL_frz _)) (And.intro (frz_below (eL_frz _)) trivial)))) (by kernel_rfl)).trans (Imp.reverS 2 1 (eL v27) [0, 1, 2, 7, 8] (by kernel_rfl) (by exact (And.intro (rfl) (And.intro (eL_frz _) (And.intro (eL_frz _) trivial)))) (by kernel_rfl)))⟩
  rintro ⟨x12, x13⟩ h
  dsimp only at h ⊢
  unfold spec_l20Bag_L1_j1 at h
  refine rve 43 [(0, .ptr 0 0 0), (1, rf 1 0 2 a1), (2, I a2), (7, rf 2 0 1 x13), (8, I ((w64 (x6 - 1))))] [sc 0 x12, sl 0 a1, sl 0 x13] ?_
  exact ⟨(f9, (w64 (x6 - 1)), x12, x13), h, Nat.lt_succ_self _, it [0, 1, 2, 7, 8]⟩
  refine pwp_exit ?_
  refine srve 43 [(6, rf 2 0 1 x8)] [sc 0 x7, sl 0 a1, sl 0 x8] ?_
  have h := si h
  subst h
  exact pwp_ret ⟨.inr rfl, rf 2 0 1 x8, _, 0, 0, by kernel_rfl, (OutP.list (v := 0) (by kernel_rfl)), by decide, by decide, by kernel_rfl, by kernel_rfl⟩
def impl_Rejects_l0 (a1 : List T_impl_Part) (a2 : Int) : Nat → Int → (List T_impl_must) → Option Bool
  | 0, _, _ => none
  | f7 + 1, x5, x6 => bif (decide (x5 < ((a1.length : Int)))) then (getI a1 x5).bind fun v10 => (impl_Part_takes v10).bind fun v12 => (slI x6 (some ((w64 (((x6.length : Int)) - v12)))) none none).bind fun v14 => (impl_Part_find v10 v14 a2).bind fun v16 => (slI x6 none (some ((w64 (((x6.length : Int)) - v12)))) none).bind fun v18 => (appT x6 (([v16] : List T_impl_must)) v18.length).bind fun v20 => (impl_Rejects_l0 a1 a2 f7) ((w64 (x5 + 1))) v20 else (getI x6 ((0 : Int))).bind fun v22 => some v22.fNotTrue
def impl_Rejects (a0 : List T_impl_Column) (a1 : List T_impl_Part) (a2 : Int) : Option Bool := (impl_ExprKind a0 a1).bind fun v1 => bif (!(v1 == 3)) then some false else impl_Rejects_l0 a1 a2 FUEL 0 (([] : List T_impl_must))
theorem ok_impl_Rejects {a0 : List T_impl_Column} {a1 : List T_impl_Part} {a2 : Int} {y : Bool} (h : impl_Rejects a0 a1 a2 = some y) : OK Try.prog 8 [A a0, A a1, I a2] (B y) := by
  refine ow Try.func8 fun Γ hX => ?_
  unfold impl_Rejects at h
  refine srveM [9, 11] 44 [(0, A a0), (1, A a1), (2, I a2)] [] ?_
  refine pwp_seq ?_
  refine srvM [9, 11] 2 44 [(1, A a1), (2, I a2), (12, A a0), (13, A a1)] [] ?_
  obtain ⟨v1, hv2, h⟩ := bindS h
  refine cF 14 (ok_impl_ExprKind hv2) ?_
  refine veM [9, 11] 1 44 [(1, A a1), (2, I a2), (15, B ((!(v1 == 3))))] [] ?_
  refine pc h (fun h => ?_) (fun h => ?_)
  refine srveM [9, 11] 44 [(6, B false)] [] ?_
  cases h
  exact pwp_ret rz
  refine pwp_skip ?_
  refine srveM [9, 11] 44 [(1, A a1), (2, I a2), (7, .arr 3 0 (eL ([] : List T_impl_must)) true)] [] ?_
  refine pwp_seq ?_
  refine srveM [9, 11] 44 [(2, I a2), (7, .arr 3 0 (eL ([] : List T_impl_must)) true), (16, A a1), (17, I ((a1.length : Int))), (18, I 0)] [] ?_
  refine pwp_block ?_
  refine pwp_loop (ι := Nat × Int × (List T_impl_must)) (fun (f7, x5, x6) => (⟨44, [(2, I a2), (7, rf 0 0 3 x6), (16, A a1), (17, I ((a1.length : Int))), (18, I x5)], [sl 0 x6]⟩ : St)) (fun (f7, x5, x6) => impl_Rejects_l0 a1 a2 f7 x5 x6 = some y) Prod.fst (FUEL, 0, ([] : List T_impl_must)) h (Imp.thawS 7 [2, 7, 16, 17, 18] (by kernel_rfl)) ?_
  rintro ⟨f7, x5, x6⟩ h
  dsimp only at h ⊢
  rcases f7 with _ | f7
  cases h
  rw [impl_Rejects_l0] at h
  refine srveM [9, 11] 44 [(2, I a2), (7, rf 0 0 3 x6), (16, A a1), (17, I ((a1.length : Int))), (18, I x5), (19, B ((decide (x5 < ((a1.length : Int))))))] [sl 0 x6] ?_
  refine pwp_seq ?_
  refine pc h (fun h => ?_) (fun h => ?_)
  refine pwp_skip ?_
  refine pwp_seq ?_
  refine pwp_block ?_
  refine pwp_seq ?_
  refine pwp_region ?_
  obtain ⟨v10, hv11, h⟩ := bindS h
  refine opsP_idx τ_ok 20 hv11 (by kernel_rfl) ?_
  refine veM [9, 11] 3 44 [(2, I a2), (7, rf 0 0 3 x6), (9, .ptr 1 0 0), (16, A a1), (17, I ((a1.length : Int))), (18, I x5)] [sl 0 x6, sc 0 v10] ?_
  refine srvM [9, 11] 3 44 [(2, I a2), (7, rf 0 0 3 x6), (9, .ptr 1 0 0), (16, A a1), (17, I ((a1.length : Int))), (18, I x5), (23, I ((x6.length : Int))), (24, E v10)] [sl 0 x6, sc 0 v10] ?_
  obtain ⟨v12, hv13, h⟩ := bindS h
  refine cF 25 (ok_impl_Part_takes hv13) ?_
  refine veM [9, 11] 2 44 [(2, I a2), (7, rf 0 0 3 x6), (9, .ptr 1 0 0), (10, I ((w64 (((x6.length : Int)) - v12)))), (16, A a1), (17, I ((a1.length : Int))), (18, I x5)] [sl 0 x6, sc 0 v10] ?_
  refine pwp_seq ?_
  refine ip 44 [(2, I a2), (7, rf 0 0 3 x6), (9, .ptr 1 0 0), (10, I ((w64 (((x6.length : Int)) - v12)))), (16, A a1), (17, I ((a1.length : Int))), (18, I x5)] [sl 0 x6, sc 0 v10] ?_
  refine pwp_imp (Imp.ghosts 1 (st' := ⟨44, [(2, I a2), (7, rf 0 0 3 x6), (9, .ptr 1 0 0), (10, I ((w64 (((x6.length : Int)) - v12)))), (16, A a1), (17, I ((a1.length : Int))), (18, I x5)], [sl 0 x6, sc 0 v10, some ⟨0, []⟩]⟩) (by kernel_rfl)) ?_
  refine pwp_any ([[1], [0], [], [0], [], [0], [2], [2]]) ([[], [], [], [], [], [], [2], [2]]) rfl (by kernel_rfl) ?_
  refine qvM [9, 11] [1] (hB trivial) 1 44 [(27, E v10), (2, I a2), (7, rf 0 0 3 x6), (10, I ((w64 (((x6.length : Int)) - v12)))), (16, A a1), (17, I ((a1.length : Int))), (18, I x5)] [sl 0 x6, sc 0 v10, some ⟨0, []⟩] ?_
  refine qvM [9, 11] [0] (hL trivial) 1 44 [(28, rf 0 0 3 x6), (27, E v10), (2, I a2), (7, rf 0 0 3 x6), (10, I ((w64 (((x6.length : Int)) - v12)))), (16, A a1), (17, I ((a1.length : Int))), (18, I x5)] [sl 0 x6, sc 0 v10, some ⟨0, []⟩] ?_
  refine qvM [9, 11] [] trivial 1 44 [(29, I ((w64 (((x6.length : Int)) - v12)))), (28, rf 0 0 3 x6), (27, E v10), (2, I a2), (7, rf 0 0 3 x6), (10, I ((w64 (((x6.length : Int)) - v12)))), (16, A a1), (17, I ((a1.length : Int))), (18, I x5)] [sl 0 x6, sc 0 v10, some ⟨0, []⟩] ?_
  obtain ⟨v14, hv15, h⟩ := bindS h
  refine qX (some 30) (.ref 0 0 ((w64 (((x6.length : Int)) - v12)).toNat * 3) 3 v14.length false) 44 [(30, .ref 0 0 ((w64 (((x6.length : Int)) - v12)).toNat * 3) 3 v14.length false), (27, E v10), (2, I a2), (7, rf 0 0 3 x6), (10, I ((w64 (((x6.length : Int)) - v12)))), (16, A a1), (17, I ((a1.length : Int))), (18, I x5)] [sl 0 x6, sc 0 v10, some ⟨0, []⟩] (fun Γ' hΓ => CoreE.of_y (slrV_sound (n := x6.length) τ_ok (by kernel_rfl) rfl hv15)) (hL trivial) ?_
  refine qvM [9, 11] [] trivial 1 44 [(31, I a2), (30, .ref 0 0 ((w64 (((x6.length : Int)) - v12)).toNat * 3) 3 v14.length false), (27, E v10), (2, I a2), (7, rf 0 0 3 x6), (10, I ((w64 (((x6.length : Int)) - v12)))), (16, A a1), (17, I ((a1.length : Int))), (18, I x5)] [sl 0 x6, sc 0 v10, some ⟨0, []⟩] ?_
  obtain ⟨v16, hv17, h⟩ := bindS h
  refine qX (some 32) (E v16) 44 [(32, E v16), (2, I a2), (7, rf 0 0 3 x6), (10, I ((w64 (((x6.length : Int)) - v12)))), (16, A a1), (17, I ((a1.length : Int))), (18, I x5)] [sl 0 x6, sc 0 v10, some ⟨0, []⟩] (fun Γ' hΓ => CoreE.of_g (callVV_sound (xs := [E v10, .ref 0 0 ((w64 (((x6.length : Int)) - v12)).toNat * 3) 3 v14.length false, I a2]) (τ := τ) (by kernel_rfl) (ViewL.cons (View.frz rfl) (ViewL.cons (View.ref (v := 0) (lo := (w64 (((x6.length : Int)) - v12)).toNat) x6 v14 (by kernel_rfl) (slI_view hv15) rfl) (ViewL.cons (View.frz rfl) (ViewL.nil _)))) (ok_impl_Part_find hv17) (Blind.E _ rfl rfl) (FzTo.frz rfl))) (hL trivial) ?_
  refine qX (Hm' := [none, none, some ⟨1, Enc.cells ((T_impl_must.mk false false false))⟩]) (some 11) (.ptr 2 1 0) 44 [(11, .ptr 2 1 0), (32, E v16), (2, I a2), (7, rf 0 0 3 x6), (10, I ((w64 (((x6.length : Int)) - v12)))), (16, A a1), (17, I ((a1.length : Int))), (18, I x5)] [sl 0 x6, sc 0 v10, some ⟨1, Enc.cells ((T_impl_must.mk false false false))⟩] (fun Γ' hΓ => alc_E (blk := ⟨0, []⟩) τ_ok [9, 11] 11 2 0 (ny hΓ hX) (by kernel_rfl) (by kernel_rfl)) (hB trivial) ?_
  refine qX (Hm' := [none, none, sc 1 v16]) none (.any) 44 [(11, .ptr 2 1 0), (2, I a2), (7, rf 0 0 3 x6), (10, I ((w64 (((x6.length : Int)) - v12)))), (16, A a1), (17, I ((a1.length : Int))), (18, I x5)] [sl 0 x6, sc 0 v10, sc 1 v16] (fun Γ' hΓ => sto_E τ_ok 2 1 (by kernel_rfl)) (hB trivial) ?_
  refine qn 44 [(2, I a2), (7, rf 0 0 3 x6), (10, I ((w64 (((x6.length : Int)) - v12)))), (11, .ptr 2 1 0), (16, A a1), (17, I ((a1.length : Int))), (18, I x5)] [sl 0 x6, sc 0 v10, sc 1 v16] ?_
  refine ip 44 [(2, I a2), (7, rf 0 0 3 x6), (10, I ((w64 (((x6.length : Int)) - v12)))), (11, .ptr 2 1 0), (16, A a1), (17, I ((a1.length : Int))), (18, I x5)] [sl 0 x6, sc 0 v10, sc 1 v16] ?_
  refine pwp_any ([[0], [], [0], [2], [], [0], [0]]) ([[], [], [], [], [], [0], []]) rfl (by kernel_rfl) ?_
  refine qvM [9, 11] [0] (hL trivial) 1 44 [(33, rf 0 0 3 x6), (2, I a2), (7, rf 0 0 3 x6), (10, I ((w64 (((x6.length : Int)) - v12)))), (11, .ptr 2 1 0), (16, A a1), (17, I ((a1.length : Int))), (18, I x5)] [sl 0 x6, sc 0 v10, sc 1 v16] ?_
  refine qvM [9, 11] [] trivial 1 44 [(34, I ((w64 (((x6.length : Int)) - v12)))), (33, rf 0 0 3 x6), (2, I a2), (7, rf 0 0 3 x6), (11, .ptr 2 1 0), (16, A a1), (17, I ((a1.length : Int))), (18, I x5)] [sl 0 x6, sc 0 v10, sc 1 v16] ?_
  obtain ⟨v18, hv19, h⟩ := bindS h
  refine qX (some 35) (rf 0 0 3 v18) 44 [(35, rf 0 0 3 v18), (2, I a2), (7, rf 0 0 3 x6), (11, .ptr 2 1 0), (16, A a1), (17, I ((a1.length : Int))), (18, I x5)] [sl 0 x6, sc 0 v10, sc 1 v16] (fun Γ' hΓ => CoreE.of_y (slrV_sound (n := x6.length) τ_ok (by kernel_rfl) rfl hv19)) (hL trivial) ?_
  refine qvM [9, 11] [2] (hB trivial) 1 44 [(36, E v16), (35, rf 0 0 3 v18), (2, I a2), (7, rf 0 0 3 x6), (16, A a1), (17, I ((a1.length : Int))), (18, I x5)] [sl 0 x6, sc 0 v10, sc 1 v16] ?_
  refine qvM [9, 11] [] trivial 1 44 [(37, .arr 3 (([v16] : List T_impl_must)).length (eL ([v16] : List T_impl_must)) true), (35, rf 0 0 3 v18), (2, I a2), (7, rf 0 0 3 x6), (16, A a1), (17, I ((a1.length : Int))), (18, I x5)] [sl 0 x6, sc 0 v10, sc 1 v16] ?_
  obtain ⟨v20, hv21, h⟩ := bindS h
  refine qX (some 38) (rf 0 1 3 v20) 44 [(38, rf 0 1 3 v20), (2, I a2), (7, rf 0 0 3 x6), (16, A a1), (17, I ((a1.length : Int))), (18, I x5)] [sl 1 v20, sc 0 v10, sc 1 v16] (fun Γ' hΓ => app_E τ_ok 38 0 0 v18.length (ny hΓ hX) hv21 (slI_le hv19) (by kernel_rfl)) (hL trivial) ?_
  refine qvnM [9, 11] [0] (hL trivial) 1 44 [(2, I a2), (7, rf 0 1 3 v20), (16, A a1), (17, I ((a1.length : Int))), (18, I x5)] [sl 1 v20, sc 0 v10, sc 1 v16] ?_
  refine rveM [9, 11] 44 [(2, I a2), (7, rf 0 1 3 v20), (16, A a1), (17, I ((a1.length : Int))), (18, I ((w64 (x5 + 1))))] [sl 1 v20, sc 0 v10, sc 1 v16] ?_
  exact ⟨(f7, (w64 (x5 + 1)), v20), h, Nat.lt_succ_self _, (it (st' := ⟨44, [(2, I a2), (7, rf 0 1 3 v20), (16, A a1), (17, I ((a1.length : Int))), (18, I ((w64 (x5 + 1))))], [sl 1 v20, sc 0 v10, sc 1 v16]⟩) [2, 7, 16, 17, 18]).trans ((Imp.truncS (st' := ⟨44, [(2, I a2), (7, rf 0 1 3 v20), (16, A a1), (17, I ((a1.length : Int))), (18, I ((w64 (x5 + 1))))], [sl 1 v20]⟩) 1 (nx hX) (by kernel_rfl) (allBelow_mem (by exact (And.intro rfl (And.intro rfl (And.intro rfl (And.intro rfl (And.intro rfl trivial))))))) (by exact (And.intro (frz_below (eL_frz _)) trivial)) (by kernel_rfl)).trans (Imp.reverS 0 1 (eL v20) [2, 7, 16, 17, 18] (by kernel_rfl) (by exact (And.intro (eL_frz _) trivial)) (by kernel_rfl)))⟩
  refine pwp_exit ?_
  refine srvM [9, 11] 1 44 [(40, rf 0 0 3 x6)] [sl 0 x6] ?_
  obtain ⟨v22, hv23, h⟩ := bindS h
  refine opsP_idr τ_ok 41 0 0 x6.length hv23 rfl (by kernel_rfl) ?_
  refine vM [9, 11] 1 44 [(42, .ptr 0 0 (((0 : Int)).toNat * 3 + 1))] [sl 0 x6] ?_
  refine opsP_lde (r := B v22.fNotTrue) τ_ok 43 4 1 hv23 (by kernel_rfl) (by kernel_rfl) ?_
  refine veM [9, 11] 1 44 [(6, B v22.fNotTrue)] [sl 0 x6] ?_
  cases h
  exact pwp_ret rz
def impl_exprValue_l0 (a0 : List T_impl_Value) (a1 : List T_impl_Part) : Nat → Int → (List T_impl_Value) → Option T_impl_Value
  | 0, _, _ => none
  | f5 + 1, x3, x4 => bif (decide (x3 < ((a1.length : Int)))) then (getI a1 x3).bind fun v8 => (impl_Part_takes v8).bind fun v10 => (slI x4 (some ((w64 (((x4.length : Int)) - v10)))) none none).bind fun v12 => (impl_Part_value v8 a0 v12).bind fun v14 => (slI x4 none (some ((w64 (((x4.length : Int)) - v10)))) none).bind fun v16 => (appT x4 (([v14] : List T_impl_Value)) v16.length).bind fun v18 => (impl_exprValue_l0 a0 a1 f5) ((w64 (x3 + 1))) v18 else (getI x4 ((0 : Int))).bind fun v20 => some v20
def impl_exprValue (a0 : List T_impl_Value) (a1 : List T_impl_Part) : Option T_impl_Value := impl_exprValue_l0 a0 a1 FUEL 0 (([] : List T_impl_Value))
theorem ok_impl_exprValue {a0 : List T_impl_Value} {a1 : List T_impl_Part} {y : T_impl_Value} (h : impl_exprValue a0 a1 = some y) : OK Try.prog 51 [A a0, A a1] (E y) := by
  refine ow Try.func51 fun Γ hX => ?_
  unfold impl_exprValue at h
  refine srveM [4, 7, 9] 37 [(0, A a0), (1, A a1), (4, .ptr 0 0 0)] [some ⟨0, Enc.cells ((T_impl_Value.mk 0 0 (ByteArray.mk #[])))⟩] ?_
  refine srveM [4, 7, 9] 37 [(0, A a0), (1, A a1), (4, .ptr 0 0 0), (5, .arr 3 0 (eL ([] : List T_impl_Value)) true)] [some ⟨0, Enc.cells ((T_impl_Value.mk 0 0 (ByteArray.mk #[])))⟩] ?_
  refine pwp_seq ?_
  refine srveM [4, 7, 9] 37 [(0, A a0), (4, .ptr 0 0 0), (5, .arr 3 0 (eL ([] : List T_impl_Value)) true), (10, A a1), (11, I ((a1.length : Int))), (12, I 0)] [some ⟨0, Enc.cells ((T_impl_Value.mk 0 0 (ByteArray.mk #[])))⟩] ?_
  refine pwp_block ?_
  refine pwp_loop (ι := Nat × Int × (List T_impl_Value)) (fun (f5, x3, x4) => (⟨37, [(0, A a0), (4, .ptr 0 0 0), (5, rf 1 0 3 x4), (10, A a1), (11, I ((a1.length : Int))), (12, I x3)], [some ⟨0, Enc.cells ((T_impl_Value.mk 0 0 (ByteArray.mk #[])))⟩, sl 0 x4]⟩ : St)) (fun (f5, x3, x4) => impl_exprValue_l0 a0 a1 f5 x3 x4 = some y) Prod.fst (FUEL, 0, ([] : List T_impl_Value)) h (Imp.thawS 5 [0, 4, 5, 10, 11, 12] (by kernel_rfl)) ?_
  rintro ⟨f5, x3, x4⟩ h
  dsimp only at h ⊢
  rcases f5 with _ | f5
  cases h
  rw [impl_exprValue_l0] at h
  refine srveM [4, 7, 9] 37 [(0, A a0), (4, .ptr 0 0 0), (5, rf 1 0 3 x4), (10, A a1), (11, I ((a1.length : Int))), (12, I x3), (13, B ((decide (x3 < ((a1.length : Int))))))] [some ⟨0, Enc.cells ((T_impl_Value.mk 0 0 (ByteArray.mk #[])))⟩, sl 0 x4] ?_
  refine pwp_seq ?_
  refine pc h (fun h => ?_) (fun h => ?_)
  refine pwp_skip ?_
  refine pwp_seq ?_
  refine pwp_block ?_
  refine pwp_seq ?_
  refine pwp_region ?_
  obtain ⟨v8, hv9, h⟩ := bindS h
  refine opsP_idx τ_ok 14 hv9 (by kernel_rfl) ?_
  refine veM [4, 7, 9] 3 37 [(0, A a0), (4, .ptr 0 0 0), (5, rf 1 0 3 x4), (7, .ptr 2 0 0), (10, A a1), (11, I ((a1.length : Int))), (12, I x3)] [some ⟨0, Enc.cells ((T_impl_Value.mk 0 0 (ByteArray.mk #[])))⟩, sl 0 x4, sc 0 v8] ?_
  refine srvM [4, 7, 9] 3 37 [(0, A a0), (4, .ptr 0 0 0), (5, rf 1 0 3 x4), (7, .ptr 2 0 0), (10, A a1), (11, I ((a1.length : Int))), (12, I x3), (17, I ((x4.length : Int))), (18, E v8)] [some ⟨0, Enc.cells ((T_impl_Value.mk 0 0 (ByteArray.mk #[])))⟩, sl 0 x4, sc 0 v8] ?_
  obtain ⟨v10, hv11, h⟩ := bindS h
  refine cF 19 (ok_impl_Part_takes hv11) ?_
  refine veM [4, 7, 9] 2 37 [(0, A a0), (4, .ptr 0 0 0), (5, rf 1 0 3 x4), (7, .ptr 2 0 0), (8, I ((w64 (((x4.length : Int)) - v10)))), (10, A a1), (11, I ((a1.length : Int))), (12, I x3)] [some ⟨0, Enc.cells ((T_impl_Value.mk 0 0 (ByteArray.mk #[])))⟩, sl 0 x4, sc 0 v8] ?_
  refine pwp_seq ?_
  refine ip 37 [(0, A a0), (4, .ptr 0 0 0), (5, rf 1 0 3 x4), (7, .ptr 2 0 0), (8, I ((w64 (((x4.length : Int)) - v10)))), (10, A a1), (11, I ((a1.length : Int))), (12, I x3)] [some ⟨0, Enc.cells ((T_impl_Value.mk 0 0 (ByteArray.mk #[])))⟩, sl 0 x4, sc 0 v8] ?_
  refine pwp_imp (Imp.ghosts 1 (st' := ⟨37, [(0, A a0), (4, .ptr 0 0 0), (5, rf 1 0 3 x4), (7, .ptr 2 0 0), (8, I ((w64 (((x4.length : Int)) - v10)))), (10, A a1), (11, I ((a1.length : Int))), (12, I x3)], [some ⟨0, Enc.cells ((T_impl_Value.mk 0 0 (ByteArray.mk #[])))⟩, sl 0 x4, sc 0 v8, some ⟨0, []⟩]⟩) (by kernel_rfl)) ?_
  refine pwp_any ([[2], [], [1], [], [1], [1], [3], [3]]) ([[], [], [], [], [], [], [3], [3]]) rfl (by kernel_rfl) ?_
  refine qvM [4, 7, 9] [2] (hB trivial) 1 37 [(21, E v8), (0, A a0), (4, .ptr 0 0 0), (5, rf 1 0 3 x4), (8, I ((w64 (((x4.length : Int)) - v10)))), (10, A a1), (11, I ((a1.length : Int))), (12, I x3)] [some ⟨0, Enc.cells ((T_impl_Value.mk 0 0 (ByteArray.mk #[])))⟩, sl 0 x4, sc 0 v8, some ⟨0, []⟩] ?_
  refine qvM [4, 7, 9] [] trivial 1 37 [(22, A a0), (21, E v8), (0, A a0), (4, .ptr 0 0 0), (5, rf 1 0 3 x4), (8, I ((w64 (((x4.length : Int)) - v10)))), (10, A a1), (11, I ((a1.length : Int))), (12, I x3)] [some ⟨0, Enc.cells ((T_impl_Value.mk 0 0 (ByteArray.mk #[])))⟩, sl 0 x4, sc 0 v8, some ⟨0, []⟩] ?_
  refine qvM [4, 7, 9] [1] (hL trivial) 1 37 [(23, rf 1 0 3 x4), (22, A a0), (21, E v8), (0, A a0), (4, .ptr 0 0 0), (5, rf 1 0 3 x4), (8, I ((w64 (((x4.length : Int)) - v10)))), (10, A a1), (11, I ((a1.length : Int))), (12, I x3)] [some ⟨0, Enc.cells ((T_impl_Value.mk 0 0 (ByteArray.mk #[])))⟩, sl 0 x4, sc 0 v8, some ⟨0, []⟩] ?_
  refine qvM [4, 7, 9] [] trivial 1 37 [(24, I ((w64 (((x4.length : Int)) - v10)))), (23, rf 1 0 3 x4), (22, A a0), (21, E v8), (0, A a0), (4, .ptr 0 0 0), (5, rf 1 0 3 x4), (8, I ((w64 (((x4.length : Int)) - v10)))), (10, A a1), (11, I ((a1.length : Int))), (12, I x3)] [some ⟨0, Enc.cells ((T_impl_Value.mk 0 0 (ByteArray.mk #[])))⟩, sl 0 x4, sc 0 v8, some ⟨0, []⟩] ?_
  obtain ⟨v12, hv13, h⟩ := bindS h
  refine qX (some 25) (.ref 1 0 ((w64 (((x4.length : Int)) - v10)).toNat * 3) 3 v12.length false) 37 [(25, .ref 1 0 ((w64 (((x4.length : Int)) - v10)).toNat * 3) 3 v12.length false), (22, A a0), (21, E v8), (0, A a0), (4, .ptr 0 0 0), (5, rf 1 0 3 x4), (8, I ((w64 (((x4.length : Int)) - v10)))), (10, A a1), (11, I ((a1.length : Int))), (12, I x3)] [some ⟨0, Enc.cells ((T_impl_Value.mk 0 0 (ByteArray.mk #[])))⟩, sl 0 x4, sc 0 v8, some ⟨0, []⟩] (fun Γ' hΓ => CoreE.of_y (slrV_sound (n := x4.length) τ_ok (by kernel_rfl) rfl hv13)) (hL trivial) ?_
  obtain ⟨v14, hv15, h⟩ := bindS h
  refine qX (some 26) (E v14) 37 [(26, E v14), (0, A a0), (4, .ptr 0 0 0), (5, rf 1 0 3 x4), (8, I ((w64 (((x4.length : Int)) - v10)))), (10, A a1), (11, I ((a1.length : Int))), (12, I x3)] [some ⟨0, Enc.cells ((T_impl_Value.mk 0 0 (ByteArray.mk #[])))⟩, sl 0 x4, sc 0 v8, some ⟨0, []⟩] (fun Γ' hΓ => CoreE.of_g (callVV_sound (xs := [E v8, A a0, .ref 1 0 ((w64 (((x4.length : Int)) - v10)).toNat * 3) 3 v12.length false]) (τ := τ) (by kernel_rfl) (ViewL.cons (View.frz rfl) (ViewL.cons (View.frz rfl) (ViewL.cons (View.ref (v := 0) (lo := (w64 (((x4.length : Int)) - v10)).toNat) x4 v12 (by kernel_rfl) (slI_view hv13) rfl) (ViewL.nil _)))) (ok_impl_Part_value hv15) (Blind.E _ rfl rfl) (FzTo.frz rfl))) (hL trivial) ?_
  refine qX (Hm' := [none, none, none, some ⟨1, Enc.cells ((T_impl_Value.mk 0 0 (ByteArray.mk #[])))⟩]) (some 9) (.ptr 3 1 0) 37 [(9, .ptr 3 1 0), (26, E v14), (0, A a0), (4, .ptr 0 0 0), (5, rf 1 0 3 x4), (8, I ((w64 (((x4.length : Int)) - v10)))), (10, A a1), (11, I ((a1.length : Int))), (12, I x3)] [some ⟨0, Enc.cells ((T_impl_Value.mk 0 0 (ByteArray.mk #[])))⟩, sl 0 x4, sc 0 v8, some ⟨1, Enc.cells ((T_impl_Value.mk 0 0 (ByteArray.mk #[])))⟩] (fun Γ' hΓ => alc_E (blk := ⟨0, []⟩) τ_ok [4, 7, 9] 9 3 0 (ny hΓ hX) (by kernel_rfl) (by kernel_rfl)) (hB trivial) ?_
  refine qX (Hm' := [none, none, none, sc 1 v14]) none (.any) 37 [(9, .ptr 3 1 0), (0, A a0), (4, .ptr 0 0 0), (5, rf 1 0 3 x4), (8, I ((w64 (((x4.length : Int)) - v10)))), (10, A a1), (11, I ((a1.length : Int))), (12, I x3)] [some ⟨0, Enc.cells ((T_impl_Value.mk 0 0 (ByteArray.mk #[])))⟩, sl 0 x4, sc 0 v8, sc 1 v14] (fun Γ' hΓ => sto_E τ_ok 3 1 (by kernel_rfl)) (hB trivial) ?_
  refine qn 37 [(0, A a0), (4, .ptr 0 0 0), (5, rf 1 0 3 x4), (8, I ((w64 (((x4.length : Int)) - v10)))), (9, .ptr 3 1 0), (10, A a1), (11, I ((a1.length : Int))), (12, I x3)] [some ⟨0, Enc.cells ((T_impl_Value.mk 0 0 (ByteArray.mk #[])))⟩, sl 0 x4, sc 0 v8, sc 1 v14] ?_
  refine ip 37 [(0, A a0), (4, .ptr 0 0 0), (5, rf 1 0 3 x4), (8, I ((w64 (((x4.length : Int)) - v10)))), (9, .ptr 3 1 0), (10, A a1), (11, I ((a1.length : Int))), (12, I x3)] [some ⟨0, Enc.cells ((T_impl_Value.mk 0 0 (ByteArray.mk #[])))⟩, sl 0 x4, sc 0 v8, sc 1 v14] ?_
  refine pwp_any ([[1], [], [1], [3], [], [1], [1]]) ([[], [], [], [], [], [1], []]) rfl (by kernel_rfl) ?_
  refine qvM [4, 7, 9] [1] (hL trivial) 1 37 [(27, rf 1 0 3 x4), (0, A a0), (4, .ptr 0 0 0), (5, rf 1 0 3 x4), (8, I ((w64 (((x4.length : Int)) - v10)))), (9, .ptr 3 1 0), (10, A a1), (11, I ((a1.length : Int))), (12, I x3)] [some ⟨0, Enc.cells ((T_impl_Value.mk 0 0 (ByteArray.mk #[])))⟩, sl 0 x4, sc 0 v8, sc 1 v14] ?_
  refine qvM [4, 7, 9] [] trivial 1 37 [(28, I ((w64 (((x4.length : Int)) - v10)))), (27, rf 1 0 3 x4), (0, A a0), (4, .ptr 0 0 0), (5, rf 1 0 3 x4), (9, .ptr 3 1 0), (10, A a1), (11, I ((a1.length : Int))), (12, I x3)] [some ⟨0, Enc.cells ((T_impl_Value.mk 0 0 (ByteArray.mk #[])))⟩, sl 0 x4, sc 0 v8, sc 1 v14] ?_
  obtain ⟨v16, hv17, h⟩ := bindS h
  refine qX (some 29) (rf 1 0 3 v16) 37 [(29, rf 1 0 3 v16), (0, A a0), (4, .ptr 0 0 0), (5, rf 1 0 3 x4), (9, .ptr 3 1 0), (10, A a1), (11, I ((a1.length : Int))), (12, I x3)] [some ⟨0, Enc.cells ((T_impl_Value.mk 0 0 (ByteArray.mk #[])))⟩, sl 0 x4, sc 0 v8, sc 1 v14] (fun Γ' hΓ => CoreE.of_y (slrV_sound (n := x4.length) τ_ok (by kernel_rfl) rfl hv17)) (hL trivial) ?_
  refine qvM [4, 7, 9] [3] (hB trivial) 1 37 [(30, E v14), (29, rf 1 0 3 v16), (0, A a0), (4, .ptr 0 0 0), (5, rf 1 0 3 x4), (10, A a1), (11, I ((a1.length : Int))), (12, I x3)] [some ⟨0, Enc.cells ((T_impl_Value.mk 0 0 (ByteArray.mk #[])))⟩, sl 0 x4, sc 0 v8, sc 1 v14] ?_
  refine qvM [4, 7, 9] [] trivial 1 37 [(31, .arr 3 (([v14] : List T_impl_Value)).length (eL ([v14] : List T_impl_Value)) true), (29, rf 1 0 3 v16), (0, A a0), (4, .ptr 0 0 0), (5, rf 1 0 3 x4), (10, A a1), (11, I ((a1.length : Int))), (12, I x3)] [some ⟨0, Enc.cells ((T_impl_Value.mk 0 0 (ByteArray.mk #[])))⟩, sl 0 x4, sc 0 v8, sc 1 v14] ?_
  obtain ⟨v18, hv19, h⟩ := bindS h
  refine qX (some 32) (rf 1 1 3 v18) 37 [(32, rf 1 1 3 v18), (0, A a0), (4, .ptr 0 0 0), (5, rf 1 0 3 x4), (10, A a1), (11, I ((a1.length : Int))), (12, I x3)] [some ⟨0, Enc.cells ((T_impl_Value.mk 0 0 (ByteArray.mk #[])))⟩, sl 1 v18, sc 0 v8, sc 1 v14] (fun Γ' hΓ => app_E τ_ok 32 1 0 v16.length (ny hΓ hX) hv19 (slI_le hv17) (by kernel_rfl)) (hL trivial) ?_
  refine qvnM [4, 7, 9] [1] (hL trivial) 1 37 [(0, A a0), (4, .ptr 0 0 0), (5, rf 1 1 3 v18), (10, A a1), (11, I ((a1.length : Int))), (12, I x3)] [some ⟨0, Enc.cells ((T_impl_Value.mk 0 0 (ByteArray.mk #[])))⟩, sl 1 v18, sc 0 v8, sc 1 v14] ?_
  refine rveM [4, 7, 9] 37 [(0, A a0), (4, .ptr 0 0 0), (5, rf 1 1 3 v18), (10, A a1), (11, I ((a1.length : Int))), (12, I ((w64 (x3 + 1))))] [some ⟨0, Enc.cells ((T_impl_Value.mk 0 0 (ByteArray.mk #[])))⟩, sl 1 v18, sc 0 v8, sc 1 v14] ?_
  exact ⟨(f5, (w64 (x3 + 1)), v18), h, Nat.lt_succ_self _, (it (st' := ⟨37, [(0, A a0), (4, .ptr 0 0 0), (5, rf 1 1 3 v18), (10, A a1), (11, I ((a1.length : Int))), (12, I ((w64 (x3 + 1))))], [some ⟨0, Enc.cells ((T_impl_Value.mk 0 0 (ByteArray.mk #[])))⟩, sl 1 v18, sc 0 v8, sc 1 v14]⟩) [0, 4, 5, 10, 11, 12]).trans ((Imp.truncS (st' := ⟨37, [(0, A a0), (4, .ptr 0 0 0), (5, rf 1 1 3 v18), (10, A a1), (11, I ((a1.length : Int))), (12, I ((w64 (x3 + 1))))], [some ⟨0, Enc.cells ((T_impl_Value.mk 0 0 (ByteArray.mk #[])))⟩, sl 1 v18]⟩) 2 (nx hX) (by kernel_rfl) (allBelow_mem (by exact (And.intro rfl (And.intro rfl (And.intro rfl (And.intro rfl (And.intro rfl (And.intro rfl trivial)))))))) (by exact (And.intro (rfl) (And.intro (frz_below (eL_frz _)) trivial))) (by kernel_rfl)).trans (Imp.reverS 1 1 (eL v18) [0, 4, 5, 10, 11, 12] (by kernel_rfl) (by exact (And.intro (rfl) (And.intro (eL_frz _) trivial))) (by kernel_rfl)))⟩
  refine pwp_exit ?_
  refine srvM [4, 7, 9] 1 37 [(4, .ptr 0 0 0), (34, rf 1 0 3 x4)] [some ⟨0, Enc.cells ((T_impl_Value.mk 0 0 (ByteArray.mk #[])))⟩, sl 0 x4] ?_
  obtain ⟨v20, hv21, h⟩ := bindS h
  refine opsP_idr τ_ok 35 1 0 x4.length hv21 rfl (by kernel_rfl) ?_
  refine opsP_lde (r := E v20) τ_ok 36 45 0 hv21 (by kernel_rfl) (by kernel_rfl) ?_
  refine veM [4, 7, 9] 1 37 [(4, .ptr 0 0 0)] [sc 0 v20, sl 0 x4] ?_
  cases h
  exact pwp_ret rz
def spec_l20Pair_j0 (v7 : List T_impl_Column) (v15 : List T_impl_Column) (v19 : Int × T_spec_l20Rd) (v21 : T_impl_Column) (v23 : T_impl_Column) (v29 : List (List T_impl_Value)) (x33 : Int) (x34 : Int) (x35 : T_spec_l20Rd) (x36 : List (List T_impl_Value)) : Option (((List T_impl_Column) × (List T_impl_Column) × (List (List T_impl_Value)) × (List (List T_impl_Value)) × Int × Int) × T_spec_l20Rd) := some ((v7, (v15.set v19.1.toNat (({ v23 with fKind := v21.fKind } : T_impl_Column))), v29, x36, x33, x34), x35)
def spec_l20Pair (a0 : T_spec_l20Rd) (a1 : Int) : Option (((List T_impl_Column) × (List T_impl_Column) × (List (List T_impl_Value)) × (List (List T_impl_Value)) × Int × Int) × T_spec_l20Rd) := (spec_l20Columns a0 0).bind fun v1 => (spec_l20Rd_pick v1.2 2).bind fun v3 => (remI v3.1 ((v1.1.length : Int))).bind fun v5 => (slI v1.1 none (some ((w64 (1 + v5)))) none).bind fun v7 => (spec_l20Columns v3.2 0).bind fun v9 => (spec_l20Rd_pick v9.2 2).bind fun v11 => (remI v11.1 ((v9.1.length : Int))).bind fun v13 => (slI v9.1 none (some ((w64 (1 + v13)))) none).bind fun v15 => (spec_l20Rd_pick v11.2 ((v7.length : Int))).bind fun v17 => (spec_l20Rd_pick v17.2 ((v15.length : Int))).bind fun v19 => (getI v7 v17.1).bind fun v21 => (getI v15 v19.1).bind fun v23 => (spec_l20Bag v19.2 v7 0).bind fun v25 => (spec_l20Bag v25.2 v7 0).bind fun v27 => (app v25.1 v27.1).bind fun v29 => (spec_l20Bag_L1 v27.2 ((v15.set v19.1.toNat (({ v23 with fKind := v21.fKind } : T_impl_Column)))) 0).bind fun v31 => (spec_l20Rd_odd v31.2 a1).bind fun v37 => bif v37.1 then (spec_l20Rd_pick v37.2 3).bind fun v40 => bif (v40.1 == 0) then (spec_l20Rd_pick v40.2 6).bind fun v43 => spec_l20Pair_j0 v7 v15 v19 v21 v23 v29 ((w64 (v43.1 - 1))) v19.1 v43.2 v31.1 else bif (v40.1 == 1) then (app v31.1 (([[(T_impl_Value.mk 7 0 (ByteArray.mk #[]))]] : List (List T_impl_Value)))).bind fun v46 => spec_l20Pair_j0 v7 v15 v19 v21 v23 v29 v17.1 v19.1 v40.2 v46 else (spec_l20Rd_pick v40.2 6).bind fun v48 => spec_l20Pair_j0 v7 v15 v19 v21 v23 v29 v17.1 ((w64 (v48.1 - 1))) v48.2 v31.1 else spec_l20Pair_j0 v7 v15 v19 v21 v23 v29 v17.1 v19.1 v37.2 v31.1
theorem ok_spec_l20Pair {a0 : T_spec_l20Rd} {a1 : Int} {y : ((List T_impl_Column) × (List T_impl_Column) × (List (List T_impl_Value)) × (List (List T_impl_Value)) × Int × Int) × T_spec_l20Rd} (h : spec_l20Pair a0 a1 = some y) : OKb Try.prog 70 (Enc.cells a0) [I a1] (.tup [A y.1.1, O y.1.2.1, O y.1.2.2.1, O y.1.2.2.2.1, I y.1.2.2.2.2.1, I y.1.2.2.2.2.2]) (Enc.cells y.2) := by
  refine OKb_of_pwp τ_ok Try.func70 rfl (by kernel_rfl) rfl (Enc.frz _) (Enc.frz _) fun Γ hQ => ?_
  unfold spec_l20Pair at h
  refine srve 89 [(0, .ptr 0 0 0), (1, I a1)] [sc 0 a0] ?_
  refine srv 1 89 [(0, .ptr 0 0 0), (1, I a1), (16, .ptr 0 0 0)] [sc 0 a0] ?_
  obtain ⟨v1, hv2, h⟩ := bindS h
  refine cBo 17 0 0 (ok_spec_l20Columns hv2) ?_
  refine ve 1 89 [(0, .ptr 0 0 0), (1, I a1), (10, A v1.1)] [sc 0 v1.2] ?_
  refine srv 2 89 [(0, .ptr 0 0 0), (1, I a1), (10, A v1.1), (18, A v1.1), (19, .ptr 0 0 0)] [sc 0 v1.2] ?_
  obtain ⟨v3, hv4, h⟩ := bindS h
  refine cB 20 0 0 (ok_spec_l20Rd_pick hv4) ?_
  refine v 2 89 [(0, .ptr 0 0 0), (1, I a1), (18, A v1.1), (20, I v3.1), (22, I ((v1.1.length : Int)))] [sc 0 v3.2] ?_
  obtain ⟨v5, hv6, h⟩ := bindS h
  refine opsP_div τ_ok (r := true) 23 hv6 (by kernel_rfl) ?_
  refine v 1 89 [(0, .ptr 0 0 0), (1, I a1), (18, A v1.1), (24, I ((w64 (1 + v5))))] [sc 0 v3.2] ?_
  obtain ⟨v7, hv8, h⟩ := bindS h
  refine opsP_slc τ_ok 25 hv8 (by kernel_rfl) ?_
  refine ve 1 89 [(0, .ptr 0 0 0), (1, I a1), (10, A v7)] [sc 0 v3.2] ?_
  refine srv 1 89 [(0, .ptr 0 0 0), (1, I a1), (10, A v7), (26, .ptr 0 0 0)] [sc 0 v3.2] ?_
  obtain ⟨v9, hv10, h⟩ := bindS h
  refine opsP_E (dd := some 27) (x := rf 1 0 2 v9.1) (callBN_E τ 27 0 0 1 (by first | exact pn hQ | exact pk hQ) (by decide) (ok_spec_l20Columns hv10) rfl (by kernel_rfl) (by kernel_rfl)) ?_
  refine ve 1 89 [(0, .ptr 0 0 0), (1, I a1), (10, A v7), (11, rf 1 0 2 v9.1)] [sc 0 v9.2, sl 0 v9.1] ?_
  refine srv 2 89 [(0, .ptr 0 0 0), (1, I a1), (10, A v7), (11, rf 1 0 2 v9.1), (28, rf 1 0 2 v9.1), (29, .ptr 0 0 0)] [sc 0 v9.2, sl 0 v9.1] ?_
  obtain ⟨v11, hv12, h⟩ := bindS h
  refine cB 30 0 0 (ok_spec_l20Rd_pick hv12) ?_
  refine v 2 89 [(0, .ptr 0 0 0), (1, I a1), (10, A v7), (28, rf 1 0 2 v9.1), (30, I v11.1), (32, I ((v9.1.length : Int)))] [sc 0 v11.2, sl 0 v9.1] ?_
  obtain ⟨v13, hv14, h⟩ := bindS h
  refine opsP_div τ_ok (r := true) 33 hv14 (by kernel_rfl) ?_
  refine v 1 89 [(0, .ptr 0 0 0), (1, I a1), (10, A v7), (28, rf 1 0 2 v9.1), (34, I ((w64 (1 + v13))))] [sc 0 v11.2, sl 0 v9.1] ?_
  obtain ⟨v15, hv16, h⟩ := bindS h
  refine opsP_slr τ_ok 35 1 0 v9.1.length hv16 rfl (by kernel_rfl) ?_
  refine ve 1 89 [(0, .ptr 0 0 0), (1, I a1), (10, A v7), (11, rf 1 0 2 v15)] [sc 0 v11.2, sl 0 v9.1] ?_
  refine srv 3 89 [(0, .ptr 0 0 0), (1, I a1), (10, A v7), (11, rf 1 0 2 v15), (36, .ptr 0 0 0), (38, I ((v7.length : Int)))] [sc 0 v11.2, sl 0 v9.1] ?_
  obtain ⟨v17, hv18, h⟩ := bindS h
  refine cB 39 0 0 (ok_spec_l20Rd_pick hv18) ?_
  refine ve 1 89 [(0, .ptr 0 0 0), (1, I a1), (10, A v7), (11, rf 1 0 2 v15), (12, I v17.1)] [sc 0 v17.2, sl 0 v9.1] ?_
  refine srv 3 89 [(0, .ptr 0 0 0), (1, I a1), (10, A v7), (11, rf 1 0 2 v15), (12, I v17.1), (40, .ptr 0 0 0), (42, I ((v15.length : Int)))] [sc 0 v17.2, sl 0 v9.1] ?_
  obtain ⟨v19, hv20, h⟩ := bindS h
  refine cB 43 0 0 (ok_spec_l20Rd_pick hv20) ?_
  refine ve 1 89 [(0, .ptr 0 0 0), (1, I a1), (10, A v7), (11, rf 1 0 2 v15), (12, I v17.1), (13, I v19.1)] [sc 0 v19.2, sl 0 v9.1] ?_
  refine srv 4 89 [(0, .ptr 0 0 0), (1, I a1), (10, A v7), (11, rf 1 0 2 v15), (12, I v17.1), (13, I v19.1), (44, rf 1 0 2 v15), (45, I v19.1), (46, A v7), (47, I v17.1)] [sc 0 v19.2, sl 0 v9.1] ?_
  obtain ⟨v21, hv22, h⟩ := bindS h
  refine opsP_idx τ_ok 48 hv22 (by kernel_rfl) ?_
  refine v 2 89 [(0, .ptr 0 0 0), (1, I a1), (10, A v7), (11, rf 1 0 2 v15), (12, I v17.1), (13, I v19.1), (44, rf 1 0 2 v15), (45, I v19.1), (50, I v21.fKind)] [sc 0 v19.2, sl 0 v9.1] ?_
  obtain ⟨v23, hv24, h⟩ := bindS h
  refine opsP_idr τ_ok 51 1 0 v15.length hv24 rfl (by kernel_rfl) ?_
  refine v 1 89 [(0, .ptr 0 0 0), (1, I a1), (10, A v7), (11, rf 1 0 2 v15), (12, I v17.1), (13, I v19.1), (50, I v21.fKind), (52, .ptr 1 0 (v19.1.toNat * 2))] [sc 0 v19.2, sl 0 v9.1] ?_
  refine opsP_E (dd := none) (x := .any) (ste_E (vs := [I v21.fKind]) τ_ok 3 1 0 0 (({ v23 with fKind := v21.fKind } : T_impl_Column)) (getI_part0 hv16 hv24) (by kernel_rfl) (by kernel_rfl) (by kernel_rfl)) ?_
  refine io 89 [(0, .ptr 0 0 0), (1, I a1), (10, A v7), (11, rf 1 0 2 v15), (12, I v17.1), (13, I v19.1), (50, I v21.fKind), (52, .ptr 1 0 (v19.1.toNat * 2))] [sc 0 v19.2, some ⟨0, eL ((v9.1.set v19.1.toNat (({ v23 with fKind := v21.fKind } : T_impl_Column))))⟩] ?_
  refine opsP_imp (Imp.of_eq (st' := ⟨89, [(0, .ptr 0 0 0), (1, I a1), (10, A v7), (11, .ref 1 0 0 2 ((v15.set v19.1.toNat (({ v23 with fKind := v21.fKind } : T_impl_Column)))).length false), (12, I v17.1), (13, I v19.1), (50, I v21.fKind), (52, .ptr 1 0 (v19.1.toNat * 2))], [sc 0 v19.2, some ⟨0, eL ((v9.1.set v19.1.toNat (({ v23 with fKind := v21.fKind } : T_impl_Column))))⟩]⟩) (by simp only [List.length_set])) ?_
  refine ve 0 89 [(0, .ptr 0 0 0), (1, I a1), (10, A v7), (11, .ref 1 0 0 2 ((v15.set v19.1.toNat (({ v23 with fKind := v21.fKind } : T_impl_Column)))).length false), (12, I v17.1), (13, I v19.1)] [sc 0 v19.2, some ⟨0, eL ((v9.1.set v19.1.toNat (({ v23 with fKind := v21.fKind } : T_impl_Column))))⟩] ?_
  refine srv 2 89 [(0, .ptr 0 0 0), (1, I a1), (10, A v7), (11, .ref 1 0 0 2 ((v15.set v19.1.toNat (({ v23 with fKind := v21.fKind } : T_impl_Column)))).length false), (12, I v17.1), (13, I v19.1), (53, .ptr 0 0 0), (54, A v7)] [sc 0 v19.2, some ⟨0, eL ((v9.1.set v19.1.toNat (({ v23 with fKind := v21.fKind } : T_impl_Column))))⟩] ?_
  obtain ⟨v25, hv26, h⟩ := bindS h
  refine opsP_E (dd := some 55) (x := rf 2 0 1 v25.1) (callBN_E τ 55 0 0 2 (by first | exact pn hQ | exact pk hQ) (by decide) (ok_spec_l20Bag hv26) rfl (by kernel_rfl) (by kernel_rfl)) ?_
  refine v 2 89 [(0, .ptr 0 0 0), (1, I a1), (10, A v7), (11, .ref 1 0 0 2 ((v15.set v19.1.toNat (({ v23 with fKind := v21.fKind } : T_impl_Column)))).length false), (12, I v17.1), (13, I v19.1), (55, rf 2 0 1 v25.1), (56, .ptr 0 0 0), (57, A v7)] [sc 0 v25.2, some ⟨0, eL ((v9.1.set v19.1.toNat (({ v23 with fKind := v21.fKind } : T_impl_Column))))⟩, sl 0 v25.1] ?_
  obtain ⟨v27, hv28, h⟩ := bindS h
  refine cBo 58 0 0 (ok_spec_l20Bag hv28) ?_
  obtain ⟨v29, hv30, h⟩ := bindS h
  refine opsP_app τ_ok 59 2 0 (pn hQ) hv30 (by kernel_rfl) ?_
  refine ve 1 89 [(0, .ptr 0 0 0), (1, I a1), (10, A v7), (11, .ref 1 0 0 2 ((v15.set v19.1.toNat (({ v23 with fKind := v21.fKind } : T_impl_Column)))).length false), (12, I v17.1), (13, I v19.1), (14, rf 2 1 1 v29)] [sc 0 v27.2, some ⟨0, eL ((v9.1.set v19.1.toNat (({ v23 with fKind := v21.fKind } : T_impl_Column))))⟩, sl 1 v29] ?_
  refine srv 2 89 [(0, .ptr 0 0 0), (1, I a1), (10, A v7), (11, .ref 1 0 0 2 ((v15.set v19.1.toNat (({ v23 with fKind := v21.fKind } : T_impl_Column)))).length false), (12, I v17.1), (13, I v19.1), (14, rf 2 1 1 v29), (60, .ptr 0 0 0), (61, .ref 1 0 0 2 ((v15.set v19.1.toNat (({ v23 with fKind := v21.fKind } : T_impl_Column)))).length false)] [sc 0 v27.2, some ⟨0, eL ((v9.1.set v19.1.toNat (({ v23 with fKind := v21.fKind } : T_impl_Column))))⟩, sl 1 v29] ?_
  refine opsP_imp (Imp.cut (st' := ⟨89, [(0, .ptr 0 0 0), (1, I a1), (10, A v7), (11, .ref 1 0 0 2 ((v15.set v19.1.toNat (({ v23 with fKind := v21.fKind } : T_impl_Column)))).length false), (12, I v17.1), (13, I v19.1), (14, rf 2 1 1 v29), (60, .ptr 0 0 0), (61, .ref 1 0 0 2 ((v15.set v19.1.toNat (({ v23 with fKind := v21.fKind } : T_impl_Column)))).length false)], [sc 0 v27.2, some ⟨0, eL ((v15.set v19.1.toNat (({ v23 with fKind := v21.fKind } : T_impl_Column))))⟩, sl 1 v29]⟩) 1 0 ((v9.1.set v19.1.toNat (({ v23 with fKind := v21.fKind } : T_impl_Column)))) ((v15.set v19.1.toNat (({ v23 with fKind := v21.fKind } : T_impl_Column)))) (by kernel_rfl) (slI_view (slI_set0 hv16)) (by kernel_rfl)) ?_
  obtain ⟨v31, hv32, h⟩ := bindS h
  refine opsP_E (dd := some 62) (x := rf 3 0 1 v31.1) (callX_E (bs := [⟨0, eL v31.1⟩]) τ 62 0 0 1 0 (ok_spec_l20Bag_L1 hv32) rfl rfl (by kernel_rfl) (by kernel_rfl)) ?_
  refine ve 1 89 [(0, .ptr 0 0 0), (1, I a1), (10, A v7), (11, .ref 1 0 0 2 ((v15.set v19.1.toNat (({ v23 with fKind := v21.fKind } : T_impl_Column)))).length false), (12, I v17.1), (13, I v19.1), (14, rf 2 1 1 v29), (15, rf 3 0 1 v31.1)] [sc 0 v31.2, some ⟨0, eL ((v15.set v19.1.toNat (({ v23 with fKind := v21.fKind } : T_impl_Column))))⟩, sl 1 v29, sl 0 v31.1] ?_
  refine pwp_seq ?_
  refine pwp_join (σ := Int × Int × T_spec_l20Rd × (List (List T_impl_Value))) (fun (x33, x34, x35, x36) => (⟨89, [(10, A v7), (11, .ref 1 0 0 2 ((v15.set v19.1.toNat (({ v23 with fKind := v21.fKind } : T_impl_Column)))).length false), (12, I x33), (13, I x34), (14, rf 2 0 1 v29), (15, rf 3 0 1 x36)], [sc 0 x35, some ⟨0, eL ((v15.set v19.1.toNat (({ v23 with fKind := v21.fKind } : T_impl_Column))))⟩, sl 0 v29, sl 0 x36]⟩ : St)) (fun (x33, x34, x35, x36) => spec_l20Pair_j0 v7 v15 v19 v21 v23 v29 x33 x34 x35 x36 = some y) ?_ ?_
  refine srv 2 89 [(0, .ptr 0 0 0), (10, A v7), (11, .ref 1 0 0 2 ((v15.set v19.1.toNat (({ v23 with fKind := v21.fKind } : T_impl_Column)))).length false), (12, I v17.1), (13, I v19.1), (14, rf 2 1 1 v29), (15, rf 3 0 1 v31.1), (63, .ptr 0 0 0), (64, I a1)] [sc 0 v31.2, some ⟨0, eL ((v15.set v19.1.toNat (({ v23 with fKind := v21.fKind } : T_impl_Column))))⟩, sl 1 v29, sl 0 v31.1] ?_
  obtain ⟨v37, hv38, h⟩ := bindS h
  refine cB 65 0 0 (ok_spec_l20Rd_odd hv38) ?_
  refine ve 0 89 [(0, .ptr 0 0 0), (10, A v7), (11, .ref 1 0 0 2 ((v15.set v19.1.toNat (({ v23 with fKind := v21.fKind } : T_impl_Column)))).length false), (12, I v17.1), (13, I v19.1), (14, rf 2 1 1 v29), (15, rf 3 0 1 v31.1), (65, B v37.1)] [sc 0 v37.2, some ⟨0, eL ((v15.set v19.1.toNat (({ v23 with fKind := v21.fKind } : T_impl_Column))))⟩, sl 1 v29, sl 0 v31.1] ?_
  refine pc h (fun h => ?_) (fun h => ?_)
  refine srv 1 89 [(0, .ptr 0 0 0), (10, A v7), (11, .ref 1 0 0 2 ((v15.set v19.1.toNat (({ v23 with fKind := v21.fKind } : T_impl_Column)))).length false), (12, I v17.1), (13, I v19.1), (14, rf 2 1 1 v29), (15, rf 3 0 1 v31.1), (66, .ptr 0 0 0)] [sc 0 v37.2, some ⟨0, eL ((v15.set v19.1.toNat (({ v23 with fKind := v21.fKind } : T_impl_Column))))⟩, sl 1 v29, sl 0 v31.1] ?_
  obtain ⟨v40, hv41, h⟩ := bindS h
  refine cB 67 0 0 (ok_spec_l20Rd_pick hv41) ?_
  refine ve 0 89 [(0, .ptr 0 0 0), (10, A v7), (11, .ref 1 0 0 2 ((v15.set v19.1.toNat (({ v23 with fKind := v21.fKind } : T_impl_Column)))).length false), (12, I v17.1), (13, I v19.1), (14, rf 2 1 1 v29), (15, rf 3 0 1 v31.1), (67, I v40.1)] [sc 0 v40.2, some ⟨0, eL ((v15.set v19.1.toNat (({ v23 with fKind := v21.fKind } : T_impl_Column))))⟩, sl 1 v29, sl 0 v31.1] ?_
  refine pwp_block ?_
  refine srve 89 [(0, .ptr 0 0 0), (10, A v7), (11, .ref 1 0 0 2 ((v15.set v19.1.toNat (({ v23 with fKind := v21.fKind } : T_impl_Column)))).length false), (12, I v17.1), (13, I v19.1), (14, rf 2 1 1 v29), (15, rf 3 0 1 v31.1), (67, I v40.1), (71, B ((v40.1 == 0)))] [sc 0 v40.2, some ⟨0, eL ((v15.set v19.1.toNat (({ v23 with fKind := v21.fKind } : T_impl_Column))))⟩, sl 1 v29, sl 0 v31.1] ?_
  refine pc h (fun h => ?_) (fun h => ?_)
  refine rv 1 89 [(10, A v7), (11, .ref 1 0 0 2 ((v15.set v19.1.toNat (({ v23 with fKind := v21.fKind } : T_impl_Column)))).length false), (13, I v19.1), (14, rf 2 1 1 v29), (15, rf 3 0 1 v31.1), (73, .ptr 0 0 0)] [sc 0 v40.2, some ⟨0, eL ((v15.set v19.1.toNat (({ v23 with fKind := v21.fKind } : T_impl_Column))))⟩, sl 1 v29, sl 0 v31.1] ?_
  obtain ⟨v43, hv44, h⟩ := bindS h
  refine cB 74 0 0 (ok_spec_l20Rd_pick hv44) ?_
  refine ve 2 89 [(10, A v7), (11, .ref 1 0 0 2 ((v15.set v19.1.toNat (({ v23 with fKind := v21.fKind } : T_impl_Column)))).length false), (12, I ((w64 (v43.1 - 1)))), (13, I v19.1), (14, rf 2 1 1 v29), (15, rf 3 0 1 v31.1)] [sc 0 v43.2, some ⟨0, eL ((v15.set v19.1.toNat (({ v23 with fKind := v21.fKind } : T_impl_Column))))⟩, sl 1 v29, sl 0 v31.1] ?_
  exact ⟨((w64 (v43.1 - 1)), v19.1, v43.2, v31.1), h, (it (st' := ⟨89, [(10, A v7), (11, .ref 1 0 0 2 ((v15.set v19.1.toNat (({ v23 with fKind := v21.fKind } : T_impl_Column)))).length false), (12, I ((w64 (v43.1 - 1)))), (13, I v19.1), (14, rf 2 1 1 v29), (15, rf 3 0 1 v31.1)], [sc 0 v43.2, some ⟨0, eL ((v15.set v19.1.toNat (({ v23 with fKind := v21.fKind } : T_impl_Column))))⟩, sl 1 v29, sl 0 v31.1]⟩) [10, 11, 12, 13, 14, 15]).trans (Imp.reverS 2 1 (eL v29) [10, 11, 12, 13, 14, 15] (by kernel_rfl) (by exact (And.intro (rfl) (And.intro (eL_frz _) (And.intro (eL_frz _) (And.intro (eL_frz _) trivial))))) (by kernel_rfl))⟩
  refine srve 89 [(0, .ptr 0 0 0), (10, A v7), (11, .ref 1 0 0 2 ((v15.set v19.1.toNat (({ v23 with fKind := v21.fKind } : T_impl_Column)))).length false), (12, I v17.1), (13, I v19.1), (14, rf 2 1 1 v29), (15, rf 3 0 1 v31.1), (76, B ((v40.1 == 1)))] [sc 0 v40.2, some ⟨0, eL ((v15.set v19.1.toNat (({ v23 with fKind := v21.fKind } : T_impl_Column))))⟩, sl 1 v29, sl 0 v31.1] ?_
  refine pc h (fun h => ?_) (fun h => ?_)
  refine rv 4 89 [(10, A v7), (11, .ref 1 0 0 2 ((v15.set v19.1.toNat (({ v23 with fKind := v21.fKind } : T_impl_Column)))).length false), (12, I v17.1), (13, I v19.1), (14, rf 2 1 1 v29), (78, rf 3 0 1 v31.1), (81, .arr 1 (([[(T_impl_Value.mk 7 0 (ByteArray.mk #[]))]] : List (List T_impl_Value))).length (eL ([[(T_impl_Value.mk 7 0 (ByteArray.mk #[]))]] : List (List T_impl_Value))) true)] [sc 0 v40.2, some ⟨0, eL ((v15.set v19.1.toNat (({ v23 with fKind := v21.fKind } : T_impl_Column))))⟩, sl 1 v29, sl 0 v31.1] ?_
  obtain ⟨v46, hv47, h⟩ := bindS h
  refine opsP_app τ_ok 82 3 0 (pn hQ) hv47 (by kernel_rfl) ?_
  refine ve 1 89 [(10, A v7), (11, .ref 1 0 0 2 ((v15.set v19.1.toNat (({ v23 with fKind := v21.fKind } : T_impl_Column)))).length false), (12, I v17.1), (13, I v19.1), (14, rf 2 1 1 v29), (15, rf 3 1 1 v46)] [sc 0 v40.2, some ⟨0, eL ((v15.set v19.1.toNat (({ v23 with fKind := v21.fKind } : T_impl_Column))))⟩, sl 1 v29, sl 1 v46] ?_
  exact ⟨(v17.1, v19.1, v40.2, v46), h, (it (st' := ⟨89, [(10, A v7), (11, .ref 1 0 0 2 ((v15.set v19.1.toNat (({ v23 with fKind := v21.fKind } : T_impl_Column)))).length false), (12, I v17.1), (13, I v19.1), (14, rf 2 1 1 v29), (15, rf 3 1 1 v46)], [sc 0 v40.2, some ⟨0, eL ((v15.set v19.1.toNat (({ v23 with fKind := v21.fKind } : T_impl_Column))))⟩, sl 1 v29, sl 1 v46]⟩) [10, 11, 12, 13, 14, 15]).trans ((Imp.reverS (st' := ⟨89, [(10, A v7), (11, .ref 1 0 0 2 ((v15.set v19.1.toNat (({ v23 with fKind := v21.fKind } : T_impl_Column)))).length false), (12, I v17.1), (13, I v19.1), (14, rf 2 0 1 v29), (15, rf 3 1 1 v46)], [sc 0 v40.2, some ⟨0, eL ((v15.set v19.1.toNat (({ v23 with fKind := v21.fKind } : T_impl_Column))))⟩, sl 0 v29, sl 1 v46]⟩) 2 1 (eL v29) [10, 11, 12, 13, 14, 15] (by kernel_rfl) (by exact (And.intro (rfl) (And.intro (eL_frz _) (And.intro (eL_frz _) (And.intro (eL_frz _) trivial))))) (by kernel_rfl)).trans (Imp.reverS 3 1 (eL v46) [10, 11, 12, 13, 14, 15] (by kernel_rfl) (by exact (And.intro (rfl) (And.intro (eL_frz _) (And.intro (eL_frz _) (And.intro (eL_frz _) trivial))))) (by kernel_rfl)))⟩
  refine rv 1 89 [(10, A v7), (11, .ref 1 0 0 2 ((v15.set v19.1.toNat (({ v23 with fKind := v21.fKind } : T_impl_Column)))).length false), (12, I v17.1), (14, rf 2 1 1 v29), (15, rf 3 0 1 v31.1), (68, .ptr 0 0 0)] [sc 0 v40.2, some ⟨0, eL ((v15.set v19.1.toNat (({ v23 with fKind := v21.fKind } : T_impl_Column))))⟩, sl 1 v29, sl 0 v31.1] ?_
  obtain ⟨v48, hv49, h⟩ := bindS h
  refine cB 69 0 0 (ok_spec_l20Rd_pick hv49) ?_
  refine ve 2 89 [(10, A v7), (11, .ref 1 0 0 2 ((v15.set v19.1.toNat (({ v23 with fKind := v21.fKind } : T_impl_Column)))).length false), (12, I v17.1), (13, I ((w64 (v48.1 - 1)))), (14, rf 2 1 1 v29), (15, rf 3 0 1 v31.1)] [sc 0 v48.2, some ⟨0, eL ((v15.set v19.1.toNat (({ v23 with fKind := v21.fKind } : T_impl_Column))))⟩, sl 1 v29, sl 0 v31.1] ?_
  exact ⟨(v17.1, (w64 (v48.1 - 1)), v48.2, v31.1), h, (it (st' := ⟨89, [(10, A v7), (11, .ref 1 0 0 2 ((v15.set v19.1.toNat (({ v23 with fKind := v21.fKind } : T_impl_Column)))).length false), (12, I v17.1), (13, I ((w64 (v48.1 - 1)))), (14, rf 2 1 1 v29), (15, rf 3 0 1 v31.1)], [sc 0 v48.2, some ⟨0, eL ((v15.set v19.1.toNat (({ v23 with fKind := v21.fKind } : T_impl_Column))))⟩, sl 1 v29, sl 0 v31.1]⟩) [10, 11, 12, 13, 14, 15]).trans (Imp.reverS 2 1 (eL v29) [10, 11, 12, 13, 14, 15] (by kernel_rfl) (by exact (And.intro (rfl) (And.intro (eL_frz _) (And.intro (eL_frz _) (And.intro (eL_frz _) trivial))))) (by kernel_rfl))⟩
  refine pwp_skip ?_
  exact ⟨(v17.1, v19.1, v37.2, v31.1), h, (it (st' := ⟨89, [(10, A v7), (11, .ref 1 0 0 2 ((v15.set v19.1.toNat (({ v23 with fKind := v21.fKind } : T_impl_Column)))).length false), (12, I v17.1), (13, I v19.1), (14, rf 2 1 1 v29), (15, rf 3 0 1 v31.1)], [sc 0 v37.2, some ⟨0, eL ((v15.set v19.1.toNat (({ v23 with fKind := v21.fKind } : T_impl_Column))))⟩, sl 1 v29, sl 0 v31.1]⟩) [10, 11, 12, 13, 14, 15]).trans (Imp.reverS 2 1 (eL v29) [10, 11, 12, 13, 14, 15] (by kernel_rfl) (by exact (And.intro (rfl) (And.intro (eL_frz _) (And.intro (eL_frz _) (And.intro (eL_frz _) trivial))))) (by kernel_rfl))⟩
  rintro ⟨x33, x34, x35, x36⟩ h
  dsimp only at h ⊢
  unfold spec_l20Pair_j0 at h
  refine srve 89 [(4, A v7), (5, .ref 1 0 0 2 ((v15.set v19.1.toNat (({ v23 with fKind := v21.fKind } : T_impl_Column)))).length false), (6, rf 2 0 1 v29), (7, rf 3 0 1 x36), (8, I x33), (9, I x34)] [sc 0 x35, some ⟨0, eL ((v15.set v19.1.toNat (({ v23 with fKind := v21.fKind } : T_impl_Column))))⟩, sl 0 v29, sl 0 x36] ?_
  have h := si h
  subst h
  exact pwp_ret ⟨.inr rfl, .tup [A v7, .ref 1 0 0 2 ((v15.set v19.1.toNat (({ v23 with fKind := v21.fKind } : T_impl_Column)))).length false, rf 2 0 1 v29, rf 3 0 1 x36, I x33, I x34], _, 0, by kernel_rfl, (OutP.tup (OutL.cons (OutP.frz (by kernel_rfl)) (OutL.cons (OutP.list (v := 0) (by kernel_rfl)) (OutL.cons (OutP.list (v := 0) (by kernel_rfl)) (OutL.cons (OutP.list (v := 0) (by kernel_rfl)) (OutL.cons (OutP.frz (by kernel_rfl)) (OutL.cons (OutP.frz (by kernel_rfl)) (OutL.nil _)))))))), by decide, by decide, by kernel_rfl⟩
def impl_sidesOk (a0 : List T_impl_Column) (a1 : List T_impl_Column) (a2 : List (List T_impl_Value)) (a3 : List (List T_impl_Value)) : Option Bool := (impl_ColumnsOk a0).bind fun v1 => bif v1 then (impl_ColumnsOk a1).bind fun v3 => bif v3 then bif (decide (((w64 (((a0.length : Int)) + ((a1.length : Int))))) ≤ 4)) then bif (decide (((a2.length : Int)) ≤ 30)) then bif (decide (((a3.length : Int)) ≤ 30)) then (impl_RowsOk a0 a2).bind fun v5 => bif v5 then (impl_RowsOk a1 a3).bind fun v7 => some v7 else some false else some false else some false else some false else some false else some false
theorem ok_impl_sidesOk {a0 : List T_impl_Column} {a1 : List T_impl_Column} {a2 : List (List T_impl_Value)} {a3 : List (List T_impl_Value)} {y : Bool} (h : impl_sidesOk a0 a1 a2 a3 = some y) : OK Try.prog 83 [A a0, A a1, A a2, A a3] (B y) := by
  refine ow Try.func83 fun Γ hX => ?_
  unfold impl_sidesOk at h
  refine srve 43 [(0, A a0), (1, A a1), (2, A a2), (3, A a3)] [] ?_
  refine srv 1 43 [(0, A a0), (1, A a1), (2, A a2), (3, A a3), (9, A a0)] [] ?_
  obtain ⟨v1, hv2, h⟩ := bindS h
  refine cF 10 (ok_impl_ColumnsOk hv2) ?_
  refine v 1 43 [(0, A a0), (1, A a1), (2, A a2), (3, A a3), (11, B v1)] [] ?_
  rcases Bool.eq_false_or_eq_true v1 with hc14 | hc14
  replace h := bT hc14 h
  rw [hc14]
  refine v 1 43 [(0, A a0), (1, A a1), (2, A a2), (3, A a3), (11, B true), (12, A a1)] [] ?_
  obtain ⟨v3, hv4, h⟩ := bindS h
  refine cF 13 (ok_impl_ColumnsOk hv4) ?_
  refine v 2 43 [(0, A a0), (1, A a1), (2, A a2), (3, A a3), (15, B v3)] [] ?_
  rcases Bool.eq_false_or_eq_true v3 with hc13 | hc13
  replace h := bT hc13 h
  rw [hc13]
  refine v 8 43 [(0, A a0), (1, A a1), (2, A a2), (3, A a3), (23, B ((decide (((w64 (((a0.length : Int)) + ((a1.length : Int))))) ≤ 4))))] [] ?_
  rcases fk ((decide (((w64 (((a0.length : Int)) + ((a1.length : Int))))) ≤ 4))) with hc12 | hc12
  replace h := bT hc12 h
  rw [hc12]
  refine v 5 43 [(0, A a0), (1, A a1), (2, A a2), (3, A a3), (28, B ((decide (((a2.length : Int)) ≤ 30))))] [] ?_
  rcases fk ((decide (((a2.length : Int)) ≤ 30))) with hc11 | hc11
  replace h := bT hc11 h
  rw [hc11]
  refine v 5 43 [(0, A a0), (1, A a1), (2, A a2), (3, A a3), (33, B ((decide (((a3.length : Int)) ≤ 30))))] [] ?_
  rcases fk ((decide (((a3.length : Int)) ≤ 30))) with hc10 | hc10
  replace h := bT hc10 h
  rw [hc10]
  refine v 2 43 [(1, A a1), (3, A a3), (33, B true), (34, A a0), (35, A a2)] [] ?_
  obtain ⟨v5, hv6, h⟩ := bindS h
  refine cF 36 (ok_impl_RowsOk hv6) ?_
  refine v 2 43 [(1, A a1), (3, A a3), (38, B v5)] [] ?_
  rcases Bool.eq_false_or_eq_true v5 with hc9 | hc9
  replace h := bT hc9 h
  rw [hc9]
  refine v 2 43 [(38, B true), (39, A a1), (40, A a3)] [] ?_
  obtain ⟨v7, hv8, h⟩ := bindS h
  refine cF 41 (ok_impl_RowsOk hv8) ?_
  refine ve 2 43 [(8, B v7)] [] ?_
  cases h
  exact pwp_ret rz
  replace h := bF hc9 h
  rw [hc9]
  refine ve 5 43 [(8, B false)] [] ?_
  cases h
  exact pwp_ret rz
  replace h := bF hc10 h
  rw [hc10]
  refine ve 10 43 [(8, B false)] [] ?_
  cases h
  exact pwp_ret rz
  replace h := bF hc11 h
  rw [hc11]
  refine ve 15 43 [(8, B false)] [] ?_
  cases h
  exact pwp_ret rz
  replace h := bF hc12 h
  rw [hc12]
  refine ve 20 43 [(8, B false)] [] ?_
  cases h
  exact pwp_ret rz
  replace h := bF hc13 h
  rw [hc13]
  refine ve 28 43 [(8, B false)] [] ?_
  cases h
  exact pwp_ret rz
  replace h := bF hc14 h
  rw [hc14]
  refine ve 32 43 [(8, B false)] [] ?_
  cases h
  exact pwp_ret rz
def slices_Clip_impl_Column_impl_Column_R (a0 : List T_impl_Column) : Option (List T_impl_Column) := (slI a0 none (some ((a0.length : Int))) (some ((a0.length : Int)))).bind fun v1 => some v1
theorem ok_slices_Clip_impl_Column_impl_Column_R {a0 : List T_impl_Column} {y : List T_impl_Column} (h : slices_Clip_impl_Column_impl_Column_R a0 = some y) : OKm Try.prog 77 [O a0] (O y) := by
  refine OKm_of_pwp (sl := [rf 0 0 2 a0]) (bs := [⟨0, eL a0⟩]) τ_ok Try.func77 rfl (by kernel_rfl) rfl (by kernel_rfl) fun Γ hX => ?_
  refine pwp_imp (Imp.to (st' := ⟨9, [(0, rf 0 0 2 a0)], [sl 0 a0]⟩) [0] (by kernel_rfl)) ?_
  unfold slices_Clip_impl_Column_impl_Column_R at h
  refine srve 9 [(0, rf 0 0 2 a0)] [sl 0 a0] ?_
  refine srv 5 9 [(3, rf 0 0 2 a0), (5, I ((a0.length : Int))), (7, I ((a0.length : Int)))] [sl 0 a0] ?_
  obtain ⟨v1, hv2, h⟩ := bindS h
  refine opsP_slr τ_ok 8 0 0 a0.length hv2 rfl (by kernel_rfl) ?_
  refine ve 1 9 [(2, rf 0 0 2 v1)] [sl 0 a0] ?_
  refine ip 9 [(2, rf 0 0 2 v1)] [sl 0 a0] ?_
  refine pwp_imp (Imp.cut (st' := ⟨9, [(2, rf 0 0 2 v1)], [sl 0 v1]⟩) 0 0 a0 v1 (by kernel_rfl) (slI_view hv2) (by kernel_rfl)) ?_
  have h := si h
  subst h
  exact pwp_ret (rt (rf 0 0 2 v1) (OutP.list (v := 0) (by kernel_rfl)))
def spec_l20Test_j0 (v1 : ((List T_impl_Column) × (List T_impl_Column) × (List (List T_impl_Value)) × (List (List T_impl_Value)) × Int × Int) × T_spec_l20Rd) (x9 : List T_impl_Part) (x10 : T_spec_l20Rd) (x11 : List T_impl_Column) (x12 : List (List T_impl_Value)) : Option (((List T_impl_Column) × (List T_impl_Column) × (List (List T_impl_Value)) × (List (List T_impl_Value)) × (List T_impl_Part)) × T_spec_l20Rd) := some ((v1.1.1, x11, x12, v1.1.2.2.2.1, x9), x10)
def spec_l20Test (a0 : T_spec_l20Rd) (a1 : Int) : Option (((List T_impl_Column) × (List T_impl_Column) × (List (List T_impl_Value)) × (List (List T_impl_Value)) × (List T_impl_Part)) × T_spec_l20Rd) := (spec_l20Pair a0 0).bind fun v1 => (app (([] : List T_impl_Column)) v1.1.1).bind fun v3 => (appT v3 v1.1.2.1 v3.length).bind fun v5 => (spec_l20Expr v1.2 v5 3 2).bind fun v7 => (spec_l20Rd_odd v7.2 a1).bind fun v13 => bif v13.1 then (spec_l20Rd_pick v13.2 3).bind fun v16 => bif (v16.1 == 0) then (spec_l20Rd_pick v16.2 ((v7.1.length : Int))).bind fun v19 => (slI v7.1 none (some v19.1) none).bind fun v21 => spec_l20Test_j0 v1 v21 v19.2 v1.1.2.1 v1.1.2.2.1 else bif (v16.1 == 1) then (app v1.1.2.2.1 (([[(T_impl_Value.mk 7 0 (ByteArray.mk #[]))]] : List (List T_impl_Value)))).bind fun v24 => spec_l20Test_j0 v1 v7.1 v16.2 v1.1.2.1 v24 else (app v1.1.2.1 (([(T_impl_Column.mk 9 false)] : List T_impl_Column))).bind fun v26 => spec_l20Test_j0 v1 v7.1 v16.2 v26 v1.1.2.2.1 else spec_l20Test_j0 v1 v7.1 v13.2 v1.1.2.1 v1.1.2.2.1
theorem ok_spec_l20Test {a0 : T_spec_l20Rd} {a1 : Int} {y : ((List T_impl_Column) × (List T_impl_Column) × (List (List T_impl_Value)) × (List (List T_impl_Value)) × (List T_impl_Part)) × T_spec_l20Rd} (h : spec_l20Test a0 a1 = some y) : OKb Try.prog 28 (Enc.cells a0) [I a1] (.tup [A y.1.1, O y.1.2.1, O y.1.2.2.1, O y.1.2.2.2.1, A y.1.2.2.2.2]) (Enc.cells y.2) := by
  refine OKb_of_pwp τ_ok Try.func28 rfl (by kernel_rfl) rfl (Enc.frz _) (Enc.frz _) fun Γ hQ => ?_
  unfold spec_l20Test at h
  refine srve 61 [(0, .ptr 0 0 0), (1, I a1)] [sc 0 a0] ?_
  refine srv 1 61 [(0, .ptr 0 0 0), (1, I a1), (17, .ptr 0 0 0)] [sc 0 a0] ?_
  obtain ⟨v1, hv2, h⟩ := bindS h
  refine opsP_E (dd := some 18) (x := .tup [A v1.1.1, rf 1 0 2 v1.1.2.1, rf 2 0 1 v1.1.2.2.1, rf 3 0 1 v1.1.2.2.2.1, I v1.1.2.2.2.2.1, I v1.1.2.2.2.2.2]) (callBT_E (bs := [⟨0, eL v1.1.2.1⟩, ⟨0, eL v1.1.2.2.1⟩, ⟨0, eL v1.1.2.2.2.1⟩]) τ 18 0 0 (ok_spec_l20Pair hv2) rfl (by kernel_rfl) (by kernel_rfl)) ?_
  refine ve 13 61 [(0, .ptr 0 0 0), (1, I a1), (9, A v1.1.1), (10, rf 1 0 2 v1.1.2.1), (11, rf 2 0 1 v1.1.2.2.1), (12, rf 3 0 1 v1.1.2.2.2.1)] [sc 0 v1.2, sl 0 v1.1.2.1, sl 0 v1.1.2.2.1, sl 0 v1.1.2.2.2.1] ?_
  refine srv 3 61 [(0, .ptr 0 0 0), (1, I a1), (9, A v1.1.1), (10, rf 1 0 2 v1.1.2.1), (11, rf 2 0 1 v1.1.2.2.1), (12, rf 3 0 1 v1.1.2.2.2.1), (25, .ptr 0 0 0), (26, .arr 2 0 (eL ([] : List T_impl_Column)) true), (27, A v1.1.1)] [sc 0 v1.2, sl 0 v1.1.2.1, sl 0 v1.1.2.2.1, sl 0 v1.1.2.2.2.1] ?_
  refine opsP_thaw 26 2 (by kernel_rfl) ?_
  obtain ⟨v3, hv4, h⟩ := bindS h
  refine opsP_app τ_ok 28 4 0 (pn hQ) hv4 (by kernel_rfl) ?_
  refine v 1 61 [(0, .ptr 0 0 0), (1, I a1), (9, A v1.1.1), (10, rf 1 0 2 v1.1.2.1), (11, rf 2 0 1 v1.1.2.2.1), (12, rf 3 0 1 v1.1.2.2.2.1), (25, .ptr 0 0 0), (28, rf 4 1 2 v3), (29, rf 1 0 2 v1.1.2.1)] [sc 0 v1.2, sl 0 v1.1.2.1, sl 0 v1.1.2.2.1, sl 0 v1.1.2.2.2.1, sl 1 v3] ?_
  obtain ⟨v5, hv6, h⟩ := bindS h
  refine opsP_E (dd := some 30) (x := rf 4 2 2 v5) (apR_E τ_ok 30 4 1 v3.length (pn hQ) hv6 (Nat.le_refl _) (by kernel_rfl)) ?_
  refine v 0 61 [(0, .ptr 0 0 0), (1, I a1), (9, A v1.1.1), (10, rf 1 0 2 v1.1.2.1), (11, rf 2 0 1 v1.1.2.2.1), (12, rf 3 0 1 v1.1.2.2.2.1), (25, .ptr 0 0 0), (30, rf 4 2 2 v5)] [sc 0 v1.2, sl 0 v1.1.2.1, sl 0 v1.1.2.2.1, sl 0 v1.1.2.2.2.1, sl 2 v5] ?_
  refine opsP_imp ((Imp.freezeB (v := 2) (cs := eL v5) (st' := ⟨61, [(0, .ptr 0 0 0), (1, I a1), (9, A v1.1.1), (10, rf 1 0 2 v1.1.2.1), (11, rf 2 0 1 v1.1.2.2.1), (12, rf 3 0 1 v1.1.2.2.2.1), (25, .ptr 0 0 0), (30, A v5)], [sc 0 v1.2, sl 0 v1.1.2.1, sl 0 v1.1.2.2.1, sl 0 v1.1.2.2.2.1, none]⟩) 4 2 (pn hQ) (by kernel_rfl) (eL_frz _) (wholeC (whole_noRef (by kernel_rfl)) (wholeC (whole_noRef (by kernel_rfl)) (wholeC (whole_noRef (by kernel_rfl)) (wholeC (whole_ne rfl) (wholeC (whole_ne rfl) (wholeC (whole_ne rfl) (wholeC (whole_noRef (by kernel_rfl)) (wholeC (whole_is (eL_len v5).symm) wholeC0)))))))) (HpRel.frz rfl (Enc.frz _) (HpRel.frz rfl (eL_frz _) (HpRel.frz rfl (eL_frz _) (HpRel.frz rfl (eL_frz _) (HpRel.key HpRel.nil))))) (by kernel_rfl) rfl (p01 hQ))) ?_
  obtain ⟨v7, hv8, h⟩ := bindS h
  refine cBo 31 0 0 (ok_spec_l20Expr hv8) ?_
  refine ve 1 61 [(0, .ptr 0 0 0), (1, I a1), (9, A v1.1.1), (10, rf 1 0 2 v1.1.2.1), (11, rf 2 0 1 v1.1.2.2.1), (12, rf 3 0 1 v1.1.2.2.2.1), (15, A v7.1)] [sc 0 v7.2, sl 0 v1.1.2.1, sl 0 v1.1.2.2.1, sl 0 v1.1.2.2.2.1, none] ?_
  refine pwp_seq ?_
  refine pwp_join (σ := (List T_impl_Part) × T_spec_l20Rd × (List T_impl_Column) × (List (List T_impl_Value))) (fun (x9, x10, x11, x12) => (⟨61, [(9, A v1.1.1), (10, rf 1 0 2 x11), (11, rf 2 0 1 x12), (12, rf 3 0 1 v1.1.2.2.2.1), (15, A x9)], [sc 0 x10, sl 0 x11, sl 0 x12, sl 0 v1.1.2.2.2.1, none]⟩ : St)) (fun (x9, x10, x11, x12) => spec_l20Test_j0 v1 x9 x10 x11 x12 = some y) ?_ ?_
  refine srv 2 61 [(0, .ptr 0 0 0), (9, A v1.1.1), (10, rf 1 0 2 v1.1.2.1), (11, rf 2 0 1 v1.1.2.2.1), (12, rf 3 0 1 v1.1.2.2.2.1), (15, A v7.1), (32, .ptr 0 0 0), (33, I a1)] [sc 0 v7.2, sl 0 v1.1.2.1, sl 0 v1.1.2.2.1, sl 0 v1.1.2.2.2.1, none] ?_
  obtain ⟨v13, hv14, h⟩ := bindS h
  refine cB 34 0 0 (ok_spec_l20Rd_odd hv14) ?_
  refine ve 0 61 [(0, .ptr 0 0 0), (9, A v1.1.1), (10, rf 1 0 2 v1.1.2.1), (11, rf 2 0 1 v1.1.2.2.1), (12, rf 3 0 1 v1.1.2.2.2.1), (15, A v7.1), (34, B v13.1)] [sc 0 v13.2, sl 0 v1.1.2.1, sl 0 v1.1.2.2.1, sl 0 v1.1.2.2.2.1, none] ?_
  refine pc h (fun h => ?_) (fun h => ?_)
  refine srv 1 61 [(0, .ptr 0 0 0), (9, A v1.1.1), (10, rf 1 0 2 v1.1.2.1), (11, rf 2 0 1 v1.1.2.2.1), (12, rf 3 0 1 v1.1.2.2.2.1), (15, A v7.1), (35, .ptr 0 0 0)] [sc 0 v13.2, sl 0 v1.1.2.1, sl 0 v1.1.2.2.1, sl 0 v1.1.2.2.2.1, none] ?_
  obtain ⟨v16, hv17, h⟩ := bindS h
  refine cB 36 0 0 (ok_spec_l20Rd_pick hv17) ?_
  refine ve 0 61 [(0, .ptr 0 0 0), (9, A v1.1.1), (10, rf 1 0 2 v1.1.2.1), (11, rf 2 0 1 v1.1.2.2.1), (12, rf 3 0 1 v1.1.2.2.2.1), (15, A v7.1), (36, I v16.1)] [sc 0 v16.2, sl 0 v1.1.2.1, sl 0 v1.1.2.2.1, sl 0 v1.1.2.2.2.1, none] ?_
  refine pwp_block ?_
  refine srve 61 [(0, .ptr 0 0 0), (9, A v1.1.1), (10, rf 1 0 2 v1.1.2.1), (11, rf 2 0 1 v1.1.2.2.1), (12, rf 3 0 1 v1.1.2.2.2.1), (15, A v7.1), (36, I v16.1), (41, B ((v16.1 == 0)))] [sc 0 v16.2, sl 0 v1.1.2.1, sl 0 v1.1.2.2.1, sl 0 v1.1.2.2.2.1, none] ?_
  refine pc h (fun h => ?_) (fun h => ?_)
  refine rv 4 61 [(9, A v1.1.1), (10, rf 1 0 2 v1.1.2.1), (11, rf 2 0 1 v1.1.2.2.1), (12, rf 3 0 1 v1.1.2.2.2.1), (43, A v7.1), (44, .ptr 0 0 0), (46, I ((v7.1.length : Int)))] [sc 0 v16.2, sl 0 v1.1.2.1, sl 0 v1.1.2.2.1, sl 0 v1.1.2.2.2.1, none] ?_
  obtain ⟨v19, hv20, h⟩ := bindS h
  refine cB 47 0 0 (ok_spec_l20Rd_pick hv20) ?_
  obtain ⟨v21, hv22, h⟩ := bindS h
  refine opsP_slc τ_ok 48 hv22 (by kernel_rfl) ?_
  refine ve 1 61 [(9, A v1.1.1), (10, rf 1 0 2 v1.1.2.1), (11, rf 2 0 1 v1.1.2.2.1), (12, rf 3 0 1 v1.1.2.2.2.1), (15, A v21)] [sc 0 v19.2, sl 0 v1.1.2.1, sl 0 v1.1.2.2.1, sl 0 v1.1.2.2.2.1, none] ?_
  exact ⟨(v21, v19.2, v1.1.2.1, v1.1.2.2.1), h, it [9, 10, 11, 12, 15]⟩
  refine srve 61 [(9, A v1.1.1), (10, rf 1 0 2 v1.1.2.1), (11, rf 2 0 1 v1.1.2.2.1), (12, rf 3 0 1 v1.1.2.2.2.1), (15, A v7.1), (49, B ((v16.1 == 1)))] [sc 0 v16.2, sl 0 v1.1.2.1, sl 0 v1.1.2.2.1, sl 0 v1.1.2.2.2.1, none] ?_
  refine pc h (fun h => ?_) (fun h => ?_)
  refine rv 4 61 [(9, A v1.1.1), (10, rf 1 0 2 v1.1.2.1), (12, rf 3 0 1 v1.1.2.2.2.1), (15, A v7.1), (51, rf 2 0 1 v1.1.2.2.1), (54, .arr 1 (([[(T_impl_Value.mk 7 0 (ByteArray.mk #[]))]] : List (List T_impl_Value))).length (eL ([[(T_impl_Value.mk 7 0 (ByteArray.mk #[]))]] : List (List T_impl_Value))) true)] [sc 0 v16.2, sl 0 v1.1.2.1, sl 0 v1.1.2.2.1, sl 0 v1.1.2.2.2.1, none] ?_
  obtain ⟨v24, hv25, h⟩ := bindS h
  refine opsP_app τ_ok 55 2 0 (pn hQ) hv25 (by kernel_rfl) ?_
  refine ve 1 61 [(9, A v1.1.1), (10, rf 1 0 2 v1.1.2.1), (11, rf 2 1 1 v24), (12, rf 3 0 1 v1.1.2.2.2.1), (15, A v7.1)] [sc 0 v16.2, sl 0 v1.1.2.1, sl 1 v24, sl 0 v1.1.2.2.2.1, none] ?_
  exact ⟨(v7.1, v16.2, v1.1.2.1, v24), h, (it (st' := ⟨61, [(9, A v1.1.1), (10, rf 1 0 2 v1.1.2.1), (11, rf 2 1 1 v24), (12, rf 3 0 1 v1.1.2.2.2.1), (15, A v7.1)], [sc 0 v16.2, sl 0 v1.1.2.1, sl 1 v24, sl 0 v1.1.2.2.2.1, none]⟩) [9, 10, 11, 12, 15]).trans (Imp.reverS 2 1 (eL v24) [9, 10, 11, 12, 15] (by kernel_rfl) (by exact (And.intro (rfl) (And.intro (eL_frz _) (And.intro (eL_frz _) (And.intro (eL_frz _) trivial))))) (by kernel_rfl))⟩
  refine rv 3 61 [(9, A v1.1.1), (11, rf 2 0 1 v1.1.2.2.1), (12, rf 3 0 1 v1.1.2.2.2.1), (15, A v7.1), (37, rf 1 0 2 v1.1.2.1), (39, .arr 2 (([(T_impl_Column.mk 9 false)] : List T_impl_Column)).length (eL ([(T_impl_Column.mk 9 false)] : List T_impl_Column)) true)] [sc 0 v16.2, sl 0 v1.1.2.1, sl 0 v1.1.2.2.1, sl 0 v1.1.2.2.2.1, none] ?_
  obtain ⟨v26, hv27, h⟩ := bindS h
  refine opsP_app τ_ok 40 1 0 (pn hQ) hv27 (by kernel_rfl) ?_
  refine ve 1 61 [(9, A v1.1.1), (10, rf 1 1 2 v26), (11, rf 2 0 1 v1.1.2.2.1), (12, rf 3 0 1 v1.1.2.2.2.1), (15, A v7.1)] [sc 0 v16.2, sl 1 v26, sl 0 v1.1.2.2.1, sl 0 v1.1.2.2.2.1, none] ?_
  exact ⟨(v7.1, v16.2, v26, v1.1.2.2.1), h, (it (st' := ⟨61, [(9, A v1.1.1), (10, rf 1 1 2 v26), (11, rf 2 0 1 v1.1.2.2.1), (12, rf 3 0 1 v1.1.2.2.2.1), (15, A v7.1)], [sc 0 v16.2, sl 1 v26, sl 0 v1.1.2.2.1, sl 0 v1.1.2.2.2.1, none]⟩) [9, 10, 11, 12, 15]).trans (Imp.reverS 1 1 (eL v26) [9, 10, 11, 12, 15] (by kernel_rfl) (by exact (And.intro (rfl) (And.intro (eL_frz _) (And.intro (eL_frz _) (And.intro (eL_frz _) trivial))))) (by kernel_rfl))⟩
  refine pwp_skip ?_
  exact ⟨(v7.1, v13.2, v1.1.2.1, v1.1.2.2.1), h, it [9, 10, 11, 12, 15]⟩
  rintro ⟨x9, x10, x11, x12⟩ h
  dsimp only at h ⊢
  unfold spec_l20Test_j0 at h
  refine srve 61 [(4, A v1.1.1), (5, rf 1 0 2 x11), (6, rf 2 0 1 x12), (7, rf 3 0 1 v1.1.2.2.2.1), (8, A x9)] [sc 0 x10, sl 0 x11, sl 0 x12, sl 0 v1.1.2.2.2.1, none] ?_
  have h := si h
  subst h
  exact pwp_ret ⟨.inr rfl, .tup [A v1.1.1, rf 1 0 2 x11, rf 2 0 1 x12, rf 3 0 1 v1.1.2.2.2.1, A x9], _, 0, by kernel_rfl, (OutP.tup (OutL.cons (OutP.frz (by kernel_rfl)) (OutL.cons (OutP.list (v := 0) (by kernel_rfl)) (OutL.cons (OutP.list (v := 0) (by kernel_rfl)) (OutL.cons (OutP.list (v := 0) (by kernel_rfl)) (OutL.cons (OutP.frz (by kernel_rfl)) (OutL.nil _))))))), by decide, by decide, by kernel_rfl⟩
def impl_exprHolds (a0 : List T_impl_Value) (a1 : List T_impl_Part) : Option Bool := (impl_exprValue a0 a1).bind fun v1 => (impl_ValueOf 1).bind fun v3 => some ((eq_T_impl_Value v1 v3))
theorem ok_impl_exprHolds {a0 : List T_impl_Value} {a1 : List T_impl_Part} {y : Bool} (h : impl_exprHolds a0 a1 = some y) : OK Try.prog 40 [A a0, A a1] (B y) := by
  refine ow Try.func40 fun Γ hX => ?_
  unfold impl_exprHolds at h
  refine srve 10 [(0, A a0), (1, A a1)] [] ?_
  refine srv 2 10 [(5, A a0), (6, A a1)] [] ?_
  obtain ⟨v1, hv2, h⟩ := bindS h
  refine cF 7 (ok_impl_exprValue hv2) ?_
  obtain ⟨v3, hv4, h⟩ := bindS h
  refine cF 8 (ok_impl_ValueOf hv4) ?_
  refine ve 2 10 [(4, B ((eq_T_impl_Value v1 v3)))] [] ?_
  cases h
  exact pwp_ret rz
def impl_testOk (a0 : List T_impl_Column) (a1 : List T_impl_Column) (a2 : List (List T_impl_Value)) (a3 : List (List T_impl_Value)) (a4 : List T_impl_Part) : Option Bool := (impl_sidesOk a0 a1 a2 a3).bind fun v1 => bif v1 then (slices_Concat_impl_Column_impl_Column ([a0, a1])).bind fun v3 => (impl_ExprKind v3 a4).bind fun v5 => some ((v5 == 3)) else some false
theorem ok_impl_testOk {a0 : List T_impl_Column} {a1 : List T_impl_Column} {a2 : List (List T_impl_Value)} {a3 : List (List T_impl_Value)} {a4 : List T_impl_Part} {y : Bool} (h : impl_testOk a0 a1 a2 a3 a4 = some y) : OK Try.prog 41 [A a0, A a1, A a2, A a3, A a4] (B y) := by
  refine ow Try.func41 fun Γ hX => ?_
  unfold impl_testOk at h
  refine srve 25 [(0, A a0), (1, A a1), (2, A a2), (3, A a3), (4, A a4)] [] ?_
  refine srv 4 25 [(0, A a0), (1, A a1), (4, A a4), (11, A a0), (12, A a1), (13, A a2), (14, A a3)] [] ?_
  obtain ⟨v1, hv2, h⟩ := bindS h
  refine cF 15 (ok_impl_sidesOk hv2) ?_
  refine v 1 25 [(0, A a0), (1, A a1), (4, A a4), (16, B v1)] [] ?_
  rcases Bool.eq_false_or_eq_true v1 with hc7 | hc7
  replace h := bT hc7 h
  rw [hc7]
  refine v 3 25 [(4, A a4), (16, B true), (19, .arr 1 (([a0, a1] : List (List T_impl_Column))).length (eL ([a0, a1] : List (List T_impl_Column))) true)] [] ?_
  obtain ⟨v3, hv4, h⟩ := bindS h
  refine cFo 20 (ok_slices_Concat_impl_Column_impl_Column hv4) ?_
  refine v 1 25 [(16, B true), (20, A v3), (21, A a4)] [] ?_
  obtain ⟨v5, hv6, h⟩ := bindS h
  refine cF 22 (ok_impl_ExprKind hv6) ?_
  refine ve 3 25 [(10, B ((v5 == 3)))] [] ?_
  cases h
  exact pwp_ret rz
  replace h := bF hc7 h
  rw [hc7]
  refine ve 9 25 [(10, B false)] [] ?_
  cases h
  exact pwp_ret rz
def impl_partners_l0 (a0 : List T_impl_Value) (a1 : List (List T_impl_Value)) (a2 : List T_impl_Part) : Nat → Int → (List (List T_impl_Value)) → Option (List (List T_impl_Value))
  | 0, _, _ => none
  | f4 + 1, x2, x3 => bif (decide (x2 < ((a1.length : Int)))) then (getI a1 x2).bind fun v7 => (impl_beside a0 v7).bind fun v9 => (impl_exprHolds v9 a2).bind fun v11 => bif v11 then (app x3 (([v9] : List (List T_impl_Value)))).bind fun v14 => (impl_partners_l0 a0 a1 a2 f4) ((w64 (x2 + 1))) v14 else (impl_partners_l0 a0 a1 a2 f4) ((w64 (x2 + 1))) x3 else some x3
def impl_partners (a0 : List T_impl_Value) (a1 : List (List T_impl_Value)) (a2 : List T_impl_Part) : Option (List (List T_impl_Value)) := impl_partners_l0 a0 a1 a2 FUEL 0 (([] : List (List T_impl_Value)))
theorem ok_impl_partners {a0 : List T_impl_Value} {a1 : List (List T_impl_Value)} {a2 : List T_impl_Part} {y : List (List T_impl_Value)} (h : impl_partners a0 a1 a2 = some y) : OK Try.prog 42 [A a0, A a1, A a2] (O y) := by
  refine ow Try.func42 fun Γ hX => ?_
  unfold impl_partners at h
  refine srve 29 [(0, A a0), (1, A a1), (2, A a2)] [] ?_
  refine srve 29 [(0, A a0), (1, A a1), (2, A a2), (7, .arr 1 0 (eL ([] : List (List T_impl_Value))) true)] [] ?_
  refine pwp_seq ?_
  refine srve 29 [(0, A a0), (2, A a2), (7, .arr 1 0 (eL ([] : List (List T_impl_Value))) true), (11, A a1), (12, I ((a1.length : Int))), (13, I 0)] [] ?_
  refine pwp_block ?_
  refine pwp_loop (ι := Nat × Int × (List (List T_impl_Value))) (fun (f4, x2, x3) => (⟨29, [(0, A a0), (2, A a2), (7, rf 0 0 1 x3), (11, A a1), (12, I ((a1.length : Int))), (13, I x2)], [sl 0 x3]⟩ : St)) (fun (f4, x2, x3) => impl_partners_l0 a0 a1 a2 f4 x2 x3 = some y) Prod.fst (FUEL, 0, ([] : List (List T_impl_Value))) h (Imp.thawS 7 [0, 2, 7, 11, 12, 13] (by kernel_rfl)) ?_
  rintro ⟨f4, x2, x3⟩ h
  dsimp only at h ⊢
  rcases f4 with _ | f4
  cases h
  rw [impl_partners_l0] at h
  refine srve 29 [(0, A a0), (2, A a2), (7, rf 0 0 1 x3), (11, A a1), (12, I ((a1.length : Int))), (13, I x2), (14, B ((decide (x2 < ((a1.length : Int))))))] [sl 0 x3] ?_
  refine pwp_seq ?_
  refine pc h (fun h => ?_) (fun h => ?_)
  refine pwp_skip ?_
  refine pwp_seq ?_
  refine pwp_block ?_
  refine pwp_seq ?_
  refine pwp_region ?_
  obtain ⟨v7, hv8, h⟩ := bindS h
  refine opsP_idx τ_ok 15 hv8 (by kernel_rfl) ?_
  refine ve 2 29 [(0, A a0), (2, A a2), (7, rf 0 0 1 x3), (9, A v7), (11, A a1), (12, I ((a1.length : Int))), (13, I x2)] [sl 0 x3] ?_
  refine srv 2 29 [(0, A a0), (2, A a2), (7, rf 0 0 1 x3), (11, A a1), (12, I ((a1.length : Int))), (13, I x2), (17, A a0), (18, A v7)] [sl 0 x3] ?_
  obtain ⟨v9, hv10, h⟩ := bindS h
  refine cF 19 (ok_impl_beside hv10) ?_
  refine ve 1 29 [(0, A a0), (2, A a2), (7, rf 0 0 1 x3), (10, A v9), (11, A a1), (12, I ((a1.length : Int))), (13, I x2)] [sl 0 x3] ?_
  refine srv 2 29 [(0, A a0), (2, A a2), (7, rf 0 0 1 x3), (10, A v9), (11, A a1), (12, I ((a1.length : Int))), (13, I x2), (20, A v9), (21, A a2)] [sl 0 x3] ?_
  obtain ⟨v11, hv12, h⟩ := bindS h
  refine cF 22 (ok_impl_exprHolds hv12) ?_
  refine ve 0 29 [(0, A a0), (2, A a2), (7, rf 0 0 1 x3), (10, A v9), (11, A a1), (12, I ((a1.length : Int))), (13, I x2), (22, B v11)] [sl 0 x3] ?_
  refine pc h (fun h => ?_) (fun h => ?_)
  refine rv 3 29 [(0, A a0), (2, A a2), (11, A a1), (12, I ((a1.length : Int))), (13, I x2), (23, rf 0 0 1 x3), (25, .arr 1 (([v9] : List (List T_impl_Value))).length (eL ([v9] : List (List T_impl_Value))) true)] [sl 0 x3] ?_
  obtain ⟨v14, hv15, h⟩ := bindS h
  refine opsP_app τ_ok 26 0 0 (nx hX) hv15 (by kernel_rfl) ?_
  refine ve 1 29 [(0, A a0), (2, A a2), (7, rf 0 1 1 v14), (11, A a1), (12, I ((a1.length : Int))), (13, I x2)] [sl 1 v14] ?_
  refine rve 29 [(0, A a0), (2, A a2), (7, rf 0 1 1 v14), (11, A a1), (12, I ((a1.length : Int))), (13, I ((w64 (x2 + 1))))] [sl 1 v14] ?_
  exact ⟨(f4, (w64 (x2 + 1)), v14), h, Nat.lt_succ_self _, (it (st' := ⟨29, [(0, A a0), (2, A a2), (7, rf 0 1 1 v14), (11, A a1), (12, I ((a1.length : Int))), (13, I ((w64 (x2 + 1))))], [sl 1 v14]⟩) [0, 2, 7, 11, 12, 13]).trans (Imp.reverS 0 1 (eL v14) [0, 2, 7, 11, 12, 13] (by kernel_rfl) (by exact (And.intro (eL_frz _) trivial)) (by kernel_rfl))⟩
  refine pwp_skip ?_
  refine rve 29 [(0, A a0), (2, A a2), (7, rf 0 0 1 x3), (11, A a1), (12, I ((a1.length : Int))), (13, I ((w64 (x2 + 1))))] [sl 0 x3] ?_
  exact ⟨(f4, (w64 (x2 + 1)), x3), h, Nat.lt_succ_self _, it [0, 2, 7, 11, 12, 13]⟩
  refine pwp_exit ?_
  refine srve 29 [(6, rf 0 0 1 x3)] [sl 0 x3] ?_
  have h := si h
  subst h
  exact pwp_ret (rt (rf 0 0 1 x3) (OutP.list (v := 0) (by kernel_rfl)))
def impl_clone_impl_Column_R (a0 : List T_impl_Column) : Option (List T_impl_Column) := bif (((a0.length : Int)) == 0) then some (([] : List T_impl_Column)) else (app [] a0).bind fun v2 => (slices_Clip_impl_Column_impl_Column_R v2).bind fun v4 => some v4
theorem ok_impl_clone_impl_Column_R {a0 : List T_impl_Column} {y : List T_impl_Column} (h : impl_clone_impl_Column_R a0 = some y) : OK Try.prog 32 [A a0] (O y) := by
  refine ow Try.func32 fun Γ hX => ?_
  unfold impl_clone_impl_Column_R at h
  refine srve 9 [(0, A a0)] [] ?_
  refine pwp_seq ?_
  refine srve 9 [(0, A a0), (5, B ((((a0.length : Int)) == 0)))] [] ?_
  refine pc h (fun h => ?_) (fun h => ?_)
  refine srve 9 [(2, .arr 2 0 (eL ([] : List T_impl_Column)) true)] [] ?_
  refine ip 9 [(2, .arr 2 0 (eL ([] : List T_impl_Column)) true)] [] ?_
  refine pwp_imp (Imp.thawS (st' := ⟨9, [(2, .ref 0 0 0 2 (([] : List T_impl_Column)).length false)], [some ⟨0, eL (([] : List T_impl_Column))⟩]⟩) 2 [2] (by kernel_rfl)) ?_
  have h := si h
  subst h
  exact pwp_ret (rt (.ref 0 0 0 2 (([] : List T_impl_Column)).length false) (OutP.list (v := 0) (by kernel_rfl)))
  refine pwp_skip ?_
  refine srv 1 9 [(6, A a0)] [] ?_
  obtain ⟨v2, hv3, h⟩ := bindS h
  refine opsP_apn τ_ok 7 0 (nx hX) hv3 (by kernel_rfl) ?_
  obtain ⟨v4, hv5, h⟩ := bindS h
  refine opsP_callM (xs := [rf 0 1 2 v2]) (x := rf 1 0 2 v4) (bs := [⟨0, eL v4⟩]) τ 8 [0] (nx hX) (ok_slices_Clip_impl_Column_impl_Column_R hv5) (by kernel_rfl) (OutL.cons (OutP.list (v := 1) (by kernel_rfl)) (OutL.nil _)) (by decide) (by kernel_rfl) ?_
  refine ve 1 9 [(2, rf 1 0 2 v4)] [none, sl 0 v4] ?_
  have h := si h
  subst h
  exact pwp_ret (rt (rf 1 0 2 v4) (OutP.list (v := 0) (by kernel_rfl)))
def spec_DrawOuter (a0 : List UInt8) : Option ((List T_impl_Column) × (List T_impl_Column) × (List (List T_impl_Value)) × (List (List T_impl_Value)) × (List T_impl_Part) × (List T_impl_Part)) := (spec_l20Open a0).bind fun v1 => (spec_l20Test v1 0).bind fun v3 => (spec_LeftColumns v3.1.1 v3.1.2.1).bind fun v5 => (spec_l20Expr v3.2 v5 3 2).bind fun v7 => some (v3.1.1, v3.1.2.1, v3.1.2.2.1, v3.1.2.2.2.1, v3.1.2.2.2.2, v7.1)
theorem ok_spec_DrawOuter {a0 : List UInt8} {y : (List T_impl_Column) × (List T_impl_Column) × (List (List T_impl_Value)) × (List (List T_impl_Value)) × (List T_impl_Part) × (List T_impl_Part)} (h : spec_DrawOuter a0 = some y) : OK Try.prog 6 [A a0] (.tup [A y.1, A y.2.1, A y.2.2.1, A y.2.2.2.1, A y.2.2.2.2.1, A y.2.2.2.2.2]) := by
  refine ow Try.func6 fun Γ hX => ?_
  unfold spec_DrawOuter at h
  refine srve 34 [(0, A a0)] [] ?_
  refine srv 1 34 [(14, A a0)] [] ?_
  obtain ⟨v1, hv2, h⟩ := bindS h
  refine opsP_callO τ 15 (ok_spec_l20Open hv2) rfl (by kernel_rfl) ?_
  refine ve 1 34 [(8, .ptr 0 0 0)] [sc 0 v1] ?_
  refine srv 1 34 [(8, .ptr 0 0 0), (17, .ptr 0 0 0)] [sc 0 v1] ?_
  obtain ⟨v3, hv4, h⟩ := bindS h
  refine opsP_callB τ 18 0 0 (ok_spec_l20Test hv4) (FzTo.tup (FzToL.cons (FzTo.frz rfl) (FzToL.cons (FzTo.O _) (FzToL.cons (FzTo.O _) (FzToL.cons (FzTo.O _) (FzToL.cons (FzTo.frz rfl) FzToL.nil)))))) rfl (by kernel_rfl) ?_
  refine ve 11 34 [(8, .ptr 0 0 0), (9, A v3.1.1), (10, A v3.1.2.1), (11, A v3.1.2.2.1), (12, A v3.1.2.2.2.1), (13, A v3.1.2.2.2.2)] [sc 0 v3.2] ?_
  refine srv 8 34 [(24, A v3.1.1), (25, A v3.1.2.1), (26, A v3.1.2.2.1), (27, A v3.1.2.2.2.1), (28, A v3.1.2.2.2.2), (29, .ptr 0 0 0), (30, A v3.1.1), (31, A v3.1.2.1)] [sc 0 v3.2] ?_
  obtain ⟨v5, hv6, h⟩ := bindS h
  refine cFo 32 (ok_spec_LeftColumns hv6) ?_
  obtain ⟨v7, hv8, h⟩ := bindS h
  refine cBo 33 0 0 (ok_spec_l20Expr hv8) ?_
  refine ve 6 34 [(2, A v3.1.1), (3, A v3.1.2.1), (4, A v3.1.2.2.1), (5, A v3.1.2.2.2.1), (6, A v3.1.2.2.2.2), (7, A v7.1)] [sc 0 v7.2] ?_
  have h := si h
  subst h
  exact pwp_ret (rt (.tup [A v3.1.1, A v3.1.2.1, A v3.1.2.2.1, A v3.1.2.2.2.1, A v3.1.2.2.2.2, A v7.1]) (OutP.tup (OutL.cons (OutP.frz (by kernel_rfl)) (OutL.cons (OutP.frz (by kernel_rfl)) (OutL.cons (OutP.frz (by kernel_rfl)) (OutL.cons (OutP.frz (by kernel_rfl)) (OutL.cons (OutP.frz (by kernel_rfl)) (OutL.cons (OutP.frz (by kernel_rfl)) (OutL.nil _)))))))))
def impl_LeftColumns_l1 (a1 : List T_impl_Column) : Nat → Int → (List T_impl_Column) → Option (List T_impl_Column)
  | 0, _, _ => none
  | f8 + 1, x6, x7 => bif (decide (x6 < ((a1.length : Int)))) then (getI a1 x6).bind fun v11 => (app x7 (([(T_impl_Column.mk v11.fKind true)] : List T_impl_Column))).bind fun v13 => (impl_LeftColumns_l1 a1 f8) ((w64 (x6 + 1))) v13 else (impl_clone_impl_Column x7).bind fun v15 => some v15
def impl_LeftColumns_j0 (a0 : List T_impl_Column) (a1 : List T_impl_Column) (x1 : Bool) : Option (List T_impl_Column) := bif x1 then some (([] : List T_impl_Column)) else (impl_clone_impl_Column_R a0).bind fun v3 => impl_LeftColumns_l1 a1 FUEL 0 v3
def impl_LeftColumns (a0 : List T_impl_Column) (a1 : List T_impl_Column) : Option (List T_impl_Column) := (impl_ColumnsOk a0).bind fun v17 => bif (!v17) then impl_LeftColumns_j0 a0 a1 true else (impl_ColumnsOk a1).bind fun v19 => bif (!v19) then impl_LeftColumns_j0 a0 a1 true else impl_LeftColumns_j0 a0 a1 ((decide (((w64 (((a0.length : Int)) + ((a1.length : Int))))) > 4)))
theorem ok_impl_LeftColumns {a0 : List T_impl_Column} {a1 : List T_impl_Column} {y : List T_impl_Column} (h : impl_LeftColumns a0 a1 = some y) : OK Try.prog 7 [A a0, A a1] (A y) := by
  refine ow Try.func7 fun Γ hX => ?_
  unfold impl_LeftColumns at h
  refine srveM [7] 41 [(0, A a0), (1, A a1)] [] ?_
  refine pwp_seq ?_
  refine pwp_seq ?_
  refine pwp_join (σ := Bool) (fun x1 => (⟨41, [(0, A a0), (1, A a1), (23, B x1)], []⟩ : St)) (fun x1 => impl_LeftColumns_j0 a0 a1 x1 = some y) ?_ ?_
  refine rvM [7] 1 41 [(0, A a0), (1, A a1), (8, A a0)] [] ?_
  obtain ⟨v17, hv18, h⟩ := bindS h
  refine cF 9 (ok_impl_ColumnsOk hv18) ?_
  refine vM [7] 2 41 [(0, A a0), (1, A a1), (11, B ((!v17)))] [] ?_
  rcases fk ((!v17)) with hc22 | hc22
  replace h := bT hc22 h
  rw [hc22]
  refine veM [7] 12 41 [(0, A a0), (1, A a1), (23, B true)] [] ?_
  exact ⟨true, h, it [0, 1, 23]⟩
  replace h := bF hc22 h
  rw [hc22]
  refine vM [7] 1 41 [(0, A a0), (1, A a1), (11, B false), (12, A a1)] [] ?_
  obtain ⟨v19, hv20, h⟩ := bindS h
  refine cF 13 (ok_impl_ColumnsOk hv20) ?_
  refine vM [7] 3 41 [(0, A a0), (1, A a1), (16, B ((!v19)))] [] ?_
  rcases fk ((!v19)) with hc21 | hc21
  replace h := bT hc21 h
  rw [hc21]
  refine veM [7] 7 41 [(0, A a0), (1, A a1), (23, B true)] [] ?_
  exact ⟨true, h, it [0, 1, 23]⟩
  replace h := bF hc21 h
  rw [hc21]
  refine veM [7] 7 41 [(0, A a0), (1, A a1), (23, B ((decide (((w64 (((a0.length : Int)) + ((a1.length : Int))))) > 4))))] [] ?_
  exact ⟨(decide (((w64 (((a0.length : Int)) + ((a1.length : Int))))) > 4)), h, it [0, 1, 23]⟩
  rintro x1 h
  unfold impl_LeftColumns_j0 at h
  refine pc h (fun h => ?_) (fun h => ?_)
  refine srveM [7] 41 [(4, .arr 2 0 (eL ([] : List T_impl_Column)) true)] [] ?_
  refine ip 41 [(4, .arr 2 0 (eL ([] : List T_impl_Column)) true)] [] ?_
  refine pwp_imp (Imp.unfS (st' := ⟨41, [(4, A (([] : List T_impl_Column)))], []⟩) 4 [4] (by kernel_rfl)) ?_
  cases h
  exact pwp_ret rz
  refine pwp_skip ?_
  refine srvM [7] 1 41 [(1, A a1), (24, A a0)] [] ?_
  obtain ⟨v3, hv4, h⟩ := bindS h
  refine opsP_callO τ 25 (ok_impl_clone_impl_Column_R hv4) rfl (by kernel_rfl) ?_
  refine veM [7] 1 41 [(1, A a1), (5, rf 0 0 2 v3)] [sl 0 v3] ?_
  refine pwp_seq ?_
  refine srveM [7] 41 [(5, rf 0 0 2 v3), (26, A a1), (27, I ((a1.length : Int))), (28, I 0)] [sl 0 v3] ?_
  refine pwp_block ?_
  refine pwp_loop (ι := Nat × Int × (List T_impl_Column)) (fun (f8, x6, x7) => (⟨41, [(5, rf 0 0 2 x7), (26, A a1), (27, I ((a1.length : Int))), (28, I x6)], [sl 0 x7]⟩ : St)) (fun (f8, x6, x7) => impl_LeftColumns_l1 a1 f8 x6 x7 = some y) Prod.fst (FUEL, 0, v3) h (it [5, 26, 27, 28]) ?_
  rintro ⟨f8, x6, x7⟩ h
  dsimp only at h ⊢
  rcases f8 with _ | f8
  cases h
  rw [impl_LeftColumns_l1] at h
  refine srveM [7] 41 [(5, rf 0 0 2 x7), (26, A a1), (27, I ((a1.length : Int))), (28, I x6), (29, B ((decide (x6 < ((a1.length : Int))))))] [sl 0 x7] ?_
  refine pwp_seq ?_
  refine pc h (fun h => ?_) (fun h => ?_)
  refine pwp_skip ?_
  refine pwp_seq ?_
  refine pwp_block ?_
  refine pwp_seq ?_
  refine pwp_region ?_
  obtain ⟨v11, hv12, h⟩ := bindS h
  refine opsP_idx τ_ok 30 hv12 (by kernel_rfl) ?_
  refine veM [7] 3 41 [(5, rf 0 0 2 x7), (7, .ptr 1 0 0), (26, A a1), (27, I ((a1.length : Int))), (28, I x6)] [sl 0 x7, sc 0 v11] ?_
  refine rvM [7] 5 41 [(26, A a1), (27, I ((a1.length : Int))), (28, I x6), (32, rf 0 0 2 x7), (36, .arr 2 (([(T_impl_Column.mk v11.fKind true)] : List T_impl_Column)).length (eL ([(T_impl_Column.mk v11.fKind true)] : List T_impl_Column)) true)] [sl 0 x7, sc 0 v11] ?_
  obtain ⟨v13, hv14, h⟩ := bindS h
  refine opsP_app τ_ok 37 0 0 (nx hX) hv14 (by kernel_rfl) ?_
  refine veM [7] 1 41 [(5, rf 0 1 2 v13), (26, A a1), (27, I ((a1.length : Int))), (28, I x6)] [sl 1 v13, sc 0 v11] ?_
  refine rveM [7] 41 [(5, rf 0 1 2 v13), (26, A a1), (27, I ((a1.length : Int))), (28, I ((w64 (x6 + 1))))] [sl 1 v13, sc 0 v11] ?_
  exact ⟨(f8, (w64 (x6 + 1)), v13), h, Nat.lt_succ_self _, (it (st' := ⟨41, [(5, rf 0 1 2 v13), (26, A a1), (27, I ((a1.length : Int))), (28, I ((w64 (x6 + 1))))], [sl 1 v13, sc 0 v11]⟩) [5, 26, 27, 28]).trans ((Imp.truncS (st' := ⟨41, [(5, rf 0 1 2 v13), (26, A a1), (27, I ((a1.length : Int))), (28, I ((w64 (x6 + 1))))], [sl 1 v13]⟩) 1 (nx hX) (by kernel_rfl) (allBelow_mem (by exact (And.intro rfl (And.intro rfl (And.intro rfl (And.intro rfl trivial)))))) (by exact (And.intro (frz_below (eL_frz _)) trivial)) (by kernel_rfl)).trans (Imp.reverS 0 1 (eL v13) [5, 26, 27, 28] (by kernel_rfl) (by exact (And.intro (eL_frz _) trivial)) (by kernel_rfl)))⟩
  refine pwp_exit ?_
  refine srvM [7] 1 41 [(39, rf 0 0 2 x7)] [sl 0 x7] ?_
  refine opsP_imp ((Imp.freezeB (v := 0) (cs := eL x7) (st' := ⟨41, [(39, A x7)], [none]⟩) 0 0 (nx hX) (by kernel_rfl) (eL_frz _) (wholeC (whole_is (eL_len x7).symm) wholeC0) (HpRel.key HpRel.nil) (by kernel_rfl) rfl (nx hX))) ?_
  obtain ⟨v15, hv16, h⟩ := bindS h
  refine cF 40 (ok_impl_clone_impl_Column hv16) ?_
  refine veM [7] 1 41 [(4, A v15)] [none] ?_
  cases h
  exact pwp_ret rz
def impl_ExprHolds (a0 : List T_impl_Column) (a1 : List T_impl_Value) (a2 : List T_impl_Part) : Option Bool := (impl_ExprKind a0 a2).bind fun v1 => bif (v1 == 3) then (impl_RowFits a0 a1).bind fun v3 => bif v3 then (impl_exprHolds a1 a2).bind fun v5 => some v5 else some false else some false
theorem ok_impl_ExprHolds {a0 : List T_impl_Column} {a1 : List T_impl_Value} {a2 : List T_impl_Part} {y : Bool} (h : impl_ExprHolds a0 a1 a2 = some y) : OK Try.prog 11 [A a0, A a1, A a2] (B y) := by
  refine ow Try.func11 fun Γ hX => ?_
  unfold impl_ExprHolds at h
  refine srve 21 [(0, A a0), (1, A a1), (2, A a2)] [] ?_
  refine srv 2 21 [(0, A a0), (1, A a1), (2, A a2), (7, A a0), (8, A a2)] [] ?_
  obtain ⟨v1, hv2, h⟩ := bindS h
  refine cF 9 (ok_impl_ExprKind hv2) ?_
  refine v 2 21 [(0, A a0), (1, A a1), (2, A a2), (11, B ((v1 == 3)))] [] ?_
  rcases fk ((v1 == 3)) with hc8 | hc8
  replace h := bT hc8 h
  rw [hc8]
  refine v 2 21 [(1, A a1), (2, A a2), (11, B true), (12, A a0), (13, A a1)] [] ?_
  obtain ⟨v3, hv4, h⟩ := bindS h
  refine cF 14 (ok_impl_RowFits hv4) ?_
  refine v 2 21 [(1, A a1), (2, A a2), (16, B v3)] [] ?_
  rcases Bool.eq_false_or_eq_true v3 with hc7 | hc7
  replace h := bT hc7 h
  rw [hc7]
  refine v 2 21 [(16, B true), (17, A a1), (18, A a2)] [] ?_
  obtain ⟨v5, hv6, h⟩ := bindS h
  refine cF 19 (ok_impl_exprHolds hv6) ?_
  refine ve 2 21 [(6, B v5)] [] ?_
  cases h
  exact pwp_ret rz
  replace h := bF hc7 h
  rw [hc7]
  refine ve 5 21 [(6, B false)] [] ?_
  cases h
  exact pwp_ret rz
  replace h := bF hc8 h
  rw [hc8]
  refine ve 10 21 [(6, B false)] [] ?_
  cases h
  exact pwp_ret rz
def laws_heldRows_j1 (x2 : Int) (K5 : Int → (List (List T_impl_Value)) → Option (List (List T_impl_Value))) (x7 : List (List T_impl_Value)) : Option (List (List T_impl_Value)) := K5 ((w64 (x2 + 1))) x7
def laws_heldRows_l0 (a0 : List T_impl_Column) (a1 : List (List T_impl_Value)) (a2 : List T_impl_Part) : Nat → Int → (List (List T_impl_Value)) → Option (List (List T_impl_Value))
  | 0, _, _ => none
  | f4 + 1, x2, x3 => bif (decide (x2 < ((a1.length : Int)))) then (getI a1 x2).bind fun v8 => (impl_ExprHolds a0 v8 a2).bind fun v10 => bif v10 then (getI a1 x2).bind fun v13 => (app x3 (([v13] : List (List T_impl_Value)))).bind fun v15 => laws_heldRows_j1 x2 (laws_heldRows_l0 a0 a1 a2 f4) v15 else laws_heldRows_j1 x2 (laws_heldRows_l0 a0 a1 a2 f4) x3 else some x3
def laws_heldRows (a0 : List T_impl_Column) (a1 : List (List T_impl_Value)) (a2 : List T_impl_Part) : Option (List (List T_impl_Value)) := laws_heldRows_l0 a0 a1 a2 FUEL 0 (([] : List (List T_impl_Value)))
theorem ok_laws_heldRows {a0 : List T_impl_Column} {a1 : List (List T_impl_Value)} {a2 : List T_impl_Part} {y : List (List T_impl_Value)} (h : laws_heldRows a0 a1 a2 = some y) : OK Try.prog 13 [A a0, A a1, A a2] (O y) := by
  refine ow Try.func13 fun Γ hX => ?_
  unfold laws_heldRows at h
  refine srve 31 [(0, A a0), (1, A a1), (2, A a2)] [] ?_
  refine srve 31 [(0, A a0), (1, A a1), (2, A a2), (7, .arr 1 0 (eL ([] : List (List T_impl_Value))) true)] [] ?_
  refine pwp_seq ?_
  refine srve 31 [(0, A a0), (1, A a1), (2, A a2), (7, .arr 1 0 (eL ([] : List (List T_impl_Value))) true), (8, I 0)] [] ?_
  refine pwp_block ?_
  refine pwp_loop (ι := Nat × Int × (List (List T_impl_Value))) (fun (f4, x2, x3) => (⟨31, [(0, A a0), (1, A a1), (2, A a2), (7, rf 0 0 1 x3), (8, I x2)], [sl 0 x3]⟩ : St)) (fun (f4, x2, x3) => laws_heldRows_l0 a0 a1 a2 f4 x2 x3 = some y) Prod.fst (FUEL, 0, ([] : List (List T_impl_Value))) h (Imp.thawS 7 [0, 1, 2, 7, 8] (by kernel_rfl)) ?_
  rintro ⟨f4, x2, x3⟩ h
  dsimp only at h ⊢
  rcases f4 with _ | f4
  cases h
  rw [laws_heldRows_l0] at h
  refine pwp_seq ?_
  refine srve 31 [(0, A a0), (1, A a1), (2, A a2), (7, rf 0 0 1 x3), (8, I x2), (13, B ((decide (x2 < ((a1.length : Int))))))] [sl 0 x3] ?_
  refine pc h (fun h => ?_) (fun h => ?_)
  refine pwp_skip ?_
  refine pwp_seq ?_
  refine pwp_join (σ := (List (List T_impl_Value))) (fun x7 => (⟨31, [(0, A a0), (1, A a1), (2, A a2), (7, rf 0 0 1 x7), (8, I x2)], [sl 0 x7]⟩ : St)) (fun x7 => laws_heldRows_j1 x2 (laws_heldRows_l0 a0 a1 a2 f4) x7 = some y) ?_ ?_
  refine pwp_block ?_
  refine srv 3 31 [(0, A a0), (1, A a1), (2, A a2), (7, rf 0 0 1 x3), (8, I x2), (16, A a0), (17, A a1), (18, I x2)] [sl 0 x3] ?_
  obtain ⟨v8, hv9, h⟩ := bindS h
  refine opsP_idx τ_ok 19 hv9 (by kernel_rfl) ?_
  refine v 2 31 [(0, A a0), (1, A a1), (2, A a2), (7, rf 0 0 1 x3), (8, I x2), (16, A a0), (20, A v8), (21, A a2)] [sl 0 x3] ?_
  obtain ⟨v10, hv11, h⟩ := bindS h
  refine cF 22 (ok_impl_ExprHolds hv11) ?_
  refine ve 0 31 [(0, A a0), (1, A a1), (2, A a2), (7, rf 0 0 1 x3), (8, I x2), (22, B v10)] [sl 0 x3] ?_
  refine pc h (fun h => ?_) (fun h => ?_)
  refine rv 3 31 [(0, A a0), (1, A a1), (2, A a2), (8, I x2), (23, rf 0 0 1 x3), (24, A a1), (25, I x2)] [sl 0 x3] ?_
  obtain ⟨v13, hv14, h⟩ := bindS h
  refine opsP_idx τ_ok 26 hv14 (by kernel_rfl) ?_
  refine v 2 31 [(0, A a0), (1, A a1), (2, A a2), (8, I x2), (23, rf 0 0 1 x3), (28, .arr 1 (([v13] : List (List T_impl_Value))).length (eL ([v13] : List (List T_impl_Value))) true)] [sl 0 x3] ?_
  obtain ⟨v15, hv16, h⟩ := bindS h
  refine opsP_app τ_ok 29 0 0 (nx hX) hv16 (by kernel_rfl) ?_
  refine ve 1 31 [(0, A a0), (1, A a1), (2, A a2), (7, rf 0 1 1 v15), (8, I x2)] [sl 1 v15] ?_
  exact ⟨v15, h, (it (st' := ⟨31, [(0, A a0), (1, A a1), (2, A a2), (7, rf 0 1 1 v15), (8, I x2)], [sl 1 v15]⟩) [0, 1, 2, 7, 8]).trans (Imp.reverS 0 1 (eL v15) [0, 1, 2, 7, 8] (by kernel_rfl) (by exact (And.intro (eL_frz _) trivial)) (by kernel_rfl))⟩
  refine pwp_skip ?_
  exact ⟨x3, h, it [0, 1, 2, 7, 8]⟩
  rintro x7 h
  unfold laws_heldRows_j1 at h
  refine rve 31 [(0, A a0), (1, A a1), (2, A a2), (7, rf 0 0 1 x7), (8, I ((w64 (x2 + 1))))] [sl 0 x7] ?_
  exact ⟨(f4, (w64 (x2 + 1)), x7), h, Nat.lt_succ_self _, it [0, 1, 2, 7, 8]⟩
  refine pwp_exit ?_
  refine srve 31 [(6, rf 0 0 1 x3)] [sl 0 x3] ?_
  have h := si h
  subst h
  exact pwp_ret (rt (rf 0 0 1 x3) (OutP.list (v := 0) (by kernel_rfl)))
def impl_LeftRows_j1 (x5 : Int) (x6 : List (List T_impl_Value)) (K8 : Int → (List (List T_impl_Value)) → Option (List (List T_impl_Value))) (x14 : List (List T_impl_Value)) : Option (List (List T_impl_Value)) := (app x6 x14).bind fun v15 => K8 ((w64 (x5 + 1))) v15
def impl_LeftRows_l0 (a1 : List T_impl_Column) (a2 : List (List T_impl_Value)) (a3 : List (List T_impl_Value)) (a4 : List T_impl_Part) : Nat → Int → (List (List T_impl_Value)) → Option (List (List T_impl_Value))
  | 0, _, _ => none
  | f7 + 1, x5, x6 => bif (decide (x5 < ((a2.length : Int)))) then (getI a2 x5).bind fun v10 => (impl_partners v10 a3 a4).bind fun v12 => bif (((v12.length : Int)) == 0) then (mkI ((a1.length : Int)) ((T_impl_Value.mk 0 0 (ByteArray.mk #[])))).bind fun v18 => (impl_beside v10 v18).bind fun v20 => impl_LeftRows_j1 x5 x6 (impl_LeftRows_l0 a1 a2 a3 a4 f7) (([v20] : List (List T_impl_Value))) else impl_LeftRows_j1 x5 x6 (impl_LeftRows_l0 a1 a2 a3 a4 f7) v12 else (slices_Clip_impl_Value_impl_Value_s3 x6).bind fun v22 => some v22
def impl_LeftRows (a0 : List T_impl_Column) (a1 : List T_impl_Column) (a2 : List (List T_impl_Value)) (a3 : List (List T_impl_Value)) (a4 : List T_impl_Part) : Option (List (List T_impl_Value)) := (impl_testOk a0 a1 a2 a3 a4).bind fun v1 => bif (!v1) then some (([] : List (List T_impl_Value))) else impl_LeftRows_l0 a1 a2 a3 a4 FUEL 0 (([] : List (List T_impl_Value)))
theorem ok_impl_LeftRows {a0 : List T_impl_Column} {a1 : List T_impl_Column} {a2 : List (List T_impl_Value)} {a3 : List (List T_impl_Value)} {a4 : List T_impl_Part} {y : List (List T_impl_Value)} (h : impl_LeftRows a0 a1 a2 a3 a4 = some y) : OK Try.prog 14 [A a0, A a1, A a2, A a3, A a4] (A y) := by
  refine ow Try.func14 fun Γ hX => ?_
  unfold impl_LeftRows at h
  refine srve 47 [(0, A a0), (1, A a1), (2, A a2), (3, A a3), (4, A a4)] [] ?_
  refine pwp_seq ?_
  refine srv 5 47 [(1, A a1), (2, A a2), (3, A a3), (4, A a4), (15, A a0), (16, A a1), (17, A a2), (18, A a3), (19, A a4)] [] ?_
  obtain ⟨v1, hv2, h⟩ := bindS h
  refine cF 20 (ok_impl_testOk hv2) ?_
  refine ve 1 47 [(1, A a1), (2, A a2), (3, A a3), (4, A a4), (21, B ((!v1)))] [] ?_
  refine pc h (fun h => ?_) (fun h => ?_)
  refine srve 47 [(10, .arr 1 0 (eL ([] : List (List T_impl_Value))) true)] [] ?_
  refine ip 47 [(10, .arr 1 0 (eL ([] : List (List T_impl_Value))) true)] [] ?_
  refine pwp_imp (Imp.unfS (st' := ⟨47, [(10, A (([] : List (List T_impl_Value))))], []⟩) 10 [10] (by kernel_rfl)) ?_
  cases h
  exact pwp_ret rz
  refine pwp_skip ?_
  refine srve 47 [(1, A a1), (2, A a2), (3, A a3), (4, A a4), (11, .arr 1 0 (eL ([] : List (List T_impl_Value))) true)] [] ?_
  refine pwp_seq ?_
  refine srve 47 [(1, A a1), (3, A a3), (4, A a4), (11, .arr 1 0 (eL ([] : List (List T_impl_Value))) true), (22, A a2), (23, I ((a2.length : Int))), (24, I 0)] [] ?_
  refine pwp_block ?_
  refine pwp_loop (ι := Nat × Int × (List (List T_impl_Value))) (fun (f7, x5, x6) => (⟨47, [(1, A a1), (3, A a3), (4, A a4), (11, rf 0 0 1 x6), (22, A a2), (23, I ((a2.length : Int))), (24, I x5)], [sl 0 x6]⟩ : St)) (fun (f7, x5, x6) => impl_LeftRows_l0 a1 a2 a3 a4 f7 x5 x6 = some y) Prod.fst (FUEL, 0, ([] : List (List T_impl_Value))) h (Imp.thawS 11 [1, 3, 4, 11, 22, 23, 24] (by kernel_rfl)) ?_
  rintro ⟨f7, x5, x6⟩ h
  dsimp only at h ⊢
  rcases f7 with _ | f7
  cases h
  rw [impl_LeftRows_l0] at h
  refine srve 47 [(1, A a1), (3, A a3), (4, A a4), (11, rf 0 0 1 x6), (22, A a2), (23, I ((a2.length : Int))), (24, I x5), (25, B ((decide (x5 < ((a2.length : Int))))))] [sl 0 x6] ?_
  refine pwp_seq ?_
  refine pc h (fun h => ?_) (fun h => ?_)
  refine pwp_skip ?_
  refine pwp_seq ?_
  refine pwp_block ?_
  refine pwp_seq ?_
  refine pwp_region ?_
  obtain ⟨v10, hv11, h⟩ := bindS h
  refine opsP_idx τ_ok 26 hv11 (by kernel_rfl) ?_
  refine ve 2 47 [(1, A a1), (3, A a3), (4, A a4), (11, rf 0 0 1 x6), (13, A v10), (22, A a2), (23, I ((a2.length : Int))), (24, I x5)] [sl 0 x6] ?_
  refine srv 3 47 [(1, A a1), (3, A a3), (4, A a4), (11, rf 0 0 1 x6), (13, A v10), (22, A a2), (23, I ((a2.length : Int))), (24, I x5), (28, A v10), (29, A a3), (30, A a4)] [sl 0 x6] ?_
  obtain ⟨v12, hv13, h⟩ := bindS h
  refine cFo 31 (ok_impl_partners hv13) ?_
  refine ve 1 47 [(1, A a1), (3, A a3), (4, A a4), (11, rf 0 0 1 x6), (13, A v10), (14, A v12), (22, A a2), (23, I ((a2.length : Int))), (24, I x5)] [sl 0 x6] ?_
  refine pwp_seq ?_
  refine pwp_join (σ := (List (List T_impl_Value))) (fun x14 => (⟨47, [(1, A a1), (3, A a3), (4, A a4), (11, rf 0 0 1 x6), (14, A x14), (22, A a2), (23, I ((a2.length : Int))), (24, I x5)], [sl 0 x6]⟩ : St)) (fun x14 => impl_LeftRows_j1 x5 x6 (impl_LeftRows_l0 a1 a2 a3 a4 f7) x14 = some y) ?_ ?_
  refine srve 47 [(1, A a1), (3, A a3), (4, A a4), (11, rf 0 0 1 x6), (13, A v10), (14, A v12), (22, A a2), (23, I ((a2.length : Int))), (24, I x5), (34, B ((((v12.length : Int)) == 0)))] [sl 0 x6] ?_
  refine pc h (fun h => ?_) (fun h => ?_)
  refine rv 3 47 [(1, A a1), (3, A a3), (4, A a4), (11, rf 0 0 1 x6), (22, A a2), (23, I ((a2.length : Int))), (24, I x5), (35, A v10), (37, I ((a1.length : Int)))] [sl 0 x6] ?_
  obtain ⟨v18, hv19, h⟩ := bindS h
  refine opsP_mk τ_ok 38 1 _ hv19 (by kernel_rfl) (by kernel_rfl) ?_
  refine v 0 47 [(1, A a1), (3, A a3), (4, A a4), (11, rf 0 0 1 x6), (22, A a2), (23, I ((a2.length : Int))), (24, I x5), (35, A v10), (38, rf 1 0 3 v18)] [sl 0 x6, sl 0 v18] ?_
  refine opsP_imp ((Imp.freezeB (v := 0) (cs := eL v18) (st' := ⟨47, [(1, A a1), (3, A a3), (4, A a4), (11, rf 0 0 1 x6), (22, A a2), (23, I ((a2.length : Int))), (24, I x5), (35, A v10), (38, A v18)], [sl 0 x6, none]⟩) 1 0 (nx hX) (by kernel_rfl) (eL_frz _) (wholeC (whole_noRef (by kernel_rfl)) (wholeC (whole_noRef (by kernel_rfl)) (wholeC (whole_noRef (by kernel_rfl)) (wholeC (whole_ne rfl) (wholeC (whole_noRef (by kernel_rfl)) (wholeC (whole_noRef (by kernel_rfl)) (wholeC (whole_noRef (by kernel_rfl)) (wholeC (whole_noRef (by kernel_rfl)) (wholeC (whole_is (eL_len v18).symm) wholeC0))))))))) (HpRel.frz rfl (eL_frz _) (HpRel.key HpRel.nil)) (by kernel_rfl) rfl (nx hX))) ?_
  obtain ⟨v20, hv21, h⟩ := bindS h
  refine cF 39 (ok_impl_beside hv21) ?_
  refine ve 2 47 [(1, A a1), (3, A a3), (4, A a4), (11, rf 0 0 1 x6), (14, .arr 1 (([v20] : List (List T_impl_Value))).length (eL ([v20] : List (List T_impl_Value))) true), (22, A a2), (23, I ((a2.length : Int))), (24, I x5)] [sl 0 x6, none] ?_
  exact ⟨([v20] : List (List T_impl_Value)), h, (Imp.unfS (st' := ⟨47, [(1, A a1), (3, A a3), (4, A a4), (11, rf 0 0 1 x6), (14, A (([v20] : List (List T_impl_Value)))), (22, A a2), (23, I ((a2.length : Int))), (24, I x5)], [sl 0 x6, none]⟩) 14 [1, 3, 4, 11, 14, 22, 23, 24] (by kernel_rfl)).trans (Imp.truncS 1 (nx hX) (by kernel_rfl) (allBelow_mem (by exact (And.intro rfl (And.intro rfl (And.intro rfl (And.intro rfl (And.intro rfl (And.intro rfl (And.intro rfl (And.intro rfl trivial)))))))))) (by exact (And.intro (frz_below (eL_frz _)) trivial)) (by kernel_rfl))⟩
  refine pwp_skip ?_
  exact ⟨v12, h, it [1, 3, 4, 11, 14, 22, 23, 24]⟩
  rintro x14 h
  unfold impl_LeftRows_j1 at h
  refine rv 2 47 [(1, A a1), (3, A a3), (4, A a4), (22, A a2), (23, I ((a2.length : Int))), (24, I x5), (41, rf 0 0 1 x6), (42, A x14)] [sl 0 x6] ?_
  obtain ⟨v15, hv16, h⟩ := bindS h
  refine opsP_app τ_ok 43 0 0 (nx hX) hv16 (by kernel_rfl) ?_
  refine ve 1 47 [(1, A a1), (3, A a3), (4, A a4), (11, rf 0 1 1 v15), (22, A a2), (23, I ((a2.length : Int))), (24, I x5)] [sl 1 v15] ?_
  refine rve 47 [(1, A a1), (3, A a3), (4, A a4), (11, rf 0 1 1 v15), (22, A a2), (23, I ((a2.length : Int))), (24, I ((w64 (x5 + 1))))] [sl 1 v15] ?_
  exact ⟨(f7, (w64 (x5 + 1)), v15), h, Nat.lt_succ_self _, (it (st' := ⟨47, [(1, A a1), (3, A a3), (4, A a4), (11, rf 0 1 1 v15), (22, A a2), (23, I ((a2.length : Int))), (24, I ((w64 (x5 + 1))))], [sl 1 v15]⟩) [1, 3, 4, 11, 22, 23, 24]).trans (Imp.reverS 0 1 (eL v15) [1, 3, 4, 11, 22, 23, 24] (by kernel_rfl) (by exact (And.intro (eL_frz _) trivial)) (by kernel_rfl))⟩
  refine pwp_exit ?_
  refine srv 1 47 [(45, rf 0 0 1 x6)] [sl 0 x6] ?_
  refine opsP_imp ((Imp.freezeB (v := 0) (cs := eL x6) (st' := ⟨47, [(45, A x6)], [none]⟩) 0 0 (nx hX) (by kernel_rfl) (eL_frz _) (wholeC (whole_is (eL_len x6).symm) wholeC0) (HpRel.key HpRel.nil) (by kernel_rfl) rfl (nx hX))) ?_
  obtain ⟨v22, hv23, h⟩ := bindS h
  refine cF 46 (ok_slices_Clip_impl_Value_impl_Value_s3 hv23) ?_
  refine ve 1 47 [(10, A v22)] [none] ?_
  cases h
  exact pwp_ret rz
def laws_FnOuter_j2 (x21 : Int) (K24 : Int → (List (List T_impl_Value)) → Option Bool) (x26 : List (List T_impl_Value)) : Option Bool := K24 ((w64 (x21 + 1))) x26
def laws_FnOuter_j3 (x21 : Int) (x22 : List (List T_impl_Value)) (K24 : Int → (List (List T_impl_Value)) → Option Bool) (v33 : List T_impl_Value) (x35 : Bool) : Option Bool := bif x35 then (app x22 (([v33] : List (List T_impl_Value)))).bind fun v37 => laws_FnOuter_j2 x21 K24 v37 else laws_FnOuter_j2 x21 K24 x22
def laws_FnOuter_l1 (v2 : (List T_impl_Column) × (List T_impl_Column) × (List (List T_impl_Value)) × (List (List T_impl_Value)) × (List T_impl_Part) × (List T_impl_Part)) (v4 : List T_impl_Column) (x15 : Int) (K18 : Int → (List (List T_impl_Value)) → Option Bool) : Nat → Int → (List (List T_impl_Value)) → Option Bool
  | 0, _, _ => none
  | f23 + 1, x21, x22 => bif (decide (x21 < ((v2.2.2.2.1.length : Int)))) then (getI v2.2.2.1 x15).bind fun v27 => (app [] v27).bind fun v29 => (getI v2.2.2.2.1 x21).bind fun v31 => (app v29 v31).bind fun v33 => (impl_ExprHolds v4 v33 v2.2.2.2.2.1).bind fun v39 => bif v39 then (impl_ExprHolds v4 v33 v2.2.2.2.2.2).bind fun v41 => laws_FnOuter_j3 x21 x22 (laws_FnOuter_l1 v2 v4 x15 K18 f23) v33 v41 else laws_FnOuter_j3 x21 x22 (laws_FnOuter_l1 v2 v4 x15 K18 f23) v33 false else K18 ((w64 (x15 + 1))) x22
def laws_FnOuter_l0 (v2 : (List T_impl_Column) × (List T_impl_Column) × (List (List T_impl_Value)) × (List (List T_impl_Value)) × (List T_impl_Part) × (List T_impl_Part)) (v4 : List T_impl_Column) : Nat → Int → (List (List T_impl_Value)) → Option Bool
  | 0, _, _ => none
  | f17 + 1, x15, x16 => bif (decide (x15 < ((v2.2.2.1.length : Int)))) then laws_FnOuter_l1 v2 v4 x15 (laws_FnOuter_l0 v2 v4 f17) FUEL 0 x16 else (impl_LeftRows v2.1 v2.2.1 v2.2.2.1 v2.2.2.2.1 v2.2.2.2.2.1).bind fun v44 => (laws_heldRows v4 v44 v2.2.2.2.2.2).bind fun v46 => (laws_sameRows v46 x16).bind fun v48 => bif v48 then (laws_alive).bind fun v50 => some v50 else some false
def laws_FnOuter (a0 : List UInt8) : Option Bool := bif (decide (((a0.length : Int)) > 1048576)) then some true else (spec_DrawOuter a0).bind fun v2 => (impl_LeftColumns v2.1 v2.2.1).bind fun v4 => (impl_Rejects v4 v2.2.2.2.2.2 ((v2.1.length : Int))).bind fun v6 => (spec_Rejects v4 v2.2.2.2.2.2 ((v2.1.length : Int))).bind fun v8 => bif (!(v6 == v8)) then some false else bif (!v6) then (laws_alive).bind fun v12 => some v12 else laws_FnOuter_l0 v2 v4 FUEL 0 (([] : List (List T_impl_Value)))
theorem ok_laws_FnOuter {a0 : List UInt8} {y : Bool} (h : laws_FnOuter a0 = some y) : OK Try.prog 3 [A a0] (B y) := by
  refine ow Try.func3 fun Γ hX => ?_
  unfold laws_FnOuter at h
  refine srve 97 [(0, A a0)] [] ?_
  refine pwp_seq ?_
  refine srve 97 [(0, A a0), (17, B ((decide (((a0.length : Int)) > 1048576))))] [] ?_
  refine pc h (fun h => ?_) (fun h => ?_)
  refine srve 97 [(2, B true)] [] ?_
  cases h
  exact pwp_ret rz
  refine pwp_skip ?_
  refine srv 1 97 [(19, A a0)] [] ?_
  obtain ⟨v2, hv3, h⟩ := bindS h
  refine opsP_callF τ 20 (ok_spec_DrawOuter hv3) (FzTo.tup (FzToL.cons (FzTo.frz rfl) (FzToL.cons (FzTo.frz rfl) (FzToL.cons (FzTo.frz rfl) (FzToL.cons (FzTo.frz rfl) (FzToL.cons (FzTo.frz rfl) (FzToL.cons (FzTo.frz rfl) FzToL.nil))))))) rfl (by kernel_rfl) ?_
  refine ve 13 97 [(3, A v2.1), (4, A v2.2.1), (5, A v2.2.2.1), (6, A v2.2.2.2.1), (7, A v2.2.2.2.2.1), (8, A v2.2.2.2.2.2)] [] ?_
  refine srv 2 97 [(3, A v2.1), (4, A v2.2.1), (5, A v2.2.2.1), (6, A v2.2.2.2.1), (7, A v2.2.2.2.2.1), (8, A v2.2.2.2.2.2), (27, A v2.1), (28, A v2.2.1)] [] ?_
  obtain ⟨v4, hv5, h⟩ := bindS h
  refine cF 29 (ok_impl_LeftColumns hv5) ?_
  refine ve 1 97 [(3, A v2.1), (4, A v2.2.1), (5, A v2.2.2.1), (6, A v2.2.2.2.1), (7, A v2.2.2.2.2.1), (8, A v2.2.2.2.2.2), (9, A v4)] [] ?_
  refine srv 4 97 [(3, A v2.1), (4, A v2.2.1), (5, A v2.2.2.1), (6, A v2.2.2.2.1), (7, A v2.2.2.2.2.1), (8, A v2.2.2.2.2.2), (9, A v4), (30, A v4), (31, A v2.2.2.2.2.2), (33, I ((v2.1.length : Int)))] [] ?_
  obtain ⟨v6, hv7, h⟩ := bindS h
  refine cF 34 (ok_impl_Rejects hv7) ?_
  refine ve 1 97 [(3, A v2.1), (4, A v2.2.1), (5, A v2.2.2.1), (6, A v2.2.2.2.1), (7, A v2.2.2.2.2.1), (8, A v2.2.2.2.2.2), (9, A v4), (10, B v6)] [] ?_
  refine pwp_seq ?_
  refine srv 5 97 [(3, A v2.1), (4, A v2.2.1), (5, A v2.2.2.1), (6, A v2.2.2.2.1), (7, A v2.2.2.2.2.1), (8, A v2.2.2.2.2.2), (9, A v4), (10, B v6), (35, B v6), (36, A v4), (37, A v2.2.2.2.2.2), (39, I ((v2.1.length : Int)))] [] ?_
  obtain ⟨v8, hv9, h⟩ := bindS h
  refine cF 40 (ok_spec_Rejects hv9) ?_
  refine ve 1 97 [(3, A v2.1), (4, A v2.2.1), (5, A v2.2.2.1), (6, A v2.2.2.2.1), (7, A v2.2.2.2.2.1), (8, A v2.2.2.2.2.2), (9, A v4), (10, B v6), (41, B ((!(v6 == v8))))] [] ?_
  refine pc h (fun h => ?_) (fun h => ?_)
  refine srve 97 [(2, B false)] [] ?_
  cases h
  exact pwp_ret rz
  refine pwp_skip ?_
  refine pwp_seq ?_
  refine srve 97 [(3, A v2.1), (4, A v2.2.1), (5, A v2.2.2.1), (6, A v2.2.2.2.1), (7, A v2.2.2.2.2.1), (8, A v2.2.2.2.2.2), (9, A v4), (43, B ((!v6)))] [] ?_
  refine pc h (fun h => ?_) (fun h => ?_)
  refine pwp_seq ?_
  refine pwp_region ?_
  obtain ⟨v12, hv13, h⟩ := bindS h
  refine cF 44 (ok_laws_alive hv13) ?_
  refine ve 1 97 [(2, B v12)] [] ?_
  cases h
  exact pwp_ret rz
  refine pwp_skip ?_
  refine srve 97 [(3, A v2.1), (4, A v2.2.1), (5, A v2.2.2.1), (6, A v2.2.2.2.1), (7, A v2.2.2.2.2.1), (8, A v2.2.2.2.2.2), (9, A v4), (11, .arr 1 0 (eL ([] : List (List T_impl_Value))) true)] [] ?_
  refine pwp_seq ?_
  refine srve 97 [(3, A v2.1), (4, A v2.2.1), (5, A v2.2.2.1), (6, A v2.2.2.2.1), (7, A v2.2.2.2.2.1), (8, A v2.2.2.2.2.2), (9, A v4), (11, .arr 1 0 (eL ([] : List (List T_impl_Value))) true), (12, I 0)] [] ?_
  refine pwp_block ?_
  refine pwp_loop (ι := Nat × Int × (List (List T_impl_Value))) (fun (f17, x15, x16) => (⟨97, [(3, A v2.1), (4, A v2.2.1), (5, A v2.2.2.1), (6, A v2.2.2.2.1), (7, A v2.2.2.2.2.1), (8, A v2.2.2.2.2.2), (9, A v4), (11, rf 0 0 1 x16), (12, I x15)], [sl 0 x16]⟩ : St)) (fun (f17, x15, x16) => laws_FnOuter_l0 v2 v4 f17 x15 x16 = some y) Prod.fst (FUEL, 0, ([] : List (List T_impl_Value))) h (Imp.thawS 11 [3, 4, 5, 6, 7, 8, 9, 11, 12] (by kernel_rfl)) ?_
  rintro ⟨f17, x15, x16⟩ h
  dsimp only at h ⊢
  rcases f17 with _ | f17
  cases h
  rw [laws_FnOuter_l0] at h
  refine pwp_seq ?_
  refine srve 97 [(3, A v2.1), (4, A v2.2.1), (5, A v2.2.2.1), (6, A v2.2.2.2.1), (7, A v2.2.2.2.2.1), (8, A v2.2.2.2.2.2), (9, A v4), (11, rf 0 0 1 x16), (12, I x15), (49, B ((decide (x15 < ((v2.2.2.1.length : Int))))))] [sl 0 x16] ?_
  refine pc h (fun h => ?_) (fun h => ?_)
  refine pwp_skip ?_
  refine pwp_seq ?_
  refine pwp_block ?_
  refine srve 97 [(3, A v2.1), (4, A v2.2.1), (5, A v2.2.2.1), (6, A v2.2.2.2.1), (7, A v2.2.2.2.2.1), (8, A v2.2.2.2.2.2), (9, A v4), (11, rf 0 0 1 x16), (12, I x15), (13, I 0)] [sl 0 x16] ?_
  refine pwp_block ?_
  refine pwp_loop (ι := Nat × Int × (List (List T_impl_Value))) (fun (f23, x21, x22) => (⟨97, [(3, A v2.1), (4, A v2.2.1), (5, A v2.2.2.1), (6, A v2.2.2.2.1), (7, A v2.2.2.2.2.1), (8, A v2.2.2.2.2.2), (9, A v4), (11, rf 0 0 1 x22), (12, I x15), (13, I x21)], [sl 0 x22]⟩ : St)) (fun (f23, x21, x22) => laws_FnOuter_l1 v2 v4 x15 (laws_FnOuter_l0 v2 v4 f17) f23 x21 x22 = some y) Prod.fst (FUEL, 0, x16) h (it [3, 4, 5, 6, 7, 8, 9, 11, 12, 13]) ?_
  rintro ⟨f23, x21, x22⟩ h
  dsimp only at h ⊢
  rcases f23 with _ | f23
  cases h
  rw [laws_FnOuter_l1] at h
  refine pwp_seq ?_
  refine srve 97 [(3, A v2.1), (4, A v2.2.1), (5, A v2.2.2.1), (6, A v2.2.2.2.1), (7, A v2.2.2.2.2.1), (8, A v2.2.2.2.2.2), (9, A v4), (11, rf 0 0 1 x22), (12, I x15), (13, I x21), (55, B ((decide (x21 < ((v2.2.2.2.1.length : Int))))))] [sl 0 x22] ?_
  refine pc h (fun h => ?_) (fun h => ?_)
  refine pwp_skip ?_
  refine pwp_seq ?_
  refine pwp_join (σ := (List (List T_impl_Value))) (fun x26 => (⟨97, [(3, A v2.1), (4, A v2.2.1), (5, A v2.2.2.1), (6, A v2.2.2.2.1), (7, A v2.2.2.2.2.1), (8, A v2.2.2.2.2.2), (9, A v4), (11, rf 0 0 1 x26), (12, I x15), (13, I x21)], [sl 0 x26, none]⟩ : St)) (fun x26 => laws_FnOuter_j2 x21 (laws_FnOuter_l1 v2 v4 x15 (laws_FnOuter_l0 v2 v4 f17) f23) x26 = some y) ?_ ?_
  refine pwp_block ?_
  refine pwp_seq ?_
  refine ip 97 [(3, A v2.1), (4, A v2.2.1), (5, A v2.2.2.1), (6, A v2.2.2.2.1), (7, A v2.2.2.2.2.1), (8, A v2.2.2.2.2.2), (9, A v4), (11, rf 0 0 1 x22), (12, I x15), (13, I x21)] [sl 0 x22] ?_
  refine pwp_imp (Imp.ghosts 1 (st' := ⟨97, [(3, A v2.1), (4, A v2.2.1), (5, A v2.2.2.1), (6, A v2.2.2.2.1), (7, A v2.2.2.2.2.1), (8, A v2.2.2.2.2.2), (9, A v4), (11, rf 0 0 1 x22), (12, I x15), (13, I x21)], [sl 0 x22, some ⟨0, []⟩]⟩) (by kernel_rfl)) ?_
  refine pwp_any ([[], [], [], [], [], [1], [], [], [], [], [1], [1]]) ([[], [], [], [], [], [1], [], [], [], [], [1], []]) rfl (by kernel_rfl) ?_
  refine qv [] trivial 3 97 [(60, I x15), (59, A v2.2.2.1), (58, .arr 3 0 (eL ([] : List T_impl_Value)) true), (3, A v2.1), (4, A v2.2.1), (5, A v2.2.2.1), (6, A v2.2.2.2.1), (7, A v2.2.2.2.2.1), (8, A v2.2.2.2.2.2), (9, A v4), (11, rf 0 0 1 x22), (12, I x15), (13, I x21)] [sl 0 x22, some ⟨0, []⟩] ?_
  obtain ⟨v27, hv28, h⟩ := bindS h
  refine qX (some 61) (pf v27 0) 97 [(61, pf v27 0), (58, .arr 3 0 (eL ([] : List T_impl_Value)) true), (3, A v2.1), (4, A v2.2.1), (5, A v2.2.2.1), (6, A v2.2.2.2.1), (7, A v2.2.2.2.2.1), (8, A v2.2.2.2.2.2), (9, A v4), (11, rf 0 0 1 x22), (12, I x15), (13, I x21)] [sl 0 x22, some ⟨0, []⟩] (fun Γ' hΓ => CoreE.of_y (idxV_sound τ_ok (by kernel_rfl) hv28)) trivial ?_
  refine qv [] trivial 1 97 [(62, A v27), (58, .arr 3 0 (eL ([] : List T_impl_Value)) true), (3, A v2.1), (4, A v2.2.1), (5, A v2.2.2.1), (6, A v2.2.2.2.1), (7, A v2.2.2.2.2.1), (8, A v2.2.2.2.2.2), (9, A v4), (11, rf 0 0 1 x22), (12, I x15), (13, I x21)] [sl 0 x22, some ⟨0, []⟩] ?_
  obtain ⟨v29, hv30, h⟩ := bindS h
  refine qX (some 63) (rf 1 1 3 v29) 97 [(63, rf 1 1 3 v29), (3, A v2.1), (4, A v2.2.1), (5, A v2.2.2.1), (6, A v2.2.2.2.1), (7, A v2.2.2.2.2.1), (8, A v2.2.2.2.2.2), (9, A v4), (11, rf 0 0 1 x22), (12, I x15), (13, I x21)] [sl 0 x22, sl 1 v29] (fun Γ' hΓ => apm_E (blk := ⟨0, []⟩) τ_ok 63 1 0 2 (ny hΓ hX) hv30 (by kernel_rfl) (by kernel_rfl)) (hL trivial) ?_
  refine qv [] trivial 2 97 [(65, I x21), (64, A v2.2.2.2.1), (63, rf 1 1 3 v29), (3, A v2.1), (4, A v2.2.1), (5, A v2.2.2.1), (6, A v2.2.2.2.1), (7, A v2.2.2.2.2.1), (8, A v2.2.2.2.2.2), (9, A v4), (11, rf 0 0 1 x22), (12, I x15), (13, I x21)] [sl 0 x22, sl 1 v29] ?_
  obtain ⟨v31, hv32, h⟩ := bindS h
  refine qX (some 66) (pf v31 0) 97 [(66, pf v31 0), (63, rf 1 1 3 v29), (3, A v2.1), (4, A v2.2.1), (5, A v2.2.2.1), (6, A v2.2.2.2.1), (7, A v2.2.2.2.2.1), (8, A v2.2.2.2.2.2), (9, A v4), (11, rf 0 0 1 x22), (12, I x15), (13, I x21)] [sl 0 x22, sl 1 v29] (fun Γ' hΓ => CoreE.of_y (idxV_sound τ_ok (by kernel_rfl) hv32)) trivial ?_
  refine qv [] trivial 1 97 [(67, A v31), (63, rf 1 1 3 v29), (3, A v2.1), (4, A v2.2.1), (5, A v2.2.2.1), (6, A v2.2.2.2.1), (7, A v2.2.2.2.2.1), (8, A v2.2.2.2.2.2), (9, A v4), (11, rf 0 0 1 x22), (12, I x15), (13, I x21)] [sl 0 x22, sl 1 v29] ?_
  obtain ⟨v33, hv34, h⟩ := bindS h
  refine qX (some 68) (rf 1 2 3 v33) 97 [(68, rf 1 2 3 v33), (3, A v2.1), (4, A v2.2.1), (5, A v2.2.2.1), (6, A v2.2.2.2.1), (7, A v2.2.2.2.2.1), (8, A v2.2.2.2.2.2), (9, A v4), (11, rf 0 0 1 x22), (12, I x15), (13, I x21)] [sl 0 x22, sl 2 v33] (fun Γ' hΓ => app_Ew τ_ok 68 1 1 (ny hΓ hX) hv34 (by kernel_rfl)) (hL trivial) ?_
  refine qvn [1] (hL trivial) 1 97 [(3, A v2.1), (4, A v2.2.1), (5, A v2.2.2.1), (6, A v2.2.2.2.1), (7, A v2.2.2.2.2.1), (8, A v2.2.2.2.2.2), (9, A v4), (11, rf 0 0 1 x22), (12, I x15), (13, I x21), (14, rf 1 2 3 v33)] [sl 0 x22, sl 2 v33] ?_
  refine pwp_seq ?_
  refine pwp_join (σ := Bool) (fun x35 => (⟨97, [(3, A v2.1), (4, A v2.2.1), (5, A v2.2.2.1), (6, A v2.2.2.2.1), (7, A v2.2.2.2.2.1), (8, A v2.2.2.2.2.2), (9, A v4), (11, rf 0 0 1 x22), (12, I x15), (13, I x21), (14, rf 1 0 3 v33), (78, B x35)], [sl 0 x22, sl 0 v33]⟩ : St)) (fun x35 => laws_FnOuter_j3 x21 x22 (laws_FnOuter_l1 v2 v4 x15 (laws_FnOuter_l0 v2 v4 f17) f23) v33 x35 = some y) ?_ ?_
  refine rv 3 97 [(3, A v2.1), (4, A v2.2.1), (5, A v2.2.2.1), (6, A v2.2.2.2.1), (7, A v2.2.2.2.2.1), (8, A v2.2.2.2.2.2), (9, A v4), (11, rf 0 0 1 x22), (12, I x15), (13, I x21), (14, rf 1 2 3 v33), (69, A v4), (70, rf 1 2 3 v33), (71, A v2.2.2.2.2.1)] [sl 0 x22, sl 2 v33] ?_
  obtain ⟨v39, hv40, h⟩ := bindS h
  refine opsP_callV (xs := [A v4, rf 1 2 3 v33, A v2.2.2.2.2.1]) τ 72 (ok_impl_ExprHolds hv40) (Blind.lit _) (FzTo.frz rfl) (by kernel_rfl) (ViewL.cons (View.frz rfl) (ViewL.cons (View.whole (v := 2) v33 (by kernel_rfl) rfl) (ViewL.cons (View.frz rfl) (ViewL.nil _)))) ?_
  refine v 1 97 [(3, A v2.1), (4, A v2.2.1), (5, A v2.2.2.1), (6, A v2.2.2.2.1), (7, A v2.2.2.2.2.1), (8, A v2.2.2.2.2.2), (9, A v4), (11, rf 0 0 1 x22), (12, I x15), (13, I x21), (14, rf 1 2 3 v33), (73, B v39)] [sl 0 x22, sl 2 v33] ?_
  rcases Bool.eq_false_or_eq_true v39 with hc43 | hc43
  replace h := bT hc43 h
  rw [hc43]
  refine v 3 97 [(3, A v2.1), (4, A v2.2.1), (5, A v2.2.2.1), (6, A v2.2.2.2.1), (7, A v2.2.2.2.2.1), (8, A v2.2.2.2.2.2), (9, A v4), (11, rf 0 0 1 x22), (12, I x15), (13, I x21), (14, rf 1 2 3 v33), (73, B true), (74, A v4), (75, rf 1 2 3 v33), (76, A v2.2.2.2.2.2)] [sl 0 x22, sl 2 v33] ?_
  obtain ⟨v41, hv42, h⟩ := bindS h
  refine opsP_callV (xs := [A v4, rf 1 2 3 v33, A v2.2.2.2.2.2]) τ 77 (ok_impl_ExprHolds hv42) (Blind.lit _) (FzTo.frz rfl) (by kernel_rfl) (ViewL.cons (View.frz rfl) (ViewL.cons (View.whole (v := 2) v33 (by kernel_rfl) rfl) (ViewL.cons (View.frz rfl) (ViewL.nil _)))) ?_
  refine ve 1 97 [(3, A v2.1), (4, A v2.2.1), (5, A v2.2.2.1), (6, A v2.2.2.2.1), (7, A v2.2.2.2.2.1), (8, A v2.2.2.2.2.2), (9, A v4), (11, rf 0 0 1 x22), (12, I x15), (13, I x21), (14, rf 1 2 3 v33), (74, A v4), (75, rf 1 2 3 v33), (76, A v2.2.2.2.2.2), (77, B v41), (78, B v41)] [sl 0 x22, sl 2 v33] ?_
  exact ⟨v41, h, (it (st' := ⟨97, [(3, A v2.1), (4, A v2.2.1), (5, A v2.2.2.1), (6, A v2.2.2.2.1), (7, A v2.2.2.2.2.1), (8, A v2.2.2.2.2.2), (9, A v4), (11, rf 0 0 1 x22), (12, I x15), (13, I x21), (14, rf 1 2 3 v33), (78, B v41)], [sl 0 x22, sl 2 v33]⟩) [3, 4, 5, 6, 7, 8, 9, 11, 12, 13, 14, 78]).trans (Imp.reverS 1 2 (eL v33) [3, 4, 5, 6, 7, 8, 9, 11, 12, 13, 14, 78] (by kernel_rfl) (by exact (And.intro (eL_frz _) (And.intro (eL_frz _) trivial))) (by kernel_rfl))⟩
  replace h := bF hc43 h
  rw [hc43]
  refine ve 5 97 [(3, A v2.1), (4, A v2.2.1), (5, A v2.2.2.1), (6, A v2.2.2.2.1), (7, A v2.2.2.2.2.1), (8, A v2.2.2.2.2.2), (9, A v4), (11, rf 0 0 1 x22), (12, I x15), (13, I x21), (14, rf 1 2 3 v33), (74, .lit undef), (75, .lit undef), (76, .lit undef), (77, .lit undef), (78, B false)] [sl 0 x22, sl 2 v33] ?_
  exact ⟨false, h, (it (st' := ⟨97, [(3, A v2.1), (4, A v2.2.1), (5, A v2.2.2.1), (6, A v2.2.2.2.1), (7, A v2.2.2.2.2.1), (8, A v2.2.2.2.2.2), (9, A v4), (11, rf 0 0 1 x22), (12, I x15), (13, I x21), (14, rf 1 2 3 v33), (78, B false)], [sl 0 x22, sl 2 v33]⟩) [3, 4, 5, 6, 7, 8, 9, 11, 12, 13, 14, 78]).trans (Imp.reverS 1 2 (eL v33) [3, 4, 5, 6, 7, 8, 9, 11, 12, 13, 14, 78] (by kernel_rfl) (by exact (And.intro (eL_frz _) (And.intro (eL_frz _) trivial))) (by kernel_rfl))⟩
  rintro x35 h
  unfold laws_FnOuter_j3 at h
  refine pc h (fun h => ?_) (fun h => ?_)
  refine rv 2 97 [(3, A v2.1), (4, A v2.2.1), (5, A v2.2.2.1), (6, A v2.2.2.2.1), (7, A v2.2.2.2.2.1), (8, A v2.2.2.2.2.2), (9, A v4), (12, I x15), (13, I x21), (79, rf 0 0 1 x22), (80, rf 1 0 3 v33)] [sl 0 x22, sl 0 v33] ?_
  refine opsP_imp ((Imp.freezeB (v := 0) (cs := eL v33) (st' := ⟨97, [(3, A v2.1), (4, A v2.2.1), (5, A v2.2.2.1), (6, A v2.2.2.2.1), (7, A v2.2.2.2.2.1), (8, A v2.2.2.2.2.2), (9, A v4), (12, I x15), (13, I x21), (79, rf 0 0 1 x22), (80, A v33)], [sl 0 x22, none]⟩) 1 0 (nx hX) (by kernel_rfl) (eL_frz _) (wholeC (whole_noRef (by kernel_rfl)) (wholeC (whole_noRef (by kernel_rfl)) (wholeC (whole_noRef (by kernel_rfl)) (wholeC (whole_noRef (by kernel_rfl)) (wholeC (whole_noRef (by kernel_rfl)) (wholeC (whole_noRef (by kernel_rfl)) (wholeC (whole_noRef (by kernel_rfl)) (wholeC (whole_noRef (by kernel_rfl)) (wholeC (whole_noRef (by kernel_rfl)) (wholeC (whole_ne rfl) (wholeC (whole_is (eL_len v33).symm) wholeC0))))))))))) (HpRel.frz rfl (eL_frz _) (HpRel.key HpRel.nil)) (by kernel_rfl) rfl (nx hX))) ?_
  refine v 1 97 [(3, A v2.1), (4, A v2.2.1), (5, A v2.2.2.1), (6, A v2.2.2.2.1), (7, A v2.2.2.2.2.1), (8, A v2.2.2.2.2.2), (9, A v4), (12, I x15), (13, I x21), (79, rf 0 0 1 x22), (81, .arr 1 (([v33] : List (List T_impl_Value))).length (eL ([v33] : List (List T_impl_Value))) true)] [sl 0 x22, none] ?_
  obtain ⟨v37, hv38, h⟩ := bindS h
  refine opsP_app τ_ok 82 0 0 (nx hX) hv38 (by kernel_rfl) ?_
  refine ve 1 97 [(3, A v2.1), (4, A v2.2.1), (5, A v2.2.2.1), (6, A v2.2.2.2.1), (7, A v2.2.2.2.2.1), (8, A v2.2.2.2.2.2), (9, A v4), (11, rf 0 1 1 v37), (12, I x15), (13, I x21)] [sl 1 v37, none] ?_
  exact ⟨v37, h, (it (st' := ⟨97, [(3, A v2.1), (4, A v2.2.1), (5, A v2.2.2.1), (6, A v2.2.2.2.1), (7, A v2.2.2.2.2.1), (8, A v2.2.2.2.2.2), (9, A v4), (11, rf 0 1 1 v37), (12, I x15), (13, I x21)], [sl 1 v37, none]⟩) [3, 4, 5, 6, 7, 8, 9, 11, 12, 13]).trans (Imp.reverS 0 1 (eL v37) [3, 4, 5, 6, 7, 8, 9, 11, 12, 13] (by kernel_rfl) (by exact (And.intro (eL_frz _) trivial)) (by kernel_rfl))⟩
  refine pwp_skip ?_
  exact ⟨x22, h, (it (st' := ⟨97, [(3, A v2.1), (4, A v2.2.1), (5, A v2.2.2.1), (6, A v2.2.2.2.1), (7, A v2.2.2.2.2.1), (8, A v2.2.2.2.2.2), (9, A v4), (11, rf 0 0 1 x22), (12, I x15), (13, I x21)], [sl 0 x22, sl 0 v33]⟩) [3, 4, 5, 6, 7, 8, 9, 11, 12, 13]).trans ((Imp.hideS (st' := ⟨97, [(3, A v2.1), (4, A v2.2.1), (5, A v2.2.2.1), (6, A v2.2.2.2.1), (7, A v2.2.2.2.2.1), (8, A v2.2.2.2.2.2), (9, A v4), (11, rf 0 0 1 x22), (12, I x15), (13, I x21)], [sl 0 x22, none]⟩) 1 (nx hX) (by kernel_rfl)).trans (it [3, 4, 5, 6, 7, 8, 9, 11, 12, 13]))⟩
  rintro x26 h
  unfold laws_FnOuter_j2 at h
  refine rve 97 [(3, A v2.1), (4, A v2.2.1), (5, A v2.2.2.1), (6, A v2.2.2.2.1), (7, A v2.2.2.2.2.1), (8, A v2.2.2.2.2.2), (9, A v4), (11, rf 0 0 1 x26), (12, I x15), (13, I ((w64 (x21 + 1))))] [sl 0 x26, none] ?_
  exact ⟨(f23, (w64 (x21 + 1)), x26), h, Nat.lt_succ_self _, (it (st' := ⟨97, [(3, A v2.1), (4, A v2.2.1), (5, A v2.2.2.1), (6, A v2.2.2.2.1), (7, A v2.2.2.2.2.1), (8, A v2.2.2.2.2.2), (9, A v4), (11, rf 0 0 1 x26), (12, I x15), (13, I ((w64 (x21 + 1))))], [sl 0 x26, none]⟩) [3, 4, 5, 6, 7, 8, 9, 11, 12, 13]).trans (Imp.truncS 1 (nx hX) (by kernel_rfl) (allBelow_mem (by exact (And.intro rfl (And.intro rfl (And.intro rfl (And.intro rfl (And.intro rfl (And.intro rfl (And.intro rfl (And.intro rfl (And.intro rfl (And.intro rfl trivial)))))))))))) (by exact (And.intro (frz_below (eL_frz _)) trivial)) (by kernel_rfl))⟩
  refine pwp_exit ?_
  refine rve 97 [(3, A v2.1), (4, A v2.2.1), (5, A v2.2.2.1), (6, A v2.2.2.2.1), (7, A v2.2.2.2.2.1), (8, A v2.2.2.2.2.2), (9, A v4), (11, rf 0 0 1 x22), (12, I ((w64 (x15 + 1))))] [sl 0 x22] ?_
  exact ⟨(f17, (w64 (x15 + 1)), x22), h, Nat.lt_succ_self _, it [3, 4, 5, 6, 7, 8, 9, 11, 12]⟩
  refine pwp_exit ?_
  refine srv 6 97 [(8, A v2.2.2.2.2.2), (11, rf 0 0 1 x16), (83, A v4), (84, A v2.1), (85, A v2.2.1), (86, A v2.2.2.1), (87, A v2.2.2.2.1), (88, A v2.2.2.2.2.1)] [sl 0 x16] ?_
  obtain ⟨v44, hv45, h⟩ := bindS h
  refine cF 89 (ok_impl_LeftRows hv45) ?_
  refine v 1 97 [(11, rf 0 0 1 x16), (83, A v4), (89, A v44), (90, A v2.2.2.2.2.2)] [sl 0 x16] ?_
  obtain ⟨v46, hv47, h⟩ := bindS h
  refine cFo 91 (ok_laws_heldRows hv47) ?_
  refine v 1 97 [(91, A v46), (92, rf 0 0 1 x16)] [sl 0 x16] ?_
  obtain ⟨v48, hv49, h⟩ := bindS h
  refine opsP_callV (xs := [A v46, rf 0 0 1 x16]) τ 93 (ok_laws_sameRows hv49) (Blind.lit _) (FzTo.frz rfl) (by kernel_rfl) (ViewL.cons (View.frz rfl) (ViewL.cons (View.whole (v := 0) x16 (by kernel_rfl) rfl) (ViewL.nil _))) ?_
  refine v 1 97 [(94, B v48)] [sl 0 x16] ?_
  rcases Bool.eq_false_or_eq_true v48 with hc52 | hc52
  replace h := bT hc52 h
  rw [hc52]
  obtain ⟨v50, hv51, h⟩ := bindS h
  refine cF 95 (ok_laws_alive hv51) ?_
  refine ve 2 97 [(2, B v50)] [sl 0 x16] ?_
  cases h
  exact pwp_ret rz
  replace h := bF hc52 h
  rw [hc52]
  refine ve 3 97 [(2, B false)] [sl 0 x16] ?_
  cases h
  exact pwp_ret rz
end Go.D
