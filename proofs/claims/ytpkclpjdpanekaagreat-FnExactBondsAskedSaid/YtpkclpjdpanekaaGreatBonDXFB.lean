import Derived.Test.YtpkclpjdpanekaaGreatBonDXFA
import Derived.KernelRfl
set_option linter.unusedVariables false
set_option linter.unusedSimpArgs false
namespace Go.D
open Go.Proofs
theorem ok_spec_l4Step {a0 : List T_impl_Column} {a1 : List Int} {a2 : T_impl_Part} {y : (List Int) × Bool} (h : spec_l4Step a0 a1 a2 = some y) : OKm Tryz.prog 120 [A a0, O a1, E a2] (.tup [O y.1, B y.2]) := by
  refine OKm_of_pwp (sl := [A a0, .ref 0 0 0 1 a1.length false, E a2]) (bs := [⟨0, eL a1⟩]) τ_ok Tryz.func120 rfl (by kernel_rfl) rfl (by kernel_rfl) fun Γ hX => ?_
  refine pwp_imp (Imp.to (st' := ⟨191, [(0, A a0), (1, .ref 0 0 0 1 a1.length false), (2, E a2)], [some ⟨0, eL a1⟩]⟩) [0, 1, 2] (by kernel_rfl)) ?_
  unfold spec_l4Step at h
  refine srve 191 [(0, A a0), (1, .ref 0 0 0 1 a1.length false), (5, .fptr (Enc.cells a2) 0)] [some ⟨0, eL a1⟩] ?_
  refine srve 191 [(0, A a0), (1, .ref 0 0 0 1 a1.length false), (5, .fptr (Enc.cells a2) 0), (8, I ((a1.length : Int)))] [some ⟨0, eL a1⟩] ?_
  refine pwp_seq ?_
  refine pwp_seq ?_
  refine pwp_join (σ := Bool) (fun x1 => (⟨191, [(0, A a0), (1, .ref 0 0 0 1 a1.length false), (5, .fptr (Enc.cells a2) 0), (8, I ((a1.length : Int))), (37, B x1)], [some ⟨0, eL a1⟩]⟩ : St)) (fun x1 => spec_l4Step_j0 a0 a1 a2 x1 = some y) ?_ ?_
  refine rv 4 191 [(0, A a0), (1, .ref 0 0 0 1 a1.length false), (5, .fptr (Enc.cells a2) 0), (8, I ((a1.length : Int))), (17, B ((!(a2.fKind == 1))))] [some ⟨0, eL a1⟩] ?_
  rcases fk ((!(a2.fKind == 1))) with hc73 | hc73
  replace h := bT hc73 h
  rw [hc73]
  refine v 6 191 [(0, A a0), (1, .ref 0 0 0 1 a1.length false), (5, .fptr (Enc.cells a2) 0), (8, I ((a1.length : Int))), (23, B ((!(eq_T_impl_Value a2.fV ((T_impl_Value.mk 0 0 (ByteArray.mk #[])))))))] [some ⟨0, eL a1⟩] ?_
  rcases fk ((!(eq_T_impl_Value a2.fV ((T_impl_Value.mk 0 0 (ByteArray.mk #[])))))) with hc70 | hc70
  replace h := bT hc70 h
  rw [hc70]
  refine ve 14 191 [(0, A a0), (1, .ref 0 0 0 1 a1.length false), (5, .fptr (Enc.cells a2) 0), (8, I ((a1.length : Int))), (37, B true)] [some ⟨0, eL a1⟩] ?_
  exact ⟨true, h, (Imp.to (st' := ⟨191, [(0, A a0), (1, .ref 0 0 0 1 a1.length false), (5, .fptr (Enc.cells a2) 0), (8, I ((a1.length : Int))), (37, B true)], [some ⟨0, eL a1⟩]⟩) [0, 1, 5, 8, 37] (by kernel_rfl)).trans (Imp.to [0, 1, 5, 8, 37] (by kernel_rfl))⟩
  replace h := bF hc70 h
  rw [hc70]
  refine v 4 191 [(0, A a0), (1, .ref 0 0 0 1 a1.length false), (5, .fptr (Enc.cells a2) 0), (8, I ((a1.length : Int))), (23, B false), (27, B ((!(a2.fKind == 2))))] [some ⟨0, eL a1⟩] ?_
  rcases fk ((!(a2.fKind == 2))) with hc69 | hc69
  replace h := bT hc69 h
  rw [hc69]
  refine v 5 191 [(0, A a0), (1, .ref 0 0 0 1 a1.length false), (5, .fptr (Enc.cells a2) 0), (8, I ((a1.length : Int))), (23, B false), (32, B ((!(a2.fKind == 4))))] [some ⟨0, eL a1⟩] ?_
  rcases fk ((!(a2.fKind == 4))) with hc68 | hc68
  replace h := bT hc68 h
  rw [hc68]
  refine ve 5 191 [(0, A a0), (1, .ref 0 0 0 1 a1.length false), (5, .fptr (Enc.cells a2) 0), (8, I ((a1.length : Int))), (37, B ((!(a2.fN == 0))))] [some ⟨0, eL a1⟩] ?_
  exact ⟨(!(a2.fN == 0)), h, (Imp.to (st' := ⟨191, [(0, A a0), (1, .ref 0 0 0 1 a1.length false), (5, .fptr (Enc.cells a2) 0), (8, I ((a1.length : Int))), (37, B ((!(a2.fN == 0))))], [some ⟨0, eL a1⟩]⟩) [0, 1, 5, 8, 37] (by kernel_rfl)).trans (Imp.to [0, 1, 5, 8, 37] (by kernel_rfl))⟩
  replace h := bF hc68 h
  rw [hc68]
  refine ve 5 191 [(0, A a0), (1, .ref 0 0 0 1 a1.length false), (5, .fptr (Enc.cells a2) 0), (8, I ((a1.length : Int))), (37, B false)] [some ⟨0, eL a1⟩] ?_
  exact ⟨false, h, (Imp.to (st' := ⟨191, [(0, A a0), (1, .ref 0 0 0 1 a1.length false), (5, .fptr (Enc.cells a2) 0), (8, I ((a1.length : Int))), (37, B false)], [some ⟨0, eL a1⟩]⟩) [0, 1, 5, 8, 37] (by kernel_rfl)).trans (Imp.to [0, 1, 5, 8, 37] (by kernel_rfl))⟩
  replace h := bF hc69 h
  rw [hc69]
  refine ve 10 191 [(0, A a0), (1, .ref 0 0 0 1 a1.length false), (5, .fptr (Enc.cells a2) 0), (8, I ((a1.length : Int))), (37, B false)] [some ⟨0, eL a1⟩] ?_
  exact ⟨false, h, (Imp.to (st' := ⟨191, [(0, A a0), (1, .ref 0 0 0 1 a1.length false), (5, .fptr (Enc.cells a2) 0), (8, I ((a1.length : Int))), (37, B false)], [some ⟨0, eL a1⟩]⟩) [0, 1, 5, 8, 37] (by kernel_rfl)).trans (Imp.to [0, 1, 5, 8, 37] (by kernel_rfl))⟩
  replace h := bF hc73 h
  rw [hc73]
  refine v 10 191 [(0, A a0), (1, .ref 0 0 0 1 a1.length false), (5, .fptr (Enc.cells a2) 0), (8, I ((a1.length : Int))), (23, B false), (27, B ((!(a2.fKind == 2))))] [some ⟨0, eL a1⟩] ?_
  rcases fk ((!(a2.fKind == 2))) with hc72 | hc72
  replace h := bT hc72 h
  rw [hc72]
  refine v 5 191 [(0, A a0), (1, .ref 0 0 0 1 a1.length false), (5, .fptr (Enc.cells a2) 0), (8, I ((a1.length : Int))), (23, B false), (32, B ((!(a2.fKind == 4))))] [some ⟨0, eL a1⟩] ?_
  rcases fk ((!(a2.fKind == 4))) with hc71 | hc71
  replace h := bT hc71 h
  rw [hc71]
  refine ve 5 191 [(0, A a0), (1, .ref 0 0 0 1 a1.length false), (5, .fptr (Enc.cells a2) 0), (8, I ((a1.length : Int))), (37, B ((!(a2.fN == 0))))] [some ⟨0, eL a1⟩] ?_
  exact ⟨(!(a2.fN == 0)), h, (Imp.to (st' := ⟨191, [(0, A a0), (1, .ref 0 0 0 1 a1.length false), (5, .fptr (Enc.cells a2) 0), (8, I ((a1.length : Int))), (37, B ((!(a2.fN == 0))))], [some ⟨0, eL a1⟩]⟩) [0, 1, 5, 8, 37] (by kernel_rfl)).trans (Imp.to [0, 1, 5, 8, 37] (by kernel_rfl))⟩
  replace h := bF hc71 h
  rw [hc71]
  refine ve 5 191 [(0, A a0), (1, .ref 0 0 0 1 a1.length false), (5, .fptr (Enc.cells a2) 0), (8, I ((a1.length : Int))), (37, B false)] [some ⟨0, eL a1⟩] ?_
  exact ⟨false, h, (Imp.to (st' := ⟨191, [(0, A a0), (1, .ref 0 0 0 1 a1.length false), (5, .fptr (Enc.cells a2) 0), (8, I ((a1.length : Int))), (37, B false)], [some ⟨0, eL a1⟩]⟩) [0, 1, 5, 8, 37] (by kernel_rfl)).trans (Imp.to [0, 1, 5, 8, 37] (by kernel_rfl))⟩
  replace h := bF hc72 h
  rw [hc72]
  refine ve 10 191 [(0, A a0), (1, .ref 0 0 0 1 a1.length false), (5, .fptr (Enc.cells a2) 0), (8, I ((a1.length : Int))), (37, B false)] [some ⟨0, eL a1⟩] ?_
  exact ⟨false, h, (Imp.to (st' := ⟨191, [(0, A a0), (1, .ref 0 0 0 1 a1.length false), (5, .fptr (Enc.cells a2) 0), (8, I ((a1.length : Int))), (37, B false)], [some ⟨0, eL a1⟩]⟩) [0, 1, 5, 8, 37] (by kernel_rfl)).trans (Imp.to [0, 1, 5, 8, 37] (by kernel_rfl))⟩
  rintro x1 h
  unfold spec_l4Step_j0 at h
  refine pc h (fun h => ?_) (fun h => ?_)
  refine srve 191 [(6, .ref 0 0 0 1 a1.length false), (7, B false)] [some ⟨0, eL a1⟩] ?_
  have h := si h
  subst h
  exact pwp_ret (rt (.tup [.ref 0 0 0 1 a1.length false, B false]) (OutP.tup (OutL.cons (OutP.list (v := 0) (by kernel_rfl)) (OutL.cons (OutP.frz (by kernel_rfl)) (OutL.nil _)))))
  refine pwp_skip ?_
  refine pwp_seq ?_
  refine srve 191 [(0, A a0), (1, .ref 0 0 0 1 a1.length false), (5, .fptr (Enc.cells a2) 0), (8, I ((a1.length : Int))), (40, I a2.fKind)] [some ⟨0, eL a1⟩] ?_
  refine pwp_block ?_
  refine srve 191 [(0, A a0), (1, .ref 0 0 0 1 a1.length false), (5, .fptr (Enc.cells a2) 0), (8, I ((a1.length : Int))), (40, I a2.fKind), (41, B ((a2.fKind == 1)))] [some ⟨0, eL a1⟩] ?_
  refine pc h (fun h => ?_) (fun h => ?_)
  refine pwp_seq ?_
  refine pwp_seq ?_
  refine pwp_join (σ := Bool) (fun x4 => (⟨191, [(1, .ref 0 0 0 1 a1.length false), (5, .fptr (Enc.cells a2) 0), (52, B x4)], [some ⟨0, eL a1⟩]⟩ : St)) (fun x4 => spec_l4Step_j1 a1 a2 x4 = some y) ?_ ?_
  refine rv 2 191 [(1, .ref 0 0 0 1 a1.length false), (5, .fptr (Enc.cells a2) 0), (44, E a2.fV)] [some ⟨0, eL a1⟩] ?_
  obtain ⟨v8, hv9, h⟩ := bindS h
  refine opsP_callF τ 45 (ok_spec_ValueOk hv9) (FzTo.frz rfl) rfl (by kernel_rfl) ?_
  refine v 2 191 [(1, .ref 0 0 0 1 a1.length false), (5, .fptr (Enc.cells a2) 0), (47, B ((!v8)))] [some ⟨0, eL a1⟩] ?_
  rcases fk ((!v8)) with hc10 | hc10
  replace h := bT hc10 h
  rw [hc10]
  refine ve 5 191 [(1, .ref 0 0 0 1 a1.length false), (5, .fptr (Enc.cells a2) 0), (52, B true)] [some ⟨0, eL a1⟩] ?_
  exact ⟨true, h, (Imp.to (st' := ⟨191, [(1, .ref 0 0 0 1 a1.length false), (5, .fptr (Enc.cells a2) 0), (52, B true)], [some ⟨0, eL a1⟩]⟩) [1, 5, 52] (by kernel_rfl)).trans (Imp.to [1, 5, 52] (by kernel_rfl))⟩
  replace h := bF hc10 h
  rw [hc10]
  refine ve 5 191 [(1, .ref 0 0 0 1 a1.length false), (5, .fptr (Enc.cells a2) 0), (52, B ((a2.fV.fKind == 0)))] [some ⟨0, eL a1⟩] ?_
  exact ⟨(a2.fV.fKind == 0), h, (Imp.to (st' := ⟨191, [(1, .ref 0 0 0 1 a1.length false), (5, .fptr (Enc.cells a2) 0), (52, B ((a2.fV.fKind == 0)))], [some ⟨0, eL a1⟩]⟩) [1, 5, 52] (by kernel_rfl)).trans (Imp.to [1, 5, 52] (by kernel_rfl))⟩
  rintro x4 h
  unfold spec_l4Step_j1 at h
  refine pc h (fun h => ?_) (fun h => ?_)
  refine srve 191 [(6, .ref 0 0 0 1 a1.length false), (7, B false)] [some ⟨0, eL a1⟩] ?_
  have h := si h
  subst h
  exact pwp_ret (rt (.tup [.ref 0 0 0 1 a1.length false, B false]) (OutP.tup (OutL.cons (OutP.list (v := 0) (by kernel_rfl)) (OutL.cons (OutP.frz (by kernel_rfl)) (OutL.nil _)))))
  refine pwp_skip ?_
  refine srv 5 191 [(54, .ref 0 0 0 1 a1.length false), (58, .arr 1 (([a2.fV.fKind] : List Int)).length (eL ([a2.fV.fKind] : List Int)) true)] [some ⟨0, eL a1⟩] ?_
  obtain ⟨v6, hv7, h⟩ := bindS h
  refine opsP_app τ_ok 59 0 0 (fun b hb => absurd hb (hX b)) hv7 (by kernel_rfl) ?_
  refine ve 2 191 [(6, .ref 0 1 0 1 v6.length false), (7, B true)] [some ⟨1, eL v6⟩] ?_
  have h := si h
  subst h
  exact pwp_ret (rt (.tup [.ref 0 1 0 1 v6.length false, B true]) (OutP.tup (OutL.cons (OutP.list (v := 1) (by kernel_rfl)) (OutL.cons (OutP.frz (by kernel_rfl)) (OutL.nil _)))))
  refine srve 191 [(0, A a0), (1, .ref 0 0 0 1 a1.length false), (5, .fptr (Enc.cells a2) 0), (8, I ((a1.length : Int))), (40, I a2.fKind), (60, B ((a2.fKind == 2)))] [some ⟨0, eL a1⟩] ?_
  refine pc h (fun h => ?_) (fun h => ?_)
  refine pwp_seq ?_
  refine srv 5 191 [(0, A a0), (1, .ref 0 0 0 1 a1.length false), (5, .fptr (Enc.cells a2) 0), (63, I a2.fN), (66, I ((w64 (((a0.length : Int)) - 1))))] [some ⟨0, eL a1⟩] ?_
  obtain ⟨v12, hv13, h⟩ := bindS h
  refine opsP_callF τ 67 (ok_spec_l1In hv13) (FzTo.frz rfl) rfl (by kernel_rfl) ?_
  refine ve 1 191 [(0, A a0), (1, .ref 0 0 0 1 a1.length false), (5, .fptr (Enc.cells a2) 0), (68, B ((!v12)))] [some ⟨0, eL a1⟩] ?_
  refine pc h (fun h => ?_) (fun h => ?_)
  refine srve 191 [(6, .ref 0 0 0 1 a1.length false), (7, B false)] [some ⟨0, eL a1⟩] ?_
  have h := si h
  subst h
  exact pwp_ret (rt (.tup [.ref 0 0 0 1 a1.length false, B false]) (OutP.tup (OutL.cons (OutP.list (v := 0) (by kernel_rfl)) (OutL.cons (OutP.frz (by kernel_rfl)) (OutL.nil _)))))
  refine pwp_skip ?_
  refine srv 4 191 [(70, .ref 0 0 0 1 a1.length false), (71, A a0), (73, I a2.fN)] [some ⟨0, eL a1⟩] ?_
  obtain ⟨v15, hv16, h⟩ := bindS h
  refine opsP_idx τ_ok 74 hv16 (by kernel_rfl) ?_
  refine v 3 191 [(70, .ref 0 0 0 1 a1.length false), (77, .arr 1 (([v15.fKind] : List Int)).length (eL ([v15.fKind] : List Int)) true)] [some ⟨0, eL a1⟩] ?_
  obtain ⟨v17, hv18, h⟩ := bindS h
  refine opsP_app τ_ok 78 0 0 (fun b hb => absurd hb (hX b)) hv18 (by kernel_rfl) ?_
  refine ve 2 191 [(6, .ref 0 1 0 1 v17.length false), (7, B true)] [some ⟨1, eL v17⟩] ?_
  have h := si h
  subst h
  exact pwp_ret (rt (.tup [.ref 0 1 0 1 v17.length false, B true]) (OutP.tup (OutL.cons (OutP.list (v := 1) (by kernel_rfl)) (OutL.cons (OutP.frz (by kernel_rfl)) (OutL.nil _)))))
  refine srve 191 [(1, .ref 0 0 0 1 a1.length false), (5, .fptr (Enc.cells a2) 0), (8, I ((a1.length : Int))), (40, I a2.fKind), (79, B ((a2.fKind == 3)))] [some ⟨0, eL a1⟩] ?_
  refine pc h (fun h => ?_) (fun h => ?_)
  refine pwp_seq ?_
  refine pwp_join (σ := Bool) (fun x20 => (⟨191, [(1, .ref 0 0 0 1 a1.length false), (8, I ((a1.length : Int))), (9, B x20)], [some ⟨0, eL a1⟩]⟩ : St)) (fun x20 => spec_l4Step_j2 a1 x20 = some y) ?_ ?_
  refine rv 3 191 [(1, .ref 0 0 0 1 a1.length false), (8, I ((a1.length : Int))), (83, B ((decide (((a1.length : Int)) > 1))))] [some ⟨0, eL a1⟩] ?_
  rcases fk ((decide (((a1.length : Int)) > 1))) with hc30 | hc30
  replace h := bT hc30 h
  rw [hc30]
  refine v 3 191 [(1, .ref 0 0 0 1 a1.length false), (8, I ((a1.length : Int))), (83, B true), (84, .ref 0 0 0 1 a1.length false), (86, I ((w64 (((a1.length : Int)) - 1))))] [some ⟨0, eL a1⟩] ?_
  obtain ⟨v25, hv26, h⟩ := bindS h
  refine opsP_idr τ_ok 87 0 0 a1.length hv26 rfl (by kernel_rfl) ?_
  refine opsP_lde (r := I v25) τ_ok 88 3 0 hv26 (by kernel_rfl) (by kernel_rfl) ?_
  refine v 3 191 [(1, .ref 0 0 0 1 a1.length false), (8, I ((a1.length : Int))), (91, B ((v25 == 1)))] [some ⟨0, eL a1⟩] ?_
  rcases fk ((v25 == 1)) with hc29 | hc29
  replace h := bT hc29 h
  rw [hc29]
  refine v 3 191 [(1, .ref 0 0 0 1 a1.length false), (8, I ((a1.length : Int))), (91, B true), (92, .ref 0 0 0 1 a1.length false), (94, I ((w64 (((a1.length : Int)) - 2))))] [some ⟨0, eL a1⟩] ?_
  obtain ⟨v27, hv28, h⟩ := bindS h
  refine opsP_idr τ_ok 95 0 0 a1.length hv28 rfl (by kernel_rfl) ?_
  refine opsP_lde (r := I v27) τ_ok 96 3 0 hv28 (by kernel_rfl) (by kernel_rfl) ?_
  refine ve 3 191 [(1, .ref 0 0 0 1 a1.length false), (8, I ((a1.length : Int))), (9, B ((v27 == 1)))] [some ⟨0, eL a1⟩] ?_
  exact ⟨(v27 == 1), h, (Imp.to (st' := ⟨191, [(1, .ref 0 0 0 1 a1.length false), (8, I ((a1.length : Int))), (9, B ((v27 == 1)))], [some ⟨0, eL a1⟩]⟩) [1, 8, 9] (by kernel_rfl)).trans (Imp.to [1, 8, 9] (by kernel_rfl))⟩
  replace h := bF hc29 h
  rw [hc29]
  refine ve 8 191 [(1, .ref 0 0 0 1 a1.length false), (8, I ((a1.length : Int))), (9, B false)] [some ⟨0, eL a1⟩] ?_
  exact ⟨false, h, (Imp.to (st' := ⟨191, [(1, .ref 0 0 0 1 a1.length false), (8, I ((a1.length : Int))), (9, B false)], [some ⟨0, eL a1⟩]⟩) [1, 8, 9] (by kernel_rfl)).trans (Imp.to [1, 8, 9] (by kernel_rfl))⟩
  replace h := bF hc30 h
  rw [hc30]
  refine ve 16 191 [(1, .ref 0 0 0 1 a1.length false), (8, I ((a1.length : Int))), (9, B false)] [some ⟨0, eL a1⟩] ?_
  exact ⟨false, h, (Imp.to (st' := ⟨191, [(1, .ref 0 0 0 1 a1.length false), (8, I ((a1.length : Int))), (9, B false)], [some ⟨0, eL a1⟩]⟩) [1, 8, 9] (by kernel_rfl)).trans (Imp.to [1, 8, 9] (by kernel_rfl))⟩
  rintro x20 h
  unfold spec_l4Step_j2 at h
  refine srv 3 191 [(9, B x20), (99, .ref 0 0 0 1 a1.length false), (101, I ((w64 (((a1.length : Int)) - 2))))] [some ⟨0, eL a1⟩] ?_
  refine opsP_E (dd := some 102) (x := I (maxL ((w64 (((a1.length : Int)) - 2))) [0])) (CoreE.of_y (mxmV_sound (τ := τ) (m := true) (a := (w64 (((a1.length : Int)) - 2))) (l := [0]) (by kernel_rfl))) ?_
  obtain ⟨v21, hv22, h⟩ := bindS h
  refine opsP_slr τ_ok 103 0 0 a1.length hv22 rfl (by kernel_rfl) ?_
  refine v 1 191 [(9, B x20), (103, .ref 0 0 0 1 v21.length false), (104, .arr 1 (([1] : List Int)).length (eL ([1] : List Int)) true)] [some ⟨0, eL a1⟩] ?_
  obtain ⟨v23, hv24, h⟩ := bindS h
  refine opsP_apt τ_ok 105 0 0 v21.length (fun b hb => absurd hb (hX b)) hv24 (slI_le hv22) (by kernel_rfl) ?_
  refine ve 3 191 [(6, .ref 0 1 0 1 v23.length false), (7, B x20)] [some ⟨1, eL v23⟩] ?_
  have h := si h
  subst h
  exact pwp_ret (rt (.tup [.ref 0 1 0 1 v23.length false, B x20]) (OutP.tup (OutL.cons (OutP.list (v := 1) (by kernel_rfl)) (OutL.cons (OutP.frz (by kernel_rfl)) (OutL.nil _)))))
  refine srve 191 [(1, .ref 0 0 0 1 a1.length false), (5, .fptr (Enc.cells a2) 0), (8, I ((a1.length : Int))), (40, I a2.fKind), (107, B ((a2.fKind == 4)))] [some ⟨0, eL a1⟩] ?_
  refine pc h (fun h => ?_) (fun h => ?_)
  refine pwp_seq ?_
  refine pwp_join (σ := Bool) (fun x32 => (⟨191, [(1, .ref 0 0 0 1 a1.length false), (8, I ((a1.length : Int))), (10, B x32)], [some ⟨0, eL a1⟩]⟩ : St)) (fun x32 => spec_l4Step_j3 a1 x32 = some y) ?_ ?_
  refine pwp_imp (Imp.to (st' := ⟨191, [(1, .ref 0 0 0 1 a1.length false), (5, .fptr (Enc.cells a2) 0), (8, I ((a1.length : Int)))], [some ⟨0, eL a1⟩]⟩) [1, 5, 8] (by kernel_rfl)) ?_
  refine pwp_any ([[], [], [], [0], [], [], [0], [0], [0], [], [], [0], [0], [], [], [], [], [], [], [], []]) ([[], [], [], [], [], [], [], [], [], [], [], [], [], [], [], [], [], [], [], [], []]) rfl (by kernel_rfl) ?_
  refine qA_ev (st' := ⟨191, [(111, B ((decide (((a1.length : Int)) > 1)))), (110, B ((decide (((a1.length : Int)) > 1)))), (109, I ((a1.length : Int))), (1, .ref 0 0 0 1 a1.length false), (5, .fptr (Enc.cells a2) 0), (8, I ((a1.length : Int)))], [some ⟨0, eL a1⟩]⟩) τ_ok [] [] 3 (by exact trivial) (by kernel_rfl) ?_
  rcases fk ((decide (((a1.length : Int)) > 1))) with hc44 | hc44
  replace h := bT hc44 h
  rw [hc44]
  refine qA_ev (st' := ⟨191, [(112, .ref 0 0 0 1 a1.length false), (111, B true), (110, B true), (109, I ((a1.length : Int))), (1, .ref 0 0 0 1 a1.length false), (5, .fptr (Enc.cells a2) 0), (8, I ((a1.length : Int)))], [some ⟨0, eL a1⟩]⟩) τ_ok [] [0] 1 (by exact (And.intro (.inl (eL_frz _)) trivial)) (by kernel_rfl) ?_
  refine qA_ev (st' := ⟨191, [(114, I ((w64 (((a1.length : Int)) - 1)))), (113, I ((a1.length : Int))), (112, .ref 0 0 0 1 a1.length false), (111, B true), (110, B true), (109, I ((a1.length : Int))), (1, .ref 0 0 0 1 a1.length false), (5, .fptr (Enc.cells a2) 0), (8, I ((a1.length : Int)))], [some ⟨0, eL a1⟩]⟩) τ_ok [] [] 2 (by exact trivial) (by kernel_rfl) ?_
  obtain ⟨v37, hv38, h⟩ := bindS h
  refine qA_E (dd := some 115) (x := .ptr 0 0 (((w64 (((a1.length : Int)) - 1))).toNat * 1)) ([some ⟨0, eL a1⟩]) (⟨191, [(115, .ptr 0 0 (((w64 (((a1.length : Int)) - 1))).toNat * 1)), (114, I ((w64 (((a1.length : Int)) - 1)))), (113, I ((a1.length : Int))), (112, .ref 0 0 0 1 a1.length false), (111, B true), (110, B true), (109, I ((a1.length : Int))), (1, .ref 0 0 0 1 a1.length false), (5, .fptr (Enc.cells a2) 0), (8, I ((a1.length : Int)))], [some ⟨0, eL a1⟩]⟩) (fun Γ' hΓ => CoreE.of_y (idrV_sound (n := a1.length) τ_ok (by kernel_rfl) hv38 rfl)) (by kernel_rfl) (by kernel_rfl) (by exact (And.intro (.inl (eL_frz _)) trivial)) (.inr (.inl rfl)) (by kernel_rfl) ?_
  refine qA_E (dd := some 116) (x := I v37) ([some ⟨0, eL a1⟩]) (⟨191, [(116, I v37), (115, .ptr 0 0 (((w64 (((a1.length : Int)) - 1))).toNat * 1)), (114, I ((w64 (((a1.length : Int)) - 1)))), (113, I ((a1.length : Int))), (112, .ref 0 0 0 1 a1.length false), (111, B true), (110, B true), (109, I ((a1.length : Int))), (1, .ref 0 0 0 1 a1.length false), (5, .fptr (Enc.cells a2) 0), (8, I ((a1.length : Int)))], [some ⟨0, eL a1⟩]⟩) (fun Γ' hΓ => CoreE.of_y (ldeV_sound (t := 3) (o' := 0) (r := I v37) τ_ok hv38 (by kernel_rfl) (by kernel_rfl))) (by kernel_rfl) (by kernel_rfl) (by exact (And.intro (.inl (eL_frz _)) trivial)) (.inr (.inr rfl)) (by kernel_rfl) ?_
  refine qA_ev (st' := ⟨191, [(117, .ref 0 0 0 1 a1.length false), (116, I v37), (115, .ptr 0 0 (((w64 (((a1.length : Int)) - 1))).toNat * 1)), (114, I ((w64 (((a1.length : Int)) - 1)))), (113, I ((a1.length : Int))), (112, .ref 0 0 0 1 a1.length false), (111, B true), (110, B true), (109, I ((a1.length : Int))), (1, .ref 0 0 0 1 a1.length false), (5, .fptr (Enc.cells a2) 0), (8, I ((a1.length : Int)))], [some ⟨0, eL a1⟩]⟩) τ_ok [] [0] 1 (by exact (And.intro (.inl (eL_frz _)) trivial)) (by kernel_rfl) ?_
  refine qA_ev (st' := ⟨191, [(119, I ((w64 (((a1.length : Int)) - 2)))), (118, I ((a1.length : Int))), (117, .ref 0 0 0 1 a1.length false), (116, I v37), (115, .ptr 0 0 (((w64 (((a1.length : Int)) - 1))).toNat * 1)), (114, I ((w64 (((a1.length : Int)) - 1)))), (113, I ((a1.length : Int))), (112, .ref 0 0 0 1 a1.length false), (111, B true), (110, B true), (109, I ((a1.length : Int))), (1, .ref 0 0 0 1 a1.length false), (5, .fptr (Enc.cells a2) 0), (8, I ((a1.length : Int)))], [some ⟨0, eL a1⟩]⟩) τ_ok [] [] 2 (by exact trivial) (by kernel_rfl) ?_
  obtain ⟨v39, hv40, h⟩ := bindS h
  refine qA_E (dd := some 120) (x := .ptr 0 0 (((w64 (((a1.length : Int)) - 2))).toNat * 1)) ([some ⟨0, eL a1⟩]) (⟨191, [(120, .ptr 0 0 (((w64 (((a1.length : Int)) - 2))).toNat * 1)), (119, I ((w64 (((a1.length : Int)) - 2)))), (118, I ((a1.length : Int))), (117, .ref 0 0 0 1 a1.length false), (116, I v37), (115, .ptr 0 0 (((w64 (((a1.length : Int)) - 1))).toNat * 1)), (114, I ((w64 (((a1.length : Int)) - 1)))), (113, I ((a1.length : Int))), (112, .ref 0 0 0 1 a1.length false), (111, B true), (110, B true), (109, I ((a1.length : Int))), (1, .ref 0 0 0 1 a1.length false), (5, .fptr (Enc.cells a2) 0), (8, I ((a1.length : Int)))], [some ⟨0, eL a1⟩]⟩) (fun Γ' hΓ => CoreE.of_y (idrV_sound (n := a1.length) τ_ok (by kernel_rfl) hv40 rfl)) (by kernel_rfl) (by kernel_rfl) (by exact (And.intro (.inl (eL_frz _)) trivial)) (.inr (.inl rfl)) (by kernel_rfl) ?_
  refine qA_E (dd := some 121) (x := I v39) ([some ⟨0, eL a1⟩]) (⟨191, [(121, I v39), (120, .ptr 0 0 (((w64 (((a1.length : Int)) - 2))).toNat * 1)), (119, I ((w64 (((a1.length : Int)) - 2)))), (118, I ((a1.length : Int))), (117, .ref 0 0 0 1 a1.length false), (116, I v37), (115, .ptr 0 0 (((w64 (((a1.length : Int)) - 1))).toNat * 1)), (114, I ((w64 (((a1.length : Int)) - 1)))), (113, I ((a1.length : Int))), (112, .ref 0 0 0 1 a1.length false), (111, B true), (110, B true), (109, I ((a1.length : Int))), (1, .ref 0 0 0 1 a1.length false), (5, .fptr (Enc.cells a2) 0), (8, I ((a1.length : Int)))], [some ⟨0, eL a1⟩]⟩) (fun Γ' hΓ => CoreE.of_y (ldeV_sound (t := 3) (o' := 0) (r := I v39) τ_ok hv40 (by kernel_rfl) (by kernel_rfl))) (by kernel_rfl) (by kernel_rfl) (by exact (And.intro (.inl (eL_frz _)) trivial)) (.inr (.inr rfl)) (by kernel_rfl) ?_
  refine qA_ev (st' := ⟨191, [(124, B ((v37 == v39))), (123, B ((v37 == v39))), (122, B ((v37 == v39))), (121, I v39), (120, .ptr 0 0 (((w64 (((a1.length : Int)) - 2))).toNat * 1)), (119, I ((w64 (((a1.length : Int)) - 2)))), (118, I ((a1.length : Int))), (117, .ref 0 0 0 1 a1.length false), (116, I v37), (115, .ptr 0 0 (((w64 (((a1.length : Int)) - 1))).toNat * 1)), (114, I ((w64 (((a1.length : Int)) - 1)))), (113, I ((a1.length : Int))), (112, .ref 0 0 0 1 a1.length false), (111, B true), (110, B true), (109, I ((a1.length : Int))), (1, .ref 0 0 0 1 a1.length false), (5, .fptr (Enc.cells a2) 0), (8, I ((a1.length : Int)))], [some ⟨0, eL a1⟩]⟩) τ_ok [] [] 3 (by exact trivial) (by kernel_rfl) ?_
  rcases fk ((v37 == v39)) with hc43 | hc43
  replace h := bT hc43 h
  rw [hc43]
  refine qA_ev (st' := ⟨191, [(126, I a2.fN), (125, .fptr (Enc.cells a2) 1), (124, B true), (123, B true), (122, B true), (121, I v39), (120, .ptr 0 0 (((w64 (((a1.length : Int)) - 2))).toNat * 1)), (119, I ((w64 (((a1.length : Int)) - 2)))), (118, I ((a1.length : Int))), (117, .ref 0 0 0 1 a1.length false), (116, I v37), (115, .ptr 0 0 (((w64 (((a1.length : Int)) - 1))).toNat * 1)), (114, I ((w64 (((a1.length : Int)) - 1)))), (113, I ((a1.length : Int))), (112, .ref 0 0 0 1 a1.length false), (111, B true), (110, B true), (109, I ((a1.length : Int))), (1, .ref 0 0 0 1 a1.length false), (5, .fptr (Enc.cells a2) 0), (8, I ((a1.length : Int)))], [some ⟨0, eL a1⟩]⟩) τ_ok [] [] 2 (by exact trivial) (by kernel_rfl) ?_
  obtain ⟨v41, hv42, h⟩ := bindS h
  refine qA_E (dd := some 127) (x := B v41) ([none]) (⟨191, [(127, B v41), (126, I a2.fN), (125, .fptr (Enc.cells a2) 1), (124, B true), (123, B true), (122, B true), (121, I v39), (120, .ptr 0 0 (((w64 (((a1.length : Int)) - 2))).toNat * 1)), (119, I ((w64 (((a1.length : Int)) - 2)))), (118, I ((a1.length : Int))), (117, .ref 0 0 0 1 a1.length false), (116, I v37), (115, .ptr 0 0 (((w64 (((a1.length : Int)) - 1))).toNat * 1)), (114, I ((w64 (((a1.length : Int)) - 1)))), (113, I ((a1.length : Int))), (112, .ref 0 0 0 1 a1.length false), (111, B true), (110, B true), (109, I ((a1.length : Int))), (1, .ref 0 0 0 1 a1.length false), (5, .fptr (Enc.cells a2) 0), (8, I ((a1.length : Int)))], [some ⟨0, eL a1⟩]⟩) (fun Γ' hΓ => CoreE.of_g (callV_sound (τ := τ) (by kernel_rfl) rfl (ok_spec_l1In hv42) (FzTo.frz rfl))) (by kernel_rfl) (by kernel_rfl) (by exact trivial) (.inr (.inr rfl)) (by kernel_rfl) ?_
  refine qA_ev (st' := ⟨191, [(10, B v41), (128, B v41), (127, B v41), (126, I a2.fN), (125, .fptr (Enc.cells a2) 1), (124, B true), (123, B true), (122, B true), (121, I v39), (120, .ptr 0 0 (((w64 (((a1.length : Int)) - 2))).toNat * 1)), (119, I ((w64 (((a1.length : Int)) - 2)))), (118, I ((a1.length : Int))), (117, .ref 0 0 0 1 a1.length false), (116, I v37), (115, .ptr 0 0 (((w64 (((a1.length : Int)) - 1))).toNat * 1)), (114, I ((w64 (((a1.length : Int)) - 1)))), (113, I ((a1.length : Int))), (112, .ref 0 0 0 1 a1.length false), (111, B true), (110, B true), (109, I ((a1.length : Int))), (1, .ref 0 0 0 1 a1.length false), (5, .fptr (Enc.cells a2) 0), (8, I ((a1.length : Int)))], [some ⟨0, eL a1⟩]⟩) τ_ok [] [] 2 (by exact trivial) (by kernel_rfl) ?_
  refine qA_end ?_
  refine opsP_imp (Imp.to (st' := ⟨191, [(1, .ref 0 0 0 1 a1.length false), (8, I ((a1.length : Int))), (10, B v41)], [some ⟨0, eL a1⟩]⟩) [1, 8, 10] (by kernel_rfl)) ?_
  refine opsP_end rfl ?_
  exact ⟨v41, h, (Imp.to (st' := ⟨191, [(1, .ref 0 0 0 1 a1.length false), (8, I ((a1.length : Int))), (10, B v41)], [some ⟨0, eL a1⟩]⟩) [1, 8, 10] (by kernel_rfl)).trans (Imp.to [1, 8, 10] (by kernel_rfl))⟩
  replace h := bF hc43 h
  rw [hc43]
  refine qA_ev (st' := ⟨191, [(10, B false), (128, B false), (127, .lit undef), (126, .lit undef), (125, .lit undef), (124, B false), (123, B false), (122, B false), (121, I v39), (120, .ptr 0 0 (((w64 (((a1.length : Int)) - 2))).toNat * 1)), (119, I ((w64 (((a1.length : Int)) - 2)))), (118, I ((a1.length : Int))), (117, .ref 0 0 0 1 a1.length false), (116, I v37), (115, .ptr 0 0 (((w64 (((a1.length : Int)) - 1))).toNat * 1)), (114, I ((w64 (((a1.length : Int)) - 1)))), (113, I ((a1.length : Int))), (112, .ref 0 0 0 1 a1.length false), (111, B true), (110, B true), (109, I ((a1.length : Int))), (1, .ref 0 0 0 1 a1.length false), (5, .fptr (Enc.cells a2) 0), (8, I ((a1.length : Int)))], [some ⟨0, eL a1⟩]⟩) τ_ok [] [] 5 (by exact trivial) (by kernel_rfl) ?_
  refine qA_end ?_
  refine opsP_imp (Imp.to (st' := ⟨191, [(1, .ref 0 0 0 1 a1.length false), (8, I ((a1.length : Int))), (10, B false)], [some ⟨0, eL a1⟩]⟩) [1, 8, 10] (by kernel_rfl)) ?_
  refine opsP_end rfl ?_
  exact ⟨false, h, (Imp.to (st' := ⟨191, [(1, .ref 0 0 0 1 a1.length false), (8, I ((a1.length : Int))), (10, B false)], [some ⟨0, eL a1⟩]⟩) [1, 8, 10] (by kernel_rfl)).trans (Imp.to [1, 8, 10] (by kernel_rfl))⟩
  replace h := bF hc44 h
  rw [hc44]
  refine qA_ev (st' := ⟨191, [(112, .lit undef), (111, B false), (110, B false), (109, I ((a1.length : Int))), (1, .ref 0 0 0 1 a1.length false), (5, .fptr (Enc.cells a2) 0), (8, I ((a1.length : Int)))], [some ⟨0, eL a1⟩]⟩) τ_ok [] [0] 1 (by exact (And.intro (.inl (eL_frz _)) trivial)) (by kernel_rfl) ?_
  refine qA_ev (st' := ⟨191, [(114, .lit undef), (113, .lit undef), (112, .lit undef), (111, B false), (110, B false), (109, I ((a1.length : Int))), (1, .ref 0 0 0 1 a1.length false), (5, .fptr (Enc.cells a2) 0), (8, I ((a1.length : Int)))], [some ⟨0, eL a1⟩]⟩) τ_ok [] [] 2 (by exact trivial) (by kernel_rfl) ?_
  refine qA_ev (st' := ⟨191, [(117, .lit undef), (116, .lit undef), (115, .lit undef), (114, .lit undef), (113, .lit undef), (112, .lit undef), (111, B false), (110, B false), (109, I ((a1.length : Int))), (1, .ref 0 0 0 1 a1.length false), (5, .fptr (Enc.cells a2) 0), (8, I ((a1.length : Int)))], [some ⟨0, eL a1⟩]⟩) τ_ok [] [0] 3 (by exact (And.intro (.inl (eL_frz _)) trivial)) (by kernel_rfl) ?_
  refine qA_ev (st' := ⟨191, [(119, .lit undef), (118, .lit undef), (117, .lit undef), (116, .lit undef), (115, .lit undef), (114, .lit undef), (113, .lit undef), (112, .lit undef), (111, B false), (110, B false), (109, I ((a1.length : Int))), (1, .ref 0 0 0 1 a1.length false), (5, .fptr (Enc.cells a2) 0), (8, I ((a1.length : Int)))], [some ⟨0, eL a1⟩]⟩) τ_ok [] [] 2 (by exact trivial) (by kernel_rfl) ?_
  refine qA_ev (st' := ⟨191, [(121, .lit undef), (120, .lit undef), (119, .lit undef), (118, .lit undef), (117, .lit undef), (116, .lit undef), (115, .lit undef), (114, .lit undef), (113, .lit undef), (112, .lit undef), (111, B false), (110, B false), (109, I ((a1.length : Int))), (1, .ref 0 0 0 1 a1.length false), (5, .fptr (Enc.cells a2) 0), (8, I ((a1.length : Int)))], [some ⟨0, eL a1⟩]⟩) τ_ok [] [0] 2 (by exact (And.intro (.inl (eL_frz _)) trivial)) (by kernel_rfl) ?_
  refine qA_ev (st' := ⟨191, [(10, B false), (128, B false), (127, .lit undef), (126, .lit undef), (125, .lit undef), (124, B false), (123, B false), (122, .lit undef), (121, .lit undef), (120, .lit undef), (119, .lit undef), (118, .lit undef), (117, .lit undef), (116, .lit undef), (115, .lit undef), (114, .lit undef), (113, .lit undef), (112, .lit undef), (111, B false), (110, B false), (109, I ((a1.length : Int))), (1, .ref 0 0 0 1 a1.length false), (5, .fptr (Enc.cells a2) 0), (8, I ((a1.length : Int)))], [some ⟨0, eL a1⟩]⟩) τ_ok [] [] 8 (by exact trivial) (by kernel_rfl) ?_
  refine qA_end ?_
  refine opsP_imp (Imp.to (st' := ⟨191, [(1, .ref 0 0 0 1 a1.length false), (8, I ((a1.length : Int))), (10, B false)], [some ⟨0, eL a1⟩]⟩) [1, 8, 10] (by kernel_rfl)) ?_
  refine opsP_end rfl ?_
  exact ⟨false, h, (Imp.to (st' := ⟨191, [(1, .ref 0 0 0 1 a1.length false), (8, I ((a1.length : Int))), (10, B false)], [some ⟨0, eL a1⟩]⟩) [1, 8, 10] (by kernel_rfl)).trans (Imp.to [1, 8, 10] (by kernel_rfl))⟩
  rintro x32 h
  unfold spec_l4Step_j3 at h
  refine srv 3 191 [(10, B x32), (129, .ref 0 0 0 1 a1.length false), (131, I ((w64 (((a1.length : Int)) - 2))))] [some ⟨0, eL a1⟩] ?_
  refine opsP_E (dd := some 132) (x := I (maxL ((w64 (((a1.length : Int)) - 2))) [0])) (CoreE.of_y (mxmV_sound (τ := τ) (m := true) (a := (w64 (((a1.length : Int)) - 2))) (l := [0]) (by kernel_rfl))) ?_
  obtain ⟨v33, hv34, h⟩ := bindS h
  refine opsP_slr τ_ok 133 0 0 a1.length hv34 rfl (by kernel_rfl) ?_
  refine v 1 191 [(10, B x32), (133, .ref 0 0 0 1 v33.length false), (134, .arr 1 (([3] : List Int)).length (eL ([3] : List Int)) true)] [some ⟨0, eL a1⟩] ?_
  obtain ⟨v35, hv36, h⟩ := bindS h
  refine opsP_apt τ_ok 135 0 0 v33.length (fun b hb => absurd hb (hX b)) hv36 (slI_le hv34) (by kernel_rfl) ?_
  refine ve 3 191 [(6, .ref 0 1 0 1 v35.length false), (7, B x32)] [some ⟨1, eL v35⟩] ?_
  have h := si h
  subst h
  exact pwp_ret (rt (.tup [.ref 0 1 0 1 v35.length false, B x32]) (OutP.tup (OutL.cons (OutP.list (v := 1) (by kernel_rfl)) (OutL.cons (OutP.frz (by kernel_rfl)) (OutL.nil _)))))
  refine pwp_seq ?_
  refine pwp_join (σ := Bool) (fun x45 => (⟨191, [(1, .ref 0 0 0 1 a1.length false), (8, I ((a1.length : Int))), (40, I a2.fKind), (137, B x45)], [some ⟨0, eL a1⟩]⟩ : St)) (fun x45 => spec_l4Step_j4 a1 a2 x45 = some y) ?_ ?_
  refine srve 191 [(1, .ref 0 0 0 1 a1.length false), (8, I ((a1.length : Int))), (40, I a2.fKind), (137, B ((a2.fKind == 5)))] [some ⟨0, eL a1⟩] ?_
  refine pc h (fun h => ?_) (fun h => ?_)
  refine pwp_skip ?_
  exact ⟨(a2.fKind == 5), h, (Imp.to (st' := ⟨191, [(1, .ref 0 0 0 1 a1.length false), (8, I ((a1.length : Int))), (40, I a2.fKind), (137, B ((a2.fKind == 5)))], [some ⟨0, eL a1⟩]⟩) [1, 8, 40, 137] (by kernel_rfl)).trans (Imp.to [1, 8, 40, 137] (by kernel_rfl))⟩
  refine rve 191 [(1, .ref 0 0 0 1 a1.length false), (8, I ((a1.length : Int))), (40, I a2.fKind), (137, B ((a2.fKind == 6)))] [some ⟨0, eL a1⟩] ?_
  exact ⟨(a2.fKind == 6), h, (Imp.to (st' := ⟨191, [(1, .ref 0 0 0 1 a1.length false), (8, I ((a1.length : Int))), (40, I a2.fKind), (137, B ((a2.fKind == 6)))], [some ⟨0, eL a1⟩]⟩) [1, 8, 40, 137] (by kernel_rfl)).trans (Imp.to [1, 8, 40, 137] (by kernel_rfl))⟩
  rintro x45 h
  unfold spec_l4Step_j4 at h
  refine pc h (fun h => ?_) (fun h => ?_)
  refine pwp_seq ?_
  refine pwp_join (σ := Bool) (fun x47 => (⟨191, [(1, .ref 0 0 0 1 a1.length false), (8, I ((a1.length : Int))), (11, B x47)], [some ⟨0, eL a1⟩]⟩ : St)) (fun x47 => spec_l4Step_j5 a1 x47 = some y) ?_ ?_
  refine rv 3 191 [(1, .ref 0 0 0 1 a1.length false), (8, I ((a1.length : Int))), (142, B ((decide (((a1.length : Int)) > 1))))] [some ⟨0, eL a1⟩] ?_
  rcases fk ((decide (((a1.length : Int)) > 1))) with hc57 | hc57
  replace h := bT hc57 h
  rw [hc57]
  refine v 3 191 [(1, .ref 0 0 0 1 a1.length false), (8, I ((a1.length : Int))), (142, B true), (143, .ref 0 0 0 1 a1.length false), (145, I ((w64 (((a1.length : Int)) - 1))))] [some ⟨0, eL a1⟩] ?_
  obtain ⟨v52, hv53, h⟩ := bindS h
  refine opsP_idr τ_ok 146 0 0 a1.length hv53 rfl (by kernel_rfl) ?_
  refine opsP_lde (r := I v52) τ_ok 147 3 0 hv53 (by kernel_rfl) (by kernel_rfl) ?_
  refine v 3 191 [(1, .ref 0 0 0 1 a1.length false), (8, I ((a1.length : Int))), (150, B ((v52 == 3)))] [some ⟨0, eL a1⟩] ?_
  rcases fk ((v52 == 3)) with hc56 | hc56
  replace h := bT hc56 h
  rw [hc56]
  refine v 3 191 [(1, .ref 0 0 0 1 a1.length false), (8, I ((a1.length : Int))), (150, B true), (151, .ref 0 0 0 1 a1.length false), (153, I ((w64 (((a1.length : Int)) - 2))))] [some ⟨0, eL a1⟩] ?_
  obtain ⟨v54, hv55, h⟩ := bindS h
  refine opsP_idr τ_ok 154 0 0 a1.length hv55 rfl (by kernel_rfl) ?_
  refine opsP_lde (r := I v54) τ_ok 155 3 0 hv55 (by kernel_rfl) (by kernel_rfl) ?_
  refine ve 3 191 [(1, .ref 0 0 0 1 a1.length false), (8, I ((a1.length : Int))), (11, B ((v54 == 3)))] [some ⟨0, eL a1⟩] ?_
  exact ⟨(v54 == 3), h, (Imp.to (st' := ⟨191, [(1, .ref 0 0 0 1 a1.length false), (8, I ((a1.length : Int))), (11, B ((v54 == 3)))], [some ⟨0, eL a1⟩]⟩) [1, 8, 11] (by kernel_rfl)).trans (Imp.to [1, 8, 11] (by kernel_rfl))⟩
  replace h := bF hc56 h
  rw [hc56]
  refine ve 8 191 [(1, .ref 0 0 0 1 a1.length false), (8, I ((a1.length : Int))), (11, B false)] [some ⟨0, eL a1⟩] ?_
  exact ⟨false, h, (Imp.to (st' := ⟨191, [(1, .ref 0 0 0 1 a1.length false), (8, I ((a1.length : Int))), (11, B false)], [some ⟨0, eL a1⟩]⟩) [1, 8, 11] (by kernel_rfl)).trans (Imp.to [1, 8, 11] (by kernel_rfl))⟩
  replace h := bF hc57 h
  rw [hc57]
  refine ve 16 191 [(1, .ref 0 0 0 1 a1.length false), (8, I ((a1.length : Int))), (11, B false)] [some ⟨0, eL a1⟩] ?_
  exact ⟨false, h, (Imp.to (st' := ⟨191, [(1, .ref 0 0 0 1 a1.length false), (8, I ((a1.length : Int))), (11, B false)], [some ⟨0, eL a1⟩]⟩) [1, 8, 11] (by kernel_rfl)).trans (Imp.to [1, 8, 11] (by kernel_rfl))⟩
  rintro x47 h
  unfold spec_l4Step_j5 at h
  refine srv 3 191 [(11, B x47), (158, .ref 0 0 0 1 a1.length false), (160, I ((w64 (((a1.length : Int)) - 2))))] [some ⟨0, eL a1⟩] ?_
  refine opsP_E (dd := some 161) (x := I (maxL ((w64 (((a1.length : Int)) - 2))) [0])) (CoreE.of_y (mxmV_sound (τ := τ) (m := true) (a := (w64 (((a1.length : Int)) - 2))) (l := [0]) (by kernel_rfl))) ?_
  obtain ⟨v48, hv49, h⟩ := bindS h
  refine opsP_slr τ_ok 162 0 0 a1.length hv49 rfl (by kernel_rfl) ?_
  refine v 1 191 [(11, B x47), (162, .ref 0 0 0 1 v48.length false), (163, .arr 1 (([3] : List Int)).length (eL ([3] : List Int)) true)] [some ⟨0, eL a1⟩] ?_
  obtain ⟨v50, hv51, h⟩ := bindS h
  refine opsP_apt τ_ok 164 0 0 v48.length (fun b hb => absurd hb (hX b)) hv51 (slI_le hv49) (by kernel_rfl) ?_
  refine ve 3 191 [(6, .ref 0 1 0 1 v50.length false), (7, B x47)] [some ⟨1, eL v50⟩] ?_
  have h := si h
  subst h
  exact pwp_ret (rt (.tup [.ref 0 1 0 1 v50.length false, B x47]) (OutP.tup (OutL.cons (OutP.list (v := 1) (by kernel_rfl)) (OutL.cons (OutP.frz (by kernel_rfl)) (OutL.nil _)))))
  refine srve 191 [(1, .ref 0 0 0 1 a1.length false), (8, I ((a1.length : Int))), (40, I a2.fKind), (166, B ((a2.fKind == 7)))] [some ⟨0, eL a1⟩] ?_
  refine pc h (fun h => ?_) (fun h => ?_)
  refine pwp_seq ?_
  refine pwp_imp (Imp.to (st' := ⟨191, [(1, .ref 0 0 0 1 a1.length false), (8, I ((a1.length : Int)))], [some ⟨0, eL a1⟩]⟩) [1, 8] (by kernel_rfl)) ?_
  refine pwp_any ([[0], [], [], [], [0], [], [], [0], [0], [], [], [0], []]) ([[], [], [], [], [], [], [], [], [], [], [], [], []]) rfl (by kernel_rfl) ?_
  refine qA_ev (st' := ⟨191, [(168, .ref 0 0 0 1 a1.length false), (1, .ref 0 0 0 1 a1.length false), (8, I ((a1.length : Int)))], [some ⟨0, eL a1⟩]⟩) τ_ok [] [0] 1 (by exact (And.intro (.inl (eL_frz _)) trivial)) (by kernel_rfl) ?_
  refine qA_ev (st' := ⟨191, [(171, B ((decide (((a1.length : Int)) > 0)))), (170, B ((decide (((a1.length : Int)) > 0)))), (169, I ((a1.length : Int))), (168, .ref 0 0 0 1 a1.length false), (1, .ref 0 0 0 1 a1.length false), (8, I ((a1.length : Int)))], [some ⟨0, eL a1⟩]⟩) τ_ok [] [] 3 (by exact trivial) (by kernel_rfl) ?_
  rcases fk ((decide (((a1.length : Int)) > 0))) with hc61 | hc61
  replace h := bT hc61 h
  rw [hc61]
  refine qA_ev (st' := ⟨191, [(172, .ref 0 0 0 1 a1.length false), (171, B true), (170, B true), (169, I ((a1.length : Int))), (168, .ref 0 0 0 1 a1.length false), (1, .ref 0 0 0 1 a1.length false), (8, I ((a1.length : Int)))], [some ⟨0, eL a1⟩]⟩) τ_ok [] [0] 1 (by exact (And.intro (.inl (eL_frz _)) trivial)) (by kernel_rfl) ?_
  refine qA_ev (st' := ⟨191, [(174, I ((w64 (((a1.length : Int)) - 1)))), (173, I ((a1.length : Int))), (172, .ref 0 0 0 1 a1.length false), (171, B true), (170, B true), (169, I ((a1.length : Int))), (168, .ref 0 0 0 1 a1.length false), (1, .ref 0 0 0 1 a1.length false), (8, I ((a1.length : Int)))], [some ⟨0, eL a1⟩]⟩) τ_ok [] [] 2 (by exact trivial) (by kernel_rfl) ?_
  obtain ⟨v59, hv60, h⟩ := bindS h
  refine qA_E (dd := some 175) (x := .ptr 0 0 (((w64 (((a1.length : Int)) - 1))).toNat * 1)) ([some ⟨0, eL a1⟩]) (⟨191, [(175, .ptr 0 0 (((w64 (((a1.length : Int)) - 1))).toNat * 1)), (174, I ((w64 (((a1.length : Int)) - 1)))), (173, I ((a1.length : Int))), (172, .ref 0 0 0 1 a1.length false), (171, B true), (170, B true), (169, I ((a1.length : Int))), (168, .ref 0 0 0 1 a1.length false), (1, .ref 0 0 0 1 a1.length false), (8, I ((a1.length : Int)))], [some ⟨0, eL a1⟩]⟩) (fun Γ' hΓ => CoreE.of_y (idrV_sound (n := a1.length) τ_ok (by kernel_rfl) hv60 rfl)) (by kernel_rfl) (by kernel_rfl) (by exact (And.intro (.inl (eL_frz _)) trivial)) (.inr (.inl rfl)) (by kernel_rfl) ?_
  refine qA_E (dd := some 176) (x := I v59) ([some ⟨0, eL a1⟩]) (⟨191, [(176, I v59), (175, .ptr 0 0 (((w64 (((a1.length : Int)) - 1))).toNat * 1)), (174, I ((w64 (((a1.length : Int)) - 1)))), (173, I ((a1.length : Int))), (172, .ref 0 0 0 1 a1.length false), (171, B true), (170, B true), (169, I ((a1.length : Int))), (168, .ref 0 0 0 1 a1.length false), (1, .ref 0 0 0 1 a1.length false), (8, I ((a1.length : Int)))], [some ⟨0, eL a1⟩]⟩) (fun Γ' hΓ => CoreE.of_y (ldeV_sound (t := 3) (o' := 0) (r := I v59) τ_ok hv60 (by kernel_rfl) (by kernel_rfl))) (by kernel_rfl) (by kernel_rfl) (by exact (And.intro (.inl (eL_frz _)) trivial)) (.inr (.inr rfl)) (by kernel_rfl) ?_
  refine qA_ev (st' := ⟨191, [(178, B ((v59 == 3))), (177, B ((v59 == 3))), (176, I v59), (175, .ptr 0 0 (((w64 (((a1.length : Int)) - 1))).toNat * 1)), (174, I ((w64 (((a1.length : Int)) - 1)))), (173, I ((a1.length : Int))), (172, .ref 0 0 0 1 a1.length false), (171, B true), (170, B true), (169, I ((a1.length : Int))), (168, .ref 0 0 0 1 a1.length false), (1, .ref 0 0 0 1 a1.length false), (8, I ((a1.length : Int)))], [some ⟨0, eL a1⟩]⟩) τ_ok [] [] 2 (by exact trivial) (by kernel_rfl) ?_
  refine qA_ev (st' := ⟨191, [(6, .ref 0 0 0 1 a1.length false), (178, B ((v59 == 3))), (177, B ((v59 == 3))), (176, I v59), (175, .ptr 0 0 (((w64 (((a1.length : Int)) - 1))).toNat * 1)), (174, I ((w64 (((a1.length : Int)) - 1)))), (173, I ((a1.length : Int))), (172, .ref 0 0 0 1 a1.length false), (171, B true), (170, B true), (169, I ((a1.length : Int))), (168, .ref 0 0 0 1 a1.length false), (1, .ref 0 0 0 1 a1.length false), (8, I ((a1.length : Int)))], [some ⟨0, eL a1⟩]⟩) τ_ok [] [0] 1 (by exact (And.intro (.inl (eL_frz _)) trivial)) (by kernel_rfl) ?_
  refine qA_ev (st' := ⟨191, [(7, B ((v59 == 3))), (6, .ref 0 0 0 1 a1.length false), (178, B ((v59 == 3))), (177, B ((v59 == 3))), (176, I v59), (175, .ptr 0 0 (((w64 (((a1.length : Int)) - 1))).toNat * 1)), (174, I ((w64 (((a1.length : Int)) - 1)))), (173, I ((a1.length : Int))), (172, .ref 0 0 0 1 a1.length false), (171, B true), (170, B true), (169, I ((a1.length : Int))), (168, .ref 0 0 0 1 a1.length false), (1, .ref 0 0 0 1 a1.length false), (8, I ((a1.length : Int)))], [some ⟨0, eL a1⟩]⟩) τ_ok [] [] 1 (by exact trivial) (by kernel_rfl) ?_
  refine qA_end ?_
  refine opsP_imp (Imp.to (st' := ⟨191, [(6, .ref 0 0 0 1 a1.length false), (7, B ((v59 == 3)))], [some ⟨0, eL a1⟩]⟩) [6, 7] (by kernel_rfl)) ?_
  refine opsP_end rfl ?_
  have h := si h
  subst h
  exact pwp_ret (rt (.tup [.ref 0 0 0 1 a1.length false, B ((v59 == 3))]) (OutP.tup (OutL.cons (OutP.list (v := 0) (by kernel_rfl)) (OutL.cons (OutP.frz (by kernel_rfl)) (OutL.nil _)))))
  replace h := bF hc61 h
  rw [hc61]
  refine qA_ev (st' := ⟨191, [(172, .lit undef), (171, B false), (170, B false), (169, I ((a1.length : Int))), (168, .ref 0 0 0 1 a1.length false), (1, .ref 0 0 0 1 a1.length false), (8, I ((a1.length : Int)))], [some ⟨0, eL a1⟩]⟩) τ_ok [] [0] 1 (by exact (And.intro (.inl (eL_frz _)) trivial)) (by kernel_rfl) ?_
  refine qA_ev (st' := ⟨191, [(174, .lit undef), (173, .lit undef), (172, .lit undef), (171, B false), (170, B false), (169, I ((a1.length : Int))), (168, .ref 0 0 0 1 a1.length false), (1, .ref 0 0 0 1 a1.length false), (8, I ((a1.length : Int)))], [some ⟨0, eL a1⟩]⟩) τ_ok [] [] 2 (by exact trivial) (by kernel_rfl) ?_
  refine qA_ev (st' := ⟨191, [(176, .lit undef), (175, .lit undef), (174, .lit undef), (173, .lit undef), (172, .lit undef), (171, B false), (170, B false), (169, I ((a1.length : Int))), (168, .ref 0 0 0 1 a1.length false), (1, .ref 0 0 0 1 a1.length false), (8, I ((a1.length : Int)))], [some ⟨0, eL a1⟩]⟩) τ_ok [] [0] 2 (by exact (And.intro (.inl (eL_frz _)) trivial)) (by kernel_rfl) ?_
  refine qA_ev (st' := ⟨191, [(178, B false), (177, .lit undef), (176, .lit undef), (175, .lit undef), (174, .lit undef), (173, .lit undef), (172, .lit undef), (171, B false), (170, B false), (169, I ((a1.length : Int))), (168, .ref 0 0 0 1 a1.length false), (1, .ref 0 0 0 1 a1.length false), (8, I ((a1.length : Int)))], [some ⟨0, eL a1⟩]⟩) τ_ok [] [] 2 (by exact trivial) (by kernel_rfl) ?_
  refine qA_ev (st' := ⟨191, [(6, .ref 0 0 0 1 a1.length false), (178, B false), (177, .lit undef), (176, .lit undef), (175, .lit undef), (174, .lit undef), (173, .lit undef), (172, .lit undef), (171, B false), (170, B false), (169, I ((a1.length : Int))), (168, .ref 0 0 0 1 a1.length false), (1, .ref 0 0 0 1 a1.length false), (8, I ((a1.length : Int)))], [some ⟨0, eL a1⟩]⟩) τ_ok [] [0] 1 (by exact (And.intro (.inl (eL_frz _)) trivial)) (by kernel_rfl) ?_
  refine qA_ev (st' := ⟨191, [(7, B false), (6, .ref 0 0 0 1 a1.length false), (178, B false), (177, .lit undef), (176, .lit undef), (175, .lit undef), (174, .lit undef), (173, .lit undef), (172, .lit undef), (171, B false), (170, B false), (169, I ((a1.length : Int))), (168, .ref 0 0 0 1 a1.length false), (1, .ref 0 0 0 1 a1.length false), (8, I ((a1.length : Int)))], [some ⟨0, eL a1⟩]⟩) τ_ok [] [] 1 (by exact trivial) (by kernel_rfl) ?_
  refine qA_end ?_
  refine opsP_imp (Imp.to (st' := ⟨191, [(6, .ref 0 0 0 1 a1.length false), (7, B false)], [some ⟨0, eL a1⟩]⟩) [6, 7] (by kernel_rfl)) ?_
  refine opsP_end rfl ?_
  have h := si h
  subst h
  exact pwp_ret (rt (.tup [.ref 0 0 0 1 a1.length false, B false]) (OutP.tup (OutL.cons (OutP.list (v := 0) (by kernel_rfl)) (OutL.cons (OutP.frz (by kernel_rfl)) (OutL.nil _)))))
  refine srve 191 [(1, .ref 0 0 0 1 a1.length false), (8, I ((a1.length : Int))), (179, B ((a2.fKind == 8)))] [some ⟨0, eL a1⟩] ?_
  refine pc h (fun h => ?_) (fun h => ?_)
  refine srv 3 191 [(8, I ((a1.length : Int))), (181, .ref 0 0 0 1 a1.length false), (183, I ((w64 (((a1.length : Int)) - 1))))] [some ⟨0, eL a1⟩] ?_
  refine opsP_E (dd := some 184) (x := I (maxL ((w64 (((a1.length : Int)) - 1))) [0])) (CoreE.of_y (mxmV_sound (τ := τ) (m := true) (a := (w64 (((a1.length : Int)) - 1))) (l := [0]) (by kernel_rfl))) ?_
  obtain ⟨v63, hv64, h⟩ := bindS h
  refine opsP_slr τ_ok 185 0 0 a1.length hv64 rfl (by kernel_rfl) ?_
  refine v 1 191 [(8, I ((a1.length : Int))), (185, .ref 0 0 0 1 v63.length false), (186, .arr 1 (([3] : List Int)).length (eL ([3] : List Int)) true)] [some ⟨0, eL a1⟩] ?_
  obtain ⟨v65, hv66, h⟩ := bindS h
  refine opsP_apt τ_ok 187 0 0 v63.length (fun b hb => absurd hb (hX b)) hv66 (slI_le hv64) (by kernel_rfl) ?_
  refine ve 4 191 [(6, .ref 0 1 0 1 v65.length false), (7, B ((decide (((a1.length : Int)) > 0))))] [some ⟨1, eL v65⟩] ?_
  have h := si h
  subst h
  exact pwp_ret (rt (.tup [.ref 0 1 0 1 v65.length false, B ((decide (((a1.length : Int)) > 0)))]) (OutP.tup (OutL.cons (OutP.list (v := 1) (by kernel_rfl)) (OutL.cons (OutP.frz (by kernel_rfl)) (OutL.nil _)))))
  refine pwp_skip ?_
  refine srve 191 [(6, .ref 0 0 0 1 a1.length false), (7, B false)] [some ⟨0, eL a1⟩] ?_
  have h := si h
  subst h
  exact pwp_ret (rt (.tup [.ref 0 0 0 1 a1.length false, B false]) (OutP.tup (OutL.cons (OutP.list (v := 0) (by kernel_rfl)) (OutL.cons (OutP.frz (by kernel_rfl)) (OutL.nil _)))))
def impl_ColumnsOk (a0 : List T_impl_Column) : Option Bool := bif (decide (((a0.length : Int)) ≤ 4)) then (slices_ContainsFunc_impl_Column_impl_Column a0 impl_ColumnsOk_1).bind fun v1 => some ((!v1)) else some false
theorem ok_impl_ColumnsOk {a0 : List T_impl_Column} {y : Bool} (h : impl_ColumnsOk a0 = some y) : OK Tryz.prog 124 [A a0] (B y) := by
  refine OK_of_pwp τ_ok Tryz.func124 rfl (by kernel_rfl) rfl fun Γ hX => ?_
  unfold impl_ColumnsOk at h
  refine srve 11 [(0, A a0)] [] ?_
  refine srv 4 11 [(0, A a0), (6, B ((decide (((a0.length : Int)) ≤ 4))))] [] ?_
  rcases fk ((decide (((a0.length : Int)) ≤ 4))) with hc3 | hc3
  replace h := bT hc3 h
  rw [hc3]
  refine v 1 11 [(6, B true), (7, A a0)] [] ?_
  obtain ⟨v1, hv2, h⟩ := bindS h
  refine opsP_callF τ 8 (ok_slices_ContainsFunc_impl_Column_impl_Column (rfl) (fun _ w hw => ok_impl_ColumnsOk_1 hw) hv2) (FzTo.frz rfl) rfl (by kernel_rfl) ?_
  refine ve 3 11 [(2, B ((!v1)))] [] ?_
  cases h
  exact pwp_ret rz
  replace h := bF hc3 h
  rw [hc3]
  refine ve 5 11 [(2, B false)] [] ?_
  cases h
  exact pwp_ret rz
def impl_Part_tells_j0 (a0 : T_impl_Part) (x14 : Bool) : Option Bool := bif x14 then bif (a0.fN == 0) then some ((eq_T_impl_Value a0.fV ((T_impl_Value.mk 0 0 (ByteArray.mk #[]))))) else some false else some false
def impl_Part_tells (a0 : T_impl_Part) (a1 : List T_impl_Column) : Option Bool := bif (a0.fKind == 1) then bif (a0.fN == 0) then (impl_Value_ok a0.fV).bind fun v2 => bif v2 then some ((!(a0.fV.fKind == 0))) else some false else some false else bif (a0.fKind == 2) then (impl_between a0.fN 0 ((w64 (((a1.length : Int)) - 1)))).bind fun v7 => bif v7 then some ((eq_T_impl_Value a0.fV ((T_impl_Value.mk 0 0 (ByteArray.mk #[]))))) else some false else bif (a0.fKind == 4) then (impl_between a0.fN 1 4).bind fun v11 => bif v11 then some ((eq_T_impl_Value a0.fV ((T_impl_Value.mk 0 0 (ByteArray.mk #[]))))) else some false else bif (a0.fKind == 3) then impl_Part_tells_j0 a0 ((a0.fKind == 3)) else bif (a0.fKind == 5) then impl_Part_tells_j0 a0 ((a0.fKind == 5)) else bif (a0.fKind == 6) then impl_Part_tells_j0 a0 ((a0.fKind == 6)) else bif (a0.fKind == 7) then impl_Part_tells_j0 a0 ((a0.fKind == 7)) else impl_Part_tells_j0 a0 ((a0.fKind == 8))
theorem ok_impl_Part_tells {a0 : T_impl_Part} {a1 : List T_impl_Column} {y : Bool} (h : impl_Part_tells a0 a1 = some y) : OK Tryz.prog 126 [E a0, A a1] (B y) := by
  refine OK_of_pwp τ_ok Tryz.func126 rfl (by kernel_rfl) rfl fun Γ hX => ?_
  unfold impl_Part_tells at h
  refine srve 63 [(1, A a1), (2, .fptr (Enc.cells a0) 0)] [] ?_
  refine pwp_seq ?_
  refine srve 63 [(1, A a1), (2, .fptr (Enc.cells a0) 0), (6, I a0.fKind)] [] ?_
  refine pwp_block ?_
  refine srve 63 [(1, A a1), (2, .fptr (Enc.cells a0) 0), (6, I a0.fKind), (7, B ((a0.fKind == 1)))] [] ?_
  refine pc h (fun h => ?_) (fun h => ?_)
  refine srv 4 63 [(2, .fptr (Enc.cells a0) 0), (12, B ((a0.fN == 0)))] [] ?_
  rcases fk ((a0.fN == 0)) with hc5 | hc5
  replace h := bT hc5 h
  rw [hc5]
  refine v 2 63 [(2, .fptr (Enc.cells a0) 0), (12, B true), (14, E a0.fV)] [] ?_
  obtain ⟨v2, hv3, h⟩ := bindS h
  refine opsP_callF τ 15 (ok_impl_Value_ok hv3) (FzTo.frz rfl) rfl (by kernel_rfl) ?_
  refine v 2 63 [(2, .fptr (Enc.cells a0) 0), (17, B v2)] [] ?_
  rcases Bool.eq_false_or_eq_true v2 with hc4 | hc4
  replace h := bT hc4 h
  rw [hc4]
  refine ve 6 63 [(4, B ((!(a0.fV.fKind == 0))))] [] ?_
  cases h
  exact pwp_ret rz
  replace h := bF hc4 h
  rw [hc4]
  refine ve 6 63 [(4, B false)] [] ?_
  cases h
  exact pwp_ret rz
  replace h := bF hc5 h
  rw [hc5]
  refine ve 11 63 [(4, B false)] [] ?_
  cases h
  exact pwp_ret rz
  refine srve 63 [(1, A a1), (2, .fptr (Enc.cells a0) 0), (6, I a0.fKind), (23, B ((a0.fKind == 2)))] [] ?_
  refine pc h (fun h => ?_) (fun h => ?_)
  refine srv 5 63 [(2, .fptr (Enc.cells a0) 0), (26, I a0.fN), (29, I ((w64 (((a1.length : Int)) - 1))))] [] ?_
  obtain ⟨v7, hv8, h⟩ := bindS h
  refine opsP_callF τ 30 (ok_impl_between hv8) (FzTo.frz rfl) rfl (by kernel_rfl) ?_
  refine v 1 63 [(2, .fptr (Enc.cells a0) 0), (31, B v7)] [] ?_
  rcases Bool.eq_false_or_eq_true v7 with hc9 | hc9
  replace h := bT hc9 h
  rw [hc9]
  refine ve 6 63 [(4, B ((eq_T_impl_Value a0.fV ((T_impl_Value.mk 0 0 (ByteArray.mk #[]))))))] [] ?_
  cases h
  exact pwp_ret rz
  replace h := bF hc9 h
  rw [hc9]
  refine ve 6 63 [(4, B false)] [] ?_
  cases h
  exact pwp_ret rz
  refine srve 63 [(2, .fptr (Enc.cells a0) 0), (6, I a0.fKind), (37, B ((a0.fKind == 4)))] [] ?_
  refine pc h (fun h => ?_) (fun h => ?_)
  refine srv 2 63 [(2, .fptr (Enc.cells a0) 0), (40, I a0.fN)] [] ?_
  obtain ⟨v11, hv12, h⟩ := bindS h
  refine opsP_callF τ 41 (ok_impl_between hv12) (FzTo.frz rfl) rfl (by kernel_rfl) ?_
  refine v 1 63 [(2, .fptr (Enc.cells a0) 0), (42, B v11)] [] ?_
  rcases Bool.eq_false_or_eq_true v11 with hc13 | hc13
  replace h := bT hc13 h
  rw [hc13]
  refine ve 6 63 [(4, B ((eq_T_impl_Value a0.fV ((T_impl_Value.mk 0 0 (ByteArray.mk #[]))))))] [] ?_
  cases h
  exact pwp_ret rz
  replace h := bF hc13 h
  rw [hc13]
  refine ve 6 63 [(4, B false)] [] ?_
  cases h
  exact pwp_ret rz
  refine pwp_seq ?_
  refine pwp_join (σ := Bool) (fun x14 => (⟨63, [(2, .fptr (Enc.cells a0) 0), (48, B x14)], []⟩ : St)) (fun x14 => impl_Part_tells_j0 a0 x14 = some y) ?_ ?_
  refine srve 63 [(2, .fptr (Enc.cells a0) 0), (6, I a0.fKind), (48, B ((a0.fKind == 3)))] [] ?_
  refine pc h (fun h => ?_) (fun h => ?_)
  refine pwp_skip ?_
  exact ⟨(a0.fKind == 3), h, (Imp.to (st' := ⟨63, [(2, .fptr (Enc.cells a0) 0), (48, B ((a0.fKind == 3)))], []⟩) [2, 48] (by kernel_rfl)).trans (Imp.to [2, 48] (by kernel_rfl))⟩
  refine srve 63 [(2, .fptr (Enc.cells a0) 0), (6, I a0.fKind), (48, B ((a0.fKind == 5)))] [] ?_
  refine pc h (fun h => ?_) (fun h => ?_)
  refine pwp_skip ?_
  exact ⟨(a0.fKind == 5), h, (Imp.to (st' := ⟨63, [(2, .fptr (Enc.cells a0) 0), (48, B ((a0.fKind == 5)))], []⟩) [2, 48] (by kernel_rfl)).trans (Imp.to [2, 48] (by kernel_rfl))⟩
  refine srve 63 [(2, .fptr (Enc.cells a0) 0), (6, I a0.fKind), (48, B ((a0.fKind == 6)))] [] ?_
  refine pc h (fun h => ?_) (fun h => ?_)
  refine pwp_skip ?_
  exact ⟨(a0.fKind == 6), h, (Imp.to (st' := ⟨63, [(2, .fptr (Enc.cells a0) 0), (48, B ((a0.fKind == 6)))], []⟩) [2, 48] (by kernel_rfl)).trans (Imp.to [2, 48] (by kernel_rfl))⟩
  refine srve 63 [(2, .fptr (Enc.cells a0) 0), (6, I a0.fKind), (48, B ((a0.fKind == 7)))] [] ?_
  refine pc h (fun h => ?_) (fun h => ?_)
  refine pwp_skip ?_
  exact ⟨(a0.fKind == 7), h, (Imp.to (st' := ⟨63, [(2, .fptr (Enc.cells a0) 0), (48, B ((a0.fKind == 7)))], []⟩) [2, 48] (by kernel_rfl)).trans (Imp.to [2, 48] (by kernel_rfl))⟩
  refine rve 63 [(2, .fptr (Enc.cells a0) 0), (48, B ((a0.fKind == 8)))] [] ?_
  exact ⟨(a0.fKind == 8), h, (Imp.to (st' := ⟨63, [(2, .fptr (Enc.cells a0) 0), (48, B ((a0.fKind == 8)))], []⟩) [2, 48] (by kernel_rfl)).trans (Imp.to [2, 48] (by kernel_rfl))⟩
  rintro x14 h
  unfold impl_Part_tells_j0 at h
  refine pc h (fun h => ?_) (fun h => ?_)
  refine srv 4 63 [(2, .fptr (Enc.cells a0) 0), (57, B ((a0.fN == 0)))] [] ?_
  rcases fk ((a0.fN == 0)) with hc16 | hc16
  replace h := bT hc16 h
  rw [hc16]
  refine ve 6 63 [(4, B ((eq_T_impl_Value a0.fV ((T_impl_Value.mk 0 0 (ByteArray.mk #[]))))))] [] ?_
  cases h
  exact pwp_ret rz
  replace h := bF hc16 h
  rw [hc16]
  refine ve 6 63 [(4, B false)] [] ?_
  cases h
  exact pwp_ret rz
  refine pwp_skip ?_
  refine srve 63 [(4, B false)] [] ?_
  cases h
  exact pwp_ret rz
def spec_RowOk_l0 (a0 : List T_impl_Value) : Nat → Int → Option Bool
  | 0, _ => none
  | f2 + 1, x1 => bif (decide (x1 < ((a0.length : Int)))) then (getI a0 x1).bind fun v5 => (spec_ValueOk v5).bind fun v7 => bif (!v7) then some false else (spec_RowOk_l0 a0 f2) ((w64 (x1 + 1))) else some ((decide (((a0.length : Int)) ≤ 4)))
def spec_RowOk (a0 : List T_impl_Value) : Option Bool := spec_RowOk_l0 a0 FUEL 0
theorem ok_spec_RowOk {a0 : List T_impl_Value} {y : Bool} (h : spec_RowOk a0 = some y) : OK Tryz.prog 141 [A a0] (B y) := by
  refine OK_of_pwp τ_ok Tryz.func141 rfl (by kernel_rfl) rfl fun Γ hX => ?_
  unfold spec_RowOk at h
  refine srve 19 [(0, A a0)] [] ?_
  refine pwp_seq ?_
  refine srve 19 [(0, A a0), (3, I 0)] [] ?_
  refine pwp_block ?_
  refine pwp_loop (ι := Nat × Int) (fun (f2, x1) => (⟨19, [(0, A a0), (3, I x1)], []⟩ : St)) (fun (f2, x1) => spec_RowOk_l0 a0 f2 x1 = some y) (fun (f2, x1) => f2) (FUEL, 0) h ((Imp.to (st' := ⟨19, [(0, A a0), (3, I 0)], []⟩) [0, 3] (by kernel_rfl)).trans (Imp.to [0, 3] (by kernel_rfl))) ?_
  rintro ⟨f2, x1⟩ h
  dsimp only at h ⊢
  rcases f2 with _ | f2
  cases h
  rw [spec_RowOk_l0] at h
  refine pwp_seq ?_
  refine srve 19 [(0, A a0), (3, I x1), (7, B ((decide (x1 < ((a0.length : Int))))))] [] ?_
  refine pc h (fun h => ?_) (fun h => ?_)
  refine pwp_skip ?_
  refine pwp_seq ?_
  refine pwp_block ?_
  refine srv 2 19 [(0, A a0), (3, I x1), (10, A a0), (11, I x1)] [] ?_
  obtain ⟨v5, hv6, h⟩ := bindS h
  refine opsP_idx τ_ok 12 hv6 (by kernel_rfl) ?_
  refine v 1 19 [(0, A a0), (3, I x1), (13, E v5)] [] ?_
  obtain ⟨v7, hv8, h⟩ := bindS h
  refine opsP_callF τ 14 (ok_spec_ValueOk hv8) (FzTo.frz rfl) rfl (by kernel_rfl) ?_
  refine ve 1 19 [(0, A a0), (3, I x1), (15, B ((!v7)))] [] ?_
  refine pc h (fun h => ?_) (fun h => ?_)
  refine srve 19 [(2, B false)] [] ?_
  cases h
  exact pwp_ret rz
  refine pwp_skip ?_
  refine rve 19 [(0, A a0), (3, I ((w64 (x1 + 1))))] [] ?_
  exact ⟨(f2, (w64 (x1 + 1))), h, Nat.lt_succ_self _, (Imp.to (st' := ⟨19, [(0, A a0), (3, I ((w64 (x1 + 1))))], []⟩) [0, 3] (by kernel_rfl)).trans (Imp.to [0, 3] (by kernel_rfl))⟩
  refine pwp_exit ?_
  refine srve 19 [(2, B ((decide (((a0.length : Int)) ≤ 4))))] [] ?_
  cases h
  exact pwp_ret rz
def impl_listOk (a0 : T_impl_Table) (a1 : List Int) : Option Bool := (impl_between ((a1.length : Int)) 1 4).bind fun v1 => bif v1 then (slices_ContainsFunc_int_int a1 (fun z0 => impl_listOk_1 z0 a0)).bind fun v3 => some ((!v3)) else some false
theorem ok_impl_listOk {a0 : T_impl_Table} {a1 : List Int} {y : Bool} (h : impl_listOk a0 a1 = some y) : OK Tryz.prog 147 [E a0, A a1] (B y) := by
  refine OK_of_pwp τ_ok Tryz.func147 rfl (by kernel_rfl) rfl fun Γ hX => ?_
  unfold impl_listOk at h
  refine srve 14 [(1, A a1), (2, .fptr (Enc.cells a0) 0)] [] ?_
  refine srv 2 14 [(1, A a1), (2, .fptr (Enc.cells a0) 0), (6, I ((a1.length : Int)))] [] ?_
  obtain ⟨v1, hv2, h⟩ := bindS h
  refine opsP_callF τ 7 (ok_impl_between hv2) (FzTo.frz rfl) rfl (by kernel_rfl) ?_
  refine v 1 14 [(1, A a1), (2, .fptr (Enc.cells a0) 0), (8, B v1)] [] ?_
  rcases Bool.eq_false_or_eq_true v1 with hc5 | hc5
  replace h := bT hc5 h
  rw [hc5]
  refine v 2 14 [(8, B true), (9, A a1), (10, .fn 183 [.fptr (Enc.cells a0) 0])] [] ?_
  obtain ⟨v3, hv4, h⟩ := bindS h
  refine opsP_callF τ 11 (ok_slices_ContainsFunc_int_int (rfl) (fun _ w hw => ok_impl_listOk_1 hw) hv4) (FzTo.frz rfl) rfl (by kernel_rfl) ?_
  refine ve 3 14 [(4, B ((!v3)))] [] ?_
  cases h
  exact pwp_ret rz
  replace h := bF hc5 h
  rw [hc5]
  refine ve 6 14 [(4, B false)] [] ?_
  cases h
  exact pwp_ret rz
def impl_RowOk (a0 : List T_impl_Value) : Option Bool := bif (decide (((a0.length : Int)) ≤ 4)) then (slices_ContainsFunc_impl_Value_impl_Value a0 impl_RowOk_1).bind fun v1 => some ((!v1)) else some false
theorem ok_impl_RowOk {a0 : List T_impl_Value} {y : Bool} (h : impl_RowOk a0 = some y) : OK Tryz.prog 148 [A a0] (B y) := by
  refine OK_of_pwp τ_ok Tryz.func148 rfl (by kernel_rfl) rfl fun Γ hX => ?_
  unfold impl_RowOk at h
  refine srve 11 [(0, A a0)] [] ?_
  refine srv 4 11 [(0, A a0), (6, B ((decide (((a0.length : Int)) ≤ 4))))] [] ?_
  rcases fk ((decide (((a0.length : Int)) ≤ 4))) with hc3 | hc3
  replace h := bT hc3 h
  rw [hc3]
  refine v 1 11 [(6, B true), (7, A a0)] [] ?_
  obtain ⟨v1, hv2, h⟩ := bindS h
  refine opsP_callF τ 8 (ok_slices_ContainsFunc_impl_Value_impl_Value (rfl) (fun _ w hw => ok_impl_RowOk_1 hw) hv2) (FzTo.frz rfl) rfl (by kernel_rfl) ?_
  refine ve 3 11 [(2, B ((!v1)))] [] ?_
  cases h
  exact pwp_ret rz
  replace h := bF hc3 h
  rw [hc3]
  refine ve 5 11 [(2, B false)] [] ?_
  cases h
  exact pwp_ret rz
def impl_Part_kind_1 (a0 : Int) (b0 : List Int) : Option Bool := (slices_ContainsFunc_int_int b0 (fun z0 => impl_Part_kind_1_1 z0 a0)).bind fun v1 => some ((!v1))
theorem ok_impl_Part_kind_1 {a0 : Int} {b0 : List Int} {y : Bool} (h : impl_Part_kind_1 a0 b0 = some y) : OK Tryz.prog 163 [I a0, .fptr (Enc.cells b0) 0] (B y) := by
  refine OK_of_pwp τ_ok Tryz.func163 rfl (by kernel_rfl) rfl fun Γ hX => ?_
  unfold impl_Part_kind_1 at h
  refine srve 8 [(1, .fptr (Enc.cells b0) 0), (2, .fptr (Enc.cells a0) 0)] [] ?_
  refine srv 2 8 [(4, A b0), (5, .fn 165 [.fptr (Enc.cells a0) 0])] [] ?_
  obtain ⟨v1, hv2, h⟩ := bindS h
  refine opsP_callF τ 6 (ok_slices_ContainsFunc_int_int (rfl) (fun _ w hw => ok_impl_Part_kind_1_1 hw) hv2) (FzTo.frz rfl) rfl (by kernel_rfl) ?_
  refine ve 2 8 [(3, B ((!v1)))] [] ?_
  cases h
  exact pwp_ret rz
def laws_szTableS_l0 (a0 : List T_laws_Table) : Nat → Int → Int → Option Int
  | 0, _, _ => none
  | f4 + 1, x2, x3 => bif (decide (x3 < ((a0.length : Int)))) then (getI a0 x3).bind fun v7 => (laws_szTable v7 x2).bind fun v9 => bif (decide (v9 < 0)) then some (-1) else (laws_szTableS_l0 a0 f4) v9 ((w64 (x3 + 1))) else some x2
def laws_szTableS (a0 : List T_laws_Table) (a1 : Int) : Option Int := bif (decide (((w64 (a1 - ((a0.length : Int))))) < 0)) then some (-1) else laws_szTableS_l0 a0 FUEL ((w64 (a1 - ((a0.length : Int))))) 0
theorem ok_laws_szTableS {a0 : List T_laws_Table} {a1 : Int} {y : Int} (h : laws_szTableS a0 a1 = some y) : OK Tryz.prog 9 [A a0, I a1] (I y) := by
  refine OK_of_pwp τ_ok Tryz.func9 rfl (by kernel_rfl) rfl fun Γ hX => ?_
  unfold laws_szTableS at h
  refine srve 27 [(0, A a0), (1, I a1)] [] ?_
  refine srve 27 [(0, A a0), (1, I ((w64 (a1 - ((a0.length : Int))))))] [] ?_
  refine pwp_seq ?_
  refine srve 27 [(0, A a0), (1, I ((w64 (a1 - ((a0.length : Int)))))), (11, B ((decide (((w64 (a1 - ((a0.length : Int))))) < 0))))] [] ?_
  refine pc h (fun h => ?_) (fun h => ?_)
  refine srve 27 [(4, I (-1))] [] ?_
  cases h
  exact pwp_ret rz
  refine pwp_skip ?_
  refine pwp_seq ?_
  refine srve 27 [(0, A a0), (1, I ((w64 (a1 - ((a0.length : Int)))))), (5, I 0)] [] ?_
  refine pwp_block ?_
  refine pwp_loop (ι := Nat × Int × Int) (fun (f4, x2, x3) => (⟨27, [(0, A a0), (1, I x2), (5, I x3)], []⟩ : St)) (fun (f4, x2, x3) => laws_szTableS_l0 a0 f4 x2 x3 = some y) (fun (f4, x2, x3) => f4) (FUEL, (w64 (a1 - ((a0.length : Int)))), 0) h ((Imp.to (st' := ⟨27, [(0, A a0), (1, I ((w64 (a1 - ((a0.length : Int)))))), (5, I 0)], []⟩) [0, 1, 5] (by kernel_rfl)).trans (Imp.to [0, 1, 5] (by kernel_rfl))) ?_
  rintro ⟨f4, x2, x3⟩ h
  dsimp only at h ⊢
  rcases f4 with _ | f4
  cases h
  rw [laws_szTableS_l0] at h
  refine pwp_seq ?_
  refine srve 27 [(0, A a0), (1, I x2), (5, I x3), (15, B ((decide (x3 < ((a0.length : Int))))))] [] ?_
  refine pc h (fun h => ?_) (fun h => ?_)
  refine pwp_skip ?_
  refine pwp_seq ?_
  refine pwp_block ?_
  refine srv 2 27 [(0, A a0), (1, I x2), (5, I x3), (18, A a0), (19, I x3)] [] ?_
  obtain ⟨v7, hv8, h⟩ := bindS h
  refine opsP_idx τ_ok 20 hv8 (by kernel_rfl) ?_
  refine v 2 27 [(0, A a0), (5, I x3), (21, E v7), (22, I x2)] [] ?_
  obtain ⟨v9, hv10, h⟩ := bindS h
  refine opsP_callF τ 23 (ok_laws_szTable hv10) (FzTo.frz rfl) rfl (by kernel_rfl) ?_
  refine ve 1 27 [(0, A a0), (1, I v9), (5, I x3)] [] ?_
  refine srve 27 [(0, A a0), (1, I v9), (5, I x3), (25, B ((decide (v9 < 0))))] [] ?_
  refine pc h (fun h => ?_) (fun h => ?_)
  refine srve 27 [(4, I (-1))] [] ?_
  cases h
  exact pwp_ret rz
  refine pwp_skip ?_
  refine rve 27 [(0, A a0), (1, I v9), (5, I ((w64 (x3 + 1))))] [] ?_
  exact ⟨(f4, v9, (w64 (x3 + 1))), h, Nat.lt_succ_self _, (Imp.to (st' := ⟨27, [(0, A a0), (1, I v9), (5, I ((w64 (x3 + 1))))], []⟩) [0, 1, 5] (by kernel_rfl)).trans (Imp.to [0, 1, 5] (by kernel_rfl))⟩
  refine pwp_exit ?_
  refine srve 27 [(4, I x2)] [] ?_
  cases h
  exact pwp_ret rz
def laws_szBondS_l0 (a0 : List T_laws_Bond) : Nat → Int → Int → Option Int
  | 0, _, _ => none
  | f4 + 1, x2, x3 => bif (decide (x3 < ((a0.length : Int)))) then (getI a0 x3).bind fun v7 => (laws_szBond v7 x2).bind fun v9 => bif (decide (v9 < 0)) then some (-1) else (laws_szBondS_l0 a0 f4) v9 ((w64 (x3 + 1))) else some x2
def laws_szBondS (a0 : List T_laws_Bond) (a1 : Int) : Option Int := bif (decide (((w64 (a1 - ((a0.length : Int))))) < 0)) then some (-1) else laws_szBondS_l0 a0 FUEL ((w64 (a1 - ((a0.length : Int))))) 0
theorem ok_laws_szBondS {a0 : List T_laws_Bond} {a1 : Int} {y : Int} (h : laws_szBondS a0 a1 = some y) : OK Tryz.prog 10 [A a0, I a1] (I y) := by
  refine OK_of_pwp τ_ok Tryz.func10 rfl (by kernel_rfl) rfl fun Γ hX => ?_
  unfold laws_szBondS at h
  refine srve 27 [(0, A a0), (1, I a1)] [] ?_
  refine srve 27 [(0, A a0), (1, I ((w64 (a1 - ((a0.length : Int))))))] [] ?_
  refine pwp_seq ?_
  refine srve 27 [(0, A a0), (1, I ((w64 (a1 - ((a0.length : Int)))))), (11, B ((decide (((w64 (a1 - ((a0.length : Int))))) < 0))))] [] ?_
  refine pc h (fun h => ?_) (fun h => ?_)
  refine srve 27 [(4, I (-1))] [] ?_
  cases h
  exact pwp_ret rz
  refine pwp_skip ?_
  refine pwp_seq ?_
  refine srve 27 [(0, A a0), (1, I ((w64 (a1 - ((a0.length : Int)))))), (5, I 0)] [] ?_
  refine pwp_block ?_
  refine pwp_loop (ι := Nat × Int × Int) (fun (f4, x2, x3) => (⟨27, [(0, A a0), (1, I x2), (5, I x3)], []⟩ : St)) (fun (f4, x2, x3) => laws_szBondS_l0 a0 f4 x2 x3 = some y) (fun (f4, x2, x3) => f4) (FUEL, (w64 (a1 - ((a0.length : Int)))), 0) h ((Imp.to (st' := ⟨27, [(0, A a0), (1, I ((w64 (a1 - ((a0.length : Int)))))), (5, I 0)], []⟩) [0, 1, 5] (by kernel_rfl)).trans (Imp.to [0, 1, 5] (by kernel_rfl))) ?_
  rintro ⟨f4, x2, x3⟩ h
  dsimp only at h ⊢
  rcases f4 with _ | f4
  cases h
  rw [laws_szBondS_l0] at h
  refine pwp_seq ?_
  refine srve 27 [(0, A a0), (1, I x2), (5, I x3), (15, B ((decide (x3 < ((a0.length : Int))))))] [] ?_
  refine pc h (fun h => ?_) (fun h => ?_)
  refine pwp_skip ?_
  refine pwp_seq ?_
  refine pwp_block ?_
  refine srv 2 27 [(0, A a0), (1, I x2), (5, I x3), (18, A a0), (19, I x3)] [] ?_
  obtain ⟨v7, hv8, h⟩ := bindS h
  refine opsP_idx τ_ok 20 hv8 (by kernel_rfl) ?_
  refine v 2 27 [(0, A a0), (5, I x3), (21, E v7), (22, I x2)] [] ?_
  obtain ⟨v9, hv10, h⟩ := bindS h
  refine opsP_callF τ 23 (ok_laws_szBond hv10) (FzTo.frz rfl) rfl (by kernel_rfl) ?_
  refine ve 1 27 [(0, A a0), (1, I v9), (5, I x3)] [] ?_
  refine srve 27 [(0, A a0), (1, I v9), (5, I x3), (25, B ((decide (v9 < 0))))] [] ?_
  refine pc h (fun h => ?_) (fun h => ?_)
  refine srve 27 [(4, I (-1))] [] ?_
  cases h
  exact pwp_ret rz
  refine pwp_skip ?_
  refine rve 27 [(0, A a0), (1, I v9), (5, I ((w64 (x3 + 1))))] [] ?_
  exact ⟨(f4, v9, (w64 (x3 + 1))), h, Nat.lt_succ_self _, (Imp.to (st' := ⟨27, [(0, A a0), (1, I v9), (5, I ((w64 (x3 + 1))))], []⟩) [0, 1, 5] (by kernel_rfl)).trans (Imp.to [0, 1, 5] (by kernel_rfl))⟩
  refine pwp_exit ?_
  refine srve 27 [(4, I x2)] [] ?_
  cases h
  exact pwp_ret rz
def spec_ExprKind_j3 (x6 : List Int) (x15 : Bool) : Option Int := bif x15 then some (-1) else (getI x6 0).bind fun v17 => some v17
def spec_ExprKind_j2 (a0 : List T_impl_Column) (a1 : List T_impl_Part) (x4 : Bool) (x5 : Int) (x6 : List Int) (K8 : Bool → Int → (List Int) → Option Int) (x9 : Bool) : Option Int := bif x9 then (getI a1 x5).bind fun v11 => (spec_l4Step a0 x6 v11).bind fun v13 => K8 v13.2 ((w64 (x5 + 1))) v13.1 else bif (!x4) then spec_ExprKind_j3 x6 true else spec_ExprKind_j3 x6 ((!(((x6.length : Int)) == 1)))
def spec_ExprKind_l1 (a0 : List T_impl_Column) (a1 : List T_impl_Part) : Nat → Bool → Int → (List Int) → Option Int
  | 0, _, _, _ => none
  | f7 + 1, x4, x5, x6 => bif (decide (x5 < ((a1.length : Int)))) then spec_ExprKind_j2 a0 a1 x4 x5 x6 (spec_ExprKind_l1 a0 a1 f7) x4 else spec_ExprKind_j2 a0 a1 x4 x5 x6 (spec_ExprKind_l1 a0 a1 f7) false
def spec_ExprKind_j0 (a0 : List T_impl_Column) (a1 : List T_impl_Part) (x1 : Bool) : Option Int := bif x1 then some (-1) else spec_ExprKind_l1 a0 a1 FUEL true 0 (([] : List Int))
def spec_ExprKind (a0 : List T_impl_Column) (a1 : List T_impl_Part) : Option Int := (spec_ColumnsOk a0).bind fun v21 => bif (!v21) then spec_ExprKind_j0 a0 a1 true else spec_ExprKind_j0 a0 a1 ((decide (((a1.length : Int)) > 12)))
theorem ok_spec_ExprKind {a0 : List T_impl_Column} {a1 : List T_impl_Part} {y : Int} (h : spec_ExprKind a0 a1 = some y) : OK Tryz.prog 72 [A a0, A a1] (I y) := by
  refine OK_of_pwp τ_ok Tryz.func72 rfl (by kernel_rfl) rfl fun Γ hX => ?_
  unfold spec_ExprKind at h
  refine srve 46 [(0, A a0), (1, A a1)] [] ?_
  refine pwp_seq ?_
  refine pwp_seq ?_
  refine pwp_join (σ := Bool) (fun x1 => (⟨46, [(0, A a0), (1, A a1), (15, B x1)], []⟩ : St)) (fun x1 => spec_ExprKind_j0 a0 a1 x1 = some y) ?_ ?_
  refine rv 1 46 [(0, A a0), (1, A a1), (8, A a0)] [] ?_
  obtain ⟨v21, hv22, h⟩ := bindS h
  refine opsP_callF τ 9 (ok_spec_ColumnsOk hv22) (FzTo.frz rfl) rfl (by kernel_rfl) ?_
  refine v 2 46 [(0, A a0), (1, A a1), (11, B ((!v21)))] [] ?_
  rcases fk ((!v21)) with hc23 | hc23
  replace h := bT hc23 h
  rw [hc23]
  refine ve 4 46 [(0, A a0), (1, A a1), (15, B true)] [] ?_
  exact ⟨true, h, (Imp.to (st' := ⟨46, [(0, A a0), (1, A a1), (15, B true)], []⟩) [0, 1, 15] (by kernel_rfl)).trans (Imp.to [0, 1, 15] (by kernel_rfl))⟩
  replace h := bF hc23 h
  rw [hc23]
  refine ve 4 46 [(0, A a0), (1, A a1), (15, B ((decide (((a1.length : Int)) > 12))))] [] ?_
  exact ⟨(decide (((a1.length : Int)) > 12)), h, (Imp.to (st' := ⟨46, [(0, A a0), (1, A a1), (15, B ((decide (((a1.length : Int)) > 12))))], []⟩) [0, 1, 15] (by kernel_rfl)).trans (Imp.to [0, 1, 15] (by kernel_rfl))⟩
  rintro x1 h
  unfold spec_ExprKind_j0 at h
  refine pc h (fun h => ?_) (fun h => ?_)
  refine srve 46 [(4, I (-1))] [] ?_
  cases h
  exact pwp_ret rz
  refine pwp_skip ?_
  refine srve 46 [(0, A a0), (1, A a1), (5, .arr 1 0 (eL ([] : List Int)) true)] [] ?_
  refine srve 46 [(0, A a0), (1, A a1), (5, .arr 1 0 (eL ([] : List Int)) true), (6, B true)] [] ?_
  refine pwp_seq ?_
  refine srve 46 [(0, A a0), (1, A a1), (5, .arr 1 0 (eL ([] : List Int)) true), (6, B true), (7, I 0)] [] ?_
  refine pwp_block ?_
  refine pwp_loop (ι := Nat × Bool × Int × (List Int)) (fun (f7, x4, x5, x6) => (⟨46, [(0, A a0), (1, A a1), (5, .ref 0 0 0 1 x6.length false), (6, B x4), (7, I x5)], [some ⟨0, eL x6⟩]⟩ : St)) (fun (f7, x4, x5, x6) => spec_ExprKind_l1 a0 a1 f7 x4 x5 x6 = some y) (fun (f7, x4, x5, x6) => f7) (FUEL, true, 0, ([] : List Int)) h ((Imp.to (st' := ⟨46, [(0, A a0), (1, A a1), (5, .arr 1 0 (eL ([] : List Int)) true), (6, B true), (7, I 0)], []⟩) [0, 1, 5, 6, 7] (by kernel_rfl)).trans ((Imp.thawS (st' := ⟨46, [(0, A a0), (1, A a1), (5, .ref 0 0 0 1 (([] : List Int)).length false), (6, B true), (7, I 0)], [some ⟨0, eL (([] : List Int))⟩]⟩) 5 [0, 1, 5, 6, 7] (by kernel_rfl)).trans (Imp.to [0, 1, 5, 6, 7] (by kernel_rfl)))) ?_
  rintro ⟨f7, x4, x5, x6⟩ h
  dsimp only at h ⊢
  rcases f7 with _ | f7
  cases h
  rw [spec_ExprKind_l1] at h
  refine pwp_seq ?_
  refine pwp_seq ?_
  refine pwp_join (σ := Bool) (fun x9 => (⟨46, [(0, A a0), (1, A a1), (5, .ref 0 0 0 1 x6.length false), (6, B x4), (7, I x5), (23, B x9)], [some ⟨0, eL x6⟩]⟩ : St)) (fun x9 => spec_ExprKind_j2 a0 a1 x4 x5 x6 (spec_ExprKind_l1 a0 a1 f7) x9 = some y) ?_ ?_
  refine rv 5 46 [(0, A a0), (1, A a1), (5, .ref 0 0 0 1 x6.length false), (6, B x4), (7, I x5), (21, B ((decide (x5 < ((a1.length : Int))))))] [some ⟨0, eL x6⟩] ?_
  rcases fk ((decide (x5 < ((a1.length : Int))))) with hc20 | hc20
  replace h := bT hc20 h
  rw [hc20]
  refine ve 2 46 [(0, A a0), (1, A a1), (5, .ref 0 0 0 1 x6.length false), (6, B x4), (7, I x5), (22, B x4), (23, B x4)] [some ⟨0, eL x6⟩] ?_
  exact ⟨x4, h, (Imp.to (st' := ⟨46, [(0, A a0), (1, A a1), (5, .ref 0 0 0 1 x6.length false), (6, B x4), (7, I x5), (23, B x4)], [some ⟨0, eL x6⟩]⟩) [0, 1, 5, 6, 7, 23] (by kernel_rfl)).trans (Imp.to [0, 1, 5, 6, 7, 23] (by kernel_rfl))⟩
  replace h := bF hc20 h
  rw [hc20]
  refine ve 2 46 [(0, A a0), (1, A a1), (5, .ref 0 0 0 1 x6.length false), (6, B x4), (7, I x5), (22, .lit undef), (23, B false)] [some ⟨0, eL x6⟩] ?_
  exact ⟨false, h, (Imp.to (st' := ⟨46, [(0, A a0), (1, A a1), (5, .ref 0 0 0 1 x6.length false), (6, B x4), (7, I x5), (23, B false)], [some ⟨0, eL x6⟩]⟩) [0, 1, 5, 6, 7, 23] (by kernel_rfl)).trans (Imp.to [0, 1, 5, 6, 7, 23] (by kernel_rfl))⟩
  rintro x9 h
  unfold spec_ExprKind_j2 at h
  refine pc h (fun h => ?_) (fun h => ?_)
  refine pwp_skip ?_
  refine pwp_seq ?_
  refine pwp_block ?_
  refine rv 4 46 [(0, A a0), (1, A a1), (7, I x5), (27, A a0), (28, .ref 0 0 0 1 x6.length false), (29, A a1), (30, I x5)] [some ⟨0, eL x6⟩] ?_
  obtain ⟨v11, hv12, h⟩ := bindS h
  refine opsP_idx τ_ok 31 hv12 (by kernel_rfl) ?_
  refine v 1 46 [(0, A a0), (1, A a1), (7, I x5), (27, A a0), (28, .ref 0 0 0 1 x6.length false), (32, E v11)] [some ⟨0, eL x6⟩] ?_
  obtain ⟨v13, hv14, h⟩ := bindS h
  refine opsP_callM (xs := [A a0, .ref 0 0 0 1 x6.length false, E v11]) (x := .tup [.ref 1 0 0 1 v13.1.length false, B v13.2]) (bs := [⟨0, eL v13.1⟩]) τ 33 [0] (fun b hb => absurd hb (hX b)) (ok_spec_l4Step hv14) (by kernel_rfl) (OutL.cons (OutP.frz rfl) (OutL.cons (OutP.list (v := 0) (by kernel_rfl)) (OutL.cons (OutP.frz rfl) (OutL.nil _)))) (by decide) (by kernel_rfl) ?_
  refine ve 5 46 [(0, A a0), (1, A a1), (5, .ref 1 0 0 1 v13.1.length false), (6, B v13.2), (7, I x5)] [none, some ⟨0, eL v13.1⟩] ?_
  refine rve 46 [(0, A a0), (1, A a1), (5, .ref 1 0 0 1 v13.1.length false), (6, B v13.2), (7, I ((w64 (x5 + 1))))] [none, some ⟨0, eL v13.1⟩] ?_
  exact ⟨(f7, v13.2, (w64 (x5 + 1)), v13.1), h, Nat.lt_succ_self _, (Imp.to (st' := ⟨46, [(0, A a0), (1, A a1), (5, .ref 1 0 0 1 v13.1.length false), (6, B v13.2), (7, I ((w64 (x5 + 1))))], [none, some ⟨0, eL v13.1⟩]⟩) [0, 1, 5, 6, 7] (by kernel_rfl)).trans ((Imp.mvS (st' := ⟨46, [(0, A a0), (1, A a1), (5, .ref 0 0 0 1 v13.1.length false), (6, B v13.2), (7, I ((w64 (x5 + 1))))], [some ⟨0, eL v13.1⟩, none]⟩) 1 0 [0, 1, 5, 6, 7] (fun b hb => absurd hb (hX b)) (v := 0) (cs := eL v13.1) (by kernel_rfl) (by kernel_rfl) (by exact (And.intro (eL_frz _) trivial)) (by kernel_rfl) (by kernel_rfl)).trans ((Imp.truncS (st' := ⟨46, [(0, A a0), (1, A a1), (5, .ref 0 0 0 1 v13.1.length false), (6, B v13.2), (7, I ((w64 (x5 + 1))))], [some ⟨0, eL v13.1⟩]⟩) 1 (fun b hb => absurd hb (hX b)) (by kernel_rfl) (allBelow_mem (by exact (And.intro rfl (And.intro rfl (And.intro rfl (And.intro rfl (And.intro rfl trivial))))))) (by exact (And.intro (frz_below (eL_frz _)) trivial)) (by kernel_rfl)).trans (Imp.to [0, 1, 5, 6, 7] (by kernel_rfl))))⟩
  refine pwp_exit ?_
  refine pwp_seq ?_
  refine pwp_seq ?_
  refine pwp_join (σ := Bool) (fun x15 => (⟨46, [(5, .ref 0 0 0 1 x6.length false), (42, B x15)], [some ⟨0, eL x6⟩]⟩ : St)) (fun x15 => spec_ExprKind_j3 x6 x15 = some y) ?_ ?_
  refine rv 3 46 [(5, .ref 0 0 0 1 x6.length false), (38, B ((!x4)))] [some ⟨0, eL x6⟩] ?_
  rcases fk ((!x4)) with hc19 | hc19
  replace h := bT hc19 h
  rw [hc19]
  refine ve 4 46 [(5, .ref 0 0 0 1 x6.length false), (42, B true)] [some ⟨0, eL x6⟩] ?_
  exact ⟨true, h, (Imp.to (st' := ⟨46, [(5, .ref 0 0 0 1 x6.length false), (42, B true)], [some ⟨0, eL x6⟩]⟩) [5, 42] (by kernel_rfl)).trans (Imp.to [5, 42] (by kernel_rfl))⟩
  replace h := bF hc19 h
  rw [hc19]
  refine ve 4 46 [(5, .ref 0 0 0 1 x6.length false), (42, B ((!(((x6.length : Int)) == 1))))] [some ⟨0, eL x6⟩] ?_
  exact ⟨(!(((x6.length : Int)) == 1)), h, (Imp.to (st' := ⟨46, [(5, .ref 0 0 0 1 x6.length false), (42, B ((!(((x6.length : Int)) == 1))))], [some ⟨0, eL x6⟩]⟩) [5, 42] (by kernel_rfl)).trans (Imp.to [5, 42] (by kernel_rfl))⟩
  rintro x15 h
  unfold spec_ExprKind_j3 at h
  refine pc h (fun h => ?_) (fun h => ?_)
  refine srve 46 [(4, I (-1))] [some ⟨0, eL x6⟩] ?_
  cases h
  exact pwp_ret rz
  refine pwp_skip ?_
  refine srv 1 46 [(43, .ref 0 0 0 1 x6.length false)] [some ⟨0, eL x6⟩] ?_
  obtain ⟨v17, hv18, h⟩ := bindS h
  refine opsP_idr τ_ok 44 0 0 x6.length hv18 rfl (by kernel_rfl) ?_
  refine opsP_lde (r := I v17) τ_ok 45 3 0 hv18 (by kernel_rfl) (by kernel_rfl) ?_
  refine ve 1 46 [(4, I v17)] [some ⟨0, eL x6⟩] ?_
  cases h
  exact pwp_ret rz
def spec_RowFits_j2 (x3 : Int) (K5 : Int → Option Bool) (x7 : Bool) : Option Bool := bif x7 then some false else K5 ((w64 (x3 + 1)))
def spec_RowFits_l1 (a0 : List T_impl_Column) (a1 : List T_impl_Value) : Nat → Int → Option Bool
  | 0, _ => none
  | f4 + 1, x3 => bif (decide (x3 < ((a1.length : Int)))) then (getI a1 x3).bind fun v9 => (getI a0 x3).bind fun v11 => bif (!(v9.fKind == v11.fKind)) then (getI a1 x3).bind fun v13 => bif (!(v13.fKind == 0)) then spec_RowFits_j2 x3 (spec_RowFits_l1 a0 a1 f4) true else (getI a0 x3).bind fun v15 => spec_RowFits_j2 x3 (spec_RowFits_l1 a0 a1 f4) ((!v15.fEmpty)) else spec_RowFits_j2 x3 (spec_RowFits_l1 a0 a1 f4) false else some true
def spec_RowFits_j0 (a0 : List T_impl_Column) (a1 : List T_impl_Value) (x1 : Bool) : Option Bool := bif x1 then some false else spec_RowFits_l1 a0 a1 FUEL 0
def spec_RowFits (a0 : List T_impl_Column) (a1 : List T_impl_Value) : Option Bool := (spec_ColumnsOk a0).bind fun v19 => bif (!v19) then spec_RowFits_j0 a0 a1 true else (spec_RowOk a1).bind fun v21 => bif (!v21) then spec_RowFits_j0 a0 a1 true else spec_RowFits_j0 a0 a1 ((!(((a1.length : Int)) == ((a0.length : Int)))))
theorem ok_spec_RowFits {a0 : List T_impl_Column} {a1 : List T_impl_Value} {y : Bool} (h : spec_RowFits a0 a1 = some y) : OK Tryz.prog 106 [A a0, A a1] (B y) := by
  refine OK_of_pwp τ_ok Tryz.func106 rfl (by kernel_rfl) rfl fun Γ hX => ?_
  unfold spec_RowFits at h
  refine srve 54 [(0, A a0), (1, A a1)] [] ?_
  refine pwp_seq ?_
  refine pwp_seq ?_
  refine pwp_join (σ := Bool) (fun x1 => (⟨54, [(0, A a0), (1, A a1), (20, B x1)], []⟩ : St)) (fun x1 => spec_RowFits_j0 a0 a1 x1 = some y) ?_ ?_
  refine rv 1 54 [(0, A a0), (1, A a1), (6, A a0)] [] ?_
  obtain ⟨v19, hv20, h⟩ := bindS h
  refine opsP_callF τ 7 (ok_spec_ColumnsOk hv20) (FzTo.frz rfl) rfl (by kernel_rfl) ?_
  refine v 2 54 [(0, A a0), (1, A a1), (9, B ((!v19)))] [] ?_
  rcases fk ((!v19)) with hc24 | hc24
  replace h := bT hc24 h
  rw [hc24]
  refine ve 11 54 [(0, A a0), (1, A a1), (20, B true)] [] ?_
  exact ⟨true, h, (Imp.to (st' := ⟨54, [(0, A a0), (1, A a1), (20, B true)], []⟩) [0, 1, 20] (by kernel_rfl)).trans (Imp.to [0, 1, 20] (by kernel_rfl))⟩
  replace h := bF hc24 h
  rw [hc24]
  refine v 1 54 [(0, A a0), (1, A a1), (9, B false), (10, A a1)] [] ?_
  obtain ⟨v21, hv22, h⟩ := bindS h
  refine opsP_callF τ 11 (ok_spec_RowOk hv22) (FzTo.frz rfl) rfl (by kernel_rfl) ?_
  refine v 3 54 [(0, A a0), (1, A a1), (14, B ((!v21)))] [] ?_
  rcases fk ((!v21)) with hc23 | hc23
  replace h := bT hc23 h
  rw [hc23]
  refine ve 6 54 [(0, A a0), (1, A a1), (20, B true)] [] ?_
  exact ⟨true, h, (Imp.to (st' := ⟨54, [(0, A a0), (1, A a1), (20, B true)], []⟩) [0, 1, 20] (by kernel_rfl)).trans (Imp.to [0, 1, 20] (by kernel_rfl))⟩
  replace h := bF hc23 h
  rw [hc23]
  refine ve 6 54 [(0, A a0), (1, A a1), (20, B ((!(((a1.length : Int)) == ((a0.length : Int))))))] [] ?_
  exact ⟨(!(((a1.length : Int)) == ((a0.length : Int)))), h, (Imp.to (st' := ⟨54, [(0, A a0), (1, A a1), (20, B ((!(((a1.length : Int)) == ((a0.length : Int))))))], []⟩) [0, 1, 20] (by kernel_rfl)).trans (Imp.to [0, 1, 20] (by kernel_rfl))⟩
  rintro x1 h
  unfold spec_RowFits_j0 at h
  refine pc h (fun h => ?_) (fun h => ?_)
  refine srve 54 [(4, B false)] [] ?_
  cases h
  exact pwp_ret rz
  refine pwp_skip ?_
  refine pwp_seq ?_
  refine srve 54 [(0, A a0), (1, A a1), (5, I 0)] [] ?_
  refine pwp_block ?_
  refine pwp_loop (ι := Nat × Int) (fun (f4, x3) => (⟨54, [(0, A a0), (1, A a1), (5, I x3)], []⟩ : St)) (fun (f4, x3) => spec_RowFits_l1 a0 a1 f4 x3 = some y) (fun (f4, x3) => f4) (FUEL, 0) h ((Imp.to (st' := ⟨54, [(0, A a0), (1, A a1), (5, I 0)], []⟩) [0, 1, 5] (by kernel_rfl)).trans (Imp.to [0, 1, 5] (by kernel_rfl))) ?_
  rintro ⟨f4, x3⟩ h
  dsimp only at h ⊢
  rcases f4 with _ | f4
  cases h
  rw [spec_RowFits_l1] at h
  refine pwp_seq ?_
  refine srve 54 [(0, A a0), (1, A a1), (5, I x3), (24, B ((decide (x3 < ((a1.length : Int))))))] [] ?_
  refine pc h (fun h => ?_) (fun h => ?_)
  refine pwp_skip ?_
  refine pwp_seq ?_
  refine pwp_block ?_
  refine pwp_seq ?_
  refine pwp_join (σ := Bool) (fun x7 => (⟨54, [(0, A a0), (1, A a1), (5, I x3), (53, B x7)], []⟩ : St)) (fun x7 => spec_RowFits_j2 x3 (spec_RowFits_l1 a0 a1 f4) x7 = some y) ?_ ?_
  refine pwp_imp (Imp.to (st' := ⟨54, [(0, A a0), (1, A a1), (5, I x3)], []⟩) [0, 1, 5] (by kernel_rfl)) ?_
  refine pwp_any ([[], [], [], [], [], [], [], [], [], [], [], [], [], [], [], [], [], [], [], [], [], [], [], [], [], [], []]) ([[], [], [], [], [], [], [], [], [], [], [], [], [], [], [], [], [], [], [], [], [], [], [], [], [], [], []]) rfl (by kernel_rfl) ?_
  refine qA_ev (st' := ⟨54, [(28, I x3), (27, A a1), (0, A a0), (1, A a1), (5, I x3)], []⟩) τ_ok [] [] 2 (by exact trivial) (by kernel_rfl) ?_
  obtain ⟨v9, hv10, h⟩ := bindS h
  refine qA_E (dd := some 29) (x := .fptr (Enc.cells v9) 0) ([]) (⟨54, [(29, .fptr (Enc.cells v9) 0), (28, I x3), (27, A a1), (0, A a0), (1, A a1), (5, I x3)], []⟩) (fun Γ' hΓ => CoreE.of_y (idxV_sound τ_ok (by kernel_rfl) hv10)) (by kernel_rfl) (by kernel_rfl) (by exact trivial) (.inr (.inr rfl)) (by kernel_rfl) ?_
  refine qA_ev (st' := ⟨54, [(33, I x3), (32, A a0), (31, I v9.fKind), (30, .fptr (Enc.cells v9) 0), (29, .fptr (Enc.cells v9) 0), (28, I x3), (27, A a1), (0, A a0), (1, A a1), (5, I x3)], []⟩) τ_ok [] [] 4 (by exact trivial) (by kernel_rfl) ?_
  obtain ⟨v11, hv12, h⟩ := bindS h
  refine qA_E (dd := some 34) (x := .fptr (Enc.cells v11) 0) ([]) (⟨54, [(34, .fptr (Enc.cells v11) 0), (33, I x3), (32, A a0), (31, I v9.fKind), (30, .fptr (Enc.cells v9) 0), (29, .fptr (Enc.cells v9) 0), (28, I x3), (27, A a1), (0, A a0), (1, A a1), (5, I x3)], []⟩) (fun Γ' hΓ => CoreE.of_y (idxV_sound τ_ok (by kernel_rfl) hv12)) (by kernel_rfl) (by kernel_rfl) (by exact trivial) (.inr (.inr rfl)) (by kernel_rfl) ?_
  refine qA_ev (st' := ⟨54, [(38, B ((!(v9.fKind == v11.fKind)))), (37, B ((!(v9.fKind == v11.fKind)))), (36, I v11.fKind), (35, .fptr (Enc.cells v11) 0), (34, .fptr (Enc.cells v11) 0), (33, I x3), (32, A a0), (31, I v9.fKind), (30, .fptr (Enc.cells v9) 0), (29, .fptr (Enc.cells v9) 0), (28, I x3), (27, A a1), (0, A a0), (1, A a1), (5, I x3)], []⟩) τ_ok [] [] 4 (by exact trivial) (by kernel_rfl) ?_
  rcases fk ((!(v9.fKind == v11.fKind))) with hc18 | hc18
  replace h := bT hc18 h
  rw [hc18]
  refine qA_ev (st' := ⟨54, [(40, I x3), (39, A a1), (38, B true), (37, B true), (36, I v11.fKind), (35, .fptr (Enc.cells v11) 0), (34, .fptr (Enc.cells v11) 0), (33, I x3), (32, A a0), (31, I v9.fKind), (30, .fptr (Enc.cells v9) 0), (29, .fptr (Enc.cells v9) 0), (28, I x3), (27, A a1), (0, A a0), (1, A a1), (5, I x3)], []⟩) τ_ok [] [] 2 (by exact trivial) (by kernel_rfl) ?_
  obtain ⟨v13, hv14, h⟩ := bindS h
  refine qA_E (dd := some 41) (x := .fptr (Enc.cells v13) 0) ([]) (⟨54, [(41, .fptr (Enc.cells v13) 0), (40, I x3), (39, A a1), (38, B true), (37, B true), (36, I v11.fKind), (35, .fptr (Enc.cells v11) 0), (34, .fptr (Enc.cells v11) 0), (33, I x3), (32, A a0), (31, I v9.fKind), (30, .fptr (Enc.cells v9) 0), (29, .fptr (Enc.cells v9) 0), (28, I x3), (27, A a1), (0, A a0), (1, A a1), (5, I x3)], []⟩) (fun Γ' hΓ => CoreE.of_y (idxV_sound τ_ok (by kernel_rfl) hv14)) (by kernel_rfl) (by kernel_rfl) (by exact trivial) (.inr (.inr rfl)) (by kernel_rfl) ?_
  refine qA_ev (st' := ⟨54, [(45, B ((!(v13.fKind == 0)))), (44, B ((!(v13.fKind == 0)))), (43, I v13.fKind), (42, .fptr (Enc.cells v13) 0), (41, .fptr (Enc.cells v13) 0), (40, I x3), (39, A a1), (38, B true), (37, B true), (36, I v11.fKind), (35, .fptr (Enc.cells v11) 0), (34, .fptr (Enc.cells v11) 0), (33, I x3), (32, A a0), (31, I v9.fKind), (30, .fptr (Enc.cells v9) 0), (29, .fptr (Enc.cells v9) 0), (28, I x3), (27, A a1), (0, A a0), (1, A a1), (5, I x3)], []⟩) τ_ok [] [] 4 (by exact trivial) (by kernel_rfl) ?_
  rcases fk ((!(v13.fKind == 0))) with hc17 | hc17
  replace h := bT hc17 h
  rw [hc17]
  refine qA_ev (st' := ⟨54, [(53, B true), (52, B true), (51, .lit undef), (50, .lit undef), (49, .lit undef), (48, .lit undef), (47, .lit undef), (46, .lit undef), (45, B true), (44, B true), (43, I v13.fKind), (42, .fptr (Enc.cells v13) 0), (41, .fptr (Enc.cells v13) 0), (40, I x3), (39, A a1), (38, B true), (37, B true), (36, I v11.fKind), (35, .fptr (Enc.cells v11) 0), (34, .fptr (Enc.cells v11) 0), (33, I x3), (32, A a0), (31, I v9.fKind), (30, .fptr (Enc.cells v9) 0), (29, .fptr (Enc.cells v9) 0), (28, I x3), (27, A a1), (0, A a0), (1, A a1), (5, I x3)], []⟩) τ_ok [] [] 8 (by exact trivial) (by kernel_rfl) ?_
  refine qA_end ?_
  refine opsP_imp (Imp.to (st' := ⟨54, [(0, A a0), (1, A a1), (5, I x3), (39, A a1), (40, I x3), (41, .fptr (Enc.cells v13) 0), (42, .fptr (Enc.cells v13) 0), (43, I v13.fKind), (44, B true), (45, B true), (46, .lit undef), (47, .lit undef), (48, .lit undef), (49, .lit undef), (50, .lit undef), (51, .lit undef), (52, B true), (53, B true)], []⟩) [0, 1, 5, 39, 40, 41, 42, 43, 44, 45, 46, 47, 48, 49, 50, 51, 52, 53] (by kernel_rfl)) ?_
  refine opsP_end rfl ?_
  exact ⟨true, h, (Imp.to (st' := ⟨54, [(0, A a0), (1, A a1), (5, I x3), (53, B true)], []⟩) [0, 1, 5, 53] (by kernel_rfl)).trans (Imp.to [0, 1, 5, 53] (by kernel_rfl))⟩
  replace h := bF hc17 h
  rw [hc17]
  refine qA_ev (st' := ⟨54, [(47, I x3), (46, A a0), (45, B false), (44, B false), (43, I v13.fKind), (42, .fptr (Enc.cells v13) 0), (41, .fptr (Enc.cells v13) 0), (40, I x3), (39, A a1), (38, B true), (37, B true), (36, I v11.fKind), (35, .fptr (Enc.cells v11) 0), (34, .fptr (Enc.cells v11) 0), (33, I x3), (32, A a0), (31, I v9.fKind), (30, .fptr (Enc.cells v9) 0), (29, .fptr (Enc.cells v9) 0), (28, I x3), (27, A a1), (0, A a0), (1, A a1), (5, I x3)], []⟩) τ_ok [] [] 2 (by exact trivial) (by kernel_rfl) ?_
  obtain ⟨v15, hv16, h⟩ := bindS h
  refine qA_E (dd := some 48) (x := .fptr (Enc.cells v15) 0) ([]) (⟨54, [(48, .fptr (Enc.cells v15) 0), (47, I x3), (46, A a0), (45, B false), (44, B false), (43, I v13.fKind), (42, .fptr (Enc.cells v13) 0), (41, .fptr (Enc.cells v13) 0), (40, I x3), (39, A a1), (38, B true), (37, B true), (36, I v11.fKind), (35, .fptr (Enc.cells v11) 0), (34, .fptr (Enc.cells v11) 0), (33, I x3), (32, A a0), (31, I v9.fKind), (30, .fptr (Enc.cells v9) 0), (29, .fptr (Enc.cells v9) 0), (28, I x3), (27, A a1), (0, A a0), (1, A a1), (5, I x3)], []⟩) (fun Γ' hΓ => CoreE.of_y (idxV_sound τ_ok (by kernel_rfl) hv16)) (by kernel_rfl) (by kernel_rfl) (by exact trivial) (.inr (.inr rfl)) (by kernel_rfl) ?_
  refine qA_ev (st' := ⟨54, [(53, B ((!v15.fEmpty))), (52, B ((!v15.fEmpty))), (51, B ((!v15.fEmpty))), (50, B v15.fEmpty), (49, .fptr (Enc.cells v15) 1), (48, .fptr (Enc.cells v15) 0), (47, I x3), (46, A a0), (45, B false), (44, B false), (43, I v13.fKind), (42, .fptr (Enc.cells v13) 0), (41, .fptr (Enc.cells v13) 0), (40, I x3), (39, A a1), (38, B true), (37, B true), (36, I v11.fKind), (35, .fptr (Enc.cells v11) 0), (34, .fptr (Enc.cells v11) 0), (33, I x3), (32, A a0), (31, I v9.fKind), (30, .fptr (Enc.cells v9) 0), (29, .fptr (Enc.cells v9) 0), (28, I x3), (27, A a1), (0, A a0), (1, A a1), (5, I x3)], []⟩) τ_ok [] [] 5 (by exact trivial) (by kernel_rfl) ?_
  refine qA_end ?_
  refine opsP_imp (Imp.to (st' := ⟨54, [(0, A a0), (1, A a1), (5, I x3), (39, A a1), (40, I x3), (41, .fptr (Enc.cells v13) 0), (42, .fptr (Enc.cells v13) 0), (43, I v13.fKind), (44, B false), (45, B false), (46, A a0), (47, I x3), (48, .fptr (Enc.cells v15) 0), (49, .fptr (Enc.cells v15) 1), (50, B v15.fEmpty), (51, B ((!v15.fEmpty))), (52, B ((!v15.fEmpty))), (53, B ((!v15.fEmpty)))], []⟩) [0, 1, 5, 39, 40, 41, 42, 43, 44, 45, 46, 47, 48, 49, 50, 51, 52, 53] (by kernel_rfl)) ?_
  refine opsP_end rfl ?_
  exact ⟨(!v15.fEmpty), h, (Imp.to (st' := ⟨54, [(0, A a0), (1, A a1), (5, I x3), (53, B ((!v15.fEmpty)))], []⟩) [0, 1, 5, 53] (by kernel_rfl)).trans (Imp.to [0, 1, 5, 53] (by kernel_rfl))⟩
  replace h := bF hc18 h
  rw [hc18]
  refine qA_ev (st' := ⟨54, [(53, B false), (52, .lit undef), (51, .lit undef), (50, .lit undef), (49, .lit undef), (48, .lit undef), (47, .lit undef), (46, .lit undef), (45, .lit undef), (44, .lit undef), (43, .lit undef), (42, .lit undef), (41, .lit undef), (40, .lit undef), (39, .lit undef), (38, B false), (37, B false), (36, I v11.fKind), (35, .fptr (Enc.cells v11) 0), (34, .fptr (Enc.cells v11) 0), (33, I x3), (32, A a0), (31, I v9.fKind), (30, .fptr (Enc.cells v9) 0), (29, .fptr (Enc.cells v9) 0), (28, I x3), (27, A a1), (0, A a0), (1, A a1), (5, I x3)], []⟩) τ_ok [] [] 15 (by exact trivial) (by kernel_rfl) ?_
  refine qA_end ?_
  refine opsP_imp (Imp.to (st' := ⟨54, [(0, A a0), (1, A a1), (5, I x3), (39, .lit undef), (40, .lit undef), (41, .lit undef), (42, .lit undef), (43, .lit undef), (44, .lit undef), (45, .lit undef), (46, .lit undef), (47, .lit undef), (48, .lit undef), (49, .lit undef), (50, .lit undef), (51, .lit undef), (52, .lit undef), (53, B false)], []⟩) [0, 1, 5, 39, 40, 41, 42, 43, 44, 45, 46, 47, 48, 49, 50, 51, 52, 53] (by kernel_rfl)) ?_
  refine opsP_end rfl ?_
  exact ⟨false, h, (Imp.to (st' := ⟨54, [(0, A a0), (1, A a1), (5, I x3), (53, B false)], []⟩) [0, 1, 5, 53] (by kernel_rfl)).trans (Imp.to [0, 1, 5, 53] (by kernel_rfl))⟩
  rintro x7 h
  unfold spec_RowFits_j2 at h
  refine pc h (fun h => ?_) (fun h => ?_)
  refine srve 54 [(4, B false)] [] ?_
  cases h
  exact pwp_ret rz
  refine pwp_skip ?_
  refine rve 54 [(0, A a0), (1, A a1), (5, I ((w64 (x3 + 1))))] [] ?_
  exact ⟨(f4, (w64 (x3 + 1))), h, Nat.lt_succ_self _, (Imp.to (st' := ⟨54, [(0, A a0), (1, A a1), (5, I ((w64 (x3 + 1))))], []⟩) [0, 1, 5] (by kernel_rfl)).trans (Imp.to [0, 1, 5] (by kernel_rfl))⟩
  refine pwp_exit ?_
  refine srve 54 [(4, B true)] [] ?_
  cases h
  exact pwp_ret rz
def impl_RowFits_j2 (x3 : Int) (K5 : Int → Option Bool) (x9 : Bool) : Option Bool := bif x9 then some false else K5 ((w64 (x3 + 1)))
def impl_RowFits_l1 (a0 : List T_impl_Column) (a1 : List T_impl_Value) : Nat → Int → Option Bool
  | 0, _ => none
  | f4 + 1, x3 => bif (decide (x3 < ((a1.length : Int)))) then (getI a1 x3).bind fun v7 => (getI a0 x3).bind fun v11 => bif (!(v7.fKind == v11.fKind)) then bif (!(v7.fKind == 0)) then impl_RowFits_j2 x3 (impl_RowFits_l1 a0 a1 f4) true else (getI a0 x3).bind fun v13 => impl_RowFits_j2 x3 (impl_RowFits_l1 a0 a1 f4) ((!v13.fEmpty)) else impl_RowFits_j2 x3 (impl_RowFits_l1 a0 a1 f4) false else some true
def impl_RowFits_j0 (a0 : List T_impl_Column) (a1 : List T_impl_Value) (x1 : Bool) : Option Bool := bif x1 then some false else impl_RowFits_l1 a0 a1 FUEL 0
def impl_RowFits (a0 : List T_impl_Column) (a1 : List T_impl_Value) : Option Bool := (impl_ColumnsOk a0).bind fun v17 => bif (!v17) then impl_RowFits_j0 a0 a1 true else (impl_RowOk a1).bind fun v19 => bif (!v19) then impl_RowFits_j0 a0 a1 true else impl_RowFits_j0 a0 a1 ((!(((a1.length : Int)) == ((a0.length : Int)))))
theorem ok_impl_RowFits {a0 : List T_impl_Column} {a1 : List T_impl_Value} {y : Bool} (h : impl_RowFits a0 a1 = some y) : OK Tryz.prog 116 [A a0, A a1] (B y) := by
  refine OK_of_pwp τ_ok Tryz.func116 rfl (by kernel_rfl) rfl fun Γ hX => ?_
  unfold impl_RowFits at h
  refine srveM [6] 51 [(0, A a0), (1, A a1)] [] ?_
  refine pwp_seq ?_
  refine pwp_seq ?_
  refine pwp_join (σ := Bool) (fun x1 => (⟨51, [(0, A a0), (1, A a1), (21, B x1)], []⟩ : St)) (fun x1 => impl_RowFits_j0 a0 a1 x1 = some y) ?_ ?_
  refine rvM [6] 1 51 [(0, A a0), (1, A a1), (7, A a0)] [] ?_
  obtain ⟨v17, hv18, h⟩ := bindS h
  refine opsP_callF τ 8 (ok_impl_ColumnsOk hv18) (FzTo.frz rfl) rfl (by kernel_rfl) ?_
  refine vM [6] 2 51 [(0, A a0), (1, A a1), (10, B ((!v17)))] [] ?_
  rcases fk ((!v17)) with hc22 | hc22
  replace h := bT hc22 h
  rw [hc22]
  refine veM [6] 11 51 [(0, A a0), (1, A a1), (21, B true)] [] ?_
  exact ⟨true, h, (Imp.to (st' := ⟨51, [(0, A a0), (1, A a1), (21, B true)], []⟩) [0, 1, 21] (by kernel_rfl)).trans (Imp.to [0, 1, 21] (by kernel_rfl))⟩
  replace h := bF hc22 h
  rw [hc22]
  refine vM [6] 1 51 [(0, A a0), (1, A a1), (10, B false), (11, A a1)] [] ?_
  obtain ⟨v19, hv20, h⟩ := bindS h
  refine opsP_callF τ 12 (ok_impl_RowOk hv20) (FzTo.frz rfl) rfl (by kernel_rfl) ?_
  refine vM [6] 3 51 [(0, A a0), (1, A a1), (15, B ((!v19)))] [] ?_
  rcases fk ((!v19)) with hc21 | hc21
  replace h := bT hc21 h
  rw [hc21]
  refine veM [6] 6 51 [(0, A a0), (1, A a1), (21, B true)] [] ?_
  exact ⟨true, h, (Imp.to (st' := ⟨51, [(0, A a0), (1, A a1), (21, B true)], []⟩) [0, 1, 21] (by kernel_rfl)).trans (Imp.to [0, 1, 21] (by kernel_rfl))⟩
  replace h := bF hc21 h
  rw [hc21]
  refine veM [6] 6 51 [(0, A a0), (1, A a1), (21, B ((!(((a1.length : Int)) == ((a0.length : Int))))))] [] ?_
  exact ⟨(!(((a1.length : Int)) == ((a0.length : Int)))), h, (Imp.to (st' := ⟨51, [(0, A a0), (1, A a1), (21, B ((!(((a1.length : Int)) == ((a0.length : Int))))))], []⟩) [0, 1, 21] (by kernel_rfl)).trans (Imp.to [0, 1, 21] (by kernel_rfl))⟩
  rintro x1 h
  unfold impl_RowFits_j0 at h
  refine pc h (fun h => ?_) (fun h => ?_)
  refine srveM [6] 51 [(4, B false)] [] ?_
  cases h
  exact pwp_ret rz
  refine pwp_skip ?_
  refine pwp_seq ?_
  refine srveM [6] 51 [(0, A a0), (22, A a1), (23, I ((a1.length : Int))), (24, I 0)] [] ?_
  refine pwp_block ?_
  refine pwp_loop (ι := Nat × Int) (fun (f4, x3) => (⟨51, [(0, A a0), (22, A a1), (23, I ((a1.length : Int))), (24, I x3)], []⟩ : St)) (fun (f4, x3) => impl_RowFits_l1 a0 a1 f4 x3 = some y) (fun (f4, x3) => f4) (FUEL, 0) h ((Imp.to (st' := ⟨51, [(0, A a0), (22, A a1), (23, I ((a1.length : Int))), (24, I 0)], []⟩) [0, 22, 23, 24] (by kernel_rfl)).trans (Imp.to [0, 22, 23, 24] (by kernel_rfl))) ?_
  rintro ⟨f4, x3⟩ h
  dsimp only at h ⊢
  rcases f4 with _ | f4
  cases h
  rw [impl_RowFits_l1] at h
  refine srveM [6] 51 [(0, A a0), (22, A a1), (23, I ((a1.length : Int))), (24, I x3), (25, B ((decide (x3 < ((a1.length : Int))))))] [] ?_
  refine pwp_seq ?_
  refine pc h (fun h => ?_) (fun h => ?_)
  refine pwp_skip ?_
  refine pwp_seq ?_
  refine pwp_block ?_
  refine srvM [6] 1 51 [(0, A a0), (22, A a1), (23, I ((a1.length : Int))), (24, I x3), (26, I x3)] [] ?_
  obtain ⟨v7, hv8, h⟩ := bindS h
  refine opsP_idx τ_ok 27 hv8 (by kernel_rfl) ?_
  refine veM [6] 4 51 [(0, A a0), (5, I x3), (6, .ptr 0 0 0), (22, A a1), (23, I ((a1.length : Int))), (24, I x3)] [some ⟨0, Enc.cells v7⟩] ?_
  refine pwp_seq ?_
  refine pwp_join (σ := Bool) (fun x9 => (⟨51, [(0, A a0), (22, A a1), (23, I ((a1.length : Int))), (24, I x3), (49, B x9)], [some ⟨0, Enc.cells v7⟩]⟩ : St)) (fun x9 => impl_RowFits_j2 x3 (impl_RowFits_l1 a0 a1 f4) x9 = some y) ?_ ?_
  refine pwp_imp (Imp.to (st' := ⟨51, [(0, A a0), (5, I x3), (6, .ptr 0 0 0), (22, A a1), (23, I ((a1.length : Int))), (24, I x3)], [some ⟨0, Enc.cells v7⟩]⟩) [0, 5, 6, 22, 23, 24] (by kernel_rfl)) ?_
  refine pwp_any ([[0], [0], [], [], [], [], [], [], [], [0], [0], [], [], [], [], [], [], [], [], [], []]) ([[], [], [], [], [], [], [], [], [], [], [], [], [], [], [], [], [], [], [], [], []]) rfl (by kernel_rfl) ?_
  refine qA_ev (st' := ⟨51, [(30, I v7.fKind), (29, .ptr 0 0 0), (0, A a0), (5, I x3), (6, .ptr 0 0 0), (22, A a1), (23, I ((a1.length : Int))), (24, I x3)], [some ⟨0, Enc.cells v7⟩]⟩) τ_ok [6] [0] 2 (by exact (And.intro (.inl (Enc.frz _)) trivial)) (by kernel_rfl) ?_
  refine qA_ev (st' := ⟨51, [(32, I x3), (31, A a0), (30, I v7.fKind), (29, .ptr 0 0 0), (0, A a0), (5, I x3), (6, .ptr 0 0 0), (22, A a1), (23, I ((a1.length : Int))), (24, I x3)], [some ⟨0, Enc.cells v7⟩]⟩) τ_ok [6] [] 2 (by exact trivial) (by kernel_rfl) ?_
  obtain ⟨v11, hv12, h⟩ := bindS h
  refine qA_E (dd := some 33) (x := .fptr (Enc.cells v11) 0) ([none]) (⟨51, [(33, .fptr (Enc.cells v11) 0), (32, I x3), (31, A a0), (30, I v7.fKind), (29, .ptr 0 0 0), (0, A a0), (5, I x3), (6, .ptr 0 0 0), (22, A a1), (23, I ((a1.length : Int))), (24, I x3)], [some ⟨0, Enc.cells v7⟩]⟩) (fun Γ' hΓ => CoreE.of_y (idxV_sound τ_ok (by kernel_rfl) hv12)) (by kernel_rfl) (by kernel_rfl) (by exact trivial) (.inr (.inr rfl)) (by kernel_rfl) ?_
  refine qA_ev (st' := ⟨51, [(37, B ((!(v7.fKind == v11.fKind)))), (36, B ((!(v7.fKind == v11.fKind)))), (35, I v11.fKind), (34, .fptr (Enc.cells v11) 0), (33, .fptr (Enc.cells v11) 0), (32, I x3), (31, A a0), (30, I v7.fKind), (29, .ptr 0 0 0), (0, A a0), (5, I x3), (6, .ptr 0 0 0), (22, A a1), (23, I ((a1.length : Int))), (24, I x3)], [some ⟨0, Enc.cells v7⟩]⟩) τ_ok [6] [] 4 (by exact trivial) (by kernel_rfl) ?_
  rcases fk ((!(v7.fKind == v11.fKind))) with hc16 | hc16
  replace h := bT hc16 h
  rw [hc16]
  refine qA_ev (st' := ⟨51, [(39, I v7.fKind), (38, .ptr 0 0 0), (37, B true), (36, B true), (35, I v11.fKind), (34, .fptr (Enc.cells v11) 0), (33, .fptr (Enc.cells v11) 0), (32, I x3), (31, A a0), (30, I v7.fKind), (29, .ptr 0 0 0), (0, A a0), (5, I x3), (6, .ptr 0 0 0), (22, A a1), (23, I ((a1.length : Int))), (24, I x3)], [some ⟨0, Enc.cells v7⟩]⟩) τ_ok [6] [0] 2 (by exact (And.intro (.inl (Enc.frz _)) trivial)) (by kernel_rfl) ?_
  refine qA_ev (st' := ⟨51, [(41, B ((!(v7.fKind == 0)))), (40, B ((!(v7.fKind == 0)))), (39, I v7.fKind), (38, .ptr 0 0 0), (37, B true), (36, B true), (35, I v11.fKind), (34, .fptr (Enc.cells v11) 0), (33, .fptr (Enc.cells v11) 0), (32, I x3), (31, A a0), (30, I v7.fKind), (29, .ptr 0 0 0), (0, A a0), (5, I x3), (6, .ptr 0 0 0), (22, A a1), (23, I ((a1.length : Int))), (24, I x3)], [some ⟨0, Enc.cells v7⟩]⟩) τ_ok [6] [] 2 (by exact trivial) (by kernel_rfl) ?_
  rcases fk ((!(v7.fKind == 0))) with hc15 | hc15
  replace h := bT hc15 h
  rw [hc15]
  refine qA_ev (st' := ⟨51, [(49, B true), (48, B true), (47, .lit undef), (46, .lit undef), (45, .lit undef), (44, .lit undef), (43, .lit undef), (42, .lit undef), (41, B true), (40, B true), (39, I v7.fKind), (38, .ptr 0 0 0), (37, B true), (36, B true), (35, I v11.fKind), (34, .fptr (Enc.cells v11) 0), (33, .fptr (Enc.cells v11) 0), (32, I x3), (31, A a0), (30, I v7.fKind), (29, .ptr 0 0 0), (0, A a0), (5, I x3), (6, .ptr 0 0 0), (22, A a1), (23, I ((a1.length : Int))), (24, I x3)], [some ⟨0, Enc.cells v7⟩]⟩) τ_ok [6] [] 8 (by exact trivial) (by kernel_rfl) ?_
  refine qA_end ?_
  refine opsP_imp (Imp.to (st' := ⟨51, [(0, A a0), (22, A a1), (23, I ((a1.length : Int))), (24, I x3), (38, .ptr 0 0 0), (39, I v7.fKind), (40, B true), (41, B true), (42, .lit undef), (43, .lit undef), (44, .lit undef), (45, .lit undef), (46, .lit undef), (47, .lit undef), (48, B true), (49, B true)], [some ⟨0, Enc.cells v7⟩]⟩) [0, 22, 23, 24, 38, 39, 40, 41, 42, 43, 44, 45, 46, 47, 48, 49] (by kernel_rfl)) ?_
  refine opsP_end rfl ?_
  exact ⟨true, h, (Imp.to (st' := ⟨51, [(0, A a0), (22, A a1), (23, I ((a1.length : Int))), (24, I x3), (49, B true)], [some ⟨0, Enc.cells v7⟩]⟩) [0, 22, 23, 24, 49] (by kernel_rfl)).trans (Imp.to [0, 22, 23, 24, 49] (by kernel_rfl))⟩
  replace h := bF hc15 h
  rw [hc15]
  refine qA_ev (st' := ⟨51, [(43, I x3), (42, A a0), (41, B false), (40, B false), (39, I v7.fKind), (38, .ptr 0 0 0), (37, B true), (36, B true), (35, I v11.fKind), (34, .fptr (Enc.cells v11) 0), (33, .fptr (Enc.cells v11) 0), (32, I x3), (31, A a0), (30, I v7.fKind), (29, .ptr 0 0 0), (0, A a0), (5, I x3), (6, .ptr 0 0 0), (22, A a1), (23, I ((a1.length : Int))), (24, I x3)], [some ⟨0, Enc.cells v7⟩]⟩) τ_ok [6] [] 2 (by exact trivial) (by kernel_rfl) ?_
  obtain ⟨v13, hv14, h⟩ := bindS h
  refine qA_E (dd := some 44) (x := .fptr (Enc.cells v13) 0) ([none]) (⟨51, [(44, .fptr (Enc.cells v13) 0), (43, I x3), (42, A a0), (41, B false), (40, B false), (39, I v7.fKind), (38, .ptr 0 0 0), (37, B true), (36, B true), (35, I v11.fKind), (34, .fptr (Enc.cells v11) 0), (33, .fptr (Enc.cells v11) 0), (32, I x3), (31, A a0), (30, I v7.fKind), (29, .ptr 0 0 0), (0, A a0), (5, I x3), (6, .ptr 0 0 0), (22, A a1), (23, I ((a1.length : Int))), (24, I x3)], [some ⟨0, Enc.cells v7⟩]⟩) (fun Γ' hΓ => CoreE.of_y (idxV_sound τ_ok (by kernel_rfl) hv14)) (by kernel_rfl) (by kernel_rfl) (by exact trivial) (.inr (.inr rfl)) (by kernel_rfl) ?_
  refine qA_ev (st' := ⟨51, [(49, B ((!v13.fEmpty))), (48, B ((!v13.fEmpty))), (47, B ((!v13.fEmpty))), (46, B v13.fEmpty), (45, .fptr (Enc.cells v13) 1), (44, .fptr (Enc.cells v13) 0), (43, I x3), (42, A a0), (41, B false), (40, B false), (39, I v7.fKind), (38, .ptr 0 0 0), (37, B true), (36, B true), (35, I v11.fKind), (34, .fptr (Enc.cells v11) 0), (33, .fptr (Enc.cells v11) 0), (32, I x3), (31, A a0), (30, I v7.fKind), (29, .ptr 0 0 0), (0, A a0), (5, I x3), (6, .ptr 0 0 0), (22, A a1), (23, I ((a1.length : Int))), (24, I x3)], [some ⟨0, Enc.cells v7⟩]⟩) τ_ok [6] [] 5 (by exact trivial) (by kernel_rfl) ?_
  refine qA_end ?_
  refine opsP_imp (Imp.to (st' := ⟨51, [(0, A a0), (22, A a1), (23, I ((a1.length : Int))), (24, I x3), (38, .ptr 0 0 0), (39, I v7.fKind), (40, B false), (41, B false), (42, A a0), (43, I x3), (44, .fptr (Enc.cells v13) 0), (45, .fptr (Enc.cells v13) 1), (46, B v13.fEmpty), (47, B ((!v13.fEmpty))), (48, B ((!v13.fEmpty))), (49, B ((!v13.fEmpty)))], [some ⟨0, Enc.cells v7⟩]⟩) [0, 22, 23, 24, 38, 39, 40, 41, 42, 43, 44, 45, 46, 47, 48, 49] (by kernel_rfl)) ?_
  refine opsP_end rfl ?_
  exact ⟨(!v13.fEmpty), h, (Imp.to (st' := ⟨51, [(0, A a0), (22, A a1), (23, I ((a1.length : Int))), (24, I x3), (49, B ((!v13.fEmpty)))], [some ⟨0, Enc.cells v7⟩]⟩) [0, 22, 23, 24, 49] (by kernel_rfl)).trans (Imp.to [0, 22, 23, 24, 49] (by kernel_rfl))⟩
  replace h := bF hc16 h
  rw [hc16]
  refine qA_ev (st' := ⟨51, [(39, .lit undef), (38, .lit undef), (37, B false), (36, B false), (35, I v11.fKind), (34, .fptr (Enc.cells v11) 0), (33, .fptr (Enc.cells v11) 0), (32, I x3), (31, A a0), (30, I v7.fKind), (29, .ptr 0 0 0), (0, A a0), (5, I x3), (6, .ptr 0 0 0), (22, A a1), (23, I ((a1.length : Int))), (24, I x3)], [some ⟨0, Enc.cells v7⟩]⟩) τ_ok [6] [0] 2 (by exact (And.intro (.inl (Enc.frz _)) trivial)) (by kernel_rfl) ?_
  refine qA_ev (st' := ⟨51, [(49, B false), (48, .lit undef), (47, .lit undef), (46, .lit undef), (45, .lit undef), (44, .lit undef), (43, .lit undef), (42, .lit undef), (41, .lit undef), (40, .lit undef), (39, .lit undef), (38, .lit undef), (37, B false), (36, B false), (35, I v11.fKind), (34, .fptr (Enc.cells v11) 0), (33, .fptr (Enc.cells v11) 0), (32, I x3), (31, A a0), (30, I v7.fKind), (29, .ptr 0 0 0), (0, A a0), (5, I x3), (6, .ptr 0 0 0), (22, A a1), (23, I ((a1.length : Int))), (24, I x3)], [some ⟨0, Enc.cells v7⟩]⟩) τ_ok [6] [] 10 (by exact trivial) (by kernel_rfl) ?_
  refine qA_end ?_
  refine opsP_imp (Imp.to (st' := ⟨51, [(0, A a0), (22, A a1), (23, I ((a1.length : Int))), (24, I x3), (38, .lit undef), (39, .lit undef), (40, .lit undef), (41, .lit undef), (42, .lit undef), (43, .lit undef), (44, .lit undef), (45, .lit undef), (46, .lit undef), (47, .lit undef), (48, .lit undef), (49, B false)], [some ⟨0, Enc.cells v7⟩]⟩) [0, 22, 23, 24, 38, 39, 40, 41, 42, 43, 44, 45, 46, 47, 48, 49] (by kernel_rfl)) ?_
  refine opsP_end rfl ?_
  exact ⟨false, h, (Imp.to (st' := ⟨51, [(0, A a0), (22, A a1), (23, I ((a1.length : Int))), (24, I x3), (49, B false)], [some ⟨0, Enc.cells v7⟩]⟩) [0, 22, 23, 24, 49] (by kernel_rfl)).trans (Imp.to [0, 22, 23, 24, 49] (by kernel_rfl))⟩
  rintro x9 h
  unfold impl_RowFits_j2 at h
  refine pc h (fun h => ?_) (fun h => ?_)
  refine srveM [6] 51 [(4, B false)] [some ⟨0, Enc.cells v7⟩] ?_
  cases h
  exact pwp_ret rz
  refine pwp_skip ?_
  refine rveM [6] 51 [(0, A a0), (22, A a1), (23, I ((a1.length : Int))), (24, I ((w64 (x3 + 1))))] [some ⟨0, Enc.cells v7⟩] ?_
  exact ⟨(f4, (w64 (x3 + 1))), h, Nat.lt_succ_self _, (Imp.to (st' := ⟨51, [(0, A a0), (22, A a1), (23, I ((a1.length : Int))), (24, I ((w64 (x3 + 1))))], [some ⟨0, Enc.cells v7⟩]⟩) [0, 22, 23, 24] (by kernel_rfl)).trans ((Imp.truncS (st' := ⟨51, [(0, A a0), (22, A a1), (23, I ((a1.length : Int))), (24, I ((w64 (x3 + 1))))], []⟩) 0 (fun b hb => absurd hb (hX b)) (by kernel_rfl) (allBelow_mem (by exact (And.intro rfl (And.intro rfl (And.intro rfl (And.intro rfl trivial)))))) (by exact trivial) (by kernel_rfl)).trans (Imp.to [0, 22, 23, 24] (by kernel_rfl)))⟩
  refine pwp_exit ?_
  refine srveM [6] 51 [(4, B true)] [] ?_
  cases h
  exact pwp_ret rz
def impl_Part_kind (a0 : T_impl_Part) (a1 : List T_impl_Column) (a2 : List Int) : Option (Int × Bool) := bif (a0.fKind == 1) then some (a0.fV.fKind, true) else bif (a0.fKind == 2) then (getI a1 a0.fN).bind fun v3 => some (v3.fKind, true) else bif (a0.fKind == 3) then (impl_Part_kind_1 1 a2).bind fun v6 => some (1, v6) else bif (a0.fKind == 4) then (getI a2 0).bind fun v9 => (getI a2 1).bind fun v11 => some (3, (v9 == v11)) else bif (a0.fKind == 8) then some (3, true) else (impl_Part_kind_1 3 a2).bind fun v14 => some (3, v14)
theorem ok_impl_Part_kind {a0 : T_impl_Part} {a1 : List T_impl_Column} {a2 : List Int} {y : Int × Bool} (h : impl_Part_kind a0 a1 a2 = some y) : OK Tryz.prog 127 [E a0, A a1, A a2] (.tup [I y.1, B y.2]) := by
  refine OK_of_pwp τ_ok Tryz.func127 rfl (by kernel_rfl) rfl fun Γ hX => ?_
  unfold impl_Part_kind at h
  refine srve 42 [(1, A a1), (3, .fptr (Enc.cells a0) 0), (5, .fptr (Enc.cells a2) 0)] [] ?_
  refine srve 42 [(1, A a1), (3, .fptr (Enc.cells a0) 0), (5, .fptr (Enc.cells a2) 0), (8, .fn 163 [.fptr (Enc.cells a2) 0])] [] ?_
  refine pwp_seq ?_
  refine srve 42 [(1, A a1), (3, .fptr (Enc.cells a0) 0), (5, .fptr (Enc.cells a2) 0), (8, .fn 163 [.fptr (Enc.cells a2) 0]), (11, I a0.fKind)] [] ?_
  refine pwp_block ?_
  refine srve 42 [(1, A a1), (3, .fptr (Enc.cells a0) 0), (5, .fptr (Enc.cells a2) 0), (8, .fn 163 [.fptr (Enc.cells a2) 0]), (11, I a0.fKind), (12, B ((a0.fKind == 1)))] [] ?_
  refine pc h (fun h => ?_) (fun h => ?_)
  refine srve 42 [(6, I a0.fV.fKind), (7, B true)] [] ?_
  have h := si h
  subst h
  exact pwp_ret (rt (.tup [I a0.fV.fKind, B true]) (OutP.tup (OutL.cons (OutP.frz (by kernel_rfl)) (OutL.cons (OutP.frz (by kernel_rfl)) (OutL.nil _)))))
  refine srve 42 [(1, A a1), (3, .fptr (Enc.cells a0) 0), (5, .fptr (Enc.cells a2) 0), (8, .fn 163 [.fptr (Enc.cells a2) 0]), (11, I a0.fKind), (17, B ((a0.fKind == 2)))] [] ?_
  refine pc h (fun h => ?_) (fun h => ?_)
  refine srv 3 42 [(19, A a1), (21, I a0.fN)] [] ?_
  obtain ⟨v3, hv4, h⟩ := bindS h
  refine opsP_idx τ_ok 22 hv4 (by kernel_rfl) ?_
  refine ve 4 42 [(6, I v3.fKind), (7, B true)] [] ?_
  have h := si h
  subst h
  exact pwp_ret (rt (.tup [I v3.fKind, B true]) (OutP.tup (OutL.cons (OutP.frz (by kernel_rfl)) (OutL.cons (OutP.frz (by kernel_rfl)) (OutL.nil _)))))
  refine srve 42 [(5, .fptr (Enc.cells a2) 0), (8, .fn 163 [.fptr (Enc.cells a2) 0]), (11, I a0.fKind), (25, B ((a0.fKind == 3)))] [] ?_
  refine pc h (fun h => ?_) (fun h => ?_)
  refine srv 1 42 [(27, .fn 163 [.fptr (Enc.cells a2) 0])] [] ?_
  obtain ⟨v6, hv7, h⟩ := bindS h
  refine opsP_callF τ 28 (ok_impl_Part_kind_1 hv7) (FzTo.frz rfl) rfl (by kernel_rfl) ?_
  refine ve 2 42 [(6, I 1), (7, B v6)] [] ?_
  have h := si h
  subst h
  exact pwp_ret (rt (.tup [I 1, B v6]) (OutP.tup (OutL.cons (OutP.frz (by kernel_rfl)) (OutL.cons (OutP.frz (by kernel_rfl)) (OutL.nil _)))))
  refine srve 42 [(5, .fptr (Enc.cells a2) 0), (8, .fn 163 [.fptr (Enc.cells a2) 0]), (11, I a0.fKind), (29, B ((a0.fKind == 4)))] [] ?_
  refine pc h (fun h => ?_) (fun h => ?_)
  refine pwp_seq ?_
  refine pwp_imp (Imp.to (st' := ⟨42, [(5, .fptr (Enc.cells a2) 0)], []⟩) [5] (by kernel_rfl)) ?_
  refine pwp_any ([[], [], [], [], [], [], [], [], []]) ([[], [], [], [], [], [], [], [], []]) rfl (by kernel_rfl) ?_
  refine qA_ev (st' := ⟨42, [(31, A a2), (5, .fptr (Enc.cells a2) 0)], []⟩) τ_ok [] [] 1 (by exact trivial) (by kernel_rfl) ?_
  obtain ⟨v9, hv10, h⟩ := bindS h
  refine qA_E (dd := some 32) (x := .fptr (Enc.cells v9) 0) ([]) (⟨42, [(32, .fptr (Enc.cells v9) 0), (31, A a2), (5, .fptr (Enc.cells a2) 0)], []⟩) (fun Γ' hΓ => CoreE.of_y (idxV_sound τ_ok (by kernel_rfl) hv10)) (by kernel_rfl) (by kernel_rfl) (by exact trivial) (.inr (.inr rfl)) (by kernel_rfl) ?_
  refine qA_ev (st' := ⟨42, [(34, A a2), (33, I v9), (32, .fptr (Enc.cells v9) 0), (31, A a2), (5, .fptr (Enc.cells a2) 0)], []⟩) τ_ok [] [] 2 (by exact trivial) (by kernel_rfl) ?_
  obtain ⟨v11, hv12, h⟩ := bindS h
  refine qA_E (dd := some 35) (x := .fptr (Enc.cells v11) 0) ([]) (⟨42, [(35, .fptr (Enc.cells v11) 0), (34, A a2), (33, I v9), (32, .fptr (Enc.cells v9) 0), (31, A a2), (5, .fptr (Enc.cells a2) 0)], []⟩) (fun Γ' hΓ => CoreE.of_y (idxV_sound τ_ok (by kernel_rfl) hv12)) (by kernel_rfl) (by kernel_rfl) (by exact trivial) (.inr (.inr rfl)) (by kernel_rfl) ?_
  refine qA_ev (st' := ⟨42, [(7, B ((v9 == v11))), (6, I 3), (37, B ((v9 == v11))), (36, I v11), (35, .fptr (Enc.cells v11) 0), (34, A a2), (33, I v9), (32, .fptr (Enc.cells v9) 0), (31, A a2), (5, .fptr (Enc.cells a2) 0)], []⟩) τ_ok [] [] 4 (by exact trivial) (by kernel_rfl) ?_
  refine qA_end ?_
  refine opsP_imp (Imp.to (st' := ⟨42, [(6, I 3), (7, B ((v9 == v11)))], []⟩) [6, 7] (by kernel_rfl)) ?_
  refine opsP_end rfl ?_
  have h := si h
  subst h
  exact pwp_ret (rt (.tup [I 3, B ((v9 == v11))]) (OutP.tup (OutL.cons (OutP.frz (by kernel_rfl)) (OutL.cons (OutP.frz (by kernel_rfl)) (OutL.nil _)))))
  refine srve 42 [(8, .fn 163 [.fptr (Enc.cells a2) 0]), (38, B ((a0.fKind == 8)))] [] ?_
  refine pc h (fun h => ?_) (fun h => ?_)
  refine srve 42 [(6, I 3), (7, B true)] [] ?_
  have h := si h
  subst h
  exact pwp_ret (rt (.tup [I 3, B true]) (OutP.tup (OutL.cons (OutP.frz (by kernel_rfl)) (OutL.cons (OutP.frz (by kernel_rfl)) (OutL.nil _)))))
  refine pwp_skip ?_
  refine srv 1 42 [(40, .fn 163 [.fptr (Enc.cells a2) 0])] [] ?_
  obtain ⟨v14, hv15, h⟩ := bindS h
  refine opsP_callF τ 41 (ok_impl_Part_kind_1 hv15) (FzTo.frz rfl) rfl (by kernel_rfl) ?_
  refine ve 2 42 [(6, I 3), (7, B v14)] [] ?_
  have h := si h
  subst h
  exact pwp_ret (rt (.tup [I 3, B v14]) (OutP.tup (OutL.cons (OutP.frz (by kernel_rfl)) (OutL.cons (OutP.frz (by kernel_rfl)) (OutL.nil _)))))
def spec_RowsOk_l0 (a0 : List T_impl_Column) (a1 : List (List T_impl_Value)) : Nat → Int → Option Bool
  | 0, _ => none
  | f2 + 1, x1 => bif (decide (x1 < ((a1.length : Int)))) then (getI a1 x1).bind fun v5 => (spec_RowFits a0 v5).bind fun v7 => bif (!v7) then some false else (spec_RowsOk_l0 a0 a1 f2) ((w64 (x1 + 1))) else (spec_ColumnsOk a0).bind fun v10 => some v10
def spec_RowsOk (a0 : List T_impl_Column) (a1 : List (List T_impl_Value)) : Option Bool := spec_RowsOk_l0 a0 a1 FUEL 0
theorem ok_spec_RowsOk {a0 : List T_impl_Column} {a1 : List (List T_impl_Value)} {y : Bool} (h : spec_RowsOk a0 a1 = some y) : OK Tryz.prog 134 [A a0, A a1] (B y) := by
  refine OK_of_pwp τ_ok Tryz.func134 rfl (by kernel_rfl) rfl fun Γ hX => ?_
  unfold spec_RowsOk at h
  refine srve 21 [(0, A a0), (1, A a1)] [] ?_
  refine pwp_seq ?_
  refine srve 21 [(0, A a0), (1, A a1), (5, I 0)] [] ?_
  refine pwp_block ?_
  refine pwp_loop (ι := Nat × Int) (fun (f2, x1) => (⟨21, [(0, A a0), (1, A a1), (5, I x1)], []⟩ : St)) (fun (f2, x1) => spec_RowsOk_l0 a0 a1 f2 x1 = some y) (fun (f2, x1) => f2) (FUEL, 0) h ((Imp.to (st' := ⟨21, [(0, A a0), (1, A a1), (5, I 0)], []⟩) [0, 1, 5] (by kernel_rfl)).trans (Imp.to [0, 1, 5] (by kernel_rfl))) ?_
  rintro ⟨f2, x1⟩ h
  dsimp only at h ⊢
  rcases f2 with _ | f2
  cases h
  rw [spec_RowsOk_l0] at h
  refine pwp_seq ?_
  refine srve 21 [(0, A a0), (1, A a1), (5, I x1), (9, B ((decide (x1 < ((a1.length : Int))))))] [] ?_
  refine pc h (fun h => ?_) (fun h => ?_)
  refine pwp_skip ?_
  refine pwp_seq ?_
  refine pwp_block ?_
  refine srv 3 21 [(0, A a0), (1, A a1), (5, I x1), (12, A a0), (13, A a1), (14, I x1)] [] ?_
  obtain ⟨v5, hv6, h⟩ := bindS h
  refine opsP_idx τ_ok 15 hv6 (by kernel_rfl) ?_
  refine v 1 21 [(0, A a0), (1, A a1), (5, I x1), (12, A a0), (16, A v5)] [] ?_
  obtain ⟨v7, hv8, h⟩ := bindS h
  refine opsP_callF τ 17 (ok_spec_RowFits hv8) (FzTo.frz rfl) rfl (by kernel_rfl) ?_
  refine ve 1 21 [(0, A a0), (1, A a1), (5, I x1), (18, B ((!v7)))] [] ?_
  refine pc h (fun h => ?_) (fun h => ?_)
  refine srve 21 [(4, B false)] [] ?_
  cases h
  exact pwp_ret rz
  refine pwp_skip ?_
  refine rve 21 [(0, A a0), (1, A a1), (5, I ((w64 (x1 + 1))))] [] ?_
  exact ⟨(f2, (w64 (x1 + 1))), h, Nat.lt_succ_self _, (Imp.to (st' := ⟨21, [(0, A a0), (1, A a1), (5, I ((w64 (x1 + 1))))], []⟩) [0, 1, 5] (by kernel_rfl)).trans (Imp.to [0, 1, 5] (by kernel_rfl))⟩
  refine pwp_exit ?_
  refine srv 1 21 [(19, A a0)] [] ?_
  obtain ⟨v10, hv11, h⟩ := bindS h
  refine opsP_callF τ 20 (ok_spec_ColumnsOk hv11) (FzTo.frz rfl) rfl (by kernel_rfl) ?_
  refine ve 1 21 [(4, B v10)] [] ?_
  cases h
  exact pwp_ret rz
def impl_RowsOk_1 (a0 : List T_impl_Value) (b0 : List T_impl_Column) : Option Bool := (impl_RowFits b0 a0).bind fun v1 => some ((!v1))
theorem ok_impl_RowsOk_1 {a0 : List T_impl_Value} {b0 : List T_impl_Column} {y : Bool} (h : impl_RowsOk_1 a0 b0 = some y) : OK Tryz.prog 182 [A a0, .fptr (Enc.cells b0) 0] (B y) := by
  refine OK_of_pwp τ_ok Tryz.func182 rfl (by kernel_rfl) rfl fun Γ hX => ?_
  unfold impl_RowsOk_1 at h
  refine srve 8 [(0, A a0), (1, .fptr (Enc.cells b0) 0)] [] ?_
  refine srv 2 8 [(4, A b0), (5, A a0)] [] ?_
  obtain ⟨v1, hv2, h⟩ := bindS h
  refine opsP_callF τ 6 (ok_impl_RowFits hv2) (FzTo.frz rfl) rfl (by kernel_rfl) ?_
  refine ve 2 8 [(3, B ((!v1)))] [] ?_
  cases h
  exact pwp_ret rz
def impl_ExprKind_j2 (a0 : List T_impl_Column) (x4 : Int) (x5 : List Int) (K7 : Int → (List Int) → Option Int) (v9 : T_impl_Part) (v11 : Int) (x13 : Bool) : Option Int := bif x13 then some (-1) else (slI x5 (some ((w64 (((x5.length : Int)) - v11)))) none none).bind fun v15 => (impl_Part_kind v9 a0 v15).bind fun v17 => bif (!v17.2) then some (-1) else (slI x5 none (some ((w64 (((x5.length : Int)) - v11)))) none).bind fun v20 => (appT x5 (([v17.1] : List Int)) v20.length).bind fun v22 => K7 ((w64 (x4 + 1))) v22
def impl_ExprKind_l1 (a0 : List T_impl_Column) (a1 : List T_impl_Part) : Nat → Int → (List Int) → Option Int
  | 0, _, _ => none
  | f6 + 1, x4, x5 => bif (decide (x4 < ((a1.length : Int)))) then (getI a1 x4).bind fun v9 => (impl_Part_takes v9).bind fun v11 => (impl_Part_tells v9 a0).bind fun v24 => bif (!v24) then impl_ExprKind_j2 a0 x4 x5 (impl_ExprKind_l1 a0 a1 f6) v9 v11 true else impl_ExprKind_j2 a0 x4 x5 (impl_ExprKind_l1 a0 a1 f6) v9 v11 ((decide (((x5.length : Int)) < v11))) else bif (!(((x5.length : Int)) == 1)) then some (-1) else (getI x5 0).bind fun v28 => some v28
def impl_ExprKind_j0 (a0 : List T_impl_Column) (a1 : List T_impl_Part) (x1 : Bool) : Option Int := bif x1 then some (-1) else impl_ExprKind_l1 a0 a1 FUEL 0 (([] : List Int))
def impl_ExprKind (a0 : List T_impl_Column) (a1 : List T_impl_Part) : Option Int := (impl_ColumnsOk a0).bind fun v30 => bif (!v30) then impl_ExprKind_j0 a0 a1 true else impl_ExprKind_j0 a0 a1 ((decide (((a1.length : Int)) > 12)))
theorem ok_impl_ExprKind {a0 : List T_impl_Column} {a1 : List T_impl_Part} {y : Int} (h : impl_ExprKind a0 a1 = some y) : OK Tryz.prog 78 [A a0, A a1] (I y) := by
  refine OK_of_pwp τ_ok Tryz.func78 rfl (by kernel_rfl) rfl fun Γ hX => ?_
  unfold impl_ExprKind at h
  refine srveM [7] 67 [(0, A a0), (1, A a1)] [] ?_
  refine pwp_seq ?_
  refine pwp_seq ?_
  refine pwp_join (σ := Bool) (fun x1 => (⟨67, [(0, A a0), (1, A a1), (18, B x1)], []⟩ : St)) (fun x1 => impl_ExprKind_j0 a0 a1 x1 = some y) ?_ ?_
  refine rvM [7] 1 67 [(0, A a0), (1, A a1), (11, A a0)] [] ?_
  obtain ⟨v30, hv31, h⟩ := bindS h
  refine opsP_callF τ 12 (ok_impl_ColumnsOk hv31) (FzTo.frz rfl) rfl (by kernel_rfl) ?_
  refine vM [7] 2 67 [(0, A a0), (1, A a1), (14, B ((!v30)))] [] ?_
  rcases fk ((!v30)) with hc32 | hc32
  replace h := bT hc32 h
  rw [hc32]
  refine veM [7] 4 67 [(0, A a0), (1, A a1), (18, B true)] [] ?_
  exact ⟨true, h, (Imp.to (st' := ⟨67, [(0, A a0), (1, A a1), (18, B true)], []⟩) [0, 1, 18] (by kernel_rfl)).trans (Imp.to [0, 1, 18] (by kernel_rfl))⟩
  replace h := bF hc32 h
  rw [hc32]
  refine veM [7] 4 67 [(0, A a0), (1, A a1), (18, B ((decide (((a1.length : Int)) > 12))))] [] ?_
  exact ⟨(decide (((a1.length : Int)) > 12)), h, (Imp.to (st' := ⟨67, [(0, A a0), (1, A a1), (18, B ((decide (((a1.length : Int)) > 12))))], []⟩) [0, 1, 18] (by kernel_rfl)).trans (Imp.to [0, 1, 18] (by kernel_rfl))⟩
  rintro x1 h
  unfold impl_ExprKind_j0 at h
  refine pc h (fun h => ?_) (fun h => ?_)
  refine srveM [7] 67 [(4, I (-1))] [] ?_
  cases h
  exact pwp_ret rz
  refine pwp_skip ?_
  refine srveM [7] 67 [(0, A a0), (1, A a1), (5, .arr 1 0 (eL ([] : List Int)) true)] [] ?_
  refine pwp_seq ?_
  refine srveM [7] 67 [(0, A a0), (5, .arr 1 0 (eL ([] : List Int)) true), (19, A a1), (20, I ((a1.length : Int))), (21, I 0)] [] ?_
  refine pwp_block ?_
  refine pwp_loop (ι := Nat × Int × (List Int)) (fun (f6, x4, x5) => (⟨67, [(0, A a0), (5, .ref 0 0 0 1 x5.length false), (19, A a1), (20, I ((a1.length : Int))), (21, I x4)], [some ⟨0, eL x5⟩]⟩ : St)) (fun (f6, x4, x5) => impl_ExprKind_l1 a0 a1 f6 x4 x5 = some y) (fun (f6, x4, x5) => f6) (FUEL, 0, ([] : List Int)) h ((Imp.to (st' := ⟨67, [(0, A a0), (5, .arr 1 0 (eL ([] : List Int)) true), (19, A a1), (20, I ((a1.length : Int))), (21, I 0)], []⟩) [0, 5, 19, 20, 21] (by kernel_rfl)).trans ((Imp.thawS (st' := ⟨67, [(0, A a0), (5, .ref 0 0 0 1 (([] : List Int)).length false), (19, A a1), (20, I ((a1.length : Int))), (21, I 0)], [some ⟨0, eL (([] : List Int))⟩]⟩) 5 [0, 5, 19, 20, 21] (by kernel_rfl)).trans (Imp.to [0, 5, 19, 20, 21] (by kernel_rfl)))) ?_
  rintro ⟨f6, x4, x5⟩ h
  dsimp only at h ⊢
  rcases f6 with _ | f6
  cases h
  rw [impl_ExprKind_l1] at h
  refine srveM [7] 67 [(0, A a0), (5, .ref 0 0 0 1 x5.length false), (19, A a1), (20, I ((a1.length : Int))), (21, I x4), (22, B ((decide (x4 < ((a1.length : Int))))))] [some ⟨0, eL x5⟩] ?_
  refine pwp_seq ?_
  refine pc h (fun h => ?_) (fun h => ?_)
  refine pwp_skip ?_
  refine pwp_seq ?_
  refine pwp_block ?_
  refine pwp_seq ?_
  refine pwp_region ?_
  obtain ⟨v9, hv10, h⟩ := bindS h
  refine opsP_idx τ_ok 23 hv10 (by kernel_rfl) ?_
  refine veM [7] 3 67 [(0, A a0), (5, .ref 0 0 0 1 x5.length false), (7, .ptr 1 0 0), (19, A a1), (20, I ((a1.length : Int))), (21, I x4)] [some ⟨0, eL x5⟩, some ⟨0, Enc.cells v9⟩] ?_
  refine srvM [7] 1 67 [(0, A a0), (5, .ref 0 0 0 1 x5.length false), (7, .ptr 1 0 0), (19, A a1), (20, I ((a1.length : Int))), (21, I x4), (25, E v9)] [some ⟨0, eL x5⟩, some ⟨0, Enc.cells v9⟩] ?_
  obtain ⟨v11, hv12, h⟩ := bindS h
  refine opsP_callF τ 26 (ok_impl_Part_takes hv12) (FzTo.frz rfl) rfl (by kernel_rfl) ?_
  refine veM [7] 1 67 [(0, A a0), (5, .ref 0 0 0 1 x5.length false), (7, .ptr 1 0 0), (8, I v11), (19, A a1), (20, I ((a1.length : Int))), (21, I x4)] [some ⟨0, eL x5⟩, some ⟨0, Enc.cells v9⟩] ?_
  refine pwp_seq ?_
  refine pwp_seq ?_
  refine pwp_join (σ := Bool) (fun x13 => (⟨67, [(0, A a0), (5, .ref 0 0 0 1 x5.length false), (7, .ptr 1 0 0), (8, I v11), (19, A a1), (20, I ((a1.length : Int))), (21, I x4), (36, B x13)], [some ⟨0, eL x5⟩, some ⟨0, Enc.cells v9⟩]⟩ : St)) (fun x13 => impl_ExprKind_j2 a0 x4 x5 (impl_ExprKind_l1 a0 a1 f6) v9 v11 x13 = some y) ?_ ?_
  refine rvM [7] 2 67 [(0, A a0), (5, .ref 0 0 0 1 x5.length false), (7, .ptr 1 0 0), (8, I v11), (19, A a1), (20, I ((a1.length : Int))), (21, I x4), (27, E v9), (28, A a0)] [some ⟨0, eL x5⟩, some ⟨0, Enc.cells v9⟩] ?_
  obtain ⟨v24, hv25, h⟩ := bindS h
  refine opsP_callF τ 29 (ok_impl_Part_tells hv25) (FzTo.frz rfl) rfl (by kernel_rfl) ?_
  refine vM [7] 2 67 [(0, A a0), (5, .ref 0 0 0 1 x5.length false), (7, .ptr 1 0 0), (8, I v11), (19, A a1), (20, I ((a1.length : Int))), (21, I x4), (31, B ((!v24)))] [some ⟨0, eL x5⟩, some ⟨0, Enc.cells v9⟩] ?_
  rcases fk ((!v24)) with hc26 | hc26
  replace h := bT hc26 h
  rw [hc26]
  refine veM [7] 5 67 [(0, A a0), (5, .ref 0 0 0 1 x5.length false), (7, .ptr 1 0 0), (8, I v11), (19, A a1), (20, I ((a1.length : Int))), (21, I x4), (32, .lit undef), (33, .lit undef), (34, .lit undef), (35, .lit undef), (36, B true)] [some ⟨0, eL x5⟩, some ⟨0, Enc.cells v9⟩] ?_
  exact ⟨true, h, (Imp.to (st' := ⟨67, [(0, A a0), (5, .ref 0 0 0 1 x5.length false), (7, .ptr 1 0 0), (8, I v11), (19, A a1), (20, I ((a1.length : Int))), (21, I x4), (36, B true)], [some ⟨0, eL x5⟩, some ⟨0, Enc.cells v9⟩]⟩) [0, 5, 7, 8, 19, 20, 21, 36] (by kernel_rfl)).trans (Imp.to [0, 5, 7, 8, 19, 20, 21, 36] (by kernel_rfl))⟩
  replace h := bF hc26 h
  rw [hc26]
  refine veM [7] 5 67 [(0, A a0), (5, .ref 0 0 0 1 x5.length false), (7, .ptr 1 0 0), (8, I v11), (19, A a1), (20, I ((a1.length : Int))), (21, I x4), (32, .ref 0 0 0 1 x5.length false), (33, I ((x5.length : Int))), (34, I v11), (35, B ((decide (((x5.length : Int)) < v11)))), (36, B ((decide (((x5.length : Int)) < v11))))] [some ⟨0, eL x5⟩, some ⟨0, Enc.cells v9⟩] ?_
  exact ⟨(decide (((x5.length : Int)) < v11)), h, (Imp.to (st' := ⟨67, [(0, A a0), (5, .ref 0 0 0 1 x5.length false), (7, .ptr 1 0 0), (8, I v11), (19, A a1), (20, I ((a1.length : Int))), (21, I x4), (36, B ((decide (((x5.length : Int)) < v11))))], [some ⟨0, eL x5⟩, some ⟨0, Enc.cells v9⟩]⟩) [0, 5, 7, 8, 19, 20, 21, 36] (by kernel_rfl)).trans (Imp.to [0, 5, 7, 8, 19, 20, 21, 36] (by kernel_rfl))⟩
  rintro x13 h
  unfold impl_ExprKind_j2 at h
  refine pc h (fun h => ?_) (fun h => ?_)
  refine srveM [7] 67 [(4, I (-1))] [some ⟨0, eL x5⟩, some ⟨0, Enc.cells v9⟩] ?_
  cases h
  exact pwp_ret rz
  refine pwp_skip ?_
  refine pwp_seq ?_
  refine pwp_imp (Imp.to (st' := ⟨67, [(0, A a0), (5, .ref 0 0 0 1 x5.length false), (7, .ptr 1 0 0), (8, I v11), (19, A a1), (20, I ((a1.length : Int))), (21, I x4)], [some ⟨0, eL x5⟩, some ⟨0, Enc.cells v9⟩]⟩) [0, 5, 7, 8, 19, 20, 21] (by kernel_rfl)) ?_
  refine pwp_any ([[1], [], [0], [0], [0], [], [], [0], [0], [], [], [], [], []]) ([[], [], [], [], [], [], [], [], [], [], [], [], [], []]) rfl (by kernel_rfl) ?_
  refine qA_ev (st' := ⟨67, [(38, E v9), (0, A a0), (5, .ref 0 0 0 1 x5.length false), (7, .ptr 1 0 0), (8, I v11), (19, A a1), (20, I ((a1.length : Int))), (21, I x4)], [some ⟨0, eL x5⟩, some ⟨0, Enc.cells v9⟩]⟩) τ_ok [7] [1] 1 (by exact (And.intro (.inl (Enc.frz _)) trivial)) (by kernel_rfl) ?_
  refine qA_ev (st' := ⟨67, [(39, A a0), (38, E v9), (0, A a0), (5, .ref 0 0 0 1 x5.length false), (7, .ptr 1 0 0), (8, I v11), (19, A a1), (20, I ((a1.length : Int))), (21, I x4)], [some ⟨0, eL x5⟩, some ⟨0, Enc.cells v9⟩]⟩) τ_ok [7] [] 1 (by exact trivial) (by kernel_rfl) ?_
  refine qA_ev (st' := ⟨67, [(42, I ((x5.length : Int))), (41, .ref 0 0 0 1 x5.length false), (40, .ref 0 0 0 1 x5.length false), (39, A a0), (38, E v9), (0, A a0), (5, .ref 0 0 0 1 x5.length false), (7, .ptr 1 0 0), (8, I v11), (19, A a1), (20, I ((a1.length : Int))), (21, I x4)], [some ⟨0, eL x5⟩, some ⟨0, Enc.cells v9⟩]⟩) τ_ok [7] [0] 3 (by exact (And.intro (.inl (eL_frz _)) trivial)) (by kernel_rfl) ?_
  refine qA_ev (st' := ⟨67, [(44, I ((w64 (((x5.length : Int)) - v11)))), (43, I v11), (42, I ((x5.length : Int))), (41, .ref 0 0 0 1 x5.length false), (40, .ref 0 0 0 1 x5.length false), (39, A a0), (38, E v9), (0, A a0), (5, .ref 0 0 0 1 x5.length false), (7, .ptr 1 0 0), (8, I v11), (19, A a1), (20, I ((a1.length : Int))), (21, I x4)], [some ⟨0, eL x5⟩, some ⟨0, Enc.cells v9⟩]⟩) τ_ok [7] [] 2 (by exact trivial) (by kernel_rfl) ?_
  obtain ⟨v15, hv16, h⟩ := bindS h
  refine qA_E (dd := some 45) (x := .ref 0 0 ((w64 (((x5.length : Int)) - v11)).toNat * 1) 1 v15.length false) ([some ⟨0, eL x5⟩, none]) (⟨67, [(45, .ref 0 0 ((w64 (((x5.length : Int)) - v11)).toNat * 1) 1 v15.length false), (44, I ((w64 (((x5.length : Int)) - v11)))), (43, I v11), (42, I ((x5.length : Int))), (41, .ref 0 0 0 1 x5.length false), (40, .ref 0 0 0 1 x5.length false), (39, A a0), (38, E v9), (0, A a0), (5, .ref 0 0 0 1 x5.length false), (7, .ptr 1 0 0), (8, I v11), (19, A a1), (20, I ((a1.length : Int))), (21, I x4)], [some ⟨0, eL x5⟩, some ⟨0, Enc.cells v9⟩]⟩) (fun Γ' hΓ => CoreE.of_y (slrV_sound (n := x5.length) τ_ok (by kernel_rfl) rfl hv16)) (by kernel_rfl) (by kernel_rfl) (by exact (And.intro (.inl (eL_frz _)) trivial)) (.inr (.inl rfl)) (by kernel_rfl) ?_
  obtain ⟨v17, hv18, h⟩ := bindS h
  refine qA_E (dd := some 46) (x := .tup [I v17.1, B v17.2]) ([some ⟨0, eL x5⟩, none]) (⟨67, [(46, .tup [I v17.1, B v17.2]), (45, .ref 0 0 ((w64 (((x5.length : Int)) - v11)).toNat * 1) 1 v15.length false), (44, I ((w64 (((x5.length : Int)) - v11)))), (43, I v11), (42, I ((x5.length : Int))), (41, .ref 0 0 0 1 x5.length false), (40, .ref 0 0 0 1 x5.length false), (39, A a0), (38, E v9), (0, A a0), (5, .ref 0 0 0 1 x5.length false), (7, .ptr 1 0 0), (8, I v11), (19, A a1), (20, I ((a1.length : Int))), (21, I x4)], [some ⟨0, eL x5⟩, some ⟨0, Enc.cells v9⟩]⟩) (fun Γ' hΓ => CoreE.of_g (callVV_sound (xs := [E v9, A a0, .ref 0 0 ((w64 (((x5.length : Int)) - v11)).toNat * 1) 1 v15.length false]) (τ := τ) (by kernel_rfl) (ViewL.cons (View.frz rfl) (ViewL.cons (View.frz rfl) (ViewL.cons (View.ref (v := 0) (lo := (w64 (((x5.length : Int)) - v11)).toNat) x5 v15 (by kernel_rfl) (slI_view hv16) rfl) (ViewL.nil _)))) (ok_impl_Part_kind hv18) (Blind.tup (BlindL.cons (Blind.lit _) (BlindL.cons (Blind.lit _) BlindL.nil))) (FzTo.tup (FzToL.cons (FzTo.frz rfl) (FzToL.cons (FzTo.frz rfl) FzToL.nil))))) (by kernel_rfl) (by kernel_rfl) (by exact (And.intro (.inl (eL_frz _)) trivial)) (.inr (.inr rfl)) (by kernel_rfl) ?_
  refine qA_ev (st' := ⟨67, [(10, B v17.2), (9, I v17.1), (48, B v17.2), (47, I v17.1), (37, .tup [I v17.1, B v17.2]), (46, .tup [I v17.1, B v17.2]), (45, .ref 0 0 ((w64 (((x5.length : Int)) - v11)).toNat * 1) 1 v15.length false), (44, I ((w64 (((x5.length : Int)) - v11)))), (43, I v11), (42, I ((x5.length : Int))), (41, .ref 0 0 0 1 x5.length false), (40, .ref 0 0 0 1 x5.length false), (39, A a0), (38, E v9), (0, A a0), (5, .ref 0 0 0 1 x5.length false), (7, .ptr 1 0 0), (8, I v11), (19, A a1), (20, I ((a1.length : Int))), (21, I x4)], [some ⟨0, eL x5⟩, some ⟨0, Enc.cells v9⟩]⟩) τ_ok [7] [] 5 (by exact trivial) (by kernel_rfl) ?_
  refine qA_end ?_
  refine opsP_imp (Imp.to (st' := ⟨67, [(0, A a0), (5, .ref 0 0 0 1 x5.length false), (8, I v11), (9, I v17.1), (10, B v17.2), (19, A a1), (20, I ((a1.length : Int))), (21, I x4)], [some ⟨0, eL x5⟩, some ⟨0, Enc.cells v9⟩]⟩) [0, 5, 8, 9, 10, 19, 20, 21] (by kernel_rfl)) ?_
  refine opsP_end rfl ?_
  refine pwp_seq ?_
  refine srveM [7] 67 [(0, A a0), (5, .ref 0 0 0 1 x5.length false), (8, I v11), (9, I v17.1), (19, A a1), (20, I ((a1.length : Int))), (21, I x4), (50, B ((!v17.2)))] [some ⟨0, eL x5⟩, some ⟨0, Enc.cells v9⟩] ?_
  refine pc h (fun h => ?_) (fun h => ?_)
  refine srveM [7] 67 [(4, I (-1))] [some ⟨0, eL x5⟩, some ⟨0, Enc.cells v9⟩] ?_
  cases h
  exact pwp_ret rz
  refine pwp_skip ?_
  refine rvM [7] 5 67 [(0, A a0), (9, I v17.1), (19, A a1), (20, I ((a1.length : Int))), (21, I x4), (51, .ref 0 0 0 1 x5.length false), (55, I ((w64 (((x5.length : Int)) - v11))))] [some ⟨0, eL x5⟩, some ⟨0, Enc.cells v9⟩] ?_
  obtain ⟨v20, hv21, h⟩ := bindS h
  refine opsP_slr τ_ok 56 0 0 x5.length hv21 rfl (by kernel_rfl) ?_
  refine vM [7] 2 67 [(0, A a0), (19, A a1), (20, I ((a1.length : Int))), (21, I x4), (56, .ref 0 0 0 1 v20.length false), (58, .arr 1 (([v17.1] : List Int)).length (eL ([v17.1] : List Int)) true)] [some ⟨0, eL x5⟩, some ⟨0, Enc.cells v9⟩] ?_
  obtain ⟨v22, hv23, h⟩ := bindS h
  refine opsP_apt τ_ok 59 0 0 v20.length (fun b hb => absurd hb (hX b)) hv23 (slI_le hv21) (by kernel_rfl) ?_
  refine veM [7] 1 67 [(0, A a0), (5, .ref 0 1 0 1 v22.length false), (19, A a1), (20, I ((a1.length : Int))), (21, I x4)] [some ⟨1, eL v22⟩, some ⟨0, Enc.cells v9⟩] ?_
  refine rveM [7] 67 [(0, A a0), (5, .ref 0 1 0 1 v22.length false), (19, A a1), (20, I ((a1.length : Int))), (21, I ((w64 (x4 + 1))))] [some ⟨1, eL v22⟩, some ⟨0, Enc.cells v9⟩] ?_
  exact ⟨(f6, (w64 (x4 + 1)), v22), h, Nat.lt_succ_self _, (Imp.to (st' := ⟨67, [(0, A a0), (5, .ref 0 1 0 1 v22.length false), (19, A a1), (20, I ((a1.length : Int))), (21, I ((w64 (x4 + 1))))], [some ⟨1, eL v22⟩, some ⟨0, Enc.cells v9⟩]⟩) [0, 5, 19, 20, 21] (by kernel_rfl)).trans ((Imp.truncS (st' := ⟨67, [(0, A a0), (5, .ref 0 1 0 1 v22.length false), (19, A a1), (20, I ((a1.length : Int))), (21, I ((w64 (x4 + 1))))], [some ⟨1, eL v22⟩]⟩) 1 (fun b hb => absurd hb (hX b)) (by kernel_rfl) (allBelow_mem (by exact (And.intro rfl (And.intro rfl (And.intro rfl (And.intro rfl (And.intro rfl trivial))))))) (by exact (And.intro (frz_below (eL_frz _)) trivial)) (by kernel_rfl)).trans ((Imp.reverS (st' := ⟨67, [(0, A a0), (5, .ref 0 0 0 1 v22.length false), (19, A a1), (20, I ((a1.length : Int))), (21, I ((w64 (x4 + 1))))], [some ⟨0, eL v22⟩]⟩) 0 1 (eL v22) [0, 5, 19, 20, 21] (by kernel_rfl) (by exact (And.intro (eL_frz _) trivial)) (by kernel_rfl)).trans (Imp.to [0, 5, 19, 20, 21] (by kernel_rfl))))⟩
  refine pwp_exit ?_
  refine pwp_seq ?_
  refine srveM [7] 67 [(5, .ref 0 0 0 1 x5.length false), (63, B ((!(((x5.length : Int)) == 1))))] [some ⟨0, eL x5⟩] ?_
  refine pc h (fun h => ?_) (fun h => ?_)
  refine srveM [7] 67 [(4, I (-1))] [some ⟨0, eL x5⟩] ?_
  cases h
  exact pwp_ret rz
  refine pwp_skip ?_
  refine srvM [7] 1 67 [(64, .ref 0 0 0 1 x5.length false)] [some ⟨0, eL x5⟩] ?_
  obtain ⟨v28, hv29, h⟩ := bindS h
  refine opsP_idr τ_ok 65 0 0 x5.length hv29 rfl (by kernel_rfl) ?_
  refine opsP_lde (r := I v28) τ_ok 66 3 0 hv29 (by kernel_rfl) (by kernel_rfl) ?_
  refine veM [7] 1 67 [(4, I v28)] [some ⟨0, eL x5⟩] ?_
  cases h
  exact pwp_ret rz
def spec_TablesOk_j1 (x1 : Int) (K3 : Int → Option Bool) (x5 : Bool) : Option Bool := bif x5 then some false else K3 ((w64 (x1 + 1)))
def spec_TablesOk_l0 (a0 : List T_impl_Table) : Nat → Int → Option Bool
  | 0, _ => none
  | f2 + 1, x1 => bif (decide (x1 < ((a0.length : Int)))) then (getI a0 x1).bind fun v7 => bif (decide (((v7.fRows.length : Int)) > 6)) then spec_TablesOk_j1 x1 (spec_TablesOk_l0 a0 f2) true else (getI a0 x1).bind fun v9 => (getI a0 x1).bind fun v11 => (spec_RowsOk v9.fColumns v11.fRows).bind fun v13 => spec_TablesOk_j1 x1 (spec_TablesOk_l0 a0 f2) ((!v13)) else some ((decide (((a0.length : Int)) ≤ 3)))
def spec_TablesOk (a0 : List T_impl_Table) : Option Bool := spec_TablesOk_l0 a0 FUEL 0
theorem ok_spec_TablesOk {a0 : List T_impl_Table} {y : Bool} (h : spec_TablesOk a0 = some y) : OK Tryz.prog 104 [A a0] (B y) := by
  refine OK_of_pwp τ_ok Tryz.func104 rfl (by kernel_rfl) rfl fun Γ hX => ?_
  unfold spec_TablesOk at h
  refine srve 34 [(0, A a0)] [] ?_
  refine pwp_seq ?_
  refine srve 34 [(0, A a0), (3, I 0)] [] ?_
  refine pwp_block ?_
  refine pwp_loop (ι := Nat × Int) (fun (f2, x1) => (⟨34, [(0, A a0), (3, I x1)], []⟩ : St)) (fun (f2, x1) => spec_TablesOk_l0 a0 f2 x1 = some y) (fun (f2, x1) => f2) (FUEL, 0) h ((Imp.to (st' := ⟨34, [(0, A a0), (3, I 0)], []⟩) [0, 3] (by kernel_rfl)).trans (Imp.to [0, 3] (by kernel_rfl))) ?_
  rintro ⟨f2, x1⟩ h
  dsimp only at h ⊢
  rcases f2 with _ | f2
  cases h
  rw [spec_TablesOk_l0] at h
  refine pwp_seq ?_
  refine srve 34 [(0, A a0), (3, I x1), (7, B ((decide (x1 < ((a0.length : Int))))))] [] ?_
  refine pc h (fun h => ?_) (fun h => ?_)
  refine pwp_skip ?_
  refine pwp_seq ?_
  refine pwp_block ?_
  refine pwp_seq ?_
  refine pwp_join (σ := Bool) (fun x5 => (⟨34, [(0, A a0), (3, I x1), (30, B x5)], []⟩ : St)) (fun x5 => spec_TablesOk_j1 x1 (spec_TablesOk_l0 a0 f2) x5 = some y) ?_ ?_
  refine pwp_imp (Imp.to (st' := ⟨34, [(0, A a0), (3, I x1)], []⟩) [0, 3] (by kernel_rfl)) ?_
  refine pwp_any ([[], [], [], [], [], [], [], [], [], [], [], [], [], [], [], [], [], [], [], [], []]) ([[], [], [], [], [], [], [], [], [], [], [], [], [], [], [], [], [], [], [], [], []]) rfl (by kernel_rfl) ?_
  refine qA_ev (st' := ⟨34, [(11, I x1), (10, A a0), (0, A a0), (3, I x1)], []⟩) τ_ok [] [] 2 (by exact trivial) (by kernel_rfl) ?_
  obtain ⟨v7, hv8, h⟩ := bindS h
  refine qA_E (dd := some 12) (x := .fptr (Enc.cells v7) 0) ([]) (⟨34, [(12, .fptr (Enc.cells v7) 0), (11, I x1), (10, A a0), (0, A a0), (3, I x1)], []⟩) (fun Γ' hΓ => CoreE.of_y (idxV_sound τ_ok (by kernel_rfl) hv8)) (by kernel_rfl) (by kernel_rfl) (by exact trivial) (.inr (.inr rfl)) (by kernel_rfl) ?_
  refine qA_ev (st' := ⟨34, [(17, B ((decide (((v7.fRows.length : Int)) > 6)))), (16, B ((decide (((v7.fRows.length : Int)) > 6)))), (15, I ((v7.fRows.length : Int))), (14, A v7.fRows), (13, .fptr (Enc.cells v7) 1), (12, .fptr (Enc.cells v7) 0), (11, I x1), (10, A a0), (0, A a0), (3, I x1)], []⟩) τ_ok [] [] 5 (by exact trivial) (by kernel_rfl) ?_
  rcases fk ((decide (((v7.fRows.length : Int)) > 6))) with hc15 | hc15
  replace h := bT hc15 h
  rw [hc15]
  refine qA_ev (st' := ⟨34, [(30, B true), (29, .lit undef), (28, .lit undef), (27, .lit undef), (26, .lit undef), (25, .lit undef), (24, .lit undef), (23, .lit undef), (22, .lit undef), (21, .lit undef), (20, .lit undef), (19, .lit undef), (18, .lit undef), (17, B true), (16, B true), (15, I ((v7.fRows.length : Int))), (14, A v7.fRows), (13, .fptr (Enc.cells v7) 1), (12, .fptr (Enc.cells v7) 0), (11, I x1), (10, A a0), (0, A a0), (3, I x1)], []⟩) τ_ok [] [] 13 (by exact trivial) (by kernel_rfl) ?_
  refine qA_end ?_
  refine opsP_imp (Imp.to (st' := ⟨34, [(0, A a0), (3, I x1), (18, .lit undef), (19, .lit undef), (20, .lit undef), (21, .lit undef), (22, .lit undef), (23, .lit undef), (24, .lit undef), (25, .lit undef), (26, .lit undef), (27, .lit undef), (28, .lit undef), (29, .lit undef), (30, B true)], []⟩) [0, 3, 18, 19, 20, 21, 22, 23, 24, 25, 26, 27, 28, 29, 30] (by kernel_rfl)) ?_
  refine opsP_end rfl ?_
  exact ⟨true, h, (Imp.to (st' := ⟨34, [(0, A a0), (3, I x1), (30, B true)], []⟩) [0, 3, 30] (by kernel_rfl)).trans (Imp.to [0, 3, 30] (by kernel_rfl))⟩
  replace h := bF hc15 h
  rw [hc15]
  refine qA_ev (st' := ⟨34, [(19, I x1), (18, A a0), (17, B false), (16, B false), (15, I ((v7.fRows.length : Int))), (14, A v7.fRows), (13, .fptr (Enc.cells v7) 1), (12, .fptr (Enc.cells v7) 0), (11, I x1), (10, A a0), (0, A a0), (3, I x1)], []⟩) τ_ok [] [] 2 (by exact trivial) (by kernel_rfl) ?_
  obtain ⟨v9, hv10, h⟩ := bindS h
  refine qA_E (dd := some 20) (x := .fptr (Enc.cells v9) 0) ([]) (⟨34, [(20, .fptr (Enc.cells v9) 0), (19, I x1), (18, A a0), (17, B false), (16, B false), (15, I ((v7.fRows.length : Int))), (14, A v7.fRows), (13, .fptr (Enc.cells v7) 1), (12, .fptr (Enc.cells v7) 0), (11, I x1), (10, A a0), (0, A a0), (3, I x1)], []⟩) (fun Γ' hΓ => CoreE.of_y (idxV_sound τ_ok (by kernel_rfl) hv10)) (by kernel_rfl) (by kernel_rfl) (by exact trivial) (.inr (.inr rfl)) (by kernel_rfl) ?_
  refine qA_ev (st' := ⟨34, [(24, I x1), (23, A a0), (22, A v9.fColumns), (21, .fptr (Enc.cells v9) 0), (20, .fptr (Enc.cells v9) 0), (19, I x1), (18, A a0), (17, B false), (16, B false), (15, I ((v7.fRows.length : Int))), (14, A v7.fRows), (13, .fptr (Enc.cells v7) 1), (12, .fptr (Enc.cells v7) 0), (11, I x1), (10, A a0), (0, A a0), (3, I x1)], []⟩) τ_ok [] [] 4 (by exact trivial) (by kernel_rfl) ?_
  obtain ⟨v11, hv12, h⟩ := bindS h
  refine qA_E (dd := some 25) (x := .fptr (Enc.cells v11) 0) ([]) (⟨34, [(25, .fptr (Enc.cells v11) 0), (24, I x1), (23, A a0), (22, A v9.fColumns), (21, .fptr (Enc.cells v9) 0), (20, .fptr (Enc.cells v9) 0), (19, I x1), (18, A a0), (17, B false), (16, B false), (15, I ((v7.fRows.length : Int))), (14, A v7.fRows), (13, .fptr (Enc.cells v7) 1), (12, .fptr (Enc.cells v7) 0), (11, I x1), (10, A a0), (0, A a0), (3, I x1)], []⟩) (fun Γ' hΓ => CoreE.of_y (idxV_sound τ_ok (by kernel_rfl) hv12)) (by kernel_rfl) (by kernel_rfl) (by exact trivial) (.inr (.inr rfl)) (by kernel_rfl) ?_
  refine qA_ev (st' := ⟨34, [(27, A v11.fRows), (26, .fptr (Enc.cells v11) 1), (25, .fptr (Enc.cells v11) 0), (24, I x1), (23, A a0), (22, A v9.fColumns), (21, .fptr (Enc.cells v9) 0), (20, .fptr (Enc.cells v9) 0), (19, I x1), (18, A a0), (17, B false), (16, B false), (15, I ((v7.fRows.length : Int))), (14, A v7.fRows), (13, .fptr (Enc.cells v7) 1), (12, .fptr (Enc.cells v7) 0), (11, I x1), (10, A a0), (0, A a0), (3, I x1)], []⟩) τ_ok [] [] 2 (by exact trivial) (by kernel_rfl) ?_
  obtain ⟨v13, hv14, h⟩ := bindS h
  refine qA_E (dd := some 28) (x := B v13) ([]) (⟨34, [(28, B v13), (27, A v11.fRows), (26, .fptr (Enc.cells v11) 1), (25, .fptr (Enc.cells v11) 0), (24, I x1), (23, A a0), (22, A v9.fColumns), (21, .fptr (Enc.cells v9) 0), (20, .fptr (Enc.cells v9) 0), (19, I x1), (18, A a0), (17, B false), (16, B false), (15, I ((v7.fRows.length : Int))), (14, A v7.fRows), (13, .fptr (Enc.cells v7) 1), (12, .fptr (Enc.cells v7) 0), (11, I x1), (10, A a0), (0, A a0), (3, I x1)], []⟩) (fun Γ' hΓ => CoreE.of_g (callV_sound (τ := τ) (by kernel_rfl) rfl (ok_spec_RowsOk hv14) (FzTo.frz rfl))) (by kernel_rfl) (by kernel_rfl) (by exact trivial) (.inr (.inr rfl)) (by kernel_rfl) ?_
  refine qA_ev (st' := ⟨34, [(30, B ((!v13))), (29, B ((!v13))), (28, B v13), (27, A v11.fRows), (26, .fptr (Enc.cells v11) 1), (25, .fptr (Enc.cells v11) 0), (24, I x1), (23, A a0), (22, A v9.fColumns), (21, .fptr (Enc.cells v9) 0), (20, .fptr (Enc.cells v9) 0), (19, I x1), (18, A a0), (17, B false), (16, B false), (15, I ((v7.fRows.length : Int))), (14, A v7.fRows), (13, .fptr (Enc.cells v7) 1), (12, .fptr (Enc.cells v7) 0), (11, I x1), (10, A a0), (0, A a0), (3, I x1)], []⟩) τ_ok [] [] 2 (by exact trivial) (by kernel_rfl) ?_
  refine qA_end ?_
  refine opsP_imp (Imp.to (st' := ⟨34, [(0, A a0), (3, I x1), (18, A a0), (19, I x1), (20, .fptr (Enc.cells v9) 0), (21, .fptr (Enc.cells v9) 0), (22, A v9.fColumns), (23, A a0), (24, I x1), (25, .fptr (Enc.cells v11) 0), (26, .fptr (Enc.cells v11) 1), (27, A v11.fRows), (28, B v13), (29, B ((!v13))), (30, B ((!v13)))], []⟩) [0, 3, 18, 19, 20, 21, 22, 23, 24, 25, 26, 27, 28, 29, 30] (by kernel_rfl)) ?_
  refine opsP_end rfl ?_
  exact ⟨(!v13), h, (Imp.to (st' := ⟨34, [(0, A a0), (3, I x1), (30, B ((!v13)))], []⟩) [0, 3, 30] (by kernel_rfl)).trans (Imp.to [0, 3, 30] (by kernel_rfl))⟩
  rintro x5 h
  unfold spec_TablesOk_j1 at h
  refine pc h (fun h => ?_) (fun h => ?_)
  refine srve 34 [(2, B false)] [] ?_
  cases h
  exact pwp_ret rz
  refine pwp_skip ?_
  refine rve 34 [(0, A a0), (3, I ((w64 (x1 + 1))))] [] ?_
  exact ⟨(f2, (w64 (x1 + 1))), h, Nat.lt_succ_self _, (Imp.to (st' := ⟨34, [(0, A a0), (3, I ((w64 (x1 + 1))))], []⟩) [0, 3] (by kernel_rfl)).trans (Imp.to [0, 3] (by kernel_rfl))⟩
  refine pwp_exit ?_
  refine srve 34 [(2, B ((decide (((a0.length : Int)) ≤ 3))))] [] ?_
  cases h
  exact pwp_ret rz
def impl_bondOk_l2 (a0 : List T_impl_Table) (a1 : T_impl_Bond) (v4 : T_impl_Table) : Nat → Int → Option Bool
  | 0, _ => none
  | f22 + 1, x21 => bif (decide (x21 < ((a1.fList.length : Int)))) then (getI a1.fList x21).bind fun v25 => (getI v4.fColumns v25).bind fun v27 => (getI a0 a1.fOf).bind fun v29 => (getI a1.fTo x21).bind fun v31 => (getI v29.fColumns v31).bind fun v33 => bif (!(v27.fKind == v33.fKind)) then some false else (impl_bondOk_l2 a0 a1 v4 f22) ((w64 (x21 + 1))) else some true
def impl_bondOk_j1 (a0 : List T_impl_Table) (a1 : T_impl_Bond) (v4 : T_impl_Table) (x18 : Bool) : Option Bool := bif x18 then some false else impl_bondOk_l2 a0 a1 v4 FUEL 0
def impl_bondOk_j0 (a0 : List T_impl_Table) (a1 : T_impl_Bond) (v4 : T_impl_Table) (x6 : Bool) : Option Bool := bif (a1.fKind == 1) then (impl_listOk v4 a1.fList).bind fun v8 => bif v8 then bif x6 then some ((((a1.fE.length : Int)) == 0)) else some false else some false else bif (a1.fKind == 3) then (impl_ExprKind v4.fColumns a1.fE).bind fun v13 => bif (v13 == 3) then bif x6 then some ((((a1.fList.length : Int)) == 0)) else some false else some false else bif (a1.fKind == 2) then (impl_between a1.fOf 0 ((w64 (((a0.length : Int)) - 1)))).bind fun v36 => bif (!v36) then impl_bondOk_j1 a0 a1 v4 true else bif (decide (((a1.fE.length : Int)) > 0)) then impl_bondOk_j1 a0 a1 v4 true else (impl_listOk v4 a1.fList).bind fun v38 => bif (!v38) then impl_bondOk_j1 a0 a1 v4 true else (getI a0 a1.fOf).bind fun v40 => (impl_listOk v40 a1.fTo).bind fun v42 => bif (!v42) then impl_bondOk_j1 a0 a1 v4 true else impl_bondOk_j1 a0 a1 v4 ((!(((a1.fTo.length : Int)) == ((a1.fList.length : Int))))) else some false
def impl_bondOk (a0 : List T_impl_Table) (a1 : T_impl_Bond) : Option Bool := (impl_between a1.fIn 0 ((w64 (((a0.length : Int)) - 1)))).bind fun v1 => bif (!v1) then some false else (getI a0 a1.fIn).bind fun v4 => bif (a1.fOf == 0) then bif (((a1.fTo.length : Int)) == 0) then impl_bondOk_j0 a0 a1 v4 ((!a1.fFollow)) else impl_bondOk_j0 a0 a1 v4 false else impl_bondOk_j0 a0 a1 v4 false
theorem ok_impl_bondOk {a0 : List T_impl_Table} {a1 : T_impl_Bond} {y : Bool} (h : impl_bondOk a0 a1 = some y) : OK Tryz.prog 114 [A a0, E a1] (B y) := by
  refine OK_of_pwp τ_ok Tryz.func114 rfl (by kernel_rfl) rfl fun Γ hX => ?_
  unfold impl_bondOk at h
  refine srveM [5] 141 [(0, A a0), (3, .fptr (Enc.cells a1) 0)] [] ?_
  refine pwp_seq ?_
  refine srvM [5] 5 141 [(0, A a0), (3, .fptr (Enc.cells a1) 0), (10, I a1.fIn), (13, I ((w64 (((a0.length : Int)) - 1))))] [] ?_
  obtain ⟨v1, hv2, h⟩ := bindS h
  refine opsP_callF τ 14 (ok_impl_between hv2) (FzTo.frz rfl) rfl (by kernel_rfl) ?_
  refine veM [5] 1 141 [(0, A a0), (3, .fptr (Enc.cells a1) 0), (15, B ((!v1)))] [] ?_
  refine pc h (fun h => ?_) (fun h => ?_)
  refine srveM [5] 141 [(4, B false)] [] ?_
  cases h
  exact pwp_ret rz
  refine pwp_skip ?_
  refine srvM [5] 3 141 [(0, A a0), (3, .fptr (Enc.cells a1) 0), (16, A a0), (18, I a1.fIn)] [] ?_
  obtain ⟨v4, hv5, h⟩ := bindS h
  refine opsP_idx τ_ok 19 hv5 (by kernel_rfl) ?_
  refine veM [5] 3 141 [(0, A a0), (3, .fptr (Enc.cells a1) 0), (5, .ptr 0 0 0)] [some ⟨0, Enc.cells v4⟩] ?_
  refine pwp_seq ?_
  refine pwp_join (σ := Bool) (fun x6 => (⟨141, [(0, A a0), (3, .fptr (Enc.cells a1) 0), (5, .ptr 0 0 0), (6, B x6)], [some ⟨0, Enc.cells v4⟩]⟩ : St)) (fun x6 => impl_bondOk_j0 a0 a1 v4 x6 = some y) ?_ ?_
  refine rvM [5] 4 141 [(0, A a0), (3, .fptr (Enc.cells a1) 0), (5, .ptr 0 0 0), (24, B ((a1.fOf == 0)))] [some ⟨0, Enc.cells v4⟩] ?_
  rcases fk ((a1.fOf == 0)) with hc49 | hc49
  replace h := bT hc49 h
  rw [hc49]
  refine vM [5] 6 141 [(0, A a0), (3, .fptr (Enc.cells a1) 0), (5, .ptr 0 0 0), (30, B ((((a1.fTo.length : Int)) == 0)))] [some ⟨0, Enc.cells v4⟩] ?_
  rcases fk ((((a1.fTo.length : Int)) == 0)) with hc48 | hc48
  replace h := bT hc48 h
  rw [hc48]
  refine veM [5] 5 141 [(0, A a0), (3, .fptr (Enc.cells a1) 0), (5, .ptr 0 0 0), (6, B ((!a1.fFollow)))] [some ⟨0, Enc.cells v4⟩] ?_
  exact ⟨(!a1.fFollow), h, (Imp.to (st' := ⟨141, [(0, A a0), (3, .fptr (Enc.cells a1) 0), (5, .ptr 0 0 0), (6, B ((!a1.fFollow)))], [some ⟨0, Enc.cells v4⟩]⟩) [0, 3, 5, 6] (by kernel_rfl)).trans (Imp.to [0, 3, 5, 6] (by kernel_rfl))⟩
  replace h := bF hc48 h
  rw [hc48]
  refine veM [5] 5 141 [(0, A a0), (3, .fptr (Enc.cells a1) 0), (5, .ptr 0 0 0), (6, B false)] [some ⟨0, Enc.cells v4⟩] ?_
  exact ⟨false, h, (Imp.to (st' := ⟨141, [(0, A a0), (3, .fptr (Enc.cells a1) 0), (5, .ptr 0 0 0), (6, B false)], [some ⟨0, Enc.cells v4⟩]⟩) [0, 3, 5, 6] (by kernel_rfl)).trans (Imp.to [0, 3, 5, 6] (by kernel_rfl))⟩
  replace h := bF hc49 h
  rw [hc49]
  refine veM [5] 11 141 [(0, A a0), (3, .fptr (Enc.cells a1) 0), (5, .ptr 0 0 0), (6, B false)] [some ⟨0, Enc.cells v4⟩] ?_
  exact ⟨false, h, (Imp.to (st' := ⟨141, [(0, A a0), (3, .fptr (Enc.cells a1) 0), (5, .ptr 0 0 0), (6, B false)], [some ⟨0, Enc.cells v4⟩]⟩) [0, 3, 5, 6] (by kernel_rfl)).trans (Imp.to [0, 3, 5, 6] (by kernel_rfl))⟩
  rintro x6 h
  unfold impl_bondOk_j0 at h
  refine pwp_seq ?_
  refine srveM [5] 141 [(0, A a0), (3, .fptr (Enc.cells a1) 0), (5, .ptr 0 0 0), (6, B x6), (36, I a1.fKind)] [some ⟨0, Enc.cells v4⟩] ?_
  refine pwp_block ?_
  refine srveM [5] 141 [(0, A a0), (3, .fptr (Enc.cells a1) 0), (5, .ptr 0 0 0), (6, B x6), (36, I a1.fKind), (37, B ((a1.fKind == 1)))] [some ⟨0, Enc.cells v4⟩] ?_
  refine pc h (fun h => ?_) (fun h => ?_)
  refine srvM [5] 3 141 [(3, .fptr (Enc.cells a1) 0), (6, B x6), (39, E v4), (41, A a1.fList)] [some ⟨0, Enc.cells v4⟩] ?_
  obtain ⟨v8, hv9, h⟩ := bindS h
  refine opsP_callF τ 42 (ok_impl_listOk hv9) (FzTo.frz rfl) rfl (by kernel_rfl) ?_
  refine vM [5] 1 141 [(3, .fptr (Enc.cells a1) 0), (6, B x6), (43, B v8)] [some ⟨0, Enc.cells v4⟩] ?_
  rcases Bool.eq_false_or_eq_true v8 with hc11 | hc11
  replace h := bT hc11 h
  rw [hc11]
  refine vM [5] 3 141 [(3, .fptr (Enc.cells a1) 0), (46, B x6)] [some ⟨0, Enc.cells v4⟩] ?_
  rcases Bool.eq_false_or_eq_true x6 with hc10 | hc10
  replace h := bT hc10 h
  rw [hc10]
  refine veM [5] 6 141 [(4, B ((((a1.fE.length : Int)) == 0)))] [some ⟨0, Enc.cells v4⟩] ?_
  cases h
  exact pwp_ret rz
  replace h := bF hc10 h
  rw [hc10]
  refine veM [5] 6 141 [(4, B false)] [some ⟨0, Enc.cells v4⟩] ?_
  cases h
  exact pwp_ret rz
  replace h := bF hc11 h
  rw [hc11]
  refine veM [5] 9 141 [(4, B false)] [some ⟨0, Enc.cells v4⟩] ?_
  cases h
  exact pwp_ret rz
  refine srveM [5] 141 [(0, A a0), (3, .fptr (Enc.cells a1) 0), (5, .ptr 0 0 0), (6, B x6), (36, I a1.fKind), (52, B ((a1.fKind == 3)))] [some ⟨0, Enc.cells v4⟩] ?_
  refine pc h (fun h => ?_) (fun h => ?_)
  refine srvM [5] 4 141 [(3, .fptr (Enc.cells a1) 0), (6, B x6), (55, A v4.fColumns), (57, A a1.fE)] [some ⟨0, Enc.cells v4⟩] ?_
  obtain ⟨v13, hv14, h⟩ := bindS h
  refine opsP_callF τ 58 (ok_impl_ExprKind hv14) (FzTo.frz rfl) rfl (by kernel_rfl) ?_
  refine vM [5] 2 141 [(3, .fptr (Enc.cells a1) 0), (6, B x6), (60, B ((v13 == 3)))] [some ⟨0, Enc.cells v4⟩] ?_
  rcases fk ((v13 == 3)) with hc16 | hc16
  replace h := bT hc16 h
  rw [hc16]
  refine vM [5] 3 141 [(3, .fptr (Enc.cells a1) 0), (63, B x6)] [some ⟨0, Enc.cells v4⟩] ?_
  rcases Bool.eq_false_or_eq_true x6 with hc15 | hc15
  replace h := bT hc15 h
  rw [hc15]
  refine veM [5] 6 141 [(4, B ((((a1.fList.length : Int)) == 0)))] [some ⟨0, Enc.cells v4⟩] ?_
  cases h
  exact pwp_ret rz
  replace h := bF hc15 h
  rw [hc15]
  refine veM [5] 6 141 [(4, B false)] [some ⟨0, Enc.cells v4⟩] ?_
  cases h
  exact pwp_ret rz
  replace h := bF hc16 h
  rw [hc16]
  refine veM [5] 9 141 [(4, B false)] [some ⟨0, Enc.cells v4⟩] ?_
  cases h
  exact pwp_ret rz
  refine srveM [5] 141 [(0, A a0), (3, .fptr (Enc.cells a1) 0), (5, .ptr 0 0 0), (69, B ((a1.fKind == 2)))] [some ⟨0, Enc.cells v4⟩] ?_
  refine pc h (fun h => ?_) (fun h => ?_)
  refine pwp_seq ?_
  refine pwp_seq ?_
  refine pwp_join (σ := Bool) (fun x18 => (⟨141, [(0, A a0), (3, .fptr (Enc.cells a1) 0), (5, .ptr 0 0 0), (110, B x18)], [some ⟨0, Enc.cells v4⟩]⟩ : St)) (fun x18 => impl_bondOk_j1 a0 a1 v4 x18 = some y) ?_ ?_
  refine pwp_imp (Imp.to (st' := ⟨141, [(0, A a0), (3, .fptr (Enc.cells a1) 0), (5, .ptr 0 0 0)], [some ⟨0, Enc.cells v4⟩]⟩) [0, 3, 5] (by kernel_rfl)) ?_
  refine pwp_any ([[], [], [], [], [], [], [], [], [], [], [], [], [], [], [0], [], [], [], [], [], [], [], [], [], [], [], [], [], [], [], [], [], [], [], [], [], [], [], [], []]) ([[], [], [], [], [], [], [], [], [], [], [], [], [], [], [], [], [], [], [], [], [], [], [], [], [], [], [], [], [], [], [], [], [], [], [], [], [], [], [], []]) rfl (by kernel_rfl) ?_
  refine qA_ev (st' := ⟨141, [(75, I ((w64 (((a0.length : Int)) - 1)))), (74, I ((a0.length : Int))), (73, A a0), (72, I a1.fOf), (71, .fptr (Enc.cells a1) 3), (0, A a0), (3, .fptr (Enc.cells a1) 0), (5, .ptr 0 0 0)], [some ⟨0, Enc.cells v4⟩]⟩) τ_ok [5] [] 5 (by exact trivial) (by kernel_rfl) ?_
  obtain ⟨v36, hv37, h⟩ := bindS h
  refine qA_E (dd := some 76) (x := B v36) ([none]) (⟨141, [(76, B v36), (75, I ((w64 (((a0.length : Int)) - 1)))), (74, I ((a0.length : Int))), (73, A a0), (72, I a1.fOf), (71, .fptr (Enc.cells a1) 3), (0, A a0), (3, .fptr (Enc.cells a1) 0), (5, .ptr 0 0 0)], [some ⟨0, Enc.cells v4⟩]⟩) (fun Γ' hΓ => CoreE.of_g (callV_sound (τ := τ) (by kernel_rfl) rfl (ok_impl_between hv37) (FzTo.frz rfl))) (by kernel_rfl) (by kernel_rfl) (by exact trivial) (.inr (.inr rfl)) (by kernel_rfl) ?_
  refine qA_ev (st' := ⟨141, [(78, B ((!v36))), (77, B ((!v36))), (76, B v36), (75, I ((w64 (((a0.length : Int)) - 1)))), (74, I ((a0.length : Int))), (73, A a0), (72, I a1.fOf), (71, .fptr (Enc.cells a1) 3), (0, A a0), (3, .fptr (Enc.cells a1) 0), (5, .ptr 0 0 0)], [some ⟨0, Enc.cells v4⟩]⟩) τ_ok [5] [] 2 (by exact trivial) (by kernel_rfl) ?_
  rcases fk ((!v36)) with hc47 | hc47
  replace h := bT hc47 h
  rw [hc47]
  refine qA_ev (st' := ⟨141, [(84, B true), (83, B true), (82, .lit undef), (81, .lit undef), (80, .lit undef), (79, .lit undef), (78, B true), (77, B true), (76, B v36), (75, I ((w64 (((a0.length : Int)) - 1)))), (74, I ((a0.length : Int))), (73, A a0), (72, I a1.fOf), (71, .fptr (Enc.cells a1) 3), (0, A a0), (3, .fptr (Enc.cells a1) 0), (5, .ptr 0 0 0)], [some ⟨0, Enc.cells v4⟩]⟩) τ_ok [5] [] 6 (by exact trivial) (by kernel_rfl) ?_
  refine qA_ev (st' := ⟨141, [(85, .lit undef), (84, B true), (83, B true), (82, .lit undef), (81, .lit undef), (80, .lit undef), (79, .lit undef), (78, B true), (77, B true), (76, B v36), (75, I ((w64 (((a0.length : Int)) - 1)))), (74, I ((a0.length : Int))), (73, A a0), (72, I a1.fOf), (71, .fptr (Enc.cells a1) 3), (0, A a0), (3, .fptr (Enc.cells a1) 0), (5, .ptr 0 0 0)], [some ⟨0, Enc.cells v4⟩]⟩) τ_ok [5] [0] 1 (by exact (And.intro (.inl (Enc.frz _)) trivial)) (by kernel_rfl) ?_
  refine qA_ev (st' := ⟨141, [(110, B true), (109, .lit undef), (108, .lit undef), (107, .lit undef), (106, .lit undef), (105, .lit undef), (104, .lit undef), (103, .lit undef), (102, B true), (101, B true), (100, .lit undef), (99, .lit undef), (98, .lit undef), (97, .lit undef), (96, .lit undef), (95, .lit undef), (94, .lit undef), (93, .lit undef), (92, .lit undef), (91, B true), (90, B true), (89, .lit undef), (88, .lit undef), (87, .lit undef), (86, .lit undef), (85, .lit undef), (84, B true), (83, B true), (82, .lit undef), (81, .lit undef), (80, .lit undef), (79, .lit undef), (78, B true), (77, B true), (76, B v36), (75, I ((w64 (((a0.length : Int)) - 1)))), (74, I ((a0.length : Int))), (73, A a0), (72, I a1.fOf), (71, .fptr (Enc.cells a1) 3), (0, A a0), (3, .fptr (Enc.cells a1) 0), (5, .ptr 0 0 0)], [some ⟨0, Enc.cells v4⟩]⟩) τ_ok [5] [] 25 (by exact trivial) (by kernel_rfl) ?_
  refine qA_end ?_
  refine opsP_imp (Imp.to (st' := ⟨141, [(0, A a0), (3, .fptr (Enc.cells a1) 0), (5, .ptr 0 0 0), (110, B true)], [some ⟨0, Enc.cells v4⟩]⟩) [0, 3, 5, 110] (by kernel_rfl)) ?_
  refine opsP_end rfl ?_
  exact ⟨true, h, (Imp.to (st' := ⟨141, [(0, A a0), (3, .fptr (Enc.cells a1) 0), (5, .ptr 0 0 0), (110, B true)], [some ⟨0, Enc.cells v4⟩]⟩) [0, 3, 5, 110] (by kernel_rfl)).trans (Imp.to [0, 3, 5, 110] (by kernel_rfl))⟩
  replace h := bF hc47 h
  rw [hc47]
  refine qA_ev (st' := ⟨141, [(84, B ((decide (((a1.fE.length : Int)) > 0)))), (83, B ((decide (((a1.fE.length : Int)) > 0)))), (82, B ((decide (((a1.fE.length : Int)) > 0)))), (81, I ((a1.fE.length : Int))), (80, A a1.fE), (79, .fptr (Enc.cells a1) 6), (78, B false), (77, B false), (76, B v36), (75, I ((w64 (((a0.length : Int)) - 1)))), (74, I ((a0.length : Int))), (73, A a0), (72, I a1.fOf), (71, .fptr (Enc.cells a1) 3), (0, A a0), (3, .fptr (Enc.cells a1) 0), (5, .ptr 0 0 0)], [some ⟨0, Enc.cells v4⟩]⟩) τ_ok [5] [] 6 (by exact trivial) (by kernel_rfl) ?_
  rcases fk ((decide (((a1.fE.length : Int)) > 0))) with hc46 | hc46
  replace h := bT hc46 h
  rw [hc46]
  refine qA_ev (st' := ⟨141, [(85, .lit undef), (84, B true), (83, B true), (82, B true), (81, I ((a1.fE.length : Int))), (80, A a1.fE), (79, .fptr (Enc.cells a1) 6), (78, B false), (77, B false), (76, B v36), (75, I ((w64 (((a0.length : Int)) - 1)))), (74, I ((a0.length : Int))), (73, A a0), (72, I a1.fOf), (71, .fptr (Enc.cells a1) 3), (0, A a0), (3, .fptr (Enc.cells a1) 0), (5, .ptr 0 0 0)], [some ⟨0, Enc.cells v4⟩]⟩) τ_ok [5] [0] 1 (by exact (And.intro (.inl (Enc.frz _)) trivial)) (by kernel_rfl) ?_
  refine qA_ev (st' := ⟨141, [(110, B true), (109, .lit undef), (108, .lit undef), (107, .lit undef), (106, .lit undef), (105, .lit undef), (104, .lit undef), (103, .lit undef), (102, B true), (101, B true), (100, .lit undef), (99, .lit undef), (98, .lit undef), (97, .lit undef), (96, .lit undef), (95, .lit undef), (94, .lit undef), (93, .lit undef), (92, .lit undef), (91, B true), (90, B true), (89, .lit undef), (88, .lit undef), (87, .lit undef), (86, .lit undef), (85, .lit undef), (84, B true), (83, B true), (82, B true), (81, I ((a1.fE.length : Int))), (80, A a1.fE), (79, .fptr (Enc.cells a1) 6), (78, B false), (77, B false), (76, B v36), (75, I ((w64 (((a0.length : Int)) - 1)))), (74, I ((a0.length : Int))), (73, A a0), (72, I a1.fOf), (71, .fptr (Enc.cells a1) 3), (0, A a0), (3, .fptr (Enc.cells a1) 0), (5, .ptr 0 0 0)], [some ⟨0, Enc.cells v4⟩]⟩) τ_ok [5] [] 25 (by exact trivial) (by kernel_rfl) ?_
  refine qA_end ?_
  refine opsP_imp (Imp.to (st' := ⟨141, [(0, A a0), (3, .fptr (Enc.cells a1) 0), (5, .ptr 0 0 0), (110, B true)], [some ⟨0, Enc.cells v4⟩]⟩) [0, 3, 5, 110] (by kernel_rfl)) ?_
  refine opsP_end rfl ?_
  exact ⟨true, h, (Imp.to (st' := ⟨141, [(0, A a0), (3, .fptr (Enc.cells a1) 0), (5, .ptr 0 0 0), (110, B true)], [some ⟨0, Enc.cells v4⟩]⟩) [0, 3, 5, 110] (by kernel_rfl)).trans (Imp.to [0, 3, 5, 110] (by kernel_rfl))⟩
  replace h := bF hc46 h
  rw [hc46]
  refine qA_ev (st' := ⟨141, [(85, E v4), (84, B false), (83, B false), (82, B false), (81, I ((a1.fE.length : Int))), (80, A a1.fE), (79, .fptr (Enc.cells a1) 6), (78, B false), (77, B false), (76, B v36), (75, I ((w64 (((a0.length : Int)) - 1)))), (74, I ((a0.length : Int))), (73, A a0), (72, I a1.fOf), (71, .fptr (Enc.cells a1) 3), (0, A a0), (3, .fptr (Enc.cells a1) 0), (5, .ptr 0 0 0)], [some ⟨0, Enc.cells v4⟩]⟩) τ_ok [5] [0] 1 (by exact (And.intro (.inl (Enc.frz _)) trivial)) (by kernel_rfl) ?_
  refine qA_ev (st' := ⟨141, [(87, A a1.fList), (86, .fptr (Enc.cells a1) 2), (85, E v4), (84, B false), (83, B false), (82, B false), (81, I ((a1.fE.length : Int))), (80, A a1.fE), (79, .fptr (Enc.cells a1) 6), (78, B false), (77, B false), (76, B v36), (75, I ((w64 (((a0.length : Int)) - 1)))), (74, I ((a0.length : Int))), (73, A a0), (72, I a1.fOf), (71, .fptr (Enc.cells a1) 3), (0, A a0), (3, .fptr (Enc.cells a1) 0), (5, .ptr 0 0 0)], [some ⟨0, Enc.cells v4⟩]⟩) τ_ok [5] [] 2 (by exact trivial) (by kernel_rfl) ?_
  obtain ⟨v38, hv39, h⟩ := bindS h
  refine qA_E (dd := some 88) (x := B v38) ([none]) (⟨141, [(88, B v38), (87, A a1.fList), (86, .fptr (Enc.cells a1) 2), (85, E v4), (84, B false), (83, B false), (82, B false), (81, I ((a1.fE.length : Int))), (80, A a1.fE), (79, .fptr (Enc.cells a1) 6), (78, B false), (77, B false), (76, B v36), (75, I ((w64 (((a0.length : Int)) - 1)))), (74, I ((a0.length : Int))), (73, A a0), (72, I a1.fOf), (71, .fptr (Enc.cells a1) 3), (0, A a0), (3, .fptr (Enc.cells a1) 0), (5, .ptr 0 0 0)], [some ⟨0, Enc.cells v4⟩]⟩) (fun Γ' hΓ => CoreE.of_g (callV_sound (τ := τ) (by kernel_rfl) rfl (ok_impl_listOk hv39) (FzTo.frz rfl))) (by kernel_rfl) (by kernel_rfl) (by exact trivial) (.inr (.inr rfl)) (by kernel_rfl) ?_
  refine qA_ev (st' := ⟨141, [(91, B ((!v38))), (90, B ((!v38))), (89, B ((!v38))), (88, B v38), (87, A a1.fList), (86, .fptr (Enc.cells a1) 2), (85, E v4), (84, B false), (83, B false), (82, B false), (81, I ((a1.fE.length : Int))), (80, A a1.fE), (79, .fptr (Enc.cells a1) 6), (78, B false), (77, B false), (76, B v36), (75, I ((w64 (((a0.length : Int)) - 1)))), (74, I ((a0.length : Int))), (73, A a0), (72, I a1.fOf), (71, .fptr (Enc.cells a1) 3), (0, A a0), (3, .fptr (Enc.cells a1) 0), (5, .ptr 0 0 0)], [some ⟨0, Enc.cells v4⟩]⟩) τ_ok [5] [] 3 (by exact trivial) (by kernel_rfl) ?_
  rcases fk ((!v38)) with hc45 | hc45
  replace h := bT hc45 h
  rw [hc45]
  refine qA_ev (st' := ⟨141, [(110, B true), (109, .lit undef), (108, .lit undef), (107, .lit undef), (106, .lit undef), (105, .lit undef), (104, .lit undef), (103, .lit undef), (102, B true), (101, B true), (100, .lit undef), (99, .lit undef), (98, .lit undef), (97, .lit undef), (96, .lit undef), (95, .lit undef), (94, .lit undef), (93, .lit undef), (92, .lit undef), (91, B true), (90, B true), (89, B true), (88, B v38), (87, A a1.fList), (86, .fptr (Enc.cells a1) 2), (85, E v4), (84, B false), (83, B false), (82, B false), (81, I ((a1.fE.length : Int))), (80, A a1.fE), (79, .fptr (Enc.cells a1) 6), (78, B false), (77, B false), (76, B v36), (75, I ((w64 (((a0.length : Int)) - 1)))), (74, I ((a0.length : Int))), (73, A a0), (72, I a1.fOf), (71, .fptr (Enc.cells a1) 3), (0, A a0), (3, .fptr (Enc.cells a1) 0), (5, .ptr 0 0 0)], [some ⟨0, Enc.cells v4⟩]⟩) τ_ok [5] [] 19 (by exact trivial) (by kernel_rfl) ?_
  refine qA_end ?_
  refine opsP_imp (Imp.to (st' := ⟨141, [(0, A a0), (3, .fptr (Enc.cells a1) 0), (5, .ptr 0 0 0), (110, B true)], [some ⟨0, Enc.cells v4⟩]⟩) [0, 3, 5, 110] (by kernel_rfl)) ?_
  refine opsP_end rfl ?_
  exact ⟨true, h, (Imp.to (st' := ⟨141, [(0, A a0), (3, .fptr (Enc.cells a1) 0), (5, .ptr 0 0 0), (110, B true)], [some ⟨0, Enc.cells v4⟩]⟩) [0, 3, 5, 110] (by kernel_rfl)).trans (Imp.to [0, 3, 5, 110] (by kernel_rfl))⟩
  replace h := bF hc45 h
  rw [hc45]
  refine qA_ev (st' := ⟨141, [(94, I a1.fOf), (93, .fptr (Enc.cells a1) 3), (92, A a0), (91, B false), (90, B false), (89, B false), (88, B v38), (87, A a1.fList), (86, .fptr (Enc.cells a1) 2), (85, E v4), (84, B false), (83, B false), (82, B false), (81, I ((a1.fE.length : Int))), (80, A a1.fE), (79, .fptr (Enc.cells a1) 6), (78, B false), (77, B false), (76, B v36), (75, I ((w64 (((a0.length : Int)) - 1)))), (74, I ((a0.length : Int))), (73, A a0), (72, I a1.fOf), (71, .fptr (Enc.cells a1) 3), (0, A a0), (3, .fptr (Enc.cells a1) 0), (5, .ptr 0 0 0)], [some ⟨0, Enc.cells v4⟩]⟩) τ_ok [5] [] 3 (by exact trivial) (by kernel_rfl) ?_
  obtain ⟨v40, hv41, h⟩ := bindS h
  refine qA_E (dd := some 95) (x := .fptr (Enc.cells v40) 0) ([none]) (⟨141, [(95, .fptr (Enc.cells v40) 0), (94, I a1.fOf), (93, .fptr (Enc.cells a1) 3), (92, A a0), (91, B false), (90, B false), (89, B false), (88, B v38), (87, A a1.fList), (86, .fptr (Enc.cells a1) 2), (85, E v4), (84, B false), (83, B false), (82, B false), (81, I ((a1.fE.length : Int))), (80, A a1.fE), (79, .fptr (Enc.cells a1) 6), (78, B false), (77, B false), (76, B v36), (75, I ((w64 (((a0.length : Int)) - 1)))), (74, I ((a0.length : Int))), (73, A a0), (72, I a1.fOf), (71, .fptr (Enc.cells a1) 3), (0, A a0), (3, .fptr (Enc.cells a1) 0), (5, .ptr 0 0 0)], [some ⟨0, Enc.cells v4⟩]⟩) (fun Γ' hΓ => CoreE.of_y (idxV_sound τ_ok (by kernel_rfl) hv41)) (by kernel_rfl) (by kernel_rfl) (by exact trivial) (.inr (.inr rfl)) (by kernel_rfl) ?_
  refine qA_ev (st' := ⟨141, [(98, A a1.fTo), (97, .fptr (Enc.cells a1) 4), (96, E v40), (95, .fptr (Enc.cells v40) 0), (94, I a1.fOf), (93, .fptr (Enc.cells a1) 3), (92, A a0), (91, B false), (90, B false), (89, B false), (88, B v38), (87, A a1.fList), (86, .fptr (Enc.cells a1) 2), (85, E v4), (84, B false), (83, B false), (82, B false), (81, I ((a1.fE.length : Int))), (80, A a1.fE), (79, .fptr (Enc.cells a1) 6), (78, B false), (77, B false), (76, B v36), (75, I ((w64 (((a0.length : Int)) - 1)))), (74, I ((a0.length : Int))), (73, A a0), (72, I a1.fOf), (71, .fptr (Enc.cells a1) 3), (0, A a0), (3, .fptr (Enc.cells a1) 0), (5, .ptr 0 0 0)], [some ⟨0, Enc.cells v4⟩]⟩) τ_ok [5] [] 3 (by exact trivial) (by kernel_rfl) ?_
  obtain ⟨v42, hv43, h⟩ := bindS h
  refine qA_E (dd := some 99) (x := B v42) ([none]) (⟨141, [(99, B v42), (98, A a1.fTo), (97, .fptr (Enc.cells a1) 4), (96, E v40), (95, .fptr (Enc.cells v40) 0), (94, I a1.fOf), (93, .fptr (Enc.cells a1) 3), (92, A a0), (91, B false), (90, B false), (89, B false), (88, B v38), (87, A a1.fList), (86, .fptr (Enc.cells a1) 2), (85, E v4), (84, B false), (83, B false), (82, B false), (81, I ((a1.fE.length : Int))), (80, A a1.fE), (79, .fptr (Enc.cells a1) 6), (78, B false), (77, B false), (76, B v36), (75, I ((w64 (((a0.length : Int)) - 1)))), (74, I ((a0.length : Int))), (73, A a0), (72, I a1.fOf), (71, .fptr (Enc.cells a1) 3), (0, A a0), (3, .fptr (Enc.cells a1) 0), (5, .ptr 0 0 0)], [some ⟨0, Enc.cells v4⟩]⟩) (fun Γ' hΓ => CoreE.of_g (callV_sound (τ := τ) (by kernel_rfl) rfl (ok_impl_listOk hv43) (FzTo.frz rfl))) (by kernel_rfl) (by kernel_rfl) (by exact trivial) (.inr (.inr rfl)) (by kernel_rfl) ?_
  refine qA_ev (st' := ⟨141, [(102, B ((!v42))), (101, B ((!v42))), (100, B ((!v42))), (99, B v42), (98, A a1.fTo), (97, .fptr (Enc.cells a1) 4), (96, E v40), (95, .fptr (Enc.cells v40) 0), (94, I a1.fOf), (93, .fptr (Enc.cells a1) 3), (92, A a0), (91, B false), (90, B false), (89, B false), (88, B v38), (87, A a1.fList), (86, .fptr (Enc.cells a1) 2), (85, E v4), (84, B false), (83, B false), (82, B false), (81, I ((a1.fE.length : Int))), (80, A a1.fE), (79, .fptr (Enc.cells a1) 6), (78, B false), (77, B false), (76, B v36), (75, I ((w64 (((a0.length : Int)) - 1)))), (74, I ((a0.length : Int))), (73, A a0), (72, I a1.fOf), (71, .fptr (Enc.cells a1) 3), (0, A a0), (3, .fptr (Enc.cells a1) 0), (5, .ptr 0 0 0)], [some ⟨0, Enc.cells v4⟩]⟩) τ_ok [5] [] 3 (by exact trivial) (by kernel_rfl) ?_
  rcases fk ((!v42)) with hc44 | hc44
  replace h := bT hc44 h
  rw [hc44]
  refine qA_ev (st' := ⟨141, [(110, B true), (109, .lit undef), (108, .lit undef), (107, .lit undef), (106, .lit undef), (105, .lit undef), (104, .lit undef), (103, .lit undef), (102, B true), (101, B true), (100, B true), (99, B v42), (98, A a1.fTo), (97, .fptr (Enc.cells a1) 4), (96, E v40), (95, .fptr (Enc.cells v40) 0), (94, I a1.fOf), (93, .fptr (Enc.cells a1) 3), (92, A a0), (91, B false), (90, B false), (89, B false), (88, B v38), (87, A a1.fList), (86, .fptr (Enc.cells a1) 2), (85, E v4), (84, B false), (83, B false), (82, B false), (81, I ((a1.fE.length : Int))), (80, A a1.fE), (79, .fptr (Enc.cells a1) 6), (78, B false), (77, B false), (76, B v36), (75, I ((w64 (((a0.length : Int)) - 1)))), (74, I ((a0.length : Int))), (73, A a0), (72, I a1.fOf), (71, .fptr (Enc.cells a1) 3), (0, A a0), (3, .fptr (Enc.cells a1) 0), (5, .ptr 0 0 0)], [some ⟨0, Enc.cells v4⟩]⟩) τ_ok [5] [] 8 (by exact trivial) (by kernel_rfl) ?_
  refine qA_end ?_
  refine opsP_imp (Imp.to (st' := ⟨141, [(0, A a0), (3, .fptr (Enc.cells a1) 0), (5, .ptr 0 0 0), (110, B true)], [some ⟨0, Enc.cells v4⟩]⟩) [0, 3, 5, 110] (by kernel_rfl)) ?_
  refine opsP_end rfl ?_
  exact ⟨true, h, (Imp.to (st' := ⟨141, [(0, A a0), (3, .fptr (Enc.cells a1) 0), (5, .ptr 0 0 0), (110, B true)], [some ⟨0, Enc.cells v4⟩]⟩) [0, 3, 5, 110] (by kernel_rfl)).trans (Imp.to [0, 3, 5, 110] (by kernel_rfl))⟩
  replace h := bF hc44 h
  rw [hc44]
  refine qA_ev (st' := ⟨141, [(110, B ((!(((a1.fTo.length : Int)) == ((a1.fList.length : Int)))))), (109, B ((!(((a1.fTo.length : Int)) == ((a1.fList.length : Int)))))), (108, I ((a1.fList.length : Int))), (107, A a1.fList), (106, .fptr (Enc.cells a1) 2), (105, I ((a1.fTo.length : Int))), (104, A a1.fTo), (103, .fptr (Enc.cells a1) 4), (102, B false), (101, B false), (100, B false), (99, B v42), (98, A a1.fTo), (97, .fptr (Enc.cells a1) 4), (96, E v40), (95, .fptr (Enc.cells v40) 0), (94, I a1.fOf), (93, .fptr (Enc.cells a1) 3), (92, A a0), (91, B false), (90, B false), (89, B false), (88, B v38), (87, A a1.fList), (86, .fptr (Enc.cells a1) 2), (85, E v4), (84, B false), (83, B false), (82, B false), (81, I ((a1.fE.length : Int))), (80, A a1.fE), (79, .fptr (Enc.cells a1) 6), (78, B false), (77, B false), (76, B v36), (75, I ((w64 (((a0.length : Int)) - 1)))), (74, I ((a0.length : Int))), (73, A a0), (72, I a1.fOf), (71, .fptr (Enc.cells a1) 3), (0, A a0), (3, .fptr (Enc.cells a1) 0), (5, .ptr 0 0 0)], [some ⟨0, Enc.cells v4⟩]⟩) τ_ok [5] [] 8 (by exact trivial) (by kernel_rfl) ?_
  refine qA_end ?_
  refine opsP_imp (Imp.to (st' := ⟨141, [(0, A a0), (3, .fptr (Enc.cells a1) 0), (5, .ptr 0 0 0), (110, B ((!(((a1.fTo.length : Int)) == ((a1.fList.length : Int))))))], [some ⟨0, Enc.cells v4⟩]⟩) [0, 3, 5, 110] (by kernel_rfl)) ?_
  refine opsP_end rfl ?_
  exact ⟨(!(((a1.fTo.length : Int)) == ((a1.fList.length : Int)))), h, (Imp.to (st' := ⟨141, [(0, A a0), (3, .fptr (Enc.cells a1) 0), (5, .ptr 0 0 0), (110, B ((!(((a1.fTo.length : Int)) == ((a1.fList.length : Int))))))], [some ⟨0, Enc.cells v4⟩]⟩) [0, 3, 5, 110] (by kernel_rfl)).trans (Imp.to [0, 3, 5, 110] (by kernel_rfl))⟩
  rintro x18 h
  unfold impl_bondOk_j1 at h
  refine pc h (fun h => ?_) (fun h => ?_)
  refine srveM [5] 141 [(4, B false)] [some ⟨0, Enc.cells v4⟩] ?_
  cases h
  exact pwp_ret rz
  refine pwp_skip ?_
  refine pwp_seq ?_
  refine srveM [5] 141 [(0, A a0), (3, .fptr (Enc.cells a1) 0), (5, .ptr 0 0 0), (112, A a1.fList), (113, I ((a1.fList.length : Int))), (114, I 0)] [some ⟨0, Enc.cells v4⟩] ?_
  refine pwp_block ?_
  refine pwp_loop (ι := Nat × Int) (fun (f22, x21) => (⟨141, [(0, A a0), (3, .fptr (Enc.cells a1) 0), (5, .ptr 0 0 0), (112, A a1.fList), (113, I ((a1.fList.length : Int))), (114, I x21)], [some ⟨0, Enc.cells v4⟩]⟩ : St)) (fun (f22, x21) => impl_bondOk_l2 a0 a1 v4 f22 x21 = some y) (fun (f22, x21) => f22) (FUEL, 0) h ((Imp.to (st' := ⟨141, [(0, A a0), (3, .fptr (Enc.cells a1) 0), (5, .ptr 0 0 0), (112, A a1.fList), (113, I ((a1.fList.length : Int))), (114, I 0)], [some ⟨0, Enc.cells v4⟩]⟩) [0, 3, 5, 112, 113, 114] (by kernel_rfl)).trans (Imp.to [0, 3, 5, 112, 113, 114] (by kernel_rfl))) ?_
  rintro ⟨f22, x21⟩ h
  dsimp only at h ⊢
  rcases f22 with _ | f22
  cases h
  rw [impl_bondOk_l2] at h
  refine srveM [5] 141 [(0, A a0), (3, .fptr (Enc.cells a1) 0), (5, .ptr 0 0 0), (112, A a1.fList), (113, I ((a1.fList.length : Int))), (114, I x21), (115, B ((decide (x21 < ((a1.fList.length : Int))))))] [some ⟨0, Enc.cells v4⟩] ?_
  refine pwp_seq ?_
  refine pc h (fun h => ?_) (fun h => ?_)
  refine pwp_skip ?_
  refine pwp_seq ?_
  refine pwp_block ?_
  refine srvM [5] 1 141 [(0, A a0), (3, .fptr (Enc.cells a1) 0), (5, .ptr 0 0 0), (112, A a1.fList), (113, I ((a1.fList.length : Int))), (114, I x21), (116, I x21)] [some ⟨0, Enc.cells v4⟩] ?_
  obtain ⟨v25, hv26, h⟩ := bindS h
  refine opsP_idx τ_ok 117 hv26 (by kernel_rfl) ?_
  refine veM [5] 3 141 [(0, A a0), (3, .fptr (Enc.cells a1) 0), (5, .ptr 0 0 0), (7, I x21), (8, I v25), (112, A a1.fList), (113, I ((a1.fList.length : Int))), (114, I x21)] [some ⟨0, Enc.cells v4⟩] ?_
  refine pwp_seq ?_
  refine pwp_imp (Imp.to (st' := ⟨141, [(0, A a0), (3, .fptr (Enc.cells a1) 0), (5, .ptr 0 0 0), (7, I x21), (8, I v25), (112, A a1.fList), (113, I ((a1.fList.length : Int))), (114, I x21)], [some ⟨0, Enc.cells v4⟩]⟩) [0, 3, 5, 7, 8, 112, 113, 114] (by kernel_rfl)) ?_
  refine pwp_any ([[0], [0], [], [], [], [], [], [], [], [], [], [], [], [], [], [], [], [], [], [], []]) ([[], [], [], [], [], [], [], [], [], [], [], [], [], [], [], [], [], [], [], [], []]) rfl (by kernel_rfl) ?_
  refine qA_ev (st' := ⟨141, [(120, A v4.fColumns), (119, .ptr 0 0 0), (0, A a0), (3, .fptr (Enc.cells a1) 0), (5, .ptr 0 0 0), (7, I x21), (8, I v25), (112, A a1.fList), (113, I ((a1.fList.length : Int))), (114, I x21)], [some ⟨0, Enc.cells v4⟩]⟩) τ_ok [5] [0] 2 (by exact (And.intro (.inl (Enc.frz _)) trivial)) (by kernel_rfl) ?_
  refine qA_ev (st' := ⟨141, [(121, I v25), (120, A v4.fColumns), (119, .ptr 0 0 0), (0, A a0), (3, .fptr (Enc.cells a1) 0), (5, .ptr 0 0 0), (7, I x21), (8, I v25), (112, A a1.fList), (113, I ((a1.fList.length : Int))), (114, I x21)], [some ⟨0, Enc.cells v4⟩]⟩) τ_ok [5] [] 1 (by exact trivial) (by kernel_rfl) ?_
  obtain ⟨v27, hv28, h⟩ := bindS h
  refine qA_E (dd := some 122) (x := .fptr (Enc.cells v27) 0) ([none]) (⟨141, [(122, .fptr (Enc.cells v27) 0), (121, I v25), (120, A v4.fColumns), (119, .ptr 0 0 0), (0, A a0), (3, .fptr (Enc.cells a1) 0), (5, .ptr 0 0 0), (7, I x21), (8, I v25), (112, A a1.fList), (113, I ((a1.fList.length : Int))), (114, I x21)], [some ⟨0, Enc.cells v4⟩]⟩) (fun Γ' hΓ => CoreE.of_y (idxV_sound τ_ok (by kernel_rfl) hv28)) (by kernel_rfl) (by kernel_rfl) (by exact trivial) (.inr (.inr rfl)) (by kernel_rfl) ?_
  refine qA_ev (st' := ⟨141, [(127, I a1.fOf), (126, .fptr (Enc.cells a1) 3), (125, A a0), (124, I v27.fKind), (123, .fptr (Enc.cells v27) 0), (122, .fptr (Enc.cells v27) 0), (121, I v25), (120, A v4.fColumns), (119, .ptr 0 0 0), (0, A a0), (3, .fptr (Enc.cells a1) 0), (5, .ptr 0 0 0), (7, I x21), (8, I v25), (112, A a1.fList), (113, I ((a1.fList.length : Int))), (114, I x21)], [some ⟨0, Enc.cells v4⟩]⟩) τ_ok [5] [] 5 (by exact trivial) (by kernel_rfl) ?_
  obtain ⟨v29, hv30, h⟩ := bindS h
  refine qA_E (dd := some 128) (x := .fptr (Enc.cells v29) 0) ([none]) (⟨141, [(128, .fptr (Enc.cells v29) 0), (127, I a1.fOf), (126, .fptr (Enc.cells a1) 3), (125, A a0), (124, I v27.fKind), (123, .fptr (Enc.cells v27) 0), (122, .fptr (Enc.cells v27) 0), (121, I v25), (120, A v4.fColumns), (119, .ptr 0 0 0), (0, A a0), (3, .fptr (Enc.cells a1) 0), (5, .ptr 0 0 0), (7, I x21), (8, I v25), (112, A a1.fList), (113, I ((a1.fList.length : Int))), (114, I x21)], [some ⟨0, Enc.cells v4⟩]⟩) (fun Γ' hΓ => CoreE.of_y (idxV_sound τ_ok (by kernel_rfl) hv30)) (by kernel_rfl) (by kernel_rfl) (by exact trivial) (.inr (.inr rfl)) (by kernel_rfl) ?_
  refine qA_ev (st' := ⟨141, [(133, I x21), (132, A a1.fTo), (131, .fptr (Enc.cells a1) 4), (130, A v29.fColumns), (129, .fptr (Enc.cells v29) 0), (128, .fptr (Enc.cells v29) 0), (127, I a1.fOf), (126, .fptr (Enc.cells a1) 3), (125, A a0), (124, I v27.fKind), (123, .fptr (Enc.cells v27) 0), (122, .fptr (Enc.cells v27) 0), (121, I v25), (120, A v4.fColumns), (119, .ptr 0 0 0), (0, A a0), (3, .fptr (Enc.cells a1) 0), (5, .ptr 0 0 0), (7, I x21), (8, I v25), (112, A a1.fList), (113, I ((a1.fList.length : Int))), (114, I x21)], [some ⟨0, Enc.cells v4⟩]⟩) τ_ok [5] [] 5 (by exact trivial) (by kernel_rfl) ?_
  obtain ⟨v31, hv32, h⟩ := bindS h
  refine qA_E (dd := some 134) (x := .fptr (Enc.cells v31) 0) ([none]) (⟨141, [(134, .fptr (Enc.cells v31) 0), (133, I x21), (132, A a1.fTo), (131, .fptr (Enc.cells a1) 4), (130, A v29.fColumns), (129, .fptr (Enc.cells v29) 0), (128, .fptr (Enc.cells v29) 0), (127, I a1.fOf), (126, .fptr (Enc.cells a1) 3), (125, A a0), (124, I v27.fKind), (123, .fptr (Enc.cells v27) 0), (122, .fptr (Enc.cells v27) 0), (121, I v25), (120, A v4.fColumns), (119, .ptr 0 0 0), (0, A a0), (3, .fptr (Enc.cells a1) 0), (5, .ptr 0 0 0), (7, I x21), (8, I v25), (112, A a1.fList), (113, I ((a1.fList.length : Int))), (114, I x21)], [some ⟨0, Enc.cells v4⟩]⟩) (fun Γ' hΓ => CoreE.of_y (idxV_sound τ_ok (by kernel_rfl) hv32)) (by kernel_rfl) (by kernel_rfl) (by exact trivial) (.inr (.inr rfl)) (by kernel_rfl) ?_
  refine qA_ev (st' := ⟨141, [(135, I v31), (134, .fptr (Enc.cells v31) 0), (133, I x21), (132, A a1.fTo), (131, .fptr (Enc.cells a1) 4), (130, A v29.fColumns), (129, .fptr (Enc.cells v29) 0), (128, .fptr (Enc.cells v29) 0), (127, I a1.fOf), (126, .fptr (Enc.cells a1) 3), (125, A a0), (124, I v27.fKind), (123, .fptr (Enc.cells v27) 0), (122, .fptr (Enc.cells v27) 0), (121, I v25), (120, A v4.fColumns), (119, .ptr 0 0 0), (0, A a0), (3, .fptr (Enc.cells a1) 0), (5, .ptr 0 0 0), (7, I x21), (8, I v25), (112, A a1.fList), (113, I ((a1.fList.length : Int))), (114, I x21)], [some ⟨0, Enc.cells v4⟩]⟩) τ_ok [5] [] 1 (by exact trivial) (by kernel_rfl) ?_
  obtain ⟨v33, hv34, h⟩ := bindS h
  refine qA_E (dd := some 136) (x := .fptr (Enc.cells v33) 0) ([none]) (⟨141, [(136, .fptr (Enc.cells v33) 0), (135, I v31), (134, .fptr (Enc.cells v31) 0), (133, I x21), (132, A a1.fTo), (131, .fptr (Enc.cells a1) 4), (130, A v29.fColumns), (129, .fptr (Enc.cells v29) 0), (128, .fptr (Enc.cells v29) 0), (127, I a1.fOf), (126, .fptr (Enc.cells a1) 3), (125, A a0), (124, I v27.fKind), (123, .fptr (Enc.cells v27) 0), (122, .fptr (Enc.cells v27) 0), (121, I v25), (120, A v4.fColumns), (119, .ptr 0 0 0), (0, A a0), (3, .fptr (Enc.cells a1) 0), (5, .ptr 0 0 0), (7, I x21), (8, I v25), (112, A a1.fList), (113, I ((a1.fList.length : Int))), (114, I x21)], [some ⟨0, Enc.cells v4⟩]⟩) (fun Γ' hΓ => CoreE.of_y (idxV_sound τ_ok (by kernel_rfl) hv34)) (by kernel_rfl) (by kernel_rfl) (by exact trivial) (.inr (.inr rfl)) (by kernel_rfl) ?_
  refine qA_ev (st' := ⟨141, [(139, B ((!(v27.fKind == v33.fKind)))), (138, I v33.fKind), (137, .fptr (Enc.cells v33) 0), (136, .fptr (Enc.cells v33) 0), (135, I v31), (134, .fptr (Enc.cells v31) 0), (133, I x21), (132, A a1.fTo), (131, .fptr (Enc.cells a1) 4), (130, A v29.fColumns), (129, .fptr (Enc.cells v29) 0), (128, .fptr (Enc.cells v29) 0), (127, I a1.fOf), (126, .fptr (Enc.cells a1) 3), (125, A a0), (124, I v27.fKind), (123, .fptr (Enc.cells v27) 0), (122, .fptr (Enc.cells v27) 0), (121, I v25), (120, A v4.fColumns), (119, .ptr 0 0 0), (0, A a0), (3, .fptr (Enc.cells a1) 0), (5, .ptr 0 0 0), (7, I x21), (8, I v25), (112, A a1.fList), (113, I ((a1.fList.length : Int))), (114, I x21)], [some ⟨0, Enc.cells v4⟩]⟩) τ_ok [5] [] 3 (by exact trivial) (by kernel_rfl) ?_
  refine qA_end ?_
  refine opsP_imp (Imp.to (st' := ⟨141, [(0, A a0), (3, .fptr (Enc.cells a1) 0), (5, .ptr 0 0 0), (112, A a1.fList), (113, I ((a1.fList.length : Int))), (114, I x21), (139, B ((!(v27.fKind == v33.fKind))))], [some ⟨0, Enc.cells v4⟩]⟩) [0, 3, 5, 112, 113, 114, 139] (by kernel_rfl)) ?_
  refine opsP_end rfl ?_
  refine pc h (fun h => ?_) (fun h => ?_)
  refine srveM [5] 141 [(4, B false)] [some ⟨0, Enc.cells v4⟩] ?_
  cases h
  exact pwp_ret rz
  refine pwp_skip ?_
  refine rveM [5] 141 [(0, A a0), (3, .fptr (Enc.cells a1) 0), (5, .ptr 0 0 0), (112, A a1.fList), (113, I ((a1.fList.length : Int))), (114, I ((w64 (x21 + 1))))] [some ⟨0, Enc.cells v4⟩] ?_
  exact ⟨(f22, (w64 (x21 + 1))), h, Nat.lt_succ_self _, (Imp.to (st' := ⟨141, [(0, A a0), (3, .fptr (Enc.cells a1) 0), (5, .ptr 0 0 0), (112, A a1.fList), (113, I ((a1.fList.length : Int))), (114, I ((w64 (x21 + 1))))], [some ⟨0, Enc.cells v4⟩]⟩) [0, 3, 5, 112, 113, 114] (by kernel_rfl)).trans (Imp.to [0, 3, 5, 112, 113, 114] (by kernel_rfl))⟩
  refine pwp_exit ?_
  refine srveM [5] 141 [(4, B true)] [some ⟨0, Enc.cells v4⟩] ?_
  cases h
  exact pwp_ret rz
  refine pwp_skip ?_
  refine srveM [5] 141 [(4, B false)] [some ⟨0, Enc.cells v4⟩] ?_
  cases h
  exact pwp_ret rz
def impl_RowsOk (a0 : List T_impl_Column) (a1 : List (List T_impl_Value)) : Option Bool := (impl_ColumnsOk a0).bind fun v1 => bif v1 then (slices_ContainsFunc_impl_Value_impl_Value_s3 a1 (fun z0 => impl_RowsOk_1 z0 a0)).bind fun v3 => some ((!v3)) else some false
theorem ok_impl_RowsOk {a0 : List T_impl_Column} {a1 : List (List T_impl_Value)} {y : Bool} (h : impl_RowsOk a0 a1 = some y) : OK Tryz.prog 145 [A a0, A a1] (B y) := by
  refine OK_of_pwp τ_ok Tryz.func145 rfl (by kernel_rfl) rfl fun Γ hX => ?_
  unfold impl_RowsOk at h
  refine srve 13 [(1, A a1), (2, .fptr (Enc.cells a0) 0)] [] ?_
  refine srv 1 13 [(1, A a1), (2, .fptr (Enc.cells a0) 0), (5, A a0)] [] ?_
  obtain ⟨v1, hv2, h⟩ := bindS h
  refine opsP_callF τ 6 (ok_impl_ColumnsOk hv2) (FzTo.frz rfl) rfl (by kernel_rfl) ?_
  refine v 1 13 [(1, A a1), (2, .fptr (Enc.cells a0) 0), (7, B v1)] [] ?_
  rcases Bool.eq_false_or_eq_true v1 with hc5 | hc5
  replace h := bT hc5 h
  rw [hc5]
  refine v 2 13 [(7, B true), (8, A a1), (9, .fn 182 [.fptr (Enc.cells a0) 0])] [] ?_
  obtain ⟨v3, hv4, h⟩ := bindS h
  refine opsP_callF τ 10 (ok_slices_ContainsFunc_impl_Value_impl_Value_s3 (rfl) (fun _ w hw => ok_impl_RowsOk_1 hw) hv4) (FzTo.frz rfl) rfl (by kernel_rfl) ?_
  refine ve 3 13 [(4, B ((!v3)))] [] ?_
  cases h
  exact pwp_ret rz
  replace h := bF hc5 h
  rw [hc5]
  refine ve 6 13 [(4, B false)] [] ?_
  cases h
  exact pwp_ret rz
def spec_ChangeOk_j0 (a0 : List T_impl_Table) (a1 : T_impl_Change) (x1 : Bool) : Option Bool := bif x1 then some false else (getI a0 a1.fIn).bind fun v3 => bif a1.fCome then some ((decide (((v3.fRows.length : Int)) < 6))) else (spec_RowMany v3.fRows a1.fRow).bind fun v6 => some ((decide (v6 > 0)))
def spec_ChangeOk (a0 : List T_impl_Table) (a1 : T_impl_Change) : Option Bool := (spec_TablesOk a0).bind fun v8 => bif (!v8) then spec_ChangeOk_j0 a0 a1 true else (spec_l1In a1.fIn 0 ((w64 (((a0.length : Int)) - 1)))).bind fun v10 => bif (!v10) then spec_ChangeOk_j0 a0 a1 true else (getI a0 a1.fIn).bind fun v12 => (spec_RowFits v12.fColumns a1.fRow).bind fun v14 => spec_ChangeOk_j0 a0 a1 ((!v14))
theorem ok_spec_ChangeOk {a0 : List T_impl_Table} {a1 : T_impl_Change} {y : Bool} (h : spec_ChangeOk a0 a1 = some y) : OK Tryz.prog 60 [A a0, E a1] (B y) := by
  refine OK_of_pwp τ_ok Tryz.func60 rfl (by kernel_rfl) rfl fun Γ hX => ?_
  unfold spec_ChangeOk at h
  refine srve 46 [(0, A a0), (3, .fptr (Enc.cells a1) 0)] [] ?_
  refine pwp_seq ?_
  refine pwp_seq ?_
  refine pwp_join (σ := Bool) (fun x1 => (⟨46, [(0, A a0), (3, .fptr (Enc.cells a1) 0), (29, B x1)], []⟩ : St)) (fun x1 => spec_ChangeOk_j0 a0 a1 x1 = some y) ?_ ?_
  refine pwp_imp (Imp.to (st' := ⟨46, [(0, A a0), (3, .fptr (Enc.cells a1) 0)], []⟩) [0, 3] (by kernel_rfl)) ?_
  refine pwp_any ([[], [], [], [], [], [], [], [], [], [], [], [], [], [], [], [], [], [], [], [], [], [], [], []]) ([[], [], [], [], [], [], [], [], [], [], [], [], [], [], [], [], [], [], [], [], [], [], [], []]) rfl (by kernel_rfl) ?_
  refine qA_ev (st' := ⟨46, [(6, A a0), (0, A a0), (3, .fptr (Enc.cells a1) 0)], []⟩) τ_ok [] [] 1 (by exact trivial) (by kernel_rfl) ?_
  obtain ⟨v8, hv9, h⟩ := bindS h
  refine qA_E (dd := some 7) (x := B v8) ([]) (⟨46, [(7, B v8), (6, A a0), (0, A a0), (3, .fptr (Enc.cells a1) 0)], []⟩) (fun Γ' hΓ => CoreE.of_g (callV_sound (τ := τ) (by kernel_rfl) rfl (ok_spec_TablesOk hv9) (FzTo.frz rfl))) (by kernel_rfl) (by kernel_rfl) (by exact trivial) (.inr (.inr rfl)) (by kernel_rfl) ?_
  refine qA_ev (st' := ⟨46, [(9, B ((!v8))), (8, B ((!v8))), (7, B v8), (6, A a0), (0, A a0), (3, .fptr (Enc.cells a1) 0)], []⟩) τ_ok [] [] 2 (by exact trivial) (by kernel_rfl) ?_
  rcases fk ((!v8)) with hc17 | hc17
  replace h := bT hc17 h
  rw [hc17]
  refine qA_ev (st' := ⟨46, [(29, B true), (28, .lit undef), (27, .lit undef), (26, .lit undef), (25, .lit undef), (24, .lit undef), (23, .lit undef), (22, .lit undef), (21, .lit undef), (20, .lit undef), (19, .lit undef), (18, B true), (17, B true), (16, .lit undef), (15, .lit undef), (14, .lit undef), (13, .lit undef), (12, .lit undef), (11, .lit undef), (10, .lit undef), (9, B true), (8, B true), (7, B v8), (6, A a0), (0, A a0), (3, .fptr (Enc.cells a1) 0)], []⟩) τ_ok [] [] 20 (by exact trivial) (by kernel_rfl) ?_
  refine qA_end ?_
  refine opsP_imp (Imp.to (st' := ⟨46, [(0, A a0), (3, .fptr (Enc.cells a1) 0), (29, B true)], []⟩) [0, 3, 29] (by kernel_rfl)) ?_
  refine opsP_end rfl ?_
  exact ⟨true, h, (Imp.to (st' := ⟨46, [(0, A a0), (3, .fptr (Enc.cells a1) 0), (29, B true)], []⟩) [0, 3, 29] (by kernel_rfl)).trans (Imp.to [0, 3, 29] (by kernel_rfl))⟩
  replace h := bF hc17 h
  rw [hc17]
  refine qA_ev (st' := ⟨46, [(14, I ((w64 (((a0.length : Int)) - 1)))), (13, I ((a0.length : Int))), (12, A a0), (11, I a1.fIn), (10, .fptr (Enc.cells a1) 0), (9, B false), (8, B false), (7, B v8), (6, A a0), (0, A a0), (3, .fptr (Enc.cells a1) 0)], []⟩) τ_ok [] [] 5 (by exact trivial) (by kernel_rfl) ?_
  obtain ⟨v10, hv11, h⟩ := bindS h
  refine qA_E (dd := some 15) (x := B v10) ([]) (⟨46, [(15, B v10), (14, I ((w64 (((a0.length : Int)) - 1)))), (13, I ((a0.length : Int))), (12, A a0), (11, I a1.fIn), (10, .fptr (Enc.cells a1) 0), (9, B false), (8, B false), (7, B v8), (6, A a0), (0, A a0), (3, .fptr (Enc.cells a1) 0)], []⟩) (fun Γ' hΓ => CoreE.of_g (callV_sound (τ := τ) (by kernel_rfl) rfl (ok_spec_l1In hv11) (FzTo.frz rfl))) (by kernel_rfl) (by kernel_rfl) (by exact trivial) (.inr (.inr rfl)) (by kernel_rfl) ?_
  refine qA_ev (st' := ⟨46, [(18, B ((!v10))), (17, B ((!v10))), (16, B ((!v10))), (15, B v10), (14, I ((w64 (((a0.length : Int)) - 1)))), (13, I ((a0.length : Int))), (12, A a0), (11, I a1.fIn), (10, .fptr (Enc.cells a1) 0), (9, B false), (8, B false), (7, B v8), (6, A a0), (0, A a0), (3, .fptr (Enc.cells a1) 0)], []⟩) τ_ok [] [] 3 (by exact trivial) (by kernel_rfl) ?_
  rcases fk ((!v10)) with hc16 | hc16
  replace h := bT hc16 h
  rw [hc16]
  refine qA_ev (st' := ⟨46, [(29, B true), (28, .lit undef), (27, .lit undef), (26, .lit undef), (25, .lit undef), (24, .lit undef), (23, .lit undef), (22, .lit undef), (21, .lit undef), (20, .lit undef), (19, .lit undef), (18, B true), (17, B true), (16, B true), (15, B v10), (14, I ((w64 (((a0.length : Int)) - 1)))), (13, I ((a0.length : Int))), (12, A a0), (11, I a1.fIn), (10, .fptr (Enc.cells a1) 0), (9, B false), (8, B false), (7, B v8), (6, A a0), (0, A a0), (3, .fptr (Enc.cells a1) 0)], []⟩) τ_ok [] [] 11 (by exact trivial) (by kernel_rfl) ?_
  refine qA_end ?_
  refine opsP_imp (Imp.to (st' := ⟨46, [(0, A a0), (3, .fptr (Enc.cells a1) 0), (29, B true)], []⟩) [0, 3, 29] (by kernel_rfl)) ?_
  refine opsP_end rfl ?_
  exact ⟨true, h, (Imp.to (st' := ⟨46, [(0, A a0), (3, .fptr (Enc.cells a1) 0), (29, B true)], []⟩) [0, 3, 29] (by kernel_rfl)).trans (Imp.to [0, 3, 29] (by kernel_rfl))⟩
  replace h := bF hc16 h
  rw [hc16]
  refine qA_ev (st' := ⟨46, [(21, I a1.fIn), (20, .fptr (Enc.cells a1) 0), (19, A a0), (18, B false), (17, B false), (16, B false), (15, B v10), (14, I ((w64 (((a0.length : Int)) - 1)))), (13, I ((a0.length : Int))), (12, A a0), (11, I a1.fIn), (10, .fptr (Enc.cells a1) 0), (9, B false), (8, B false), (7, B v8), (6, A a0), (0, A a0), (3, .fptr (Enc.cells a1) 0)], []⟩) τ_ok [] [] 3 (by exact trivial) (by kernel_rfl) ?_
  obtain ⟨v12, hv13, h⟩ := bindS h
  refine qA_E (dd := some 22) (x := .fptr (Enc.cells v12) 0) ([]) (⟨46, [(22, .fptr (Enc.cells v12) 0), (21, I a1.fIn), (20, .fptr (Enc.cells a1) 0), (19, A a0), (18, B false), (17, B false), (16, B false), (15, B v10), (14, I ((w64 (((a0.length : Int)) - 1)))), (13, I ((a0.length : Int))), (12, A a0), (11, I a1.fIn), (10, .fptr (Enc.cells a1) 0), (9, B false), (8, B false), (7, B v8), (6, A a0), (0, A a0), (3, .fptr (Enc.cells a1) 0)], []⟩) (fun Γ' hΓ => CoreE.of_y (idxV_sound τ_ok (by kernel_rfl) hv13)) (by kernel_rfl) (by kernel_rfl) (by exact trivial) (.inr (.inr rfl)) (by kernel_rfl) ?_
  refine qA_ev (st' := ⟨46, [(26, A a1.fRow), (25, .fptr (Enc.cells a1) 1), (24, A v12.fColumns), (23, .fptr (Enc.cells v12) 0), (22, .fptr (Enc.cells v12) 0), (21, I a1.fIn), (20, .fptr (Enc.cells a1) 0), (19, A a0), (18, B false), (17, B false), (16, B false), (15, B v10), (14, I ((w64 (((a0.length : Int)) - 1)))), (13, I ((a0.length : Int))), (12, A a0), (11, I a1.fIn), (10, .fptr (Enc.cells a1) 0), (9, B false), (8, B false), (7, B v8), (6, A a0), (0, A a0), (3, .fptr (Enc.cells a1) 0)], []⟩) τ_ok [] [] 4 (by exact trivial) (by kernel_rfl) ?_
  obtain ⟨v14, hv15, h⟩ := bindS h
  refine qA_E (dd := some 27) (x := B v14) ([]) (⟨46, [(27, B v14), (26, A a1.fRow), (25, .fptr (Enc.cells a1) 1), (24, A v12.fColumns), (23, .fptr (Enc.cells v12) 0), (22, .fptr (Enc.cells v12) 0), (21, I a1.fIn), (20, .fptr (Enc.cells a1) 0), (19, A a0), (18, B false), (17, B false), (16, B false), (15, B v10), (14, I ((w64 (((a0.length : Int)) - 1)))), (13, I ((a0.length : Int))), (12, A a0), (11, I a1.fIn), (10, .fptr (Enc.cells a1) 0), (9, B false), (8, B false), (7, B v8), (6, A a0), (0, A a0), (3, .fptr (Enc.cells a1) 0)], []⟩) (fun Γ' hΓ => CoreE.of_g (callV_sound (τ := τ) (by kernel_rfl) rfl (ok_spec_RowFits hv15) (FzTo.frz rfl))) (by kernel_rfl) (by kernel_rfl) (by exact trivial) (.inr (.inr rfl)) (by kernel_rfl) ?_
  refine qA_ev (st' := ⟨46, [(29, B ((!v14))), (28, B ((!v14))), (27, B v14), (26, A a1.fRow), (25, .fptr (Enc.cells a1) 1), (24, A v12.fColumns), (23, .fptr (Enc.cells v12) 0), (22, .fptr (Enc.cells v12) 0), (21, I a1.fIn), (20, .fptr (Enc.cells a1) 0), (19, A a0), (18, B false), (17, B false), (16, B false), (15, B v10), (14, I ((w64 (((a0.length : Int)) - 1)))), (13, I ((a0.length : Int))), (12, A a0), (11, I a1.fIn), (10, .fptr (Enc.cells a1) 0), (9, B false), (8, B false), (7, B v8), (6, A a0), (0, A a0), (3, .fptr (Enc.cells a1) 0)], []⟩) τ_ok [] [] 2 (by exact trivial) (by kernel_rfl) ?_
  refine qA_end ?_
  refine opsP_imp (Imp.to (st' := ⟨46, [(0, A a0), (3, .fptr (Enc.cells a1) 0), (29, B ((!v14)))], []⟩) [0, 3, 29] (by kernel_rfl)) ?_
  refine opsP_end rfl ?_
  exact ⟨(!v14), h, (Imp.to (st' := ⟨46, [(0, A a0), (3, .fptr (Enc.cells a1) 0), (29, B ((!v14)))], []⟩) [0, 3, 29] (by kernel_rfl)).trans (Imp.to [0, 3, 29] (by kernel_rfl))⟩
  rintro x1 h
  unfold spec_ChangeOk_j0 at h
  refine pc h (fun h => ?_) (fun h => ?_)
  refine srve 46 [(4, B false)] [] ?_
  cases h
  exact pwp_ret rz
  refine pwp_skip ?_
  refine srv 3 46 [(3, .fptr (Enc.cells a1) 0), (30, A a0), (32, I a1.fIn)] [] ?_
  obtain ⟨v3, hv4, h⟩ := bindS h
  refine opsP_idx τ_ok 33 hv4 (by kernel_rfl) ?_
  refine ve 3 46 [(3, .fptr (Enc.cells a1) 0), (5, A v3.fRows)] [] ?_
  refine pwp_seq ?_
  refine srve 46 [(3, .fptr (Enc.cells a1) 0), (5, A v3.fRows), (37, B a1.fCome)] [] ?_
  refine pc h (fun h => ?_) (fun h => ?_)
  refine srve 46 [(4, B ((decide (((v3.fRows.length : Int)) < 6))))] [] ?_
  cases h
  exact pwp_ret rz
  refine pwp_skip ?_
  refine srv 3 46 [(41, A v3.fRows), (43, A a1.fRow)] [] ?_
  obtain ⟨v6, hv7, h⟩ := bindS h
  refine opsP_callF τ 44 (ok_spec_RowMany hv7) (FzTo.frz rfl) rfl (by kernel_rfl) ?_
  refine ve 2 46 [(4, B ((decide (v6 > 0))))] [] ?_
  cases h
  exact pwp_ret rz
def spec_BondOk_l2 (a0 : List T_impl_Table) (a1 : T_impl_Bond) (v3 : T_impl_Table) : Nat → Int → Option Bool
  | 0, _ => none
  | f23 + 1, x22 => bif (decide (x22 < ((a1.fList.length : Int)))) then (getI a1.fList x22).bind fun v26 => (getI v3.fColumns v26).bind fun v28 => (getI a0 a1.fOf).bind fun v30 => (getI a1.fTo x22).bind fun v32 => (getI v30.fColumns v32).bind fun v34 => bif (!(v28.fKind == v34.fKind)) then some false else (spec_BondOk_l2 a0 a1 v3 f23) ((w64 (x22 + 1))) else some true
def spec_BondOk_j1 (a0 : List T_impl_Table) (a1 : T_impl_Bond) (v3 : T_impl_Table) (x20 : Bool) : Option Bool := bif x20 then some false else spec_BondOk_l2 a0 a1 v3 FUEL 0
def spec_BondOk_j0 (a0 : List T_impl_Table) (a1 : T_impl_Bond) (x1 : Bool) : Option Bool := bif x1 then some false else (getI a0 a1.fIn).bind fun v3 => bif (a1.fKind == 1) then (spec_l12Columns v3.fColumns a1.fList).bind fun v6 => bif v6 then bif (a1.fOf == 0) then bif (((a1.fTo.length : Int)) == 0) then bif (!a1.fFollow) then some ((((a1.fE.length : Int)) == 0)) else some false else some false else some false else some false else bif (a1.fKind == 3) then (spec_ExprKind v3.fColumns a1.fE).bind fun v13 => bif (v13 == 3) then bif (((a1.fList.length : Int)) == 0) then bif (a1.fOf == 0) then bif (((a1.fTo.length : Int)) == 0) then some ((!a1.fFollow)) else some false else some false else some false else some false else bif (a1.fKind == 2) then (spec_l1In a1.fOf 0 ((w64 (((a0.length : Int)) - 1)))).bind fun v37 => bif (!v37) then spec_BondOk_j1 a0 a1 v3 true else (spec_l12Columns v3.fColumns a1.fList).bind fun v39 => bif (!v39) then spec_BondOk_j1 a0 a1 v3 true else (getI a0 a1.fOf).bind fun v41 => (spec_l12Columns v41.fColumns a1.fTo).bind fun v43 => bif (!v43) then spec_BondOk_j1 a0 a1 v3 true else bif (!(((a1.fList.length : Int)) == ((a1.fTo.length : Int)))) then spec_BondOk_j1 a0 a1 v3 true else spec_BondOk_j1 a0 a1 v3 ((decide (((a1.fE.length : Int)) > 0))) else some false
def spec_BondOk (a0 : List T_impl_Table) (a1 : T_impl_Bond) : Option Bool := (spec_TablesOk a0).bind fun v49 => bif (!v49) then spec_BondOk_j0 a0 a1 true else (spec_l1In a1.fIn 0 ((w64 (((a0.length : Int)) - 1)))).bind fun v51 => spec_BondOk_j0 a0 a1 ((!v51))
theorem ok_spec_BondOk {a0 : List T_impl_Table} {a1 : T_impl_Bond} {y : Bool} (h : spec_BondOk a0 a1 = some y) : OK Tryz.prog 61 [A a0, E a1] (B y) := by
  refine OK_of_pwp τ_ok Tryz.func61 rfl (by kernel_rfl) rfl fun Γ hX => ?_
  unfold spec_BondOk at h
  refine srve 158 [(0, A a0), (3, .fptr (Enc.cells a1) 0)] [] ?_
  refine pwp_seq ?_
  refine pwp_seq ?_
  refine pwp_join (σ := Bool) (fun x1 => (⟨158, [(0, A a0), (3, .fptr (Enc.cells a1) 0), (18, B x1)], []⟩ : St)) (fun x1 => spec_BondOk_j0 a0 a1 x1 = some y) ?_ ?_
  refine rv 1 158 [(0, A a0), (3, .fptr (Enc.cells a1) 0), (7, A a0)] [] ?_
  obtain ⟨v49, hv50, h⟩ := bindS h
  refine opsP_callF τ 8 (ok_spec_TablesOk hv50) (FzTo.frz rfl) rfl (by kernel_rfl) ?_
  refine v 2 158 [(0, A a0), (3, .fptr (Enc.cells a1) 0), (10, B ((!v49)))] [] ?_
  rcases fk ((!v49)) with hc53 | hc53
  replace h := bT hc53 h
  rw [hc53]
  refine ve 8 158 [(0, A a0), (3, .fptr (Enc.cells a1) 0), (18, B true)] [] ?_
  exact ⟨true, h, (Imp.to (st' := ⟨158, [(0, A a0), (3, .fptr (Enc.cells a1) 0), (18, B true)], []⟩) [0, 3, 18] (by kernel_rfl)).trans (Imp.to [0, 3, 18] (by kernel_rfl))⟩
  replace h := bF hc53 h
  rw [hc53]
  refine v 5 158 [(0, A a0), (3, .fptr (Enc.cells a1) 0), (10, B false), (12, I a1.fIn), (15, I ((w64 (((a0.length : Int)) - 1))))] [] ?_
  obtain ⟨v51, hv52, h⟩ := bindS h
  refine opsP_callF τ 16 (ok_spec_l1In hv52) (FzTo.frz rfl) rfl (by kernel_rfl) ?_
  refine ve 2 158 [(0, A a0), (3, .fptr (Enc.cells a1) 0), (18, B ((!v51)))] [] ?_
  exact ⟨(!v51), h, (Imp.to (st' := ⟨158, [(0, A a0), (3, .fptr (Enc.cells a1) 0), (18, B ((!v51)))], []⟩) [0, 3, 18] (by kernel_rfl)).trans (Imp.to [0, 3, 18] (by kernel_rfl))⟩
  rintro x1 h
  unfold spec_BondOk_j0 at h
  refine pc h (fun h => ?_) (fun h => ?_)
  refine srve 158 [(4, B false)] [] ?_
  cases h
  exact pwp_ret rz
  refine pwp_skip ?_
  refine srv 3 158 [(0, A a0), (3, .fptr (Enc.cells a1) 0), (19, A a0), (21, I a1.fIn)] [] ?_
  obtain ⟨v3, hv4, h⟩ := bindS h
  refine opsP_idx τ_ok 22 hv4 (by kernel_rfl) ?_
  refine ve 3 158 [(0, A a0), (3, .fptr (Enc.cells a1) 0), (5, A v3.fColumns)] [] ?_
  refine pwp_seq ?_
  refine srve 158 [(0, A a0), (3, .fptr (Enc.cells a1) 0), (5, A v3.fColumns), (26, I a1.fKind)] [] ?_
  refine pwp_block ?_
  refine srve 158 [(0, A a0), (3, .fptr (Enc.cells a1) 0), (5, A v3.fColumns), (26, I a1.fKind), (27, B ((a1.fKind == 1)))] [] ?_
  refine pc h (fun h => ?_) (fun h => ?_)
  refine srv 3 158 [(3, .fptr (Enc.cells a1) 0), (29, A v3.fColumns), (31, A a1.fList)] [] ?_
  obtain ⟨v6, hv7, h⟩ := bindS h
  refine opsP_callF τ 32 (ok_spec_l12Columns hv7) (FzTo.frz rfl) rfl (by kernel_rfl) ?_
  refine v 1 158 [(3, .fptr (Enc.cells a1) 0), (33, B v6)] [] ?_
  rcases Bool.eq_false_or_eq_true v6 with hc11 | hc11
  replace h := bT hc11 h
  rw [hc11]
  refine v 5 158 [(3, .fptr (Enc.cells a1) 0), (38, B ((a1.fOf == 0)))] [] ?_
  rcases fk ((a1.fOf == 0)) with hc10 | hc10
  replace h := bT hc10 h
  rw [hc10]
  refine v 6 158 [(3, .fptr (Enc.cells a1) 0), (44, B ((((a1.fTo.length : Int)) == 0)))] [] ?_
  rcases fk ((((a1.fTo.length : Int)) == 0)) with hc9 | hc9
  replace h := bT hc9 h
  rw [hc9]
  refine v 5 158 [(3, .fptr (Enc.cells a1) 0), (49, B ((!a1.fFollow)))] [] ?_
  rcases fk ((!a1.fFollow)) with hc8 | hc8
  replace h := bT hc8 h
  rw [hc8]
  refine ve 6 158 [(4, B ((((a1.fE.length : Int)) == 0)))] [] ?_
  cases h
  exact pwp_ret rz
  replace h := bF hc8 h
  rw [hc8]
  refine ve 6 158 [(4, B false)] [] ?_
  cases h
  exact pwp_ret rz
  replace h := bF hc9 h
  rw [hc9]
  refine ve 11 158 [(4, B false)] [] ?_
  cases h
  exact pwp_ret rz
  replace h := bF hc10 h
  rw [hc10]
  refine ve 17 158 [(4, B false)] [] ?_
  cases h
  exact pwp_ret rz
  replace h := bF hc11 h
  rw [hc11]
  refine ve 22 158 [(4, B false)] [] ?_
  cases h
  exact pwp_ret rz
  refine srve 158 [(0, A a0), (3, .fptr (Enc.cells a1) 0), (5, A v3.fColumns), (26, I a1.fKind), (55, B ((a1.fKind == 3)))] [] ?_
  refine pc h (fun h => ?_) (fun h => ?_)
  refine srv 3 158 [(3, .fptr (Enc.cells a1) 0), (57, A v3.fColumns), (59, A a1.fE)] [] ?_
  obtain ⟨v13, hv14, h⟩ := bindS h
  refine opsP_callF τ 60 (ok_spec_ExprKind hv14) (FzTo.frz rfl) rfl (by kernel_rfl) ?_
  refine v 2 158 [(3, .fptr (Enc.cells a1) 0), (62, B ((v13 == 3)))] [] ?_
  rcases fk ((v13 == 3)) with hc18 | hc18
  replace h := bT hc18 h
  rw [hc18]
  refine v 6 158 [(3, .fptr (Enc.cells a1) 0), (68, B ((((a1.fList.length : Int)) == 0)))] [] ?_
  rcases fk ((((a1.fList.length : Int)) == 0)) with hc17 | hc17
  replace h := bT hc17 h
  rw [hc17]
  refine v 5 158 [(3, .fptr (Enc.cells a1) 0), (73, B ((a1.fOf == 0)))] [] ?_
  rcases fk ((a1.fOf == 0)) with hc16 | hc16
  replace h := bT hc16 h
  rw [hc16]
  refine v 6 158 [(3, .fptr (Enc.cells a1) 0), (79, B ((((a1.fTo.length : Int)) == 0)))] [] ?_
  rcases fk ((((a1.fTo.length : Int)) == 0)) with hc15 | hc15
  replace h := bT hc15 h
  rw [hc15]
  refine ve 5 158 [(4, B ((!a1.fFollow)))] [] ?_
  cases h
  exact pwp_ret rz
  replace h := bF hc15 h
  rw [hc15]
  refine ve 5 158 [(4, B false)] [] ?_
  cases h
  exact pwp_ret rz
  replace h := bF hc16 h
  rw [hc16]
  refine ve 11 158 [(4, B false)] [] ?_
  cases h
  exact pwp_ret rz
  replace h := bF hc17 h
  rw [hc17]
  refine ve 16 158 [(4, B false)] [] ?_
  cases h
  exact pwp_ret rz
  replace h := bF hc18 h
  rw [hc18]
  refine ve 22 158 [(4, B false)] [] ?_
  cases h
  exact pwp_ret rz
  refine srve 158 [(0, A a0), (3, .fptr (Enc.cells a1) 0), (5, A v3.fColumns), (84, B ((a1.fKind == 2)))] [] ?_
  refine pc h (fun h => ?_) (fun h => ?_)
  refine pwp_seq ?_
  refine pwp_seq ?_
  refine pwp_join (σ := Bool) (fun x20 => (⟨158, [(0, A a0), (3, .fptr (Enc.cells a1) 0), (5, A v3.fColumns), (126, B x20)], []⟩ : St)) (fun x20 => spec_BondOk_j1 a0 a1 v3 x20 = some y) ?_ ?_
  refine pwp_imp (Imp.to (st' := ⟨158, [(0, A a0), (3, .fptr (Enc.cells a1) 0), (5, A v3.fColumns)], []⟩) [0, 3, 5] (by kernel_rfl)) ?_
  refine pwp_any ([[], [], [], [], [], [], [], [], [], [], [], [], [], [], [], [], [], [], [], [], [], [], [], [], [], [], [], [], [], [], [], [], [], [], [], [], [], [], [], [], []]) ([[], [], [], [], [], [], [], [], [], [], [], [], [], [], [], [], [], [], [], [], [], [], [], [], [], [], [], [], [], [], [], [], [], [], [], [], [], [], [], [], []]) rfl (by kernel_rfl) ?_
  refine qA_ev (st' := ⟨158, [(90, I ((w64 (((a0.length : Int)) - 1)))), (89, I ((a0.length : Int))), (88, A a0), (87, I a1.fOf), (86, .fptr (Enc.cells a1) 3), (0, A a0), (3, .fptr (Enc.cells a1) 0), (5, A v3.fColumns)], []⟩) τ_ok [] [] 5 (by exact trivial) (by kernel_rfl) ?_
  obtain ⟨v37, hv38, h⟩ := bindS h
  refine qA_E (dd := some 91) (x := B v37) ([]) (⟨158, [(91, B v37), (90, I ((w64 (((a0.length : Int)) - 1)))), (89, I ((a0.length : Int))), (88, A a0), (87, I a1.fOf), (86, .fptr (Enc.cells a1) 3), (0, A a0), (3, .fptr (Enc.cells a1) 0), (5, A v3.fColumns)], []⟩) (fun Γ' hΓ => CoreE.of_g (callV_sound (τ := τ) (by kernel_rfl) rfl (ok_spec_l1In hv38) (FzTo.frz rfl))) (by kernel_rfl) (by kernel_rfl) (by exact trivial) (.inr (.inr rfl)) (by kernel_rfl) ?_
  refine qA_ev (st' := ⟨158, [(93, B ((!v37))), (92, B ((!v37))), (91, B v37), (90, I ((w64 (((a0.length : Int)) - 1)))), (89, I ((a0.length : Int))), (88, A a0), (87, I a1.fOf), (86, .fptr (Enc.cells a1) 3), (0, A a0), (3, .fptr (Enc.cells a1) 0), (5, A v3.fColumns)], []⟩) τ_ok [] [] 2 (by exact trivial) (by kernel_rfl) ?_
  rcases fk ((!v37)) with hc48 | hc48
  replace h := bT hc48 h
  rw [hc48]
  refine qA_ev (st' := ⟨158, [(126, B true), (125, .lit undef), (124, .lit undef), (123, .lit undef), (122, .lit undef), (121, B true), (120, B true), (119, .lit undef), (118, .lit undef), (117, .lit undef), (116, .lit undef), (115, .lit undef), (114, .lit undef), (113, .lit undef), (112, B true), (111, B true), (110, .lit undef), (109, .lit undef), (108, .lit undef), (107, .lit undef), (106, .lit undef), (105, .lit undef), (104, .lit undef), (103, .lit undef), (102, .lit undef), (101, .lit undef), (100, B true), (99, B true), (98, .lit undef), (97, .lit undef), (96, .lit undef), (95, .lit undef), (94, .lit undef), (93, B true), (92, B true), (91, B v37), (90, I ((w64 (((a0.length : Int)) - 1)))), (89, I ((a0.length : Int))), (88, A a0), (87, I a1.fOf), (86, .fptr (Enc.cells a1) 3), (0, A a0), (3, .fptr (Enc.cells a1) 0), (5, A v3.fColumns)], []⟩) τ_ok [] [] 33 (by exact trivial) (by kernel_rfl) ?_
  refine qA_end ?_
  refine opsP_imp (Imp.to (st' := ⟨158, [(0, A a0), (3, .fptr (Enc.cells a1) 0), (5, A v3.fColumns), (126, B true)], []⟩) [0, 3, 5, 126] (by kernel_rfl)) ?_
  refine opsP_end rfl ?_
  exact ⟨true, h, (Imp.to (st' := ⟨158, [(0, A a0), (3, .fptr (Enc.cells a1) 0), (5, A v3.fColumns), (126, B true)], []⟩) [0, 3, 5, 126] (by kernel_rfl)).trans (Imp.to [0, 3, 5, 126] (by kernel_rfl))⟩
  replace h := bF hc48 h
  rw [hc48]
  refine qA_ev (st' := ⟨158, [(96, A a1.fList), (95, .fptr (Enc.cells a1) 2), (94, A v3.fColumns), (93, B false), (92, B false), (91, B v37), (90, I ((w64 (((a0.length : Int)) - 1)))), (89, I ((a0.length : Int))), (88, A a0), (87, I a1.fOf), (86, .fptr (Enc.cells a1) 3), (0, A a0), (3, .fptr (Enc.cells a1) 0), (5, A v3.fColumns)], []⟩) τ_ok [] [] 3 (by exact trivial) (by kernel_rfl) ?_
  obtain ⟨v39, hv40, h⟩ := bindS h
  refine qA_E (dd := some 97) (x := B v39) ([]) (⟨158, [(97, B v39), (96, A a1.fList), (95, .fptr (Enc.cells a1) 2), (94, A v3.fColumns), (93, B false), (92, B false), (91, B v37), (90, I ((w64 (((a0.length : Int)) - 1)))), (89, I ((a0.length : Int))), (88, A a0), (87, I a1.fOf), (86, .fptr (Enc.cells a1) 3), (0, A a0), (3, .fptr (Enc.cells a1) 0), (5, A v3.fColumns)], []⟩) (fun Γ' hΓ => CoreE.of_g (callV_sound (τ := τ) (by kernel_rfl) rfl (ok_spec_l12Columns hv40) (FzTo.frz rfl))) (by kernel_rfl) (by kernel_rfl) (by exact trivial) (.inr (.inr rfl)) (by kernel_rfl) ?_
  refine qA_ev (st' := ⟨158, [(100, B ((!v39))), (99, B ((!v39))), (98, B ((!v39))), (97, B v39), (96, A a1.fList), (95, .fptr (Enc.cells a1) 2), (94, A v3.fColumns), (93, B false), (92, B false), (91, B v37), (90, I ((w64 (((a0.length : Int)) - 1)))), (89, I ((a0.length : Int))), (88, A a0), (87, I a1.fOf), (86, .fptr (Enc.cells a1) 3), (0, A a0), (3, .fptr (Enc.cells a1) 0), (5, A v3.fColumns)], []⟩) τ_ok [] [] 3 (by exact trivial) (by kernel_rfl) ?_
  rcases fk ((!v39)) with hc47 | hc47
  replace h := bT hc47 h
  rw [hc47]
  refine qA_ev (st' := ⟨158, [(126, B true), (125, .lit undef), (124, .lit undef), (123, .lit undef), (122, .lit undef), (121, B true), (120, B true), (119, .lit undef), (118, .lit undef), (117, .lit undef), (116, .lit undef), (115, .lit undef), (114, .lit undef), (113, .lit undef), (112, B true), (111, B true), (110, .lit undef), (109, .lit undef), (108, .lit undef), (107, .lit undef), (106, .lit undef), (105, .lit undef), (104, .lit undef), (103, .lit undef), (102, .lit undef), (101, .lit undef), (100, B true), (99, B true), (98, B true), (97, B v39), (96, A a1.fList), (95, .fptr (Enc.cells a1) 2), (94, A v3.fColumns), (93, B false), (92, B false), (91, B v37), (90, I ((w64 (((a0.length : Int)) - 1)))), (89, I ((a0.length : Int))), (88, A a0), (87, I a1.fOf), (86, .fptr (Enc.cells a1) 3), (0, A a0), (3, .fptr (Enc.cells a1) 0), (5, A v3.fColumns)], []⟩) τ_ok [] [] 26 (by exact trivial) (by kernel_rfl) ?_
  refine qA_end ?_
  refine opsP_imp (Imp.to (st' := ⟨158, [(0, A a0), (3, .fptr (Enc.cells a1) 0), (5, A v3.fColumns), (126, B true)], []⟩) [0, 3, 5, 126] (by kernel_rfl)) ?_
  refine opsP_end rfl ?_
  exact ⟨true, h, (Imp.to (st' := ⟨158, [(0, A a0), (3, .fptr (Enc.cells a1) 0), (5, A v3.fColumns), (126, B true)], []⟩) [0, 3, 5, 126] (by kernel_rfl)).trans (Imp.to [0, 3, 5, 126] (by kernel_rfl))⟩
  replace h := bF hc47 h
  rw [hc47]
  refine qA_ev (st' := ⟨158, [(103, I a1.fOf), (102, .fptr (Enc.cells a1) 3), (101, A a0), (100, B false), (99, B false), (98, B false), (97, B v39), (96, A a1.fList), (95, .fptr (Enc.cells a1) 2), (94, A v3.fColumns), (93, B false), (92, B false), (91, B v37), (90, I ((w64 (((a0.length : Int)) - 1)))), (89, I ((a0.length : Int))), (88, A a0), (87, I a1.fOf), (86, .fptr (Enc.cells a1) 3), (0, A a0), (3, .fptr (Enc.cells a1) 0), (5, A v3.fColumns)], []⟩) τ_ok [] [] 3 (by exact trivial) (by kernel_rfl) ?_
  obtain ⟨v41, hv42, h⟩ := bindS h
  refine qA_E (dd := some 104) (x := .fptr (Enc.cells v41) 0) ([]) (⟨158, [(104, .fptr (Enc.cells v41) 0), (103, I a1.fOf), (102, .fptr (Enc.cells a1) 3), (101, A a0), (100, B false), (99, B false), (98, B false), (97, B v39), (96, A a1.fList), (95, .fptr (Enc.cells a1) 2), (94, A v3.fColumns), (93, B false), (92, B false), (91, B v37), (90, I ((w64 (((a0.length : Int)) - 1)))), (89, I ((a0.length : Int))), (88, A a0), (87, I a1.fOf), (86, .fptr (Enc.cells a1) 3), (0, A a0), (3, .fptr (Enc.cells a1) 0), (5, A v3.fColumns)], []⟩) (fun Γ' hΓ => CoreE.of_y (idxV_sound τ_ok (by kernel_rfl) hv42)) (by kernel_rfl) (by kernel_rfl) (by exact trivial) (.inr (.inr rfl)) (by kernel_rfl) ?_
  refine qA_ev (st' := ⟨158, [(108, A a1.fTo), (107, .fptr (Enc.cells a1) 4), (106, A v41.fColumns), (105, .fptr (Enc.cells v41) 0), (104, .fptr (Enc.cells v41) 0), (103, I a1.fOf), (102, .fptr (Enc.cells a1) 3), (101, A a0), (100, B false), (99, B false), (98, B false), (97, B v39), (96, A a1.fList), (95, .fptr (Enc.cells a1) 2), (94, A v3.fColumns), (93, B false), (92, B false), (91, B v37), (90, I ((w64 (((a0.length : Int)) - 1)))), (89, I ((a0.length : Int))), (88, A a0), (87, I a1.fOf), (86, .fptr (Enc.cells a1) 3), (0, A a0), (3, .fptr (Enc.cells a1) 0), (5, A v3.fColumns)], []⟩) τ_ok [] [] 4 (by exact trivial) (by kernel_rfl) ?_
  obtain ⟨v43, hv44, h⟩ := bindS h
  refine qA_E (dd := some 109) (x := B v43) ([]) (⟨158, [(109, B v43), (108, A a1.fTo), (107, .fptr (Enc.cells a1) 4), (106, A v41.fColumns), (105, .fptr (Enc.cells v41) 0), (104, .fptr (Enc.cells v41) 0), (103, I a1.fOf), (102, .fptr (Enc.cells a1) 3), (101, A a0), (100, B false), (99, B false), (98, B false), (97, B v39), (96, A a1.fList), (95, .fptr (Enc.cells a1) 2), (94, A v3.fColumns), (93, B false), (92, B false), (91, B v37), (90, I ((w64 (((a0.length : Int)) - 1)))), (89, I ((a0.length : Int))), (88, A a0), (87, I a1.fOf), (86, .fptr (Enc.cells a1) 3), (0, A a0), (3, .fptr (Enc.cells a1) 0), (5, A v3.fColumns)], []⟩) (fun Γ' hΓ => CoreE.of_g (callV_sound (τ := τ) (by kernel_rfl) rfl (ok_spec_l12Columns hv44) (FzTo.frz rfl))) (by kernel_rfl) (by kernel_rfl) (by exact trivial) (.inr (.inr rfl)) (by kernel_rfl) ?_
  refine qA_ev (st' := ⟨158, [(112, B ((!v43))), (111, B ((!v43))), (110, B ((!v43))), (109, B v43), (108, A a1.fTo), (107, .fptr (Enc.cells a1) 4), (106, A v41.fColumns), (105, .fptr (Enc.cells v41) 0), (104, .fptr (Enc.cells v41) 0), (103, I a1.fOf), (102, .fptr (Enc.cells a1) 3), (101, A a0), (100, B false), (99, B false), (98, B false), (97, B v39), (96, A a1.fList), (95, .fptr (Enc.cells a1) 2), (94, A v3.fColumns), (93, B false), (92, B false), (91, B v37), (90, I ((w64 (((a0.length : Int)) - 1)))), (89, I ((a0.length : Int))), (88, A a0), (87, I a1.fOf), (86, .fptr (Enc.cells a1) 3), (0, A a0), (3, .fptr (Enc.cells a1) 0), (5, A v3.fColumns)], []⟩) τ_ok [] [] 3 (by exact trivial) (by kernel_rfl) ?_
  rcases fk ((!v43)) with hc46 | hc46
  replace h := bT hc46 h
  rw [hc46]
  refine qA_ev (st' := ⟨158, [(126, B true), (125, .lit undef), (124, .lit undef), (123, .lit undef), (122, .lit undef), (121, B true), (120, B true), (119, .lit undef), (118, .lit undef), (117, .lit undef), (116, .lit undef), (115, .lit undef), (114, .lit undef), (113, .lit undef), (112, B true), (111, B true), (110, B true), (109, B v43), (108, A a1.fTo), (107, .fptr (Enc.cells a1) 4), (106, A v41.fColumns), (105, .fptr (Enc.cells v41) 0), (104, .fptr (Enc.cells v41) 0), (103, I a1.fOf), (102, .fptr (Enc.cells a1) 3), (101, A a0), (100, B false), (99, B false), (98, B false), (97, B v39), (96, A a1.fList), (95, .fptr (Enc.cells a1) 2), (94, A v3.fColumns), (93, B false), (92, B false), (91, B v37), (90, I ((w64 (((a0.length : Int)) - 1)))), (89, I ((a0.length : Int))), (88, A a0), (87, I a1.fOf), (86, .fptr (Enc.cells a1) 3), (0, A a0), (3, .fptr (Enc.cells a1) 0), (5, A v3.fColumns)], []⟩) τ_ok [] [] 14 (by exact trivial) (by kernel_rfl) ?_
  refine qA_end ?_
  refine opsP_imp (Imp.to (st' := ⟨158, [(0, A a0), (3, .fptr (Enc.cells a1) 0), (5, A v3.fColumns), (126, B true)], []⟩) [0, 3, 5, 126] (by kernel_rfl)) ?_
  refine opsP_end rfl ?_
  exact ⟨true, h, (Imp.to (st' := ⟨158, [(0, A a0), (3, .fptr (Enc.cells a1) 0), (5, A v3.fColumns), (126, B true)], []⟩) [0, 3, 5, 126] (by kernel_rfl)).trans (Imp.to [0, 3, 5, 126] (by kernel_rfl))⟩
  replace h := bF hc46 h
  rw [hc46]
  refine qA_ev (st' := ⟨158, [(121, B ((!(((a1.fList.length : Int)) == ((a1.fTo.length : Int)))))), (120, B ((!(((a1.fList.length : Int)) == ((a1.fTo.length : Int)))))), (119, B ((!(((a1.fList.length : Int)) == ((a1.fTo.length : Int)))))), (118, I ((a1.fTo.length : Int))), (117, A a1.fTo), (116, .fptr (Enc.cells a1) 4), (115, I ((a1.fList.length : Int))), (114, A a1.fList), (113, .fptr (Enc.cells a1) 2), (112, B false), (111, B false), (110, B false), (109, B v43), (108, A a1.fTo), (107, .fptr (Enc.cells a1) 4), (106, A v41.fColumns), (105, .fptr (Enc.cells v41) 0), (104, .fptr (Enc.cells v41) 0), (103, I a1.fOf), (102, .fptr (Enc.cells a1) 3), (101, A a0), (100, B false), (99, B false), (98, B false), (97, B v39), (96, A a1.fList), (95, .fptr (Enc.cells a1) 2), (94, A v3.fColumns), (93, B false), (92, B false), (91, B v37), (90, I ((w64 (((a0.length : Int)) - 1)))), (89, I ((a0.length : Int))), (88, A a0), (87, I a1.fOf), (86, .fptr (Enc.cells a1) 3), (0, A a0), (3, .fptr (Enc.cells a1) 0), (5, A v3.fColumns)], []⟩) τ_ok [] [] 9 (by exact trivial) (by kernel_rfl) ?_
  rcases fk ((!(((a1.fList.length : Int)) == ((a1.fTo.length : Int))))) with hc45 | hc45
  replace h := bT hc45 h
  rw [hc45]
  refine qA_ev (st' := ⟨158, [(126, B true), (125, .lit undef), (124, .lit undef), (123, .lit undef), (122, .lit undef), (121, B true), (120, B true), (119, B true), (118, I ((a1.fTo.length : Int))), (117, A a1.fTo), (116, .fptr (Enc.cells a1) 4), (115, I ((a1.fList.length : Int))), (114, A a1.fList), (113, .fptr (Enc.cells a1) 2), (112, B false), (111, B false), (110, B false), (109, B v43), (108, A a1.fTo), (107, .fptr (Enc.cells a1) 4), (106, A v41.fColumns), (105, .fptr (Enc.cells v41) 0), (104, .fptr (Enc.cells v41) 0), (103, I a1.fOf), (102, .fptr (Enc.cells a1) 3), (101, A a0), (100, B false), (99, B false), (98, B false), (97, B v39), (96, A a1.fList), (95, .fptr (Enc.cells a1) 2), (94, A v3.fColumns), (93, B false), (92, B false), (91, B v37), (90, I ((w64 (((a0.length : Int)) - 1)))), (89, I ((a0.length : Int))), (88, A a0), (87, I a1.fOf), (86, .fptr (Enc.cells a1) 3), (0, A a0), (3, .fptr (Enc.cells a1) 0), (5, A v3.fColumns)], []⟩) τ_ok [] [] 5 (by exact trivial) (by kernel_rfl) ?_
  refine qA_end ?_
  refine opsP_imp (Imp.to (st' := ⟨158, [(0, A a0), (3, .fptr (Enc.cells a1) 0), (5, A v3.fColumns), (126, B true)], []⟩) [0, 3, 5, 126] (by kernel_rfl)) ?_
  refine opsP_end rfl ?_
  exact ⟨true, h, (Imp.to (st' := ⟨158, [(0, A a0), (3, .fptr (Enc.cells a1) 0), (5, A v3.fColumns), (126, B true)], []⟩) [0, 3, 5, 126] (by kernel_rfl)).trans (Imp.to [0, 3, 5, 126] (by kernel_rfl))⟩
  replace h := bF hc45 h
  rw [hc45]
  refine qA_ev (st' := ⟨158, [(126, B ((decide (((a1.fE.length : Int)) > 0)))), (125, B ((decide (((a1.fE.length : Int)) > 0)))), (124, I ((a1.fE.length : Int))), (123, A a1.fE), (122, .fptr (Enc.cells a1) 6), (121, B false), (120, B false), (119, B false), (118, I ((a1.fTo.length : Int))), (117, A a1.fTo), (116, .fptr (Enc.cells a1) 4), (115, I ((a1.fList.length : Int))), (114, A a1.fList), (113, .fptr (Enc.cells a1) 2), (112, B false), (111, B false), (110, B false), (109, B v43), (108, A a1.fTo), (107, .fptr (Enc.cells a1) 4), (106, A v41.fColumns), (105, .fptr (Enc.cells v41) 0), (104, .fptr (Enc.cells v41) 0), (103, I a1.fOf), (102, .fptr (Enc.cells a1) 3), (101, A a0), (100, B false), (99, B false), (98, B false), (97, B v39), (96, A a1.fList), (95, .fptr (Enc.cells a1) 2), (94, A v3.fColumns), (93, B false), (92, B false), (91, B v37), (90, I ((w64 (((a0.length : Int)) - 1)))), (89, I ((a0.length : Int))), (88, A a0), (87, I a1.fOf), (86, .fptr (Enc.cells a1) 3), (0, A a0), (3, .fptr (Enc.cells a1) 0), (5, A v3.fColumns)], []⟩) τ_ok [] [] 5 (by exact trivial) (by kernel_rfl) ?_
  refine qA_end ?_
  refine opsP_imp (Imp.to (st' := ⟨158, [(0, A a0), (3, .fptr (Enc.cells a1) 0), (5, A v3.fColumns), (126, B ((decide (((a1.fE.length : Int)) > 0))))], []⟩) [0, 3, 5, 126] (by kernel_rfl)) ?_
  refine opsP_end rfl ?_
  exact ⟨(decide (((a1.fE.length : Int)) > 0)), h, (Imp.to (st' := ⟨158, [(0, A a0), (3, .fptr (Enc.cells a1) 0), (5, A v3.fColumns), (126, B ((decide (((a1.fE.length : Int)) > 0))))], []⟩) [0, 3, 5, 126] (by kernel_rfl)).trans (Imp.to [0, 3, 5, 126] (by kernel_rfl))⟩
  rintro x20 h
  unfold spec_BondOk_j1 at h
  refine pc h (fun h => ?_) (fun h => ?_)
  refine srve 158 [(4, B false)] [] ?_
  cases h
  exact pwp_ret rz
  refine pwp_skip ?_
  refine pwp_seq ?_
  refine srve 158 [(0, A a0), (3, .fptr (Enc.cells a1) 0), (5, A v3.fColumns), (6, I 0)] [] ?_
  refine pwp_block ?_
  refine pwp_loop (ι := Nat × Int) (fun (f23, x22) => (⟨158, [(0, A a0), (3, .fptr (Enc.cells a1) 0), (5, A v3.fColumns), (6, I x22)], []⟩ : St)) (fun (f23, x22) => spec_BondOk_l2 a0 a1 v3 f23 x22 = some y) (fun (f23, x22) => f23) (FUEL, 0) h ((Imp.to (st' := ⟨158, [(0, A a0), (3, .fptr (Enc.cells a1) 0), (5, A v3.fColumns), (6, I 0)], []⟩) [0, 3, 5, 6] (by kernel_rfl)).trans (Imp.to [0, 3, 5, 6] (by kernel_rfl))) ?_
  rintro ⟨f23, x22⟩ h
  dsimp only at h ⊢
  rcases f23 with _ | f23
  cases h
  rw [spec_BondOk_l2] at h
  refine pwp_seq ?_
  refine srve 158 [(0, A a0), (3, .fptr (Enc.cells a1) 0), (5, A v3.fColumns), (6, I x22), (131, B ((decide (x22 < ((a1.fList.length : Int))))))] [] ?_
  refine pc h (fun h => ?_) (fun h => ?_)
  refine pwp_skip ?_
  refine pwp_seq ?_
  refine pwp_block ?_
  refine pwp_seq ?_
  refine pwp_imp (Imp.to (st' := ⟨158, [(0, A a0), (3, .fptr (Enc.cells a1) 0), (5, A v3.fColumns), (6, I x22)], []⟩) [0, 3, 5, 6] (by kernel_rfl)) ?_
  refine pwp_any ([[], [], [], [], [], [], [], [], [], [], [], [], [], [], [], [], [], [], [], [], [], [], [], []]) ([[], [], [], [], [], [], [], [], [], [], [], [], [], [], [], [], [], [], [], [], [], [], [], []]) rfl (by kernel_rfl) ?_
  refine qA_ev (st' := ⟨158, [(137, I x22), (136, A a1.fList), (135, .fptr (Enc.cells a1) 2), (134, A v3.fColumns), (0, A a0), (3, .fptr (Enc.cells a1) 0), (5, A v3.fColumns), (6, I x22)], []⟩) τ_ok [] [] 4 (by exact trivial) (by kernel_rfl) ?_
  obtain ⟨v26, hv27, h⟩ := bindS h
  refine qA_E (dd := some 138) (x := .fptr (Enc.cells v26) 0) ([]) (⟨158, [(138, .fptr (Enc.cells v26) 0), (137, I x22), (136, A a1.fList), (135, .fptr (Enc.cells a1) 2), (134, A v3.fColumns), (0, A a0), (3, .fptr (Enc.cells a1) 0), (5, A v3.fColumns), (6, I x22)], []⟩) (fun Γ' hΓ => CoreE.of_y (idxV_sound τ_ok (by kernel_rfl) hv27)) (by kernel_rfl) (by kernel_rfl) (by exact trivial) (.inr (.inr rfl)) (by kernel_rfl) ?_
  refine qA_ev (st' := ⟨158, [(139, I v26), (138, .fptr (Enc.cells v26) 0), (137, I x22), (136, A a1.fList), (135, .fptr (Enc.cells a1) 2), (134, A v3.fColumns), (0, A a0), (3, .fptr (Enc.cells a1) 0), (5, A v3.fColumns), (6, I x22)], []⟩) τ_ok [] [] 1 (by exact trivial) (by kernel_rfl) ?_
  obtain ⟨v28, hv29, h⟩ := bindS h
  refine qA_E (dd := some 140) (x := .fptr (Enc.cells v28) 0) ([]) (⟨158, [(140, .fptr (Enc.cells v28) 0), (139, I v26), (138, .fptr (Enc.cells v26) 0), (137, I x22), (136, A a1.fList), (135, .fptr (Enc.cells a1) 2), (134, A v3.fColumns), (0, A a0), (3, .fptr (Enc.cells a1) 0), (5, A v3.fColumns), (6, I x22)], []⟩) (fun Γ' hΓ => CoreE.of_y (idxV_sound τ_ok (by kernel_rfl) hv29)) (by kernel_rfl) (by kernel_rfl) (by exact trivial) (.inr (.inr rfl)) (by kernel_rfl) ?_
  refine qA_ev (st' := ⟨158, [(145, I a1.fOf), (144, .fptr (Enc.cells a1) 3), (143, A a0), (142, I v28.fKind), (141, .fptr (Enc.cells v28) 0), (140, .fptr (Enc.cells v28) 0), (139, I v26), (138, .fptr (Enc.cells v26) 0), (137, I x22), (136, A a1.fList), (135, .fptr (Enc.cells a1) 2), (134, A v3.fColumns), (0, A a0), (3, .fptr (Enc.cells a1) 0), (5, A v3.fColumns), (6, I x22)], []⟩) τ_ok [] [] 5 (by exact trivial) (by kernel_rfl) ?_
  obtain ⟨v30, hv31, h⟩ := bindS h
  refine qA_E (dd := some 146) (x := .fptr (Enc.cells v30) 0) ([]) (⟨158, [(146, .fptr (Enc.cells v30) 0), (145, I a1.fOf), (144, .fptr (Enc.cells a1) 3), (143, A a0), (142, I v28.fKind), (141, .fptr (Enc.cells v28) 0), (140, .fptr (Enc.cells v28) 0), (139, I v26), (138, .fptr (Enc.cells v26) 0), (137, I x22), (136, A a1.fList), (135, .fptr (Enc.cells a1) 2), (134, A v3.fColumns), (0, A a0), (3, .fptr (Enc.cells a1) 0), (5, A v3.fColumns), (6, I x22)], []⟩) (fun Γ' hΓ => CoreE.of_y (idxV_sound τ_ok (by kernel_rfl) hv31)) (by kernel_rfl) (by kernel_rfl) (by exact trivial) (.inr (.inr rfl)) (by kernel_rfl) ?_
  refine qA_ev (st' := ⟨158, [(151, I x22), (150, A a1.fTo), (149, .fptr (Enc.cells a1) 4), (148, A v30.fColumns), (147, .fptr (Enc.cells v30) 0), (146, .fptr (Enc.cells v30) 0), (145, I a1.fOf), (144, .fptr (Enc.cells a1) 3), (143, A a0), (142, I v28.fKind), (141, .fptr (Enc.cells v28) 0), (140, .fptr (Enc.cells v28) 0), (139, I v26), (138, .fptr (Enc.cells v26) 0), (137, I x22), (136, A a1.fList), (135, .fptr (Enc.cells a1) 2), (134, A v3.fColumns), (0, A a0), (3, .fptr (Enc.cells a1) 0), (5, A v3.fColumns), (6, I x22)], []⟩) τ_ok [] [] 5 (by exact trivial) (by kernel_rfl) ?_
  obtain ⟨v32, hv33, h⟩ := bindS h
  refine qA_E (dd := some 152) (x := .fptr (Enc.cells v32) 0) ([]) (⟨158, [(152, .fptr (Enc.cells v32) 0), (151, I x22), (150, A a1.fTo), (149, .fptr (Enc.cells a1) 4), (148, A v30.fColumns), (147, .fptr (Enc.cells v30) 0), (146, .fptr (Enc.cells v30) 0), (145, I a1.fOf), (144, .fptr (Enc.cells a1) 3), (143, A a0), (142, I v28.fKind), (141, .fptr (Enc.cells v28) 0), (140, .fptr (Enc.cells v28) 0), (139, I v26), (138, .fptr (Enc.cells v26) 0), (137, I x22), (136, A a1.fList), (135, .fptr (Enc.cells a1) 2), (134, A v3.fColumns), (0, A a0), (3, .fptr (Enc.cells a1) 0), (5, A v3.fColumns), (6, I x22)], []⟩) (fun Γ' hΓ => CoreE.of_y (idxV_sound τ_ok (by kernel_rfl) hv33)) (by kernel_rfl) (by kernel_rfl) (by exact trivial) (.inr (.inr rfl)) (by kernel_rfl) ?_
  refine qA_ev (st' := ⟨158, [(153, I v32), (152, .fptr (Enc.cells v32) 0), (151, I x22), (150, A a1.fTo), (149, .fptr (Enc.cells a1) 4), (148, A v30.fColumns), (147, .fptr (Enc.cells v30) 0), (146, .fptr (Enc.cells v30) 0), (145, I a1.fOf), (144, .fptr (Enc.cells a1) 3), (143, A a0), (142, I v28.fKind), (141, .fptr (Enc.cells v28) 0), (140, .fptr (Enc.cells v28) 0), (139, I v26), (138, .fptr (Enc.cells v26) 0), (137, I x22), (136, A a1.fList), (135, .fptr (Enc.cells a1) 2), (134, A v3.fColumns), (0, A a0), (3, .fptr (Enc.cells a1) 0), (5, A v3.fColumns), (6, I x22)], []⟩) τ_ok [] [] 1 (by exact trivial) (by kernel_rfl) ?_
  obtain ⟨v34, hv35, h⟩ := bindS h
  refine qA_E (dd := some 154) (x := .fptr (Enc.cells v34) 0) ([]) (⟨158, [(154, .fptr (Enc.cells v34) 0), (153, I v32), (152, .fptr (Enc.cells v32) 0), (151, I x22), (150, A a1.fTo), (149, .fptr (Enc.cells a1) 4), (148, A v30.fColumns), (147, .fptr (Enc.cells v30) 0), (146, .fptr (Enc.cells v30) 0), (145, I a1.fOf), (144, .fptr (Enc.cells a1) 3), (143, A a0), (142, I v28.fKind), (141, .fptr (Enc.cells v28) 0), (140, .fptr (Enc.cells v28) 0), (139, I v26), (138, .fptr (Enc.cells v26) 0), (137, I x22), (136, A a1.fList), (135, .fptr (Enc.cells a1) 2), (134, A v3.fColumns), (0, A a0), (3, .fptr (Enc.cells a1) 0), (5, A v3.fColumns), (6, I x22)], []⟩) (fun Γ' hΓ => CoreE.of_y (idxV_sound τ_ok (by kernel_rfl) hv35)) (by kernel_rfl) (by kernel_rfl) (by exact trivial) (.inr (.inr rfl)) (by kernel_rfl) ?_
  refine qA_ev (st' := ⟨158, [(157, B ((!(v28.fKind == v34.fKind)))), (156, I v34.fKind), (155, .fptr (Enc.cells v34) 0), (154, .fptr (Enc.cells v34) 0), (153, I v32), (152, .fptr (Enc.cells v32) 0), (151, I x22), (150, A a1.fTo), (149, .fptr (Enc.cells a1) 4), (148, A v30.fColumns), (147, .fptr (Enc.cells v30) 0), (146, .fptr (Enc.cells v30) 0), (145, I a1.fOf), (144, .fptr (Enc.cells a1) 3), (143, A a0), (142, I v28.fKind), (141, .fptr (Enc.cells v28) 0), (140, .fptr (Enc.cells v28) 0), (139, I v26), (138, .fptr (Enc.cells v26) 0), (137, I x22), (136, A a1.fList), (135, .fptr (Enc.cells a1) 2), (134, A v3.fColumns), (0, A a0), (3, .fptr (Enc.cells a1) 0), (5, A v3.fColumns), (6, I x22)], []⟩) τ_ok [] [] 3 (by exact trivial) (by kernel_rfl) ?_
  refine qA_end ?_
  refine opsP_imp (Imp.to (st' := ⟨158, [(0, A a0), (3, .fptr (Enc.cells a1) 0), (5, A v3.fColumns), (6, I x22), (157, B ((!(v28.fKind == v34.fKind))))], []⟩) [0, 3, 5, 6, 157] (by kernel_rfl)) ?_
  refine opsP_end rfl ?_
  refine pc h (fun h => ?_) (fun h => ?_)
  refine srve 158 [(4, B false)] [] ?_
  cases h
  exact pwp_ret rz
  refine pwp_skip ?_
  refine rve 158 [(0, A a0), (3, .fptr (Enc.cells a1) 0), (5, A v3.fColumns), (6, I ((w64 (x22 + 1))))] [] ?_
  exact ⟨(f23, (w64 (x22 + 1))), h, Nat.lt_succ_self _, (Imp.to (st' := ⟨158, [(0, A a0), (3, .fptr (Enc.cells a1) 0), (5, A v3.fColumns), (6, I ((w64 (x22 + 1))))], []⟩) [0, 3, 5, 6] (by kernel_rfl)).trans (Imp.to [0, 3, 5, 6] (by kernel_rfl))⟩
  refine pwp_exit ?_
  refine srve 158 [(4, B true)] [] ?_
  cases h
  exact pwp_ret rz
  refine pwp_skip ?_
  refine srve 158 [(4, B false)] [] ?_
  cases h
  exact pwp_ret rz
def impl_bondsOk_1 (a0 : T_impl_Bond) (b0 : List T_impl_Table) : Option Bool := (impl_bondOk b0 a0).bind fun v1 => some ((!v1))
theorem ok_impl_bondsOk_1 {a0 : T_impl_Bond} {b0 : List T_impl_Table} {y : Bool} (h : impl_bondsOk_1 a0 b0 = some y) : OK Tryz.prog 113 [E a0, .fptr (Enc.cells b0) 0] (B y) := by
  refine OK_of_pwp τ_ok Tryz.func113 rfl (by kernel_rfl) rfl fun Γ hX => ?_
  unfold impl_bondsOk_1 at h
  refine srve 8 [(1, .fptr (Enc.cells b0) 0), (2, .fptr (Enc.cells a0) 0)] [] ?_
  refine srv 2 8 [(4, A b0), (5, E a0)] [] ?_
  obtain ⟨v1, hv2, h⟩ := bindS h
  refine opsP_callF τ 6 (ok_impl_bondOk hv2) (FzTo.frz rfl) rfl (by kernel_rfl) ?_
  refine ve 2 8 [(3, B ((!v1)))] [] ?_
  cases h
  exact pwp_ret rz
def impl_TablesOk_1 (a0 : T_impl_Table) : Option Bool := (impl_ColumnsOk a0.fColumns).bind fun v1 => bif (!v1) then some true else bif (decide (((a0.fRows.length : Int)) > 6)) then some true else (impl_RowsOk a0.fColumns a0.fRows).bind fun v3 => some ((!v3))
theorem ok_impl_TablesOk_1 {a0 : T_impl_Table} {y : Bool} (h : impl_TablesOk_1 a0 = some y) : OK Tryz.prog 144 [E a0] (B y) := by
  refine OK_of_pwp τ_ok Tryz.func144 rfl (by kernel_rfl) rfl fun Γ hX => ?_
  unfold impl_TablesOk_1 at h
  refine srve 21 [(1, .fptr (Enc.cells a0) 0)] [] ?_
  refine srv 2 21 [(1, .fptr (Enc.cells a0) 0), (4, A a0.fColumns)] [] ?_
  obtain ⟨v1, hv2, h⟩ := bindS h
  refine opsP_callF τ 5 (ok_impl_ColumnsOk hv2) (FzTo.frz rfl) rfl (by kernel_rfl) ?_
  refine v 2 21 [(1, .fptr (Enc.cells a0) 0), (7, B ((!v1)))] [] ?_
  rcases fk ((!v1)) with hc6 | hc6
  replace h := bT hc6 h
  rw [hc6]
  refine ve 14 21 [(2, B true)] [] ?_
  cases h
  exact pwp_ret rz
  replace h := bF hc6 h
  rw [hc6]
  refine v 6 21 [(1, .fptr (Enc.cells a0) 0), (13, B ((decide (((a0.fRows.length : Int)) > 6))))] [] ?_
  rcases fk ((decide (((a0.fRows.length : Int)) > 6))) with hc5 | hc5
  replace h := bT hc5 h
  rw [hc5]
  refine ve 8 21 [(2, B true)] [] ?_
  cases h
  exact pwp_ret rz
  replace h := bF hc5 h
  rw [hc5]
  refine v 4 21 [(13, B false), (15, A a0.fColumns), (17, A a0.fRows)] [] ?_
  obtain ⟨v3, hv4, h⟩ := bindS h
  refine opsP_callF τ 18 (ok_impl_RowsOk hv4) (FzTo.frz rfl) rfl (by kernel_rfl) ?_
  refine ve 3 21 [(2, B ((!v3)))] [] ?_
  cases h
  exact pwp_ret rz
def spec_BondsAsked_j2 (x14 : Int) (K17 : Int → (List Int) → Option (List Int)) (x19 : List Int) (x20 : T_impl_Bond) : Option (List Int) := K17 ((w64 (x14 + 1))) x19
def spec_BondsAsked_j3 (x14 : Int) (x15 : List Int) (K17 : Int → (List Int) → Option (List Int)) (v21 : T_impl_Bond) (x23 : Bool) : Option (List Int) := bif x23 then (app x15 (([x14] : List Int))).bind fun v25 => spec_BondsAsked_j2 x14 K17 v25 v21 else spec_BondsAsked_j2 x14 K17 x15 v21
def spec_BondsAsked_l1 (a1 : List T_impl_Bond) (a2 : T_impl_Change) : Nat → Int → (List Int) → Option (List Int)
  | 0, _, _ => none
  | f16 + 1, x14, x15 => bif (decide (x14 < ((a1.length : Int)))) then (getI a1 x14).bind fun v21 => bif a2.fCome then bif (v21.fIn == a2.fIn) then spec_BondsAsked_j3 x14 x15 (spec_BondsAsked_l1 a1 a2 f16) v21 true else bif (!a2.fCome) then bif (v21.fKind == 2) then spec_BondsAsked_j3 x14 x15 (spec_BondsAsked_l1 a1 a2 f16) v21 ((v21.fOf == a2.fIn)) else spec_BondsAsked_j3 x14 x15 (spec_BondsAsked_l1 a1 a2 f16) v21 false else spec_BondsAsked_j3 x14 x15 (spec_BondsAsked_l1 a1 a2 f16) v21 false else bif (!a2.fCome) then bif (v21.fKind == 2) then spec_BondsAsked_j3 x14 x15 (spec_BondsAsked_l1 a1 a2 f16) v21 ((v21.fOf == a2.fIn)) else spec_BondsAsked_j3 x14 x15 (spec_BondsAsked_l1 a1 a2 f16) v21 false else spec_BondsAsked_j3 x14 x15 (spec_BondsAsked_l1 a1 a2 f16) v21 false else some x15
def spec_BondsAsked_l0 (a0 : List T_impl_Table) (a1 : List T_impl_Bond) (a2 : T_impl_Change) : Nat → Int → Option (List Int)
  | 0, _ => none
  | f5 + 1, x4 => bif (decide (x4 < ((a1.length : Int)))) then (getI a1 x4).bind fun v8 => (spec_BondOk a0 v8).bind fun v10 => bif (!v10) then some (([] : List Int)) else (spec_BondsAsked_l0 a0 a1 a2 f5) ((w64 (x4 + 1))) else spec_BondsAsked_l1 a1 a2 FUEL 0 (([] : List Int))
def spec_BondsAsked (a0 : List T_impl_Table) (a1 : List T_impl_Bond) (a2 : T_impl_Change) : Option (List Int) := (spec_ChangeOk a0 a2).bind fun v1 => bif (!v1) then some (([] : List Int)) else spec_BondsAsked_l0 a0 a1 a2 FUEL 0
theorem ok_spec_BondsAsked {a0 : List T_impl_Table} {a1 : List T_impl_Bond} {a2 : T_impl_Change} {y : List Int} (h : spec_BondsAsked a0 a1 a2 = some y) : OK Tryz.prog 12 [A a0, A a1, E a2] (O y) := by
  refine OK_of_pwp τ_ok Tryz.func12 rfl (by kernel_rfl) rfl fun Γ hX => ?_
  unfold spec_BondsAsked at h
  refine srveM [10] 72 [(0, A a0), (1, A a1), (5, .fptr (Enc.cells a2) 0)] [] ?_
  refine srveM [10] 72 [(0, A a0), (1, A a1), (5, .fptr (Enc.cells a2) 0), (7, .arr 1 0 (eL ([] : List Int)) true)] [] ?_
  refine pwp_seq ?_
  refine srvM [10] 2 72 [(0, A a0), (1, A a1), (5, .fptr (Enc.cells a2) 0), (7, .arr 1 0 (eL ([] : List Int)) true), (12, A a0), (13, E a2)] [] ?_
  obtain ⟨v1, hv2, h⟩ := bindS h
  refine opsP_callF τ 14 (ok_spec_ChangeOk hv2) (FzTo.frz rfl) rfl (by kernel_rfl) ?_
  refine veM [10] 1 72 [(0, A a0), (1, A a1), (5, .fptr (Enc.cells a2) 0), (7, .arr 1 0 (eL ([] : List Int)) true), (15, B ((!v1)))] [] ?_
  refine pc h (fun h => ?_) (fun h => ?_)
  refine srveM [10] 72 [(6, .arr 1 0 (eL ([] : List Int)) true)] [] ?_
  refine pwp_imp (Imp.to (st' := ⟨72, [(6, .arr 1 0 (eL ([] : List Int)) true)], []⟩) [6] (by kernel_rfl)) ?_
  refine pwp_imp (Imp.thawS (st' := ⟨72, [(6, .ref 0 0 0 1 (([] : List Int)).length false)], [some ⟨0, eL (([] : List Int))⟩]⟩) 6 [6] (by kernel_rfl)) ?_
  have h := si h
  subst h
  exact pwp_ret (rt (.ref 0 0 0 1 (([] : List Int)).length false) (OutP.list (v := 0) (by kernel_rfl)))
  refine pwp_skip ?_
  refine pwp_seq ?_
  refine srveM [10] 72 [(0, A a0), (1, A a1), (5, .fptr (Enc.cells a2) 0), (7, .arr 1 0 (eL ([] : List Int)) true), (8, I 0)] [] ?_
  refine pwp_block ?_
  refine pwp_loop (ι := Nat × Int) (fun (f5, x4) => (⟨72, [(0, A a0), (1, A a1), (5, .fptr (Enc.cells a2) 0), (7, .arr 1 0 (eL ([] : List Int)) true), (8, I x4)], []⟩ : St)) (fun (f5, x4) => spec_BondsAsked_l0 a0 a1 a2 f5 x4 = some y) (fun (f5, x4) => f5) (FUEL, 0) h ((Imp.to (st' := ⟨72, [(0, A a0), (1, A a1), (5, .fptr (Enc.cells a2) 0), (7, .arr 1 0 (eL ([] : List Int)) true), (8, I 0)], []⟩) [0, 1, 5, 7, 8] (by kernel_rfl)).trans (Imp.to [0, 1, 5, 7, 8] (by kernel_rfl))) ?_
  rintro ⟨f5, x4⟩ h
  dsimp only at h ⊢
  rcases f5 with _ | f5
  cases h
  rw [spec_BondsAsked_l0] at h
  refine pwp_seq ?_
  refine srveM [10] 72 [(0, A a0), (1, A a1), (5, .fptr (Enc.cells a2) 0), (7, .arr 1 0 (eL ([] : List Int)) true), (8, I x4), (20, B ((decide (x4 < ((a1.length : Int))))))] [] ?_
  refine pc h (fun h => ?_) (fun h => ?_)
  refine pwp_skip ?_
  refine pwp_seq ?_
  refine pwp_block ?_
  refine srvM [10] 3 72 [(0, A a0), (1, A a1), (5, .fptr (Enc.cells a2) 0), (7, .arr 1 0 (eL ([] : List Int)) true), (8, I x4), (23, A a0), (24, A a1), (25, I x4)] [] ?_
  obtain ⟨v8, hv9, h⟩ := bindS h
  refine opsP_idx τ_ok 26 hv9 (by kernel_rfl) ?_
  refine vM [10] 1 72 [(0, A a0), (1, A a1), (5, .fptr (Enc.cells a2) 0), (7, .arr 1 0 (eL ([] : List Int)) true), (8, I x4), (23, A a0), (27, E v8)] [] ?_
  obtain ⟨v10, hv11, h⟩ := bindS h
  refine opsP_callF τ 28 (ok_spec_BondOk hv11) (FzTo.frz rfl) rfl (by kernel_rfl) ?_
  refine veM [10] 1 72 [(0, A a0), (1, A a1), (5, .fptr (Enc.cells a2) 0), (7, .arr 1 0 (eL ([] : List Int)) true), (8, I x4), (29, B ((!v10)))] [] ?_
  refine pc h (fun h => ?_) (fun h => ?_)
  refine srveM [10] 72 [(6, .arr 1 0 (eL ([] : List Int)) true)] [] ?_
  refine pwp_imp (Imp.to (st' := ⟨72, [(6, .arr 1 0 (eL ([] : List Int)) true)], []⟩) [6] (by kernel_rfl)) ?_
  refine pwp_imp (Imp.thawS (st' := ⟨72, [(6, .ref 0 0 0 1 (([] : List Int)).length false)], [some ⟨0, eL (([] : List Int))⟩]⟩) 6 [6] (by kernel_rfl)) ?_
  have h := si h
  subst h
  exact pwp_ret (rt (.ref 0 0 0 1 (([] : List Int)).length false) (OutP.list (v := 0) (by kernel_rfl)))
  refine pwp_skip ?_
  refine rveM [10] 72 [(0, A a0), (1, A a1), (5, .fptr (Enc.cells a2) 0), (7, .arr 1 0 (eL ([] : List Int)) true), (8, I ((w64 (x4 + 1))))] [] ?_
  exact ⟨(f5, (w64 (x4 + 1))), h, Nat.lt_succ_self _, (Imp.to (st' := ⟨72, [(0, A a0), (1, A a1), (5, .fptr (Enc.cells a2) 0), (7, .arr 1 0 (eL ([] : List Int)) true), (8, I ((w64 (x4 + 1))))], []⟩) [0, 1, 5, 7, 8] (by kernel_rfl)).trans (Imp.to [0, 1, 5, 7, 8] (by kernel_rfl))⟩
  refine pwp_exit ?_
  refine pwp_seq ?_
  refine srveM [10] 72 [(1, A a1), (5, .fptr (Enc.cells a2) 0), (7, .arr 1 0 (eL ([] : List Int)) true), (9, I 0)] [] ?_
  refine pwp_block ?_
  refine pwp_loop (ι := Nat × Int × (List Int)) (fun (f16, x14, x15) => (⟨72, [(1, A a1), (5, .fptr (Enc.cells a2) 0), (7, .ref 0 0 0 1 x15.length false), (9, I x14)], [some ⟨0, eL x15⟩]⟩ : St)) (fun (f16, x14, x15) => spec_BondsAsked_l1 a1 a2 f16 x14 x15 = some y) (fun (f16, x14, x15) => f16) (FUEL, 0, ([] : List Int)) h ((Imp.to (st' := ⟨72, [(1, A a1), (5, .fptr (Enc.cells a2) 0), (7, .arr 1 0 (eL ([] : List Int)) true), (9, I 0)], []⟩) [1, 5, 7, 9] (by kernel_rfl)).trans ((Imp.thawS (st' := ⟨72, [(1, A a1), (5, .fptr (Enc.cells a2) 0), (7, .ref 0 0 0 1 (([] : List Int)).length false), (9, I 0)], [some ⟨0, eL (([] : List Int))⟩]⟩) 7 [1, 5, 7, 9] (by kernel_rfl)).trans (Imp.to [1, 5, 7, 9] (by kernel_rfl)))) ?_
  rintro ⟨f16, x14, x15⟩ h
  dsimp only at h ⊢
  rcases f16 with _ | f16
  cases h
  rw [spec_BondsAsked_l1] at h
  refine pwp_seq ?_
  refine srveM [10] 72 [(1, A a1), (5, .fptr (Enc.cells a2) 0), (7, .ref 0 0 0 1 x15.length false), (9, I x14), (34, B ((decide (x14 < ((a1.length : Int))))))] [some ⟨0, eL x15⟩] ?_
  refine pc h (fun h => ?_) (fun h => ?_)
  refine pwp_skip ?_
  refine pwp_seq ?_
  refine pwp_join (σ := (List Int) × T_impl_Bond) (fun (x19, x20) => (⟨72, [(1, A a1), (5, .fptr (Enc.cells a2) 0), (7, .ref 0 0 0 1 x19.length false), (9, I x14)], [some ⟨0, eL x19⟩, some ⟨0, Enc.cells x20⟩]⟩ : St)) (fun (x19, x20) => spec_BondsAsked_j2 x14 (spec_BondsAsked_l1 a1 a2 f16) x19 x20 = some y) ?_ ?_
  refine pwp_block ?_
  refine srvM [10] 2 72 [(1, A a1), (5, .fptr (Enc.cells a2) 0), (7, .ref 0 0 0 1 x15.length false), (9, I x14), (37, A a1), (38, I x14)] [some ⟨0, eL x15⟩] ?_
  obtain ⟨v21, hv22, h⟩ := bindS h
  refine opsP_idx τ_ok 39 hv22 (by kernel_rfl) ?_
  refine veM [10] 3 72 [(1, A a1), (5, .fptr (Enc.cells a2) 0), (7, .ref 0 0 0 1 x15.length false), (9, I x14), (10, .ptr 1 0 0)] [some ⟨0, eL x15⟩, some ⟨0, Enc.cells v21⟩] ?_
  refine pwp_seq ?_
  refine pwp_join (σ := Bool) (fun x23 => (⟨72, [(1, A a1), (5, .fptr (Enc.cells a2) 0), (7, .ref 0 0 0 1 x15.length false), (9, I x14), (66, B x23)], [some ⟨0, eL x15⟩, some ⟨0, Enc.cells v21⟩]⟩ : St)) (fun x23 => spec_BondsAsked_j3 x14 x15 (spec_BondsAsked_l1 a1 a2 f16) v21 x23 = some y) ?_ ?_
  refine rvM [10] 3 72 [(1, A a1), (5, .fptr (Enc.cells a2) 0), (7, .ref 0 0 0 1 x15.length false), (9, I x14), (10, .ptr 1 0 0), (43, B a2.fCome)] [some ⟨0, eL x15⟩, some ⟨0, Enc.cells v21⟩] ?_
  rcases Bool.eq_false_or_eq_true a2.fCome with hc32 | hc32
  replace h := bT hc32 h
  rw [hc32]
  refine vM [10] 7 72 [(1, A a1), (5, .fptr (Enc.cells a2) 0), (7, .ref 0 0 0 1 x15.length false), (9, I x14), (10, .ptr 1 0 0), (44, .ptr 1 0 1), (45, I v21.fIn), (46, .fptr (Enc.cells a2) 0), (47, I a2.fIn), (48, B ((v21.fIn == a2.fIn))), (50, B ((v21.fIn == a2.fIn)))] [some ⟨0, eL x15⟩, some ⟨0, Enc.cells v21⟩] ?_
  rcases fk ((v21.fIn == a2.fIn)) with hc29 | hc29
  replace h := bT hc29 h
  rw [hc29]
  refine veM [10] 16 72 [(1, A a1), (5, .fptr (Enc.cells a2) 0), (7, .ref 0 0 0 1 x15.length false), (9, I x14), (44, .ptr 1 0 1), (45, I v21.fIn), (46, .fptr (Enc.cells a2) 0), (47, I a2.fIn), (48, B true), (51, .lit undef), (52, .lit undef), (53, .lit undef), (54, .lit undef), (55, .lit undef), (56, .lit undef), (57, .lit undef), (58, .lit undef), (59, .lit undef), (60, .lit undef), (61, .lit undef), (62, .lit undef), (63, .lit undef), (64, .lit undef), (65, .lit undef), (66, B true)] [some ⟨0, eL x15⟩, some ⟨0, Enc.cells v21⟩] ?_
  exact ⟨true, h, (Imp.to (st' := ⟨72, [(1, A a1), (5, .fptr (Enc.cells a2) 0), (7, .ref 0 0 0 1 x15.length false), (9, I x14), (66, B true)], [some ⟨0, eL x15⟩, some ⟨0, Enc.cells v21⟩]⟩) [1, 5, 7, 9, 66] (by kernel_rfl)).trans (Imp.to [1, 5, 7, 9, 66] (by kernel_rfl))⟩
  replace h := bF hc29 h
  rw [hc29]
  refine vM [10] 4 72 [(1, A a1), (5, .fptr (Enc.cells a2) 0), (7, .ref 0 0 0 1 x15.length false), (9, I x14), (10, .ptr 1 0 0), (44, .ptr 1 0 1), (45, I v21.fIn), (46, .fptr (Enc.cells a2) 0), (47, I a2.fIn), (48, B false), (50, B false), (51, .fptr (Enc.cells a2) 2), (52, B a2.fCome), (53, B ((!a2.fCome))), (54, B ((!a2.fCome)))] [some ⟨0, eL x15⟩, some ⟨0, Enc.cells v21⟩] ?_
  rcases fk ((!a2.fCome)) with hc28 | hc28
  replace h := bT hc28 h
  rw [hc28]
  refine vM [10] 5 72 [(1, A a1), (5, .fptr (Enc.cells a2) 0), (7, .ref 0 0 0 1 x15.length false), (9, I x14), (10, .ptr 1 0 0), (44, .ptr 1 0 1), (45, I v21.fIn), (46, .fptr (Enc.cells a2) 0), (47, I a2.fIn), (48, B false), (50, B false), (51, .fptr (Enc.cells a2) 2), (52, B a2.fCome), (53, B true), (54, B true), (55, .ptr 1 0 0), (56, I v21.fKind), (57, B ((v21.fKind == 2))), (58, B ((v21.fKind == 2))), (59, B ((v21.fKind == 2)))] [some ⟨0, eL x15⟩, some ⟨0, Enc.cells v21⟩] ?_
  rcases fk ((v21.fKind == 2)) with hc27 | hc27
  replace h := bT hc27 h
  rw [hc27]
  refine veM [10] 7 72 [(1, A a1), (5, .fptr (Enc.cells a2) 0), (7, .ref 0 0 0 1 x15.length false), (9, I x14), (44, .ptr 1 0 1), (45, I v21.fIn), (46, .fptr (Enc.cells a2) 0), (47, I a2.fIn), (48, B false), (51, .fptr (Enc.cells a2) 2), (52, B a2.fCome), (53, B true), (54, B true), (55, .ptr 1 0 0), (56, I v21.fKind), (57, B true), (58, B true), (59, B true), (60, .ptr 1 0 3), (61, I v21.fOf), (62, .fptr (Enc.cells a2) 0), (63, I a2.fIn), (64, B ((v21.fOf == a2.fIn))), (65, B ((v21.fOf == a2.fIn))), (66, B ((v21.fOf == a2.fIn)))] [some ⟨0, eL x15⟩, some ⟨0, Enc.cells v21⟩] ?_
  exact ⟨(v21.fOf == a2.fIn), h, (Imp.to (st' := ⟨72, [(1, A a1), (5, .fptr (Enc.cells a2) 0), (7, .ref 0 0 0 1 x15.length false), (9, I x14), (66, B ((v21.fOf == a2.fIn)))], [some ⟨0, eL x15⟩, some ⟨0, Enc.cells v21⟩]⟩) [1, 5, 7, 9, 66] (by kernel_rfl)).trans (Imp.to [1, 5, 7, 9, 66] (by kernel_rfl))⟩
  replace h := bF hc27 h
  rw [hc27]
  refine veM [10] 7 72 [(1, A a1), (5, .fptr (Enc.cells a2) 0), (7, .ref 0 0 0 1 x15.length false), (9, I x14), (44, .ptr 1 0 1), (45, I v21.fIn), (46, .fptr (Enc.cells a2) 0), (47, I a2.fIn), (48, B false), (51, .fptr (Enc.cells a2) 2), (52, B a2.fCome), (53, B true), (54, B true), (55, .ptr 1 0 0), (56, I v21.fKind), (57, B false), (58, B false), (59, B false), (60, .lit undef), (61, .lit undef), (62, .lit undef), (63, .lit undef), (64, .lit undef), (65, B false), (66, B false)] [some ⟨0, eL x15⟩, some ⟨0, Enc.cells v21⟩] ?_
  exact ⟨false, h, (Imp.to (st' := ⟨72, [(1, A a1), (5, .fptr (Enc.cells a2) 0), (7, .ref 0 0 0 1 x15.length false), (9, I x14), (66, B false)], [some ⟨0, eL x15⟩, some ⟨0, Enc.cells v21⟩]⟩) [1, 5, 7, 9, 66] (by kernel_rfl)).trans (Imp.to [1, 5, 7, 9, 66] (by kernel_rfl))⟩
  replace h := bF hc28 h
  rw [hc28]
  refine veM [10] 12 72 [(1, A a1), (5, .fptr (Enc.cells a2) 0), (7, .ref 0 0 0 1 x15.length false), (9, I x14), (44, .ptr 1 0 1), (45, I v21.fIn), (46, .fptr (Enc.cells a2) 0), (47, I a2.fIn), (48, B false), (51, .fptr (Enc.cells a2) 2), (52, B a2.fCome), (53, B false), (54, B false), (55, .lit undef), (56, .lit undef), (57, .lit undef), (58, B false), (59, B false), (60, .lit undef), (61, .lit undef), (62, .lit undef), (63, .lit undef), (64, .lit undef), (65, B false), (66, B false)] [some ⟨0, eL x15⟩, some ⟨0, Enc.cells v21⟩] ?_
  exact ⟨false, h, (Imp.to (st' := ⟨72, [(1, A a1), (5, .fptr (Enc.cells a2) 0), (7, .ref 0 0 0 1 x15.length false), (9, I x14), (66, B false)], [some ⟨0, eL x15⟩, some ⟨0, Enc.cells v21⟩]⟩) [1, 5, 7, 9, 66] (by kernel_rfl)).trans (Imp.to [1, 5, 7, 9, 66] (by kernel_rfl))⟩
  replace h := bF hc32 h
  rw [hc32]
  refine vM [10] 11 72 [(1, A a1), (5, .fptr (Enc.cells a2) 0), (7, .ref 0 0 0 1 x15.length false), (9, I x14), (10, .ptr 1 0 0), (44, .lit undef), (45, .lit undef), (46, .lit undef), (47, .lit undef), (48, .lit undef), (50, B false), (51, .fptr (Enc.cells a2) 2), (52, B a2.fCome), (53, B ((!a2.fCome))), (54, B ((!a2.fCome)))] [some ⟨0, eL x15⟩, some ⟨0, Enc.cells v21⟩] ?_
  rcases fk ((!a2.fCome)) with hc31 | hc31
  replace h := bT hc31 h
  rw [hc31]
  refine vM [10] 5 72 [(1, A a1), (5, .fptr (Enc.cells a2) 0), (7, .ref 0 0 0 1 x15.length false), (9, I x14), (10, .ptr 1 0 0), (44, .lit undef), (45, .lit undef), (46, .lit undef), (47, .lit undef), (48, .lit undef), (50, B false), (51, .fptr (Enc.cells a2) 2), (52, B a2.fCome), (53, B true), (54, B true), (55, .ptr 1 0 0), (56, I v21.fKind), (57, B ((v21.fKind == 2))), (58, B ((v21.fKind == 2))), (59, B ((v21.fKind == 2)))] [some ⟨0, eL x15⟩, some ⟨0, Enc.cells v21⟩] ?_
  rcases fk ((v21.fKind == 2)) with hc30 | hc30
  replace h := bT hc30 h
  rw [hc30]
  refine veM [10] 7 72 [(1, A a1), (5, .fptr (Enc.cells a2) 0), (7, .ref 0 0 0 1 x15.length false), (9, I x14), (44, .lit undef), (45, .lit undef), (46, .lit undef), (47, .lit undef), (48, .lit undef), (51, .fptr (Enc.cells a2) 2), (52, B a2.fCome), (53, B true), (54, B true), (55, .ptr 1 0 0), (56, I v21.fKind), (57, B true), (58, B true), (59, B true), (60, .ptr 1 0 3), (61, I v21.fOf), (62, .fptr (Enc.cells a2) 0), (63, I a2.fIn), (64, B ((v21.fOf == a2.fIn))), (65, B ((v21.fOf == a2.fIn))), (66, B ((v21.fOf == a2.fIn)))] [some ⟨0, eL x15⟩, some ⟨0, Enc.cells v21⟩] ?_
  exact ⟨(v21.fOf == a2.fIn), h, (Imp.to (st' := ⟨72, [(1, A a1), (5, .fptr (Enc.cells a2) 0), (7, .ref 0 0 0 1 x15.length false), (9, I x14), (66, B ((v21.fOf == a2.fIn)))], [some ⟨0, eL x15⟩, some ⟨0, Enc.cells v21⟩]⟩) [1, 5, 7, 9, 66] (by kernel_rfl)).trans (Imp.to [1, 5, 7, 9, 66] (by kernel_rfl))⟩
  replace h := bF hc30 h
  rw [hc30]
  refine veM [10] 7 72 [(1, A a1), (5, .fptr (Enc.cells a2) 0), (7, .ref 0 0 0 1 x15.length false), (9, I x14), (44, .lit undef), (45, .lit undef), (46, .lit undef), (47, .lit undef), (48, .lit undef), (51, .fptr (Enc.cells a2) 2), (52, B a2.fCome), (53, B true), (54, B true), (55, .ptr 1 0 0), (56, I v21.fKind), (57, B false), (58, B false), (59, B false), (60, .lit undef), (61, .lit undef), (62, .lit undef), (63, .lit undef), (64, .lit undef), (65, B false), (66, B false)] [some ⟨0, eL x15⟩, some ⟨0, Enc.cells v21⟩] ?_
  exact ⟨false, h, (Imp.to (st' := ⟨72, [(1, A a1), (5, .fptr (Enc.cells a2) 0), (7, .ref 0 0 0 1 x15.length false), (9, I x14), (66, B false)], [some ⟨0, eL x15⟩, some ⟨0, Enc.cells v21⟩]⟩) [1, 5, 7, 9, 66] (by kernel_rfl)).trans (Imp.to [1, 5, 7, 9, 66] (by kernel_rfl))⟩
  replace h := bF hc31 h
  rw [hc31]
  refine veM [10] 12 72 [(1, A a1), (5, .fptr (Enc.cells a2) 0), (7, .ref 0 0 0 1 x15.length false), (9, I x14), (44, .lit undef), (45, .lit undef), (46, .lit undef), (47, .lit undef), (48, .lit undef), (51, .fptr (Enc.cells a2) 2), (52, B a2.fCome), (53, B false), (54, B false), (55, .lit undef), (56, .lit undef), (57, .lit undef), (58, B false), (59, B false), (60, .lit undef), (61, .lit undef), (62, .lit undef), (63, .lit undef), (64, .lit undef), (65, B false), (66, B false)] [some ⟨0, eL x15⟩, some ⟨0, Enc.cells v21⟩] ?_
  exact ⟨false, h, (Imp.to (st' := ⟨72, [(1, A a1), (5, .fptr (Enc.cells a2) 0), (7, .ref 0 0 0 1 x15.length false), (9, I x14), (66, B false)], [some ⟨0, eL x15⟩, some ⟨0, Enc.cells v21⟩]⟩) [1, 5, 7, 9, 66] (by kernel_rfl)).trans (Imp.to [1, 5, 7, 9, 66] (by kernel_rfl))⟩
  rintro x23 h
  unfold spec_BondsAsked_j3 at h
  refine pc h (fun h => ?_) (fun h => ?_)
  refine rvM [10] 3 72 [(1, A a1), (5, .fptr (Enc.cells a2) 0), (9, I x14), (67, .ref 0 0 0 1 x15.length false), (69, .arr 1 (([x14] : List Int)).length (eL ([x14] : List Int)) true)] [some ⟨0, eL x15⟩, some ⟨0, Enc.cells v21⟩] ?_
  obtain ⟨v25, hv26, h⟩ := bindS h
  refine opsP_app τ_ok 70 0 0 (fun b hb => absurd hb (hX b)) hv26 (by kernel_rfl) ?_
  refine veM [10] 1 72 [(1, A a1), (5, .fptr (Enc.cells a2) 0), (7, .ref 0 1 0 1 v25.length false), (9, I x14)] [some ⟨1, eL v25⟩, some ⟨0, Enc.cells v21⟩] ?_
  exact ⟨(v25, v21), h, (Imp.to (st' := ⟨72, [(1, A a1), (5, .fptr (Enc.cells a2) 0), (7, .ref 0 1 0 1 v25.length false), (9, I x14)], [some ⟨1, eL v25⟩, some ⟨0, Enc.cells v21⟩]⟩) [1, 5, 7, 9] (by kernel_rfl)).trans ((Imp.reverS (st' := ⟨72, [(1, A a1), (5, .fptr (Enc.cells a2) 0), (7, .ref 0 0 0 1 v25.length false), (9, I x14)], [some ⟨0, eL v25⟩, some ⟨0, Enc.cells v21⟩]⟩) 0 1 (eL v25) [1, 5, 7, 9] (by kernel_rfl) (by exact (And.intro (eL_frz _) (And.intro (rfl) trivial))) (by kernel_rfl)).trans (Imp.to [1, 5, 7, 9] (by kernel_rfl)))⟩
  refine pwp_skip ?_
  exact ⟨(x15, v21), h, (Imp.to (st' := ⟨72, [(1, A a1), (5, .fptr (Enc.cells a2) 0), (7, .ref 0 0 0 1 x15.length false), (9, I x14)], [some ⟨0, eL x15⟩, some ⟨0, Enc.cells v21⟩]⟩) [1, 5, 7, 9] (by kernel_rfl)).trans (Imp.to [1, 5, 7, 9] (by kernel_rfl))⟩
  rintro ⟨x19, x20⟩ h
  dsimp only at h ⊢
  unfold spec_BondsAsked_j2 at h
  refine rveM [10] 72 [(1, A a1), (5, .fptr (Enc.cells a2) 0), (7, .ref 0 0 0 1 x19.length false), (9, I ((w64 (x14 + 1))))] [some ⟨0, eL x19⟩, some ⟨0, Enc.cells x20⟩] ?_
  exact ⟨(f16, (w64 (x14 + 1)), x19), h, Nat.lt_succ_self _, (Imp.to (st' := ⟨72, [(1, A a1), (5, .fptr (Enc.cells a2) 0), (7, .ref 0 0 0 1 x19.length false), (9, I ((w64 (x14 + 1))))], [some ⟨0, eL x19⟩, some ⟨0, Enc.cells x20⟩]⟩) [1, 5, 7, 9] (by kernel_rfl)).trans ((Imp.truncS (st' := ⟨72, [(1, A a1), (5, .fptr (Enc.cells a2) 0), (7, .ref 0 0 0 1 x19.length false), (9, I ((w64 (x14 + 1))))], [some ⟨0, eL x19⟩]⟩) 1 (fun b hb => absurd hb (hX b)) (by kernel_rfl) (allBelow_mem (by exact (And.intro rfl (And.intro rfl (And.intro rfl (And.intro rfl trivial)))))) (by exact (And.intro (frz_below (eL_frz _)) trivial)) (by kernel_rfl)).trans (Imp.to [1, 5, 7, 9] (by kernel_rfl)))⟩
  refine pwp_exit ?_
  refine srveM [10] 72 [(6, .ref 0 0 0 1 x15.length false)] [some ⟨0, eL x15⟩] ?_
  have h := si h
  subst h
  exact pwp_ret (rt (.ref 0 0 0 1 x15.length false) (OutP.list (v := 0) (by kernel_rfl)))
def impl_TablesOk (a0 : List T_impl_Table) : Option Bool := bif (decide (((a0.length : Int)) ≤ 3)) then (slices_ContainsFunc_impl_Table_impl_Table a0 impl_TablesOk_1).bind fun v1 => some ((!v1)) else some false
theorem ok_impl_TablesOk {a0 : List T_impl_Table} {y : Bool} (h : impl_TablesOk a0 = some y) : OK Tryz.prog 111 [A a0] (B y) := by
  refine OK_of_pwp τ_ok Tryz.func111 rfl (by kernel_rfl) rfl fun Γ hX => ?_
  unfold impl_TablesOk at h
  refine srve 11 [(0, A a0)] [] ?_
  refine srv 4 11 [(0, A a0), (6, B ((decide (((a0.length : Int)) ≤ 3))))] [] ?_
  rcases fk ((decide (((a0.length : Int)) ≤ 3))) with hc3 | hc3
  replace h := bT hc3 h
  rw [hc3]
  refine v 1 11 [(6, B true), (7, A a0)] [] ?_
  obtain ⟨v1, hv2, h⟩ := bindS h
  refine opsP_callF τ 8 (ok_slices_ContainsFunc_impl_Table_impl_Table (rfl) (fun _ w hw => ok_impl_TablesOk_1 hw) hv2) (FzTo.frz rfl) rfl (by kernel_rfl) ?_
  refine ve 3 11 [(2, B ((!v1)))] [] ?_
  cases h
  exact pwp_ret rz
  replace h := bF hc3 h
  rw [hc3]
  refine ve 5 11 [(2, B false)] [] ?_
  cases h
  exact pwp_ret rz
def impl_bondsOk (a0 : List T_impl_Table) (a1 : List T_impl_Bond) : Option Bool := (impl_TablesOk a0).bind fun v1 => bif v1 then (slices_ContainsFunc_impl_Bond_impl_Bond a1 (fun z0 => impl_bondsOk_1 z0 a0)).bind fun v3 => some ((!v3)) else some false
theorem ok_impl_bondsOk {a0 : List T_impl_Table} {a1 : List T_impl_Bond} {y : Bool} (h : impl_bondsOk a0 a1 = some y) : OK Tryz.prog 65 [A a0, A a1] (B y) := by
  refine OK_of_pwp τ_ok Tryz.func65 rfl (by kernel_rfl) rfl fun Γ hX => ?_
  unfold impl_bondsOk at h
  refine srve 13 [(1, A a1), (2, .fptr (Enc.cells a0) 0)] [] ?_
  refine srv 1 13 [(1, A a1), (2, .fptr (Enc.cells a0) 0), (5, A a0)] [] ?_
  obtain ⟨v1, hv2, h⟩ := bindS h
  refine opsP_callF τ 6 (ok_impl_TablesOk hv2) (FzTo.frz rfl) rfl (by kernel_rfl) ?_
  refine v 1 13 [(1, A a1), (2, .fptr (Enc.cells a0) 0), (7, B v1)] [] ?_
  rcases Bool.eq_false_or_eq_true v1 with hc5 | hc5
  replace h := bT hc5 h
  rw [hc5]
  refine v 2 13 [(7, B true), (8, A a1), (9, .fn 113 [.fptr (Enc.cells a0) 0])] [] ?_
  obtain ⟨v3, hv4, h⟩ := bindS h
  refine opsP_callF τ 10 (ok_slices_ContainsFunc_impl_Bond_impl_Bond (rfl) (fun _ w hw => ok_impl_bondsOk_1 hw) hv4) (FzTo.frz rfl) rfl (by kernel_rfl) ?_
  refine ve 3 13 [(4, B ((!v3)))] [] ?_
  cases h
  exact pwp_ret rz
  replace h := bF hc5 h
  rw [hc5]
  refine ve 6 13 [(4, B false)] [] ?_
  cases h
  exact pwp_ret rz
def impl_ChangeOk_j0 (a0 : List T_impl_Table) (a1 : T_impl_Change) (x1 : Bool) : Option Bool := bif x1 then some false else (getI a0 a1.fIn).bind fun v3 => (impl_RowFits v3.fColumns a1.fRow).bind fun v5 => bif v5 then bif a1.fCome then bif (decide (((v3.fRows.length : Int)) < 6)) then some true else bif (!a1.fCome) then (impl_rowAt v3.fRows a1.fRow).bind fun v7 => some ((decide (v7 ≥ 0))) else some false else bif (!a1.fCome) then (impl_rowAt v3.fRows a1.fRow).bind fun v11 => some ((decide (v11 ≥ 0))) else some false else some false
def impl_ChangeOk (a0 : List T_impl_Table) (a1 : T_impl_Change) : Option Bool := (impl_TablesOk a0).bind fun v16 => bif (!v16) then impl_ChangeOk_j0 a0 a1 true else (impl_between a1.fIn 0 ((w64 (((a0.length : Int)) - 1)))).bind fun v18 => impl_ChangeOk_j0 a0 a1 ((!v18))
theorem ok_impl_ChangeOk {a0 : List T_impl_Table} {a1 : T_impl_Change} {y : Bool} (h : impl_ChangeOk a0 a1 = some y) : OK Tryz.prog 66 [A a0, E a1] (B y) := by
  refine OK_of_pwp τ_ok Tryz.func66 rfl (by kernel_rfl) rfl fun Γ hX => ?_
  unfold impl_ChangeOk at h
  refine srveM [5] 51 [(0, A a0), (3, .fptr (Enc.cells a1) 0)] [] ?_
  refine pwp_seq ?_
  refine pwp_seq ?_
  refine pwp_join (σ := Bool) (fun x1 => (⟨51, [(0, A a0), (3, .fptr (Enc.cells a1) 0), (17, B x1)], []⟩ : St)) (fun x1 => impl_ChangeOk_j0 a0 a1 x1 = some y) ?_ ?_
  refine rvM [5] 1 51 [(0, A a0), (3, .fptr (Enc.cells a1) 0), (6, A a0)] [] ?_
  obtain ⟨v16, hv17, h⟩ := bindS h
  refine opsP_callF τ 7 (ok_impl_TablesOk hv17) (FzTo.frz rfl) rfl (by kernel_rfl) ?_
  refine vM [5] 2 51 [(0, A a0), (3, .fptr (Enc.cells a1) 0), (9, B ((!v16)))] [] ?_
  rcases fk ((!v16)) with hc20 | hc20
  replace h := bT hc20 h
  rw [hc20]
  refine veM [5] 8 51 [(0, A a0), (3, .fptr (Enc.cells a1) 0), (17, B true)] [] ?_
  exact ⟨true, h, (Imp.to (st' := ⟨51, [(0, A a0), (3, .fptr (Enc.cells a1) 0), (17, B true)], []⟩) [0, 3, 17] (by kernel_rfl)).trans (Imp.to [0, 3, 17] (by kernel_rfl))⟩
  replace h := bF hc20 h
  rw [hc20]
  refine vM [5] 5 51 [(0, A a0), (3, .fptr (Enc.cells a1) 0), (9, B false), (11, I a1.fIn), (14, I ((w64 (((a0.length : Int)) - 1))))] [] ?_
  obtain ⟨v18, hv19, h⟩ := bindS h
  refine opsP_callF τ 15 (ok_impl_between hv19) (FzTo.frz rfl) rfl (by kernel_rfl) ?_
  refine veM [5] 2 51 [(0, A a0), (3, .fptr (Enc.cells a1) 0), (17, B ((!v18)))] [] ?_
  exact ⟨(!v18), h, (Imp.to (st' := ⟨51, [(0, A a0), (3, .fptr (Enc.cells a1) 0), (17, B ((!v18)))], []⟩) [0, 3, 17] (by kernel_rfl)).trans (Imp.to [0, 3, 17] (by kernel_rfl))⟩
  rintro x1 h
  unfold impl_ChangeOk_j0 at h
  refine pc h (fun h => ?_) (fun h => ?_)
  refine srveM [5] 51 [(4, B false)] [] ?_
  cases h
  exact pwp_ret rz
  refine pwp_skip ?_
  refine srvM [5] 3 51 [(3, .fptr (Enc.cells a1) 0), (18, A a0), (20, I a1.fIn)] [] ?_
  obtain ⟨v3, hv4, h⟩ := bindS h
  refine opsP_idx τ_ok 21 hv4 (by kernel_rfl) ?_
  refine veM [5] 3 51 [(3, .fptr (Enc.cells a1) 0), (5, .ptr 0 0 0)] [some ⟨0, Enc.cells v3⟩] ?_
  refine srvM [5] 4 51 [(3, .fptr (Enc.cells a1) 0), (5, .ptr 0 0 0), (24, A v3.fColumns), (26, A a1.fRow)] [some ⟨0, Enc.cells v3⟩] ?_
  obtain ⟨v5, hv6, h⟩ := bindS h
  refine opsP_callF τ 27 (ok_impl_RowFits hv6) (FzTo.frz rfl) rfl (by kernel_rfl) ?_
  refine vM [5] 1 51 [(3, .fptr (Enc.cells a1) 0), (5, .ptr 0 0 0), (28, B v5)] [some ⟨0, Enc.cells v3⟩] ?_
  rcases Bool.eq_false_or_eq_true v5 with hc15 | hc15
  replace h := bT hc15 h
  rw [hc15]
  refine vM [5] 3 51 [(3, .fptr (Enc.cells a1) 0), (5, .ptr 0 0 0), (28, B true), (31, B a1.fCome)] [some ⟨0, Enc.cells v3⟩] ?_
  rcases Bool.eq_false_or_eq_true a1.fCome with hc14 | hc14
  replace h := bT hc14 h
  rw [hc14]
  refine vM [5] 6 51 [(3, .fptr (Enc.cells a1) 0), (5, .ptr 0 0 0), (28, B true), (37, B ((decide (((v3.fRows.length : Int)) < 6))))] [some ⟨0, Enc.cells v3⟩] ?_
  rcases fk ((decide (((v3.fRows.length : Int)) < 6))) with hc10 | hc10
  replace h := bT hc10 h
  rw [hc10]
  refine veM [5] 14 51 [(4, B true)] [some ⟨0, Enc.cells v3⟩] ?_
  cases h
  exact pwp_ret rz
  replace h := bF hc10 h
  rw [hc10]
  refine vM [5] 4 51 [(3, .fptr (Enc.cells a1) 0), (5, .ptr 0 0 0), (28, B true), (37, B false), (41, B ((!a1.fCome)))] [some ⟨0, Enc.cells v3⟩] ?_
  rcases fk ((!a1.fCome)) with hc9 | hc9
  replace h := bT hc9 h
  rw [hc9]
  refine vM [5] 4 51 [(28, B true), (37, B false), (41, B true), (43, A v3.fRows), (45, A a1.fRow)] [some ⟨0, Enc.cells v3⟩] ?_
  obtain ⟨v7, hv8, h⟩ := bindS h
  refine opsP_callF τ 46 (ok_impl_rowAt hv8) (FzTo.frz rfl) rfl (by kernel_rfl) ?_
  refine veM [5] 5 51 [(4, B ((decide (v7 ≥ 0))))] [some ⟨0, Enc.cells v3⟩] ?_
  cases h
  exact pwp_ret rz
  replace h := bF hc9 h
  rw [hc9]
  refine veM [5] 10 51 [(4, B false)] [some ⟨0, Enc.cells v3⟩] ?_
  cases h
  exact pwp_ret rz
  replace h := bF hc14 h
  rw [hc14]
  refine vM [5] 10 51 [(3, .fptr (Enc.cells a1) 0), (5, .ptr 0 0 0), (28, B true), (37, B false), (41, B ((!a1.fCome)))] [some ⟨0, Enc.cells v3⟩] ?_
  rcases fk ((!a1.fCome)) with hc13 | hc13
  replace h := bT hc13 h
  rw [hc13]
  refine vM [5] 4 51 [(28, B true), (37, B false), (41, B true), (43, A v3.fRows), (45, A a1.fRow)] [some ⟨0, Enc.cells v3⟩] ?_
  obtain ⟨v11, hv12, h⟩ := bindS h
  refine opsP_callF τ 46 (ok_impl_rowAt hv12) (FzTo.frz rfl) rfl (by kernel_rfl) ?_
  refine veM [5] 5 51 [(4, B ((decide (v11 ≥ 0))))] [some ⟨0, Enc.cells v3⟩] ?_
  cases h
  exact pwp_ret rz
  replace h := bF hc13 h
  rw [hc13]
  refine veM [5] 10 51 [(4, B false)] [some ⟨0, Enc.cells v3⟩] ?_
  cases h
  exact pwp_ret rz
  replace h := bF hc15 h
  rw [hc15]
  refine veM [5] 23 51 [(4, B false)] [some ⟨0, Enc.cells v3⟩] ?_
  cases h
  exact pwp_ret rz
def laws_toValueSS_D_l0 (a0 : List (List T_laws_Value)) : Nat → Int → (List (List T_impl_Value)) → Option (List (List T_impl_Value))
  | 0, _, _ => none
  | f6 + 1, x4, x5 => bif (decide (x4 < ((a0.length : Int)))) then (getI a0 x4).bind fun v9 => (laws_toValueS v9).bind fun v11 => (getI x5 x4).bind fun v13 => (laws_toValueSS_D_l0 a0 f6) ((w64 (x4 + 1))) ((x5.set x4.toNat v11)) else some x5
def laws_toValueSS_D (a0 : List (List T_laws_Value)) : Option (List (List T_impl_Value)) := (mkI ((a0.length : Int)) (([] : List T_impl_Value))).bind fun v1 => laws_toValueSS_D_l0 a0 FUEL 0 v1
theorem ok_laws_toValueSS_D {a0 : List (List T_laws_Value)} {y : List (List T_impl_Value)} (h : laws_toValueSS_D a0 = some y) : OK Tryz.prog 48 [A a0] (OD y) := by
  refine OK_of_pwp τ_ok Tryz.func48 rfl (by kernel_rfl) rfl fun Γ hX => ?_
  unfold laws_toValueSS_D at h
  refine srve 23 [(0, A a0)] [] ?_
  refine srv 2 23 [(0, A a0), (6, I ((a0.length : Int)))] [] ?_
  obtain ⟨v1, hv2, h⟩ := bindS h
  refine opsP_E (dd := some 7) (x := .ref 0 0 0 1 v1.length false) (mkD_N τ_ok 7 0 36 (fun b hb => absurd hb (hX b)) (by kernel_rfl) _ hv2 dz_ok36 (by kernel_rfl)) ?_
  refine ve 1 23 [(0, A a0), (3, .ref 0 0 0 1 v1.length false)] [some ⟨0, dL v1⟩] ?_
  refine pwp_seq ?_
  refine srve 23 [(0, A a0), (3, .ref 0 0 0 1 v1.length false), (4, I 0)] [some ⟨0, dL v1⟩] ?_
  refine pwp_block ?_
  refine pwp_loop (ι := Nat × Int × (List (List T_impl_Value))) (fun (f6, x4, x5) => (⟨23, [(0, A a0), (3, .ref 0 0 0 1 x5.length false), (4, I x4)], [some ⟨0, dL x5⟩]⟩ : St)) (fun (f6, x4, x5) => laws_toValueSS_D_l0 a0 f6 x4 x5 = some y) (fun (f6, x4, x5) => f6) (FUEL, 0, v1) h ((Imp.to (st' := ⟨23, [(0, A a0), (3, .ref 0 0 0 1 v1.length false), (4, I 0)], [some ⟨0, dL v1⟩]⟩) [0, 3, 4] (by kernel_rfl)).trans (Imp.to [0, 3, 4] (by kernel_rfl))) ?_
  rintro ⟨f6, x4, x5⟩ h
  dsimp only at h ⊢
  rcases f6 with _ | f6
  cases h
  rw [laws_toValueSS_D_l0] at h
  refine pwp_seq ?_
  refine srve 23 [(0, A a0), (3, .ref 0 0 0 1 x5.length false), (4, I x4), (11, B ((decide (x4 < ((a0.length : Int))))))] [some ⟨0, dL x5⟩] ?_
  refine pc h (fun h => ?_) (fun h => ?_)
  refine pwp_skip ?_
  refine pwp_seq ?_
  refine pwp_block ?_
  refine rv 4 23 [(0, A a0), (3, .ref 0 0 0 1 x5.length false), (4, I x4), (14, .ref 0 0 0 1 x5.length false), (15, I x4), (16, A a0), (17, I x4)] [some ⟨0, dL x5⟩] ?_
  obtain ⟨v9, hv10, h⟩ := bindS h
  refine opsP_idx τ_ok 18 hv10 (by kernel_rfl) ?_
  refine v 1 23 [(0, A a0), (3, .ref 0 0 0 1 x5.length false), (4, I x4), (14, .ref 0 0 0 1 x5.length false), (15, I x4), (19, A v9)] [some ⟨0, dL x5⟩] ?_
  obtain ⟨v11, hv12, h⟩ := bindS h
  refine opsP_callO τ 20 (ok_laws_toValueS hv12) rfl (by kernel_rfl) ?_
  obtain ⟨v13, hv14, h⟩ := bindS h
  refine opsP_idr τ_ok 21 0 0 x5.length hv14 rfl (by kernel_rfl) ?_
  refine v 0 23 [(0, A a0), (3, .ref 0 0 0 1 x5.length false), (4, I x4), (20, .ref 1 0 0 3 v11.length false), (21, .ptr 0 0 (x4.toNat * 1))] [some ⟨0, dL x5⟩, some ⟨0, eL v11⟩] ?_
  refine opsP_E (dd := none) (x := .any) ((std_E (xs := x5) (vs := [.ref 1 0 0 3 v11.length false]) (cells' := setL (dL x5) (x4.toNat * 1 + 0) [.ref 1 0 0 3 v11.length false]) τ_ok 36 0 0 0 hv14 (by kernel_rfl) (by kernel_rfl) rfl).then (H2 := [some ⟨0, dL ((x5.set x4.toNat v11))⟩, some ⟨1, []⟩]) (HStep.nestL (xs := x5) (vs := [.ref 1 0 0 3 v11.length false]) 0 0 0 v11 hv14 (by kernel_rfl) (OutL.cons (OutP.listn (v := 0) (xs := v11) rfl (by kernel_rfl)) (OutL.nil _)) (by decide) (by decide) (fun b hb => absurd hb (hX b)) (by kernel_rfl) (by kernel_rfl) (by kernel_rfl) (by kernel_rfl))) ?_
  refine opsP_imp (Imp.to (st' := ⟨23, [(0, A a0), (3, .ref 0 0 0 1 x5.length false), (4, I x4)], [some ⟨0, dL ((x5.set x4.toNat v11))⟩, some ⟨1, []⟩]⟩) [0, 3, 4] (by kernel_rfl)) ?_
  refine opsP_ren (st' := ⟨23, [(0, A a0), (3, .ref 0 0 0 1 ((x5.set x4.toNat v11)).length false), (4, I x4)], [some ⟨0, dL ((x5.set x4.toNat v11))⟩, some ⟨1, []⟩]⟩) 0 ((x5.set x4.toNat v11)).length (renC trivial (renC (ren_ref (List.length_set ..).symm) (renC trivial renC0))) (by kernel_rfl) ?_
  refine ve 0 23 [(0, A a0), (3, .ref 0 0 0 1 ((x5.set x4.toNat v11)).length false), (4, I x4)] [some ⟨0, dL ((x5.set x4.toNat v11))⟩, some ⟨1, []⟩] ?_
  refine rve 23 [(0, A a0), (3, .ref 0 0 0 1 ((x5.set x4.toNat v11)).length false), (4, I ((w64 (x4 + 1))))] [some ⟨0, dL ((x5.set x4.toNat v11))⟩, some ⟨1, []⟩] ?_
  exact ⟨(f6, (w64 (x4 + 1)), (x5.set x4.toNat v11)), h, Nat.lt_succ_self _, (Imp.to (st' := ⟨23, [(0, A a0), (3, .ref 0 0 0 1 ((x5.set x4.toNat v11)).length false), (4, I ((w64 (x4 + 1))))], [some ⟨0, dL ((x5.set x4.toNat v11))⟩, some ⟨1, []⟩]⟩) [0, 3, 4] (by kernel_rfl)).trans ((Imp.truncS (st' := ⟨23, [(0, A a0), (3, .ref 0 0 0 1 ((x5.set x4.toNat v11)).length false), (4, I ((w64 (x4 + 1))))], [some ⟨0, dL ((x5.set x4.toNat v11))⟩]⟩) 1 (fun b hb => absurd hb (hX b)) (by kernel_rfl) (allBelow_mem (by exact (And.intro rfl (And.intro rfl (And.intro rfl trivial))))) (by exact (And.intro (dL_below _ _) trivial)) (by kernel_rfl)).trans (Imp.to [0, 3, 4] (by kernel_rfl)))⟩
  refine pwp_exit ?_
  refine srve 23 [(2, .ref 0 0 0 1 x5.length false)] [some ⟨0, dL x5⟩] ?_
  have h := si h
  subst h
  exact pwp_ret (rt (.ref 0 0 0 1 x5.length false) (OutP.listD (v := 0) (by kernel_rfl)))
def laws_toTable_D (a0 : T_laws_Table) : Option T_impl_Table := (laws_toColumnS a0.fColumns).bind fun v1 => (laws_toValueSS_D a0.fRows).bind fun v3 => some ({ (({ ((T_impl_Table.mk [] [])) with fColumns := v1 }) : T_impl_Table) with fRows := v3 })
theorem ok_laws_toTable_D {a0 : T_laws_Table} {y : T_impl_Table} (h : laws_toTable_D a0 = some y) : OK Tryz.prog 62 [E a0] (.agg (DEnc.cells y)) := by
  refine OK_of_pwp τ_ok Tryz.func62 rfl (by kernel_rfl) rfl fun Γ hX => ?_
  unfold laws_toTable_D at h
  refine srvM [2, 3] 1 13 [(1, .fptr (Enc.cells a0) 0)] [] ?_
  refine opsP_imp (Imp.ghosts 1 (st' := ⟨13, [(1, .fptr (Enc.cells a0) 0)], [some ⟨0, []⟩]⟩) (by kernel_rfl)) ?_
  refine opsP_E (dd := some 2) (x := .ptr 0 1 0) (alz_E (blk := ⟨0, []⟩) (zs := [.arr 2 0 [] true, .arr 1 0 [] true]) 2 95 0 0 (fun b hb => absurd hb (hX b)) zi_ok95 (by kernel_rfl) (by kernel_rfl)) ?_
  refine veM [2, 3] 0 13 [(1, .fptr (Enc.cells a0) 0), (2, .ptr 0 1 0)] [some ⟨1, [.arr 2 0 (eL ([] : List T_impl_Column)) true, .arr 1 0 (eL ([] : List (List T_impl_Value))) true]⟩] ?_
  refine srvM [2, 3] 0 13 [(1, .fptr (Enc.cells a0) 0), (2, .ptr 0 1 0)] [some ⟨1, [.arr 2 0 (eL ([] : List T_impl_Column)) true, .arr 1 0 (eL ([] : List (List T_impl_Value))) true]⟩] ?_
  refine opsP_imp (Imp.ghosts 1 (st' := ⟨13, [(1, .fptr (Enc.cells a0) 0), (2, .ptr 0 1 0)], [some ⟨1, [.arr 2 0 (eL ([] : List T_impl_Column)) true, .arr 1 0 (eL ([] : List (List T_impl_Value))) true]⟩, some ⟨0, []⟩]⟩) (by kernel_rfl)) ?_
  refine opsP_E (dd := some 3) (x := .ptr 1 1 0) (alz_E (blk := ⟨0, []⟩) (zs := [.arr 2 0 [] true, .arr 1 0 [] true]) 3 95 1 0 (fun b hb => absurd hb (hX b)) zi_ok95 (by kernel_rfl) (by kernel_rfl)) ?_
  refine veM [2, 3] 0 13 [(1, .fptr (Enc.cells a0) 0), (2, .ptr 0 1 0), (3, .ptr 1 1 0)] [some ⟨1, [.arr 2 0 (eL ([] : List T_impl_Column)) true, .arr 1 0 (eL ([] : List (List T_impl_Value))) true]⟩, some ⟨1, [.arr 2 0 (eL ([] : List T_impl_Column)) true, .arr 1 0 (eL ([] : List (List T_impl_Value))) true]⟩] ?_
  refine srvM [2, 3] 2 13 [(1, .fptr (Enc.cells a0) 0), (2, .ptr 0 1 0), (3, .ptr 1 1 0), (5, A a0.fColumns)] [some ⟨1, [.arr 2 0 (eL ([] : List T_impl_Column)) true, .arr 1 0 (eL ([] : List (List T_impl_Value))) true]⟩, some ⟨1, [.arr 2 0 (eL ([] : List T_impl_Column)) true, .arr 1 0 (eL ([] : List (List T_impl_Value))) true]⟩] ?_
  obtain ⟨v1, hv2, h⟩ := bindS h
  refine opsP_callO τ 6 (ok_laws_toColumnS hv2) rfl (by kernel_rfl) ?_
  refine veM [2, 3] 2 13 [(1, .fptr (Enc.cells a0) 0), (2, .ptr 0 1 0), (3, .ptr 1 1 0)] [some ⟨1, [.arr 2 0 (eL ([] : List T_impl_Column)) true, .arr 1 0 (eL ([] : List (List T_impl_Value))) true]⟩, some ⟨1, [.ref 2 0 0 2 v1.length false, .arr 1 0 (eL ([] : List (List T_impl_Value))) true]⟩, some ⟨0, eL v1⟩] ?_
  refine srvM [2, 3] 2 13 [(2, .ptr 0 1 0), (3, .ptr 1 1 0), (9, A a0.fRows)] [some ⟨1, [.arr 2 0 (eL ([] : List T_impl_Column)) true, .arr 1 0 (eL ([] : List (List T_impl_Value))) true]⟩, some ⟨1, [.ref 2 0 0 2 v1.length false, .arr 1 0 (eL ([] : List (List T_impl_Value))) true]⟩, some ⟨0, eL v1⟩] ?_
  obtain ⟨v3, hv4, h⟩ := bindS h
  refine opsP_callO τ 10 (ok_laws_toValueSS_D hv4) rfl (by kernel_rfl) ?_
  refine veM [2, 3] 2 13 [(2, .ptr 0 1 0), (3, .ptr 1 1 0)] [some ⟨1, [.arr 2 0 (eL ([] : List T_impl_Column)) true, .arr 1 0 (eL ([] : List (List T_impl_Value))) true]⟩, some ⟨1, [.ref 2 0 0 2 v1.length false, .ref 3 0 0 1 v3.length false]⟩, some ⟨0, eL v1⟩, some ⟨0, dL v3⟩] ?_
  refine srveM [2, 3] 13 [(2, .ptr 0 1 0)] [some ⟨1, [.ref 2 0 0 2 v1.length false, .ref 3 0 0 1 v3.length false]⟩, some ⟨1, [.ref 2 0 0 2 v1.length false, .ref 3 0 0 1 v3.length false]⟩, some ⟨0, eL v1⟩, some ⟨0, dL v3⟩] ?_
  have h := si h
  subst h
  exact pwp_ret (rt (.agg [.ref 2 0 0 2 v1.length false, .ref 3 0 0 1 v3.length false]) (OutP.agg (OutL.cons (OutP.listn (v := 0) (xs := v1) rfl (by kernel_rfl)) (OutL.cons (OutP.listDn (v := 0) (xs := v3) rfl (by kernel_rfl)) (OutL.nil _)))))
def laws_toTableS_D_l0 (a0 : List T_laws_Table) : Nat → Int → (List T_impl_Table) → Option (List T_impl_Table)
  | 0, _, _ => none
  | f6 + 1, x4, x5 => bif (decide (x4 < ((a0.length : Int)))) then (getI a0 x4).bind fun v9 => (laws_toTable_D v9).bind fun v11 => (getI x5 x4).bind fun v13 => (laws_toTableS_D_l0 a0 f6) ((w64 (x4 + 1))) ((x5.set x4.toNat (({ (({ v11 with fColumns := v11.fColumns }) : T_impl_Table) with fRows := v11.fRows } : T_impl_Table)))) else some x5
def laws_toTableS_D (a0 : List T_laws_Table) : Option (List T_impl_Table) := (mkI ((a0.length : Int)) ((T_impl_Table.mk [] []))).bind fun v1 => laws_toTableS_D_l0 a0 FUEL 0 v1
theorem ok_laws_toTableS_D {a0 : List T_laws_Table} {y : List T_impl_Table} (h : laws_toTableS_D a0 = some y) : OK Tryz.prog 13 [A a0] (OD y) := by
  refine OK_of_pwp τ_ok Tryz.func13 rfl (by kernel_rfl) rfl fun Γ hX => ?_
  unfold laws_toTableS_D at h
  refine srve 23 [(0, A a0)] [] ?_
  refine srv 2 23 [(0, A a0), (6, I ((a0.length : Int)))] [] ?_
  obtain ⟨v1, hv2, h⟩ := bindS h
  refine opsP_E (dd := some 7) (x := .ref 0 0 0 2 v1.length false) (mkD_N τ_ok 7 0 95 (fun b hb => absurd hb (hX b)) (by kernel_rfl) _ hv2 dz_ok95 (by kernel_rfl)) ?_
  refine ve 1 23 [(0, A a0), (3, .ref 0 0 0 2 v1.length false)] [some ⟨0, dL v1⟩] ?_
  refine pwp_seq ?_
  refine srve 23 [(0, A a0), (3, .ref 0 0 0 2 v1.length false), (4, I 0)] [some ⟨0, dL v1⟩] ?_
  refine pwp_block ?_
  refine pwp_loop (ι := Nat × Int × (List T_impl_Table)) (fun (f6, x4, x5) => (⟨23, [(0, A a0), (3, .ref 0 0 0 2 x5.length false), (4, I x4)], [some ⟨0, dL x5⟩]⟩ : St)) (fun (f6, x4, x5) => laws_toTableS_D_l0 a0 f6 x4 x5 = some y) (fun (f6, x4, x5) => f6) (FUEL, 0, v1) h ((Imp.to (st' := ⟨23, [(0, A a0), (3, .ref 0 0 0 2 v1.length false), (4, I 0)], [some ⟨0, dL v1⟩]⟩) [0, 3, 4] (by kernel_rfl)).trans (Imp.to [0, 3, 4] (by kernel_rfl))) ?_
  rintro ⟨f6, x4, x5⟩ h
  dsimp only at h ⊢
  rcases f6 with _ | f6
  cases h
  rw [laws_toTableS_D_l0] at h
  refine pwp_seq ?_
  refine srve 23 [(0, A a0), (3, .ref 0 0 0 2 x5.length false), (4, I x4), (11, B ((decide (x4 < ((a0.length : Int))))))] [some ⟨0, dL x5⟩] ?_
  refine pc h (fun h => ?_) (fun h => ?_)
  refine pwp_skip ?_
  refine pwp_seq ?_
  refine pwp_block ?_
  refine rv 4 23 [(0, A a0), (3, .ref 0 0 0 2 x5.length false), (4, I x4), (14, .ref 0 0 0 2 x5.length false), (15, I x4), (16, A a0), (17, I x4)] [some ⟨0, dL x5⟩] ?_
  obtain ⟨v9, hv10, h⟩ := bindS h
  refine opsP_idx τ_ok 18 hv10 (by kernel_rfl) ?_
  refine v 1 23 [(0, A a0), (3, .ref 0 0 0 2 x5.length false), (4, I x4), (14, .ref 0 0 0 2 x5.length false), (15, I x4), (19, E v9)] [some ⟨0, dL x5⟩] ?_
  obtain ⟨v11, hv12, h⟩ := bindS h
  refine opsP_callO τ 20 (ok_laws_toTable_D hv12) rfl (by kernel_rfl) ?_
  obtain ⟨v13, hv14, h⟩ := bindS h
  refine opsP_idr τ_ok 21 0 0 x5.length hv14 rfl (by kernel_rfl) ?_
  refine v 0 23 [(0, A a0), (3, .ref 0 0 0 2 x5.length false), (4, I x4), (20, .agg [.ref 1 0 0 2 v11.fColumns.length false, .ref 2 0 0 1 v11.fRows.length false]), (21, .ptr 0 0 (x4.toNat * 2))] [some ⟨0, dL x5⟩, some ⟨0, eL v11.fColumns⟩, some ⟨0, dL v11.fRows⟩] ?_
  refine opsP_E (dd := none) (x := .any) ((std_E (xs := x5) (vs := [.ref 1 0 0 2 v11.fColumns.length false, .ref 2 0 0 1 v11.fRows.length false]) (cells' := setL (dL x5) (x4.toNat * 2 + 0) [.ref 1 0 0 2 v11.fColumns.length false, .ref 2 0 0 1 v11.fRows.length false]) τ_ok 95 0 0 0 hv14 (by kernel_rfl) (by kernel_rfl) rfl).then (H2 := [some ⟨0, dL ((x5.set x4.toNat (({ (({ v11 with fColumns := v11.fColumns }) : T_impl_Table) with fRows := v11.fRows } : T_impl_Table))))⟩, some ⟨1, []⟩, some ⟨1, []⟩]) (HStep.nestL (xs := x5) (vs := [.ref 1 0 0 2 v11.fColumns.length false, .ref 2 0 0 1 v11.fRows.length false]) 0 0 0 (({ (({ v11 with fColumns := v11.fColumns }) : T_impl_Table) with fRows := v11.fRows } : T_impl_Table)) hv14 (by kernel_rfl) (OutL.cons (OutP.listn (v := 0) (xs := v11.fColumns) rfl (by kernel_rfl)) (OutL.cons (OutP.listDn (v := 0) (xs := v11.fRows) rfl (by kernel_rfl)) (OutL.nil _))) (by decide) (by decide) (fun b hb => absurd hb (hX b)) (by kernel_rfl) (by kernel_rfl) (by kernel_rfl) (by kernel_rfl))) ?_
  refine opsP_imp (Imp.to (st' := ⟨23, [(0, A a0), (3, .ref 0 0 0 2 x5.length false), (4, I x4)], [some ⟨0, dL ((x5.set x4.toNat (({ (({ v11 with fColumns := v11.fColumns }) : T_impl_Table) with fRows := v11.fRows } : T_impl_Table))))⟩, some ⟨1, []⟩, some ⟨1, []⟩]⟩) [0, 3, 4] (by kernel_rfl)) ?_
  refine opsP_ren (st' := ⟨23, [(0, A a0), (3, .ref 0 0 0 2 ((x5.set x4.toNat (({ (({ v11 with fColumns := v11.fColumns }) : T_impl_Table) with fRows := v11.fRows } : T_impl_Table)))).length false), (4, I x4)], [some ⟨0, dL ((x5.set x4.toNat (({ (({ v11 with fColumns := v11.fColumns }) : T_impl_Table) with fRows := v11.fRows } : T_impl_Table))))⟩, some ⟨1, []⟩, some ⟨1, []⟩]⟩) 0 ((x5.set x4.toNat (({ (({ v11 with fColumns := v11.fColumns }) : T_impl_Table) with fRows := v11.fRows } : T_impl_Table)))).length (renC trivial (renC (ren_ref (List.length_set ..).symm) (renC trivial renC0))) (by kernel_rfl) ?_
  refine ve 0 23 [(0, A a0), (3, .ref 0 0 0 2 ((x5.set x4.toNat (({ (({ v11 with fColumns := v11.fColumns }) : T_impl_Table) with fRows := v11.fRows } : T_impl_Table)))).length false), (4, I x4)] [some ⟨0, dL ((x5.set x4.toNat (({ (({ v11 with fColumns := v11.fColumns }) : T_impl_Table) with fRows := v11.fRows } : T_impl_Table))))⟩, some ⟨1, []⟩, some ⟨1, []⟩] ?_
  refine rve 23 [(0, A a0), (3, .ref 0 0 0 2 ((x5.set x4.toNat (({ (({ v11 with fColumns := v11.fColumns }) : T_impl_Table) with fRows := v11.fRows } : T_impl_Table)))).length false), (4, I ((w64 (x4 + 1))))] [some ⟨0, dL ((x5.set x4.toNat (({ (({ v11 with fColumns := v11.fColumns }) : T_impl_Table) with fRows := v11.fRows } : T_impl_Table))))⟩, some ⟨1, []⟩, some ⟨1, []⟩] ?_
  exact ⟨(f6, (w64 (x4 + 1)), (x5.set x4.toNat (({ (({ v11 with fColumns := v11.fColumns }) : T_impl_Table) with fRows := v11.fRows } : T_impl_Table)))), h, Nat.lt_succ_self _, (Imp.to (st' := ⟨23, [(0, A a0), (3, .ref 0 0 0 2 ((x5.set x4.toNat (({ (({ v11 with fColumns := v11.fColumns }) : T_impl_Table) with fRows := v11.fRows } : T_impl_Table)))).length false), (4, I ((w64 (x4 + 1))))], [some ⟨0, dL ((x5.set x4.toNat (({ (({ v11 with fColumns := v11.fColumns }) : T_impl_Table) with fRows := v11.fRows } : T_impl_Table))))⟩, some ⟨1, []⟩, some ⟨1, []⟩]⟩) [0, 3, 4] (by kernel_rfl)).trans ((Imp.truncS (st' := ⟨23, [(0, A a0), (3, .ref 0 0 0 2 ((x5.set x4.toNat (({ (({ v11 with fColumns := v11.fColumns }) : T_impl_Table) with fRows := v11.fRows } : T_impl_Table)))).length false), (4, I ((w64 (x4 + 1))))], [some ⟨0, dL ((x5.set x4.toNat (({ (({ v11 with fColumns := v11.fColumns }) : T_impl_Table) with fRows := v11.fRows } : T_impl_Table))))⟩]⟩) 1 (fun b hb => absurd hb (hX b)) (by kernel_rfl) (allBelow_mem (by exact (And.intro rfl (And.intro rfl (And.intro rfl trivial))))) (by exact (And.intro (dL_below _ _) trivial)) (by kernel_rfl)).trans (Imp.to [0, 3, 4] (by kernel_rfl)))⟩
  refine pwp_exit ?_
  refine srve 23 [(2, .ref 0 0 0 2 x5.length false)] [some ⟨0, dL x5⟩] ?_
  have h := si h
  subst h
  exact pwp_ret (rt (.ref 0 0 0 2 x5.length false) (OutP.listD (v := 0) (by kernel_rfl)))
def laws_toBond_D (a0 : T_laws_Bond) : Option T_impl_Bond := (laws_toIntS a0.fList).bind fun v1 => (laws_toIntS a0.fTo).bind fun v3 => (laws_toPartS a0.fE).bind fun v5 => some ({ (({ (({ (({ (({ (({ (({ ((T_impl_Bond.mk 0 0 [] 0 [] false [])) with fKind := a0.fKind }) : T_impl_Bond) with fIn := a0.fIn }) : T_impl_Bond) with fOf := a0.fOf }) : T_impl_Bond) with fFollow := a0.fFollow }) : T_impl_Bond) with fList := v1 }) : T_impl_Bond) with fTo := v3 }) : T_impl_Bond) with fE := v5 })
theorem ok_laws_toBond_D {a0 : T_laws_Bond} {y : T_impl_Bond} (h : laws_toBond_D a0 = some y) : OK Tryz.prog 63 [E a0] (.agg (DEnc.cells y)) := by
  refine OK_of_pwp τ_ok Tryz.func63 rfl (by kernel_rfl) rfl fun Γ hX => ?_
  unfold laws_toBond_D at h
  refine srvM [1, 2, 3] 1 29 [(1, .ptr 0 0 0)] [some ⟨0, Enc.cells a0⟩] ?_
  refine opsP_imp (Imp.ghosts 1 (st' := ⟨29, [(1, .ptr 0 0 0)], [some ⟨0, Enc.cells a0⟩, some ⟨0, []⟩]⟩) (by kernel_rfl)) ?_
  refine opsP_E (dd := some 2) (x := .ptr 1 1 0) (alz_E (blk := ⟨0, []⟩) (zs := [.lit (.int .i64 0), .lit (.int .i64 0), .arr 1 0 [] true, .lit (.int .i64 0), .arr 1 0 [] true, .lit (.bool false), .arr 5 0 [] true]) 2 93 1 0 (fun b hb => absurd hb (hX b)) zi_ok93 (by kernel_rfl) (by kernel_rfl)) ?_
  refine veM [1, 2, 3] 0 29 [(1, .ptr 0 0 0), (2, .ptr 1 1 0)] [some ⟨0, Enc.cells a0⟩, some ⟨1, [I ((T_impl_Bond.mk 0 0 [] 0 [] false []).fKind), I ((T_impl_Bond.mk 0 0 [] 0 [] false []).fIn), .arr 1 0 (eL ([] : List Int)) true, I ((T_impl_Bond.mk 0 0 [] 0 [] false []).fOf), .arr 1 0 (eL ([] : List Int)) true, B ((T_impl_Bond.mk 0 0 [] 0 [] false []).fFollow), .arr 5 0 (eL ([] : List T_impl_Part)) true]⟩] ?_
  refine srvM [1, 2, 3] 0 29 [(1, .ptr 0 0 0), (2, .ptr 1 1 0)] [some ⟨0, Enc.cells a0⟩, some ⟨1, [I ((T_impl_Bond.mk 0 0 [] 0 [] false []).fKind), I ((T_impl_Bond.mk 0 0 [] 0 [] false []).fIn), .arr 1 0 (eL ([] : List Int)) true, I ((T_impl_Bond.mk 0 0 [] 0 [] false []).fOf), .arr 1 0 (eL ([] : List Int)) true, B ((T_impl_Bond.mk 0 0 [] 0 [] false []).fFollow), .arr 5 0 (eL ([] : List T_impl_Part)) true]⟩] ?_
  refine opsP_imp (Imp.ghosts 1 (st' := ⟨29, [(1, .ptr 0 0 0), (2, .ptr 1 1 0)], [some ⟨0, Enc.cells a0⟩, some ⟨1, [I ((T_impl_Bond.mk 0 0 [] 0 [] false []).fKind), I ((T_impl_Bond.mk 0 0 [] 0 [] false []).fIn), .arr 1 0 (eL ([] : List Int)) true, I ((T_impl_Bond.mk 0 0 [] 0 [] false []).fOf), .arr 1 0 (eL ([] : List Int)) true, B ((T_impl_Bond.mk 0 0 [] 0 [] false []).fFollow), .arr 5 0 (eL ([] : List T_impl_Part)) true]⟩, some ⟨0, []⟩]⟩) (by kernel_rfl)) ?_
  refine opsP_E (dd := some 3) (x := .ptr 2 1 0) (alz_E (blk := ⟨0, []⟩) (zs := [.lit (.int .i64 0), .lit (.int .i64 0), .arr 1 0 [] true, .lit (.int .i64 0), .arr 1 0 [] true, .lit (.bool false), .arr 5 0 [] true]) 3 93 2 0 (fun b hb => absurd hb (hX b)) zi_ok93 (by kernel_rfl) (by kernel_rfl)) ?_
  refine veM [1, 2, 3] 0 29 [(1, .ptr 0 0 0), (2, .ptr 1 1 0), (3, .ptr 2 1 0)] [some ⟨0, Enc.cells a0⟩, some ⟨1, [I ((T_impl_Bond.mk 0 0 [] 0 [] false []).fKind), I ((T_impl_Bond.mk 0 0 [] 0 [] false []).fIn), .arr 1 0 (eL ([] : List Int)) true, I ((T_impl_Bond.mk 0 0 [] 0 [] false []).fOf), .arr 1 0 (eL ([] : List Int)) true, B ((T_impl_Bond.mk 0 0 [] 0 [] false []).fFollow), .arr 5 0 (eL ([] : List T_impl_Part)) true]⟩, some ⟨1, [I ((T_impl_Bond.mk 0 0 [] 0 [] false []).fKind), I ((T_impl_Bond.mk 0 0 [] 0 [] false []).fIn), .arr 1 0 (eL ([] : List Int)) true, I ((T_impl_Bond.mk 0 0 [] 0 [] false []).fOf), .arr 1 0 (eL ([] : List Int)) true, B ((T_impl_Bond.mk 0 0 [] 0 [] false []).fFollow), .arr 5 0 (eL ([] : List T_impl_Part)) true]⟩] ?_
  refine srveM [1, 2, 3] 29 [(1, .ptr 0 0 0), (2, .ptr 1 1 0), (3, .ptr 2 1 0)] [some ⟨0, Enc.cells a0⟩, some ⟨1, [I ((T_impl_Bond.mk 0 0 [] 0 [] false []).fKind), I ((T_impl_Bond.mk 0 0 [] 0 [] false []).fIn), .arr 1 0 (eL ([] : List Int)) true, I ((T_impl_Bond.mk 0 0 [] 0 [] false []).fOf), .arr 1 0 (eL ([] : List Int)) true, B ((T_impl_Bond.mk 0 0 [] 0 [] false []).fFollow), .arr 5 0 (eL ([] : List T_impl_Part)) true]⟩, some ⟨1, [I ({ ((T_impl_Bond.mk 0 0 [] 0 [] false [])) with fKind := a0.fKind }.fKind), I ({ ((T_impl_Bond.mk 0 0 [] 0 [] false [])) with fKind := a0.fKind }.fIn), .arr 1 0 (eL ([] : List Int)) true, I ({ ((T_impl_Bond.mk 0 0 [] 0 [] false [])) with fKind := a0.fKind }.fOf), .arr 1 0 (eL ([] : List Int)) true, B ({ ((T_impl_Bond.mk 0 0 [] 0 [] false [])) with fKind := a0.fKind }.fFollow), .arr 5 0 (eL ([] : List T_impl_Part)) true]⟩] ?_
  refine srveM [1, 2, 3] 29 [(1, .ptr 0 0 0), (2, .ptr 1 1 0), (3, .ptr 2 1 0)] [some ⟨0, Enc.cells a0⟩, some ⟨1, [I ((T_impl_Bond.mk 0 0 [] 0 [] false []).fKind), I ((T_impl_Bond.mk 0 0 [] 0 [] false []).fIn), .arr 1 0 (eL ([] : List Int)) true, I ((T_impl_Bond.mk 0 0 [] 0 [] false []).fOf), .arr 1 0 (eL ([] : List Int)) true, B ((T_impl_Bond.mk 0 0 [] 0 [] false []).fFollow), .arr 5 0 (eL ([] : List T_impl_Part)) true]⟩, some ⟨1, [I ({ (({ ((T_impl_Bond.mk 0 0 [] 0 [] false [])) with fKind := a0.fKind }) : T_impl_Bond) with fIn := a0.fIn }.fKind), I ({ (({ ((T_impl_Bond.mk 0 0 [] 0 [] false [])) with fKind := a0.fKind }) : T_impl_Bond) with fIn := a0.fIn }.fIn), .arr 1 0 (eL ([] : List Int)) true, I ({ (({ ((T_impl_Bond.mk 0 0 [] 0 [] false [])) with fKind := a0.fKind }) : T_impl_Bond) with fIn := a0.fIn }.fOf), .arr 1 0 (eL ([] : List Int)) true, B ({ (({ ((T_impl_Bond.mk 0 0 [] 0 [] false [])) with fKind := a0.fKind }) : T_impl_Bond) with fIn := a0.fIn }.fFollow), .arr 5 0 (eL ([] : List T_impl_Part)) true]⟩] ?_
  refine srvM [1, 2, 3] 2 29 [(1, .ptr 0 0 0), (2, .ptr 1 1 0), (3, .ptr 2 1 0), (11, A a0.fList)] [some ⟨0, Enc.cells a0⟩, some ⟨1, [I ((T_impl_Bond.mk 0 0 [] 0 [] false []).fKind), I ((T_impl_Bond.mk 0 0 [] 0 [] false []).fIn), .arr 1 0 (eL ([] : List Int)) true, I ((T_impl_Bond.mk 0 0 [] 0 [] false []).fOf), .arr 1 0 (eL ([] : List Int)) true, B ((T_impl_Bond.mk 0 0 [] 0 [] false []).fFollow), .arr 5 0 (eL ([] : List T_impl_Part)) true]⟩, some ⟨1, [I ({ (({ ((T_impl_Bond.mk 0 0 [] 0 [] false [])) with fKind := a0.fKind }) : T_impl_Bond) with fIn := a0.fIn }.fKind), I ({ (({ ((T_impl_Bond.mk 0 0 [] 0 [] false [])) with fKind := a0.fKind }) : T_impl_Bond) with fIn := a0.fIn }.fIn), .arr 1 0 (eL ([] : List Int)) true, I ({ (({ ((T_impl_Bond.mk 0 0 [] 0 [] false [])) with fKind := a0.fKind }) : T_impl_Bond) with fIn := a0.fIn }.fOf), .arr 1 0 (eL ([] : List Int)) true, B ({ (({ ((T_impl_Bond.mk 0 0 [] 0 [] false [])) with fKind := a0.fKind }) : T_impl_Bond) with fIn := a0.fIn }.fFollow), .arr 5 0 (eL ([] : List T_impl_Part)) true]⟩] ?_
  obtain ⟨v1, hv2, h⟩ := bindS h
  refine opsP_callO τ 12 (ok_laws_toIntS hv2) rfl (by kernel_rfl) ?_
  refine veM [1, 2, 3] 2 29 [(1, .ptr 0 0 0), (2, .ptr 1 1 0), (3, .ptr 2 1 0)] [some ⟨0, Enc.cells a0⟩, some ⟨1, [I ((T_impl_Bond.mk 0 0 [] 0 [] false []).fKind), I ((T_impl_Bond.mk 0 0 [] 0 [] false []).fIn), .arr 1 0 (eL ([] : List Int)) true, I ((T_impl_Bond.mk 0 0 [] 0 [] false []).fOf), .arr 1 0 (eL ([] : List Int)) true, B ((T_impl_Bond.mk 0 0 [] 0 [] false []).fFollow), .arr 5 0 (eL ([] : List T_impl_Part)) true]⟩, some ⟨1, [I ({ (({ ((T_impl_Bond.mk 0 0 [] 0 [] false [])) with fKind := a0.fKind }) : T_impl_Bond) with fIn := a0.fIn }.fKind), I ({ (({ ((T_impl_Bond.mk 0 0 [] 0 [] false [])) with fKind := a0.fKind }) : T_impl_Bond) with fIn := a0.fIn }.fIn), .ref 3 0 0 1 v1.length false, I ({ (({ ((T_impl_Bond.mk 0 0 [] 0 [] false [])) with fKind := a0.fKind }) : T_impl_Bond) with fIn := a0.fIn }.fOf), .arr 1 0 (eL ([] : List Int)) true, B ({ (({ ((T_impl_Bond.mk 0 0 [] 0 [] false [])) with fKind := a0.fKind }) : T_impl_Bond) with fIn := a0.fIn }.fFollow), .arr 5 0 (eL ([] : List T_impl_Part)) true]⟩, some ⟨0, eL v1⟩] ?_
  refine srveM [1, 2, 3] 29 [(1, .ptr 0 0 0), (2, .ptr 1 1 0), (3, .ptr 2 1 0)] [some ⟨0, Enc.cells a0⟩, some ⟨1, [I ((T_impl_Bond.mk 0 0 [] 0 [] false []).fKind), I ((T_impl_Bond.mk 0 0 [] 0 [] false []).fIn), .arr 1 0 (eL ([] : List Int)) true, I ((T_impl_Bond.mk 0 0 [] 0 [] false []).fOf), .arr 1 0 (eL ([] : List Int)) true, B ((T_impl_Bond.mk 0 0 [] 0 [] false []).fFollow), .arr 5 0 (eL ([] : List T_impl_Part)) true]⟩, some ⟨1, [I ({ (({ (({ ((T_impl_Bond.mk 0 0 [] 0 [] false [])) with fKind := a0.fKind }) : T_impl_Bond) with fIn := a0.fIn }) : T_impl_Bond) with fOf := a0.fOf }.fKind), I ({ (({ (({ ((T_impl_Bond.mk 0 0 [] 0 [] false [])) with fKind := a0.fKind }) : T_impl_Bond) with fIn := a0.fIn }) : T_impl_Bond) with fOf := a0.fOf }.fIn), .ref 3 0 0 1 v1.length false, I ({ (({ (({ ((T_impl_Bond.mk 0 0 [] 0 [] false [])) with fKind := a0.fKind }) : T_impl_Bond) with fIn := a0.fIn }) : T_impl_Bond) with fOf := a0.fOf }.fOf), .arr 1 0 (eL ([] : List Int)) true, B ({ (({ (({ ((T_impl_Bond.mk 0 0 [] 0 [] false [])) with fKind := a0.fKind }) : T_impl_Bond) with fIn := a0.fIn }) : T_impl_Bond) with fOf := a0.fOf }.fFollow), .arr 5 0 (eL ([] : List T_impl_Part)) true]⟩, some ⟨0, eL v1⟩] ?_
  refine srvM [1, 2, 3] 2 29 [(1, .ptr 0 0 0), (2, .ptr 1 1 0), (3, .ptr 2 1 0), (18, A a0.fTo)] [some ⟨0, Enc.cells a0⟩, some ⟨1, [I ((T_impl_Bond.mk 0 0 [] 0 [] false []).fKind), I ((T_impl_Bond.mk 0 0 [] 0 [] false []).fIn), .arr 1 0 (eL ([] : List Int)) true, I ((T_impl_Bond.mk 0 0 [] 0 [] false []).fOf), .arr 1 0 (eL ([] : List Int)) true, B ((T_impl_Bond.mk 0 0 [] 0 [] false []).fFollow), .arr 5 0 (eL ([] : List T_impl_Part)) true]⟩, some ⟨1, [I ({ (({ (({ ((T_impl_Bond.mk 0 0 [] 0 [] false [])) with fKind := a0.fKind }) : T_impl_Bond) with fIn := a0.fIn }) : T_impl_Bond) with fOf := a0.fOf }.fKind), I ({ (({ (({ ((T_impl_Bond.mk 0 0 [] 0 [] false [])) with fKind := a0.fKind }) : T_impl_Bond) with fIn := a0.fIn }) : T_impl_Bond) with fOf := a0.fOf }.fIn), .ref 3 0 0 1 v1.length false, I ({ (({ (({ ((T_impl_Bond.mk 0 0 [] 0 [] false [])) with fKind := a0.fKind }) : T_impl_Bond) with fIn := a0.fIn }) : T_impl_Bond) with fOf := a0.fOf }.fOf), .arr 1 0 (eL ([] : List Int)) true, B ({ (({ (({ ((T_impl_Bond.mk 0 0 [] 0 [] false [])) with fKind := a0.fKind }) : T_impl_Bond) with fIn := a0.fIn }) : T_impl_Bond) with fOf := a0.fOf }.fFollow), .arr 5 0 (eL ([] : List T_impl_Part)) true]⟩, some ⟨0, eL v1⟩] ?_
  obtain ⟨v3, hv4, h⟩ := bindS h
  refine opsP_callO τ 19 (ok_laws_toIntS hv4) rfl (by kernel_rfl) ?_
  refine veM [1, 2, 3] 2 29 [(1, .ptr 0 0 0), (2, .ptr 1 1 0), (3, .ptr 2 1 0)] [some ⟨0, Enc.cells a0⟩, some ⟨1, [I ((T_impl_Bond.mk 0 0 [] 0 [] false []).fKind), I ((T_impl_Bond.mk 0 0 [] 0 [] false []).fIn), .arr 1 0 (eL ([] : List Int)) true, I ((T_impl_Bond.mk 0 0 [] 0 [] false []).fOf), .arr 1 0 (eL ([] : List Int)) true, B ((T_impl_Bond.mk 0 0 [] 0 [] false []).fFollow), .arr 5 0 (eL ([] : List T_impl_Part)) true]⟩, some ⟨1, [I ({ (({ (({ ((T_impl_Bond.mk 0 0 [] 0 [] false [])) with fKind := a0.fKind }) : T_impl_Bond) with fIn := a0.fIn }) : T_impl_Bond) with fOf := a0.fOf }.fKind), I ({ (({ (({ ((T_impl_Bond.mk 0 0 [] 0 [] false [])) with fKind := a0.fKind }) : T_impl_Bond) with fIn := a0.fIn }) : T_impl_Bond) with fOf := a0.fOf }.fIn), .ref 3 0 0 1 v1.length false, I ({ (({ (({ ((T_impl_Bond.mk 0 0 [] 0 [] false [])) with fKind := a0.fKind }) : T_impl_Bond) with fIn := a0.fIn }) : T_impl_Bond) with fOf := a0.fOf }.fOf), .ref 4 0 0 1 v3.length false, B ({ (({ (({ ((T_impl_Bond.mk 0 0 [] 0 [] false [])) with fKind := a0.fKind }) : T_impl_Bond) with fIn := a0.fIn }) : T_impl_Bond) with fOf := a0.fOf }.fFollow), .arr 5 0 (eL ([] : List T_impl_Part)) true]⟩, some ⟨0, eL v1⟩, some ⟨0, eL v3⟩] ?_
  refine srveM [1, 2, 3] 29 [(1, .ptr 0 0 0), (2, .ptr 1 1 0), (3, .ptr 2 1 0)] [some ⟨0, Enc.cells a0⟩, some ⟨1, [I ((T_impl_Bond.mk 0 0 [] 0 [] false []).fKind), I ((T_impl_Bond.mk 0 0 [] 0 [] false []).fIn), .arr 1 0 (eL ([] : List Int)) true, I ((T_impl_Bond.mk 0 0 [] 0 [] false []).fOf), .arr 1 0 (eL ([] : List Int)) true, B ((T_impl_Bond.mk 0 0 [] 0 [] false []).fFollow), .arr 5 0 (eL ([] : List T_impl_Part)) true]⟩, some ⟨1, [I ({ (({ (({ (({ ((T_impl_Bond.mk 0 0 [] 0 [] false [])) with fKind := a0.fKind }) : T_impl_Bond) with fIn := a0.fIn }) : T_impl_Bond) with fOf := a0.fOf }) : T_impl_Bond) with fFollow := a0.fFollow }.fKind), I ({ (({ (({ (({ ((T_impl_Bond.mk 0 0 [] 0 [] false [])) with fKind := a0.fKind }) : T_impl_Bond) with fIn := a0.fIn }) : T_impl_Bond) with fOf := a0.fOf }) : T_impl_Bond) with fFollow := a0.fFollow }.fIn), .ref 3 0 0 1 v1.length false, I ({ (({ (({ (({ ((T_impl_Bond.mk 0 0 [] 0 [] false [])) with fKind := a0.fKind }) : T_impl_Bond) with fIn := a0.fIn }) : T_impl_Bond) with fOf := a0.fOf }) : T_impl_Bond) with fFollow := a0.fFollow }.fOf), .ref 4 0 0 1 v3.length false, B ({ (({ (({ (({ ((T_impl_Bond.mk 0 0 [] 0 [] false [])) with fKind := a0.fKind }) : T_impl_Bond) with fIn := a0.fIn }) : T_impl_Bond) with fOf := a0.fOf }) : T_impl_Bond) with fFollow := a0.fFollow }.fFollow), .arr 5 0 (eL ([] : List T_impl_Part)) true]⟩, some ⟨0, eL v1⟩, some ⟨0, eL v3⟩] ?_
  refine srvM [1, 2, 3] 2 29 [(2, .ptr 1 1 0), (3, .ptr 2 1 0), (25, A a0.fE)] [some ⟨0, Enc.cells a0⟩, some ⟨1, [I ((T_impl_Bond.mk 0 0 [] 0 [] false []).fKind), I ((T_impl_Bond.mk 0 0 [] 0 [] false []).fIn), .arr 1 0 (eL ([] : List Int)) true, I ((T_impl_Bond.mk 0 0 [] 0 [] false []).fOf), .arr 1 0 (eL ([] : List Int)) true, B ((T_impl_Bond.mk 0 0 [] 0 [] false []).fFollow), .arr 5 0 (eL ([] : List T_impl_Part)) true]⟩, some ⟨1, [I ({ (({ (({ (({ ((T_impl_Bond.mk 0 0 [] 0 [] false [])) with fKind := a0.fKind }) : T_impl_Bond) with fIn := a0.fIn }) : T_impl_Bond) with fOf := a0.fOf }) : T_impl_Bond) with fFollow := a0.fFollow }.fKind), I ({ (({ (({ (({ ((T_impl_Bond.mk 0 0 [] 0 [] false [])) with fKind := a0.fKind }) : T_impl_Bond) with fIn := a0.fIn }) : T_impl_Bond) with fOf := a0.fOf }) : T_impl_Bond) with fFollow := a0.fFollow }.fIn), .ref 3 0 0 1 v1.length false, I ({ (({ (({ (({ ((T_impl_Bond.mk 0 0 [] 0 [] false [])) with fKind := a0.fKind }) : T_impl_Bond) with fIn := a0.fIn }) : T_impl_Bond) with fOf := a0.fOf }) : T_impl_Bond) with fFollow := a0.fFollow }.fOf), .ref 4 0 0 1 v3.length false, B ({ (({ (({ (({ ((T_impl_Bond.mk 0 0 [] 0 [] false [])) with fKind := a0.fKind }) : T_impl_Bond) with fIn := a0.fIn }) : T_impl_Bond) with fOf := a0.fOf }) : T_impl_Bond) with fFollow := a0.fFollow }.fFollow), .arr 5 0 (eL ([] : List T_impl_Part)) true]⟩, some ⟨0, eL v1⟩, some ⟨0, eL v3⟩] ?_
  obtain ⟨v5, hv6, h⟩ := bindS h
  refine opsP_callO τ 26 (ok_laws_toPartS hv6) rfl (by kernel_rfl) ?_
  refine veM [1, 2, 3] 2 29 [(2, .ptr 1 1 0), (3, .ptr 2 1 0)] [some ⟨0, Enc.cells a0⟩, some ⟨1, [I ((T_impl_Bond.mk 0 0 [] 0 [] false []).fKind), I ((T_impl_Bond.mk 0 0 [] 0 [] false []).fIn), .arr 1 0 (eL ([] : List Int)) true, I ((T_impl_Bond.mk 0 0 [] 0 [] false []).fOf), .arr 1 0 (eL ([] : List Int)) true, B ((T_impl_Bond.mk 0 0 [] 0 [] false []).fFollow), .arr 5 0 (eL ([] : List T_impl_Part)) true]⟩, some ⟨1, [I ({ (({ (({ (({ ((T_impl_Bond.mk 0 0 [] 0 [] false [])) with fKind := a0.fKind }) : T_impl_Bond) with fIn := a0.fIn }) : T_impl_Bond) with fOf := a0.fOf }) : T_impl_Bond) with fFollow := a0.fFollow }.fKind), I ({ (({ (({ (({ ((T_impl_Bond.mk 0 0 [] 0 [] false [])) with fKind := a0.fKind }) : T_impl_Bond) with fIn := a0.fIn }) : T_impl_Bond) with fOf := a0.fOf }) : T_impl_Bond) with fFollow := a0.fFollow }.fIn), .ref 3 0 0 1 v1.length false, I ({ (({ (({ (({ ((T_impl_Bond.mk 0 0 [] 0 [] false [])) with fKind := a0.fKind }) : T_impl_Bond) with fIn := a0.fIn }) : T_impl_Bond) with fOf := a0.fOf }) : T_impl_Bond) with fFollow := a0.fFollow }.fOf), .ref 4 0 0 1 v3.length false, B ({ (({ (({ (({ ((T_impl_Bond.mk 0 0 [] 0 [] false [])) with fKind := a0.fKind }) : T_impl_Bond) with fIn := a0.fIn }) : T_impl_Bond) with fOf := a0.fOf }) : T_impl_Bond) with fFollow := a0.fFollow }.fFollow), .ref 5 0 0 5 v5.length false]⟩, some ⟨0, eL v1⟩, some ⟨0, eL v3⟩, some ⟨0, eL v5⟩] ?_
  refine srveM [1, 2, 3] 29 [(2, .ptr 1 1 0)] [some ⟨0, Enc.cells a0⟩, some ⟨1, [I ({ (({ (({ (({ ((T_impl_Bond.mk 0 0 [] 0 [] false [])) with fKind := a0.fKind }) : T_impl_Bond) with fIn := a0.fIn }) : T_impl_Bond) with fOf := a0.fOf }) : T_impl_Bond) with fFollow := a0.fFollow }.fKind), I ({ (({ (({ (({ ((T_impl_Bond.mk 0 0 [] 0 [] false [])) with fKind := a0.fKind }) : T_impl_Bond) with fIn := a0.fIn }) : T_impl_Bond) with fOf := a0.fOf }) : T_impl_Bond) with fFollow := a0.fFollow }.fIn), .ref 3 0 0 1 v1.length false, I ({ (({ (({ (({ ((T_impl_Bond.mk 0 0 [] 0 [] false [])) with fKind := a0.fKind }) : T_impl_Bond) with fIn := a0.fIn }) : T_impl_Bond) with fOf := a0.fOf }) : T_impl_Bond) with fFollow := a0.fFollow }.fOf), .ref 4 0 0 1 v3.length false, B ({ (({ (({ (({ ((T_impl_Bond.mk 0 0 [] 0 [] false [])) with fKind := a0.fKind }) : T_impl_Bond) with fIn := a0.fIn }) : T_impl_Bond) with fOf := a0.fOf }) : T_impl_Bond) with fFollow := a0.fFollow }.fFollow), .ref 5 0 0 5 v5.length false]⟩, some ⟨1, [I ({ (({ (({ (({ ((T_impl_Bond.mk 0 0 [] 0 [] false [])) with fKind := a0.fKind }) : T_impl_Bond) with fIn := a0.fIn }) : T_impl_Bond) with fOf := a0.fOf }) : T_impl_Bond) with fFollow := a0.fFollow }.fKind), I ({ (({ (({ (({ ((T_impl_Bond.mk 0 0 [] 0 [] false [])) with fKind := a0.fKind }) : T_impl_Bond) with fIn := a0.fIn }) : T_impl_Bond) with fOf := a0.fOf }) : T_impl_Bond) with fFollow := a0.fFollow }.fIn), .ref 3 0 0 1 v1.length false, I ({ (({ (({ (({ ((T_impl_Bond.mk 0 0 [] 0 [] false [])) with fKind := a0.fKind }) : T_impl_Bond) with fIn := a0.fIn }) : T_impl_Bond) with fOf := a0.fOf }) : T_impl_Bond) with fFollow := a0.fFollow }.fOf), .ref 4 0 0 1 v3.length false, B ({ (({ (({ (({ ((T_impl_Bond.mk 0 0 [] 0 [] false [])) with fKind := a0.fKind }) : T_impl_Bond) with fIn := a0.fIn }) : T_impl_Bond) with fOf := a0.fOf }) : T_impl_Bond) with fFollow := a0.fFollow }.fFollow), .ref 5 0 0 5 v5.length false]⟩, some ⟨0, eL v1⟩, some ⟨0, eL v3⟩, some ⟨0, eL v5⟩] ?_
  have h := si h
  subst h
  exact pwp_ret (rt (.agg [I ({ (({ (({ (({ ((T_impl_Bond.mk 0 0 [] 0 [] false [])) with fKind := a0.fKind }) : T_impl_Bond) with fIn := a0.fIn }) : T_impl_Bond) with fOf := a0.fOf }) : T_impl_Bond) with fFollow := a0.fFollow }.fKind), I ({ (({ (({ (({ ((T_impl_Bond.mk 0 0 [] 0 [] false [])) with fKind := a0.fKind }) : T_impl_Bond) with fIn := a0.fIn }) : T_impl_Bond) with fOf := a0.fOf }) : T_impl_Bond) with fFollow := a0.fFollow }.fIn), .ref 3 0 0 1 v1.length false, I ({ (({ (({ (({ ((T_impl_Bond.mk 0 0 [] 0 [] false [])) with fKind := a0.fKind }) : T_impl_Bond) with fIn := a0.fIn }) : T_impl_Bond) with fOf := a0.fOf }) : T_impl_Bond) with fFollow := a0.fFollow }.fOf), .ref 4 0 0 1 v3.length false, B ({ (({ (({ (({ ((T_impl_Bond.mk 0 0 [] 0 [] false [])) with fKind := a0.fKind }) : T_impl_Bond) with fIn := a0.fIn }) : T_impl_Bond) with fOf := a0.fOf }) : T_impl_Bond) with fFollow := a0.fFollow }.fFollow), .ref 5 0 0 5 v5.length false]) (OutP.agg (OutL.cons (OutP.frz rfl) (OutL.cons (OutP.frz rfl) (OutL.cons (OutP.listn (v := 0) (xs := v1) rfl (by kernel_rfl)) (OutL.cons (OutP.frz rfl) (OutL.cons (OutP.listn (v := 0) (xs := v3) rfl (by kernel_rfl)) (OutL.cons (OutP.frz rfl) (OutL.cons (OutP.listn (v := 0) (xs := v5) rfl (by kernel_rfl)) (OutL.nil _))))))))))
def laws_toBondS_D_l0 (a0 : List T_laws_Bond) : Nat → Int → (List T_impl_Bond) → Option (List T_impl_Bond)
  | 0, _, _ => none
  | f6 + 1, x4, x5 => bif (decide (x4 < ((a0.length : Int)))) then (getI a0 x4).bind fun v9 => (laws_toBond_D v9).bind fun v11 => (getI x5 x4).bind fun v13 => (laws_toBondS_D_l0 a0 f6) ((w64 (x4 + 1))) ((x5.set x4.toNat (({ (({ (({ v11 with fList := v11.fList }) : T_impl_Bond) with fTo := v11.fTo }) : T_impl_Bond) with fE := v11.fE } : T_impl_Bond)))) else some x5
def laws_toBondS_D (a0 : List T_laws_Bond) : Option (List T_impl_Bond) := (mkI ((a0.length : Int)) ((T_impl_Bond.mk 0 0 [] 0 [] false []))).bind fun v1 => laws_toBondS_D_l0 a0 FUEL 0 v1
end Go.D
