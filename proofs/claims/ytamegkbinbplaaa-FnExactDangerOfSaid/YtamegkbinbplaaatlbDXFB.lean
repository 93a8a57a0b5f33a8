import Derived.Test.YtamegkbinbplaaatlbDXFA
import Derived.KernelRfl
set_option linter.unusedVariables false
set_option linter.unusedSimpArgs false
namespace Go.D
open Go.Proofs
theorem ok_spec_WritesOk {a0 : List T_impl_Write} {y : Bool} (h : spec_WritesOk a0 = some y) : OK Try.prog 156 [A a0] (B y) := by
 refine ow Try.func156 fun Γ hX => ?_
 unfold spec_WritesOk at h
 refine srveM [4] 50 [(0, A a0)] [] ?_
 refine pwp_seq ?_
 refine srveM [4] 50 [(0, A a0), (3, I 0)] [] ?_
 refine pwp_block ?_
 refine pwp_loop (ι := Nat × Int) (fun (f2, x1) => (⟨50, [(0, A a0), (3, I x1)], []⟩ : St)) (fun (f2, x1) => spec_WritesOk_l0 a0 f2 x1 = some y) Prod.fst (FUEL, 0) h (it [0, 3]) ?_
 rintro ⟨f2, x1⟩ h
 dsimp only at h ⊢
 rcases f2 with _ | f2
 cases h
 rw [spec_WritesOk_l0] at h
 refine pwp_seq ?_
 refine srveM [4] 50 [(0, A a0), (3, I x1), (8, B (decide (x1 < (a0.length : Int))))] [] ?_
 refine pc h (fun h => ?_) (fun h => ?_)
 refine pwp_skip ?_
 refine pwp_seq ?_
 refine pwp_block ?_
 refine srvM [4] 2 50 [(0, A a0), (3, I x1), (11, A a0), (12, I x1)] [] ?_
 obtain ⟨v5, hv6, h⟩ := bindS h
 refine opsP_idx τ_ok 13 hv6 (by kernel_rfl) ?_
 refine veM [4] 3 50 [(0, A a0), (3, I x1), (4, .ptr 0 0 0)] [sc 0 v5] ?_
 refine pwp_seq ?_
 refine pwp_join (σ := Bool) (fun x7 => (⟨50, [(0, A a0), (3, I x1), (49, B x7)], [sc 0 v5]⟩ : St)) (fun x7 => spec_WritesOk_j1 x1 (spec_WritesOk_l0 a0 f2) x7 = some y) ?_ ?_
 refine ip 50 [(0, A a0), (3, I x1), (4, .ptr 0 0 0)] [sc 0 v5] ?_
 refine pwp_any ([[0], [0], [], [], [], [0], [0], [], [], [], [], [0], [0], [], [0], [0], [], [], [], [], [], [], [], [], [], [], [], [], [], [], [0], [0], [], [], []]) ([[], [], [], [], [], [], [], [], [], [], [], [], [], [], [], [], [], [], [], [], [], [], [], [], [], [], [], [], [], [], [], [], [], [], []]) rfl (by kernel_rfl) ?_
 refine qvM [4] [0] (hB trivial) 2 50 [(16, I v5.fKey), (0, A a0), (3, I x1), (4, .ptr 0 0 0)] [sc 0 v5] ?_
 obtain ⟨v9, hv10, h⟩ := bindS h
 refine qX (some 17) (B v9) 50 [(17, B v9), (0, A a0), (3, I x1), (4, .ptr 0 0 0)] [sc 0 v5] (fun Γ' hΓ => CoreE.of_g (callV_sound (τ := τ) (by kernel_rfl) rfl (ok_spec_l1In hv10) (FzTo.frz rfl))) trivial ?_
 refine qvM [4] [] trivial 2 50 [(19, B (!v9)), (0, A a0), (3, I x1), (4, .ptr 0 0 0)] [sc 0 v5] ?_
 rcases fk (!v9) with hc22 | hc22
 replace h := bT hc22 h
 rw [hc22]
 refine qvM [4] [0] (hB trivial) 2 50 [(21, .lit undef), (20, .lit undef), (19, B true), (0, A a0), (3, I x1), (4, .ptr 0 0 0)] [sc 0 v5] ?_
 refine qvM [4] [] trivial 4 50 [(25, B true), (23, .lit undef), (22, .lit undef), (21, .lit undef), (20, .lit undef), (0, A a0), (3, I x1), (4, .ptr 0 0 0)] [sc 0 v5] ?_
 refine qvM [4] [0] (hB trivial) 2 50 [(27, .lit undef), (26, .lit undef), (25, B true), (23, .lit undef), (22, .lit undef), (21, .lit undef), (20, .lit undef), (0, A a0), (3, I x1), (4, .ptr 0 0 0)] [sc 0 v5] ?_
 refine qvM [4] [] trivial 1 50 [(28, .lit undef), (27, .lit undef), (26, .lit undef), (25, B true), (23, .lit undef), (22, .lit undef), (21, .lit undef), (20, .lit undef), (0, A a0), (3, I x1), (4, .ptr 0 0 0)] [sc 0 v5] ?_
 refine qvM [4] [0] (hB trivial) 2 50 [(30, .lit undef), (29, .lit undef), (28, .lit undef), (27, .lit undef), (26, .lit undef), (25, B true), (23, .lit undef), (22, .lit undef), (21, .lit undef), (20, .lit undef), (0, A a0), (3, I x1), (4, .ptr 0 0 0)] [sc 0 v5] ?_
 refine qvM [4] [] trivial 14 50 [(44, .lit undef), (43, .lit undef), (42, .lit undef), (41, .lit undef), (40, .lit undef), (39, .lit undef), (38, .lit undef), (37, .lit undef), (36, .lit undef), (35, B true), (33, .lit undef), (32, .lit undef), (31, .lit undef), (30, .lit undef), (29, .lit undef), (28, .lit undef), (27, .lit undef), (26, .lit undef), (23, .lit undef), (22, .lit undef), (21, .lit undef), (20, .lit undef), (0, A a0), (3, I x1), (4, .ptr 0 0 0)] [sc 0 v5] ?_
 refine qvM [4] [0] (hB trivial) 2 50 [(46, .lit undef), (45, .lit undef), (44, .lit undef), (43, .lit undef), (42, .lit undef), (41, .lit undef), (40, .lit undef), (39, .lit undef), (38, .lit undef), (37, .lit undef), (36, .lit undef), (35, B true), (33, .lit undef), (32, .lit undef), (31, .lit undef), (30, .lit undef), (29, .lit undef), (28, .lit undef), (27, .lit undef), (26, .lit undef), (23, .lit undef), (22, .lit undef), (21, .lit undef), (20, .lit undef), (0, A a0), (3, I x1)] [sc 0 v5] ?_
 refine qvM [4] [] trivial 3 50 [(49, B true), (48, .lit undef), (47, .lit undef), (46, .lit undef), (45, .lit undef), (44, .lit undef), (43, .lit undef), (42, .lit undef), (41, .lit undef), (40, .lit undef), (39, .lit undef), (38, .lit undef), (37, .lit undef), (36, .lit undef), (33, .lit undef), (32, .lit undef), (31, .lit undef), (30, .lit undef), (29, .lit undef), (28, .lit undef), (27, .lit undef), (26, .lit undef), (23, .lit undef), (22, .lit undef), (21, .lit undef), (20, .lit undef), (0, A a0), (3, I x1)] [sc 0 v5] ?_
 refine qn 50 [(0, A a0), (3, I x1), (20, .lit undef), (21, .lit undef), (22, .lit undef), (23, .lit undef), (26, .lit undef), (27, .lit undef), (28, .lit undef), (29, .lit undef), (30, .lit undef), (31, .lit undef), (32, .lit undef), (33, .lit undef), (36, .lit undef), (37, .lit undef), (38, .lit undef), (39, .lit undef), (40, .lit undef), (41, .lit undef), (42, .lit undef), (43, .lit undef), (44, .lit undef), (45, .lit undef), (46, .lit undef), (47, .lit undef), (48, .lit undef), (49, B true)] [sc 0 v5] ?_
 exact ⟨true, h, it [0, 3, 49]⟩
 replace h := bF hc22 h
 rw [hc22]
 refine qvM [4] [0] (hB trivial) 2 50 [(21, A v5.fRow), (20, .ptr 0 0 1), (19, B false), (0, A a0), (3, I x1), (4, .ptr 0 0 0)] [sc 0 v5] ?_
 obtain ⟨v11, hv12, h⟩ := bindS h
 refine qX (some 22) (B v11) 50 [(22, B v11), (21, A v5.fRow), (20, .ptr 0 0 1), (19, B false), (0, A a0), (3, I x1), (4, .ptr 0 0 0)] [sc 0 v5] (fun Γ' hΓ => CoreE.of_g (callV_sound (τ := τ) (by kernel_rfl) rfl (ok_spec_RowOk hv12) (FzTo.frz rfl))) trivial ?_
 refine qvM [4] [] trivial 3 50 [(25, B (!v11)), (23, B (!v11)), (22, B v11), (21, A v5.fRow), (20, .ptr 0 0 1), (0, A a0), (3, I x1), (4, .ptr 0 0 0)] [sc 0 v5] ?_
 rcases fk (!v11) with hc21 | hc21
 replace h := bT hc21 h
 rw [hc21]
 refine qvM [4] [0] (hB trivial) 2 50 [(27, .lit undef), (26, .lit undef), (25, B true), (23, B true), (22, B v11), (21, A v5.fRow), (20, .ptr 0 0 1), (0, A a0), (3, I x1), (4, .ptr 0 0 0)] [sc 0 v5] ?_
 refine qvM [4] [] trivial 1 50 [(28, .lit undef), (27, .lit undef), (26, .lit undef), (25, B true), (23, B true), (22, B v11), (21, A v5.fRow), (20, .ptr 0 0 1), (0, A a0), (3, I x1), (4, .ptr 0 0 0)] [sc 0 v5] ?_
 refine qvM [4] [0] (hB trivial) 2 50 [(30, .lit undef), (29, .lit undef), (28, .lit undef), (27, .lit undef), (26, .lit undef), (25, B true), (23, B true), (22, B v11), (21, A v5.fRow), (20, .ptr 0 0 1), (0, A a0), (3, I x1), (4, .ptr 0 0 0)] [sc 0 v5] ?_
 refine qvM [4] [] trivial 14 50 [(44, .lit undef), (43, .lit undef), (42, .lit undef), (41, .lit undef), (40, .lit undef), (39, .lit undef), (38, .lit undef), (37, .lit undef), (36, .lit undef), (35, B true), (33, .lit undef), (32, .lit undef), (31, .lit undef), (30, .lit undef), (29, .lit undef), (28, .lit undef), (27, .lit undef), (26, .lit undef), (23, B true), (22, B v11), (21, A v5.fRow), (20, .ptr 0 0 1), (0, A a0), (3, I x1), (4, .ptr 0 0 0)] [sc 0 v5] ?_
 refine qvM [4] [0] (hB trivial) 2 50 [(46, .lit undef), (45, .lit undef), (44, .lit undef), (43, .lit undef), (42, .lit undef), (41, .lit undef), (40, .lit undef), (39, .lit undef), (38, .lit undef), (37, .lit undef), (36, .lit undef), (35, B true), (33, .lit undef), (32, .lit undef), (31, .lit undef), (30, .lit undef), (29, .lit undef), (28, .lit undef), (27, .lit undef), (26, .lit undef), (23, B true), (22, B v11), (21, A v5.fRow), (20, .ptr 0 0 1), (0, A a0), (3, I x1)] [sc 0 v5] ?_
 refine qvM [4] [] trivial 3 50 [(49, B true), (48, .lit undef), (47, .lit undef), (46, .lit undef), (45, .lit undef), (44, .lit undef), (43, .lit undef), (42, .lit undef), (41, .lit undef), (40, .lit undef), (39, .lit undef), (38, .lit undef), (37, .lit undef), (36, .lit undef), (33, .lit undef), (32, .lit undef), (31, .lit undef), (30, .lit undef), (29, .lit undef), (28, .lit undef), (27, .lit undef), (26, .lit undef), (23, B true), (22, B v11), (21, A v5.fRow), (20, .ptr 0 0 1), (0, A a0), (3, I x1)] [sc 0 v5] ?_
 refine qn 50 [(0, A a0), (3, I x1), (20, .ptr 0 0 1), (21, A v5.fRow), (22, B v11), (23, B true), (26, .lit undef), (27, .lit undef), (28, .lit undef), (29, .lit undef), (30, .lit undef), (31, .lit undef), (32, .lit undef), (33, .lit undef), (36, .lit undef), (37, .lit undef), (38, .lit undef), (39, .lit undef), (40, .lit undef), (41, .lit undef), (42, .lit undef), (43, .lit undef), (44, .lit undef), (45, .lit undef), (46, .lit undef), (47, .lit undef), (48, .lit undef), (49, B true)] [sc 0 v5] ?_
 exact ⟨true, h, it [0, 3, 49]⟩
 replace h := bF hc21 h
 rw [hc21]
 refine qvM [4] [0] (hB trivial) 2 50 [(27, B v5.fGone), (26, .ptr 0 0 2), (25, B false), (23, B false), (22, B v11), (21, A v5.fRow), (20, .ptr 0 0 1), (0, A a0), (3, I x1), (4, .ptr 0 0 0)] [sc 0 v5] ?_
 refine qvM [4] [] trivial 1 50 [(28, B v5.fGone), (27, B v5.fGone), (26, .ptr 0 0 2), (25, B false), (23, B false), (22, B v11), (21, A v5.fRow), (20, .ptr 0 0 1), (0, A a0), (3, I x1), (4, .ptr 0 0 0)] [sc 0 v5] ?_
 rcases Bool.eq_false_or_eq_true v5.fGone with hc20 | hc20
 replace h := bT hc20 h
 rw [hc20]
 refine qvM [4] [0] (hB trivial) 2 50 [(30, A v5.fRow), (29, .ptr 0 0 1), (28, B true), (27, B true), (26, .ptr 0 0 2), (25, B false), (23, B false), (22, B v11), (21, A v5.fRow), (20, .ptr 0 0 1), (0, A a0), (3, I x1), (4, .ptr 0 0 0)] [sc 0 v5] ?_
 refine qvM [4] [] trivial 5 50 [(35, B (decide ((v5.fRow.length : Int) > 0))), (33, B (decide ((v5.fRow.length : Int) > 0))), (32, B (decide ((v5.fRow.length : Int) > 0))), (31, I (v5.fRow.length : Int)), (30, A v5.fRow), (29, .ptr 0 0 1), (28, B true), (27, B true), (26, .ptr 0 0 2), (23, B false), (22, B v11), (21, A v5.fRow), (20, .ptr 0 0 1), (0, A a0), (3, I x1), (4, .ptr 0 0 0)] [sc 0 v5] ?_
 rcases fk (decide ((v5.fRow.length : Int) > 0)) with hc16 | hc16
 replace h := bT hc16 h
 rw [hc16]
 refine qvM [4] [] trivial 9 50 [(44, .lit undef), (43, .lit undef), (42, .lit undef), (41, .lit undef), (40, .lit undef), (39, .lit undef), (38, .lit undef), (37, .lit undef), (36, .lit undef), (35, B true), (33, B true), (32, B true), (31, I (v5.fRow.length : Int)), (30, A v5.fRow), (29, .ptr 0 0 1), (28, B true), (27, B true), (26, .ptr 0 0 2), (23, B false), (22, B v11), (21, A v5.fRow), (20, .ptr 0 0 1), (0, A a0), (3, I x1), (4, .ptr 0 0 0)] [sc 0 v5] ?_
 refine qvM [4] [0] (hB trivial) 2 50 [(46, .lit undef), (45, .lit undef), (44, .lit undef), (43, .lit undef), (42, .lit undef), (41, .lit undef), (40, .lit undef), (39, .lit undef), (38, .lit undef), (37, .lit undef), (36, .lit undef), (35, B true), (33, B true), (32, B true), (31, I (v5.fRow.length : Int)), (30, A v5.fRow), (29, .ptr 0 0 1), (28, B true), (27, B true), (26, .ptr 0 0 2), (23, B false), (22, B v11), (21, A v5.fRow), (20, .ptr 0 0 1), (0, A a0), (3, I x1)] [sc 0 v5] ?_
 refine qvM [4] [] trivial 3 50 [(49, B true), (48, .lit undef), (47, .lit undef), (46, .lit undef), (45, .lit undef), (44, .lit undef), (43, .lit undef), (42, .lit undef), (41, .lit undef), (40, .lit undef), (39, .lit undef), (38, .lit undef), (37, .lit undef), (36, .lit undef), (33, B true), (32, B true), (31, I (v5.fRow.length : Int)), (30, A v5.fRow), (29, .ptr 0 0 1), (28, B true), (27, B true), (26, .ptr 0 0 2), (23, B false), (22, B v11), (21, A v5.fRow), (20, .ptr 0 0 1), (0, A a0), (3, I x1)] [sc 0 v5] ?_
 refine qn 50 [(0, A a0), (3, I x1), (20, .ptr 0 0 1), (21, A v5.fRow), (22, B v11), (23, B false), (26, .ptr 0 0 2), (27, B true), (28, B true), (29, .ptr 0 0 1), (30, A v5.fRow), (31, I (v5.fRow.length : Int)), (32, B true), (33, B true), (36, .lit undef), (37, .lit undef), (38, .lit undef), (39, .lit undef), (40, .lit undef), (41, .lit undef), (42, .lit undef), (43, .lit undef), (44, .lit undef), (45, .lit undef), (46, .lit undef), (47, .lit undef), (48, .lit undef), (49, B true)] [sc 0 v5] ?_
 exact ⟨true, h, it [0, 3, 49]⟩
 replace h := bF hc16 h
 rw [hc16]
 refine qvM [4] [] trivial 3 50 [(38, B (decide (x1 > 0))), (37, B (decide (x1 > 0))), (36, I x1), (35, B false), (33, B false), (32, B false), (31, I (v5.fRow.length : Int)), (30, A v5.fRow), (29, .ptr 0 0 1), (28, B true), (27, B true), (26, .ptr 0 0 2), (23, B false), (22, B v11), (21, A v5.fRow), (20, .ptr 0 0 1), (0, A a0), (3, I x1), (4, .ptr 0 0 0)] [sc 0 v5] ?_
 rcases fk (decide (x1 > 0)) with hc15 | hc15
 replace h := bT hc15 h
 rw [hc15]
 refine qvM [4] [] trivial 3 50 [(41, I (w64 (x1 - 1))), (40, I x1), (39, A a0), (38, B true), (37, B true), (36, I x1), (35, B false), (33, B false), (32, B false), (31, I (v5.fRow.length : Int)), (30, A v5.fRow), (29, .ptr 0 0 1), (28, B true), (27, B true), (26, .ptr 0 0 2), (23, B false), (22, B v11), (21, A v5.fRow), (20, .ptr 0 0 1), (0, A a0), (3, I x1), (4, .ptr 0 0 0)] [sc 0 v5] ?_
 obtain ⟨v13, hv14, h⟩ := bindS h
 refine qX (some 42) (pf v13 0) 50 [(42, pf v13 0), (41, I (w64 (x1 - 1))), (40, I x1), (39, A a0), (38, B true), (37, B true), (36, I x1), (35, B false), (33, B false), (32, B false), (31, I (v5.fRow.length : Int)), (30, A v5.fRow), (29, .ptr 0 0 1), (28, B true), (27, B true), (26, .ptr 0 0 2), (23, B false), (22, B v11), (21, A v5.fRow), (20, .ptr 0 0 1), (0, A a0), (3, I x1), (4, .ptr 0 0 0)] [sc 0 v5] (fun Γ' hΓ => CoreE.of_y (idxV_sound τ_ok (by kernel_rfl) hv14)) trivial ?_
 refine qvM [4] [] trivial 2 50 [(44, I v13.fKey), (43, pf v13 0), (42, pf v13 0), (41, I (w64 (x1 - 1))), (40, I x1), (39, A a0), (38, B true), (37, B true), (36, I x1), (35, B false), (33, B false), (32, B false), (31, I (v5.fRow.length : Int)), (30, A v5.fRow), (29, .ptr 0 0 1), (28, B true), (27, B true), (26, .ptr 0 0 2), (23, B false), (22, B v11), (21, A v5.fRow), (20, .ptr 0 0 1), (0, A a0), (3, I x1), (4, .ptr 0 0 0)] [sc 0 v5] ?_
 refine qvM [4] [0] (hB trivial) 2 50 [(46, I v5.fKey), (45, .ptr 0 0 0), (44, I v13.fKey), (43, pf v13 0), (42, pf v13 0), (41, I (w64 (x1 - 1))), (40, I x1), (39, A a0), (38, B true), (37, B true), (36, I x1), (35, B false), (33, B false), (32, B false), (31, I (v5.fRow.length : Int)), (30, A v5.fRow), (29, .ptr 0 0 1), (28, B true), (27, B true), (26, .ptr 0 0 2), (23, B false), (22, B v11), (21, A v5.fRow), (20, .ptr 0 0 1), (0, A a0), (3, I x1)] [sc 0 v5] ?_
 refine qvM [4] [] trivial 3 50 [(49, B (decide (v13.fKey ≥ v5.fKey))), (48, B (decide (v13.fKey ≥ v5.fKey))), (47, B (decide (v13.fKey ≥ v5.fKey))), (46, I v5.fKey), (45, .ptr 0 0 0), (44, I v13.fKey), (43, pf v13 0), (42, pf v13 0), (41, I (w64 (x1 - 1))), (40, I x1), (39, A a0), (38, B true), (37, B true), (36, I x1), (33, B false), (32, B false), (31, I (v5.fRow.length : Int)), (30, A v5.fRow), (29, .ptr 0 0 1), (28, B true), (27, B true), (26, .ptr 0 0 2), (23, B false), (22, B v11), (21, A v5.fRow), (20, .ptr 0 0 1), (0, A a0), (3, I x1)] [sc 0 v5] ?_
 refine qn 50 [(0, A a0), (3, I x1), (20, .ptr 0 0 1), (21, A v5.fRow), (22, B v11), (23, B false), (26, .ptr 0 0 2), (27, B true), (28, B true), (29, .ptr 0 0 1), (30, A v5.fRow), (31, I (v5.fRow.length : Int)), (32, B false), (33, B false), (36, I x1), (37, B true), (38, B true), (39, A a0), (40, I x1), (41, I (w64 (x1 - 1))), (42, pf v13 0), (43, pf v13 0), (44, I v13.fKey), (45, .ptr 0 0 0), (46, I v5.fKey), (47, B (decide (v13.fKey ≥ v5.fKey))), (48, B (decide (v13.fKey ≥ v5.fKey))), (49, B (decide (v13.fKey ≥ v5.fKey)))] [sc 0 v5] ?_
 exact ⟨(decide (v13.fKey ≥ v5.fKey)), h, it [0, 3, 49]⟩
 replace h := bF hc15 h
 rw [hc15]
 refine qvM [4] [] trivial 6 50 [(44, .lit undef), (43, .lit undef), (42, .lit undef), (41, .lit undef), (40, .lit undef), (39, .lit undef), (38, B false), (37, B false), (36, I x1), (35, B false), (33, B false), (32, B false), (31, I (v5.fRow.length : Int)), (30, A v5.fRow), (29, .ptr 0 0 1), (28, B true), (27, B true), (26, .ptr 0 0 2), (23, B false), (22, B v11), (21, A v5.fRow), (20, .ptr 0 0 1), (0, A a0), (3, I x1), (4, .ptr 0 0 0)] [sc 0 v5] ?_
 refine qvM [4] [0] (hB trivial) 2 50 [(46, .lit undef), (45, .lit undef), (44, .lit undef), (43, .lit undef), (42, .lit undef), (41, .lit undef), (40, .lit undef), (39, .lit undef), (38, B false), (37, B false), (36, I x1), (35, B false), (33, B false), (32, B false), (31, I (v5.fRow.length : Int)), (30, A v5.fRow), (29, .ptr 0 0 1), (28, B true), (27, B true), (26, .ptr 0 0 2), (23, B false), (22, B v11), (21, A v5.fRow), (20, .ptr 0 0 1), (0, A a0), (3, I x1)] [sc 0 v5] ?_
 refine qvM [4] [] trivial 3 50 [(49, B false), (48, B false), (47, .lit undef), (46, .lit undef), (45, .lit undef), (44, .lit undef), (43, .lit undef), (42, .lit undef), (41, .lit undef), (40, .lit undef), (39, .lit undef), (38, B false), (37, B false), (36, I x1), (33, B false), (32, B false), (31, I (v5.fRow.length : Int)), (30, A v5.fRow), (29, .ptr 0 0 1), (28, B true), (27, B true), (26, .ptr 0 0 2), (23, B false), (22, B v11), (21, A v5.fRow), (20, .ptr 0 0 1), (0, A a0), (3, I x1)] [sc 0 v5] ?_
 refine qn 50 [(0, A a0), (3, I x1), (20, .ptr 0 0 1), (21, A v5.fRow), (22, B v11), (23, B false), (26, .ptr 0 0 2), (27, B true), (28, B true), (29, .ptr 0 0 1), (30, A v5.fRow), (31, I (v5.fRow.length : Int)), (32, B false), (33, B false), (36, I x1), (37, B false), (38, B false), (39, .lit undef), (40, .lit undef), (41, .lit undef), (42, .lit undef), (43, .lit undef), (44, .lit undef), (45, .lit undef), (46, .lit undef), (47, .lit undef), (48, B false), (49, B false)] [sc 0 v5] ?_
 exact ⟨false, h, it [0, 3, 49]⟩
 replace h := bF hc20 h
 rw [hc20]
 refine qvM [4] [0] (hB trivial) 2 50 [(30, .lit undef), (29, .lit undef), (28, B false), (27, B false), (26, .ptr 0 0 2), (25, B false), (23, B false), (22, B v11), (21, A v5.fRow), (20, .ptr 0 0 1), (0, A a0), (3, I x1), (4, .ptr 0 0 0)] [sc 0 v5] ?_
 refine qvM [4] [] trivial 8 50 [(38, B (decide (x1 > 0))), (37, B (decide (x1 > 0))), (36, I x1), (35, B false), (33, B false), (32, .lit undef), (31, .lit undef), (30, .lit undef), (29, .lit undef), (28, B false), (27, B false), (26, .ptr 0 0 2), (23, B false), (22, B v11), (21, A v5.fRow), (20, .ptr 0 0 1), (0, A a0), (3, I x1), (4, .ptr 0 0 0)] [sc 0 v5] ?_
 rcases fk (decide (x1 > 0)) with hc19 | hc19
 replace h := bT hc19 h
 rw [hc19]
 refine qvM [4] [] trivial 3 50 [(41, I (w64 (x1 - 1))), (40, I x1), (39, A a0), (38, B true), (37, B true), (36, I x1), (35, B false), (33, B false), (32, .lit undef), (31, .lit undef), (30, .lit undef), (29, .lit undef), (28, B false), (27, B false), (26, .ptr 0 0 2), (23, B false), (22, B v11), (21, A v5.fRow), (20, .ptr 0 0 1), (0, A a0), (3, I x1), (4, .ptr 0 0 0)] [sc 0 v5] ?_
 obtain ⟨v17, hv18, h⟩ := bindS h
 refine qX (some 42) (pf v17 0) 50 [(42, pf v17 0), (41, I (w64 (x1 - 1))), (40, I x1), (39, A a0), (38, B true), (37, B true), (36, I x1), (35, B false), (33, B false), (32, .lit undef), (31, .lit undef), (30, .lit undef), (29, .lit undef), (28, B false), (27, B false), (26, .ptr 0 0 2), (23, B false), (22, B v11), (21, A v5.fRow), (20, .ptr 0 0 1), (0, A a0), (3, I x1), (4, .ptr 0 0 0)] [sc 0 v5] (fun Γ' hΓ => CoreE.of_y (idxV_sound τ_ok (by kernel_rfl) hv18)) trivial ?_
 refine qvM [4] [] trivial 2 50 [(44, I v17.fKey), (43, pf v17 0), (42, pf v17 0), (41, I (w64 (x1 - 1))), (40, I x1), (39, A a0), (38, B true), (37, B true), (36, I x1), (35, B false), (33, B false), (32, .lit undef), (31, .lit undef), (30, .lit undef), (29, .lit undef), (28, B false), (27, B false), (26, .ptr 0 0 2), (23, B false), (22, B v11), (21, A v5.fRow), (20, .ptr 0 0 1), (0, A a0), (3, I x1), (4, .ptr 0 0 0)] [sc 0 v5] ?_
 refine qvM [4] [0] (hB trivial) 2 50 [(46, I v5.fKey), (45, .ptr 0 0 0), (44, I v17.fKey), (43, pf v17 0), (42, pf v17 0), (41, I (w64 (x1 - 1))), (40, I x1), (39, A a0), (38, B true), (37, B true), (36, I x1), (35, B false), (33, B false), (32, .lit undef), (31, .lit undef), (30, .lit undef), (29, .lit undef), (28, B false), (27, B false), (26, .ptr 0 0 2), (23, B false), (22, B v11), (21, A v5.fRow), (20, .ptr 0 0 1), (0, A a0), (3, I x1)] [sc 0 v5] ?_
 refine qvM [4] [] trivial 3 50 [(49, B (decide (v17.fKey ≥ v5.fKey))), (48, B (decide (v17.fKey ≥ v5.fKey))), (47, B (decide (v17.fKey ≥ v5.fKey))), (46, I v5.fKey), (45, .ptr 0 0 0), (44, I v17.fKey), (43, pf v17 0), (42, pf v17 0), (41, I (w64 (x1 - 1))), (40, I x1), (39, A a0), (38, B true), (37, B true), (36, I x1), (33, B false), (32, .lit undef), (31, .lit undef), (30, .lit undef), (29, .lit undef), (28, B false), (27, B false), (26, .ptr 0 0 2), (23, B false), (22, B v11), (21, A v5.fRow), (20, .ptr 0 0 1), (0, A a0), (3, I x1)] [sc 0 v5] ?_
 refine qn 50 [(0, A a0), (3, I x1), (20, .ptr 0 0 1), (21, A v5.fRow), (22, B v11), (23, B false), (26, .ptr 0 0 2), (27, B false), (28, B false), (29, .lit undef), (30, .lit undef), (31, .lit undef), (32, .lit undef), (33, B false), (36, I x1), (37, B true), (38, B true), (39, A a0), (40, I x1), (41, I (w64 (x1 - 1))), (42, pf v17 0), (43, pf v17 0), (44, I v17.fKey), (45, .ptr 0 0 0), (46, I v5.fKey), (47, B (decide (v17.fKey ≥ v5.fKey))), (48, B (decide (v17.fKey ≥ v5.fKey))), (49, B (decide (v17.fKey ≥ v5.fKey)))] [sc 0 v5] ?_
 exact ⟨(decide (v17.fKey ≥ v5.fKey)), h, it [0, 3, 49]⟩
 replace h := bF hc19 h
 rw [hc19]
 refine qvM [4] [] trivial 6 50 [(44, .lit undef), (43, .lit undef), (42, .lit undef), (41, .lit undef), (40, .lit undef), (39, .lit undef), (38, B false), (37, B false), (36, I x1), (35, B false), (33, B false), (32, .lit undef), (31, .lit undef), (30, .lit undef), (29, .lit undef), (28, B false), (27, B false), (26, .ptr 0 0 2), (23, B false), (22, B v11), (21, A v5.fRow), (20, .ptr 0 0 1), (0, A a0), (3, I x1), (4, .ptr 0 0 0)] [sc 0 v5] ?_
 refine qvM [4] [0] (hB trivial) 2 50 [(46, .lit undef), (45, .lit undef), (44, .lit undef), (43, .lit undef), (42, .lit undef), (41, .lit undef), (40, .lit undef), (39, .lit undef), (38, B false), (37, B false), (36, I x1), (35, B false), (33, B false), (32, .lit undef), (31, .lit undef), (30, .lit undef), (29, .lit undef), (28, B false), (27, B false), (26, .ptr 0 0 2), (23, B false), (22, B v11), (21, A v5.fRow), (20, .ptr 0 0 1), (0, A a0), (3, I x1)] [sc 0 v5] ?_
 refine qvM [4] [] trivial 3 50 [(49, B false), (48, B false), (47, .lit undef), (46, .lit undef), (45, .lit undef), (44, .lit undef), (43, .lit undef), (42, .lit undef), (41, .lit undef), (40, .lit undef), (39, .lit undef), (38, B false), (37, B false), (36, I x1), (33, B false), (32, .lit undef), (31, .lit undef), (30, .lit undef), (29, .lit undef), (28, B false), (27, B false), (26, .ptr 0 0 2), (23, B false), (22, B v11), (21, A v5.fRow), (20, .ptr 0 0 1), (0, A a0), (3, I x1)] [sc 0 v5] ?_
 refine qn 50 [(0, A a0), (3, I x1), (20, .ptr 0 0 1), (21, A v5.fRow), (22, B v11), (23, B false), (26, .ptr 0 0 2), (27, B false), (28, B false), (29, .lit undef), (30, .lit undef), (31, .lit undef), (32, .lit undef), (33, B false), (36, I x1), (37, B false), (38, B false), (39, .lit undef), (40, .lit undef), (41, .lit undef), (42, .lit undef), (43, .lit undef), (44, .lit undef), (45, .lit undef), (46, .lit undef), (47, .lit undef), (48, B false), (49, B false)] [sc 0 v5] ?_
 exact ⟨false, h, it [0, 3, 49]⟩
 rintro x7 h
 unfold spec_WritesOk_j1 at h
 refine pc h (fun h => ?_) (fun h => ?_)
 refine srveM [4] 50 [(2, B false)] [sc 0 v5] ?_
 cases h
 exact pwp_ret rz
 refine pwp_skip ?_
 refine rveM [4] 50 [(0, A a0), (3, I (w64 (x1 + 1)))] [sc 0 v5] ?_
 exact ⟨(f2, (w64 (x1 + 1))), h, Nat.lt_succ_self _, (it (st' := ⟨50, [(0, A a0), (3, I (w64 (x1 + 1)))], [sc 0 v5]⟩) [0, 3]).trans (Imp.truncS 0 (nx hX) (by kernel_rfl) (allBelow_mem (by exact (And.intro rfl (And.intro rfl trivial)))) (by exact trivial) (by kernel_rfl))⟩
 refine pwp_exit ?_
 refine srveM [4] 50 [(2, B true)] [] ?_
 cases h
 exact pwp_ret rz
def impl_Txn_related_2 (a0 : T_impl_Write) (b0 : T_impl_Txn) : Option Bool := (impl_Txn_writes b0 a0.fKey).bind fun v1 => some v1
theorem ok_impl_Txn_related_2 {a0 : T_impl_Write} {b0 : T_impl_Txn} {y : Bool} (h : impl_Txn_related_2 a0 b0 = some y) : OK Try.prog 169 [E a0, pf b0 0] (B y) := by
 refine ow Try.func169 fun Γ hX => ?_
 unfold impl_Txn_related_2 at h
 refine srve 8 [(1, pf b0 0), (2, pf a0 0)] [] ?_
 refine srv 3 8 [(4, E b0), (6, I a0.fKey)] [] ?_
 obtain ⟨v1, hv2, h⟩ := bindS h
 refine cF 7 (ok_impl_Txn_writes hv2) ?_
 refine ve 1 8 [(3, B v1)] [] ?_
 cases h
 exact pwp_ret rz
def laws_szTxnS_l0 (a0 : List T_laws_Txn) : Nat → Int → Int → Option Int
 | 0, _, _ => none
 | f4 + 1, x2, x3 => bif (decide (x3 < (a0.length : Int))) then (getI a0 x3).bind fun v7 => (laws_szTxn v7 x2).bind fun v9 => bif (decide (v9 < 0)) then some (-1) else (laws_szTxnS_l0 a0 f4) v9 (w64 (x3 + 1)) else some x2
def laws_szTxnS (a0 : List T_laws_Txn) (a1 : Int) : Option Int := bif (decide ((w64 (a1 - (a0.length : Int))) < 0)) then some (-1) else laws_szTxnS_l0 a0 FUEL (w64 (a1 - (a0.length : Int))) 0
theorem ok_laws_szTxnS {a0 : List T_laws_Txn} {a1 : Int} {y : Int} (h : laws_szTxnS a0 a1 = some y) : OK Try.prog 49 [A a0, I a1] (I y) := by
 refine ow Try.func49 fun Γ hX => ?_
 unfold laws_szTxnS at h
 refine srve 27 [(0, A a0), (1, I a1)] [] ?_
 refine srve 27 [(0, A a0), (1, I (w64 (a1 - (a0.length : Int))))] [] ?_
 refine pwp_seq ?_
 refine srve 27 [(0, A a0), (1, I (w64 (a1 - (a0.length : Int)))), (11, B (decide ((w64 (a1 - (a0.length : Int))) < 0)))] [] ?_
 refine pc h (fun h => ?_) (fun h => ?_)
 refine srve 27 [(4, I (-1))] [] ?_
 cases h
 exact pwp_ret rz
 refine pwp_skip ?_
 refine pwp_seq ?_
 refine srve 27 [(0, A a0), (1, I (w64 (a1 - (a0.length : Int)))), (5, I 0)] [] ?_
 refine pwp_block ?_
 refine pwp_loop (ι := Nat × Int × Int) (fun (f4, x2, x3) => (⟨27, [(0, A a0), (1, I x2), (5, I x3)], []⟩ : St)) (fun (f4, x2, x3) => laws_szTxnS_l0 a0 f4 x2 x3 = some y) Prod.fst (FUEL, (w64 (a1 - (a0.length : Int))), 0) h (it [0, 1, 5]) ?_
 rintro ⟨f4, x2, x3⟩ h
 dsimp only at h ⊢
 rcases f4 with _ | f4
 cases h
 rw [laws_szTxnS_l0] at h
 refine pwp_seq ?_
 refine srve 27 [(0, A a0), (1, I x2), (5, I x3), (15, B (decide (x3 < (a0.length : Int))))] [] ?_
 refine pc h (fun h => ?_) (fun h => ?_)
 refine pwp_skip ?_
 refine pwp_seq ?_
 refine pwp_block ?_
 refine srv 2 27 [(0, A a0), (1, I x2), (5, I x3), (18, A a0), (19, I x3)] [] ?_
 obtain ⟨v7, hv8, h⟩ := bindS h
 refine opsP_idx τ_ok 20 hv8 (by kernel_rfl) ?_
 refine v 2 27 [(0, A a0), (5, I x3), (21, E v7), (22, I x2)] [] ?_
 obtain ⟨v9, hv10, h⟩ := bindS h
 refine cF 23 (ok_laws_szTxn hv10) ?_
 refine ve 1 27 [(0, A a0), (1, I v9), (5, I x3)] [] ?_
 refine srve 27 [(0, A a0), (1, I v9), (5, I x3), (25, B (decide (v9 < 0)))] [] ?_
 refine pc h (fun h => ?_) (fun h => ?_)
 refine srve 27 [(4, I (-1))] [] ?_
 cases h
 exact pwp_ret rz
 refine pwp_skip ?_
 refine rve 27 [(0, A a0), (1, I v9), (5, I (w64 (x3 + 1)))] [] ?_
 exact ⟨(f4, v9, (w64 (x3 + 1))), h, Nat.lt_succ_self _, it [0, 1, 5]⟩
 refine pwp_exit ?_
 refine srve 27 [(4, I x2)] [] ?_
 cases h
 exact pwp_ret rz
def impl_HouseOk_j2 (x3 : List Int) (x4 : Int) (K6 : (List Int) → Int → Option Bool) (v8 : T_impl_Txn) (x10 : Bool) : Option Bool := bif x10 then some false else bif (v8.fState == 2) then K6 (insI x3 v8.fEnd) (w64 (x4 + 1)) else K6 x3 (w64 (x4 + 1))
def impl_HouseOk_l1 (a0 : T_impl_House) : Nat → (List Int) → Int → Option Bool
 | 0, _, _ => none
 | f5 + 1, x3, x4 => bif (decide (x4 < (a0.fTxns.length : Int))) then (getI a0.fTxns x4).bind fun v8 => (impl_Txn_ok v8 a0.fClock).bind fun v13 => bif (!v13) then impl_HouseOk_j2 x3 x4 (impl_HouseOk_l1 a0 f5) v8 true else bif (v8.fState == 2) then impl_HouseOk_j2 x3 x4 (impl_HouseOk_l1 a0 f5) v8 (x3.contains v8.fEnd) else impl_HouseOk_j2 x3 x4 (impl_HouseOk_l1 a0 f5) v8 false else some true
def impl_HouseOk_j0 (a0 : T_impl_House) (x1 : Bool) : Option Bool := bif x1 then some false else impl_HouseOk_l1 a0 FUEL ([] : List Int) 0
def impl_HouseOk (a0 : T_impl_House) : Option Bool := (impl_VersionsOk a0.fList).bind fun v17 => bif (!v17) then impl_HouseOk_j0 a0 true else (impl_between a0.fClock 0 40).bind fun v19 => bif (!v19) then impl_HouseOk_j0 a0 true else (impl_turnAny a0.fList).bind fun v21 => bif (decide (v21 > a0.fClock)) then impl_HouseOk_j0 a0 true else impl_HouseOk_j0 a0 (!((a0.fTxns.length : Int) == 4))
theorem ok_impl_HouseOk {a0 : T_impl_House} {y : Bool} (h : impl_HouseOk a0 = some y) : OK Try.prog 54 [E a0] (B y) := by
 refine ow Try.func54 fun Γ hX => ?_
 unfold impl_HouseOk at h
 refine srveM [5] 61 [(1, pf a0 0)] [] ?_
 refine pwp_seq ?_
 refine pwp_seq ?_
 refine pwp_join (σ := Bool) (fun x1 => (⟨61, [(1, pf a0 0), (29, B x1)], []⟩ : St)) (fun x1 => impl_HouseOk_j0 a0 x1 = some y) ?_ ?_
 refine ip 61 [(1, pf a0 0)] [] ?_
 refine pN 24 ?_
 refine qvM [5] [] trivial 2 61 [(7, A a0.fList), (1, pf a0 0)] [] ?_
 obtain ⟨v17, hv18, h⟩ := bindS h
 refine qX (some 8) (B v17) 61 [(8, B v17), (1, pf a0 0)] [] (fun Γ' hΓ => CoreE.of_g (callV_sound (τ := τ) (by kernel_rfl) rfl (ok_impl_VersionsOk hv18) (FzTo.frz rfl))) trivial ?_
 refine qvM [5] [] trivial 2 61 [(10, B (!v17)), (1, pf a0 0)] [] ?_
 rcases fk (!v17) with hc25 | hc25
 replace h := bT hc25 h
 rw [hc25]
 refine qvnM [5] [] trivial 19 61 [(1, pf a0 0), (29, B true)] [] ?_
 exact ⟨true, h, it [1, 29]⟩
 replace h := bF hc25 h
 rw [hc25]
 refine qvM [5] [] trivial 2 61 [(12, I a0.fClock), (10, B false), (1, pf a0 0)] [] ?_
 obtain ⟨v19, hv20, h⟩ := bindS h
 refine qX (some 13) (B v19) 61 [(13, B v19), (10, B false), (1, pf a0 0)] [] (fun Γ' hΓ => CoreE.of_g (callV_sound (τ := τ) (by kernel_rfl) rfl (ok_impl_between hv20) (FzTo.frz rfl))) trivial ?_
 refine qvM [5] [] trivial 3 61 [(16, B (!v19)), (1, pf a0 0)] [] ?_
 rcases fk (!v19) with hc24 | hc24
 replace h := bT hc24 h
 rw [hc24]
 refine qvnM [5] [] trivial 13 61 [(1, pf a0 0), (29, B true)] [] ?_
 exact ⟨true, h, it [1, 29]⟩
 replace h := bF hc24 h
 rw [hc24]
 refine qvM [5] [] trivial 2 61 [(18, A a0.fList), (16, B false), (1, pf a0 0)] [] ?_
 obtain ⟨v21, hv22, h⟩ := bindS h
 refine qX (some 19) (I v21) 61 [(19, I v21), (16, B false), (1, pf a0 0)] [] (fun Γ' hΓ => CoreE.of_g (callV_sound (τ := τ) (by kernel_rfl) rfl (ok_impl_turnAny hv22) (FzTo.frz rfl))) trivial ?_
 refine qvM [5] [] trivial 5 61 [(24, B (decide (v21 > a0.fClock))), (1, pf a0 0)] [] ?_
 rcases fk (decide (v21 > a0.fClock)) with hc23 | hc23
 replace h := bT hc23 h
 rw [hc23]
 refine qvnM [5] [] trivial 5 61 [(1, pf a0 0), (29, B true)] [] ?_
 exact ⟨true, h, it [1, 29]⟩
 replace h := bF hc23 h
 rw [hc23]
 refine qvnM [5] [] trivial 5 61 [(1, pf a0 0), (29, B (!((a0.fTxns.length : Int) == 4)))] [] ?_
 exact ⟨(!((a0.fTxns.length : Int) == 4)), h, it [1, 29]⟩
 rintro x1 h
 unfold impl_HouseOk_j0 at h
 refine pc h (fun h => ?_) (fun h => ?_)
 refine srveM [5] 61 [(2, B false)] [] ?_
 cases h
 exact pwp_ret rz
 refine pwp_skip ?_
 refine pwp_make 30 (by exact rfl) (by exact rfl) (by exact rfl) (by exact rfl) (by kernel_rfl) fun mb Γ hD => ?_
 have hX0 := hX
 have hX := hD.nx hX0
 refine veM [5] 1 61 [(1, pf a0 0), (3, .lit (.map (some mb)))] [] ?_
 refine pwpM_seq ?_
 refine pwpM_seq ?_
 refine pwpM_pure fun Γ hD => ?_
 have hX := hD.nx hX0
 refine rveM [5] 61 [(1, pf a0 0), (3, .lit (.map (some mb))), (32, A a0.fTxns), (33, I (a0.fTxns.length : Int)), (34, I 0)] [] ?_
 refine pwpM_block ?_
 refine pwpM_loop (ι := Nat × (List Int) × Int) (fun (f5, x3, x4) => (⟨61, [(1, pf a0 0), (3, .lit (.map (some mb))), (32, A a0.fTxns), (33, I (a0.fTxns.length : Int)), (34, I x4)], []⟩ : St)) (fun (f5, x3, x4) => x3) (fun (f5, x3, x4) => impl_HouseOk_l1 a0 f5 x3 x4 = some y) (fun (f5, x3, x4) => f5) (FUEL, ([] : List Int), 0) h rfl (fun Γ hD => (have hX := hD.nx hX0; (Imp.to (st' := ⟨61, [(1, pf a0 0), (3, .lit (.map (some mb))), (32, A a0.fTxns), (33, I (a0.fTxns.length : Int)), (34, I 0)], []⟩) [1, 3, 32, 33, 34] (by kernel_rfl)).trans (Imp.to [1, 3, 32, 33, 34] (by kernel_rfl)))) ?_
 rintro ⟨f5, x3, x4⟩ h
 dsimp only at h ⊢
 rcases f5 with _ | f5
 cases h
 rw [impl_HouseOk_l1] at h
 refine pwpM_seq ?_
 refine pwpM_pure fun Γ hD => ?_
 have hX := hD.nx hX0
 refine rveM [5] 61 [(1, pf a0 0), (3, .lit (.map (some mb))), (32, A a0.fTxns), (33, I (a0.fTxns.length : Int)), (34, I x4), (35, B (decide (x4 < (a0.fTxns.length : Int))))] [] ?_
 refine pwpM_seq ?_
 refine pwpM_cond (decide (x4 < (a0.fTxns.length : Int))) (by kernel_rfl) (fun hc7 => ?_) (fun hc7 => ?_)
 replace h := bT hc7 h
 refine pwpM_skip ?_
 refine pwpM_seq ?_
 refine pwpM_block ?_
 refine pwpM_seq ?_
 refine pwpM_pure fun Γ hD => ?_
 have hX := hD.nx hX0
 refine pwp_region ?_
 obtain ⟨v8, hv9, h⟩ := bindS h
 refine opsP_idx τ_ok 36 hv9 (by kernel_rfl) ?_
 refine veM [5] 3 61 [(1, pf a0 0), (3, .lit (.map (some mb))), (5, .ptr 0 0 0), (32, A a0.fTxns), (33, I (a0.fTxns.length : Int)), (34, I x4)] [sc 0 v8] ?_
 refine pwpM_seq ?_
 refine pwpM_seq ?_
 refine pwpM_join (σ := Bool) (fun x10 => (⟨61, [(1, pf a0 0), (3, .lit (.map (some mb))), (5, .ptr 0 0 0), (32, A a0.fTxns), (33, I (a0.fTxns.length : Int)), (34, I x4), (53, B x10)], [sc 0 v8]⟩ : St)) (fun x10 => x3) (fun x10 => impl_HouseOk_j2 x3 x4 (impl_HouseOk_l1 a0 f5) v8 x10 = some y) ?_ ?_
 refine pwpM_pure fun Γ hD => ?_
 have hX := hD.nx hX0
 refine rvM [5] 3 61 [(1, pf a0 0), (3, .lit (.map (some mb))), (5, .ptr 0 0 0), (32, A a0.fTxns), (33, I (a0.fTxns.length : Int)), (34, I x4), (38, E v8), (40, I a0.fClock)] [sc 0 v8] ?_
 obtain ⟨v13, hv14, h⟩ := bindS h
 refine cF 41 (ok_impl_Txn_ok hv14) ?_
 refine vM [5] 2 61 [(1, pf a0 0), (3, .lit (.map (some mb))), (5, .ptr 0 0 0), (32, A a0.fTxns), (33, I (a0.fTxns.length : Int)), (34, I x4), (43, B (!v13))] [sc 0 v8] ?_
 rcases fk (!v13) with hc16 | hc16
 replace h := bT hc16 h
 rw [hc16]
 refine veM [5] 10 61 [(1, pf a0 0), (3, .lit (.map (some mb))), (5, .ptr 0 0 0), (32, A a0.fTxns), (33, I (a0.fTxns.length : Int)), (34, I x4), (44, .lit undef), (45, .lit undef), (46, .lit undef), (47, .lit undef), (48, .lit undef), (49, .lit undef), (50, .lit undef), (51, .lit undef), (52, .lit undef), (53, B true)] [sc 0 v8] ?_
 exact ⟨true, h, rfl, fun Γ hD => (have hX := hD.nx hX0; (Imp.to (st' := ⟨61, [(1, pf a0 0), (3, .lit (.map (some mb))), (5, .ptr 0 0 0), (32, A a0.fTxns), (33, I (a0.fTxns.length : Int)), (34, I x4), (53, B true)], [sc 0 v8]⟩) [1, 3, 5, 32, 33, 34, 53] (by kernel_rfl)).trans (Imp.to [1, 3, 5, 32, 33, 34, 53] (by kernel_rfl)))⟩
 replace h := bF hc16 h
 rw [hc16]
 refine vM [5] 4 61 [(1, pf a0 0), (3, .lit (.map (some mb))), (5, .ptr 0 0 0), (32, A a0.fTxns), (33, I (a0.fTxns.length : Int)), (34, I x4), (43, B false), (44, .ptr 0 0 0), (45, I v8.fState), (46, B (v8.fState == 2)), (47, B (v8.fState == 2))] [sc 0 v8] ?_
 rcases fk (v8.fState == 2) with hc15 | hc15
 replace h := bT hc15 h
 rw [hc15]
 refine vM [5] 3 61 [(1, pf a0 0), (3, .lit (.map (some mb))), (5, .ptr 0 0 0), (32, A a0.fTxns), (33, I (a0.fTxns.length : Int)), (34, I x4), (43, B false), (44, .ptr 0 0 0), (45, I v8.fState), (46, B true), (47, B true), (48, .lit (.map (some mb))), (49, .ptr 0 0 2), (50, I v8.fEnd)] [sc 0 v8] ?_
 refine opsP_look (x := v8.fEnd) 51 hD Try.underlying134 Try.underlying3 Try.zeroValue4 (by exact rfl) (by exact rfl) (by exact rfl) (by kernel_rfl) (by kernel_rfl) (by kernel_rfl) (by kernel_rfl) ?_
 refine veM [5] 2 61 [(1, pf a0 0), (3, .lit (.map (some mb))), (5, .ptr 0 0 0), (32, A a0.fTxns), (33, I (a0.fTxns.length : Int)), (34, I x4), (44, .ptr 0 0 0), (45, I v8.fState), (46, B true), (47, B true), (48, .lit (.map (some mb))), (49, .ptr 0 0 2), (50, I v8.fEnd), (51, B (x3.contains v8.fEnd)), (52, B (x3.contains v8.fEnd)), (53, B (x3.contains v8.fEnd))] [sc 0 v8] ?_
 exact ⟨(x3.contains v8.fEnd), h, rfl, fun Γ hD => (have hX := hD.nx hX0; (Imp.to (st' := ⟨61, [(1, pf a0 0), (3, .lit (.map (some mb))), (5, .ptr 0 0 0), (32, A a0.fTxns), (33, I (a0.fTxns.length : Int)), (34, I x4), (53, B (x3.contains v8.fEnd))], [sc 0 v8]⟩) [1, 3, 5, 32, 33, 34, 53] (by kernel_rfl)).trans (Imp.to [1, 3, 5, 32, 33, 34, 53] (by kernel_rfl)))⟩
 replace h := bF hc15 h
 rw [hc15]
 refine veM [5] 6 61 [(1, pf a0 0), (3, .lit (.map (some mb))), (5, .ptr 0 0 0), (32, A a0.fTxns), (33, I (a0.fTxns.length : Int)), (34, I x4), (44, .ptr 0 0 0), (45, I v8.fState), (46, B false), (47, B false), (48, .lit undef), (49, .lit undef), (50, .lit undef), (51, .lit undef), (52, B false), (53, B false)] [sc 0 v8] ?_
 exact ⟨false, h, rfl, fun Γ hD => (have hX := hD.nx hX0; (Imp.to (st' := ⟨61, [(1, pf a0 0), (3, .lit (.map (some mb))), (5, .ptr 0 0 0), (32, A a0.fTxns), (33, I (a0.fTxns.length : Int)), (34, I x4), (53, B false)], [sc 0 v8]⟩) [1, 3, 5, 32, 33, 34, 53] (by kernel_rfl)).trans (Imp.to [1, 3, 5, 32, 33, 34, 53] (by kernel_rfl)))⟩
 rintro x10 h
 unfold impl_HouseOk_j2 at h
 refine pwpM_cond x10 (by kernel_rfl) (fun hc11 => ?_) (fun hc11 => ?_)
 replace h := bT hc11 h
 refine pwpM_seq ?_
 refine pwpM_pure fun Γ hD => ?_
 have hX := hD.nx hX0
 refine rveM [5] 61 [(2, B false), (3, .lit (.map (some mb)))] [sc 0 v8] ?_
 refine pwpM_pure fun Γ hD => ?_
 have hX := hD.nx hX0
 cases h
 exact pwp_ret rz
 replace h := bF hc11 h
 refine pwpM_skip ?_
 refine pwpM_seq ?_
 refine pwpM_pure fun Γ hD => ?_
 have hX := hD.nx hX0
 refine rveM [5] 61 [(1, pf a0 0), (3, .lit (.map (some mb))), (5, .ptr 0 0 0), (32, A a0.fTxns), (33, I (a0.fTxns.length : Int)), (34, I x4), (56, B (v8.fState == 2))] [sc 0 v8] ?_
 refine pwpM_cond (v8.fState == 2) (by kernel_rfl) (fun hc12 => ?_) (fun hc12 => ?_)
 replace h := bT hc12 h
 refine pwpM_upd 3 (by exact rfl) (by exact rfl) (by kernel_rfl) (by exact rfl) (by exact rfl) (by exact rfl) Try.underlying134 Try.underlying3 fun Γ hD => ?_
 have hX := hD.nx hX0
 refine veM [5] 3 61 [(1, pf a0 0), (3, .lit (.map (some mb))), (32, A a0.fTxns), (33, I (a0.fTxns.length : Int)), (34, I x4), (57, .lit (.map (some mb))), (59, I v8.fEnd)] [sc 0 v8] ?_
 refine ⟨v8.fEnd, by kernel_rfl, by kernel_rfl, by kernel_rfl, ?_⟩
 refine pwpM_pure fun Γ hD => ?_
 have hX := hD.nx hX0
 refine rveM [5] 61 [(1, pf a0 0), (3, .lit (.map (some mb))), (32, A a0.fTxns), (33, I (a0.fTxns.length : Int)), (34, I (w64 (x4 + 1)))] [sc 0 v8] ?_
 exact ⟨(f5, (insI x3 v8.fEnd), (w64 (x4 + 1))), h, Nat.lt_succ_self _, rfl, fun Γ hD => (have hX := hD.nx hX0; (Imp.to (st' := ⟨61, [(1, pf a0 0), (3, .lit (.map (some mb))), (32, A a0.fTxns), (33, I (a0.fTxns.length : Int)), (34, I (w64 (x4 + 1)))], [sc 0 v8]⟩) [1, 3, 32, 33, 34] (by kernel_rfl)).trans ((Imp.truncS (st' := ⟨61, [(1, pf a0 0), (3, .lit (.map (some mb))), (32, A a0.fTxns), (33, I (a0.fTxns.length : Int)), (34, I (w64 (x4 + 1)))], []⟩) 0 (nx hX) (by kernel_rfl) (allBelow_mem (by exact (And.intro rfl (And.intro rfl (And.intro rfl (And.intro rfl (And.intro rfl trivial))))))) (by exact trivial) (by kernel_rfl)).trans (Imp.to [1, 3, 32, 33, 34] (by kernel_rfl))))⟩
 replace h := bF hc12 h
 refine pwpM_skip ?_
 refine pwpM_pure fun Γ hD => ?_
 have hX := hD.nx hX0
 refine rveM [5] 61 [(1, pf a0 0), (3, .lit (.map (some mb))), (32, A a0.fTxns), (33, I (a0.fTxns.length : Int)), (34, I (w64 (x4 + 1)))] [sc 0 v8] ?_
 exact ⟨(f5, x3, (w64 (x4 + 1))), h, Nat.lt_succ_self _, rfl, fun Γ hD => (have hX := hD.nx hX0; (Imp.to (st' := ⟨61, [(1, pf a0 0), (3, .lit (.map (some mb))), (32, A a0.fTxns), (33, I (a0.fTxns.length : Int)), (34, I (w64 (x4 + 1)))], [sc 0 v8]⟩) [1, 3, 32, 33, 34] (by kernel_rfl)).trans ((Imp.truncS (st' := ⟨61, [(1, pf a0 0), (3, .lit (.map (some mb))), (32, A a0.fTxns), (33, I (a0.fTxns.length : Int)), (34, I (w64 (x4 + 1)))], []⟩) 0 (nx hX) (by kernel_rfl) (allBelow_mem (by exact (And.intro rfl (And.intro rfl (And.intro rfl (And.intro rfl (And.intro rfl trivial))))))) (by exact trivial) (by kernel_rfl)).trans (Imp.to [1, 3, 32, 33, 34] (by kernel_rfl))))⟩
 replace h := bF hc7 h
 refine pwpM_exit ?_
 refine pwpM_seq ?_
 refine pwpM_pure fun Γ hD => ?_
 have hX := hD.nx hX0
 refine rveM [5] 61 [(2, B true), (3, .lit (.map (some mb)))] [] ?_
 refine pwpM_pure fun Γ hD => ?_
 have hX := hD.nx hX0
 cases h
 exact pwp_ret rz
def laws_eqTxnS_l0 (a0 : List T_impl_Txn) (a1 : List T_impl_Txn) : Nat → Int → Option Bool
 | 0, _ => none
 | f3 + 1, x2 => bif (decide (x2 < (a0.length : Int))) then (getI a0 x2).bind fun v6 => (getI a1 x2).bind fun v8 => (laws_eqTxn v6 v8).bind fun v10 => bif (!v10) then some false else (laws_eqTxnS_l0 a0 a1 f3) (w64 (x2 + 1)) else some true
def laws_eqTxnS (a0 : List T_impl_Txn) (a1 : List T_impl_Txn) : Option Bool := bif (!((a0.length : Int) == (a1.length : Int))) then some false else laws_eqTxnS_l0 a0 a1 FUEL 0
theorem ok_laws_eqTxnS {a0 : List T_impl_Txn} {a1 : List T_impl_Txn} {y : Bool} (h : laws_eqTxnS a0 a1 = some y) : OK Try.prog 58 [A a0, A a1] (B y) := by
 refine ow Try.func58 fun Γ hX => ?_
 unfold laws_eqTxnS at h
 refine srve 27 [(0, A a0), (1, A a1)] [] ?_
 refine pwp_seq ?_
 refine srve 27 [(0, A a0), (1, A a1), (10, B (!((a0.length : Int) == (a1.length : Int))))] [] ?_
 refine pc h (fun h => ?_) (fun h => ?_)
 refine srve 27 [(4, B false)] [] ?_
 cases h
 exact pwp_ret rz
 refine pwp_skip ?_
 refine pwp_seq ?_
 refine srve 27 [(0, A a0), (1, A a1), (5, I 0)] [] ?_
 refine pwp_block ?_
 refine pwp_loop (ι := Nat × Int) (fun (f3, x2) => (⟨27, [(0, A a0), (1, A a1), (5, I x2)], []⟩ : St)) (fun (f3, x2) => laws_eqTxnS_l0 a0 a1 f3 x2 = some y) Prod.fst (FUEL, 0) h (it [0, 1, 5]) ?_
 rintro ⟨f3, x2⟩ h
 dsimp only at h ⊢
 rcases f3 with _ | f3
 cases h
 rw [laws_eqTxnS_l0] at h
 refine pwp_seq ?_
 refine srve 27 [(0, A a0), (1, A a1), (5, I x2), (14, B (decide (x2 < (a0.length : Int))))] [] ?_
 refine pc h (fun h => ?_) (fun h => ?_)
 refine pwp_skip ?_
 refine pwp_seq ?_
 refine pwp_block ?_
 refine pwp_seq ?_
 refine ip 27 [(0, A a0), (1, A a1), (5, I x2)] [] ?_
 refine pN 10 ?_
 refine qv [] trivial 2 27 [(18, I x2), (17, A a0), (0, A a0), (1, A a1), (5, I x2)] [] ?_
 obtain ⟨v6, hv7, h⟩ := bindS h
 refine qX (some 19) (pf v6 0) 27 [(19, pf v6 0), (0, A a0), (1, A a1), (5, I x2)] [] (fun Γ' hΓ => CoreE.of_y (idxV_sound τ_ok (by kernel_rfl) hv7)) trivial ?_
 refine qv [] trivial 3 27 [(22, I x2), (21, A a1), (20, E v6), (0, A a0), (1, A a1), (5, I x2)] [] ?_
 obtain ⟨v8, hv9, h⟩ := bindS h
 refine qX (some 23) (pf v8 0) 27 [(23, pf v8 0), (20, E v6), (0, A a0), (1, A a1), (5, I x2)] [] (fun Γ' hΓ => CoreE.of_y (idxV_sound τ_ok (by kernel_rfl) hv9)) trivial ?_
 refine qv [] trivial 1 27 [(24, E v8), (20, E v6), (0, A a0), (1, A a1), (5, I x2)] [] ?_
 obtain ⟨v10, hv11, h⟩ := bindS h
 refine qX (some 25) (B v10) 27 [(25, B v10), (0, A a0), (1, A a1), (5, I x2)] [] (fun Γ' hΓ => CoreE.of_g (callV_sound (τ := τ) (by kernel_rfl) rfl (ok_laws_eqTxn hv11) (FzTo.frz rfl))) trivial ?_
 refine qvn [] trivial 1 27 [(0, A a0), (1, A a1), (5, I x2), (26, B (!v10))] [] ?_
 refine pc h (fun h => ?_) (fun h => ?_)
 refine srve 27 [(4, B false)] [] ?_
 cases h
 exact pwp_ret rz
 refine pwp_skip ?_
 refine rve 27 [(0, A a0), (1, A a1), (5, I (w64 (x2 + 1)))] [] ?_
 exact ⟨(f3, (w64 (x2 + 1))), h, Nat.lt_succ_self _, it [0, 1, 5]⟩
 refine pwp_exit ?_
 refine srve 27 [(4, B true)] [] ?_
 cases h
 exact pwp_ret rz
def spec_VersionsOk_j1 (x1 : Int) (K3 : Int → Option Bool) (x10 : Bool) : Option Bool := bif x10 then some false else K3 (w64 (x1 + 1))
def spec_VersionsOk_l0 (a0 : List T_impl_Version) : Nat → Int → Option Bool
 | 0, _ => none
 | f2 + 1, x1 => bif (decide (x1 < (a0.length : Int))) then (getI a0 x1).bind fun v5 => (spec_l13Version v5).bind fun v7 => bif (!v7) then some false else bif (decide (x1 > 0)) then (getI a0 (w64 (x1 - 1))).bind fun v12 => (getI a0 x1).bind fun v14 => bif (decide (v12.fKey ≥ v14.fKey)) then (getI a0 (w64 (x1 - 1))).bind fun v16 => (getI a0 x1).bind fun v18 => bif (decide (v16.fKey > v18.fKey)) then spec_VersionsOk_j1 x1 (spec_VersionsOk_l0 a0 f2) true else (getI a0 (w64 (x1 - 1))).bind fun v20 => bif (v20.fDied == 0) then spec_VersionsOk_j1 x1 (spec_VersionsOk_l0 a0 f2) true else (getI a0 (w64 (x1 - 1))).bind fun v22 => (getI a0 x1).bind fun v24 => spec_VersionsOk_j1 x1 (spec_VersionsOk_l0 a0 f2) (decide (v22.fDied > v24.fBorn)) else spec_VersionsOk_j1 x1 (spec_VersionsOk_l0 a0 f2) false else spec_VersionsOk_j1 x1 (spec_VersionsOk_l0 a0 f2) false else some (decide ((a0.length : Int) ≤ 60))
def spec_VersionsOk (a0 : List T_impl_Version) : Option Bool := spec_VersionsOk_l0 a0 FUEL 0
theorem ok_spec_VersionsOk {a0 : List T_impl_Version} {y : Bool} (h : spec_VersionsOk a0 = some y) : OK Try.prog 101 [A a0] (B y) := by
 refine ow Try.func101 fun Γ hX => ?_
 unfold spec_VersionsOk at h
 refine srve 72 [(0, A a0)] [] ?_
 refine pwp_seq ?_
 refine srve 72 [(0, A a0), (3, I 0)] [] ?_
 refine pwp_block ?_
 refine pwp_loop (ι := Nat × Int) (fun (f2, x1) => (⟨72, [(0, A a0), (3, I x1)], []⟩ : St)) (fun (f2, x1) => spec_VersionsOk_l0 a0 f2 x1 = some y) Prod.fst (FUEL, 0) h (it [0, 3]) ?_
 rintro ⟨f2, x1⟩ h
 dsimp only at h ⊢
 rcases f2 with _ | f2
 cases h
 rw [spec_VersionsOk_l0] at h
 refine pwp_seq ?_
 refine srve 72 [(0, A a0), (3, I x1), (7, B (decide (x1 < (a0.length : Int))))] [] ?_
 refine pc h (fun h => ?_) (fun h => ?_)
 refine pwp_skip ?_
 refine pwp_seq ?_
 refine pwp_block ?_
 refine pwp_seq ?_
 refine srv 2 72 [(0, A a0), (3, I x1), (10, A a0), (11, I x1)] [] ?_
 obtain ⟨v5, hv6, h⟩ := bindS h
 refine opsP_idx τ_ok 12 hv6 (by kernel_rfl) ?_
 refine v 1 72 [(0, A a0), (3, I x1), (13, E v5)] [] ?_
 obtain ⟨v7, hv8, h⟩ := bindS h
 refine cF 14 (ok_spec_l13Version hv8) ?_
 refine ve 1 72 [(0, A a0), (3, I x1), (15, B (!v7))] [] ?_
 refine pc h (fun h => ?_) (fun h => ?_)
 refine srve 72 [(2, B false)] [] ?_
 cases h
 exact pwp_ret rz
 refine pwp_skip ?_
 refine pwp_seq ?_
 refine pwp_join (σ := Bool) (fun x10 => (⟨72, [(0, A a0), (3, I x1), (68, B x10)], []⟩ : St)) (fun x10 => spec_VersionsOk_j1 x1 (spec_VersionsOk_l0 a0 f2) x10 = some y) ?_ ?_
 refine ip 72 [(0, A a0), (3, I x1)] [] ?_
 refine pN 53 ?_
 refine qv [] trivial 3 72 [(18, B (decide (x1 > 0))), (0, A a0), (3, I x1)] [] ?_
 rcases fk (decide (x1 > 0)) with hc29 | hc29
 replace h := bT hc29 h
 rw [hc29]
 refine qv [] trivial 3 72 [(21, I (w64 (x1 - 1))), (20, I x1), (19, A a0), (18, B true), (0, A a0), (3, I x1)] [] ?_
 obtain ⟨v12, hv13, h⟩ := bindS h
 refine qX (some 22) (pf v12 0) 72 [(22, pf v12 0), (21, I (w64 (x1 - 1))), (20, I x1), (19, A a0), (18, B true), (0, A a0), (3, I x1)] [] (fun Γ' hΓ => CoreE.of_y (idxV_sound τ_ok (by kernel_rfl) hv13)) trivial ?_
 refine qv [] trivial 4 72 [(26, I x1), (25, A a0), (24, I v12.fKey), (23, pf v12 0), (22, pf v12 0), (21, I (w64 (x1 - 1))), (20, I x1), (19, A a0), (18, B true), (0, A a0), (3, I x1)] [] ?_
 obtain ⟨v14, hv15, h⟩ := bindS h
 refine qX (some 27) (pf v14 0) 72 [(27, pf v14 0), (26, I x1), (25, A a0), (24, I v12.fKey), (23, pf v12 0), (22, pf v12 0), (21, I (w64 (x1 - 1))), (20, I x1), (19, A a0), (18, B true), (0, A a0), (3, I x1)] [] (fun Γ' hΓ => CoreE.of_y (idxV_sound τ_ok (by kernel_rfl) hv15)) trivial ?_
 refine qv [] trivial 5 72 [(32, B (decide (v12.fKey ≥ v14.fKey))), (30, B (decide (v12.fKey ≥ v14.fKey))), (29, I v14.fKey), (28, pf v14 0), (27, pf v14 0), (26, I x1), (25, A a0), (24, I v12.fKey), (23, pf v12 0), (22, pf v12 0), (21, I (w64 (x1 - 1))), (20, I x1), (19, A a0), (0, A a0), (3, I x1)] [] ?_
 rcases fk (decide (v12.fKey ≥ v14.fKey)) with hc28 | hc28
 replace h := bT hc28 h
 rw [hc28]
 refine qv [] trivial 3 72 [(35, I (w64 (x1 - 1))), (34, I x1), (33, A a0), (32, B true), (30, B true), (29, I v14.fKey), (28, pf v14 0), (27, pf v14 0), (26, I x1), (25, A a0), (24, I v12.fKey), (23, pf v12 0), (22, pf v12 0), (21, I (w64 (x1 - 1))), (20, I x1), (19, A a0), (0, A a0), (3, I x1)] [] ?_
 obtain ⟨v16, hv17, h⟩ := bindS h
 refine qX (some 36) (pf v16 0) 72 [(36, pf v16 0), (35, I (w64 (x1 - 1))), (34, I x1), (33, A a0), (32, B true), (30, B true), (29, I v14.fKey), (28, pf v14 0), (27, pf v14 0), (26, I x1), (25, A a0), (24, I v12.fKey), (23, pf v12 0), (22, pf v12 0), (21, I (w64 (x1 - 1))), (20, I x1), (19, A a0), (0, A a0), (3, I x1)] [] (fun Γ' hΓ => CoreE.of_y (idxV_sound τ_ok (by kernel_rfl) hv17)) trivial ?_
 refine qv [] trivial 4 72 [(40, I x1), (39, A a0), (38, I v16.fKey), (37, pf v16 0), (36, pf v16 0), (35, I (w64 (x1 - 1))), (34, I x1), (33, A a0), (32, B true), (30, B true), (29, I v14.fKey), (28, pf v14 0), (27, pf v14 0), (26, I x1), (25, A a0), (24, I v12.fKey), (23, pf v12 0), (22, pf v12 0), (21, I (w64 (x1 - 1))), (20, I x1), (19, A a0), (0, A a0), (3, I x1)] [] ?_
 obtain ⟨v18, hv19, h⟩ := bindS h
 refine qX (some 41) (pf v18 0) 72 [(41, pf v18 0), (40, I x1), (39, A a0), (38, I v16.fKey), (37, pf v16 0), (36, pf v16 0), (35, I (w64 (x1 - 1))), (34, I x1), (33, A a0), (32, B true), (30, B true), (29, I v14.fKey), (28, pf v14 0), (27, pf v14 0), (26, I x1), (25, A a0), (24, I v12.fKey), (23, pf v12 0), (22, pf v12 0), (21, I (w64 (x1 - 1))), (20, I x1), (19, A a0), (0, A a0), (3, I x1)] [] (fun Γ' hΓ => CoreE.of_y (idxV_sound τ_ok (by kernel_rfl) hv19)) trivial ?_
 refine qv [] trivial 4 72 [(45, B (decide (v16.fKey > v18.fKey))), (44, B (decide (v16.fKey > v18.fKey))), (43, I v18.fKey), (42, pf v18 0), (41, pf v18 0), (40, I x1), (39, A a0), (38, I v16.fKey), (37, pf v16 0), (36, pf v16 0), (35, I (w64 (x1 - 1))), (34, I x1), (33, A a0), (32, B true), (30, B true), (29, I v14.fKey), (28, pf v14 0), (27, pf v14 0), (26, I x1), (25, A a0), (24, I v12.fKey), (23, pf v12 0), (22, pf v12 0), (21, I (w64 (x1 - 1))), (20, I x1), (19, A a0), (0, A a0), (3, I x1)] [] ?_
 rcases fk (decide (v16.fKey > v18.fKey)) with hc27 | hc27
 replace h := bT hc27 h
 rw [hc27]
 refine qvn [] trivial 23 72 [(0, A a0), (3, I x1), (19, A a0), (20, I x1), (21, I (w64 (x1 - 1))), (22, pf v12 0), (23, pf v12 0), (24, I v12.fKey), (25, A a0), (26, I x1), (27, pf v14 0), (28, pf v14 0), (29, I v14.fKey), (30, B true), (33, A a0), (34, I x1), (35, I (w64 (x1 - 1))), (36, pf v16 0), (37, pf v16 0), (38, I v16.fKey), (39, A a0), (40, I x1), (41, pf v18 0), (42, pf v18 0), (43, I v18.fKey), (44, B true), (45, B true), (46, .lit undef), (47, .lit undef), (48, .lit undef), (49, .lit undef), (50, .lit undef), (51, .lit undef), (52, .lit undef), (53, B true), (54, B true), (55, .lit undef), (56, .lit undef), (57, .lit undef), (58, .lit undef), (59, .lit undef), (60, .lit undef), (61, .lit undef), (62, .lit undef), (63, .lit undef), (64, .lit undef), (65, .lit undef), (66, .lit undef), (67, B true), (68, B true)] [] ?_
 exact ⟨true, h, it [0, 3, 68]⟩
 replace h := bF hc27 h
 rw [hc27]
 refine qv [] trivial 3 72 [(48, I (w64 (x1 - 1))), (47, I x1), (46, A a0), (45, B false), (44, B false), (43, I v18.fKey), (42, pf v18 0), (41, pf v18 0), (40, I x1), (39, A a0), (38, I v16.fKey), (37, pf v16 0), (36, pf v16 0), (35, I (w64 (x1 - 1))), (34, I x1), (33, A a0), (32, B true), (30, B true), (29, I v14.fKey), (28, pf v14 0), (27, pf v14 0), (26, I x1), (25, A a0), (24, I v12.fKey), (23, pf v12 0), (22, pf v12 0), (21, I (w64 (x1 - 1))), (20, I x1), (19, A a0), (0, A a0), (3, I x1)] [] ?_
 obtain ⟨v20, hv21, h⟩ := bindS h
 refine qX (some 49) (pf v20 0) 72 [(49, pf v20 0), (48, I (w64 (x1 - 1))), (47, I x1), (46, A a0), (45, B false), (44, B false), (43, I v18.fKey), (42, pf v18 0), (41, pf v18 0), (40, I x1), (39, A a0), (38, I v16.fKey), (37, pf v16 0), (36, pf v16 0), (35, I (w64 (x1 - 1))), (34, I x1), (33, A a0), (32, B true), (30, B true), (29, I v14.fKey), (28, pf v14 0), (27, pf v14 0), (26, I x1), (25, A a0), (24, I v12.fKey), (23, pf v12 0), (22, pf v12 0), (21, I (w64 (x1 - 1))), (20, I x1), (19, A a0), (0, A a0), (3, I x1)] [] (fun Γ' hΓ => CoreE.of_y (idxV_sound τ_ok (by kernel_rfl) hv21)) trivial ?_
 refine qv [] trivial 5 72 [(54, B (v20.fDied == 0)), (53, B (v20.fDied == 0)), (52, B (v20.fDied == 0)), (51, I v20.fDied), (50, pf v20 2), (49, pf v20 0), (48, I (w64 (x1 - 1))), (47, I x1), (46, A a0), (45, B false), (44, B false), (43, I v18.fKey), (42, pf v18 0), (41, pf v18 0), (40, I x1), (39, A a0), (38, I v16.fKey), (37, pf v16 0), (36, pf v16 0), (35, I (w64 (x1 - 1))), (34, I x1), (33, A a0), (32, B true), (30, B true), (29, I v14.fKey), (28, pf v14 0), (27, pf v14 0), (26, I x1), (25, A a0), (24, I v12.fKey), (23, pf v12 0), (22, pf v12 0), (21, I (w64 (x1 - 1))), (20, I x1), (19, A a0), (0, A a0), (3, I x1)] [] ?_
 rcases fk (v20.fDied == 0) with hc26 | hc26
 replace h := bT hc26 h
 rw [hc26]
 refine qvn [] trivial 14 72 [(0, A a0), (3, I x1), (19, A a0), (20, I x1), (21, I (w64 (x1 - 1))), (22, pf v12 0), (23, pf v12 0), (24, I v12.fKey), (25, A a0), (26, I x1), (27, pf v14 0), (28, pf v14 0), (29, I v14.fKey), (30, B true), (33, A a0), (34, I x1), (35, I (w64 (x1 - 1))), (36, pf v16 0), (37, pf v16 0), (38, I v16.fKey), (39, A a0), (40, I x1), (41, pf v18 0), (42, pf v18 0), (43, I v18.fKey), (44, B false), (45, B false), (46, A a0), (47, I x1), (48, I (w64 (x1 - 1))), (49, pf v20 0), (50, pf v20 2), (51, I v20.fDied), (52, B true), (53, B true), (54, B true), (55, .lit undef), (56, .lit undef), (57, .lit undef), (58, .lit undef), (59, .lit undef), (60, .lit undef), (61, .lit undef), (62, .lit undef), (63, .lit undef), (64, .lit undef), (65, .lit undef), (66, .lit undef), (67, B true), (68, B true)] [] ?_
 exact ⟨true, h, it [0, 3, 68]⟩
 replace h := bF hc26 h
 rw [hc26]
 refine qv [] trivial 3 72 [(57, I (w64 (x1 - 1))), (56, I x1), (55, A a0), (54, B false), (53, B false), (52, B false), (51, I v20.fDied), (50, pf v20 2), (49, pf v20 0), (48, I (w64 (x1 - 1))), (47, I x1), (46, A a0), (45, B false), (44, B false), (43, I v18.fKey), (42, pf v18 0), (41, pf v18 0), (40, I x1), (39, A a0), (38, I v16.fKey), (37, pf v16 0), (36, pf v16 0), (35, I (w64 (x1 - 1))), (34, I x1), (33, A a0), (32, B true), (30, B true), (29, I v14.fKey), (28, pf v14 0), (27, pf v14 0), (26, I x1), (25, A a0), (24, I v12.fKey), (23, pf v12 0), (22, pf v12 0), (21, I (w64 (x1 - 1))), (20, I x1), (19, A a0), (0, A a0), (3, I x1)] [] ?_
 obtain ⟨v22, hv23, h⟩ := bindS h
 refine qX (some 58) (pf v22 0) 72 [(58, pf v22 0), (57, I (w64 (x1 - 1))), (56, I x1), (55, A a0), (54, B false), (53, B false), (52, B false), (51, I v20.fDied), (50, pf v20 2), (49, pf v20 0), (48, I (w64 (x1 - 1))), (47, I x1), (46, A a0), (45, B false), (44, B false), (43, I v18.fKey), (42, pf v18 0), (41, pf v18 0), (40, I x1), (39, A a0), (38, I v16.fKey), (37, pf v16 0), (36, pf v16 0), (35, I (w64 (x1 - 1))), (34, I x1), (33, A a0), (32, B true), (30, B true), (29, I v14.fKey), (28, pf v14 0), (27, pf v14 0), (26, I x1), (25, A a0), (24, I v12.fKey), (23, pf v12 0), (22, pf v12 0), (21, I (w64 (x1 - 1))), (20, I x1), (19, A a0), (0, A a0), (3, I x1)] [] (fun Γ' hΓ => CoreE.of_y (idxV_sound τ_ok (by kernel_rfl) hv23)) trivial ?_
 refine qv [] trivial 4 72 [(62, I x1), (61, A a0), (60, I v22.fDied), (59, pf v22 2), (58, pf v22 0), (57, I (w64 (x1 - 1))), (56, I x1), (55, A a0), (54, B false), (53, B false), (52, B false), (51, I v20.fDied), (50, pf v20 2), (49, pf v20 0), (48, I (w64 (x1 - 1))), (47, I x1), (46, A a0), (45, B false), (44, B false), (43, I v18.fKey), (42, pf v18 0), (41, pf v18 0), (40, I x1), (39, A a0), (38, I v16.fKey), (37, pf v16 0), (36, pf v16 0), (35, I (w64 (x1 - 1))), (34, I x1), (33, A a0), (32, B true), (30, B true), (29, I v14.fKey), (28, pf v14 0), (27, pf v14 0), (26, I x1), (25, A a0), (24, I v12.fKey), (23, pf v12 0), (22, pf v12 0), (21, I (w64 (x1 - 1))), (20, I x1), (19, A a0), (0, A a0), (3, I x1)] [] ?_
 obtain ⟨v24, hv25, h⟩ := bindS h
 refine qX (some 63) (pf v24 0) 72 [(63, pf v24 0), (62, I x1), (61, A a0), (60, I v22.fDied), (59, pf v22 2), (58, pf v22 0), (57, I (w64 (x1 - 1))), (56, I x1), (55, A a0), (54, B false), (53, B false), (52, B false), (51, I v20.fDied), (50, pf v20 2), (49, pf v20 0), (48, I (w64 (x1 - 1))), (47, I x1), (46, A a0), (45, B false), (44, B false), (43, I v18.fKey), (42, pf v18 0), (41, pf v18 0), (40, I x1), (39, A a0), (38, I v16.fKey), (37, pf v16 0), (36, pf v16 0), (35, I (w64 (x1 - 1))), (34, I x1), (33, A a0), (32, B true), (30, B true), (29, I v14.fKey), (28, pf v14 0), (27, pf v14 0), (26, I x1), (25, A a0), (24, I v12.fKey), (23, pf v12 0), (22, pf v12 0), (21, I (w64 (x1 - 1))), (20, I x1), (19, A a0), (0, A a0), (3, I x1)] [] (fun Γ' hΓ => CoreE.of_y (idxV_sound τ_ok (by kernel_rfl) hv25)) trivial ?_
 refine qvn [] trivial 5 72 [(0, A a0), (3, I x1), (19, A a0), (20, I x1), (21, I (w64 (x1 - 1))), (22, pf v12 0), (23, pf v12 0), (24, I v12.fKey), (25, A a0), (26, I x1), (27, pf v14 0), (28, pf v14 0), (29, I v14.fKey), (30, B true), (33, A a0), (34, I x1), (35, I (w64 (x1 - 1))), (36, pf v16 0), (37, pf v16 0), (38, I v16.fKey), (39, A a0), (40, I x1), (41, pf v18 0), (42, pf v18 0), (43, I v18.fKey), (44, B false), (45, B false), (46, A a0), (47, I x1), (48, I (w64 (x1 - 1))), (49, pf v20 0), (50, pf v20 2), (51, I v20.fDied), (52, B false), (53, B false), (54, B false), (55, A a0), (56, I x1), (57, I (w64 (x1 - 1))), (58, pf v22 0), (59, pf v22 2), (60, I v22.fDied), (61, A a0), (62, I x1), (63, pf v24 0), (64, pf v24 1), (65, I v24.fBorn), (66, B (decide (v22.fDied > v24.fBorn))), (67, B (decide (v22.fDied > v24.fBorn))), (68, B (decide (v22.fDied > v24.fBorn)))] [] ?_
 exact ⟨(decide (v22.fDied > v24.fBorn)), h, it [0, 3, 68]⟩
 replace h := bF hc28 h
 rw [hc28]
 refine qvn [] trivial 36 72 [(0, A a0), (3, I x1), (19, A a0), (20, I x1), (21, I (w64 (x1 - 1))), (22, pf v12 0), (23, pf v12 0), (24, I v12.fKey), (25, A a0), (26, I x1), (27, pf v14 0), (28, pf v14 0), (29, I v14.fKey), (30, B false), (33, .lit undef), (34, .lit undef), (35, .lit undef), (36, .lit undef), (37, .lit undef), (38, .lit undef), (39, .lit undef), (40, .lit undef), (41, .lit undef), (42, .lit undef), (43, .lit undef), (44, .lit undef), (45, .lit undef), (46, .lit undef), (47, .lit undef), (48, .lit undef), (49, .lit undef), (50, .lit undef), (51, .lit undef), (52, .lit undef), (53, .lit undef), (54, .lit undef), (55, .lit undef), (56, .lit undef), (57, .lit undef), (58, .lit undef), (59, .lit undef), (60, .lit undef), (61, .lit undef), (62, .lit undef), (63, .lit undef), (64, .lit undef), (65, .lit undef), (66, .lit undef), (67, .lit undef), (68, B false)] [] ?_
 exact ⟨false, h, it [0, 3, 68]⟩
 replace h := bF hc29 h
 rw [hc29]
 refine qvn [] trivial 50 72 [(0, A a0), (3, I x1), (19, .lit undef), (20, .lit undef), (21, .lit undef), (22, .lit undef), (23, .lit undef), (24, .lit undef), (25, .lit undef), (26, .lit undef), (27, .lit undef), (28, .lit undef), (29, .lit undef), (30, .lit undef), (33, .lit undef), (34, .lit undef), (35, .lit undef), (36, .lit undef), (37, .lit undef), (38, .lit undef), (39, .lit undef), (40, .lit undef), (41, .lit undef), (42, .lit undef), (43, .lit undef), (44, .lit undef), (45, .lit undef), (46, .lit undef), (47, .lit undef), (48, .lit undef), (49, .lit undef), (50, .lit undef), (51, .lit undef), (52, .lit undef), (53, .lit undef), (54, .lit undef), (55, .lit undef), (56, .lit undef), (57, .lit undef), (58, .lit undef), (59, .lit undef), (60, .lit undef), (61, .lit undef), (62, .lit undef), (63, .lit undef), (64, .lit undef), (65, .lit undef), (66, .lit undef), (67, .lit undef), (68, B false)] [] ?_
 exact ⟨false, h, it [0, 3, 68]⟩
 rintro x10 h
 unfold spec_VersionsOk_j1 at h
 refine pc h (fun h => ?_) (fun h => ?_)
 refine srve 72 [(2, B false)] [] ?_
 cases h
 exact pwp_ret rz
 refine pwp_skip ?_
 refine rve 72 [(0, A a0), (3, I (w64 (x1 + 1)))] [] ?_
 exact ⟨(f2, (w64 (x1 + 1))), h, Nat.lt_succ_self _, it [0, 3]⟩
 refine pwp_exit ?_
 refine srve 72 [(2, B (decide ((a0.length : Int) ≤ 60)))] [] ?_
 cases h
 exact pwp_ret rz
def spec_LastTurn_j2 (x2 : Int) (K4 : Int → Int → Option Int) (x7 : Int) : Option Int := K4 x7 (w64 (x2 + 1))
def spec_LastTurn_j1 (a0 : List T_impl_Version) (a1 : Int) (x1 : Int) (x2 : Int) (K4 : Int → Int → Option Int) (x5 : Bool) : Option Int := bif x5 then (getI a0 x2).bind fun v8 => bif (v8.fKey == a1) then (getI a0 x2).bind fun v11 => (getI a0 x2).bind fun v13 => spec_LastTurn_j2 x2 K4 (maxL x1 [v11.fBorn, v13.fDied]) else spec_LastTurn_j2 x2 K4 x1 else some x1
def spec_LastTurn_l0 (a0 : List T_impl_Version) (a1 : Int) : Nat → Int → Int → Option Int
 | 0, _, _ => none
 | f3 + 1, x1, x2 => bif (decide (x2 < (a0.length : Int))) then (spec_VersionsOk a0).bind fun v15 => spec_LastTurn_j1 a0 a1 x1 x2 (spec_LastTurn_l0 a0 a1 f3) v15 else spec_LastTurn_j1 a0 a1 x1 x2 (spec_LastTurn_l0 a0 a1 f3) false
def spec_LastTurn (a0 : List T_impl_Version) (a1 : Int) : Option Int := spec_LastTurn_l0 a0 a1 FUEL 0 0
theorem ok_spec_LastTurn {a0 : List T_impl_Version} {a1 : Int} {y : Int} (h : spec_LastTurn a0 a1 = some y) : OK Try.prog 103 [A a0, I a1] (I y) := by
 refine ow Try.func103 fun Γ hX => ?_
 unfold spec_LastTurn at h
 refine srve 37 [(0, A a0), (1, I a1)] [] ?_
 refine srve 37 [(0, A a0), (1, I a1), (5, I 0)] [] ?_
 refine pwp_seq ?_
 refine srve 37 [(0, A a0), (1, I a1), (5, I 0), (6, I 0)] [] ?_
 refine pwp_block ?_
 refine pwp_loop (ι := Nat × Int × Int) (fun (f3, x1, x2) => (⟨37, [(0, A a0), (1, I a1), (5, I x1), (6, I x2)], []⟩ : St)) (fun (f3, x1, x2) => spec_LastTurn_l0 a0 a1 f3 x1 x2 = some y) Prod.fst (FUEL, 0, 0) h (it [0, 1, 5, 6]) ?_
 rintro ⟨f3, x1, x2⟩ h
 dsimp only at h ⊢
 rcases f3 with _ | f3
 cases h
 rw [spec_LastTurn_l0] at h
 refine pwp_seq ?_
 refine pwp_seq ?_
 refine pwp_join (σ := Bool) (fun x5 => (⟨37, [(0, A a0), (1, I a1), (5, I x1), (6, I x2), (14, B x5)], []⟩ : St)) (fun x5 => spec_LastTurn_j1 a0 a1 x1 x2 (spec_LastTurn_l0 a0 a1 f3) x5 = some y) ?_ ?_
 refine rv 5 37 [(0, A a0), (1, I a1), (5, I x1), (6, I x2), (11, B (decide (x2 < (a0.length : Int))))] [] ?_
 rcases fk (decide (x2 < (a0.length : Int))) with hc17 | hc17
 replace h := bT hc17 h
 rw [hc17]
 refine v 1 37 [(0, A a0), (1, I a1), (5, I x1), (6, I x2), (11, B true), (12, A a0)] [] ?_
 obtain ⟨v15, hv16, h⟩ := bindS h
 refine cF 13 (ok_spec_VersionsOk hv16) ?_
 refine ve 1 37 [(0, A a0), (1, I a1), (5, I x1), (6, I x2), (12, A a0), (13, B v15), (14, B v15)] [] ?_
 exact ⟨v15, h, it [0, 1, 5, 6, 14]⟩
 replace h := bF hc17 h
 rw [hc17]
 refine ve 3 37 [(0, A a0), (1, I a1), (5, I x1), (6, I x2), (12, .lit undef), (13, .lit undef), (14, B false)] [] ?_
 exact ⟨false, h, it [0, 1, 5, 6, 14]⟩
 rintro x5 h
 unfold spec_LastTurn_j1 at h
 refine pc h (fun h => ?_) (fun h => ?_)
 refine pwp_skip ?_
 refine pwp_seq ?_
 refine pwp_join (σ := Int) (fun x7 => (⟨37, [(0, A a0), (1, I a1), (5, I x7), (6, I x2)], []⟩ : St)) (fun x7 => spec_LastTurn_j2 x2 (spec_LastTurn_l0 a0 a1 f3) x7 = some y) ?_ ?_
 refine pwp_block ?_
 refine srv 2 37 [(0, A a0), (1, I a1), (5, I x1), (6, I x2), (17, A a0), (18, I x2)] [] ?_
 obtain ⟨v8, hv9, h⟩ := bindS h
 refine opsP_idx τ_ok 19 hv9 (by kernel_rfl) ?_
 refine ve 4 37 [(0, A a0), (1, I a1), (5, I x1), (6, I x2), (23, B (v8.fKey == a1))] [] ?_
 refine pc h (fun h => ?_) (fun h => ?_)
 refine ip 37 [(0, A a0), (1, I a1), (5, I x1), (6, I x2)] [] ?_
 refine pN 13 ?_
 refine qv [] trivial 3 37 [(26, I x2), (25, A a0), (24, I x1), (0, A a0), (1, I a1), (5, I x1), (6, I x2)] [] ?_
 obtain ⟨v11, hv12, h⟩ := bindS h
 refine qX (some 27) (pf v11 0) 37 [(27, pf v11 0), (24, I x1), (0, A a0), (1, I a1), (5, I x1), (6, I x2)] [] (fun Γ' hΓ => CoreE.of_y (idxV_sound τ_ok (by kernel_rfl) hv12)) trivial ?_
 refine qv [] trivial 4 37 [(31, I x2), (30, A a0), (29, I v11.fBorn), (24, I x1), (0, A a0), (1, I a1), (5, I x1), (6, I x2)] [] ?_
 obtain ⟨v13, hv14, h⟩ := bindS h
 refine qX (some 32) (pf v13 0) 37 [(32, pf v13 0), (29, I v11.fBorn), (24, I x1), (0, A a0), (1, I a1), (5, I x1), (6, I x2)] [] (fun Γ' hΓ => CoreE.of_y (idxV_sound τ_ok (by kernel_rfl) hv14)) trivial ?_
 refine qv [] trivial 2 37 [(34, I v13.fDied), (29, I v11.fBorn), (24, I x1), (0, A a0), (1, I a1), (5, I x1), (6, I x2)] [] ?_
 refine qX (some 35) (I (maxL x1 [v11.fBorn, v13.fDied])) 37 [(35, I (maxL x1 [v11.fBorn, v13.fDied])), (0, A a0), (1, I a1), (5, I x1), (6, I x2)] [] (fun Γ' hΓ => CoreE.of_y (mxmV_sound (τ := τ) (m := true) (a := x1) (l := [v11.fBorn, v13.fDied]) (by kernel_rfl))) trivial ?_
 refine qvn [] trivial 1 37 [(0, A a0), (1, I a1), (5, I (maxL x1 [v11.fBorn, v13.fDied])), (6, I x2)] [] ?_
 exact ⟨(maxL x1 [v11.fBorn, v13.fDied]), h, it [0, 1, 5, 6]⟩
 refine pwp_skip ?_
 exact ⟨x1, h, it [0, 1, 5, 6]⟩
 rintro x7 h
 unfold spec_LastTurn_j2 at h
 refine rve 37 [(0, A a0), (1, I a1), (5, I x7), (6, I (w64 (x2 + 1)))] [] ?_
 exact ⟨(f3, x7, (w64 (x2 + 1))), h, Nat.lt_succ_self _, it [0, 1, 5, 6]⟩
 refine pwp_exit ?_
 refine srve 37 [(4, I x1)] [] ?_
 cases h
 exact pwp_ret rz
def spec_l14Txn_j1 (a0 : T_impl_Txn) (a1 : Int) (x4 : Bool) : Option Bool := bif x4 then (spec_l1In a0.fBegin 0 a1).bind fun v6 => bif v6 then bif (a0.fEnd == 0) then (spec_l14Reads a0.fReads).bind fun v8 => bif v8 then (spec_WritesOk a0.fWrites).bind fun v10 => some v10 else some false else some false else some false else bif (a0.fState == 2) then (spec_l1In a0.fBegin 0 a1).bind fun v16 => bif v16 then (spec_l1In a0.fEnd (w64 (a0.fBegin + 1)) a1).bind fun v18 => bif v18 then (spec_l14Reads a0.fReads).bind fun v20 => bif v20 then (spec_WritesOk a0.fWrites).bind fun v22 => some v22 else some false else some false else some false else some false
def spec_l14Txn_j0 (a0 : T_impl_Txn) (a1 : Int) (x1 : Bool) : Option Bool := bif (a0.fState == 0) then bif x1 then some (a0.fEnd == 0) else some false else bif (a0.fState == 1) then spec_l14Txn_j1 a0 a1 (a0.fState == 1) else spec_l14Txn_j1 a0 a1 (a0.fState == 3)
def spec_l14Txn (a0 : T_impl_Txn) (a1 : Int) : Option Bool := bif ((a0.fReads.length : Int) == 0) then bif ((a0.fWrites.length : Int) == 0) then spec_l14Txn_j0 a0 a1 (a0.fBegin == 0) else spec_l14Txn_j0 a0 a1 false else spec_l14Txn_j0 a0 a1 false
theorem ok_spec_l14Txn {a0 : T_impl_Txn} {a1 : Int} {y : Bool} (h : spec_l14Txn a0 a1 = some y) : OK Try.prog 104 [E a0, I a1] (B y) := by
 refine ow Try.func104 fun Γ hX => ?_
 unfold spec_l14Txn at h
 refine srve 78 [(1, I a1), (2, pf a0 0)] [] ?_
 refine pwp_seq ?_
 refine pwp_join (σ := Bool) (fun x1 => (⟨78, [(1, I a1), (2, pf a0 0), (5, B x1)], []⟩ : St)) (fun x1 => spec_l14Txn_j0 a0 a1 x1 = some y) ?_ ?_
 refine rv 5 78 [(1, I a1), (2, pf a0 0), (10, B ((a0.fReads.length : Int) == 0))] [] ?_
 rcases fk ((a0.fReads.length : Int) == 0) with hc29 | hc29
 replace h := bT hc29 h
 rw [hc29]
 refine v 6 78 [(1, I a1), (2, pf a0 0), (16, B ((a0.fWrites.length : Int) == 0))] [] ?_
 rcases fk ((a0.fWrites.length : Int) == 0) with hc28 | hc28
 replace h := bT hc28 h
 rw [hc28]
 refine ve 5 78 [(1, I a1), (2, pf a0 0), (5, B (a0.fBegin == 0))] [] ?_
 exact ⟨(a0.fBegin == 0), h, it [1, 2, 5]⟩
 replace h := bF hc28 h
 rw [hc28]
 refine ve 5 78 [(1, I a1), (2, pf a0 0), (5, B false)] [] ?_
 exact ⟨false, h, it [1, 2, 5]⟩
 replace h := bF hc29 h
 rw [hc29]
 refine ve 11 78 [(1, I a1), (2, pf a0 0), (5, B false)] [] ?_
 exact ⟨false, h, it [1, 2, 5]⟩
 rintro x1 h
 unfold spec_l14Txn_j0 at h
 refine pwp_seq ?_
 refine srve 78 [(1, I a1), (2, pf a0 0), (5, B x1), (22, I a0.fState)] [] ?_
 refine pwp_block ?_
 refine srve 78 [(1, I a1), (2, pf a0 0), (5, B x1), (22, I a0.fState), (23, B (a0.fState == 0))] [] ?_
 refine pc h (fun h => ?_) (fun h => ?_)
 refine srv 2 78 [(2, pf a0 0), (26, B x1)] [] ?_
 rcases Bool.eq_false_or_eq_true x1 with hc3 | hc3
 replace h := bT hc3 h
 rw [hc3]
 refine ve 5 78 [(4, B (a0.fEnd == 0))] [] ?_
 cases h
 exact pwp_ret rz
 replace h := bF hc3 h
 rw [hc3]
 refine ve 5 78 [(4, B false)] [] ?_
 cases h
 exact pwp_ret rz
 refine pwp_seq ?_
 refine pwp_join (σ := Bool) (fun x4 => (⟨78, [(1, I a1), (2, pf a0 0), (22, I a0.fState), (31, B x4)], []⟩ : St)) (fun x4 => spec_l14Txn_j1 a0 a1 x4 = some y) ?_ ?_
 refine srve 78 [(1, I a1), (2, pf a0 0), (22, I a0.fState), (31, B (a0.fState == 1))] [] ?_
 refine pc h (fun h => ?_) (fun h => ?_)
 refine pwp_skip ?_
 exact ⟨(a0.fState == 1), h, it [1, 2, 22, 31]⟩
 refine rve 78 [(1, I a1), (2, pf a0 0), (22, I a0.fState), (31, B (a0.fState == 3))] [] ?_
 exact ⟨(a0.fState == 3), h, it [1, 2, 22, 31]⟩
 rintro x4 h
 unfold spec_l14Txn_j1 at h
 refine pc h (fun h => ?_) (fun h => ?_)
 refine srv 3 78 [(2, pf a0 0), (35, I a0.fBegin), (36, I a1)] [] ?_
 obtain ⟨v6, hv7, h⟩ := bindS h
 refine cF 37 (ok_spec_l1In hv7) ?_
 refine v 1 78 [(2, pf a0 0), (38, B v6)] [] ?_
 rcases Bool.eq_false_or_eq_true v6 with hc14 | hc14
 replace h := bT hc14 h
 rw [hc14]
 refine v 5 78 [(2, pf a0 0), (43, B (a0.fEnd == 0))] [] ?_
 rcases fk (a0.fEnd == 0) with hc13 | hc13
 replace h := bT hc13 h
 rw [hc13]
 refine v 2 78 [(2, pf a0 0), (43, B true), (45, A a0.fReads)] [] ?_
 obtain ⟨v8, hv9, h⟩ := bindS h
 refine cF 46 (ok_spec_l14Reads hv9) ?_
 refine v 2 78 [(2, pf a0 0), (48, B v8)] [] ?_
 rcases Bool.eq_false_or_eq_true v8 with hc12 | hc12
 replace h := bT hc12 h
 rw [hc12]
 refine v 2 78 [(48, B true), (50, A a0.fWrites)] [] ?_
 obtain ⟨v10, hv11, h⟩ := bindS h
 refine cF 51 (ok_spec_WritesOk hv11) ?_
 refine ve 2 78 [(4, B v10)] [] ?_
 cases h
 exact pwp_ret rz
 replace h := bF hc12 h
 rw [hc12]
 refine ve 5 78 [(4, B false)] [] ?_
 cases h
 exact pwp_ret rz
 replace h := bF hc13 h
 rw [hc13]
 refine ve 10 78 [(4, B false)] [] ?_
 cases h
 exact pwp_ret rz
 replace h := bF hc14 h
 rw [hc14]
 refine ve 15 78 [(4, B false)] [] ?_
 cases h
 exact pwp_ret rz
 refine srve 78 [(1, I a1), (2, pf a0 0), (53, B (a0.fState == 2))] [] ?_
 refine pc h (fun h => ?_) (fun h => ?_)
 refine srv 3 78 [(1, I a1), (2, pf a0 0), (56, I a0.fBegin), (57, I a1)] [] ?_
 obtain ⟨v16, hv17, h⟩ := bindS h
 refine cF 58 (ok_spec_l1In hv17) ?_
 refine v 1 78 [(1, I a1), (2, pf a0 0), (59, B v16)] [] ?_
 rcases Bool.eq_false_or_eq_true v16 with hc26 | hc26
 replace h := bT hc26 h
 rw [hc26]
 refine v 6 78 [(2, pf a0 0), (59, B true), (61, I a0.fEnd), (64, I (w64 (a0.fBegin + 1))), (65, I a1)] [] ?_
 obtain ⟨v18, hv19, h⟩ := bindS h
 refine cF 66 (ok_spec_l1In hv19) ?_
 refine v 2 78 [(2, pf a0 0), (68, B v18)] [] ?_
 rcases Bool.eq_false_or_eq_true v18 with hc25 | hc25
 replace h := bT hc25 h
 rw [hc25]
 refine v 2 78 [(2, pf a0 0), (68, B true), (70, A a0.fReads)] [] ?_
 obtain ⟨v20, hv21, h⟩ := bindS h
 refine cF 71 (ok_spec_l14Reads hv21) ?_
 refine v 2 78 [(2, pf a0 0), (73, B v20)] [] ?_
 rcases Bool.eq_false_or_eq_true v20 with hc24 | hc24
 replace h := bT hc24 h
 rw [hc24]
 refine v 2 78 [(73, B true), (75, A a0.fWrites)] [] ?_
 obtain ⟨v22, hv23, h⟩ := bindS h
 refine cF 76 (ok_spec_WritesOk hv23) ?_
 refine ve 2 78 [(4, B v22)] [] ?_
 cases h
 exact pwp_ret rz
 replace h := bF hc24 h
 rw [hc24]
 refine ve 5 78 [(4, B false)] [] ?_
 cases h
 exact pwp_ret rz
 replace h := bF hc25 h
 rw [hc25]
 refine ve 10 78 [(4, B false)] [] ?_
 cases h
 exact pwp_ret rz
 replace h := bF hc26 h
 rw [hc26]
 refine ve 19 78 [(4, B false)] [] ?_
 cases h
 exact pwp_ret rz
 refine pwp_skip ?_
 refine srve 78 [(4, B false)] [] ?_
 cases h
 exact pwp_ret rz
def impl_Txn_related (a0 : T_impl_Txn) (a1 : T_impl_Txn) (a2 : Int) : Option Bool := bif (a2 == 1) then bif (decide (a0.fEnd < a1.fEnd)) then (slices_ContainsFunc_impl_Write_impl_Write a0.fWrites (fun z0 => impl_Txn_related_2 z0 a1)).bind fun v2 => some v2 else some false else bif (a2 == 2) then bif (decide (a0.fEnd ≤ a1.fBegin)) then (impl_Txn_related_1 a0 a1).bind fun v6 => some v6 else some false else bif (decide (a1.fEnd > a0.fBegin)) then (impl_Txn_related_1 a1 a0).bind fun v9 => some v9 else some false
theorem ok_impl_Txn_related {a0 : T_impl_Txn} {a1 : T_impl_Txn} {a2 : Int} {y : Bool} (h : impl_Txn_related a0 a1 a2 = some y) : OK Try.prog 111 [E a0, E a1, I a2] (B y) := by
 refine ow Try.func111 fun Γ hX => ?_
 unfold impl_Txn_related at h
 refine srve 46 [(2, I a2), (3, pf a0 0), (4, pf a1 0)] [] ?_
 refine srve 46 [(2, I a2), (3, pf a0 0), (4, pf a1 0), (7, .fn 166 [])] [] ?_
 refine pwp_seq ?_
 refine srve 46 [(3, pf a0 0), (4, pf a1 0), (7, .fn 166 []), (8, I a2)] [] ?_
 refine pwp_block ?_
 refine srve 46 [(3, pf a0 0), (4, pf a1 0), (7, .fn 166 []), (8, I a2), (9, B (a2 == 1))] [] ?_
 refine pc h (fun h => ?_) (fun h => ?_)
 refine srv 6 46 [(3, pf a0 0), (4, pf a1 0), (16, B (decide (a0.fEnd < a1.fEnd)))] [] ?_
 rcases fk (decide (a0.fEnd < a1.fEnd)) with hc4 | hc4
 replace h := bT hc4 h
 rw [hc4]
 refine v 3 46 [(16, B true), (18, A a0.fWrites), (19, .fn 169 [pf a1 0])] [] ?_
 obtain ⟨v2, hv3, h⟩ := bindS h
 refine cF 20 (ok_slices_ContainsFunc_impl_Write_impl_Write (rfl) (fun _ w hw => ok_impl_Txn_related_2 hw) hv3) ?_
 refine ve 2 46 [(6, B v2)] [] ?_
 cases h
 exact pwp_ret rz
 replace h := bF hc4 h
 rw [hc4]
 refine ve 6 46 [(6, B false)] [] ?_
 cases h
 exact pwp_ret rz
 refine srve 46 [(3, pf a0 0), (4, pf a1 0), (7, .fn 166 []), (22, B (a2 == 2))] [] ?_
 refine pc h (fun h => ?_) (fun h => ?_)
 refine srv 6 46 [(3, pf a0 0), (4, pf a1 0), (7, .fn 166 []), (29, B (decide (a0.fEnd ≤ a1.fBegin)))] [] ?_
 rcases fk (decide (a0.fEnd ≤ a1.fBegin)) with hc8 | hc8
 replace h := bT hc8 h
 rw [hc8]
 refine v 3 46 [(29, B true), (30, .fn 166 []), (31, E a0), (32, E a1)] [] ?_
 obtain ⟨v6, hv7, h⟩ := bindS h
 refine cF 33 (ok_impl_Txn_related_1 hv7) ?_
 refine ve 2 46 [(6, B v6)] [] ?_
 cases h
 exact pwp_ret rz
 replace h := bF hc8 h
 rw [hc8]
 refine ve 6 46 [(6, B false)] [] ?_
 cases h
 exact pwp_ret rz
 refine pwp_skip ?_
 refine srv 6 46 [(3, pf a0 0), (4, pf a1 0), (7, .fn 166 []), (40, B (decide (a1.fEnd > a0.fBegin)))] [] ?_
 rcases fk (decide (a1.fEnd > a0.fBegin)) with hc11 | hc11
 replace h := bT hc11 h
 rw [hc11]
 refine v 3 46 [(40, B true), (41, .fn 166 []), (42, E a1), (43, E a0)] [] ?_
 obtain ⟨v9, hv10, h⟩ := bindS h
 refine cF 44 (ok_impl_Txn_related_1 hv10) ?_
 refine ve 2 46 [(6, B v9)] [] ?_
 cases h
 exact pwp_ret rz
 replace h := bF hc11 h
 rw [hc11]
 refine ve 6 46 [(6, B false)] [] ?_
 cases h
 exact pwp_ret rz
def laws_szHouse (a0 : T_laws_House) (a1 : Int) : Option Int := (laws_szVersionS a0.fList a1).bind fun v1 => bif (decide (v1 < 0)) then some (-1) else (laws_szTxnS a0.fTxns v1).bind fun v4 => bif (decide (v4 < 0)) then some (-1) else some v4
theorem ok_laws_szHouse {a0 : T_laws_House} {a1 : Int} {y : Int} (h : laws_szHouse a0 a1 = some y) : OK Try.prog 11 [E a0, I a1] (I y) := by
 refine ow Try.func11 fun Γ hX => ?_
 unfold laws_szHouse at h
 refine srve 18 [(1, I a1), (2, pf a0 0)] [] ?_
 refine srv 3 18 [(2, pf a0 0), (6, A a0.fList), (7, I a1)] [] ?_
 obtain ⟨v1, hv2, h⟩ := bindS h
 refine cF 8 (ok_laws_szVersionS hv2) ?_
 refine ve 1 18 [(1, I v1), (2, pf a0 0)] [] ?_
 refine pwp_seq ?_
 refine srve 18 [(1, I v1), (2, pf a0 0), (10, B (decide (v1 < 0)))] [] ?_
 refine pc h (fun h => ?_) (fun h => ?_)
 refine srve 18 [(4, I (-1))] [] ?_
 cases h
 exact pwp_ret rz
 refine pwp_skip ?_
 refine srv 3 18 [(12, A a0.fTxns), (13, I v1)] [] ?_
 obtain ⟨v4, hv5, h⟩ := bindS h
 refine cF 14 (ok_laws_szTxnS hv5) ?_
 refine ve 1 18 [(1, I v4)] [] ?_
 refine pwp_seq ?_
 refine srve 18 [(1, I v4), (16, B (decide (v4 < 0)))] [] ?_
 refine pc h (fun h => ?_) (fun h => ?_)
 refine srve 18 [(4, I (-1))] [] ?_
 cases h
 exact pwp_ret rz
 refine pwp_skip ?_
 refine srve 18 [(4, I v4)] [] ?_
 cases h
 exact pwp_ret rz
def laws_eqHouse (a0 : T_impl_House) (a1 : T_impl_House) : Option Bool := (laws_eqVersionS a0.fList a1.fList).bind fun v1 => bif (!v1) then some false else bif (!(a0.fClock == a1.fClock)) then some false else (laws_eqTxnS a0.fTxns a1.fTxns).bind fun v5 => bif (!v5) then some false else some true
theorem ok_laws_eqHouse {a0 : T_impl_House} {a1 : T_impl_House} {y : Bool} (h : laws_eqHouse a0 a1 = some y) : OK Try.prog 16 [E a0, E a1] (B y) := by
 refine ow Try.func16 fun Γ hX => ?_
 unfold laws_eqHouse at h
 refine srve 22 [(2, pf a0 0), (3, pf a1 0)] [] ?_
 refine pwp_seq ?_
 refine srv 4 22 [(2, pf a0 0), (3, pf a1 0), (6, A a0.fList), (8, A a1.fList)] [] ?_
 obtain ⟨v1, hv2, h⟩ := bindS h
 refine cF 9 (ok_laws_eqVersionS hv2) ?_
 refine ve 1 22 [(2, pf a0 0), (3, pf a1 0), (10, B (!v1))] [] ?_
 refine pc h (fun h => ?_) (fun h => ?_)
 refine srve 22 [(4, B false)] [] ?_
 cases h
 exact pwp_ret rz
 refine pwp_skip ?_
 refine pwp_seq ?_
 refine srve 22 [(2, pf a0 0), (3, pf a1 0), (15, B (!(a0.fClock == a1.fClock)))] [] ?_
 refine pc h (fun h => ?_) (fun h => ?_)
 refine srve 22 [(4, B false)] [] ?_
 cases h
 exact pwp_ret rz
 refine pwp_skip ?_
 refine pwp_seq ?_
 refine srv 4 22 [(17, A a0.fTxns), (19, A a1.fTxns)] [] ?_
 obtain ⟨v5, hv6, h⟩ := bindS h
 refine cF 20 (ok_laws_eqTxnS hv6) ?_
 refine ve 1 22 [(21, B (!v5))] [] ?_
 refine pc h (fun h => ?_) (fun h => ?_)
 refine srve 22 [(4, B false)] [] ?_
 cases h
 exact pwp_ret rz
 refine pwp_skip ?_
 refine srve 22 [(4, B true)] [] ?_
 cases h
 exact pwp_ret rz
def spec_HouseOk_j4 (x19 : Int) (K21 : Int → Option Bool) (x23 : Bool) : Option Bool := bif x23 then some false else K21 (w64 (x19 + 1))
def spec_HouseOk_l3 (a0 : T_impl_House) (x10 : Int) (K12 : Int → Option Bool) : Nat → Int → Option Bool
 | 0, _ => none
 | f20 + 1, x19 => bif (decide (x19 < x10)) then (getI a0.fTxns x10).bind fun v25 => bif (v25.fState == 2) then (getI a0.fTxns x19).bind fun v27 => bif (v27.fState == 2) then (getI a0.fTxns x10).bind fun v29 => (getI a0.fTxns x19).bind fun v31 => spec_HouseOk_j4 x19 (spec_HouseOk_l3 a0 x10 K12 f20) (v29.fEnd == v31.fEnd) else spec_HouseOk_j4 x19 (spec_HouseOk_l3 a0 x10 K12 f20) false else spec_HouseOk_j4 x19 (spec_HouseOk_l3 a0 x10 K12 f20) false else K12 (w64 (x10 + 1))
def spec_HouseOk_l2 (a0 : T_impl_House) : Nat → Int → Option Bool
 | 0, _ => none
 | f11 + 1, x10 => bif (decide (x10 < 4)) then (getI a0.fTxns x10).bind fun v14 => (spec_l14Txn v14 a0.fClock).bind fun v16 => bif (!v16) then some false else spec_HouseOk_l3 a0 x10 (spec_HouseOk_l2 a0 f11) FUEL 0 else some true
def spec_HouseOk_l1 (a0 : T_impl_House) : Nat → Int → Option Bool
 | 0, _ => none
 | f4 + 1, x3 => bif (decide (x3 < 5)) then (spec_LastTurn a0.fList x3).bind fun v7 => bif (decide (v7 > a0.fClock)) then some false else (spec_HouseOk_l1 a0 f4) (w64 (x3 + 1)) else spec_HouseOk_l2 a0 FUEL 0
def spec_HouseOk_j0 (a0 : T_impl_House) (x1 : Bool) : Option Bool := bif x1 then some false else spec_HouseOk_l1 a0 FUEL 0
def spec_HouseOk (a0 : T_impl_House) : Option Bool := (spec_VersionsOk a0.fList).bind fun v35 => bif (!v35) then spec_HouseOk_j0 a0 true else (spec_l1In a0.fClock 0 40).bind fun v37 => bif (!v37) then spec_HouseOk_j0 a0 true else spec_HouseOk_j0 a0 (!((a0.fTxns.length : Int) == 4))
theorem ok_spec_HouseOk {a0 : T_impl_House} {y : Bool} (h : spec_HouseOk a0 = some y) : OK Try.prog 50 [E a0] (B y) := by
 refine ow Try.func50 fun Γ hX => ?_
 unfold spec_HouseOk at h
 refine srve 82 [(1, pf a0 0)] [] ?_
 refine pwp_seq ?_
 refine pwp_seq ?_
 refine pwp_join (σ := Bool) (fun x1 => (⟨82, [(1, pf a0 0), (21, B x1)], []⟩ : St)) (fun x1 => spec_HouseOk_j0 a0 x1 = some y) ?_ ?_
 refine rv 2 82 [(1, pf a0 0), (7, A a0.fList)] [] ?_
 obtain ⟨v35, hv36, h⟩ := bindS h
 refine cF 8 (ok_spec_VersionsOk hv36) ?_
 refine v 2 82 [(1, pf a0 0), (10, B (!v35))] [] ?_
 rcases fk (!v35) with hc40 | hc40
 replace h := bT hc40 h
 rw [hc40]
 refine ve 11 82 [(1, pf a0 0), (21, B true)] [] ?_
 exact ⟨true, h, it [1, 21]⟩
 replace h := bF hc40 h
 rw [hc40]
 refine v 2 82 [(1, pf a0 0), (10, B false), (12, I a0.fClock)] [] ?_
 obtain ⟨v37, hv38, h⟩ := bindS h
 refine cF 13 (ok_spec_l1In hv38) ?_
 refine v 3 82 [(1, pf a0 0), (16, B (!v37))] [] ?_
 rcases fk (!v37) with hc39 | hc39
 replace h := bT hc39 h
 rw [hc39]
 refine ve 5 82 [(1, pf a0 0), (21, B true)] [] ?_
 exact ⟨true, h, it [1, 21]⟩
 replace h := bF hc39 h
 rw [hc39]
 refine ve 5 82 [(1, pf a0 0), (21, B (!((a0.fTxns.length : Int) == 4)))] [] ?_
 exact ⟨(!((a0.fTxns.length : Int) == 4)), h, it [1, 21]⟩
 rintro x1 h
 unfold spec_HouseOk_j0 at h
 refine pc h (fun h => ?_) (fun h => ?_)
 refine srve 82 [(2, B false)] [] ?_
 cases h
 exact pwp_ret rz
 refine pwp_skip ?_
 refine pwp_seq ?_
 refine srve 82 [(1, pf a0 0), (3, I 0)] [] ?_
 refine pwp_block ?_
 refine pwp_loop (ι := Nat × Int) (fun (f4, x3) => (⟨82, [(1, pf a0 0), (3, I x3)], []⟩ : St)) (fun (f4, x3) => spec_HouseOk_l1 a0 f4 x3 = some y) Prod.fst (FUEL, 0) h (it [1, 3]) ?_
 rintro ⟨f4, x3⟩ h
 dsimp only at h ⊢
 rcases f4 with _ | f4
 cases h
 rw [spec_HouseOk_l1] at h
 refine pwp_seq ?_
 refine srve 82 [(1, pf a0 0), (3, I x3), (23, B (decide (x3 < 5)))] [] ?_
 refine pc h (fun h => ?_) (fun h => ?_)
 refine pwp_skip ?_
 refine pwp_seq ?_
 refine pwp_block ?_
 refine pwp_seq ?_
 refine ip 82 [(1, pf a0 0), (3, I x3)] [] ?_
 refine pN 7 ?_
 refine qv [] trivial 3 82 [(28, I x3), (27, A a0.fList), (1, pf a0 0), (3, I x3)] [] ?_
 obtain ⟨v7, hv8, h⟩ := bindS h
 refine qX (some 29) (I v7) 82 [(29, I v7), (1, pf a0 0), (3, I x3)] [] (fun Γ' hΓ => CoreE.of_g (callV_sound (τ := τ) (by kernel_rfl) rfl (ok_spec_LastTurn hv8) (FzTo.frz rfl))) trivial ?_
 refine qvn [] trivial 3 82 [(1, pf a0 0), (3, I x3), (32, B (decide (v7 > a0.fClock)))] [] ?_
 refine pc h (fun h => ?_) (fun h => ?_)
 refine srve 82 [(2, B false)] [] ?_
 cases h
 exact pwp_ret rz
 refine pwp_skip ?_
 refine rve 82 [(1, pf a0 0), (3, I (w64 (x3 + 1)))] [] ?_
 exact ⟨(f4, (w64 (x3 + 1))), h, Nat.lt_succ_self _, it [1, 3]⟩
 refine pwp_exit ?_
 refine pwp_seq ?_
 refine srve 82 [(1, pf a0 0), (4, I 0)] [] ?_
 refine pwp_block ?_
 refine pwp_loop (ι := Nat × Int) (fun (f11, x10) => (⟨82, [(1, pf a0 0), (4, I x10)], []⟩ : St)) (fun (f11, x10) => spec_HouseOk_l2 a0 f11 x10 = some y) Prod.fst (FUEL, 0) h (it [1, 4]) ?_
 rintro ⟨f11, x10⟩ h
 dsimp only at h ⊢
 rcases f11 with _ | f11
 cases h
 rw [spec_HouseOk_l2] at h
 refine pwp_seq ?_
 refine srve 82 [(1, pf a0 0), (4, I x10), (34, B (decide (x10 < 4)))] [] ?_
 refine pc h (fun h => ?_) (fun h => ?_)
 refine pwp_skip ?_
 refine pwp_seq ?_
 refine pwp_block ?_
 refine pwp_seq ?_
 refine pwp_seq ?_
 refine ip 82 [(1, pf a0 0), (4, I x10)] [] ?_
 refine pN 9 ?_
 refine qv [] trivial 3 82 [(39, I x10), (38, A a0.fTxns), (1, pf a0 0), (4, I x10)] [] ?_
 obtain ⟨v14, hv15, h⟩ := bindS h
 refine qX (some 40) (pf v14 0) 82 [(40, pf v14 0), (1, pf a0 0), (4, I x10)] [] (fun Γ' hΓ => CoreE.of_y (idxV_sound τ_ok (by kernel_rfl) hv15)) trivial ?_
 refine qv [] trivial 3 82 [(43, I a0.fClock), (41, E v14), (1, pf a0 0), (4, I x10)] [] ?_
 obtain ⟨v16, hv17, h⟩ := bindS h
 refine qX (some 44) (B v16) 82 [(44, B v16), (1, pf a0 0), (4, I x10)] [] (fun Γ' hΓ => CoreE.of_g (callV_sound (τ := τ) (by kernel_rfl) rfl (ok_spec_l14Txn hv17) (FzTo.frz rfl))) trivial ?_
 refine qvn [] trivial 1 82 [(1, pf a0 0), (4, I x10), (45, B (!v16))] [] ?_
 refine pc h (fun h => ?_) (fun h => ?_)
 refine srve 82 [(2, B false)] [] ?_
 cases h
 exact pwp_ret rz
 refine pwp_skip ?_
 refine srve 82 [(1, pf a0 0), (4, I x10), (5, I 0)] [] ?_
 refine pwp_block ?_
 refine pwp_loop (ι := Nat × Int) (fun (f20, x19) => (⟨82, [(1, pf a0 0), (4, I x10), (5, I x19)], []⟩ : St)) (fun (f20, x19) => spec_HouseOk_l3 a0 x10 (spec_HouseOk_l2 a0 f11) f20 x19 = some y) Prod.fst (FUEL, 0) h (it [1, 4, 5]) ?_
 rintro ⟨f20, x19⟩ h
 dsimp only at h ⊢
 rcases f20 with _ | f20
 cases h
 rw [spec_HouseOk_l3] at h
 refine pwp_seq ?_
 refine srve 82 [(1, pf a0 0), (4, I x10), (5, I x19), (48, B (decide (x19 < x10)))] [] ?_
 refine pc h (fun h => ?_) (fun h => ?_)
 refine pwp_skip ?_
 refine pwp_seq ?_
 refine pwp_block ?_
 refine pwp_seq ?_
 refine pwp_join (σ := Bool) (fun x23 => (⟨82, [(1, pf a0 0), (4, I x10), (5, I x19), (81, B x23)], []⟩ : St)) (fun x23 => spec_HouseOk_j4 x19 (spec_HouseOk_l3 a0 x10 (spec_HouseOk_l2 a0 f11) f20) x23 = some y) ?_ ?_
 refine ip 82 [(1, pf a0 0), (4, I x10), (5, I x19)] [] ?_
 refine pN 31 ?_
 refine qv [] trivial 3 82 [(53, I x10), (52, A a0.fTxns), (1, pf a0 0), (4, I x10), (5, I x19)] [] ?_
 obtain ⟨v25, hv26, h⟩ := bindS h
 refine qX (some 54) (pf v25 0) 82 [(54, pf v25 0), (1, pf a0 0), (4, I x10), (5, I x19)] [] (fun Γ' hΓ => CoreE.of_y (idxV_sound τ_ok (by kernel_rfl) hv26)) trivial ?_
 refine qv [] trivial 4 82 [(58, B (v25.fState == 2)), (1, pf a0 0), (4, I x10), (5, I x19)] [] ?_
 rcases fk (v25.fState == 2) with hc34 | hc34
 replace h := bT hc34 h
 rw [hc34]
 refine qv [] trivial 3 82 [(61, I x19), (60, A a0.fTxns), (59, pf a0 2), (58, B true), (1, pf a0 0), (4, I x10), (5, I x19)] [] ?_
 obtain ⟨v27, hv28, h⟩ := bindS h
 refine qX (some 62) (pf v27 0) 82 [(62, pf v27 0), (61, I x19), (60, A a0.fTxns), (59, pf a0 2), (58, B true), (1, pf a0 0), (4, I x10), (5, I x19)] [] (fun Γ' hΓ => CoreE.of_y (idxV_sound τ_ok (by kernel_rfl) hv28)) trivial ?_
 refine qv [] trivial 5 82 [(67, B (v27.fState == 2)), (65, B (v27.fState == 2)), (64, I v27.fState), (63, pf v27 0), (62, pf v27 0), (61, I x19), (60, A a0.fTxns), (59, pf a0 2), (1, pf a0 0), (4, I x10), (5, I x19)] [] ?_
 rcases fk (v27.fState == 2) with hc33 | hc33
 replace h := bT hc33 h
 rw [hc33]
 refine qv [] trivial 3 82 [(70, I x10), (69, A a0.fTxns), (68, pf a0 2), (67, B true), (65, B true), (64, I v27.fState), (63, pf v27 0), (62, pf v27 0), (61, I x19), (60, A a0.fTxns), (59, pf a0 2), (1, pf a0 0), (4, I x10), (5, I x19)] [] ?_
 obtain ⟨v29, hv30, h⟩ := bindS h
 refine qX (some 71) (pf v29 0) 82 [(71, pf v29 0), (70, I x10), (69, A a0.fTxns), (68, pf a0 2), (67, B true), (65, B true), (64, I v27.fState), (63, pf v27 0), (62, pf v27 0), (61, I x19), (60, A a0.fTxns), (59, pf a0 2), (1, pf a0 0), (4, I x10), (5, I x19)] [] (fun Γ' hΓ => CoreE.of_y (idxV_sound τ_ok (by kernel_rfl) hv30)) trivial ?_
 refine qv [] trivial 5 82 [(76, I x19), (75, A a0.fTxns), (74, pf a0 2), (73, I v29.fEnd), (72, pf v29 2), (71, pf v29 0), (70, I x10), (69, A a0.fTxns), (68, pf a0 2), (67, B true), (65, B true), (64, I v27.fState), (63, pf v27 0), (62, pf v27 0), (61, I x19), (60, A a0.fTxns), (59, pf a0 2), (1, pf a0 0), (4, I x10), (5, I x19)] [] ?_
 obtain ⟨v31, hv32, h⟩ := bindS h
 refine qX (some 77) (pf v31 0) 82 [(77, pf v31 0), (76, I x19), (75, A a0.fTxns), (74, pf a0 2), (73, I v29.fEnd), (72, pf v29 2), (71, pf v29 0), (70, I x10), (69, A a0.fTxns), (68, pf a0 2), (67, B true), (65, B true), (64, I v27.fState), (63, pf v27 0), (62, pf v27 0), (61, I x19), (60, A a0.fTxns), (59, pf a0 2), (1, pf a0 0), (4, I x10), (5, I x19)] [] (fun Γ' hΓ => CoreE.of_y (idxV_sound τ_ok (by kernel_rfl) hv32)) trivial ?_
 refine qvn [] trivial 4 82 [(1, pf a0 0), (4, I x10), (5, I x19), (59, pf a0 2), (60, A a0.fTxns), (61, I x19), (62, pf v27 0), (63, pf v27 0), (64, I v27.fState), (65, B true), (68, pf a0 2), (69, A a0.fTxns), (70, I x10), (71, pf v29 0), (72, pf v29 2), (73, I v29.fEnd), (74, pf a0 2), (75, A a0.fTxns), (76, I x19), (77, pf v31 0), (78, pf v31 2), (79, I v31.fEnd), (80, B (v29.fEnd == v31.fEnd)), (81, B (v29.fEnd == v31.fEnd))] [] ?_
 exact ⟨(v29.fEnd == v31.fEnd), h, it [1, 4, 5, 81]⟩
 replace h := bF hc33 h
 rw [hc33]
 refine qvn [] trivial 14 82 [(1, pf a0 0), (4, I x10), (5, I x19), (59, pf a0 2), (60, A a0.fTxns), (61, I x19), (62, pf v27 0), (63, pf v27 0), (64, I v27.fState), (65, B false), (68, .lit undef), (69, .lit undef), (70, .lit undef), (71, .lit undef), (72, .lit undef), (73, .lit undef), (74, .lit undef), (75, .lit undef), (76, .lit undef), (77, .lit undef), (78, .lit undef), (79, .lit undef), (80, .lit undef), (81, B false)] [] ?_
 exact ⟨false, h, it [1, 4, 5, 81]⟩
 replace h := bF hc34 h
 rw [hc34]
 refine qvn [] trivial 23 82 [(1, pf a0 0), (4, I x10), (5, I x19), (59, .lit undef), (60, .lit undef), (61, .lit undef), (62, .lit undef), (63, .lit undef), (64, .lit undef), (65, .lit undef), (68, .lit undef), (69, .lit undef), (70, .lit undef), (71, .lit undef), (72, .lit undef), (73, .lit undef), (74, .lit undef), (75, .lit undef), (76, .lit undef), (77, .lit undef), (78, .lit undef), (79, .lit undef), (80, .lit undef), (81, B false)] [] ?_
 exact ⟨false, h, it [1, 4, 5, 81]⟩
 rintro x23 h
 unfold spec_HouseOk_j4 at h
 refine pc h (fun h => ?_) (fun h => ?_)
 refine srve 82 [(2, B false)] [] ?_
 cases h
 exact pwp_ret rz
 refine pwp_skip ?_
 refine rve 82 [(1, pf a0 0), (4, I x10), (5, I (w64 (x19 + 1)))] [] ?_
 exact ⟨(f20, (w64 (x19 + 1))), h, Nat.lt_succ_self _, it [1, 4, 5]⟩
 refine pwp_exit ?_
 refine rve 82 [(1, pf a0 0), (4, I (w64 (x10 + 1)))] [] ?_
 exact ⟨(f11, (w64 (x10 + 1))), h, Nat.lt_succ_self _, it [1, 4]⟩
 refine pwp_exit ?_
 refine srve 82 [(2, B true)] [] ?_
 cases h
 exact pwp_ret rz
def impl_House_edges_j3 (x21 : Int) (K24 : Int → (List T_impl_Edge) → Option (List T_impl_Edge)) (x26 : List T_impl_Edge) : Option (List T_impl_Edge) := K24 (w64 (x21 + 1)) x26
def impl_House_edges_j4 (x2 : Int) (x11 : Int) (x21 : Int) (x22 : List T_impl_Edge) (K24 : Int → (List T_impl_Edge) → Option (List T_impl_Edge)) (x27 : Bool) : Option (List T_impl_Edge) := bif x27 then (app x22 ([(T_impl_Edge.mk x2 x11 x21)] : List T_impl_Edge)).bind fun v29 => impl_House_edges_j3 x21 K24 v29 else impl_House_edges_j3 x21 K24 x22
def impl_House_edges_l2 (x2 : Int) (v7 : T_impl_Txn) (x11 : Int) (K14 : Int → (List T_impl_Edge) → Option (List T_impl_Edge)) (v16 : T_impl_Txn) : Nat → Int → (List T_impl_Edge) → Option (List T_impl_Edge)
 | 0, _, _ => none
 | f23 + 1, x21, x22 => bif (decide (x21 ≤ 3)) then bif (!(x2 == x11)) then bif (v7.fState == 2) then bif (v16.fState == 2) then (impl_Txn_related v7 v16 x21).bind fun v31 => impl_House_edges_j4 x2 x11 x21 x22 (impl_House_edges_l2 x2 v7 x11 K14 v16 f23) v31 else impl_House_edges_j4 x2 x11 x21 x22 (impl_House_edges_l2 x2 v7 x11 K14 v16 f23) false else impl_House_edges_j4 x2 x11 x21 x22 (impl_House_edges_l2 x2 v7 x11 K14 v16 f23) false else impl_House_edges_j4 x2 x11 x21 x22 (impl_House_edges_l2 x2 v7 x11 K14 v16 f23) false else K14 (w64 (x11 + 1)) x22
def impl_House_edges_l1 (a0 : T_impl_House) (x2 : Int) (K5 : Int → (List T_impl_Edge) → Option (List T_impl_Edge)) (v7 : T_impl_Txn) : Nat → Int → (List T_impl_Edge) → Option (List T_impl_Edge)
 | 0, _, _ => none
 | f13 + 1, x11, x12 => bif (decide (x11 < (a0.fTxns.length : Int))) then (getI a0.fTxns x11).bind fun v16 => impl_House_edges_l2 x2 v7 x11 (impl_House_edges_l1 a0 x2 K5 v7 f13) v16 FUEL 1 x12 else K5 (w64 (x2 + 1)) x12
def impl_House_edges_l0 (a0 : T_impl_House) : Nat → Int → (List T_impl_Edge) → Option (List T_impl_Edge)
 | 0, _, _ => none
 | f4 + 1, x2, x3 => bif (decide (x2 < (a0.fTxns.length : Int))) then (getI a0.fTxns x2).bind fun v7 => impl_House_edges_l1 a0 x2 (impl_House_edges_l0 a0 f4) v7 FUEL 0 x3 else (slices_Clip_impl_Edge_impl_Edge x3).bind fun v36 => some v36
def impl_House_edges (a0 : T_impl_House) : Option (List T_impl_Edge) := impl_House_edges_l0 a0 FUEL 0 ([] : List T_impl_Edge)
theorem ok_impl_House_edges {a0 : T_impl_House} {y : List T_impl_Edge} (h : impl_House_edges a0 = some y) : OK Try.prog 55 [E a0] (A y) := by
 refine ow Try.func55 fun Γ hX => ?_
 unfold impl_House_edges at h
 refine srveM [5, 7] 59 [(1, pf a0 0)] [] ?_
 refine srveM [5, 7] 59 [(1, pf a0 0), (3, .arr 3 0 (eL ([] : List T_impl_Edge)) true)] [] ?_
 refine pwp_seq ?_
 refine srveM [5, 7] 59 [(1, pf a0 0), (3, .arr 3 0 (eL ([] : List T_impl_Edge)) true), (10, A a0.fTxns), (11, I (a0.fTxns.length : Int)), (12, I 0)] [] ?_
 refine pwp_block ?_
 refine pwp_loop (ι := Nat × Int × (List T_impl_Edge)) (fun (f4, x2, x3) => (⟨59, [(1, pf a0 0), (3, rf 0 0 3 x3), (10, A a0.fTxns), (11, I (a0.fTxns.length : Int)), (12, I x2)], [sl 0 x3]⟩ : St)) (fun (f4, x2, x3) => impl_House_edges_l0 a0 f4 x2 x3 = some y) Prod.fst (FUEL, 0, ([] : List T_impl_Edge)) h (Imp.thawS 3 [1, 3, 10, 11, 12] (by kernel_rfl)) ?_
 rintro ⟨f4, x2, x3⟩ h
 dsimp only at h ⊢
 rcases f4 with _ | f4
 cases h
 rw [impl_House_edges_l0] at h
 refine srveM [5, 7] 59 [(1, pf a0 0), (3, rf 0 0 3 x3), (10, A a0.fTxns), (11, I (a0.fTxns.length : Int)), (12, I x2), (13, B (decide (x2 < (a0.fTxns.length : Int))))] [sl 0 x3] ?_
 refine pwp_seq ?_
 refine pc h (fun h => ?_) (fun h => ?_)
 refine pwp_skip ?_
 refine pwp_seq ?_
 refine pwp_block ?_
 refine srvM [5, 7] 1 59 [(1, pf a0 0), (3, rf 0 0 3 x3), (10, A a0.fTxns), (11, I (a0.fTxns.length : Int)), (12, I x2), (14, I x2)] [sl 0 x3] ?_
 obtain ⟨v7, hv8, h⟩ := bindS h
 refine opsP_idx τ_ok 15 hv8 (by kernel_rfl) ?_
 refine veM [5, 7] 4 59 [(1, pf a0 0), (3, rf 0 0 3 x3), (4, I x2), (5, .ptr 1 0 0), (10, A a0.fTxns), (11, I (a0.fTxns.length : Int)), (12, I x2)] [sl 0 x3, sc 0 v7] ?_
 refine srveM [5, 7] 59 [(1, pf a0 0), (3, rf 0 0 3 x3), (4, I x2), (5, .ptr 1 0 0), (10, A a0.fTxns), (11, I (a0.fTxns.length : Int)), (12, I x2), (18, A a0.fTxns), (19, I (a0.fTxns.length : Int)), (20, I 0)] [sl 0 x3, sc 0 v7] ?_
 refine pwp_block ?_
 refine pwp_loop (ι := Nat × Int × (List T_impl_Edge)) (fun (f13, x11, x12) => (⟨59, [(1, pf a0 0), (3, rf 0 0 3 x12), (4, I x2), (5, .ptr 1 0 0), (10, A a0.fTxns), (11, I (a0.fTxns.length : Int)), (12, I x2), (18, A a0.fTxns), (19, I (a0.fTxns.length : Int)), (20, I x11)], [sl 0 x12, sc 0 v7]⟩ : St)) (fun (f13, x11, x12) => impl_House_edges_l1 a0 x2 (impl_House_edges_l0 a0 f4) v7 f13 x11 x12 = some y) Prod.fst (FUEL, 0, x3) h (it [1, 3, 4, 5, 10, 11, 12, 18, 19, 20]) ?_
 rintro ⟨f13, x11, x12⟩ h
 dsimp only at h ⊢
 rcases f13 with _ | f13
 cases h
 rw [impl_House_edges_l1] at h
 refine srveM [5, 7] 59 [(1, pf a0 0), (3, rf 0 0 3 x12), (4, I x2), (5, .ptr 1 0 0), (10, A a0.fTxns), (11, I (a0.fTxns.length : Int)), (12, I x2), (18, A a0.fTxns), (19, I (a0.fTxns.length : Int)), (20, I x11), (21, B (decide (x11 < (a0.fTxns.length : Int))))] [sl 0 x12, sc 0 v7] ?_
 refine pwp_seq ?_
 refine pc h (fun h => ?_) (fun h => ?_)
 refine pwp_skip ?_
 refine pwp_seq ?_
 refine pwp_block ?_
 refine srvM [5, 7] 1 59 [(1, pf a0 0), (3, rf 0 0 3 x12), (4, I x2), (5, .ptr 1 0 0), (10, A a0.fTxns), (11, I (a0.fTxns.length : Int)), (12, I x2), (18, A a0.fTxns), (19, I (a0.fTxns.length : Int)), (20, I x11), (22, I x11)] [sl 0 x12, sc 0 v7] ?_
 obtain ⟨v16, hv17, h⟩ := bindS h
 refine opsP_idx τ_ok 23 hv17 (by kernel_rfl) ?_
 refine veM [5, 7] 4 59 [(1, pf a0 0), (3, rf 0 0 3 x12), (4, I x2), (5, .ptr 1 0 0), (6, I x11), (7, .ptr 2 0 0), (10, A a0.fTxns), (11, I (a0.fTxns.length : Int)), (12, I x2), (18, A a0.fTxns), (19, I (a0.fTxns.length : Int)), (20, I x11)] [sl 0 x12, sc 0 v7, sc 0 v16] ?_
 refine srveM [5, 7] 59 [(1, pf a0 0), (3, rf 0 0 3 x12), (4, I x2), (5, .ptr 1 0 0), (6, I x11), (7, .ptr 2 0 0), (8, I 1), (10, A a0.fTxns), (11, I (a0.fTxns.length : Int)), (12, I x2), (18, A a0.fTxns), (19, I (a0.fTxns.length : Int)), (20, I x11)] [sl 0 x12, sc 0 v7, sc 0 v16] ?_
 refine pwp_block ?_
 refine pwp_loop (ι := Nat × Int × (List T_impl_Edge)) (fun (f23, x21, x22) => (⟨59, [(1, pf a0 0), (3, rf 0 0 3 x22), (4, I x2), (5, .ptr 1 0 0), (6, I x11), (7, .ptr 2 0 0), (8, I x21), (10, A a0.fTxns), (11, I (a0.fTxns.length : Int)), (12, I x2), (18, A a0.fTxns), (19, I (a0.fTxns.length : Int)), (20, I x11)], [sl 0 x22, sc 0 v7, sc 0 v16]⟩ : St)) (fun (f23, x21, x22) => impl_House_edges_l2 x2 v7 x11 (impl_House_edges_l1 a0 x2 (impl_House_edges_l0 a0 f4) v7 f13) v16 f23 x21 x22 = some y) Prod.fst (FUEL, 1, x12) h (it [1, 3, 4, 5, 6, 7, 8, 10, 11, 12, 18, 19, 20]) ?_
 rintro ⟨f23, x21, x22⟩ h
 dsimp only at h ⊢
 rcases f23 with _ | f23
 cases h
 rw [impl_House_edges_l2] at h
 refine pwp_seq ?_
 refine srveM [5, 7] 59 [(1, pf a0 0), (3, rf 0 0 3 x22), (4, I x2), (5, .ptr 1 0 0), (6, I x11), (7, .ptr 2 0 0), (8, I x21), (10, A a0.fTxns), (11, I (a0.fTxns.length : Int)), (12, I x2), (18, A a0.fTxns), (19, I (a0.fTxns.length : Int)), (20, I x11), (26, B (decide (x21 ≤ 3)))] [sl 0 x22, sc 0 v7, sc 0 v16] ?_
 refine pc h (fun h => ?_) (fun h => ?_)
 refine pwp_skip ?_
 refine pwp_seq ?_
 refine pwp_join (σ := (List T_impl_Edge)) (fun x26 => (⟨59, [(1, pf a0 0), (3, rf 0 0 3 x26), (4, I x2), (5, .ptr 1 0 0), (6, I x11), (7, .ptr 2 0 0), (8, I x21), (10, A a0.fTxns), (11, I (a0.fTxns.length : Int)), (12, I x2), (18, A a0.fTxns), (19, I (a0.fTxns.length : Int)), (20, I x11)], [sl 0 x26, sc 0 v7, sc 0 v16]⟩ : St)) (fun x26 => impl_House_edges_j3 x21 (impl_House_edges_l2 x2 v7 x11 (impl_House_edges_l1 a0 x2 (impl_House_edges_l0 a0 f4) v7 f13) v16 f23) x26 = some y) ?_ ?_
 refine pwp_block ?_
 refine pwp_seq ?_
 refine pwp_join (σ := Bool) (fun x27 => (⟨59, [(1, pf a0 0), (3, rf 0 0 3 x22), (4, I x2), (5, .ptr 1 0 0), (6, I x11), (7, .ptr 2 0 0), (8, I x21), (10, A a0.fTxns), (11, I (a0.fTxns.length : Int)), (12, I x2), (18, A a0.fTxns), (19, I (a0.fTxns.length : Int)), (20, I x11), (47, B x27)], [sl 0 x22, sc 0 v7, sc 0 v16]⟩ : St)) (fun x27 => impl_House_edges_j4 x2 x11 x21 x22 (impl_House_edges_l2 x2 v7 x11 (impl_House_edges_l1 a0 x2 (impl_House_edges_l0 a0 f4) v7 f13) v16 f23) x27 = some y) ?_ ?_
 refine rvM [5, 7] 4 59 [(1, pf a0 0), (3, rf 0 0 3 x22), (4, I x2), (5, .ptr 1 0 0), (6, I x11), (7, .ptr 2 0 0), (8, I x21), (10, A a0.fTxns), (11, I (a0.fTxns.length : Int)), (12, I x2), (18, A a0.fTxns), (19, I (a0.fTxns.length : Int)), (20, I x11), (32, B (!(x2 == x11)))] [sl 0 x22, sc 0 v7, sc 0 v16] ?_
 rcases fk (!(x2 == x11)) with hc35 | hc35
 replace h := bT hc35 h
 rw [hc35]
 refine vM [5, 7] 5 59 [(1, pf a0 0), (3, rf 0 0 3 x22), (4, I x2), (5, .ptr 1 0 0), (6, I x11), (7, .ptr 2 0 0), (8, I x21), (10, A a0.fTxns), (11, I (a0.fTxns.length : Int)), (12, I x2), (18, A a0.fTxns), (19, I (a0.fTxns.length : Int)), (20, I x11), (33, .ptr 1 0 0), (34, I v7.fState), (35, B (v7.fState == 2)), (37, B (v7.fState == 2))] [sl 0 x22, sc 0 v7, sc 0 v16] ?_
 rcases fk (v7.fState == 2) with hc34 | hc34
 replace h := bT hc34 h
 rw [hc34]
 refine vM [5, 7] 5 59 [(1, pf a0 0), (3, rf 0 0 3 x22), (4, I x2), (5, .ptr 1 0 0), (6, I x11), (7, .ptr 2 0 0), (8, I x21), (10, A a0.fTxns), (11, I (a0.fTxns.length : Int)), (12, I x2), (18, A a0.fTxns), (19, I (a0.fTxns.length : Int)), (20, I x11), (33, .ptr 1 0 0), (34, I v7.fState), (35, B true), (38, .ptr 2 0 0), (39, I v16.fState), (40, B (v16.fState == 2)), (42, B (v16.fState == 2))] [sl 0 x22, sc 0 v7, sc 0 v16] ?_
 rcases fk (v16.fState == 2) with hc33 | hc33
 replace h := bT hc33 h
 rw [hc33]
 refine vM [5, 7] 3 59 [(1, pf a0 0), (3, rf 0 0 3 x22), (4, I x2), (5, .ptr 1 0 0), (6, I x11), (7, .ptr 2 0 0), (8, I x21), (10, A a0.fTxns), (11, I (a0.fTxns.length : Int)), (12, I x2), (18, A a0.fTxns), (19, I (a0.fTxns.length : Int)), (20, I x11), (33, .ptr 1 0 0), (34, I v7.fState), (35, B true), (38, .ptr 2 0 0), (39, I v16.fState), (40, B true), (42, B true), (43, E v7), (44, E v16), (45, I x21)] [sl 0 x22, sc 0 v7, sc 0 v16] ?_
 obtain ⟨v31, hv32, h⟩ := bindS h
 refine cF 46 (ok_impl_Txn_related hv32) ?_
 refine veM [5, 7] 1 59 [(1, pf a0 0), (3, rf 0 0 3 x22), (4, I x2), (5, .ptr 1 0 0), (6, I x11), (7, .ptr 2 0 0), (8, I x21), (10, A a0.fTxns), (11, I (a0.fTxns.length : Int)), (12, I x2), (18, A a0.fTxns), (19, I (a0.fTxns.length : Int)), (20, I x11), (33, .ptr 1 0 0), (34, I v7.fState), (35, B true), (38, .ptr 2 0 0), (39, I v16.fState), (40, B true), (43, E v7), (44, E v16), (45, I x21), (46, B v31), (47, B v31)] [sl 0 x22, sc 0 v7, sc 0 v16] ?_
 exact ⟨v31, h, it [1, 3, 4, 5, 6, 7, 8, 10, 11, 12, 18, 19, 20, 47]⟩
 replace h := bF hc33 h
 rw [hc33]
 refine veM [5, 7] 5 59 [(1, pf a0 0), (3, rf 0 0 3 x22), (4, I x2), (5, .ptr 1 0 0), (6, I x11), (7, .ptr 2 0 0), (8, I x21), (10, A a0.fTxns), (11, I (a0.fTxns.length : Int)), (12, I x2), (18, A a0.fTxns), (19, I (a0.fTxns.length : Int)), (20, I x11), (33, .ptr 1 0 0), (34, I v7.fState), (35, B true), (38, .ptr 2 0 0), (39, I v16.fState), (40, B false), (43, .lit undef), (44, .lit undef), (45, .lit undef), (46, .lit undef), (47, B false)] [sl 0 x22, sc 0 v7, sc 0 v16] ?_
 exact ⟨false, h, it [1, 3, 4, 5, 6, 7, 8, 10, 11, 12, 18, 19, 20, 47]⟩
 replace h := bF hc34 h
 rw [hc34]
 refine veM [5, 7] 10 59 [(1, pf a0 0), (3, rf 0 0 3 x22), (4, I x2), (5, .ptr 1 0 0), (6, I x11), (7, .ptr 2 0 0), (8, I x21), (10, A a0.fTxns), (11, I (a0.fTxns.length : Int)), (12, I x2), (18, A a0.fTxns), (19, I (a0.fTxns.length : Int)), (20, I x11), (33, .ptr 1 0 0), (34, I v7.fState), (35, B false), (38, .lit undef), (39, .lit undef), (40, .lit undef), (43, .lit undef), (44, .lit undef), (45, .lit undef), (46, .lit undef), (47, B false)] [sl 0 x22, sc 0 v7, sc 0 v16] ?_
 exact ⟨false, h, it [1, 3, 4, 5, 6, 7, 8, 10, 11, 12, 18, 19, 20, 47]⟩
 replace h := bF hc35 h
 rw [hc35]
 refine veM [5, 7] 15 59 [(1, pf a0 0), (3, rf 0 0 3 x22), (4, I x2), (5, .ptr 1 0 0), (6, I x11), (7, .ptr 2 0 0), (8, I x21), (10, A a0.fTxns), (11, I (a0.fTxns.length : Int)), (12, I x2), (18, A a0.fTxns), (19, I (a0.fTxns.length : Int)), (20, I x11), (33, .lit undef), (34, .lit undef), (35, .lit undef), (38, .lit undef), (39, .lit undef), (40, .lit undef), (43, .lit undef), (44, .lit undef), (45, .lit undef), (46, .lit undef), (47, B false)] [sl 0 x22, sc 0 v7, sc 0 v16] ?_
 exact ⟨false, h, it [1, 3, 4, 5, 6, 7, 8, 10, 11, 12, 18, 19, 20, 47]⟩
 rintro x27 h
 unfold impl_House_edges_j4 at h
 refine pc h (fun h => ?_) (fun h => ?_)
 refine rvM [5, 7] 6 59 [(1, pf a0 0), (4, I x2), (5, .ptr 1 0 0), (6, I x11), (7, .ptr 2 0 0), (8, I x21), (10, A a0.fTxns), (11, I (a0.fTxns.length : Int)), (12, I x2), (18, A a0.fTxns), (19, I (a0.fTxns.length : Int)), (20, I x11), (48, rf 0 0 3 x22), (53, .arr 3 ([(T_impl_Edge.mk x2 x11 x21)] : List T_impl_Edge).length (eL ([(T_impl_Edge.mk x2 x11 x21)] : List T_impl_Edge)) true)] [sl 0 x22, sc 0 v7, sc 0 v16] ?_
 obtain ⟨v29, hv30, h⟩ := bindS h
 refine opsP_app τ_ok 54 0 0 (nx hX) hv30 (by kernel_rfl) ?_
 refine veM [5, 7] 1 59 [(1, pf a0 0), (3, rf 0 1 3 v29), (4, I x2), (5, .ptr 1 0 0), (6, I x11), (7, .ptr 2 0 0), (8, I x21), (10, A a0.fTxns), (11, I (a0.fTxns.length : Int)), (12, I x2), (18, A a0.fTxns), (19, I (a0.fTxns.length : Int)), (20, I x11)] [sl 1 v29, sc 0 v7, sc 0 v16] ?_
 exact ⟨v29, h, (it (st' := ⟨59, [(1, pf a0 0), (3, rf 0 1 3 v29), (4, I x2), (5, .ptr 1 0 0), (6, I x11), (7, .ptr 2 0 0), (8, I x21), (10, A a0.fTxns), (11, I (a0.fTxns.length : Int)), (12, I x2), (18, A a0.fTxns), (19, I (a0.fTxns.length : Int)), (20, I x11)], [sl 1 v29, sc 0 v7, sc 0 v16]⟩) [1, 3, 4, 5, 6, 7, 8, 10, 11, 12, 18, 19, 20]).trans (Imp.reverS 0 1 (eL v29) [1, 3, 4, 5, 6, 7, 8, 10, 11, 12, 18, 19, 20] (by kernel_rfl) (by exact (And.intro (eL_frz _) (And.intro (rfl) (And.intro (rfl) trivial)))) (by kernel_rfl))⟩
 refine pwp_skip ?_
 exact ⟨x22, h, it [1, 3, 4, 5, 6, 7, 8, 10, 11, 12, 18, 19, 20]⟩
 rintro x26 h
 unfold impl_House_edges_j3 at h
 refine rveM [5, 7] 59 [(1, pf a0 0), (3, rf 0 0 3 x26), (4, I x2), (5, .ptr 1 0 0), (6, I x11), (7, .ptr 2 0 0), (8, I (w64 (x21 + 1))), (10, A a0.fTxns), (11, I (a0.fTxns.length : Int)), (12, I x2), (18, A a0.fTxns), (19, I (a0.fTxns.length : Int)), (20, I x11)] [sl 0 x26, sc 0 v7, sc 0 v16] ?_
 exact ⟨(f23, (w64 (x21 + 1)), x26), h, Nat.lt_succ_self _, it [1, 3, 4, 5, 6, 7, 8, 10, 11, 12, 18, 19, 20]⟩
 refine pwp_exit ?_
 refine rveM [5, 7] 59 [(1, pf a0 0), (3, rf 0 0 3 x22), (4, I x2), (5, .ptr 1 0 0), (10, A a0.fTxns), (11, I (a0.fTxns.length : Int)), (12, I x2), (18, A a0.fTxns), (19, I (a0.fTxns.length : Int)), (20, I (w64 (x11 + 1)))] [sl 0 x22, sc 0 v7, sc 0 v16] ?_
 exact ⟨(f13, (w64 (x11 + 1)), x22), h, Nat.lt_succ_self _, (it (st' := ⟨59, [(1, pf a0 0), (3, rf 0 0 3 x22), (4, I x2), (5, .ptr 1 0 0), (10, A a0.fTxns), (11, I (a0.fTxns.length : Int)), (12, I x2), (18, A a0.fTxns), (19, I (a0.fTxns.length : Int)), (20, I (w64 (x11 + 1)))], [sl 0 x22, sc 0 v7, sc 0 v16]⟩) [1, 3, 4, 5, 10, 11, 12, 18, 19, 20]).trans (Imp.truncS 2 (nx hX) (by kernel_rfl) (allBelow_mem (by exact (And.intro rfl (And.intro rfl (And.intro rfl (And.intro rfl (And.intro rfl (And.intro rfl (And.intro rfl (And.intro rfl (And.intro rfl (And.intro rfl trivial)))))))))))) (by exact (And.intro (frz_below (eL_frz _)) (And.intro (rfl) trivial))) (by kernel_rfl))⟩
 refine pwp_exit ?_
 refine rveM [5, 7] 59 [(1, pf a0 0), (3, rf 0 0 3 x12), (10, A a0.fTxns), (11, I (a0.fTxns.length : Int)), (12, I (w64 (x2 + 1)))] [sl 0 x12, sc 0 v7] ?_
 exact ⟨(f4, (w64 (x2 + 1)), x12), h, Nat.lt_succ_self _, (it (st' := ⟨59, [(1, pf a0 0), (3, rf 0 0 3 x12), (10, A a0.fTxns), (11, I (a0.fTxns.length : Int)), (12, I (w64 (x2 + 1)))], [sl 0 x12, sc 0 v7]⟩) [1, 3, 10, 11, 12]).trans (Imp.truncS 1 (nx hX) (by kernel_rfl) (allBelow_mem (by exact (And.intro rfl (And.intro rfl (And.intro rfl (And.intro rfl (And.intro rfl trivial))))))) (by exact (And.intro (frz_below (eL_frz _)) trivial)) (by kernel_rfl))⟩
 refine pwp_exit ?_
 refine srvM [5, 7] 1 59 [(57, rf 0 0 3 x3)] [sl 0 x3] ?_
 refine opsP_imp (Imp.freezeB (v := 0) (cs := eL x3) (st' := ⟨59, [(57, A x3)], [none]⟩) 0 0 (nx hX) (by kernel_rfl) (eL_frz _) (wholeC (whole_is (eL_len x3).symm) wholeC0) (HpRel.key HpRel.nil) (by kernel_rfl) rfl (nx hX)) ?_
 obtain ⟨v36, hv37, h⟩ := bindS h
 refine cF 58 (ok_slices_Clip_impl_Edge_impl_Edge hv37) ?_
 refine veM [5, 7] 1 59 [(2, A v36)] [none] ?_
 cases h
 exact pwp_ret rz
def spec_DangerOf_j4 (x1 : Int) (x6 : Int) (x10 : Int) (K12 : Int → Option (List Int)) (x14 : Bool) : Option (List Int) := bif x14 then some ([x1, x6, x10] : List Int) else K12 (w64 (x10 + 1))
def spec_DangerOf_l3 (a0 : T_impl_House) (x1 : Int) (x6 : Int) (K8 : Int → Option (List Int)) : Nat → Int → Option (List Int)
 | 0, _ => none
 | f11 + 1, x10 => bif (decide (x10 < 4)) then (spec_l15Edge a0 x1 x6 3).bind fun v16 => bif v16 then (spec_l15Edge a0 x6 x10 3).bind fun v18 => bif v18 then (getI a0.fTxns x1).bind fun v20 => (getI a0.fTxns x6).bind fun v22 => (spec_l15Beside v20 v22).bind fun v24 => bif v24 then (getI a0.fTxns x6).bind fun v26 => (getI a0.fTxns x10).bind fun v28 => (spec_l15Beside v26 v28).bind fun v30 => bif v30 then (getI a0.fTxns x10).bind fun v32 => (getI a0.fTxns x6).bind fun v34 => bif (decide (v32.fEnd < v34.fEnd)) then (getI a0.fTxns x10).bind fun v36 => (getI a0.fTxns x1).bind fun v38 => spec_DangerOf_j4 x1 x6 x10 (spec_DangerOf_l3 a0 x1 x6 K8 f11) (decide (v36.fEnd ≤ v38.fEnd)) else spec_DangerOf_j4 x1 x6 x10 (spec_DangerOf_l3 a0 x1 x6 K8 f11) false else spec_DangerOf_j4 x1 x6 x10 (spec_DangerOf_l3 a0 x1 x6 K8 f11) false else spec_DangerOf_j4 x1 x6 x10 (spec_DangerOf_l3 a0 x1 x6 K8 f11) false else spec_DangerOf_j4 x1 x6 x10 (spec_DangerOf_l3 a0 x1 x6 K8 f11) false else spec_DangerOf_j4 x1 x6 x10 (spec_DangerOf_l3 a0 x1 x6 K8 f11) false else K8 (w64 (x6 + 1))
def spec_DangerOf_l2 (a0 : T_impl_House) (x1 : Int) (K3 : Int → Option (List Int)) : Nat → Int → Option (List Int)
 | 0, _ => none
 | f7 + 1, x6 => bif (decide (x6 < 4)) then spec_DangerOf_l3 a0 x1 x6 (spec_DangerOf_l2 a0 x1 K3 f7) FUEL 0 else K3 (w64 (x1 + 1))
def spec_DangerOf_j1 (a0 : T_impl_House) (x1 : Int) (K3 : Int → Option (List Int)) (x4 : Bool) : Option (List Int) := bif x4 then spec_DangerOf_l2 a0 x1 K3 FUEL 0 else some ([] : List Int)
def spec_DangerOf_l0 (a0 : T_impl_House) : Nat → Int → Option (List Int)
 | 0, _ => none
 | f2 + 1, x1 => bif (decide (x1 < 4)) then (spec_HouseOk a0).bind fun v45 => spec_DangerOf_j1 a0 x1 (spec_DangerOf_l0 a0 f2) v45 else spec_DangerOf_j1 a0 x1 (spec_DangerOf_l0 a0 f2) false
def spec_DangerOf (a0 : T_impl_House) : Option (List Int) := spec_DangerOf_l0 a0 FUEL 0
theorem ok_spec_DangerOf {a0 : T_impl_House} {y : List Int} (h : spec_DangerOf a0 = some y) : OK Try.prog 23 [E a0] (A y) := by
 refine ow Try.func23 fun Γ hX => ?_
 unfold spec_DangerOf at h
 refine srve 93 [(1, pf a0 0)] [] ?_
 refine pwp_seq ?_
 refine srve 93 [(1, pf a0 0), (3, I 0)] [] ?_
 refine pwp_block ?_
 refine pwp_loop (ι := Nat × Int) (fun (f2, x1) => (⟨93, [(1, pf a0 0), (3, I x1)], []⟩ : St)) (fun (f2, x1) => spec_DangerOf_l0 a0 f2 x1 = some y) Prod.fst (FUEL, 0) h (it [1, 3]) ?_
 rintro ⟨f2, x1⟩ h
 dsimp only at h ⊢
 rcases f2 with _ | f2
 cases h
 rw [spec_DangerOf_l0] at h
 refine pwp_seq ?_
 refine pwp_seq ?_
 refine pwp_join (σ := Bool) (fun x4 => (⟨93, [(1, pf a0 0), (3, I x1), (11, B x4)], []⟩ : St)) (fun x4 => spec_DangerOf_j1 a0 x1 (spec_DangerOf_l0 a0 f2) x4 = some y) ?_ ?_
 refine rv 3 93 [(1, pf a0 0), (3, I x1), (8, B (decide (x1 < 4)))] [] ?_
 rcases fk (decide (x1 < 4)) with hc47 | hc47
 replace h := bT hc47 h
 rw [hc47]
 refine v 1 93 [(1, pf a0 0), (3, I x1), (8, B true), (9, E a0)] [] ?_
 obtain ⟨v45, hv46, h⟩ := bindS h
 refine cF 10 (ok_spec_HouseOk hv46) ?_
 refine ve 1 93 [(1, pf a0 0), (3, I x1), (9, E a0), (10, B v45), (11, B v45)] [] ?_
 exact ⟨v45, h, it [1, 3, 11]⟩
 replace h := bF hc47 h
 rw [hc47]
 refine ve 3 93 [(1, pf a0 0), (3, I x1), (9, .lit undef), (10, .lit undef), (11, B false)] [] ?_
 exact ⟨false, h, it [1, 3, 11]⟩
 rintro x4 h
 unfold spec_DangerOf_j1 at h
 refine pc h (fun h => ?_) (fun h => ?_)
 refine pwp_skip ?_
 refine pwp_seq ?_
 refine pwp_block ?_
 refine srve 93 [(1, pf a0 0), (3, I x1), (4, I 0)] [] ?_
 refine pwp_block ?_
 refine pwp_loop (ι := Nat × Int) (fun (f7, x6) => (⟨93, [(1, pf a0 0), (3, I x1), (4, I x6)], []⟩ : St)) (fun (f7, x6) => spec_DangerOf_l2 a0 x1 (spec_DangerOf_l0 a0 f2) f7 x6 = some y) Prod.fst (FUEL, 0) h (it [1, 3, 4]) ?_
 rintro ⟨f7, x6⟩ h
 dsimp only at h ⊢
 rcases f7 with _ | f7
 cases h
 rw [spec_DangerOf_l2] at h
 refine pwp_seq ?_
 refine srve 93 [(1, pf a0 0), (3, I x1), (4, I x6), (15, B (decide (x6 < 4)))] [] ?_
 refine pc h (fun h => ?_) (fun h => ?_)
 refine pwp_skip ?_
 refine pwp_seq ?_
 refine pwp_block ?_
 refine srve 93 [(1, pf a0 0), (3, I x1), (4, I x6), (5, I 0)] [] ?_
 refine pwp_block ?_
 refine pwp_loop (ι := Nat × Int) (fun (f11, x10) => (⟨93, [(1, pf a0 0), (3, I x1), (4, I x6), (5, I x10)], []⟩ : St)) (fun (f11, x10) => spec_DangerOf_l3 a0 x1 x6 (spec_DangerOf_l2 a0 x1 (spec_DangerOf_l0 a0 f2) f7) f11 x10 = some y) Prod.fst (FUEL, 0) h (it [1, 3, 4, 5]) ?_
 rintro ⟨f11, x10⟩ h
 dsimp only at h ⊢
 rcases f11 with _ | f11
 cases h
 rw [spec_DangerOf_l3] at h
 refine pwp_seq ?_
 refine srve 93 [(1, pf a0 0), (3, I x1), (4, I x6), (5, I x10), (19, B (decide (x10 < 4)))] [] ?_
 refine pc h (fun h => ?_) (fun h => ?_)
 refine pwp_skip ?_
 refine pwp_seq ?_
 refine pwp_block ?_
 refine pwp_seq ?_
 refine pwp_join (σ := Bool) (fun x14 => (⟨93, [(1, pf a0 0), (3, I x1), (4, I x6), (5, I x10), (87, B x14)], []⟩ : St)) (fun x14 => spec_DangerOf_j4 x1 x6 x10 (spec_DangerOf_l3 a0 x1 x6 (spec_DangerOf_l2 a0 x1 (spec_DangerOf_l0 a0 f2) f7) f11) x14 = some y) ?_ ?_
 refine ip 93 [(1, pf a0 0), (3, I x1), (4, I x6), (5, I x10)] [] ?_
 refine pN 66 ?_
 refine qv [] trivial 3 93 [(24, I x6), (23, I x1), (22, E a0), (1, pf a0 0), (3, I x1), (4, I x6), (5, I x10)] [] ?_
 obtain ⟨v16, hv17, h⟩ := bindS h
 refine qX (some 25) (B v16) 93 [(25, B v16), (1, pf a0 0), (3, I x1), (4, I x6), (5, I x10)] [] (fun Γ' hΓ => CoreE.of_g (callV_sound (τ := τ) (by kernel_rfl) rfl (ok_spec_l15Edge hv17) (FzTo.frz rfl))) trivial ?_
 refine qv [] trivial 1 93 [(26, B v16), (1, pf a0 0), (3, I x1), (4, I x6), (5, I x10)] [] ?_
 rcases Bool.eq_false_or_eq_true v16 with hc44 | hc44
 replace h := bT hc44 h
 rw [hc44]
 refine qv [] trivial 3 93 [(29, I x10), (28, I x6), (27, E a0), (26, B true), (1, pf a0 0), (3, I x1), (4, I x6), (5, I x10)] [] ?_
 obtain ⟨v18, hv19, h⟩ := bindS h
 refine qX (some 30) (B v18) 93 [(30, B v18), (29, I x10), (28, I x6), (27, E a0), (26, B true), (1, pf a0 0), (3, I x1), (4, I x6), (5, I x10)] [] (fun Γ' hΓ => CoreE.of_g (callV_sound (τ := τ) (by kernel_rfl) rfl (ok_spec_l15Edge hv19) (FzTo.frz rfl))) trivial ?_
 refine qv [] trivial 2 93 [(32, B v18), (30, B v18), (29, I x10), (28, I x6), (27, E a0), (1, pf a0 0), (3, I x1), (4, I x6), (5, I x10)] [] ?_
 rcases Bool.eq_false_or_eq_true v18 with hc43 | hc43
 replace h := bT hc43 h
 rw [hc43]
 refine qv [] trivial 3 93 [(35, I x1), (34, A a0.fTxns), (33, pf a0 2), (32, B true), (30, B true), (29, I x10), (28, I x6), (27, E a0), (1, pf a0 0), (3, I x1), (4, I x6), (5, I x10)] [] ?_
 obtain ⟨v20, hv21, h⟩ := bindS h
 refine qX (some 36) (pf v20 0) 93 [(36, pf v20 0), (35, I x1), (34, A a0.fTxns), (33, pf a0 2), (32, B true), (30, B true), (29, I x10), (28, I x6), (27, E a0), (1, pf a0 0), (3, I x1), (4, I x6), (5, I x10)] [] (fun Γ' hΓ => CoreE.of_y (idxV_sound τ_ok (by kernel_rfl) hv21)) trivial ?_
 refine qv [] trivial 4 93 [(40, I x6), (39, A a0.fTxns), (38, pf a0 2), (37, E v20), (36, pf v20 0), (35, I x1), (34, A a0.fTxns), (33, pf a0 2), (32, B true), (30, B true), (29, I x10), (28, I x6), (27, E a0), (1, pf a0 0), (3, I x1), (4, I x6), (5, I x10)] [] ?_
 obtain ⟨v22, hv23, h⟩ := bindS h
 refine qX (some 41) (pf v22 0) 93 [(41, pf v22 0), (40, I x6), (39, A a0.fTxns), (38, pf a0 2), (37, E v20), (36, pf v20 0), (35, I x1), (34, A a0.fTxns), (33, pf a0 2), (32, B true), (30, B true), (29, I x10), (28, I x6), (27, E a0), (1, pf a0 0), (3, I x1), (4, I x6), (5, I x10)] [] (fun Γ' hΓ => CoreE.of_y (idxV_sound τ_ok (by kernel_rfl) hv23)) trivial ?_
 refine qv [] trivial 1 93 [(42, E v22), (41, pf v22 0), (40, I x6), (39, A a0.fTxns), (38, pf a0 2), (37, E v20), (36, pf v20 0), (35, I x1), (34, A a0.fTxns), (33, pf a0 2), (32, B true), (30, B true), (29, I x10), (28, I x6), (27, E a0), (1, pf a0 0), (3, I x1), (4, I x6), (5, I x10)] [] ?_
 obtain ⟨v24, hv25, h⟩ := bindS h
 refine qX (some 43) (B v24) 93 [(43, B v24), (42, E v22), (41, pf v22 0), (40, I x6), (39, A a0.fTxns), (38, pf a0 2), (37, E v20), (36, pf v20 0), (35, I x1), (34, A a0.fTxns), (33, pf a0 2), (32, B true), (30, B true), (29, I x10), (28, I x6), (27, E a0), (1, pf a0 0), (3, I x1), (4, I x6), (5, I x10)] [] (fun Γ' hΓ => CoreE.of_g (callV_sound (τ := τ) (by kernel_rfl) rfl (ok_spec_l15Beside hv25) (FzTo.frz rfl))) trivial ?_
 refine qv [] trivial 2 93 [(45, B v24), (43, B v24), (42, E v22), (41, pf v22 0), (40, I x6), (39, A a0.fTxns), (38, pf a0 2), (37, E v20), (36, pf v20 0), (35, I x1), (34, A a0.fTxns), (33, pf a0 2), (30, B true), (29, I x10), (28, I x6), (27, E a0), (1, pf a0 0), (3, I x1), (4, I x6), (5, I x10)] [] ?_
 rcases Bool.eq_false_or_eq_true v24 with hc42 | hc42
 replace h := bT hc42 h
 rw [hc42]
 refine qv [] trivial 3 93 [(48, I x6), (47, A a0.fTxns), (46, pf a0 2), (45, B true), (43, B true), (42, E v22), (41, pf v22 0), (40, I x6), (39, A a0.fTxns), (38, pf a0 2), (37, E v20), (36, pf v20 0), (35, I x1), (34, A a0.fTxns), (33, pf a0 2), (30, B true), (29, I x10), (28, I x6), (27, E a0), (1, pf a0 0), (3, I x1), (4, I x6), (5, I x10)] [] ?_
 obtain ⟨v26, hv27, h⟩ := bindS h
 refine qX (some 49) (pf v26 0) 93 [(49, pf v26 0), (48, I x6), (47, A a0.fTxns), (46, pf a0 2), (45, B true), (43, B true), (42, E v22), (41, pf v22 0), (40, I x6), (39, A a0.fTxns), (38, pf a0 2), (37, E v20), (36, pf v20 0), (35, I x1), (34, A a0.fTxns), (33, pf a0 2), (30, B true), (29, I x10), (28, I x6), (27, E a0), (1, pf a0 0), (3, I x1), (4, I x6), (5, I x10)] [] (fun Γ' hΓ => CoreE.of_y (idxV_sound τ_ok (by kernel_rfl) hv27)) trivial ?_
 refine qv [] trivial 4 93 [(53, I x10), (52, A a0.fTxns), (51, pf a0 2), (50, E v26), (49, pf v26 0), (48, I x6), (47, A a0.fTxns), (46, pf a0 2), (45, B true), (43, B true), (42, E v22), (41, pf v22 0), (40, I x6), (39, A a0.fTxns), (38, pf a0 2), (37, E v20), (36, pf v20 0), (35, I x1), (34, A a0.fTxns), (33, pf a0 2), (30, B true), (29, I x10), (28, I x6), (27, E a0), (1, pf a0 0), (3, I x1), (4, I x6), (5, I x10)] [] ?_
 obtain ⟨v28, hv29, h⟩ := bindS h
 refine qX (some 54) (pf v28 0) 93 [(54, pf v28 0), (53, I x10), (52, A a0.fTxns), (51, pf a0 2), (50, E v26), (49, pf v26 0), (48, I x6), (47, A a0.fTxns), (46, pf a0 2), (45, B true), (43, B true), (42, E v22), (41, pf v22 0), (40, I x6), (39, A a0.fTxns), (38, pf a0 2), (37, E v20), (36, pf v20 0), (35, I x1), (34, A a0.fTxns), (33, pf a0 2), (30, B true), (29, I x10), (28, I x6), (27, E a0), (1, pf a0 0), (3, I x1), (4, I x6), (5, I x10)] [] (fun Γ' hΓ => CoreE.of_y (idxV_sound τ_ok (by kernel_rfl) hv29)) trivial ?_
 refine qv [] trivial 1 93 [(55, E v28), (54, pf v28 0), (53, I x10), (52, A a0.fTxns), (51, pf a0 2), (50, E v26), (49, pf v26 0), (48, I x6), (47, A a0.fTxns), (46, pf a0 2), (45, B true), (43, B true), (42, E v22), (41, pf v22 0), (40, I x6), (39, A a0.fTxns), (38, pf a0 2), (37, E v20), (36, pf v20 0), (35, I x1), (34, A a0.fTxns), (33, pf a0 2), (30, B true), (29, I x10), (28, I x6), (27, E a0), (1, pf a0 0), (3, I x1), (4, I x6), (5, I x10)] [] ?_
 obtain ⟨v30, hv31, h⟩ := bindS h
 refine qX (some 56) (B v30) 93 [(56, B v30), (55, E v28), (54, pf v28 0), (53, I x10), (52, A a0.fTxns), (51, pf a0 2), (50, E v26), (49, pf v26 0), (48, I x6), (47, A a0.fTxns), (46, pf a0 2), (45, B true), (43, B true), (42, E v22), (41, pf v22 0), (40, I x6), (39, A a0.fTxns), (38, pf a0 2), (37, E v20), (36, pf v20 0), (35, I x1), (34, A a0.fTxns), (33, pf a0 2), (30, B true), (29, I x10), (28, I x6), (27, E a0), (1, pf a0 0), (3, I x1), (4, I x6), (5, I x10)] [] (fun Γ' hΓ => CoreE.of_g (callV_sound (τ := τ) (by kernel_rfl) rfl (ok_spec_l15Beside hv31) (FzTo.frz rfl))) trivial ?_
 refine qv [] trivial 2 93 [(58, B v30), (56, B v30), (55, E v28), (54, pf v28 0), (53, I x10), (52, A a0.fTxns), (51, pf a0 2), (50, E v26), (49, pf v26 0), (48, I x6), (47, A a0.fTxns), (46, pf a0 2), (43, B true), (42, E v22), (41, pf v22 0), (40, I x6), (39, A a0.fTxns), (38, pf a0 2), (37, E v20), (36, pf v20 0), (35, I x1), (34, A a0.fTxns), (33, pf a0 2), (30, B true), (29, I x10), (28, I x6), (27, E a0), (1, pf a0 0), (3, I x1), (4, I x6), (5, I x10)] [] ?_
 rcases Bool.eq_false_or_eq_true v30 with hc41 | hc41
 replace h := bT hc41 h
 rw [hc41]
 refine qv [] trivial 3 93 [(61, I x10), (60, A a0.fTxns), (59, pf a0 2), (58, B true), (56, B true), (55, E v28), (54, pf v28 0), (53, I x10), (52, A a0.fTxns), (51, pf a0 2), (50, E v26), (49, pf v26 0), (48, I x6), (47, A a0.fTxns), (46, pf a0 2), (43, B true), (42, E v22), (41, pf v22 0), (40, I x6), (39, A a0.fTxns), (38, pf a0 2), (37, E v20), (36, pf v20 0), (35, I x1), (34, A a0.fTxns), (33, pf a0 2), (30, B true), (29, I x10), (28, I x6), (27, E a0), (1, pf a0 0), (3, I x1), (4, I x6), (5, I x10)] [] ?_
 obtain ⟨v32, hv33, h⟩ := bindS h
 refine qX (some 62) (pf v32 0) 93 [(62, pf v32 0), (61, I x10), (60, A a0.fTxns), (59, pf a0 2), (58, B true), (56, B true), (55, E v28), (54, pf v28 0), (53, I x10), (52, A a0.fTxns), (51, pf a0 2), (50, E v26), (49, pf v26 0), (48, I x6), (47, A a0.fTxns), (46, pf a0 2), (43, B true), (42, E v22), (41, pf v22 0), (40, I x6), (39, A a0.fTxns), (38, pf a0 2), (37, E v20), (36, pf v20 0), (35, I x1), (34, A a0.fTxns), (33, pf a0 2), (30, B true), (29, I x10), (28, I x6), (27, E a0), (1, pf a0 0), (3, I x1), (4, I x6), (5, I x10)] [] (fun Γ' hΓ => CoreE.of_y (idxV_sound τ_ok (by kernel_rfl) hv33)) trivial ?_
 refine qv [] trivial 5 93 [(67, I x6), (66, A a0.fTxns), (65, pf a0 2), (64, I v32.fEnd), (63, pf v32 2), (62, pf v32 0), (61, I x10), (60, A a0.fTxns), (59, pf a0 2), (58, B true), (56, B true), (55, E v28), (54, pf v28 0), (53, I x10), (52, A a0.fTxns), (51, pf a0 2), (50, E v26), (49, pf v26 0), (48, I x6), (47, A a0.fTxns), (46, pf a0 2), (43, B true), (42, E v22), (41, pf v22 0), (40, I x6), (39, A a0.fTxns), (38, pf a0 2), (37, E v20), (36, pf v20 0), (35, I x1), (34, A a0.fTxns), (33, pf a0 2), (30, B true), (29, I x10), (28, I x6), (27, E a0), (1, pf a0 0), (3, I x1), (4, I x6), (5, I x10)] [] ?_
 obtain ⟨v34, hv35, h⟩ := bindS h
 refine qX (some 68) (pf v34 0) 93 [(68, pf v34 0), (67, I x6), (66, A a0.fTxns), (65, pf a0 2), (64, I v32.fEnd), (63, pf v32 2), (62, pf v32 0), (61, I x10), (60, A a0.fTxns), (59, pf a0 2), (58, B true), (56, B true), (55, E v28), (54, pf v28 0), (53, I x10), (52, A a0.fTxns), (51, pf a0 2), (50, E v26), (49, pf v26 0), (48, I x6), (47, A a0.fTxns), (46, pf a0 2), (43, B true), (42, E v22), (41, pf v22 0), (40, I x6), (39, A a0.fTxns), (38, pf a0 2), (37, E v20), (36, pf v20 0), (35, I x1), (34, A a0.fTxns), (33, pf a0 2), (30, B true), (29, I x10), (28, I x6), (27, E a0), (1, pf a0 0), (3, I x1), (4, I x6), (5, I x10)] [] (fun Γ' hΓ => CoreE.of_y (idxV_sound τ_ok (by kernel_rfl) hv35)) trivial ?_
 refine qv [] trivial 5 93 [(73, B (decide (v32.fEnd < v34.fEnd))), (71, B (decide (v32.fEnd < v34.fEnd))), (70, I v34.fEnd), (69, pf v34 2), (68, pf v34 0), (67, I x6), (66, A a0.fTxns), (65, pf a0 2), (64, I v32.fEnd), (63, pf v32 2), (62, pf v32 0), (61, I x10), (60, A a0.fTxns), (59, pf a0 2), (56, B true), (55, E v28), (54, pf v28 0), (53, I x10), (52, A a0.fTxns), (51, pf a0 2), (50, E v26), (49, pf v26 0), (48, I x6), (47, A a0.fTxns), (46, pf a0 2), (43, B true), (42, E v22), (41, pf v22 0), (40, I x6), (39, A a0.fTxns), (38, pf a0 2), (37, E v20), (36, pf v20 0), (35, I x1), (34, A a0.fTxns), (33, pf a0 2), (30, B true), (29, I x10), (28, I x6), (27, E a0), (1, pf a0 0), (3, I x1), (4, I x6), (5, I x10)] [] ?_
 rcases fk (decide (v32.fEnd < v34.fEnd)) with hc40 | hc40
 replace h := bT hc40 h
 rw [hc40]
 refine qv [] trivial 3 93 [(76, I x10), (75, A a0.fTxns), (74, pf a0 2), (73, B true), (71, B true), (70, I v34.fEnd), (69, pf v34 2), (68, pf v34 0), (67, I x6), (66, A a0.fTxns), (65, pf a0 2), (64, I v32.fEnd), (63, pf v32 2), (62, pf v32 0), (61, I x10), (60, A a0.fTxns), (59, pf a0 2), (56, B true), (55, E v28), (54, pf v28 0), (53, I x10), (52, A a0.fTxns), (51, pf a0 2), (50, E v26), (49, pf v26 0), (48, I x6), (47, A a0.fTxns), (46, pf a0 2), (43, B true), (42, E v22), (41, pf v22 0), (40, I x6), (39, A a0.fTxns), (38, pf a0 2), (37, E v20), (36, pf v20 0), (35, I x1), (34, A a0.fTxns), (33, pf a0 2), (30, B true), (29, I x10), (28, I x6), (27, E a0), (1, pf a0 0), (3, I x1), (4, I x6), (5, I x10)] [] ?_
 obtain ⟨v36, hv37, h⟩ := bindS h
 refine qX (some 77) (pf v36 0) 93 [(77, pf v36 0), (76, I x10), (75, A a0.fTxns), (74, pf a0 2), (73, B true), (71, B true), (70, I v34.fEnd), (69, pf v34 2), (68, pf v34 0), (67, I x6), (66, A a0.fTxns), (65, pf a0 2), (64, I v32.fEnd), (63, pf v32 2), (62, pf v32 0), (61, I x10), (60, A a0.fTxns), (59, pf a0 2), (56, B true), (55, E v28), (54, pf v28 0), (53, I x10), (52, A a0.fTxns), (51, pf a0 2), (50, E v26), (49, pf v26 0), (48, I x6), (47, A a0.fTxns), (46, pf a0 2), (43, B true), (42, E v22), (41, pf v22 0), (40, I x6), (39, A a0.fTxns), (38, pf a0 2), (37, E v20), (36, pf v20 0), (35, I x1), (34, A a0.fTxns), (33, pf a0 2), (30, B true), (29, I x10), (28, I x6), (27, E a0), (1, pf a0 0), (3, I x1), (4, I x6), (5, I x10)] [] (fun Γ' hΓ => CoreE.of_y (idxV_sound τ_ok (by kernel_rfl) hv37)) trivial ?_
 refine qv [] trivial 5 93 [(82, I x1), (81, A a0.fTxns), (80, pf a0 2), (79, I v36.fEnd), (78, pf v36 2), (77, pf v36 0), (76, I x10), (75, A a0.fTxns), (74, pf a0 2), (73, B true), (71, B true), (70, I v34.fEnd), (69, pf v34 2), (68, pf v34 0), (67, I x6), (66, A a0.fTxns), (65, pf a0 2), (64, I v32.fEnd), (63, pf v32 2), (62, pf v32 0), (61, I x10), (60, A a0.fTxns), (59, pf a0 2), (56, B true), (55, E v28), (54, pf v28 0), (53, I x10), (52, A a0.fTxns), (51, pf a0 2), (50, E v26), (49, pf v26 0), (48, I x6), (47, A a0.fTxns), (46, pf a0 2), (43, B true), (42, E v22), (41, pf v22 0), (40, I x6), (39, A a0.fTxns), (38, pf a0 2), (37, E v20), (36, pf v20 0), (35, I x1), (34, A a0.fTxns), (33, pf a0 2), (30, B true), (29, I x10), (28, I x6), (27, E a0), (1, pf a0 0), (3, I x1), (4, I x6), (5, I x10)] [] ?_
 obtain ⟨v38, hv39, h⟩ := bindS h
 refine qX (some 83) (pf v38 0) 93 [(83, pf v38 0), (82, I x1), (81, A a0.fTxns), (80, pf a0 2), (79, I v36.fEnd), (78, pf v36 2), (77, pf v36 0), (76, I x10), (75, A a0.fTxns), (74, pf a0 2), (73, B true), (71, B true), (70, I v34.fEnd), (69, pf v34 2), (68, pf v34 0), (67, I x6), (66, A a0.fTxns), (65, pf a0 2), (64, I v32.fEnd), (63, pf v32 2), (62, pf v32 0), (61, I x10), (60, A a0.fTxns), (59, pf a0 2), (56, B true), (55, E v28), (54, pf v28 0), (53, I x10), (52, A a0.fTxns), (51, pf a0 2), (50, E v26), (49, pf v26 0), (48, I x6), (47, A a0.fTxns), (46, pf a0 2), (43, B true), (42, E v22), (41, pf v22 0), (40, I x6), (39, A a0.fTxns), (38, pf a0 2), (37, E v20), (36, pf v20 0), (35, I x1), (34, A a0.fTxns), (33, pf a0 2), (30, B true), (29, I x10), (28, I x6), (27, E a0), (1, pf a0 0), (3, I x1), (4, I x6), (5, I x10)] [] (fun Γ' hΓ => CoreE.of_y (idxV_sound τ_ok (by kernel_rfl) hv39)) trivial ?_
 refine qvn [] trivial 4 93 [(1, pf a0 0), (3, I x1), (4, I x6), (5, I x10), (27, E a0), (28, I x6), (29, I x10), (30, B true), (33, pf a0 2), (34, A a0.fTxns), (35, I x1), (36, pf v20 0), (37, E v20), (38, pf a0 2), (39, A a0.fTxns), (40, I x6), (41, pf v22 0), (42, E v22), (43, B true), (46, pf a0 2), (47, A a0.fTxns), (48, I x6), (49, pf v26 0), (50, E v26), (51, pf a0 2), (52, A a0.fTxns), (53, I x10), (54, pf v28 0), (55, E v28), (56, B true), (59, pf a0 2), (60, A a0.fTxns), (61, I x10), (62, pf v32 0), (63, pf v32 2), (64, I v32.fEnd), (65, pf a0 2), (66, A a0.fTxns), (67, I x6), (68, pf v34 0), (69, pf v34 2), (70, I v34.fEnd), (71, B true), (74, pf a0 2), (75, A a0.fTxns), (76, I x10), (77, pf v36 0), (78, pf v36 2), (79, I v36.fEnd), (80, pf a0 2), (81, A a0.fTxns), (82, I x1), (83, pf v38 0), (84, pf v38 2), (85, I v38.fEnd), (86, B (decide (v36.fEnd ≤ v38.fEnd))), (87, B (decide (v36.fEnd ≤ v38.fEnd)))] [] ?_
 exact ⟨(decide (v36.fEnd ≤ v38.fEnd)), h, it [1, 3, 4, 5, 87]⟩
 replace h := bF hc40 h
 rw [hc40]
 refine qvn [] trivial 14 93 [(1, pf a0 0), (3, I x1), (4, I x6), (5, I x10), (27, E a0), (28, I x6), (29, I x10), (30, B true), (33, pf a0 2), (34, A a0.fTxns), (35, I x1), (36, pf v20 0), (37, E v20), (38, pf a0 2), (39, A a0.fTxns), (40, I x6), (41, pf v22 0), (42, E v22), (43, B true), (46, pf a0 2), (47, A a0.fTxns), (48, I x6), (49, pf v26 0), (50, E v26), (51, pf a0 2), (52, A a0.fTxns), (53, I x10), (54, pf v28 0), (55, E v28), (56, B true), (59, pf a0 2), (60, A a0.fTxns), (61, I x10), (62, pf v32 0), (63, pf v32 2), (64, I v32.fEnd), (65, pf a0 2), (66, A a0.fTxns), (67, I x6), (68, pf v34 0), (69, pf v34 2), (70, I v34.fEnd), (71, B false), (74, .lit undef), (75, .lit undef), (76, .lit undef), (77, .lit undef), (78, .lit undef), (79, .lit undef), (80, .lit undef), (81, .lit undef), (82, .lit undef), (83, .lit undef), (84, .lit undef), (85, .lit undef), (86, .lit undef), (87, B false)] [] ?_
 exact ⟨false, h, it [1, 3, 4, 5, 87]⟩
 replace h := bF hc41 h
 rw [hc41]
 refine qvn [] trivial 29 93 [(1, pf a0 0), (3, I x1), (4, I x6), (5, I x10), (27, E a0), (28, I x6), (29, I x10), (30, B true), (33, pf a0 2), (34, A a0.fTxns), (35, I x1), (36, pf v20 0), (37, E v20), (38, pf a0 2), (39, A a0.fTxns), (40, I x6), (41, pf v22 0), (42, E v22), (43, B true), (46, pf a0 2), (47, A a0.fTxns), (48, I x6), (49, pf v26 0), (50, E v26), (51, pf a0 2), (52, A a0.fTxns), (53, I x10), (54, pf v28 0), (55, E v28), (56, B false), (59, .lit undef), (60, .lit undef), (61, .lit undef), (62, .lit undef), (63, .lit undef), (64, .lit undef), (65, .lit undef), (66, .lit undef), (67, .lit undef), (68, .lit undef), (69, .lit undef), (70, .lit undef), (71, .lit undef), (74, .lit undef), (75, .lit undef), (76, .lit undef), (77, .lit undef), (78, .lit undef), (79, .lit undef), (80, .lit undef), (81, .lit undef), (82, .lit undef), (83, .lit undef), (84, .lit undef), (85, .lit undef), (86, .lit undef), (87, B false)] [] ?_
 exact ⟨false, h, it [1, 3, 4, 5, 87]⟩
 replace h := bF hc42 h
 rw [hc42]
 refine qvn [] trivial 42 93 [(1, pf a0 0), (3, I x1), (4, I x6), (5, I x10), (27, E a0), (28, I x6), (29, I x10), (30, B true), (33, pf a0 2), (34, A a0.fTxns), (35, I x1), (36, pf v20 0), (37, E v20), (38, pf a0 2), (39, A a0.fTxns), (40, I x6), (41, pf v22 0), (42, E v22), (43, B false), (46, .lit undef), (47, .lit undef), (48, .lit undef), (49, .lit undef), (50, .lit undef), (51, .lit undef), (52, .lit undef), (53, .lit undef), (54, .lit undef), (55, .lit undef), (56, .lit undef), (59, .lit undef), (60, .lit undef), (61, .lit undef), (62, .lit undef), (63, .lit undef), (64, .lit undef), (65, .lit undef), (66, .lit undef), (67, .lit undef), (68, .lit undef), (69, .lit undef), (70, .lit undef), (71, .lit undef), (74, .lit undef), (75, .lit undef), (76, .lit undef), (77, .lit undef), (78, .lit undef), (79, .lit undef), (80, .lit undef), (81, .lit undef), (82, .lit undef), (83, .lit undef), (84, .lit undef), (85, .lit undef), (86, .lit undef), (87, B false)] [] ?_
 exact ⟨false, h, it [1, 3, 4, 5, 87]⟩
 replace h := bF hc43 h
 rw [hc43]
 refine qvn [] trivial 55 93 [(1, pf a0 0), (3, I x1), (4, I x6), (5, I x10), (27, E a0), (28, I x6), (29, I x10), (30, B false), (33, .lit undef), (34, .lit undef), (35, .lit undef), (36, .lit undef), (37, .lit undef), (38, .lit undef), (39, .lit undef), (40, .lit undef), (41, .lit undef), (42, .lit undef), (43, .lit undef), (46, .lit undef), (47, .lit undef), (48, .lit undef), (49, .lit undef), (50, .lit undef), (51, .lit undef), (52, .lit undef), (53, .lit undef), (54, .lit undef), (55, .lit undef), (56, .lit undef), (59, .lit undef), (60, .lit undef), (61, .lit undef), (62, .lit undef), (63, .lit undef), (64, .lit undef), (65, .lit undef), (66, .lit undef), (67, .lit undef), (68, .lit undef), (69, .lit undef), (70, .lit undef), (71, .lit undef), (74, .lit undef), (75, .lit undef), (76, .lit undef), (77, .lit undef), (78, .lit undef), (79, .lit undef), (80, .lit undef), (81, .lit undef), (82, .lit undef), (83, .lit undef), (84, .lit undef), (85, .lit undef), (86, .lit undef), (87, B false)] [] ?_
 exact ⟨false, h, it [1, 3, 4, 5, 87]⟩
 replace h := bF hc44 h
 rw [hc44]
 refine qvn [] trivial 61 93 [(1, pf a0 0), (3, I x1), (4, I x6), (5, I x10), (27, .lit undef), (28, .lit undef), (29, .lit undef), (30, .lit undef), (33, .lit undef), (34, .lit undef), (35, .lit undef), (36, .lit undef), (37, .lit undef), (38, .lit undef), (39, .lit undef), (40, .lit undef), (41, .lit undef), (42, .lit undef), (43, .lit undef), (46, .lit undef), (47, .lit undef), (48, .lit undef), (49, .lit undef), (50, .lit undef), (51, .lit undef), (52, .lit undef), (53, .lit undef), (54, .lit undef), (55, .lit undef), (56, .lit undef), (59, .lit undef), (60, .lit undef), (61, .lit undef), (62, .lit undef), (63, .lit undef), (64, .lit undef), (65, .lit undef), (66, .lit undef), (67, .lit undef), (68, .lit undef), (69, .lit undef), (70, .lit undef), (71, .lit undef), (74, .lit undef), (75, .lit undef), (76, .lit undef), (77, .lit undef), (78, .lit undef), (79, .lit undef), (80, .lit undef), (81, .lit undef), (82, .lit undef), (83, .lit undef), (84, .lit undef), (85, .lit undef), (86, .lit undef), (87, B false)] [] ?_
 exact ⟨false, h, it [1, 3, 4, 5, 87]⟩
 rintro x14 h
 unfold spec_DangerOf_j4 at h
 refine pc h (fun h => ?_) (fun h => ?_)
 refine srve 93 [(2, .arr 1 ([x1, x6, x10] : List Int).length (eL ([x1, x6, x10] : List Int)) true)] [] ?_
 refine ip 93 [(2, .arr 1 ([x1, x6, x10] : List Int).length (eL ([x1, x6, x10] : List Int)) true)] [] ?_
 refine pwp_imp (Imp.unfS (st' := ⟨93, [(2, A ([x1, x6, x10] : List Int))], []⟩) 2 [2] (by kernel_rfl)) ?_
 cases h
 exact pwp_ret rz
 refine pwp_skip ?_
 refine rve 93 [(1, pf a0 0), (3, I x1), (4, I x6), (5, I (w64 (x10 + 1)))] [] ?_
 exact ⟨(f11, (w64 (x10 + 1))), h, Nat.lt_succ_self _, it [1, 3, 4, 5]⟩
 refine pwp_exit ?_
 refine rve 93 [(1, pf a0 0), (3, I x1), (4, I (w64 (x6 + 1)))] [] ?_
 exact ⟨(f7, (w64 (x6 + 1))), h, Nat.lt_succ_self _, it [1, 3, 4]⟩
 refine pwp_exit ?_
 refine rve 93 [(1, pf a0 0), (3, I (w64 (x1 + 1)))] [] ?_
 exact ⟨(f2, (w64 (x1 + 1))), h, Nat.lt_succ_self _, it [1, 3]⟩
 refine pwp_exit ?_
 refine srve 93 [(2, .arr 1 0 (eL ([] : List Int)) true)] [] ?_
 refine ip 93 [(2, .arr 1 0 (eL ([] : List Int)) true)] [] ?_
 refine pwp_imp (Imp.unfS (st' := ⟨93, [(2, A ([] : List Int))], []⟩) 2 [2] (by kernel_rfl)) ?_
 cases h
 exact pwp_ret rz
def laws_toVersion_D (a0 : T_laws_Version) : Option T_impl_Version := (laws_toValueS a0.fRow).bind fun v1 => some (T_impl_Version.mk a0.fKey a0.fBorn a0.fDied v1)
theorem ok_laws_toVersion_D {a0 : T_laws_Version} {y : T_impl_Version} (h : laws_toVersion_D a0 = some y) : OK Try.prog 106 [E a0] (.agg (DEnc.cells y)) := by
 refine ow Try.func106 fun Γ hX => ?_
 unfold laws_toVersion_D at h
 refine srvM [1, 2, 3] 1 18 [(1, .ptr 0 0 0)] [sc 0 a0] ?_
 refine opsP_imp (Imp.ghosts 1 (st' := ⟨18, [(1, .ptr 0 0 0)], [sc 0 a0, some ⟨0, []⟩]⟩) (by kernel_rfl)) ?_
 refine opsP_E (dd := some 2) (x := .ptr 1 1 0) (alz_E (blk := ⟨0, []⟩) (zs := [.lit (.int .i64 0), .lit (.int .i64 0), .lit (.int .i64 0), .arr 3 0 [] true]) 2 130 1 0 (nx hX) zi_ok130 (by kernel_rfl) (by kernel_rfl)) ?_
 refine veM [1, 2, 3] 0 18 [(1, .ptr 0 0 0), (2, .ptr 1 1 0)] [sc 0 a0, some ⟨1, [I 0, I 0, I 0, .arr 3 0 (eL ([] : List T_impl_Value)) true]⟩] ?_
 refine srvM [1, 2, 3] 0 18 [(1, .ptr 0 0 0), (2, .ptr 1 1 0)] [sc 0 a0, some ⟨1, [I 0, I 0, I 0, .arr 3 0 (eL ([] : List T_impl_Value)) true]⟩] ?_
 refine opsP_imp (Imp.ghosts 1 (st' := ⟨18, [(1, .ptr 0 0 0), (2, .ptr 1 1 0)], [sc 0 a0, some ⟨1, [I 0, I 0, I 0, .arr 3 0 (eL ([] : List T_impl_Value)) true]⟩, some ⟨0, []⟩]⟩) (by kernel_rfl)) ?_
 refine opsP_E (dd := some 3) (x := .ptr 2 1 0) (alz_E (blk := ⟨0, []⟩) (zs := [.lit (.int .i64 0), .lit (.int .i64 0), .lit (.int .i64 0), .arr 3 0 [] true]) 3 130 2 0 (nx hX) zi_ok130 (by kernel_rfl) (by kernel_rfl)) ?_
 refine veM [1, 2, 3] 0 18 [(1, .ptr 0 0 0), (2, .ptr 1 1 0), (3, .ptr 2 1 0)] [sc 0 a0, some ⟨1, [I 0, I 0, I 0, .arr 3 0 (eL ([] : List T_impl_Value)) true]⟩, some ⟨1, [I 0, I 0, I 0, .arr 3 0 (eL ([] : List T_impl_Value)) true]⟩] ?_
 refine srveM [1, 2, 3] 18 [(1, .ptr 0 0 0), (2, .ptr 1 1 0), (3, .ptr 2 1 0)] [sc 0 a0, some ⟨1, [I 0, I 0, I 0, .arr 3 0 (eL ([] : List T_impl_Value)) true]⟩, some ⟨1, [I a0.fKey, I 0, I 0, .arr 3 0 (eL ([] : List T_impl_Value)) true]⟩] ?_
 refine srveM [1, 2, 3] 18 [(1, .ptr 0 0 0), (2, .ptr 1 1 0), (3, .ptr 2 1 0)] [sc 0 a0, some ⟨1, [I 0, I 0, I 0, .arr 3 0 (eL ([] : List T_impl_Value)) true]⟩, some ⟨1, [I a0.fKey, I a0.fBorn, I 0, .arr 3 0 (eL ([] : List T_impl_Value)) true]⟩] ?_
 refine srveM [1, 2, 3] 18 [(1, .ptr 0 0 0), (2, .ptr 1 1 0), (3, .ptr 2 1 0)] [sc 0 a0, some ⟨1, [I 0, I 0, I 0, .arr 3 0 (eL ([] : List T_impl_Value)) true]⟩, some ⟨1, [I a0.fKey, I a0.fBorn, I a0.fDied, .arr 3 0 (eL ([] : List T_impl_Value)) true]⟩] ?_
 refine srvM [1, 2, 3] 2 18 [(2, .ptr 1 1 0), (3, .ptr 2 1 0), (14, A a0.fRow)] [sc 0 a0, some ⟨1, [I 0, I 0, I 0, .arr 3 0 (eL ([] : List T_impl_Value)) true]⟩, some ⟨1, [I a0.fKey, I a0.fBorn, I a0.fDied, .arr 3 0 (eL ([] : List T_impl_Value)) true]⟩] ?_
 obtain ⟨v1, hv2, h⟩ := bindS h
 refine opsP_callO τ 15 (ok_laws_toValueS hv2) rfl (by kernel_rfl) ?_
 refine veM [1, 2, 3] 2 18 [(2, .ptr 1 1 0), (3, .ptr 2 1 0)] [sc 0 a0, some ⟨1, [I 0, I 0, I 0, .arr 3 0 (eL ([] : List T_impl_Value)) true]⟩, some ⟨1, [I a0.fKey, I a0.fBorn, I a0.fDied, rf 3 0 3 v1]⟩, sl 0 v1] ?_
 refine srveM [1, 2, 3] 18 [(2, .ptr 1 1 0)] [sc 0 a0, some ⟨1, [I a0.fKey, I a0.fBorn, I a0.fDied, rf 3 0 3 v1]⟩, some ⟨1, [I a0.fKey, I a0.fBorn, I a0.fDied, rf 3 0 3 v1]⟩, sl 0 v1] ?_
 have h := si h
 subst h
 exact pwp_ret (rt (.agg [I a0.fKey, I a0.fBorn, I a0.fDied, rf 3 0 3 v1]) (OutP.agg (OutL.cons (OutP.frz rfl) (OutL.cons (OutP.frz rfl) (OutL.cons (OutP.frz rfl) (OutL.cons (OutP.listn (v := 0) (xs := v1) rfl (by kernel_rfl)) (OutL.nil _)))))))
def laws_toVersionS_D_l0 (a0 : List T_laws_Version) : Nat → Int → (List T_impl_Version) → Option (List T_impl_Version)
 | 0, _, _ => none
 | f6 + 1, x4, x5 => bif (decide (x4 < (a0.length : Int))) then (getI a0 x4).bind fun v9 => (laws_toVersion_D v9).bind fun v11 => (getI x5 x4).bind fun v13 => (laws_toVersionS_D_l0 a0 f6) (w64 (x4 + 1)) (x5.set x4.toNat ({ v11 with fRow := v11.fRow } : T_impl_Version)) else some x5
def laws_toVersionS_D (a0 : List T_laws_Version) : Option (List T_impl_Version) := (mkI (a0.length : Int) (T_impl_Version.mk 0 0 0 [])).bind fun v1 => laws_toVersionS_D_l0 a0 FUEL 0 v1
theorem ok_laws_toVersionS_D {a0 : List T_laws_Version} {y : List T_impl_Version} (h : laws_toVersionS_D a0 = some y) : OK Try.prog 52 [A a0] (OD y) := by
 refine ow Try.func52 fun Γ hX => ?_
 unfold laws_toVersionS_D at h
 refine srve 23 [(0, A a0)] [] ?_
 refine srv 2 23 [(0, A a0), (6, I (a0.length : Int))] [] ?_
 obtain ⟨v1, hv2, h⟩ := bindS h
 refine opsP_E (dd := some 7) (x := rf 0 0 4 v1) (mkD_N τ_ok 7 0 130 (nx hX) (by kernel_rfl) _ hv2 dz_ok130 (by kernel_rfl)) ?_
 refine ve 1 23 [(0, A a0), (3, rf 0 0 4 v1)] [some ⟨0, dL v1⟩] ?_
 refine pwp_seq ?_
 refine srve 23 [(0, A a0), (3, rf 0 0 4 v1), (4, I 0)] [some ⟨0, dL v1⟩] ?_
 refine pwp_block ?_
 refine pwp_loop (ι := Nat × Int × (List T_impl_Version)) (fun (f6, x4, x5) => (⟨23, [(0, A a0), (3, rf 0 0 4 x5), (4, I x4)], [some ⟨0, dL x5⟩]⟩ : St)) (fun (f6, x4, x5) => laws_toVersionS_D_l0 a0 f6 x4 x5 = some y) Prod.fst (FUEL, 0, v1) h (it [0, 3, 4]) ?_
 rintro ⟨f6, x4, x5⟩ h
 dsimp only at h ⊢
 rcases f6 with _ | f6
 cases h
 rw [laws_toVersionS_D_l0] at h
 refine pwp_seq ?_
 refine srve 23 [(0, A a0), (3, rf 0 0 4 x5), (4, I x4), (11, B (decide (x4 < (a0.length : Int))))] [some ⟨0, dL x5⟩] ?_
 refine pc h (fun h => ?_) (fun h => ?_)
 refine pwp_skip ?_
 refine pwp_seq ?_
 refine pwp_block ?_
 refine rv 4 23 [(0, A a0), (3, rf 0 0 4 x5), (4, I x4), (14, rf 0 0 4 x5), (15, I x4), (16, A a0), (17, I x4)] [some ⟨0, dL x5⟩] ?_
 obtain ⟨v9, hv10, h⟩ := bindS h
 refine opsP_idx τ_ok 18 hv10 (by kernel_rfl) ?_
 refine v 1 23 [(0, A a0), (3, rf 0 0 4 x5), (4, I x4), (14, rf 0 0 4 x5), (15, I x4), (19, E v9)] [some ⟨0, dL x5⟩] ?_
 obtain ⟨v11, hv12, h⟩ := bindS h
 refine opsP_callO τ 20 (ok_laws_toVersion_D hv12) rfl (by kernel_rfl) ?_
 obtain ⟨v13, hv14, h⟩ := bindS h
 refine opsP_idr τ_ok 21 0 0 x5.length hv14 rfl (by kernel_rfl) ?_
 refine v 0 23 [(0, A a0), (3, rf 0 0 4 x5), (4, I x4), (20, .agg [I v11.fKey, I v11.fBorn, I v11.fDied, rf 1 0 3 v11.fRow]), (21, .ptr 0 0 (x4.toNat * 4))] [some ⟨0, dL x5⟩, sl 0 v11.fRow] ?_
 refine opsP_E (dd := none) (x := .any) ((std_E (xs := x5) (vs := [I v11.fKey, I v11.fBorn, I v11.fDied, rf 1 0 3 v11.fRow]) (cells' := setL (dL x5) (x4.toNat * 4 + 0) [I v11.fKey, I v11.fBorn, I v11.fDied, rf 1 0 3 v11.fRow]) τ_ok 130 0 0 0 hv14 (by kernel_rfl) (by kernel_rfl) rfl).then (H2 := [some ⟨0, dL (x5.set x4.toNat ({ v11 with fRow := v11.fRow } : T_impl_Version))⟩, some ⟨1, []⟩]) (HStep.nestL (xs := x5) (vs := [I v11.fKey, I v11.fBorn, I v11.fDied, rf 1 0 3 v11.fRow]) 0 0 0 ({ v11 with fRow := v11.fRow } : T_impl_Version) hv14 (by kernel_rfl) (OutL.cons (OutP.frz rfl) (OutL.cons (OutP.frz rfl) (OutL.cons (OutP.frz rfl) (OutL.cons (OutP.listn (v := 0) (xs := v11.fRow) rfl (by kernel_rfl)) (OutL.nil _))))) (by decide) (by decide) (nx hX) (by kernel_rfl) (by kernel_rfl) (by kernel_rfl) (by kernel_rfl))) ?_
 refine io 23 [(0, A a0), (3, rf 0 0 4 x5), (4, I x4)] [some ⟨0, dL (x5.set x4.toNat ({ v11 with fRow := v11.fRow } : T_impl_Version))⟩, some ⟨1, []⟩] ?_
 refine opsP_ren (st' := ⟨23, [(0, A a0), (3, .ref 0 0 0 4 (x5.set x4.toNat ({ v11 with fRow := v11.fRow } : T_impl_Version)).length false), (4, I x4)], [some ⟨0, dL (x5.set x4.toNat ({ v11 with fRow := v11.fRow } : T_impl_Version))⟩, some ⟨1, []⟩]⟩) 0 (x5.set x4.toNat ({ v11 with fRow := v11.fRow } : T_impl_Version)).length (renC trivial (renC (ren_ref (List.length_set ..).symm) (renC trivial renC0))) (by kernel_rfl) ?_
 refine ve 0 23 [(0, A a0), (3, .ref 0 0 0 4 (x5.set x4.toNat ({ v11 with fRow := v11.fRow } : T_impl_Version)).length false), (4, I x4)] [some ⟨0, dL (x5.set x4.toNat ({ v11 with fRow := v11.fRow } : T_impl_Version))⟩, some ⟨1, []⟩] ?_
 refine rve 23 [(0, A a0), (3, .ref 0 0 0 4 (x5.set x4.toNat ({ v11 with fRow := v11.fRow } : T_impl_Version)).length false), (4, I (w64 (x4 + 1)))] [some ⟨0, dL (x5.set x4.toNat ({ v11 with fRow := v11.fRow } : T_impl_Version))⟩, some ⟨1, []⟩] ?_
 exact ⟨(f6, (w64 (x4 + 1)), (x5.set x4.toNat ({ v11 with fRow := v11.fRow } : T_impl_Version))), h, Nat.lt_succ_self _, (it (st' := ⟨23, [(0, A a0), (3, .ref 0 0 0 4 (x5.set x4.toNat ({ v11 with fRow := v11.fRow } : T_impl_Version)).length false), (4, I (w64 (x4 + 1)))], [some ⟨0, dL (x5.set x4.toNat ({ v11 with fRow := v11.fRow } : T_impl_Version))⟩, some ⟨1, []⟩]⟩) [0, 3, 4]).trans (Imp.truncS 1 (nx hX) (by kernel_rfl) (allBelow_mem (by exact (And.intro rfl (And.intro rfl (And.intro rfl trivial))))) (by exact (And.intro (dL_below _ _) trivial)) (by kernel_rfl))⟩
 refine pwp_exit ?_
 refine srve 23 [(2, rf 0 0 4 x5)] [some ⟨0, dL x5⟩] ?_
 have h := si h
 subst h
 exact pwp_ret (rt (rf 0 0 4 x5) (OutP.listD (v := 0) (by kernel_rfl)))
def laws_toWrite_D (a0 : T_laws_Write) : Option T_impl_Write := (laws_toValueS a0.fRow).bind fun v1 => some (T_impl_Write.mk a0.fKey v1 a0.fGone)
theorem ok_laws_toWrite_D {a0 : T_laws_Write} {y : T_impl_Write} (h : laws_toWrite_D a0 = some y) : OK Try.prog 189 [E a0] (.agg (DEnc.cells y)) := by
 refine ow Try.func189 fun Γ hX => ?_
 unfold laws_toWrite_D at h
 refine srvM [1, 2, 3] 1 15 [(1, .ptr 0 0 0)] [sc 0 a0] ?_
 refine opsP_imp (Imp.ghosts 1 (st' := ⟨15, [(1, .ptr 0 0 0)], [sc 0 a0, some ⟨0, []⟩]⟩) (by kernel_rfl)) ?_
 refine opsP_E (dd := some 2) (x := .ptr 1 1 0) (alz_E (blk := ⟨0, []⟩) (zs := [.lit (.int .i64 0), .arr 3 0 [] true, .lit (.bool false)]) 2 174 1 0 (nx hX) zi_ok174 (by kernel_rfl) (by kernel_rfl)) ?_
 refine veM [1, 2, 3] 0 15 [(1, .ptr 0 0 0), (2, .ptr 1 1 0)] [sc 0 a0, some ⟨1, [I 0, .arr 3 0 (eL ([] : List T_impl_Value)) true, B false]⟩] ?_
 refine srvM [1, 2, 3] 0 15 [(1, .ptr 0 0 0), (2, .ptr 1 1 0)] [sc 0 a0, some ⟨1, [I 0, .arr 3 0 (eL ([] : List T_impl_Value)) true, B false]⟩] ?_
 refine opsP_imp (Imp.ghosts 1 (st' := ⟨15, [(1, .ptr 0 0 0), (2, .ptr 1 1 0)], [sc 0 a0, some ⟨1, [I 0, .arr 3 0 (eL ([] : List T_impl_Value)) true, B false]⟩, some ⟨0, []⟩]⟩) (by kernel_rfl)) ?_
 refine opsP_E (dd := some 3) (x := .ptr 2 1 0) (alz_E (blk := ⟨0, []⟩) (zs := [.lit (.int .i64 0), .arr 3 0 [] true, .lit (.bool false)]) 3 174 2 0 (nx hX) zi_ok174 (by kernel_rfl) (by kernel_rfl)) ?_
 refine veM [1, 2, 3] 0 15 [(1, .ptr 0 0 0), (2, .ptr 1 1 0), (3, .ptr 2 1 0)] [sc 0 a0, some ⟨1, [I 0, .arr 3 0 (eL ([] : List T_impl_Value)) true, B false]⟩, some ⟨1, [I 0, .arr 3 0 (eL ([] : List T_impl_Value)) true, B false]⟩] ?_
 refine srveM [1, 2, 3] 15 [(1, .ptr 0 0 0), (2, .ptr 1 1 0), (3, .ptr 2 1 0)] [sc 0 a0, some ⟨1, [I 0, .arr 3 0 (eL ([] : List T_impl_Value)) true, B false]⟩, some ⟨1, [I a0.fKey, .arr 3 0 (eL ([] : List T_impl_Value)) true, B false]⟩] ?_
 refine srvM [1, 2, 3] 2 15 [(1, .ptr 0 0 0), (2, .ptr 1 1 0), (3, .ptr 2 1 0), (8, A a0.fRow)] [sc 0 a0, some ⟨1, [I 0, .arr 3 0 (eL ([] : List T_impl_Value)) true, B false]⟩, some ⟨1, [I a0.fKey, .arr 3 0 (eL ([] : List T_impl_Value)) true, B false]⟩] ?_
 obtain ⟨v1, hv2, h⟩ := bindS h
 refine opsP_callO τ 9 (ok_laws_toValueS hv2) rfl (by kernel_rfl) ?_
 refine veM [1, 2, 3] 2 15 [(1, .ptr 0 0 0), (2, .ptr 1 1 0), (3, .ptr 2 1 0)] [sc 0 a0, some ⟨1, [I 0, .arr 3 0 (eL ([] : List T_impl_Value)) true, B false]⟩, some ⟨1, [I a0.fKey, rf 3 0 3 v1, B false]⟩, sl 0 v1] ?_
 refine srveM [1, 2, 3] 15 [(2, .ptr 1 1 0), (3, .ptr 2 1 0)] [sc 0 a0, some ⟨1, [I 0, .arr 3 0 (eL ([] : List T_impl_Value)) true, B false]⟩, some ⟨1, [I a0.fKey, rf 3 0 3 v1, B a0.fGone]⟩, sl 0 v1] ?_
 refine srveM [1, 2, 3] 15 [(2, .ptr 1 1 0)] [sc 0 a0, some ⟨1, [I a0.fKey, rf 3 0 3 v1, B a0.fGone]⟩, some ⟨1, [I a0.fKey, rf 3 0 3 v1, B a0.fGone]⟩, sl 0 v1] ?_
 have h := si h
 subst h
 exact pwp_ret (rt (.agg [I a0.fKey, rf 3 0 3 v1, B a0.fGone]) (OutP.agg (OutL.cons (OutP.frz rfl) (OutL.cons (OutP.listn (v := 0) (xs := v1) rfl (by kernel_rfl)) (OutL.cons (OutP.frz rfl) (OutL.nil _))))))
def laws_toWriteS_D_l0 (a0 : List T_laws_Write) : Nat → Int → (List T_impl_Write) → Option (List T_impl_Write)
 | 0, _, _ => none
 | f6 + 1, x4, x5 => bif (decide (x4 < (a0.length : Int))) then (getI a0 x4).bind fun v9 => (laws_toWrite_D v9).bind fun v11 => (getI x5 x4).bind fun v13 => (laws_toWriteS_D_l0 a0 f6) (w64 (x4 + 1)) (x5.set x4.toNat ({ v11 with fRow := v11.fRow } : T_impl_Write)) else some x5
def laws_toWriteS_D (a0 : List T_laws_Write) : Option (List T_impl_Write) := (mkI (a0.length : Int) (T_impl_Write.mk 0 [] false)).bind fun v1 => laws_toWriteS_D_l0 a0 FUEL 0 v1
theorem ok_laws_toWriteS_D {a0 : List T_laws_Write} {y : List T_impl_Write} (h : laws_toWriteS_D a0 = some y) : OK Try.prog 161 [A a0] (OD y) := by
 refine ow Try.func161 fun Γ hX => ?_
 unfold laws_toWriteS_D at h
 refine srve 23 [(0, A a0)] [] ?_
 refine srv 2 23 [(0, A a0), (6, I (a0.length : Int))] [] ?_
 obtain ⟨v1, hv2, h⟩ := bindS h
 refine opsP_E (dd := some 7) (x := rf 0 0 3 v1) (mkD_N τ_ok 7 0 174 (nx hX) (by kernel_rfl) _ hv2 dz_ok174 (by kernel_rfl)) ?_
 refine ve 1 23 [(0, A a0), (3, rf 0 0 3 v1)] [some ⟨0, dL v1⟩] ?_
 refine pwp_seq ?_
 refine srve 23 [(0, A a0), (3, rf 0 0 3 v1), (4, I 0)] [some ⟨0, dL v1⟩] ?_
 refine pwp_block ?_
 refine pwp_loop (ι := Nat × Int × (List T_impl_Write)) (fun (f6, x4, x5) => (⟨23, [(0, A a0), (3, rf 0 0 3 x5), (4, I x4)], [some ⟨0, dL x5⟩]⟩ : St)) (fun (f6, x4, x5) => laws_toWriteS_D_l0 a0 f6 x4 x5 = some y) Prod.fst (FUEL, 0, v1) h (it [0, 3, 4]) ?_
 rintro ⟨f6, x4, x5⟩ h
 dsimp only at h ⊢
 rcases f6 with _ | f6
 cases h
 rw [laws_toWriteS_D_l0] at h
 refine pwp_seq ?_
 refine srve 23 [(0, A a0), (3, rf 0 0 3 x5), (4, I x4), (11, B (decide (x4 < (a0.length : Int))))] [some ⟨0, dL x5⟩] ?_
 refine pc h (fun h => ?_) (fun h => ?_)
 refine pwp_skip ?_
 refine pwp_seq ?_
 refine pwp_block ?_
 refine rv 4 23 [(0, A a0), (3, rf 0 0 3 x5), (4, I x4), (14, rf 0 0 3 x5), (15, I x4), (16, A a0), (17, I x4)] [some ⟨0, dL x5⟩] ?_
 obtain ⟨v9, hv10, h⟩ := bindS h
 refine opsP_idx τ_ok 18 hv10 (by kernel_rfl) ?_
 refine v 1 23 [(0, A a0), (3, rf 0 0 3 x5), (4, I x4), (14, rf 0 0 3 x5), (15, I x4), (19, E v9)] [some ⟨0, dL x5⟩] ?_
 obtain ⟨v11, hv12, h⟩ := bindS h
 refine opsP_callO τ 20 (ok_laws_toWrite_D hv12) rfl (by kernel_rfl) ?_
 obtain ⟨v13, hv14, h⟩ := bindS h
 refine opsP_idr τ_ok 21 0 0 x5.length hv14 rfl (by kernel_rfl) ?_
 refine v 0 23 [(0, A a0), (3, rf 0 0 3 x5), (4, I x4), (20, .agg [I v11.fKey, rf 1 0 3 v11.fRow, B v11.fGone]), (21, .ptr 0 0 (x4.toNat * 3))] [some ⟨0, dL x5⟩, sl 0 v11.fRow] ?_
 refine opsP_E (dd := none) (x := .any) ((std_E (xs := x5) (vs := [I v11.fKey, rf 1 0 3 v11.fRow, B v11.fGone]) (cells' := setL (dL x5) (x4.toNat * 3 + 0) [I v11.fKey, rf 1 0 3 v11.fRow, B v11.fGone]) τ_ok 174 0 0 0 hv14 (by kernel_rfl) (by kernel_rfl) rfl).then (H2 := [some ⟨0, dL (x5.set x4.toNat ({ v11 with fRow := v11.fRow } : T_impl_Write))⟩, some ⟨1, []⟩]) (HStep.nestL (xs := x5) (vs := [I v11.fKey, rf 1 0 3 v11.fRow, B v11.fGone]) 0 0 0 ({ v11 with fRow := v11.fRow } : T_impl_Write) hv14 (by kernel_rfl) (OutL.cons (OutP.frz rfl) (OutL.cons (OutP.listn (v := 0) (xs := v11.fRow) rfl (by kernel_rfl)) (OutL.cons (OutP.frz rfl) (OutL.nil _)))) (by decide) (by decide) (nx hX) (by kernel_rfl) (by kernel_rfl) (by kernel_rfl) (by kernel_rfl))) ?_
 refine io 23 [(0, A a0), (3, rf 0 0 3 x5), (4, I x4)] [some ⟨0, dL (x5.set x4.toNat ({ v11 with fRow := v11.fRow } : T_impl_Write))⟩, some ⟨1, []⟩] ?_
 refine opsP_ren (st' := ⟨23, [(0, A a0), (3, .ref 0 0 0 3 (x5.set x4.toNat ({ v11 with fRow := v11.fRow } : T_impl_Write)).length false), (4, I x4)], [some ⟨0, dL (x5.set x4.toNat ({ v11 with fRow := v11.fRow } : T_impl_Write))⟩, some ⟨1, []⟩]⟩) 0 (x5.set x4.toNat ({ v11 with fRow := v11.fRow } : T_impl_Write)).length (renC trivial (renC (ren_ref (List.length_set ..).symm) (renC trivial renC0))) (by kernel_rfl) ?_
 refine ve 0 23 [(0, A a0), (3, .ref 0 0 0 3 (x5.set x4.toNat ({ v11 with fRow := v11.fRow } : T_impl_Write)).length false), (4, I x4)] [some ⟨0, dL (x5.set x4.toNat ({ v11 with fRow := v11.fRow } : T_impl_Write))⟩, some ⟨1, []⟩] ?_
 refine rve 23 [(0, A a0), (3, .ref 0 0 0 3 (x5.set x4.toNat ({ v11 with fRow := v11.fRow } : T_impl_Write)).length false), (4, I (w64 (x4 + 1)))] [some ⟨0, dL (x5.set x4.toNat ({ v11 with fRow := v11.fRow } : T_impl_Write))⟩, some ⟨1, []⟩] ?_
 exact ⟨(f6, (w64 (x4 + 1)), (x5.set x4.toNat ({ v11 with fRow := v11.fRow } : T_impl_Write))), h, Nat.lt_succ_self _, (it (st' := ⟨23, [(0, A a0), (3, .ref 0 0 0 3 (x5.set x4.toNat ({ v11 with fRow := v11.fRow } : T_impl_Write)).length false), (4, I (w64 (x4 + 1)))], [some ⟨0, dL (x5.set x4.toNat ({ v11 with fRow := v11.fRow } : T_impl_Write))⟩, some ⟨1, []⟩]⟩) [0, 3, 4]).trans (Imp.truncS 1 (nx hX) (by kernel_rfl) (allBelow_mem (by exact (And.intro rfl (And.intro rfl (And.intro rfl trivial))))) (by exact (And.intro (dL_below _ _) trivial)) (by kernel_rfl))⟩
 refine pwp_exit ?_
 refine srve 23 [(2, rf 0 0 3 x5)] [some ⟨0, dL x5⟩] ?_
 have h := si h
 subst h
 exact pwp_ret (rt (rf 0 0 3 x5) (OutP.listD (v := 0) (by kernel_rfl)))
def laws_toTxn_D (a0 : T_laws_Txn) : Option T_impl_Txn := (laws_toIntS a0.fReads).bind fun v1 => (laws_toWriteS_D a0.fWrites).bind fun v3 => some (T_impl_Txn.mk a0.fState a0.fBegin a0.fEnd v1 v3)
theorem ok_laws_toTxn_D {a0 : T_laws_Txn} {y : T_impl_Txn} (h : laws_toTxn_D a0 = some y) : OK Try.prog 107 [E a0] (.agg (DEnc.cells y)) := by
 refine ow Try.func107 fun Γ hX => ?_
 unfold laws_toTxn_D at h
 refine srvM [1, 2, 3] 1 22 [(1, .ptr 0 0 0)] [sc 0 a0] ?_
 refine opsP_imp (Imp.ghosts 1 (st' := ⟨22, [(1, .ptr 0 0 0)], [sc 0 a0, some ⟨0, []⟩]⟩) (by kernel_rfl)) ?_
 refine opsP_E (dd := some 2) (x := .ptr 1 1 0) (alz_E (blk := ⟨0, []⟩) (zs := [.lit (.int .i64 0), .lit (.int .i64 0), .lit (.int .i64 0), .arr 1 0 [] true, .arr 3 0 [] true]) 2 50 1 0 (nx hX) zi_ok50 (by kernel_rfl) (by kernel_rfl)) ?_
 refine veM [1, 2, 3] 0 22 [(1, .ptr 0 0 0), (2, .ptr 1 1 0)] [sc 0 a0, some ⟨1, [I 0, I 0, I 0, .arr 1 0 (eL ([] : List Int)) true, .arr 3 0 (eL ([] : List T_impl_Write)) true]⟩] ?_
 refine srvM [1, 2, 3] 0 22 [(1, .ptr 0 0 0), (2, .ptr 1 1 0)] [sc 0 a0, some ⟨1, [I 0, I 0, I 0, .arr 1 0 (eL ([] : List Int)) true, .arr 3 0 (eL ([] : List T_impl_Write)) true]⟩] ?_
 refine opsP_imp (Imp.ghosts 1 (st' := ⟨22, [(1, .ptr 0 0 0), (2, .ptr 1 1 0)], [sc 0 a0, some ⟨1, [I 0, I 0, I 0, .arr 1 0 (eL ([] : List Int)) true, .arr 3 0 (eL ([] : List T_impl_Write)) true]⟩, some ⟨0, []⟩]⟩) (by kernel_rfl)) ?_
 refine opsP_E (dd := some 3) (x := .ptr 2 1 0) (alz_E (blk := ⟨0, []⟩) (zs := [.lit (.int .i64 0), .lit (.int .i64 0), .lit (.int .i64 0), .arr 1 0 [] true, .arr 3 0 [] true]) 3 50 2 0 (nx hX) zi_ok50 (by kernel_rfl) (by kernel_rfl)) ?_
 refine veM [1, 2, 3] 0 22 [(1, .ptr 0 0 0), (2, .ptr 1 1 0), (3, .ptr 2 1 0)] [sc 0 a0, some ⟨1, [I 0, I 0, I 0, .arr 1 0 (eL ([] : List Int)) true, .arr 3 0 (eL ([] : List T_impl_Write)) true]⟩, some ⟨1, [I 0, I 0, I 0, .arr 1 0 (eL ([] : List Int)) true, .arr 3 0 (eL ([] : List T_impl_Write)) true]⟩] ?_
 refine srveM [1, 2, 3] 22 [(1, .ptr 0 0 0), (2, .ptr 1 1 0), (3, .ptr 2 1 0)] [sc 0 a0, some ⟨1, [I 0, I 0, I 0, .arr 1 0 (eL ([] : List Int)) true, .arr 3 0 (eL ([] : List T_impl_Write)) true]⟩, some ⟨1, [I a0.fState, I 0, I 0, .arr 1 0 (eL ([] : List Int)) true, .arr 3 0 (eL ([] : List T_impl_Write)) true]⟩] ?_
 refine srveM [1, 2, 3] 22 [(1, .ptr 0 0 0), (2, .ptr 1 1 0), (3, .ptr 2 1 0)] [sc 0 a0, some ⟨1, [I 0, I 0, I 0, .arr 1 0 (eL ([] : List Int)) true, .arr 3 0 (eL ([] : List T_impl_Write)) true]⟩, some ⟨1, [I a0.fState, I a0.fBegin, I 0, .arr 1 0 (eL ([] : List Int)) true, .arr 3 0 (eL ([] : List T_impl_Write)) true]⟩] ?_
 refine srveM [1, 2, 3] 22 [(1, .ptr 0 0 0), (2, .ptr 1 1 0), (3, .ptr 2 1 0)] [sc 0 a0, some ⟨1, [I 0, I 0, I 0, .arr 1 0 (eL ([] : List Int)) true, .arr 3 0 (eL ([] : List T_impl_Write)) true]⟩, some ⟨1, [I a0.fState, I a0.fBegin, I a0.fEnd, .arr 1 0 (eL ([] : List Int)) true, .arr 3 0 (eL ([] : List T_impl_Write)) true]⟩] ?_
 refine srvM [1, 2, 3] 2 22 [(1, .ptr 0 0 0), (2, .ptr 1 1 0), (3, .ptr 2 1 0), (14, A a0.fReads)] [sc 0 a0, some ⟨1, [I 0, I 0, I 0, .arr 1 0 (eL ([] : List Int)) true, .arr 3 0 (eL ([] : List T_impl_Write)) true]⟩, some ⟨1, [I a0.fState, I a0.fBegin, I a0.fEnd, .arr 1 0 (eL ([] : List Int)) true, .arr 3 0 (eL ([] : List T_impl_Write)) true]⟩] ?_
 obtain ⟨v1, hv2, h⟩ := bindS h
 refine opsP_callO τ 15 (ok_laws_toIntS hv2) rfl (by kernel_rfl) ?_
 refine veM [1, 2, 3] 2 22 [(1, .ptr 0 0 0), (2, .ptr 1 1 0), (3, .ptr 2 1 0)] [sc 0 a0, some ⟨1, [I 0, I 0, I 0, .arr 1 0 (eL ([] : List Int)) true, .arr 3 0 (eL ([] : List T_impl_Write)) true]⟩, some ⟨1, [I a0.fState, I a0.fBegin, I a0.fEnd, rf 3 0 1 v1, .arr 3 0 (eL ([] : List T_impl_Write)) true]⟩, sl 0 v1] ?_
 refine srvM [1, 2, 3] 2 22 [(2, .ptr 1 1 0), (3, .ptr 2 1 0), (18, A a0.fWrites)] [sc 0 a0, some ⟨1, [I 0, I 0, I 0, .arr 1 0 (eL ([] : List Int)) true, .arr 3 0 (eL ([] : List T_impl_Write)) true]⟩, some ⟨1, [I a0.fState, I a0.fBegin, I a0.fEnd, rf 3 0 1 v1, .arr 3 0 (eL ([] : List T_impl_Write)) true]⟩, sl 0 v1] ?_
 obtain ⟨v3, hv4, h⟩ := bindS h
 refine opsP_callO τ 19 (ok_laws_toWriteS_D hv4) rfl (by kernel_rfl) ?_
 refine veM [1, 2, 3] 2 22 [(2, .ptr 1 1 0), (3, .ptr 2 1 0)] [sc 0 a0, some ⟨1, [I 0, I 0, I 0, .arr 1 0 (eL ([] : List Int)) true, .arr 3 0 (eL ([] : List T_impl_Write)) true]⟩, some ⟨1, [I a0.fState, I a0.fBegin, I a0.fEnd, rf 3 0 1 v1, rf 4 0 3 v3]⟩, sl 0 v1, some ⟨0, dL v3⟩] ?_
 refine srveM [1, 2, 3] 22 [(2, .ptr 1 1 0)] [sc 0 a0, some ⟨1, [I a0.fState, I a0.fBegin, I a0.fEnd, rf 3 0 1 v1, rf 4 0 3 v3]⟩, some ⟨1, [I a0.fState, I a0.fBegin, I a0.fEnd, rf 3 0 1 v1, rf 4 0 3 v3]⟩, sl 0 v1, some ⟨0, dL v3⟩] ?_
 have h := si h
 subst h
 exact pwp_ret (rt (.agg [I a0.fState, I a0.fBegin, I a0.fEnd, rf 3 0 1 v1, rf 4 0 3 v3]) (OutP.agg (OutL.cons (OutP.frz rfl) (OutL.cons (OutP.frz rfl) (OutL.cons (OutP.frz rfl) (OutL.cons (OutP.listn (v := 0) (xs := v1) rfl (by kernel_rfl)) (OutL.cons (OutP.listDn (v := 0) (xs := v3) rfl (by kernel_rfl)) (OutL.nil _))))))))
def laws_toTxnS_D_l0 (a0 : List T_laws_Txn) : Nat → Int → (List T_impl_Txn) → Option (List T_impl_Txn)
 | 0, _, _ => none
 | f6 + 1, x4, x5 => bif (decide (x4 < (a0.length : Int))) then (getI a0 x4).bind fun v9 => (laws_toTxn_D v9).bind fun v11 => (getI x5 x4).bind fun v13 => (laws_toTxnS_D_l0 a0 f6) (w64 (x4 + 1)) (x5.set x4.toNat ({ (({ v11 with fReads := v11.fReads }) : T_impl_Txn) with fWrites := v11.fWrites } : T_impl_Txn)) else some x5
def laws_toTxnS_D (a0 : List T_laws_Txn) : Option (List T_impl_Txn) := (mkI (a0.length : Int) (T_impl_Txn.mk 0 0 0 [] [])).bind fun v1 => laws_toTxnS_D_l0 a0 FUEL 0 v1
theorem ok_laws_toTxnS_D {a0 : List T_laws_Txn} {y : List T_impl_Txn} (h : laws_toTxnS_D a0 = some y) : OK Try.prog 53 [A a0] (OD y) := by
 refine ow Try.func53 fun Γ hX => ?_
 unfold laws_toTxnS_D at h
 refine srve 23 [(0, A a0)] [] ?_
 refine srv 2 23 [(0, A a0), (6, I (a0.length : Int))] [] ?_
 obtain ⟨v1, hv2, h⟩ := bindS h
 refine opsP_E (dd := some 7) (x := rf 0 0 5 v1) (mkD_N τ_ok 7 0 50 (nx hX) (by kernel_rfl) _ hv2 dz_ok50 (by kernel_rfl)) ?_
 refine ve 1 23 [(0, A a0), (3, rf 0 0 5 v1)] [some ⟨0, dL v1⟩] ?_
 refine pwp_seq ?_
 refine srve 23 [(0, A a0), (3, rf 0 0 5 v1), (4, I 0)] [some ⟨0, dL v1⟩] ?_
 refine pwp_block ?_
 refine pwp_loop (ι := Nat × Int × (List T_impl_Txn)) (fun (f6, x4, x5) => (⟨23, [(0, A a0), (3, rf 0 0 5 x5), (4, I x4)], [some ⟨0, dL x5⟩]⟩ : St)) (fun (f6, x4, x5) => laws_toTxnS_D_l0 a0 f6 x4 x5 = some y) Prod.fst (FUEL, 0, v1) h (it [0, 3, 4]) ?_
 rintro ⟨f6, x4, x5⟩ h
 dsimp only at h ⊢
 rcases f6 with _ | f6
 cases h
 rw [laws_toTxnS_D_l0] at h
 refine pwp_seq ?_
 refine srve 23 [(0, A a0), (3, rf 0 0 5 x5), (4, I x4), (11, B (decide (x4 < (a0.length : Int))))] [some ⟨0, dL x5⟩] ?_
 refine pc h (fun h => ?_) (fun h => ?_)
 refine pwp_skip ?_
 refine pwp_seq ?_
 refine pwp_block ?_
 refine rv 4 23 [(0, A a0), (3, rf 0 0 5 x5), (4, I x4), (14, rf 0 0 5 x5), (15, I x4), (16, A a0), (17, I x4)] [some ⟨0, dL x5⟩] ?_
 obtain ⟨v9, hv10, h⟩ := bindS h
 refine opsP_idx τ_ok 18 hv10 (by kernel_rfl) ?_
 refine v 1 23 [(0, A a0), (3, rf 0 0 5 x5), (4, I x4), (14, rf 0 0 5 x5), (15, I x4), (19, E v9)] [some ⟨0, dL x5⟩] ?_
 obtain ⟨v11, hv12, h⟩ := bindS h
 refine opsP_callO τ 20 (ok_laws_toTxn_D hv12) rfl (by kernel_rfl) ?_
 obtain ⟨v13, hv14, h⟩ := bindS h
 refine opsP_idr τ_ok 21 0 0 x5.length hv14 rfl (by kernel_rfl) ?_
 refine v 0 23 [(0, A a0), (3, rf 0 0 5 x5), (4, I x4), (20, .agg [I v11.fState, I v11.fBegin, I v11.fEnd, rf 1 0 1 v11.fReads, rf 2 0 3 v11.fWrites]), (21, .ptr 0 0 (x4.toNat * 5))] [some ⟨0, dL x5⟩, sl 0 v11.fReads, some ⟨0, dL v11.fWrites⟩] ?_
 refine opsP_E (dd := none) (x := .any) ((std_E (xs := x5) (vs := [I v11.fState, I v11.fBegin, I v11.fEnd, rf 1 0 1 v11.fReads, rf 2 0 3 v11.fWrites]) (cells' := setL (dL x5) (x4.toNat * 5 + 0) [I v11.fState, I v11.fBegin, I v11.fEnd, rf 1 0 1 v11.fReads, rf 2 0 3 v11.fWrites]) τ_ok 50 0 0 0 hv14 (by kernel_rfl) (by kernel_rfl) rfl).then (H2 := [some ⟨0, dL (x5.set x4.toNat ({ (({ v11 with fReads := v11.fReads }) : T_impl_Txn) with fWrites := v11.fWrites } : T_impl_Txn))⟩, some ⟨1, []⟩, some ⟨1, []⟩]) (HStep.nestL (xs := x5) (vs := [I v11.fState, I v11.fBegin, I v11.fEnd, rf 1 0 1 v11.fReads, rf 2 0 3 v11.fWrites]) 0 0 0 ({ (({ v11 with fReads := v11.fReads }) : T_impl_Txn) with fWrites := v11.fWrites } : T_impl_Txn) hv14 (by kernel_rfl) (OutL.cons (OutP.frz rfl) (OutL.cons (OutP.frz rfl) (OutL.cons (OutP.frz rfl) (OutL.cons (OutP.listn (v := 0) (xs := v11.fReads) rfl (by kernel_rfl)) (OutL.cons (OutP.listDn (v := 0) (xs := v11.fWrites) rfl (by kernel_rfl)) (OutL.nil _)))))) (by decide) (by decide) (nx hX) (by kernel_rfl) (by kernel_rfl) (by kernel_rfl) (by kernel_rfl))) ?_
 refine io 23 [(0, A a0), (3, rf 0 0 5 x5), (4, I x4)] [some ⟨0, dL (x5.set x4.toNat ({ (({ v11 with fReads := v11.fReads }) : T_impl_Txn) with fWrites := v11.fWrites } : T_impl_Txn))⟩, some ⟨1, []⟩, some ⟨1, []⟩] ?_
 refine opsP_ren (st' := ⟨23, [(0, A a0), (3, .ref 0 0 0 5 (x5.set x4.toNat ({ (({ v11 with fReads := v11.fReads }) : T_impl_Txn) with fWrites := v11.fWrites } : T_impl_Txn)).length false), (4, I x4)], [some ⟨0, dL (x5.set x4.toNat ({ (({ v11 with fReads := v11.fReads }) : T_impl_Txn) with fWrites := v11.fWrites } : T_impl_Txn))⟩, some ⟨1, []⟩, some ⟨1, []⟩]⟩) 0 (x5.set x4.toNat ({ (({ v11 with fReads := v11.fReads }) : T_impl_Txn) with fWrites := v11.fWrites } : T_impl_Txn)).length (renC trivial (renC (ren_ref (List.length_set ..).symm) (renC trivial renC0))) (by kernel_rfl) ?_
 refine ve 0 23 [(0, A a0), (3, .ref 0 0 0 5 (x5.set x4.toNat ({ (({ v11 with fReads := v11.fReads }) : T_impl_Txn) with fWrites := v11.fWrites } : T_impl_Txn)).length false), (4, I x4)] [some ⟨0, dL (x5.set x4.toNat ({ (({ v11 with fReads := v11.fReads }) : T_impl_Txn) with fWrites := v11.fWrites } : T_impl_Txn))⟩, some ⟨1, []⟩, some ⟨1, []⟩] ?_
 refine rve 23 [(0, A a0), (3, .ref 0 0 0 5 (x5.set x4.toNat ({ (({ v11 with fReads := v11.fReads }) : T_impl_Txn) with fWrites := v11.fWrites } : T_impl_Txn)).length false), (4, I (w64 (x4 + 1)))] [some ⟨0, dL (x5.set x4.toNat ({ (({ v11 with fReads := v11.fReads }) : T_impl_Txn) with fWrites := v11.fWrites } : T_impl_Txn))⟩, some ⟨1, []⟩, some ⟨1, []⟩] ?_
 exact ⟨(f6, (w64 (x4 + 1)), (x5.set x4.toNat ({ (({ v11 with fReads := v11.fReads }) : T_impl_Txn) with fWrites := v11.fWrites } : T_impl_Txn))), h, Nat.lt_succ_self _, (it (st' := ⟨23, [(0, A a0), (3, .ref 0 0 0 5 (x5.set x4.toNat ({ (({ v11 with fReads := v11.fReads }) : T_impl_Txn) with fWrites := v11.fWrites } : T_impl_Txn)).length false), (4, I (w64 (x4 + 1)))], [some ⟨0, dL (x5.set x4.toNat ({ (({ v11 with fReads := v11.fReads }) : T_impl_Txn) with fWrites := v11.fWrites } : T_impl_Txn))⟩, some ⟨1, []⟩, some ⟨1, []⟩]⟩) [0, 3, 4]).trans (Imp.truncS 1 (nx hX) (by kernel_rfl) (allBelow_mem (by exact (And.intro rfl (And.intro rfl (And.intro rfl trivial))))) (by exact (And.intro (dL_below _ _) trivial)) (by kernel_rfl))⟩
 refine pwp_exit ?_
 refine srve 23 [(2, rf 0 0 5 x5)] [some ⟨0, dL x5⟩] ?_
 have h := si h
 subst h
 exact pwp_ret (rt (rf 0 0 5 x5) (OutP.listD (v := 0) (by kernel_rfl)))
def laws_toHouse_D (a0 : T_laws_House) : Option T_impl_House := (laws_toVersionS_D a0.fList).bind fun v1 => (laws_toTxnS_D a0.fTxns).bind fun v3 => some (T_impl_House.mk v1 a0.fClock v3)
theorem ok_laws_toHouse_D {a0 : T_laws_House} {y : T_impl_House} (h : laws_toHouse_D a0 = some y) : OK Try.prog 13 [E a0] (.agg (DEnc.cells y)) := by
 refine ow Try.func13 fun Γ hX => ?_
 unfold laws_toHouse_D at h
 refine srvM [1, 2, 3] 1 16 [(1, .ptr 0 0 0)] [sc 0 a0] ?_
 refine opsP_imp (Imp.ghosts 1 (st' := ⟨16, [(1, .ptr 0 0 0)], [sc 0 a0, some ⟨0, []⟩]⟩) (by kernel_rfl)) ?_
 refine opsP_E (dd := some 2) (x := .ptr 1 1 0) (alz_E (blk := ⟨0, []⟩) (zs := [.arr 4 0 [] true, .lit (.int .i64 0), .arr 5 0 [] true]) 2 32 1 0 (nx hX) zi_ok32 (by kernel_rfl) (by kernel_rfl)) ?_
 refine veM [1, 2, 3] 0 16 [(1, .ptr 0 0 0), (2, .ptr 1 1 0)] [sc 0 a0, some ⟨1, [.arr 4 0 (eL ([] : List T_impl_Version)) true, I 0, .arr 5 0 (eL ([] : List T_impl_Txn)) true]⟩] ?_
 refine srvM [1, 2, 3] 0 16 [(1, .ptr 0 0 0), (2, .ptr 1 1 0)] [sc 0 a0, some ⟨1, [.arr 4 0 (eL ([] : List T_impl_Version)) true, I 0, .arr 5 0 (eL ([] : List T_impl_Txn)) true]⟩] ?_
 refine opsP_imp (Imp.ghosts 1 (st' := ⟨16, [(1, .ptr 0 0 0), (2, .ptr 1 1 0)], [sc 0 a0, some ⟨1, [.arr 4 0 (eL ([] : List T_impl_Version)) true, I 0, .arr 5 0 (eL ([] : List T_impl_Txn)) true]⟩, some ⟨0, []⟩]⟩) (by kernel_rfl)) ?_
 refine opsP_E (dd := some 3) (x := .ptr 2 1 0) (alz_E (blk := ⟨0, []⟩) (zs := [.arr 4 0 [] true, .lit (.int .i64 0), .arr 5 0 [] true]) 3 32 2 0 (nx hX) zi_ok32 (by kernel_rfl) (by kernel_rfl)) ?_
 refine veM [1, 2, 3] 0 16 [(1, .ptr 0 0 0), (2, .ptr 1 1 0), (3, .ptr 2 1 0)] [sc 0 a0, some ⟨1, [.arr 4 0 (eL ([] : List T_impl_Version)) true, I 0, .arr 5 0 (eL ([] : List T_impl_Txn)) true]⟩, some ⟨1, [.arr 4 0 (eL ([] : List T_impl_Version)) true, I 0, .arr 5 0 (eL ([] : List T_impl_Txn)) true]⟩] ?_
 refine srvM [1, 2, 3] 2 16 [(1, .ptr 0 0 0), (2, .ptr 1 1 0), (3, .ptr 2 1 0), (5, A a0.fList)] [sc 0 a0, some ⟨1, [.arr 4 0 (eL ([] : List T_impl_Version)) true, I 0, .arr 5 0 (eL ([] : List T_impl_Txn)) true]⟩, some ⟨1, [.arr 4 0 (eL ([] : List T_impl_Version)) true, I 0, .arr 5 0 (eL ([] : List T_impl_Txn)) true]⟩] ?_
 obtain ⟨v1, hv2, h⟩ := bindS h
 refine opsP_callO τ 6 (ok_laws_toVersionS_D hv2) rfl (by kernel_rfl) ?_
 refine veM [1, 2, 3] 2 16 [(1, .ptr 0 0 0), (2, .ptr 1 1 0), (3, .ptr 2 1 0)] [sc 0 a0, some ⟨1, [.arr 4 0 (eL ([] : List T_impl_Version)) true, I 0, .arr 5 0 (eL ([] : List T_impl_Txn)) true]⟩, some ⟨1, [rf 3 0 4 v1, I 0, .arr 5 0 (eL ([] : List T_impl_Txn)) true]⟩, some ⟨0, dL v1⟩] ?_
 refine srveM [1, 2, 3] 16 [(1, .ptr 0 0 0), (2, .ptr 1 1 0), (3, .ptr 2 1 0)] [sc 0 a0, some ⟨1, [.arr 4 0 (eL ([] : List T_impl_Version)) true, I 0, .arr 5 0 (eL ([] : List T_impl_Txn)) true]⟩, some ⟨1, [rf 3 0 4 v1, I a0.fClock, .arr 5 0 (eL ([] : List T_impl_Txn)) true]⟩, some ⟨0, dL v1⟩] ?_
 refine srvM [1, 2, 3] 2 16 [(2, .ptr 1 1 0), (3, .ptr 2 1 0), (12, A a0.fTxns)] [sc 0 a0, some ⟨1, [.arr 4 0 (eL ([] : List T_impl_Version)) true, I 0, .arr 5 0 (eL ([] : List T_impl_Txn)) true]⟩, some ⟨1, [rf 3 0 4 v1, I a0.fClock, .arr 5 0 (eL ([] : List T_impl_Txn)) true]⟩, some ⟨0, dL v1⟩] ?_
 obtain ⟨v3, hv4, h⟩ := bindS h
 refine opsP_callO τ 13 (ok_laws_toTxnS_D hv4) rfl (by kernel_rfl) ?_
 refine veM [1, 2, 3] 2 16 [(2, .ptr 1 1 0), (3, .ptr 2 1 0)] [sc 0 a0, some ⟨1, [.arr 4 0 (eL ([] : List T_impl_Version)) true, I 0, .arr 5 0 (eL ([] : List T_impl_Txn)) true]⟩, some ⟨1, [rf 3 0 4 v1, I a0.fClock, rf 4 0 5 v3]⟩, some ⟨0, dL v1⟩, some ⟨0, dL v3⟩] ?_
 refine srveM [1, 2, 3] 16 [(2, .ptr 1 1 0)] [sc 0 a0, some ⟨1, [rf 3 0 4 v1, I a0.fClock, rf 4 0 5 v3]⟩, some ⟨1, [rf 3 0 4 v1, I a0.fClock, rf 4 0 5 v3]⟩, some ⟨0, dL v1⟩, some ⟨0, dL v3⟩] ?_
 have h := si h
 subst h
 exact pwp_ret (rt (.agg [rf 3 0 4 v1, I a0.fClock, rf 4 0 5 v3]) (OutP.agg (OutL.cons (OutP.listDn (v := 0) (xs := v1) rfl (by kernel_rfl)) (OutL.cons (OutP.frz rfl) (OutL.cons (OutP.listDn (v := 0) (xs := v3) rfl (by kernel_rfl)) (OutL.nil _))))))
def impl_House_danger_R_j3 (x3 : Int) (x7 : Int) (x11 : Int) (K13 : Int → Option (List Int)) (x15 : Bool) : Option (List Int) := bif x15 then some ([x3, x7, x11] : List Int) else K13 (w64 (x11 + 1))
def impl_House_danger_R_l2 (a0 : T_impl_House) (v1 : List T_impl_Edge) (x3 : Int) (x7 : Int) (K9 : Int → Option (List Int)) : Nat → Int → Option (List Int)
 | 0, _ => none
 | f12 + 1, x11 => bif (decide (x11 < 4)) then (impl_House_danger_1 x3 x7 v1).bind fun v17 => bif v17 then (impl_House_danger_1 x7 x11 v1).bind fun v19 => bif v19 then (impl_House_beside a0 x3 x7).bind fun v21 => bif v21 then (impl_House_beside a0 x7 x11).bind fun v23 => bif v23 then (getI a0.fTxns x11).bind fun v25 => (getI a0.fTxns x7).bind fun v27 => bif (decide (v25.fEnd < v27.fEnd)) then (getI a0.fTxns x11).bind fun v29 => (getI a0.fTxns x3).bind fun v31 => impl_House_danger_R_j3 x3 x7 x11 (impl_House_danger_R_l2 a0 v1 x3 x7 K9 f12) (decide (v29.fEnd ≤ v31.fEnd)) else impl_House_danger_R_j3 x3 x7 x11 (impl_House_danger_R_l2 a0 v1 x3 x7 K9 f12) false else impl_House_danger_R_j3 x3 x7 x11 (impl_House_danger_R_l2 a0 v1 x3 x7 K9 f12) false else impl_House_danger_R_j3 x3 x7 x11 (impl_House_danger_R_l2 a0 v1 x3 x7 K9 f12) false else impl_House_danger_R_j3 x3 x7 x11 (impl_House_danger_R_l2 a0 v1 x3 x7 K9 f12) false else impl_House_danger_R_j3 x3 x7 x11 (impl_House_danger_R_l2 a0 v1 x3 x7 K9 f12) false else K9 (w64 (x7 + 1))
def impl_House_danger_R_l1 (a0 : T_impl_House) (v1 : List T_impl_Edge) (x3 : Int) (K5 : Int → Option (List Int)) : Nat → Int → Option (List Int)
 | 0, _ => none
 | f8 + 1, x7 => bif (decide (x7 < 4)) then impl_House_danger_R_l2 a0 v1 x3 x7 (impl_House_danger_R_l1 a0 v1 x3 K5 f8) FUEL 0 else K5 (w64 (x3 + 1))
def impl_House_danger_R_l0 (a0 : T_impl_House) (v1 : List T_impl_Edge) : Nat → Int → Option (List Int)
 | 0, _ => none
 | f4 + 1, x3 => bif (decide (x3 < 4)) then impl_House_danger_R_l1 a0 v1 x3 (impl_House_danger_R_l0 a0 v1 f4) FUEL 0 else some ([] : List Int)
def impl_House_danger_R (a0 : T_impl_House) : Option (List Int) := (impl_House_edges a0).bind fun v1 => impl_House_danger_R_l0 a0 v1 FUEL 0
theorem ok_impl_House_danger_R {a0 : T_impl_House} {y : List Int} (h : impl_House_danger_R a0 = some y) : OK Try.prog 63 [E a0] (O y) := by
 refine ow Try.func63 fun Γ hX => ?_
 unfold impl_House_danger_R at h
 refine srveM [3] 79 [(1, pf a0 0)] [] ?_
 refine srvM [3] 1 79 [(1, pf a0 0), (8, E a0)] [] ?_
 obtain ⟨v1, hv2, h⟩ := bindS h
 refine cF 9 (ok_impl_House_edges hv2) ?_
 refine veM [3] 2 79 [(1, pf a0 0), (3, .ptr 0 0 0)] [sc 0 v1] ?_
 refine srvM [3] 0 79 [(1, pf a0 0), (3, .ptr 0 0 0)] [sc 0 v1] ?_
 refine opsP_imp (Imp.freezeB (v := 0) (cs := Enc.cells v1) (st' := ⟨79, [(1, pf a0 0), (3, pf v1 0)], [none]⟩) 0 0 (nx hX) (by kernel_rfl) (Enc.frz _) (wholeC (whole_noRef (by kernel_rfl)) (wholeC (whole_noRef (by kernel_rfl)) wholeC0)) (HpRel.key HpRel.nil) (by kernel_rfl) rfl (nx hX)) ?_
 refine veM [3] 2 79 [(1, pf a0 0), (4, .fn 121 [pf v1 0])] [none] ?_
 refine pwp_seq ?_
 refine srveM [3] 79 [(1, pf a0 0), (4, .fn 121 [pf v1 0]), (11, I 0)] [none] ?_
 refine pwp_block ?_
 refine pwp_loop (ι := Nat × Int) (fun (f4, x3) => (⟨79, [(1, pf a0 0), (4, .fn 121 [pf v1 0]), (11, I x3)], [none]⟩ : St)) (fun (f4, x3) => impl_House_danger_R_l0 a0 v1 f4 x3 = some y) Prod.fst (FUEL, 0) h (it [1, 4, 11]) ?_
 rintro ⟨f4, x3⟩ h
 dsimp only at h ⊢
 rcases f4 with _ | f4
 cases h
 rw [impl_House_danger_R_l0] at h
 refine srveM [3] 79 [(1, pf a0 0), (4, .fn 121 [pf v1 0]), (11, I x3), (12, B (decide (x3 < 4)))] [none] ?_
 refine pwp_seq ?_
 refine pc h (fun h => ?_) (fun h => ?_)
 refine pwp_skip ?_
 refine pwp_seq ?_
 refine pwp_block ?_
 refine srveM [3] 79 [(1, pf a0 0), (4, .fn 121 [pf v1 0]), (5, I x3), (11, I x3)] [none] ?_
 refine srveM [3] 79 [(1, pf a0 0), (4, .fn 121 [pf v1 0]), (5, I x3), (11, I x3), (14, I 0)] [none] ?_
 refine pwp_block ?_
 refine pwp_loop (ι := Nat × Int) (fun (f8, x7) => (⟨79, [(1, pf a0 0), (4, .fn 121 [pf v1 0]), (5, I x3), (11, I x3), (14, I x7)], [none]⟩ : St)) (fun (f8, x7) => impl_House_danger_R_l1 a0 v1 x3 (impl_House_danger_R_l0 a0 v1 f4) f8 x7 = some y) Prod.fst (FUEL, 0) h (it [1, 4, 5, 11, 14]) ?_
 rintro ⟨f8, x7⟩ h
 dsimp only at h ⊢
 rcases f8 with _ | f8
 cases h
 rw [impl_House_danger_R_l1] at h
 refine srveM [3] 79 [(1, pf a0 0), (4, .fn 121 [pf v1 0]), (5, I x3), (11, I x3), (14, I x7), (15, B (decide (x7 < 4)))] [none] ?_
 refine pwp_seq ?_
 refine pc h (fun h => ?_) (fun h => ?_)
 refine pwp_skip ?_
 refine pwp_seq ?_
 refine pwp_block ?_
 refine srveM [3] 79 [(1, pf a0 0), (4, .fn 121 [pf v1 0]), (5, I x3), (6, I x7), (11, I x3), (14, I x7)] [none] ?_
 refine srveM [3] 79 [(1, pf a0 0), (4, .fn 121 [pf v1 0]), (5, I x3), (6, I x7), (11, I x3), (14, I x7), (17, I 0)] [none] ?_
 refine pwp_block ?_
 refine pwp_loop (ι := Nat × Int) (fun (f12, x11) => (⟨79, [(1, pf a0 0), (4, .fn 121 [pf v1 0]), (5, I x3), (6, I x7), (11, I x3), (14, I x7), (17, I x11)], [none]⟩ : St)) (fun (f12, x11) => impl_House_danger_R_l2 a0 v1 x3 x7 (impl_House_danger_R_l1 a0 v1 x3 (impl_House_danger_R_l0 a0 v1 f4) f8) f12 x11 = some y) Prod.fst (FUEL, 0) h (it [1, 4, 5, 6, 11, 14, 17]) ?_
 rintro ⟨f12, x11⟩ h
 dsimp only at h ⊢
 rcases f12 with _ | f12
 cases h
 rw [impl_House_danger_R_l2] at h
 refine srveM [3] 79 [(1, pf a0 0), (4, .fn 121 [pf v1 0]), (5, I x3), (6, I x7), (11, I x3), (14, I x7), (17, I x11), (18, B (decide (x11 < 4)))] [none] ?_
 refine pwp_seq ?_
 refine pc h (fun h => ?_) (fun h => ?_)
 refine pwp_skip ?_
 refine pwp_seq ?_
 refine pwp_block ?_
 refine srveM [3] 79 [(1, pf a0 0), (4, .fn 121 [pf v1 0]), (5, I x3), (6, I x7), (7, I x11), (11, I x3), (14, I x7), (17, I x11)] [none] ?_
 refine pwp_seq ?_
 refine pwp_join (σ := Bool) (fun x15 => (⟨79, [(1, pf a0 0), (4, .fn 121 [pf v1 0]), (5, I x3), (6, I x7), (7, I x11), (11, I x3), (14, I x7), (17, I x11), (71, B x15)], [none]⟩ : St)) (fun x15 => impl_House_danger_R_j3 x3 x7 x11 (impl_House_danger_R_l2 a0 v1 x3 x7 (impl_House_danger_R_l1 a0 v1 x3 (impl_House_danger_R_l0 a0 v1 f4) f8) f12) x15 = some y) ?_ ?_
 refine ip 79 [(1, pf a0 0), (4, .fn 121 [pf v1 0]), (5, I x3), (6, I x7), (7, I x11), (11, I x3), (14, I x7), (17, I x11)] [none] ?_
 refine pN 52 ?_
 refine qvM [3] [] trivial 3 79 [(22, I x7), (21, I x3), (20, .fn 121 [pf v1 0]), (1, pf a0 0), (4, .fn 121 [pf v1 0]), (5, I x3), (6, I x7), (7, I x11), (11, I x3), (14, I x7), (17, I x11)] [none] ?_
 obtain ⟨v17, hv18, h⟩ := bindS h
 refine qX (some 23) (B v17) 79 [(23, B v17), (1, pf a0 0), (4, .fn 121 [pf v1 0]), (5, I x3), (6, I x7), (7, I x11), (11, I x3), (14, I x7), (17, I x11)] [none] (fun Γ' hΓ => CoreE.of_g (callV_sound (τ := τ) (by kernel_rfl) rfl (ok_impl_House_danger_1 hv18) (FzTo.frz rfl))) trivial ?_
 refine qvM [3] [] trivial 1 79 [(24, B v17), (1, pf a0 0), (4, .fn 121 [pf v1 0]), (5, I x3), (6, I x7), (7, I x11), (11, I x3), (14, I x7), (17, I x11)] [none] ?_
 rcases Bool.eq_false_or_eq_true v17 with hc37 | hc37
 replace h := bT hc37 h
 rw [hc37]
 refine qvM [3] [] trivial 3 79 [(27, I x11), (26, I x7), (25, .fn 121 [pf v1 0]), (24, B true), (1, pf a0 0), (4, .fn 121 [pf v1 0]), (5, I x3), (6, I x7), (7, I x11), (11, I x3), (14, I x7), (17, I x11)] [none] ?_
 obtain ⟨v19, hv20, h⟩ := bindS h
 refine qX (some 28) (B v19) 79 [(28, B v19), (27, I x11), (26, I x7), (25, .fn 121 [pf v1 0]), (24, B true), (1, pf a0 0), (4, .fn 121 [pf v1 0]), (5, I x3), (6, I x7), (7, I x11), (11, I x3), (14, I x7), (17, I x11)] [none] (fun Γ' hΓ => CoreE.of_g (callV_sound (τ := τ) (by kernel_rfl) rfl (ok_impl_House_danger_1 hv20) (FzTo.frz rfl))) trivial ?_
 refine qvM [3] [] trivial 2 79 [(30, B v19), (28, B v19), (27, I x11), (26, I x7), (25, .fn 121 [pf v1 0]), (1, pf a0 0), (4, .fn 121 [pf v1 0]), (5, I x3), (6, I x7), (7, I x11), (11, I x3), (14, I x7), (17, I x11)] [none] ?_
 rcases Bool.eq_false_or_eq_true v19 with hc36 | hc36
 replace h := bT hc36 h
 rw [hc36]
 refine qvM [3] [] trivial 3 79 [(33, I x7), (32, I x3), (31, E a0), (30, B true), (28, B true), (27, I x11), (26, I x7), (25, .fn 121 [pf v1 0]), (1, pf a0 0), (4, .fn 121 [pf v1 0]), (5, I x3), (6, I x7), (7, I x11), (11, I x3), (14, I x7), (17, I x11)] [none] ?_
 obtain ⟨v21, hv22, h⟩ := bindS h
 refine qX (some 34) (B v21) 79 [(34, B v21), (33, I x7), (32, I x3), (31, E a0), (30, B true), (28, B true), (27, I x11), (26, I x7), (25, .fn 121 [pf v1 0]), (1, pf a0 0), (4, .fn 121 [pf v1 0]), (5, I x3), (6, I x7), (7, I x11), (11, I x3), (14, I x7), (17, I x11)] [none] (fun Γ' hΓ => CoreE.of_g (callV_sound (τ := τ) (by kernel_rfl) rfl (ok_impl_House_beside hv22) (FzTo.frz rfl))) trivial ?_
 refine qvM [3] [] trivial 2 79 [(36, B v21), (34, B v21), (33, I x7), (32, I x3), (31, E a0), (28, B true), (27, I x11), (26, I x7), (25, .fn 121 [pf v1 0]), (1, pf a0 0), (4, .fn 121 [pf v1 0]), (5, I x3), (6, I x7), (7, I x11), (11, I x3), (14, I x7), (17, I x11)] [none] ?_
 rcases Bool.eq_false_or_eq_true v21 with hc35 | hc35
 replace h := bT hc35 h
 rw [hc35]
 refine qvM [3] [] trivial 3 79 [(39, I x11), (38, I x7), (37, E a0), (36, B true), (34, B true), (33, I x7), (32, I x3), (31, E a0), (28, B true), (27, I x11), (26, I x7), (25, .fn 121 [pf v1 0]), (1, pf a0 0), (4, .fn 121 [pf v1 0]), (5, I x3), (6, I x7), (7, I x11), (11, I x3), (14, I x7), (17, I x11)] [none] ?_
 obtain ⟨v23, hv24, h⟩ := bindS h
 refine qX (some 40) (B v23) 79 [(40, B v23), (39, I x11), (38, I x7), (37, E a0), (36, B true), (34, B true), (33, I x7), (32, I x3), (31, E a0), (28, B true), (27, I x11), (26, I x7), (25, .fn 121 [pf v1 0]), (1, pf a0 0), (4, .fn 121 [pf v1 0]), (5, I x3), (6, I x7), (7, I x11), (11, I x3), (14, I x7), (17, I x11)] [none] (fun Γ' hΓ => CoreE.of_g (callV_sound (τ := τ) (by kernel_rfl) rfl (ok_impl_House_beside hv24) (FzTo.frz rfl))) trivial ?_
 refine qvM [3] [] trivial 2 79 [(42, B v23), (40, B v23), (39, I x11), (38, I x7), (37, E a0), (34, B true), (33, I x7), (32, I x3), (31, E a0), (28, B true), (27, I x11), (26, I x7), (25, .fn 121 [pf v1 0]), (1, pf a0 0), (4, .fn 121 [pf v1 0]), (5, I x3), (6, I x7), (7, I x11), (11, I x3), (14, I x7), (17, I x11)] [none] ?_
 rcases Bool.eq_false_or_eq_true v23 with hc34 | hc34
 replace h := bT hc34 h
 rw [hc34]
 refine qvM [3] [] trivial 3 79 [(45, I x11), (44, A a0.fTxns), (43, pf a0 2), (42, B true), (40, B true), (39, I x11), (38, I x7), (37, E a0), (34, B true), (33, I x7), (32, I x3), (31, E a0), (28, B true), (27, I x11), (26, I x7), (25, .fn 121 [pf v1 0]), (1, pf a0 0), (4, .fn 121 [pf v1 0]), (5, I x3), (6, I x7), (7, I x11), (11, I x3), (14, I x7), (17, I x11)] [none] ?_
 obtain ⟨v25, hv26, h⟩ := bindS h
 refine qX (some 46) (pf v25 0) 79 [(46, pf v25 0), (45, I x11), (44, A a0.fTxns), (43, pf a0 2), (42, B true), (40, B true), (39, I x11), (38, I x7), (37, E a0), (34, B true), (33, I x7), (32, I x3), (31, E a0), (28, B true), (27, I x11), (26, I x7), (25, .fn 121 [pf v1 0]), (1, pf a0 0), (4, .fn 121 [pf v1 0]), (5, I x3), (6, I x7), (7, I x11), (11, I x3), (14, I x7), (17, I x11)] [none] (fun Γ' hΓ => CoreE.of_y (idxV_sound τ_ok (by kernel_rfl) hv26)) trivial ?_
 refine qvM [3] [] trivial 5 79 [(51, I x7), (50, A a0.fTxns), (49, pf a0 2), (48, I v25.fEnd), (47, pf v25 2), (46, pf v25 0), (45, I x11), (44, A a0.fTxns), (43, pf a0 2), (42, B true), (40, B true), (39, I x11), (38, I x7), (37, E a0), (34, B true), (33, I x7), (32, I x3), (31, E a0), (28, B true), (27, I x11), (26, I x7), (25, .fn 121 [pf v1 0]), (1, pf a0 0), (4, .fn 121 [pf v1 0]), (5, I x3), (6, I x7), (7, I x11), (11, I x3), (14, I x7), (17, I x11)] [none] ?_
 obtain ⟨v27, hv28, h⟩ := bindS h
 refine qX (some 52) (pf v27 0) 79 [(52, pf v27 0), (51, I x7), (50, A a0.fTxns), (49, pf a0 2), (48, I v25.fEnd), (47, pf v25 2), (46, pf v25 0), (45, I x11), (44, A a0.fTxns), (43, pf a0 2), (42, B true), (40, B true), (39, I x11), (38, I x7), (37, E a0), (34, B true), (33, I x7), (32, I x3), (31, E a0), (28, B true), (27, I x11), (26, I x7), (25, .fn 121 [pf v1 0]), (1, pf a0 0), (4, .fn 121 [pf v1 0]), (5, I x3), (6, I x7), (7, I x11), (11, I x3), (14, I x7), (17, I x11)] [none] (fun Γ' hΓ => CoreE.of_y (idxV_sound τ_ok (by kernel_rfl) hv28)) trivial ?_
 refine qvM [3] [] trivial 5 79 [(57, B (decide (v25.fEnd < v27.fEnd))), (55, B (decide (v25.fEnd < v27.fEnd))), (54, I v27.fEnd), (53, pf v27 2), (52, pf v27 0), (51, I x7), (50, A a0.fTxns), (49, pf a0 2), (48, I v25.fEnd), (47, pf v25 2), (46, pf v25 0), (45, I x11), (44, A a0.fTxns), (43, pf a0 2), (40, B true), (39, I x11), (38, I x7), (37, E a0), (34, B true), (33, I x7), (32, I x3), (31, E a0), (28, B true), (27, I x11), (26, I x7), (25, .fn 121 [pf v1 0]), (1, pf a0 0), (4, .fn 121 [pf v1 0]), (5, I x3), (6, I x7), (7, I x11), (11, I x3), (14, I x7), (17, I x11)] [none] ?_
 rcases fk (decide (v25.fEnd < v27.fEnd)) with hc33 | hc33
 replace h := bT hc33 h
 rw [hc33]
 refine qvM [3] [] trivial 3 79 [(60, I x11), (59, A a0.fTxns), (58, pf a0 2), (57, B true), (55, B true), (54, I v27.fEnd), (53, pf v27 2), (52, pf v27 0), (51, I x7), (50, A a0.fTxns), (49, pf a0 2), (48, I v25.fEnd), (47, pf v25 2), (46, pf v25 0), (45, I x11), (44, A a0.fTxns), (43, pf a0 2), (40, B true), (39, I x11), (38, I x7), (37, E a0), (34, B true), (33, I x7), (32, I x3), (31, E a0), (28, B true), (27, I x11), (26, I x7), (25, .fn 121 [pf v1 0]), (1, pf a0 0), (4, .fn 121 [pf v1 0]), (5, I x3), (6, I x7), (7, I x11), (11, I x3), (14, I x7), (17, I x11)] [none] ?_
 obtain ⟨v29, hv30, h⟩ := bindS h
 refine qX (some 61) (pf v29 0) 79 [(61, pf v29 0), (60, I x11), (59, A a0.fTxns), (58, pf a0 2), (57, B true), (55, B true), (54, I v27.fEnd), (53, pf v27 2), (52, pf v27 0), (51, I x7), (50, A a0.fTxns), (49, pf a0 2), (48, I v25.fEnd), (47, pf v25 2), (46, pf v25 0), (45, I x11), (44, A a0.fTxns), (43, pf a0 2), (40, B true), (39, I x11), (38, I x7), (37, E a0), (34, B true), (33, I x7), (32, I x3), (31, E a0), (28, B true), (27, I x11), (26, I x7), (25, .fn 121 [pf v1 0]), (1, pf a0 0), (4, .fn 121 [pf v1 0]), (5, I x3), (6, I x7), (7, I x11), (11, I x3), (14, I x7), (17, I x11)] [none] (fun Γ' hΓ => CoreE.of_y (idxV_sound τ_ok (by kernel_rfl) hv30)) trivial ?_
 refine qvM [3] [] trivial 5 79 [(66, I x3), (65, A a0.fTxns), (64, pf a0 2), (63, I v29.fEnd), (62, pf v29 2), (61, pf v29 0), (60, I x11), (59, A a0.fTxns), (58, pf a0 2), (57, B true), (55, B true), (54, I v27.fEnd), (53, pf v27 2), (52, pf v27 0), (51, I x7), (50, A a0.fTxns), (49, pf a0 2), (48, I v25.fEnd), (47, pf v25 2), (46, pf v25 0), (45, I x11), (44, A a0.fTxns), (43, pf a0 2), (40, B true), (39, I x11), (38, I x7), (37, E a0), (34, B true), (33, I x7), (32, I x3), (31, E a0), (28, B true), (27, I x11), (26, I x7), (25, .fn 121 [pf v1 0]), (1, pf a0 0), (4, .fn 121 [pf v1 0]), (5, I x3), (6, I x7), (7, I x11), (11, I x3), (14, I x7), (17, I x11)] [none] ?_
 obtain ⟨v31, hv32, h⟩ := bindS h
 refine qX (some 67) (pf v31 0) 79 [(67, pf v31 0), (66, I x3), (65, A a0.fTxns), (64, pf a0 2), (63, I v29.fEnd), (62, pf v29 2), (61, pf v29 0), (60, I x11), (59, A a0.fTxns), (58, pf a0 2), (57, B true), (55, B true), (54, I v27.fEnd), (53, pf v27 2), (52, pf v27 0), (51, I x7), (50, A a0.fTxns), (49, pf a0 2), (48, I v25.fEnd), (47, pf v25 2), (46, pf v25 0), (45, I x11), (44, A a0.fTxns), (43, pf a0 2), (40, B true), (39, I x11), (38, I x7), (37, E a0), (34, B true), (33, I x7), (32, I x3), (31, E a0), (28, B true), (27, I x11), (26, I x7), (25, .fn 121 [pf v1 0]), (1, pf a0 0), (4, .fn 121 [pf v1 0]), (5, I x3), (6, I x7), (7, I x11), (11, I x3), (14, I x7), (17, I x11)] [none] (fun Γ' hΓ => CoreE.of_y (idxV_sound τ_ok (by kernel_rfl) hv32)) trivial ?_
 refine qvnM [3] [] trivial 4 79 [(1, pf a0 0), (4, .fn 121 [pf v1 0]), (5, I x3), (6, I x7), (7, I x11), (11, I x3), (14, I x7), (17, I x11), (25, .fn 121 [pf v1 0]), (26, I x7), (27, I x11), (28, B true), (31, E a0), (32, I x3), (33, I x7), (34, B true), (37, E a0), (38, I x7), (39, I x11), (40, B true), (43, pf a0 2), (44, A a0.fTxns), (45, I x11), (46, pf v25 0), (47, pf v25 2), (48, I v25.fEnd), (49, pf a0 2), (50, A a0.fTxns), (51, I x7), (52, pf v27 0), (53, pf v27 2), (54, I v27.fEnd), (55, B true), (58, pf a0 2), (59, A a0.fTxns), (60, I x11), (61, pf v29 0), (62, pf v29 2), (63, I v29.fEnd), (64, pf a0 2), (65, A a0.fTxns), (66, I x3), (67, pf v31 0), (68, pf v31 2), (69, I v31.fEnd), (70, B (decide (v29.fEnd ≤ v31.fEnd))), (71, B (decide (v29.fEnd ≤ v31.fEnd)))] [none] ?_
 exact ⟨(decide (v29.fEnd ≤ v31.fEnd)), h, it [1, 4, 5, 6, 7, 11, 14, 17, 71]⟩
 replace h := bF hc33 h
 rw [hc33]
 refine qvnM [3] [] trivial 14 79 [(1, pf a0 0), (4, .fn 121 [pf v1 0]), (5, I x3), (6, I x7), (7, I x11), (11, I x3), (14, I x7), (17, I x11), (25, .fn 121 [pf v1 0]), (26, I x7), (27, I x11), (28, B true), (31, E a0), (32, I x3), (33, I x7), (34, B true), (37, E a0), (38, I x7), (39, I x11), (40, B true), (43, pf a0 2), (44, A a0.fTxns), (45, I x11), (46, pf v25 0), (47, pf v25 2), (48, I v25.fEnd), (49, pf a0 2), (50, A a0.fTxns), (51, I x7), (52, pf v27 0), (53, pf v27 2), (54, I v27.fEnd), (55, B false), (58, .lit undef), (59, .lit undef), (60, .lit undef), (61, .lit undef), (62, .lit undef), (63, .lit undef), (64, .lit undef), (65, .lit undef), (66, .lit undef), (67, .lit undef), (68, .lit undef), (69, .lit undef), (70, .lit undef), (71, B false)] [none] ?_
 exact ⟨false, h, it [1, 4, 5, 6, 7, 11, 14, 17, 71]⟩
 replace h := bF hc34 h
 rw [hc34]
 refine qvnM [3] [] trivial 29 79 [(1, pf a0 0), (4, .fn 121 [pf v1 0]), (5, I x3), (6, I x7), (7, I x11), (11, I x3), (14, I x7), (17, I x11), (25, .fn 121 [pf v1 0]), (26, I x7), (27, I x11), (28, B true), (31, E a0), (32, I x3), (33, I x7), (34, B true), (37, E a0), (38, I x7), (39, I x11), (40, B false), (43, .lit undef), (44, .lit undef), (45, .lit undef), (46, .lit undef), (47, .lit undef), (48, .lit undef), (49, .lit undef), (50, .lit undef), (51, .lit undef), (52, .lit undef), (53, .lit undef), (54, .lit undef), (55, .lit undef), (58, .lit undef), (59, .lit undef), (60, .lit undef), (61, .lit undef), (62, .lit undef), (63, .lit undef), (64, .lit undef), (65, .lit undef), (66, .lit undef), (67, .lit undef), (68, .lit undef), (69, .lit undef), (70, .lit undef), (71, B false)] [none] ?_
 exact ⟨false, h, it [1, 4, 5, 6, 7, 11, 14, 17, 71]⟩
 replace h := bF hc35 h
 rw [hc35]
 refine qvnM [3] [] trivial 35 79 [(1, pf a0 0), (4, .fn 121 [pf v1 0]), (5, I x3), (6, I x7), (7, I x11), (11, I x3), (14, I x7), (17, I x11), (25, .fn 121 [pf v1 0]), (26, I x7), (27, I x11), (28, B true), (31, E a0), (32, I x3), (33, I x7), (34, B false), (37, .lit undef), (38, .lit undef), (39, .lit undef), (40, .lit undef), (43, .lit undef), (44, .lit undef), (45, .lit undef), (46, .lit undef), (47, .lit undef), (48, .lit undef), (49, .lit undef), (50, .lit undef), (51, .lit undef), (52, .lit undef), (53, .lit undef), (54, .lit undef), (55, .lit undef), (58, .lit undef), (59, .lit undef), (60, .lit undef), (61, .lit undef), (62, .lit undef), (63, .lit undef), (64, .lit undef), (65, .lit undef), (66, .lit undef), (67, .lit undef), (68, .lit undef), (69, .lit undef), (70, .lit undef), (71, B false)] [none] ?_
 exact ⟨false, h, it [1, 4, 5, 6, 7, 11, 14, 17, 71]⟩
 replace h := bF hc36 h
 rw [hc36]
 refine qvnM [3] [] trivial 41 79 [(1, pf a0 0), (4, .fn 121 [pf v1 0]), (5, I x3), (6, I x7), (7, I x11), (11, I x3), (14, I x7), (17, I x11), (25, .fn 121 [pf v1 0]), (26, I x7), (27, I x11), (28, B false), (31, .lit undef), (32, .lit undef), (33, .lit undef), (34, .lit undef), (37, .lit undef), (38, .lit undef), (39, .lit undef), (40, .lit undef), (43, .lit undef), (44, .lit undef), (45, .lit undef), (46, .lit undef), (47, .lit undef), (48, .lit undef), (49, .lit undef), (50, .lit undef), (51, .lit undef), (52, .lit undef), (53, .lit undef), (54, .lit undef), (55, .lit undef), (58, .lit undef), (59, .lit undef), (60, .lit undef), (61, .lit undef), (62, .lit undef), (63, .lit undef), (64, .lit undef), (65, .lit undef), (66, .lit undef), (67, .lit undef), (68, .lit undef), (69, .lit undef), (70, .lit undef), (71, B false)] [none] ?_
 exact ⟨false, h, it [1, 4, 5, 6, 7, 11, 14, 17, 71]⟩
 replace h := bF hc37 h
 rw [hc37]
 refine qvnM [3] [] trivial 47 79 [(1, pf a0 0), (4, .fn 121 [pf v1 0]), (5, I x3), (6, I x7), (7, I x11), (11, I x3), (14, I x7), (17, I x11), (25, .lit undef), (26, .lit undef), (27, .lit undef), (28, .lit undef), (31, .lit undef), (32, .lit undef), (33, .lit undef), (34, .lit undef), (37, .lit undef), (38, .lit undef), (39, .lit undef), (40, .lit undef), (43, .lit undef), (44, .lit undef), (45, .lit undef), (46, .lit undef), (47, .lit undef), (48, .lit undef), (49, .lit undef), (50, .lit undef), (51, .lit undef), (52, .lit undef), (53, .lit undef), (54, .lit undef), (55, .lit undef), (58, .lit undef), (59, .lit undef), (60, .lit undef), (61, .lit undef), (62, .lit undef), (63, .lit undef), (64, .lit undef), (65, .lit undef), (66, .lit undef), (67, .lit undef), (68, .lit undef), (69, .lit undef), (70, .lit undef), (71, B false)] [none] ?_
 exact ⟨false, h, it [1, 4, 5, 6, 7, 11, 14, 17, 71]⟩
 rintro x15 h
 unfold impl_House_danger_R_j3 at h
 refine pc h (fun h => ?_) (fun h => ?_)
 refine srvM [3] 3 79 [(72, I x3), (73, I x7), (74, I x11)] [none] ?_
 refine opsP_E (dd := some 75) (x := .ref 1 0 0 1 ([x3, x7, x11] : List Int).length false) (bsl_N (cells := eL ([x3, x7, x11] : List Int)) τ_ok 75 1 (nx hX) (by kernel_rfl) (by kernel_rfl)) ?_
 refine veM [3] 1 79 [(2, .ref 1 0 0 1 ([x3, x7, x11] : List Int).length false)] [none, some ⟨0, eL ([x3, x7, x11] : List Int)⟩] ?_
 have h := si h
 subst h
 exact pwp_ret (rt (.ref 1 0 0 1 ([x3, x7, x11] : List Int).length false) (OutP.list (v := 0) (by kernel_rfl)))
 refine pwp_skip ?_
 refine rveM [3] 79 [(1, pf a0 0), (4, .fn 121 [pf v1 0]), (5, I x3), (6, I x7), (11, I x3), (14, I x7), (17, I (w64 (x11 + 1)))] [none] ?_
 exact ⟨(f12, (w64 (x11 + 1))), h, Nat.lt_succ_self _, it [1, 4, 5, 6, 11, 14, 17]⟩
 refine pwp_exit ?_
 refine rveM [3] 79 [(1, pf a0 0), (4, .fn 121 [pf v1 0]), (5, I x3), (11, I x3), (14, I (w64 (x7 + 1)))] [none] ?_
 exact ⟨(f8, (w64 (x7 + 1))), h, Nat.lt_succ_self _, it [1, 4, 5, 11, 14]⟩
 refine pwp_exit ?_
 refine rveM [3] 79 [(1, pf a0 0), (4, .fn 121 [pf v1 0]), (11, I (w64 (x3 + 1)))] [none] ?_
 exact ⟨(f4, (w64 (x3 + 1))), h, Nat.lt_succ_self _, it [1, 4, 11]⟩
 refine pwp_exit ?_
 refine srveM [3] 79 [(2, .arr 1 0 (eL ([] : List Int)) true)] [none] ?_
 refine ip 79 [(2, .arr 1 0 (eL ([] : List Int)) true)] [none] ?_
 refine pwp_imp (Imp.thawS (st' := ⟨79, [(2, .ref 1 0 0 1 ([] : List Int).length false)], [none, some ⟨0, eL ([] : List Int)⟩]⟩) 2 [2] (by kernel_rfl)) ?_
 have h := si h
 subst h
 exact pwp_ret (rt (.ref 1 0 0 1 ([] : List Int).length false) (OutP.list (v := 0) (by kernel_rfl)))
def impl_DangerOf_R (a0 : T_impl_House) : Option (List Int) := (impl_HouseOk a0).bind fun v1 => bif (!v1) then some ([] : List Int) else (impl_House_danger_R a0).bind fun v4 => some v4
theorem ok_impl_DangerOf_R {a0 : T_impl_House} {y : List Int} (h : impl_DangerOf_R a0 = some y) : OK Try.prog 21 [E a0] (O y) := by
 refine ow Try.func21 fun Γ hX => ?_
 unfold impl_DangerOf_R at h
 refine srve 8 [(1, pf a0 0)] [] ?_
 refine pwp_seq ?_
 refine srv 1 8 [(1, pf a0 0), (3, E a0)] [] ?_
 obtain ⟨v1, hv2, h⟩ := bindS h
 refine cF 4 (ok_impl_HouseOk hv2) ?_
 refine ve 1 8 [(1, pf a0 0), (5, B (!v1))] [] ?_
 refine pc h (fun h => ?_) (fun h => ?_)
 refine srve 8 [(2, .arr 1 0 (eL ([] : List Int)) true)] [] ?_
 refine ip 8 [(2, .arr 1 0 (eL ([] : List Int)) true)] [] ?_
 refine pwp_imp (Imp.thawS (st' := ⟨8, [(2, .ref 0 0 0 1 ([] : List Int).length false)], [some ⟨0, eL ([] : List Int)⟩]⟩) 2 [2] (by kernel_rfl)) ?_
 have h := si h
 subst h
 exact pwp_ret (rt (.ref 0 0 0 1 ([] : List Int).length false) (OutP.list (v := 0) (by kernel_rfl)))
 refine pwp_skip ?_
 refine srv 1 8 [(6, E a0)] [] ?_
 obtain ⟨v4, hv5, h⟩ := bindS h
 refine opsP_callO τ 7 (ok_impl_House_danger_R hv5) rfl (by kernel_rfl) ?_
 refine ve 1 8 [(2, rf 0 0 1 v4)] [sl 0 v4] ?_
 have h := si h
 subst h
 exact pwp_ret (rt (rf 0 0 1 v4) (OutP.list (v := 0) (by kernel_rfl)))
def laws_FnExactDangerOf_j0 (a0 : T_laws_House) (v6 : List Int) (v10 : List Int) (x22 : Bool) : Option Bool := bif x22 then some false else (laws_markIntS v10 1).bind fun v24 => (laws_heldIntS v24.2 1).bind fun v26 => bif (decide (v26 < 0)) then some false else bif (!(v26 == v24.1)) then some false else (laws_toHouse_D a0).bind fun v30 => (impl_DangerOf_R v30).bind fun v32 => (laws_eqIntS v32 v6).bind fun v34 => bif (!v34) then some false else (laws_heldIntS v24.2 1).bind fun v37 => bif (decide (v37 < 0)) then some false else bif (!(v37 == v24.1)) then some false else some true
def laws_FnExactDangerOf (a0 : T_laws_House) : Option Bool := (laws_szHouse a0 1048576).bind fun v1 => bif (decide (v1 < 0)) then some true else (laws_toHouse_D a0).bind fun v4 => (spec_DangerOf v4).bind fun v6 => (laws_toHouse_D a0).bind fun v8 => (impl_DangerOf_R ({ (({ v8 with fList := v8.fList }) : T_impl_House) with fTxns := v8.fTxns })).bind fun v10 => (laws_eqIntS v10 v6).bind fun v12 => bif (!v12) then some false else (laws_toHouse_D a0).bind fun v15 => (laws_eqHouse ({ (({ v8 with fList := v8.fList }) : T_impl_House) with fTxns := v8.fTxns }) v15).bind fun v17 => bif (!v17) then some false else (laws_markHouse ({ (({ v8 with fList := v8.fList }) : T_impl_House) with fTxns := v8.fTxns }) 1).bind fun v20 => bif (decide (v20 < 0)) then laws_FnExactDangerOf_j0 a0 v6 v10 true else (laws_eqIntS v10 v6).bind fun v41 => laws_FnExactDangerOf_j0 a0 v6 v10 (!v41)
theorem ok_laws_FnExactDangerOf {a0 : T_laws_House} {y : Bool} (h : laws_FnExactDangerOf a0 = some y) : OK Try.prog 5 [E a0] (B y) := by
 refine ow Try.func5 fun Γ hX => ?_
 unfold laws_FnExactDangerOf at h
 refine srveM [5] 69 [(1, pf a0 0)] [] ?_
 refine srveM [5] 69 [(1, pf a0 0), (3, I 1048576)] [] ?_
 refine srvM [5] 2 69 [(1, pf a0 0), (11, E a0), (12, I 1048576)] [] ?_
 obtain ⟨v1, hv2, h⟩ := bindS h
 refine cF 13 (ok_laws_szHouse hv2) ?_
 refine veM [5] 1 69 [(1, pf a0 0), (3, I v1)] [] ?_
 refine pwp_seq ?_
 refine srveM [5] 69 [(1, pf a0 0), (15, B (decide (v1 < 0)))] [] ?_
 refine pc h (fun h => ?_) (fun h => ?_)
 refine srveM [5] 69 [(2, B true)] [] ?_
 cases h
 exact pwp_ret rz
 refine pwp_skip ?_
 refine srvM [5] 1 69 [(1, pf a0 0), (16, E a0)] [] ?_
 obtain ⟨v4, hv5, h⟩ := bindS h
 refine opsP_callF τ 17 (ok_laws_toHouse_D hv5) (FzTo.agg (DEnc.fz _)) rfl (by kernel_rfl) ?_
 obtain ⟨v6, hv7, h⟩ := bindS h
 refine cF 18 (ok_spec_DangerOf hv7) ?_
 refine veM [5] 1 69 [(1, pf a0 0), (4, A v6)] [] ?_
 refine srvM [5] 1 69 [(1, pf a0 0), (4, A v6), (19, E a0)] [] ?_
 obtain ⟨v8, hv9, h⟩ := bindS h
 refine opsP_callO τ 20 (ok_laws_toHouse_D hv9) rfl (by kernel_rfl) ?_
 refine vM [5] 0 69 [(1, pf a0 0), (4, A v6), (20, .agg [rf 0 0 4 v8.fList, I v8.fClock, rf 1 0 5 v8.fTxns])] [some ⟨0, dL v8.fList⟩, some ⟨0, dL v8.fTxns⟩] ?_
 refine opsP_imp (Imp.ghosts 1 (st' := ⟨69, [(1, pf a0 0), (4, A v6), (20, .agg [rf 0 0 4 v8.fList, I v8.fClock, rf 1 0 5 v8.fTxns])], [some ⟨0, dL v8.fList⟩, some ⟨0, dL v8.fTxns⟩, some ⟨0, []⟩]⟩) (by kernel_rfl)) ?_
 refine opsP_E (dd := some 5) (x := .ptr 2 1 0) (alz_E (blk := ⟨0, []⟩) (zs := [.arr 4 0 [] true, .lit (.int .i64 0), .arr 5 0 [] true]) 5 32 2 0 (nx hX) zi_ok32 (by kernel_rfl) (by kernel_rfl)) ?_
 refine veM [5] 1 69 [(1, pf a0 0), (4, A v6), (5, .ptr 2 1 0)] [some ⟨0, dL v8.fList⟩, some ⟨0, dL v8.fTxns⟩, some ⟨1, [rf 0 0 4 v8.fList, I v8.fClock, rf 1 0 5 v8.fTxns]⟩] ?_
 refine srvM [5] 1 69 [(1, pf a0 0), (4, A v6), (5, .ptr 2 1 0), (21, .agg [rf 0 0 4 v8.fList, I v8.fClock, rf 1 0 5 v8.fTxns])] [some ⟨0, dL v8.fList⟩, some ⟨0, dL v8.fTxns⟩, some ⟨1, [rf 0 0 4 v8.fList, I v8.fClock, rf 1 0 5 v8.fTxns]⟩] ?_
 obtain ⟨v10, hv11, h⟩ := bindS h
 refine opsP_E (dd := some 22) (x := rf 3 0 1 v10) (callVN_E (xs := [.agg [rf 0 0 4 v8.fList, I v8.fClock, rf 1 0 5 v8.fTxns]]) τ 22 3 (nx hX) (by kernel_rfl) (ok_impl_DangerOf_R hv11) (Blind.O (fun _ => rfl) _) (by kernel_rfl) (ViewL.cons (View.agg (ViewL.cons (View.deep (v := 0) v8.fList (by kernel_rfl) rfl) (ViewL.cons (View.frz rfl) (ViewL.cons (View.deep (v := 0) v8.fTxns (by kernel_rfl) rfl) (ViewL.nil _))))) (ViewL.nil _))) ?_
 refine veM [5] 1 69 [(1, pf a0 0), (4, A v6), (5, .ptr 2 1 0), (6, rf 3 0 1 v10)] [some ⟨0, dL v8.fList⟩, some ⟨0, dL v8.fTxns⟩, some ⟨1, [rf 0 0 4 v8.fList, I v8.fClock, rf 1 0 5 v8.fTxns]⟩, sl 0 v10] ?_
 refine pwp_seq ?_
 refine srvM [5] 2 69 [(1, pf a0 0), (4, A v6), (5, .ptr 2 1 0), (6, rf 3 0 1 v10), (23, rf 3 0 1 v10), (24, A v6)] [some ⟨0, dL v8.fList⟩, some ⟨0, dL v8.fTxns⟩, some ⟨1, [rf 0 0 4 v8.fList, I v8.fClock, rf 1 0 5 v8.fTxns]⟩, sl 0 v10] ?_
 obtain ⟨v12, hv13, h⟩ := bindS h
 refine opsP_callV (xs := [rf 3 0 1 v10, A v6]) τ 25 (ok_laws_eqIntS hv13) (Blind.lit _) (FzTo.frz rfl) (by kernel_rfl) (ViewL.cons (View.whole (v := 0) v10 (by kernel_rfl) rfl) (ViewL.cons (View.frz rfl) (ViewL.nil _))) ?_
 refine veM [5] 1 69 [(1, pf a0 0), (4, A v6), (5, .ptr 2 1 0), (6, rf 3 0 1 v10), (26, B (!v12))] [some ⟨0, dL v8.fList⟩, some ⟨0, dL v8.fTxns⟩, some ⟨1, [rf 0 0 4 v8.fList, I v8.fClock, rf 1 0 5 v8.fTxns]⟩, sl 0 v10] ?_
 refine pc h (fun h => ?_) (fun h => ?_)
 refine srveM [5] 69 [(2, B false)] [some ⟨0, dL v8.fList⟩, some ⟨0, dL v8.fTxns⟩, some ⟨1, [rf 0 0 4 v8.fList, I v8.fClock, rf 1 0 5 v8.fTxns]⟩, sl 0 v10] ?_
 cases h
 exact pwp_ret rz
 refine pwp_skip ?_
 refine pwp_seq ?_
 refine pwp_seq ?_
 refine ip 69 [(1, pf a0 0), (4, A v6), (5, .ptr 2 1 0), (6, rf 3 0 1 v10)] [some ⟨0, dL v8.fList⟩, some ⟨0, dL v8.fTxns⟩, some ⟨1, [rf 0 0 4 v8.fList, I v8.fClock, rf 1 0 5 v8.fTxns]⟩, sl 0 v10] ?_
 refine pwp_any ([[0, 1, 2], [], [], [0, 1], []]) ([[], [], [], [], []]) rfl (by kernel_rfl) ?_
 refine qvM [5] [0, 1, 2] (hD (hD (hR trivial))) 1 69 [(27, .agg [rf 0 0 4 v8.fList, I v8.fClock, rf 1 0 5 v8.fTxns]), (1, pf a0 0), (4, A v6), (5, .ptr 2 1 0), (6, rf 3 0 1 v10)] [some ⟨0, dL v8.fList⟩, some ⟨0, dL v8.fTxns⟩, some ⟨1, [rf 0 0 4 v8.fList, I v8.fClock, rf 1 0 5 v8.fTxns]⟩, sl 0 v10] ?_
 refine qvM [5] [] trivial 1 69 [(28, E a0), (27, .agg [rf 0 0 4 v8.fList, I v8.fClock, rf 1 0 5 v8.fTxns]), (1, pf a0 0), (4, A v6), (5, .ptr 2 1 0), (6, rf 3 0 1 v10)] [some ⟨0, dL v8.fList⟩, some ⟨0, dL v8.fTxns⟩, some ⟨1, [rf 0 0 4 v8.fList, I v8.fClock, rf 1 0 5 v8.fTxns]⟩, sl 0 v10] ?_
 obtain ⟨v15, hv16, h⟩ := bindS h
 refine qX (some 29) (E v15) 69 [(29, E v15), (27, .agg [rf 0 0 4 v8.fList, I v8.fClock, rf 1 0 5 v8.fTxns]), (1, pf a0 0), (4, A v6), (5, .ptr 2 1 0), (6, rf 3 0 1 v10)] [some ⟨0, dL v8.fList⟩, some ⟨0, dL v8.fTxns⟩, some ⟨1, [rf 0 0 4 v8.fList, I v8.fClock, rf 1 0 5 v8.fTxns]⟩, sl 0 v10] (fun Γ' hΓ => CoreE.of_g (callV_sound (τ := τ) (by kernel_rfl) rfl (ok_laws_toHouse_D hv16) (FzTo.agg (DEnc.fz _)))) trivial ?_
 obtain ⟨v17, hv18, h⟩ := bindS h
 refine qX (some 30) (B v17) 69 [(30, B v17), (1, pf a0 0), (4, A v6), (5, .ptr 2 1 0), (6, rf 3 0 1 v10)] [some ⟨0, dL v8.fList⟩, some ⟨0, dL v8.fTxns⟩, some ⟨1, [rf 0 0 4 v8.fList, I v8.fClock, rf 1 0 5 v8.fTxns]⟩, sl 0 v10] (fun Γ' hΓ => CoreE.of_g (callVV_sound (xs := [.agg [rf 0 0 4 v8.fList, I v8.fClock, rf 1 0 5 v8.fTxns], E v15]) (τ := τ) (by kernel_rfl) (ViewL.cons (View.agg (ViewL.cons (View.deep (v := 0) v8.fList (by kernel_rfl) rfl) (ViewL.cons (View.frz rfl) (ViewL.cons (View.deep (v := 0) v8.fTxns (by kernel_rfl) rfl) (ViewL.nil _))))) (ViewL.cons (View.frz rfl) (ViewL.nil _))) (ok_laws_eqHouse hv18) (Blind.lit _) (FzTo.frz rfl))) (hD (hD trivial)) ?_
 refine qvnM [5] [] trivial 1 69 [(1, pf a0 0), (4, A v6), (5, .ptr 2 1 0), (6, rf 3 0 1 v10), (31, B (!v17))] [some ⟨0, dL v8.fList⟩, some ⟨0, dL v8.fTxns⟩, some ⟨1, [rf 0 0 4 v8.fList, I v8.fClock, rf 1 0 5 v8.fTxns]⟩, sl 0 v10] ?_
 refine pc h (fun h => ?_) (fun h => ?_)
 refine srveM [5] 69 [(2, B false)] [some ⟨0, dL v8.fList⟩, some ⟨0, dL v8.fTxns⟩, some ⟨1, [rf 0 0 4 v8.fList, I v8.fClock, rf 1 0 5 v8.fTxns]⟩, sl 0 v10] ?_
 cases h
 exact pwp_ret rz
 refine pwp_skip ?_
 refine srveM [5] 69 [(1, pf a0 0), (4, A v6), (5, .ptr 2 1 0), (6, rf 3 0 1 v10), (7, I 1)] [some ⟨0, dL v8.fList⟩, some ⟨0, dL v8.fTxns⟩, some ⟨1, [rf 0 0 4 v8.fList, I v8.fClock, rf 1 0 5 v8.fTxns]⟩, sl 0 v10] ?_
 refine srvM [5] 2 69 [(1, pf a0 0), (4, A v6), (6, rf 3 0 1 v10), (32, .agg [rf 0 0 4 v8.fList, I v8.fClock, rf 1 0 5 v8.fTxns]), (33, I 1)] [some ⟨0, dL v8.fList⟩, some ⟨0, dL v8.fTxns⟩, some ⟨1, [rf 0 0 4 v8.fList, I v8.fClock, rf 1 0 5 v8.fTxns]⟩, sl 0 v10] ?_
 obtain ⟨v20, hv21, h⟩ := bindS h
 refine opsP_callM (xs := [.agg [rf 0 0 4 v8.fList, I v8.fClock, rf 1 0 5 v8.fTxns], I 1]) (x := I v20) (bs := []) τ 34 [0, 1] (nx hX) (ok_laws_markHouse hv21) (by kernel_rfl) (OutL.cons (OutP.agg (OutL.cons (OutP.listDn (v := 0) (xs := v8.fList) rfl (by kernel_rfl)) (OutL.cons (OutP.frz rfl) (OutL.cons (OutP.listDn (v := 0) (xs := v8.fTxns) rfl (by kernel_rfl)) (OutL.nil _))))) (OutL.cons (OutP.frz rfl) (OutL.nil _))) (by decide) (by kernel_rfl) ?_
 refine veM [5] 1 69 [(1, pf a0 0), (4, A v6), (6, rf 3 0 1 v10), (7, I v20)] [none, none, some ⟨1, [rf 0 0 4 v8.fList, I v8.fClock, rf 1 0 5 v8.fTxns]⟩, sl 0 v10] ?_
 refine pwp_seq ?_
 refine pwp_seq ?_
 refine pwp_join (σ := Bool) (fun x22 => (⟨69, [(1, pf a0 0), (4, A v6), (6, rf 3 0 1 v10), (42, B x22)], [none, none, some ⟨1, [rf 0 0 4 v8.fList, I v8.fClock, rf 1 0 5 v8.fTxns]⟩, sl 0 v10]⟩ : St)) (fun x22 => laws_FnExactDangerOf_j0 a0 v6 v10 x22 = some y) ?_ ?_
 refine rvM [5] 3 69 [(1, pf a0 0), (4, A v6), (6, rf 3 0 1 v10), (37, B (decide (v20 < 0)))] [none, none, some ⟨1, [rf 0 0 4 v8.fList, I v8.fClock, rf 1 0 5 v8.fTxns]⟩, sl 0 v10] ?_
 rcases fk (decide (v20 < 0)) with hc43 | hc43
 replace h := bT hc43 h
 rw [hc43]
 refine veM [5] 5 69 [(1, pf a0 0), (4, A v6), (6, rf 3 0 1 v10), (42, B true)] [none, none, some ⟨1, [rf 0 0 4 v8.fList, I v8.fClock, rf 1 0 5 v8.fTxns]⟩, sl 0 v10] ?_
 exact ⟨true, h, it [1, 4, 6, 42]⟩
 replace h := bF hc43 h
 rw [hc43]
 refine vM [5] 2 69 [(1, pf a0 0), (4, A v6), (6, rf 3 0 1 v10), (37, B false), (38, rf 3 0 1 v10), (39, A v6)] [none, none, some ⟨1, [rf 0 0 4 v8.fList, I v8.fClock, rf 1 0 5 v8.fTxns]⟩, sl 0 v10] ?_
 obtain ⟨v41, hv42, h⟩ := bindS h
 refine opsP_callV (xs := [rf 3 0 1 v10, A v6]) τ 40 (ok_laws_eqIntS hv42) (Blind.lit _) (FzTo.frz rfl) (by kernel_rfl) (ViewL.cons (View.whole (v := 0) v10 (by kernel_rfl) rfl) (ViewL.cons (View.frz rfl) (ViewL.nil _))) ?_
 refine veM [5] 2 69 [(1, pf a0 0), (4, A v6), (6, rf 3 0 1 v10), (42, B (!v41))] [none, none, some ⟨1, [rf 0 0 4 v8.fList, I v8.fClock, rf 1 0 5 v8.fTxns]⟩, sl 0 v10] ?_
 exact ⟨(!v41), h, it [1, 4, 6, 42]⟩
 rintro x22 h
 unfold laws_FnExactDangerOf_j0 at h
 refine pc h (fun h => ?_) (fun h => ?_)
 refine srveM [5] 69 [(2, B false)] [none, none, some ⟨1, [rf 0 0 4 v8.fList, I v8.fClock, rf 1 0 5 v8.fTxns]⟩, sl 0 v10] ?_
 cases h
 exact pwp_ret rz
 refine pwp_skip ?_
 refine srveM [5] 69 [(1, pf a0 0), (4, A v6), (6, rf 3 0 1 v10), (8, I 1)] [none, none, some ⟨1, [rf 0 0 4 v8.fList, I v8.fClock, rf 1 0 5 v8.fTxns]⟩, sl 0 v10] ?_
 refine srvM [5] 2 69 [(1, pf a0 0), (4, A v6), (6, rf 3 0 1 v10), (43, rf 3 0 1 v10), (44, I 1)] [none, none, some ⟨1, [rf 0 0 4 v8.fList, I v8.fClock, rf 1 0 5 v8.fTxns]⟩, sl 0 v10] ?_
 obtain ⟨v24, hv25, h⟩ := bindS h
 refine opsP_E (dd := some 45) (x := I v24.1) (callD_E τ 45 3 0 (ok_laws_markIntS hv25) (by kernel_rfl)) ?_
 refine io 69 [(1, pf a0 0), (4, A v6), (6, rf 3 0 1 v10), (43, rf 3 0 1 v10), (44, I 1), (45, I v24.1)] [none, none, some ⟨1, [rf 0 0 4 v8.fList, I v8.fClock, rf 1 0 5 v8.fTxns]⟩, sl 0 v24.2] ?_
 refine opsP_ren (st' := ⟨69, [(1, pf a0 0), (4, A v6), (6, rf 3 0 1 v24.2), (43, rf 3 0 1 v24.2), (44, I 1), (45, I v24.1)], [none, none, some ⟨1, [rf 0 0 4 v8.fList, I v8.fClock, rf 1 0 5 v8.fTxns]⟩, sl 0 v24.2]⟩) 3 v24.2.length (renC trivial (renC trivial (renC (ren_ref (len_laws_markIntS hv25).symm) (renC (ren_ref (len_laws_markIntS hv25).symm) (renC trivial (renC trivial renC0)))))) (by kernel_rfl) ?_
 refine veM [5] 1 69 [(1, pf a0 0), (4, A v6), (6, rf 3 0 1 v24.2), (8, I v24.1)] [none, none, some ⟨1, [rf 0 0 4 v8.fList, I v8.fClock, rf 1 0 5 v8.fTxns]⟩, sl 0 v24.2] ?_
 refine srveM [5] 69 [(1, pf a0 0), (4, A v6), (6, rf 3 0 1 v24.2), (8, I v24.1), (9, I 1)] [none, none, some ⟨1, [rf 0 0 4 v8.fList, I v8.fClock, rf 1 0 5 v8.fTxns]⟩, sl 0 v24.2] ?_
 refine srvM [5] 2 69 [(1, pf a0 0), (4, A v6), (6, rf 3 0 1 v24.2), (8, I v24.1), (46, rf 3 0 1 v24.2), (47, I 1)] [none, none, some ⟨1, [rf 0 0 4 v8.fList, I v8.fClock, rf 1 0 5 v8.fTxns]⟩, sl 0 v24.2] ?_
 obtain ⟨v26, hv27, h⟩ := bindS h
 refine opsP_callV (xs := [rf 3 0 1 v24.2, I 1]) τ 48 (ok_laws_heldIntS hv27) (Blind.lit _) (FzTo.frz rfl) (by kernel_rfl) (ViewL.cons (View.whole (v := 0) v24.2 (by kernel_rfl) rfl) (ViewL.cons (View.frz rfl) (ViewL.nil _))) ?_
 refine veM [5] 1 69 [(1, pf a0 0), (4, A v6), (6, rf 3 0 1 v24.2), (8, I v24.1), (9, I v26)] [none, none, some ⟨1, [rf 0 0 4 v8.fList, I v8.fClock, rf 1 0 5 v8.fTxns]⟩, sl 0 v24.2] ?_
 refine pwp_seq ?_
 refine srveM [5] 69 [(1, pf a0 0), (4, A v6), (6, rf 3 0 1 v24.2), (8, I v24.1), (9, I v26), (50, B (decide (v26 < 0)))] [none, none, some ⟨1, [rf 0 0 4 v8.fList, I v8.fClock, rf 1 0 5 v8.fTxns]⟩, sl 0 v24.2] ?_
 refine pc h (fun h => ?_) (fun h => ?_)
 refine srveM [5] 69 [(2, B false)] [none, none, some ⟨1, [rf 0 0 4 v8.fList, I v8.fClock, rf 1 0 5 v8.fTxns]⟩, sl 0 v24.2] ?_
 cases h
 exact pwp_ret rz
 refine pwp_skip ?_
 refine pwp_seq ?_
 refine srveM [5] 69 [(1, pf a0 0), (4, A v6), (6, rf 3 0 1 v24.2), (8, I v24.1), (53, B (!(v26 == v24.1)))] [none, none, some ⟨1, [rf 0 0 4 v8.fList, I v8.fClock, rf 1 0 5 v8.fTxns]⟩, sl 0 v24.2] ?_
 refine pc h (fun h => ?_) (fun h => ?_)
 refine srveM [5] 69 [(2, B false)] [none, none, some ⟨1, [rf 0 0 4 v8.fList, I v8.fClock, rf 1 0 5 v8.fTxns]⟩, sl 0 v24.2] ?_
 cases h
 exact pwp_ret rz
 refine pwp_skip ?_
 refine srvM [5] 1 69 [(4, A v6), (6, rf 3 0 1 v24.2), (8, I v24.1), (54, E a0)] [none, none, some ⟨1, [rf 0 0 4 v8.fList, I v8.fClock, rf 1 0 5 v8.fTxns]⟩, sl 0 v24.2] ?_
 obtain ⟨v30, hv31, h⟩ := bindS h
 refine opsP_callF τ 55 (ok_laws_toHouse_D hv31) (FzTo.agg (DEnc.fz _)) rfl (by kernel_rfl) ?_
 obtain ⟨v32, hv33, h⟩ := bindS h
 refine cFo 56 (ok_impl_DangerOf_R hv33) ?_
 refine veM [5] 1 69 [(4, A v6), (6, rf 3 0 1 v24.2), (8, I v24.1), (10, A v32)] [none, none, some ⟨1, [rf 0 0 4 v8.fList, I v8.fClock, rf 1 0 5 v8.fTxns]⟩, sl 0 v24.2] ?_
 refine pwp_seq ?_
 refine srvM [5] 2 69 [(6, rf 3 0 1 v24.2), (8, I v24.1), (57, A v32), (58, A v6)] [none, none, some ⟨1, [rf 0 0 4 v8.fList, I v8.fClock, rf 1 0 5 v8.fTxns]⟩, sl 0 v24.2] ?_
 obtain ⟨v34, hv35, h⟩ := bindS h
 refine cF 59 (ok_laws_eqIntS hv35) ?_
 refine veM [5] 1 69 [(6, rf 3 0 1 v24.2), (8, I v24.1), (60, B (!v34))] [none, none, some ⟨1, [rf 0 0 4 v8.fList, I v8.fClock, rf 1 0 5 v8.fTxns]⟩, sl 0 v24.2] ?_
 refine pc h (fun h => ?_) (fun h => ?_)
 refine srveM [5] 69 [(2, B false)] [none, none, some ⟨1, [rf 0 0 4 v8.fList, I v8.fClock, rf 1 0 5 v8.fTxns]⟩, sl 0 v24.2] ?_
 cases h
 exact pwp_ret rz
 refine pwp_skip ?_
 refine srveM [5] 69 [(6, rf 3 0 1 v24.2), (8, I v24.1), (9, I 1)] [none, none, some ⟨1, [rf 0 0 4 v8.fList, I v8.fClock, rf 1 0 5 v8.fTxns]⟩, sl 0 v24.2] ?_
 refine srvM [5] 2 69 [(8, I v24.1), (61, rf 3 0 1 v24.2), (62, I 1)] [none, none, some ⟨1, [rf 0 0 4 v8.fList, I v8.fClock, rf 1 0 5 v8.fTxns]⟩, sl 0 v24.2] ?_
 obtain ⟨v37, hv38, h⟩ := bindS h
 refine opsP_callV (xs := [rf 3 0 1 v24.2, I 1]) τ 63 (ok_laws_heldIntS hv38) (Blind.lit _) (FzTo.frz rfl) (by kernel_rfl) (ViewL.cons (View.whole (v := 0) v24.2 (by kernel_rfl) rfl) (ViewL.cons (View.frz rfl) (ViewL.nil _))) ?_
 refine veM [5] 1 69 [(8, I v24.1), (9, I v37)] [none, none, some ⟨1, [rf 0 0 4 v8.fList, I v8.fClock, rf 1 0 5 v8.fTxns]⟩, sl 0 v24.2] ?_
 refine pwp_seq ?_
 refine srveM [5] 69 [(8, I v24.1), (9, I v37), (65, B (decide (v37 < 0)))] [none, none, some ⟨1, [rf 0 0 4 v8.fList, I v8.fClock, rf 1 0 5 v8.fTxns]⟩, sl 0 v24.2] ?_
 refine pc h (fun h => ?_) (fun h => ?_)
 refine srveM [5] 69 [(2, B false)] [none, none, some ⟨1, [rf 0 0 4 v8.fList, I v8.fClock, rf 1 0 5 v8.fTxns]⟩, sl 0 v24.2] ?_
 cases h
 exact pwp_ret rz
 refine pwp_skip ?_
 refine pwp_seq ?_
 refine srveM [5] 69 [(68, B (!(v37 == v24.1)))] [none, none, some ⟨1, [rf 0 0 4 v8.fList, I v8.fClock, rf 1 0 5 v8.fTxns]⟩, sl 0 v24.2] ?_
 refine pc h (fun h => ?_) (fun h => ?_)
 refine srveM [5] 69 [(2, B false)] [none, none, some ⟨1, [rf 0 0 4 v8.fList, I v8.fClock, rf 1 0 5 v8.fTxns]⟩, sl 0 v24.2] ?_
 cases h
 exact pwp_ret rz
 refine pwp_skip ?_
 refine srveM [5] 69 [(2, B true)] [none, none, some ⟨1, [rf 0 0 4 v8.fList, I v8.fClock, rf 1 0 5 v8.fTxns]⟩, sl 0 v24.2] ?_
 cases h
 exact pwp_ret rz
end Go.D
