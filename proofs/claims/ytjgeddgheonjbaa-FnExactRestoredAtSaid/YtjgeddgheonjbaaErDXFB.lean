import Derived.Test.YtjgeddgheonjbaaErDXFA
import Derived.KernelRfl
set_option linter.unusedVariables false
set_option linter.unusedSimpArgs false
namespace Go.D
open Go.Proofs
theorem ok_impl_WritesOk {a0 : List T_impl_Write} {y : Bool} (h : impl_WritesOk a0 = some y) : OK Try.prog 56 [A a0] (B y) := by
 refine ow Try.func56 fun Γ hX => ?_
 unfold impl_WritesOk at h
 refine srveM [4] 51 [(0, A a0)] [] ?_
 refine pwp_seq ?_
 refine srveM [4] 51 [(0, A a0), (5, A a0), (6, I (a0.length : Int)), (7, I 0)] [] ?_
 refine pwp_block ?_
 refine pwp_loop (ι := Nat × Int) (fun (f2, x1) => (⟨51, [(0, A a0), (5, A a0), (6, I (a0.length : Int)), (7, I x1)], []⟩ : St)) (fun (f2, x1) => impl_WritesOk_l0 a0 f2 x1 = some y) Prod.fst (FUEL, 0) h (it [0, 5, 6, 7]) ?_
 rintro ⟨f2, x1⟩ h
 dsimp only at h ⊢
 rcases f2 with _ | f2
 cases h
 rw [impl_WritesOk_l0] at h
 refine srveM [4] 51 [(0, A a0), (5, A a0), (6, I (a0.length : Int)), (7, I x1), (8, B (decide (x1 < (a0.length : Int))))] [] ?_
 refine pwp_seq ?_
 refine pc h (fun h => ?_) (fun h => ?_)
 refine pwp_skip ?_
 refine pwp_seq ?_
 refine pwp_block ?_
 refine srvM [4] 1 51 [(0, A a0), (5, A a0), (6, I (a0.length : Int)), (7, I x1), (9, I x1)] [] ?_
 obtain ⟨v5, hv6, h⟩ := bindS h
 refine opsP_idx τ_ok 10 hv6 (by kernel_rfl) ?_
 refine veM [4] 4 51 [(0, A a0), (3, I x1), (4, .ptr 0 0 0), (5, A a0), (6, I (a0.length : Int)), (7, I x1)] [sc 0 v5] ?_
 refine pwp_seq ?_
 refine pwp_join (σ := Bool) (fun x7 => (⟨51, [(0, A a0), (5, A a0), (6, I (a0.length : Int)), (7, I x1), (46, B x7)], [sc 0 v5]⟩ : St)) (fun x7 => impl_WritesOk_j1 x1 (impl_WritesOk_l0 a0 f2) x7 = some y) ?_ ?_
 refine ip 51 [(0, A a0), (3, I x1), (4, .ptr 0 0 0), (5, A a0), (6, I (a0.length : Int)), (7, I x1)] [sc 0 v5] ?_
 refine pwp_any ([[0], [0], [], [], [], [0], [0], [], [], [], [], [0], [0], [], [0], [0], [], [], [], [], [], [], [], [], [], [], [], [], [], [], [0], [0], [], [], []]) ([[], [], [], [], [], [], [], [], [], [], [], [], [], [], [], [], [], [], [], [], [], [], [], [], [], [], [], [], [], [], [], [], [], [], []]) rfl (by kernel_rfl) ?_
 refine qvM [4] [0] (hB trivial) 2 51 [(13, I v5.fKey), (0, A a0), (3, I x1), (4, .ptr 0 0 0), (5, A a0), (6, I (a0.length : Int)), (7, I x1)] [sc 0 v5] ?_
 obtain ⟨v9, hv10, h⟩ := bindS h
 refine qX (some 14) (B v9) 51 [(14, B v9), (0, A a0), (3, I x1), (4, .ptr 0 0 0), (5, A a0), (6, I (a0.length : Int)), (7, I x1)] [sc 0 v5] (fun Γ' hΓ => CoreE.of_g (callV_sound (τ := τ) (by kernel_rfl) rfl (ok_impl_keyOk hv10) (FzTo.frz rfl))) trivial ?_
 refine qvM [4] [] trivial 2 51 [(16, B (!v9)), (0, A a0), (3, I x1), (4, .ptr 0 0 0), (5, A a0), (6, I (a0.length : Int)), (7, I x1)] [sc 0 v5] ?_
 rcases fk (!v9) with hc22 | hc22
 replace h := bT hc22 h
 rw [hc22]
 refine qvM [4] [0] (hB trivial) 2 51 [(18, .lit undef), (17, .lit undef), (16, B true), (0, A a0), (3, I x1), (4, .ptr 0 0 0), (5, A a0), (6, I (a0.length : Int)), (7, I x1)] [sc 0 v5] ?_
 refine qvM [4] [] trivial 4 51 [(22, B true), (20, .lit undef), (19, .lit undef), (18, .lit undef), (17, .lit undef), (0, A a0), (3, I x1), (4, .ptr 0 0 0), (5, A a0), (6, I (a0.length : Int)), (7, I x1)] [sc 0 v5] ?_
 refine qvM [4] [0] (hB trivial) 2 51 [(24, .lit undef), (23, .lit undef), (22, B true), (20, .lit undef), (19, .lit undef), (18, .lit undef), (17, .lit undef), (0, A a0), (3, I x1), (4, .ptr 0 0 0), (5, A a0), (6, I (a0.length : Int)), (7, I x1)] [sc 0 v5] ?_
 refine qvM [4] [] trivial 1 51 [(25, .lit undef), (24, .lit undef), (23, .lit undef), (22, B true), (20, .lit undef), (19, .lit undef), (18, .lit undef), (17, .lit undef), (0, A a0), (3, I x1), (4, .ptr 0 0 0), (5, A a0), (6, I (a0.length : Int)), (7, I x1)] [sc 0 v5] ?_
 refine qvM [4] [0] (hB trivial) 2 51 [(27, .lit undef), (26, .lit undef), (25, .lit undef), (24, .lit undef), (23, .lit undef), (22, B true), (20, .lit undef), (19, .lit undef), (18, .lit undef), (17, .lit undef), (0, A a0), (3, I x1), (4, .ptr 0 0 0), (5, A a0), (6, I (a0.length : Int)), (7, I x1)] [sc 0 v5] ?_
 refine qvM [4] [] trivial 14 51 [(41, .lit undef), (40, .lit undef), (39, .lit undef), (38, .lit undef), (37, .lit undef), (36, .lit undef), (35, .lit undef), (34, .lit undef), (33, .lit undef), (32, B true), (30, .lit undef), (29, .lit undef), (28, .lit undef), (27, .lit undef), (26, .lit undef), (25, .lit undef), (24, .lit undef), (23, .lit undef), (20, .lit undef), (19, .lit undef), (18, .lit undef), (17, .lit undef), (0, A a0), (4, .ptr 0 0 0), (5, A a0), (6, I (a0.length : Int)), (7, I x1)] [sc 0 v5] ?_
 refine qvM [4] [0] (hB trivial) 2 51 [(43, .lit undef), (42, .lit undef), (41, .lit undef), (40, .lit undef), (39, .lit undef), (38, .lit undef), (37, .lit undef), (36, .lit undef), (35, .lit undef), (34, .lit undef), (33, .lit undef), (32, B true), (30, .lit undef), (29, .lit undef), (28, .lit undef), (27, .lit undef), (26, .lit undef), (25, .lit undef), (24, .lit undef), (23, .lit undef), (20, .lit undef), (19, .lit undef), (18, .lit undef), (17, .lit undef), (0, A a0), (5, A a0), (6, I (a0.length : Int)), (7, I x1)] [sc 0 v5] ?_
 refine qvM [4] [] trivial 3 51 [(46, B true), (45, .lit undef), (44, .lit undef), (43, .lit undef), (42, .lit undef), (41, .lit undef), (40, .lit undef), (39, .lit undef), (38, .lit undef), (37, .lit undef), (36, .lit undef), (35, .lit undef), (34, .lit undef), (33, .lit undef), (30, .lit undef), (29, .lit undef), (28, .lit undef), (27, .lit undef), (26, .lit undef), (25, .lit undef), (24, .lit undef), (23, .lit undef), (20, .lit undef), (19, .lit undef), (18, .lit undef), (17, .lit undef), (0, A a0), (5, A a0), (6, I (a0.length : Int)), (7, I x1)] [sc 0 v5] ?_
 refine qn 51 [(0, A a0), (5, A a0), (6, I (a0.length : Int)), (7, I x1), (17, .lit undef), (18, .lit undef), (19, .lit undef), (20, .lit undef), (23, .lit undef), (24, .lit undef), (25, .lit undef), (26, .lit undef), (27, .lit undef), (28, .lit undef), (29, .lit undef), (30, .lit undef), (33, .lit undef), (34, .lit undef), (35, .lit undef), (36, .lit undef), (37, .lit undef), (38, .lit undef), (39, .lit undef), (40, .lit undef), (41, .lit undef), (42, .lit undef), (43, .lit undef), (44, .lit undef), (45, .lit undef), (46, B true)] [sc 0 v5] ?_
 exact ⟨true, h, it [0, 5, 6, 7, 46]⟩
 replace h := bF hc22 h
 rw [hc22]
 refine qvM [4] [0] (hB trivial) 2 51 [(18, A v5.fRow), (17, .ptr 0 0 1), (16, B false), (0, A a0), (3, I x1), (4, .ptr 0 0 0), (5, A a0), (6, I (a0.length : Int)), (7, I x1)] [sc 0 v5] ?_
 obtain ⟨v11, hv12, h⟩ := bindS h
 refine qX (some 19) (B v11) 51 [(19, B v11), (18, A v5.fRow), (17, .ptr 0 0 1), (16, B false), (0, A a0), (3, I x1), (4, .ptr 0 0 0), (5, A a0), (6, I (a0.length : Int)), (7, I x1)] [sc 0 v5] (fun Γ' hΓ => CoreE.of_g (callV_sound (τ := τ) (by kernel_rfl) rfl (ok_impl_RowOk hv12) (FzTo.frz rfl))) trivial ?_
 refine qvM [4] [] trivial 3 51 [(22, B (!v11)), (20, B (!v11)), (19, B v11), (18, A v5.fRow), (17, .ptr 0 0 1), (0, A a0), (3, I x1), (4, .ptr 0 0 0), (5, A a0), (6, I (a0.length : Int)), (7, I x1)] [sc 0 v5] ?_
 rcases fk (!v11) with hc21 | hc21
 replace h := bT hc21 h
 rw [hc21]
 refine qvM [4] [0] (hB trivial) 2 51 [(24, .lit undef), (23, .lit undef), (22, B true), (20, B true), (19, B v11), (18, A v5.fRow), (17, .ptr 0 0 1), (0, A a0), (3, I x1), (4, .ptr 0 0 0), (5, A a0), (6, I (a0.length : Int)), (7, I x1)] [sc 0 v5] ?_
 refine qvM [4] [] trivial 1 51 [(25, .lit undef), (24, .lit undef), (23, .lit undef), (22, B true), (20, B true), (19, B v11), (18, A v5.fRow), (17, .ptr 0 0 1), (0, A a0), (3, I x1), (4, .ptr 0 0 0), (5, A a0), (6, I (a0.length : Int)), (7, I x1)] [sc 0 v5] ?_
 refine qvM [4] [0] (hB trivial) 2 51 [(27, .lit undef), (26, .lit undef), (25, .lit undef), (24, .lit undef), (23, .lit undef), (22, B true), (20, B true), (19, B v11), (18, A v5.fRow), (17, .ptr 0 0 1), (0, A a0), (3, I x1), (4, .ptr 0 0 0), (5, A a0), (6, I (a0.length : Int)), (7, I x1)] [sc 0 v5] ?_
 refine qvM [4] [] trivial 14 51 [(41, .lit undef), (40, .lit undef), (39, .lit undef), (38, .lit undef), (37, .lit undef), (36, .lit undef), (35, .lit undef), (34, .lit undef), (33, .lit undef), (32, B true), (30, .lit undef), (29, .lit undef), (28, .lit undef), (27, .lit undef), (26, .lit undef), (25, .lit undef), (24, .lit undef), (23, .lit undef), (20, B true), (19, B v11), (18, A v5.fRow), (17, .ptr 0 0 1), (0, A a0), (4, .ptr 0 0 0), (5, A a0), (6, I (a0.length : Int)), (7, I x1)] [sc 0 v5] ?_
 refine qvM [4] [0] (hB trivial) 2 51 [(43, .lit undef), (42, .lit undef), (41, .lit undef), (40, .lit undef), (39, .lit undef), (38, .lit undef), (37, .lit undef), (36, .lit undef), (35, .lit undef), (34, .lit undef), (33, .lit undef), (32, B true), (30, .lit undef), (29, .lit undef), (28, .lit undef), (27, .lit undef), (26, .lit undef), (25, .lit undef), (24, .lit undef), (23, .lit undef), (20, B true), (19, B v11), (18, A v5.fRow), (17, .ptr 0 0 1), (0, A a0), (5, A a0), (6, I (a0.length : Int)), (7, I x1)] [sc 0 v5] ?_
 refine qvM [4] [] trivial 3 51 [(46, B true), (45, .lit undef), (44, .lit undef), (43, .lit undef), (42, .lit undef), (41, .lit undef), (40, .lit undef), (39, .lit undef), (38, .lit undef), (37, .lit undef), (36, .lit undef), (35, .lit undef), (34, .lit undef), (33, .lit undef), (30, .lit undef), (29, .lit undef), (28, .lit undef), (27, .lit undef), (26, .lit undef), (25, .lit undef), (24, .lit undef), (23, .lit undef), (20, B true), (19, B v11), (18, A v5.fRow), (17, .ptr 0 0 1), (0, A a0), (5, A a0), (6, I (a0.length : Int)), (7, I x1)] [sc 0 v5] ?_
 refine qn 51 [(0, A a0), (5, A a0), (6, I (a0.length : Int)), (7, I x1), (17, .ptr 0 0 1), (18, A v5.fRow), (19, B v11), (20, B true), (23, .lit undef), (24, .lit undef), (25, .lit undef), (26, .lit undef), (27, .lit undef), (28, .lit undef), (29, .lit undef), (30, .lit undef), (33, .lit undef), (34, .lit undef), (35, .lit undef), (36, .lit undef), (37, .lit undef), (38, .lit undef), (39, .lit undef), (40, .lit undef), (41, .lit undef), (42, .lit undef), (43, .lit undef), (44, .lit undef), (45, .lit undef), (46, B true)] [sc 0 v5] ?_
 exact ⟨true, h, it [0, 5, 6, 7, 46]⟩
 replace h := bF hc21 h
 rw [hc21]
 refine qvM [4] [0] (hB trivial) 2 51 [(24, B v5.fGone), (23, .ptr 0 0 2), (22, B false), (20, B false), (19, B v11), (18, A v5.fRow), (17, .ptr 0 0 1), (0, A a0), (3, I x1), (4, .ptr 0 0 0), (5, A a0), (6, I (a0.length : Int)), (7, I x1)] [sc 0 v5] ?_
 refine qvM [4] [] trivial 1 51 [(25, B v5.fGone), (24, B v5.fGone), (23, .ptr 0 0 2), (22, B false), (20, B false), (19, B v11), (18, A v5.fRow), (17, .ptr 0 0 1), (0, A a0), (3, I x1), (4, .ptr 0 0 0), (5, A a0), (6, I (a0.length : Int)), (7, I x1)] [sc 0 v5] ?_
 rcases Bool.eq_false_or_eq_true v5.fGone with hc20 | hc20
 replace h := bT hc20 h
 rw [hc20]
 refine qvM [4] [0] (hB trivial) 2 51 [(27, A v5.fRow), (26, .ptr 0 0 1), (25, B true), (24, B true), (23, .ptr 0 0 2), (22, B false), (20, B false), (19, B v11), (18, A v5.fRow), (17, .ptr 0 0 1), (0, A a0), (3, I x1), (4, .ptr 0 0 0), (5, A a0), (6, I (a0.length : Int)), (7, I x1)] [sc 0 v5] ?_
 refine qvM [4] [] trivial 5 51 [(32, B (decide ((v5.fRow.length : Int) > 0))), (30, B (decide ((v5.fRow.length : Int) > 0))), (29, B (decide ((v5.fRow.length : Int) > 0))), (28, I (v5.fRow.length : Int)), (27, A v5.fRow), (26, .ptr 0 0 1), (25, B true), (24, B true), (23, .ptr 0 0 2), (20, B false), (19, B v11), (18, A v5.fRow), (17, .ptr 0 0 1), (0, A a0), (3, I x1), (4, .ptr 0 0 0), (5, A a0), (6, I (a0.length : Int)), (7, I x1)] [sc 0 v5] ?_
 rcases fk (decide ((v5.fRow.length : Int) > 0)) with hc16 | hc16
 replace h := bT hc16 h
 rw [hc16]
 refine qvM [4] [] trivial 9 51 [(41, .lit undef), (40, .lit undef), (39, .lit undef), (38, .lit undef), (37, .lit undef), (36, .lit undef), (35, .lit undef), (34, .lit undef), (33, .lit undef), (32, B true), (30, B true), (29, B true), (28, I (v5.fRow.length : Int)), (27, A v5.fRow), (26, .ptr 0 0 1), (25, B true), (24, B true), (23, .ptr 0 0 2), (20, B false), (19, B v11), (18, A v5.fRow), (17, .ptr 0 0 1), (0, A a0), (4, .ptr 0 0 0), (5, A a0), (6, I (a0.length : Int)), (7, I x1)] [sc 0 v5] ?_
 refine qvM [4] [0] (hB trivial) 2 51 [(43, .lit undef), (42, .lit undef), (41, .lit undef), (40, .lit undef), (39, .lit undef), (38, .lit undef), (37, .lit undef), (36, .lit undef), (35, .lit undef), (34, .lit undef), (33, .lit undef), (32, B true), (30, B true), (29, B true), (28, I (v5.fRow.length : Int)), (27, A v5.fRow), (26, .ptr 0 0 1), (25, B true), (24, B true), (23, .ptr 0 0 2), (20, B false), (19, B v11), (18, A v5.fRow), (17, .ptr 0 0 1), (0, A a0), (5, A a0), (6, I (a0.length : Int)), (7, I x1)] [sc 0 v5] ?_
 refine qvM [4] [] trivial 3 51 [(46, B true), (45, .lit undef), (44, .lit undef), (43, .lit undef), (42, .lit undef), (41, .lit undef), (40, .lit undef), (39, .lit undef), (38, .lit undef), (37, .lit undef), (36, .lit undef), (35, .lit undef), (34, .lit undef), (33, .lit undef), (30, B true), (29, B true), (28, I (v5.fRow.length : Int)), (27, A v5.fRow), (26, .ptr 0 0 1), (25, B true), (24, B true), (23, .ptr 0 0 2), (20, B false), (19, B v11), (18, A v5.fRow), (17, .ptr 0 0 1), (0, A a0), (5, A a0), (6, I (a0.length : Int)), (7, I x1)] [sc 0 v5] ?_
 refine qn 51 [(0, A a0), (5, A a0), (6, I (a0.length : Int)), (7, I x1), (17, .ptr 0 0 1), (18, A v5.fRow), (19, B v11), (20, B false), (23, .ptr 0 0 2), (24, B true), (25, B true), (26, .ptr 0 0 1), (27, A v5.fRow), (28, I (v5.fRow.length : Int)), (29, B true), (30, B true), (33, .lit undef), (34, .lit undef), (35, .lit undef), (36, .lit undef), (37, .lit undef), (38, .lit undef), (39, .lit undef), (40, .lit undef), (41, .lit undef), (42, .lit undef), (43, .lit undef), (44, .lit undef), (45, .lit undef), (46, B true)] [sc 0 v5] ?_
 exact ⟨true, h, it [0, 5, 6, 7, 46]⟩
 replace h := bF hc16 h
 rw [hc16]
 refine qvM [4] [] trivial 3 51 [(35, B (decide (x1 > 0))), (34, B (decide (x1 > 0))), (33, I x1), (32, B false), (30, B false), (29, B false), (28, I (v5.fRow.length : Int)), (27, A v5.fRow), (26, .ptr 0 0 1), (25, B true), (24, B true), (23, .ptr 0 0 2), (20, B false), (19, B v11), (18, A v5.fRow), (17, .ptr 0 0 1), (0, A a0), (3, I x1), (4, .ptr 0 0 0), (5, A a0), (6, I (a0.length : Int)), (7, I x1)] [sc 0 v5] ?_
 rcases fk (decide (x1 > 0)) with hc15 | hc15
 replace h := bT hc15 h
 rw [hc15]
 refine qvM [4] [] trivial 3 51 [(38, I (w64 (x1 - 1))), (37, I x1), (36, A a0), (35, B true), (34, B true), (33, I x1), (32, B false), (30, B false), (29, B false), (28, I (v5.fRow.length : Int)), (27, A v5.fRow), (26, .ptr 0 0 1), (25, B true), (24, B true), (23, .ptr 0 0 2), (20, B false), (19, B v11), (18, A v5.fRow), (17, .ptr 0 0 1), (0, A a0), (4, .ptr 0 0 0), (5, A a0), (6, I (a0.length : Int)), (7, I x1)] [sc 0 v5] ?_
 obtain ⟨v13, hv14, h⟩ := bindS h
 refine qX (some 39) (pf v13 0) 51 [(39, pf v13 0), (38, I (w64 (x1 - 1))), (37, I x1), (36, A a0), (35, B true), (34, B true), (33, I x1), (32, B false), (30, B false), (29, B false), (28, I (v5.fRow.length : Int)), (27, A v5.fRow), (26, .ptr 0 0 1), (25, B true), (24, B true), (23, .ptr 0 0 2), (20, B false), (19, B v11), (18, A v5.fRow), (17, .ptr 0 0 1), (0, A a0), (4, .ptr 0 0 0), (5, A a0), (6, I (a0.length : Int)), (7, I x1)] [sc 0 v5] (fun Γ' hΓ => CoreE.of_y (idxV_sound τ_ok (by kernel_rfl) hv14)) trivial ?_
 refine qvM [4] [] trivial 2 51 [(41, I v13.fKey), (40, pf v13 0), (39, pf v13 0), (38, I (w64 (x1 - 1))), (37, I x1), (36, A a0), (35, B true), (34, B true), (33, I x1), (32, B false), (30, B false), (29, B false), (28, I (v5.fRow.length : Int)), (27, A v5.fRow), (26, .ptr 0 0 1), (25, B true), (24, B true), (23, .ptr 0 0 2), (20, B false), (19, B v11), (18, A v5.fRow), (17, .ptr 0 0 1), (0, A a0), (4, .ptr 0 0 0), (5, A a0), (6, I (a0.length : Int)), (7, I x1)] [sc 0 v5] ?_
 refine qvM [4] [0] (hB trivial) 2 51 [(43, I v5.fKey), (42, .ptr 0 0 0), (41, I v13.fKey), (40, pf v13 0), (39, pf v13 0), (38, I (w64 (x1 - 1))), (37, I x1), (36, A a0), (35, B true), (34, B true), (33, I x1), (32, B false), (30, B false), (29, B false), (28, I (v5.fRow.length : Int)), (27, A v5.fRow), (26, .ptr 0 0 1), (25, B true), (24, B true), (23, .ptr 0 0 2), (20, B false), (19, B v11), (18, A v5.fRow), (17, .ptr 0 0 1), (0, A a0), (5, A a0), (6, I (a0.length : Int)), (7, I x1)] [sc 0 v5] ?_
 refine qvM [4] [] trivial 3 51 [(46, B (decide (v13.fKey ≥ v5.fKey))), (45, B (decide (v13.fKey ≥ v5.fKey))), (44, B (decide (v13.fKey ≥ v5.fKey))), (43, I v5.fKey), (42, .ptr 0 0 0), (41, I v13.fKey), (40, pf v13 0), (39, pf v13 0), (38, I (w64 (x1 - 1))), (37, I x1), (36, A a0), (35, B true), (34, B true), (33, I x1), (30, B false), (29, B false), (28, I (v5.fRow.length : Int)), (27, A v5.fRow), (26, .ptr 0 0 1), (25, B true), (24, B true), (23, .ptr 0 0 2), (20, B false), (19, B v11), (18, A v5.fRow), (17, .ptr 0 0 1), (0, A a0), (5, A a0), (6, I (a0.length : Int)), (7, I x1)] [sc 0 v5] ?_
 refine qn 51 [(0, A a0), (5, A a0), (6, I (a0.length : Int)), (7, I x1), (17, .ptr 0 0 1), (18, A v5.fRow), (19, B v11), (20, B false), (23, .ptr 0 0 2), (24, B true), (25, B true), (26, .ptr 0 0 1), (27, A v5.fRow), (28, I (v5.fRow.length : Int)), (29, B false), (30, B false), (33, I x1), (34, B true), (35, B true), (36, A a0), (37, I x1), (38, I (w64 (x1 - 1))), (39, pf v13 0), (40, pf v13 0), (41, I v13.fKey), (42, .ptr 0 0 0), (43, I v5.fKey), (44, B (decide (v13.fKey ≥ v5.fKey))), (45, B (decide (v13.fKey ≥ v5.fKey))), (46, B (decide (v13.fKey ≥ v5.fKey)))] [sc 0 v5] ?_
 exact ⟨(decide (v13.fKey ≥ v5.fKey)), h, it [0, 5, 6, 7, 46]⟩
 replace h := bF hc15 h
 rw [hc15]
 refine qvM [4] [] trivial 6 51 [(41, .lit undef), (40, .lit undef), (39, .lit undef), (38, .lit undef), (37, .lit undef), (36, .lit undef), (35, B false), (34, B false), (33, I x1), (32, B false), (30, B false), (29, B false), (28, I (v5.fRow.length : Int)), (27, A v5.fRow), (26, .ptr 0 0 1), (25, B true), (24, B true), (23, .ptr 0 0 2), (20, B false), (19, B v11), (18, A v5.fRow), (17, .ptr 0 0 1), (0, A a0), (4, .ptr 0 0 0), (5, A a0), (6, I (a0.length : Int)), (7, I x1)] [sc 0 v5] ?_
 refine qvM [4] [0] (hB trivial) 2 51 [(43, .lit undef), (42, .lit undef), (41, .lit undef), (40, .lit undef), (39, .lit undef), (38, .lit undef), (37, .lit undef), (36, .lit undef), (35, B false), (34, B false), (33, I x1), (32, B false), (30, B false), (29, B false), (28, I (v5.fRow.length : Int)), (27, A v5.fRow), (26, .ptr 0 0 1), (25, B true), (24, B true), (23, .ptr 0 0 2), (20, B false), (19, B v11), (18, A v5.fRow), (17, .ptr 0 0 1), (0, A a0), (5, A a0), (6, I (a0.length : Int)), (7, I x1)] [sc 0 v5] ?_
 refine qvM [4] [] trivial 3 51 [(46, B false), (45, B false), (44, .lit undef), (43, .lit undef), (42, .lit undef), (41, .lit undef), (40, .lit undef), (39, .lit undef), (38, .lit undef), (37, .lit undef), (36, .lit undef), (35, B false), (34, B false), (33, I x1), (30, B false), (29, B false), (28, I (v5.fRow.length : Int)), (27, A v5.fRow), (26, .ptr 0 0 1), (25, B true), (24, B true), (23, .ptr 0 0 2), (20, B false), (19, B v11), (18, A v5.fRow), (17, .ptr 0 0 1), (0, A a0), (5, A a0), (6, I (a0.length : Int)), (7, I x1)] [sc 0 v5] ?_
 refine qn 51 [(0, A a0), (5, A a0), (6, I (a0.length : Int)), (7, I x1), (17, .ptr 0 0 1), (18, A v5.fRow), (19, B v11), (20, B false), (23, .ptr 0 0 2), (24, B true), (25, B true), (26, .ptr 0 0 1), (27, A v5.fRow), (28, I (v5.fRow.length : Int)), (29, B false), (30, B false), (33, I x1), (34, B false), (35, B false), (36, .lit undef), (37, .lit undef), (38, .lit undef), (39, .lit undef), (40, .lit undef), (41, .lit undef), (42, .lit undef), (43, .lit undef), (44, .lit undef), (45, B false), (46, B false)] [sc 0 v5] ?_
 exact ⟨false, h, it [0, 5, 6, 7, 46]⟩
 replace h := bF hc20 h
 rw [hc20]
 refine qvM [4] [0] (hB trivial) 2 51 [(27, .lit undef), (26, .lit undef), (25, B false), (24, B false), (23, .ptr 0 0 2), (22, B false), (20, B false), (19, B v11), (18, A v5.fRow), (17, .ptr 0 0 1), (0, A a0), (3, I x1), (4, .ptr 0 0 0), (5, A a0), (6, I (a0.length : Int)), (7, I x1)] [sc 0 v5] ?_
 refine qvM [4] [] trivial 8 51 [(35, B (decide (x1 > 0))), (34, B (decide (x1 > 0))), (33, I x1), (32, B false), (30, B false), (29, .lit undef), (28, .lit undef), (27, .lit undef), (26, .lit undef), (25, B false), (24, B false), (23, .ptr 0 0 2), (20, B false), (19, B v11), (18, A v5.fRow), (17, .ptr 0 0 1), (0, A a0), (3, I x1), (4, .ptr 0 0 0), (5, A a0), (6, I (a0.length : Int)), (7, I x1)] [sc 0 v5] ?_
 rcases fk (decide (x1 > 0)) with hc19 | hc19
 replace h := bT hc19 h
 rw [hc19]
 refine qvM [4] [] trivial 3 51 [(38, I (w64 (x1 - 1))), (37, I x1), (36, A a0), (35, B true), (34, B true), (33, I x1), (32, B false), (30, B false), (29, .lit undef), (28, .lit undef), (27, .lit undef), (26, .lit undef), (25, B false), (24, B false), (23, .ptr 0 0 2), (20, B false), (19, B v11), (18, A v5.fRow), (17, .ptr 0 0 1), (0, A a0), (4, .ptr 0 0 0), (5, A a0), (6, I (a0.length : Int)), (7, I x1)] [sc 0 v5] ?_
 obtain ⟨v17, hv18, h⟩ := bindS h
 refine qX (some 39) (pf v17 0) 51 [(39, pf v17 0), (38, I (w64 (x1 - 1))), (37, I x1), (36, A a0), (35, B true), (34, B true), (33, I x1), (32, B false), (30, B false), (29, .lit undef), (28, .lit undef), (27, .lit undef), (26, .lit undef), (25, B false), (24, B false), (23, .ptr 0 0 2), (20, B false), (19, B v11), (18, A v5.fRow), (17, .ptr 0 0 1), (0, A a0), (4, .ptr 0 0 0), (5, A a0), (6, I (a0.length : Int)), (7, I x1)] [sc 0 v5] (fun Γ' hΓ => CoreE.of_y (idxV_sound τ_ok (by kernel_rfl) hv18)) trivial ?_
 refine qvM [4] [] trivial 2 51 [(41, I v17.fKey), (40, pf v17 0), (39, pf v17 0), (38, I (w64 (x1 - 1))), (37, I x1), (36, A a0), (35, B true), (34, B true), (33, I x1), (32, B false), (30, B false), (29, .lit undef), (28, .lit undef), (27, .lit undef), (26, .lit undef), (25, B false), (24, B false), (23, .ptr 0 0 2), (20, B false), (19, B v11), (18, A v5.fRow), (17, .ptr 0 0 1), (0, A a0), (4, .ptr 0 0 0), (5, A a0), (6, I (a0.length : Int)), (7, I x1)] [sc 0 v5] ?_
 refine qvM [4] [0] (hB trivial) 2 51 [(43, I v5.fKey), (42, .ptr 0 0 0), (41, I v17.fKey), (40, pf v17 0), (39, pf v17 0), (38, I (w64 (x1 - 1))), (37, I x1), (36, A a0), (35, B true), (34, B true), (33, I x1), (32, B false), (30, B false), (29, .lit undef), (28, .lit undef), (27, .lit undef), (26, .lit undef), (25, B false), (24, B false), (23, .ptr 0 0 2), (20, B false), (19, B v11), (18, A v5.fRow), (17, .ptr 0 0 1), (0, A a0), (5, A a0), (6, I (a0.length : Int)), (7, I x1)] [sc 0 v5] ?_
 refine qvM [4] [] trivial 3 51 [(46, B (decide (v17.fKey ≥ v5.fKey))), (45, B (decide (v17.fKey ≥ v5.fKey))), (44, B (decide (v17.fKey ≥ v5.fKey))), (43, I v5.fKey), (42, .ptr 0 0 0), (41, I v17.fKey), (40, pf v17 0), (39, pf v17 0), (38, I (w64 (x1 - 1))), (37, I x1), (36, A a0), (35, B true), (34, B true), (33, I x1), (30, B false), (29, .lit undef), (28, .lit undef), (27, .lit undef), (26, .lit undef), (25, B false), (24, B false), (23, .ptr 0 0 2), (20, B false), (19, B v11), (18, A v5.fRow), (17, .ptr 0 0 1), (0, A a0), (5, A a0), (6, I (a0.length : Int)), (7, I x1)] [sc 0 v5] ?_
 refine qn 51 [(0, A a0), (5, A a0), (6, I (a0.length : Int)), (7, I x1), (17, .ptr 0 0 1), (18, A v5.fRow), (19, B v11), (20, B false), (23, .ptr 0 0 2), (24, B false), (25, B false), (26, .lit undef), (27, .lit undef), (28, .lit undef), (29, .lit undef), (30, B false), (33, I x1), (34, B true), (35, B true), (36, A a0), (37, I x1), (38, I (w64 (x1 - 1))), (39, pf v17 0), (40, pf v17 0), (41, I v17.fKey), (42, .ptr 0 0 0), (43, I v5.fKey), (44, B (decide (v17.fKey ≥ v5.fKey))), (45, B (decide (v17.fKey ≥ v5.fKey))), (46, B (decide (v17.fKey ≥ v5.fKey)))] [sc 0 v5] ?_
 exact ⟨(decide (v17.fKey ≥ v5.fKey)), h, it [0, 5, 6, 7, 46]⟩
 replace h := bF hc19 h
 rw [hc19]
 refine qvM [4] [] trivial 6 51 [(41, .lit undef), (40, .lit undef), (39, .lit undef), (38, .lit undef), (37, .lit undef), (36, .lit undef), (35, B false), (34, B false), (33, I x1), (32, B false), (30, B false), (29, .lit undef), (28, .lit undef), (27, .lit undef), (26, .lit undef), (25, B false), (24, B false), (23, .ptr 0 0 2), (20, B false), (19, B v11), (18, A v5.fRow), (17, .ptr 0 0 1), (0, A a0), (4, .ptr 0 0 0), (5, A a0), (6, I (a0.length : Int)), (7, I x1)] [sc 0 v5] ?_
 refine qvM [4] [0] (hB trivial) 2 51 [(43, .lit undef), (42, .lit undef), (41, .lit undef), (40, .lit undef), (39, .lit undef), (38, .lit undef), (37, .lit undef), (36, .lit undef), (35, B false), (34, B false), (33, I x1), (32, B false), (30, B false), (29, .lit undef), (28, .lit undef), (27, .lit undef), (26, .lit undef), (25, B false), (24, B false), (23, .ptr 0 0 2), (20, B false), (19, B v11), (18, A v5.fRow), (17, .ptr 0 0 1), (0, A a0), (5, A a0), (6, I (a0.length : Int)), (7, I x1)] [sc 0 v5] ?_
 refine qvM [4] [] trivial 3 51 [(46, B false), (45, B false), (44, .lit undef), (43, .lit undef), (42, .lit undef), (41, .lit undef), (40, .lit undef), (39, .lit undef), (38, .lit undef), (37, .lit undef), (36, .lit undef), (35, B false), (34, B false), (33, I x1), (30, B false), (29, .lit undef), (28, .lit undef), (27, .lit undef), (26, .lit undef), (25, B false), (24, B false), (23, .ptr 0 0 2), (20, B false), (19, B v11), (18, A v5.fRow), (17, .ptr 0 0 1), (0, A a0), (5, A a0), (6, I (a0.length : Int)), (7, I x1)] [sc 0 v5] ?_
 refine qn 51 [(0, A a0), (5, A a0), (6, I (a0.length : Int)), (7, I x1), (17, .ptr 0 0 1), (18, A v5.fRow), (19, B v11), (20, B false), (23, .ptr 0 0 2), (24, B false), (25, B false), (26, .lit undef), (27, .lit undef), (28, .lit undef), (29, .lit undef), (30, B false), (33, I x1), (34, B false), (35, B false), (36, .lit undef), (37, .lit undef), (38, .lit undef), (39, .lit undef), (40, .lit undef), (41, .lit undef), (42, .lit undef), (43, .lit undef), (44, .lit undef), (45, B false), (46, B false)] [sc 0 v5] ?_
 exact ⟨false, h, it [0, 5, 6, 7, 46]⟩
 rintro x7 h
 unfold impl_WritesOk_j1 at h
 refine pc h (fun h => ?_) (fun h => ?_)
 refine srveM [4] 51 [(2, B false)] [sc 0 v5] ?_
 cases h
 exact pwp_ret rz
 refine pwp_skip ?_
 refine rveM [4] 51 [(0, A a0), (5, A a0), (6, I (a0.length : Int)), (7, I (w64 (x1 + 1)))] [sc 0 v5] ?_
 exact ⟨(f2, (w64 (x1 + 1))), h, Nat.lt_succ_self _, (it (st' := ⟨51, [(0, A a0), (5, A a0), (6, I (a0.length : Int)), (7, I (w64 (x1 + 1)))], [sc 0 v5]⟩) [0, 5, 6, 7]).trans (Imp.truncS 0 (nx hX) (by kernel_rfl) (allBelow_mem (by exact (And.intro rfl (And.intro rfl (And.intro rfl (And.intro rfl trivial)))))) (by exact trivial) (by kernel_rfl))⟩
 refine pwp_exit ?_
 refine srveM [4] 51 [(2, B (decide ((a0.length : Int) ≤ 5)))] [] ?_
 cases h
 exact pwp_ret rz
def impl_VersionsOk_j2 (x1 : Int) (K3 : Int → Option Bool) (x12 : Bool) : Option Bool := bif x12 then some false else K3 (w64 (x1 + 1))
def impl_VersionsOk_j1 (a0 : List T_impl_Version) (x1 : Int) (K3 : Int → Option Bool) (v5 : T_impl_Version) (x7 : Bool) : Option Bool := bif x7 then some false else bif (x1 == 0) then K3 (w64 (x1 + 1)) else (getI a0 (w64 (x1 - 1))).bind fun v10 => bif (decide (v10.fKey > v5.fKey)) then impl_VersionsOk_j2 x1 K3 true else bif (v10.fKey == v5.fKey) then bif (decide (v10.fBorn ≥ v5.fBorn)) then impl_VersionsOk_j2 x1 K3 true else bif (v10.fDied == 0) then impl_VersionsOk_j2 x1 K3 true else impl_VersionsOk_j2 x1 K3 (decide (v10.fDied > v5.fBorn)) else impl_VersionsOk_j2 x1 K3 false
def impl_VersionsOk_l0 (a0 : List T_impl_Version) : Nat → Int → Option Bool
 | 0, _ => none
 | f2 + 1, x1 => bif (decide (x1 < (a0.length : Int))) then (getI a0 x1).bind fun v5 => (impl_keyOk v5.fKey).bind fun v18 => bif (!v18) then impl_VersionsOk_j1 a0 x1 (impl_VersionsOk_l0 a0 f2) v5 true else (impl_between v5.fBorn 1 40).bind fun v20 => bif (!v20) then impl_VersionsOk_j1 a0 x1 (impl_VersionsOk_l0 a0 f2) v5 true else bif (!(v5.fDied == 0)) then (impl_between v5.fDied (w64 (v5.fBorn + 1)) 40).bind fun v22 => bif (!v22) then impl_VersionsOk_j1 a0 x1 (impl_VersionsOk_l0 a0 f2) v5 true else (impl_RowOk v5.fRow).bind fun v24 => impl_VersionsOk_j1 a0 x1 (impl_VersionsOk_l0 a0 f2) v5 (!v24) else (impl_RowOk v5.fRow).bind fun v27 => impl_VersionsOk_j1 a0 x1 (impl_VersionsOk_l0 a0 f2) v5 (!v27) else some (decide ((a0.length : Int) ≤ 60))
def impl_VersionsOk (a0 : List T_impl_Version) : Option Bool := impl_VersionsOk_l0 a0 FUEL 0
theorem ok_impl_VersionsOk {a0 : List T_impl_Version} {y : Bool} (h : impl_VersionsOk a0 = some y) : OK Try.prog 59 [A a0] (B y) := by
 refine ow Try.func59 fun Γ hX => ?_
 unfold impl_VersionsOk at h
 refine srveM [4, 5] 85 [(0, A a0)] [] ?_
 refine pwp_seq ?_
 refine srveM [4, 5] 85 [(0, A a0), (6, A a0), (7, I (a0.length : Int)), (8, I 0)] [] ?_
 refine pwp_block ?_
 refine pwp_loop (ι := Nat × Int) (fun (f2, x1) => (⟨85, [(0, A a0), (6, A a0), (7, I (a0.length : Int)), (8, I x1)], []⟩ : St)) (fun (f2, x1) => impl_VersionsOk_l0 a0 f2 x1 = some y) Prod.fst (FUEL, 0) h (it [0, 6, 7, 8]) ?_
 rintro ⟨f2, x1⟩ h
 dsimp only at h ⊢
 rcases f2 with _ | f2
 cases h
 rw [impl_VersionsOk_l0] at h
 refine srveM [4, 5] 85 [(0, A a0), (6, A a0), (7, I (a0.length : Int)), (8, I x1), (9, B (decide (x1 < (a0.length : Int))))] [] ?_
 refine pwp_seq ?_
 refine pc h (fun h => ?_) (fun h => ?_)
 refine pwp_skip ?_
 refine pwp_seq ?_
 refine pwp_block ?_
 refine srvM [4, 5] 1 85 [(0, A a0), (6, A a0), (7, I (a0.length : Int)), (8, I x1), (10, I x1)] [] ?_
 obtain ⟨v5, hv6, h⟩ := bindS h
 refine opsP_idx τ_ok 11 hv6 (by kernel_rfl) ?_
 refine veM [4, 5] 4 85 [(0, A a0), (3, I x1), (4, .ptr 0 0 0), (6, A a0), (7, I (a0.length : Int)), (8, I x1)] [sc 0 v5] ?_
 refine pwp_seq ?_
 refine pwp_seq ?_
 refine pwp_join (σ := Bool) (fun x7 => (⟨85, [(0, A a0), (3, I x1), (4, .ptr 0 0 0), (6, A a0), (7, I (a0.length : Int)), (8, I x1), (42, B x7)], [sc 0 v5]⟩ : St)) (fun x7 => impl_VersionsOk_j1 a0 x1 (impl_VersionsOk_l0 a0 f2) v5 x7 = some y) ?_ ?_
 refine rvM [4, 5] 2 85 [(0, A a0), (3, I x1), (4, .ptr 0 0 0), (6, A a0), (7, I (a0.length : Int)), (8, I x1), (14, I v5.fKey)] [sc 0 v5] ?_
 obtain ⟨v18, hv19, h⟩ := bindS h
 refine cF 15 (ok_impl_keyOk hv19) ?_
 refine vM [4, 5] 2 85 [(0, A a0), (3, I x1), (4, .ptr 0 0 0), (6, A a0), (7, I (a0.length : Int)), (8, I x1), (17, B (!v18))] [sc 0 v5] ?_
 rcases fk (!v18) with hc31 | hc31
 replace h := bT hc31 h
 rw [hc31]
 refine veM [4, 5] 25 85 [(0, A a0), (3, I x1), (4, .ptr 0 0 0), (6, A a0), (7, I (a0.length : Int)), (8, I x1), (18, .lit undef), (19, .lit undef), (20, .lit undef), (21, .lit undef), (24, .lit undef), (25, .lit undef), (26, .lit undef), (27, .lit undef), (28, .lit undef), (29, .lit undef), (30, .lit undef), (31, .lit undef), (32, .lit undef), (33, .lit undef), (34, .lit undef), (35, .lit undef), (38, .lit undef), (39, .lit undef), (40, .lit undef), (41, .lit undef), (42, B true)] [sc 0 v5] ?_
 exact ⟨true, h, it [0, 3, 4, 6, 7, 8, 42]⟩
 replace h := bF hc31 h
 rw [hc31]
 refine vM [4, 5] 2 85 [(0, A a0), (3, I x1), (4, .ptr 0 0 0), (6, A a0), (7, I (a0.length : Int)), (8, I x1), (17, B false), (18, .ptr 0 0 1), (19, I v5.fBorn)] [sc 0 v5] ?_
 obtain ⟨v20, hv21, h⟩ := bindS h
 refine cF 20 (ok_impl_between hv21) ?_
 refine vM [4, 5] 3 85 [(0, A a0), (3, I x1), (4, .ptr 0 0 0), (6, A a0), (7, I (a0.length : Int)), (8, I x1), (18, .ptr 0 0 1), (19, I v5.fBorn), (20, B v20), (21, B (!v20)), (23, B (!v20))] [sc 0 v5] ?_
 rcases fk (!v20) with hc30 | hc30
 replace h := bT hc30 h
 rw [hc30]
 refine veM [4, 5] 19 85 [(0, A a0), (3, I x1), (4, .ptr 0 0 0), (6, A a0), (7, I (a0.length : Int)), (8, I x1), (18, .ptr 0 0 1), (19, I v5.fBorn), (20, B v20), (21, B true), (24, .lit undef), (25, .lit undef), (26, .lit undef), (27, .lit undef), (28, .lit undef), (29, .lit undef), (30, .lit undef), (31, .lit undef), (32, .lit undef), (33, .lit undef), (34, .lit undef), (35, .lit undef), (38, .lit undef), (39, .lit undef), (40, .lit undef), (41, .lit undef), (42, B true)] [sc 0 v5] ?_
 exact ⟨true, h, it [0, 3, 4, 6, 7, 8, 42]⟩
 replace h := bF hc30 h
 rw [hc30]
 refine vM [4, 5] 4 85 [(0, A a0), (3, I x1), (4, .ptr 0 0 0), (6, A a0), (7, I (a0.length : Int)), (8, I x1), (18, .ptr 0 0 1), (19, I v5.fBorn), (20, B v20), (21, B false), (23, B false), (24, .ptr 0 0 2), (25, I v5.fDied), (26, B (!(v5.fDied == 0))), (27, B (!(v5.fDied == 0)))] [sc 0 v5] ?_
 rcases fk (!(v5.fDied == 0)) with hc29 | hc29
 replace h := bT hc29 h
 rw [hc29]
 refine vM [4, 5] 5 85 [(0, A a0), (3, I x1), (4, .ptr 0 0 0), (6, A a0), (7, I (a0.length : Int)), (8, I x1), (18, .ptr 0 0 1), (19, I v5.fBorn), (20, B v20), (21, B false), (23, B false), (24, .ptr 0 0 2), (25, I v5.fDied), (26, B true), (27, B true), (28, .ptr 0 0 2), (29, I v5.fDied), (30, .ptr 0 0 1), (31, I v5.fBorn), (32, I (w64 (v5.fBorn + 1)))] [sc 0 v5] ?_
 obtain ⟨v22, hv23, h⟩ := bindS h
 refine cF 33 (ok_impl_between hv23) ?_
 refine vM [4, 5] 4 85 [(0, A a0), (3, I x1), (4, .ptr 0 0 0), (6, A a0), (7, I (a0.length : Int)), (8, I x1), (18, .ptr 0 0 1), (19, I v5.fBorn), (20, B v20), (21, B false), (24, .ptr 0 0 2), (25, I v5.fDied), (26, B true), (27, B true), (28, .ptr 0 0 2), (29, I v5.fDied), (30, .ptr 0 0 1), (31, I v5.fBorn), (32, I (w64 (v5.fBorn + 1))), (33, B v22), (34, B (!v22)), (35, B (!v22)), (37, B (!v22))] [sc 0 v5] ?_
 rcases fk (!v22) with hc26 | hc26
 replace h := bT hc26 h
 rw [hc26]
 refine veM [4, 5] 5 85 [(0, A a0), (3, I x1), (4, .ptr 0 0 0), (6, A a0), (7, I (a0.length : Int)), (8, I x1), (18, .ptr 0 0 1), (19, I v5.fBorn), (20, B v20), (21, B false), (24, .ptr 0 0 2), (25, I v5.fDied), (26, B true), (27, B true), (28, .ptr 0 0 2), (29, I v5.fDied), (30, .ptr 0 0 1), (31, I v5.fBorn), (32, I (w64 (v5.fBorn + 1))), (33, B v22), (34, B true), (35, B true), (38, .lit undef), (39, .lit undef), (40, .lit undef), (41, .lit undef), (42, B true)] [sc 0 v5] ?_
 exact ⟨true, h, it [0, 3, 4, 6, 7, 8, 42]⟩
 replace h := bF hc26 h
 rw [hc26]
 refine vM [4, 5] 2 85 [(0, A a0), (3, I x1), (4, .ptr 0 0 0), (6, A a0), (7, I (a0.length : Int)), (8, I x1), (18, .ptr 0 0 1), (19, I v5.fBorn), (20, B v20), (21, B false), (24, .ptr 0 0 2), (25, I v5.fDied), (26, B true), (27, B true), (28, .ptr 0 0 2), (29, I v5.fDied), (30, .ptr 0 0 1), (31, I v5.fBorn), (32, I (w64 (v5.fBorn + 1))), (33, B v22), (34, B false), (35, B false), (37, B false), (38, .ptr 0 0 3), (39, A v5.fRow)] [sc 0 v5] ?_
 obtain ⟨v24, hv25, h⟩ := bindS h
 refine cF 40 (ok_impl_RowOk hv25) ?_
 refine veM [4, 5] 2 85 [(0, A a0), (3, I x1), (4, .ptr 0 0 0), (6, A a0), (7, I (a0.length : Int)), (8, I x1), (18, .ptr 0 0 1), (19, I v5.fBorn), (20, B v20), (21, B false), (24, .ptr 0 0 2), (25, I v5.fDied), (26, B true), (27, B true), (28, .ptr 0 0 2), (29, I v5.fDied), (30, .ptr 0 0 1), (31, I v5.fBorn), (32, I (w64 (v5.fBorn + 1))), (33, B v22), (34, B false), (35, B false), (38, .ptr 0 0 3), (39, A v5.fRow), (40, B v24), (41, B (!v24)), (42, B (!v24))] [sc 0 v5] ?_
 exact ⟨(!v24), h, it [0, 3, 4, 6, 7, 8, 42]⟩
 replace h := bF hc29 h
 rw [hc29]
 refine vM [4, 5] 12 85 [(0, A a0), (3, I x1), (4, .ptr 0 0 0), (6, A a0), (7, I (a0.length : Int)), (8, I x1), (18, .ptr 0 0 1), (19, I v5.fBorn), (20, B v20), (21, B false), (24, .ptr 0 0 2), (25, I v5.fDied), (26, B false), (27, B false), (28, .lit undef), (29, .lit undef), (30, .lit undef), (31, .lit undef), (32, .lit undef), (33, .lit undef), (34, .lit undef), (35, B false), (37, B false), (38, .ptr 0 0 3), (39, A v5.fRow)] [sc 0 v5] ?_
 obtain ⟨v27, hv28, h⟩ := bindS h
 refine cF 40 (ok_impl_RowOk hv28) ?_
 refine veM [4, 5] 2 85 [(0, A a0), (3, I x1), (4, .ptr 0 0 0), (6, A a0), (7, I (a0.length : Int)), (8, I x1), (18, .ptr 0 0 1), (19, I v5.fBorn), (20, B v20), (21, B false), (24, .ptr 0 0 2), (25, I v5.fDied), (26, B false), (27, B false), (28, .lit undef), (29, .lit undef), (30, .lit undef), (31, .lit undef), (32, .lit undef), (33, .lit undef), (34, .lit undef), (35, B false), (38, .ptr 0 0 3), (39, A v5.fRow), (40, B v27), (41, B (!v27)), (42, B (!v27))] [sc 0 v5] ?_
 exact ⟨(!v27), h, it [0, 3, 4, 6, 7, 8, 42]⟩
 rintro x7 h
 unfold impl_VersionsOk_j1 at h
 refine pc h (fun h => ?_) (fun h => ?_)
 refine srveM [4, 5] 85 [(2, B false)] [sc 0 v5] ?_
 cases h
 exact pwp_ret rz
 refine pwp_skip ?_
 refine pwp_seq ?_
 refine srveM [4, 5] 85 [(0, A a0), (3, I x1), (4, .ptr 0 0 0), (6, A a0), (7, I (a0.length : Int)), (8, I x1), (44, B (x1 == 0))] [sc 0 v5] ?_
 refine pc h (fun h => ?_) (fun h => ?_)
 refine pwp_exit ?_
 refine rveM [4, 5] 85 [(0, A a0), (6, A a0), (7, I (a0.length : Int)), (8, I (w64 (x1 + 1)))] [sc 0 v5] ?_
 exact ⟨(f2, (w64 (x1 + 1))), h, Nat.lt_succ_self _, (it (st' := ⟨85, [(0, A a0), (6, A a0), (7, I (a0.length : Int)), (8, I (w64 (x1 + 1)))], [sc 0 v5]⟩) [0, 6, 7, 8]).trans (Imp.truncS 0 (nx hX) (by kernel_rfl) (allBelow_mem (by exact (And.intro rfl (And.intro rfl (And.intro rfl (And.intro rfl trivial)))))) (by exact trivial) (by kernel_rfl))⟩
 refine pwp_skip ?_
 refine srvM [4, 5] 3 85 [(0, A a0), (4, .ptr 0 0 0), (6, A a0), (7, I (a0.length : Int)), (8, I x1), (45, A a0), (47, I (w64 (x1 - 1)))] [sc 0 v5] ?_
 obtain ⟨v10, hv11, h⟩ := bindS h
 refine opsP_idx τ_ok 48 hv11 (by kernel_rfl) ?_
 refine veM [4, 5] 3 85 [(0, A a0), (4, .ptr 0 0 0), (5, .ptr 1 0 0), (6, A a0), (7, I (a0.length : Int)), (8, I x1)] [sc 0 v5, sc 0 v10] ?_
 refine pwp_seq ?_
 refine pwp_join (σ := Bool) (fun x12 => (⟨85, [(0, A a0), (6, A a0), (7, I (a0.length : Int)), (8, I x1), (80, B x12)], [sc 0 v5, sc 0 v10]⟩ : St)) (fun x12 => impl_VersionsOk_j2 x1 (impl_VersionsOk_l0 a0 f2) x12 = some y) ?_ ?_
 refine rvM [4, 5] 6 85 [(0, A a0), (4, .ptr 0 0 0), (5, .ptr 1 0 0), (6, A a0), (7, I (a0.length : Int)), (8, I x1), (55, B (decide (v10.fKey > v5.fKey)))] [sc 0 v5, sc 0 v10] ?_
 rcases fk (decide (v10.fKey > v5.fKey)) with hc17 | hc17
 replace h := bT hc17 h
 rw [hc17]
 refine veM [4, 5] 25 85 [(0, A a0), (6, A a0), (7, I (a0.length : Int)), (8, I x1), (56, .lit undef), (57, .lit undef), (58, .lit undef), (59, .lit undef), (60, .lit undef), (61, .lit undef), (62, .lit undef), (63, .lit undef), (64, .lit undef), (65, .lit undef), (66, .lit undef), (67, .lit undef), (68, .lit undef), (69, .lit undef), (70, .lit undef), (71, .lit undef), (72, .lit undef), (73, .lit undef), (74, .lit undef), (75, .lit undef), (76, .lit undef), (77, .lit undef), (78, .lit undef), (79, .lit undef), (80, B true)] [sc 0 v5, sc 0 v10] ?_
 exact ⟨true, h, it [0, 6, 7, 8, 80]⟩
 replace h := bF hc17 h
 rw [hc17]
 refine vM [4, 5] 6 85 [(0, A a0), (4, .ptr 0 0 0), (5, .ptr 1 0 0), (6, A a0), (7, I (a0.length : Int)), (8, I x1), (55, B false), (56, .ptr 1 0 0), (57, I v10.fKey), (58, .ptr 0 0 0), (59, I v5.fKey), (60, B (v10.fKey == v5.fKey)), (61, B (v10.fKey == v5.fKey))] [sc 0 v5, sc 0 v10] ?_
 rcases fk (v10.fKey == v5.fKey) with hc16 | hc16
 replace h := bT hc16 h
 rw [hc16]
 refine vM [4, 5] 6 85 [(0, A a0), (4, .ptr 0 0 0), (5, .ptr 1 0 0), (6, A a0), (7, I (a0.length : Int)), (8, I x1), (55, B false), (56, .ptr 1 0 0), (57, I v10.fKey), (58, .ptr 0 0 0), (59, I v5.fKey), (60, B true), (61, B true), (62, .ptr 1 0 1), (63, I v10.fBorn), (64, .ptr 0 0 1), (65, I v5.fBorn), (66, B (decide (v10.fBorn ≥ v5.fBorn))), (67, B (decide (v10.fBorn ≥ v5.fBorn)))] [sc 0 v5, sc 0 v10] ?_
 rcases fk (decide (v10.fBorn ≥ v5.fBorn)) with hc15 | hc15
 replace h := bT hc15 h
 rw [hc15]
 refine veM [4, 5] 13 85 [(0, A a0), (6, A a0), (7, I (a0.length : Int)), (8, I x1), (56, .ptr 1 0 0), (57, I v10.fKey), (58, .ptr 0 0 0), (59, I v5.fKey), (60, B true), (61, B true), (62, .ptr 1 0 1), (63, I v10.fBorn), (64, .ptr 0 0 1), (65, I v5.fBorn), (66, B true), (67, B true), (68, .lit undef), (69, .lit undef), (70, .lit undef), (71, B true), (72, B true), (73, .lit undef), (74, .lit undef), (75, .lit undef), (76, .lit undef), (77, .lit undef), (78, B true), (79, B true), (80, B true)] [sc 0 v5, sc 0 v10] ?_
 exact ⟨true, h, it [0, 6, 7, 8, 80]⟩
 replace h := bF hc15 h
 rw [hc15]
 refine vM [4, 5] 5 85 [(0, A a0), (4, .ptr 0 0 0), (5, .ptr 1 0 0), (6, A a0), (7, I (a0.length : Int)), (8, I x1), (55, B false), (56, .ptr 1 0 0), (57, I v10.fKey), (58, .ptr 0 0 0), (59, I v5.fKey), (60, B true), (61, B true), (62, .ptr 1 0 1), (63, I v10.fBorn), (64, .ptr 0 0 1), (65, I v5.fBorn), (66, B false), (67, B false), (68, .ptr 1 0 2), (69, I v10.fDied), (70, B (v10.fDied == 0)), (71, B (v10.fDied == 0)), (72, B (v10.fDied == 0))] [sc 0 v5, sc 0 v10] ?_
 rcases fk (v10.fDied == 0) with hc14 | hc14
 replace h := bT hc14 h
 rw [hc14]
 refine veM [4, 5] 8 85 [(0, A a0), (6, A a0), (7, I (a0.length : Int)), (8, I x1), (56, .ptr 1 0 0), (57, I v10.fKey), (58, .ptr 0 0 0), (59, I v5.fKey), (60, B true), (61, B true), (62, .ptr 1 0 1), (63, I v10.fBorn), (64, .ptr 0 0 1), (65, I v5.fBorn), (66, B false), (67, B false), (68, .ptr 1 0 2), (69, I v10.fDied), (70, B true), (71, B true), (72, B true), (73, .lit undef), (74, .lit undef), (75, .lit undef), (76, .lit undef), (77, .lit undef), (78, B true), (79, B true), (80, B true)] [sc 0 v5, sc 0 v10] ?_
 exact ⟨true, h, it [0, 6, 7, 8, 80]⟩
 replace h := bF hc14 h
 rw [hc14]
 refine veM [4, 5] 8 85 [(0, A a0), (6, A a0), (7, I (a0.length : Int)), (8, I x1), (56, .ptr 1 0 0), (57, I v10.fKey), (58, .ptr 0 0 0), (59, I v5.fKey), (60, B true), (61, B true), (62, .ptr 1 0 1), (63, I v10.fBorn), (64, .ptr 0 0 1), (65, I v5.fBorn), (66, B false), (67, B false), (68, .ptr 1 0 2), (69, I v10.fDied), (70, B false), (71, B false), (72, B false), (73, .ptr 1 0 2), (74, I v10.fDied), (75, .ptr 0 0 1), (76, I v5.fBorn), (77, B (decide (v10.fDied > v5.fBorn))), (78, B (decide (v10.fDied > v5.fBorn))), (79, B (decide (v10.fDied > v5.fBorn))), (80, B (decide (v10.fDied > v5.fBorn)))] [sc 0 v5, sc 0 v10] ?_
 exact ⟨(decide (v10.fDied > v5.fBorn)), h, it [0, 6, 7, 8, 80]⟩
 replace h := bF hc16 h
 rw [hc16]
 refine veM [4, 5] 19 85 [(0, A a0), (6, A a0), (7, I (a0.length : Int)), (8, I x1), (56, .ptr 1 0 0), (57, I v10.fKey), (58, .ptr 0 0 0), (59, I v5.fKey), (60, B false), (61, B false), (62, .lit undef), (63, .lit undef), (64, .lit undef), (65, .lit undef), (66, .lit undef), (67, .lit undef), (68, .lit undef), (69, .lit undef), (70, .lit undef), (71, .lit undef), (72, .lit undef), (73, .lit undef), (74, .lit undef), (75, .lit undef), (76, .lit undef), (77, .lit undef), (78, .lit undef), (79, B false), (80, B false)] [sc 0 v5, sc 0 v10] ?_
 exact ⟨false, h, it [0, 6, 7, 8, 80]⟩
 rintro x12 h
 unfold impl_VersionsOk_j2 at h
 refine pc h (fun h => ?_) (fun h => ?_)
 refine srveM [4, 5] 85 [(2, B false)] [sc 0 v5, sc 0 v10] ?_
 cases h
 exact pwp_ret rz
 refine pwp_skip ?_
 refine rveM [4, 5] 85 [(0, A a0), (6, A a0), (7, I (a0.length : Int)), (8, I (w64 (x1 + 1)))] [sc 0 v5, sc 0 v10] ?_
 exact ⟨(f2, (w64 (x1 + 1))), h, Nat.lt_succ_self _, (it (st' := ⟨85, [(0, A a0), (6, A a0), (7, I (a0.length : Int)), (8, I (w64 (x1 + 1)))], [sc 0 v5, sc 0 v10]⟩) [0, 6, 7, 8]).trans (Imp.truncS 0 (nx hX) (by kernel_rfl) (allBelow_mem (by exact (And.intro rfl (And.intro rfl (And.intro rfl (And.intro rfl trivial)))))) (by exact trivial) (by kernel_rfl))⟩
 refine pwp_exit ?_
 refine srveM [4, 5] 85 [(2, B (decide ((a0.length : Int) ≤ 60)))] [] ?_
 cases h
 exact pwp_ret rz
def impl_logCopy_l0 (a0 : List T_impl_Entry) : Nat → Int → (List T_impl_Entry) → Option (List T_impl_Entry)
 | 0, _, _ => none
 | f4 + 1, x2, x3 => bif (decide (x2 < (a0.length : Int))) then (getI a0 x2).bind fun v7 => (impl_writesCopy v7.fWrites).bind fun v9 => (app x3 ([(T_impl_Entry.mk v7.fTime v9)] : List T_impl_Entry)).bind fun v11 => (impl_logCopy_l0 a0 f4) (w64 (x2 + 1)) v11 else (slices_Clip_impl_Entry_impl_Entry x3).bind fun v13 => some v13
def impl_logCopy (a0 : List T_impl_Entry) : Option (List T_impl_Entry) := impl_logCopy_l0 a0 FUEL 0 ([] : List T_impl_Entry)
theorem ok_impl_logCopy {a0 : List T_impl_Entry} {y : List T_impl_Entry} (h : impl_logCopy a0 = some y) : OK Try.prog 67 [A a0] (A y) := by
 refine ow Try.func67 fun Γ hX => ?_
 unfold impl_logCopy at h
 refine srveM [5] 24 [(0, A a0)] [] ?_
 refine srveM [5] 24 [(0, A a0), (3, .arr 2 0 (eL ([] : List T_impl_Entry)) true)] [] ?_
 refine pwp_seq ?_
 refine srveM [5] 24 [(3, .arr 2 0 (eL ([] : List T_impl_Entry)) true), (6, A a0), (7, I (a0.length : Int)), (8, I 0)] [] ?_
 refine pwp_block ?_
 refine pwp_loop (ι := Nat × Int × (List T_impl_Entry)) (fun (f4, x2, x3) => (⟨24, [(3, rf 0 0 2 x3), (6, A a0), (7, I (a0.length : Int)), (8, I x2)], [sl 0 x3]⟩ : St)) (fun (f4, x2, x3) => impl_logCopy_l0 a0 f4 x2 x3 = some y) Prod.fst (FUEL, 0, ([] : List T_impl_Entry)) h (Imp.thawS 3 [3, 6, 7, 8] (by kernel_rfl)) ?_
 rintro ⟨f4, x2, x3⟩ h
 dsimp only at h ⊢
 rcases f4 with _ | f4
 cases h
 rw [impl_logCopy_l0] at h
 refine srveM [5] 24 [(3, rf 0 0 2 x3), (6, A a0), (7, I (a0.length : Int)), (8, I x2), (9, B (decide (x2 < (a0.length : Int))))] [sl 0 x3] ?_
 refine pwp_seq ?_
 refine pc h (fun h => ?_) (fun h => ?_)
 refine pwp_skip ?_
 refine pwp_seq ?_
 refine pwp_block ?_
 refine pwp_seq ?_
 refine pwp_region ?_
 obtain ⟨v7, hv8, h⟩ := bindS h
 refine opsP_idx τ_ok 10 hv8 (by kernel_rfl) ?_
 refine veM [5] 3 24 [(3, rf 0 0 2 x3), (5, .ptr 1 0 0), (6, A a0), (7, I (a0.length : Int)), (8, I x2)] [sl 0 x3, sc 0 v7] ?_
 refine ip 24 [(3, rf 0 0 2 x3), (5, .ptr 1 0 0), (6, A a0), (7, I (a0.length : Int)), (8, I x2)] [sl 0 x3, sc 0 v7] ?_
 refine pwp_any ([[0], [1], [1], [1], [1], [], [], [], [0], [0]]) ([[], [], [], [], [], [], [], [], [0], []]) rfl (by kernel_rfl) ?_
 refine qvM [5] [0] (hL trivial) 1 24 [(12, rf 0 0 2 x3), (3, rf 0 0 2 x3), (5, .ptr 1 0 0), (6, A a0), (7, I (a0.length : Int)), (8, I x2)] [sl 0 x3, sc 0 v7] ?_
 refine qvM [5] [1] (hB trivial) 4 24 [(16, A v7.fWrites), (14, I v7.fTime), (12, rf 0 0 2 x3), (3, rf 0 0 2 x3), (6, A a0), (7, I (a0.length : Int)), (8, I x2)] [sl 0 x3, sc 0 v7] ?_
 obtain ⟨v9, hv10, h⟩ := bindS h
 refine qX (some 17) (A v9) 24 [(17, A v9), (14, I v7.fTime), (12, rf 0 0 2 x3), (3, rf 0 0 2 x3), (6, A a0), (7, I (a0.length : Int)), (8, I x2)] [sl 0 x3, sc 0 v7] (fun Γ' hΓ => CoreE.of_g (callV_sound (τ := τ) (by kernel_rfl) rfl (ok_impl_writesCopy hv10) (FzTo.frz rfl))) trivial ?_
 refine qvM [5] [] trivial 2 24 [(19, .arr 2 ([(T_impl_Entry.mk v7.fTime v9)] : List T_impl_Entry).length (eL ([(T_impl_Entry.mk v7.fTime v9)] : List T_impl_Entry)) true), (12, rf 0 0 2 x3), (3, rf 0 0 2 x3), (6, A a0), (7, I (a0.length : Int)), (8, I x2)] [sl 0 x3, sc 0 v7] ?_
 obtain ⟨v11, hv12, h⟩ := bindS h
 refine qX (some 20) (rf 0 1 2 v11) 24 [(20, rf 0 1 2 v11), (3, rf 0 0 2 x3), (6, A a0), (7, I (a0.length : Int)), (8, I x2)] [sl 1 v11, sc 0 v7] (fun Γ' hΓ => app_Ew τ_ok 20 0 0 (ny hΓ hX) hv12 (by kernel_rfl)) (hL trivial) ?_
 refine qvnM [5] [0] (hL trivial) 1 24 [(3, rf 0 1 2 v11), (6, A a0), (7, I (a0.length : Int)), (8, I x2)] [sl 1 v11, sc 0 v7] ?_
 refine rveM [5] 24 [(3, rf 0 1 2 v11), (6, A a0), (7, I (a0.length : Int)), (8, I (w64 (x2 + 1)))] [sl 1 v11, sc 0 v7] ?_
 exact ⟨(f4, (w64 (x2 + 1)), v11), h, Nat.lt_succ_self _, qt (it (st' := ⟨24, [(3, rf 0 1 2 v11), (6, A a0), (7, I (a0.length : Int)), (8, I (w64 (x2 + 1)))], [sl 1 v11, sc 0 v7]⟩) [3, 6, 7, 8]) (qt (Imp.truncS (st' := ⟨24, [(3, rf 0 1 2 v11), (6, A a0), (7, I (a0.length : Int)), (8, I (w64 (x2 + 1)))], [sl 1 v11]⟩) 1 (nx hX) (by kernel_rfl) (allBelow_mem (by exact (And.intro rfl (And.intro rfl (And.intro rfl (And.intro rfl trivial)))))) (by exact (And.intro (frz_below (eL_frz _)) trivial)) (by kernel_rfl)) (Imp.reverS 0 1 (eL v11) [3, 6, 7, 8] (by kernel_rfl) (by exact (And.intro (eL_frz _) trivial)) (by kernel_rfl)))⟩
 refine pwp_exit ?_
 refine srvM [5] 1 24 [(22, rf 0 0 2 x3)] [sl 0 x3] ?_
 refine opsP_imp (Imp.freezeB (v := 0) (cs := eL x3) (st' := ⟨24, [(22, A x3)], [none]⟩) 0 0 (nx hX) (by kernel_rfl) (eL_frz _) (wholeC (whole_is (eL_len x3).symm) wholeC0) (HpRel.key HpRel.nil) (by kernel_rfl) rfl (nx hX)) ?_
 obtain ⟨v13, hv14, h⟩ := bindS h
 refine cF 23 (ok_slices_Clip_impl_Entry_impl_Entry hv14) ?_
 refine veM [5] 1 24 [(2, A v13)] [none] ?_
 cases h
 exact pwp_ret rz
def impl_logCut (a0 : List T_impl_Entry) (a1 : Int) : Option (List T_impl_Entry) := (slices_Clone_impl_Entry_impl_Entry a0).bind fun v1 => (slices_DeleteFunc_impl_Entry_impl_Entry v1 (fun z0 => impl_logCut_1 z0 a1)).bind fun v3 => (impl_logCopy v3).bind fun v5 => some v5
theorem ok_impl_logCut {a0 : List T_impl_Entry} {a1 : Int} {y : List T_impl_Entry} (h : impl_logCut a0 a1 = some y) : OK Try.prog 74 [A a0, I a1] (A y) := by
 refine ow Try.func74 fun Γ hX => ?_
 unfold impl_logCut at h
 refine srve 10 [(0, A a0), (3, pf a1 0)] [] ?_
 refine srv 1 10 [(3, pf a1 0), (5, A a0)] [] ?_
 obtain ⟨v1, hv2, h⟩ := bindS h
 refine opsP_callO τ 6 (ok_slices_Clone_impl_Entry_impl_Entry hv2) rfl (by kernel_rfl) ?_
 refine v 1 10 [(6, rf 0 0 2 v1), (7, .fn 102 [pf a1 0])] [sl 0 v1] ?_
 obtain ⟨v3, hv4, h⟩ := bindS h
 refine opsP_callM (xs := [rf 0 0 2 v1, .fn 102 [pf a1 0]]) (x := rf 1 0 2 v3) (bs := [⟨0, eL v3⟩]) τ 8 [0] (nx hX) (ok_slices_DeleteFunc_impl_Entry_impl_Entry (rfl) (fun _ w hw => ok_impl_logCut_1 hw) hv4) (by kernel_rfl) (OutL.cons (OutP.list (v := 0) (by kernel_rfl)) (OutL.cons (OutP.frz rfl) (OutL.nil _))) (by decide) (by kernel_rfl) ?_
 refine v 0 10 [(8, rf 1 0 2 v3)] [none, sl 0 v3] ?_
 refine opsP_imp (Imp.freezeB (v := 0) (cs := eL v3) (st' := ⟨10, [(8, A v3)], [none, none]⟩) 1 0 (nx hX) (by kernel_rfl) (eL_frz _) (wholeC (whole_is (eL_len v3).symm) wholeC0) (HpRel.none rfl (HpRel.key HpRel.nil)) (by kernel_rfl) rfl (nx hX)) ?_
 obtain ⟨v5, hv6, h⟩ := bindS h
 refine cF 9 (ok_impl_logCopy hv6) ?_
 refine ve 1 10 [(4, A v5)] [none, none] ?_
 cases h
 exact pwp_ret rz
def laws_szWriteS_l0 (a0 : List T_laws_Write) : Nat → Int → Int → Option Int
 | 0, _, _ => none
 | f4 + 1, x2, x3 => bif (decide (x3 < (a0.length : Int))) then (getI a0 x3).bind fun v7 => (laws_szWrite v7 x2).bind fun v9 => bif (decide (v9 < 0)) then some (-1) else (laws_szWriteS_l0 a0 f4) v9 (w64 (x3 + 1)) else some x2
def laws_szWriteS (a0 : List T_laws_Write) (a1 : Int) : Option Int := bif (decide ((w64 (a1 - (a0.length : Int))) < 0)) then some (-1) else laws_szWriteS_l0 a0 FUEL (w64 (a1 - (a0.length : Int))) 0
theorem ok_laws_szWriteS {a0 : List T_laws_Write} {a1 : Int} {y : Int} (h : laws_szWriteS a0 a1 = some y) : OK Try.prog 77 [A a0, I a1] (I y) := by
 refine ow Try.func77 fun Γ hX => ?_
 unfold laws_szWriteS at h
 refine srve 27 [(0, A a0), (1, I a1)] [] ?_
 refine srve 27 [(0, A a0), (1, I (w64 (a1 - (a0.length : Int))))] [] ?_
 refine pwp_seq ?_
 refine srve 27 [(0, A a0), (1, I (w64 (a1 - (a0.length : Int)))), (11, B (decide ((w64 (a1 - (a0.length : Int))) < 0)))] [] ?_
 refine pc h (fun h => ?_) (fun h => ?_)
 refine srve 27 [(4, I (-1))] [] ?_
 cases h
 exact pwp_ret rz
 refine pwp_skip ?_
 refine pwp_seq ?_
 refine srve 27 [(0, A a0), (1, I (w64 (a1 - (a0.length : Int)))), (5, I 0)] [] ?_
 refine pwp_block ?_
 refine pwp_loop (ι := Nat × Int × Int) (fun (f4, x2, x3) => (⟨27, [(0, A a0), (1, I x2), (5, I x3)], []⟩ : St)) (fun (f4, x2, x3) => laws_szWriteS_l0 a0 f4 x2 x3 = some y) Prod.fst (FUEL, (w64 (a1 - (a0.length : Int))), 0) h (it [0, 1, 5]) ?_
 rintro ⟨f4, x2, x3⟩ h
 dsimp only at h ⊢
 rcases f4 with _ | f4
 cases h
 rw [laws_szWriteS_l0] at h
 refine pwp_seq ?_
 refine srve 27 [(0, A a0), (1, I x2), (5, I x3), (15, B (decide (x3 < (a0.length : Int))))] [] ?_
 refine pc h (fun h => ?_) (fun h => ?_)
 refine pwp_skip ?_
 refine pwp_seq ?_
 refine pwp_block ?_
 refine srv 2 27 [(0, A a0), (1, I x2), (5, I x3), (18, A a0), (19, I x3)] [] ?_
 obtain ⟨v7, hv8, h⟩ := bindS h
 refine opsP_idx τ_ok 20 hv8 (by kernel_rfl) ?_
 refine v 2 27 [(0, A a0), (5, I x3), (21, E v7), (22, I x2)] [] ?_
 obtain ⟨v9, hv10, h⟩ := bindS h
 refine cF 23 (ok_laws_szWrite hv10) ?_
 refine ve 1 27 [(0, A a0), (1, I v9), (5, I x3)] [] ?_
 refine srve 27 [(0, A a0), (1, I v9), (5, I x3), (25, B (decide (v9 < 0)))] [] ?_
 refine pc h (fun h => ?_) (fun h => ?_)
 refine srve 27 [(4, I (-1))] [] ?_
 cases h
 exact pwp_ret rz
 refine pwp_skip ?_
 refine rve 27 [(0, A a0), (1, I v9), (5, I (w64 (x3 + 1)))] [] ?_
 exact ⟨(f4, v9, (w64 (x3 + 1))), h, Nat.lt_succ_self _, it [0, 1, 5]⟩
 refine pwp_exit ?_
 refine srve 27 [(4, I x2)] [] ?_
 cases h
 exact pwp_ret rz
def spec_WritesOk_j1 (x1 : Int) (K3 : Int → Option Bool) (x7 : Bool) : Option Bool := bif x7 then some false else K3 (w64 (x1 + 1))
def spec_WritesOk_l0 (a0 : List T_impl_Write) : Nat → Int → Option Bool
 | 0, _ => none
 | f2 + 1, x1 => bif (decide (x1 < (a0.length : Int))) then (getI a0 x1).bind fun v5 => (spec_l1In v5.fKey 0 4).bind fun v9 => bif (!v9) then spec_WritesOk_j1 x1 (spec_WritesOk_l0 a0 f2) true else (spec_RowOk v5.fRow).bind fun v11 => bif (!v11) then spec_WritesOk_j1 x1 (spec_WritesOk_l0 a0 f2) true else bif v5.fGone then bif (decide ((v5.fRow.length : Int) > 0)) then spec_WritesOk_j1 x1 (spec_WritesOk_l0 a0 f2) true else bif (decide (x1 > 0)) then (getI a0 (w64 (x1 - 1))).bind fun v13 => spec_WritesOk_j1 x1 (spec_WritesOk_l0 a0 f2) (decide (v13.fKey ≥ v5.fKey)) else spec_WritesOk_j1 x1 (spec_WritesOk_l0 a0 f2) false else bif (decide (x1 > 0)) then (getI a0 (w64 (x1 - 1))).bind fun v17 => spec_WritesOk_j1 x1 (spec_WritesOk_l0 a0 f2) (decide (v17.fKey ≥ v5.fKey)) else spec_WritesOk_j1 x1 (spec_WritesOk_l0 a0 f2) false else some true
def spec_WritesOk (a0 : List T_impl_Write) : Option Bool := spec_WritesOk_l0 a0 FUEL 0
theorem ok_spec_WritesOk {a0 : List T_impl_Write} {y : Bool} (h : spec_WritesOk a0 = some y) : OK Try.prog 85 [A a0] (B y) := by
 refine ow Try.func85 fun Γ hX => ?_
 unfold spec_WritesOk at h
 refine srveM [4] 50 [(0, A a0)] [] ?_
 refine pwp_seq ?_
 refine srveM [4] 50 [(0, A a0), (3, I 0)] [] ?_
 refine pwp_block ?_
 refine pwp_loop (ι := Nat × Int) (fun (f2, x1) => (⟨50, [(0, A a0), (3, I x1)], []⟩ : St)) (fun (f2, x1) => spec_WritesOk_l0 a0 f2 x1 = some y) Prod.fst (FUEL, 0) h (it [0, 3]) ?_
 rintro ⟨f2, x1⟩ h
 dsimp only at h ⊢
 rcases f2 with _ | f2
 cases h
 rw [spec_WritesOk_l0] at h
 refine pwp_seq ?_
 refine srveM [4] 50 [(0, A a0), (3, I x1), (8, B (decide (x1 < (a0.length : Int))))] [] ?_
 refine pc h (fun h => ?_) (fun h => ?_)
 refine pwp_skip ?_
 refine pwp_seq ?_
 refine pwp_block ?_
 refine srvM [4] 2 50 [(0, A a0), (3, I x1), (11, A a0), (12, I x1)] [] ?_
 obtain ⟨v5, hv6, h⟩ := bindS h
 refine opsP_idx τ_ok 13 hv6 (by kernel_rfl) ?_
 refine veM [4] 3 50 [(0, A a0), (3, I x1), (4, .ptr 0 0 0)] [sc 0 v5] ?_
 refine pwp_seq ?_
 refine pwp_join (σ := Bool) (fun x7 => (⟨50, [(0, A a0), (3, I x1), (49, B x7)], [sc 0 v5]⟩ : St)) (fun x7 => spec_WritesOk_j1 x1 (spec_WritesOk_l0 a0 f2) x7 = some y) ?_ ?_
 refine ip 50 [(0, A a0), (3, I x1), (4, .ptr 0 0 0)] [sc 0 v5] ?_
 refine pwp_any ([[0], [0], [], [], [], [0], [0], [], [], [], [], [0], [0], [], [0], [0], [], [], [], [], [], [], [], [], [], [], [], [], [], [], [0], [0], [], [], []]) ([[], [], [], [], [], [], [], [], [], [], [], [], [], [], [], [], [], [], [], [], [], [], [], [], [], [], [], [], [], [], [], [], [], [], []]) rfl (by kernel_rfl) ?_
 refine qvM [4] [0] (hB trivial) 2 50 [(16, I v5.fKey), (0, A a0), (3, I x1), (4, .ptr 0 0 0)] [sc 0 v5] ?_
 obtain ⟨v9, hv10, h⟩ := bindS h
 refine qX (some 17) (B v9) 50 [(17, B v9), (0, A a0), (3, I x1), (4, .ptr 0 0 0)] [sc 0 v5] (fun Γ' hΓ => CoreE.of_g (callV_sound (τ := τ) (by kernel_rfl) rfl (ok_spec_l1In hv10) (FzTo.frz rfl))) trivial ?_
 refine qvM [4] [] trivial 2 50 [(19, B (!v9)), (0, A a0), (3, I x1), (4, .ptr 0 0 0)] [sc 0 v5] ?_
 rcases fk (!v9) with hc22 | hc22
 replace h := bT hc22 h
 rw [hc22]
 refine qvM [4] [0] (hB trivial) 2 50 [(21, .lit undef), (20, .lit undef), (19, B true), (0, A a0), (3, I x1), (4, .ptr 0 0 0)] [sc 0 v5] ?_
 refine qvM [4] [] trivial 4 50 [(25, B true), (23, .lit undef), (22, .lit undef), (21, .lit undef), (20, .lit undef), (0, A a0), (3, I x1), (4, .ptr 0 0 0)] [sc 0 v5] ?_
 refine qvM [4] [0] (hB trivial) 2 50 [(27, .lit undef), (26, .lit undef), (25, B true), (23, .lit undef), (22, .lit undef), (21, .lit undef), (20, .lit undef), (0, A a0), (3, I x1), (4, .ptr 0 0 0)] [sc 0 v5] ?_
 refine qvM [4] [] trivial 1 50 [(28, .lit undef), (27, .lit undef), (26, .lit undef), (25, B true), (23, .lit undef), (22, .lit undef), (21, .lit undef), (20, .lit undef), (0, A a0), (3, I x1), (4, .ptr 0 0 0)] [sc 0 v5] ?_
 refine qvM [4] [0] (hB trivial) 2 50 [(30, .lit undef), (29, .lit undef), (28, .lit undef), (27, .lit undef), (26, .lit undef), (25, B true), (23, .lit undef), (22, .lit undef), (21, .lit undef), (20, .lit undef), (0, A a0), (3, I x1), (4, .ptr 0 0 0)] [sc 0 v5] ?_
 refine qvM [4] [] trivial 14 50 [(44, .lit undef), (43, .lit undef), (42, .lit undef), (41, .lit undef), (40, .lit undef), (39, .lit undef), (38, .lit undef), (37, .lit undef), (36, .lit undef), (35, B true), (33, .lit undef), (32, .lit undef), (31, .lit undef), (30, .lit undef), (29, .lit undef), (28, .lit undef), (27, .lit undef), (26, .lit undef), (23, .lit undef), (22, .lit undef), (21, .lit undef), (20, .lit undef), (0, A a0), (3, I x1), (4, .ptr 0 0 0)] [sc 0 v5] ?_
 refine qvM [4] [0] (hB trivial) 2 50 [(46, .lit undef), (45, .lit undef), (44, .lit undef), (43, .lit undef), (42, .lit undef), (41, .lit undef), (40, .lit undef), (39, .lit undef), (38, .lit undef), (37, .lit undef), (36, .lit undef), (35, B true), (33, .lit undef), (32, .lit undef), (31, .lit undef), (30, .lit undef), (29, .lit undef), (28, .lit undef), (27, .lit undef), (26, .lit undef), (23, .lit undef), (22, .lit undef), (21, .lit undef), (20, .lit undef), (0, A a0), (3, I x1)] [sc 0 v5] ?_
 refine qvM [4] [] trivial 3 50 [(49, B true), (48, .lit undef), (47, .lit undef), (46, .lit undef), (45, .lit undef), (44, .lit undef), (43, .lit undef), (42, .lit undef), (41, .lit undef), (40, .lit undef), (39, .lit undef), (38, .lit undef), (37, .lit undef), (36, .lit undef), (33, .lit undef), (32, .lit undef), (31, .lit undef), (30, .lit undef), (29, .lit undef), (28, .lit undef), (27, .lit undef), (26, .lit undef), (23, .lit undef), (22, .lit undef), (21, .lit undef), (20, .lit undef), (0, A a0), (3, I x1)] [sc 0 v5] ?_
 refine qn 50 [(0, A a0), (3, I x1), (20, .lit undef), (21, .lit undef), (22, .lit undef), (23, .lit undef), (26, .lit undef), (27, .lit undef), (28, .lit undef), (29, .lit undef), (30, .lit undef), (31, .lit undef), (32, .lit undef), (33, .lit undef), (36, .lit undef), (37, .lit undef), (38, .lit undef), (39, .lit undef), (40, .lit undef), (41, .lit undef), (42, .lit undef), (43, .lit undef), (44, .lit undef), (45, .lit undef), (46, .lit undef), (47, .lit undef), (48, .lit undef), (49, B true)] [sc 0 v5] ?_
 exact ⟨true, h, it [0, 3, 49]⟩
 replace h := bF hc22 h
 rw [hc22]
 refine qvM [4] [0] (hB trivial) 2 50 [(21, A v5.fRow), (20, .ptr 0 0 1), (19, B false), (0, A a0), (3, I x1), (4, .ptr 0 0 0)] [sc 0 v5] ?_
 obtain ⟨v11, hv12, h⟩ := bindS h
 refine qX (some 22) (B v11) 50 [(22, B v11), (21, A v5.fRow), (20, .ptr 0 0 1), (19, B false), (0, A a0), (3, I x1), (4, .ptr 0 0 0)] [sc 0 v5] (fun Γ' hΓ => CoreE.of_g (callV_sound (τ := τ) (by kernel_rfl) rfl (ok_spec_RowOk hv12) (FzTo.frz rfl))) trivial ?_
 refine qvM [4] [] trivial 3 50 [(25, B (!v11)), (23, B (!v11)), (22, B v11), (21, A v5.fRow), (20, .ptr 0 0 1), (0, A a0), (3, I x1), (4, .ptr 0 0 0)] [sc 0 v5] ?_
 rcases fk (!v11) with hc21 | hc21
 replace h := bT hc21 h
 rw [hc21]
 refine qvM [4] [0] (hB trivial) 2 50 [(27, .lit undef), (26, .lit undef), (25, B true), (23, B true), (22, B v11), (21, A v5.fRow), (20, .ptr 0 0 1), (0, A a0), (3, I x1), (4, .ptr 0 0 0)] [sc 0 v5] ?_
 refine qvM [4] [] trivial 1 50 [(28, .lit undef), (27, .lit undef), (26, .lit undef), (25, B true), (23, B true), (22, B v11), (21, A v5.fRow), (20, .ptr 0 0 1), (0, A a0), (3, I x1), (4, .ptr 0 0 0)] [sc 0 v5] ?_
 refine qvM [4] [0] (hB trivial) 2 50 [(30, .lit undef), (29, .lit undef), (28, .lit undef), (27, .lit undef), (26, .lit undef), (25, B true), (23, B true), (22, B v11), (21, A v5.fRow), (20, .ptr 0 0 1), (0, A a0), (3, I x1), (4, .ptr 0 0 0)] [sc 0 v5] ?_
 refine qvM [4] [] trivial 14 50 [(44, .lit undef), (43, .lit undef), (42, .lit undef), (41, .lit undef), (40, .lit undef), (39, .lit undef), (38, .lit undef), (37, .lit undef), (36, .lit undef), (35, B true), (33, .lit undef), (32, .lit undef), (31, .lit undef), (30, .lit undef), (29, .lit undef), (28, .lit undef), (27, .lit undef), (26, .lit undef), (23, B true), (22, B v11), (21, A v5.fRow), (20, .ptr 0 0 1), (0, A a0), (3, I x1), (4, .ptr 0 0 0)] [sc 0 v5] ?_
 refine qvM [4] [0] (hB trivial) 2 50 [(46, .lit undef), (45, .lit undef), (44, .lit undef), (43, .lit undef), (42, .lit undef), (41, .lit undef), (40, .lit undef), (39, .lit undef), (38, .lit undef), (37, .lit undef), (36, .lit undef), (35, B true), (33, .lit undef), (32, .lit undef), (31, .lit undef), (30, .lit undef), (29, .lit undef), (28, .lit undef), (27, .lit undef), (26, .lit undef), (23, B true), (22, B v11), (21, A v5.fRow), (20, .ptr 0 0 1), (0, A a0), (3, I x1)] [sc 0 v5] ?_
 refine qvM [4] [] trivial 3 50 [(49, B true), (48, .lit undef), (47, .lit undef), (46, .lit undef), (45, .lit undef), (44, .lit undef), (43, .lit undef), (42, .lit undef), (41, .lit undef), (40, .lit undef), (39, .lit undef), (38, .lit undef), (37, .lit undef), (36, .lit undef), (33, .lit undef), (32, .lit undef), (31, .lit undef), (30, .lit undef), (29, .lit undef), (28, .lit undef), (27, .lit undef), (26, .lit undef), (23, B true), (22, B v11), (21, A v5.fRow), (20, .ptr 0 0 1), (0, A a0), (3, I x1)] [sc 0 v5] ?_
 refine qn 50 [(0, A a0), (3, I x1), (20, .ptr 0 0 1), (21, A v5.fRow), (22, B v11), (23, B true), (26, .lit undef), (27, .lit undef), (28, .lit undef), (29, .lit undef), (30, .lit undef), (31, .lit undef), (32, .lit undef), (33, .lit undef), (36, .lit undef), (37, .lit undef), (38, .lit undef), (39, .lit undef), (40, .lit undef), (41, .lit undef), (42, .lit undef), (43, .lit undef), (44, .lit undef), (45, .lit undef), (46, .lit undef), (47, .lit undef), (48, .lit undef), (49, B true)] [sc 0 v5] ?_
 exact ⟨true, h, it [0, 3, 49]⟩
 replace h := bF hc21 h
 rw [hc21]
 refine qvM [4] [0] (hB trivial) 2 50 [(27, B v5.fGone), (26, .ptr 0 0 2), (25, B false), (23, B false), (22, B v11), (21, A v5.fRow), (20, .ptr 0 0 1), (0, A a0), (3, I x1), (4, .ptr 0 0 0)] [sc 0 v5] ?_
 refine qvM [4] [] trivial 1 50 [(28, B v5.fGone), (27, B v5.fGone), (26, .ptr 0 0 2), (25, B false), (23, B false), (22, B v11), (21, A v5.fRow), (20, .ptr 0 0 1), (0, A a0), (3, I x1), (4, .ptr 0 0 0)] [sc 0 v5] ?_
 rcases Bool.eq_false_or_eq_true v5.fGone with hc20 | hc20
 replace h := bT hc20 h
 rw [hc20]
 refine qvM [4] [0] (hB trivial) 2 50 [(30, A v5.fRow), (29, .ptr 0 0 1), (28, B true), (27, B true), (26, .ptr 0 0 2), (25, B false), (23, B false), (22, B v11), (21, A v5.fRow), (20, .ptr 0 0 1), (0, A a0), (3, I x1), (4, .ptr 0 0 0)] [sc 0 v5] ?_
 refine qvM [4] [] trivial 5 50 [(35, B (decide ((v5.fRow.length : Int) > 0))), (33, B (decide ((v5.fRow.length : Int) > 0))), (32, B (decide ((v5.fRow.length : Int) > 0))), (31, I (v5.fRow.length : Int)), (30, A v5.fRow), (29, .ptr 0 0 1), (28, B true), (27, B true), (26, .ptr 0 0 2), (23, B false), (22, B v11), (21, A v5.fRow), (20, .ptr 0 0 1), (0, A a0), (3, I x1), (4, .ptr 0 0 0)] [sc 0 v5] ?_
 rcases fk (decide ((v5.fRow.length : Int) > 0)) with hc16 | hc16
 replace h := bT hc16 h
 rw [hc16]
 refine qvM [4] [] trivial 9 50 [(44, .lit undef), (43, .lit undef), (42, .lit undef), (41, .lit undef), (40, .lit undef), (39, .lit undef), (38, .lit undef), (37, .lit undef), (36, .lit undef), (35, B true), (33, B true), (32, B true), (31, I (v5.fRow.length : Int)), (30, A v5.fRow), (29, .ptr 0 0 1), (28, B true), (27, B true), (26, .ptr 0 0 2), (23, B false), (22, B v11), (21, A v5.fRow), (20, .ptr 0 0 1), (0, A a0), (3, I x1), (4, .ptr 0 0 0)] [sc 0 v5] ?_
 refine qvM [4] [0] (hB trivial) 2 50 [(46, .lit undef), (45, .lit undef), (44, .lit undef), (43, .lit undef), (42, .lit undef), (41, .lit undef), (40, .lit undef), (39, .lit undef), (38, .lit undef), (37, .lit undef), (36, .lit undef), (35, B true), (33, B true), (32, B true), (31, I (v5.fRow.length : Int)), (30, A v5.fRow), (29, .ptr 0 0 1), (28, B true), (27, B true), (26, .ptr 0 0 2), (23, B false), (22, B v11), (21, A v5.fRow), (20, .ptr 0 0 1), (0, A a0), (3, I x1)] [sc 0 v5] ?_
 refine qvM [4] [] trivial 3 50 [(49, B true), (48, .lit undef), (47, .lit undef), (46, .lit undef), (45, .lit undef), (44, .lit undef), (43, .lit undef), (42, .lit undef), (41, .lit undef), (40, .lit undef), (39, .lit undef), (38, .lit undef), (37, .lit undef), (36, .lit undef), (33, B true), (32, B true), (31, I (v5.fRow.length : Int)), (30, A v5.fRow), (29, .ptr 0 0 1), (28, B true), (27, B true), (26, .ptr 0 0 2), (23, B false), (22, B v11), (21, A v5.fRow), (20, .ptr 0 0 1), (0, A a0), (3, I x1)] [sc 0 v5] ?_
 refine qn 50 [(0, A a0), (3, I x1), (20, .ptr 0 0 1), (21, A v5.fRow), (22, B v11), (23, B false), (26, .ptr 0 0 2), (27, B true), (28, B true), (29, .ptr 0 0 1), (30, A v5.fRow), (31, I (v5.fRow.length : Int)), (32, B true), (33, B true), (36, .lit undef), (37, .lit undef), (38, .lit undef), (39, .lit undef), (40, .lit undef), (41, .lit undef), (42, .lit undef), (43, .lit undef), (44, .lit undef), (45, .lit undef), (46, .lit undef), (47, .lit undef), (48, .lit undef), (49, B true)] [sc 0 v5] ?_
 exact ⟨true, h, it [0, 3, 49]⟩
 replace h := bF hc16 h
 rw [hc16]
 refine qvM [4] [] trivial 3 50 [(38, B (decide (x1 > 0))), (37, B (decide (x1 > 0))), (36, I x1), (35, B false), (33, B false), (32, B false), (31, I (v5.fRow.length : Int)), (30, A v5.fRow), (29, .ptr 0 0 1), (28, B true), (27, B true), (26, .ptr 0 0 2), (23, B false), (22, B v11), (21, A v5.fRow), (20, .ptr 0 0 1), (0, A a0), (3, I x1), (4, .ptr 0 0 0)] [sc 0 v5] ?_
 rcases fk (decide (x1 > 0)) with hc15 | hc15
 replace h := bT hc15 h
 rw [hc15]
 refine qvM [4] [] trivial 3 50 [(41, I (w64 (x1 - 1))), (40, I x1), (39, A a0), (38, B true), (37, B true), (36, I x1), (35, B false), (33, B false), (32, B false), (31, I (v5.fRow.length : Int)), (30, A v5.fRow), (29, .ptr 0 0 1), (28, B true), (27, B true), (26, .ptr 0 0 2), (23, B false), (22, B v11), (21, A v5.fRow), (20, .ptr 0 0 1), (0, A a0), (3, I x1), (4, .ptr 0 0 0)] [sc 0 v5] ?_
 obtain ⟨v13, hv14, h⟩ := bindS h
 refine qX (some 42) (pf v13 0) 50 [(42, pf v13 0), (41, I (w64 (x1 - 1))), (40, I x1), (39, A a0), (38, B true), (37, B true), (36, I x1), (35, B false), (33, B false), (32, B false), (31, I (v5.fRow.length : Int)), (30, A v5.fRow), (29, .ptr 0 0 1), (28, B true), (27, B true), (26, .ptr 0 0 2), (23, B false), (22, B v11), (21, A v5.fRow), (20, .ptr 0 0 1), (0, A a0), (3, I x1), (4, .ptr 0 0 0)] [sc 0 v5] (fun Γ' hΓ => CoreE.of_y (idxV_sound τ_ok (by kernel_rfl) hv14)) trivial ?_
 refine qvM [4] [] trivial 2 50 [(44, I v13.fKey), (43, pf v13 0), (42, pf v13 0), (41, I (w64 (x1 - 1))), (40, I x1), (39, A a0), (38, B true), (37, B true), (36, I x1), (35, B false), (33, B false), (32, B false), (31, I (v5.fRow.length : Int)), (30, A v5.fRow), (29, .ptr 0 0 1), (28, B true), (27, B true), (26, .ptr 0 0 2), (23, B false), (22, B v11), (21, A v5.fRow), (20, .ptr 0 0 1), (0, A a0), (3, I x1), (4, .ptr 0 0 0)] [sc 0 v5] ?_
 refine qvM [4] [0] (hB trivial) 2 50 [(46, I v5.fKey), (45, .ptr 0 0 0), (44, I v13.fKey), (43, pf v13 0), (42, pf v13 0), (41, I (w64 (x1 - 1))), (40, I x1), (39, A a0), (38, B true), (37, B true), (36, I x1), (35, B false), (33, B false), (32, B false), (31, I (v5.fRow.length : Int)), (30, A v5.fRow), (29, .ptr 0 0 1), (28, B true), (27, B true), (26, .ptr 0 0 2), (23, B false), (22, B v11), (21, A v5.fRow), (20, .ptr 0 0 1), (0, A a0), (3, I x1)] [sc 0 v5] ?_
 refine qvM [4] [] trivial 3 50 [(49, B (decide (v13.fKey ≥ v5.fKey))), (48, B (decide (v13.fKey ≥ v5.fKey))), (47, B (decide (v13.fKey ≥ v5.fKey))), (46, I v5.fKey), (45, .ptr 0 0 0), (44, I v13.fKey), (43, pf v13 0), (42, pf v13 0), (41, I (w64 (x1 - 1))), (40, I x1), (39, A a0), (38, B true), (37, B true), (36, I x1), (33, B false), (32, B false), (31, I (v5.fRow.length : Int)), (30, A v5.fRow), (29, .ptr 0 0 1), (28, B true), (27, B true), (26, .ptr 0 0 2), (23, B false), (22, B v11), (21, A v5.fRow), (20, .ptr 0 0 1), (0, A a0), (3, I x1)] [sc 0 v5] ?_
 refine qn 50 [(0, A a0), (3, I x1), (20, .ptr 0 0 1), (21, A v5.fRow), (22, B v11), (23, B false), (26, .ptr 0 0 2), (27, B true), (28, B true), (29, .ptr 0 0 1), (30, A v5.fRow), (31, I (v5.fRow.length : Int)), (32, B false), (33, B false), (36, I x1), (37, B true), (38, B true), (39, A a0), (40, I x1), (41, I (w64 (x1 - 1))), (42, pf v13 0), (43, pf v13 0), (44, I v13.fKey), (45, .ptr 0 0 0), (46, I v5.fKey), (47, B (decide (v13.fKey ≥ v5.fKey))), (48, B (decide (v13.fKey ≥ v5.fKey))), (49, B (decide (v13.fKey ≥ v5.fKey)))] [sc 0 v5] ?_
 exact ⟨(decide (v13.fKey ≥ v5.fKey)), h, it [0, 3, 49]⟩
 replace h := bF hc15 h
 rw [hc15]
 refine qvM [4] [] trivial 6 50 [(44, .lit undef), (43, .lit undef), (42, .lit undef), (41, .lit undef), (40, .lit undef), (39, .lit undef), (38, B false), (37, B false), (36, I x1), (35, B false), (33, B false), (32, B false), (31, I (v5.fRow.length : Int)), (30, A v5.fRow), (29, .ptr 0 0 1), (28, B true), (27, B true), (26, .ptr 0 0 2), (23, B false), (22, B v11), (21, A v5.fRow), (20, .ptr 0 0 1), (0, A a0), (3, I x1), (4, .ptr 0 0 0)] [sc 0 v5] ?_
 refine qvM [4] [0] (hB trivial) 2 50 [(46, .lit undef), (45, .lit undef), (44, .lit undef), (43, .lit undef), (42, .lit undef), (41, .lit undef), (40, .lit undef), (39, .lit undef), (38, B false), (37, B false), (36, I x1), (35, B false), (33, B false), (32, B false), (31, I (v5.fRow.length : Int)), (30, A v5.fRow), (29, .ptr 0 0 1), (28, B true), (27, B true), (26, .ptr 0 0 2), (23, B false), (22, B v11), (21, A v5.fRow), (20, .ptr 0 0 1), (0, A a0), (3, I x1)] [sc 0 v5] ?_
 refine qvM [4] [] trivial 3 50 [(49, B false), (48, B false), (47, .lit undef), (46, .lit undef), (45, .lit undef), (44, .lit undef), (43, .lit undef), (42, .lit undef), (41, .lit undef), (40, .lit undef), (39, .lit undef), (38, B false), (37, B false), (36, I x1), (33, B false), (32, B false), (31, I (v5.fRow.length : Int)), (30, A v5.fRow), (29, .ptr 0 0 1), (28, B true), (27, B true), (26, .ptr 0 0 2), (23, B false), (22, B v11), (21, A v5.fRow), (20, .ptr 0 0 1), (0, A a0), (3, I x1)] [sc 0 v5] ?_
 refine qn 50 [(0, A a0), (3, I x1), (20, .ptr 0 0 1), (21, A v5.fRow), (22, B v11), (23, B false), (26, .ptr 0 0 2), (27, B true), (28, B true), (29, .ptr 0 0 1), (30, A v5.fRow), (31, I (v5.fRow.length : Int)), (32, B false), (33, B false), (36, I x1), (37, B false), (38, B false), (39, .lit undef), (40, .lit undef), (41, .lit undef), (42, .lit undef), (43, .lit undef), (44, .lit undef), (45, .lit undef), (46, .lit undef), (47, .lit undef), (48, B false), (49, B false)] [sc 0 v5] ?_
 exact ⟨false, h, it [0, 3, 49]⟩
 replace h := bF hc20 h
 rw [hc20]
 refine qvM [4] [0] (hB trivial) 2 50 [(30, .lit undef), (29, .lit undef), (28, B false), (27, B false), (26, .ptr 0 0 2), (25, B false), (23, B false), (22, B v11), (21, A v5.fRow), (20, .ptr 0 0 1), (0, A a0), (3, I x1), (4, .ptr 0 0 0)] [sc 0 v5] ?_
 refine qvM [4] [] trivial 8 50 [(38, B (decide (x1 > 0))), (37, B (decide (x1 > 0))), (36, I x1), (35, B false), (33, B false), (32, .lit undef), (31, .lit undef), (30, .lit undef), (29, .lit undef), (28, B false), (27, B false), (26, .ptr 0 0 2), (23, B false), (22, B v11), (21, A v5.fRow), (20, .ptr 0 0 1), (0, A a0), (3, I x1), (4, .ptr 0 0 0)] [sc 0 v5] ?_
 rcases fk (decide (x1 > 0)) with hc19 | hc19
 replace h := bT hc19 h
 rw [hc19]
 refine qvM [4] [] trivial 3 50 [(41, I (w64 (x1 - 1))), (40, I x1), (39, A a0), (38, B true), (37, B true), (36, I x1), (35, B false), (33, B false), (32, .lit undef), (31, .lit undef), (30, .lit undef), (29, .lit undef), (28, B false), (27, B false), (26, .ptr 0 0 2), (23, B false), (22, B v11), (21, A v5.fRow), (20, .ptr 0 0 1), (0, A a0), (3, I x1), (4, .ptr 0 0 0)] [sc 0 v5] ?_
 obtain ⟨v17, hv18, h⟩ := bindS h
 refine qX (some 42) (pf v17 0) 50 [(42, pf v17 0), (41, I (w64 (x1 - 1))), (40, I x1), (39, A a0), (38, B true), (37, B true), (36, I x1), (35, B false), (33, B false), (32, .lit undef), (31, .lit undef), (30, .lit undef), (29, .lit undef), (28, B false), (27, B false), (26, .ptr 0 0 2), (23, B false), (22, B v11), (21, A v5.fRow), (20, .ptr 0 0 1), (0, A a0), (3, I x1), (4, .ptr 0 0 0)] [sc 0 v5] (fun Γ' hΓ => CoreE.of_y (idxV_sound τ_ok (by kernel_rfl) hv18)) trivial ?_
 refine qvM [4] [] trivial 2 50 [(44, I v17.fKey), (43, pf v17 0), (42, pf v17 0), (41, I (w64 (x1 - 1))), (40, I x1), (39, A a0), (38, B true), (37, B true), (36, I x1), (35, B false), (33, B false), (32, .lit undef), (31, .lit undef), (30, .lit undef), (29, .lit undef), (28, B false), (27, B false), (26, .ptr 0 0 2), (23, B false), (22, B v11), (21, A v5.fRow), (20, .ptr 0 0 1), (0, A a0), (3, I x1), (4, .ptr 0 0 0)] [sc 0 v5] ?_
 refine qvM [4] [0] (hB trivial) 2 50 [(46, I v5.fKey), (45, .ptr 0 0 0), (44, I v17.fKey), (43, pf v17 0), (42, pf v17 0), (41, I (w64 (x1 - 1))), (40, I x1), (39, A a0), (38, B true), (37, B true), (36, I x1), (35, B false), (33, B false), (32, .lit undef), (31, .lit undef), (30, .lit undef), (29, .lit undef), (28, B false), (27, B false), (26, .ptr 0 0 2), (23, B false), (22, B v11), (21, A v5.fRow), (20, .ptr 0 0 1), (0, A a0), (3, I x1)] [sc 0 v5] ?_
 refine qvM [4] [] trivial 3 50 [(49, B (decide (v17.fKey ≥ v5.fKey))), (48, B (decide (v17.fKey ≥ v5.fKey))), (47, B (decide (v17.fKey ≥ v5.fKey))), (46, I v5.fKey), (45, .ptr 0 0 0), (44, I v17.fKey), (43, pf v17 0), (42, pf v17 0), (41, I (w64 (x1 - 1))), (40, I x1), (39, A a0), (38, B true), (37, B true), (36, I x1), (33, B false), (32, .lit undef), (31, .lit undef), (30, .lit undef), (29, .lit undef), (28, B false), (27, B false), (26, .ptr 0 0 2), (23, B false), (22, B v11), (21, A v5.fRow), (20, .ptr 0 0 1), (0, A a0), (3, I x1)] [sc 0 v5] ?_
 refine qn 50 [(0, A a0), (3, I x1), (20, .ptr 0 0 1), (21, A v5.fRow), (22, B v11), (23, B false), (26, .ptr 0 0 2), (27, B false), (28, B false), (29, .lit undef), (30, .lit undef), (31, .lit undef), (32, .lit undef), (33, B false), (36, I x1), (37, B true), (38, B true), (39, A a0), (40, I x1), (41, I (w64 (x1 - 1))), (42, pf v17 0), (43, pf v17 0), (44, I v17.fKey), (45, .ptr 0 0 0), (46, I v5.fKey), (47, B (decide (v17.fKey ≥ v5.fKey))), (48, B (decide (v17.fKey ≥ v5.fKey))), (49, B (decide (v17.fKey ≥ v5.fKey)))] [sc 0 v5] ?_
 exact ⟨(decide (v17.fKey ≥ v5.fKey)), h, it [0, 3, 49]⟩
 replace h := bF hc19 h
 rw [hc19]
 refine qvM [4] [] trivial 6 50 [(44, .lit undef), (43, .lit undef), (42, .lit undef), (41, .lit undef), (40, .lit undef), (39, .lit undef), (38, B false), (37, B false), (36, I x1), (35, B false), (33, B false), (32, .lit undef), (31, .lit undef), (30, .lit undef), (29, .lit undef), (28, B false), (27, B false), (26, .ptr 0 0 2), (23, B false), (22, B v11), (21, A v5.fRow), (20, .ptr 0 0 1), (0, A a0), (3, I x1), (4, .ptr 0 0 0)] [sc 0 v5] ?_
 refine qvM [4] [0] (hB trivial) 2 50 [(46, .lit undef), (45, .lit undef), (44, .lit undef), (43, .lit undef), (42, .lit undef), (41, .lit undef), (40, .lit undef), (39, .lit undef), (38, B false), (37, B false), (36, I x1), (35, B false), (33, B false), (32, .lit undef), (31, .lit undef), (30, .lit undef), (29, .lit undef), (28, B false), (27, B false), (26, .ptr 0 0 2), (23, B false), (22, B v11), (21, A v5.fRow), (20, .ptr 0 0 1), (0, A a0), (3, I x1)] [sc 0 v5] ?_
 refine qvM [4] [] trivial 3 50 [(49, B false), (48, B false), (47, .lit undef), (46, .lit undef), (45, .lit undef), (44, .lit undef), (43, .lit undef), (42, .lit undef), (41, .lit undef), (40, .lit undef), (39, .lit undef), (38, B false), (37, B false), (36, I x1), (33, B false), (32, .lit undef), (31, .lit undef), (30, .lit undef), (29, .lit undef), (28, B false), (27, B false), (26, .ptr 0 0 2), (23, B false), (22, B v11), (21, A v5.fRow), (20, .ptr 0 0 1), (0, A a0), (3, I x1)] [sc 0 v5] ?_
 refine qn 50 [(0, A a0), (3, I x1), (20, .ptr 0 0 1), (21, A v5.fRow), (22, B v11), (23, B false), (26, .ptr 0 0 2), (27, B false), (28, B false), (29, .lit undef), (30, .lit undef), (31, .lit undef), (32, .lit undef), (33, B false), (36, I x1), (37, B false), (38, B false), (39, .lit undef), (40, .lit undef), (41, .lit undef), (42, .lit undef), (43, .lit undef), (44, .lit undef), (45, .lit undef), (46, .lit undef), (47, .lit undef), (48, B false), (49, B false)] [sc 0 v5] ?_
 exact ⟨false, h, it [0, 3, 49]⟩
 rintro x7 h
 unfold spec_WritesOk_j1 at h
 refine pc h (fun h => ?_) (fun h => ?_)
 refine srveM [4] 50 [(2, B false)] [sc 0 v5] ?_
 cases h
 exact pwp_ret rz
 refine pwp_skip ?_
 refine rveM [4] 50 [(0, A a0), (3, I (w64 (x1 + 1)))] [sc 0 v5] ?_
 exact ⟨(f2, (w64 (x1 + 1))), h, Nat.lt_succ_self _, (it (st' := ⟨50, [(0, A a0), (3, I (w64 (x1 + 1)))], [sc 0 v5]⟩) [0, 3]).trans (Imp.truncS 0 (nx hX) (by kernel_rfl) (allBelow_mem (by exact (And.intro rfl (And.intro rfl trivial)))) (by exact trivial) (by kernel_rfl))⟩
 refine pwp_exit ?_
 refine srveM [4] 50 [(2, B true)] [] ?_
 cases h
 exact pwp_ret rz
def spec_VersionsOk_j1 (x1 : Int) (K3 : Int → Option Bool) (x10 : Bool) : Option Bool := bif x10 then some false else K3 (w64 (x1 + 1))
def spec_VersionsOk_l0 (a0 : List T_impl_Version) : Nat → Int → Option Bool
 | 0, _ => none
 | f2 + 1, x1 => bif (decide (x1 < (a0.length : Int))) then (getI a0 x1).bind fun v5 => (spec_l13Version v5).bind fun v7 => bif (!v7) then some false else bif (decide (x1 > 0)) then (getI a0 (w64 (x1 - 1))).bind fun v12 => (getI a0 x1).bind fun v14 => bif (decide (v12.fKey ≥ v14.fKey)) then (getI a0 (w64 (x1 - 1))).bind fun v16 => (getI a0 x1).bind fun v18 => bif (decide (v16.fKey > v18.fKey)) then spec_VersionsOk_j1 x1 (spec_VersionsOk_l0 a0 f2) true else (getI a0 (w64 (x1 - 1))).bind fun v20 => bif (v20.fDied == 0) then spec_VersionsOk_j1 x1 (spec_VersionsOk_l0 a0 f2) true else (getI a0 (w64 (x1 - 1))).bind fun v22 => (getI a0 x1).bind fun v24 => spec_VersionsOk_j1 x1 (spec_VersionsOk_l0 a0 f2) (decide (v22.fDied > v24.fBorn)) else spec_VersionsOk_j1 x1 (spec_VersionsOk_l0 a0 f2) false else spec_VersionsOk_j1 x1 (spec_VersionsOk_l0 a0 f2) false else some (decide ((a0.length : Int) ≤ 60))
def spec_VersionsOk (a0 : List T_impl_Version) : Option Bool := spec_VersionsOk_l0 a0 FUEL 0
theorem ok_spec_VersionsOk {a0 : List T_impl_Version} {y : Bool} (h : spec_VersionsOk a0 = some y) : OK Try.prog 87 [A a0] (B y) := by
 refine ow Try.func87 fun Γ hX => ?_
 unfold spec_VersionsOk at h
 refine srve 72 [(0, A a0)] [] ?_
 refine pwp_seq ?_
 refine srve 72 [(0, A a0), (3, I 0)] [] ?_
 refine pwp_block ?_
 refine pwp_loop (ι := Nat × Int) (fun (f2, x1) => (⟨72, [(0, A a0), (3, I x1)], []⟩ : St)) (fun (f2, x1) => spec_VersionsOk_l0 a0 f2 x1 = some y) Prod.fst (FUEL, 0) h (it [0, 3]) ?_
 rintro ⟨f2, x1⟩ h
 dsimp only at h ⊢
 rcases f2 with _ | f2
 cases h
 rw [spec_VersionsOk_l0] at h
 refine pwp_seq ?_
 refine srve 72 [(0, A a0), (3, I x1), (7, B (decide (x1 < (a0.length : Int))))] [] ?_
 refine pc h (fun h => ?_) (fun h => ?_)
 refine pwp_skip ?_
 refine pwp_seq ?_
 refine pwp_block ?_
 refine pwp_seq ?_
 refine srv 2 72 [(0, A a0), (3, I x1), (10, A a0), (11, I x1)] [] ?_
 obtain ⟨v5, hv6, h⟩ := bindS h
 refine opsP_idx τ_ok 12 hv6 (by kernel_rfl) ?_
 refine v 1 72 [(0, A a0), (3, I x1), (13, E v5)] [] ?_
 obtain ⟨v7, hv8, h⟩ := bindS h
 refine cF 14 (ok_spec_l13Version hv8) ?_
 refine ve 1 72 [(0, A a0), (3, I x1), (15, B (!v7))] [] ?_
 refine pc h (fun h => ?_) (fun h => ?_)
 refine srve 72 [(2, B false)] [] ?_
 cases h
 exact pwp_ret rz
 refine pwp_skip ?_
 refine pwp_seq ?_
 refine pwp_join (σ := Bool) (fun x10 => (⟨72, [(0, A a0), (3, I x1), (68, B x10)], []⟩ : St)) (fun x10 => spec_VersionsOk_j1 x1 (spec_VersionsOk_l0 a0 f2) x10 = some y) ?_ ?_
 refine ip 72 [(0, A a0), (3, I x1)] [] ?_
 refine pN 53 ?_
 refine qv [] trivial 3 72 [(18, B (decide (x1 > 0))), (0, A a0), (3, I x1)] [] ?_
 rcases fk (decide (x1 > 0)) with hc29 | hc29
 replace h := bT hc29 h
 rw [hc29]
 refine qv [] trivial 3 72 [(21, I (w64 (x1 - 1))), (20, I x1), (19, A a0), (18, B true), (0, A a0), (3, I x1)] [] ?_
 obtain ⟨v12, hv13, h⟩ := bindS h
 refine qX (some 22) (pf v12 0) 72 [(22, pf v12 0), (21, I (w64 (x1 - 1))), (20, I x1), (19, A a0), (18, B true), (0, A a0), (3, I x1)] [] (fun Γ' hΓ => CoreE.of_y (idxV_sound τ_ok (by kernel_rfl) hv13)) trivial ?_
 refine qv [] trivial 4 72 [(26, I x1), (25, A a0), (24, I v12.fKey), (23, pf v12 0), (22, pf v12 0), (21, I (w64 (x1 - 1))), (20, I x1), (19, A a0), (18, B true), (0, A a0), (3, I x1)] [] ?_
 obtain ⟨v14, hv15, h⟩ := bindS h
 refine qX (some 27) (pf v14 0) 72 [(27, pf v14 0), (26, I x1), (25, A a0), (24, I v12.fKey), (23, pf v12 0), (22, pf v12 0), (21, I (w64 (x1 - 1))), (20, I x1), (19, A a0), (18, B true), (0, A a0), (3, I x1)] [] (fun Γ' hΓ => CoreE.of_y (idxV_sound τ_ok (by kernel_rfl) hv15)) trivial ?_
 refine qv [] trivial 5 72 [(32, B (decide (v12.fKey ≥ v14.fKey))), (30, B (decide (v12.fKey ≥ v14.fKey))), (29, I v14.fKey), (28, pf v14 0), (27, pf v14 0), (26, I x1), (25, A a0), (24, I v12.fKey), (23, pf v12 0), (22, pf v12 0), (21, I (w64 (x1 - 1))), (20, I x1), (19, A a0), (0, A a0), (3, I x1)] [] ?_
 rcases fk (decide (v12.fKey ≥ v14.fKey)) with hc28 | hc28
 replace h := bT hc28 h
 rw [hc28]
 refine qv [] trivial 3 72 [(35, I (w64 (x1 - 1))), (34, I x1), (33, A a0), (32, B true), (30, B true), (29, I v14.fKey), (28, pf v14 0), (27, pf v14 0), (26, I x1), (25, A a0), (24, I v12.fKey), (23, pf v12 0), (22, pf v12 0), (21, I (w64 (x1 - 1))), (20, I x1), (19, A a0), (0, A a0), (3, I x1)] [] ?_
 obtain ⟨v16, hv17, h⟩ := bindS h
 refine qX (some 36) (pf v16 0) 72 [(36, pf v16 0), (35, I (w64 (x1 - 1))), (34, I x1), (33, A a0), (32, B true), (30, B true), (29, I v14.fKey), (28, pf v14 0), (27, pf v14 0), (26, I x1), (25, A a0), (24, I v12.fKey), (23, pf v12 0), (22, pf v12 0), (21, I (w64 (x1 - 1))), (20, I x1), (19, A a0), (0, A a0), (3, I x1)] [] (fun Γ' hΓ => CoreE.of_y (idxV_sound τ_ok (by kernel_rfl) hv17)) trivial ?_
 refine qv [] trivial 4 72 [(40, I x1), (39, A a0), (38, I v16.fKey), (37, pf v16 0), (36, pf v16 0), (35, I (w64 (x1 - 1))), (34, I x1), (33, A a0), (32, B true), (30, B true), (29, I v14.fKey), (28, pf v14 0), (27, pf v14 0), (26, I x1), (25, A a0), (24, I v12.fKey), (23, pf v12 0), (22, pf v12 0), (21, I (w64 (x1 - 1))), (20, I x1), (19, A a0), (0, A a0), (3, I x1)] [] ?_
 obtain ⟨v18, hv19, h⟩ := bindS h
 refine qX (some 41) (pf v18 0) 72 [(41, pf v18 0), (40, I x1), (39, A a0), (38, I v16.fKey), (37, pf v16 0), (36, pf v16 0), (35, I (w64 (x1 - 1))), (34, I x1), (33, A a0), (32, B true), (30, B true), (29, I v14.fKey), (28, pf v14 0), (27, pf v14 0), (26, I x1), (25, A a0), (24, I v12.fKey), (23, pf v12 0), (22, pf v12 0), (21, I (w64 (x1 - 1))), (20, I x1), (19, A a0), (0, A a0), (3, I x1)] [] (fun Γ' hΓ => CoreE.of_y (idxV_sound τ_ok (by kernel_rfl) hv19)) trivial ?_
 refine qv [] trivial 4 72 [(45, B (decide (v16.fKey > v18.fKey))), (44, B (decide (v16.fKey > v18.fKey))), (43, I v18.fKey), (42, pf v18 0), (41, pf v18 0), (40, I x1), (39, A a0), (38, I v16.fKey), (37, pf v16 0), (36, pf v16 0), (35, I (w64 (x1 - 1))), (34, I x1), (33, A a0), (32, B true), (30, B true), (29, I v14.fKey), (28, pf v14 0), (27, pf v14 0), (26, I x1), (25, A a0), (24, I v12.fKey), (23, pf v12 0), (22, pf v12 0), (21, I (w64 (x1 - 1))), (20, I x1), (19, A a0), (0, A a0), (3, I x1)] [] ?_
 rcases fk (decide (v16.fKey > v18.fKey)) with hc27 | hc27
 replace h := bT hc27 h
 rw [hc27]
 refine qvn [] trivial 23 72 [(0, A a0), (3, I x1), (19, A a0), (20, I x1), (21, I (w64 (x1 - 1))), (22, pf v12 0), (23, pf v12 0), (24, I v12.fKey), (25, A a0), (26, I x1), (27, pf v14 0), (28, pf v14 0), (29, I v14.fKey), (30, B true), (33, A a0), (34, I x1), (35, I (w64 (x1 - 1))), (36, pf v16 0), (37, pf v16 0), (38, I v16.fKey), (39, A a0), (40, I x1), (41, pf v18 0), (42, pf v18 0), (43, I v18.fKey), (44, B true), (45, B true), (46, .lit undef), (47, .lit undef), (48, .lit undef), (49, .lit undef), (50, .lit undef), (51, .lit undef), (52, .lit undef), (53, B true), (54, B true), (55, .lit undef), (56, .lit undef), (57, .lit undef), (58, .lit undef), (59, .lit undef), (60, .lit undef), (61, .lit undef), (62, .lit undef), (63, .lit undef), (64, .lit undef), (65, .lit undef), (66, .lit undef), (67, B true), (68, B true)] [] ?_
 exact ⟨true, h, it [0, 3, 68]⟩
 replace h := bF hc27 h
 rw [hc27]
 refine qv [] trivial 3 72 [(48, I (w64 (x1 - 1))), (47, I x1), (46, A a0), (45, B false), (44, B false), (43, I v18.fKey), (42, pf v18 0), (41, pf v18 0), (40, I x1), (39, A a0), (38, I v16.fKey), (37, pf v16 0), (36, pf v16 0), (35, I (w64 (x1 - 1))), (34, I x1), (33, A a0), (32, B true), (30, B true), (29, I v14.fKey), (28, pf v14 0), (27, pf v14 0), (26, I x1), (25, A a0), (24, I v12.fKey), (23, pf v12 0), (22, pf v12 0), (21, I (w64 (x1 - 1))), (20, I x1), (19, A a0), (0, A a0), (3, I x1)] [] ?_
 obtain ⟨v20, hv21, h⟩ := bindS h
 refine qX (some 49) (pf v20 0) 72 [(49, pf v20 0), (48, I (w64 (x1 - 1))), (47, I x1), (46, A a0), (45, B false), (44, B false), (43, I v18.fKey), (42, pf v18 0), (41, pf v18 0), (40, I x1), (39, A a0), (38, I v16.fKey), (37, pf v16 0), (36, pf v16 0), (35, I (w64 (x1 - 1))), (34, I x1), (33, A a0), (32, B true), (30, B true), (29, I v14.fKey), (28, pf v14 0), (27, pf v14 0), (26, I x1), (25, A a0), (24, I v12.fKey), (23, pf v12 0), (22, pf v12 0), (21, I (w64 (x1 - 1))), (20, I x1), (19, A a0), (0, A a0), (3, I x1)] [] (fun Γ' hΓ => CoreE.of_y (idxV_sound τ_ok (by kernel_rfl) hv21)) trivial ?_
 refine qv [] trivial 5 72 [(54, B (v20.fDied == 0)), (53, B (v20.fDied == 0)), (52, B (v20.fDied == 0)), (51, I v20.fDied), (50, pf v20 2), (49, pf v20 0), (48, I (w64 (x1 - 1))), (47, I x1), (46, A a0), (45, B false), (44, B false), (43, I v18.fKey), (42, pf v18 0), (41, pf v18 0), (40, I x1), (39, A a0), (38, I v16.fKey), (37, pf v16 0), (36, pf v16 0), (35, I (w64 (x1 - 1))), (34, I x1), (33, A a0), (32, B true), (30, B true), (29, I v14.fKey), (28, pf v14 0), (27, pf v14 0), (26, I x1), (25, A a0), (24, I v12.fKey), (23, pf v12 0), (22, pf v12 0), (21, I (w64 (x1 - 1))), (20, I x1), (19, A a0), (0, A a0), (3, I x1)] [] ?_
 rcases fk (v20.fDied == 0) with hc26 | hc26
 replace h := bT hc26 h
 rw [hc26]
 refine qvn [] trivial 14 72 [(0, A a0), (3, I x1), (19, A a0), (20, I x1), (21, I (w64 (x1 - 1))), (22, pf v12 0), (23, pf v12 0), (24, I v12.fKey), (25, A a0), (26, I x1), (27, pf v14 0), (28, pf v14 0), (29, I v14.fKey), (30, B true), (33, A a0), (34, I x1), (35, I (w64 (x1 - 1))), (36, pf v16 0), (37, pf v16 0), (38, I v16.fKey), (39, A a0), (40, I x1), (41, pf v18 0), (42, pf v18 0), (43, I v18.fKey), (44, B false), (45, B false), (46, A a0), (47, I x1), (48, I (w64 (x1 - 1))), (49, pf v20 0), (50, pf v20 2), (51, I v20.fDied), (52, B true), (53, B true), (54, B true), (55, .lit undef), (56, .lit undef), (57, .lit undef), (58, .lit undef), (59, .lit undef), (60, .lit undef), (61, .lit undef), (62, .lit undef), (63, .lit undef), (64, .lit undef), (65, .lit undef), (66, .lit undef), (67, B true), (68, B true)] [] ?_
 exact ⟨true, h, it [0, 3, 68]⟩
 replace h := bF hc26 h
 rw [hc26]
 refine qv [] trivial 3 72 [(57, I (w64 (x1 - 1))), (56, I x1), (55, A a0), (54, B false), (53, B false), (52, B false), (51, I v20.fDied), (50, pf v20 2), (49, pf v20 0), (48, I (w64 (x1 - 1))), (47, I x1), (46, A a0), (45, B false), (44, B false), (43, I v18.fKey), (42, pf v18 0), (41, pf v18 0), (40, I x1), (39, A a0), (38, I v16.fKey), (37, pf v16 0), (36, pf v16 0), (35, I (w64 (x1 - 1))), (34, I x1), (33, A a0), (32, B true), (30, B true), (29, I v14.fKey), (28, pf v14 0), (27, pf v14 0), (26, I x1), (25, A a0), (24, I v12.fKey), (23, pf v12 0), (22, pf v12 0), (21, I (w64 (x1 - 1))), (20, I x1), (19, A a0), (0, A a0), (3, I x1)] [] ?_
 obtain ⟨v22, hv23, h⟩ := bindS h
 refine qX (some 58) (pf v22 0) 72 [(58, pf v22 0), (57, I (w64 (x1 - 1))), (56, I x1), (55, A a0), (54, B false), (53, B false), (52, B false), (51, I v20.fDied), (50, pf v20 2), (49, pf v20 0), (48, I (w64 (x1 - 1))), (47, I x1), (46, A a0), (45, B false), (44, B false), (43, I v18.fKey), (42, pf v18 0), (41, pf v18 0), (40, I x1), (39, A a0), (38, I v16.fKey), (37, pf v16 0), (36, pf v16 0), (35, I (w64 (x1 - 1))), (34, I x1), (33, A a0), (32, B true), (30, B true), (29, I v14.fKey), (28, pf v14 0), (27, pf v14 0), (26, I x1), (25, A a0), (24, I v12.fKey), (23, pf v12 0), (22, pf v12 0), (21, I (w64 (x1 - 1))), (20, I x1), (19, A a0), (0, A a0), (3, I x1)] [] (fun Γ' hΓ => CoreE.of_y (idxV_sound τ_ok (by kernel_rfl) hv23)) trivial ?_
 refine qv [] trivial 4 72 [(62, I x1), (61, A a0), (60, I v22.fDied), (59, pf v22 2), (58, pf v22 0), (57, I (w64 (x1 - 1))), (56, I x1), (55, A a0), (54, B false), (53, B false), (52, B false), (51, I v20.fDied), (50, pf v20 2), (49, pf v20 0), (48, I (w64 (x1 - 1))), (47, I x1), (46, A a0), (45, B false), (44, B false), (43, I v18.fKey), (42, pf v18 0), (41, pf v18 0), (40, I x1), (39, A a0), (38, I v16.fKey), (37, pf v16 0), (36, pf v16 0), (35, I (w64 (x1 - 1))), (34, I x1), (33, A a0), (32, B true), (30, B true), (29, I v14.fKey), (28, pf v14 0), (27, pf v14 0), (26, I x1), (25, A a0), (24, I v12.fKey), (23, pf v12 0), (22, pf v12 0), (21, I (w64 (x1 - 1))), (20, I x1), (19, A a0), (0, A a0), (3, I x1)] [] ?_
 obtain ⟨v24, hv25, h⟩ := bindS h
 refine qX (some 63) (pf v24 0) 72 [(63, pf v24 0), (62, I x1), (61, A a0), (60, I v22.fDied), (59, pf v22 2), (58, pf v22 0), (57, I (w64 (x1 - 1))), (56, I x1), (55, A a0), (54, B false), (53, B false), (52, B false), (51, I v20.fDied), (50, pf v20 2), (49, pf v20 0), (48, I (w64 (x1 - 1))), (47, I x1), (46, A a0), (45, B false), (44, B false), (43, I v18.fKey), (42, pf v18 0), (41, pf v18 0), (40, I x1), (39, A a0), (38, I v16.fKey), (37, pf v16 0), (36, pf v16 0), (35, I (w64 (x1 - 1))), (34, I x1), (33, A a0), (32, B true), (30, B true), (29, I v14.fKey), (28, pf v14 0), (27, pf v14 0), (26, I x1), (25, A a0), (24, I v12.fKey), (23, pf v12 0), (22, pf v12 0), (21, I (w64 (x1 - 1))), (20, I x1), (19, A a0), (0, A a0), (3, I x1)] [] (fun Γ' hΓ => CoreE.of_y (idxV_sound τ_ok (by kernel_rfl) hv25)) trivial ?_
 refine qvn [] trivial 5 72 [(0, A a0), (3, I x1), (19, A a0), (20, I x1), (21, I (w64 (x1 - 1))), (22, pf v12 0), (23, pf v12 0), (24, I v12.fKey), (25, A a0), (26, I x1), (27, pf v14 0), (28, pf v14 0), (29, I v14.fKey), (30, B true), (33, A a0), (34, I x1), (35, I (w64 (x1 - 1))), (36, pf v16 0), (37, pf v16 0), (38, I v16.fKey), (39, A a0), (40, I x1), (41, pf v18 0), (42, pf v18 0), (43, I v18.fKey), (44, B false), (45, B false), (46, A a0), (47, I x1), (48, I (w64 (x1 - 1))), (49, pf v20 0), (50, pf v20 2), (51, I v20.fDied), (52, B false), (53, B false), (54, B false), (55, A a0), (56, I x1), (57, I (w64 (x1 - 1))), (58, pf v22 0), (59, pf v22 2), (60, I v22.fDied), (61, A a0), (62, I x1), (63, pf v24 0), (64, pf v24 1), (65, I v24.fBorn), (66, B (decide (v22.fDied > v24.fBorn))), (67, B (decide (v22.fDied > v24.fBorn))), (68, B (decide (v22.fDied > v24.fBorn)))] [] ?_
 exact ⟨(decide (v22.fDied > v24.fBorn)), h, it [0, 3, 68]⟩
 replace h := bF hc28 h
 rw [hc28]
 refine qvn [] trivial 36 72 [(0, A a0), (3, I x1), (19, A a0), (20, I x1), (21, I (w64 (x1 - 1))), (22, pf v12 0), (23, pf v12 0), (24, I v12.fKey), (25, A a0), (26, I x1), (27, pf v14 0), (28, pf v14 0), (29, I v14.fKey), (30, B false), (33, .lit undef), (34, .lit undef), (35, .lit undef), (36, .lit undef), (37, .lit undef), (38, .lit undef), (39, .lit undef), (40, .lit undef), (41, .lit undef), (42, .lit undef), (43, .lit undef), (44, .lit undef), (45, .lit undef), (46, .lit undef), (47, .lit undef), (48, .lit undef), (49, .lit undef), (50, .lit undef), (51, .lit undef), (52, .lit undef), (53, .lit undef), (54, .lit undef), (55, .lit undef), (56, .lit undef), (57, .lit undef), (58, .lit undef), (59, .lit undef), (60, .lit undef), (61, .lit undef), (62, .lit undef), (63, .lit undef), (64, .lit undef), (65, .lit undef), (66, .lit undef), (67, .lit undef), (68, B false)] [] ?_
 exact ⟨false, h, it [0, 3, 68]⟩
 replace h := bF hc29 h
 rw [hc29]
 refine qvn [] trivial 50 72 [(0, A a0), (3, I x1), (19, .lit undef), (20, .lit undef), (21, .lit undef), (22, .lit undef), (23, .lit undef), (24, .lit undef), (25, .lit undef), (26, .lit undef), (27, .lit undef), (28, .lit undef), (29, .lit undef), (30, .lit undef), (33, .lit undef), (34, .lit undef), (35, .lit undef), (36, .lit undef), (37, .lit undef), (38, .lit undef), (39, .lit undef), (40, .lit undef), (41, .lit undef), (42, .lit undef), (43, .lit undef), (44, .lit undef), (45, .lit undef), (46, .lit undef), (47, .lit undef), (48, .lit undef), (49, .lit undef), (50, .lit undef), (51, .lit undef), (52, .lit undef), (53, .lit undef), (54, .lit undef), (55, .lit undef), (56, .lit undef), (57, .lit undef), (58, .lit undef), (59, .lit undef), (60, .lit undef), (61, .lit undef), (62, .lit undef), (63, .lit undef), (64, .lit undef), (65, .lit undef), (66, .lit undef), (67, .lit undef), (68, B false)] [] ?_
 exact ⟨false, h, it [0, 3, 68]⟩
 rintro x10 h
 unfold spec_VersionsOk_j1 at h
 refine pc h (fun h => ?_) (fun h => ?_)
 refine srve 72 [(2, B false)] [] ?_
 cases h
 exact pwp_ret rz
 refine pwp_skip ?_
 refine rve 72 [(0, A a0), (3, I (w64 (x1 + 1)))] [] ?_
 exact ⟨(f2, (w64 (x1 + 1))), h, Nat.lt_succ_self _, it [0, 3]⟩
 refine pwp_exit ?_
 refine srve 72 [(2, B (decide ((a0.length : Int) ≤ 60)))] [] ?_
 cases h
 exact pwp_ret rz
def spec_LastTurn_j2 (x2 : Int) (K4 : Int → Int → Option Int) (x7 : Int) : Option Int := K4 x7 (w64 (x2 + 1))
def spec_LastTurn_j1 (a0 : List T_impl_Version) (a1 : Int) (x1 : Int) (x2 : Int) (K4 : Int → Int → Option Int) (x5 : Bool) : Option Int := bif x5 then (getI a0 x2).bind fun v8 => bif (v8.fKey == a1) then (getI a0 x2).bind fun v11 => (getI a0 x2).bind fun v13 => spec_LastTurn_j2 x2 K4 (maxL x1 [v11.fBorn, v13.fDied]) else spec_LastTurn_j2 x2 K4 x1 else some x1
def spec_LastTurn_l0 (a0 : List T_impl_Version) (a1 : Int) : Nat → Int → Int → Option Int
 | 0, _, _ => none
 | f3 + 1, x1, x2 => bif (decide (x2 < (a0.length : Int))) then (spec_VersionsOk a0).bind fun v15 => spec_LastTurn_j1 a0 a1 x1 x2 (spec_LastTurn_l0 a0 a1 f3) v15 else spec_LastTurn_j1 a0 a1 x1 x2 (spec_LastTurn_l0 a0 a1 f3) false
def spec_LastTurn (a0 : List T_impl_Version) (a1 : Int) : Option Int := spec_LastTurn_l0 a0 a1 FUEL 0 0
theorem ok_spec_LastTurn {a0 : List T_impl_Version} {a1 : Int} {y : Int} (h : spec_LastTurn a0 a1 = some y) : OK Try.prog 111 [A a0, I a1] (I y) := by
 refine ow Try.func111 fun Γ hX => ?_
 unfold spec_LastTurn at h
 refine srve 37 [(0, A a0), (1, I a1)] [] ?_
 refine srve 37 [(0, A a0), (1, I a1), (5, I 0)] [] ?_
 refine pwp_seq ?_
 refine srve 37 [(0, A a0), (1, I a1), (5, I 0), (6, I 0)] [] ?_
 refine pwp_block ?_
 refine pwp_loop (ι := Nat × Int × Int) (fun (f3, x1, x2) => (⟨37, [(0, A a0), (1, I a1), (5, I x1), (6, I x2)], []⟩ : St)) (fun (f3, x1, x2) => spec_LastTurn_l0 a0 a1 f3 x1 x2 = some y) Prod.fst (FUEL, 0, 0) h (it [0, 1, 5, 6]) ?_
 rintro ⟨f3, x1, x2⟩ h
 dsimp only at h ⊢
 rcases f3 with _ | f3
 cases h
 rw [spec_LastTurn_l0] at h
 refine pwp_seq ?_
 refine pwp_seq ?_
 refine pwp_join (σ := Bool) (fun x5 => (⟨37, [(0, A a0), (1, I a1), (5, I x1), (6, I x2), (14, B x5)], []⟩ : St)) (fun x5 => spec_LastTurn_j1 a0 a1 x1 x2 (spec_LastTurn_l0 a0 a1 f3) x5 = some y) ?_ ?_
 refine rv 5 37 [(0, A a0), (1, I a1), (5, I x1), (6, I x2), (11, B (decide (x2 < (a0.length : Int))))] [] ?_
 rcases fk (decide (x2 < (a0.length : Int))) with hc17 | hc17
 replace h := bT hc17 h
 rw [hc17]
 refine v 1 37 [(0, A a0), (1, I a1), (5, I x1), (6, I x2), (11, B true), (12, A a0)] [] ?_
 obtain ⟨v15, hv16, h⟩ := bindS h
 refine cF 13 (ok_spec_VersionsOk hv16) ?_
 refine ve 1 37 [(0, A a0), (1, I a1), (5, I x1), (6, I x2), (12, A a0), (13, B v15), (14, B v15)] [] ?_
 exact ⟨v15, h, it [0, 1, 5, 6, 14]⟩
 replace h := bF hc17 h
 rw [hc17]
 refine ve 3 37 [(0, A a0), (1, I a1), (5, I x1), (6, I x2), (12, .lit undef), (13, .lit undef), (14, B false)] [] ?_
 exact ⟨false, h, it [0, 1, 5, 6, 14]⟩
 rintro x5 h
 unfold spec_LastTurn_j1 at h
 refine pc h (fun h => ?_) (fun h => ?_)
 refine pwp_skip ?_
 refine pwp_seq ?_
 refine pwp_join (σ := Int) (fun x7 => (⟨37, [(0, A a0), (1, I a1), (5, I x7), (6, I x2)], []⟩ : St)) (fun x7 => spec_LastTurn_j2 x2 (spec_LastTurn_l0 a0 a1 f3) x7 = some y) ?_ ?_
 refine pwp_block ?_
 refine srv 2 37 [(0, A a0), (1, I a1), (5, I x1), (6, I x2), (17, A a0), (18, I x2)] [] ?_
 obtain ⟨v8, hv9, h⟩ := bindS h
 refine opsP_idx τ_ok 19 hv9 (by kernel_rfl) ?_
 refine ve 4 37 [(0, A a0), (1, I a1), (5, I x1), (6, I x2), (23, B (v8.fKey == a1))] [] ?_
 refine pc h (fun h => ?_) (fun h => ?_)
 refine ip 37 [(0, A a0), (1, I a1), (5, I x1), (6, I x2)] [] ?_
 refine pN 13 ?_
 refine qv [] trivial 3 37 [(26, I x2), (25, A a0), (24, I x1), (0, A a0), (1, I a1), (5, I x1), (6, I x2)] [] ?_
 obtain ⟨v11, hv12, h⟩ := bindS h
 refine qX (some 27) (pf v11 0) 37 [(27, pf v11 0), (24, I x1), (0, A a0), (1, I a1), (5, I x1), (6, I x2)] [] (fun Γ' hΓ => CoreE.of_y (idxV_sound τ_ok (by kernel_rfl) hv12)) trivial ?_
 refine qv [] trivial 4 37 [(31, I x2), (30, A a0), (29, I v11.fBorn), (24, I x1), (0, A a0), (1, I a1), (5, I x1), (6, I x2)] [] ?_
 obtain ⟨v13, hv14, h⟩ := bindS h
 refine qX (some 32) (pf v13 0) 37 [(32, pf v13 0), (29, I v11.fBorn), (24, I x1), (0, A a0), (1, I a1), (5, I x1), (6, I x2)] [] (fun Γ' hΓ => CoreE.of_y (idxV_sound τ_ok (by kernel_rfl) hv14)) trivial ?_
 refine qv [] trivial 2 37 [(34, I v13.fDied), (29, I v11.fBorn), (24, I x1), (0, A a0), (1, I a1), (5, I x1), (6, I x2)] [] ?_
 refine qX (some 35) (I (maxL x1 [v11.fBorn, v13.fDied])) 37 [(35, I (maxL x1 [v11.fBorn, v13.fDied])), (0, A a0), (1, I a1), (5, I x1), (6, I x2)] [] (fun Γ' hΓ => CoreE.of_y (mxmV_sound (τ := τ) (m := true) (a := x1) (l := [v11.fBorn, v13.fDied]) (by kernel_rfl))) trivial ?_
 refine qvn [] trivial 1 37 [(0, A a0), (1, I a1), (5, I (maxL x1 [v11.fBorn, v13.fDied])), (6, I x2)] [] ?_
 exact ⟨(maxL x1 [v11.fBorn, v13.fDied]), h, it [0, 1, 5, 6]⟩
 refine pwp_skip ?_
 exact ⟨x1, h, it [0, 1, 5, 6]⟩
 rintro x7 h
 unfold spec_LastTurn_j2 at h
 refine rve 37 [(0, A a0), (1, I a1), (5, I x7), (6, I (w64 (x2 + 1)))] [] ?_
 exact ⟨(f3, x7, (w64 (x2 + 1))), h, Nat.lt_succ_self _, it [0, 1, 5, 6]⟩
 refine pwp_exit ?_
 refine srve 37 [(4, I x1)] [] ?_
 cases h
 exact pwp_ret rz
def slices_stableCmpFunc_impl_Version_j3 (x13 : Int) (K16 : Int → (List T_impl_Version) → Option (List T_impl_Version)) (x27 : List T_impl_Version) : Option (List T_impl_Version) := K16 (w64 (x13 * 2)) x27
def slices_stableCmpFunc_impl_Version_l2 (a1 : Int) (a2 : T_impl_Version → T_impl_Version → Option Int) (x13 : Int) (K16 : Int → (List T_impl_Version) → Option (List T_impl_Version)) : Nat → Int → Int → (List T_impl_Version) → Option (List T_impl_Version)
 | 0, _, _, _ => none
 | f22 + 1, x19, x20, x21 => bif (decide (x20 ≤ a1)) then (slices_symMergeCmpFunc_impl_Version x21 x19 (w64 (x19 + x13)) x20 a2).bind fun v25 => (slices_stableCmpFunc_impl_Version_l2 a1 a2 x13 K16 f22) x20 (w64 (x20 + (w64 (2 * x13)))) v25 else bif (decide ((w64 (x19 + x13)) < a1)) then (slices_symMergeCmpFunc_impl_Version x21 x19 (w64 (x19 + x13)) a1 a2).bind fun v29 => slices_stableCmpFunc_impl_Version_j3 x13 K16 v29 else slices_stableCmpFunc_impl_Version_j3 x13 K16 x21
def slices_stableCmpFunc_impl_Version_l1 (a1 : Int) (a2 : T_impl_Version → T_impl_Version → Option Int) : Nat → Int → (List T_impl_Version) → Option (List T_impl_Version)
 | 0, _, _ => none
 | f15 + 1, x13, x14 => bif (decide (x13 < a1)) then slices_stableCmpFunc_impl_Version_l2 a1 a2 x13 (slices_stableCmpFunc_impl_Version_l1 a1 a2 f15) FUEL 0 (w64 (2 * x13)) x14 else some x14
def slices_stableCmpFunc_impl_Version_l0 (a1 : Int) (a2 : T_impl_Version → T_impl_Version → Option Int) : Nat → Int → Int → (List T_impl_Version) → Option (List T_impl_Version)
 | 0, _, _, _ => none
 | f5 + 1, x2, x3, x4 => bif (decide (x3 ≤ a1)) then (slices_insertionSortCmpFunc_impl_Version x4 x2 x3 a2).bind fun v8 => (slices_stableCmpFunc_impl_Version_l0 a1 a2 f5) x3 (w64 (x3 + 20)) v8 else (slices_insertionSortCmpFunc_impl_Version x4 x2 a1 a2).bind fun v10 => slices_stableCmpFunc_impl_Version_l1 a1 a2 FUEL 20 v10
def slices_stableCmpFunc_impl_Version_w (a0 : List T_impl_Version) (a1 : Int) (a2 : T_impl_Version → T_impl_Version → Option Int) : Option (List T_impl_Version) := slices_stableCmpFunc_impl_Version_l0 a1 a2 FUEL 0 20 a0
def slices_stableCmpFunc_impl_Version (a0 : List T_impl_Version) (a1 : Int) (a2 : T_impl_Version → T_impl_Version → Option Int) : Option (List T_impl_Version) := (slices_stableCmpFunc_impl_Version_w a0 a1 a2).bind fun y => bif (y.length == a0.length) then some y else none
theorem len_slices_stableCmpFunc_impl_Version {a0 : List T_impl_Version} {a1 : Int} {a2 : T_impl_Version → T_impl_Version → Option Int} {y : List T_impl_Version} (h : slices_stableCmpFunc_impl_Version a0 a1 a2 = some y) : y.length = a0.length := (bindLen (f := fun y : List T_impl_Version => y) h).2
theorem ok_slices_stableCmpFunc_impl_Version {a0 : List T_impl_Version} {a1 : Int} {g2 : FuncId} {c2 : List V} (hz2 : frzL c2 = true) {a2 : T_impl_Version → T_impl_Version → Option Int} (hp2 : ∀ x0 x1 y, a2 x0 x1 = some y → OK Try.prog g2 ([E x0, E x1] ++ c2) (I y)) {y : List T_impl_Version} (h : slices_stableCmpFunc_impl_Version a0 a1 a2 = some y) : OKs Try.prog 130 [] 4 a0.length (eL a0) [I a1, .fn g2 c2] (.tup []) (eL y) := by
 refine OKs_of_pwp τ_ok Try.func130 rfl (by kernel_rfl) rfl (eL_frz _) (eL_frz _) (by rw [eL_len, eL_len, len_slices_stableCmpFunc_impl_Version h]) fun Γ hQ => ?_
 refine pwp_imp (Imp.to (st' := ⟨63, [(0, rf 0 0 4 a0), (1, I a1), (2, .fn g2 c2)], [sl 0 a0]⟩) [0, 1, 2] (by kernel_rfl)) ?_
 have h := (bindLen (f := fun y : List T_impl_Version => y) h).1
 unfold slices_stableCmpFunc_impl_Version_w at h
 refine srve 63 [(0, rf 0 0 4 a0), (1, I a1), (2, .fn g2 c2), (6, I 20)] [sl 0 a0] ?_
 refine srve 63 [(0, rf 0 0 4 a0), (1, I a1), (2, .fn g2 c2), (6, I 20), (7, I 0), (8, I 20)] [sl 0 a0] ?_
 refine pwp_seq ?_
 refine pwp_block ?_
 refine pwp_loop (ι := Nat × Int × Int × (List T_impl_Version)) (fun (f5, x2, x3, x4) => (⟨63, [(0, rf 0 0 4 x4), (1, I a1), (2, .fn g2 c2), (6, I 20), (7, I x2), (8, I x3)], [sl 0 x4]⟩ : St)) (fun (f5, x2, x3, x4) => slices_stableCmpFunc_impl_Version_l0 a1 a2 f5 x2 x3 x4 = some y) Prod.fst (FUEL, 0, 20, a0) h (it [0, 1, 2, 6, 7, 8]) ?_
 rintro ⟨f5, x2, x3, x4⟩ h
 dsimp only at h ⊢
 rcases f5 with _ | f5
 cases h
 rw [slices_stableCmpFunc_impl_Version_l0] at h
 refine pwp_seq ?_
 refine srve 63 [(0, rf 0 0 4 x4), (1, I a1), (2, .fn g2 c2), (6, I 20), (7, I x2), (8, I x3), (13, B (decide (x3 ≤ a1)))] [sl 0 x4] ?_
 refine pc h (fun h => ?_) (fun h => ?_)
 refine pwp_skip ?_
 refine pwp_block ?_
 refine srv 4 63 [(0, rf 0 0 4 x4), (1, I a1), (2, .fn g2 c2), (6, I 20), (8, I x3), (14, rf 0 0 4 x4), (15, I x2), (16, I x3), (17, .fn g2 c2)] [sl 0 x4] ?_
 obtain ⟨v8, hv9, h⟩ := bindS h
 refine opsP_E (dd := some 18) (x := .tup []) (callS_E τ 18 0 0 (ok_slices_insertionSortCmpFunc_impl_Version (hz2) (hp2) hv9) (FzTo.tup FzToL.nil) rfl (by simp only [frzL, frz, hz2, Bool.and_true]) (by kernel_rfl)) ?_
 refine io 63 [(0, rf 0 0 4 x4), (1, I a1), (2, .fn g2 c2), (6, I 20), (8, I x3), (14, rf 0 0 4 x4), (15, I x2), (16, I x3), (17, .fn g2 c2), (18, .tup [])] [sl 0 v8] ?_
 refine opsP_ren (st' := ⟨63, [(0, rf 0 0 4 v8), (1, I a1), (2, .fn g2 c2), (6, I 20), (8, I x3), (14, rf 0 0 4 v8), (15, I x2), (16, I x3), (17, .fn g2 c2), (18, .tup [])], [sl 0 v8]⟩) 0 v8.length (renC (ren_ref (len_slices_insertionSortCmpFunc_impl_Version hv9).symm) (renC trivial (renC trivial (renC trivial (renC trivial (renC (ren_ref (len_slices_insertionSortCmpFunc_impl_Version hv9).symm) (renC trivial (renC trivial (renC trivial (renC trivial renC0)))))))))) (by kernel_rfl) ?_
 refine ve 0 63 [(0, rf 0 0 4 v8), (1, I a1), (2, .fn g2 c2), (6, I 20), (8, I x3)] [sl 0 v8] ?_
 refine srve 63 [(0, rf 0 0 4 v8), (1, I a1), (2, .fn g2 c2), (6, I 20), (7, I x3), (8, I x3)] [sl 0 v8] ?_
 refine rve 63 [(0, rf 0 0 4 v8), (1, I a1), (2, .fn g2 c2), (6, I 20), (7, I x3), (8, I (w64 (x3 + 20)))] [sl 0 v8] ?_
 exact ⟨(f5, x3, (w64 (x3 + 20)), v8), h, Nat.lt_succ_self _, it [0, 1, 2, 6, 7, 8]⟩
 refine pwp_exit ?_
 refine srv 4 63 [(0, rf 0 0 4 x4), (1, I a1), (2, .fn g2 c2), (6, I 20), (23, rf 0 0 4 x4), (24, I x2), (25, I a1), (26, .fn g2 c2)] [sl 0 x4] ?_
 obtain ⟨v10, hv11, h⟩ := bindS h
 refine opsP_E (dd := some 27) (x := .tup []) (callS_E τ 27 0 0 (ok_slices_insertionSortCmpFunc_impl_Version (hz2) (hp2) hv11) (FzTo.tup FzToL.nil) rfl (by simp only [frzL, frz, hz2, Bool.and_true]) (by kernel_rfl)) ?_
 refine io 63 [(0, rf 0 0 4 x4), (1, I a1), (2, .fn g2 c2), (6, I 20), (23, rf 0 0 4 x4), (24, I x2), (25, I a1), (26, .fn g2 c2), (27, .tup [])] [sl 0 v10] ?_
 refine opsP_ren (st' := ⟨63, [(0, rf 0 0 4 v10), (1, I a1), (2, .fn g2 c2), (6, I 20), (23, rf 0 0 4 v10), (24, I x2), (25, I a1), (26, .fn g2 c2), (27, .tup [])], [sl 0 v10]⟩) 0 v10.length (renC (ren_ref (len_slices_insertionSortCmpFunc_impl_Version hv11).symm) (renC trivial (renC trivial (renC trivial (renC (ren_ref (len_slices_insertionSortCmpFunc_impl_Version hv11).symm) (renC trivial (renC trivial (renC trivial (renC trivial renC0))))))))) (by kernel_rfl) ?_
 refine ve 0 63 [(0, rf 0 0 4 v10), (1, I a1), (2, .fn g2 c2), (6, I 20)] [sl 0 v10] ?_
 refine pwp_block ?_
 refine pwp_loop (ι := Nat × Int × (List T_impl_Version)) (fun (f15, x13, x14) => (⟨63, [(0, rf 0 0 4 x14), (1, I a1), (2, .fn g2 c2), (6, I x13)], [sl 0 x14]⟩ : St)) (fun (f15, x13, x14) => slices_stableCmpFunc_impl_Version_l1 a1 a2 f15 x13 x14 = some y) Prod.fst (FUEL, 20, v10) h (it [0, 1, 2, 6]) ?_
 rintro ⟨f15, x13, x14⟩ h
 dsimp only at h ⊢
 rcases f15 with _ | f15
 cases h
 rw [slices_stableCmpFunc_impl_Version_l1] at h
 refine pwp_seq ?_
 refine srve 63 [(0, rf 0 0 4 x14), (1, I a1), (2, .fn g2 c2), (6, I x13), (30, B (decide (x13 < a1)))] [sl 0 x14] ?_
 refine pc h (fun h => ?_) (fun h => ?_)
 refine pwp_skip ?_
 refine pwp_block ?_
 refine srve 63 [(0, rf 0 0 4 x14), (1, I a1), (2, .fn g2 c2), (6, I x13), (7, I 0), (8, I (w64 (2 * x13)))] [sl 0 x14] ?_
 refine pwp_seq ?_
 refine pwp_block ?_
 refine pwp_loop (ι := Nat × Int × Int × (List T_impl_Version)) (fun (f22, x19, x20, x21) => (⟨63, [(0, rf 0 0 4 x21), (1, I a1), (2, .fn g2 c2), (6, I x13), (7, I x19), (8, I x20)], [sl 0 x21]⟩ : St)) (fun (f22, x19, x20, x21) => slices_stableCmpFunc_impl_Version_l2 a1 a2 x13 (slices_stableCmpFunc_impl_Version_l1 a1 a2 f15) f22 x19 x20 x21 = some y) Prod.fst (FUEL, 0, (w64 (2 * x13)), x14) h (it [0, 1, 2, 6, 7, 8]) ?_
 rintro ⟨f22, x19, x20, x21⟩ h
 dsimp only at h ⊢
 rcases f22 with _ | f22
 cases h
 rw [slices_stableCmpFunc_impl_Version_l2] at h
 refine pwp_seq ?_
 refine srve 63 [(0, rf 0 0 4 x21), (1, I a1), (2, .fn g2 c2), (6, I x13), (7, I x19), (8, I x20), (35, B (decide (x20 ≤ a1)))] [sl 0 x21] ?_
 refine pc h (fun h => ?_) (fun h => ?_)
 refine pwp_skip ?_
 refine pwp_block ?_
 refine srv 7 63 [(0, rf 0 0 4 x21), (1, I a1), (2, .fn g2 c2), (6, I x13), (8, I x20), (36, rf 0 0 4 x21), (37, I x19), (40, I (w64 (x19 + x13))), (41, I x20), (42, .fn g2 c2)] [sl 0 x21] ?_
 obtain ⟨v25, hv26, h⟩ := bindS h
 refine opsP_E (dd := some 43) (x := .tup []) (callS_E τ 43 0 0 (ok_slices_symMergeCmpFunc_impl_Version (hz2) (hp2) hv26) (FzTo.tup FzToL.nil) rfl (by simp only [frzL, frz, hz2, Bool.and_true]) (by kernel_rfl)) ?_
 refine io 63 [(0, rf 0 0 4 x21), (1, I a1), (2, .fn g2 c2), (6, I x13), (8, I x20), (36, rf 0 0 4 x21), (37, I x19), (40, I (w64 (x19 + x13))), (41, I x20), (42, .fn g2 c2), (43, .tup [])] [sl 0 v25] ?_
 refine opsP_ren (st' := ⟨63, [(0, rf 0 0 4 v25), (1, I a1), (2, .fn g2 c2), (6, I x13), (8, I x20), (36, rf 0 0 4 v25), (37, I x19), (40, I (w64 (x19 + x13))), (41, I x20), (42, .fn g2 c2), (43, .tup [])], [sl 0 v25]⟩) 0 v25.length (renC (ren_ref (len_slices_symMergeCmpFunc_impl_Version hv26).symm) (renC trivial (renC trivial (renC trivial (renC trivial (renC (ren_ref (len_slices_symMergeCmpFunc_impl_Version hv26).symm) (renC trivial (renC trivial (renC trivial (renC trivial (renC trivial renC0))))))))))) (by kernel_rfl) ?_
 refine ve 0 63 [(0, rf 0 0 4 v25), (1, I a1), (2, .fn g2 c2), (6, I x13), (8, I x20)] [sl 0 v25] ?_
 refine srve 63 [(0, rf 0 0 4 v25), (1, I a1), (2, .fn g2 c2), (6, I x13), (7, I x20), (8, I x20)] [sl 0 v25] ?_
 refine rve 63 [(0, rf 0 0 4 v25), (1, I a1), (2, .fn g2 c2), (6, I x13), (7, I x20), (8, I (w64 (x20 + (w64 (2 * x13)))))] [sl 0 v25] ?_
 exact ⟨(f22, x20, (w64 (x20 + (w64 (2 * x13)))), v25), h, Nat.lt_succ_self _, it [0, 1, 2, 6, 7, 8]⟩
 refine pwp_exit ?_
 refine pwp_seq ?_
 refine pwp_join (σ := (List T_impl_Version)) (fun x27 => (⟨63, [(0, rf 0 0 4 x27), (1, I a1), (2, .fn g2 c2), (6, I x13)], [sl 0 x27]⟩ : St)) (fun x27 => slices_stableCmpFunc_impl_Version_j3 x13 (slices_stableCmpFunc_impl_Version_l1 a1 a2 f15) x27 = some y) ?_ ?_
 refine srve 63 [(0, rf 0 0 4 x21), (1, I a1), (2, .fn g2 c2), (6, I x13), (7, I x19), (9, I (w64 (x19 + x13)))] [sl 0 x21] ?_
 refine srve 63 [(0, rf 0 0 4 x21), (1, I a1), (2, .fn g2 c2), (6, I x13), (7, I x19), (9, I (w64 (x19 + x13))), (54, B (decide ((w64 (x19 + x13)) < a1)))] [sl 0 x21] ?_
 refine pc h (fun h => ?_) (fun h => ?_)
 refine rv 5 63 [(0, rf 0 0 4 x21), (1, I a1), (2, .fn g2 c2), (6, I x13), (55, rf 0 0 4 x21), (56, I x19), (57, I (w64 (x19 + x13))), (58, I a1), (59, .fn g2 c2)] [sl 0 x21] ?_
 obtain ⟨v29, hv30, h⟩ := bindS h
 refine opsP_E (dd := some 60) (x := .tup []) (callS_E τ 60 0 0 (ok_slices_symMergeCmpFunc_impl_Version (hz2) (hp2) hv30) (FzTo.tup FzToL.nil) rfl (by simp only [frzL, frz, hz2, Bool.and_true]) (by kernel_rfl)) ?_
 refine io 63 [(0, rf 0 0 4 x21), (1, I a1), (2, .fn g2 c2), (6, I x13), (55, rf 0 0 4 x21), (56, I x19), (57, I (w64 (x19 + x13))), (58, I a1), (59, .fn g2 c2), (60, .tup [])] [sl 0 v29] ?_
 refine opsP_ren (st' := ⟨63, [(0, rf 0 0 4 v29), (1, I a1), (2, .fn g2 c2), (6, I x13), (55, rf 0 0 4 v29), (56, I x19), (57, I (w64 (x19 + x13))), (58, I a1), (59, .fn g2 c2), (60, .tup [])], [sl 0 v29]⟩) 0 v29.length (renC (ren_ref (len_slices_symMergeCmpFunc_impl_Version hv30).symm) (renC trivial (renC trivial (renC trivial (renC (ren_ref (len_slices_symMergeCmpFunc_impl_Version hv30).symm) (renC trivial (renC trivial (renC trivial (renC trivial (renC trivial renC0)))))))))) (by kernel_rfl) ?_
 refine ve 0 63 [(0, rf 0 0 4 v29), (1, I a1), (2, .fn g2 c2), (6, I x13)] [sl 0 v29] ?_
 exact ⟨v29, h, it [0, 1, 2, 6]⟩
 refine pwp_skip ?_
 exact ⟨x21, h, it [0, 1, 2, 6]⟩
 rintro x27 h
 unfold slices_stableCmpFunc_impl_Version_j3 at h
 refine rve 63 [(0, rf 0 0 4 x27), (1, I a1), (2, .fn g2 c2), (6, I (w64 (x13 * 2)))] [sl 0 x27] ?_
 exact ⟨(f15, (w64 (x13 * 2)), x27), h, Nat.lt_succ_self _, it [0, 1, 2, 6]⟩
 refine pwp_exit ?_
 have h := si h
 subst h
 first | exact ⟨.inl rfl, .tup [], _, 0, by kernel_rfl, (OutP.tup (OutL.nil _)), by decide, by decide, by kernel_rfl⟩ | exact pwp_ret ⟨.inr rfl, .tup [], _, 0, by kernel_rfl, (OutP.tup (OutL.nil _)), by decide, by decide, by kernel_rfl⟩
def impl_versionsCopy_R_l0 (a0 : List T_impl_Version) : Nat → Int → (List T_impl_Version) → Option (List T_impl_Version)
 | 0, _, _ => none
 | f4 + 1, x2, x3 => bif (decide (x2 < (a0.length : Int))) then (getI a0 x2).bind fun v7 => (impl_clone_impl_Value v7.fRow).bind fun v9 => (app x3 ([{ v7 with fRow := v9 }] : List T_impl_Version)).bind fun v11 => (impl_versionsCopy_R_l0 a0 f4) (w64 (x2 + 1)) v11 else (slices_Clip_impl_Version_impl_Version_R x3).bind fun v13 => some v13
def impl_versionsCopy_R (a0 : List T_impl_Version) : Option (List T_impl_Version) := impl_versionsCopy_R_l0 a0 FUEL 0 ([] : List T_impl_Version)
theorem ok_impl_versionsCopy_R {a0 : List T_impl_Version} {y : List T_impl_Version} (h : impl_versionsCopy_R a0 = some y) : OK Try.prog 70 [A a0] (O y) := by
 refine ow Try.func70 fun Γ hX => ?_
 unfold impl_versionsCopy_R at h
 refine srveM [5] 23 [(0, A a0)] [] ?_
 refine srveM [5] 23 [(0, A a0), (3, .arr 4 0 (eL ([] : List T_impl_Version)) true)] [] ?_
 refine pwp_seq ?_
 refine srveM [5] 23 [(3, .arr 4 0 (eL ([] : List T_impl_Version)) true), (6, A a0), (7, I (a0.length : Int)), (8, I 0)] [] ?_
 refine pwp_block ?_
 refine pwp_loop (ι := Nat × Int × (List T_impl_Version)) (fun (f4, x2, x3) => (⟨23, [(3, rf 0 0 4 x3), (6, A a0), (7, I (a0.length : Int)), (8, I x2)], [sl 0 x3]⟩ : St)) (fun (f4, x2, x3) => impl_versionsCopy_R_l0 a0 f4 x2 x3 = some y) Prod.fst (FUEL, 0, ([] : List T_impl_Version)) h (Imp.thawS 3 [3, 6, 7, 8] (by kernel_rfl)) ?_
 rintro ⟨f4, x2, x3⟩ h
 dsimp only at h ⊢
 rcases f4 with _ | f4
 cases h
 rw [impl_versionsCopy_R_l0] at h
 refine srveM [5] 23 [(3, rf 0 0 4 x3), (6, A a0), (7, I (a0.length : Int)), (8, I x2), (9, B (decide (x2 < (a0.length : Int))))] [sl 0 x3] ?_
 refine pwp_seq ?_
 refine pc h (fun h => ?_) (fun h => ?_)
 refine pwp_skip ?_
 refine pwp_seq ?_
 refine pwp_block ?_
 refine pwp_seq ?_
 refine pwp_region ?_
 obtain ⟨v7, hv8, h⟩ := bindS h
 refine opsP_idx τ_ok 10 hv8 (by kernel_rfl) ?_
 refine veM [5] 3 23 [(3, rf 0 0 4 x3), (5, .ptr 1 0 0), (6, A a0), (7, I (a0.length : Int)), (8, I x2)] [sl 0 x3, sc 0 v7] ?_
 refine srvM [5] 2 23 [(3, rf 0 0 4 x3), (5, .ptr 1 0 0), (6, A a0), (7, I (a0.length : Int)), (8, I x2), (13, A v7.fRow)] [sl 0 x3, sc 0 v7] ?_
 obtain ⟨v9, hv10, h⟩ := bindS h
 refine cF 14 (ok_impl_clone_impl_Value hv10) ?_
 refine veM [5] 2 23 [(3, rf 0 0 4 x3), (5, .ptr 1 0 0), (6, A a0), (7, I (a0.length : Int)), (8, I x2)] [sl 0 x3, some ⟨0, Enc.cells ({ v7 with fRow := v9 })⟩] ?_
 refine rvM [5] 3 23 [(6, A a0), (7, I (a0.length : Int)), (8, I x2), (16, rf 0 0 4 x3), (18, .arr 4 ([{ v7 with fRow := v9 }] : List T_impl_Version).length (eL ([{ v7 with fRow := v9 }] : List T_impl_Version)) true)] [sl 0 x3, some ⟨0, Enc.cells ({ v7 with fRow := v9 })⟩] ?_
 obtain ⟨v11, hv12, h⟩ := bindS h
 refine opsP_app τ_ok 19 0 0 (nx hX) hv12 (by kernel_rfl) ?_
 refine veM [5] 1 23 [(3, rf 0 1 4 v11), (6, A a0), (7, I (a0.length : Int)), (8, I x2)] [sl 1 v11, some ⟨0, Enc.cells ({ v7 with fRow := v9 })⟩] ?_
 refine rveM [5] 23 [(3, rf 0 1 4 v11), (6, A a0), (7, I (a0.length : Int)), (8, I (w64 (x2 + 1)))] [sl 1 v11, some ⟨0, Enc.cells ({ v7 with fRow := v9 })⟩] ?_
 exact ⟨(f4, (w64 (x2 + 1)), v11), h, Nat.lt_succ_self _, qt (it (st' := ⟨23, [(3, rf 0 1 4 v11), (6, A a0), (7, I (a0.length : Int)), (8, I (w64 (x2 + 1)))], [sl 1 v11, some ⟨0, Enc.cells ({ v7 with fRow := v9 })⟩]⟩) [3, 6, 7, 8]) (qt (Imp.truncS (st' := ⟨23, [(3, rf 0 1 4 v11), (6, A a0), (7, I (a0.length : Int)), (8, I (w64 (x2 + 1)))], [sl 1 v11]⟩) 1 (nx hX) (by kernel_rfl) (allBelow_mem (by exact (And.intro rfl (And.intro rfl (And.intro rfl (And.intro rfl trivial)))))) (by exact (And.intro (frz_below (eL_frz _)) trivial)) (by kernel_rfl)) (Imp.reverS 0 1 (eL v11) [3, 6, 7, 8] (by kernel_rfl) (by exact (And.intro (eL_frz _) trivial)) (by kernel_rfl)))⟩
 refine pwp_exit ?_
 refine srvM [5] 1 23 [(21, rf 0 0 4 x3)] [sl 0 x3] ?_
 obtain ⟨v13, hv14, h⟩ := bindS h
 refine opsP_callM (xs := [rf 0 0 4 x3]) (x := rf 1 0 4 v13) (bs := [⟨0, eL v13⟩]) τ 22 [0] (nx hX) (ok_slices_Clip_impl_Version_impl_Version_R hv14) (by kernel_rfl) (OutL.cons (OutP.list (v := 0) (by kernel_rfl)) (OutL.nil _)) (by decide) (by kernel_rfl) ?_
 refine veM [5] 1 23 [(2, rf 1 0 4 v13)] [none, sl 0 v13] ?_
 have h := si h
 subst h
 exact pwp_ret (rt (rf 1 0 4 v13) (OutP.list (v := 0) (by kernel_rfl)))
def impl_LogOk_j1 (x1 : Int) (K3 : Int → Option Bool) (x7 : Bool) : Option Bool := bif x7 then some false else K3 (w64 (x1 + 1))
def impl_LogOk_l0 (a0 : List T_impl_Entry) : Nat → Int → Option Bool
 | 0, _ => none
 | f2 + 1, x1 => bif (decide (x1 < (a0.length : Int))) then (getI a0 x1).bind fun v5 => (impl_between v5.fTime 1 40).bind fun v9 => bif (!v9) then impl_LogOk_j1 x1 (impl_LogOk_l0 a0 f2) true else bif (decide (x1 > 0)) then (getI a0 (w64 (x1 - 1))).bind fun v11 => bif (decide (v11.fTime ≥ v5.fTime)) then impl_LogOk_j1 x1 (impl_LogOk_l0 a0 f2) true else (impl_WritesOk v5.fWrites).bind fun v13 => impl_LogOk_j1 x1 (impl_LogOk_l0 a0 f2) (!v13) else (impl_WritesOk v5.fWrites).bind fun v16 => impl_LogOk_j1 x1 (impl_LogOk_l0 a0 f2) (!v16) else some (decide ((a0.length : Int) ≤ 12))
def impl_LogOk (a0 : List T_impl_Entry) : Option Bool := impl_LogOk_l0 a0 FUEL 0
theorem ok_impl_LogOk {a0 : List T_impl_Entry} {y : Bool} (h : impl_LogOk a0 = some y) : OK Try.prog 15 [A a0] (B y) := by
 refine ow Try.func15 fun Γ hX => ?_
 unfold impl_LogOk at h
 refine srveM [4] 41 [(0, A a0)] [] ?_
 refine pwp_seq ?_
 refine srveM [4] 41 [(0, A a0), (5, A a0), (6, I (a0.length : Int)), (7, I 0)] [] ?_
 refine pwp_block ?_
 refine pwp_loop (ι := Nat × Int) (fun (f2, x1) => (⟨41, [(0, A a0), (5, A a0), (6, I (a0.length : Int)), (7, I x1)], []⟩ : St)) (fun (f2, x1) => impl_LogOk_l0 a0 f2 x1 = some y) Prod.fst (FUEL, 0) h (it [0, 5, 6, 7]) ?_
 rintro ⟨f2, x1⟩ h
 dsimp only at h ⊢
 rcases f2 with _ | f2
 cases h
 rw [impl_LogOk_l0] at h
 refine srveM [4] 41 [(0, A a0), (5, A a0), (6, I (a0.length : Int)), (7, I x1), (8, B (decide (x1 < (a0.length : Int))))] [] ?_
 refine pwp_seq ?_
 refine pc h (fun h => ?_) (fun h => ?_)
 refine pwp_skip ?_
 refine pwp_seq ?_
 refine pwp_block ?_
 refine srvM [4] 1 41 [(0, A a0), (5, A a0), (6, I (a0.length : Int)), (7, I x1), (9, I x1)] [] ?_
 obtain ⟨v5, hv6, h⟩ := bindS h
 refine opsP_idx τ_ok 10 hv6 (by kernel_rfl) ?_
 refine veM [4] 4 41 [(0, A a0), (3, I x1), (4, .ptr 0 0 0), (5, A a0), (6, I (a0.length : Int)), (7, I x1)] [sc 0 v5] ?_
 refine pwp_seq ?_
 refine pwp_join (σ := Bool) (fun x7 => (⟨41, [(0, A a0), (5, A a0), (6, I (a0.length : Int)), (7, I x1), (36, B x7)], [sc 0 v5]⟩ : St)) (fun x7 => impl_LogOk_j1 x1 (impl_LogOk_l0 a0 f2) x7 = some y) ?_ ?_
 refine ip 41 [(0, A a0), (3, I x1), (4, .ptr 0 0 0), (5, A a0), (6, I (a0.length : Int)), (7, I x1)] [sc 0 v5] ?_
 refine pwp_any ([[0], [0], [], [], [], [], [], [], [], [], [], [], [], [], [0], [0], [], [], [], [], [0], [0], [], [], []]) ([[], [], [], [], [], [], [], [], [], [], [], [], [], [], [], [], [], [], [], [], [], [], [], [], []]) rfl (by kernel_rfl) ?_
 refine qvM [4] [0] (hB trivial) 2 41 [(13, I v5.fTime), (0, A a0), (3, I x1), (4, .ptr 0 0 0), (5, A a0), (6, I (a0.length : Int)), (7, I x1)] [sc 0 v5] ?_
 obtain ⟨v9, hv10, h⟩ := bindS h
 refine qX (some 14) (B v9) 41 [(14, B v9), (0, A a0), (3, I x1), (4, .ptr 0 0 0), (5, A a0), (6, I (a0.length : Int)), (7, I x1)] [sc 0 v5] (fun Γ' hΓ => CoreE.of_g (callV_sound (τ := τ) (by kernel_rfl) rfl (ok_impl_between hv10) (FzTo.frz rfl))) trivial ?_
 refine qvM [4] [] trivial 2 41 [(16, B (!v9)), (0, A a0), (3, I x1), (4, .ptr 0 0 0), (5, A a0), (6, I (a0.length : Int)), (7, I x1)] [sc 0 v5] ?_
 rcases fk (!v9) with hc19 | hc19
 replace h := bT hc19 h
 rw [hc19]
 refine qvM [4] [] trivial 9 41 [(25, .lit undef), (24, .lit undef), (23, .lit undef), (22, .lit undef), (21, .lit undef), (20, .lit undef), (19, .lit undef), (18, .lit undef), (17, .lit undef), (16, B true), (0, A a0), (4, .ptr 0 0 0), (5, A a0), (6, I (a0.length : Int)), (7, I x1)] [sc 0 v5] ?_
 refine qvM [4] [0] (hB trivial) 2 41 [(27, .lit undef), (26, .lit undef), (25, .lit undef), (24, .lit undef), (23, .lit undef), (22, .lit undef), (21, .lit undef), (20, .lit undef), (19, .lit undef), (18, .lit undef), (17, .lit undef), (16, B true), (0, A a0), (4, .ptr 0 0 0), (5, A a0), (6, I (a0.length : Int)), (7, I x1)] [sc 0 v5] ?_
 refine qvM [4] [] trivial 4 41 [(31, B true), (29, .lit undef), (28, .lit undef), (27, .lit undef), (26, .lit undef), (25, .lit undef), (24, .lit undef), (23, .lit undef), (22, .lit undef), (21, .lit undef), (20, .lit undef), (19, .lit undef), (18, .lit undef), (17, .lit undef), (0, A a0), (4, .ptr 0 0 0), (5, A a0), (6, I (a0.length : Int)), (7, I x1)] [sc 0 v5] ?_
 refine qvM [4] [0] (hB trivial) 2 41 [(33, .lit undef), (32, .lit undef), (31, B true), (29, .lit undef), (28, .lit undef), (27, .lit undef), (26, .lit undef), (25, .lit undef), (24, .lit undef), (23, .lit undef), (22, .lit undef), (21, .lit undef), (20, .lit undef), (19, .lit undef), (18, .lit undef), (17, .lit undef), (0, A a0), (5, A a0), (6, I (a0.length : Int)), (7, I x1)] [sc 0 v5] ?_
 refine qvM [4] [] trivial 3 41 [(36, B true), (35, .lit undef), (34, .lit undef), (33, .lit undef), (32, .lit undef), (29, .lit undef), (28, .lit undef), (27, .lit undef), (26, .lit undef), (25, .lit undef), (24, .lit undef), (23, .lit undef), (22, .lit undef), (21, .lit undef), (20, .lit undef), (19, .lit undef), (18, .lit undef), (17, .lit undef), (0, A a0), (5, A a0), (6, I (a0.length : Int)), (7, I x1)] [sc 0 v5] ?_
 refine qn 41 [(0, A a0), (5, A a0), (6, I (a0.length : Int)), (7, I x1), (17, .lit undef), (18, .lit undef), (19, .lit undef), (20, .lit undef), (21, .lit undef), (22, .lit undef), (23, .lit undef), (24, .lit undef), (25, .lit undef), (26, .lit undef), (27, .lit undef), (28, .lit undef), (29, .lit undef), (32, .lit undef), (33, .lit undef), (34, .lit undef), (35, .lit undef), (36, B true)] [sc 0 v5] ?_
 exact ⟨true, h, it [0, 5, 6, 7, 36]⟩
 replace h := bF hc19 h
 rw [hc19]
 refine qvM [4] [] trivial 3 41 [(19, B (decide (x1 > 0))), (18, B (decide (x1 > 0))), (17, I x1), (16, B false), (0, A a0), (3, I x1), (4, .ptr 0 0 0), (5, A a0), (6, I (a0.length : Int)), (7, I x1)] [sc 0 v5] ?_
 rcases fk (decide (x1 > 0)) with hc18 | hc18
 replace h := bT hc18 h
 rw [hc18]
 refine qvM [4] [] trivial 3 41 [(22, I (w64 (x1 - 1))), (21, I x1), (20, A a0), (19, B true), (18, B true), (17, I x1), (16, B false), (0, A a0), (4, .ptr 0 0 0), (5, A a0), (6, I (a0.length : Int)), (7, I x1)] [sc 0 v5] ?_
 obtain ⟨v11, hv12, h⟩ := bindS h
 refine qX (some 23) (pf v11 0) 41 [(23, pf v11 0), (22, I (w64 (x1 - 1))), (21, I x1), (20, A a0), (19, B true), (18, B true), (17, I x1), (16, B false), (0, A a0), (4, .ptr 0 0 0), (5, A a0), (6, I (a0.length : Int)), (7, I x1)] [sc 0 v5] (fun Γ' hΓ => CoreE.of_y (idxV_sound τ_ok (by kernel_rfl) hv12)) trivial ?_
 refine qvM [4] [] trivial 2 41 [(25, I v11.fTime), (24, pf v11 0), (23, pf v11 0), (22, I (w64 (x1 - 1))), (21, I x1), (20, A a0), (19, B true), (18, B true), (17, I x1), (16, B false), (0, A a0), (4, .ptr 0 0 0), (5, A a0), (6, I (a0.length : Int)), (7, I x1)] [sc 0 v5] ?_
 refine qvM [4] [0] (hB trivial) 2 41 [(27, I v5.fTime), (26, .ptr 0 0 0), (25, I v11.fTime), (24, pf v11 0), (23, pf v11 0), (22, I (w64 (x1 - 1))), (21, I x1), (20, A a0), (19, B true), (18, B true), (17, I x1), (16, B false), (0, A a0), (4, .ptr 0 0 0), (5, A a0), (6, I (a0.length : Int)), (7, I x1)] [sc 0 v5] ?_
 refine qvM [4] [] trivial 4 41 [(31, B (decide (v11.fTime ≥ v5.fTime))), (29, B (decide (v11.fTime ≥ v5.fTime))), (28, B (decide (v11.fTime ≥ v5.fTime))), (27, I v5.fTime), (26, .ptr 0 0 0), (25, I v11.fTime), (24, pf v11 0), (23, pf v11 0), (22, I (w64 (x1 - 1))), (21, I x1), (20, A a0), (19, B true), (18, B true), (17, I x1), (0, A a0), (4, .ptr 0 0 0), (5, A a0), (6, I (a0.length : Int)), (7, I x1)] [sc 0 v5] ?_
 rcases fk (decide (v11.fTime ≥ v5.fTime)) with hc15 | hc15
 replace h := bT hc15 h
 rw [hc15]
 refine qvM [4] [0] (hB trivial) 2 41 [(33, .lit undef), (32, .lit undef), (31, B true), (29, B true), (28, B true), (27, I v5.fTime), (26, .ptr 0 0 0), (25, I v11.fTime), (24, pf v11 0), (23, pf v11 0), (22, I (w64 (x1 - 1))), (21, I x1), (20, A a0), (19, B true), (18, B true), (17, I x1), (0, A a0), (5, A a0), (6, I (a0.length : Int)), (7, I x1)] [sc 0 v5] ?_
 refine qvM [4] [] trivial 3 41 [(36, B true), (35, .lit undef), (34, .lit undef), (33, .lit undef), (32, .lit undef), (29, B true), (28, B true), (27, I v5.fTime), (26, .ptr 0 0 0), (25, I v11.fTime), (24, pf v11 0), (23, pf v11 0), (22, I (w64 (x1 - 1))), (21, I x1), (20, A a0), (19, B true), (18, B true), (17, I x1), (0, A a0), (5, A a0), (6, I (a0.length : Int)), (7, I x1)] [sc 0 v5] ?_
 refine qn 41 [(0, A a0), (5, A a0), (6, I (a0.length : Int)), (7, I x1), (17, I x1), (18, B true), (19, B true), (20, A a0), (21, I x1), (22, I (w64 (x1 - 1))), (23, pf v11 0), (24, pf v11 0), (25, I v11.fTime), (26, .ptr 0 0 0), (27, I v5.fTime), (28, B true), (29, B true), (32, .lit undef), (33, .lit undef), (34, .lit undef), (35, .lit undef), (36, B true)] [sc 0 v5] ?_
 exact ⟨true, h, it [0, 5, 6, 7, 36]⟩
 replace h := bF hc15 h
 rw [hc15]
 refine qvM [4] [0] (hB trivial) 2 41 [(33, A v5.fWrites), (32, .ptr 0 0 1), (31, B false), (29, B false), (28, B false), (27, I v5.fTime), (26, .ptr 0 0 0), (25, I v11.fTime), (24, pf v11 0), (23, pf v11 0), (22, I (w64 (x1 - 1))), (21, I x1), (20, A a0), (19, B true), (18, B true), (17, I x1), (0, A a0), (5, A a0), (6, I (a0.length : Int)), (7, I x1)] [sc 0 v5] ?_
 obtain ⟨v13, hv14, h⟩ := bindS h
 refine qX (some 34) (B v13) 41 [(34, B v13), (33, A v5.fWrites), (32, .ptr 0 0 1), (31, B false), (29, B false), (28, B false), (27, I v5.fTime), (26, .ptr 0 0 0), (25, I v11.fTime), (24, pf v11 0), (23, pf v11 0), (22, I (w64 (x1 - 1))), (21, I x1), (20, A a0), (19, B true), (18, B true), (17, I x1), (0, A a0), (5, A a0), (6, I (a0.length : Int)), (7, I x1)] [sc 0 v5] (fun Γ' hΓ => CoreE.of_g (callV_sound (τ := τ) (by kernel_rfl) rfl (ok_impl_WritesOk hv14) (FzTo.frz rfl))) trivial ?_
 refine qvnM [4] [] trivial 2 41 [(0, A a0), (5, A a0), (6, I (a0.length : Int)), (7, I x1), (17, I x1), (18, B true), (19, B true), (20, A a0), (21, I x1), (22, I (w64 (x1 - 1))), (23, pf v11 0), (24, pf v11 0), (25, I v11.fTime), (26, .ptr 0 0 0), (27, I v5.fTime), (28, B false), (29, B false), (32, .ptr 0 0 1), (33, A v5.fWrites), (34, B v13), (35, B (!v13)), (36, B (!v13))] [sc 0 v5] ?_
 exact ⟨(!v13), h, it [0, 5, 6, 7, 36]⟩
 replace h := bF hc18 h
 rw [hc18]
 refine qvM [4] [] trivial 6 41 [(25, .lit undef), (24, .lit undef), (23, .lit undef), (22, .lit undef), (21, .lit undef), (20, .lit undef), (19, B false), (18, B false), (17, I x1), (16, B false), (0, A a0), (4, .ptr 0 0 0), (5, A a0), (6, I (a0.length : Int)), (7, I x1)] [sc 0 v5] ?_
 refine qvM [4] [0] (hB trivial) 2 41 [(27, .lit undef), (26, .lit undef), (25, .lit undef), (24, .lit undef), (23, .lit undef), (22, .lit undef), (21, .lit undef), (20, .lit undef), (19, B false), (18, B false), (17, I x1), (16, B false), (0, A a0), (4, .ptr 0 0 0), (5, A a0), (6, I (a0.length : Int)), (7, I x1)] [sc 0 v5] ?_
 refine qvM [4] [] trivial 4 41 [(31, B false), (29, B false), (28, .lit undef), (27, .lit undef), (26, .lit undef), (25, .lit undef), (24, .lit undef), (23, .lit undef), (22, .lit undef), (21, .lit undef), (20, .lit undef), (19, B false), (18, B false), (17, I x1), (0, A a0), (4, .ptr 0 0 0), (5, A a0), (6, I (a0.length : Int)), (7, I x1)] [sc 0 v5] ?_
 refine qvM [4] [0] (hB trivial) 2 41 [(33, A v5.fWrites), (32, .ptr 0 0 1), (31, B false), (29, B false), (28, .lit undef), (27, .lit undef), (26, .lit undef), (25, .lit undef), (24, .lit undef), (23, .lit undef), (22, .lit undef), (21, .lit undef), (20, .lit undef), (19, B false), (18, B false), (17, I x1), (0, A a0), (5, A a0), (6, I (a0.length : Int)), (7, I x1)] [sc 0 v5] ?_
 obtain ⟨v16, hv17, h⟩ := bindS h
 refine qX (some 34) (B v16) 41 [(34, B v16), (33, A v5.fWrites), (32, .ptr 0 0 1), (31, B false), (29, B false), (28, .lit undef), (27, .lit undef), (26, .lit undef), (25, .lit undef), (24, .lit undef), (23, .lit undef), (22, .lit undef), (21, .lit undef), (20, .lit undef), (19, B false), (18, B false), (17, I x1), (0, A a0), (5, A a0), (6, I (a0.length : Int)), (7, I x1)] [sc 0 v5] (fun Γ' hΓ => CoreE.of_g (callV_sound (τ := τ) (by kernel_rfl) rfl (ok_impl_WritesOk hv17) (FzTo.frz rfl))) trivial ?_
 refine qvnM [4] [] trivial 2 41 [(0, A a0), (5, A a0), (6, I (a0.length : Int)), (7, I x1), (17, I x1), (18, B false), (19, B false), (20, .lit undef), (21, .lit undef), (22, .lit undef), (23, .lit undef), (24, .lit undef), (25, .lit undef), (26, .lit undef), (27, .lit undef), (28, .lit undef), (29, B false), (32, .ptr 0 0 1), (33, A v5.fWrites), (34, B v16), (35, B (!v16)), (36, B (!v16))] [sc 0 v5] ?_
 exact ⟨(!v16), h, it [0, 5, 6, 7, 36]⟩
 rintro x7 h
 unfold impl_LogOk_j1 at h
 refine pc h (fun h => ?_) (fun h => ?_)
 refine srveM [4] 41 [(2, B false)] [sc 0 v5] ?_
 cases h
 exact pwp_ret rz
 refine pwp_skip ?_
 refine rveM [4] 41 [(0, A a0), (5, A a0), (6, I (a0.length : Int)), (7, I (w64 (x1 + 1)))] [sc 0 v5] ?_
 exact ⟨(f2, (w64 (x1 + 1))), h, Nat.lt_succ_self _, (it (st' := ⟨41, [(0, A a0), (5, A a0), (6, I (a0.length : Int)), (7, I (w64 (x1 + 1)))], [sc 0 v5]⟩) [0, 5, 6, 7]).trans (Imp.truncS 0 (nx hX) (by kernel_rfl) (allBelow_mem (by exact (And.intro rfl (And.intro rfl (And.intro rfl (And.intro rfl trivial)))))) (by exact trivial) (by kernel_rfl))⟩
 refine pwp_exit ?_
 refine srveM [4] 41 [(2, B (decide ((a0.length : Int) ≤ 12)))] [] ?_
 cases h
 exact pwp_ret rz
def impl_LogBehind_l1 (a0 : T_impl_Entry) (a1 : List T_impl_Entry) : Nat → Int → (List T_impl_Entry) → Option ((List T_impl_Entry) × Bool)
 | 0, _, _ => none
 | f6 + 1, x4, x5 => bif (decide (x4 < (a1.length : Int))) then (getI a1 x4).bind fun v9 => bif (decide (v9.fTime > a0.fTime)) then (app x5 ([v9] : List T_impl_Entry)).bind fun v12 => (impl_LogBehind_l1 a0 a1 f6) (w64 (x4 + 1)) v12 else (impl_LogBehind_l1 a0 a1 f6) (w64 (x4 + 1)) x5 else bif (decide ((x5.length : Int) > 12)) then some (([] : List T_impl_Entry), false) else (impl_logCopy x5).bind fun v15 => some (v15, true)
def impl_LogBehind_j0 (a0 : T_impl_Entry) (a1 : List T_impl_Entry) (x1 : Bool) : Option ((List T_impl_Entry) × Bool) := bif x1 then some (([] : List T_impl_Entry), false) else impl_LogBehind_l1 a0 a1 FUEL 0 ([a0] : List T_impl_Entry)
def impl_LogBehind (a0 : T_impl_Entry) (a1 : List T_impl_Entry) : Option ((List T_impl_Entry) × Bool) := (impl_LogOk ([a0])).bind fun v17 => bif (!v17) then impl_LogBehind_j0 a0 a1 true else (impl_LogOk a1).bind fun v19 => impl_LogBehind_j0 a0 a1 (!v19)
theorem ok_impl_LogBehind {a0 : T_impl_Entry} {a1 : List T_impl_Entry} {y : (List T_impl_Entry) × Bool} (h : impl_LogBehind a0 a1 = some y) : OK Try.prog 28 [E a0, A a1] (.tup [A y.1, B y.2]) := by
 refine ow Try.func28 fun Γ hX => ?_
 unfold impl_LogBehind at h
 refine srveM [8] 41 [(1, A a1), (2, pf a0 0)] [] ?_
 refine pwp_seq ?_
 refine pwp_seq ?_
 refine pwp_join (σ := Bool) (fun x1 => (⟨41, [(1, A a1), (2, pf a0 0), (17, B x1)], []⟩ : St)) (fun x1 => impl_LogBehind_j0 a0 a1 x1 = some y) ?_ ?_
 refine rvM [8] 2 41 [(1, A a1), (2, pf a0 0), (10, .arr 2 ([a0] : List T_impl_Entry).length (eL ([a0] : List T_impl_Entry)) true)] [] ?_
 obtain ⟨v17, hv18, h⟩ := bindS h
 refine cF 11 (ok_impl_LogOk hv18) ?_
 refine vM [8] 2 41 [(1, A a1), (2, pf a0 0), (13, B (!v17))] [] ?_
 rcases fk (!v17) with hc21 | hc21
 replace h := bT hc21 h
 rw [hc21]
 refine veM [8] 4 41 [(1, A a1), (2, pf a0 0), (17, B true)] [] ?_
 exact ⟨true, h, it [1, 2, 17]⟩
 replace h := bF hc21 h
 rw [hc21]
 refine vM [8] 1 41 [(1, A a1), (2, pf a0 0), (13, B false), (14, A a1)] [] ?_
 obtain ⟨v19, hv20, h⟩ := bindS h
 refine cF 15 (ok_impl_LogOk hv20) ?_
 refine veM [8] 2 41 [(1, A a1), (2, pf a0 0), (17, B (!v19))] [] ?_
 exact ⟨(!v19), h, it [1, 2, 17]⟩
 rintro x1 h
 unfold impl_LogBehind_j0 at h
 refine pc h (fun h => ?_) (fun h => ?_)
 refine srveM [8] 41 [(4, .arr 2 0 (eL ([] : List T_impl_Entry)) true), (5, B false)] [] ?_
 refine ip 41 [(4, .arr 2 0 (eL ([] : List T_impl_Entry)) true), (5, B false)] [] ?_
 refine pwp_imp (Imp.unfS (st' := ⟨41, [(4, A ([] : List T_impl_Entry)), (5, B false)], []⟩) 4 [4, 5] (by kernel_rfl)) ?_
 have h := si h
 subst h
 exact pwp_ret (rt (.tup [A ([] : List T_impl_Entry), B false]) (OutP.tup (OutL.cons (OutP.frz (by kernel_rfl)) (OutL.cons (OutP.frz (by kernel_rfl)) (OutL.nil _)))))
 refine pwp_skip ?_
 refine srvM [8] 1 41 [(1, A a1), (2, pf a0 0), (18, E a0)] [] ?_
 refine opsP_E (dd := some 19) (x := .ref 0 0 0 2 ([a0] : List T_impl_Entry).length false) (bsl_N (cells := eL ([a0] : List T_impl_Entry)) τ_ok 19 0 (nx hX) (by kernel_rfl) (by kernel_rfl)) ?_
 refine veM [8] 1 41 [(1, A a1), (2, pf a0 0), (6, .ref 0 0 0 2 ([a0] : List T_impl_Entry).length false)] [some ⟨0, eL ([a0] : List T_impl_Entry)⟩] ?_
 refine pwp_seq ?_
 refine srveM [8] 41 [(2, pf a0 0), (6, .ref 0 0 0 2 ([a0] : List T_impl_Entry).length false), (20, A a1), (21, I (a1.length : Int)), (22, I 0)] [some ⟨0, eL ([a0] : List T_impl_Entry)⟩] ?_
 refine pwp_block ?_
 refine pwp_loop (ι := Nat × Int × (List T_impl_Entry)) (fun (f6, x4, x5) => (⟨41, [(2, pf a0 0), (6, rf 0 0 2 x5), (20, A a1), (21, I (a1.length : Int)), (22, I x4)], [sl 0 x5]⟩ : St)) (fun (f6, x4, x5) => impl_LogBehind_l1 a0 a1 f6 x4 x5 = some y) Prod.fst (FUEL, 0, ([a0] : List T_impl_Entry)) h (it [2, 6, 20, 21, 22]) ?_
 rintro ⟨f6, x4, x5⟩ h
 dsimp only at h ⊢
 rcases f6 with _ | f6
 cases h
 rw [impl_LogBehind_l1] at h
 refine srveM [8] 41 [(2, pf a0 0), (6, rf 0 0 2 x5), (20, A a1), (21, I (a1.length : Int)), (22, I x4), (23, B (decide (x4 < (a1.length : Int))))] [sl 0 x5] ?_
 refine pwp_seq ?_
 refine pc h (fun h => ?_) (fun h => ?_)
 refine pwp_skip ?_
 refine pwp_seq ?_
 refine pwp_block ?_
 refine pwp_seq ?_
 refine pwp_region ?_
 obtain ⟨v9, hv10, h⟩ := bindS h
 refine opsP_idx τ_ok 24 hv10 (by kernel_rfl) ?_
 refine veM [8] 3 41 [(2, pf a0 0), (6, rf 0 0 2 x5), (8, .ptr 1 0 0), (20, A a1), (21, I (a1.length : Int)), (22, I x4)] [sl 0 x5, sc 0 v9] ?_
 refine srveM [8] 41 [(2, pf a0 0), (6, rf 0 0 2 x5), (8, .ptr 1 0 0), (20, A a1), (21, I (a1.length : Int)), (22, I x4), (30, B (decide (v9.fTime > a0.fTime)))] [sl 0 x5, sc 0 v9] ?_
 refine pc h (fun h => ?_) (fun h => ?_)
 refine rvM [8] 3 41 [(2, pf a0 0), (20, A a1), (21, I (a1.length : Int)), (22, I x4), (31, rf 0 0 2 x5), (33, .arr 2 ([v9] : List T_impl_Entry).length (eL ([v9] : List T_impl_Entry)) true)] [sl 0 x5, sc 0 v9] ?_
 obtain ⟨v12, hv13, h⟩ := bindS h
 refine opsP_app τ_ok 34 0 0 (nx hX) hv13 (by kernel_rfl) ?_
 refine veM [8] 1 41 [(2, pf a0 0), (6, rf 0 1 2 v12), (20, A a1), (21, I (a1.length : Int)), (22, I x4)] [sl 1 v12, sc 0 v9] ?_
 refine rveM [8] 41 [(2, pf a0 0), (6, rf 0 1 2 v12), (20, A a1), (21, I (a1.length : Int)), (22, I (w64 (x4 + 1)))] [sl 1 v12, sc 0 v9] ?_
 exact ⟨(f6, (w64 (x4 + 1)), v12), h, Nat.lt_succ_self _, qt (it (st' := ⟨41, [(2, pf a0 0), (6, rf 0 1 2 v12), (20, A a1), (21, I (a1.length : Int)), (22, I (w64 (x4 + 1)))], [sl 1 v12, sc 0 v9]⟩) [2, 6, 20, 21, 22]) (qt (Imp.truncS (st' := ⟨41, [(2, pf a0 0), (6, rf 0 1 2 v12), (20, A a1), (21, I (a1.length : Int)), (22, I (w64 (x4 + 1)))], [sl 1 v12]⟩) 1 (nx hX) (by kernel_rfl) (allBelow_mem (by exact (And.intro rfl (And.intro rfl (And.intro rfl (And.intro rfl (And.intro rfl trivial))))))) (by exact (And.intro (frz_below (eL_frz _)) trivial)) (by kernel_rfl)) (Imp.reverS 0 1 (eL v12) [2, 6, 20, 21, 22] (by kernel_rfl) (by exact (And.intro (eL_frz _) trivial)) (by kernel_rfl)))⟩
 refine pwp_skip ?_
 refine rveM [8] 41 [(2, pf a0 0), (6, rf 0 0 2 x5), (20, A a1), (21, I (a1.length : Int)), (22, I (w64 (x4 + 1)))] [sl 0 x5, sc 0 v9] ?_
 exact ⟨(f6, (w64 (x4 + 1)), x5), h, Nat.lt_succ_self _, (it (st' := ⟨41, [(2, pf a0 0), (6, rf 0 0 2 x5), (20, A a1), (21, I (a1.length : Int)), (22, I (w64 (x4 + 1)))], [sl 0 x5, sc 0 v9]⟩) [2, 6, 20, 21, 22]).trans (Imp.truncS 1 (nx hX) (by kernel_rfl) (allBelow_mem (by exact (And.intro rfl (And.intro rfl (And.intro rfl (And.intro rfl (And.intro rfl trivial))))))) (by exact (And.intro (frz_below (eL_frz _)) trivial)) (by kernel_rfl))⟩
 refine pwp_exit ?_
 refine pwp_seq ?_
 refine srveM [8] 41 [(6, rf 0 0 2 x5), (38, B (decide ((x5.length : Int) > 12)))] [sl 0 x5] ?_
 refine pc h (fun h => ?_) (fun h => ?_)
 refine srveM [8] 41 [(4, .arr 2 0 (eL ([] : List T_impl_Entry)) true), (5, B false)] [sl 0 x5] ?_
 refine ip 41 [(4, .arr 2 0 (eL ([] : List T_impl_Entry)) true), (5, B false)] [sl 0 x5] ?_
 refine pwp_imp (Imp.unfS (st' := ⟨41, [(4, A ([] : List T_impl_Entry)), (5, B false)], [sl 0 x5]⟩) 4 [4, 5] (by kernel_rfl)) ?_
 have h := si h
 subst h
 exact pwp_ret (rt (.tup [A ([] : List T_impl_Entry), B false]) (OutP.tup (OutL.cons (OutP.frz (by kernel_rfl)) (OutL.cons (OutP.frz (by kernel_rfl)) (OutL.nil _)))))
 refine pwp_skip ?_
 refine srvM [8] 1 41 [(39, rf 0 0 2 x5)] [sl 0 x5] ?_
 refine opsP_imp (Imp.freezeB (v := 0) (cs := eL x5) (st' := ⟨41, [(39, A x5)], [none]⟩) 0 0 (nx hX) (by kernel_rfl) (eL_frz _) (wholeC (whole_is (eL_len x5).symm) wholeC0) (HpRel.key HpRel.nil) (by kernel_rfl) rfl (nx hX)) ?_
 obtain ⟨v15, hv16, h⟩ := bindS h
 refine cF 40 (ok_impl_logCopy hv16) ?_
 refine veM [8] 2 41 [(4, A v15), (5, B true)] [none] ?_
 have h := si h
 subst h
 exact pwp_ret (rt (.tup [A v15, B true]) (OutP.tup (OutL.cons (OutP.frz (by kernel_rfl)) (OutL.cons (OutP.frz (by kernel_rfl)) (OutL.nil _)))))
def laws_szEntry (a0 : T_laws_Entry) (a1 : Int) : Option Int := (laws_szWriteS a0.fWrites a1).bind fun v1 => bif (decide (v1 < 0)) then some (-1) else some v1
theorem ok_laws_szEntry {a0 : T_laws_Entry} {a1 : Int} {y : Int} (h : laws_szEntry a0 a1 = some y) : OK Try.prog 38 [E a0, I a1] (I y) := by
 refine ow Try.func38 fun Γ hX => ?_
 unfold laws_szEntry at h
 refine srve 12 [(1, I a1), (2, pf a0 0)] [] ?_
 refine srv 3 12 [(6, A a0.fWrites), (7, I a1)] [] ?_
 obtain ⟨v1, hv2, h⟩ := bindS h
 refine cF 8 (ok_laws_szWriteS hv2) ?_
 refine ve 1 12 [(1, I v1)] [] ?_
 refine pwp_seq ?_
 refine srve 12 [(1, I v1), (10, B (decide (v1 < 0)))] [] ?_
 refine pc h (fun h => ?_) (fun h => ?_)
 refine srve 12 [(4, I (-1))] [] ?_
 cases h
 exact pwp_ret rz
 refine pwp_skip ?_
 refine srve 12 [(4, I v1)] [] ?_
 cases h
 exact pwp_ret rz
def spec_LogOk_j1 (x1 : Int) (K3 : Int → Option Bool) (x5 : Bool) : Option Bool := bif x5 then some false else K3 (w64 (x1 + 1))
def spec_LogOk_l0 (a0 : List T_impl_Entry) : Nat → Int → Option Bool
 | 0, _ => none
 | f2 + 1, x1 => bif (decide (x1 < (a0.length : Int))) then (getI a0 x1).bind fun v7 => (spec_l1In v7.fTime 1 40).bind fun v9 => bif (!v9) then spec_LogOk_j1 x1 (spec_LogOk_l0 a0 f2) true else (getI a0 x1).bind fun v11 => (spec_WritesOk v11.fWrites).bind fun v13 => bif (!v13) then spec_LogOk_j1 x1 (spec_LogOk_l0 a0 f2) true else bif (decide (x1 > 0)) then (getI a0 (w64 (x1 - 1))).bind fun v15 => (getI a0 x1).bind fun v17 => spec_LogOk_j1 x1 (spec_LogOk_l0 a0 f2) (decide (v15.fTime ≥ v17.fTime)) else spec_LogOk_j1 x1 (spec_LogOk_l0 a0 f2) false else some (decide ((a0.length : Int) ≤ 12))
def spec_LogOk (a0 : List T_impl_Entry) : Option Bool := spec_LogOk_l0 a0 FUEL 0
theorem ok_spec_LogOk {a0 : List T_impl_Entry} {y : Bool} (h : spec_LogOk a0 = some y) : OK Try.prog 52 [A a0] (B y) := by
 refine ow Try.func52 fun Γ hX => ?_
 unfold spec_LogOk at h
 refine srve 47 [(0, A a0)] [] ?_
 refine pwp_seq ?_
 refine srve 47 [(0, A a0), (3, I 0)] [] ?_
 refine pwp_block ?_
 refine pwp_loop (ι := Nat × Int) (fun (f2, x1) => (⟨47, [(0, A a0), (3, I x1)], []⟩ : St)) (fun (f2, x1) => spec_LogOk_l0 a0 f2 x1 = some y) Prod.fst (FUEL, 0) h (it [0, 3]) ?_
 rintro ⟨f2, x1⟩ h
 dsimp only at h ⊢
 rcases f2 with _ | f2
 cases h
 rw [spec_LogOk_l0] at h
 refine pwp_seq ?_
 refine srve 47 [(0, A a0), (3, I x1), (7, B (decide (x1 < (a0.length : Int))))] [] ?_
 refine pc h (fun h => ?_) (fun h => ?_)
 refine pwp_skip ?_
 refine pwp_seq ?_
 refine pwp_block ?_
 refine pwp_seq ?_
 refine pwp_join (σ := Bool) (fun x5 => (⟨47, [(0, A a0), (3, I x1), (43, B x5)], []⟩ : St)) (fun x5 => spec_LogOk_j1 x1 (spec_LogOk_l0 a0 f2) x5 = some y) ?_ ?_
 refine ip 47 [(0, A a0), (3, I x1)] [] ?_
 refine pN 34 ?_
 refine qv [] trivial 2 47 [(11, I x1), (10, A a0), (0, A a0), (3, I x1)] [] ?_
 obtain ⟨v7, hv8, h⟩ := bindS h
 refine qX (some 12) (pf v7 0) 47 [(12, pf v7 0), (0, A a0), (3, I x1)] [] (fun Γ' hΓ => CoreE.of_y (idxV_sound τ_ok (by kernel_rfl) hv8)) trivial ?_
 refine qv [] trivial 2 47 [(14, I v7.fTime), (0, A a0), (3, I x1)] [] ?_
 obtain ⟨v9, hv10, h⟩ := bindS h
 refine qX (some 15) (B v9) 47 [(15, B v9), (0, A a0), (3, I x1)] [] (fun Γ' hΓ => CoreE.of_g (callV_sound (τ := τ) (by kernel_rfl) rfl (ok_spec_l1In hv10) (FzTo.frz rfl))) trivial ?_
 refine qv [] trivial 2 47 [(17, B (!v9)), (0, A a0), (3, I x1)] [] ?_
 rcases fk (!v9) with hc21 | hc21
 replace h := bT hc21 h
 rw [hc21]
 refine qvn [] trivial 26 47 [(0, A a0), (3, I x1), (18, .lit undef), (19, .lit undef), (20, .lit undef), (21, .lit undef), (22, .lit undef), (23, .lit undef), (24, .lit undef), (27, .lit undef), (28, .lit undef), (29, .lit undef), (30, .lit undef), (31, .lit undef), (32, .lit undef), (33, .lit undef), (34, .lit undef), (35, .lit undef), (36, .lit undef), (37, .lit undef), (38, .lit undef), (39, .lit undef), (40, .lit undef), (41, .lit undef), (42, .lit undef), (43, B true)] [] ?_
 exact ⟨true, h, it [0, 3, 43]⟩
 replace h := bF hc21 h
 rw [hc21]
 refine qv [] trivial 2 47 [(19, I x1), (18, A a0), (17, B false), (0, A a0), (3, I x1)] [] ?_
 obtain ⟨v11, hv12, h⟩ := bindS h
 refine qX (some 20) (pf v11 0) 47 [(20, pf v11 0), (19, I x1), (18, A a0), (17, B false), (0, A a0), (3, I x1)] [] (fun Γ' hΓ => CoreE.of_y (idxV_sound τ_ok (by kernel_rfl) hv12)) trivial ?_
 refine qv [] trivial 2 47 [(22, A v11.fWrites), (21, pf v11 1), (20, pf v11 0), (19, I x1), (18, A a0), (17, B false), (0, A a0), (3, I x1)] [] ?_
 obtain ⟨v13, hv14, h⟩ := bindS h
 refine qX (some 23) (B v13) 47 [(23, B v13), (22, A v11.fWrites), (21, pf v11 1), (20, pf v11 0), (19, I x1), (18, A a0), (17, B false), (0, A a0), (3, I x1)] [] (fun Γ' hΓ => CoreE.of_g (callV_sound (τ := τ) (by kernel_rfl) rfl (ok_spec_WritesOk hv14) (FzTo.frz rfl))) trivial ?_
 refine qv [] trivial 3 47 [(26, B (!v13)), (24, B (!v13)), (23, B v13), (22, A v11.fWrites), (21, pf v11 1), (20, pf v11 0), (19, I x1), (18, A a0), (0, A a0), (3, I x1)] [] ?_
 rcases fk (!v13) with hc20 | hc20
 replace h := bT hc20 h
 rw [hc20]
 refine qvn [] trivial 17 47 [(0, A a0), (3, I x1), (18, A a0), (19, I x1), (20, pf v11 0), (21, pf v11 1), (22, A v11.fWrites), (23, B v13), (24, B true), (27, .lit undef), (28, .lit undef), (29, .lit undef), (30, .lit undef), (31, .lit undef), (32, .lit undef), (33, .lit undef), (34, .lit undef), (35, .lit undef), (36, .lit undef), (37, .lit undef), (38, .lit undef), (39, .lit undef), (40, .lit undef), (41, .lit undef), (42, .lit undef), (43, B true)] [] ?_
 exact ⟨true, h, it [0, 3, 43]⟩
 replace h := bF hc20 h
 rw [hc20]
 refine qv [] trivial 3 47 [(29, B (decide (x1 > 0))), (28, B (decide (x1 > 0))), (27, I x1), (26, B false), (24, B false), (23, B v13), (22, A v11.fWrites), (21, pf v11 1), (20, pf v11 0), (19, I x1), (18, A a0), (0, A a0), (3, I x1)] [] ?_
 rcases fk (decide (x1 > 0)) with hc19 | hc19
 replace h := bT hc19 h
 rw [hc19]
 refine qv [] trivial 3 47 [(32, I (w64 (x1 - 1))), (31, I x1), (30, A a0), (29, B true), (28, B true), (27, I x1), (26, B false), (24, B false), (23, B v13), (22, A v11.fWrites), (21, pf v11 1), (20, pf v11 0), (19, I x1), (18, A a0), (0, A a0), (3, I x1)] [] ?_
 obtain ⟨v15, hv16, h⟩ := bindS h
 refine qX (some 33) (pf v15 0) 47 [(33, pf v15 0), (32, I (w64 (x1 - 1))), (31, I x1), (30, A a0), (29, B true), (28, B true), (27, I x1), (26, B false), (24, B false), (23, B v13), (22, A v11.fWrites), (21, pf v11 1), (20, pf v11 0), (19, I x1), (18, A a0), (0, A a0), (3, I x1)] [] (fun Γ' hΓ => CoreE.of_y (idxV_sound τ_ok (by kernel_rfl) hv16)) trivial ?_
 refine qv [] trivial 4 47 [(37, I x1), (36, A a0), (35, I v15.fTime), (34, pf v15 0), (33, pf v15 0), (32, I (w64 (x1 - 1))), (31, I x1), (30, A a0), (29, B true), (28, B true), (27, I x1), (26, B false), (24, B false), (23, B v13), (22, A v11.fWrites), (21, pf v11 1), (20, pf v11 0), (19, I x1), (18, A a0), (0, A a0), (3, I x1)] [] ?_
 obtain ⟨v17, hv18, h⟩ := bindS h
 refine qX (some 38) (pf v17 0) 47 [(38, pf v17 0), (37, I x1), (36, A a0), (35, I v15.fTime), (34, pf v15 0), (33, pf v15 0), (32, I (w64 (x1 - 1))), (31, I x1), (30, A a0), (29, B true), (28, B true), (27, I x1), (26, B false), (24, B false), (23, B v13), (22, A v11.fWrites), (21, pf v11 1), (20, pf v11 0), (19, I x1), (18, A a0), (0, A a0), (3, I x1)] [] (fun Γ' hΓ => CoreE.of_y (idxV_sound τ_ok (by kernel_rfl) hv18)) trivial ?_
 refine qvn [] trivial 5 47 [(0, A a0), (3, I x1), (18, A a0), (19, I x1), (20, pf v11 0), (21, pf v11 1), (22, A v11.fWrites), (23, B v13), (24, B false), (27, I x1), (28, B true), (29, B true), (30, A a0), (31, I x1), (32, I (w64 (x1 - 1))), (33, pf v15 0), (34, pf v15 0), (35, I v15.fTime), (36, A a0), (37, I x1), (38, pf v17 0), (39, pf v17 0), (40, I v17.fTime), (41, B (decide (v15.fTime ≥ v17.fTime))), (42, B (decide (v15.fTime ≥ v17.fTime))), (43, B (decide (v15.fTime ≥ v17.fTime)))] [] ?_
 exact ⟨(decide (v15.fTime ≥ v17.fTime)), h, it [0, 3, 43]⟩
 replace h := bF hc19 h
 rw [hc19]
 refine qvn [] trivial 14 47 [(0, A a0), (3, I x1), (18, A a0), (19, I x1), (20, pf v11 0), (21, pf v11 1), (22, A v11.fWrites), (23, B v13), (24, B false), (27, I x1), (28, B false), (29, B false), (30, .lit undef), (31, .lit undef), (32, .lit undef), (33, .lit undef), (34, .lit undef), (35, .lit undef), (36, .lit undef), (37, .lit undef), (38, .lit undef), (39, .lit undef), (40, .lit undef), (41, .lit undef), (42, B false), (43, B false)] [] ?_
 exact ⟨false, h, it [0, 3, 43]⟩
 rintro x5 h
 unfold spec_LogOk_j1 at h
 refine pc h (fun h => ?_) (fun h => ?_)
 refine srve 47 [(2, B false)] [] ?_
 cases h
 exact pwp_ret rz
 refine pwp_skip ?_
 refine rve 47 [(0, A a0), (3, I (w64 (x1 + 1)))] [] ?_
 exact ⟨(f2, (w64 (x1 + 1))), h, Nat.lt_succ_self _, it [0, 3]⟩
 refine pwp_exit ?_
 refine srve 47 [(2, B (decide ((a0.length : Int) ≤ 12)))] [] ?_
 cases h
 exact pwp_ret rz
def spec_SeenAt_j2 (a0 : List T_impl_Version) (x1 : Int) (K3 : Int → Option ((List T_impl_Value) × Bool)) (x6 : Bool) : Option ((List T_impl_Value) × Bool) := bif x6 then (getI a0 x1).bind fun v8 => (spec_l3Own v8.fRow).bind fun v10 => some (v10, true) else K3 (w64 (x1 + 1))
def spec_SeenAt_j1 (a0 : List T_impl_Version) (a1 : Int) (a2 : Int) (x1 : Int) (K3 : Int → Option ((List T_impl_Value) × Bool)) (x4 : Bool) : Option ((List T_impl_Value) × Bool) := bif x4 then (getI a0 x1).bind fun v12 => bif (v12.fKey == a1) then (getI a0 x1).bind fun v14 => (spec_l13Seen v14 a2).bind fun v16 => spec_SeenAt_j2 a0 x1 K3 v16 else spec_SeenAt_j2 a0 x1 K3 false else some (([] : List T_impl_Value), false)
def spec_SeenAt_l0 (a0 : List T_impl_Version) (a1 : Int) (a2 : Int) : Nat → Int → Option ((List T_impl_Value) × Bool)
 | 0, _ => none
 | f2 + 1, x1 => bif (decide (x1 < (a0.length : Int))) then (spec_VersionsOk a0).bind fun v19 => spec_SeenAt_j1 a0 a1 a2 x1 (spec_SeenAt_l0 a0 a1 a2 f2) v19 else spec_SeenAt_j1 a0 a1 a2 x1 (spec_SeenAt_l0 a0 a1 a2 f2) false
def spec_SeenAt (a0 : List T_impl_Version) (a1 : Int) (a2 : Int) : Option ((List T_impl_Value) × Bool) := spec_SeenAt_l0 a0 a1 a2 FUEL 0
theorem ok_spec_SeenAt {a0 : List T_impl_Version} {a1 : Int} {a2 : Int} {y : (List T_impl_Value) × Bool} (h : spec_SeenAt a0 a1 a2 = some y) : OK Try.prog 55 [A a0, I a1, I a2] (.tup [A y.1, B y.2]) := by
 refine ow Try.func55 fun Γ hX => ?_
 unfold spec_SeenAt at h
 refine srve 41 [(0, A a0), (1, I a1), (2, I a2)] [] ?_
 refine pwp_seq ?_
 refine srve 41 [(0, A a0), (1, I a1), (2, I a2), (8, I 0)] [] ?_
 refine pwp_block ?_
 refine pwp_loop (ι := Nat × Int) (fun (f2, x1) => (⟨41, [(0, A a0), (1, I a1), (2, I a2), (8, I x1)], []⟩ : St)) (fun (f2, x1) => spec_SeenAt_l0 a0 a1 a2 f2 x1 = some y) Prod.fst (FUEL, 0) h (it [0, 1, 2, 8]) ?_
 rintro ⟨f2, x1⟩ h
 dsimp only at h ⊢
 rcases f2 with _ | f2
 cases h
 rw [spec_SeenAt_l0] at h
 refine pwp_seq ?_
 refine pwp_seq ?_
 refine pwp_join (σ := Bool) (fun x4 => (⟨41, [(0, A a0), (1, I a1), (2, I a2), (8, I x1), (16, B x4)], []⟩ : St)) (fun x4 => spec_SeenAt_j1 a0 a1 a2 x1 (spec_SeenAt_l0 a0 a1 a2 f2) x4 = some y) ?_ ?_
 refine rv 5 41 [(0, A a0), (1, I a1), (2, I a2), (8, I x1), (13, B (decide (x1 < (a0.length : Int))))] [] ?_
 rcases fk (decide (x1 < (a0.length : Int))) with hc21 | hc21
 replace h := bT hc21 h
 rw [hc21]
 refine v 1 41 [(0, A a0), (1, I a1), (2, I a2), (8, I x1), (13, B true), (14, A a0)] [] ?_
 obtain ⟨v19, hv20, h⟩ := bindS h
 refine cF 15 (ok_spec_VersionsOk hv20) ?_
 refine ve 1 41 [(0, A a0), (1, I a1), (2, I a2), (8, I x1), (14, A a0), (15, B v19), (16, B v19)] [] ?_
 exact ⟨v19, h, it [0, 1, 2, 8, 16]⟩
 replace h := bF hc21 h
 rw [hc21]
 refine ve 3 41 [(0, A a0), (1, I a1), (2, I a2), (8, I x1), (14, .lit undef), (15, .lit undef), (16, B false)] [] ?_
 exact ⟨false, h, it [0, 1, 2, 8, 16]⟩
 rintro x4 h
 unfold spec_SeenAt_j1 at h
 refine pc h (fun h => ?_) (fun h => ?_)
 refine pwp_skip ?_
 refine pwp_seq ?_
 refine pwp_block ?_
 refine pwp_seq ?_
 refine pwp_join (σ := Bool) (fun x6 => (⟨41, [(0, A a0), (1, I a1), (2, I a2), (8, I x1), (33, B x6)], []⟩ : St)) (fun x6 => spec_SeenAt_j2 a0 x1 (spec_SeenAt_l0 a0 a1 a2 f2) x6 = some y) ?_ ?_
 refine rv 2 41 [(0, A a0), (1, I a1), (2, I a2), (8, I x1), (19, A a0), (20, I x1)] [] ?_
 obtain ⟨v12, hv13, h⟩ := bindS h
 refine opsP_idx τ_ok 21 hv13 (by kernel_rfl) ?_
 refine v 5 41 [(0, A a0), (1, I a1), (2, I a2), (8, I x1), (26, B (v12.fKey == a1))] [] ?_
 rcases fk (v12.fKey == a1) with hc18 | hc18
 replace h := bT hc18 h
 rw [hc18]
 refine v 2 41 [(0, A a0), (1, I a1), (2, I a2), (8, I x1), (26, B true), (27, A a0), (28, I x1)] [] ?_
 obtain ⟨v14, hv15, h⟩ := bindS h
 refine opsP_idx τ_ok 29 hv15 (by kernel_rfl) ?_
 refine v 2 41 [(0, A a0), (1, I a1), (2, I a2), (8, I x1), (26, B true), (27, A a0), (28, I x1), (29, pf v14 0), (30, E v14), (31, I a2)] [] ?_
 obtain ⟨v16, hv17, h⟩ := bindS h
 refine cF 32 (ok_spec_l13Seen hv17) ?_
 refine ve 1 41 [(0, A a0), (1, I a1), (2, I a2), (8, I x1), (27, A a0), (28, I x1), (29, pf v14 0), (30, E v14), (31, I a2), (32, B v16), (33, B v16)] [] ?_
 exact ⟨v16, h, it [0, 1, 2, 8, 33]⟩
 replace h := bF hc18 h
 rw [hc18]
 refine ve 7 41 [(0, A a0), (1, I a1), (2, I a2), (8, I x1), (27, .lit undef), (28, .lit undef), (29, .lit undef), (30, .lit undef), (31, .lit undef), (32, .lit undef), (33, B false)] [] ?_
 exact ⟨false, h, it [0, 1, 2, 8, 33]⟩
 rintro x6 h
 unfold spec_SeenAt_j2 at h
 refine pc h (fun h => ?_) (fun h => ?_)
 refine srv 2 41 [(34, A a0), (35, I x1)] [] ?_
 obtain ⟨v8, hv9, h⟩ := bindS h
 refine opsP_idx τ_ok 36 hv9 (by kernel_rfl) ?_
 refine v 2 41 [(38, A v8.fRow)] [] ?_
 obtain ⟨v10, hv11, h⟩ := bindS h
 refine cFo 39 (ok_spec_l3Own hv11) ?_
 refine ve 2 41 [(6, A v10), (7, B true)] [] ?_
 have h := si h
 subst h
 exact pwp_ret (rt (.tup [A v10, B true]) (OutP.tup (OutL.cons (OutP.frz (by kernel_rfl)) (OutL.cons (OutP.frz (by kernel_rfl)) (OutL.nil _)))))
 refine pwp_skip ?_
 refine rve 41 [(0, A a0), (1, I a1), (2, I a2), (8, I (w64 (x1 + 1)))] [] ?_
 exact ⟨(f2, (w64 (x1 + 1))), h, Nat.lt_succ_self _, it [0, 1, 2, 8]⟩
 refine pwp_exit ?_
 refine srve 41 [(6, .arr 3 0 (eL ([] : List T_impl_Value)) true), (7, B false)] [] ?_
 refine ip 41 [(6, .arr 3 0 (eL ([] : List T_impl_Value)) true), (7, B false)] [] ?_
 refine pwp_imp (Imp.unfS (st' := ⟨41, [(6, A ([] : List T_impl_Value)), (7, B false)], []⟩) 6 [6, 7] (by kernel_rfl)) ?_
 have h := si h
 subst h
 exact pwp_ret (rt (.tup [A ([] : List T_impl_Value), B false]) (OutP.tup (OutL.cons (OutP.frz (by kernel_rfl)) (OutL.cons (OutP.frz (by kernel_rfl)) (OutL.nil _)))))
def spec_RowsAt_j1 (x2 : Int) (K5 : Int → (List (List T_impl_Value)) → Option (List (List T_impl_Value))) (x7 : List (List T_impl_Value)) : Option (List (List T_impl_Value)) := K5 (w64 (x2 + 1)) x7
def spec_RowsAt_l0 (a0 : List T_impl_Version) (a1 : Int) : Nat → Int → (List (List T_impl_Value)) → Option (List (List T_impl_Value))
 | 0, _, _ => none
 | f4 + 1, x2, x3 => bif (decide (x2 < 5)) then (spec_SeenAt a0 x2 a1).bind fun v8 => bif v8.2 then (app x3 ([v8.1] : List (List T_impl_Value))).bind fun v11 => spec_RowsAt_j1 x2 (spec_RowsAt_l0 a0 a1 f4) v11 else spec_RowsAt_j1 x2 (spec_RowsAt_l0 a0 a1 f4) x3 else some x3
def spec_RowsAt (a0 : List T_impl_Version) (a1 : Int) : Option (List (List T_impl_Value)) := spec_RowsAt_l0 a0 a1 FUEL 0 ([] : List (List T_impl_Value))
theorem ok_spec_RowsAt {a0 : List T_impl_Version} {a1 : Int} {y : List (List T_impl_Value)} (h : spec_RowsAt a0 a1 = some y) : OK Try.prog 75 [A a0, I a1] (O y) := by
 refine ow Try.func75 fun Γ hX => ?_
 unfold spec_RowsAt at h
 refine srve 27 [(0, A a0), (1, I a1)] [] ?_
 refine srve 27 [(0, A a0), (1, I a1), (5, .arr 1 0 (eL ([] : List (List T_impl_Value))) true)] [] ?_
 refine pwp_seq ?_
 refine srve 27 [(0, A a0), (1, I a1), (5, .arr 1 0 (eL ([] : List (List T_impl_Value))) true), (6, I 0)] [] ?_
 refine pwp_block ?_
 refine pwp_loop (ι := Nat × Int × (List (List T_impl_Value))) (fun (f4, x2, x3) => (⟨27, [(0, A a0), (1, I a1), (5, rf 0 0 1 x3), (6, I x2)], [sl 0 x3]⟩ : St)) (fun (f4, x2, x3) => spec_RowsAt_l0 a0 a1 f4 x2 x3 = some y) Prod.fst (FUEL, 0, ([] : List (List T_impl_Value))) h (Imp.thawS 5 [0, 1, 5, 6] (by kernel_rfl)) ?_
 rintro ⟨f4, x2, x3⟩ h
 dsimp only at h ⊢
 rcases f4 with _ | f4
 cases h
 rw [spec_RowsAt_l0] at h
 refine pwp_seq ?_
 refine srve 27 [(0, A a0), (1, I a1), (5, rf 0 0 1 x3), (6, I x2), (11, B (decide (x2 < 5)))] [sl 0 x3] ?_
 refine pc h (fun h => ?_) (fun h => ?_)
 refine pwp_skip ?_
 refine pwp_seq ?_
 refine pwp_join (σ := (List (List T_impl_Value))) (fun x7 => (⟨27, [(0, A a0), (1, I a1), (5, rf 0 0 1 x7), (6, I x2)], [sl 0 x7]⟩ : St)) (fun x7 => spec_RowsAt_j1 x2 (spec_RowsAt_l0 a0 a1 f4) x7 = some y) ?_ ?_
 refine pwp_block ?_
 refine srv 3 27 [(0, A a0), (1, I a1), (5, rf 0 0 1 x3), (6, I x2), (15, A a0), (16, I x2), (17, I a1)] [sl 0 x3] ?_
 obtain ⟨v8, hv9, h⟩ := bindS h
 refine opsP_callF τ 18 (ok_spec_SeenAt hv9) (FzTo.tup (FzToL.cons (FzTo.frz rfl) (FzToL.cons (FzTo.frz rfl) FzToL.nil))) rfl (by kernel_rfl) ?_
 refine ve 5 27 [(0, A a0), (1, I a1), (5, rf 0 0 1 x3), (6, I x2), (7, A v8.1), (8, B v8.2)] [sl 0 x3] ?_
 refine srve 27 [(0, A a0), (1, I a1), (5, rf 0 0 1 x3), (6, I x2), (7, A v8.1), (21, B v8.2)] [sl 0 x3] ?_
 refine pc h (fun h => ?_) (fun h => ?_)
 refine rv 3 27 [(0, A a0), (1, I a1), (6, I x2), (22, rf 0 0 1 x3), (24, .arr 1 ([v8.1] : List (List T_impl_Value)).length (eL ([v8.1] : List (List T_impl_Value))) true)] [sl 0 x3] ?_
 obtain ⟨v11, hv12, h⟩ := bindS h
 refine opsP_app τ_ok 25 0 0 (nx hX) hv12 (by kernel_rfl) ?_
 refine ve 1 27 [(0, A a0), (1, I a1), (5, rf 0 1 1 v11), (6, I x2)] [sl 1 v11] ?_
 exact ⟨v11, h, (it (st' := ⟨27, [(0, A a0), (1, I a1), (5, rf 0 1 1 v11), (6, I x2)], [sl 1 v11]⟩) [0, 1, 5, 6]).trans (Imp.reverS 0 1 (eL v11) [0, 1, 5, 6] (by kernel_rfl) (by exact (And.intro (eL_frz _) trivial)) (by kernel_rfl))⟩
 refine pwp_skip ?_
 exact ⟨x3, h, it [0, 1, 5, 6]⟩
 rintro x7 h
 unfold spec_RowsAt_j1 at h
 refine rve 27 [(0, A a0), (1, I a1), (5, rf 0 0 1 x7), (6, I (w64 (x2 + 1)))] [sl 0 x7] ?_
 exact ⟨(f4, (w64 (x2 + 1)), x7), h, Nat.lt_succ_self _, it [0, 1, 5, 6]⟩
 refine pwp_exit ?_
 refine srve 27 [(4, rf 0 0 1 x3)] [sl 0 x3] ?_
 have h := si h
 subst h
 exact pwp_ret (rt (rf 0 0 1 x3) (OutP.list (v := 0) (by kernel_rfl)))
def spec_LogCut_j2 (x2 : Int) (K5 : Int → (List T_impl_Entry) → Option (List T_impl_Entry)) (x8 : List T_impl_Entry) : Option (List T_impl_Entry) := K5 (w64 (x2 + 1)) x8
def spec_LogCut_j1 (a0 : List T_impl_Entry) (a1 : Int) (x2 : Int) (x3 : List T_impl_Entry) (K5 : Int → (List T_impl_Entry) → Option (List T_impl_Entry)) (x6 : Bool) : Option (List T_impl_Entry) := bif x6 then (getI a0 x2).bind fun v9 => bif (decide (v9.fTime ≤ a1)) then (getI a0 x2).bind fun v12 => (app x3 ([v12] : List T_impl_Entry)).bind fun v14 => spec_LogCut_j2 x2 K5 v14 else spec_LogCut_j2 x2 K5 x3 else (spec_l18Copy x3).bind fun v16 => some v16
def spec_LogCut_l0 (a0 : List T_impl_Entry) (a1 : Int) : Nat → Int → (List T_impl_Entry) → Option (List T_impl_Entry)
 | 0, _, _ => none
 | f4 + 1, x2, x3 => bif (decide (x2 < (a0.length : Int))) then (spec_LogOk a0).bind fun v18 => spec_LogCut_j1 a0 a1 x2 x3 (spec_LogCut_l0 a0 a1 f4) v18 else spec_LogCut_j1 a0 a1 x2 x3 (spec_LogCut_l0 a0 a1 f4) false
def spec_LogCut (a0 : List T_impl_Entry) (a1 : Int) : Option (List T_impl_Entry) := spec_LogCut_l0 a0 a1 FUEL 0 ([] : List T_impl_Entry)
theorem ok_spec_LogCut {a0 : List T_impl_Entry} {a1 : Int} {y : List T_impl_Entry} (h : spec_LogCut a0 a1 = some y) : OK Try.prog 76 [A a0, I a1] (A y) := by
 refine ow Try.func76 fun Γ hX => ?_
 unfold spec_LogCut at h
 refine srve 34 [(0, A a0), (1, I a1)] [] ?_
 refine srve 34 [(0, A a0), (1, I a1), (5, .arr 2 0 (eL ([] : List T_impl_Entry)) true)] [] ?_
 refine pwp_seq ?_
 refine srve 34 [(0, A a0), (1, I a1), (5, .arr 2 0 (eL ([] : List T_impl_Entry)) true), (6, I 0)] [] ?_
 refine pwp_block ?_
 refine pwp_loop (ι := Nat × Int × (List T_impl_Entry)) (fun (f4, x2, x3) => (⟨34, [(0, A a0), (1, I a1), (5, rf 0 0 2 x3), (6, I x2)], [sl 0 x3]⟩ : St)) (fun (f4, x2, x3) => spec_LogCut_l0 a0 a1 f4 x2 x3 = some y) Prod.fst (FUEL, 0, ([] : List T_impl_Entry)) h (Imp.thawS 5 [0, 1, 5, 6] (by kernel_rfl)) ?_
 rintro ⟨f4, x2, x3⟩ h
 dsimp only at h ⊢
 rcases f4 with _ | f4
 cases h
 rw [spec_LogCut_l0] at h
 refine pwp_seq ?_
 refine pwp_seq ?_
 refine pwp_join (σ := Bool) (fun x6 => (⟨34, [(0, A a0), (1, I a1), (5, rf 0 0 2 x3), (6, I x2), (15, B x6)], [sl 0 x3]⟩ : St)) (fun x6 => spec_LogCut_j1 a0 a1 x2 x3 (spec_LogCut_l0 a0 a1 f4) x6 = some y) ?_ ?_
 refine rv 5 34 [(0, A a0), (1, I a1), (5, rf 0 0 2 x3), (6, I x2), (12, B (decide (x2 < (a0.length : Int))))] [sl 0 x3] ?_
 rcases fk (decide (x2 < (a0.length : Int))) with hc20 | hc20
 replace h := bT hc20 h
 rw [hc20]
 refine v 1 34 [(0, A a0), (1, I a1), (5, rf 0 0 2 x3), (6, I x2), (12, B true), (13, A a0)] [sl 0 x3] ?_
 obtain ⟨v18, hv19, h⟩ := bindS h
 refine cF 14 (ok_spec_LogOk hv19) ?_
 refine ve 1 34 [(0, A a0), (1, I a1), (5, rf 0 0 2 x3), (6, I x2), (13, A a0), (14, B v18), (15, B v18)] [sl 0 x3] ?_
 exact ⟨v18, h, it [0, 1, 5, 6, 15]⟩
 replace h := bF hc20 h
 rw [hc20]
 refine ve 3 34 [(0, A a0), (1, I a1), (5, rf 0 0 2 x3), (6, I x2), (13, .lit undef), (14, .lit undef), (15, B false)] [sl 0 x3] ?_
 exact ⟨false, h, it [0, 1, 5, 6, 15]⟩
 rintro x6 h
 unfold spec_LogCut_j1 at h
 refine pc h (fun h => ?_) (fun h => ?_)
 refine pwp_skip ?_
 refine pwp_seq ?_
 refine pwp_join (σ := (List T_impl_Entry)) (fun x8 => (⟨34, [(0, A a0), (1, I a1), (5, rf 0 0 2 x8), (6, I x2)], [sl 0 x8]⟩ : St)) (fun x8 => spec_LogCut_j2 x2 (spec_LogCut_l0 a0 a1 f4) x8 = some y) ?_ ?_
 refine pwp_block ?_
 refine srv 2 34 [(0, A a0), (1, I a1), (5, rf 0 0 2 x3), (6, I x2), (18, A a0), (19, I x2)] [sl 0 x3] ?_
 obtain ⟨v9, hv10, h⟩ := bindS h
 refine opsP_idx τ_ok 20 hv10 (by kernel_rfl) ?_
 refine ve 4 34 [(0, A a0), (1, I a1), (5, rf 0 0 2 x3), (6, I x2), (24, B (decide (v9.fTime ≤ a1)))] [sl 0 x3] ?_
 refine pc h (fun h => ?_) (fun h => ?_)
 refine rv 3 34 [(0, A a0), (1, I a1), (6, I x2), (25, rf 0 0 2 x3), (26, A a0), (27, I x2)] [sl 0 x3] ?_
 obtain ⟨v12, hv13, h⟩ := bindS h
 refine opsP_idx τ_ok 28 hv13 (by kernel_rfl) ?_
 refine v 2 34 [(0, A a0), (1, I a1), (6, I x2), (25, rf 0 0 2 x3), (30, .arr 2 ([v12] : List T_impl_Entry).length (eL ([v12] : List T_impl_Entry)) true)] [sl 0 x3] ?_
 obtain ⟨v14, hv15, h⟩ := bindS h
 refine opsP_app τ_ok 31 0 0 (nx hX) hv15 (by kernel_rfl) ?_
 refine ve 1 34 [(0, A a0), (1, I a1), (5, rf 0 1 2 v14), (6, I x2)] [sl 1 v14] ?_
 exact ⟨v14, h, (it (st' := ⟨34, [(0, A a0), (1, I a1), (5, rf 0 1 2 v14), (6, I x2)], [sl 1 v14]⟩) [0, 1, 5, 6]).trans (Imp.reverS 0 1 (eL v14) [0, 1, 5, 6] (by kernel_rfl) (by exact (And.intro (eL_frz _) trivial)) (by kernel_rfl))⟩
 refine pwp_skip ?_
 exact ⟨x3, h, it [0, 1, 5, 6]⟩
 rintro x8 h
 unfold spec_LogCut_j2 at h
 refine rve 34 [(0, A a0), (1, I a1), (5, rf 0 0 2 x8), (6, I (w64 (x2 + 1)))] [sl 0 x8] ?_
 exact ⟨(f4, (w64 (x2 + 1)), x8), h, Nat.lt_succ_self _, it [0, 1, 5, 6]⟩
 refine pwp_exit ?_
 refine srv 1 34 [(32, rf 0 0 2 x3)] [sl 0 x3] ?_
 refine opsP_imp (Imp.freezeB (v := 0) (cs := eL x3) (st' := ⟨34, [(32, A x3)], [none]⟩) 0 0 (nx hX) (by kernel_rfl) (eL_frz _) (wholeC (whole_is (eL_len x3).symm) wholeC0) (HpRel.key HpRel.nil) (by kernel_rfl) rfl (nx hX)) ?_
 obtain ⟨v16, hv17, h⟩ := bindS h
 refine cFo 33 (ok_spec_l18Copy hv17) ?_
 refine ve 1 34 [(4, A v16)] [none] ?_
 cases h
 exact pwp_ret rz
def spec_WrittenAt_l2 (a1 : List T_impl_Write) (a2 : Int) : Nat → (List T_impl_Version) → Int → Option ((List T_impl_Version) × Bool)
 | 0, _, _ => none
 | f14 + 1, x12, x13 => bif (decide (x13 < (a1.length : Int))) then (getI a1 x13).bind fun v17 => (spec_l13Written x12 v17 a2).bind fun v19 => (spec_WrittenAt_l2 a1 a2 f14) v19 (w64 (x13 + 1)) else bif (decide ((x12.length : Int) > 60)) then some (([] : List T_impl_Version), false) else some (x12, true)
def spec_WrittenAt_l1 (a0 : List T_impl_Version) (a1 : List T_impl_Write) (a2 : Int) : Nat → Int → Option ((List T_impl_Version) × Bool)
 | 0, _ => none
 | f4 + 1, x3 => bif (decide (x3 < 5)) then (spec_LastTurn a0 x3).bind fun v7 => bif (decide (v7 ≥ a2)) then some (([] : List T_impl_Version), false) else (spec_WrittenAt_l1 a0 a1 a2 f4) (w64 (x3 + 1)) else (spec_l13Copy a0).bind fun v10 => spec_WrittenAt_l2 a1 a2 FUEL v10 0
def spec_WrittenAt_j0 (a0 : List T_impl_Version) (a1 : List T_impl_Write) (a2 : Int) (x1 : Bool) : Option ((List T_impl_Version) × Bool) := bif x1 then some (([] : List T_impl_Version), false) else spec_WrittenAt_l1 a0 a1 a2 FUEL 0
def spec_WrittenAt (a0 : List T_impl_Version) (a1 : List T_impl_Write) (a2 : Int) : Option ((List T_impl_Version) × Bool) := (spec_VersionsOk a0).bind fun v22 => bif (!v22) then spec_WrittenAt_j0 a0 a1 a2 true else (spec_WritesOk a1).bind fun v24 => bif (!v24) then spec_WrittenAt_j0 a0 a1 a2 true else (spec_l1In a2 1 40).bind fun v26 => spec_WrittenAt_j0 a0 a1 a2 (!v26)
theorem ok_spec_WrittenAt {a0 : List T_impl_Version} {a1 : List T_impl_Write} {a2 : Int} {y : (List T_impl_Version) × Bool} (h : spec_WrittenAt a0 a1 a2 = some y) : OK Try.prog 86 [A a0, A a1, I a2] (.tup [A y.1, B y.2]) := by
 refine ow Try.func86 fun Γ hX => ?_
 unfold spec_WrittenAt at h
 refine srve 55 [(0, A a0), (1, A a1), (2, I a2)] [] ?_
 refine pwp_seq ?_
 refine pwp_seq ?_
 refine pwp_join (σ := Bool) (fun x1 => (⟨55, [(0, A a0), (1, A a1), (2, I a2), (23, B x1)], []⟩ : St)) (fun x1 => spec_WrittenAt_j0 a0 a1 a2 x1 = some y) ?_ ?_
 refine rv 1 55 [(0, A a0), (1, A a1), (2, I a2), (11, A a0)] [] ?_
 obtain ⟨v22, hv23, h⟩ := bindS h
 refine cF 12 (ok_spec_VersionsOk hv23) ?_
 refine v 2 55 [(0, A a0), (1, A a1), (2, I a2), (14, B (!v22))] [] ?_
 rcases fk (!v22) with hc29 | hc29
 replace h := bT hc29 h
 rw [hc29]
 refine ve 9 55 [(0, A a0), (1, A a1), (2, I a2), (23, B true)] [] ?_
 exact ⟨true, h, it [0, 1, 2, 23]⟩
 replace h := bF hc29 h
 rw [hc29]
 refine v 1 55 [(0, A a0), (1, A a1), (2, I a2), (14, B false), (15, A a1)] [] ?_
 obtain ⟨v24, hv25, h⟩ := bindS h
 refine cF 16 (ok_spec_WritesOk hv25) ?_
 refine v 3 55 [(0, A a0), (1, A a1), (2, I a2), (19, B (!v24))] [] ?_
 rcases fk (!v24) with hc28 | hc28
 replace h := bT hc28 h
 rw [hc28]
 refine ve 4 55 [(0, A a0), (1, A a1), (2, I a2), (23, B true)] [] ?_
 exact ⟨true, h, it [0, 1, 2, 23]⟩
 replace h := bF hc28 h
 rw [hc28]
 refine v 1 55 [(0, A a0), (1, A a1), (2, I a2), (19, B false), (20, I a2)] [] ?_
 obtain ⟨v26, hv27, h⟩ := bindS h
 refine cF 21 (ok_spec_l1In hv27) ?_
 refine ve 2 55 [(0, A a0), (1, A a1), (2, I a2), (23, B (!v26))] [] ?_
 exact ⟨(!v26), h, it [0, 1, 2, 23]⟩
 rintro x1 h
 unfold spec_WrittenAt_j0 at h
 refine pc h (fun h => ?_) (fun h => ?_)
 refine srve 55 [(6, .arr 4 0 (eL ([] : List T_impl_Version)) true), (7, B false)] [] ?_
 refine ip 55 [(6, .arr 4 0 (eL ([] : List T_impl_Version)) true), (7, B false)] [] ?_
 refine pwp_imp (Imp.unfS (st' := ⟨55, [(6, A ([] : List T_impl_Version)), (7, B false)], []⟩) 6 [6, 7] (by kernel_rfl)) ?_
 have h := si h
 subst h
 exact pwp_ret (rt (.tup [A ([] : List T_impl_Version), B false]) (OutP.tup (OutL.cons (OutP.frz (by kernel_rfl)) (OutL.cons (OutP.frz (by kernel_rfl)) (OutL.nil _)))))
 refine pwp_skip ?_
 refine pwp_seq ?_
 refine srve 55 [(0, A a0), (1, A a1), (2, I a2), (8, I 0)] [] ?_
 refine pwp_block ?_
 refine pwp_loop (ι := Nat × Int) (fun (f4, x3) => (⟨55, [(0, A a0), (1, A a1), (2, I a2), (8, I x3)], []⟩ : St)) (fun (f4, x3) => spec_WrittenAt_l1 a0 a1 a2 f4 x3 = some y) Prod.fst (FUEL, 0) h (it [0, 1, 2, 8]) ?_
 rintro ⟨f4, x3⟩ h
 dsimp only at h ⊢
 rcases f4 with _ | f4
 cases h
 rw [spec_WrittenAt_l1] at h
 refine pwp_seq ?_
 refine srve 55 [(0, A a0), (1, A a1), (2, I a2), (8, I x3), (26, B (decide (x3 < 5)))] [] ?_
 refine pc h (fun h => ?_) (fun h => ?_)
 refine pwp_skip ?_
 refine pwp_seq ?_
 refine pwp_block ?_
 refine srv 2 55 [(0, A a0), (1, A a1), (2, I a2), (8, I x3), (29, A a0), (30, I x3)] [] ?_
 obtain ⟨v7, hv8, h⟩ := bindS h
 refine cF 31 (ok_spec_LastTurn hv8) ?_
 refine ve 2 55 [(0, A a0), (1, A a1), (2, I a2), (8, I x3), (33, B (decide (v7 ≥ a2)))] [] ?_
 refine pc h (fun h => ?_) (fun h => ?_)
 refine srve 55 [(6, .arr 4 0 (eL ([] : List T_impl_Version)) true), (7, B false)] [] ?_
 refine ip 55 [(6, .arr 4 0 (eL ([] : List T_impl_Version)) true), (7, B false)] [] ?_
 refine pwp_imp (Imp.unfS (st' := ⟨55, [(6, A ([] : List T_impl_Version)), (7, B false)], []⟩) 6 [6, 7] (by kernel_rfl)) ?_
 have h := si h
 subst h
 exact pwp_ret (rt (.tup [A ([] : List T_impl_Version), B false]) (OutP.tup (OutL.cons (OutP.frz (by kernel_rfl)) (OutL.cons (OutP.frz (by kernel_rfl)) (OutL.nil _)))))
 refine pwp_skip ?_
 refine rve 55 [(0, A a0), (1, A a1), (2, I a2), (8, I (w64 (x3 + 1)))] [] ?_
 exact ⟨(f4, (w64 (x3 + 1))), h, Nat.lt_succ_self _, it [0, 1, 2, 8]⟩
 refine pwp_exit ?_
 refine srv 1 55 [(1, A a1), (2, I a2), (35, A a0)] [] ?_
 obtain ⟨v10, hv11, h⟩ := bindS h
 refine cFo 36 (ok_spec_l13Copy hv11) ?_
 refine ve 1 55 [(1, A a1), (2, I a2), (9, A v10)] [] ?_
 refine pwp_seq ?_
 refine srve 55 [(1, A a1), (2, I a2), (9, A v10), (10, I 0)] [] ?_
 refine pwp_block ?_
 refine pwp_loop (ι := Nat × (List T_impl_Version) × Int) (fun (f14, x12, x13) => (⟨55, [(1, A a1), (2, I a2), (9, A x12), (10, I x13)], []⟩ : St)) (fun (f14, x12, x13) => spec_WrittenAt_l2 a1 a2 f14 x12 x13 = some y) Prod.fst (FUEL, v10, 0) h (it [1, 2, 9, 10]) ?_
 rintro ⟨f14, x12, x13⟩ h
 dsimp only at h ⊢
 rcases f14 with _ | f14
 cases h
 rw [spec_WrittenAt_l2] at h
 refine pwp_seq ?_
 refine srve 55 [(1, A a1), (2, I a2), (9, A x12), (10, I x13), (40, B (decide (x13 < (a1.length : Int))))] [] ?_
 refine pc h (fun h => ?_) (fun h => ?_)
 refine pwp_skip ?_
 refine pwp_seq ?_
 refine pwp_block ?_
 refine rv 3 55 [(1, A a1), (2, I a2), (10, I x13), (43, A x12), (44, A a1), (45, I x13)] [] ?_
 obtain ⟨v17, hv18, h⟩ := bindS h
 refine opsP_idx τ_ok 46 hv18 (by kernel_rfl) ?_
 refine v 2 55 [(1, A a1), (2, I a2), (10, I x13), (43, A x12), (47, E v17), (48, I a2)] [] ?_
 obtain ⟨v19, hv20, h⟩ := bindS h
 refine cFo 49 (ok_spec_l13Written hv20) ?_
 refine ve 1 55 [(1, A a1), (2, I a2), (9, A v19), (10, I x13)] [] ?_
 refine rve 55 [(1, A a1), (2, I a2), (9, A v19), (10, I (w64 (x13 + 1)))] [] ?_
 exact ⟨(f14, v19, (w64 (x13 + 1))), h, Nat.lt_succ_self _, it [1, 2, 9, 10]⟩
 refine pwp_exit ?_
 refine pwp_seq ?_
 refine srve 55 [(9, A x12), (52, B (decide ((x12.length : Int) > 60)))] [] ?_
 refine pc h (fun h => ?_) (fun h => ?_)
 refine srve 55 [(6, .arr 4 0 (eL ([] : List T_impl_Version)) true), (7, B false)] [] ?_
 refine ip 55 [(6, .arr 4 0 (eL ([] : List T_impl_Version)) true), (7, B false)] [] ?_
 refine pwp_imp (Imp.unfS (st' := ⟨55, [(6, A ([] : List T_impl_Version)), (7, B false)], []⟩) 6 [6, 7] (by kernel_rfl)) ?_
 have h := si h
 subst h
 exact pwp_ret (rt (.tup [A ([] : List T_impl_Version), B false]) (OutP.tup (OutL.cons (OutP.frz (by kernel_rfl)) (OutL.cons (OutP.frz (by kernel_rfl)) (OutL.nil _)))))
 refine pwp_skip ?_
 refine srve 55 [(6, A x12), (7, B true)] [] ?_
 have h := si h
 subst h
 exact pwp_ret (rt (.tup [A x12, B true]) (OutP.tup (OutL.cons (OutP.frz (by kernel_rfl)) (OutL.cons (OutP.frz (by kernel_rfl)) (OutL.nil _)))))
def slices_SortStableFunc_impl_Version_impl_Version_w (a0 : List T_impl_Version) (a1 : T_impl_Version → T_impl_Version → Option Int) : Option (List T_impl_Version) := (slices_stableCmpFunc_impl_Version a0 (a0.length : Int) a1).bind fun v1 => some v1
def slices_SortStableFunc_impl_Version_impl_Version (a0 : List T_impl_Version) (a1 : T_impl_Version → T_impl_Version → Option Int) : Option (List T_impl_Version) := (slices_SortStableFunc_impl_Version_impl_Version_w a0 a1).bind fun y => bif (y.length == a0.length) then some y else none
theorem len_slices_SortStableFunc_impl_Version_impl_Version {a0 : List T_impl_Version} {a1 : T_impl_Version → T_impl_Version → Option Int} {y : List T_impl_Version} (h : slices_SortStableFunc_impl_Version_impl_Version a0 a1 = some y) : y.length = a0.length := (bindLen (f := fun y : List T_impl_Version => y) h).2
theorem ok_slices_SortStableFunc_impl_Version_impl_Version {a0 : List T_impl_Version} {g1 : FuncId} {c1 : List V} (hz1 : frzL c1 = true) {a1 : T_impl_Version → T_impl_Version → Option Int} (hp1 : ∀ x0 x1 y, a1 x0 x1 = some y → OK Try.prog g1 ([E x0, E x1] ++ c1) (I y)) {y : List T_impl_Version} (h : slices_SortStableFunc_impl_Version_impl_Version a0 a1 = some y) : OKs Try.prog 119 [] 4 a0.length (eL a0) [.fn g1 c1] (.tup []) (eL y) := by
 refine OKs_of_pwp τ_ok Try.func119 rfl (by kernel_rfl) rfl (eL_frz _) (eL_frz _) (by rw [eL_len, eL_len, len_slices_SortStableFunc_impl_Version_impl_Version h]) fun Γ hQ => ?_
 refine pwp_imp (Imp.to (st' := ⟨9, [(0, rf 0 0 4 a0), (1, .fn g1 c1)], [sl 0 a0]⟩) [0, 1] (by kernel_rfl)) ?_
 have h := (bindLen (f := fun y : List T_impl_Version => y) h).1
 unfold slices_SortStableFunc_impl_Version_impl_Version_w at h
 refine rv 4 9 [(4, rf 0 0 4 a0), (6, I (a0.length : Int)), (7, .fn g1 c1)] [sl 0 a0] ?_
 obtain ⟨v1, hv2, h⟩ := bindS h
 refine opsP_E (dd := some 8) (x := .tup []) (callS_E τ 8 0 0 (ok_slices_stableCmpFunc_impl_Version (hz1) (hp1) hv2) (FzTo.tup FzToL.nil) rfl (by simp only [frzL, frz, hz1, Bool.and_true]) (by kernel_rfl)) ?_
 refine io 9 [(4, rf 0 0 4 a0), (6, I (a0.length : Int)), (7, .fn g1 c1), (8, .tup [])] [sl 0 v1] ?_
 refine opsP_ren (st' := ⟨9, [(4, rf 0 0 4 v1), (6, I (a0.length : Int)), (7, .fn g1 c1), (8, .tup [])], [sl 0 v1]⟩) 0 v1.length (renC (ren_ref (len_slices_stableCmpFunc_impl_Version hv2).symm) (renC trivial (renC trivial (renC trivial renC0)))) (by kernel_rfl) ?_
 refine ve 0 9 [] [sl 0 v1] ?_
 have h := si h
 subst h
 first | exact ⟨.inl rfl, .tup [], _, 0, by kernel_rfl, (OutP.tup (OutL.nil _)), by decide, by decide, by kernel_rfl⟩ | exact pwp_ret ⟨.inr rfl, .tup [], _, 0, by kernel_rfl, (OutP.tup (OutL.nil _)), by decide, by decide, by kernel_rfl⟩
def laws_szEntryS_l0 (a0 : List T_laws_Entry) : Nat → Int → Int → Option Int
 | 0, _, _ => none
 | f4 + 1, x2, x3 => bif (decide (x3 < (a0.length : Int))) then (getI a0 x3).bind fun v7 => (laws_szEntry v7 x2).bind fun v9 => bif (decide (v9 < 0)) then some (-1) else (laws_szEntryS_l0 a0 f4) v9 (w64 (x3 + 1)) else some x2
def laws_szEntryS (a0 : List T_laws_Entry) (a1 : Int) : Option Int := bif (decide ((w64 (a1 - (a0.length : Int))) < 0)) then some (-1) else laws_szEntryS_l0 a0 FUEL (w64 (a1 - (a0.length : Int))) 0
theorem ok_laws_szEntryS {a0 : List T_laws_Entry} {a1 : Int} {y : Int} (h : laws_szEntryS a0 a1 = some y) : OK Try.prog 20 [A a0, I a1] (I y) := by
 refine ow Try.func20 fun Γ hX => ?_
 unfold laws_szEntryS at h
 refine srve 27 [(0, A a0), (1, I a1)] [] ?_
 refine srve 27 [(0, A a0), (1, I (w64 (a1 - (a0.length : Int))))] [] ?_
 refine pwp_seq ?_
 refine srve 27 [(0, A a0), (1, I (w64 (a1 - (a0.length : Int)))), (11, B (decide ((w64 (a1 - (a0.length : Int))) < 0)))] [] ?_
 refine pc h (fun h => ?_) (fun h => ?_)
 refine srve 27 [(4, I (-1))] [] ?_
 cases h
 exact pwp_ret rz
 refine pwp_skip ?_
 refine pwp_seq ?_
 refine srve 27 [(0, A a0), (1, I (w64 (a1 - (a0.length : Int)))), (5, I 0)] [] ?_
 refine pwp_block ?_
 refine pwp_loop (ι := Nat × Int × Int) (fun (f4, x2, x3) => (⟨27, [(0, A a0), (1, I x2), (5, I x3)], []⟩ : St)) (fun (f4, x2, x3) => laws_szEntryS_l0 a0 f4 x2 x3 = some y) Prod.fst (FUEL, (w64 (a1 - (a0.length : Int))), 0) h (it [0, 1, 5]) ?_
 rintro ⟨f4, x2, x3⟩ h
 dsimp only at h ⊢
 rcases f4 with _ | f4
 cases h
 rw [laws_szEntryS_l0] at h
 refine pwp_seq ?_
 refine srve 27 [(0, A a0), (1, I x2), (5, I x3), (15, B (decide (x3 < (a0.length : Int))))] [] ?_
 refine pc h (fun h => ?_) (fun h => ?_)
 refine pwp_skip ?_
 refine pwp_seq ?_
 refine pwp_block ?_
 refine srv 2 27 [(0, A a0), (1, I x2), (5, I x3), (18, A a0), (19, I x3)] [] ?_
 obtain ⟨v7, hv8, h⟩ := bindS h
 refine opsP_idx τ_ok 20 hv8 (by kernel_rfl) ?_
 refine v 2 27 [(0, A a0), (5, I x3), (21, E v7), (22, I x2)] [] ?_
 obtain ⟨v9, hv10, h⟩ := bindS h
 refine cF 23 (ok_laws_szEntry hv10) ?_
 refine ve 1 27 [(0, A a0), (1, I v9), (5, I x3)] [] ?_
 refine srve 27 [(0, A a0), (1, I v9), (5, I x3), (25, B (decide (v9 < 0)))] [] ?_
 refine pc h (fun h => ?_) (fun h => ?_)
 refine srve 27 [(4, I (-1))] [] ?_
 cases h
 exact pwp_ret rz
 refine pwp_skip ?_
 refine rve 27 [(0, A a0), (1, I v9), (5, I (w64 (x3 + 1)))] [] ?_
 exact ⟨(f4, v9, (w64 (x3 + 1))), h, Nat.lt_succ_self _, it [0, 1, 5]⟩
 refine pwp_exit ?_
 refine srve 27 [(4, I x2)] [] ?_
 cases h
 exact pwp_ret rz
def spec_LogBehind_j1 (x2 : Int) (K5 : Int → (List T_impl_Entry) → Option ((List T_impl_Entry) × Bool)) (x7 : List T_impl_Entry) : Option ((List T_impl_Entry) × Bool) := K5 (w64 (x2 + 1)) x7
def spec_LogBehind_j2 (x3 : List T_impl_Entry) (x15 : Bool) : Option ((List T_impl_Entry) × Bool) := bif x15 then some (([] : List T_impl_Entry), false) else (spec_l18Copy x3).bind fun v17 => some (v17, true)
def spec_LogBehind_l0 (a0 : T_impl_Entry) (a1 : List T_impl_Entry) : Nat → Int → (List T_impl_Entry) → Option ((List T_impl_Entry) × Bool)
 | 0, _, _ => none
 | f4 + 1, x2, x3 => bif (decide (x2 < (a1.length : Int))) then (getI a1 x2).bind fun v8 => bif (decide (v8.fTime > a0.fTime)) then (getI a1 x2).bind fun v11 => (app x3 ([v11] : List T_impl_Entry)).bind fun v13 => spec_LogBehind_j1 x2 (spec_LogBehind_l0 a0 a1 f4) v13 else spec_LogBehind_j1 x2 (spec_LogBehind_l0 a0 a1 f4) x3 else (spec_LogOk a1).bind fun v19 => bif (!v19) then spec_LogBehind_j2 x3 true else (spec_LogOk x3).bind fun v21 => spec_LogBehind_j2 x3 (!v21)
def spec_LogBehind (a0 : T_impl_Entry) (a1 : List T_impl_Entry) : Option ((List T_impl_Entry) × Bool) := spec_LogBehind_l0 a0 a1 FUEL 0 ([a0] : List T_impl_Entry)
theorem ok_spec_LogBehind {a0 : T_impl_Entry} {a1 : List T_impl_Entry} {y : (List T_impl_Entry) × Bool} (h : spec_LogBehind a0 a1 = some y) : OK Try.prog 29 [E a0, A a1] (.tup [A y.1, B y.2]) := by
 refine ow Try.func29 fun Γ hX => ?_
 unfold spec_LogBehind at h
 refine srve 42 [(1, A a1), (2, pf a0 0)] [] ?_
 refine srv 1 42 [(1, A a1), (2, pf a0 0), (8, E a0)] [] ?_
 refine opsP_E (dd := some 9) (x := .ref 0 0 0 2 ([a0] : List T_impl_Entry).length false) (bsl_N (cells := eL ([a0] : List T_impl_Entry)) τ_ok 9 0 (nx hX) (by kernel_rfl) (by kernel_rfl)) ?_
 refine ve 1 42 [(1, A a1), (2, pf a0 0), (6, .ref 0 0 0 2 ([a0] : List T_impl_Entry).length false)] [some ⟨0, eL ([a0] : List T_impl_Entry)⟩] ?_
 refine pwp_seq ?_
 refine srve 42 [(1, A a1), (2, pf a0 0), (6, .ref 0 0 0 2 ([a0] : List T_impl_Entry).length false), (7, I 0)] [some ⟨0, eL ([a0] : List T_impl_Entry)⟩] ?_
 refine pwp_block ?_
 refine pwp_loop (ι := Nat × Int × (List T_impl_Entry)) (fun (f4, x2, x3) => (⟨42, [(1, A a1), (2, pf a0 0), (6, rf 0 0 2 x3), (7, I x2)], [sl 0 x3]⟩ : St)) (fun (f4, x2, x3) => spec_LogBehind_l0 a0 a1 f4 x2 x3 = some y) Prod.fst (FUEL, 0, ([a0] : List T_impl_Entry)) h (it [1, 2, 6, 7]) ?_
 rintro ⟨f4, x2, x3⟩ h
 dsimp only at h ⊢
 rcases f4 with _ | f4
 cases h
 rw [spec_LogBehind_l0] at h
 refine pwp_seq ?_
 refine srve 42 [(1, A a1), (2, pf a0 0), (6, rf 0 0 2 x3), (7, I x2), (13, B (decide (x2 < (a1.length : Int))))] [sl 0 x3] ?_
 refine pc h (fun h => ?_) (fun h => ?_)
 refine pwp_skip ?_
 refine pwp_seq ?_
 refine pwp_join (σ := (List T_impl_Entry)) (fun x7 => (⟨42, [(1, A a1), (2, pf a0 0), (6, rf 0 0 2 x7), (7, I x2)], [sl 0 x7]⟩ : St)) (fun x7 => spec_LogBehind_j1 x2 (spec_LogBehind_l0 a0 a1 f4) x7 = some y) ?_ ?_
 refine pwp_block ?_
 refine pwp_seq ?_
 refine ip 42 [(1, A a1), (2, pf a0 0), (6, rf 0 0 2 x3), (7, I x2)] [sl 0 x3] ?_
 refine pN 8 ?_
 refine qv [] trivial 2 42 [(17, I x2), (16, A a1), (1, A a1), (2, pf a0 0), (6, rf 0 0 2 x3), (7, I x2)] [sl 0 x3] ?_
 obtain ⟨v8, hv9, h⟩ := bindS h
 refine qX (some 18) (pf v8 0) 42 [(18, pf v8 0), (1, A a1), (2, pf a0 0), (6, rf 0 0 2 x3), (7, I x2)] [sl 0 x3] (fun Γ' hΓ => CoreE.of_y (idxV_sound τ_ok (by kernel_rfl) hv9)) trivial ?_
 refine qvn [] trivial 5 42 [(1, A a1), (2, pf a0 0), (6, rf 0 0 2 x3), (7, I x2), (23, B (decide (v8.fTime > a0.fTime)))] [sl 0 x3] ?_
 refine pc h (fun h => ?_) (fun h => ?_)
 refine rv 3 42 [(1, A a1), (2, pf a0 0), (7, I x2), (24, rf 0 0 2 x3), (25, A a1), (26, I x2)] [sl 0 x3] ?_
 obtain ⟨v11, hv12, h⟩ := bindS h
 refine opsP_idx τ_ok 27 hv12 (by kernel_rfl) ?_
 refine v 2 42 [(1, A a1), (2, pf a0 0), (7, I x2), (24, rf 0 0 2 x3), (29, .arr 2 ([v11] : List T_impl_Entry).length (eL ([v11] : List T_impl_Entry)) true)] [sl 0 x3] ?_
 obtain ⟨v13, hv14, h⟩ := bindS h
 refine opsP_app τ_ok 30 0 0 (nx hX) hv14 (by kernel_rfl) ?_
 refine ve 1 42 [(1, A a1), (2, pf a0 0), (6, rf 0 1 2 v13), (7, I x2)] [sl 1 v13] ?_
 exact ⟨v13, h, (it (st' := ⟨42, [(1, A a1), (2, pf a0 0), (6, rf 0 1 2 v13), (7, I x2)], [sl 1 v13]⟩) [1, 2, 6, 7]).trans (Imp.reverS 0 1 (eL v13) [1, 2, 6, 7] (by kernel_rfl) (by exact (And.intro (eL_frz _) trivial)) (by kernel_rfl))⟩
 refine pwp_skip ?_
 exact ⟨x3, h, it [1, 2, 6, 7]⟩
 rintro x7 h
 unfold spec_LogBehind_j1 at h
 refine rve 42 [(1, A a1), (2, pf a0 0), (6, rf 0 0 2 x7), (7, I (w64 (x2 + 1)))] [sl 0 x7] ?_
 exact ⟨(f4, (w64 (x2 + 1)), x7), h, Nat.lt_succ_self _, it [1, 2, 6, 7]⟩
 refine pwp_exit ?_
 refine pwp_seq ?_
 refine pwp_seq ?_
 refine pwp_join (σ := Bool) (fun x15 => (⟨42, [(6, rf 0 0 2 x3), (38, B x15)], [sl 0 x3]⟩ : St)) (fun x15 => spec_LogBehind_j2 x3 x15 = some y) ?_ ?_
 refine rv 1 42 [(6, rf 0 0 2 x3), (31, A a1)] [sl 0 x3] ?_
 obtain ⟨v19, hv20, h⟩ := bindS h
 refine cF 32 (ok_spec_LogOk hv20) ?_
 refine v 2 42 [(6, rf 0 0 2 x3), (34, B (!v19))] [sl 0 x3] ?_
 rcases fk (!v19) with hc23 | hc23
 replace h := bT hc23 h
 rw [hc23]
 refine ve 4 42 [(6, rf 0 0 2 x3), (38, B true)] [sl 0 x3] ?_
 exact ⟨true, h, it [6, 38]⟩
 replace h := bF hc23 h
 rw [hc23]
 refine v 1 42 [(6, rf 0 0 2 x3), (34, B false), (35, rf 0 0 2 x3)] [sl 0 x3] ?_
 obtain ⟨v21, hv22, h⟩ := bindS h
 refine opsP_callV (xs := [rf 0 0 2 x3]) τ 36 (ok_spec_LogOk hv22) (Blind.lit _) (FzTo.frz rfl) (by kernel_rfl) (ViewL.cons (View.whole (v := 0) x3 (by kernel_rfl) rfl) (ViewL.nil _)) ?_
 refine ve 2 42 [(6, rf 0 0 2 x3), (38, B (!v21))] [sl 0 x3] ?_
 exact ⟨(!v21), h, it [6, 38]⟩
 rintro x15 h
 unfold spec_LogBehind_j2 at h
 refine pc h (fun h => ?_) (fun h => ?_)
 refine srve 42 [(4, .arr 2 0 (eL ([] : List T_impl_Entry)) true), (5, B false)] [sl 0 x3] ?_
 refine ip 42 [(4, .arr 2 0 (eL ([] : List T_impl_Entry)) true), (5, B false)] [sl 0 x3] ?_
 refine pwp_imp (Imp.unfS (st' := ⟨42, [(4, A ([] : List T_impl_Entry)), (5, B false)], [sl 0 x3]⟩) 4 [4, 5] (by kernel_rfl)) ?_
 have h := si h
 subst h
 exact pwp_ret (rt (.tup [A ([] : List T_impl_Entry), B false]) (OutP.tup (OutL.cons (OutP.frz (by kernel_rfl)) (OutL.cons (OutP.frz (by kernel_rfl)) (OutL.nil _)))))
 refine pwp_skip ?_
 refine srv 1 42 [(40, rf 0 0 2 x3)] [sl 0 x3] ?_
 refine opsP_imp (Imp.freezeB (v := 0) (cs := eL x3) (st' := ⟨42, [(40, A x3)], [none]⟩) 0 0 (nx hX) (by kernel_rfl) (eL_frz _) (wholeC (whole_is (eL_len x3).symm) wholeC0) (HpRel.key HpRel.nil) (by kernel_rfl) rfl (nx hX)) ?_
 obtain ⟨v17, hv18, h⟩ := bindS h
 refine cFo 41 (ok_spec_l18Copy hv18) ?_
 refine ve 2 42 [(4, A v17), (5, B true)] [none] ?_
 have h := si h
 subst h
 exact pwp_ret (rt (.tup [A v17, B true]) (OutP.tup (OutL.cons (OutP.frz (by kernel_rfl)) (OutL.cons (OutP.frz (by kernel_rfl)) (OutL.nil _)))))
def spec_LogRun_j1 (a0 : List T_impl_Entry) (x1 : List T_impl_Version) (x2 : Int) (K4 : (List T_impl_Version) → Int → Option (List T_impl_Version)) (x5 : Bool) : Option (List T_impl_Version) := bif x5 then (getI a0 x2).bind fun v7 => (getI a0 x2).bind fun v9 => (spec_WrittenAt x1 v7.fWrites v9.fTime).bind fun v11 => K4 v11.1 (w64 (x2 + 1)) else some x1
def spec_LogRun_l0 (a0 : List T_impl_Entry) : Nat → (List T_impl_Version) → Int → Option (List T_impl_Version)
 | 0, _, _ => none
 | f3 + 1, x1, x2 => bif (decide (x2 < (a0.length : Int))) then (spec_LogOk a0).bind fun v13 => spec_LogRun_j1 a0 x1 x2 (spec_LogRun_l0 a0 f3) v13 else spec_LogRun_j1 a0 x1 x2 (spec_LogRun_l0 a0 f3) false
def spec_LogRun (a0 : List T_impl_Entry) : Option (List T_impl_Version) := spec_LogRun_l0 a0 FUEL ([] : List T_impl_Version) 0
theorem ok_spec_LogRun {a0 : List T_impl_Entry} {y : List T_impl_Version} (h : spec_LogRun a0 = some y) : OK Try.prog 54 [A a0] (A y) := by
 refine ow Try.func54 fun Γ hX => ?_
 unfold spec_LogRun at h
 refine srve 32 [(0, A a0)] [] ?_
 refine srve 32 [(0, A a0), (3, .arr 4 0 (eL ([] : List T_impl_Version)) true)] [] ?_
 refine pwp_seq ?_
 refine srve 32 [(0, A a0), (3, .arr 4 0 (eL ([] : List T_impl_Version)) true), (4, I 0)] [] ?_
 refine pwp_block ?_
 refine pwp_loop (ι := Nat × (List T_impl_Version) × Int) (fun (f3, x1, x2) => (⟨32, [(0, A a0), (3, A x1), (4, I x2)], []⟩ : St)) (fun (f3, x1, x2) => spec_LogRun_l0 a0 f3 x1 x2 = some y) Prod.fst (FUEL, ([] : List T_impl_Version), 0) h (Imp.unfS 3 [0, 3, 4] (by kernel_rfl)) ?_
 rintro ⟨f3, x1, x2⟩ h
 dsimp only at h ⊢
 rcases f3 with _ | f3
 cases h
 rw [spec_LogRun_l0] at h
 refine pwp_seq ?_
 refine pwp_seq ?_
 refine pwp_join (σ := Bool) (fun x5 => (⟨32, [(0, A a0), (3, A x1), (4, I x2), (13, B x5)], []⟩ : St)) (fun x5 => spec_LogRun_j1 a0 x1 x2 (spec_LogRun_l0 a0 f3) x5 = some y) ?_ ?_
 refine rv 5 32 [(0, A a0), (3, A x1), (4, I x2), (10, B (decide (x2 < (a0.length : Int))))] [] ?_
 rcases fk (decide (x2 < (a0.length : Int))) with hc15 | hc15
 replace h := bT hc15 h
 rw [hc15]
 refine v 1 32 [(0, A a0), (3, A x1), (4, I x2), (10, B true), (11, A a0)] [] ?_
 obtain ⟨v13, hv14, h⟩ := bindS h
 refine cF 12 (ok_spec_LogOk hv14) ?_
 refine ve 1 32 [(0, A a0), (3, A x1), (4, I x2), (11, A a0), (12, B v13), (13, B v13)] [] ?_
 exact ⟨v13, h, it [0, 3, 4, 13]⟩
 replace h := bF hc15 h
 rw [hc15]
 refine ve 3 32 [(0, A a0), (3, A x1), (4, I x2), (11, .lit undef), (12, .lit undef), (13, B false)] [] ?_
 exact ⟨false, h, it [0, 3, 4, 13]⟩
 rintro x5 h
 unfold spec_LogRun_j1 at h
 refine pc h (fun h => ?_) (fun h => ?_)
 refine pwp_skip ?_
 refine pwp_seq ?_
 refine pwp_block ?_
 refine ip 32 [(0, A a0), (3, A x1), (4, I x2)] [] ?_
 refine pN 16 ?_
 refine qv [] trivial 3 32 [(19, I x2), (18, A a0), (17, A x1), (0, A a0), (3, A x1), (4, I x2)] [] ?_
 obtain ⟨v7, hv8, h⟩ := bindS h
 refine qX (some 20) (pf v7 0) 32 [(20, pf v7 0), (17, A x1), (0, A a0), (3, A x1), (4, I x2)] [] (fun Γ' hΓ => CoreE.of_y (idxV_sound τ_ok (by kernel_rfl) hv8)) trivial ?_
 refine qv [] trivial 4 32 [(24, I x2), (23, A a0), (22, A v7.fWrites), (17, A x1), (0, A a0), (3, A x1), (4, I x2)] [] ?_
 obtain ⟨v9, hv10, h⟩ := bindS h
 refine qX (some 25) (pf v9 0) 32 [(25, pf v9 0), (22, A v7.fWrites), (17, A x1), (0, A a0), (3, A x1), (4, I x2)] [] (fun Γ' hΓ => CoreE.of_y (idxV_sound τ_ok (by kernel_rfl) hv10)) trivial ?_
 refine qv [] trivial 2 32 [(27, I v9.fTime), (22, A v7.fWrites), (17, A x1), (0, A a0), (3, A x1), (4, I x2)] [] ?_
 obtain ⟨v11, hv12, h⟩ := bindS h
 refine qX (some 28) (.tup [A v11.1, B v11.2]) 32 [(28, .tup [A v11.1, B v11.2]), (0, A a0), (3, A x1), (4, I x2)] [] (fun Γ' hΓ => CoreE.of_g (callV_sound (τ := τ) (by kernel_rfl) rfl (ok_spec_WrittenAt hv12) (FzTo.tup (FzToL.cons (FzTo.frz rfl) (FzToL.cons (FzTo.frz rfl) FzToL.nil))))) trivial ?_
 refine qvn [] trivial 4 32 [(0, A a0), (3, A v11.1), (4, I x2)] [] ?_
 refine rve 32 [(0, A a0), (3, A v11.1), (4, I (w64 (x2 + 1)))] [] ?_
 exact ⟨(f3, v11.1, (w64 (x2 + 1))), h, Nat.lt_succ_self _, it [0, 3, 4]⟩
 refine pwp_exit ?_
 refine srve 32 [(2, A x1)] [] ?_
 cases h
 exact pwp_ret rz
def impl_written_j2 (a2 : Int) (x13 : Int) (x14 : List T_impl_Version) (K16 : Int → (List T_impl_Version) → Option (List T_impl_Version)) (x18 : Bool) : Option (List T_impl_Version) := bif x18 then (getI x14 x13).bind fun v20 => K16 (w64 (x13 + 1)) (x14.set x13.toNat ({ v20 with fDied := a2 } : T_impl_Version)) else K16 (w64 (x13 + 1)) x14
def impl_written_l1 (a2 : Int) (x4 : Int) (x5 : List T_impl_Version) (K7 : Int → (List T_impl_Version) → Option (List T_impl_Version)) (v9 : T_impl_Write) : Nat → Int → (List T_impl_Version) → Option (List T_impl_Version)
 | 0, _, _ => none
 | f15 + 1, x13, x14 => bif (decide (x13 < (x5.length : Int))) then (getI x14 x13).bind fun v22 => bif (v22.fKey == v9.fKey) then (getI x14 x13).bind fun v24 => impl_written_j2 a2 x13 x14 (impl_written_l1 a2 x4 x5 K7 v9 f15) (v24.fDied == 0) else impl_written_j2 a2 x13 x14 (impl_written_l1 a2 x4 x5 K7 v9 f15) false else bif (!v9.fGone) then (impl_clone_impl_Value v9.fRow).bind fun v28 => (app x14 ([(T_impl_Version.mk v9.fKey a2 0 v28)] : List T_impl_Version)).bind fun v30 => K7 (w64 (x4 + 1)) v30 else K7 (w64 (x4 + 1)) x14
def impl_written_l0 (a1 : List T_impl_Write) (a2 : Int) : Nat → Int → (List T_impl_Version) → Option (List T_impl_Version)
 | 0, _, _ => none
 | f6 + 1, x4, x5 => bif (decide (x4 < (a1.length : Int))) then (getI a1 x4).bind fun v9 => impl_written_l1 a2 x4 x5 (impl_written_l0 a1 a2 f6) v9 FUEL 0 x5 else (slices_SortStableFunc_impl_Version_impl_Version x5 impl_written_1).bind fun v32 => (slices_Clip_impl_Version_impl_Version v32).bind fun v34 => some v34
def impl_written (a0 : List T_impl_Version) (a1 : List T_impl_Write) (a2 : Int) : Option (List T_impl_Version) := (impl_versionsCopy_R a0).bind fun v1 => impl_written_l0 a1 a2 FUEL 0 v1
theorem ok_impl_written {a0 : List T_impl_Version} {a1 : List T_impl_Write} {a2 : Int} {y : List T_impl_Version} (h : impl_written a0 a1 a2 = some y) : OK Try.prog 95 [A a0, A a1, I a2] (A y) := by
 refine ow Try.func95 fun Γ hX => ?_
 unfold impl_written at h
 refine srveM [9] 64 [(0, A a0), (1, A a1), (2, I a2)] [] ?_
 refine srvM [9] 1 64 [(1, A a1), (2, I a2), (11, A a0)] [] ?_
 obtain ⟨v1, hv2, h⟩ := bindS h
 refine opsP_callO τ 12 (ok_impl_versionsCopy_R hv2) rfl (by kernel_rfl) ?_
 refine veM [9] 1 64 [(1, A a1), (2, I a2), (7, rf 0 0 4 v1)] [sl 0 v1] ?_
 refine pwp_seq ?_
 refine srveM [9] 64 [(2, I a2), (7, rf 0 0 4 v1), (13, A a1), (14, I (a1.length : Int)), (15, I 0)] [sl 0 v1] ?_
 refine pwp_block ?_
 refine pwp_loop (ι := Nat × Int × (List T_impl_Version)) (fun (f6, x4, x5) => (⟨64, [(2, I a2), (7, rf 0 0 4 x5), (13, A a1), (14, I (a1.length : Int)), (15, I x4)], [sl 0 x5]⟩ : St)) (fun (f6, x4, x5) => impl_written_l0 a1 a2 f6 x4 x5 = some y) Prod.fst (FUEL, 0, v1) h (it [2, 7, 13, 14, 15]) ?_
 rintro ⟨f6, x4, x5⟩ h
 dsimp only at h ⊢
 rcases f6 with _ | f6
 cases h
 rw [impl_written_l0] at h
 refine srveM [9] 64 [(2, I a2), (7, rf 0 0 4 x5), (13, A a1), (14, I (a1.length : Int)), (15, I x4), (16, B (decide (x4 < (a1.length : Int))))] [sl 0 x5] ?_
 refine pwp_seq ?_
 refine pc h (fun h => ?_) (fun h => ?_)
 refine pwp_skip ?_
 refine pwp_seq ?_
 refine pwp_block ?_
 refine pwp_seq ?_
 refine pwp_region ?_
 obtain ⟨v9, hv10, h⟩ := bindS h
 refine opsP_idx τ_ok 17 hv10 (by kernel_rfl) ?_
 refine veM [9] 3 64 [(2, I a2), (7, rf 0 0 4 x5), (9, .ptr 1 0 0), (13, A a1), (14, I (a1.length : Int)), (15, I x4)] [sl 0 x5, sc 0 v9] ?_
 refine pwp_seq ?_
 refine srveM [9] 64 [(2, I a2), (7, rf 0 0 4 x5), (9, .ptr 1 0 0), (13, A a1), (14, I (a1.length : Int)), (15, I x4), (20, I (x5.length : Int)), (21, I 0)] [sl 0 x5, sc 0 v9] ?_
 refine pwp_block ?_
 refine pwp_loop (ι := Nat × Int × (List T_impl_Version)) (fun (f15, x13, x14) => (⟨64, [(2, I a2), (7, rf 0 0 4 x14), (9, .ptr 1 0 0), (13, A a1), (14, I (a1.length : Int)), (15, I x4), (20, I (x5.length : Int)), (21, I x13)], [sl 0 x14, sc 0 v9]⟩ : St)) (fun (f15, x13, x14) => impl_written_l1 a2 x4 x5 (impl_written_l0 a1 a2 f6) v9 f15 x13 x14 = some y) Prod.fst (FUEL, 0, x5) h (it [2, 7, 9, 13, 14, 15, 20, 21]) ?_
 rintro ⟨f15, x13, x14⟩ h
 dsimp only at h ⊢
 rcases f15 with _ | f15
 cases h
 rw [impl_written_l1] at h
 refine srveM [9] 64 [(2, I a2), (7, rf 0 0 4 x14), (9, .ptr 1 0 0), (13, A a1), (14, I (a1.length : Int)), (15, I x4), (20, I (x5.length : Int)), (21, I x13), (22, B (decide (x13 < (x5.length : Int))))] [sl 0 x14, sc 0 v9] ?_
 refine pwp_seq ?_
 refine pc h (fun h => ?_) (fun h => ?_)
 refine pwp_skip ?_
 refine pwp_seq ?_
 refine pwp_block ?_
 refine srveM [9] 64 [(2, I a2), (7, rf 0 0 4 x14), (9, .ptr 1 0 0), (10, I x13), (13, A a1), (14, I (a1.length : Int)), (15, I x4), (20, I (x5.length : Int)), (21, I x13)] [sl 0 x14, sc 0 v9] ?_
 refine pwp_seq ?_
 refine pwp_join (σ := Bool) (fun x18 => (⟨64, [(2, I a2), (7, rf 0 0 4 x14), (9, .ptr 1 0 0), (10, I x13), (13, A a1), (14, I (a1.length : Int)), (15, I x4), (20, I (x5.length : Int)), (21, I x13), (39, B x18)], [sl 0 x14, sc 0 v9]⟩ : St)) (fun x18 => impl_written_j2 a2 x13 x14 (impl_written_l1 a2 x4 x5 (impl_written_l0 a1 a2 f6) v9 f15) x18 = some y) ?_ ?_
 refine ip 64 [(2, I a2), (7, rf 0 0 4 x14), (9, .ptr 1 0 0), (10, I x13), (13, A a1), (14, I (a1.length : Int)), (15, I x4), (20, I (x5.length : Int)), (21, I x13)] [sl 0 x14, sc 0 v9] ?_
 refine pwp_any ([[0], [], [0], [0], [0], [1], [1], [], [], [0], [], [0], [0], [0], [], []]) ([[], [], [], [], [], [], [], [], [], [], [], [], [], [], [], []]) rfl (by kernel_rfl) ?_
 refine qvM [9] [0] (hL trivial) 1 64 [(24, rf 0 0 4 x14), (2, I a2), (7, rf 0 0 4 x14), (9, .ptr 1 0 0), (10, I x13), (13, A a1), (14, I (a1.length : Int)), (15, I x4), (20, I (x5.length : Int)), (21, I x13)] [sl 0 x14, sc 0 v9] ?_
 refine qvM [9] [] trivial 1 64 [(25, I x13), (24, rf 0 0 4 x14), (2, I a2), (7, rf 0 0 4 x14), (9, .ptr 1 0 0), (10, I x13), (13, A a1), (14, I (a1.length : Int)), (15, I x4), (20, I (x5.length : Int)), (21, I x13)] [sl 0 x14, sc 0 v9] ?_
 obtain ⟨v22, hv23, h⟩ := bindS h
 refine qX (some 26) (.ptr 0 0 (x13.toNat * 4)) 64 [(26, .ptr 0 0 (x13.toNat * 4)), (2, I a2), (7, rf 0 0 4 x14), (9, .ptr 1 0 0), (10, I x13), (13, A a1), (14, I (a1.length : Int)), (15, I x4), (20, I (x5.length : Int)), (21, I x13)] [sl 0 x14, sc 0 v9] (fun Γ' hΓ => CoreE.of_y (idrV_sound (n := x14.length) τ_ok (by kernel_rfl) hv23 rfl)) (hL trivial) ?_
 refine qvM [9] [0] (hL trivial) 1 64 [(27, .ptr 0 0 (x13.toNat * 4)), (2, I a2), (7, rf 0 0 4 x14), (9, .ptr 1 0 0), (10, I x13), (13, A a1), (14, I (a1.length : Int)), (15, I x4), (20, I (x5.length : Int)), (21, I x13)] [sl 0 x14, sc 0 v9] ?_
 refine qX (some 28) (I v22.fKey) 64 [(28, I v22.fKey), (2, I a2), (7, rf 0 0 4 x14), (9, .ptr 1 0 0), (10, I x13), (13, A a1), (14, I (a1.length : Int)), (15, I x4), (20, I (x5.length : Int)), (21, I x13)] [sl 0 x14, sc 0 v9] (fun Γ' hΓ => CoreE.of_y (ldeV_sound (t := 3) (o' := 0) (r := I v22.fKey) τ_ok hv23 (by kernel_rfl) (by kernel_rfl))) (hL trivial) ?_
 refine qvM [9] [1] (hB trivial) 2 64 [(30, I v9.fKey), (28, I v22.fKey), (2, I a2), (7, rf 0 0 4 x14), (9, .ptr 1 0 0), (10, I x13), (13, A a1), (14, I (a1.length : Int)), (15, I x4), (20, I (x5.length : Int)), (21, I x13)] [sl 0 x14, sc 0 v9] ?_
 refine qvM [9] [] trivial 2 64 [(32, B (v22.fKey == v9.fKey)), (2, I a2), (7, rf 0 0 4 x14), (9, .ptr 1 0 0), (10, I x13), (13, A a1), (14, I (a1.length : Int)), (15, I x4), (20, I (x5.length : Int)), (21, I x13)] [sl 0 x14, sc 0 v9] ?_
 rcases fk (v22.fKey == v9.fKey) with hc26 | hc26
 replace h := bT hc26 h
 rw [hc26]
 refine qvM [9] [0] (hL trivial) 1 64 [(33, rf 0 0 4 x14), (32, B true), (2, I a2), (7, rf 0 0 4 x14), (9, .ptr 1 0 0), (10, I x13), (13, A a1), (14, I (a1.length : Int)), (15, I x4), (20, I (x5.length : Int)), (21, I x13)] [sl 0 x14, sc 0 v9] ?_
 refine qvM [9] [] trivial 1 64 [(34, I x13), (33, rf 0 0 4 x14), (32, B true), (2, I a2), (7, rf 0 0 4 x14), (9, .ptr 1 0 0), (10, I x13), (13, A a1), (14, I (a1.length : Int)), (15, I x4), (20, I (x5.length : Int)), (21, I x13)] [sl 0 x14, sc 0 v9] ?_
 obtain ⟨v24, hv25, h⟩ := bindS h
 refine qX (some 35) (.ptr 0 0 (x13.toNat * 4)) 64 [(35, .ptr 0 0 (x13.toNat * 4)), (34, I x13), (33, rf 0 0 4 x14), (32, B true), (2, I a2), (7, rf 0 0 4 x14), (9, .ptr 1 0 0), (10, I x13), (13, A a1), (14, I (a1.length : Int)), (15, I x4), (20, I (x5.length : Int)), (21, I x13)] [sl 0 x14, sc 0 v9] (fun Γ' hΓ => CoreE.of_y (idrV_sound (n := x14.length) τ_ok (by kernel_rfl) hv25 rfl)) (hL trivial) ?_
 refine qvM [9] [0] (hL trivial) 1 64 [(36, .ptr 0 0 (x13.toNat * 4 + 2)), (35, .ptr 0 0 (x13.toNat * 4)), (34, I x13), (33, rf 0 0 4 x14), (32, B true), (2, I a2), (7, rf 0 0 4 x14), (9, .ptr 1 0 0), (10, I x13), (13, A a1), (14, I (a1.length : Int)), (15, I x4), (20, I (x5.length : Int)), (21, I x13)] [sl 0 x14, sc 0 v9] ?_
 refine qX (some 37) (I v24.fDied) 64 [(37, I v24.fDied), (36, .ptr 0 0 (x13.toNat * 4 + 2)), (35, .ptr 0 0 (x13.toNat * 4)), (34, I x13), (33, rf 0 0 4 x14), (32, B true), (2, I a2), (7, rf 0 0 4 x14), (9, .ptr 1 0 0), (10, I x13), (13, A a1), (14, I (a1.length : Int)), (15, I x4), (20, I (x5.length : Int)), (21, I x13)] [sl 0 x14, sc 0 v9] (fun Γ' hΓ => CoreE.of_y (ldeV_sound (t := 3) (o' := 2) (r := I v24.fDied) τ_ok hv25 (by kernel_rfl) (by kernel_rfl))) (hL trivial) ?_
 refine qvnM [9] [] trivial 2 64 [(2, I a2), (7, rf 0 0 4 x14), (9, .ptr 1 0 0), (10, I x13), (13, A a1), (14, I (a1.length : Int)), (15, I x4), (20, I (x5.length : Int)), (21, I x13), (33, rf 0 0 4 x14), (34, I x13), (35, .ptr 0 0 (x13.toNat * 4)), (36, .ptr 0 0 (x13.toNat * 4 + 2)), (37, I v24.fDied), (38, B (v24.fDied == 0)), (39, B (v24.fDied == 0))] [sl 0 x14, sc 0 v9] ?_
 exact ⟨(v24.fDied == 0), h, it [2, 7, 9, 10, 13, 14, 15, 20, 21, 39]⟩
 replace h := bF hc26 h
 rw [hc26]
 refine qvM [9] [0] (hL trivial) 1 64 [(33, .lit undef), (32, B false), (2, I a2), (7, rf 0 0 4 x14), (9, .ptr 1 0 0), (10, I x13), (13, A a1), (14, I (a1.length : Int)), (15, I x4), (20, I (x5.length : Int)), (21, I x13)] [sl 0 x14, sc 0 v9] ?_
 refine qvM [9] [] trivial 1 64 [(34, .lit undef), (33, .lit undef), (32, B false), (2, I a2), (7, rf 0 0 4 x14), (9, .ptr 1 0 0), (10, I x13), (13, A a1), (14, I (a1.length : Int)), (15, I x4), (20, I (x5.length : Int)), (21, I x13)] [sl 0 x14, sc 0 v9] ?_
 refine qvM [9] [0] (hL trivial) 3 64 [(37, .lit undef), (36, .lit undef), (35, .lit undef), (34, .lit undef), (33, .lit undef), (32, B false), (2, I a2), (7, rf 0 0 4 x14), (9, .ptr 1 0 0), (10, I x13), (13, A a1), (14, I (a1.length : Int)), (15, I x4), (20, I (x5.length : Int)), (21, I x13)] [sl 0 x14, sc 0 v9] ?_
 refine qvM [9] [] trivial 2 64 [(39, B false), (38, .lit undef), (37, .lit undef), (36, .lit undef), (35, .lit undef), (34, .lit undef), (33, .lit undef), (2, I a2), (7, rf 0 0 4 x14), (9, .ptr 1 0 0), (10, I x13), (13, A a1), (14, I (a1.length : Int)), (15, I x4), (20, I (x5.length : Int)), (21, I x13)] [sl 0 x14, sc 0 v9] ?_
 refine qn 64 [(2, I a2), (7, rf 0 0 4 x14), (9, .ptr 1 0 0), (10, I x13), (13, A a1), (14, I (a1.length : Int)), (15, I x4), (20, I (x5.length : Int)), (21, I x13), (33, .lit undef), (34, .lit undef), (35, .lit undef), (36, .lit undef), (37, .lit undef), (38, .lit undef), (39, B false)] [sl 0 x14, sc 0 v9] ?_
 exact ⟨false, h, it [2, 7, 9, 10, 13, 14, 15, 20, 21, 39]⟩
 rintro x18 h
 unfold impl_written_j2 at h
 refine pc h (fun h => ?_) (fun h => ?_)
 refine rvM [9] 3 64 [(2, I a2), (7, rf 0 0 4 x14), (9, .ptr 1 0 0), (13, A a1), (14, I (a1.length : Int)), (15, I x4), (20, I (x5.length : Int)), (21, I x13), (40, rf 0 0 4 x14), (41, I x13), (42, I a2)] [sl 0 x14, sc 0 v9] ?_
 obtain ⟨v20, hv21, h⟩ := bindS h
 refine opsP_idr τ_ok 43 0 0 x14.length hv21 rfl (by kernel_rfl) ?_
 refine vM [9] 1 64 [(2, I a2), (7, rf 0 0 4 x14), (9, .ptr 1 0 0), (13, A a1), (14, I (a1.length : Int)), (15, I x4), (20, I (x5.length : Int)), (21, I x13), (42, I a2), (44, .ptr 0 0 (x13.toNat * 4 + 2))] [sl 0 x14, sc 0 v9] ?_
 refine opsP_ste (vs := [I a2]) τ_ok 3 0 0 2 ({ v20 with fDied := a2 } : T_impl_Version) hv21 (by kernel_rfl) (by kernel_rfl) (by kernel_rfl) (renC trivial (renC (ren_ref (List.length_set ..).symm) (renC trivial (renC trivial (renC trivial (renC trivial (renC trivial (renC trivial (renC trivial (renC trivial renC0)))))))))) ?_
 refine veM [9] 0 64 [(2, I a2), (7, .ref 0 0 0 4 (x14.set x13.toNat ({ v20 with fDied := a2 } : T_impl_Version)).length false), (9, .ptr 1 0 0), (13, A a1), (14, I (a1.length : Int)), (15, I x4), (20, I (x5.length : Int)), (21, I x13)] [some ⟨0, eL (x14.set x13.toNat ({ v20 with fDied := a2 } : T_impl_Version))⟩, sc 0 v9] ?_
 refine rveM [9] 64 [(2, I a2), (7, .ref 0 0 0 4 (x14.set x13.toNat ({ v20 with fDied := a2 } : T_impl_Version)).length false), (9, .ptr 1 0 0), (13, A a1), (14, I (a1.length : Int)), (15, I x4), (20, I (x5.length : Int)), (21, I (w64 (x13 + 1)))] [some ⟨0, eL (x14.set x13.toNat ({ v20 with fDied := a2 } : T_impl_Version))⟩, sc 0 v9] ?_
 exact ⟨(f15, (w64 (x13 + 1)), (x14.set x13.toNat ({ v20 with fDied := a2 } : T_impl_Version))), h, Nat.lt_succ_self _, it [2, 7, 9, 13, 14, 15, 20, 21]⟩
 refine pwp_skip ?_
 refine rveM [9] 64 [(2, I a2), (7, rf 0 0 4 x14), (9, .ptr 1 0 0), (13, A a1), (14, I (a1.length : Int)), (15, I x4), (20, I (x5.length : Int)), (21, I (w64 (x13 + 1)))] [sl 0 x14, sc 0 v9] ?_
 exact ⟨(f15, (w64 (x13 + 1)), x14), h, Nat.lt_succ_self _, it [2, 7, 9, 13, 14, 15, 20, 21]⟩
 refine pwp_exit ?_
 refine srveM [9] 64 [(2, I a2), (7, rf 0 0 4 x14), (9, .ptr 1 0 0), (13, A a1), (14, I (a1.length : Int)), (15, I x4), (48, B (!v9.fGone))] [sl 0 x14, sc 0 v9] ?_
 refine pc h (fun h => ?_) (fun h => ?_)
 refine ip 64 [(2, I a2), (7, rf 0 0 4 x14), (9, .ptr 1 0 0), (13, A a1), (14, I (a1.length : Int)), (15, I x4)] [sl 0 x14, sc 0 v9] ?_
 refine pwp_any ([[0], [1], [1], [], [1], [1], [], [], [], [0], [0]]) ([[], [], [], [], [], [], [], [], [], [0], []]) rfl (by kernel_rfl) ?_
 refine qvM [9] [0] (hL trivial) 1 64 [(49, rf 0 0 4 x14), (2, I a2), (7, rf 0 0 4 x14), (9, .ptr 1 0 0), (13, A a1), (14, I (a1.length : Int)), (15, I x4)] [sl 0 x14, sc 0 v9] ?_
 refine qvM [9] [1] (hB trivial) 2 64 [(51, I v9.fKey), (49, rf 0 0 4 x14), (2, I a2), (7, rf 0 0 4 x14), (9, .ptr 1 0 0), (13, A a1), (14, I (a1.length : Int)), (15, I x4)] [sl 0 x14, sc 0 v9] ?_
 refine qvM [9] [] trivial 1 64 [(52, I a2), (51, I v9.fKey), (49, rf 0 0 4 x14), (2, I a2), (7, rf 0 0 4 x14), (9, .ptr 1 0 0), (13, A a1), (14, I (a1.length : Int)), (15, I x4)] [sl 0 x14, sc 0 v9] ?_
 refine qvM [9] [1] (hB trivial) 2 64 [(54, A v9.fRow), (52, I a2), (51, I v9.fKey), (49, rf 0 0 4 x14), (2, I a2), (7, rf 0 0 4 x14), (13, A a1), (14, I (a1.length : Int)), (15, I x4)] [sl 0 x14, sc 0 v9] ?_
 obtain ⟨v28, hv29, h⟩ := bindS h
 refine qX (some 55) (A v28) 64 [(55, A v28), (52, I a2), (51, I v9.fKey), (49, rf 0 0 4 x14), (2, I a2), (7, rf 0 0 4 x14), (13, A a1), (14, I (a1.length : Int)), (15, I x4)] [sl 0 x14, sc 0 v9] (fun Γ' hΓ => CoreE.of_g (callV_sound (τ := τ) (by kernel_rfl) rfl (ok_impl_clone_impl_Value hv29) (FzTo.frz rfl))) trivial ?_
 refine qvM [9] [] trivial 2 64 [(57, .arr 4 ([(T_impl_Version.mk v9.fKey a2 0 v28)] : List T_impl_Version).length (eL ([(T_impl_Version.mk v9.fKey a2 0 v28)] : List T_impl_Version)) true), (49, rf 0 0 4 x14), (2, I a2), (7, rf 0 0 4 x14), (13, A a1), (14, I (a1.length : Int)), (15, I x4)] [sl 0 x14, sc 0 v9] ?_
 obtain ⟨v30, hv31, h⟩ := bindS h
 refine qX (some 58) (rf 0 1 4 v30) 64 [(58, rf 0 1 4 v30), (2, I a2), (7, rf 0 0 4 x14), (13, A a1), (14, I (a1.length : Int)), (15, I x4)] [sl 1 v30, sc 0 v9] (fun Γ' hΓ => app_Ew τ_ok 58 0 0 (ny hΓ hX) hv31 (by kernel_rfl)) (hL trivial) ?_
 refine qvnM [9] [0] (hL trivial) 1 64 [(2, I a2), (7, rf 0 1 4 v30), (13, A a1), (14, I (a1.length : Int)), (15, I x4)] [sl 1 v30, sc 0 v9] ?_
 refine rveM [9] 64 [(2, I a2), (7, rf 0 1 4 v30), (13, A a1), (14, I (a1.length : Int)), (15, I (w64 (x4 + 1)))] [sl 1 v30, sc 0 v9] ?_
 exact ⟨(f6, (w64 (x4 + 1)), v30), h, Nat.lt_succ_self _, qt (it (st' := ⟨64, [(2, I a2), (7, rf 0 1 4 v30), (13, A a1), (14, I (a1.length : Int)), (15, I (w64 (x4 + 1)))], [sl 1 v30, sc 0 v9]⟩) [2, 7, 13, 14, 15]) (qt (Imp.truncS (st' := ⟨64, [(2, I a2), (7, rf 0 1 4 v30), (13, A a1), (14, I (a1.length : Int)), (15, I (w64 (x4 + 1)))], [sl 1 v30]⟩) 1 (nx hX) (by kernel_rfl) (allBelow_mem (by exact (And.intro rfl (And.intro rfl (And.intro rfl (And.intro rfl (And.intro rfl trivial))))))) (by exact (And.intro (frz_below (eL_frz _)) trivial)) (by kernel_rfl)) (Imp.reverS 0 1 (eL v30) [2, 7, 13, 14, 15] (by kernel_rfl) (by exact (And.intro (eL_frz _) trivial)) (by kernel_rfl)))⟩
 refine pwp_skip ?_
 refine rveM [9] 64 [(2, I a2), (7, rf 0 0 4 x14), (13, A a1), (14, I (a1.length : Int)), (15, I (w64 (x4 + 1)))] [sl 0 x14, sc 0 v9] ?_
 exact ⟨(f6, (w64 (x4 + 1)), x14), h, Nat.lt_succ_self _, (it (st' := ⟨64, [(2, I a2), (7, rf 0 0 4 x14), (13, A a1), (14, I (a1.length : Int)), (15, I (w64 (x4 + 1)))], [sl 0 x14, sc 0 v9]⟩) [2, 7, 13, 14, 15]).trans (Imp.truncS 1 (nx hX) (by kernel_rfl) (allBelow_mem (by exact (And.intro rfl (And.intro rfl (And.intro rfl (And.intro rfl (And.intro rfl trivial))))))) (by exact (And.intro (frz_below (eL_frz _)) trivial)) (by kernel_rfl))⟩
 refine pwp_exit ?_
 refine srvM [9] 1 64 [(7, rf 0 0 4 x5), (60, rf 0 0 4 x5)] [sl 0 x5] ?_
 obtain ⟨v32, hv33, h⟩ := bindS h
 refine opsP_E (dd := some 61) (x := .tup []) (callS_E τ 61 0 0 (ok_slices_SortStableFunc_impl_Version_impl_Version (rfl) (fun _ _ w hw => ok_impl_written_1 hw) hv33) (FzTo.tup FzToL.nil) rfl rfl (by kernel_rfl)) ?_
 refine io 64 [(7, rf 0 0 4 x5), (60, rf 0 0 4 x5), (61, .tup [])] [sl 0 v32] ?_
 refine opsP_ren (st' := ⟨64, [(7, rf 0 0 4 v32), (60, rf 0 0 4 v32), (61, .tup [])], [sl 0 v32]⟩) 0 v32.length (renC (ren_ref (len_slices_SortStableFunc_impl_Version_impl_Version hv33).symm) (renC (ren_ref (len_slices_SortStableFunc_impl_Version_impl_Version hv33).symm) (renC trivial renC0))) (by kernel_rfl) ?_
 refine veM [9] 0 64 [(7, rf 0 0 4 v32)] [sl 0 v32] ?_
 refine srvM [9] 1 64 [(62, rf 0 0 4 v32)] [sl 0 v32] ?_
 refine opsP_imp (Imp.freezeB (v := 0) (cs := eL v32) (st' := ⟨64, [(62, A v32)], [none]⟩) 0 0 (nx hX) (by kernel_rfl) (eL_frz _) (wholeC (whole_is (eL_len v32).symm) wholeC0) (HpRel.key HpRel.nil) (by kernel_rfl) rfl (nx hX)) ?_
 obtain ⟨v34, hv35, h⟩ := bindS h
 refine cF 63 (ok_slices_Clip_impl_Version_impl_Version hv35) ?_
 refine veM [9] 1 64 [(6, A v34)] [none] ?_
 cases h
 exact pwp_ret rz
def spec_RestoredAt_j0 (a2 : Int) (v1 : (List T_impl_Entry) × Bool) (x3 : Bool) : Option ((List (List T_impl_Value)) × Bool) := bif x3 then some (([] : List (List T_impl_Value)), false) else (spec_LogCut v1.1 a2).bind fun v5 => (spec_LogRun v5).bind fun v7 => (spec_RowsAt v7 a2).bind fun v9 => some (v9, true)
def spec_RestoredAt (a0 : T_impl_Entry) (a1 : List T_impl_Entry) (a2 : Int) : Option ((List (List T_impl_Value)) × Bool) := (spec_LogBehind a0 a1).bind fun v1 => bif (!v1.2) then spec_RestoredAt_j0 a2 v1 true else spec_RestoredAt_j0 a2 v1 (decide (a2 < a0.fTime))
theorem ok_spec_RestoredAt {a0 : T_impl_Entry} {a1 : List T_impl_Entry} {a2 : Int} {y : (List (List T_impl_Value)) × Bool} (h : spec_RestoredAt a0 a1 a2 = some y) : OK Try.prog 37 [E a0, A a1, I a2] (.tup [A y.1, B y.2]) := by
 refine ow Try.func37 fun Γ hX => ?_
 unfold spec_RestoredAt at h
 refine srve 31 [(1, A a1), (2, I a2), (3, pf a0 0)] [] ?_
 refine srv 2 31 [(2, I a2), (3, pf a0 0), (11, E a0), (12, A a1)] [] ?_
 obtain ⟨v1, hv2, h⟩ := bindS h
 refine opsP_callF τ 13 (ok_spec_LogBehind hv2) (FzTo.tup (FzToL.cons (FzTo.frz rfl) (FzToL.cons (FzTo.frz rfl) FzToL.nil))) rfl (by kernel_rfl) ?_
 refine ve 5 31 [(2, I a2), (3, pf a0 0), (8, A v1.1), (9, B v1.2)] [] ?_
 refine pwp_seq ?_
 refine pwp_seq ?_
 refine pwp_join (σ := Bool) (fun x3 => (⟨31, [(2, I a2), (8, A v1.1), (23, B x3)], []⟩ : St)) (fun x3 => spec_RestoredAt_j0 a2 v1 x3 = some y) ?_ ?_
 refine rv 3 31 [(2, I a2), (3, pf a0 0), (8, A v1.1), (18, B (!v1.2))] [] ?_
 rcases fk (!v1.2) with hc11 | hc11
 replace h := bT hc11 h
 rw [hc11]
 refine ve 5 31 [(2, I a2), (8, A v1.1), (23, B true)] [] ?_
 exact ⟨true, h, it [2, 8, 23]⟩
 replace h := bF hc11 h
 rw [hc11]
 refine ve 5 31 [(2, I a2), (8, A v1.1), (23, B (decide (a2 < a0.fTime)))] [] ?_
 exact ⟨(decide (a2 < a0.fTime)), h, it [2, 8, 23]⟩
 rintro x3 h
 unfold spec_RestoredAt_j0 at h
 refine pc h (fun h => ?_) (fun h => ?_)
 refine srve 31 [(6, .arr 1 0 (eL ([] : List (List T_impl_Value))) true), (7, B false)] [] ?_
 refine ip 31 [(6, .arr 1 0 (eL ([] : List (List T_impl_Value))) true), (7, B false)] [] ?_
 refine pwp_imp (Imp.unfS (st' := ⟨31, [(6, A ([] : List (List T_impl_Value))), (7, B false)], []⟩) 6 [6, 7] (by kernel_rfl)) ?_
 have h := si h
 subst h
 exact pwp_ret (rt (.tup [A ([] : List (List T_impl_Value)), B false]) (OutP.tup (OutL.cons (OutP.frz (by kernel_rfl)) (OutL.cons (OutP.frz (by kernel_rfl)) (OutL.nil _)))))
 refine pwp_skip ?_
 refine srv 2 31 [(2, I a2), (25, A v1.1), (26, I a2)] [] ?_
 obtain ⟨v5, hv6, h⟩ := bindS h
 refine cF 27 (ok_spec_LogCut hv6) ?_
 obtain ⟨v7, hv8, h⟩ := bindS h
 refine cF 28 (ok_spec_LogRun hv8) ?_
 refine v 1 31 [(28, A v7), (29, I a2)] [] ?_
 obtain ⟨v9, hv10, h⟩ := bindS h
 refine cFo 30 (ok_spec_RowsAt hv10) ?_
 refine ve 2 31 [(6, A v9), (7, B true)] [] ?_
 have h := si h
 subst h
 exact pwp_ret (rt (.tup [A v9, B true]) (OutP.tup (OutL.cons (OutP.frz (by kernel_rfl)) (OutL.cons (OutP.frz (by kernel_rfl)) (OutL.nil _)))))
def impl_logRun_l0 (a1 : List T_impl_Entry) : Nat → (List T_impl_Version) → Int → Option (List T_impl_Version)
 | 0, _, _ => none
 | f3 + 1, x1, x2 => bif (decide (x2 < (a1.length : Int))) then (getI a1 x2).bind fun v6 => (impl_written x1 v6.fWrites v6.fTime).bind fun v8 => (impl_logRun_l0 a1 f3) v8 (w64 (x2 + 1)) else (impl_versionsCopy x1).bind fun v10 => some v10
def impl_logRun (a0 : List T_impl_Version) (a1 : List T_impl_Entry) : Option (List T_impl_Version) := impl_logRun_l0 a1 FUEL a0 0
theorem ok_impl_logRun {a0 : List T_impl_Version} {a1 : List T_impl_Entry} {y : List T_impl_Version} (h : impl_logRun a0 a1 = some y) : OK Try.prog 62 [A a0, A a1] (A y) := by
 refine ow Try.func62 fun Γ hX => ?_
 unfold impl_logRun at h
 refine srveM [6] 22 [(0, A a0), (1, A a1)] [] ?_
 refine pwp_seq ?_
 refine srveM [6] 22 [(0, A a0), (7, A a1), (8, I (a1.length : Int)), (9, I 0)] [] ?_
 refine pwp_block ?_
 refine pwp_loop (ι := Nat × (List T_impl_Version) × Int) (fun (f3, x1, x2) => (⟨22, [(0, A x1), (7, A a1), (8, I (a1.length : Int)), (9, I x2)], []⟩ : St)) (fun (f3, x1, x2) => impl_logRun_l0 a1 f3 x1 x2 = some y) Prod.fst (FUEL, a0, 0) h (it [0, 7, 8, 9]) ?_
 rintro ⟨f3, x1, x2⟩ h
 dsimp only at h ⊢
 rcases f3 with _ | f3
 cases h
 rw [impl_logRun_l0] at h
 refine srveM [6] 22 [(0, A x1), (7, A a1), (8, I (a1.length : Int)), (9, I x2), (10, B (decide (x2 < (a1.length : Int))))] [] ?_
 refine pwp_seq ?_
 refine pc h (fun h => ?_) (fun h => ?_)
 refine pwp_skip ?_
 refine pwp_seq ?_
 refine pwp_block ?_
 refine pwp_seq ?_
 refine pwp_region ?_
 obtain ⟨v6, hv7, h⟩ := bindS h
 refine opsP_idx τ_ok 11 hv7 (by kernel_rfl) ?_
 refine veM [6] 3 22 [(0, A x1), (6, .ptr 0 0 0), (7, A a1), (8, I (a1.length : Int)), (9, I x2)] [sc 0 v6] ?_
 refine rvM [6] 5 22 [(7, A a1), (8, I (a1.length : Int)), (9, I x2), (13, A x1), (15, A v6.fWrites), (17, I v6.fTime)] [sc 0 v6] ?_
 obtain ⟨v8, hv9, h⟩ := bindS h
 refine cF 18 (ok_impl_written hv9) ?_
 refine veM [6] 1 22 [(0, A v8), (7, A a1), (8, I (a1.length : Int)), (9, I x2)] [sc 0 v6] ?_
 refine rveM [6] 22 [(0, A v8), (7, A a1), (8, I (a1.length : Int)), (9, I (w64 (x2 + 1)))] [sc 0 v6] ?_
 exact ⟨(f3, v8, (w64 (x2 + 1))), h, Nat.lt_succ_self _, (it (st' := ⟨22, [(0, A v8), (7, A a1), (8, I (a1.length : Int)), (9, I (w64 (x2 + 1)))], [sc 0 v6]⟩) [0, 7, 8, 9]).trans (Imp.truncS 0 (nx hX) (by kernel_rfl) (allBelow_mem (by exact (And.intro rfl (And.intro rfl (And.intro rfl (And.intro rfl trivial)))))) (by exact trivial) (by kernel_rfl))⟩
 refine pwp_exit ?_
 refine srvM [6] 1 22 [(20, A x1)] [] ?_
 obtain ⟨v10, hv11, h⟩ := bindS h
 refine cF 21 (ok_impl_versionsCopy hv11) ?_
 refine veM [6] 1 22 [(4, A v10)] [] ?_
 cases h
 exact pwp_ret rz
def laws_toWrite_D (a0 : T_laws_Write) : Option T_impl_Write := (laws_toValueS a0.fRow).bind fun v1 => some (T_impl_Write.mk a0.fKey v1 a0.fGone)
theorem ok_laws_toWrite_D {a0 : T_laws_Write} {y : T_impl_Write} (h : laws_toWrite_D a0 = some y) : OK Try.prog 104 [E a0] (.agg (DEnc.cells y)) := by
 refine ow Try.func104 fun Γ hX => ?_
 unfold laws_toWrite_D at h
 refine srvM [1, 2, 3] 1 15 [(1, .ptr 0 0 0)] [sc 0 a0] ?_
 refine opsP_imp (Imp.ghosts 1 (st' := ⟨15, [(1, .ptr 0 0 0)], [sc 0 a0, some ⟨0, []⟩]⟩) (by kernel_rfl)) ?_
 refine opsP_E (dd := some 2) (x := .ptr 1 1 0) (alz_E (blk := ⟨0, []⟩) (zs := [.lit (.int .i64 0), .arr 3 0 [] true, .lit (.bool false)]) 2 77 1 0 (nx hX) zi_ok77 (by kernel_rfl) (by kernel_rfl)) ?_
 refine veM [1, 2, 3] 0 15 [(1, .ptr 0 0 0), (2, .ptr 1 1 0)] [sc 0 a0, some ⟨1, [I 0, .arr 3 0 (eL ([] : List T_impl_Value)) true, B false]⟩] ?_
 refine srvM [1, 2, 3] 0 15 [(1, .ptr 0 0 0), (2, .ptr 1 1 0)] [sc 0 a0, some ⟨1, [I 0, .arr 3 0 (eL ([] : List T_impl_Value)) true, B false]⟩] ?_
 refine opsP_imp (Imp.ghosts 1 (st' := ⟨15, [(1, .ptr 0 0 0), (2, .ptr 1 1 0)], [sc 0 a0, some ⟨1, [I 0, .arr 3 0 (eL ([] : List T_impl_Value)) true, B false]⟩, some ⟨0, []⟩]⟩) (by kernel_rfl)) ?_
 refine opsP_E (dd := some 3) (x := .ptr 2 1 0) (alz_E (blk := ⟨0, []⟩) (zs := [.lit (.int .i64 0), .arr 3 0 [] true, .lit (.bool false)]) 3 77 2 0 (nx hX) zi_ok77 (by kernel_rfl) (by kernel_rfl)) ?_
 refine veM [1, 2, 3] 0 15 [(1, .ptr 0 0 0), (2, .ptr 1 1 0), (3, .ptr 2 1 0)] [sc 0 a0, some ⟨1, [I 0, .arr 3 0 (eL ([] : List T_impl_Value)) true, B false]⟩, some ⟨1, [I 0, .arr 3 0 (eL ([] : List T_impl_Value)) true, B false]⟩] ?_
 refine srveM [1, 2, 3] 15 [(1, .ptr 0 0 0), (2, .ptr 1 1 0), (3, .ptr 2 1 0)] [sc 0 a0, some ⟨1, [I 0, .arr 3 0 (eL ([] : List T_impl_Value)) true, B false]⟩, some ⟨1, [I a0.fKey, .arr 3 0 (eL ([] : List T_impl_Value)) true, B false]⟩] ?_
 refine srvM [1, 2, 3] 2 15 [(1, .ptr 0 0 0), (2, .ptr 1 1 0), (3, .ptr 2 1 0), (8, A a0.fRow)] [sc 0 a0, some ⟨1, [I 0, .arr 3 0 (eL ([] : List T_impl_Value)) true, B false]⟩, some ⟨1, [I a0.fKey, .arr 3 0 (eL ([] : List T_impl_Value)) true, B false]⟩] ?_
 obtain ⟨v1, hv2, h⟩ := bindS h
 refine opsP_callO τ 9 (ok_laws_toValueS hv2) rfl (by kernel_rfl) ?_
 refine veM [1, 2, 3] 2 15 [(1, .ptr 0 0 0), (2, .ptr 1 1 0), (3, .ptr 2 1 0)] [sc 0 a0, some ⟨1, [I 0, .arr 3 0 (eL ([] : List T_impl_Value)) true, B false]⟩, some ⟨1, [I a0.fKey, rf 3 0 3 v1, B false]⟩, sl 0 v1] ?_
 refine srveM [1, 2, 3] 15 [(2, .ptr 1 1 0), (3, .ptr 2 1 0)] [sc 0 a0, some ⟨1, [I 0, .arr 3 0 (eL ([] : List T_impl_Value)) true, B false]⟩, some ⟨1, [I a0.fKey, rf 3 0 3 v1, B a0.fGone]⟩, sl 0 v1] ?_
 refine srveM [1, 2, 3] 15 [(2, .ptr 1 1 0)] [sc 0 a0, some ⟨1, [I a0.fKey, rf 3 0 3 v1, B a0.fGone]⟩, some ⟨1, [I a0.fKey, rf 3 0 3 v1, B a0.fGone]⟩, sl 0 v1] ?_
 have h := si h
 subst h
 exact pwp_ret (rt (.agg [I a0.fKey, rf 3 0 3 v1, B a0.fGone]) (OutP.agg (OutL.cons (OutP.frz rfl) (OutL.cons (OutP.listn (v := 0) (xs := v1) rfl (by kernel_rfl)) (OutL.cons (OutP.frz rfl) (OutL.nil _))))))
def laws_toWriteS_D_l0 (a0 : List T_laws_Write) : Nat → Int → (List T_impl_Write) → Option (List T_impl_Write)
 | 0, _, _ => none
 | f6 + 1, x4, x5 => bif (decide (x4 < (a0.length : Int))) then (getI a0 x4).bind fun v9 => (laws_toWrite_D v9).bind fun v11 => (getI x5 x4).bind fun v13 => (laws_toWriteS_D_l0 a0 f6) (w64 (x4 + 1)) (x5.set x4.toNat ({ v11 with fRow := v11.fRow } : T_impl_Write)) else some x5
def laws_toWriteS_D (a0 : List T_laws_Write) : Option (List T_impl_Write) := (mkI (a0.length : Int) (T_impl_Write.mk 0 [] false)).bind fun v1 => laws_toWriteS_D_l0 a0 FUEL 0 v1
theorem ok_laws_toWriteS_D {a0 : List T_laws_Write} {y : List T_impl_Write} (h : laws_toWriteS_D a0 = some y) : OK Try.prog 78 [A a0] (OD y) := by
 refine ow Try.func78 fun Γ hX => ?_
 unfold laws_toWriteS_D at h
 refine srve 23 [(0, A a0)] [] ?_
 refine srv 2 23 [(0, A a0), (6, I (a0.length : Int))] [] ?_
 obtain ⟨v1, hv2, h⟩ := bindS h
 refine opsP_E (dd := some 7) (x := rf 0 0 3 v1) (mkD_N τ_ok 7 0 77 (nx hX) (by kernel_rfl) _ hv2 dz_ok77 (by kernel_rfl)) ?_
 refine ve 1 23 [(0, A a0), (3, rf 0 0 3 v1)] [some ⟨0, dL v1⟩] ?_
 refine pwp_seq ?_
 refine srve 23 [(0, A a0), (3, rf 0 0 3 v1), (4, I 0)] [some ⟨0, dL v1⟩] ?_
 refine pwp_block ?_
 refine pwp_loop (ι := Nat × Int × (List T_impl_Write)) (fun (f6, x4, x5) => (⟨23, [(0, A a0), (3, rf 0 0 3 x5), (4, I x4)], [some ⟨0, dL x5⟩]⟩ : St)) (fun (f6, x4, x5) => laws_toWriteS_D_l0 a0 f6 x4 x5 = some y) Prod.fst (FUEL, 0, v1) h (it [0, 3, 4]) ?_
 rintro ⟨f6, x4, x5⟩ h
 dsimp only at h ⊢
 rcases f6 with _ | f6
 cases h
 rw [laws_toWriteS_D_l0] at h
 refine pwp_seq ?_
 refine srve 23 [(0, A a0), (3, rf 0 0 3 x5), (4, I x4), (11, B (decide (x4 < (a0.length : Int))))] [some ⟨0, dL x5⟩] ?_
 refine pc h (fun h => ?_) (fun h => ?_)
 refine pwp_skip ?_
 refine pwp_seq ?_
 refine pwp_block ?_
 refine rv 4 23 [(0, A a0), (3, rf 0 0 3 x5), (4, I x4), (14, rf 0 0 3 x5), (15, I x4), (16, A a0), (17, I x4)] [some ⟨0, dL x5⟩] ?_
 obtain ⟨v9, hv10, h⟩ := bindS h
 refine opsP_idx τ_ok 18 hv10 (by kernel_rfl) ?_
 refine v 1 23 [(0, A a0), (3, rf 0 0 3 x5), (4, I x4), (14, rf 0 0 3 x5), (15, I x4), (19, E v9)] [some ⟨0, dL x5⟩] ?_
 obtain ⟨v11, hv12, h⟩ := bindS h
 refine opsP_callO τ 20 (ok_laws_toWrite_D hv12) rfl (by kernel_rfl) ?_
 obtain ⟨v13, hv14, h⟩ := bindS h
 refine opsP_idr τ_ok 21 0 0 x5.length hv14 rfl (by kernel_rfl) ?_
 refine v 0 23 [(0, A a0), (3, rf 0 0 3 x5), (4, I x4), (20, .agg [I v11.fKey, rf 1 0 3 v11.fRow, B v11.fGone]), (21, .ptr 0 0 (x4.toNat * 3))] [some ⟨0, dL x5⟩, sl 0 v11.fRow] ?_
 refine opsP_E (dd := none) (x := .any) ((std_E (xs := x5) (vs := [I v11.fKey, rf 1 0 3 v11.fRow, B v11.fGone]) (cells' := setL (dL x5) (x4.toNat * 3 + 0) [I v11.fKey, rf 1 0 3 v11.fRow, B v11.fGone]) τ_ok 77 0 0 0 hv14 (by kernel_rfl) (by kernel_rfl) rfl).then (H2 := [some ⟨0, dL (x5.set x4.toNat ({ v11 with fRow := v11.fRow } : T_impl_Write))⟩, some ⟨1, []⟩]) (HStep.nestL (xs := x5) (vs := [I v11.fKey, rf 1 0 3 v11.fRow, B v11.fGone]) 0 0 0 ({ v11 with fRow := v11.fRow } : T_impl_Write) hv14 (by kernel_rfl) (OutL.cons (OutP.frz rfl) (OutL.cons (OutP.listn (v := 0) (xs := v11.fRow) rfl (by kernel_rfl)) (OutL.cons (OutP.frz rfl) (OutL.nil _)))) (by decide) (by decide) (nx hX) (by kernel_rfl) (by kernel_rfl) (by kernel_rfl) (by kernel_rfl))) ?_
 refine io 23 [(0, A a0), (3, rf 0 0 3 x5), (4, I x4)] [some ⟨0, dL (x5.set x4.toNat ({ v11 with fRow := v11.fRow } : T_impl_Write))⟩, some ⟨1, []⟩] ?_
 refine opsP_ren (st' := ⟨23, [(0, A a0), (3, .ref 0 0 0 3 (x5.set x4.toNat ({ v11 with fRow := v11.fRow } : T_impl_Write)).length false), (4, I x4)], [some ⟨0, dL (x5.set x4.toNat ({ v11 with fRow := v11.fRow } : T_impl_Write))⟩, some ⟨1, []⟩]⟩) 0 (x5.set x4.toNat ({ v11 with fRow := v11.fRow } : T_impl_Write)).length (renC trivial (renC (ren_ref (List.length_set ..).symm) (renC trivial renC0))) (by kernel_rfl) ?_
 refine ve 0 23 [(0, A a0), (3, .ref 0 0 0 3 (x5.set x4.toNat ({ v11 with fRow := v11.fRow } : T_impl_Write)).length false), (4, I x4)] [some ⟨0, dL (x5.set x4.toNat ({ v11 with fRow := v11.fRow } : T_impl_Write))⟩, some ⟨1, []⟩] ?_
 refine rve 23 [(0, A a0), (3, .ref 0 0 0 3 (x5.set x4.toNat ({ v11 with fRow := v11.fRow } : T_impl_Write)).length false), (4, I (w64 (x4 + 1)))] [some ⟨0, dL (x5.set x4.toNat ({ v11 with fRow := v11.fRow } : T_impl_Write))⟩, some ⟨1, []⟩] ?_
 exact ⟨(f6, (w64 (x4 + 1)), (x5.set x4.toNat ({ v11 with fRow := v11.fRow } : T_impl_Write))), h, Nat.lt_succ_self _, (it (st' := ⟨23, [(0, A a0), (3, .ref 0 0 0 3 (x5.set x4.toNat ({ v11 with fRow := v11.fRow } : T_impl_Write)).length false), (4, I (w64 (x4 + 1)))], [some ⟨0, dL (x5.set x4.toNat ({ v11 with fRow := v11.fRow } : T_impl_Write))⟩, some ⟨1, []⟩]⟩) [0, 3, 4]).trans (Imp.truncS 1 (nx hX) (by kernel_rfl) (allBelow_mem (by exact (And.intro rfl (And.intro rfl (And.intro rfl trivial))))) (by exact (And.intro (dL_below _ _) trivial)) (by kernel_rfl))⟩
 refine pwp_exit ?_
 refine srve 23 [(2, rf 0 0 3 x5)] [some ⟨0, dL x5⟩] ?_
 have h := si h
 subst h
 exact pwp_ret (rt (rf 0 0 3 x5) (OutP.listD (v := 0) (by kernel_rfl)))
def laws_toEntry_D (a0 : T_laws_Entry) : Option T_impl_Entry := (laws_toWriteS_D a0.fWrites).bind fun v1 => some (T_impl_Entry.mk a0.fTime v1)
theorem ok_laws_toEntry_D {a0 : T_laws_Entry} {y : T_impl_Entry} (h : laws_toEntry_D a0 = some y) : OK Try.prog 39 [E a0] (.agg (DEnc.cells y)) := by
 refine ow Try.func39 fun Γ hX => ?_
 unfold laws_toEntry_D at h
 refine srvM [1, 2, 3] 1 12 [(1, .ptr 0 0 0)] [sc 0 a0] ?_
 refine opsP_imp (Imp.ghosts 1 (st' := ⟨12, [(1, .ptr 0 0 0)], [sc 0 a0, some ⟨0, []⟩]⟩) (by kernel_rfl)) ?_
 refine opsP_E (dd := some 2) (x := .ptr 1 1 0) (alz_E (blk := ⟨0, []⟩) (zs := [.lit (.int .i64 0), .arr 3 0 [] true]) 2 28 1 0 (nx hX) zi_ok28 (by kernel_rfl) (by kernel_rfl)) ?_
 refine veM [1, 2, 3] 0 12 [(1, .ptr 0 0 0), (2, .ptr 1 1 0)] [sc 0 a0, some ⟨1, [I 0, .arr 3 0 (eL ([] : List T_impl_Write)) true]⟩] ?_
 refine srvM [1, 2, 3] 0 12 [(1, .ptr 0 0 0), (2, .ptr 1 1 0)] [sc 0 a0, some ⟨1, [I 0, .arr 3 0 (eL ([] : List T_impl_Write)) true]⟩] ?_
 refine opsP_imp (Imp.ghosts 1 (st' := ⟨12, [(1, .ptr 0 0 0), (2, .ptr 1 1 0)], [sc 0 a0, some ⟨1, [I 0, .arr 3 0 (eL ([] : List T_impl_Write)) true]⟩, some ⟨0, []⟩]⟩) (by kernel_rfl)) ?_
 refine opsP_E (dd := some 3) (x := .ptr 2 1 0) (alz_E (blk := ⟨0, []⟩) (zs := [.lit (.int .i64 0), .arr 3 0 [] true]) 3 28 2 0 (nx hX) zi_ok28 (by kernel_rfl) (by kernel_rfl)) ?_
 refine veM [1, 2, 3] 0 12 [(1, .ptr 0 0 0), (2, .ptr 1 1 0), (3, .ptr 2 1 0)] [sc 0 a0, some ⟨1, [I 0, .arr 3 0 (eL ([] : List T_impl_Write)) true]⟩, some ⟨1, [I 0, .arr 3 0 (eL ([] : List T_impl_Write)) true]⟩] ?_
 refine srveM [1, 2, 3] 12 [(1, .ptr 0 0 0), (2, .ptr 1 1 0), (3, .ptr 2 1 0)] [sc 0 a0, some ⟨1, [I 0, .arr 3 0 (eL ([] : List T_impl_Write)) true]⟩, some ⟨1, [I a0.fTime, .arr 3 0 (eL ([] : List T_impl_Write)) true]⟩] ?_
 refine srvM [1, 2, 3] 2 12 [(2, .ptr 1 1 0), (3, .ptr 2 1 0), (8, A a0.fWrites)] [sc 0 a0, some ⟨1, [I 0, .arr 3 0 (eL ([] : List T_impl_Write)) true]⟩, some ⟨1, [I a0.fTime, .arr 3 0 (eL ([] : List T_impl_Write)) true]⟩] ?_
 obtain ⟨v1, hv2, h⟩ := bindS h
 refine opsP_callO τ 9 (ok_laws_toWriteS_D hv2) rfl (by kernel_rfl) ?_
 refine veM [1, 2, 3] 2 12 [(2, .ptr 1 1 0), (3, .ptr 2 1 0)] [sc 0 a0, some ⟨1, [I 0, .arr 3 0 (eL ([] : List T_impl_Write)) true]⟩, some ⟨1, [I a0.fTime, rf 3 0 3 v1]⟩, some ⟨0, dL v1⟩] ?_
 refine srveM [1, 2, 3] 12 [(2, .ptr 1 1 0)] [sc 0 a0, some ⟨1, [I a0.fTime, rf 3 0 3 v1]⟩, some ⟨1, [I a0.fTime, rf 3 0 3 v1]⟩, some ⟨0, dL v1⟩] ?_
 have h := si h
 subst h
 exact pwp_ret (rt (.agg [I a0.fTime, rf 3 0 3 v1]) (OutP.agg (OutL.cons (OutP.frz rfl) (OutL.cons (OutP.listDn (v := 0) (xs := v1) rfl (by kernel_rfl)) (OutL.nil _)))))
def laws_toEntryS_D_l0 (a0 : List T_laws_Entry) : Nat → Int → (List T_impl_Entry) → Option (List T_impl_Entry)
 | 0, _, _ => none
 | f6 + 1, x4, x5 => bif (decide (x4 < (a0.length : Int))) then (getI a0 x4).bind fun v9 => (laws_toEntry_D v9).bind fun v11 => (getI x5 x4).bind fun v13 => (laws_toEntryS_D_l0 a0 f6) (w64 (x4 + 1)) (x5.set x4.toNat ({ v11 with fWrites := v11.fWrites } : T_impl_Entry)) else some x5
def laws_toEntryS_D (a0 : List T_laws_Entry) : Option (List T_impl_Entry) := (mkI (a0.length : Int) (T_impl_Entry.mk 0 [])).bind fun v1 => laws_toEntryS_D_l0 a0 FUEL 0 v1
theorem ok_laws_toEntryS_D {a0 : List T_laws_Entry} {y : List T_impl_Entry} (h : laws_toEntryS_D a0 = some y) : OK Try.prog 21 [A a0] (OD y) := by
 refine ow Try.func21 fun Γ hX => ?_
 unfold laws_toEntryS_D at h
 refine srve 23 [(0, A a0)] [] ?_
 refine srv 2 23 [(0, A a0), (6, I (a0.length : Int))] [] ?_
 obtain ⟨v1, hv2, h⟩ := bindS h
 refine opsP_E (dd := some 7) (x := rf 0 0 2 v1) (mkD_N τ_ok 7 0 28 (nx hX) (by kernel_rfl) _ hv2 dz_ok28 (by kernel_rfl)) ?_
 refine ve 1 23 [(0, A a0), (3, rf 0 0 2 v1)] [some ⟨0, dL v1⟩] ?_
 refine pwp_seq ?_
 refine srve 23 [(0, A a0), (3, rf 0 0 2 v1), (4, I 0)] [some ⟨0, dL v1⟩] ?_
 refine pwp_block ?_
 refine pwp_loop (ι := Nat × Int × (List T_impl_Entry)) (fun (f6, x4, x5) => (⟨23, [(0, A a0), (3, rf 0 0 2 x5), (4, I x4)], [some ⟨0, dL x5⟩]⟩ : St)) (fun (f6, x4, x5) => laws_toEntryS_D_l0 a0 f6 x4 x5 = some y) Prod.fst (FUEL, 0, v1) h (it [0, 3, 4]) ?_
 rintro ⟨f6, x4, x5⟩ h
 dsimp only at h ⊢
 rcases f6 with _ | f6
 cases h
 rw [laws_toEntryS_D_l0] at h
 refine pwp_seq ?_
 refine srve 23 [(0, A a0), (3, rf 0 0 2 x5), (4, I x4), (11, B (decide (x4 < (a0.length : Int))))] [some ⟨0, dL x5⟩] ?_
 refine pc h (fun h => ?_) (fun h => ?_)
 refine pwp_skip ?_
 refine pwp_seq ?_
 refine pwp_block ?_
 refine rv 4 23 [(0, A a0), (3, rf 0 0 2 x5), (4, I x4), (14, rf 0 0 2 x5), (15, I x4), (16, A a0), (17, I x4)] [some ⟨0, dL x5⟩] ?_
 obtain ⟨v9, hv10, h⟩ := bindS h
 refine opsP_idx τ_ok 18 hv10 (by kernel_rfl) ?_
 refine v 1 23 [(0, A a0), (3, rf 0 0 2 x5), (4, I x4), (14, rf 0 0 2 x5), (15, I x4), (19, E v9)] [some ⟨0, dL x5⟩] ?_
 obtain ⟨v11, hv12, h⟩ := bindS h
 refine opsP_callO τ 20 (ok_laws_toEntry_D hv12) rfl (by kernel_rfl) ?_
 obtain ⟨v13, hv14, h⟩ := bindS h
 refine opsP_idr τ_ok 21 0 0 x5.length hv14 rfl (by kernel_rfl) ?_
 refine v 0 23 [(0, A a0), (3, rf 0 0 2 x5), (4, I x4), (20, .agg [I v11.fTime, rf 1 0 3 v11.fWrites]), (21, .ptr 0 0 (x4.toNat * 2))] [some ⟨0, dL x5⟩, some ⟨0, dL v11.fWrites⟩] ?_
 refine opsP_E (dd := none) (x := .any) ((std_E (xs := x5) (vs := [I v11.fTime, rf 1 0 3 v11.fWrites]) (cells' := setL (dL x5) (x4.toNat * 2 + 0) [I v11.fTime, rf 1 0 3 v11.fWrites]) τ_ok 28 0 0 0 hv14 (by kernel_rfl) (by kernel_rfl) rfl).then (H2 := [some ⟨0, dL (x5.set x4.toNat ({ v11 with fWrites := v11.fWrites } : T_impl_Entry))⟩, some ⟨1, []⟩]) (HStep.nestL (xs := x5) (vs := [I v11.fTime, rf 1 0 3 v11.fWrites]) 0 0 0 ({ v11 with fWrites := v11.fWrites } : T_impl_Entry) hv14 (by kernel_rfl) (OutL.cons (OutP.frz rfl) (OutL.cons (OutP.listDn (v := 0) (xs := v11.fWrites) rfl (by kernel_rfl)) (OutL.nil _))) (by decide) (by decide) (nx hX) (by kernel_rfl) (by kernel_rfl) (by kernel_rfl) (by kernel_rfl))) ?_
 refine io 23 [(0, A a0), (3, rf 0 0 2 x5), (4, I x4)] [some ⟨0, dL (x5.set x4.toNat ({ v11 with fWrites := v11.fWrites } : T_impl_Entry))⟩, some ⟨1, []⟩] ?_
 refine opsP_ren (st' := ⟨23, [(0, A a0), (3, .ref 0 0 0 2 (x5.set x4.toNat ({ v11 with fWrites := v11.fWrites } : T_impl_Entry)).length false), (4, I x4)], [some ⟨0, dL (x5.set x4.toNat ({ v11 with fWrites := v11.fWrites } : T_impl_Entry))⟩, some ⟨1, []⟩]⟩) 0 (x5.set x4.toNat ({ v11 with fWrites := v11.fWrites } : T_impl_Entry)).length (renC trivial (renC (ren_ref (List.length_set ..).symm) (renC trivial renC0))) (by kernel_rfl) ?_
 refine ve 0 23 [(0, A a0), (3, .ref 0 0 0 2 (x5.set x4.toNat ({ v11 with fWrites := v11.fWrites } : T_impl_Entry)).length false), (4, I x4)] [some ⟨0, dL (x5.set x4.toNat ({ v11 with fWrites := v11.fWrites } : T_impl_Entry))⟩, some ⟨1, []⟩] ?_
 refine rve 23 [(0, A a0), (3, .ref 0 0 0 2 (x5.set x4.toNat ({ v11 with fWrites := v11.fWrites } : T_impl_Entry)).length false), (4, I (w64 (x4 + 1)))] [some ⟨0, dL (x5.set x4.toNat ({ v11 with fWrites := v11.fWrites } : T_impl_Entry))⟩, some ⟨1, []⟩] ?_
 exact ⟨(f6, (w64 (x4 + 1)), (x5.set x4.toNat ({ v11 with fWrites := v11.fWrites } : T_impl_Entry))), h, Nat.lt_succ_self _, (it (st' := ⟨23, [(0, A a0), (3, .ref 0 0 0 2 (x5.set x4.toNat ({ v11 with fWrites := v11.fWrites } : T_impl_Entry)).length false), (4, I (w64 (x4 + 1)))], [some ⟨0, dL (x5.set x4.toNat ({ v11 with fWrites := v11.fWrites } : T_impl_Entry))⟩, some ⟨1, []⟩]⟩) [0, 3, 4]).trans (Imp.truncS 1 (nx hX) (by kernel_rfl) (allBelow_mem (by exact (And.intro rfl (And.intro rfl (And.intro rfl trivial))))) (by exact (And.intro (dL_below _ _) trivial)) (by kernel_rfl))⟩
 refine pwp_exit ?_
 refine srve 23 [(2, rf 0 0 2 x5)] [some ⟨0, dL x5⟩] ?_
 have h := si h
 subst h
 exact pwp_ret (rt (rf 0 0 2 x5) (OutP.listD (v := 0) (by kernel_rfl)))
def slices_Clip_impl_Value_impl_Value_s3_D (a0 : List (List T_impl_Value)) : Option (List (List T_impl_Value)) := (slI a0 none (some (a0.length : Int)) (some (a0.length : Int))).bind fun v1 => some v1
theorem ok_slices_Clip_impl_Value_impl_Value_s3_D {a0 : List (List T_impl_Value)} {y : List (List T_impl_Value)} (h : slices_Clip_impl_Value_impl_Value_s3_D a0 = some y) : OKm Try.prog 94 [OD a0] (OD y) := by
 refine OKm_of_pwp (sl := [rf 0 0 1 a0]) (bs := [⟨0, dL a0⟩]) τ_ok Try.func94 rfl (by kernel_rfl) rfl (by kernel_rfl) fun Γ hX => ?_
 refine pwp_imp (Imp.to (st' := ⟨9, [(0, rf 0 0 1 a0)], [some ⟨0, dL a0⟩]⟩) [0] (by kernel_rfl)) ?_
 unfold slices_Clip_impl_Value_impl_Value_s3_D at h
 refine srve 9 [(0, rf 0 0 1 a0)] [some ⟨0, dL a0⟩] ?_
 refine srv 5 9 [(3, rf 0 0 1 a0), (5, I (a0.length : Int)), (7, I (a0.length : Int))] [some ⟨0, dL a0⟩] ?_
 obtain ⟨v1, hv2, h⟩ := bindS h
 refine opsP_slr τ_ok 8 0 0 a0.length hv2 rfl (by kernel_rfl) ?_
 refine ve 1 9 [(2, rf 0 0 1 v1)] [some ⟨0, dL a0⟩] ?_
 refine ip 9 [(2, rf 0 0 1 v1)] [some ⟨0, dL a0⟩] ?_
 refine pwp_imp (Imp.cutD (st' := ⟨9, [(2, rf 0 0 1 v1)], [some ⟨0, dL v1⟩]⟩) 0 0 a0 v1 (by kernel_rfl) (slI_view hv2) (by kernel_rfl)) ?_
 have h := si h
 subst h
 exact pwp_ret (rt (rf 0 0 1 v1) (OutP.listD (v := 0) (by kernel_rfl)))
def slices_Clip_impl_Value_impl_Value_R (a0 : List T_impl_Value) : Option (List T_impl_Value) := (slI a0 none (some (a0.length : Int)) (some (a0.length : Int))).bind fun v1 => some v1
theorem ok_slices_Clip_impl_Value_impl_Value_R {a0 : List T_impl_Value} {y : List T_impl_Value} (h : slices_Clip_impl_Value_impl_Value_R a0 = some y) : OKm Try.prog 118 [O a0] (O y) := by
 refine OKm_of_pwp (sl := [rf 0 0 3 a0]) (bs := [⟨0, eL a0⟩]) τ_ok Try.func118 rfl (by kernel_rfl) rfl (by kernel_rfl) fun Γ hX => ?_
 refine pwp_imp (Imp.to (st' := ⟨9, [(0, rf 0 0 3 a0)], [sl 0 a0]⟩) [0] (by kernel_rfl)) ?_
 unfold slices_Clip_impl_Value_impl_Value_R at h
 refine srve 9 [(0, rf 0 0 3 a0)] [sl 0 a0] ?_
 refine srv 5 9 [(3, rf 0 0 3 a0), (5, I (a0.length : Int)), (7, I (a0.length : Int))] [sl 0 a0] ?_
 obtain ⟨v1, hv2, h⟩ := bindS h
 refine opsP_slr τ_ok 8 0 0 a0.length hv2 rfl (by kernel_rfl) ?_
 refine ve 1 9 [(2, rf 0 0 3 v1)] [sl 0 a0] ?_
 refine ip 9 [(2, rf 0 0 3 v1)] [sl 0 a0] ?_
 refine pwp_imp (Imp.cut (st' := ⟨9, [(2, rf 0 0 3 v1)], [sl 0 v1]⟩) 0 0 a0 v1 (by kernel_rfl) (slI_view hv2) (by kernel_rfl)) ?_
 have h := si h
 subst h
 exact pwp_ret (rt (rf 0 0 3 v1) (OutP.list (v := 0) (by kernel_rfl)))
def impl_clone_impl_Value_R (a0 : List T_impl_Value) : Option (List T_impl_Value) := bif ((a0.length : Int) == 0) then some ([] : List T_impl_Value) else (app [] a0).bind fun v2 => (slices_Clip_impl_Value_impl_Value_R v2).bind fun v4 => some v4
theorem ok_impl_clone_impl_Value_R {a0 : List T_impl_Value} {y : List T_impl_Value} (h : impl_clone_impl_Value_R a0 = some y) : OK Try.prog 93 [A a0] (O y) := by
 refine ow Try.func93 fun Γ hX => ?_
 unfold impl_clone_impl_Value_R at h
 refine srve 9 [(0, A a0)] [] ?_
 refine pwp_seq ?_
 refine srve 9 [(0, A a0), (5, B ((a0.length : Int) == 0))] [] ?_
 refine pc h (fun h => ?_) (fun h => ?_)
 refine srve 9 [(2, .arr 3 0 (eL ([] : List T_impl_Value)) true)] [] ?_
 refine ip 9 [(2, .arr 3 0 (eL ([] : List T_impl_Value)) true)] [] ?_
 refine pwp_imp (Imp.thawS (st' := ⟨9, [(2, .ref 0 0 0 3 ([] : List T_impl_Value).length false)], [some ⟨0, eL ([] : List T_impl_Value)⟩]⟩) 2 [2] (by kernel_rfl)) ?_
 have h := si h
 subst h
 exact pwp_ret (rt (.ref 0 0 0 3 ([] : List T_impl_Value).length false) (OutP.list (v := 0) (by kernel_rfl)))
 refine pwp_skip ?_
 refine srv 1 9 [(6, A a0)] [] ?_
 obtain ⟨v2, hv3, h⟩ := bindS h
 refine opsP_apn τ_ok 7 0 (nx hX) hv3 (by kernel_rfl) ?_
 obtain ⟨v4, hv5, h⟩ := bindS h
 refine opsP_callM (xs := [rf 0 1 3 v2]) (x := rf 1 0 3 v4) (bs := [⟨0, eL v4⟩]) τ 8 [0] (nx hX) (ok_slices_Clip_impl_Value_impl_Value_R hv5) (by kernel_rfl) (OutL.cons (OutP.list (v := 1) (by kernel_rfl)) (OutL.nil _)) (by decide) (by kernel_rfl) ?_
 refine ve 1 9 [(2, rf 1 0 3 v4)] [none, sl 0 v4] ?_
 have h := si h
 subst h
 exact pwp_ret (rt (rf 1 0 3 v4) (OutP.list (v := 0) (by kernel_rfl)))
def impl_rowsCopy_D_l0 (a0 : List (List T_impl_Value)) : Nat → Int → (List (List T_impl_Value)) → Option (List (List T_impl_Value))
 | 0, _, _ => none
 | f4 + 1, x2, x3 => bif (decide (x2 < (a0.length : Int))) then (getI a0 x2).bind fun v7 => (impl_clone_impl_Value_R v7).bind fun v9 => (app x3 ([v9] : List (List T_impl_Value))).bind fun v11 => (impl_rowsCopy_D_l0 a0 f4) (w64 (x2 + 1)) v11 else (slices_Clip_impl_Value_impl_Value_s3_D x3).bind fun v13 => some v13
def impl_rowsCopy_D (a0 : List (List T_impl_Value)) : Option (List (List T_impl_Value)) := impl_rowsCopy_D_l0 a0 FUEL 0 ([] : List (List T_impl_Value))
theorem ok_impl_rowsCopy_D {a0 : List (List T_impl_Value)} {y : List (List T_impl_Value)} (h : impl_rowsCopy_D a0 = some y) : OK Try.prog 61 [A a0] (OD y) := by
 refine ow Try.func61 fun Γ hX => ?_
 unfold impl_rowsCopy_D at h
 refine srve 20 [(0, A a0)] [] ?_
 refine srve 20 [(0, A a0), (3, .arr 1 0 (eL ([] : List (List T_impl_Value))) true)] [] ?_
 refine pwp_seq ?_
 refine srve 20 [(3, .arr 1 0 (eL ([] : List (List T_impl_Value))) true), (6, A a0), (7, I (a0.length : Int)), (8, I 0)] [] ?_
 refine pwp_block ?_
 refine pwp_loop (ι := Nat × Int × (List (List T_impl_Value))) (fun (f4, x2, x3) => (⟨20, [(3, rf 0 0 1 x3), (6, A a0), (7, I (a0.length : Int)), (8, I x2)], [some ⟨0, dL x3⟩]⟩ : St)) (fun (f4, x2, x3) => impl_rowsCopy_D_l0 a0 f4 x2 x3 = some y) Prod.fst (FUEL, 0, ([] : List (List T_impl_Value))) h (Imp.thawS 3 [3, 6, 7, 8] (by kernel_rfl)) ?_
 rintro ⟨f4, x2, x3⟩ h
 dsimp only at h ⊢
 rcases f4 with _ | f4
 cases h
 rw [impl_rowsCopy_D_l0] at h
 refine srve 20 [(3, rf 0 0 1 x3), (6, A a0), (7, I (a0.length : Int)), (8, I x2), (9, B (decide (x2 < (a0.length : Int))))] [some ⟨0, dL x3⟩] ?_
 refine pwp_seq ?_
 refine pc h (fun h => ?_) (fun h => ?_)
 refine pwp_skip ?_
 refine pwp_seq ?_
 refine pwp_block ?_
 refine pwp_seq ?_
 refine pwp_region ?_
 obtain ⟨v7, hv8, h⟩ := bindS h
 refine opsP_idx τ_ok 10 hv8 (by kernel_rfl) ?_
 refine ve 2 20 [(3, rf 0 0 1 x3), (5, A v7), (6, A a0), (7, I (a0.length : Int)), (8, I x2)] [some ⟨0, dL x3⟩] ?_
 refine rv 2 20 [(6, A a0), (7, I (a0.length : Int)), (8, I x2), (12, rf 0 0 1 x3), (13, A v7)] [some ⟨0, dL x3⟩] ?_
 obtain ⟨v9, hv10, h⟩ := bindS h
 refine opsP_callO τ 14 (ok_impl_clone_impl_Value_R hv10) rfl (by kernel_rfl) ?_
 refine opsP_E (dd := some 15) (x := .ref 2 0 0 1 ([v9] : List (List T_impl_Value)).length false) ((bslW_N (cells := [rf 1 0 3 v9]) τ_ok 15 2 (nx hX) (by kernel_rfl) (by kernel_rfl)).then (H2 := [some ⟨0, dL x3⟩, some ⟨1, []⟩, some ⟨0, dL ([v9] : List (List T_impl_Value))⟩]) (HStep.nest0 (vs := [rf 1 0 3 v9]) 2 0 (by kernel_rfl) (OutL.cons (OutP.listn (v := 0) (xs := v9) rfl (by kernel_rfl)) (OutL.nil _)) (by decide) (by decide) (nx hX) (by kernel_rfl) (by kernel_rfl))) ?_
 obtain ⟨v11, hv12, h⟩ := bindS h
 refine opsP_E (dd := some 16) (x := rf 0 1 1 v11) (appD_E τ_ok 16 0 0 2 0 (nx hX) (by decide) hv12 (by kernel_rfl) (by kernel_rfl) (by kernel_rfl)) ?_
 refine ve 1 20 [(3, rf 0 1 1 v11), (6, A a0), (7, I (a0.length : Int)), (8, I x2)] [some ⟨1, dL v11⟩, some ⟨1, []⟩, some ⟨1, []⟩] ?_
 refine rve 20 [(3, rf 0 1 1 v11), (6, A a0), (7, I (a0.length : Int)), (8, I (w64 (x2 + 1)))] [some ⟨1, dL v11⟩, some ⟨1, []⟩, some ⟨1, []⟩] ?_
 exact ⟨(f4, (w64 (x2 + 1)), v11), h, Nat.lt_succ_self _, qt (it (st' := ⟨20, [(3, rf 0 1 1 v11), (6, A a0), (7, I (a0.length : Int)), (8, I (w64 (x2 + 1)))], [some ⟨1, dL v11⟩, some ⟨1, []⟩, some ⟨1, []⟩]⟩) [3, 6, 7, 8]) (qt (Imp.truncS (st' := ⟨20, [(3, rf 0 1 1 v11), (6, A a0), (7, I (a0.length : Int)), (8, I (w64 (x2 + 1)))], [some ⟨1, dL v11⟩]⟩) 1 (nx hX) (by kernel_rfl) (allBelow_mem (by exact (And.intro rfl (And.intro rfl (And.intro rfl (And.intro rfl trivial)))))) (by exact (And.intro (dL_below _ _) trivial)) (by kernel_rfl)) (qt (Imp.reverB (cs := dL v11) (st' := ⟨20, [(3, rf 0 0 1 v11), (6, A a0), (7, I (a0.length : Int)), (8, I (w64 (x2 + 1)))], [some ⟨0, dL v11⟩]⟩) 0 1 (by kernel_rfl) (dL_qu _) (HpRel.key HpRel.nil) (by kernel_rfl) (by rfl) (nx hX)) (it [3, 6, 7, 8])))⟩
 refine pwp_exit ?_
 refine srv 1 20 [(18, rf 0 0 1 x3)] [some ⟨0, dL x3⟩] ?_
 obtain ⟨v13, hv14, h⟩ := bindS h
 refine opsP_callM (xs := [rf 0 0 1 x3]) (x := rf 1 0 1 v13) (bs := [⟨0, dL v13⟩]) τ 19 [0] (nx hX) (ok_slices_Clip_impl_Value_impl_Value_s3_D hv14) (by kernel_rfl) (OutL.cons (OutP.listD (v := 0) (by kernel_rfl)) (OutL.nil _)) (by decide) (by kernel_rfl) ?_
 refine ve 1 20 [(2, rf 1 0 1 v13)] [none, some ⟨0, dL v13⟩] ?_
 have h := si h
 subst h
 exact pwp_ret (rt (rf 1 0 1 v13) (OutP.listD (v := 0) (by kernel_rfl)))
def impl_RowsAt_D_l0 (a0 : List T_impl_Version) (a1 : Int) : Nat → Int → (List (List T_impl_Value)) → Option (List (List T_impl_Value))
 | 0, _, _ => none
 | f7 + 1, x5, x6 => bif (decide (x5 < 5)) then (impl_seen a0 x5 a1).bind fun v10 => bif v10.2 then (app x6 ([v10.1.fRow] : List (List T_impl_Value))).bind fun v13 => (impl_RowsAt_D_l0 a0 a1 f7) (w64 (x5 + 1)) v13 else (impl_RowsAt_D_l0 a0 a1 f7) (w64 (x5 + 1)) x6 else (impl_rowsCopy_D x6).bind fun v15 => some v15
def impl_RowsAt_D (a0 : List T_impl_Version) (a1 : Int) : Option (List (List T_impl_Value)) := (impl_VersionsOk a0).bind fun v1 => bif (!v1) then some ([] : List (List T_impl_Value)) else impl_RowsAt_D_l0 a0 a1 FUEL 0 ([] : List (List T_impl_Value))
theorem ok_impl_RowsAt_D {a0 : List T_impl_Version} {a1 : Int} {y : List (List T_impl_Value)} (h : impl_RowsAt_D a0 a1 = some y) : OK Try.prog 18 [A a0, I a1] (OD y) := by
 refine ow Try.func18 fun Γ hX => ?_
 unfold impl_RowsAt_D at h
 refine srveM [7] 31 [(0, A a0), (1, I a1)] [] ?_
 refine pwp_seq ?_
 refine srvM [7] 1 31 [(0, A a0), (1, I a1), (9, A a0)] [] ?_
 obtain ⟨v1, hv2, h⟩ := bindS h
 refine cF 10 (ok_impl_VersionsOk hv2) ?_
 refine veM [7] 1 31 [(0, A a0), (1, I a1), (11, B (!v1))] [] ?_
 refine pc h (fun h => ?_) (fun h => ?_)
 refine srveM [7] 31 [(4, .arr 1 0 (eL ([] : List (List T_impl_Value))) true)] [] ?_
 refine ip 31 [(4, .arr 1 0 (eL ([] : List (List T_impl_Value))) true)] [] ?_
 refine pwp_imp (Imp.thawS (st' := ⟨31, [(4, .ref 0 0 0 1 ([] : List (List T_impl_Value)).length false)], [some ⟨0, dL ([] : List (List T_impl_Value))⟩]⟩) 4 [4] (by kernel_rfl)) ?_
 have h := si h
 subst h
 exact pwp_ret (rt (.ref 0 0 0 1 ([] : List (List T_impl_Value)).length false) (OutP.listD (v := 0) (by kernel_rfl)))
 refine pwp_skip ?_
 refine srveM [7] 31 [(0, A a0), (1, I a1), (5, .arr 1 0 (eL ([] : List (List T_impl_Value))) true)] [] ?_
 refine pwp_seq ?_
 refine srveM [7] 31 [(0, A a0), (1, I a1), (5, .arr 1 0 (eL ([] : List (List T_impl_Value))) true), (12, I 0)] [] ?_
 refine pwp_block ?_
 refine pwp_loop (ι := Nat × Int × (List (List T_impl_Value))) (fun (f7, x5, x6) => (⟨31, [(0, A a0), (1, I a1), (5, rf 0 0 1 x6), (12, I x5)], [sl 0 x6]⟩ : St)) (fun (f7, x5, x6) => impl_RowsAt_D_l0 a0 a1 f7 x5 x6 = some y) Prod.fst (FUEL, 0, ([] : List (List T_impl_Value))) h (Imp.thawS 5 [0, 1, 5, 12] (by kernel_rfl)) ?_
 rintro ⟨f7, x5, x6⟩ h
 dsimp only at h ⊢
 rcases f7 with _ | f7
 cases h
 rw [impl_RowsAt_D_l0] at h
 refine srveM [7] 31 [(0, A a0), (1, I a1), (5, rf 0 0 1 x6), (12, I x5), (13, B (decide (x5 < 5)))] [sl 0 x6] ?_
 refine pwp_seq ?_
 refine pc h (fun h => ?_) (fun h => ?_)
 refine pwp_skip ?_
 refine pwp_seq ?_
 refine pwp_block ?_
 refine srveM [7] 31 [(0, A a0), (1, I a1), (5, rf 0 0 1 x6), (6, I x5), (12, I x5)] [sl 0 x6] ?_
 refine srvM [7] 3 31 [(0, A a0), (1, I a1), (5, rf 0 0 1 x6), (12, I x5), (16, A a0), (17, I x5), (18, I a1)] [sl 0 x6] ?_
 obtain ⟨v10, hv11, h⟩ := bindS h
 refine opsP_callF τ 19 (ok_impl_seen hv11) (FzTo.tup (FzToL.cons (FzTo.frz rfl) (FzToL.cons (FzTo.frz rfl) FzToL.nil))) rfl (by kernel_rfl) ?_
 refine veM [7] 6 31 [(0, A a0), (1, I a1), (5, rf 0 0 1 x6), (7, .ptr 1 0 0), (8, B v10.2), (12, I x5)] [sl 0 x6, sc 0 v10.1] ?_
 refine srveM [7] 31 [(0, A a0), (1, I a1), (5, rf 0 0 1 x6), (7, .ptr 1 0 0), (12, I x5), (22, B v10.2)] [sl 0 x6, sc 0 v10.1] ?_
 refine pc h (fun h => ?_) (fun h => ?_)
 refine rvM [7] 4 31 [(0, A a0), (1, I a1), (12, I x5), (23, rf 0 0 1 x6), (26, .arr 1 ([v10.1.fRow] : List (List T_impl_Value)).length (eL ([v10.1.fRow] : List (List T_impl_Value))) true)] [sl 0 x6, sc 0 v10.1] ?_
 obtain ⟨v13, hv14, h⟩ := bindS h
 refine opsP_app τ_ok 27 0 0 (nx hX) hv14 (by kernel_rfl) ?_
 refine veM [7] 1 31 [(0, A a0), (1, I a1), (5, rf 0 1 1 v13), (12, I x5)] [sl 1 v13, sc 0 v10.1] ?_
 refine rveM [7] 31 [(0, A a0), (1, I a1), (5, rf 0 1 1 v13), (12, I (w64 (x5 + 1)))] [sl 1 v13, sc 0 v10.1] ?_
 exact ⟨(f7, (w64 (x5 + 1)), v13), h, Nat.lt_succ_self _, qt (it (st' := ⟨31, [(0, A a0), (1, I a1), (5, rf 0 1 1 v13), (12, I (w64 (x5 + 1)))], [sl 1 v13, sc 0 v10.1]⟩) [0, 1, 5, 12]) (qt (Imp.truncS (st' := ⟨31, [(0, A a0), (1, I a1), (5, rf 0 1 1 v13), (12, I (w64 (x5 + 1)))], [sl 1 v13]⟩) 1 (nx hX) (by kernel_rfl) (allBelow_mem (by exact (And.intro rfl (And.intro rfl (And.intro rfl (And.intro rfl trivial)))))) (by exact (And.intro (frz_below (eL_frz _)) trivial)) (by kernel_rfl)) (Imp.reverS 0 1 (eL v13) [0, 1, 5, 12] (by kernel_rfl) (by exact (And.intro (eL_frz _) trivial)) (by kernel_rfl)))⟩
 refine pwp_skip ?_
 refine rveM [7] 31 [(0, A a0), (1, I a1), (5, rf 0 0 1 x6), (12, I (w64 (x5 + 1)))] [sl 0 x6, sc 0 v10.1] ?_
 exact ⟨(f7, (w64 (x5 + 1)), x6), h, Nat.lt_succ_self _, (it (st' := ⟨31, [(0, A a0), (1, I a1), (5, rf 0 0 1 x6), (12, I (w64 (x5 + 1)))], [sl 0 x6, sc 0 v10.1]⟩) [0, 1, 5, 12]).trans (Imp.truncS 1 (nx hX) (by kernel_rfl) (allBelow_mem (by exact (And.intro rfl (And.intro rfl (And.intro rfl (And.intro rfl trivial)))))) (by exact (And.intro (frz_below (eL_frz _)) trivial)) (by kernel_rfl))⟩
 refine pwp_exit ?_
 refine srvM [7] 1 31 [(29, rf 0 0 1 x6)] [sl 0 x6] ?_
 obtain ⟨v15, hv16, h⟩ := bindS h
 refine opsP_E (dd := some 30) (x := rf 1 0 1 v15) (callVN_E (xs := [rf 0 0 1 x6]) τ 30 1 (nx hX) (by kernel_rfl) (ok_impl_rowsCopy_D hv16) (Blind.OD _) (by kernel_rfl) (ViewL.cons (View.whole (v := 0) x6 (by kernel_rfl) rfl) (ViewL.nil _))) ?_
 refine veM [7] 1 31 [(4, rf 1 0 1 v15)] [sl 0 x6, some ⟨0, dL v15⟩] ?_
 have h := si h
 subst h
 exact pwp_ret (rt (rf 1 0 1 v15) (OutP.listD (v := 0) (by kernel_rfl)))
def impl_RestoredAt_D_j0 (a2 : Int) (v1 : (List T_impl_Entry) × Bool) (x3 : Bool) : Option ((List (List T_impl_Value)) × Bool) := bif x3 then some (([] : List (List T_impl_Value)), false) else (impl_logCut v1.1 a2).bind fun v5 => (impl_logRun ([]) v5).bind fun v7 => (impl_RowsAt_D v7 a2).bind fun v9 => some (v9, true)
def impl_RestoredAt_D (a0 : T_impl_Entry) (a1 : List T_impl_Entry) (a2 : Int) : Option ((List (List T_impl_Value)) × Bool) := (impl_LogBehind a0 a1).bind fun v1 => bif (!v1.2) then impl_RestoredAt_D_j0 a2 v1 true else impl_RestoredAt_D_j0 a2 v1 (decide (a2 < a0.fTime))
theorem ok_impl_RestoredAt_D {a0 : T_impl_Entry} {a1 : List T_impl_Entry} {a2 : Int} {y : (List (List T_impl_Value)) × Bool} (h : impl_RestoredAt_D a0 a1 a2 = some y) : OK Try.prog 36 [E a0, A a1, I a2] (.tup [OD y.1, B y.2]) := by
 refine ow Try.func36 fun Γ hX => ?_
 unfold impl_RestoredAt_D at h
 refine srve 30 [(1, A a1), (2, I a2), (3, pf a0 0)] [] ?_
 refine srv 2 30 [(2, I a2), (3, pf a0 0), (11, E a0), (12, A a1)] [] ?_
 obtain ⟨v1, hv2, h⟩ := bindS h
 refine opsP_callF τ 13 (ok_impl_LogBehind hv2) (FzTo.tup (FzToL.cons (FzTo.frz rfl) (FzToL.cons (FzTo.frz rfl) FzToL.nil))) rfl (by kernel_rfl) ?_
 refine ve 5 30 [(2, I a2), (3, pf a0 0), (8, A v1.1), (9, B v1.2)] [] ?_
 refine pwp_seq ?_
 refine pwp_seq ?_
 refine pwp_join (σ := Bool) (fun x3 => (⟨30, [(2, I a2), (8, A v1.1), (23, B x3)], []⟩ : St)) (fun x3 => impl_RestoredAt_D_j0 a2 v1 x3 = some y) ?_ ?_
 refine rv 3 30 [(2, I a2), (3, pf a0 0), (8, A v1.1), (18, B (!v1.2))] [] ?_
 rcases fk (!v1.2) with hc11 | hc11
 replace h := bT hc11 h
 rw [hc11]
 refine ve 5 30 [(2, I a2), (8, A v1.1), (23, B true)] [] ?_
 exact ⟨true, h, it [2, 8, 23]⟩
 replace h := bF hc11 h
 rw [hc11]
 refine ve 5 30 [(2, I a2), (8, A v1.1), (23, B (decide (a2 < a0.fTime)))] [] ?_
 exact ⟨(decide (a2 < a0.fTime)), h, it [2, 8, 23]⟩
 rintro x3 h
 unfold impl_RestoredAt_D_j0 at h
 refine pc h (fun h => ?_) (fun h => ?_)
 refine srve 30 [(6, .arr 1 0 (eL ([] : List (List T_impl_Value))) true), (7, B false)] [] ?_
 refine ip 30 [(6, .arr 1 0 (eL ([] : List (List T_impl_Value))) true), (7, B false)] [] ?_
 refine pwp_imp (Imp.thawS (st' := ⟨30, [(6, .ref 0 0 0 1 ([] : List (List T_impl_Value)).length false), (7, B false)], [some ⟨0, dL ([] : List (List T_impl_Value))⟩]⟩) 6 [6, 7] (by kernel_rfl)) ?_
 have h := si h
 subst h
 exact pwp_ret (rt (.tup [.ref 0 0 0 1 ([] : List (List T_impl_Value)).length false, B false]) (OutP.tup (OutL.cons (OutP.listD (v := 0) (by kernel_rfl)) (OutL.cons (OutP.frz (by kernel_rfl)) (OutL.nil _)))))
 refine pwp_skip ?_
 refine srv 2 30 [(2, I a2), (24, A v1.1), (25, I a2)] [] ?_
 obtain ⟨v5, hv6, h⟩ := bindS h
 refine cF 26 (ok_impl_logCut hv6) ?_
 obtain ⟨v7, hv8, h⟩ := bindS h
 refine cF 27 (ok_impl_logRun hv8) ?_
 refine v 1 30 [(27, A v7), (28, I a2)] [] ?_
 obtain ⟨v9, hv10, h⟩ := bindS h
 refine opsP_callO τ 29 (ok_impl_RowsAt_D hv10) rfl (by kernel_rfl) ?_
 refine ve 2 30 [(6, rf 0 0 1 v9), (7, B true)] [some ⟨0, dL v9⟩] ?_
 have h := si h
 subst h
 exact pwp_ret (rt (.tup [rf 0 0 1 v9, B true]) (OutP.tup (OutL.cons (OutP.listD (v := 0) (by kernel_rfl)) (OutL.cons (OutP.frz (by kernel_rfl)) (OutL.nil _)))))
def laws_FnExactRestoredAt_j2 (v37 : Int × List (List T_impl_Value)) (x49 : Bool) : Option Bool := bif x49 then some false else (laws_heldValueSS v37.2 1).bind fun v51 => bif (decide (v51 < 0)) then some false else bif (!(v51 == v37.1)) then some false else some true
def laws_FnExactRestoredAt_j1 (a0 : T_laws_Entry) (a1 : List T_laws_Entry) (a2 : Int) (v11 : (List (List T_impl_Value)) × Bool) (v17 : (List (List T_impl_Value)) × Bool) (x35 : Bool) : Option Bool := bif x35 then some false else (laws_markValueSS v17.1 1).bind fun v37 => (laws_heldValueSS v37.2 1).bind fun v39 => bif (decide (v39 < 0)) then some false else bif (!(v39 == v37.1)) then some false else (laws_toEntry_D a0).bind fun v43 => (laws_toEntryS_D a1).bind fun v45 => (impl_RestoredAt_D v43 v45 a2).bind fun v47 => (laws_eqValueSS v47.1 v11.1).bind fun v55 => bif (!v55) then laws_FnExactRestoredAt_j2 v37 true else laws_FnExactRestoredAt_j2 v37 (!(v47.2 == v11.2))
def laws_FnExactRestoredAt_j0 (a0 : T_laws_Entry) (a1 : List T_laws_Entry) (a2 : Int) (v11 : (List (List T_impl_Value)) × Bool) (v13 : T_impl_Entry) (v15 : List T_impl_Entry) (v17 : (List (List T_impl_Value)) × Bool) (x19 : Bool) : Option Bool := bif x19 then some false else (laws_toEntry_D a0).bind fun v21 => (laws_eqEntry ({ v13 with fWrites := v13.fWrites }) v21).bind fun v23 => bif (!v23) then some false else (laws_toEntryS_D a1).bind fun v26 => (laws_eqEntryS v15 v26).bind fun v28 => bif (!v28) then some false else (laws_markEntry ({ v13 with fWrites := v13.fWrites }) 1).bind fun v31 => (laws_markEntryS v15 v31).bind fun v33 => bif (decide (v33.1 < 0)) then laws_FnExactRestoredAt_j1 a0 a1 a2 v11 v17 true else (laws_eqValueSS v17.1 v11.1).bind fun v58 => bif (!v58) then laws_FnExactRestoredAt_j1 a0 a1 a2 v11 v17 true else laws_FnExactRestoredAt_j1 a0 a1 a2 v11 v17 (!(v17.2 == v11.2))
def laws_FnExactRestoredAt (a0 : T_laws_Entry) (a1 : List T_laws_Entry) (a2 : Int) : Option Bool := (laws_szEntry a0 1048576).bind fun v1 => bif (decide (v1 < 0)) then some true else (laws_szEntryS a1 v1).bind fun v4 => bif (decide (v4 < 0)) then some true else (laws_toEntry_D a0).bind fun v7 => (laws_toEntryS_D a1).bind fun v9 => (spec_RestoredAt v7 v9 a2).bind fun v11 => (laws_toEntry_D a0).bind fun v13 => (laws_toEntryS_D a1).bind fun v15 => (impl_RestoredAt_D ({ v13 with fWrites := v13.fWrites }) v15 a2).bind fun v17 => (laws_eqValueSS v17.1 v11.1).bind fun v62 => bif (!v62) then laws_FnExactRestoredAt_j0 a0 a1 a2 v11 v13 v15 v17 true else laws_FnExactRestoredAt_j0 a0 a1 a2 v11 v13 v15 v17 (!(v17.2 == v11.2))
theorem ok_laws_FnExactRestoredAt {a0 : T_laws_Entry} {a1 : List T_laws_Entry} {a2 : Int} {y : Bool} (h : laws_FnExactRestoredAt a0 a1 a2 = some y) : OK Try.prog 9 [E a0, A a1, I a2] (B y) := by
 refine ow Try.func9 fun Γ hX => ?_
 unfold laws_FnExactRestoredAt at h
 refine srveM [10] 124 [(1, A a1), (2, I a2), (3, pf a0 0)] [] ?_
 refine srveM [10] 124 [(1, A a1), (2, I a2), (3, pf a0 0), (7, I 1048576)] [] ?_
 refine srvM [10] 2 124 [(1, A a1), (2, I a2), (3, pf a0 0), (19, E a0), (20, I 1048576)] [] ?_
 obtain ⟨v1, hv2, h⟩ := bindS h
 refine cF 21 (ok_laws_szEntry hv2) ?_
 refine veM [10] 1 124 [(1, A a1), (2, I a2), (3, pf a0 0), (7, I v1)] [] ?_
 refine pwp_seq ?_
 refine srveM [10] 124 [(1, A a1), (2, I a2), (3, pf a0 0), (7, I v1), (23, B (decide (v1 < 0)))] [] ?_
 refine pc h (fun h => ?_) (fun h => ?_)
 refine srveM [10] 124 [(6, B true)] [] ?_
 cases h
 exact pwp_ret rz
 refine pwp_skip ?_
 refine srvM [10] 2 124 [(1, A a1), (2, I a2), (3, pf a0 0), (24, A a1), (25, I v1)] [] ?_
 obtain ⟨v4, hv5, h⟩ := bindS h
 refine cF 26 (ok_laws_szEntryS hv5) ?_
 refine veM [10] 1 124 [(1, A a1), (2, I a2), (3, pf a0 0), (7, I v4)] [] ?_
 refine pwp_seq ?_
 refine srveM [10] 124 [(1, A a1), (2, I a2), (3, pf a0 0), (28, B (decide (v4 < 0)))] [] ?_
 refine pc h (fun h => ?_) (fun h => ?_)
 refine srveM [10] 124 [(6, B true)] [] ?_
 cases h
 exact pwp_ret rz
 refine pwp_skip ?_
 refine srvM [10] 1 124 [(1, A a1), (2, I a2), (3, pf a0 0), (30, E a0)] [] ?_
 obtain ⟨v7, hv8, h⟩ := bindS h
 refine opsP_callF τ 31 (ok_laws_toEntry_D hv8) (FzTo.agg (DEnc.fz _)) rfl (by kernel_rfl) ?_
 refine vM [10] 1 124 [(1, A a1), (2, I a2), (3, pf a0 0), (31, E v7), (32, A a1)] [] ?_
 obtain ⟨v9, hv10, h⟩ := bindS h
 refine opsP_callF τ 33 (ok_laws_toEntryS_D hv10) (FzTo.OD _) rfl (by kernel_rfl) ?_
 refine vM [10] 1 124 [(1, A a1), (2, I a2), (3, pf a0 0), (31, E v7), (33, A v9), (34, I a2)] [] ?_
 obtain ⟨v11, hv12, h⟩ := bindS h
 refine opsP_callF τ 35 (ok_spec_RestoredAt hv12) (FzTo.tup (FzToL.cons (FzTo.frz rfl) (FzToL.cons (FzTo.frz rfl) FzToL.nil))) rfl (by kernel_rfl) ?_
 refine veM [10] 5 124 [(1, A a1), (2, I a2), (3, pf a0 0), (8, A v11.1), (9, B v11.2)] [] ?_
 refine srvM [10] 1 124 [(1, A a1), (2, I a2), (3, pf a0 0), (8, A v11.1), (9, B v11.2), (38, E a0)] [] ?_
 obtain ⟨v13, hv14, h⟩ := bindS h
 refine opsP_callO τ 39 (ok_laws_toEntry_D hv14) rfl (by kernel_rfl) ?_
 refine vM [10] 0 124 [(1, A a1), (2, I a2), (3, pf a0 0), (8, A v11.1), (9, B v11.2), (39, .agg [I v13.fTime, rf 0 0 3 v13.fWrites])] [some ⟨0, dL v13.fWrites⟩] ?_
 refine opsP_imp (Imp.ghosts 1 (st' := ⟨124, [(1, A a1), (2, I a2), (3, pf a0 0), (8, A v11.1), (9, B v11.2), (39, .agg [I v13.fTime, rf 0 0 3 v13.fWrites])], [some ⟨0, dL v13.fWrites⟩, some ⟨0, []⟩]⟩) (by kernel_rfl)) ?_
 refine opsP_E (dd := some 10) (x := .ptr 1 1 0) (alz_E (blk := ⟨0, []⟩) (zs := [.lit (.int .i64 0), .arr 3 0 [] true]) 10 28 1 0 (nx hX) zi_ok28 (by kernel_rfl) (by kernel_rfl)) ?_
 refine veM [10] 1 124 [(1, A a1), (2, I a2), (3, pf a0 0), (8, A v11.1), (9, B v11.2), (10, .ptr 1 1 0)] [some ⟨0, dL v13.fWrites⟩, some ⟨1, [I v13.fTime, rf 0 0 3 v13.fWrites]⟩] ?_
 refine srvM [10] 1 124 [(1, A a1), (2, I a2), (3, pf a0 0), (8, A v11.1), (9, B v11.2), (10, .ptr 1 1 0), (40, A a1)] [some ⟨0, dL v13.fWrites⟩, some ⟨1, [I v13.fTime, rf 0 0 3 v13.fWrites]⟩] ?_
 obtain ⟨v15, hv16, h⟩ := bindS h
 refine opsP_callO τ 41 (ok_laws_toEntryS_D hv16) rfl (by kernel_rfl) ?_
 refine veM [10] 1 124 [(1, A a1), (2, I a2), (3, pf a0 0), (8, A v11.1), (9, B v11.2), (10, .ptr 1 1 0), (11, rf 2 0 2 v15)] [some ⟨0, dL v13.fWrites⟩, some ⟨1, [I v13.fTime, rf 0 0 3 v13.fWrites]⟩, some ⟨0, dL v15⟩] ?_
 refine srvM [10] 3 124 [(1, A a1), (2, I a2), (3, pf a0 0), (8, A v11.1), (9, B v11.2), (10, .ptr 1 1 0), (11, rf 2 0 2 v15), (43, .agg [I v13.fTime, rf 0 0 3 v13.fWrites]), (44, rf 2 0 2 v15), (45, I a2)] [some ⟨0, dL v13.fWrites⟩, some ⟨1, [I v13.fTime, rf 0 0 3 v13.fWrites]⟩, some ⟨0, dL v15⟩] ?_
 obtain ⟨v17, hv18, h⟩ := bindS h
 refine opsP_callVO (xs := [.agg [I v13.fTime, rf 0 0 3 v13.fWrites], rf 2 0 2 v15, I a2]) τ 46 (ok_impl_RestoredAt_D hv18) (Blind.tup (BlindL.cons (Blind.OD _) (BlindL.cons (Blind.lit _) BlindL.nil))) (by kernel_rfl) (ViewL.cons (View.agg (ViewL.cons (View.frz rfl) (ViewL.cons (View.deep (v := 0) v13.fWrites (by kernel_rfl) rfl) (ViewL.nil _)))) (ViewL.cons (View.deep (v := 0) v15 (by kernel_rfl) rfl) (ViewL.cons (View.frz rfl) (ViewL.nil _)))) ?_
 refine veM [10] 5 124 [(1, A a1), (2, I a2), (3, pf a0 0), (8, A v11.1), (9, B v11.2), (10, .ptr 1 1 0), (11, rf 2 0 2 v15), (12, rf 3 0 1 v17.1), (13, B v17.2)] [some ⟨0, dL v13.fWrites⟩, some ⟨1, [I v13.fTime, rf 0 0 3 v13.fWrites]⟩, some ⟨0, dL v15⟩, some ⟨0, dL v17.1⟩] ?_
 refine pwp_seq ?_
 refine pwp_seq ?_
 refine pwp_join (σ := Bool) (fun x19 => (⟨124, [(1, A a1), (2, I a2), (3, pf a0 0), (8, A v11.1), (9, B v11.2), (10, .ptr 1 1 0), (11, rf 2 0 2 v15), (12, rf 3 0 1 v17.1), (13, B v17.2), (57, B x19)], [some ⟨0, dL v13.fWrites⟩, some ⟨1, [I v13.fTime, rf 0 0 3 v13.fWrites]⟩, some ⟨0, dL v15⟩, some ⟨0, dL v17.1⟩]⟩ : St)) (fun x19 => laws_FnExactRestoredAt_j0 a0 a1 a2 v11 v13 v15 v17 x19 = some y) ?_ ?_
 refine rvM [10] 2 124 [(1, A a1), (2, I a2), (3, pf a0 0), (8, A v11.1), (9, B v11.2), (10, .ptr 1 1 0), (11, rf 2 0 2 v15), (12, rf 3 0 1 v17.1), (13, B v17.2), (49, rf 3 0 1 v17.1), (50, A v11.1)] [some ⟨0, dL v13.fWrites⟩, some ⟨1, [I v13.fTime, rf 0 0 3 v13.fWrites]⟩, some ⟨0, dL v15⟩, some ⟨0, dL v17.1⟩] ?_
 obtain ⟨v62, hv63, h⟩ := bindS h
 refine opsP_callV (xs := [rf 3 0 1 v17.1, A v11.1]) τ 51 (ok_laws_eqValueSS hv63) (Blind.lit _) (FzTo.frz rfl) (by kernel_rfl) (ViewL.cons (View.deep (v := 0) v17.1 (by kernel_rfl) rfl) (ViewL.cons (View.frz rfl) (ViewL.nil _))) ?_
 refine vM [10] 2 124 [(1, A a1), (2, I a2), (3, pf a0 0), (8, A v11.1), (9, B v11.2), (10, .ptr 1 1 0), (11, rf 2 0 2 v15), (12, rf 3 0 1 v17.1), (13, B v17.2), (53, B (!v62))] [some ⟨0, dL v13.fWrites⟩, some ⟨1, [I v13.fTime, rf 0 0 3 v13.fWrites]⟩, some ⟨0, dL v15⟩, some ⟨0, dL v17.1⟩] ?_
 rcases fk (!v62) with hc64 | hc64
 replace h := bT hc64 h
 rw [hc64]
 refine veM [10] 4 124 [(1, A a1), (2, I a2), (3, pf a0 0), (8, A v11.1), (9, B v11.2), (10, .ptr 1 1 0), (11, rf 2 0 2 v15), (12, rf 3 0 1 v17.1), (13, B v17.2), (57, B true)] [some ⟨0, dL v13.fWrites⟩, some ⟨1, [I v13.fTime, rf 0 0 3 v13.fWrites]⟩, some ⟨0, dL v15⟩, some ⟨0, dL v17.1⟩] ?_
 exact ⟨true, h, it [1, 2, 3, 8, 9, 10, 11, 12, 13, 57]⟩
 replace h := bF hc64 h
 rw [hc64]
 refine veM [10] 4 124 [(1, A a1), (2, I a2), (3, pf a0 0), (8, A v11.1), (9, B v11.2), (10, .ptr 1 1 0), (11, rf 2 0 2 v15), (12, rf 3 0 1 v17.1), (13, B v17.2), (57, B (!(v17.2 == v11.2)))] [some ⟨0, dL v13.fWrites⟩, some ⟨1, [I v13.fTime, rf 0 0 3 v13.fWrites]⟩, some ⟨0, dL v15⟩, some ⟨0, dL v17.1⟩] ?_
 exact ⟨(!(v17.2 == v11.2)), h, it [1, 2, 3, 8, 9, 10, 11, 12, 13, 57]⟩
 rintro x19 h
 unfold laws_FnExactRestoredAt_j0 at h
 refine pc h (fun h => ?_) (fun h => ?_)
 refine srveM [10] 124 [(6, B false)] [some ⟨0, dL v13.fWrites⟩, some ⟨1, [I v13.fTime, rf 0 0 3 v13.fWrites]⟩, some ⟨0, dL v15⟩, some ⟨0, dL v17.1⟩] ?_
 cases h
 exact pwp_ret rz
 refine pwp_skip ?_
 refine pwp_seq ?_
 refine pwp_seq ?_
 refine ip 124 [(1, A a1), (2, I a2), (3, pf a0 0), (8, A v11.1), (9, B v11.2), (10, .ptr 1 1 0), (11, rf 2 0 2 v15), (12, rf 3 0 1 v17.1), (13, B v17.2)] [some ⟨0, dL v13.fWrites⟩, some ⟨1, [I v13.fTime, rf 0 0 3 v13.fWrites]⟩, some ⟨0, dL v15⟩, some ⟨0, dL v17.1⟩] ?_
 refine pwp_any ([[0, 1], [], [], [0], []]) ([[], [], [], [], []]) rfl (by kernel_rfl) ?_
 refine qvM [10] [0, 1] (hD (hR trivial)) 1 124 [(58, .agg [I v13.fTime, rf 0 0 3 v13.fWrites]), (1, A a1), (2, I a2), (3, pf a0 0), (8, A v11.1), (9, B v11.2), (10, .ptr 1 1 0), (11, rf 2 0 2 v15), (12, rf 3 0 1 v17.1), (13, B v17.2)] [some ⟨0, dL v13.fWrites⟩, some ⟨1, [I v13.fTime, rf 0 0 3 v13.fWrites]⟩, some ⟨0, dL v15⟩, some ⟨0, dL v17.1⟩] ?_
 refine qvM [10] [] trivial 1 124 [(59, E a0), (58, .agg [I v13.fTime, rf 0 0 3 v13.fWrites]), (1, A a1), (2, I a2), (3, pf a0 0), (8, A v11.1), (9, B v11.2), (10, .ptr 1 1 0), (11, rf 2 0 2 v15), (12, rf 3 0 1 v17.1), (13, B v17.2)] [some ⟨0, dL v13.fWrites⟩, some ⟨1, [I v13.fTime, rf 0 0 3 v13.fWrites]⟩, some ⟨0, dL v15⟩, some ⟨0, dL v17.1⟩] ?_
 obtain ⟨v21, hv22, h⟩ := bindS h
 refine qX (some 60) (E v21) 124 [(60, E v21), (58, .agg [I v13.fTime, rf 0 0 3 v13.fWrites]), (1, A a1), (2, I a2), (3, pf a0 0), (8, A v11.1), (9, B v11.2), (10, .ptr 1 1 0), (11, rf 2 0 2 v15), (12, rf 3 0 1 v17.1), (13, B v17.2)] [some ⟨0, dL v13.fWrites⟩, some ⟨1, [I v13.fTime, rf 0 0 3 v13.fWrites]⟩, some ⟨0, dL v15⟩, some ⟨0, dL v17.1⟩] (fun Γ' hΓ => CoreE.of_g (callV_sound (τ := τ) (by kernel_rfl) rfl (ok_laws_toEntry_D hv22) (FzTo.agg (DEnc.fz _)))) trivial ?_
 obtain ⟨v23, hv24, h⟩ := bindS h
 refine qX (some 61) (B v23) 124 [(61, B v23), (1, A a1), (2, I a2), (3, pf a0 0), (8, A v11.1), (9, B v11.2), (10, .ptr 1 1 0), (11, rf 2 0 2 v15), (12, rf 3 0 1 v17.1), (13, B v17.2)] [some ⟨0, dL v13.fWrites⟩, some ⟨1, [I v13.fTime, rf 0 0 3 v13.fWrites]⟩, some ⟨0, dL v15⟩, some ⟨0, dL v17.1⟩] (fun Γ' hΓ => CoreE.of_g (callVV_sound (xs := [.agg [I v13.fTime, rf 0 0 3 v13.fWrites], E v21]) (τ := τ) (by kernel_rfl) (ViewL.cons (View.agg (ViewL.cons (View.frz rfl) (ViewL.cons (View.deep (v := 0) v13.fWrites (by kernel_rfl) rfl) (ViewL.nil _)))) (ViewL.cons (View.frz rfl) (ViewL.nil _))) (ok_laws_eqEntry hv24) (Blind.lit _) (FzTo.frz rfl))) (hD trivial) ?_
 refine qvnM [10] [] trivial 1 124 [(1, A a1), (2, I a2), (3, pf a0 0), (8, A v11.1), (9, B v11.2), (10, .ptr 1 1 0), (11, rf 2 0 2 v15), (12, rf 3 0 1 v17.1), (13, B v17.2), (62, B (!v23))] [some ⟨0, dL v13.fWrites⟩, some ⟨1, [I v13.fTime, rf 0 0 3 v13.fWrites]⟩, some ⟨0, dL v15⟩, some ⟨0, dL v17.1⟩] ?_
 refine pc h (fun h => ?_) (fun h => ?_)
 refine srveM [10] 124 [(6, B false)] [some ⟨0, dL v13.fWrites⟩, some ⟨1, [I v13.fTime, rf 0 0 3 v13.fWrites]⟩, some ⟨0, dL v15⟩, some ⟨0, dL v17.1⟩] ?_
 cases h
 exact pwp_ret rz
 refine pwp_skip ?_
 refine pwp_seq ?_
 refine srvM [10] 2 124 [(1, A a1), (2, I a2), (3, pf a0 0), (8, A v11.1), (9, B v11.2), (10, .ptr 1 1 0), (11, rf 2 0 2 v15), (12, rf 3 0 1 v17.1), (13, B v17.2), (63, rf 2 0 2 v15), (64, A a1)] [some ⟨0, dL v13.fWrites⟩, some ⟨1, [I v13.fTime, rf 0 0 3 v13.fWrites]⟩, some ⟨0, dL v15⟩, some ⟨0, dL v17.1⟩] ?_
 obtain ⟨v26, hv27, h⟩ := bindS h
 refine opsP_callF τ 65 (ok_laws_toEntryS_D hv27) (FzTo.OD _) rfl (by kernel_rfl) ?_
 obtain ⟨v28, hv29, h⟩ := bindS h
 refine opsP_callV (xs := [rf 2 0 2 v15, A v26]) τ 66 (ok_laws_eqEntryS hv29) (Blind.lit _) (FzTo.frz rfl) (by kernel_rfl) (ViewL.cons (View.deep (v := 0) v15 (by kernel_rfl) rfl) (ViewL.cons (View.frz rfl) (ViewL.nil _))) ?_
 refine veM [10] 1 124 [(1, A a1), (2, I a2), (3, pf a0 0), (8, A v11.1), (9, B v11.2), (10, .ptr 1 1 0), (11, rf 2 0 2 v15), (12, rf 3 0 1 v17.1), (13, B v17.2), (67, B (!v28))] [some ⟨0, dL v13.fWrites⟩, some ⟨1, [I v13.fTime, rf 0 0 3 v13.fWrites]⟩, some ⟨0, dL v15⟩, some ⟨0, dL v17.1⟩] ?_
 refine pc h (fun h => ?_) (fun h => ?_)
 refine srveM [10] 124 [(6, B false)] [some ⟨0, dL v13.fWrites⟩, some ⟨1, [I v13.fTime, rf 0 0 3 v13.fWrites]⟩, some ⟨0, dL v15⟩, some ⟨0, dL v17.1⟩] ?_
 cases h
 exact pwp_ret rz
 refine pwp_skip ?_
 refine srveM [10] 124 [(1, A a1), (2, I a2), (3, pf a0 0), (8, A v11.1), (9, B v11.2), (10, .ptr 1 1 0), (11, rf 2 0 2 v15), (12, rf 3 0 1 v17.1), (13, B v17.2), (14, I 1)] [some ⟨0, dL v13.fWrites⟩, some ⟨1, [I v13.fTime, rf 0 0 3 v13.fWrites]⟩, some ⟨0, dL v15⟩, some ⟨0, dL v17.1⟩] ?_
 refine srvM [10] 2 124 [(1, A a1), (2, I a2), (3, pf a0 0), (8, A v11.1), (9, B v11.2), (11, rf 2 0 2 v15), (12, rf 3 0 1 v17.1), (13, B v17.2), (68, .agg [I v13.fTime, rf 0 0 3 v13.fWrites]), (69, I 1)] [some ⟨0, dL v13.fWrites⟩, some ⟨1, [I v13.fTime, rf 0 0 3 v13.fWrites]⟩, some ⟨0, dL v15⟩, some ⟨0, dL v17.1⟩] ?_
 obtain ⟨v31, hv32, h⟩ := bindS h
 refine opsP_callM (xs := [.agg [I v13.fTime, rf 0 0 3 v13.fWrites], I 1]) (x := I v31) (bs := []) τ 70 [0] (nx hX) (ok_laws_markEntry hv32) (by kernel_rfl) (OutL.cons (OutP.agg (OutL.cons (OutP.frz rfl) (OutL.cons (OutP.listDn (v := 0) (xs := v13.fWrites) rfl (by kernel_rfl)) (OutL.nil _)))) (OutL.cons (OutP.frz rfl) (OutL.nil _))) (by decide) (by kernel_rfl) ?_
 refine veM [10] 1 124 [(1, A a1), (2, I a2), (3, pf a0 0), (8, A v11.1), (9, B v11.2), (11, rf 2 0 2 v15), (12, rf 3 0 1 v17.1), (13, B v17.2), (14, I v31)] [none, some ⟨1, [I v13.fTime, rf 0 0 3 v13.fWrites]⟩, some ⟨0, dL v15⟩, some ⟨0, dL v17.1⟩] ?_
 refine srvM [10] 2 124 [(1, A a1), (2, I a2), (3, pf a0 0), (8, A v11.1), (9, B v11.2), (12, rf 3 0 1 v17.1), (13, B v17.2), (71, rf 2 0 2 v15), (72, I v31)] [none, some ⟨1, [I v13.fTime, rf 0 0 3 v13.fWrites]⟩, some ⟨0, dL v15⟩, some ⟨0, dL v17.1⟩] ?_
 obtain ⟨v33, hv34, h⟩ := bindS h
 refine opsP_E (dd := some 73) (x := I v33.1) (callD_E τ 73 2 0 (ok_laws_markEntryS hv34) (by kernel_rfl)) ?_
 refine io 124 [(1, A a1), (2, I a2), (3, pf a0 0), (8, A v11.1), (9, B v11.2), (12, rf 3 0 1 v17.1), (13, B v17.2), (71, rf 2 0 2 v15), (72, I v31), (73, I v33.1)] [none, some ⟨1, [I v13.fTime, rf 0 0 3 v13.fWrites]⟩, some ⟨0, dL v33.2⟩, some ⟨0, dL v17.1⟩] ?_
 refine opsP_ren (st' := ⟨124, [(1, A a1), (2, I a2), (3, pf a0 0), (8, A v11.1), (9, B v11.2), (12, rf 3 0 1 v17.1), (13, B v17.2), (71, rf 2 0 2 v33.2), (72, I v31), (73, I v33.1)], [none, some ⟨1, [I v13.fTime, rf 0 0 3 v13.fWrites]⟩, some ⟨0, dL v33.2⟩, some ⟨0, dL v17.1⟩]⟩) 2 v33.2.length (renC trivial (renC trivial (renC trivial (renC trivial (renC trivial (renC (ren_ne rfl) (renC trivial (renC (ren_ref (len_laws_markEntryS hv34).symm) (renC trivial (renC trivial renC0)))))))))) (by kernel_rfl) ?_
 refine veM [10] 1 124 [(1, A a1), (2, I a2), (3, pf a0 0), (8, A v11.1), (9, B v11.2), (12, rf 3 0 1 v17.1), (13, B v17.2), (14, I v33.1)] [none, some ⟨1, [I v13.fTime, rf 0 0 3 v13.fWrites]⟩, some ⟨0, dL v33.2⟩, some ⟨0, dL v17.1⟩] ?_
 refine pwp_seq ?_
 refine pwp_seq ?_
 refine pwp_join (σ := Bool) (fun x35 => (⟨124, [(1, A a1), (2, I a2), (3, pf a0 0), (8, A v11.1), (9, B v11.2), (12, rf 3 0 1 v17.1), (86, B x35)], [none, some ⟨1, [I v13.fTime, rf 0 0 3 v13.fWrites]⟩, some ⟨0, dL v33.2⟩, some ⟨0, dL v17.1⟩]⟩ : St)) (fun x35 => laws_FnExactRestoredAt_j1 a0 a1 a2 v11 v17 x35 = some y) ?_ ?_
 refine rvM [10] 3 124 [(1, A a1), (2, I a2), (3, pf a0 0), (8, A v11.1), (9, B v11.2), (12, rf 3 0 1 v17.1), (13, B v17.2), (76, B (decide (v33.1 < 0)))] [none, some ⟨1, [I v13.fTime, rf 0 0 3 v13.fWrites]⟩, some ⟨0, dL v33.2⟩, some ⟨0, dL v17.1⟩] ?_
 rcases fk (decide (v33.1 < 0)) with hc61 | hc61
 replace h := bT hc61 h
 rw [hc61]
 refine veM [10] 10 124 [(1, A a1), (2, I a2), (3, pf a0 0), (8, A v11.1), (9, B v11.2), (12, rf 3 0 1 v17.1), (86, B true)] [none, some ⟨1, [I v13.fTime, rf 0 0 3 v13.fWrites]⟩, some ⟨0, dL v33.2⟩, some ⟨0, dL v17.1⟩] ?_
 exact ⟨true, h, it [1, 2, 3, 8, 9, 12, 86]⟩
 replace h := bF hc61 h
 rw [hc61]
 refine vM [10] 2 124 [(1, A a1), (2, I a2), (3, pf a0 0), (8, A v11.1), (9, B v11.2), (12, rf 3 0 1 v17.1), (13, B v17.2), (76, B false), (77, rf 3 0 1 v17.1), (78, A v11.1)] [none, some ⟨1, [I v13.fTime, rf 0 0 3 v13.fWrites]⟩, some ⟨0, dL v33.2⟩, some ⟨0, dL v17.1⟩] ?_
 obtain ⟨v58, hv59, h⟩ := bindS h
 refine opsP_callV (xs := [rf 3 0 1 v17.1, A v11.1]) τ 79 (ok_laws_eqValueSS hv59) (Blind.lit _) (FzTo.frz rfl) (by kernel_rfl) (ViewL.cons (View.deep (v := 0) v17.1 (by kernel_rfl) rfl) (ViewL.cons (View.frz rfl) (ViewL.nil _))) ?_
 refine vM [10] 3 124 [(1, A a1), (2, I a2), (3, pf a0 0), (8, A v11.1), (9, B v11.2), (12, rf 3 0 1 v17.1), (13, B v17.2), (82, B (!v58))] [none, some ⟨1, [I v13.fTime, rf 0 0 3 v13.fWrites]⟩, some ⟨0, dL v33.2⟩, some ⟨0, dL v17.1⟩] ?_
 rcases fk (!v58) with hc60 | hc60
 replace h := bT hc60 h
 rw [hc60]
 refine veM [10] 4 124 [(1, A a1), (2, I a2), (3, pf a0 0), (8, A v11.1), (9, B v11.2), (12, rf 3 0 1 v17.1), (86, B true)] [none, some ⟨1, [I v13.fTime, rf 0 0 3 v13.fWrites]⟩, some ⟨0, dL v33.2⟩, some ⟨0, dL v17.1⟩] ?_
 exact ⟨true, h, it [1, 2, 3, 8, 9, 12, 86]⟩
 replace h := bF hc60 h
 rw [hc60]
 refine veM [10] 4 124 [(1, A a1), (2, I a2), (3, pf a0 0), (8, A v11.1), (9, B v11.2), (12, rf 3 0 1 v17.1), (86, B (!(v17.2 == v11.2)))] [none, some ⟨1, [I v13.fTime, rf 0 0 3 v13.fWrites]⟩, some ⟨0, dL v33.2⟩, some ⟨0, dL v17.1⟩] ?_
 exact ⟨(!(v17.2 == v11.2)), h, it [1, 2, 3, 8, 9, 12, 86]⟩
 rintro x35 h
 unfold laws_FnExactRestoredAt_j1 at h
 refine pc h (fun h => ?_) (fun h => ?_)
 refine srveM [10] 124 [(6, B false)] [none, some ⟨1, [I v13.fTime, rf 0 0 3 v13.fWrites]⟩, some ⟨0, dL v33.2⟩, some ⟨0, dL v17.1⟩] ?_
 cases h
 exact pwp_ret rz
 refine pwp_skip ?_
 refine srveM [10] 124 [(1, A a1), (2, I a2), (3, pf a0 0), (8, A v11.1), (9, B v11.2), (12, rf 3 0 1 v17.1), (15, I 1)] [none, some ⟨1, [I v13.fTime, rf 0 0 3 v13.fWrites]⟩, some ⟨0, dL v33.2⟩, some ⟨0, dL v17.1⟩] ?_
 refine srvM [10] 2 124 [(1, A a1), (2, I a2), (3, pf a0 0), (8, A v11.1), (9, B v11.2), (12, rf 3 0 1 v17.1), (87, rf 3 0 1 v17.1), (88, I 1)] [none, some ⟨1, [I v13.fTime, rf 0 0 3 v13.fWrites]⟩, some ⟨0, dL v33.2⟩, some ⟨0, dL v17.1⟩] ?_
 obtain ⟨v37, hv38, h⟩ := bindS h
 refine opsP_E (dd := some 89) (x := I v37.1) (callD_E τ 89 3 0 (ok_laws_markValueSS hv38) (by kernel_rfl)) ?_
 refine io 124 [(1, A a1), (2, I a2), (3, pf a0 0), (8, A v11.1), (9, B v11.2), (12, rf 3 0 1 v17.1), (87, rf 3 0 1 v17.1), (88, I 1), (89, I v37.1)] [none, some ⟨1, [I v13.fTime, rf 0 0 3 v13.fWrites]⟩, some ⟨0, dL v33.2⟩, some ⟨0, dL v37.2⟩] ?_
 refine opsP_ren (st' := ⟨124, [(1, A a1), (2, I a2), (3, pf a0 0), (8, A v11.1), (9, B v11.2), (12, rf 3 0 1 v37.2), (87, rf 3 0 1 v37.2), (88, I 1), (89, I v37.1)], [none, some ⟨1, [I v13.fTime, rf 0 0 3 v13.fWrites]⟩, some ⟨0, dL v33.2⟩, some ⟨0, dL v37.2⟩]⟩) 3 v37.2.length (renC trivial (renC trivial (renC trivial (renC trivial (renC trivial (renC (ren_ref (len_laws_markValueSS hv38).symm) (renC (ren_ref (len_laws_markValueSS hv38).symm) (renC trivial (renC trivial renC0))))))))) (by kernel_rfl) ?_
 refine veM [10] 1 124 [(1, A a1), (2, I a2), (3, pf a0 0), (8, A v11.1), (9, B v11.2), (12, rf 3 0 1 v37.2), (15, I v37.1)] [none, some ⟨1, [I v13.fTime, rf 0 0 3 v13.fWrites]⟩, some ⟨0, dL v33.2⟩, some ⟨0, dL v37.2⟩] ?_
 refine srveM [10] 124 [(1, A a1), (2, I a2), (3, pf a0 0), (8, A v11.1), (9, B v11.2), (12, rf 3 0 1 v37.2), (15, I v37.1), (16, I 1)] [none, some ⟨1, [I v13.fTime, rf 0 0 3 v13.fWrites]⟩, some ⟨0, dL v33.2⟩, some ⟨0, dL v37.2⟩] ?_
 refine srvM [10] 2 124 [(1, A a1), (2, I a2), (3, pf a0 0), (8, A v11.1), (9, B v11.2), (12, rf 3 0 1 v37.2), (15, I v37.1), (90, rf 3 0 1 v37.2), (91, I 1)] [none, some ⟨1, [I v13.fTime, rf 0 0 3 v13.fWrites]⟩, some ⟨0, dL v33.2⟩, some ⟨0, dL v37.2⟩] ?_
 obtain ⟨v39, hv40, h⟩ := bindS h
 refine opsP_callV (xs := [rf 3 0 1 v37.2, I 1]) τ 92 (ok_laws_heldValueSS hv40) (Blind.lit _) (FzTo.frz rfl) (by kernel_rfl) (ViewL.cons (View.deep (v := 0) v37.2 (by kernel_rfl) rfl) (ViewL.cons (View.frz rfl) (ViewL.nil _))) ?_
 refine veM [10] 1 124 [(1, A a1), (2, I a2), (3, pf a0 0), (8, A v11.1), (9, B v11.2), (12, rf 3 0 1 v37.2), (15, I v37.1), (16, I v39)] [none, some ⟨1, [I v13.fTime, rf 0 0 3 v13.fWrites]⟩, some ⟨0, dL v33.2⟩, some ⟨0, dL v37.2⟩] ?_
 refine pwp_seq ?_
 refine srveM [10] 124 [(1, A a1), (2, I a2), (3, pf a0 0), (8, A v11.1), (9, B v11.2), (12, rf 3 0 1 v37.2), (15, I v37.1), (16, I v39), (94, B (decide (v39 < 0)))] [none, some ⟨1, [I v13.fTime, rf 0 0 3 v13.fWrites]⟩, some ⟨0, dL v33.2⟩, some ⟨0, dL v37.2⟩] ?_
 refine pc h (fun h => ?_) (fun h => ?_)
 refine srveM [10] 124 [(6, B false)] [none, some ⟨1, [I v13.fTime, rf 0 0 3 v13.fWrites]⟩, some ⟨0, dL v33.2⟩, some ⟨0, dL v37.2⟩] ?_
 cases h
 exact pwp_ret rz
 refine pwp_skip ?_
 refine pwp_seq ?_
 refine srveM [10] 124 [(1, A a1), (2, I a2), (3, pf a0 0), (8, A v11.1), (9, B v11.2), (12, rf 3 0 1 v37.2), (15, I v37.1), (97, B (!(v39 == v37.1)))] [none, some ⟨1, [I v13.fTime, rf 0 0 3 v13.fWrites]⟩, some ⟨0, dL v33.2⟩, some ⟨0, dL v37.2⟩] ?_
 refine pc h (fun h => ?_) (fun h => ?_)
 refine srveM [10] 124 [(6, B false)] [none, some ⟨1, [I v13.fTime, rf 0 0 3 v13.fWrites]⟩, some ⟨0, dL v33.2⟩, some ⟨0, dL v37.2⟩] ?_
 cases h
 exact pwp_ret rz
 refine pwp_skip ?_
 refine srvM [10] 1 124 [(1, A a1), (2, I a2), (8, A v11.1), (9, B v11.2), (12, rf 3 0 1 v37.2), (15, I v37.1), (99, E a0)] [none, some ⟨1, [I v13.fTime, rf 0 0 3 v13.fWrites]⟩, some ⟨0, dL v33.2⟩, some ⟨0, dL v37.2⟩] ?_
 obtain ⟨v43, hv44, h⟩ := bindS h
 refine opsP_callF τ 100 (ok_laws_toEntry_D hv44) (FzTo.agg (DEnc.fz _)) rfl (by kernel_rfl) ?_
 refine vM [10] 1 124 [(2, I a2), (8, A v11.1), (9, B v11.2), (12, rf 3 0 1 v37.2), (15, I v37.1), (100, E v43), (101, A a1)] [none, some ⟨1, [I v13.fTime, rf 0 0 3 v13.fWrites]⟩, some ⟨0, dL v33.2⟩, some ⟨0, dL v37.2⟩] ?_
 obtain ⟨v45, hv46, h⟩ := bindS h
 refine opsP_callF τ 102 (ok_laws_toEntryS_D hv46) (FzTo.OD _) rfl (by kernel_rfl) ?_
 refine vM [10] 1 124 [(8, A v11.1), (9, B v11.2), (12, rf 3 0 1 v37.2), (15, I v37.1), (100, E v43), (102, A v45), (103, I a2)] [none, some ⟨1, [I v13.fTime, rf 0 0 3 v13.fWrites]⟩, some ⟨0, dL v33.2⟩, some ⟨0, dL v37.2⟩] ?_
 obtain ⟨v47, hv48, h⟩ := bindS h
 refine opsP_callF τ 104 (ok_impl_RestoredAt_D hv48) (FzTo.tup (FzToL.cons (FzTo.OD _) (FzToL.cons (FzTo.frz rfl) FzToL.nil))) rfl (by kernel_rfl) ?_
 refine veM [10] 5 124 [(8, A v11.1), (9, B v11.2), (12, rf 3 0 1 v37.2), (15, I v37.1), (17, A v47.1), (18, B v47.2)] [none, some ⟨1, [I v13.fTime, rf 0 0 3 v13.fWrites]⟩, some ⟨0, dL v33.2⟩, some ⟨0, dL v37.2⟩] ?_
 refine pwp_seq ?_
 refine pwp_seq ?_
 refine pwp_join (σ := Bool) (fun x49 => (⟨124, [(12, rf 3 0 1 v37.2), (15, I v37.1), (115, B x49)], [none, some ⟨1, [I v13.fTime, rf 0 0 3 v13.fWrites]⟩, some ⟨0, dL v33.2⟩, some ⟨0, dL v37.2⟩]⟩ : St)) (fun x49 => laws_FnExactRestoredAt_j2 v37 x49 = some y) ?_ ?_
 refine rvM [10] 2 124 [(9, B v11.2), (12, rf 3 0 1 v37.2), (15, I v37.1), (18, B v47.2), (107, A v47.1), (108, A v11.1)] [none, some ⟨1, [I v13.fTime, rf 0 0 3 v13.fWrites]⟩, some ⟨0, dL v33.2⟩, some ⟨0, dL v37.2⟩] ?_
 obtain ⟨v55, hv56, h⟩ := bindS h
 refine cF 109 (ok_laws_eqValueSS hv56) ?_
 refine vM [10] 2 124 [(9, B v11.2), (12, rf 3 0 1 v37.2), (15, I v37.1), (18, B v47.2), (111, B (!v55))] [none, some ⟨1, [I v13.fTime, rf 0 0 3 v13.fWrites]⟩, some ⟨0, dL v33.2⟩, some ⟨0, dL v37.2⟩] ?_
 rcases fk (!v55) with hc57 | hc57
 replace h := bT hc57 h
 rw [hc57]
 refine veM [10] 4 124 [(12, rf 3 0 1 v37.2), (15, I v37.1), (115, B true)] [none, some ⟨1, [I v13.fTime, rf 0 0 3 v13.fWrites]⟩, some ⟨0, dL v33.2⟩, some ⟨0, dL v37.2⟩] ?_
 exact ⟨true, h, it [12, 15, 115]⟩
 replace h := bF hc57 h
 rw [hc57]
 refine veM [10] 4 124 [(12, rf 3 0 1 v37.2), (15, I v37.1), (115, B (!(v47.2 == v11.2)))] [none, some ⟨1, [I v13.fTime, rf 0 0 3 v13.fWrites]⟩, some ⟨0, dL v33.2⟩, some ⟨0, dL v37.2⟩] ?_
 exact ⟨(!(v47.2 == v11.2)), h, it [12, 15, 115]⟩
 rintro x49 h
 unfold laws_FnExactRestoredAt_j2 at h
 refine pc h (fun h => ?_) (fun h => ?_)
 refine srveM [10] 124 [(6, B false)] [none, some ⟨1, [I v13.fTime, rf 0 0 3 v13.fWrites]⟩, some ⟨0, dL v33.2⟩, some ⟨0, dL v37.2⟩] ?_
 cases h
 exact pwp_ret rz
 refine pwp_skip ?_
 refine srveM [10] 124 [(12, rf 3 0 1 v37.2), (15, I v37.1), (16, I 1)] [none, some ⟨1, [I v13.fTime, rf 0 0 3 v13.fWrites]⟩, some ⟨0, dL v33.2⟩, some ⟨0, dL v37.2⟩] ?_
 refine srvM [10] 2 124 [(15, I v37.1), (116, rf 3 0 1 v37.2), (117, I 1)] [none, some ⟨1, [I v13.fTime, rf 0 0 3 v13.fWrites]⟩, some ⟨0, dL v33.2⟩, some ⟨0, dL v37.2⟩] ?_
 obtain ⟨v51, hv52, h⟩ := bindS h
 refine opsP_callV (xs := [rf 3 0 1 v37.2, I 1]) τ 118 (ok_laws_heldValueSS hv52) (Blind.lit _) (FzTo.frz rfl) (by kernel_rfl) (ViewL.cons (View.deep (v := 0) v37.2 (by kernel_rfl) rfl) (ViewL.cons (View.frz rfl) (ViewL.nil _))) ?_
 refine veM [10] 1 124 [(15, I v37.1), (16, I v51)] [none, some ⟨1, [I v13.fTime, rf 0 0 3 v13.fWrites]⟩, some ⟨0, dL v33.2⟩, some ⟨0, dL v37.2⟩] ?_
 refine pwp_seq ?_
 refine srveM [10] 124 [(15, I v37.1), (16, I v51), (120, B (decide (v51 < 0)))] [none, some ⟨1, [I v13.fTime, rf 0 0 3 v13.fWrites]⟩, some ⟨0, dL v33.2⟩, some ⟨0, dL v37.2⟩] ?_
 refine pc h (fun h => ?_) (fun h => ?_)
 refine srveM [10] 124 [(6, B false)] [none, some ⟨1, [I v13.fTime, rf 0 0 3 v13.fWrites]⟩, some ⟨0, dL v33.2⟩, some ⟨0, dL v37.2⟩] ?_
 cases h
 exact pwp_ret rz
 refine pwp_skip ?_
 refine pwp_seq ?_
 refine srveM [10] 124 [(123, B (!(v51 == v37.1)))] [none, some ⟨1, [I v13.fTime, rf 0 0 3 v13.fWrites]⟩, some ⟨0, dL v33.2⟩, some ⟨0, dL v37.2⟩] ?_
 refine pc h (fun h => ?_) (fun h => ?_)
 refine srveM [10] 124 [(6, B false)] [none, some ⟨1, [I v13.fTime, rf 0 0 3 v13.fWrites]⟩, some ⟨0, dL v33.2⟩, some ⟨0, dL v37.2⟩] ?_
 cases h
 exact pwp_ret rz
 refine pwp_skip ?_
 refine srveM [10] 124 [(6, B true)] [none, some ⟨1, [I v13.fTime, rf 0 0 3 v13.fWrites]⟩, some ⟨0, dL v33.2⟩, some ⟨0, dL v37.2⟩] ?_
 cases h
 exact pwp_ret rz
end Go.D
