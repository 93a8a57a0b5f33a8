import Derived.Test.YtlcjmombcnkfcaaGreatSwDXFA
import Derived.KernelRfl
set_option linter.unusedVariables false
set_option linter.unusedSimpArgs false
namespace Go.D
open Go.Proofs
theorem ok_impl_IndexOk {a0 : List T_impl_Mark} {y : Bool} (h : impl_IndexOk a0 = some y) : OK Tryz.prog 9 [A a0] (B y) := by
 refine ow Tryz.func9 fun Γ hX => ?_
 unfold impl_IndexOk at h
 refine srveM [4] 65 [(0, A a0)] [] ?_
 refine pwp_seq ?_
 refine srveM [4] 65 [(0, A a0), (5, A a0), (6, I (a0.length : Int)), (7, I 0)] [] ?_
 refine pwp_block ?_
 refine pwp_loop (ι := Nat × Int) (fun (f2, x1) => (⟨65, [(0, A a0), (5, A a0), (6, I (a0.length : Int)), (7, I x1)], []⟩ : St)) (fun (f2, x1) => impl_IndexOk_l0 a0 f2 x1 = some y) Prod.fst (FUEL, 0) h (it [0, 5, 6, 7]) ?_
 rintro ⟨f2, x1⟩ h
 dsimp only at h ⊢
 rcases f2 with _ | f2
 cases h
 rw [impl_IndexOk_l0] at h
 refine srveM [4] 65 [(0, A a0), (5, A a0), (6, I (a0.length : Int)), (7, I x1), (8, B (decide (x1 < (a0.length : Int))))] [] ?_
 refine pwp_seq ?_
 refine pc h (fun h => ?_) (fun h => ?_)
 refine pwp_skip ?_
 refine pwp_seq ?_
 refine pwp_block ?_
 refine srvM [4] 1 65 [(0, A a0), (5, A a0), (6, I (a0.length : Int)), (7, I x1), (9, I x1)] [] ?_
 obtain ⟨v5, hv6, h⟩ := bindS h
 refine opsP_idx τ_ok 10 hv6 (by kernel_rfl) ?_
 refine veM [4] 4 65 [(0, A a0), (3, I x1), (4, .ptr 0 0 0), (5, A a0), (6, I (a0.length : Int)), (7, I x1)] [sc 0 v5] ?_
 refine pwp_seq ?_
 refine pwp_seq ?_
 refine pwp_join (σ := Bool) (fun x7 => (⟨65, [(0, A a0), (3, I x1), (4, .ptr 0 0 0), (5, A a0), (6, I (a0.length : Int)), (7, I x1), (55, B x7)], [sc 0 v5]⟩ : St)) (fun x7 => impl_IndexOk_j1 a0 x1 (impl_IndexOk_l0 a0 f2) v5 x7 = some y) ?_ ?_
 refine ip 65 [(0, A a0), (3, I x1), (4, .ptr 0 0 0), (5, A a0), (6, I (a0.length : Int)), (7, I x1)] [sc 0 v5] ?_
 refine pwp_any ([[0], [0], [], [], [], [0], [0], [], [], [], [], [0], [0], [], [], [], [], [0], [0], [], [], [0], [0], [0], [0], [], [], [], [], [], [], [], [], [], [], [], [], [], [], [0], [], [], [], []]) ([[], [], [], [], [], [], [], [], [], [], [], [], [], [], [], [], [], [], [], [], [], [], [], [], [], [], [], [], [], [], [], [], [], [], [], [], [], [], [], [], [], [], [], []]) rfl (by kernel_rfl) ?_
 refine qvM [4] [0] (hB trivial) 2 65 [(13, E v5.fV), (0, A a0), (3, I x1), (4, .ptr 0 0 0), (5, A a0), (6, I (a0.length : Int)), (7, I x1)] [sc 0 v5] ?_
 obtain ⟨v14, hv15, h⟩ := bindS h
 refine qX (some 14) (B v14) 65 [(14, B v14), (0, A a0), (3, I x1), (4, .ptr 0 0 0), (5, A a0), (6, I (a0.length : Int)), (7, I x1)] [sc 0 v5] (fun Γ' hΓ => CoreE.of_g (callV_sound (τ := τ) (by kernel_rfl) rfl (ok_impl_Value_ok hv15) (FzTo.frz rfl))) trivial ?_
 refine qvM [4] [] trivial 2 65 [(16, B (!v14)), (0, A a0), (3, I x1), (4, .ptr 0 0 0), (5, A a0), (6, I (a0.length : Int)), (7, I x1)] [sc 0 v5] ?_
 rcases fk (!v14) with hc36 | hc36
 replace h := bT hc36 h
 rw [hc36]
 refine qvM [4] [0] (hB trivial) 2 65 [(18, .lit undef), (17, .lit undef), (16, B true), (0, A a0), (3, I x1), (4, .ptr 0 0 0), (5, A a0), (6, I (a0.length : Int)), (7, I x1)] [sc 0 v5] ?_
 refine qvM [4] [] trivial 4 65 [(22, B true), (20, .lit undef), (19, .lit undef), (18, .lit undef), (17, .lit undef), (0, A a0), (3, I x1), (4, .ptr 0 0 0), (5, A a0), (6, I (a0.length : Int)), (7, I x1)] [sc 0 v5] ?_
 refine qvM [4] [0] (hB trivial) 2 65 [(24, .lit undef), (23, .lit undef), (22, B true), (20, .lit undef), (19, .lit undef), (18, .lit undef), (17, .lit undef), (0, A a0), (3, I x1), (4, .ptr 0 0 0), (5, A a0), (6, I (a0.length : Int)), (7, I x1)] [sc 0 v5] ?_
 refine qvM [4] [] trivial 4 65 [(28, B true), (26, .lit undef), (25, .lit undef), (24, .lit undef), (23, .lit undef), (20, .lit undef), (19, .lit undef), (18, .lit undef), (17, .lit undef), (0, A a0), (3, I x1), (4, .ptr 0 0 0), (5, A a0), (6, I (a0.length : Int)), (7, I x1)] [sc 0 v5] ?_
 refine qvM [4] [0] (hB trivial) 2 65 [(30, .lit undef), (29, .lit undef), (28, B true), (26, .lit undef), (25, .lit undef), (24, .lit undef), (23, .lit undef), (20, .lit undef), (19, .lit undef), (18, .lit undef), (17, .lit undef), (0, A a0), (3, I x1), (4, .ptr 0 0 0), (5, A a0), (6, I (a0.length : Int)), (7, I x1)] [sc 0 v5] ?_
 refine qvM [4] [] trivial 2 65 [(32, .lit undef), (31, .lit undef), (30, .lit undef), (29, .lit undef), (28, B true), (26, .lit undef), (25, .lit undef), (24, .lit undef), (23, .lit undef), (20, .lit undef), (19, .lit undef), (18, .lit undef), (17, .lit undef), (0, A a0), (3, I x1), (4, .ptr 0 0 0), (5, A a0), (6, I (a0.length : Int)), (7, I x1)] [sc 0 v5] ?_
 refine qvM [4] [0] (hB trivial) 4 65 [(36, .lit undef), (35, .lit undef), (34, .lit undef), (33, .lit undef), (32, .lit undef), (31, .lit undef), (30, .lit undef), (29, .lit undef), (28, B true), (26, .lit undef), (25, .lit undef), (24, .lit undef), (23, .lit undef), (20, .lit undef), (19, .lit undef), (18, .lit undef), (17, .lit undef), (0, A a0), (3, I x1), (4, .ptr 0 0 0), (5, A a0), (6, I (a0.length : Int)), (7, I x1)] [sc 0 v5] ?_
 refine qvM [4] [] trivial 14 65 [(50, .lit undef), (49, .lit undef), (48, .lit undef), (47, .lit undef), (46, .lit undef), (45, .lit undef), (44, .lit undef), (43, .lit undef), (42, B true), (40, .lit undef), (39, .lit undef), (38, .lit undef), (37, .lit undef), (36, .lit undef), (35, .lit undef), (34, .lit undef), (33, .lit undef), (32, .lit undef), (31, .lit undef), (30, .lit undef), (29, .lit undef), (26, .lit undef), (25, .lit undef), (24, .lit undef), (23, .lit undef), (20, .lit undef), (19, .lit undef), (18, .lit undef), (17, .lit undef), (0, A a0), (3, I x1), (4, .ptr 0 0 0), (5, A a0), (6, I (a0.length : Int)), (7, I x1)] [sc 0 v5] ?_
 refine qvM [4] [0] (hB trivial) 1 65 [(51, .lit undef), (50, .lit undef), (49, .lit undef), (48, .lit undef), (47, .lit undef), (46, .lit undef), (45, .lit undef), (44, .lit undef), (43, .lit undef), (42, B true), (40, .lit undef), (39, .lit undef), (38, .lit undef), (37, .lit undef), (36, .lit undef), (35, .lit undef), (34, .lit undef), (33, .lit undef), (32, .lit undef), (31, .lit undef), (30, .lit undef), (29, .lit undef), (26, .lit undef), (25, .lit undef), (24, .lit undef), (23, .lit undef), (20, .lit undef), (19, .lit undef), (18, .lit undef), (17, .lit undef), (0, A a0), (3, I x1), (4, .ptr 0 0 0), (5, A a0), (6, I (a0.length : Int)), (7, I x1)] [sc 0 v5] ?_
 refine qvM [4] [] trivial 4 65 [(55, B true), (54, .lit undef), (53, .lit undef), (52, .lit undef), (51, .lit undef), (50, .lit undef), (49, .lit undef), (48, .lit undef), (47, .lit undef), (46, .lit undef), (45, .lit undef), (44, .lit undef), (43, .lit undef), (40, .lit undef), (39, .lit undef), (38, .lit undef), (37, .lit undef), (36, .lit undef), (35, .lit undef), (34, .lit undef), (33, .lit undef), (32, .lit undef), (31, .lit undef), (30, .lit undef), (29, .lit undef), (26, .lit undef), (25, .lit undef), (24, .lit undef), (23, .lit undef), (20, .lit undef), (19, .lit undef), (18, .lit undef), (17, .lit undef), (0, A a0), (3, I x1), (4, .ptr 0 0 0), (5, A a0), (6, I (a0.length : Int)), (7, I x1)] [sc 0 v5] ?_
 refine qn 65 [(0, A a0), (3, I x1), (4, .ptr 0 0 0), (5, A a0), (6, I (a0.length : Int)), (7, I x1), (17, .lit undef), (18, .lit undef), (19, .lit undef), (20, .lit undef), (23, .lit undef), (24, .lit undef), (25, .lit undef), (26, .lit undef), (29, .lit undef), (30, .lit undef), (31, .lit undef), (32, .lit undef), (33, .lit undef), (34, .lit undef), (35, .lit undef), (36, .lit undef), (37, .lit undef), (38, .lit undef), (39, .lit undef), (40, .lit undef), (43, .lit undef), (44, .lit undef), (45, .lit undef), (46, .lit undef), (47, .lit undef), (48, .lit undef), (49, .lit undef), (50, .lit undef), (51, .lit undef), (52, .lit undef), (53, .lit undef), (54, .lit undef), (55, B true)] [sc 0 v5] ?_
 exact ⟨true, h, it [0, 3, 4, 5, 6, 7, 55]⟩
 replace h := bF hc36 h
 rw [hc36]
 refine qvM [4] [0] (hB trivial) 2 65 [(18, I v5.fKey), (17, .ptr 0 0 3), (16, B false), (0, A a0), (3, I x1), (4, .ptr 0 0 0), (5, A a0), (6, I (a0.length : Int)), (7, I x1)] [sc 0 v5] ?_
 obtain ⟨v16, hv17, h⟩ := bindS h
 refine qX (some 19) (B v16) 65 [(19, B v16), (18, I v5.fKey), (17, .ptr 0 0 3), (16, B false), (0, A a0), (3, I x1), (4, .ptr 0 0 0), (5, A a0), (6, I (a0.length : Int)), (7, I x1)] [sc 0 v5] (fun Γ' hΓ => CoreE.of_g (callV_sound (τ := τ) (by kernel_rfl) rfl (ok_impl_keyOk hv17) (FzTo.frz rfl))) trivial ?_
 refine qvM [4] [] trivial 3 65 [(22, B (!v16)), (20, B (!v16)), (19, B v16), (18, I v5.fKey), (17, .ptr 0 0 3), (0, A a0), (3, I x1), (4, .ptr 0 0 0), (5, A a0), (6, I (a0.length : Int)), (7, I x1)] [sc 0 v5] ?_
 rcases fk (!v16) with hc35 | hc35
 replace h := bT hc35 h
 rw [hc35]
 refine qvM [4] [0] (hB trivial) 2 65 [(24, .lit undef), (23, .lit undef), (22, B true), (20, B true), (19, B v16), (18, I v5.fKey), (17, .ptr 0 0 3), (0, A a0), (3, I x1), (4, .ptr 0 0 0), (5, A a0), (6, I (a0.length : Int)), (7, I x1)] [sc 0 v5] ?_
 refine qvM [4] [] trivial 4 65 [(28, B true), (26, .lit undef), (25, .lit undef), (24, .lit undef), (23, .lit undef), (20, B true), (19, B v16), (18, I v5.fKey), (17, .ptr 0 0 3), (0, A a0), (3, I x1), (4, .ptr 0 0 0), (5, A a0), (6, I (a0.length : Int)), (7, I x1)] [sc 0 v5] ?_
 refine qvM [4] [0] (hB trivial) 2 65 [(30, .lit undef), (29, .lit undef), (28, B true), (26, .lit undef), (25, .lit undef), (24, .lit undef), (23, .lit undef), (20, B true), (19, B v16), (18, I v5.fKey), (17, .ptr 0 0 3), (0, A a0), (3, I x1), (4, .ptr 0 0 0), (5, A a0), (6, I (a0.length : Int)), (7, I x1)] [sc 0 v5] ?_
 refine qvM [4] [] trivial 2 65 [(32, .lit undef), (31, .lit undef), (30, .lit undef), (29, .lit undef), (28, B true), (26, .lit undef), (25, .lit undef), (24, .lit undef), (23, .lit undef), (20, B true), (19, B v16), (18, I v5.fKey), (17, .ptr 0 0 3), (0, A a0), (3, I x1), (4, .ptr 0 0 0), (5, A a0), (6, I (a0.length : Int)), (7, I x1)] [sc 0 v5] ?_
 refine qvM [4] [0] (hB trivial) 4 65 [(36, .lit undef), (35, .lit undef), (34, .lit undef), (33, .lit undef), (32, .lit undef), (31, .lit undef), (30, .lit undef), (29, .lit undef), (28, B true), (26, .lit undef), (25, .lit undef), (24, .lit undef), (23, .lit undef), (20, B true), (19, B v16), (18, I v5.fKey), (17, .ptr 0 0 3), (0, A a0), (3, I x1), (4, .ptr 0 0 0), (5, A a0), (6, I (a0.length : Int)), (7, I x1)] [sc 0 v5] ?_
 refine qvM [4] [] trivial 14 65 [(50, .lit undef), (49, .lit undef), (48, .lit undef), (47, .lit undef), (46, .lit undef), (45, .lit undef), (44, .lit undef), (43, .lit undef), (42, B true), (40, .lit undef), (39, .lit undef), (38, .lit undef), (37, .lit undef), (36, .lit undef), (35, .lit undef), (34, .lit undef), (33, .lit undef), (32, .lit undef), (31, .lit undef), (30, .lit undef), (29, .lit undef), (26, .lit undef), (25, .lit undef), (24, .lit undef), (23, .lit undef), (20, B true), (19, B v16), (18, I v5.fKey), (17, .ptr 0 0 3), (0, A a0), (3, I x1), (4, .ptr 0 0 0), (5, A a0), (6, I (a0.length : Int)), (7, I x1)] [sc 0 v5] ?_
 refine qvM [4] [0] (hB trivial) 1 65 [(51, .lit undef), (50, .lit undef), (49, .lit undef), (48, .lit undef), (47, .lit undef), (46, .lit undef), (45, .lit undef), (44, .lit undef), (43, .lit undef), (42, B true), (40, .lit undef), (39, .lit undef), (38, .lit undef), (37, .lit undef), (36, .lit undef), (35, .lit undef), (34, .lit undef), (33, .lit undef), (32, .lit undef), (31, .lit undef), (30, .lit undef), (29, .lit undef), (26, .lit undef), (25, .lit undef), (24, .lit undef), (23, .lit undef), (20, B true), (19, B v16), (18, I v5.fKey), (17, .ptr 0 0 3), (0, A a0), (3, I x1), (4, .ptr 0 0 0), (5, A a0), (6, I (a0.length : Int)), (7, I x1)] [sc 0 v5] ?_
 refine qvM [4] [] trivial 4 65 [(55, B true), (54, .lit undef), (53, .lit undef), (52, .lit undef), (51, .lit undef), (50, .lit undef), (49, .lit undef), (48, .lit undef), (47, .lit undef), (46, .lit undef), (45, .lit undef), (44, .lit undef), (43, .lit undef), (40, .lit undef), (39, .lit undef), (38, .lit undef), (37, .lit undef), (36, .lit undef), (35, .lit undef), (34, .lit undef), (33, .lit undef), (32, .lit undef), (31, .lit undef), (30, .lit undef), (29, .lit undef), (26, .lit undef), (25, .lit undef), (24, .lit undef), (23, .lit undef), (20, B true), (19, B v16), (18, I v5.fKey), (17, .ptr 0 0 3), (0, A a0), (3, I x1), (4, .ptr 0 0 0), (5, A a0), (6, I (a0.length : Int)), (7, I x1)] [sc 0 v5] ?_
 refine qn 65 [(0, A a0), (3, I x1), (4, .ptr 0 0 0), (5, A a0), (6, I (a0.length : Int)), (7, I x1), (17, .ptr 0 0 3), (18, I v5.fKey), (19, B v16), (20, B true), (23, .lit undef), (24, .lit undef), (25, .lit undef), (26, .lit undef), (29, .lit undef), (30, .lit undef), (31, .lit undef), (32, .lit undef), (33, .lit undef), (34, .lit undef), (35, .lit undef), (36, .lit undef), (37, .lit undef), (38, .lit undef), (39, .lit undef), (40, .lit undef), (43, .lit undef), (44, .lit undef), (45, .lit undef), (46, .lit undef), (47, .lit undef), (48, .lit undef), (49, .lit undef), (50, .lit undef), (51, .lit undef), (52, .lit undef), (53, .lit undef), (54, .lit undef), (55, B true)] [sc 0 v5] ?_
 exact ⟨true, h, it [0, 3, 4, 5, 6, 7, 55]⟩
 replace h := bF hc35 h
 rw [hc35]
 refine qvM [4] [0] (hB trivial) 2 65 [(24, I v5.fBorn), (23, .ptr 0 0 4), (22, B false), (20, B false), (19, B v16), (18, I v5.fKey), (17, .ptr 0 0 3), (0, A a0), (3, I x1), (4, .ptr 0 0 0), (5, A a0), (6, I (a0.length : Int)), (7, I x1)] [sc 0 v5] ?_
 obtain ⟨v18, hv19, h⟩ := bindS h
 refine qX (some 25) (B v18) 65 [(25, B v18), (24, I v5.fBorn), (23, .ptr 0 0 4), (22, B false), (20, B false), (19, B v16), (18, I v5.fKey), (17, .ptr 0 0 3), (0, A a0), (3, I x1), (4, .ptr 0 0 0), (5, A a0), (6, I (a0.length : Int)), (7, I x1)] [sc 0 v5] (fun Γ' hΓ => CoreE.of_g (callV_sound (τ := τ) (by kernel_rfl) rfl (ok_impl_between hv19) (FzTo.frz rfl))) trivial ?_
 refine qvM [4] [] trivial 3 65 [(28, B (!v18)), (26, B (!v18)), (25, B v18), (24, I v5.fBorn), (23, .ptr 0 0 4), (20, B false), (19, B v16), (18, I v5.fKey), (17, .ptr 0 0 3), (0, A a0), (3, I x1), (4, .ptr 0 0 0), (5, A a0), (6, I (a0.length : Int)), (7, I x1)] [sc 0 v5] ?_
 rcases fk (!v18) with hc34 | hc34
 replace h := bT hc34 h
 rw [hc34]
 refine qvM [4] [0] (hB trivial) 2 65 [(30, .lit undef), (29, .lit undef), (28, B true), (26, B true), (25, B v18), (24, I v5.fBorn), (23, .ptr 0 0 4), (20, B false), (19, B v16), (18, I v5.fKey), (17, .ptr 0 0 3), (0, A a0), (3, I x1), (4, .ptr 0 0 0), (5, A a0), (6, I (a0.length : Int)), (7, I x1)] [sc 0 v5] ?_
 refine qvM [4] [] trivial 2 65 [(32, .lit undef), (31, .lit undef), (30, .lit undef), (29, .lit undef), (28, B true), (26, B true), (25, B v18), (24, I v5.fBorn), (23, .ptr 0 0 4), (20, B false), (19, B v16), (18, I v5.fKey), (17, .ptr 0 0 3), (0, A a0), (3, I x1), (4, .ptr 0 0 0), (5, A a0), (6, I (a0.length : Int)), (7, I x1)] [sc 0 v5] ?_
 refine qvM [4] [0] (hB trivial) 4 65 [(36, .lit undef), (35, .lit undef), (34, .lit undef), (33, .lit undef), (32, .lit undef), (31, .lit undef), (30, .lit undef), (29, .lit undef), (28, B true), (26, B true), (25, B v18), (24, I v5.fBorn), (23, .ptr 0 0 4), (20, B false), (19, B v16), (18, I v5.fKey), (17, .ptr 0 0 3), (0, A a0), (3, I x1), (4, .ptr 0 0 0), (5, A a0), (6, I (a0.length : Int)), (7, I x1)] [sc 0 v5] ?_
 refine qvM [4] [] trivial 14 65 [(50, .lit undef), (49, .lit undef), (48, .lit undef), (47, .lit undef), (46, .lit undef), (45, .lit undef), (44, .lit undef), (43, .lit undef), (42, B true), (40, .lit undef), (39, .lit undef), (38, .lit undef), (37, .lit undef), (36, .lit undef), (35, .lit undef), (34, .lit undef), (33, .lit undef), (32, .lit undef), (31, .lit undef), (30, .lit undef), (29, .lit undef), (26, B true), (25, B v18), (24, I v5.fBorn), (23, .ptr 0 0 4), (20, B false), (19, B v16), (18, I v5.fKey), (17, .ptr 0 0 3), (0, A a0), (3, I x1), (4, .ptr 0 0 0), (5, A a0), (6, I (a0.length : Int)), (7, I x1)] [sc 0 v5] ?_
 refine qvM [4] [0] (hB trivial) 1 65 [(51, .lit undef), (50, .lit undef), (49, .lit undef), (48, .lit undef), (47, .lit undef), (46, .lit undef), (45, .lit undef), (44, .lit undef), (43, .lit undef), (42, B true), (40, .lit undef), (39, .lit undef), (38, .lit undef), (37, .lit undef), (36, .lit undef), (35, .lit undef), (34, .lit undef), (33, .lit undef), (32, .lit undef), (31, .lit undef), (30, .lit undef), (29, .lit undef), (26, B true), (25, B v18), (24, I v5.fBorn), (23, .ptr 0 0 4), (20, B false), (19, B v16), (18, I v5.fKey), (17, .ptr 0 0 3), (0, A a0), (3, I x1), (4, .ptr 0 0 0), (5, A a0), (6, I (a0.length : Int)), (7, I x1)] [sc 0 v5] ?_
 refine qvM [4] [] trivial 4 65 [(55, B true), (54, .lit undef), (53, .lit undef), (52, .lit undef), (51, .lit undef), (50, .lit undef), (49, .lit undef), (48, .lit undef), (47, .lit undef), (46, .lit undef), (45, .lit undef), (44, .lit undef), (43, .lit undef), (40, .lit undef), (39, .lit undef), (38, .lit undef), (37, .lit undef), (36, .lit undef), (35, .lit undef), (34, .lit undef), (33, .lit undef), (32, .lit undef), (31, .lit undef), (30, .lit undef), (29, .lit undef), (26, B true), (25, B v18), (24, I v5.fBorn), (23, .ptr 0 0 4), (20, B false), (19, B v16), (18, I v5.fKey), (17, .ptr 0 0 3), (0, A a0), (3, I x1), (4, .ptr 0 0 0), (5, A a0), (6, I (a0.length : Int)), (7, I x1)] [sc 0 v5] ?_
 refine qn 65 [(0, A a0), (3, I x1), (4, .ptr 0 0 0), (5, A a0), (6, I (a0.length : Int)), (7, I x1), (17, .ptr 0 0 3), (18, I v5.fKey), (19, B v16), (20, B false), (23, .ptr 0 0 4), (24, I v5.fBorn), (25, B v18), (26, B true), (29, .lit undef), (30, .lit undef), (31, .lit undef), (32, .lit undef), (33, .lit undef), (34, .lit undef), (35, .lit undef), (36, .lit undef), (37, .lit undef), (38, .lit undef), (39, .lit undef), (40, .lit undef), (43, .lit undef), (44, .lit undef), (45, .lit undef), (46, .lit undef), (47, .lit undef), (48, .lit undef), (49, .lit undef), (50, .lit undef), (51, .lit undef), (52, .lit undef), (53, .lit undef), (54, .lit undef), (55, B true)] [sc 0 v5] ?_
 exact ⟨true, h, it [0, 3, 4, 5, 6, 7, 55]⟩
 replace h := bF hc34 h
 rw [hc34]
 refine qvM [4] [0] (hB trivial) 2 65 [(30, I v5.fDied), (29, .ptr 0 0 5), (28, B false), (26, B false), (25, B v18), (24, I v5.fBorn), (23, .ptr 0 0 4), (20, B false), (19, B v16), (18, I v5.fKey), (17, .ptr 0 0 3), (0, A a0), (3, I x1), (4, .ptr 0 0 0), (5, A a0), (6, I (a0.length : Int)), (7, I x1)] [sc 0 v5] ?_
 refine qvM [4] [] trivial 2 65 [(32, B (!(v5.fDied == 0))), (31, B (!(v5.fDied == 0))), (30, I v5.fDied), (29, .ptr 0 0 5), (28, B false), (26, B false), (25, B v18), (24, I v5.fBorn), (23, .ptr 0 0 4), (20, B false), (19, B v16), (18, I v5.fKey), (17, .ptr 0 0 3), (0, A a0), (3, I x1), (4, .ptr 0 0 0), (5, A a0), (6, I (a0.length : Int)), (7, I x1)] [sc 0 v5] ?_
 rcases fk (!(v5.fDied == 0)) with hc33 | hc33
 replace h := bT hc33 h
 rw [hc33]
 refine qvM [4] [0] (hB trivial) 4 65 [(36, I v5.fBorn), (35, .ptr 0 0 4), (34, I v5.fDied), (33, .ptr 0 0 5), (32, B true), (31, B true), (30, I v5.fDied), (29, .ptr 0 0 5), (28, B false), (26, B false), (25, B v18), (24, I v5.fBorn), (23, .ptr 0 0 4), (20, B false), (19, B v16), (18, I v5.fKey), (17, .ptr 0 0 3), (0, A a0), (3, I x1), (4, .ptr 0 0 0), (5, A a0), (6, I (a0.length : Int)), (7, I x1)] [sc 0 v5] ?_
 refine qvM [4] [] trivial 1 65 [(37, I (w64 (v5.fBorn + 1))), (36, I v5.fBorn), (35, .ptr 0 0 4), (34, I v5.fDied), (33, .ptr 0 0 5), (32, B true), (31, B true), (30, I v5.fDied), (29, .ptr 0 0 5), (28, B false), (26, B false), (25, B v18), (24, I v5.fBorn), (23, .ptr 0 0 4), (20, B false), (19, B v16), (18, I v5.fKey), (17, .ptr 0 0 3), (0, A a0), (3, I x1), (4, .ptr 0 0 0), (5, A a0), (6, I (a0.length : Int)), (7, I x1)] [sc 0 v5] ?_
 obtain ⟨v20, hv21, h⟩ := bindS h
 refine qX (some 38) (B v20) 65 [(38, B v20), (37, I (w64 (v5.fBorn + 1))), (36, I v5.fBorn), (35, .ptr 0 0 4), (34, I v5.fDied), (33, .ptr 0 0 5), (32, B true), (31, B true), (30, I v5.fDied), (29, .ptr 0 0 5), (28, B false), (26, B false), (25, B v18), (24, I v5.fBorn), (23, .ptr 0 0 4), (20, B false), (19, B v16), (18, I v5.fKey), (17, .ptr 0 0 3), (0, A a0), (3, I x1), (4, .ptr 0 0 0), (5, A a0), (6, I (a0.length : Int)), (7, I x1)] [sc 0 v5] (fun Γ' hΓ => CoreE.of_g (callV_sound (τ := τ) (by kernel_rfl) rfl (ok_impl_between hv21) (FzTo.frz rfl))) trivial ?_
 refine qvM [4] [] trivial 4 65 [(42, B (!v20)), (40, B (!v20)), (39, B (!v20)), (38, B v20), (37, I (w64 (v5.fBorn + 1))), (36, I v5.fBorn), (35, .ptr 0 0 4), (34, I v5.fDied), (33, .ptr 0 0 5), (32, B true), (31, B true), (30, I v5.fDied), (29, .ptr 0 0 5), (26, B false), (25, B v18), (24, I v5.fBorn), (23, .ptr 0 0 4), (20, B false), (19, B v16), (18, I v5.fKey), (17, .ptr 0 0 3), (0, A a0), (3, I x1), (4, .ptr 0 0 0), (5, A a0), (6, I (a0.length : Int)), (7, I x1)] [sc 0 v5] ?_
 rcases fk (!v20) with hc27 | hc27
 replace h := bT hc27 h
 rw [hc27]
 refine qvM [4] [] trivial 8 65 [(50, .lit undef), (49, .lit undef), (48, .lit undef), (47, .lit undef), (46, .lit undef), (45, .lit undef), (44, .lit undef), (43, .lit undef), (42, B true), (40, B true), (39, B true), (38, B v20), (37, I (w64 (v5.fBorn + 1))), (36, I v5.fBorn), (35, .ptr 0 0 4), (34, I v5.fDied), (33, .ptr 0 0 5), (32, B true), (31, B true), (30, I v5.fDied), (29, .ptr 0 0 5), (26, B false), (25, B v18), (24, I v5.fBorn), (23, .ptr 0 0 4), (20, B false), (19, B v16), (18, I v5.fKey), (17, .ptr 0 0 3), (0, A a0), (3, I x1), (4, .ptr 0 0 0), (5, A a0), (6, I (a0.length : Int)), (7, I x1)] [sc 0 v5] ?_
 refine qvM [4] [0] (hB trivial) 1 65 [(51, .lit undef), (50, .lit undef), (49, .lit undef), (48, .lit undef), (47, .lit undef), (46, .lit undef), (45, .lit undef), (44, .lit undef), (43, .lit undef), (42, B true), (40, B true), (39, B true), (38, B v20), (37, I (w64 (v5.fBorn + 1))), (36, I v5.fBorn), (35, .ptr 0 0 4), (34, I v5.fDied), (33, .ptr 0 0 5), (32, B true), (31, B true), (30, I v5.fDied), (29, .ptr 0 0 5), (26, B false), (25, B v18), (24, I v5.fBorn), (23, .ptr 0 0 4), (20, B false), (19, B v16), (18, I v5.fKey), (17, .ptr 0 0 3), (0, A a0), (3, I x1), (4, .ptr 0 0 0), (5, A a0), (6, I (a0.length : Int)), (7, I x1)] [sc 0 v5] ?_
 refine qvM [4] [] trivial 4 65 [(55, B true), (54, .lit undef), (53, .lit undef), (52, .lit undef), (51, .lit undef), (50, .lit undef), (49, .lit undef), (48, .lit undef), (47, .lit undef), (46, .lit undef), (45, .lit undef), (44, .lit undef), (43, .lit undef), (40, B true), (39, B true), (38, B v20), (37, I (w64 (v5.fBorn + 1))), (36, I v5.fBorn), (35, .ptr 0 0 4), (34, I v5.fDied), (33, .ptr 0 0 5), (32, B true), (31, B true), (30, I v5.fDied), (29, .ptr 0 0 5), (26, B false), (25, B v18), (24, I v5.fBorn), (23, .ptr 0 0 4), (20, B false), (19, B v16), (18, I v5.fKey), (17, .ptr 0 0 3), (0, A a0), (3, I x1), (4, .ptr 0 0 0), (5, A a0), (6, I (a0.length : Int)), (7, I x1)] [sc 0 v5] ?_
 refine qn 65 [(0, A a0), (3, I x1), (4, .ptr 0 0 0), (5, A a0), (6, I (a0.length : Int)), (7, I x1), (17, .ptr 0 0 3), (18, I v5.fKey), (19, B v16), (20, B false), (23, .ptr 0 0 4), (24, I v5.fBorn), (25, B v18), (26, B false), (29, .ptr 0 0 5), (30, I v5.fDied), (31, B true), (32, B true), (33, .ptr 0 0 5), (34, I v5.fDied), (35, .ptr 0 0 4), (36, I v5.fBorn), (37, I (w64 (v5.fBorn + 1))), (38, B v20), (39, B true), (40, B true), (43, .lit undef), (44, .lit undef), (45, .lit undef), (46, .lit undef), (47, .lit undef), (48, .lit undef), (49, .lit undef), (50, .lit undef), (51, .lit undef), (52, .lit undef), (53, .lit undef), (54, .lit undef), (55, B true)] [sc 0 v5] ?_
 exact ⟨true, h, it [0, 3, 4, 5, 6, 7, 55]⟩
 replace h := bF hc27 h
 rw [hc27]
 refine qvM [4] [] trivial 3 65 [(45, B (decide (x1 > 0))), (44, B (decide (x1 > 0))), (43, I x1), (42, B false), (40, B false), (39, B false), (38, B v20), (37, I (w64 (v5.fBorn + 1))), (36, I v5.fBorn), (35, .ptr 0 0 4), (34, I v5.fDied), (33, .ptr 0 0 5), (32, B true), (31, B true), (30, I v5.fDied), (29, .ptr 0 0 5), (26, B false), (25, B v18), (24, I v5.fBorn), (23, .ptr 0 0 4), (20, B false), (19, B v16), (18, I v5.fKey), (17, .ptr 0 0 3), (0, A a0), (3, I x1), (4, .ptr 0 0 0), (5, A a0), (6, I (a0.length : Int)), (7, I x1)] [sc 0 v5] ?_
 rcases fk (decide (x1 > 0)) with hc26 | hc26
 replace h := bT hc26 h
 rw [hc26]
 refine qvM [4] [] trivial 3 65 [(48, I (w64 (x1 - 1))), (47, I x1), (46, A a0), (45, B true), (44, B true), (43, I x1), (42, B false), (40, B false), (39, B false), (38, B v20), (37, I (w64 (v5.fBorn + 1))), (36, I v5.fBorn), (35, .ptr 0 0 4), (34, I v5.fDied), (33, .ptr 0 0 5), (32, B true), (31, B true), (30, I v5.fDied), (29, .ptr 0 0 5), (26, B false), (25, B v18), (24, I v5.fBorn), (23, .ptr 0 0 4), (20, B false), (19, B v16), (18, I v5.fKey), (17, .ptr 0 0 3), (0, A a0), (3, I x1), (4, .ptr 0 0 0), (5, A a0), (6, I (a0.length : Int)), (7, I x1)] [sc 0 v5] ?_
 obtain ⟨v22, hv23, h⟩ := bindS h
 refine qX (some 49) (pf v22 0) 65 [(49, pf v22 0), (48, I (w64 (x1 - 1))), (47, I x1), (46, A a0), (45, B true), (44, B true), (43, I x1), (42, B false), (40, B false), (39, B false), (38, B v20), (37, I (w64 (v5.fBorn + 1))), (36, I v5.fBorn), (35, .ptr 0 0 4), (34, I v5.fDied), (33, .ptr 0 0 5), (32, B true), (31, B true), (30, I v5.fDied), (29, .ptr 0 0 5), (26, B false), (25, B v18), (24, I v5.fBorn), (23, .ptr 0 0 4), (20, B false), (19, B v16), (18, I v5.fKey), (17, .ptr 0 0 3), (0, A a0), (3, I x1), (4, .ptr 0 0 0), (5, A a0), (6, I (a0.length : Int)), (7, I x1)] [sc 0 v5] (fun Γ' hΓ => CoreE.of_y (idxV_sound τ_ok (by kernel_rfl) hv23)) trivial ?_
 refine qvM [4] [] trivial 1 65 [(50, E v22), (49, pf v22 0), (48, I (w64 (x1 - 1))), (47, I x1), (46, A a0), (45, B true), (44, B true), (43, I x1), (42, B false), (40, B false), (39, B false), (38, B v20), (37, I (w64 (v5.fBorn + 1))), (36, I v5.fBorn), (35, .ptr 0 0 4), (34, I v5.fDied), (33, .ptr 0 0 5), (32, B true), (31, B true), (30, I v5.fDied), (29, .ptr 0 0 5), (26, B false), (25, B v18), (24, I v5.fBorn), (23, .ptr 0 0 4), (20, B false), (19, B v16), (18, I v5.fKey), (17, .ptr 0 0 3), (0, A a0), (3, I x1), (4, .ptr 0 0 0), (5, A a0), (6, I (a0.length : Int)), (7, I x1)] [sc 0 v5] ?_
 refine qvM [4] [0] (hB trivial) 1 65 [(51, E v5), (50, E v22), (49, pf v22 0), (48, I (w64 (x1 - 1))), (47, I x1), (46, A a0), (45, B true), (44, B true), (43, I x1), (42, B false), (40, B false), (39, B false), (38, B v20), (37, I (w64 (v5.fBorn + 1))), (36, I v5.fBorn), (35, .ptr 0 0 4), (34, I v5.fDied), (33, .ptr 0 0 5), (32, B true), (31, B true), (30, I v5.fDied), (29, .ptr 0 0 5), (26, B false), (25, B v18), (24, I v5.fBorn), (23, .ptr 0 0 4), (20, B false), (19, B v16), (18, I v5.fKey), (17, .ptr 0 0 3), (0, A a0), (3, I x1), (4, .ptr 0 0 0), (5, A a0), (6, I (a0.length : Int)), (7, I x1)] [sc 0 v5] ?_
 obtain ⟨v24, hv25, h⟩ := bindS h
 refine qX (some 52) (I v24) 65 [(52, I v24), (51, E v5), (50, E v22), (49, pf v22 0), (48, I (w64 (x1 - 1))), (47, I x1), (46, A a0), (45, B true), (44, B true), (43, I x1), (42, B false), (40, B false), (39, B false), (38, B v20), (37, I (w64 (v5.fBorn + 1))), (36, I v5.fBorn), (35, .ptr 0 0 4), (34, I v5.fDied), (33, .ptr 0 0 5), (32, B true), (31, B true), (30, I v5.fDied), (29, .ptr 0 0 5), (26, B false), (25, B v18), (24, I v5.fBorn), (23, .ptr 0 0 4), (20, B false), (19, B v16), (18, I v5.fKey), (17, .ptr 0 0 3), (0, A a0), (3, I x1), (4, .ptr 0 0 0), (5, A a0), (6, I (a0.length : Int)), (7, I x1)] [sc 0 v5] (fun Γ' hΓ => CoreE.of_g (callV_sound (τ := τ) (by kernel_rfl) rfl (ok_impl_Mark_order hv25) (FzTo.frz rfl))) trivial ?_
 refine qvnM [4] [] trivial 3 65 [(0, A a0), (3, I x1), (4, .ptr 0 0 0), (5, A a0), (6, I (a0.length : Int)), (7, I x1), (17, .ptr 0 0 3), (18, I v5.fKey), (19, B v16), (20, B false), (23, .ptr 0 0 4), (24, I v5.fBorn), (25, B v18), (26, B false), (29, .ptr 0 0 5), (30, I v5.fDied), (31, B true), (32, B true), (33, .ptr 0 0 5), (34, I v5.fDied), (35, .ptr 0 0 4), (36, I v5.fBorn), (37, I (w64 (v5.fBorn + 1))), (38, B v20), (39, B false), (40, B false), (43, I x1), (44, B true), (45, B true), (46, A a0), (47, I x1), (48, I (w64 (x1 - 1))), (49, pf v22 0), (50, E v22), (51, E v5), (52, I v24), (53, B (decide (v24 > 0))), (54, B (decide (v24 > 0))), (55, B (decide (v24 > 0)))] [sc 0 v5] ?_
 exact ⟨(decide (v24 > 0)), h, it [0, 3, 4, 5, 6, 7, 55]⟩
 replace h := bF hc26 h
 rw [hc26]
 refine qvM [4] [] trivial 5 65 [(50, .lit undef), (49, .lit undef), (48, .lit undef), (47, .lit undef), (46, .lit undef), (45, B false), (44, B false), (43, I x1), (42, B false), (40, B false), (39, B false), (38, B v20), (37, I (w64 (v5.fBorn + 1))), (36, I v5.fBorn), (35, .ptr 0 0 4), (34, I v5.fDied), (33, .ptr 0 0 5), (32, B true), (31, B true), (30, I v5.fDied), (29, .ptr 0 0 5), (26, B false), (25, B v18), (24, I v5.fBorn), (23, .ptr 0 0 4), (20, B false), (19, B v16), (18, I v5.fKey), (17, .ptr 0 0 3), (0, A a0), (3, I x1), (4, .ptr 0 0 0), (5, A a0), (6, I (a0.length : Int)), (7, I x1)] [sc 0 v5] ?_
 refine qvM [4] [0] (hB trivial) 1 65 [(51, .lit undef), (50, .lit undef), (49, .lit undef), (48, .lit undef), (47, .lit undef), (46, .lit undef), (45, B false), (44, B false), (43, I x1), (42, B false), (40, B false), (39, B false), (38, B v20), (37, I (w64 (v5.fBorn + 1))), (36, I v5.fBorn), (35, .ptr 0 0 4), (34, I v5.fDied), (33, .ptr 0 0 5), (32, B true), (31, B true), (30, I v5.fDied), (29, .ptr 0 0 5), (26, B false), (25, B v18), (24, I v5.fBorn), (23, .ptr 0 0 4), (20, B false), (19, B v16), (18, I v5.fKey), (17, .ptr 0 0 3), (0, A a0), (3, I x1), (4, .ptr 0 0 0), (5, A a0), (6, I (a0.length : Int)), (7, I x1)] [sc 0 v5] ?_
 refine qvM [4] [] trivial 4 65 [(55, B false), (54, B false), (53, .lit undef), (52, .lit undef), (51, .lit undef), (50, .lit undef), (49, .lit undef), (48, .lit undef), (47, .lit undef), (46, .lit undef), (45, B false), (44, B false), (43, I x1), (40, B false), (39, B false), (38, B v20), (37, I (w64 (v5.fBorn + 1))), (36, I v5.fBorn), (35, .ptr 0 0 4), (34, I v5.fDied), (33, .ptr 0 0 5), (32, B true), (31, B true), (30, I v5.fDied), (29, .ptr 0 0 5), (26, B false), (25, B v18), (24, I v5.fBorn), (23, .ptr 0 0 4), (20, B false), (19, B v16), (18, I v5.fKey), (17, .ptr 0 0 3), (0, A a0), (3, I x1), (4, .ptr 0 0 0), (5, A a0), (6, I (a0.length : Int)), (7, I x1)] [sc 0 v5] ?_
 refine qn 65 [(0, A a0), (3, I x1), (4, .ptr 0 0 0), (5, A a0), (6, I (a0.length : Int)), (7, I x1), (17, .ptr 0 0 3), (18, I v5.fKey), (19, B v16), (20, B false), (23, .ptr 0 0 4), (24, I v5.fBorn), (25, B v18), (26, B false), (29, .ptr 0 0 5), (30, I v5.fDied), (31, B true), (32, B true), (33, .ptr 0 0 5), (34, I v5.fDied), (35, .ptr 0 0 4), (36, I v5.fBorn), (37, I (w64 (v5.fBorn + 1))), (38, B v20), (39, B false), (40, B false), (43, I x1), (44, B false), (45, B false), (46, .lit undef), (47, .lit undef), (48, .lit undef), (49, .lit undef), (50, .lit undef), (51, .lit undef), (52, .lit undef), (53, .lit undef), (54, B false), (55, B false)] [sc 0 v5] ?_
 exact ⟨false, h, it [0, 3, 4, 5, 6, 7, 55]⟩
 replace h := bF hc33 h
 rw [hc33]
 refine qvM [4] [0] (hB trivial) 4 65 [(36, .lit undef), (35, .lit undef), (34, .lit undef), (33, .lit undef), (32, B false), (31, B false), (30, I v5.fDied), (29, .ptr 0 0 5), (28, B false), (26, B false), (25, B v18), (24, I v5.fBorn), (23, .ptr 0 0 4), (20, B false), (19, B v16), (18, I v5.fKey), (17, .ptr 0 0 3), (0, A a0), (3, I x1), (4, .ptr 0 0 0), (5, A a0), (6, I (a0.length : Int)), (7, I x1)] [sc 0 v5] ?_
 refine qvM [4] [] trivial 9 65 [(45, B (decide (x1 > 0))), (44, B (decide (x1 > 0))), (43, I x1), (42, B false), (40, B false), (39, .lit undef), (38, .lit undef), (37, .lit undef), (36, .lit undef), (35, .lit undef), (34, .lit undef), (33, .lit undef), (32, B false), (31, B false), (30, I v5.fDied), (29, .ptr 0 0 5), (26, B false), (25, B v18), (24, I v5.fBorn), (23, .ptr 0 0 4), (20, B false), (19, B v16), (18, I v5.fKey), (17, .ptr 0 0 3), (0, A a0), (3, I x1), (4, .ptr 0 0 0), (5, A a0), (6, I (a0.length : Int)), (7, I x1)] [sc 0 v5] ?_
 rcases fk (decide (x1 > 0)) with hc32 | hc32
 replace h := bT hc32 h
 rw [hc32]
 refine qvM [4] [] trivial 3 65 [(48, I (w64 (x1 - 1))), (47, I x1), (46, A a0), (45, B true), (44, B true), (43, I x1), (42, B false), (40, B false), (39, .lit undef), (38, .lit undef), (37, .lit undef), (36, .lit undef), (35, .lit undef), (34, .lit undef), (33, .lit undef), (32, B false), (31, B false), (30, I v5.fDied), (29, .ptr 0 0 5), (26, B false), (25, B v18), (24, I v5.fBorn), (23, .ptr 0 0 4), (20, B false), (19, B v16), (18, I v5.fKey), (17, .ptr 0 0 3), (0, A a0), (3, I x1), (4, .ptr 0 0 0), (5, A a0), (6, I (a0.length : Int)), (7, I x1)] [sc 0 v5] ?_
 obtain ⟨v28, hv29, h⟩ := bindS h
 refine qX (some 49) (pf v28 0) 65 [(49, pf v28 0), (48, I (w64 (x1 - 1))), (47, I x1), (46, A a0), (45, B true), (44, B true), (43, I x1), (42, B false), (40, B false), (39, .lit undef), (38, .lit undef), (37, .lit undef), (36, .lit undef), (35, .lit undef), (34, .lit undef), (33, .lit undef), (32, B false), (31, B false), (30, I v5.fDied), (29, .ptr 0 0 5), (26, B false), (25, B v18), (24, I v5.fBorn), (23, .ptr 0 0 4), (20, B false), (19, B v16), (18, I v5.fKey), (17, .ptr 0 0 3), (0, A a0), (3, I x1), (4, .ptr 0 0 0), (5, A a0), (6, I (a0.length : Int)), (7, I x1)] [sc 0 v5] (fun Γ' hΓ => CoreE.of_y (idxV_sound τ_ok (by kernel_rfl) hv29)) trivial ?_
 refine qvM [4] [] trivial 1 65 [(50, E v28), (49, pf v28 0), (48, I (w64 (x1 - 1))), (47, I x1), (46, A a0), (45, B true), (44, B true), (43, I x1), (42, B false), (40, B false), (39, .lit undef), (38, .lit undef), (37, .lit undef), (36, .lit undef), (35, .lit undef), (34, .lit undef), (33, .lit undef), (32, B false), (31, B false), (30, I v5.fDied), (29, .ptr 0 0 5), (26, B false), (25, B v18), (24, I v5.fBorn), (23, .ptr 0 0 4), (20, B false), (19, B v16), (18, I v5.fKey), (17, .ptr 0 0 3), (0, A a0), (3, I x1), (4, .ptr 0 0 0), (5, A a0), (6, I (a0.length : Int)), (7, I x1)] [sc 0 v5] ?_
 refine qvM [4] [0] (hB trivial) 1 65 [(51, E v5), (50, E v28), (49, pf v28 0), (48, I (w64 (x1 - 1))), (47, I x1), (46, A a0), (45, B true), (44, B true), (43, I x1), (42, B false), (40, B false), (39, .lit undef), (38, .lit undef), (37, .lit undef), (36, .lit undef), (35, .lit undef), (34, .lit undef), (33, .lit undef), (32, B false), (31, B false), (30, I v5.fDied), (29, .ptr 0 0 5), (26, B false), (25, B v18), (24, I v5.fBorn), (23, .ptr 0 0 4), (20, B false), (19, B v16), (18, I v5.fKey), (17, .ptr 0 0 3), (0, A a0), (3, I x1), (4, .ptr 0 0 0), (5, A a0), (6, I (a0.length : Int)), (7, I x1)] [sc 0 v5] ?_
 obtain ⟨v30, hv31, h⟩ := bindS h
 refine qX (some 52) (I v30) 65 [(52, I v30), (51, E v5), (50, E v28), (49, pf v28 0), (48, I (w64 (x1 - 1))), (47, I x1), (46, A a0), (45, B true), (44, B true), (43, I x1), (42, B false), (40, B false), (39, .lit undef), (38, .lit undef), (37, .lit undef), (36, .lit undef), (35, .lit undef), (34, .lit undef), (33, .lit undef), (32, B false), (31, B false), (30, I v5.fDied), (29, .ptr 0 0 5), (26, B false), (25, B v18), (24, I v5.fBorn), (23, .ptr 0 0 4), (20, B false), (19, B v16), (18, I v5.fKey), (17, .ptr 0 0 3), (0, A a0), (3, I x1), (4, .ptr 0 0 0), (5, A a0), (6, I (a0.length : Int)), (7, I x1)] [sc 0 v5] (fun Γ' hΓ => CoreE.of_g (callV_sound (τ := τ) (by kernel_rfl) rfl (ok_impl_Mark_order hv31) (FzTo.frz rfl))) trivial ?_
 refine qvnM [4] [] trivial 3 65 [(0, A a0), (3, I x1), (4, .ptr 0 0 0), (5, A a0), (6, I (a0.length : Int)), (7, I x1), (17, .ptr 0 0 3), (18, I v5.fKey), (19, B v16), (20, B false), (23, .ptr 0 0 4), (24, I v5.fBorn), (25, B v18), (26, B false), (29, .ptr 0 0 5), (30, I v5.fDied), (31, B false), (32, B false), (33, .lit undef), (34, .lit undef), (35, .lit undef), (36, .lit undef), (37, .lit undef), (38, .lit undef), (39, .lit undef), (40, B false), (43, I x1), (44, B true), (45, B true), (46, A a0), (47, I x1), (48, I (w64 (x1 - 1))), (49, pf v28 0), (50, E v28), (51, E v5), (52, I v30), (53, B (decide (v30 > 0))), (54, B (decide (v30 > 0))), (55, B (decide (v30 > 0)))] [sc 0 v5] ?_
 exact ⟨(decide (v30 > 0)), h, it [0, 3, 4, 5, 6, 7, 55]⟩
 replace h := bF hc32 h
 rw [hc32]
 refine qvM [4] [] trivial 5 65 [(50, .lit undef), (49, .lit undef), (48, .lit undef), (47, .lit undef), (46, .lit undef), (45, B false), (44, B false), (43, I x1), (42, B false), (40, B false), (39, .lit undef), (38, .lit undef), (37, .lit undef), (36, .lit undef), (35, .lit undef), (34, .lit undef), (33, .lit undef), (32, B false), (31, B false), (30, I v5.fDied), (29, .ptr 0 0 5), (26, B false), (25, B v18), (24, I v5.fBorn), (23, .ptr 0 0 4), (20, B false), (19, B v16), (18, I v5.fKey), (17, .ptr 0 0 3), (0, A a0), (3, I x1), (4, .ptr 0 0 0), (5, A a0), (6, I (a0.length : Int)), (7, I x1)] [sc 0 v5] ?_
 refine qvM [4] [0] (hB trivial) 1 65 [(51, .lit undef), (50, .lit undef), (49, .lit undef), (48, .lit undef), (47, .lit undef), (46, .lit undef), (45, B false), (44, B false), (43, I x1), (42, B false), (40, B false), (39, .lit undef), (38, .lit undef), (37, .lit undef), (36, .lit undef), (35, .lit undef), (34, .lit undef), (33, .lit undef), (32, B false), (31, B false), (30, I v5.fDied), (29, .ptr 0 0 5), (26, B false), (25, B v18), (24, I v5.fBorn), (23, .ptr 0 0 4), (20, B false), (19, B v16), (18, I v5.fKey), (17, .ptr 0 0 3), (0, A a0), (3, I x1), (4, .ptr 0 0 0), (5, A a0), (6, I (a0.length : Int)), (7, I x1)] [sc 0 v5] ?_
 refine qvM [4] [] trivial 4 65 [(55, B false), (54, B false), (53, .lit undef), (52, .lit undef), (51, .lit undef), (50, .lit undef), (49, .lit undef), (48, .lit undef), (47, .lit undef), (46, .lit undef), (45, B false), (44, B false), (43, I x1), (40, B false), (39, .lit undef), (38, .lit undef), (37, .lit undef), (36, .lit undef), (35, .lit undef), (34, .lit undef), (33, .lit undef), (32, B false), (31, B false), (30, I v5.fDied), (29, .ptr 0 0 5), (26, B false), (25, B v18), (24, I v5.fBorn), (23, .ptr 0 0 4), (20, B false), (19, B v16), (18, I v5.fKey), (17, .ptr 0 0 3), (0, A a0), (3, I x1), (4, .ptr 0 0 0), (5, A a0), (6, I (a0.length : Int)), (7, I x1)] [sc 0 v5] ?_
 refine qn 65 [(0, A a0), (3, I x1), (4, .ptr 0 0 0), (5, A a0), (6, I (a0.length : Int)), (7, I x1), (17, .ptr 0 0 3), (18, I v5.fKey), (19, B v16), (20, B false), (23, .ptr 0 0 4), (24, I v5.fBorn), (25, B v18), (26, B false), (29, .ptr 0 0 5), (30, I v5.fDied), (31, B false), (32, B false), (33, .lit undef), (34, .lit undef), (35, .lit undef), (36, .lit undef), (37, .lit undef), (38, .lit undef), (39, .lit undef), (40, B false), (43, I x1), (44, B false), (45, B false), (46, .lit undef), (47, .lit undef), (48, .lit undef), (49, .lit undef), (50, .lit undef), (51, .lit undef), (52, .lit undef), (53, .lit undef), (54, B false), (55, B false)] [sc 0 v5] ?_
 exact ⟨false, h, it [0, 3, 4, 5, 6, 7, 55]⟩
 rintro x7 h
 unfold impl_IndexOk_j1 at h
 refine pc h (fun h => ?_) (fun h => ?_)
 refine srveM [4] 65 [(2, B false)] [sc 0 v5] ?_
 cases h
 exact pwp_ret rz
 refine pwp_skip ?_
 refine srvM [4] 2 65 [(0, A a0), (4, .ptr 0 0 0), (5, A a0), (6, I (a0.length : Int)), (7, I x1), (56, A a0), (57, I x1)] [sc 0 v5] ?_
 obtain ⟨v9, hv10, h⟩ := bindS h
 refine opsP_slc τ_ok 58 hv10 (by kernel_rfl) ?_
 refine vM [4] 0 65 [(0, A a0), (4, .ptr 0 0 0), (5, A a0), (6, I (a0.length : Int)), (7, I x1), (58, A v9)] [sc 0 v5] ?_
 refine opsP_imp (Imp.freezeB (v := 0) (cs := Enc.cells v5) (st' := ⟨65, [(0, A a0), (4, pf v5 0), (5, A a0), (6, I (a0.length : Int)), (7, I x1), (58, A v9)], [none]⟩) 0 0 (nx hX) (by kernel_rfl) (Enc.frz _) (wholeC (whole_noRef (by kernel_rfl)) (wholeC (whole_noRef (by kernel_rfl)) (wholeC (whole_noRef (by kernel_rfl)) (wholeC (whole_noRef (by kernel_rfl)) (wholeC (whole_noRef (by kernel_rfl)) (wholeC (whole_noRef (by kernel_rfl)) wholeC0)))))) (HpRel.key HpRel.nil) (by kernel_rfl) rfl (nx hX)) ?_
 refine vM [4] 1 65 [(0, A a0), (5, A a0), (6, I (a0.length : Int)), (7, I x1), (58, A v9), (59, .fn 34 [pf v5 0])] [none] ?_
 obtain ⟨v11, hv12, h⟩ := bindS h
 refine cF 60 (ok_slices_ContainsFunc_impl_Mark_impl_Mark (rfl) (fun _ w hw => ok_impl_IndexOk_1 hw) hv12) ?_
 refine veM [4] 0 65 [(0, A a0), (5, A a0), (6, I (a0.length : Int)), (7, I x1), (60, B v11)] [none] ?_
 refine pc h (fun h => ?_) (fun h => ?_)
 refine srveM [4] 65 [(2, B false)] [none] ?_
 cases h
 exact pwp_ret rz
 refine pwp_skip ?_
 refine rveM [4] 65 [(0, A a0), (5, A a0), (6, I (a0.length : Int)), (7, I (w64 (x1 + 1)))] [none] ?_
 exact ⟨(f2, (w64 (x1 + 1))), h, Nat.lt_succ_self _, (it (st' := ⟨65, [(0, A a0), (5, A a0), (6, I (a0.length : Int)), (7, I (w64 (x1 + 1)))], [none]⟩) [0, 5, 6, 7]).trans (Imp.truncS 0 (nx hX) (by kernel_rfl) (allBelow_mem (by exact (And.intro rfl (And.intro rfl (And.intro rfl (And.intro rfl trivial)))))) (by exact trivial) (by kernel_rfl))⟩
 refine pwp_exit ?_
 refine srveM [4] 65 [(2, B (decide ((a0.length : Int) ≤ 60)))] [] ?_
 cases h
 exact pwp_ret rz
def impl_IndexFind_j0 (a0 : List T_impl_Mark) (a1 : T_impl_Value) (a2 : Int) (x1 : Bool) : Option (List Int) := bif x1 then some ([] : List Int) else (impl_keysOf a0 (fun z0 => impl_IndexFind_1 z0 a1 a2)).bind fun v3 => some v3
def impl_IndexFind (a0 : List T_impl_Mark) (a1 : T_impl_Value) (a2 : Int) : Option (List Int) := (impl_IndexOk a0).bind fun v5 => bif (!v5) then impl_IndexFind_j0 a0 a1 a2 true else (impl_Value_ok a1).bind fun v7 => impl_IndexFind_j0 a0 a1 a2 (!v7)
theorem ok_impl_IndexFind {a0 : List T_impl_Mark} {a1 : T_impl_Value} {a2 : Int} {y : List Int} (h : impl_IndexFind a0 a1 a2 = some y) : OK Tryz.prog 11 [A a0, E a1, I a2] (A y) := by
 refine ow Tryz.func11 fun Γ hX => ?_
 unfold impl_IndexFind at h
 refine srve 18 [(0, A a0), (4, pf a1 0), (5, pf a2 0)] [] ?_
 refine pwp_seq ?_
 refine pwp_seq ?_
 refine pwp_join (σ := Bool) (fun x1 => (⟨18, [(0, A a0), (4, pf a1 0), (5, pf a2 0), (14, B x1)], []⟩ : St)) (fun x1 => impl_IndexFind_j0 a0 a1 a2 x1 = some y) ?_ ?_
 refine rv 1 18 [(0, A a0), (4, pf a1 0), (5, pf a2 0), (7, A a0)] [] ?_
 obtain ⟨v5, hv6, h⟩ := bindS h
 refine cF 8 (ok_impl_IndexOk hv6) ?_
 refine v 2 18 [(0, A a0), (4, pf a1 0), (5, pf a2 0), (10, B (!v5))] [] ?_
 rcases fk (!v5) with hc9 | hc9
 replace h := bT hc9 h
 rw [hc9]
 refine ve 4 18 [(0, A a0), (4, pf a1 0), (5, pf a2 0), (14, B true)] [] ?_
 exact ⟨true, h, it [0, 4, 5, 14]⟩
 replace h := bF hc9 h
 rw [hc9]
 refine v 1 18 [(0, A a0), (4, pf a1 0), (5, pf a2 0), (10, B false), (11, E a1)] [] ?_
 obtain ⟨v7, hv8, h⟩ := bindS h
 refine cF 12 (ok_impl_Value_ok hv8) ?_
 refine ve 2 18 [(0, A a0), (4, pf a1 0), (5, pf a2 0), (14, B (!v7))] [] ?_
 exact ⟨(!v7), h, it [0, 4, 5, 14]⟩
 rintro x1 h
 unfold impl_IndexFind_j0 at h
 refine pc h (fun h => ?_) (fun h => ?_)
 refine srve 18 [(6, .arr 1 0 (eL ([] : List Int)) true)] [] ?_
 refine ip 18 [(6, .arr 1 0 (eL ([] : List Int)) true)] [] ?_
 refine pwp_imp (Imp.unfS (st' := ⟨18, [(6, A ([] : List Int))], []⟩) 6 [6] (by kernel_rfl)) ?_
 cases h
 exact pwp_ret rz
 refine pwp_skip ?_
 refine srv 2 18 [(15, A a0), (16, .fn 37 [pf a1 0, pf a2 0])] [] ?_
 obtain ⟨v3, hv4, h⟩ := bindS h
 refine cF 17 (ok_impl_keysOf (rfl) (fun _ w hw => ok_impl_IndexFind_1 hw) hv4) ?_
 refine ve 1 18 [(6, A v3)] [] ?_
 cases h
 exact pwp_ret rz
noncomputable def impl_IndexOf_l0 (a0 : List T_impl_Version) : Nat → Int → (List T_impl_Mark) → Option (List T_impl_Mark)
 | 0, _, _ => none
 | f7 + 1, x5, x6 => bif (decide (x5 < (a0.length : Int))) then (getI a0 x5).bind fun v10 => (impl_firstOf v10.fRow).bind fun v12 => (app x6 ([(T_impl_Mark.mk v12 v10.fKey v10.fBorn v10.fDied)] : List T_impl_Mark)).bind fun v14 => (impl_IndexOf_l0 a0 f7) (w64 (x5 + 1)) v14 else (sortM x6 impl_Mark_order).bind fun v16 => (impl_clone_impl_Mark v16).bind fun v18 => some v18
noncomputable def impl_IndexOf (a0 : List T_impl_Version) : Option (List T_impl_Mark) := (impl_VersionsOk a0).bind fun v1 => bif (!v1) then some ([] : List T_impl_Mark) else impl_IndexOf_l0 a0 FUEL 0 ([] : List T_impl_Mark)
theorem ok_impl_IndexOf {a0 : List T_impl_Version} {y : List T_impl_Mark} (h : impl_IndexOf a0 = some y) : OK Tryz.prog 13 [A a0] (A y) := by
 refine ow Tryz.func13 fun Γ hX => ?_
 unfold impl_IndexOf at h
 refine srveM [5] 33 [(0, A a0)] [] ?_
 refine pwp_seq ?_
 refine srvM [5] 1 33 [(0, A a0), (6, A a0)] [] ?_
 obtain ⟨v1, hv2, h⟩ := bindS h
 refine cF 7 (ok_impl_VersionsOk hv2) ?_
 refine veM [5] 1 33 [(0, A a0), (8, B (!v1))] [] ?_
 refine pc h (fun h => ?_) (fun h => ?_)
 refine srveM [5] 33 [(2, .arr 6 0 (eL ([] : List T_impl_Mark)) true)] [] ?_
 refine ip 33 [(2, .arr 6 0 (eL ([] : List T_impl_Mark)) true)] [] ?_
 refine pwp_imp (Imp.unfS (st' := ⟨33, [(2, A ([] : List T_impl_Mark))], []⟩) 2 [2] (by kernel_rfl)) ?_
 cases h
 exact pwp_ret rz
 refine pwp_skip ?_
 refine srveM [5] 33 [(0, A a0), (3, .arr 6 0 (eL ([] : List T_impl_Mark)) true)] [] ?_
 refine pwp_seq ?_
 refine srveM [5] 33 [(3, .arr 6 0 (eL ([] : List T_impl_Mark)) true), (9, A a0), (10, I (a0.length : Int)), (11, I 0)] [] ?_
 refine pwp_block ?_
 refine pwp_loop (ι := Nat × Int × (List T_impl_Mark)) (fun (f7, x5, x6) => (⟨33, [(3, rf 0 0 6 x6), (9, A a0), (10, I (a0.length : Int)), (11, I x5)], [sl 0 x6]⟩ : St)) (fun (f7, x5, x6) => impl_IndexOf_l0 a0 f7 x5 x6 = some y) Prod.fst (FUEL, 0, ([] : List T_impl_Mark)) h (Imp.thawS 3 [3, 9, 10, 11] (by kernel_rfl)) ?_
 rintro ⟨f7, x5, x6⟩ h
 dsimp only at h ⊢
 rcases f7 with _ | f7
 cases h
 rw [impl_IndexOf_l0] at h
 refine srveM [5] 33 [(3, rf 0 0 6 x6), (9, A a0), (10, I (a0.length : Int)), (11, I x5), (12, B (decide (x5 < (a0.length : Int))))] [sl 0 x6] ?_
 refine pwp_seq ?_
 refine pc h (fun h => ?_) (fun h => ?_)
 refine pwp_skip ?_
 refine pwp_seq ?_
 refine pwp_block ?_
 refine pwp_seq ?_
 refine pwp_region ?_
 obtain ⟨v10, hv11, h⟩ := bindS h
 refine opsP_idx τ_ok 13 hv11 (by kernel_rfl) ?_
 refine veM [5] 3 33 [(3, rf 0 0 6 x6), (5, .ptr 1 0 0), (9, A a0), (10, I (a0.length : Int)), (11, I x5)] [sl 0 x6, sc 0 v10] ?_
 refine ip 33 [(3, rf 0 0 6 x6), (5, .ptr 1 0 0), (9, A a0), (10, I (a0.length : Int)), (11, I x5)] [sl 0 x6, sc 0 v10] ?_
 refine pwp_any ([[0], [1], [1], [], [1], [1], [1], [1], [1], [1], [], [], [0], [0]]) ([[], [], [], [], [], [], [], [], [], [], [], [], [0], []]) rfl (by kernel_rfl) ?_
 refine qvM [5] [0] (hL trivial) 1 33 [(15, rf 0 0 6 x6), (3, rf 0 0 6 x6), (5, .ptr 1 0 0), (9, A a0), (10, I (a0.length : Int)), (11, I x5)] [sl 0 x6, sc 0 v10] ?_
 refine qvM [5] [1] (hB trivial) 2 33 [(17, A v10.fRow), (15, rf 0 0 6 x6), (3, rf 0 0 6 x6), (5, .ptr 1 0 0), (9, A a0), (10, I (a0.length : Int)), (11, I x5)] [sl 0 x6, sc 0 v10] ?_
 obtain ⟨v12, hv13, h⟩ := bindS h
 refine qX (some 18) (E v12) 33 [(18, E v12), (15, rf 0 0 6 x6), (3, rf 0 0 6 x6), (5, .ptr 1 0 0), (9, A a0), (10, I (a0.length : Int)), (11, I x5)] [sl 0 x6, sc 0 v10] (fun Γ' hΓ => CoreE.of_g (callV_sound (τ := τ) (by kernel_rfl) rfl (ok_impl_firstOf hv13) (FzTo.frz rfl))) trivial ?_
 refine qvM [5] [1] (hB trivial) 6 33 [(24, I v10.fDied), (22, I v10.fBorn), (20, I v10.fKey), (18, E v12), (15, rf 0 0 6 x6), (3, rf 0 0 6 x6), (9, A a0), (10, I (a0.length : Int)), (11, I x5)] [sl 0 x6, sc 0 v10] ?_
 refine qvM [5] [] trivial 2 33 [(26, .arr 6 ([(T_impl_Mark.mk v12 v10.fKey v10.fBorn v10.fDied)] : List T_impl_Mark).length (eL ([(T_impl_Mark.mk v12 v10.fKey v10.fBorn v10.fDied)] : List T_impl_Mark)) true), (15, rf 0 0 6 x6), (3, rf 0 0 6 x6), (9, A a0), (10, I (a0.length : Int)), (11, I x5)] [sl 0 x6, sc 0 v10] ?_
 obtain ⟨v14, hv15, h⟩ := bindS h
 refine qX (some 27) (rf 0 1 6 v14) 33 [(27, rf 0 1 6 v14), (3, rf 0 0 6 x6), (9, A a0), (10, I (a0.length : Int)), (11, I x5)] [sl 1 v14, sc 0 v10] (fun Γ' hΓ => app_Ew τ_ok 27 0 0 (ny hΓ hX) hv15 (by kernel_rfl)) (hL trivial) ?_
 refine qvnM [5] [0] (hL trivial) 1 33 [(3, rf 0 1 6 v14), (9, A a0), (10, I (a0.length : Int)), (11, I x5)] [sl 1 v14, sc 0 v10] ?_
 refine rveM [5] 33 [(3, rf 0 1 6 v14), (9, A a0), (10, I (a0.length : Int)), (11, I (w64 (x5 + 1)))] [sl 1 v14, sc 0 v10] ?_
 exact ⟨(f7, (w64 (x5 + 1)), v14), h, Nat.lt_succ_self _, qt (it (st' := ⟨33, [(3, rf 0 1 6 v14), (9, A a0), (10, I (a0.length : Int)), (11, I (w64 (x5 + 1)))], [sl 1 v14, sc 0 v10]⟩) [3, 9, 10, 11]) (qt (Imp.truncS (st' := ⟨33, [(3, rf 0 1 6 v14), (9, A a0), (10, I (a0.length : Int)), (11, I (w64 (x5 + 1)))], [sl 1 v14]⟩) 1 (nx hX) (by kernel_rfl) (allBelow_mem (by exact (And.intro rfl (And.intro rfl (And.intro rfl (And.intro rfl trivial)))))) (by exact (And.intro (frz_below (eL_frz _)) trivial)) (by kernel_rfl)) (Imp.reverS 0 1 (eL v14) [3, 9, 10, 11] (by kernel_rfl) (by exact (And.intro (eL_frz _) trivial)) (by kernel_rfl)))⟩
 refine pwp_exit ?_
 refine srvM [5] 1 33 [(3, rf 0 0 6 x6), (29, rf 0 0 6 x6)] [sl 0 x6] ?_
 obtain ⟨v16, hv17, h⟩ := bindS h
 refine opsP_E (dd := some 30) (x := .tup []) (callS_E τ 30 0 0 (ok_sortM (rfl) (fun _ _ w hw => ok_impl_Mark_order hw) hv17) (FzTo.tup FzToL.nil) rfl rfl (by kernel_rfl)) ?_
 refine io 33 [(3, rf 0 0 6 x6), (29, rf 0 0 6 x6), (30, .tup [])] [sl 0 v16] ?_
 refine opsP_ren (st' := ⟨33, [(3, rf 0 0 6 v16), (29, rf 0 0 6 v16), (30, .tup [])], [sl 0 v16]⟩) 0 v16.length (renC (ren_ref (len_sortM hv17).symm) (renC (ren_ref (len_sortM hv17).symm) (renC trivial renC0))) (by kernel_rfl) ?_
 refine veM [5] 0 33 [(3, rf 0 0 6 v16)] [sl 0 v16] ?_
 refine srvM [5] 1 33 [(31, rf 0 0 6 v16)] [sl 0 v16] ?_
 refine opsP_imp (Imp.freezeB (v := 0) (cs := eL v16) (st' := ⟨33, [(31, A v16)], [none]⟩) 0 0 (nx hX) (by kernel_rfl) (eL_frz _) (wholeC (whole_is (eL_len v16).symm) wholeC0) (HpRel.key HpRel.nil) (by kernel_rfl) rfl (nx hX)) ?_
 obtain ⟨v18, hv19, h⟩ := bindS h
 refine cF 32 (ok_impl_clone_impl_Mark hv19) ?_
 refine veM [5] 1 33 [(2, A v18)] [none] ?_
 cases h
 exact pwp_ret rz
def impl_SweptAt (a0 : List T_impl_Version) (a1 : Int) : Option (List T_impl_Version) := (impl_VersionsOk a0).bind fun v1 => bif (!v1) then some ([] : List T_impl_Version) else (slices_Clone_impl_Version_impl_Version a0).bind fun v4 => (slices_DeleteFunc_impl_Version_impl_Version v4 (fun z0 => impl_SweptAt_1 z0 a1)).bind fun v6 => (impl_versionsCopy v6).bind fun v8 => some v8
theorem ok_impl_SweptAt {a0 : List T_impl_Version} {a1 : Int} {y : List T_impl_Version} (h : impl_SweptAt a0 a1 = some y) : OK Tryz.prog 14 [A a0, I a1] (A y) := by
 refine ow Tryz.func14 fun Γ hX => ?_
 unfold impl_SweptAt at h
 refine srve 13 [(0, A a0), (3, pf a1 0)] [] ?_
 refine pwp_seq ?_
 refine srv 1 13 [(0, A a0), (3, pf a1 0), (5, A a0)] [] ?_
 obtain ⟨v1, hv2, h⟩ := bindS h
 refine cF 6 (ok_impl_VersionsOk hv2) ?_
 refine ve 1 13 [(0, A a0), (3, pf a1 0), (7, B (!v1))] [] ?_
 refine pc h (fun h => ?_) (fun h => ?_)
 refine srve 13 [(4, .arr 4 0 (eL ([] : List T_impl_Version)) true)] [] ?_
 refine ip 13 [(4, .arr 4 0 (eL ([] : List T_impl_Version)) true)] [] ?_
 refine pwp_imp (Imp.unfS (st' := ⟨13, [(4, A ([] : List T_impl_Version))], []⟩) 4 [4] (by kernel_rfl)) ?_
 cases h
 exact pwp_ret rz
 refine pwp_skip ?_
 refine srv 1 13 [(3, pf a1 0), (8, A a0)] [] ?_
 obtain ⟨v4, hv5, h⟩ := bindS h
 refine opsP_callO τ 9 (ok_slices_Clone_impl_Version_impl_Version hv5) rfl (by kernel_rfl) ?_
 refine v 1 13 [(9, rf 0 0 4 v4), (10, .fn 47 [pf a1 0])] [sl 0 v4] ?_
 obtain ⟨v6, hv7, h⟩ := bindS h
 refine opsP_callM (xs := [rf 0 0 4 v4, .fn 47 [pf a1 0]]) (x := rf 1 0 4 v6) (bs := [⟨0, eL v6⟩]) τ 11 [0] (nx hX) (ok_slices_DeleteFunc_impl_Version_impl_Version (rfl) (fun _ w hw => ok_impl_SweptAt_1 hw) hv7) (by kernel_rfl) (OutL.cons (OutP.list (v := 0) (by kernel_rfl)) (OutL.cons (OutP.frz rfl) (OutL.nil _))) (by decide) (by kernel_rfl) ?_
 refine v 0 13 [(11, rf 1 0 4 v6)] [none, sl 0 v6] ?_
 refine opsP_imp (Imp.freezeB (v := 0) (cs := eL v6) (st' := ⟨13, [(11, A v6)], [none, none]⟩) 1 0 (nx hX) (by kernel_rfl) (eL_frz _) (wholeC (whole_is (eL_len v6).symm) wholeC0) (HpRel.none rfl (HpRel.key HpRel.nil)) (by kernel_rfl) rfl (nx hX)) ?_
 obtain ⟨v8, hv9, h⟩ := bindS h
 refine cF 12 (ok_impl_versionsCopy hv9) ?_
 refine ve 1 13 [(4, A v8)] [none, none] ?_
 cases h
 exact pwp_ret rz
def impl_IndexSwept (a0 : List T_impl_Mark) (a1 : Int) : Option (List T_impl_Mark) := (impl_IndexOk a0).bind fun v1 => bif (!v1) then some ([] : List T_impl_Mark) else (slices_Clone_impl_Mark_impl_Mark a0).bind fun v4 => (slices_DeleteFunc_impl_Mark_impl_Mark v4 (fun z0 => impl_IndexSwept_1 z0 a1)).bind fun v6 => (impl_clone_impl_Mark v6).bind fun v8 => some v8
theorem ok_impl_IndexSwept {a0 : List T_impl_Mark} {a1 : Int} {y : List T_impl_Mark} (h : impl_IndexSwept a0 a1 = some y) : OK Tryz.prog 6 [A a0, I a1] (A y) := by
 refine ow Tryz.func6 fun Γ hX => ?_
 unfold impl_IndexSwept at h
 refine srve 13 [(0, A a0), (3, pf a1 0)] [] ?_
 refine pwp_seq ?_
 refine srv 1 13 [(0, A a0), (3, pf a1 0), (5, A a0)] [] ?_
 obtain ⟨v1, hv2, h⟩ := bindS h
 refine cF 6 (ok_impl_IndexOk hv2) ?_
 refine ve 1 13 [(0, A a0), (3, pf a1 0), (7, B (!v1))] [] ?_
 refine pc h (fun h => ?_) (fun h => ?_)
 refine srve 13 [(4, .arr 6 0 (eL ([] : List T_impl_Mark)) true)] [] ?_
 refine ip 13 [(4, .arr 6 0 (eL ([] : List T_impl_Mark)) true)] [] ?_
 refine pwp_imp (Imp.unfS (st' := ⟨13, [(4, A ([] : List T_impl_Mark))], []⟩) 4 [4] (by kernel_rfl)) ?_
 cases h
 exact pwp_ret rz
 refine pwp_skip ?_
 refine srv 1 13 [(3, pf a1 0), (8, A a0)] [] ?_
 obtain ⟨v4, hv5, h⟩ := bindS h
 refine opsP_callO τ 9 (ok_slices_Clone_impl_Mark_impl_Mark hv5) rfl (by kernel_rfl) ?_
 refine v 1 13 [(9, rf 0 0 6 v4), (10, .fn 27 [pf a1 0])] [sl 0 v4] ?_
 obtain ⟨v6, hv7, h⟩ := bindS h
 refine opsP_callM (xs := [rf 0 0 6 v4, .fn 27 [pf a1 0]]) (x := rf 1 0 6 v6) (bs := [⟨0, eL v6⟩]) τ 11 [0] (nx hX) (ok_slices_DeleteFunc_impl_Mark_impl_Mark (rfl) (fun _ w hw => ok_impl_IndexSwept_1 hw) hv7) (by kernel_rfl) (OutL.cons (OutP.list (v := 0) (by kernel_rfl)) (OutL.cons (OutP.frz rfl) (OutL.nil _))) (by decide) (by kernel_rfl) ?_
 refine v 0 13 [(11, rf 1 0 6 v6)] [none, sl 0 v6] ?_
 refine opsP_imp (Imp.freezeB (v := 0) (cs := eL v6) (st' := ⟨13, [(11, A v6)], [none, none]⟩) 1 0 (nx hX) (by kernel_rfl) (eL_frz _) (wholeC (whole_is (eL_len v6).symm) wholeC0) (HpRel.none rfl (HpRel.key HpRel.nil)) (by kernel_rfl) rfl (nx hX)) ?_
 obtain ⟨v8, hv9, h⟩ := bindS h
 refine cF 12 (ok_impl_clone_impl_Mark hv9) ?_
 refine ve 1 13 [(4, A v8)] [none, none] ?_
 cases h
 exact pwp_ret rz
def spec_l13Copy_R_L0_l0 (a0 : List T_impl_Version) : Nat → Int → (List T_impl_Version) → Option (List T_impl_Version)
 | 0, _, _ => none
 | f5 + 1, x3, x4 => bif (decide (x3 < (a0.length : Int))) then (getI a0 x3).bind fun v8 => (spec_l3Own v8.fRow).bind fun v10 => (app x4 ([{ v8 with fRow := v10 }] : List T_impl_Version)).bind fun v12 => (spec_l13Copy_R_L0_l0 a0 f5) (w64 (x3 + 1)) v12 else some x4
def spec_l13Copy_R_L0 (a0 : List T_impl_Version) : Option (List T_impl_Version) := spec_l13Copy_R_L0_l0 a0 FUEL 0 ([] : List T_impl_Version)
theorem ok_spec_l13Copy_R_L0 {a0 : List T_impl_Version} {y : List T_impl_Version} (h : spec_l13Copy_R_L0 a0 = some y) : OKs Tryz.prog 102 [] 4 a0.length (eL a0) [] (O y) (eL a0) := by
 refine OKs_of_pwp τ_ok Tryz.func102 rfl (by kernel_rfl) rfl (eL_frz _) (eL_frz _) rfl fun Γ hQ => ?_
 refine pwp_imp (Imp.to (st' := ⟨26, [(0, rf 0 0 4 a0)], [sl 0 a0]⟩) [0] (by kernel_rfl)) ?_
 unfold spec_l13Copy_R_L0 at h
 refine srveM [5] 26 [(0, rf 0 0 4 a0)] [sl 0 a0] ?_
 refine srveM [5] 26 [(0, rf 0 0 4 a0), (3, .arr 4 0 (eL ([] : List T_impl_Version)) true)] [sl 0 a0] ?_
 refine pwp_seq ?_
 refine srveM [5] 26 [(0, rf 0 0 4 a0), (3, .arr 4 0 (eL ([] : List T_impl_Version)) true), (4, I 0)] [sl 0 a0] ?_
 refine pwp_block ?_
 refine pwp_loop (ι := Nat × Int × (List T_impl_Version)) (fun (f5, x3, x4) => (⟨26, [(0, rf 0 0 4 a0), (3, rf 1 0 4 x4), (4, I x3)], [sl 0 a0, sl 0 x4]⟩ : St)) (fun (f5, x3, x4) => spec_l13Copy_R_L0_l0 a0 f5 x3 x4 = some y) Prod.fst (FUEL, 0, ([] : List T_impl_Version)) h (Imp.thawS 3 [0, 3, 4] (by kernel_rfl)) ?_
 rintro ⟨f5, x3, x4⟩ h
 dsimp only at h ⊢
 rcases f5 with _ | f5
 cases h
 rw [spec_l13Copy_R_L0_l0] at h
 refine pwp_seq ?_
 refine srveM [5] 26 [(0, rf 0 0 4 a0), (3, rf 1 0 4 x4), (4, I x3), (10, B (decide (x3 < (a0.length : Int))))] [sl 0 a0, sl 0 x4] ?_
 refine pc h (fun h => ?_) (fun h => ?_)
 refine pwp_skip ?_
 refine pwp_seq ?_
 refine pwp_block ?_
 refine srvM [5] 2 26 [(0, rf 0 0 4 a0), (3, rf 1 0 4 x4), (4, I x3), (13, rf 0 0 4 a0), (14, I x3)] [sl 0 a0, sl 0 x4] ?_
 obtain ⟨v8, hv9, h⟩ := bindS h
 refine opsP_idr τ_ok 15 0 0 a0.length hv9 rfl (by kernel_rfl) ?_
 refine opsP_lde (r := E v8) τ_ok 16 76 0 hv9 (by kernel_rfl) (by kernel_rfl) ?_
 refine veM [5] 2 26 [(0, rf 0 0 4 a0), (3, rf 1 0 4 x4), (4, I x3), (5, .ptr 2 0 0)] [sl 0 a0, sl 0 x4, sc 0 v8] ?_
 refine srvM [5] 2 26 [(0, rf 0 0 4 a0), (3, rf 1 0 4 x4), (4, I x3), (5, .ptr 2 0 0), (18, A v8.fRow)] [sl 0 a0, sl 0 x4, sc 0 v8] ?_
 obtain ⟨v10, hv11, h⟩ := bindS h
 refine cFo 19 (ok_spec_l3Own hv11) ?_
 refine veM [5] 2 26 [(0, rf 0 0 4 a0), (3, rf 1 0 4 x4), (4, I x3), (5, .ptr 2 0 0)] [sl 0 a0, sl 0 x4, some ⟨0, Enc.cells ({ v8 with fRow := v10 })⟩] ?_
 refine rvM [5] 3 26 [(0, rf 0 0 4 a0), (4, I x3), (21, rf 1 0 4 x4), (23, .arr 4 ([{ v8 with fRow := v10 }] : List T_impl_Version).length (eL ([{ v8 with fRow := v10 }] : List T_impl_Version)) true)] [sl 0 a0, sl 0 x4, some ⟨0, Enc.cells ({ v8 with fRow := v10 })⟩] ?_
 obtain ⟨v12, hv13, h⟩ := bindS h
 refine opsP_app τ_ok 24 1 0 (pn hQ) hv13 (by kernel_rfl) ?_
 refine veM [5] 1 26 [(0, rf 0 0 4 a0), (3, rf 1 1 4 v12), (4, I x3)] [sl 0 a0, sl 1 v12, some ⟨0, Enc.cells ({ v8 with fRow := v10 })⟩] ?_
 refine rveM [5] 26 [(0, rf 0 0 4 a0), (3, rf 1 1 4 v12), (4, I (w64 (x3 + 1)))] [sl 0 a0, sl 1 v12, some ⟨0, Enc.cells ({ v8 with fRow := v10 })⟩] ?_
 exact ⟨(f5, (w64 (x3 + 1)), v12), h, Nat.lt_succ_self _, qt (it (st' := ⟨26, [(0, rf 0 0 4 a0), (3, rf 1 1 4 v12), (4, I (w64 (x3 + 1)))], [sl 0 a0, sl 1 v12, some ⟨0, Enc.cells ({ v8 with fRow := v10 })⟩]⟩) [0, 3, 4]) (qt (Imp.truncS (st' := ⟨26, [(0, rf 0 0 4 a0), (3, rf 1 1 4 v12), (4, I (w64 (x3 + 1)))], [sl 0 a0, sl 1 v12]⟩) 2 (pl hQ) (by kernel_rfl) (allBelow_mem (by exact (And.intro rfl (And.intro rfl (And.intro rfl trivial))))) (by exact (And.intro (frz_below (eL_frz _)) (And.intro (frz_below (eL_frz _)) trivial))) (by kernel_rfl)) (Imp.reverS 1 1 (eL v12) [0, 3, 4] (by kernel_rfl) (by exact (And.intro (eL_frz _) (And.intro (eL_frz _) trivial))) (by kernel_rfl)))⟩
 refine pwp_exit ?_
 refine srveM [5] 26 [(2, rf 1 0 4 x4)] [sl 0 a0, sl 0 x4] ?_
 have h := si h
 subst h
 exact pwp_ret ⟨.inr rfl, rf 1 0 4 x4, _, 0, by kernel_rfl, (OutP.list (v := 0) (by kernel_rfl)), by decide, by decide, by kernel_rfl⟩
def spec_l13Written_R_L0_j2 (x4 : Int) (K7 : Bool → Int → (List T_impl_Version) → Option (List T_impl_Version)) (x11 : Bool) (x12 : List T_impl_Version) (x13 : T_impl_Version) : Option (List T_impl_Version) := (app x12 ([x13] : List T_impl_Version)).bind fun v14 => K7 x11 (w64 (x4 + 1)) v14
def spec_l13Written_R_L0_j3 (a2 : Int) (x4 : Int) (K7 : Bool → Int → (List T_impl_Version) → Option (List T_impl_Version)) (v9 : T_impl_Version) (x11 : Bool) (x12 : List T_impl_Version) (x16 : Bool) : Option (List T_impl_Version) := bif x16 then spec_l13Written_R_L0_j2 x4 K7 x11 x12 ({ v9 with fDied := a2 }) else spec_l13Written_R_L0_j2 x4 K7 x11 x12 v9
def spec_l13Written_R_L0_j1 (a1 : T_impl_Write) (a2 : Int) (x4 : Int) (K7 : Bool → Int → (List T_impl_Version) → Option (List T_impl_Version)) (v9 : T_impl_Version) (x11 : Bool) (x12 : List T_impl_Version) : Option (List T_impl_Version) := bif (v9.fKey == a1.fKey) then spec_l13Written_R_L0_j3 a2 x4 K7 v9 x11 x12 (v9.fDied == 0) else spec_l13Written_R_L0_j3 a2 x4 K7 v9 x11 x12 false
def spec_l13Written_R_L0_j4 (a1 : T_impl_Write) (a2 : Int) (x3 : Bool) (x4 : Int) (x5 : List T_impl_Version) (K7 : Bool → Int → (List T_impl_Version) → Option (List T_impl_Version)) (v9 : T_impl_Version) (x19 : Bool) : Option (List T_impl_Version) := bif x19 then (spec_l3Own a1.fRow).bind fun v21 => (app x5 ([(T_impl_Version.mk a1.fKey a2 0 v21)] : List T_impl_Version)).bind fun v23 => spec_l13Written_R_L0_j1 a1 a2 x4 K7 v9 true v23 else spec_l13Written_R_L0_j1 a1 a2 x4 K7 v9 x3 x5
def spec_l13Written_R_L0_l0 (a0 : List T_impl_Version) (a1 : T_impl_Write) (a2 : Int) : Nat → Bool → Int → (List T_impl_Version) → Option (List T_impl_Version)
 | 0, _, _, _ => none
 | f6 + 1, x3, x4, x5 => bif (decide (x4 < (a0.length : Int))) then (getI a0 x4).bind fun v9 => bif (decide (v9.fKey > a1.fKey)) then spec_l13Written_R_L0_j4 a1 a2 x3 x4 x5 (spec_l13Written_R_L0_l0 a0 a1 a2 f6) v9 (!x3) else spec_l13Written_R_L0_j4 a1 a2 x3 x4 x5 (spec_l13Written_R_L0_l0 a0 a1 a2 f6) v9 false else bif (!x3) then (spec_l3Own a1.fRow).bind fun v27 => (app x5 ([(T_impl_Version.mk a1.fKey a2 0 v27)] : List T_impl_Version)).bind fun v29 => some v29 else some x5
def spec_l13Written_R_L0 (a0 : List T_impl_Version) (a1 : T_impl_Write) (a2 : Int) : Option (List T_impl_Version) := spec_l13Written_R_L0_l0 a0 a1 a2 FUEL a1.fGone 0 ([] : List T_impl_Version)
theorem ok_spec_l13Written_R_L0 {a0 : List T_impl_Version} {a1 : T_impl_Write} {a2 : Int} {y : List T_impl_Version} (h : spec_l13Written_R_L0 a0 a1 a2 = some y) : OKs Tryz.prog 103 [] 4 a0.length (eL a0) [E a1, I a2] (O y) (eL a0) := by
 refine OKs_of_pwp τ_ok Tryz.func103 rfl (by kernel_rfl) rfl (eL_frz _) (eL_frz _) rfl fun Γ hQ => ?_
 refine pwp_imp (Imp.to (st' := ⟨72, [(0, rf 0 0 4 a0), (1, E a1), (2, I a2)], [sl 0 a0]⟩) [0, 1, 2] (by kernel_rfl)) ?_
 unfold spec_l13Written_R_L0 at h
 refine srveM [10] 72 [(0, rf 0 0 4 a0), (2, I a2), (4, pf a1 0)] [sl 0 a0] ?_
 refine srveM [10] 72 [(0, rf 0 0 4 a0), (2, I a2), (4, pf a1 0), (7, .arr 4 0 (eL ([] : List T_impl_Version)) true)] [sl 0 a0] ?_
 refine srveM [10] 72 [(0, rf 0 0 4 a0), (2, I a2), (4, pf a1 0), (7, .arr 4 0 (eL ([] : List T_impl_Version)) true), (8, B a1.fGone)] [sl 0 a0] ?_
 refine pwp_seq ?_
 refine srveM [10] 72 [(0, rf 0 0 4 a0), (2, I a2), (4, pf a1 0), (7, .arr 4 0 (eL ([] : List T_impl_Version)) true), (8, B a1.fGone), (9, I 0)] [sl 0 a0] ?_
 refine pwp_block ?_
 refine pwp_loop (ι := Nat × Bool × Int × (List T_impl_Version)) (fun (f6, x3, x4, x5) => (⟨72, [(0, rf 0 0 4 a0), (2, I a2), (4, pf a1 0), (7, rf 1 0 4 x5), (8, B x3), (9, I x4)], [sl 0 a0, sl 0 x5]⟩ : St)) (fun (f6, x3, x4, x5) => spec_l13Written_R_L0_l0 a0 a1 a2 f6 x3 x4 x5 = some y) Prod.fst (FUEL, a1.fGone, 0, ([] : List T_impl_Version)) h (Imp.thawS 7 [0, 2, 4, 7, 8, 9] (by kernel_rfl)) ?_
 rintro ⟨f6, x3, x4, x5⟩ h
 dsimp only at h ⊢
 rcases f6 with _ | f6
 cases h
 rw [spec_l13Written_R_L0_l0] at h
 refine pwp_seq ?_
 refine srveM [10] 72 [(0, rf 0 0 4 a0), (2, I a2), (4, pf a1 0), (7, rf 1 0 4 x5), (8, B x3), (9, I x4), (17, B (decide (x4 < (a0.length : Int))))] [sl 0 a0, sl 0 x5] ?_
 refine pc h (fun h => ?_) (fun h => ?_)
 refine pwp_skip ?_
 refine pwp_seq ?_
 refine pwp_block ?_
 refine srvM [10] 2 72 [(0, rf 0 0 4 a0), (2, I a2), (4, pf a1 0), (7, rf 1 0 4 x5), (8, B x3), (9, I x4), (20, rf 0 0 4 a0), (21, I x4)] [sl 0 a0, sl 0 x5] ?_
 obtain ⟨v9, hv10, h⟩ := bindS h
 refine opsP_idr τ_ok 22 0 0 a0.length hv10 rfl (by kernel_rfl) ?_
 refine opsP_lde (r := E v9) τ_ok 23 76 0 hv10 (by kernel_rfl) (by kernel_rfl) ?_
 refine veM [10] 2 72 [(0, rf 0 0 4 a0), (2, I a2), (4, pf a1 0), (7, rf 1 0 4 x5), (8, B x3), (9, I x4), (10, .ptr 2 0 0)] [sl 0 a0, sl 0 x5, sc 0 v9] ?_
 refine pwp_seq ?_
 refine pwp_join (σ := Bool × (List T_impl_Version)) (fun (x11, x12) => (⟨72, [(0, rf 0 0 4 a0), (2, I a2), (4, pf a1 0), (7, rf 1 0 4 x12), (8, B x11), (9, I x4), (10, .ptr 2 0 0)], [sl 0 a0, sl 0 x12, sc 0 v9]⟩ : St)) (fun (x11, x12) => spec_l13Written_R_L0_j1 a1 a2 x4 (spec_l13Written_R_L0_l0 a0 a1 a2 f6) v9 x11 x12 = some y) ?_ ?_
 refine pwp_seq ?_
 refine pwp_join (σ := Bool) (fun x19 => (⟨72, [(0, rf 0 0 4 a0), (2, I a2), (4, pf a1 0), (7, rf 1 0 4 x5), (8, B x3), (9, I x4), (10, .ptr 2 0 0), (32, B x19)], [sl 0 a0, sl 0 x5, sc 0 v9]⟩ : St)) (fun x19 => spec_l13Written_R_L0_j4 a1 a2 x3 x4 x5 (spec_l13Written_R_L0_l0 a0 a1 a2 f6) v9 x19 = some y) ?_ ?_
 refine rvM [10] 6 72 [(0, rf 0 0 4 a0), (2, I a2), (4, pf a1 0), (7, rf 1 0 4 x5), (8, B x3), (9, I x4), (10, .ptr 2 0 0), (29, B (decide (v9.fKey > a1.fKey)))] [sl 0 a0, sl 0 x5, sc 0 v9] ?_
 rcases fk (decide (v9.fKey > a1.fKey)) with hc25 | hc25
 replace h := bT hc25 h
 rw [hc25]
 refine veM [10] 3 72 [(0, rf 0 0 4 a0), (2, I a2), (4, pf a1 0), (7, rf 1 0 4 x5), (8, B x3), (9, I x4), (10, .ptr 2 0 0), (30, B x3), (31, B (!x3)), (32, B (!x3))] [sl 0 a0, sl 0 x5, sc 0 v9] ?_
 exact ⟨(!x3), h, it [0, 2, 4, 7, 8, 9, 10, 32]⟩
 replace h := bF hc25 h
 rw [hc25]
 refine veM [10] 3 72 [(0, rf 0 0 4 a0), (2, I a2), (4, pf a1 0), (7, rf 1 0 4 x5), (8, B x3), (9, I x4), (10, .ptr 2 0 0), (30, .lit undef), (31, .lit undef), (32, B false)] [sl 0 a0, sl 0 x5, sc 0 v9] ?_
 exact ⟨false, h, it [0, 2, 4, 7, 8, 9, 10, 32]⟩
 rintro x19 h
 unfold spec_l13Written_R_L0_j4 at h
 refine pc h (fun h => ?_) (fun h => ?_)
 refine pwp_seq ?_
 refine ip 72 [(0, rf 0 0 4 a0), (2, I a2), (4, pf a1 0), (7, rf 1 0 4 x5), (9, I x4), (10, .ptr 2 0 0)] [sl 0 a0, sl 0 x5, sc 0 v9] ?_
 refine pwp_any ([[1], [], [], [], [], [], [], [], [], [1], [1]]) ([[], [], [], [], [], [], [], [], [], [1], []]) rfl (by kernel_rfl) ?_
 refine qvM [10] [1] (hL trivial) 1 72 [(33, rf 1 0 4 x5), (0, rf 0 0 4 a0), (2, I a2), (4, pf a1 0), (7, rf 1 0 4 x5), (9, I x4), (10, .ptr 2 0 0)] [sl 0 a0, sl 0 x5, sc 0 v9] ?_
 refine qvM [10] [] trivial 5 72 [(38, A a1.fRow), (36, I a2), (35, I a1.fKey), (33, rf 1 0 4 x5), (0, rf 0 0 4 a0), (2, I a2), (4, pf a1 0), (7, rf 1 0 4 x5), (9, I x4), (10, .ptr 2 0 0)] [sl 0 a0, sl 0 x5, sc 0 v9] ?_
 obtain ⟨v21, hv22, h⟩ := bindS h
 refine qX (some 39) (A v21) 72 [(39, A v21), (36, I a2), (35, I a1.fKey), (33, rf 1 0 4 x5), (0, rf 0 0 4 a0), (2, I a2), (4, pf a1 0), (7, rf 1 0 4 x5), (9, I x4), (10, .ptr 2 0 0)] [sl 0 a0, sl 0 x5, sc 0 v9] (fun Γ' hΓ => CoreE.of_g (callV_sound (τ := τ) (by kernel_rfl) rfl (ok_spec_l3Own hv22) (FzTo.O _))) trivial ?_
 refine qvM [10] [] trivial 2 72 [(41, .arr 4 ([(T_impl_Version.mk a1.fKey a2 0 v21)] : List T_impl_Version).length (eL ([(T_impl_Version.mk a1.fKey a2 0 v21)] : List T_impl_Version)) true), (33, rf 1 0 4 x5), (0, rf 0 0 4 a0), (2, I a2), (4, pf a1 0), (7, rf 1 0 4 x5), (9, I x4), (10, .ptr 2 0 0)] [sl 0 a0, sl 0 x5, sc 0 v9] ?_
 obtain ⟨v23, hv24, h⟩ := bindS h
 refine qX (some 42) (rf 1 1 4 v23) 72 [(42, rf 1 1 4 v23), (0, rf 0 0 4 a0), (2, I a2), (4, pf a1 0), (7, rf 1 0 4 x5), (9, I x4), (10, .ptr 2 0 0)] [sl 0 a0, sl 1 v23, sc 0 v9] (fun Γ' hΓ => app_Ew τ_ok 42 1 0 (by first | exact py hΓ hQ | exact pky hΓ hQ) hv24 (by kernel_rfl)) (hL trivial) ?_
 refine qvnM [10] [1] (hL trivial) 1 72 [(0, rf 0 0 4 a0), (2, I a2), (4, pf a1 0), (7, rf 1 1 4 v23), (9, I x4), (10, .ptr 2 0 0)] [sl 0 a0, sl 1 v23, sc 0 v9] ?_
 refine rveM [10] 72 [(0, rf 0 0 4 a0), (2, I a2), (4, pf a1 0), (7, rf 1 1 4 v23), (8, B true), (9, I x4), (10, .ptr 2 0 0)] [sl 0 a0, sl 1 v23, sc 0 v9] ?_
 exact ⟨(true, v23), h, (it (st' := ⟨72, [(0, rf 0 0 4 a0), (2, I a2), (4, pf a1 0), (7, rf 1 1 4 v23), (8, B true), (9, I x4), (10, .ptr 2 0 0)], [sl 0 a0, sl 1 v23, sc 0 v9]⟩) [0, 2, 4, 7, 8, 9, 10]).trans (Imp.reverS 1 1 (eL v23) [0, 2, 4, 7, 8, 9, 10] (by kernel_rfl) (by exact (And.intro (eL_frz _) (And.intro (eL_frz _) (And.intro (rfl) trivial)))) (by kernel_rfl))⟩
 refine pwp_skip ?_
 exact ⟨(x3, x5), h, it [0, 2, 4, 7, 8, 9, 10]⟩
 rintro ⟨x11, x12⟩ h
 dsimp only at h ⊢
 unfold spec_l13Written_R_L0_j1 at h
 refine pwp_seq ?_
 refine pwp_join (σ := T_impl_Version) (fun x13 => (⟨72, [(0, rf 0 0 4 a0), (2, I a2), (4, pf a1 0), (7, rf 1 0 4 x12), (8, B x11), (9, I x4), (10, .ptr 2 0 0)], [sl 0 a0, sl 0 x12, sc 0 x13]⟩ : St)) (fun x13 => spec_l13Written_R_L0_j2 x4 (spec_l13Written_R_L0_l0 a0 a1 a2 f6) x11 x12 x13 = some y) ?_ ?_
 refine pwp_seq ?_
 refine pwp_join (σ := Bool) (fun x16 => (⟨72, [(0, rf 0 0 4 a0), (2, I a2), (4, pf a1 0), (7, rf 1 0 4 x12), (8, B x11), (9, I x4), (10, .ptr 2 0 0), (52, B x16)], [sl 0 a0, sl 0 x12, sc 0 v9]⟩ : St)) (fun x16 => spec_l13Written_R_L0_j3 a2 x4 (spec_l13Written_R_L0_l0 a0 a1 a2 f6) v9 x11 x12 x16 = some y) ?_ ?_
 refine rvM [10] 6 72 [(0, rf 0 0 4 a0), (2, I a2), (4, pf a1 0), (7, rf 1 0 4 x12), (8, B x11), (9, I x4), (10, .ptr 2 0 0), (48, B (v9.fKey == a1.fKey))] [sl 0 a0, sl 0 x12, sc 0 v9] ?_
 rcases fk (v9.fKey == a1.fKey) with hc18 | hc18
 replace h := bT hc18 h
 rw [hc18]
 refine veM [10] 4 72 [(0, rf 0 0 4 a0), (2, I a2), (4, pf a1 0), (7, rf 1 0 4 x12), (8, B x11), (9, I x4), (10, .ptr 2 0 0), (49, .ptr 2 0 2), (50, I v9.fDied), (51, B (v9.fDied == 0)), (52, B (v9.fDied == 0))] [sl 0 a0, sl 0 x12, sc 0 v9] ?_
 exact ⟨(v9.fDied == 0), h, it [0, 2, 4, 7, 8, 9, 10, 52]⟩
 replace h := bF hc18 h
 rw [hc18]
 refine veM [10] 4 72 [(0, rf 0 0 4 a0), (2, I a2), (4, pf a1 0), (7, rf 1 0 4 x12), (8, B x11), (9, I x4), (10, .ptr 2 0 0), (49, .lit undef), (50, .lit undef), (51, .lit undef), (52, B false)] [sl 0 a0, sl 0 x12, sc 0 v9] ?_
 exact ⟨false, h, it [0, 2, 4, 7, 8, 9, 10, 52]⟩
 rintro x16 h
 unfold spec_l13Written_R_L0_j3 at h
 refine pc h (fun h => ?_) (fun h => ?_)
 refine rveM [10] 72 [(0, rf 0 0 4 a0), (2, I a2), (4, pf a1 0), (7, rf 1 0 4 x12), (8, B x11), (9, I x4), (10, .ptr 2 0 0)] [sl 0 a0, sl 0 x12, some ⟨0, Enc.cells ({ v9 with fDied := a2 })⟩] ?_
 exact ⟨{ v9 with fDied := a2 }, h, it [0, 2, 4, 7, 8, 9, 10]⟩
 refine pwp_skip ?_
 exact ⟨v9, h, it [0, 2, 4, 7, 8, 9, 10]⟩
 rintro x13 h
 unfold spec_l13Written_R_L0_j2 at h
 refine rvM [10] 3 72 [(0, rf 0 0 4 a0), (2, I a2), (4, pf a1 0), (8, B x11), (9, I x4), (55, rf 1 0 4 x12), (57, .arr 4 ([x13] : List T_impl_Version).length (eL ([x13] : List T_impl_Version)) true)] [sl 0 a0, sl 0 x12, sc 0 x13] ?_
 obtain ⟨v14, hv15, h⟩ := bindS h
 refine opsP_app τ_ok 58 1 0 (pn hQ) hv15 (by kernel_rfl) ?_
 refine veM [10] 1 72 [(0, rf 0 0 4 a0), (2, I a2), (4, pf a1 0), (7, rf 1 1 4 v14), (8, B x11), (9, I x4)] [sl 0 a0, sl 1 v14, sc 0 x13] ?_
 refine rveM [10] 72 [(0, rf 0 0 4 a0), (2, I a2), (4, pf a1 0), (7, rf 1 1 4 v14), (8, B x11), (9, I (w64 (x4 + 1)))] [sl 0 a0, sl 1 v14, sc 0 x13] ?_
 exact ⟨(f6, x11, (w64 (x4 + 1)), v14), h, Nat.lt_succ_self _, qt (it (st' := ⟨72, [(0, rf 0 0 4 a0), (2, I a2), (4, pf a1 0), (7, rf 1 1 4 v14), (8, B x11), (9, I (w64 (x4 + 1)))], [sl 0 a0, sl 1 v14, sc 0 x13]⟩) [0, 2, 4, 7, 8, 9]) (qt (Imp.truncS (st' := ⟨72, [(0, rf 0 0 4 a0), (2, I a2), (4, pf a1 0), (7, rf 1 1 4 v14), (8, B x11), (9, I (w64 (x4 + 1)))], [sl 0 a0, sl 1 v14]⟩) 2 (pl hQ) (by kernel_rfl) (allBelow_mem (by exact (And.intro rfl (And.intro rfl (And.intro rfl (And.intro rfl (And.intro rfl (And.intro rfl trivial)))))))) (by exact (And.intro (frz_below (eL_frz _)) (And.intro (frz_below (eL_frz _)) trivial))) (by kernel_rfl)) (Imp.reverS 1 1 (eL v14) [0, 2, 4, 7, 8, 9] (by kernel_rfl) (by exact (And.intro (eL_frz _) (And.intro (eL_frz _) trivial))) (by kernel_rfl)))⟩
 refine pwp_exit ?_
 refine pwp_seq ?_
 refine srveM [10] 72 [(2, I a2), (4, pf a1 0), (7, rf 1 0 4 x5), (60, B (!x3))] [sl 0 a0, sl 0 x5] ?_
 refine pc h (fun h => ?_) (fun h => ?_)
 refine ip 72 [(2, I a2), (4, pf a1 0), (7, rf 1 0 4 x5)] [sl 0 a0, sl 0 x5] ?_
 refine pwp_any ([[1], [], [], [], [], [], [], [], [], [1], [1]]) ([[], [], [], [], [], [], [], [], [], [1], []]) rfl (by kernel_rfl) ?_
 refine qvM [10] [1] (hL trivial) 1 72 [(61, rf 1 0 4 x5), (2, I a2), (4, pf a1 0), (7, rf 1 0 4 x5)] [sl 0 a0, sl 0 x5] ?_
 refine qvM [10] [] trivial 5 72 [(66, A a1.fRow), (64, I a2), (63, I a1.fKey), (61, rf 1 0 4 x5), (7, rf 1 0 4 x5)] [sl 0 a0, sl 0 x5] ?_
 obtain ⟨v27, hv28, h⟩ := bindS h
 refine qX (some 67) (A v27) 72 [(67, A v27), (64, I a2), (63, I a1.fKey), (61, rf 1 0 4 x5), (7, rf 1 0 4 x5)] [sl 0 a0, sl 0 x5] (fun Γ' hΓ => CoreE.of_g (callV_sound (τ := τ) (by kernel_rfl) rfl (ok_spec_l3Own hv28) (FzTo.O _))) trivial ?_
 refine qvM [10] [] trivial 2 72 [(69, .arr 4 ([(T_impl_Version.mk a1.fKey a2 0 v27)] : List T_impl_Version).length (eL ([(T_impl_Version.mk a1.fKey a2 0 v27)] : List T_impl_Version)) true), (61, rf 1 0 4 x5), (7, rf 1 0 4 x5)] [sl 0 a0, sl 0 x5] ?_
 obtain ⟨v29, hv30, h⟩ := bindS h
 refine qX (some 70) (rf 1 1 4 v29) 72 [(70, rf 1 1 4 v29), (7, rf 1 0 4 x5)] [sl 0 a0, sl 1 v29] (fun Γ' hΓ => app_Ew τ_ok 70 1 0 (by first | exact py hΓ hQ | exact pky hΓ hQ) hv30 (by kernel_rfl)) (hL trivial) ?_
 refine qvnM [10] [1] (hL trivial) 1 72 [(7, rf 1 1 4 v29)] [sl 0 a0, sl 1 v29] ?_
 refine srveM [10] 72 [(6, rf 1 1 4 v29)] [sl 0 a0, sl 1 v29] ?_
 have h := si h
 subst h
 exact pwp_ret ⟨.inr rfl, rf 1 1 4 v29, _, 0, by kernel_rfl, (OutP.list (v := 1) (by kernel_rfl)), by decide, by decide, by kernel_rfl⟩
 refine pwp_skip ?_
 refine srveM [10] 72 [(6, rf 1 0 4 x5)] [sl 0 a0, sl 0 x5] ?_
 have h := si h
 subst h
 exact pwp_ret ⟨.inr rfl, rf 1 0 4 x5, _, 0, by kernel_rfl, (OutP.list (v := 0) (by kernel_rfl)), by decide, by decide, by kernel_rfl⟩
def spec_WrittenAt_R_L0_l2 (a1 : List T_impl_Write) (a2 : Int) : Nat → Int → (List T_impl_Version) → Option ((List T_impl_Version) × Bool)
 | 0, _, _ => none
 | f17 + 1, x15, x16 => bif (decide (x15 < (a1.length : Int))) then (getI a1 x15).bind fun v20 => (spec_l13Written_R_L0 x16 v20 a2).bind fun v22 => (spec_WrittenAt_R_L0_l2 a1 a2 f17) (w64 (x15 + 1)) v22 else bif (decide ((x16.length : Int) > 60)) then some (([] : List T_impl_Version), false) else some (x16, true)
def spec_WrittenAt_R_L0_l1 (a0 : List T_impl_Version) (a1 : List T_impl_Write) (a2 : Int) : Nat → Int → Option ((List T_impl_Version) × Bool)
 | 0, _ => none
 | f5 + 1, x4 => bif (decide (x4 < 5)) then (spec_LastTurn a0 x4).bind fun v8 => bif (decide (v8 ≥ a2)) then some (([] : List T_impl_Version), false) else (spec_WrittenAt_R_L0_l1 a0 a1 a2 f5) (w64 (x4 + 1)) else (spec_l13Copy_R_L0 a0).bind fun v11 => spec_WrittenAt_R_L0_l2 a1 a2 FUEL 0 v11
def spec_WrittenAt_R_L0_j0 (a0 : List T_impl_Version) (a1 : List T_impl_Write) (a2 : Int) (x1 : Bool) : Option ((List T_impl_Version) × Bool) := bif x1 then some (([] : List T_impl_Version), false) else spec_WrittenAt_R_L0_l1 a0 a1 a2 FUEL 0
def spec_WrittenAt_R_L0 (a0 : List T_impl_Version) (a1 : List T_impl_Write) (a2 : Int) : Option ((List T_impl_Version) × Bool) := (spec_VersionsOk a0).bind fun v25 => bif (!v25) then spec_WrittenAt_R_L0_j0 a0 a1 a2 true else (spec_WritesOk a1).bind fun v27 => bif (!v27) then spec_WrittenAt_R_L0_j0 a0 a1 a2 true else (spec_l1In a2 1 40).bind fun v29 => spec_WrittenAt_R_L0_j0 a0 a1 a2 (!v29)
theorem ok_spec_WrittenAt_R_L0 {a0 : List T_impl_Version} {a1 : List T_impl_Write} {a2 : Int} {y : (List T_impl_Version) × Bool} (h : spec_WrittenAt_R_L0 a0 a1 a2 = some y) : OKs Tryz.prog 73 [] 4 a0.length (eL a0) [A a1, I a2] (.tup [O y.1, B y.2]) (eL a0) := by
 refine OKs_of_pwp τ_ok Tryz.func73 rfl (by kernel_rfl) rfl (eL_frz _) (eL_frz _) rfl fun Γ hQ => ?_
 refine pwp_imp (Imp.to (st' := ⟨55, [(0, rf 0 0 4 a0), (1, A a1), (2, I a2)], [sl 0 a0]⟩) [0, 1, 2] (by kernel_rfl)) ?_
 unfold spec_WrittenAt_R_L0 at h
 refine srve 55 [(0, rf 0 0 4 a0), (1, A a1), (2, I a2)] [sl 0 a0] ?_
 refine pwp_seq ?_
 refine pwp_seq ?_
 refine pwp_join (σ := Bool) (fun x1 => (⟨55, [(0, rf 0 0 4 a0), (1, A a1), (2, I a2), (23, B x1)], [sl 0 a0]⟩ : St)) (fun x1 => spec_WrittenAt_R_L0_j0 a0 a1 a2 x1 = some y) ?_ ?_
 refine rv 1 55 [(0, rf 0 0 4 a0), (1, A a1), (2, I a2), (11, rf 0 0 4 a0)] [sl 0 a0] ?_
 obtain ⟨v25, hv26, h⟩ := bindS h
 refine opsP_callV (xs := [rf 0 0 4 a0]) τ 12 (ok_spec_VersionsOk hv26) (Blind.lit _) (FzTo.frz rfl) (by kernel_rfl) (ViewL.cons (View.whole (v := 0) a0 (by kernel_rfl) rfl) (ViewL.nil _)) ?_
 refine v 2 55 [(0, rf 0 0 4 a0), (1, A a1), (2, I a2), (14, B (!v25))] [sl 0 a0] ?_
 rcases fk (!v25) with hc32 | hc32
 replace h := bT hc32 h
 rw [hc32]
 refine ve 9 55 [(0, rf 0 0 4 a0), (1, A a1), (2, I a2), (23, B true)] [sl 0 a0] ?_
 exact ⟨true, h, it [0, 1, 2, 23]⟩
 replace h := bF hc32 h
 rw [hc32]
 refine v 1 55 [(0, rf 0 0 4 a0), (1, A a1), (2, I a2), (14, B false), (15, A a1)] [sl 0 a0] ?_
 obtain ⟨v27, hv28, h⟩ := bindS h
 refine cF 16 (ok_spec_WritesOk hv28) ?_
 refine v 3 55 [(0, rf 0 0 4 a0), (1, A a1), (2, I a2), (19, B (!v27))] [sl 0 a0] ?_
 rcases fk (!v27) with hc31 | hc31
 replace h := bT hc31 h
 rw [hc31]
 refine ve 4 55 [(0, rf 0 0 4 a0), (1, A a1), (2, I a2), (23, B true)] [sl 0 a0] ?_
 exact ⟨true, h, it [0, 1, 2, 23]⟩
 replace h := bF hc31 h
 rw [hc31]
 refine v 1 55 [(0, rf 0 0 4 a0), (1, A a1), (2, I a2), (19, B false), (20, I a2)] [sl 0 a0] ?_
 obtain ⟨v29, hv30, h⟩ := bindS h
 refine cF 21 (ok_spec_l1In hv30) ?_
 refine ve 2 55 [(0, rf 0 0 4 a0), (1, A a1), (2, I a2), (23, B (!v29))] [sl 0 a0] ?_
 exact ⟨(!v29), h, it [0, 1, 2, 23]⟩
 rintro x1 h
 unfold spec_WrittenAt_R_L0_j0 at h
 refine pc h (fun h => ?_) (fun h => ?_)
 refine srve 55 [(6, .arr 4 0 (eL ([] : List T_impl_Version)) true), (7, B false)] [sl 0 a0] ?_
 refine ip 55 [(6, .arr 4 0 (eL ([] : List T_impl_Version)) true), (7, B false)] [sl 0 a0] ?_
 refine pwp_imp (Imp.thawS (st' := ⟨55, [(6, .ref 1 0 0 4 ([] : List T_impl_Version).length false), (7, B false)], [sl 0 a0, some ⟨0, eL ([] : List T_impl_Version)⟩]⟩) 6 [6, 7] (by kernel_rfl)) ?_
 have h := si h
 subst h
 exact pwp_ret ⟨.inr rfl, .tup [.ref 1 0 0 4 ([] : List T_impl_Version).length false, B false], _, 0, by kernel_rfl, (OutP.tup (OutL.cons (OutP.list (v := 0) (by kernel_rfl)) (OutL.cons (OutP.frz (by kernel_rfl)) (OutL.nil _)))), by decide, by decide, by kernel_rfl⟩
 refine pwp_skip ?_
 refine pwp_seq ?_
 refine srve 55 [(0, rf 0 0 4 a0), (1, A a1), (2, I a2), (8, I 0)] [sl 0 a0] ?_
 refine pwp_block ?_
 refine pwp_loop (ι := Nat × Int) (fun (f5, x4) => (⟨55, [(0, rf 0 0 4 a0), (1, A a1), (2, I a2), (8, I x4)], [sl 0 a0]⟩ : St)) (fun (f5, x4) => spec_WrittenAt_R_L0_l1 a0 a1 a2 f5 x4 = some y) Prod.fst (FUEL, 0) h (it [0, 1, 2, 8]) ?_
 rintro ⟨f5, x4⟩ h
 dsimp only at h ⊢
 rcases f5 with _ | f5
 cases h
 rw [spec_WrittenAt_R_L0_l1] at h
 refine pwp_seq ?_
 refine srve 55 [(0, rf 0 0 4 a0), (1, A a1), (2, I a2), (8, I x4), (26, B (decide (x4 < 5)))] [sl 0 a0] ?_
 refine pc h (fun h => ?_) (fun h => ?_)
 refine pwp_skip ?_
 refine pwp_seq ?_
 refine pwp_block ?_
 refine srv 2 55 [(0, rf 0 0 4 a0), (1, A a1), (2, I a2), (8, I x4), (29, rf 0 0 4 a0), (30, I x4)] [sl 0 a0] ?_
 obtain ⟨v8, hv9, h⟩ := bindS h
 refine opsP_callV (xs := [rf 0 0 4 a0, I x4]) τ 31 (ok_spec_LastTurn hv9) (Blind.lit _) (FzTo.frz rfl) (by kernel_rfl) (ViewL.cons (View.whole (v := 0) a0 (by kernel_rfl) rfl) (ViewL.cons (View.frz rfl) (ViewL.nil _))) ?_
 refine ve 2 55 [(0, rf 0 0 4 a0), (1, A a1), (2, I a2), (8, I x4), (33, B (decide (v8 ≥ a2)))] [sl 0 a0] ?_
 refine pc h (fun h => ?_) (fun h => ?_)
 refine srve 55 [(6, .arr 4 0 (eL ([] : List T_impl_Version)) true), (7, B false)] [sl 0 a0] ?_
 refine ip 55 [(6, .arr 4 0 (eL ([] : List T_impl_Version)) true), (7, B false)] [sl 0 a0] ?_
 refine pwp_imp (Imp.thawS (st' := ⟨55, [(6, .ref 1 0 0 4 ([] : List T_impl_Version).length false), (7, B false)], [sl 0 a0, some ⟨0, eL ([] : List T_impl_Version)⟩]⟩) 6 [6, 7] (by kernel_rfl)) ?_
 have h := si h
 subst h
 exact pwp_ret ⟨.inr rfl, .tup [.ref 1 0 0 4 ([] : List T_impl_Version).length false, B false], _, 0, by kernel_rfl, (OutP.tup (OutL.cons (OutP.list (v := 0) (by kernel_rfl)) (OutL.cons (OutP.frz (by kernel_rfl)) (OutL.nil _)))), by decide, by decide, by kernel_rfl⟩
 refine pwp_skip ?_
 refine rve 55 [(0, rf 0 0 4 a0), (1, A a1), (2, I a2), (8, I (w64 (x4 + 1)))] [sl 0 a0] ?_
 exact ⟨(f5, (w64 (x4 + 1))), h, Nat.lt_succ_self _, it [0, 1, 2, 8]⟩
 refine pwp_exit ?_
 refine srv 1 55 [(1, A a1), (2, I a2), (35, rf 0 0 4 a0)] [sl 0 a0] ?_
 obtain ⟨v11, hv12, h⟩ := bindS h
 refine opsP_E (dd := some 36) (x := rf 1 0 4 v11) (callST_E (bs := [⟨0, eL v11⟩]) τ 36 0 0 (ok_spec_l13Copy_R_L0 hv12) rfl rfl (by kernel_rfl) (by kernel_rfl)) ?_
 refine ve 1 55 [(1, A a1), (2, I a2), (9, rf 1 0 4 v11)] [sl 0 a0, sl 0 v11] ?_
 refine pwp_seq ?_
 refine srve 55 [(1, A a1), (2, I a2), (9, rf 1 0 4 v11), (10, I 0)] [sl 0 a0, sl 0 v11] ?_
 refine pwp_block ?_
 refine pwp_loop (ι := Nat × Int × (List T_impl_Version)) (fun (f17, x15, x16) => (⟨55, [(1, A a1), (2, I a2), (9, rf 1 0 4 x16), (10, I x15)], [sl 0 a0, sl 0 x16]⟩ : St)) (fun (f17, x15, x16) => spec_WrittenAt_R_L0_l2 a1 a2 f17 x15 x16 = some y) Prod.fst (FUEL, 0, v11) h (it [1, 2, 9, 10]) ?_
 rintro ⟨f17, x15, x16⟩ h
 dsimp only at h ⊢
 rcases f17 with _ | f17
 cases h
 rw [spec_WrittenAt_R_L0_l2] at h
 refine pwp_seq ?_
 refine srve 55 [(1, A a1), (2, I a2), (9, rf 1 0 4 x16), (10, I x15), (40, B (decide (x15 < (a1.length : Int))))] [sl 0 a0, sl 0 x16] ?_
 refine pc h (fun h => ?_) (fun h => ?_)
 refine pwp_skip ?_
 refine pwp_seq ?_
 refine pwp_block ?_
 refine rv 3 55 [(1, A a1), (2, I a2), (10, I x15), (43, rf 1 0 4 x16), (44, A a1), (45, I x15)] [sl 0 a0, sl 0 x16] ?_
 obtain ⟨v20, hv21, h⟩ := bindS h
 refine opsP_idx τ_ok 46 hv21 (by kernel_rfl) ?_
 refine v 2 55 [(1, A a1), (2, I a2), (10, I x15), (43, rf 1 0 4 x16), (47, E v20), (48, I a2)] [sl 0 a0, sl 0 x16] ?_
 obtain ⟨v22, hv23, h⟩ := bindS h
 refine opsP_E (dd := some 49) (x := rf 2 0 4 v22) (callST_E (bs := [⟨0, eL v22⟩]) τ 49 1 0 (ok_spec_l13Written_R_L0 hv23) rfl rfl (by kernel_rfl) (by kernel_rfl)) ?_
 refine ve 1 55 [(1, A a1), (2, I a2), (9, rf 2 0 4 v22), (10, I x15)] [sl 0 a0, sl 0 x16, sl 0 v22] ?_
 refine rve 55 [(1, A a1), (2, I a2), (9, rf 2 0 4 v22), (10, I (w64 (x15 + 1)))] [sl 0 a0, sl 0 x16, sl 0 v22] ?_
 exact ⟨(f17, (w64 (x15 + 1)), v22), h, Nat.lt_succ_self _, qt (it (st' := ⟨55, [(1, A a1), (2, I a2), (9, rf 2 0 4 v22), (10, I (w64 (x15 + 1)))], [sl 0 a0, sl 0 x16, sl 0 v22]⟩) [1, 2, 9, 10]) (qt (Imp.hideS (st' := ⟨55, [(1, A a1), (2, I a2), (9, rf 2 0 4 v22), (10, I (w64 (x15 + 1)))], [sl 0 a0, none, sl 0 v22]⟩) 1 (pn hQ) (by kernel_rfl)) (qt (Imp.mvS (st' := ⟨55, [(1, A a1), (2, I a2), (9, rf 1 0 4 v22), (10, I (w64 (x15 + 1)))], [sl 0 a0, sl 0 v22, none]⟩) 2 1 [1, 2, 9, 10] (pn2 hQ) (v := 0) (cs := eL v22) (by kernel_rfl) (by kernel_rfl) (by exact (And.intro (eL_frz _) (And.intro (eL_frz _) trivial))) (by kernel_rfl) (by kernel_rfl)) (Imp.truncS 2 (pl hQ) (by kernel_rfl) (allBelow_mem (by exact (And.intro rfl (And.intro rfl (And.intro rfl (And.intro rfl trivial)))))) (by exact (And.intro (frz_below (eL_frz _)) (And.intro (frz_below (eL_frz _)) trivial))) (by kernel_rfl))))⟩
 refine pwp_exit ?_
 refine pwp_seq ?_
 refine srve 55 [(9, rf 1 0 4 x16), (52, B (decide ((x16.length : Int) > 60)))] [sl 0 a0, sl 0 x16] ?_
 refine pc h (fun h => ?_) (fun h => ?_)
 refine srve 55 [(6, .arr 4 0 (eL ([] : List T_impl_Version)) true), (7, B false)] [sl 0 a0, sl 0 x16] ?_
 refine ip 55 [(6, .arr 4 0 (eL ([] : List T_impl_Version)) true), (7, B false)] [sl 0 a0, sl 0 x16] ?_
 refine pwp_imp (Imp.thawS (st' := ⟨55, [(6, .ref 2 0 0 4 ([] : List T_impl_Version).length false), (7, B false)], [sl 0 a0, sl 0 x16, some ⟨0, eL ([] : List T_impl_Version)⟩]⟩) 6 [6, 7] (by kernel_rfl)) ?_
 have h := si h
 subst h
 exact pwp_ret ⟨.inr rfl, .tup [.ref 2 0 0 4 ([] : List T_impl_Version).length false, B false], _, 0, by kernel_rfl, (OutP.tup (OutL.cons (OutP.list (v := 0) (by kernel_rfl)) (OutL.cons (OutP.frz (by kernel_rfl)) (OutL.nil _)))), by decide, by decide, by kernel_rfl⟩
 refine pwp_skip ?_
 refine srve 55 [(6, rf 1 0 4 x16), (7, B true)] [sl 0 a0, sl 0 x16] ?_
 have h := si h
 subst h
 exact pwp_ret ⟨.inr rfl, .tup [rf 1 0 4 x16, B true], _, 0, by kernel_rfl, (OutP.tup (OutL.cons (OutP.list (v := 0) (by kernel_rfl)) (OutL.cons (OutP.frz (by kernel_rfl)) (OutL.nil _)))), by decide, by decide, by kernel_rfl⟩
def spec_l20Versions_j1 (x5 : Int) (x6 : Int) (K10 : Int → Int → T_spec_l20Rd → (List T_impl_Version) → Option (((List T_impl_Version) × Int) × T_spec_l20Rd)) (x12 : T_spec_l20Rd) (x13 : List T_impl_Version) : Option (((List T_impl_Version) × Int) × T_spec_l20Rd) := (spec_l20Rd_pick x12 2).bind fun v14 => K10 (w64 ((w64 (x5 + 1)) + v14.1)) (w64 (x6 - 1)) v14.2 x13
def spec_l20Versions_j2 (x5 : Int) (x21 : T_spec_l20Rd) (x22 : List T_impl_Version) : Option (((List T_impl_Version) × Int) × T_spec_l20Rd) := some ((x22, x5), x21)
def spec_l20Versions_j3 (x5 : Int) (x8 : List T_impl_Version) (x23 : Bool) (x24 : T_spec_l20Rd) : Option (((List T_impl_Version) × Int) × T_spec_l20Rd) := bif x23 then (spec_l20Rd_pick x24 (x8.length : Int)).bind fun v26 => (spec_l20Rd_pick v26.2 4).bind fun v28 => bif (v28.1 == 0) then (spec_l20Rd_pick v28.2 9).bind fun v31 => (getI x8 v26.1).bind fun v33 => spec_l20Versions_j2 x5 v31.2 (x8.set v26.1.toNat ({ v33 with fDied := (w64 (v31.1 - 1)) } : T_impl_Version)) else bif (v28.1 == 1) then (spec_l20Rd_pick v28.2 8).bind fun v36 => (getI x8 v26.1).bind fun v38 => spec_l20Versions_j2 x5 v36.2 (x8.set v26.1.toNat ({ v38 with fKey := (w64 (v36.1 - 1)) } : T_impl_Version)) else bif (v28.1 == 2) then (spec_l20Rd_pick v28.2 50).bind fun v41 => (getI x8 v26.1).bind fun v43 => spec_l20Versions_j2 x5 v41.2 (x8.set v26.1.toNat ({ v43 with fBorn := (w64 (v41.1 - 1)) } : T_impl_Version)) else (getI x8 v26.1).bind fun v45 => (app x8 ([v45] : List T_impl_Version)).bind fun v47 => spec_l20Versions_j2 x5 v28.2 v47 else spec_l20Versions_j2 x5 x24 x8
def spec_l20Versions_l0 (a1 : Int) : Nat → Int → Int → T_spec_l20Rd → (List T_impl_Version) → Option (((List T_impl_Version) × Int) × T_spec_l20Rd)
 | 0, _, _, _, _ => none
 | f9 + 1, x5, x6, x7, x8 => bif (decide (x6 > 0)) then (spec_l20Writes x7 0).bind fun v16 => (spec_WrittenAt_R_L0 x8 v16.1 x5).bind fun v18 => bif v18.2 then spec_l20Versions_j1 x5 x6 (spec_l20Versions_l0 a1 f9) v16.2 v18.1 else spec_l20Versions_j1 x5 x6 (spec_l20Versions_l0 a1 f9) v16.2 x8 else bif (decide ((x8.length : Int) > 0)) then (spec_l20Rd_odd x7 a1).bind fun v49 => spec_l20Versions_j3 x5 x8 v49.1 v49.2 else spec_l20Versions_j3 x5 x8 false x7
def spec_l20Versions (a0 : T_spec_l20Rd) (a1 : Int) : Option (((List T_impl_Version) × Int) × T_spec_l20Rd) := (spec_l20Rd_pick a0 7).bind fun v1 => spec_l20Versions_l0 a1 FUEL 1 v1.1 v1.2 ([] : List T_impl_Version)
theorem ok_spec_l20Versions {a0 : T_spec_l20Rd} {a1 : Int} {y : ((List T_impl_Version) × Int) × T_spec_l20Rd} (h : spec_l20Versions a0 a1 = some y) : OKb Tryz.prog 39 (Enc.cells a0) [I a1] (.tup [O y.1.1, I y.1.2]) (Enc.cells y.2) := by
 refine OKb_of_pwp τ_ok Tryz.func39 rfl (by kernel_rfl) rfl (Enc.frz _) (Enc.frz _) fun Γ hQ => ?_
 unfold spec_l20Versions at h
 refine srve 84 [(0, .ptr 0 0 0), (1, I a1)] [sc 0 a0] ?_
 refine srve 84 [(0, .ptr 0 0 0), (1, I a1), (6, .arr 4 0 (eL ([] : List T_impl_Version)) true)] [sc 0 a0] ?_
 refine srve 84 [(0, .ptr 0 0 0), (1, I a1), (6, .arr 4 0 (eL ([] : List T_impl_Version)) true), (7, I 1)] [sc 0 a0] ?_
 refine pwp_seq ?_
 refine srv 1 84 [(0, .ptr 0 0 0), (1, I a1), (6, .arr 4 0 (eL ([] : List T_impl_Version)) true), (7, I 1), (13, .ptr 0 0 0)] [sc 0 a0] ?_
 obtain ⟨v1, hv2, h⟩ := bindS h
 refine cB 14 0 0 (ok_spec_l20Rd_pick hv2) ?_
 refine ve 1 84 [(0, .ptr 0 0 0), (1, I a1), (6, .arr 4 0 (eL ([] : List T_impl_Version)) true), (7, I 1), (8, I v1.1)] [sc 0 v1.2] ?_
 refine pwp_block ?_
 refine pwp_loop (ι := Nat × Int × Int × T_spec_l20Rd × (List T_impl_Version)) (fun (f9, x5, x6, x7, x8) => (⟨84, [(0, .ptr 0 0 0), (1, I a1), (6, rf 1 0 4 x8), (7, I x5), (8, I x6)], [sc 0 x7, sl 0 x8]⟩ : St)) (fun (f9, x5, x6, x7, x8) => spec_l20Versions_l0 a1 f9 x5 x6 x7 x8 = some y) Prod.fst (FUEL, 1, v1.1, v1.2, ([] : List T_impl_Version)) h (Imp.thawS 6 [0, 1, 6, 7, 8] (by kernel_rfl)) ?_
 rintro ⟨f9, x5, x6, x7, x8⟩ h
 dsimp only at h ⊢
 rcases f9 with _ | f9
 cases h
 rw [spec_l20Versions_l0] at h
 refine pwp_seq ?_
 refine srve 84 [(0, .ptr 0 0 0), (1, I a1), (6, rf 1 0 4 x8), (7, I x5), (8, I x6), (16, B (decide (x6 > 0)))] [sc 0 x7, sl 0 x8] ?_
 refine pc h (fun h => ?_) (fun h => ?_)
 refine pwp_skip ?_
 refine pwp_seq ?_
 refine pwp_block ?_
 refine pwp_seq ?_
 refine pwp_join (σ := T_spec_l20Rd × (List T_impl_Version)) (fun (x12, x13) => (⟨84, [(0, .ptr 0 0 0), (1, I a1), (6, rf 1 0 4 x13), (7, I x5), (8, I x6)], [sc 0 x12, sl 0 x13, none]⟩ : St)) (fun (x12, x13) => spec_l20Versions_j1 x5 x6 (spec_l20Versions_l0 a1 f9) x12 x13 = some y) ?_ ?_
 refine srv 2 84 [(0, .ptr 0 0 0), (1, I a1), (6, rf 1 0 4 x8), (7, I x5), (8, I x6), (20, rf 1 0 4 x8), (21, .ptr 0 0 0)] [sc 0 x7, sl 0 x8] ?_
 obtain ⟨v16, hv17, h⟩ := bindS h
 refine cBo 22 0 0 (ok_spec_l20Writes hv17) ?_
 refine v 1 84 [(0, .ptr 0 0 0), (1, I a1), (6, rf 1 0 4 x8), (7, I x5), (8, I x6), (20, rf 1 0 4 x8), (22, A v16.1), (23, I x5)] [sc 0 v16.2, sl 0 x8] ?_
 obtain ⟨v18, hv19, h⟩ := bindS h
 refine opsP_E (dd := some 24) (x := .tup [rf 2 0 4 v18.1, B v18.2]) (callST_E (bs := [⟨0, eL v18.1⟩]) τ 24 1 0 (ok_spec_WrittenAt_R_L0 hv19) rfl rfl (by kernel_rfl) (by kernel_rfl)) ?_
 refine ve 5 84 [(0, .ptr 0 0 0), (1, I a1), (6, rf 1 0 4 x8), (7, I x5), (8, I x6), (9, rf 2 0 4 v18.1), (10, B v18.2)] [sc 0 v16.2, sl 0 x8, sl 0 v18.1] ?_
 refine srve 84 [(0, .ptr 0 0 0), (1, I a1), (6, rf 1 0 4 x8), (7, I x5), (8, I x6), (9, rf 2 0 4 v18.1), (27, B v18.2)] [sc 0 v16.2, sl 0 x8, sl 0 v18.1] ?_
 refine pc h (fun h => ?_) (fun h => ?_)
 refine rve 84 [(0, .ptr 0 0 0), (1, I a1), (6, rf 2 0 4 v18.1), (7, I x5), (8, I x6)] [sc 0 v16.2, sl 0 x8, sl 0 v18.1] ?_
 exact ⟨(v16.2, v18.1), h, qt (it (st' := ⟨84, [(0, .ptr 0 0 0), (1, I a1), (6, rf 2 0 4 v18.1), (7, I x5), (8, I x6)], [sc 0 v16.2, sl 0 x8, sl 0 v18.1]⟩) [0, 1, 6, 7, 8]) (qt (Imp.hideS (st' := ⟨84, [(0, .ptr 0 0 0), (1, I a1), (6, rf 2 0 4 v18.1), (7, I x5), (8, I x6)], [sc 0 v16.2, none, sl 0 v18.1]⟩) 1 (pn hQ) (by kernel_rfl)) (Imp.mvS 2 1 [0, 1, 6, 7, 8] (pn2 hQ) (v := 0) (cs := eL v18.1) (by kernel_rfl) (by kernel_rfl) (by exact (And.intro (rfl) (And.intro (eL_frz _) trivial))) (by kernel_rfl) (by kernel_rfl)))⟩
 refine pwp_skip ?_
 exact ⟨(v16.2, x8), h, qt (it (st' := ⟨84, [(0, .ptr 0 0 0), (1, I a1), (6, rf 1 0 4 x8), (7, I x5), (8, I x6)], [sc 0 v16.2, sl 0 x8, sl 0 v18.1]⟩) [0, 1, 6, 7, 8]) (qt (Imp.hideS (st' := ⟨84, [(0, .ptr 0 0 0), (1, I a1), (6, rf 1 0 4 x8), (7, I x5), (8, I x6)], [sc 0 v16.2, sl 0 x8, none]⟩) 2 (pn hQ) (by kernel_rfl)) (it [0, 1, 6, 7, 8]))⟩
 rintro ⟨x12, x13⟩ h
 dsimp only at h ⊢
 unfold spec_l20Versions_j1 at h
 refine rv 3 84 [(0, .ptr 0 0 0), (1, I a1), (6, rf 1 0 4 x13), (8, I x6), (30, I (w64 (x5 + 1))), (31, .ptr 0 0 0)] [sc 0 x12, sl 0 x13, none] ?_
 obtain ⟨v14, hv15, h⟩ := bindS h
 refine cB 32 0 0 (ok_spec_l20Rd_pick hv15) ?_
 refine ve 2 84 [(0, .ptr 0 0 0), (1, I a1), (6, rf 1 0 4 x13), (7, I (w64 ((w64 (x5 + 1)) + v14.1))), (8, I x6)] [sc 0 v14.2, sl 0 x13, none] ?_
 refine rve 84 [(0, .ptr 0 0 0), (1, I a1), (6, rf 1 0 4 x13), (7, I (w64 ((w64 (x5 + 1)) + v14.1))), (8, I (w64 (x6 - 1)))] [sc 0 v14.2, sl 0 x13, none] ?_
 exact ⟨(f9, (w64 ((w64 (x5 + 1)) + v14.1)), (w64 (x6 - 1)), v14.2, x13), h, Nat.lt_succ_self _, (it (st' := ⟨84, [(0, .ptr 0 0 0), (1, I a1), (6, rf 1 0 4 x13), (7, I (w64 ((w64 (x5 + 1)) + v14.1))), (8, I (w64 (x6 - 1)))], [sc 0 v14.2, sl 0 x13, none]⟩) [0, 1, 6, 7, 8]).trans (Imp.truncS 2 (pl hQ) (by kernel_rfl) (allBelow_mem (by exact (And.intro rfl (And.intro rfl (And.intro rfl (And.intro rfl (And.intro rfl trivial))))))) (by exact (And.intro (rfl) (And.intro (frz_below (eL_frz _)) trivial))) (by kernel_rfl))⟩
 refine pwp_exit ?_
 refine pwp_seq ?_
 refine pwp_join (σ := T_spec_l20Rd × (List T_impl_Version)) (fun (x21, x22) => (⟨84, [(6, rf 1 0 4 x22), (7, I x5)], [sc 0 x21, sl 0 x22]⟩ : St)) (fun (x21, x22) => spec_l20Versions_j2 x5 x21 x22 = some y) ?_ ?_
 refine pwp_seq ?_
 refine pwp_join (σ := Bool × T_spec_l20Rd) (fun (x23, x24) => (⟨84, [(0, .ptr 0 0 0), (6, rf 1 0 4 x8), (7, I x5), (41, B x23)], [sc 0 x24, sl 0 x8]⟩ : St)) (fun (x23, x24) => spec_l20Versions_j3 x5 x8 x23 x24 = some y) ?_ ?_
 refine rv 4 84 [(0, .ptr 0 0 0), (1, I a1), (6, rf 1 0 4 x8), (7, I x5), (37, B (decide ((x8.length : Int) > 0)))] [sc 0 x7, sl 0 x8] ?_
 rcases fk (decide ((x8.length : Int) > 0)) with hc51 | hc51
 replace h := bT hc51 h
 rw [hc51]
 refine v 2 84 [(0, .ptr 0 0 0), (6, rf 1 0 4 x8), (7, I x5), (37, B true), (38, .ptr 0 0 0), (39, I a1)] [sc 0 x7, sl 0 x8] ?_
 obtain ⟨v49, hv50, h⟩ := bindS h
 refine cB 40 0 0 (ok_spec_l20Rd_odd hv50) ?_
 refine ve 1 84 [(0, .ptr 0 0 0), (6, rf 1 0 4 x8), (7, I x5), (41, B v49.1)] [sc 0 v49.2, sl 0 x8] ?_
 exact ⟨(v49.1, v49.2), h, it [0, 6, 7, 41]⟩
 replace h := bF hc51 h
 rw [hc51]
 refine ve 4 84 [(0, .ptr 0 0 0), (6, rf 1 0 4 x8), (7, I x5), (41, B false)] [sc 0 x7, sl 0 x8] ?_
 exact ⟨(false, x7), h, it [0, 6, 7, 41]⟩
 rintro ⟨x23, x24⟩ h
 dsimp only at h ⊢
 unfold spec_l20Versions_j3 at h
 refine pc h (fun h => ?_) (fun h => ?_)
 refine srv 3 84 [(0, .ptr 0 0 0), (6, rf 1 0 4 x8), (7, I x5), (42, .ptr 0 0 0), (44, I (x8.length : Int))] [sc 0 x24, sl 0 x8] ?_
 obtain ⟨v26, hv27, h⟩ := bindS h
 refine cB 45 0 0 (ok_spec_l20Rd_pick hv27) ?_
 refine ve 1 84 [(0, .ptr 0 0 0), (6, rf 1 0 4 x8), (7, I x5), (11, I v26.1)] [sc 0 v26.2, sl 0 x8] ?_
 refine srv 1 84 [(0, .ptr 0 0 0), (6, rf 1 0 4 x8), (7, I x5), (11, I v26.1), (46, .ptr 0 0 0)] [sc 0 v26.2, sl 0 x8] ?_
 obtain ⟨v28, hv29, h⟩ := bindS h
 refine cB 47 0 0 (ok_spec_l20Rd_pick hv29) ?_
 refine ve 0 84 [(0, .ptr 0 0 0), (6, rf 1 0 4 x8), (7, I x5), (11, I v26.1), (47, I v28.1)] [sc 0 v28.2, sl 0 x8] ?_
 refine pwp_block ?_
 refine srve 84 [(0, .ptr 0 0 0), (6, rf 1 0 4 x8), (7, I x5), (11, I v26.1), (47, I v28.1), (55, B (v28.1 == 0))] [sc 0 v28.2, sl 0 x8] ?_
 refine pc h (fun h => ?_) (fun h => ?_)
 refine rv 3 84 [(6, rf 1 0 4 x8), (7, I x5), (57, rf 1 0 4 x8), (58, I v26.1), (59, .ptr 0 0 0)] [sc 0 v28.2, sl 0 x8] ?_
 obtain ⟨v31, hv32, h⟩ := bindS h
 refine cB 60 0 0 (ok_spec_l20Rd_pick hv32) ?_
 refine v 1 84 [(6, rf 1 0 4 x8), (7, I x5), (57, rf 1 0 4 x8), (58, I v26.1), (61, I (w64 (v31.1 - 1)))] [sc 0 v31.2, sl 0 x8] ?_
 obtain ⟨v33, hv34, h⟩ := bindS h
 refine opsP_idr τ_ok 62 1 0 x8.length hv34 rfl (by kernel_rfl) ?_
 refine v 1 84 [(6, rf 1 0 4 x8), (7, I x5), (61, I (w64 (v31.1 - 1))), (63, .ptr 1 0 (v26.1.toNat * 4 + 2))] [sc 0 v31.2, sl 0 x8] ?_
 refine opsP_ste (vs := [I (w64 (v31.1 - 1))]) τ_ok 3 1 0 2 ({ v33 with fDied := (w64 (v31.1 - 1)) } : T_impl_Version) hv34 (by kernel_rfl) (by kernel_rfl) (by kernel_rfl) (renC (ren_ref (List.length_set ..).symm) (renC trivial (renC trivial (renC trivial renC0)))) ?_
 refine ve 0 84 [(6, .ref 1 0 0 4 (x8.set v26.1.toNat ({ v33 with fDied := (w64 (v31.1 - 1)) } : T_impl_Version)).length false), (7, I x5)] [sc 0 v31.2, some ⟨0, eL (x8.set v26.1.toNat ({ v33 with fDied := (w64 (v31.1 - 1)) } : T_impl_Version))⟩] ?_
 exact ⟨(v31.2, (x8.set v26.1.toNat ({ v33 with fDied := (w64 (v31.1 - 1)) } : T_impl_Version))), h, it [6, 7]⟩
 refine srve 84 [(0, .ptr 0 0 0), (6, rf 1 0 4 x8), (7, I x5), (11, I v26.1), (47, I v28.1), (64, B (v28.1 == 1))] [sc 0 v28.2, sl 0 x8] ?_
 refine pc h (fun h => ?_) (fun h => ?_)
 refine rv 3 84 [(6, rf 1 0 4 x8), (7, I x5), (66, rf 1 0 4 x8), (67, I v26.1), (68, .ptr 0 0 0)] [sc 0 v28.2, sl 0 x8] ?_
 obtain ⟨v36, hv37, h⟩ := bindS h
 refine cB 69 0 0 (ok_spec_l20Rd_pick hv37) ?_
 refine v 1 84 [(6, rf 1 0 4 x8), (7, I x5), (66, rf 1 0 4 x8), (67, I v26.1), (70, I (w64 (v36.1 - 1)))] [sc 0 v36.2, sl 0 x8] ?_
 obtain ⟨v38, hv39, h⟩ := bindS h
 refine opsP_idr τ_ok 71 1 0 x8.length hv39 rfl (by kernel_rfl) ?_
 refine v 1 84 [(6, rf 1 0 4 x8), (7, I x5), (70, I (w64 (v36.1 - 1))), (72, .ptr 1 0 (v26.1.toNat * 4))] [sc 0 v36.2, sl 0 x8] ?_
 refine opsP_ste (vs := [I (w64 (v36.1 - 1))]) τ_ok 3 1 0 0 ({ v38 with fKey := (w64 (v36.1 - 1)) } : T_impl_Version) hv39 (by kernel_rfl) (by kernel_rfl) (by kernel_rfl) (renC (ren_ref (List.length_set ..).symm) (renC trivial (renC trivial (renC trivial renC0)))) ?_
 refine ve 0 84 [(6, .ref 1 0 0 4 (x8.set v26.1.toNat ({ v38 with fKey := (w64 (v36.1 - 1)) } : T_impl_Version)).length false), (7, I x5)] [sc 0 v36.2, some ⟨0, eL (x8.set v26.1.toNat ({ v38 with fKey := (w64 (v36.1 - 1)) } : T_impl_Version))⟩] ?_
 exact ⟨(v36.2, (x8.set v26.1.toNat ({ v38 with fKey := (w64 (v36.1 - 1)) } : T_impl_Version))), h, it [6, 7]⟩
 refine srve 84 [(0, .ptr 0 0 0), (6, rf 1 0 4 x8), (7, I x5), (11, I v26.1), (73, B (v28.1 == 2))] [sc 0 v28.2, sl 0 x8] ?_
 refine pc h (fun h => ?_) (fun h => ?_)
 refine rv 3 84 [(6, rf 1 0 4 x8), (7, I x5), (75, rf 1 0 4 x8), (76, I v26.1), (77, .ptr 0 0 0)] [sc 0 v28.2, sl 0 x8] ?_
 obtain ⟨v41, hv42, h⟩ := bindS h
 refine cB 78 0 0 (ok_spec_l20Rd_pick hv42) ?_
 refine v 1 84 [(6, rf 1 0 4 x8), (7, I x5), (75, rf 1 0 4 x8), (76, I v26.1), (79, I (w64 (v41.1 - 1)))] [sc 0 v41.2, sl 0 x8] ?_
 obtain ⟨v43, hv44, h⟩ := bindS h
 refine opsP_idr τ_ok 80 1 0 x8.length hv44 rfl (by kernel_rfl) ?_
 refine v 1 84 [(6, rf 1 0 4 x8), (7, I x5), (79, I (w64 (v41.1 - 1))), (81, .ptr 1 0 (v26.1.toNat * 4 + 1))] [sc 0 v41.2, sl 0 x8] ?_
 refine opsP_ste (vs := [I (w64 (v41.1 - 1))]) τ_ok 3 1 0 1 ({ v43 with fBorn := (w64 (v41.1 - 1)) } : T_impl_Version) hv44 (by kernel_rfl) (by kernel_rfl) (by kernel_rfl) (renC (ren_ref (List.length_set ..).symm) (renC trivial (renC trivial (renC trivial renC0)))) ?_
 refine ve 0 84 [(6, .ref 1 0 0 4 (x8.set v26.1.toNat ({ v43 with fBorn := (w64 (v41.1 - 1)) } : T_impl_Version)).length false), (7, I x5)] [sc 0 v41.2, some ⟨0, eL (x8.set v26.1.toNat ({ v43 with fBorn := (w64 (v41.1 - 1)) } : T_impl_Version))⟩] ?_
 exact ⟨(v41.2, (x8.set v26.1.toNat ({ v43 with fBorn := (w64 (v41.1 - 1)) } : T_impl_Version))), h, it [6, 7]⟩
 refine rv 3 84 [(7, I x5), (48, rf 1 0 4 x8), (49, rf 1 0 4 x8), (50, I v26.1)] [sc 0 v28.2, sl 0 x8] ?_
 obtain ⟨v45, hv46, h⟩ := bindS h
 refine opsP_idr τ_ok 51 1 0 x8.length hv46 rfl (by kernel_rfl) ?_
 refine opsP_lde (r := E v45) τ_ok 52 76 0 hv46 (by kernel_rfl) (by kernel_rfl) ?_
 refine v 1 84 [(7, I x5), (48, rf 1 0 4 x8), (53, .arr 4 ([v45] : List T_impl_Version).length (eL ([v45] : List T_impl_Version)) true)] [sc 0 v28.2, sl 0 x8] ?_
 obtain ⟨v47, hv48, h⟩ := bindS h
 refine opsP_app τ_ok 54 1 0 (pn hQ) hv48 (by kernel_rfl) ?_
 refine ve 1 84 [(6, rf 1 1 4 v47), (7, I x5)] [sc 0 v28.2, sl 1 v47] ?_
 exact ⟨(v28.2, v47), h, (it (st' := ⟨84, [(6, rf 1 1 4 v47), (7, I x5)], [sc 0 v28.2, sl 1 v47]⟩) [6, 7]).trans (Imp.reverS 1 1 (eL v47) [6, 7] (by kernel_rfl) (by exact (And.intro (rfl) (And.intro (eL_frz _) trivial))) (by kernel_rfl))⟩
 refine pwp_skip ?_
 exact ⟨(x24, x8), h, it [6, 7]⟩
 rintro ⟨x21, x22⟩ h
 dsimp only at h ⊢
 unfold spec_l20Versions_j2 at h
 refine srve 84 [(4, rf 1 0 4 x22), (5, I x5)] [sc 0 x21, sl 0 x22] ?_
 have h := si h
 subst h
 exact pwp_ret ⟨.inr rfl, .tup [rf 1 0 4 x22, I x5], _, 0, by kernel_rfl, (OutP.tup (OutL.cons (OutP.list (v := 0) (by kernel_rfl)) (OutL.cons (OutP.frz (by kernel_rfl)) (OutL.nil _)))), by decide, by decide, by kernel_rfl⟩
def spec_DrawIndexed (a0 : List UInt8) : Option ((List T_impl_Version) × (List T_impl_Write) × Int) := (spec_l20Open a0).bind fun v1 => (spec_l20Versions v1 0).bind fun v3 => (spec_l20Writes v3.2 0).bind fun v5 => some (v3.1.1, v5.1, v3.1.2)
theorem ok_spec_DrawIndexed {a0 : List UInt8} {y : (List T_impl_Version) × (List T_impl_Write) × Int} (h : spec_DrawIndexed a0 = some y) : OK Tryz.prog 12 [A a0] (.tup [A y.1, A y.2.1, I y.2.2]) := by
 refine ow Tryz.func12 fun Γ hX => ?_
 unfold spec_DrawIndexed at h
 refine srve 19 [(0, A a0)] [] ?_
 refine srv 1 19 [(8, A a0)] [] ?_
 obtain ⟨v1, hv2, h⟩ := bindS h
 refine opsP_callO τ 9 (ok_spec_l20Open hv2) rfl (by kernel_rfl) ?_
 refine ve 1 19 [(5, .ptr 0 0 0)] [sc 0 v1] ?_
 refine srv 1 19 [(5, .ptr 0 0 0), (11, .ptr 0 0 0)] [sc 0 v1] ?_
 obtain ⟨v3, hv4, h⟩ := bindS h
 refine opsP_callB τ 12 0 0 (ok_spec_l20Versions hv4) (FzTo.tup (FzToL.cons (FzTo.O _) (FzToL.cons (FzTo.frz rfl) FzToL.nil))) rfl (by kernel_rfl) ?_
 refine ve 5 19 [(5, .ptr 0 0 0), (6, A v3.1.1), (7, I v3.1.2)] [sc 0 v3.2] ?_
 refine srv 2 19 [(7, I v3.1.2), (15, A v3.1.1), (16, .ptr 0 0 0)] [sc 0 v3.2] ?_
 obtain ⟨v5, hv6, h⟩ := bindS h
 refine cBo 17 0 0 (ok_spec_l20Writes hv6) ?_
 refine ve 4 19 [(2, A v3.1.1), (3, A v5.1), (4, I v3.1.2)] [sc 0 v5.2] ?_
 have h := si h
 subst h
 exact pwp_ret (rt (.tup [A v3.1.1, A v5.1, I v3.1.2]) (OutP.tup (OutL.cons (OutP.frz (by kernel_rfl)) (OutL.cons (OutP.frz (by kernel_rfl)) (OutL.cons (OutP.frz (by kernel_rfl)) (OutL.nil _))))))
def spec_IndexOf_R_j1 (a0 : List T_impl_Version) (x2 : Int) (x3 : List T_impl_Mark) (K5 : Int → (List T_impl_Mark) → Option (List T_impl_Mark)) (x6 : Bool) : Option (List T_impl_Mark) := bif x6 then (getI a0 x2).bind fun v8 => (spec_l31Value v8.fRow).bind fun v10 => (spec_l31Put x3 (T_impl_Mark.mk v10 v8.fKey v8.fBorn v8.fDied)).bind fun v12 => K5 (w64 (x2 + 1)) v12 else some x3
def spec_IndexOf_R_l0 (a0 : List T_impl_Version) : Nat → Int → (List T_impl_Mark) → Option (List T_impl_Mark)
 | 0, _, _ => none
 | f4 + 1, x2, x3 => bif (decide (x2 < (a0.length : Int))) then (spec_VersionsOk a0).bind fun v14 => spec_IndexOf_R_j1 a0 x2 x3 (spec_IndexOf_R_l0 a0 f4) v14 else spec_IndexOf_R_j1 a0 x2 x3 (spec_IndexOf_R_l0 a0 f4) false
def spec_IndexOf_R (a0 : List T_impl_Version) : Option (List T_impl_Mark) := spec_IndexOf_R_l0 a0 FUEL 0 ([] : List T_impl_Mark)
theorem ok_spec_IndexOf_R {a0 : List T_impl_Version} {y : List T_impl_Mark} (h : spec_IndexOf_R a0 = some y) : OK Tryz.prog 60 [A a0] (O y) := by
 refine ow Tryz.func60 fun Γ hX => ?_
 unfold spec_IndexOf_R at h
 refine srveM [5] 34 [(0, A a0)] [] ?_
 refine srveM [5] 34 [(0, A a0), (3, .arr 6 0 (eL ([] : List T_impl_Mark)) true)] [] ?_
 refine pwp_seq ?_
 refine srveM [5] 34 [(0, A a0), (3, .arr 6 0 (eL ([] : List T_impl_Mark)) true), (4, I 0)] [] ?_
 refine pwp_block ?_
 refine pwp_loop (ι := Nat × Int × (List T_impl_Mark)) (fun (f4, x2, x3) => (⟨34, [(0, A a0), (3, rf 0 0 6 x3), (4, I x2)], [sl 0 x3]⟩ : St)) (fun (f4, x2, x3) => spec_IndexOf_R_l0 a0 f4 x2 x3 = some y) Prod.fst (FUEL, 0, ([] : List T_impl_Mark)) h (Imp.thawS 3 [0, 3, 4] (by kernel_rfl)) ?_
 rintro ⟨f4, x2, x3⟩ h
 dsimp only at h ⊢
 rcases f4 with _ | f4
 cases h
 rw [spec_IndexOf_R_l0] at h
 refine pwp_seq ?_
 refine pwp_seq ?_
 refine pwp_join (σ := Bool) (fun x6 => (⟨34, [(0, A a0), (3, rf 0 0 6 x3), (4, I x2), (14, B x6)], [sl 0 x3]⟩ : St)) (fun x6 => spec_IndexOf_R_j1 a0 x2 x3 (spec_IndexOf_R_l0 a0 f4) x6 = some y) ?_ ?_
 refine rvM [5] 5 34 [(0, A a0), (3, rf 0 0 6 x3), (4, I x2), (11, B (decide (x2 < (a0.length : Int))))] [sl 0 x3] ?_
 rcases fk (decide (x2 < (a0.length : Int))) with hc16 | hc16
 replace h := bT hc16 h
 rw [hc16]
 refine vM [5] 1 34 [(0, A a0), (3, rf 0 0 6 x3), (4, I x2), (11, B true), (12, A a0)] [sl 0 x3] ?_
 obtain ⟨v14, hv15, h⟩ := bindS h
 refine cF 13 (ok_spec_VersionsOk hv15) ?_
 refine veM [5] 1 34 [(0, A a0), (3, rf 0 0 6 x3), (4, I x2), (12, A a0), (13, B v14), (14, B v14)] [sl 0 x3] ?_
 exact ⟨v14, h, it [0, 3, 4, 14]⟩
 replace h := bF hc16 h
 rw [hc16]
 refine veM [5] 3 34 [(0, A a0), (3, rf 0 0 6 x3), (4, I x2), (12, .lit undef), (13, .lit undef), (14, B false)] [sl 0 x3] ?_
 exact ⟨false, h, it [0, 3, 4, 14]⟩
 rintro x6 h
 unfold spec_IndexOf_R_j1 at h
 refine pc h (fun h => ?_) (fun h => ?_)
 refine pwp_skip ?_
 refine pwp_seq ?_
 refine pwp_block ?_
 refine srvM [5] 2 34 [(0, A a0), (3, rf 0 0 6 x3), (4, I x2), (17, A a0), (18, I x2)] [sl 0 x3] ?_
 obtain ⟨v8, hv9, h⟩ := bindS h
 refine opsP_idx τ_ok 19 hv9 (by kernel_rfl) ?_
 refine veM [5] 3 34 [(0, A a0), (3, rf 0 0 6 x3), (4, I x2), (5, .ptr 1 0 0)] [sl 0 x3, sc 0 v8] ?_
 refine ip 34 [(0, A a0), (3, rf 0 0 6 x3), (4, I x2), (5, .ptr 1 0 0)] [sl 0 x3, sc 0 v8] ?_
 refine pwp_imp (Imp.ghosts 1 (st' := ⟨34, [(0, A a0), (3, rf 0 0 6 x3), (4, I x2), (5, .ptr 1 0 0)], [sl 0 x3, sc 0 v8, some ⟨0, []⟩]⟩) (by kernel_rfl)) ?_
 refine pwp_any ([[0], [1], [1], [], [1], [1], [1], [1], [1], [1], [], [0, 2], [2]]) ([[], [], [], [], [], [], [], [], [], [], [], [2], []]) rfl (by kernel_rfl) ?_
 refine qvM [5] [0] (hL trivial) 1 34 [(21, rf 0 0 6 x3), (0, A a0), (3, rf 0 0 6 x3), (4, I x2), (5, .ptr 1 0 0)] [sl 0 x3, sc 0 v8, some ⟨0, []⟩] ?_
 refine qvM [5] [1] (hB trivial) 2 34 [(23, A v8.fRow), (21, rf 0 0 6 x3), (0, A a0), (3, rf 0 0 6 x3), (4, I x2), (5, .ptr 1 0 0)] [sl 0 x3, sc 0 v8, some ⟨0, []⟩] ?_
 obtain ⟨v10, hv11, h⟩ := bindS h
 refine qX (some 24) (E v10) 34 [(24, E v10), (21, rf 0 0 6 x3), (0, A a0), (3, rf 0 0 6 x3), (4, I x2), (5, .ptr 1 0 0)] [sl 0 x3, sc 0 v8, some ⟨0, []⟩] (fun Γ' hΓ => CoreE.of_g (callV_sound (τ := τ) (by kernel_rfl) rfl (ok_spec_l31Value hv11) (FzTo.frz rfl))) trivial ?_
 refine qvM [5] [1] (hB trivial) 6 34 [(30, I v8.fDied), (28, I v8.fBorn), (26, I v8.fKey), (24, E v10), (21, rf 0 0 6 x3), (0, A a0), (3, rf 0 0 6 x3), (4, I x2)] [sl 0 x3, sc 0 v8, some ⟨0, []⟩] ?_
 refine qvM [5] [] trivial 1 34 [(31, E (T_impl_Mark.mk v10 v8.fKey v8.fBorn v8.fDied)), (21, rf 0 0 6 x3), (0, A a0), (3, rf 0 0 6 x3), (4, I x2)] [sl 0 x3, sc 0 v8, some ⟨0, []⟩] ?_
 obtain ⟨v12, hv13, h⟩ := bindS h
 refine qX (some 32) (rf 2 1 6 v12) 34 [(32, rf 2 1 6 v12), (0, A a0), (3, rf 0 0 6 x3), (4, I x2)] [sl 0 x3, sc 0 v8, sl 1 v12] (fun Γ' hΓ => callVK_E (xs := [rf 0 0 6 x3, E (T_impl_Mark.mk v10 v8.fKey v8.fBorn v8.fDied)]) τ 32 2 1 (ny hΓ hX) (Nat.le_of_ble_eq_true (by kernel_rfl)) (fun _ => ⟨_, rfl, Nat.lt_succ_self _⟩) (ok_spec_l31Put hv13) (Blind.O (fun _ => rfl) _) (by kernel_rfl) (ViewL.cons (View.whole (v := 0) x3 (by kernel_rfl) rfl) (ViewL.cons (View.frz rfl) (ViewL.nil _)))) (hL (hL trivial)) ?_
 refine qvnM [5] [2] (hL trivial) 1 34 [(0, A a0), (3, rf 2 1 6 v12), (4, I x2)] [sl 0 x3, sc 0 v8, sl 1 v12] ?_
 refine rveM [5] 34 [(0, A a0), (3, rf 2 1 6 v12), (4, I (w64 (x2 + 1)))] [sl 0 x3, sc 0 v8, sl 1 v12] ?_
 exact ⟨(f4, (w64 (x2 + 1)), v12), h, Nat.lt_succ_self _, qt (it (st' := ⟨34, [(0, A a0), (3, rf 2 1 6 v12), (4, I (w64 (x2 + 1)))], [sl 0 x3, sc 0 v8, sl 1 v12]⟩) [0, 3, 4]) (qt (Imp.hideS (st' := ⟨34, [(0, A a0), (3, rf 2 1 6 v12), (4, I (w64 (x2 + 1)))], [none, sc 0 v8, sl 1 v12]⟩) 0 (nx hX) (by kernel_rfl)) (qt (Imp.mvS (st' := ⟨34, [(0, A a0), (3, rf 0 1 6 v12), (4, I (w64 (x2 + 1)))], [sl 1 v12, sc 0 v8, none]⟩) 2 0 [0, 3, 4] (nx hX) (v := 1) (cs := eL v12) (by kernel_rfl) (by kernel_rfl) (by exact (And.intro (rfl) (And.intro (eL_frz _) trivial))) (by kernel_rfl) (by kernel_rfl)) (qt (Imp.truncS (st' := ⟨34, [(0, A a0), (3, rf 0 1 6 v12), (4, I (w64 (x2 + 1)))], [sl 1 v12]⟩) 1 (nx hX) (by kernel_rfl) (allBelow_mem (by exact (And.intro rfl (And.intro rfl (And.intro rfl trivial))))) (by exact (And.intro (frz_below (eL_frz _)) trivial)) (by kernel_rfl)) (Imp.reverS 0 1 (eL v12) [0, 3, 4] (by kernel_rfl) (by exact (And.intro (eL_frz _) trivial)) (by kernel_rfl)))))⟩
 refine pwp_exit ?_
 refine srveM [5] 34 [(2, rf 0 0 6 x3)] [sl 0 x3] ?_
 have h := si h
 subst h
 exact pwp_ret (rt (rf 0 0 6 x3) (OutP.list (v := 0) (by kernel_rfl)))
def spec_l20Index_j0 (v1 : ((List T_impl_Version) × Int) × T_spec_l20Rd) (x5 : T_spec_l20Rd) (x6 : List T_impl_Mark) : Option (((List T_impl_Mark) × Int) × T_spec_l20Rd) := some ((x6, v1.1.2), x5)
def spec_l20Index_j1 (v1 : ((List T_impl_Version) × Int) × T_spec_l20Rd) (v3 : List T_impl_Mark) (x7 : Bool) (x8 : T_spec_l20Rd) : Option (((List T_impl_Mark) × Int) × T_spec_l20Rd) := bif x7 then (spec_l20Rd_pick x8 (v3.length : Int)).bind fun v10 => (spec_l20Rd_pick v10.2 3).bind fun v12 => bif (v12.1 == 0) then (spec_l20Rd_pick v12.2 9).bind fun v15 => (getI v3 v10.1).bind fun v17 => spec_l20Index_j0 v1 v15.2 (v3.set v10.1.toNat ({ v17 with fDied := v15.1 } : T_impl_Mark)) else bif (v12.1 == 1) then (spec_l20Value v12.2 2).bind fun v20 => (getI v3 v10.1).bind fun v22 => spec_l20Index_j0 v1 v20.2 (v3.set v10.1.toNat ({ v22 with fV := v20.1 } : T_impl_Mark)) else (getI v3 v10.1).bind fun v24 => (app v3 ([v24] : List T_impl_Mark)).bind fun v26 => spec_l20Index_j0 v1 v12.2 v26 else spec_l20Index_j0 v1 x8 v3
def spec_l20Index (a0 : T_spec_l20Rd) (a1 : Int) : Option (((List T_impl_Mark) × Int) × T_spec_l20Rd) := (spec_l20Versions a0 0).bind fun v1 => (spec_IndexOf_R v1.1.1).bind fun v3 => bif (decide ((v3.length : Int) > 0)) then (spec_l20Rd_odd v1.2 a1).bind fun v28 => spec_l20Index_j1 v1 v3 v28.1 v28.2 else spec_l20Index_j1 v1 v3 false v1.2
theorem ok_spec_l20Index {a0 : T_spec_l20Rd} {a1 : Int} {y : ((List T_impl_Mark) × Int) × T_spec_l20Rd} (h : spec_l20Index a0 a1 = some y) : OKb Tryz.prog 22 (Enc.cells a0) [I a1] (.tup [O y.1.1, I y.1.2]) (Enc.cells y.2) := by
 refine OKb_of_pwp τ_ok Tryz.func22 rfl (by kernel_rfl) rfl (Enc.frz _) (Enc.frz _) fun Γ hQ => ?_
 unfold spec_l20Index at h
 refine srve 56 [(0, .ptr 0 0 0), (1, I a1)] [sc 0 a0] ?_
 refine srv 1 56 [(0, .ptr 0 0 0), (1, I a1), (11, .ptr 0 0 0)] [sc 0 a0] ?_
 obtain ⟨v1, hv2, h⟩ := bindS h
 refine opsP_callB τ 12 0 0 (ok_spec_l20Versions hv2) (FzTo.tup (FzToL.cons (FzTo.O _) (FzToL.cons (FzTo.frz rfl) FzToL.nil))) rfl (by kernel_rfl) ?_
 refine ve 5 56 [(0, .ptr 0 0 0), (1, I a1), (6, A v1.1.1), (7, I v1.1.2)] [sc 0 v1.2] ?_
 refine srv 1 56 [(0, .ptr 0 0 0), (1, I a1), (7, I v1.1.2), (15, A v1.1.1)] [sc 0 v1.2] ?_
 obtain ⟨v3, hv4, h⟩ := bindS h
 refine opsP_callO τ 16 (ok_spec_IndexOf_R hv4) rfl (by kernel_rfl) ?_
 refine ve 1 56 [(0, .ptr 0 0 0), (1, I a1), (7, I v1.1.2), (8, rf 1 0 6 v3)] [sc 0 v1.2, sl 0 v3] ?_
 refine pwp_seq ?_
 refine pwp_join (σ := T_spec_l20Rd × (List T_impl_Mark)) (fun (x5, x6) => (⟨56, [(7, I v1.1.2), (8, rf 1 0 6 x6)], [sc 0 x5, sl 0 x6]⟩ : St)) (fun (x5, x6) => spec_l20Index_j0 v1 x5 x6 = some y) ?_ ?_
 refine pwp_seq ?_
 refine pwp_join (σ := Bool × T_spec_l20Rd) (fun (x7, x8) => (⟨56, [(0, .ptr 0 0 0), (7, I v1.1.2), (8, rf 1 0 6 v3), (24, B x7)], [sc 0 x8, sl 0 v3]⟩ : St)) (fun (x7, x8) => spec_l20Index_j1 v1 v3 x7 x8 = some y) ?_ ?_
 refine rv 4 56 [(0, .ptr 0 0 0), (1, I a1), (7, I v1.1.2), (8, rf 1 0 6 v3), (20, B (decide ((v3.length : Int) > 0)))] [sc 0 v1.2, sl 0 v3] ?_
 rcases fk (decide ((v3.length : Int) > 0)) with hc30 | hc30
 replace h := bT hc30 h
 rw [hc30]
 refine v 2 56 [(0, .ptr 0 0 0), (7, I v1.1.2), (8, rf 1 0 6 v3), (20, B true), (21, .ptr 0 0 0), (22, I a1)] [sc 0 v1.2, sl 0 v3] ?_
 obtain ⟨v28, hv29, h⟩ := bindS h
 refine cB 23 0 0 (ok_spec_l20Rd_odd hv29) ?_
 refine ve 1 56 [(0, .ptr 0 0 0), (7, I v1.1.2), (8, rf 1 0 6 v3), (24, B v28.1)] [sc 0 v28.2, sl 0 v3] ?_
 exact ⟨(v28.1, v28.2), h, it [0, 7, 8, 24]⟩
 replace h := bF hc30 h
 rw [hc30]
 refine ve 4 56 [(0, .ptr 0 0 0), (7, I v1.1.2), (8, rf 1 0 6 v3), (24, B false)] [sc 0 v1.2, sl 0 v3] ?_
 exact ⟨(false, v1.2), h, it [0, 7, 8, 24]⟩
 rintro ⟨x7, x8⟩ h
 dsimp only at h ⊢
 unfold spec_l20Index_j1 at h
 refine pc h (fun h => ?_) (fun h => ?_)
 refine srv 3 56 [(0, .ptr 0 0 0), (7, I v1.1.2), (8, rf 1 0 6 v3), (25, .ptr 0 0 0), (27, I (v3.length : Int))] [sc 0 x8, sl 0 v3] ?_
 obtain ⟨v10, hv11, h⟩ := bindS h
 refine cB 28 0 0 (ok_spec_l20Rd_pick hv11) ?_
 refine ve 1 56 [(0, .ptr 0 0 0), (7, I v1.1.2), (8, rf 1 0 6 v3), (9, I v10.1)] [sc 0 v10.2, sl 0 v3] ?_
 refine srv 1 56 [(0, .ptr 0 0 0), (7, I v1.1.2), (8, rf 1 0 6 v3), (9, I v10.1), (29, .ptr 0 0 0)] [sc 0 v10.2, sl 0 v3] ?_
 obtain ⟨v12, hv13, h⟩ := bindS h
 refine cB 30 0 0 (ok_spec_l20Rd_pick hv13) ?_
 refine ve 0 56 [(0, .ptr 0 0 0), (7, I v1.1.2), (8, rf 1 0 6 v3), (9, I v10.1), (30, I v12.1)] [sc 0 v12.2, sl 0 v3] ?_
 refine pwp_block ?_
 refine srve 56 [(0, .ptr 0 0 0), (7, I v1.1.2), (8, rf 1 0 6 v3), (9, I v10.1), (30, I v12.1), (38, B (v12.1 == 0))] [sc 0 v12.2, sl 0 v3] ?_
 refine pc h (fun h => ?_) (fun h => ?_)
 refine rv 3 56 [(7, I v1.1.2), (8, rf 1 0 6 v3), (40, rf 1 0 6 v3), (41, I v10.1), (42, .ptr 0 0 0)] [sc 0 v12.2, sl 0 v3] ?_
 obtain ⟨v15, hv16, h⟩ := bindS h
 refine cB 43 0 0 (ok_spec_l20Rd_pick hv16) ?_
 obtain ⟨v17, hv18, h⟩ := bindS h
 refine opsP_idr τ_ok 44 1 0 v3.length hv18 rfl (by kernel_rfl) ?_
 refine v 1 56 [(7, I v1.1.2), (8, rf 1 0 6 v3), (43, I v15.1), (45, .ptr 1 0 (v10.1.toNat * 6 + 5))] [sc 0 v15.2, sl 0 v3] ?_
 refine opsP_ste (vs := [I v15.1]) τ_ok 3 1 0 5 ({ v17 with fDied := v15.1 } : T_impl_Mark) hv18 (by kernel_rfl) (by kernel_rfl) (by kernel_rfl) (renC trivial (renC (ren_ref (List.length_set ..).symm) (renC trivial (renC trivial renC0)))) ?_
 refine ve 0 56 [(7, I v1.1.2), (8, .ref 1 0 0 6 (v3.set v10.1.toNat ({ v17 with fDied := v15.1 } : T_impl_Mark)).length false)] [sc 0 v15.2, some ⟨0, eL (v3.set v10.1.toNat ({ v17 with fDied := v15.1 } : T_impl_Mark))⟩] ?_
 exact ⟨(v15.2, (v3.set v10.1.toNat ({ v17 with fDied := v15.1 } : T_impl_Mark))), h, it [7, 8]⟩
 refine srve 56 [(0, .ptr 0 0 0), (7, I v1.1.2), (8, rf 1 0 6 v3), (9, I v10.1), (46, B (v12.1 == 1))] [sc 0 v12.2, sl 0 v3] ?_
 refine pc h (fun h => ?_) (fun h => ?_)
 refine rv 3 56 [(7, I v1.1.2), (8, rf 1 0 6 v3), (48, rf 1 0 6 v3), (49, I v10.1), (50, .ptr 0 0 0)] [sc 0 v12.2, sl 0 v3] ?_
 obtain ⟨v20, hv21, h⟩ := bindS h
 refine cB 51 0 0 (ok_spec_l20Value hv21) ?_
 obtain ⟨v22, hv23, h⟩ := bindS h
 refine opsP_idr τ_ok 52 1 0 v3.length hv23 rfl (by kernel_rfl) ?_
 refine v 1 56 [(7, I v1.1.2), (8, rf 1 0 6 v3), (51, E v20.1), (53, .ptr 1 0 (v10.1.toNat * 6))] [sc 0 v20.2, sl 0 v3] ?_
 refine opsP_ste (vs := [I v20.1.fKind, I v20.1.fN, S v20.1.fS]) τ_ok 30 1 0 0 ({ v22 with fV := v20.1 } : T_impl_Mark) hv23 (by kernel_rfl) (by kernel_rfl) (by kernel_rfl) (renC trivial (renC (ren_ref (List.length_set ..).symm) (renC trivial (renC trivial renC0)))) ?_
 refine ve 0 56 [(7, I v1.1.2), (8, .ref 1 0 0 6 (v3.set v10.1.toNat ({ v22 with fV := v20.1 } : T_impl_Mark)).length false)] [sc 0 v20.2, some ⟨0, eL (v3.set v10.1.toNat ({ v22 with fV := v20.1 } : T_impl_Mark))⟩] ?_
 exact ⟨(v20.2, (v3.set v10.1.toNat ({ v22 with fV := v20.1 } : T_impl_Mark))), h, it [7, 8]⟩
 refine rv 3 56 [(7, I v1.1.2), (31, rf 1 0 6 v3), (32, rf 1 0 6 v3), (33, I v10.1)] [sc 0 v12.2, sl 0 v3] ?_
 obtain ⟨v24, hv25, h⟩ := bindS h
 refine opsP_idr τ_ok 34 1 0 v3.length hv25 rfl (by kernel_rfl) ?_
 refine opsP_lde (r := E v24) τ_ok 35 61 0 hv25 (by kernel_rfl) (by kernel_rfl) ?_
 refine v 1 56 [(7, I v1.1.2), (31, rf 1 0 6 v3), (36, .arr 6 ([v24] : List T_impl_Mark).length (eL ([v24] : List T_impl_Mark)) true)] [sc 0 v12.2, sl 0 v3] ?_
 obtain ⟨v26, hv27, h⟩ := bindS h
 refine opsP_app τ_ok 37 1 0 (pn hQ) hv27 (by kernel_rfl) ?_
 refine ve 1 56 [(7, I v1.1.2), (8, rf 1 1 6 v26)] [sc 0 v12.2, sl 1 v26] ?_
 exact ⟨(v12.2, v26), h, (it (st' := ⟨56, [(7, I v1.1.2), (8, rf 1 1 6 v26)], [sc 0 v12.2, sl 1 v26]⟩) [7, 8]).trans (Imp.reverS 1 1 (eL v26) [7, 8] (by kernel_rfl) (by exact (And.intro (rfl) (And.intro (eL_frz _) trivial))) (by kernel_rfl))⟩
 refine pwp_skip ?_
 exact ⟨(x8, v3), h, it [7, 8]⟩
 rintro ⟨x5, x6⟩ h
 dsimp only at h ⊢
 unfold spec_l20Index_j0 at h
 refine srve 56 [(4, rf 1 0 6 x6), (5, I v1.1.2)] [sc 0 x5, sl 0 x6] ?_
 have h := si h
 subst h
 exact pwp_ret ⟨.inr rfl, .tup [rf 1 0 6 x6, I v1.1.2], _, 0, by kernel_rfl, (OutP.tup (OutL.cons (OutP.list (v := 0) (by kernel_rfl)) (OutL.cons (OutP.frz (by kernel_rfl)) (OutL.nil _)))), by decide, by decide, by kernel_rfl⟩
def spec_DrawIndexSwept (a0 : List UInt8) : Option ((List T_impl_Mark) × Int) := (spec_l20Open a0).bind fun v1 => (spec_l20Index v1 15).bind fun v3 => (spec_l20Rd_pick v3.2 (w64 (v3.1.2 + 2))).bind fun v5 => some (v3.1.1, v5.1)
theorem ok_spec_DrawIndexSwept {a0 : List UInt8} {y : (List T_impl_Mark) × Int} (h : spec_DrawIndexSwept a0 = some y) : OK Tryz.prog 5 [A a0] (.tup [A y.1, I y.2]) := by
 refine ow Tryz.func5 fun Γ hX => ?_
 unfold spec_DrawIndexSwept at h
 refine srve 19 [(0, A a0)] [] ?_
 refine srv 1 19 [(7, A a0)] [] ?_
 obtain ⟨v1, hv2, h⟩ := bindS h
 refine opsP_callO τ 8 (ok_spec_l20Open hv2) rfl (by kernel_rfl) ?_
 refine ve 1 19 [(4, .ptr 0 0 0)] [sc 0 v1] ?_
 refine srv 1 19 [(4, .ptr 0 0 0), (10, .ptr 0 0 0)] [sc 0 v1] ?_
 obtain ⟨v3, hv4, h⟩ := bindS h
 refine opsP_callB τ 11 0 0 (ok_spec_l20Index hv4) (FzTo.tup (FzToL.cons (FzTo.O _) (FzToL.cons (FzTo.frz rfl) FzToL.nil))) rfl (by kernel_rfl) ?_
 refine ve 5 19 [(4, .ptr 0 0 0), (5, A v3.1.1), (6, I v3.1.2)] [sc 0 v3.2] ?_
 refine srv 4 19 [(14, A v3.1.1), (15, .ptr 0 0 0), (17, I (w64 (v3.1.2 + 2)))] [sc 0 v3.2] ?_
 obtain ⟨v5, hv6, h⟩ := bindS h
 refine cB 18 0 0 (ok_spec_l20Rd_pick hv6) ?_
 refine ve 2 19 [(2, A v3.1.1), (3, I v5.1)] [sc 0 v5.2] ?_
 have h := si h
 subst h
 exact pwp_ret (rt (.tup [A v3.1.1, I v5.1]) (OutP.tup (OutL.cons (OutP.frz (by kernel_rfl)) (OutL.cons (OutP.frz (by kernel_rfl)) (OutL.nil _)))))
noncomputable def laws_FnIndexSwept_l2 (v2 : (List T_impl_Mark) × Int) (v4 : List T_impl_Mark) (x11 : Int) (K13 : Int → Option Bool) : Nat → Int → Option Bool
 | 0, _ => none
 | f17 + 1, x16 => bif (decide (x16 < 5)) then (impl_IndexFind v4 (T_impl_Value.mk 1 x16 (ByteArray.mk #[])) x11).bind fun v20 => (impl_IndexFind v2.1 (T_impl_Value.mk 1 x16 (ByteArray.mk #[])) x11).bind fun v22 => (laws_sameInts v20 v22).bind fun v24 => bif (!v24) then some false else (laws_FnIndexSwept_l2 v2 v4 x11 K13 f17) (w64 (x16 + 1)) else K13 (w64 (x11 + 1))
noncomputable def laws_FnIndexSwept_j1 (a0 : List UInt8) (v2 : (List T_impl_Mark) × Int) (v4 : List T_impl_Mark) (x11 : Int) (K13 : Int → Option Bool) (x14 : Bool) : Option Bool := bif x14 then laws_FnIndexSwept_l2 v2 v4 x11 K13 FUEL 0 else (spec_DrawIndexed a0).bind fun v27 => (impl_IndexOf v27.1).bind fun v29 => (impl_IndexSwept v29 v2.2).bind fun v31 => (impl_SweptAt v27.1 v2.2).bind fun v33 => (impl_IndexOf v33).bind fun v35 => (laws_sameMarks v31 v35).bind fun v37 => bif v37 then (laws_alive).bind fun v39 => some v39 else some false
noncomputable def laws_FnIndexSwept_l0 (a0 : List UInt8) (v2 : (List T_impl_Mark) × Int) (v4 : List T_impl_Mark) : Nat → Int → Option Bool
 | 0, _ => none
 | f12 + 1, x11 => bif (decide (x11 ≤ 40)) then (impl_IndexOk v2.1).bind fun v42 => laws_FnIndexSwept_j1 a0 v2 v4 x11 (laws_FnIndexSwept_l0 a0 v2 v4 f12) v42 else laws_FnIndexSwept_j1 a0 v2 v4 x11 (laws_FnIndexSwept_l0 a0 v2 v4 f12) false
noncomputable def laws_FnIndexSwept (a0 : List UInt8) : Option Bool := bif (decide ((a0.length : Int) > 1048576)) then some true else (spec_DrawIndexSwept a0).bind fun v2 => (impl_IndexSwept v2.1 v2.2).bind fun v4 => (spec_IndexSwept v2.1 v2.2).bind fun v6 => (laws_sameMarks v4 v6).bind fun v8 => bif (!v8) then some false else laws_FnIndexSwept_l0 a0 v2 v4 FUEL v2.2
theorem ok_laws_FnIndexSwept {a0 : List UInt8} {y : Bool} (h : laws_FnIndexSwept a0 = some y) : OK Tryz.prog 3 [A a0] (B y) := by
 refine ow Tryz.func3 fun Γ hX => ?_
 unfold laws_FnIndexSwept at h
 refine srveM [8] 72 [(0, A a0)] [] ?_
 refine pwp_seq ?_
 refine srveM [8] 72 [(0, A a0), (14, B (decide ((a0.length : Int) > 1048576)))] [] ?_
 refine pc h (fun h => ?_) (fun h => ?_)
 refine srveM [8] 72 [(2, B true)] [] ?_
 cases h
 exact pwp_ret rz
 refine pwp_skip ?_
 refine srvM [8] 1 72 [(0, A a0), (16, A a0)] [] ?_
 obtain ⟨v2, hv3, h⟩ := bindS h
 refine opsP_callF τ 17 (ok_spec_DrawIndexSwept hv3) (FzTo.tup (FzToL.cons (FzTo.frz rfl) (FzToL.cons (FzTo.frz rfl) FzToL.nil))) rfl (by kernel_rfl) ?_
 refine veM [8] 5 72 [(0, A a0), (3, A v2.1), (4, I v2.2)] [] ?_
 refine srvM [8] 2 72 [(0, A a0), (3, A v2.1), (4, I v2.2), (20, A v2.1), (21, I v2.2)] [] ?_
 obtain ⟨v4, hv5, h⟩ := bindS h
 refine cF 22 (ok_impl_IndexSwept hv5) ?_
 refine veM [8] 1 72 [(0, A a0), (3, A v2.1), (4, I v2.2), (5, A v4)] [] ?_
 refine pwp_seq ?_
 refine srvM [8] 3 72 [(0, A a0), (3, A v2.1), (4, I v2.2), (5, A v4), (23, A v4), (24, A v2.1), (25, I v2.2)] [] ?_
 obtain ⟨v6, hv7, h⟩ := bindS h
 refine cFo 26 (ok_spec_IndexSwept hv7) ?_
 obtain ⟨v8, hv9, h⟩ := bindS h
 refine cF 27 (ok_laws_sameMarks hv9) ?_
 refine veM [8] 1 72 [(0, A a0), (3, A v2.1), (4, I v2.2), (5, A v4), (28, B (!v8))] [] ?_
 refine pc h (fun h => ?_) (fun h => ?_)
 refine srveM [8] 72 [(2, B false)] [] ?_
 cases h
 exact pwp_ret rz
 refine pwp_skip ?_
 refine pwp_seq ?_
 refine srveM [8] 72 [(0, A a0), (3, A v2.1), (4, I v2.2), (5, A v4), (6, I v2.2)] [] ?_
 refine pwp_block ?_
 refine pwp_loop (ι := Nat × Int) (fun (f12, x11) => (⟨72, [(0, A a0), (3, A v2.1), (4, I v2.2), (5, A v4), (6, I x11)], []⟩ : St)) (fun (f12, x11) => laws_FnIndexSwept_l0 a0 v2 v4 f12 x11 = some y) Prod.fst (FUEL, v2.2) h (it [0, 3, 4, 5, 6]) ?_
 rintro ⟨f12, x11⟩ h
 dsimp only at h ⊢
 rcases f12 with _ | f12
 cases h
 rw [laws_FnIndexSwept_l0] at h
 refine pwp_seq ?_
 refine pwp_seq ?_
 refine pwp_join (σ := Bool) (fun x14 => (⟨72, [(0, A a0), (3, A v2.1), (4, I v2.2), (5, A v4), (6, I x11), (35, B x14)], []⟩ : St)) (fun x14 => laws_FnIndexSwept_j1 a0 v2 v4 x11 (laws_FnIndexSwept_l0 a0 v2 v4 f12) x14 = some y) ?_ ?_
 refine rvM [8] 3 72 [(0, A a0), (3, A v2.1), (4, I v2.2), (5, A v4), (6, I x11), (32, B (decide (x11 ≤ 40)))] [] ?_
 rcases fk (decide (x11 ≤ 40)) with hc44 | hc44
 replace h := bT hc44 h
 rw [hc44]
 refine vM [8] 1 72 [(0, A a0), (3, A v2.1), (4, I v2.2), (5, A v4), (6, I x11), (32, B true), (33, A v2.1)] [] ?_
 obtain ⟨v42, hv43, h⟩ := bindS h
 refine cF 34 (ok_impl_IndexOk hv43) ?_
 refine veM [8] 1 72 [(0, A a0), (3, A v2.1), (4, I v2.2), (5, A v4), (6, I x11), (33, A v2.1), (34, B v42), (35, B v42)] [] ?_
 exact ⟨v42, h, it [0, 3, 4, 5, 6, 35]⟩
 replace h := bF hc44 h
 rw [hc44]
 refine veM [8] 3 72 [(0, A a0), (3, A v2.1), (4, I v2.2), (5, A v4), (6, I x11), (33, .lit undef), (34, .lit undef), (35, B false)] [] ?_
 exact ⟨false, h, it [0, 3, 4, 5, 6, 35]⟩
 rintro x14 h
 unfold laws_FnIndexSwept_j1 at h
 refine pc h (fun h => ?_) (fun h => ?_)
 refine pwp_skip ?_
 refine pwp_seq ?_
 refine pwp_block ?_
 refine srveM [8] 72 [(0, A a0), (3, A v2.1), (4, I v2.2), (5, A v4), (6, I x11), (7, I 0)] [] ?_
 refine pwp_block ?_
 refine pwp_loop (ι := Nat × Int) (fun (f17, x16) => (⟨72, [(0, A a0), (3, A v2.1), (4, I v2.2), (5, A v4), (6, I x11), (7, I x16)], []⟩ : St)) (fun (f17, x16) => laws_FnIndexSwept_l2 v2 v4 x11 (laws_FnIndexSwept_l0 a0 v2 v4 f12) f17 x16 = some y) Prod.fst (FUEL, 0) h (it [0, 3, 4, 5, 6, 7]) ?_
 rintro ⟨f17, x16⟩ h
 dsimp only at h ⊢
 rcases f17 with _ | f17
 cases h
 rw [laws_FnIndexSwept_l2] at h
 refine pwp_seq ?_
 refine srveM [8] 72 [(0, A a0), (3, A v2.1), (4, I v2.2), (5, A v4), (6, I x11), (7, I x16), (39, B (decide (x16 < 5)))] [] ?_
 refine pc h (fun h => ?_) (fun h => ?_)
 refine pwp_skip ?_
 refine pwp_seq ?_
 refine pwp_block ?_
 refine srveM [8] 72 [(0, A a0), (3, A v2.1), (4, I v2.2), (5, A v4), (6, I x11), (7, I x16), (8, .ptr 0 0 0)] [some ⟨0, Enc.cells (T_impl_Value.mk 1 x16 (ByteArray.mk #[]))⟩] ?_
 refine pwp_seq ?_
 refine ip 72 [(0, A a0), (3, A v2.1), (4, I v2.2), (5, A v4), (6, I x11), (7, I x16), (8, .ptr 0 0 0)] [some ⟨0, Enc.cells (T_impl_Value.mk 1 x16 (ByteArray.mk #[]))⟩] ?_
 refine pwp_any ([[], [0], [], [], [], [0], [], [], [], []]) ([[], [], [], [], [], [], [], [], [], []]) rfl (by kernel_rfl) ?_
 refine qvM [8] [] trivial 1 72 [(44, A v4), (0, A a0), (3, A v2.1), (4, I v2.2), (5, A v4), (6, I x11), (7, I x16), (8, .ptr 0 0 0)] [some ⟨0, Enc.cells (T_impl_Value.mk 1 x16 (ByteArray.mk #[]))⟩] ?_
 refine qvM [8] [0] (hB trivial) 1 72 [(45, E (T_impl_Value.mk 1 x16 (ByteArray.mk #[]))), (44, A v4), (0, A a0), (3, A v2.1), (4, I v2.2), (5, A v4), (6, I x11), (7, I x16), (8, .ptr 0 0 0)] [some ⟨0, Enc.cells (T_impl_Value.mk 1 x16 (ByteArray.mk #[]))⟩] ?_
 refine qvM [8] [] trivial 1 72 [(46, I x11), (45, E (T_impl_Value.mk 1 x16 (ByteArray.mk #[]))), (44, A v4), (0, A a0), (3, A v2.1), (4, I v2.2), (5, A v4), (6, I x11), (7, I x16), (8, .ptr 0 0 0)] [some ⟨0, Enc.cells (T_impl_Value.mk 1 x16 (ByteArray.mk #[]))⟩] ?_
 obtain ⟨v20, hv21, h⟩ := bindS h
 refine qX (some 47) (A v20) 72 [(47, A v20), (0, A a0), (3, A v2.1), (4, I v2.2), (5, A v4), (6, I x11), (7, I x16), (8, .ptr 0 0 0)] [some ⟨0, Enc.cells (T_impl_Value.mk 1 x16 (ByteArray.mk #[]))⟩] (fun Γ' hΓ => CoreE.of_g (callV_sound (τ := τ) (by kernel_rfl) rfl (ok_impl_IndexFind hv21) (FzTo.frz rfl))) trivial ?_
 refine qvM [8] [] trivial 1 72 [(48, A v2.1), (47, A v20), (0, A a0), (3, A v2.1), (4, I v2.2), (5, A v4), (6, I x11), (7, I x16), (8, .ptr 0 0 0)] [some ⟨0, Enc.cells (T_impl_Value.mk 1 x16 (ByteArray.mk #[]))⟩] ?_
 refine qvM [8] [0] (hB trivial) 1 72 [(49, E (T_impl_Value.mk 1 x16 (ByteArray.mk #[]))), (48, A v2.1), (47, A v20), (0, A a0), (3, A v2.1), (4, I v2.2), (5, A v4), (6, I x11), (7, I x16)] [some ⟨0, Enc.cells (T_impl_Value.mk 1 x16 (ByteArray.mk #[]))⟩] ?_
 refine qvM [8] [] trivial 1 72 [(50, I x11), (49, E (T_impl_Value.mk 1 x16 (ByteArray.mk #[]))), (48, A v2.1), (47, A v20), (0, A a0), (3, A v2.1), (4, I v2.2), (5, A v4), (6, I x11), (7, I x16)] [some ⟨0, Enc.cells (T_impl_Value.mk 1 x16 (ByteArray.mk #[]))⟩] ?_
 obtain ⟨v22, hv23, h⟩ := bindS h
 refine qX (some 51) (A v22) 72 [(51, A v22), (47, A v20), (0, A a0), (3, A v2.1), (4, I v2.2), (5, A v4), (6, I x11), (7, I x16)] [some ⟨0, Enc.cells (T_impl_Value.mk 1 x16 (ByteArray.mk #[]))⟩] (fun Γ' hΓ => CoreE.of_g (callV_sound (τ := τ) (by kernel_rfl) rfl (ok_impl_IndexFind hv23) (FzTo.frz rfl))) trivial ?_
 obtain ⟨v24, hv25, h⟩ := bindS h
 refine qX (some 52) (B v24) 72 [(52, B v24), (0, A a0), (3, A v2.1), (4, I v2.2), (5, A v4), (6, I x11), (7, I x16)] [some ⟨0, Enc.cells (T_impl_Value.mk 1 x16 (ByteArray.mk #[]))⟩] (fun Γ' hΓ => CoreE.of_g (callV_sound (τ := τ) (by kernel_rfl) rfl (ok_laws_sameInts hv25) (FzTo.frz rfl))) trivial ?_
 refine qvnM [8] [] trivial 1 72 [(0, A a0), (3, A v2.1), (4, I v2.2), (5, A v4), (6, I x11), (7, I x16), (53, B (!v24))] [some ⟨0, Enc.cells (T_impl_Value.mk 1 x16 (ByteArray.mk #[]))⟩] ?_
 refine pc h (fun h => ?_) (fun h => ?_)
 refine srveM [8] 72 [(2, B false)] [some ⟨0, Enc.cells (T_impl_Value.mk 1 x16 (ByteArray.mk #[]))⟩] ?_
 cases h
 exact pwp_ret rz
 refine pwp_skip ?_
 refine rveM [8] 72 [(0, A a0), (3, A v2.1), (4, I v2.2), (5, A v4), (6, I x11), (7, I (w64 (x16 + 1)))] [some ⟨0, Enc.cells (T_impl_Value.mk 1 x16 (ByteArray.mk #[]))⟩] ?_
 exact ⟨(f17, (w64 (x16 + 1))), h, Nat.lt_succ_self _, (it (st' := ⟨72, [(0, A a0), (3, A v2.1), (4, I v2.2), (5, A v4), (6, I x11), (7, I (w64 (x16 + 1)))], [some ⟨0, Enc.cells (T_impl_Value.mk 1 x16 (ByteArray.mk #[]))⟩]⟩) [0, 3, 4, 5, 6, 7]).trans (Imp.truncS 0 (nx hX) (by kernel_rfl) (allBelow_mem (by exact (And.intro rfl (And.intro rfl (And.intro rfl (And.intro rfl (And.intro rfl (And.intro rfl trivial)))))))) (by exact trivial) (by kernel_rfl))⟩
 refine pwp_exit ?_
 refine rveM [8] 72 [(0, A a0), (3, A v2.1), (4, I v2.2), (5, A v4), (6, I (w64 (x11 + 1)))] [] ?_
 exact ⟨(f12, (w64 (x11 + 1))), h, Nat.lt_succ_self _, it [0, 3, 4, 5, 6]⟩
 refine pwp_exit ?_
 refine srvM [8] 1 72 [(4, I v2.2), (55, A a0)] [] ?_
 obtain ⟨v27, hv28, h⟩ := bindS h
 refine opsP_callF τ 56 (ok_spec_DrawIndexed hv28) (FzTo.tup (FzToL.cons (FzTo.frz rfl) (FzToL.cons (FzTo.frz rfl) (FzToL.cons (FzTo.frz rfl) FzToL.nil)))) rfl (by kernel_rfl) ?_
 refine veM [8] 7 72 [(4, I v2.2), (9, A v27.1)] [] ?_
 refine srvM [8] 1 72 [(4, I v2.2), (9, A v27.1), (60, A v27.1)] [] ?_
 obtain ⟨v29, hv30, h⟩ := bindS h
 refine cF 61 (ok_impl_IndexOf hv30) ?_
 refine vM [8] 1 72 [(4, I v2.2), (9, A v27.1), (61, A v29), (62, I v2.2)] [] ?_
 obtain ⟨v31, hv32, h⟩ := bindS h
 refine cF 63 (ok_impl_IndexSwept hv32) ?_
 refine vM [8] 2 72 [(63, A v31), (64, A v27.1), (65, I v2.2)] [] ?_
 obtain ⟨v33, hv34, h⟩ := bindS h
 refine cF 66 (ok_impl_SweptAt hv34) ?_
 obtain ⟨v35, hv36, h⟩ := bindS h
 refine cF 67 (ok_impl_IndexOf hv36) ?_
 obtain ⟨v37, hv38, h⟩ := bindS h
 refine cF 68 (ok_laws_sameMarks hv38) ?_
 refine vM [8] 1 72 [(69, B v37)] [] ?_
 rcases Bool.eq_false_or_eq_true v37 with hc41 | hc41
 replace h := bT hc41 h
 rw [hc41]
 obtain ⟨v39, hv40, h⟩ := bindS h
 refine cF 70 (ok_laws_alive hv40) ?_
 refine veM [8] 2 72 [(2, B v39)] [] ?_
 cases h
 exact pwp_ret rz
 replace h := bF hc41 h
 rw [hc41]
 refine veM [8] 3 72 [(2, B false)] [] ?_
 cases h
 exact pwp_ret rz
end Go.D
