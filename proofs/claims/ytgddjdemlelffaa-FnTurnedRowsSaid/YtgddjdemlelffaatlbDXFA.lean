import Derived.Test.YtgddjdemlelffaatlbDPrimD
import Derived.Test.YtgddjdemlelffaatlbDXT
import Derived.KernelRfl
set_option linter.unusedVariables false
set_option linter.unusedSimpArgs false
namespace Go.D
open Go.Proofs
def laws_sameRow_l0 (a0 : List T_impl_Value) (a1 : List T_impl_Value) : Nat → Int → Option Bool
 | 0, _ => none
 | f3 + 1, x2 => bif (decide (x2 < (a0.length : Int))) then (getI a0 x2).bind fun v6 => (getI a1 x2).bind fun v8 => bif (!(eq_T_impl_Value v6 v8)) then some false else (laws_sameRow_l0 a0 a1 f3) (w64 (x2 + 1)) else some true
def laws_sameRow (a0 : List T_impl_Value) (a1 : List T_impl_Value) : Option Bool := bif (!((a0.length : Int) == (a1.length : Int))) then some false else laws_sameRow_l0 a0 a1 FUEL 0
theorem ok_laws_sameRow {a0 : List T_impl_Value} {a1 : List T_impl_Value} {y : Bool} (h : laws_sameRow a0 a1 = some y) : OK Try.prog 13 [A a0, A a1] (B y) := by
 refine ow Try.func13 fun Γ hX => ?_
 unfold laws_sameRow at h
 refine srve 26 [(0, A a0), (1, A a1)] [] ?_
 refine pwp_seq ?_
 refine srve 26 [(0, A a0), (1, A a1), (10, B (!((a0.length : Int) == (a1.length : Int))))] [] ?_
 refine pc h (fun h => ?_) (fun h => ?_)
 refine srve 26 [(4, B false)] [] ?_
 cases h
 exact pwp_ret rz
 refine pwp_skip ?_
 refine pwp_seq ?_
 refine srve 26 [(0, A a0), (1, A a1), (5, I 0)] [] ?_
 refine pwp_block ?_
 refine pwp_loop (ι := Nat × Int) (fun (f3, x2) => (⟨26, [(0, A a0), (1, A a1), (5, I x2)], []⟩ : St)) (fun (f3, x2) => laws_sameRow_l0 a0 a1 f3 x2 = some y) Prod.fst (FUEL, 0) h (it [0, 1, 5]) ?_
 rintro ⟨f3, x2⟩ h
 dsimp only at h ⊢
 rcases f3 with _ | f3
 cases h
 rw [laws_sameRow_l0] at h
 refine pwp_seq ?_
 refine srve 26 [(0, A a0), (1, A a1), (5, I x2), (14, B (decide (x2 < (a0.length : Int))))] [] ?_
 refine pc h (fun h => ?_) (fun h => ?_)
 refine pwp_skip ?_
 refine pwp_seq ?_
 refine pwp_block ?_
 refine pwp_seq ?_
 refine ip 26 [(0, A a0), (1, A a1), (5, I x2)] [] ?_
 refine pN 9 ?_
 refine qv [] trivial 2 26 [(18, I x2), (17, A a0), (0, A a0), (1, A a1), (5, I x2)] [] ?_
 obtain ⟨v6, hv7, h⟩ := bindS h
 refine qX (some 19) (pf v6 0) 26 [(19, pf v6 0), (0, A a0), (1, A a1), (5, I x2)] [] (fun Γ' hΓ => CoreE.of_y (idxV_sound τ_ok (by kernel_rfl) hv7)) trivial ?_
 refine qv [] trivial 3 26 [(22, I x2), (21, A a1), (20, E v6), (0, A a0), (1, A a1), (5, I x2)] [] ?_
 obtain ⟨v8, hv9, h⟩ := bindS h
 refine qX (some 23) (pf v8 0) 26 [(23, pf v8 0), (20, E v6), (0, A a0), (1, A a1), (5, I x2)] [] (fun Γ' hΓ => CoreE.of_y (idxV_sound τ_ok (by kernel_rfl) hv9)) trivial ?_
 refine qvn [] trivial 2 26 [(0, A a0), (1, A a1), (5, I x2), (25, B (!(eq_T_impl_Value v6 v8)))] [] ?_
 refine pc h (fun h => ?_) (fun h => ?_)
 refine srve 26 [(4, B false)] [] ?_
 cases h
 exact pwp_ret rz
 refine pwp_skip ?_
 refine rve 26 [(0, A a0), (1, A a1), (5, I (w64 (x2 + 1)))] [] ?_
 exact ⟨(f3, (w64 (x2 + 1))), h, Nat.lt_succ_self _, it [0, 1, 5]⟩
 refine pwp_exit ?_
 refine srve 26 [(4, B true)] [] ?_
 cases h
 exact pwp_ret rz
def laws_sameTallies_j1 (x2 : Int) (K4 : Int → Option Bool) (x6 : Bool) : Option Bool := bif x6 then some false else K4 (w64 (x2 + 1))
def laws_sameTallies_l0 (a0 : List T_impl_Tally) (a1 : List T_impl_Tally) : Nat → Int → Option Bool
 | 0, _ => none
 | f3 + 1, x2 => bif (decide (x2 < (a0.length : Int))) then (getI a0 x2).bind fun v8 => (getI a1 x2).bind fun v10 => bif (!(v8.fRows == v10.fRows)) then laws_sameTallies_j1 x2 (laws_sameTallies_l0 a0 a1 f3) true else (getI a0 x2).bind fun v12 => (getI a1 x2).bind fun v14 => bif (!(v12.fMany == v14.fMany)) then laws_sameTallies_j1 x2 (laws_sameTallies_l0 a0 a1 f3) true else (getI a0 x2).bind fun v16 => (getI a1 x2).bind fun v18 => bif (!(v16.fSum == v18.fSum)) then laws_sameTallies_j1 x2 (laws_sameTallies_l0 a0 a1 f3) true else (getI a0 x2).bind fun v20 => (getI a1 x2).bind fun v22 => (laws_sameRow v20.fKey v22.fKey).bind fun v24 => laws_sameTallies_j1 x2 (laws_sameTallies_l0 a0 a1 f3) (!v24) else some true
def laws_sameTallies (a0 : List T_impl_Tally) (a1 : List T_impl_Tally) : Option Bool := bif (!((a0.length : Int) == (a1.length : Int))) then some false else laws_sameTallies_l0 a0 a1 FUEL 0
theorem ok_laws_sameTallies {a0 : List T_impl_Tally} {a1 : List T_impl_Tally} {y : Bool} (h : laws_sameTallies a0 a1 = some y) : OK Try.prog 23 [A a0, A a1] (B y) := by
 refine ow Try.func23 fun Γ hX => ?_
 unfold laws_sameTallies at h
 refine srve 68 [(0, A a0), (1, A a1)] [] ?_
 refine pwp_seq ?_
 refine srve 68 [(0, A a0), (1, A a1), (10, B (!((a0.length : Int) == (a1.length : Int))))] [] ?_
 refine pc h (fun h => ?_) (fun h => ?_)
 refine srve 68 [(4, B false)] [] ?_
 cases h
 exact pwp_ret rz
 refine pwp_skip ?_
 refine pwp_seq ?_
 refine srve 68 [(0, A a0), (1, A a1), (5, I 0)] [] ?_
 refine pwp_block ?_
 refine pwp_loop (ι := Nat × Int) (fun (f3, x2) => (⟨68, [(0, A a0), (1, A a1), (5, I x2)], []⟩ : St)) (fun (f3, x2) => laws_sameTallies_l0 a0 a1 f3 x2 = some y) Prod.fst (FUEL, 0) h (it [0, 1, 5]) ?_
 rintro ⟨f3, x2⟩ h
 dsimp only at h ⊢
 rcases f3 with _ | f3
 cases h
 rw [laws_sameTallies_l0] at h
 refine pwp_seq ?_
 refine srve 68 [(0, A a0), (1, A a1), (5, I x2), (14, B (decide (x2 < (a0.length : Int))))] [] ?_
 refine pc h (fun h => ?_) (fun h => ?_)
 refine pwp_skip ?_
 refine pwp_seq ?_
 refine pwp_block ?_
 refine pwp_seq ?_
 refine pwp_join (σ := Bool) (fun x6 => (⟨68, [(0, A a0), (1, A a1), (5, I x2), (67, B x6)], []⟩ : St)) (fun x6 => laws_sameTallies_j1 x2 (laws_sameTallies_l0 a0 a1 f3) x6 = some y) ?_ ?_
 refine ip 68 [(0, A a0), (1, A a1), (5, I x2)] [] ?_
 refine pN 51 ?_
 refine qv [] trivial 2 68 [(18, I x2), (17, A a0), (0, A a0), (1, A a1), (5, I x2)] [] ?_
 obtain ⟨v8, hv9, h⟩ := bindS h
 refine qX (some 19) (pf v8 0) 68 [(19, pf v8 0), (0, A a0), (1, A a1), (5, I x2)] [] (fun Γ' hΓ => CoreE.of_y (idxV_sound τ_ok (by kernel_rfl) hv9)) trivial ?_
 refine qv [] trivial 4 68 [(23, I x2), (22, A a1), (21, I v8.fRows), (0, A a0), (1, A a1), (5, I x2)] [] ?_
 obtain ⟨v10, hv11, h⟩ := bindS h
 refine qX (some 24) (pf v10 0) 68 [(24, pf v10 0), (21, I v8.fRows), (0, A a0), (1, A a1), (5, I x2)] [] (fun Γ' hΓ => CoreE.of_y (idxV_sound τ_ok (by kernel_rfl) hv11)) trivial ?_
 refine qv [] trivial 4 68 [(28, B (!(v8.fRows == v10.fRows))), (0, A a0), (1, A a1), (5, I x2)] [] ?_
 rcases fk (!(v8.fRows == v10.fRows)) with hc28 | hc28
 replace h := bT hc28 h
 rw [hc28]
 refine qvn [] trivial 39 68 [(0, A a0), (1, A a1), (5, I x2), (29, .lit undef), (30, .lit undef), (31, .lit undef), (32, .lit undef), (33, .lit undef), (34, .lit undef), (35, .lit undef), (36, .lit undef), (37, .lit undef), (38, .lit undef), (39, .lit undef), (42, .lit undef), (43, .lit undef), (44, .lit undef), (45, .lit undef), (46, .lit undef), (47, .lit undef), (48, .lit undef), (49, .lit undef), (50, .lit undef), (51, .lit undef), (52, .lit undef), (55, .lit undef), (56, .lit undef), (57, .lit undef), (58, .lit undef), (59, .lit undef), (60, .lit undef), (61, .lit undef), (62, .lit undef), (63, .lit undef), (64, .lit undef), (65, .lit undef), (66, .lit undef), (67, B true)] [] ?_
 exact ⟨true, h, it [0, 1, 5, 67]⟩
 replace h := bF hc28 h
 rw [hc28]
 refine qv [] trivial 2 68 [(30, I x2), (29, A a0), (28, B false), (0, A a0), (1, A a1), (5, I x2)] [] ?_
 obtain ⟨v12, hv13, h⟩ := bindS h
 refine qX (some 31) (pf v12 0) 68 [(31, pf v12 0), (30, I x2), (29, A a0), (28, B false), (0, A a0), (1, A a1), (5, I x2)] [] (fun Γ' hΓ => CoreE.of_y (idxV_sound τ_ok (by kernel_rfl) hv13)) trivial ?_
 refine qv [] trivial 4 68 [(35, I x2), (34, A a1), (33, I v12.fMany), (32, pf v12 2), (31, pf v12 0), (30, I x2), (29, A a0), (28, B false), (0, A a0), (1, A a1), (5, I x2)] [] ?_
 obtain ⟨v14, hv15, h⟩ := bindS h
 refine qX (some 36) (pf v14 0) 68 [(36, pf v14 0), (35, I x2), (34, A a1), (33, I v12.fMany), (32, pf v12 2), (31, pf v12 0), (30, I x2), (29, A a0), (28, B false), (0, A a0), (1, A a1), (5, I x2)] [] (fun Γ' hΓ => CoreE.of_y (idxV_sound τ_ok (by kernel_rfl) hv15)) trivial ?_
 refine qv [] trivial 5 68 [(41, B (!(v12.fMany == v14.fMany))), (39, B (!(v12.fMany == v14.fMany))), (38, I v14.fMany), (37, pf v14 2), (36, pf v14 0), (35, I x2), (34, A a1), (33, I v12.fMany), (32, pf v12 2), (31, pf v12 0), (30, I x2), (29, A a0), (0, A a0), (1, A a1), (5, I x2)] [] ?_
 rcases fk (!(v12.fMany == v14.fMany)) with hc27 | hc27
 replace h := bT hc27 h
 rw [hc27]
 refine qvn [] trivial 26 68 [(0, A a0), (1, A a1), (5, I x2), (29, A a0), (30, I x2), (31, pf v12 0), (32, pf v12 2), (33, I v12.fMany), (34, A a1), (35, I x2), (36, pf v14 0), (37, pf v14 2), (38, I v14.fMany), (39, B true), (42, .lit undef), (43, .lit undef), (44, .lit undef), (45, .lit undef), (46, .lit undef), (47, .lit undef), (48, .lit undef), (49, .lit undef), (50, .lit undef), (51, .lit undef), (52, .lit undef), (55, .lit undef), (56, .lit undef), (57, .lit undef), (58, .lit undef), (59, .lit undef), (60, .lit undef), (61, .lit undef), (62, .lit undef), (63, .lit undef), (64, .lit undef), (65, .lit undef), (66, .lit undef), (67, B true)] [] ?_
 exact ⟨true, h, it [0, 1, 5, 67]⟩
 replace h := bF hc27 h
 rw [hc27]
 refine qv [] trivial 2 68 [(43, I x2), (42, A a0), (41, B false), (39, B false), (38, I v14.fMany), (37, pf v14 2), (36, pf v14 0), (35, I x2), (34, A a1), (33, I v12.fMany), (32, pf v12 2), (31, pf v12 0), (30, I x2), (29, A a0), (0, A a0), (1, A a1), (5, I x2)] [] ?_
 obtain ⟨v16, hv17, h⟩ := bindS h
 refine qX (some 44) (pf v16 0) 68 [(44, pf v16 0), (43, I x2), (42, A a0), (41, B false), (39, B false), (38, I v14.fMany), (37, pf v14 2), (36, pf v14 0), (35, I x2), (34, A a1), (33, I v12.fMany), (32, pf v12 2), (31, pf v12 0), (30, I x2), (29, A a0), (0, A a0), (1, A a1), (5, I x2)] [] (fun Γ' hΓ => CoreE.of_y (idxV_sound τ_ok (by kernel_rfl) hv17)) trivial ?_
 refine qv [] trivial 4 68 [(48, I x2), (47, A a1), (46, I v16.fSum), (45, pf v16 3), (44, pf v16 0), (43, I x2), (42, A a0), (41, B false), (39, B false), (38, I v14.fMany), (37, pf v14 2), (36, pf v14 0), (35, I x2), (34, A a1), (33, I v12.fMany), (32, pf v12 2), (31, pf v12 0), (30, I x2), (29, A a0), (0, A a0), (1, A a1), (5, I x2)] [] ?_
 obtain ⟨v18, hv19, h⟩ := bindS h
 refine qX (some 49) (pf v18 0) 68 [(49, pf v18 0), (48, I x2), (47, A a1), (46, I v16.fSum), (45, pf v16 3), (44, pf v16 0), (43, I x2), (42, A a0), (41, B false), (39, B false), (38, I v14.fMany), (37, pf v14 2), (36, pf v14 0), (35, I x2), (34, A a1), (33, I v12.fMany), (32, pf v12 2), (31, pf v12 0), (30, I x2), (29, A a0), (0, A a0), (1, A a1), (5, I x2)] [] (fun Γ' hΓ => CoreE.of_y (idxV_sound τ_ok (by kernel_rfl) hv19)) trivial ?_
 refine qv [] trivial 5 68 [(54, B (!(v16.fSum == v18.fSum))), (52, B (!(v16.fSum == v18.fSum))), (51, I v18.fSum), (50, pf v18 3), (49, pf v18 0), (48, I x2), (47, A a1), (46, I v16.fSum), (45, pf v16 3), (44, pf v16 0), (43, I x2), (42, A a0), (39, B false), (38, I v14.fMany), (37, pf v14 2), (36, pf v14 0), (35, I x2), (34, A a1), (33, I v12.fMany), (32, pf v12 2), (31, pf v12 0), (30, I x2), (29, A a0), (0, A a0), (1, A a1), (5, I x2)] [] ?_
 rcases fk (!(v16.fSum == v18.fSum)) with hc26 | hc26
 replace h := bT hc26 h
 rw [hc26]
 refine qvn [] trivial 13 68 [(0, A a0), (1, A a1), (5, I x2), (29, A a0), (30, I x2), (31, pf v12 0), (32, pf v12 2), (33, I v12.fMany), (34, A a1), (35, I x2), (36, pf v14 0), (37, pf v14 2), (38, I v14.fMany), (39, B false), (42, A a0), (43, I x2), (44, pf v16 0), (45, pf v16 3), (46, I v16.fSum), (47, A a1), (48, I x2), (49, pf v18 0), (50, pf v18 3), (51, I v18.fSum), (52, B true), (55, .lit undef), (56, .lit undef), (57, .lit undef), (58, .lit undef), (59, .lit undef), (60, .lit undef), (61, .lit undef), (62, .lit undef), (63, .lit undef), (64, .lit undef), (65, .lit undef), (66, .lit undef), (67, B true)] [] ?_
 exact ⟨true, h, it [0, 1, 5, 67]⟩
 replace h := bF hc26 h
 rw [hc26]
 refine qv [] trivial 2 68 [(56, I x2), (55, A a0), (54, B false), (52, B false), (51, I v18.fSum), (50, pf v18 3), (49, pf v18 0), (48, I x2), (47, A a1), (46, I v16.fSum), (45, pf v16 3), (44, pf v16 0), (43, I x2), (42, A a0), (39, B false), (38, I v14.fMany), (37, pf v14 2), (36, pf v14 0), (35, I x2), (34, A a1), (33, I v12.fMany), (32, pf v12 2), (31, pf v12 0), (30, I x2), (29, A a0), (0, A a0), (1, A a1), (5, I x2)] [] ?_
 obtain ⟨v20, hv21, h⟩ := bindS h
 refine qX (some 57) (pf v20 0) 68 [(57, pf v20 0), (56, I x2), (55, A a0), (54, B false), (52, B false), (51, I v18.fSum), (50, pf v18 3), (49, pf v18 0), (48, I x2), (47, A a1), (46, I v16.fSum), (45, pf v16 3), (44, pf v16 0), (43, I x2), (42, A a0), (39, B false), (38, I v14.fMany), (37, pf v14 2), (36, pf v14 0), (35, I x2), (34, A a1), (33, I v12.fMany), (32, pf v12 2), (31, pf v12 0), (30, I x2), (29, A a0), (0, A a0), (1, A a1), (5, I x2)] [] (fun Γ' hΓ => CoreE.of_y (idxV_sound τ_ok (by kernel_rfl) hv21)) trivial ?_
 refine qv [] trivial 4 68 [(61, I x2), (60, A a1), (59, A v20.fKey), (58, pf v20 0), (57, pf v20 0), (56, I x2), (55, A a0), (54, B false), (52, B false), (51, I v18.fSum), (50, pf v18 3), (49, pf v18 0), (48, I x2), (47, A a1), (46, I v16.fSum), (45, pf v16 3), (44, pf v16 0), (43, I x2), (42, A a0), (39, B false), (38, I v14.fMany), (37, pf v14 2), (36, pf v14 0), (35, I x2), (34, A a1), (33, I v12.fMany), (32, pf v12 2), (31, pf v12 0), (30, I x2), (29, A a0), (0, A a0), (1, A a1), (5, I x2)] [] ?_
 obtain ⟨v22, hv23, h⟩ := bindS h
 refine qX (some 62) (pf v22 0) 68 [(62, pf v22 0), (61, I x2), (60, A a1), (59, A v20.fKey), (58, pf v20 0), (57, pf v20 0), (56, I x2), (55, A a0), (54, B false), (52, B false), (51, I v18.fSum), (50, pf v18 3), (49, pf v18 0), (48, I x2), (47, A a1), (46, I v16.fSum), (45, pf v16 3), (44, pf v16 0), (43, I x2), (42, A a0), (39, B false), (38, I v14.fMany), (37, pf v14 2), (36, pf v14 0), (35, I x2), (34, A a1), (33, I v12.fMany), (32, pf v12 2), (31, pf v12 0), (30, I x2), (29, A a0), (0, A a0), (1, A a1), (5, I x2)] [] (fun Γ' hΓ => CoreE.of_y (idxV_sound τ_ok (by kernel_rfl) hv23)) trivial ?_
 refine qv [] trivial 2 68 [(64, A v22.fKey), (63, pf v22 0), (62, pf v22 0), (61, I x2), (60, A a1), (59, A v20.fKey), (58, pf v20 0), (57, pf v20 0), (56, I x2), (55, A a0), (54, B false), (52, B false), (51, I v18.fSum), (50, pf v18 3), (49, pf v18 0), (48, I x2), (47, A a1), (46, I v16.fSum), (45, pf v16 3), (44, pf v16 0), (43, I x2), (42, A a0), (39, B false), (38, I v14.fMany), (37, pf v14 2), (36, pf v14 0), (35, I x2), (34, A a1), (33, I v12.fMany), (32, pf v12 2), (31, pf v12 0), (30, I x2), (29, A a0), (0, A a0), (1, A a1), (5, I x2)] [] ?_
 obtain ⟨v24, hv25, h⟩ := bindS h
 refine qX (some 65) (B v24) 68 [(65, B v24), (64, A v22.fKey), (63, pf v22 0), (62, pf v22 0), (61, I x2), (60, A a1), (59, A v20.fKey), (58, pf v20 0), (57, pf v20 0), (56, I x2), (55, A a0), (54, B false), (52, B false), (51, I v18.fSum), (50, pf v18 3), (49, pf v18 0), (48, I x2), (47, A a1), (46, I v16.fSum), (45, pf v16 3), (44, pf v16 0), (43, I x2), (42, A a0), (39, B false), (38, I v14.fMany), (37, pf v14 2), (36, pf v14 0), (35, I x2), (34, A a1), (33, I v12.fMany), (32, pf v12 2), (31, pf v12 0), (30, I x2), (29, A a0), (0, A a0), (1, A a1), (5, I x2)] [] (fun Γ' hΓ => CoreE.of_g (callV_sound (τ := τ) (by kernel_rfl) rfl (ok_laws_sameRow hv25) (FzTo.frz rfl))) trivial ?_
 refine qvn [] trivial 2 68 [(0, A a0), (1, A a1), (5, I x2), (29, A a0), (30, I x2), (31, pf v12 0), (32, pf v12 2), (33, I v12.fMany), (34, A a1), (35, I x2), (36, pf v14 0), (37, pf v14 2), (38, I v14.fMany), (39, B false), (42, A a0), (43, I x2), (44, pf v16 0), (45, pf v16 3), (46, I v16.fSum), (47, A a1), (48, I x2), (49, pf v18 0), (50, pf v18 3), (51, I v18.fSum), (52, B false), (55, A a0), (56, I x2), (57, pf v20 0), (58, pf v20 0), (59, A v20.fKey), (60, A a1), (61, I x2), (62, pf v22 0), (63, pf v22 0), (64, A v22.fKey), (65, B v24), (66, B (!v24)), (67, B (!v24))] [] ?_
 exact ⟨(!v24), h, it [0, 1, 5, 67]⟩
 rintro x6 h
 unfold laws_sameTallies_j1 at h
 refine pc h (fun h => ?_) (fun h => ?_)
 refine srve 68 [(4, B false)] [] ?_
 cases h
 exact pwp_ret rz
 refine pwp_skip ?_
 refine rve 68 [(0, A a0), (1, A a1), (5, I (w64 (x2 + 1)))] [] ?_
 exact ⟨(f3, (w64 (x2 + 1))), h, Nat.lt_succ_self _, it [0, 1, 5]⟩
 refine pwp_exit ?_
 refine srve 68 [(4, B true)] [] ?_
 cases h
 exact pwp_ret rz
def spec_l20Open_j0 (x1 : List UInt8) : Option T_spec_l20Rd := some (T_spec_l20Rd.mk x1 0)
def spec_l20Open (a0 : List UInt8) : Option T_spec_l20Rd := bif (decide ((a0.length : Int) > 2000)) then (slI a0 none (some 2000) none).bind fun v3 => spec_l20Open_j0 v3 else spec_l20Open_j0 a0
theorem ok_spec_l20Open {a0 : List UInt8} {y : T_spec_l20Rd} (h : spec_l20Open a0 = some y) : OK Try.prog 46 [A a0] (.obox (Enc.cells y) 0) := by
 refine ow Try.func46 fun Γ hX => ?_
 unfold spec_l20Open at h
 refine srveM [10] 11 [(0, A a0)] [] ?_
 refine pwp_seq ?_
 refine pwp_join (σ := (List UInt8)) (fun x1 => (⟨11, [(0, A x1)], []⟩ : St)) (fun x1 => spec_l20Open_j0 x1 = some y) ?_ ?_
 refine srveM [10] 11 [(0, A a0), (5, B (decide ((a0.length : Int) > 2000)))] [] ?_
 refine pc h (fun h => ?_) (fun h => ?_)
 refine rvM [10] 1 11 [(6, A a0)] [] ?_
 obtain ⟨v3, hv4, h⟩ := bindS h
 refine opsP_slc τ_ok 7 hv4 (by kernel_rfl) ?_
 refine veM [10] 1 11 [(0, A v3)] [] ?_
 exact ⟨v3, h, it [0]⟩
 refine pwp_skip ?_
 exact ⟨a0, h, it [0]⟩
 rintro x1 h
 unfold spec_l20Open_j0 at h
 refine srveM [10] 11 [(2, .ptr 0 0 0)] [some ⟨0, Enc.cells (T_spec_l20Rd.mk x1 0)⟩] ?_
 have h := si h
 subst h
 exact pwp_ret (rt (.ptr 0 0 0) (OutP.box (v := 0) (by kernel_rfl)))
def impl_between (a0 : Int) (a1 : Int) (a2 : Int) : Option Bool := bif (decide (a0 ≥ a1)) then some (decide (a0 ≤ a2)) else some false
theorem ok_impl_between {a0 : Int} {a1 : Int} {a2 : Int} {y : Bool} (h : impl_between a0 a1 a2 = some y) : OK Try.prog 54 [I a0, I a1, I a2] (B y) := by
 refine ow Try.func54 fun Γ hX => ?_
 unfold impl_between at h
 refine srve 15 [(0, I a0), (1, I a1), (2, I a2)] [] ?_
 refine srv 4 15 [(0, I a0), (2, I a2), (10, B (decide (a0 ≥ a1)))] [] ?_
 rcases fk (decide (a0 ≥ a1)) with hc1 | hc1
 replace h := bT hc1 h
 rw [hc1]
 refine ve 5 15 [(6, B (decide (a0 ≤ a2)))] [] ?_
 cases h
 exact pwp_ret rz
 replace h := bF hc1 h
 rw [hc1]
 refine ve 5 15 [(6, B false)] [] ?_
 cases h
 exact pwp_ret rz
def spec_l20Rd_pick_j0 (a0 : T_spec_l20Rd) (a1 : Int) (x1 : Bool) : Option (Int × T_spec_l20Rd) := bif x1 then some (0, { a0 with fP := (w64 (a0.fP + 1)) }) else bif (decide ((w64 ((({ a0 with fP := (w64 (a0.fP + 1)) } : T_spec_l20Rd).fP) - 1)) < ((({ a0 with fP := (w64 (a0.fP + 1)) } : T_spec_l20Rd).fB).length : Int))) then (getI (({ a0 with fP := (w64 (a0.fP + 1)) } : T_spec_l20Rd).fB) (w64 ((({ a0 with fP := (w64 (a0.fP + 1)) } : T_spec_l20Rd).fP) - 1))).bind fun v4 => (remI (w64 (v4.toNat : Int)) a1).bind fun v6 => some (v6, { a0 with fP := (w64 (a0.fP + 1)) }) else (remI (w64 ((({ a0 with fP := (w64 (a0.fP + 1)) } : T_spec_l20Rd).fP) - 1)) ((({ a0 with fP := (w64 (a0.fP + 1)) } : T_spec_l20Rd).fB).length : Int)).bind fun v8 => (getI (({ a0 with fP := (w64 (a0.fP + 1)) } : T_spec_l20Rd).fB) v8).bind fun v10 => (remI (w64 ((w64 ((w64 ((({ a0 with fP := (w64 (a0.fP + 1)) } : T_spec_l20Rd).fP) - 1)) * 7)) + 3)) ((({ a0 with fP := (w64 (a0.fP + 1)) } : T_spec_l20Rd).fB).length : Int)).bind fun v12 => (getI (({ a0 with fP := (w64 (a0.fP + 1)) } : T_spec_l20Rd).fB) v12).bind fun v14 => (quoI (w64 ((({ a0 with fP := (w64 (a0.fP + 1)) } : T_spec_l20Rd).fP) - 1)) ((({ a0 with fP := (w64 (a0.fP + 1)) } : T_spec_l20Rd).fB).length : Int)).bind fun v16 => (remI (w64 ((BitVec.ofInt 64 (w64 ((w64 ((w64 ((w64 ((w64 (v10.toNat : Int)) * 131)) + (w64 ((w64 (v14.toNat : Int)) * 1117)))) + (w64 ((w64 ((({ a0 with fP := (w64 (a0.fP + 1)) } : T_spec_l20Rd).fP) - 1)) * 29)))) + (w64 (v16 * 53)))) ^^^ BitVec.ofInt 64 (w64 ((w64 ((w64 ((w64 ((w64 ((w64 (v10.toNat : Int)) * 131)) + (w64 ((w64 (v14.toNat : Int)) * 1117)))) + (w64 ((w64 ((({ a0 with fP := (w64 (a0.fP + 1)) } : T_spec_l20Rd).fP) - 1)) * 29)))) + (w64 (v16 * 53)))).tdiv 64))).toNat : Int)) a1).bind fun v18 => some (v18, { a0 with fP := (w64 (a0.fP + 1)) })
def spec_l20Rd_pick (a0 : T_spec_l20Rd) (a1 : Int) : Option (Int × T_spec_l20Rd) := bif (decide (a1 < 1)) then spec_l20Rd_pick_j0 a0 a1 true else spec_l20Rd_pick_j0 a0 a1 (((({ a0 with fP := (w64 (a0.fP + 1)) } : T_spec_l20Rd).fB).length : Int) == 0)
theorem ok_spec_l20Rd_pick {a0 : T_spec_l20Rd} {a1 : Int} {y : Int × T_spec_l20Rd} (h : spec_l20Rd_pick a0 a1 = some y) : OKb Try.prog 60 (Enc.cells a0) [I a1] (I y.1) (Enc.cells y.2) := by
 refine OKb_of_pwp τ_ok Try.func60 rfl (by kernel_rfl) rfl (Enc.frz _) (Enc.frz _) fun Γ hQ => ?_
 unfold spec_l20Rd_pick at h
 refine srve 99 [(0, .ptr 0 0 0), (1, I a1)] [sc 0 a0] ?_
 refine srve 99 [(0, .ptr 0 0 0), (1, I a1)] [some ⟨0, Enc.cells ({ a0 with fP := (w64 (a0.fP + 1)) })⟩] ?_
 refine pwp_seq ?_
 refine pwp_seq ?_
 refine pwp_join (σ := Bool) (fun x1 => (⟨99, [(0, .ptr 0 0 0), (1, I a1), (24, B x1)], [some ⟨0, Enc.cells ({ a0 with fP := (w64 (a0.fP + 1)) })⟩]⟩ : St)) (fun x1 => spec_l20Rd_pick_j0 a0 a1 x1 = some y) ?_ ?_
 refine rv 3 99 [(0, .ptr 0 0 0), (1, I a1), (17, B (decide (a1 < 1)))] [some ⟨0, Enc.cells ({ a0 with fP := (w64 (a0.fP + 1)) })⟩] ?_
 rcases fk (decide (a1 < 1)) with hc20 | hc20
 replace h := bT hc20 h
 rw [hc20]
 refine ve 7 99 [(0, .ptr 0 0 0), (1, I a1), (24, B true)] [some ⟨0, Enc.cells ({ a0 with fP := (w64 (a0.fP + 1)) })⟩] ?_
 exact ⟨true, h, it [0, 1, 24]⟩
 replace h := bF hc20 h
 rw [hc20]
 refine ve 7 99 [(0, .ptr 0 0 0), (1, I a1), (24, B (((({ a0 with fP := (w64 (a0.fP + 1)) } : T_spec_l20Rd).fB).length : Int) == 0))] [some ⟨0, Enc.cells ({ a0 with fP := (w64 (a0.fP + 1)) })⟩] ?_
 exact ⟨(((({ a0 with fP := (w64 (a0.fP + 1)) } : T_spec_l20Rd).fB).length : Int) == 0), h, it [0, 1, 24]⟩
 rintro x1 h
 unfold spec_l20Rd_pick_j0 at h
 refine pc h (fun h => ?_) (fun h => ?_)
 refine srve 99 [(4, I 0)] [some ⟨0, Enc.cells ({ a0 with fP := (w64 (a0.fP + 1)) })⟩] ?_
 have h := si h
 subst h
 exact pwp_ret ⟨.inr rfl, I 0, _, 0, by kernel_rfl, (OutP.frz (by kernel_rfl)), by decide, by decide, by kernel_rfl⟩
 refine pwp_skip ?_
 refine srve 99 [(0, .ptr 0 0 0), (1, I a1), (5, I (w64 ((({ a0 with fP := (w64 (a0.fP + 1)) } : T_spec_l20Rd).fP) - 1)))] [some ⟨0, Enc.cells ({ a0 with fP := (w64 (a0.fP + 1)) })⟩] ?_
 refine pwp_seq ?_
 refine srve 99 [(0, .ptr 0 0 0), (1, I a1), (5, I (w64 ((({ a0 with fP := (w64 (a0.fP + 1)) } : T_spec_l20Rd).fP) - 1))), (36, B (decide ((w64 ((({ a0 with fP := (w64 (a0.fP + 1)) } : T_spec_l20Rd).fP) - 1)) < ((({ a0 with fP := (w64 (a0.fP + 1)) } : T_spec_l20Rd).fB).length : Int))))] [some ⟨0, Enc.cells ({ a0 with fP := (w64 (a0.fP + 1)) })⟩] ?_
 refine pc h (fun h => ?_) (fun h => ?_)
 refine srv 5 99 [(1, I a1), (40, A (({ a0 with fP := (w64 (a0.fP + 1)) } : T_spec_l20Rd).fB)), (41, I (w64 ((({ a0 with fP := (w64 (a0.fP + 1)) } : T_spec_l20Rd).fP) - 1)))] [some ⟨0, Enc.cells ({ a0 with fP := (w64 (a0.fP + 1)) })⟩] ?_
 obtain ⟨v4, hv5, h⟩ := bindS h
 refine opsP_idx τ_ok 42 hv5 (by kernel_rfl) ?_
 refine v 3 99 [(44, I (w64 (v4.toNat : Int))), (45, I a1)] [some ⟨0, Enc.cells ({ a0 with fP := (w64 (a0.fP + 1)) })⟩] ?_
 obtain ⟨v6, hv7, h⟩ := bindS h
 refine opsP_div τ_ok (r := true) 46 hv7 (by kernel_rfl) ?_
 refine ve 1 99 [(4, I v6)] [some ⟨0, Enc.cells ({ a0 with fP := (w64 (a0.fP + 1)) })⟩] ?_
 have h := si h
 subst h
 exact pwp_ret ⟨.inr rfl, I v6, _, 0, by kernel_rfl, (OutP.frz (by kernel_rfl)), by decide, by decide, by kernel_rfl⟩
 refine pwp_skip ?_
 refine pwp_seq ?_
 refine ip 99 [(0, .ptr 0 0 0), (1, I a1), (5, I (w64 ((({ a0 with fP := (w64 (a0.fP + 1)) } : T_spec_l20Rd).fP) - 1)))] [some ⟨0, Enc.cells ({ a0 with fP := (w64 (a0.fP + 1)) })⟩] ?_
 refine pwp_any ([[0], [0], [0], [0], [], [0], [0], [0], [0], [], [], [], [], [], [], [0], [0], [0], [0], [], [], [], [0], [0], [0], [0], [], [], [], [], [], [], [], [], [], [], [], [0], [0], [0], [0], [], [], [], [], []]) ([[], [], [], [], [], [], [], [], [], [], [], [], [], [], [], [], [], [], [], [], [], [], [], [], [], [], [], [], [], [], [], [], [], [], [], [], [], [], [], [], [], [], [], [], [], []]) rfl (by kernel_rfl) ?_
 refine qv [0] (hB trivial) 4 99 [(50, A (({ a0 with fP := (w64 (a0.fP + 1)) } : T_spec_l20Rd).fB)), (0, .ptr 0 0 0), (1, I a1), (5, I (w64 ((({ a0 with fP := (w64 (a0.fP + 1)) } : T_spec_l20Rd).fP) - 1)))] [some ⟨0, Enc.cells ({ a0 with fP := (w64 (a0.fP + 1)) })⟩] ?_
 refine qv [] trivial 1 99 [(51, I (w64 ((({ a0 with fP := (w64 (a0.fP + 1)) } : T_spec_l20Rd).fP) - 1))), (50, A (({ a0 with fP := (w64 (a0.fP + 1)) } : T_spec_l20Rd).fB)), (0, .ptr 0 0 0), (1, I a1), (5, I (w64 ((({ a0 with fP := (w64 (a0.fP + 1)) } : T_spec_l20Rd).fP) - 1)))] [some ⟨0, Enc.cells ({ a0 with fP := (w64 (a0.fP + 1)) })⟩] ?_
 refine qv [0] (hB trivial) 4 99 [(55, A (({ a0 with fP := (w64 (a0.fP + 1)) } : T_spec_l20Rd).fB)), (51, I (w64 ((({ a0 with fP := (w64 (a0.fP + 1)) } : T_spec_l20Rd).fP) - 1))), (50, A (({ a0 with fP := (w64 (a0.fP + 1)) } : T_spec_l20Rd).fB)), (0, .ptr 0 0 0), (1, I a1), (5, I (w64 ((({ a0 with fP := (w64 (a0.fP + 1)) } : T_spec_l20Rd).fP) - 1)))] [some ⟨0, Enc.cells ({ a0 with fP := (w64 (a0.fP + 1)) })⟩] ?_
 refine qv [] trivial 1 99 [(56, I ((({ a0 with fP := (w64 (a0.fP + 1)) } : T_spec_l20Rd).fB).length : Int)), (51, I (w64 ((({ a0 with fP := (w64 (a0.fP + 1)) } : T_spec_l20Rd).fP) - 1))), (50, A (({ a0 with fP := (w64 (a0.fP + 1)) } : T_spec_l20Rd).fB)), (0, .ptr 0 0 0), (1, I a1), (5, I (w64 ((({ a0 with fP := (w64 (a0.fP + 1)) } : T_spec_l20Rd).fP) - 1)))] [some ⟨0, Enc.cells ({ a0 with fP := (w64 (a0.fP + 1)) })⟩] ?_
 obtain ⟨v8, hv9, h⟩ := bindS h
 refine qX (some 57) (I v8) 99 [(57, I v8), (50, A (({ a0 with fP := (w64 (a0.fP + 1)) } : T_spec_l20Rd).fB)), (0, .ptr 0 0 0), (1, I a1), (5, I (w64 ((({ a0 with fP := (w64 (a0.fP + 1)) } : T_spec_l20Rd).fP) - 1)))] [some ⟨0, Enc.cells ({ a0 with fP := (w64 (a0.fP + 1)) })⟩] (fun Γ' hΓ => CoreE.of_y (divV_sound (r := true) τ_ok (by kernel_rfl) hv9)) trivial ?_
 obtain ⟨v10, hv11, h⟩ := bindS h
 refine qX (some 58) (pf v10 0) 99 [(58, pf v10 0), (0, .ptr 0 0 0), (1, I a1), (5, I (w64 ((({ a0 with fP := (w64 (a0.fP + 1)) } : T_spec_l20Rd).fP) - 1)))] [some ⟨0, Enc.cells ({ a0 with fP := (w64 (a0.fP + 1)) })⟩] (fun Γ' hΓ => CoreE.of_y (idxV_sound τ_ok (by kernel_rfl) hv11)) trivial ?_
 refine qv [] trivial 3 99 [(61, I (w64 ((w64 (v10.toNat : Int)) * 131))), (0, .ptr 0 0 0), (1, I a1), (5, I (w64 ((({ a0 with fP := (w64 (a0.fP + 1)) } : T_spec_l20Rd).fP) - 1)))] [some ⟨0, Enc.cells ({ a0 with fP := (w64 (a0.fP + 1)) })⟩] ?_
 refine qv [0] (hB trivial) 4 99 [(65, A (({ a0 with fP := (w64 (a0.fP + 1)) } : T_spec_l20Rd).fB)), (61, I (w64 ((w64 (v10.toNat : Int)) * 131))), (0, .ptr 0 0 0), (1, I a1), (5, I (w64 ((({ a0 with fP := (w64 (a0.fP + 1)) } : T_spec_l20Rd).fP) - 1)))] [some ⟨0, Enc.cells ({ a0 with fP := (w64 (a0.fP + 1)) })⟩] ?_
 refine qv [] trivial 3 99 [(68, I (w64 ((w64 ((w64 ((({ a0 with fP := (w64 (a0.fP + 1)) } : T_spec_l20Rd).fP) - 1)) * 7)) + 3))), (65, A (({ a0 with fP := (w64 (a0.fP + 1)) } : T_spec_l20Rd).fB)), (61, I (w64 ((w64 (v10.toNat : Int)) * 131))), (0, .ptr 0 0 0), (1, I a1), (5, I (w64 ((({ a0 with fP := (w64 (a0.fP + 1)) } : T_spec_l20Rd).fP) - 1)))] [some ⟨0, Enc.cells ({ a0 with fP := (w64 (a0.fP + 1)) })⟩] ?_
 refine qv [0] (hB trivial) 4 99 [(72, A (({ a0 with fP := (w64 (a0.fP + 1)) } : T_spec_l20Rd).fB)), (68, I (w64 ((w64 ((w64 ((({ a0 with fP := (w64 (a0.fP + 1)) } : T_spec_l20Rd).fP) - 1)) * 7)) + 3))), (65, A (({ a0 with fP := (w64 (a0.fP + 1)) } : T_spec_l20Rd).fB)), (61, I (w64 ((w64 (v10.toNat : Int)) * 131))), (0, .ptr 0 0 0), (1, I a1), (5, I (w64 ((({ a0 with fP := (w64 (a0.fP + 1)) } : T_spec_l20Rd).fP) - 1)))] [some ⟨0, Enc.cells ({ a0 with fP := (w64 (a0.fP + 1)) })⟩] ?_
 refine qv [] trivial 1 99 [(73, I ((({ a0 with fP := (w64 (a0.fP + 1)) } : T_spec_l20Rd).fB).length : Int)), (68, I (w64 ((w64 ((w64 ((({ a0 with fP := (w64 (a0.fP + 1)) } : T_spec_l20Rd).fP) - 1)) * 7)) + 3))), (65, A (({ a0 with fP := (w64 (a0.fP + 1)) } : T_spec_l20Rd).fB)), (61, I (w64 ((w64 (v10.toNat : Int)) * 131))), (0, .ptr 0 0 0), (1, I a1), (5, I (w64 ((({ a0 with fP := (w64 (a0.fP + 1)) } : T_spec_l20Rd).fP) - 1)))] [some ⟨0, Enc.cells ({ a0 with fP := (w64 (a0.fP + 1)) })⟩] ?_
 obtain ⟨v12, hv13, h⟩ := bindS h
 refine qX (some 74) (I v12) 99 [(74, I v12), (65, A (({ a0 with fP := (w64 (a0.fP + 1)) } : T_spec_l20Rd).fB)), (61, I (w64 ((w64 (v10.toNat : Int)) * 131))), (0, .ptr 0 0 0), (1, I a1), (5, I (w64 ((({ a0 with fP := (w64 (a0.fP + 1)) } : T_spec_l20Rd).fP) - 1)))] [some ⟨0, Enc.cells ({ a0 with fP := (w64 (a0.fP + 1)) })⟩] (fun Γ' hΓ => CoreE.of_y (divV_sound (r := true) τ_ok (by kernel_rfl) hv13)) trivial ?_
 obtain ⟨v14, hv15, h⟩ := bindS h
 refine qX (some 75) (pf v14 0) 99 [(75, pf v14 0), (61, I (w64 ((w64 (v10.toNat : Int)) * 131))), (0, .ptr 0 0 0), (1, I a1), (5, I (w64 ((({ a0 with fP := (w64 (a0.fP + 1)) } : T_spec_l20Rd).fP) - 1)))] [some ⟨0, Enc.cells ({ a0 with fP := (w64 (a0.fP + 1)) })⟩] (fun Γ' hΓ => CoreE.of_y (idxV_sound τ_ok (by kernel_rfl) hv15)) trivial ?_
 refine qv [] trivial 8 99 [(83, I (w64 ((({ a0 with fP := (w64 (a0.fP + 1)) } : T_spec_l20Rd).fP) - 1))), (82, I (w64 ((w64 ((w64 ((w64 (v10.toNat : Int)) * 131)) + (w64 ((w64 (v14.toNat : Int)) * 1117)))) + (w64 ((w64 ((({ a0 with fP := (w64 (a0.fP + 1)) } : T_spec_l20Rd).fP) - 1)) * 29))))), (0, .ptr 0 0 0), (1, I a1)] [some ⟨0, Enc.cells ({ a0 with fP := (w64 (a0.fP + 1)) })⟩] ?_
 refine qv [0] (hB trivial) 4 99 [(87, A (({ a0 with fP := (w64 (a0.fP + 1)) } : T_spec_l20Rd).fB)), (83, I (w64 ((({ a0 with fP := (w64 (a0.fP + 1)) } : T_spec_l20Rd).fP) - 1))), (82, I (w64 ((w64 ((w64 ((w64 (v10.toNat : Int)) * 131)) + (w64 ((w64 (v14.toNat : Int)) * 1117)))) + (w64 ((w64 ((({ a0 with fP := (w64 (a0.fP + 1)) } : T_spec_l20Rd).fP) - 1)) * 29))))), (1, I a1)] [some ⟨0, Enc.cells ({ a0 with fP := (w64 (a0.fP + 1)) })⟩] ?_
 refine qv [] trivial 1 99 [(88, I ((({ a0 with fP := (w64 (a0.fP + 1)) } : T_spec_l20Rd).fB).length : Int)), (83, I (w64 ((({ a0 with fP := (w64 (a0.fP + 1)) } : T_spec_l20Rd).fP) - 1))), (82, I (w64 ((w64 ((w64 ((w64 (v10.toNat : Int)) * 131)) + (w64 ((w64 (v14.toNat : Int)) * 1117)))) + (w64 ((w64 ((({ a0 with fP := (w64 (a0.fP + 1)) } : T_spec_l20Rd).fP) - 1)) * 29))))), (1, I a1)] [some ⟨0, Enc.cells ({ a0 with fP := (w64 (a0.fP + 1)) })⟩] ?_
 obtain ⟨v16, hv17, h⟩ := bindS h
 refine qX (some 89) (I v16) 99 [(89, I v16), (82, I (w64 ((w64 ((w64 ((w64 (v10.toNat : Int)) * 131)) + (w64 ((w64 (v14.toNat : Int)) * 1117)))) + (w64 ((w64 ((({ a0 with fP := (w64 (a0.fP + 1)) } : T_spec_l20Rd).fP) - 1)) * 29))))), (1, I a1)] [some ⟨0, Enc.cells ({ a0 with fP := (w64 (a0.fP + 1)) })⟩] (fun Γ' hΓ => CoreE.of_y (divV_sound (r := false) τ_ok (by kernel_rfl) hv17)) trivial ?_
 refine qvn [] trivial 3 99 [(1, I a1), (6, I (w64 ((w64 ((w64 ((w64 ((w64 (v10.toNat : Int)) * 131)) + (w64 ((w64 (v14.toNat : Int)) * 1117)))) + (w64 ((w64 ((({ a0 with fP := (w64 (a0.fP + 1)) } : T_spec_l20Rd).fP) - 1)) * 29)))) + (w64 (v16 * 53)))))] [some ⟨0, Enc.cells ({ a0 with fP := (w64 (a0.fP + 1)) })⟩] ?_
 refine srve 99 [(1, I a1), (6, I (w64 ((BitVec.ofInt 64 (w64 ((w64 ((w64 ((w64 ((w64 (v10.toNat : Int)) * 131)) + (w64 ((w64 (v14.toNat : Int)) * 1117)))) + (w64 ((w64 ((({ a0 with fP := (w64 (a0.fP + 1)) } : T_spec_l20Rd).fP) - 1)) * 29)))) + (w64 (v16 * 53)))) ^^^ BitVec.ofInt 64 (w64 ((w64 ((w64 ((w64 ((w64 ((w64 (v10.toNat : Int)) * 131)) + (w64 ((w64 (v14.toNat : Int)) * 1117)))) + (w64 ((w64 ((({ a0 with fP := (w64 (a0.fP + 1)) } : T_spec_l20Rd).fP) - 1)) * 29)))) + (w64 (v16 * 53)))).tdiv 64))).toNat : Int)))] [some ⟨0, Enc.cells ({ a0 with fP := (w64 (a0.fP + 1)) })⟩] ?_
 refine srv 2 99 [(96, I (w64 ((BitVec.ofInt 64 (w64 ((w64 ((w64 ((w64 ((w64 (v10.toNat : Int)) * 131)) + (w64 ((w64 (v14.toNat : Int)) * 1117)))) + (w64 ((w64 ((({ a0 with fP := (w64 (a0.fP + 1)) } : T_spec_l20Rd).fP) - 1)) * 29)))) + (w64 (v16 * 53)))) ^^^ BitVec.ofInt 64 (w64 ((w64 ((w64 ((w64 ((w64 ((w64 (v10.toNat : Int)) * 131)) + (w64 ((w64 (v14.toNat : Int)) * 1117)))) + (w64 ((w64 ((({ a0 with fP := (w64 (a0.fP + 1)) } : T_spec_l20Rd).fP) - 1)) * 29)))) + (w64 (v16 * 53)))).tdiv 64))).toNat : Int))), (97, I a1)] [some ⟨0, Enc.cells ({ a0 with fP := (w64 (a0.fP + 1)) })⟩] ?_
 obtain ⟨v18, hv19, h⟩ := bindS h
 refine opsP_div τ_ok (r := true) 98 hv19 (by kernel_rfl) ?_
 refine ve 1 99 [(4, I v18)] [some ⟨0, Enc.cells ({ a0 with fP := (w64 (a0.fP + 1)) })⟩] ?_
 have h := si h
 subst h
 exact pwp_ret ⟨.inr rfl, I v18, _, 0, by kernel_rfl, (OutP.frz (by kernel_rfl)), by decide, by decide, by kernel_rfl⟩
def spec_l3Own (a0 : List T_impl_Value) : Option (List T_impl_Value) := (app ([] : List T_impl_Value) a0).bind fun v1 => some v1
theorem ok_spec_l3Own {a0 : List T_impl_Value} {y : List T_impl_Value} (h : spec_l3Own a0 = some y) : OK Try.prog 61 [A a0] (O y) := by
 refine ow Try.func61 fun Γ hX => ?_
 unfold spec_l3Own at h
 refine srve 6 [(0, A a0)] [] ?_
 refine srv 2 6 [(3, .arr 3 0 (eL ([] : List T_impl_Value)) true), (4, A a0)] [] ?_
 refine opsP_thaw 3 3 (by kernel_rfl) ?_
 obtain ⟨v1, hv2, h⟩ := bindS h
 refine opsP_app τ_ok 5 0 0 (nx hX) hv2 (by kernel_rfl) ?_
 refine ve 1 6 [(2, rf 0 1 3 v1)] [sl 1 v1] ?_
 have h := si h
 subst h
 exact pwp_ret (rt (rf 0 1 3 v1) (OutP.list (v := 1) (by kernel_rfl)))
def spec_l1In (a0 : Int) (a1 : Int) (a2 : Int) : Option Bool := bif (decide (a0 ≥ a1)) then some (decide (a0 ≤ a2)) else some false
theorem ok_spec_l1In {a0 : Int} {a1 : Int} {a2 : Int} {y : Bool} (h : spec_l1In a0 a1 a2 = some y) : OK Try.prog 62 [I a0, I a1, I a2] (B y) := by
 refine ow Try.func62 fun Γ hX => ?_
 unfold spec_l1In at h
 refine srve 15 [(0, I a0), (1, I a1), (2, I a2)] [] ?_
 refine srv 4 15 [(0, I a0), (2, I a2), (10, B (decide (a0 ≥ a1)))] [] ?_
 rcases fk (decide (a0 ≥ a1)) with hc1 | hc1
 replace h := bT hc1 h
 rw [hc1]
 refine ve 5 15 [(6, B (decide (a0 ≤ a2)))] [] ?_
 cases h
 exact pwp_ret rz
 replace h := bF hc1 h
 rw [hc1]
 refine ve 5 15 [(6, B false)] [] ?_
 cases h
 exact pwp_ret rz
def slices_Clip_impl_Delta_impl_Delta (a0 : List T_impl_Delta) : Option (List T_impl_Delta) := (slI a0 none (some (a0.length : Int)) (some (a0.length : Int))).bind fun v1 => some v1
theorem ok_slices_Clip_impl_Delta_impl_Delta {a0 : List T_impl_Delta} {y : List T_impl_Delta} (h : slices_Clip_impl_Delta_impl_Delta a0 = some y) : OK Try.prog 105 [A a0] (A y) := by
 refine ow Try.func105 fun Γ hX => ?_
 unfold slices_Clip_impl_Delta_impl_Delta at h
 refine srve 9 [(0, A a0)] [] ?_
 refine srv 5 9 [(3, A a0), (5, I (a0.length : Int)), (7, I (a0.length : Int))] [] ?_
 obtain ⟨v1, hv2, h⟩ := bindS h
 refine opsP_slc τ_ok 8 hv2 (by kernel_rfl) ?_
 refine ve 1 9 [(2, A v1)] [] ?_
 cases h
 exact pwp_ret rz
def slices_IndexFunc_impl_Value_impl_Value_s3_l0 (a0 : List (List T_impl_Value)) (a1 : (List T_impl_Value) → Option Bool) : Nat → Int → Option Int
 | 0, _ => none
 | f2 + 1, x1 => bif (decide (x1 < (a0.length : Int))) then (getI a0 x1).bind fun v5 => (a1 v5).bind fun v7 => bif v7 then some x1 else (slices_IndexFunc_impl_Value_impl_Value_s3_l0 a0 a1 f2) (w64 (x1 + 1)) else some (-1)
def slices_IndexFunc_impl_Value_impl_Value_s3 (a0 : List (List T_impl_Value)) (a1 : (List T_impl_Value) → Option Bool) : Option Int := slices_IndexFunc_impl_Value_impl_Value_s3_l0 a0 a1 FUEL 0
theorem ok_slices_IndexFunc_impl_Value_impl_Value_s3 {a0 : List (List T_impl_Value)} {g1 : FuncId} {c1 : List V} (hz1 : frzL c1 = true) {a1 : (List T_impl_Value) → Option Bool} (hp1 : ∀ x0 y, a1 x0 = some y → OK Try.prog g1 ([A x0] ++ c1) (B y)) {y : Int} (h : slices_IndexFunc_impl_Value_impl_Value_s3 a0 a1 = some y) : OK Try.prog 113 [A a0, .fn g1 c1] (I y) := by
 refine ow Try.func113 fun Γ hX => ?_
 unfold slices_IndexFunc_impl_Value_impl_Value_s3 at h
 refine srve 19 [(0, A a0), (1, .fn g1 c1)] [] ?_
 refine pwp_seq ?_
 refine srve 19 [(0, A a0), (1, .fn g1 c1), (7, I (a0.length : Int)), (8, I 0)] [] ?_
 refine pwp_block ?_
 refine pwp_loop (ι := Nat × Int) (fun (f2, x1) => (⟨19, [(0, A a0), (1, .fn g1 c1), (7, I (a0.length : Int)), (8, I x1)], []⟩ : St)) (fun (f2, x1) => slices_IndexFunc_impl_Value_impl_Value_s3_l0 a0 a1 f2 x1 = some y) Prod.fst (FUEL, 0) h (it [0, 1, 7, 8]) ?_
 rintro ⟨f2, x1⟩ h
 dsimp only at h ⊢
 rcases f2 with _ | f2
 cases h
 rw [slices_IndexFunc_impl_Value_impl_Value_s3_l0] at h
 refine srve 19 [(0, A a0), (1, .fn g1 c1), (7, I (a0.length : Int)), (8, I x1), (9, B (decide (x1 < (a0.length : Int))))] [] ?_
 refine pwp_seq ?_
 refine pc h (fun h => ?_) (fun h => ?_)
 refine pwp_skip ?_
 refine pwp_seq ?_
 refine pwp_block ?_
 refine srve 19 [(0, A a0), (1, .fn g1 c1), (5, I x1), (7, I (a0.length : Int)), (8, I x1)] [] ?_
 refine srv 3 19 [(0, A a0), (1, .fn g1 c1), (5, I x1), (7, I (a0.length : Int)), (8, I x1), (11, .fn g1 c1), (12, A a0), (13, I x1)] [] ?_
 obtain ⟨v5, hv6, h⟩ := bindS h
 refine opsP_idx τ_ok 14 hv6 (by kernel_rfl) ?_
 refine v 1 19 [(0, A a0), (1, .fn g1 c1), (5, I x1), (7, I (a0.length : Int)), (8, I x1), (11, .fn g1 c1), (15, A v5)] [] ?_
 obtain ⟨v7, hv8, h⟩ := bindS h
 refine opsP_callF τ 16 (hp1 _ _ hv8) (FzTo.frz rfl) (frz_app (xs := [A v5]) rfl hz1) (by kernel_rfl) ?_
 refine ve 0 19 [(0, A a0), (1, .fn g1 c1), (5, I x1), (7, I (a0.length : Int)), (8, I x1), (16, B v7)] [] ?_
 refine pc h (fun h => ?_) (fun h => ?_)
 refine srve 19 [(4, I x1)] [] ?_
 cases h
 exact pwp_ret rz
 refine pwp_skip ?_
 refine rve 19 [(0, A a0), (1, .fn g1 c1), (7, I (a0.length : Int)), (8, I (w64 (x1 + 1)))] [] ?_
 exact ⟨(f2, (w64 (x1 + 1))), h, Nat.lt_succ_self _, it [0, 1, 7, 8]⟩
 refine pwp_exit ?_
 refine srve 19 [(4, I (-1))] [] ?_
 cases h
 exact pwp_ret rz
def slices_Equal_impl_Value_impl_Value_l0 (a0 : List T_impl_Value) (a1 : List T_impl_Value) : Nat → Int → Option Bool
 | 0, _ => none
 | f3 + 1, x2 => bif (decide (x2 < (a0.length : Int))) then (getI a0 x2).bind fun v6 => (getI a1 x2).bind fun v8 => bif (!(eq_T_impl_Value v6 v8)) then some false else (slices_Equal_impl_Value_impl_Value_l0 a0 a1 f3) (w64 (x2 + 1)) else some true
def slices_Equal_impl_Value_impl_Value (a0 : List T_impl_Value) (a1 : List T_impl_Value) : Option Bool := bif (!((a0.length : Int) == (a1.length : Int))) then some false else slices_Equal_impl_Value_impl_Value_l0 a0 a1 FUEL 0
theorem ok_slices_Equal_impl_Value_impl_Value {a0 : List T_impl_Value} {a1 : List T_impl_Value} {y : Bool} (h : slices_Equal_impl_Value_impl_Value a0 a1 = some y) : OK Try.prog 115 [A a0, A a1] (B y) := by
 refine ow Try.func115 fun Γ hX => ?_
 unfold slices_Equal_impl_Value_impl_Value at h
 refine srve 26 [(0, A a0), (1, A a1)] [] ?_
 refine pwp_seq ?_
 refine srve 26 [(0, A a0), (1, A a1), (10, B (!((a0.length : Int) == (a1.length : Int))))] [] ?_
 refine pc h (fun h => ?_) (fun h => ?_)
 refine srve 26 [(4, B false)] [] ?_
 cases h
 exact pwp_ret rz
 refine pwp_skip ?_
 refine pwp_seq ?_
 refine srve 26 [(0, A a0), (1, A a1), (12, I (a0.length : Int)), (13, I 0)] [] ?_
 refine pwp_block ?_
 refine pwp_loop (ι := Nat × Int) (fun (f3, x2) => (⟨26, [(0, A a0), (1, A a1), (12, I (a0.length : Int)), (13, I x2)], []⟩ : St)) (fun (f3, x2) => slices_Equal_impl_Value_impl_Value_l0 a0 a1 f3 x2 = some y) Prod.fst (FUEL, 0) h (it [0, 1, 12, 13]) ?_
 rintro ⟨f3, x2⟩ h
 dsimp only at h ⊢
 rcases f3 with _ | f3
 cases h
 rw [slices_Equal_impl_Value_impl_Value_l0] at h
 refine srve 26 [(0, A a0), (1, A a1), (12, I (a0.length : Int)), (13, I x2), (14, B (decide (x2 < (a0.length : Int))))] [] ?_
 refine pwp_seq ?_
 refine pc h (fun h => ?_) (fun h => ?_)
 refine pwp_skip ?_
 refine pwp_seq ?_
 refine pwp_block ?_
 refine srve 26 [(0, A a0), (1, A a1), (5, I x2), (12, I (a0.length : Int)), (13, I x2)] [] ?_
 refine pwp_seq ?_
 refine ip 26 [(0, A a0), (1, A a1), (5, I x2), (12, I (a0.length : Int)), (13, I x2)] [] ?_
 refine pN 9 ?_
 refine qv [] trivial 2 26 [(17, I x2), (16, A a0), (0, A a0), (1, A a1), (5, I x2), (12, I (a0.length : Int)), (13, I x2)] [] ?_
 obtain ⟨v6, hv7, h⟩ := bindS h
 refine qX (some 18) (pf v6 0) 26 [(18, pf v6 0), (0, A a0), (1, A a1), (5, I x2), (12, I (a0.length : Int)), (13, I x2)] [] (fun Γ' hΓ => CoreE.of_y (idxV_sound τ_ok (by kernel_rfl) hv7)) trivial ?_
 refine qv [] trivial 3 26 [(21, I x2), (20, A a1), (19, E v6), (0, A a0), (1, A a1), (12, I (a0.length : Int)), (13, I x2)] [] ?_
 obtain ⟨v8, hv9, h⟩ := bindS h
 refine qX (some 22) (pf v8 0) 26 [(22, pf v8 0), (19, E v6), (0, A a0), (1, A a1), (12, I (a0.length : Int)), (13, I x2)] [] (fun Γ' hΓ => CoreE.of_y (idxV_sound τ_ok (by kernel_rfl) hv9)) trivial ?_
 refine qvn [] trivial 2 26 [(0, A a0), (1, A a1), (12, I (a0.length : Int)), (13, I x2), (24, B (!(eq_T_impl_Value v6 v8)))] [] ?_
 refine pc h (fun h => ?_) (fun h => ?_)
 refine srve 26 [(4, B false)] [] ?_
 cases h
 exact pwp_ret rz
 refine pwp_skip ?_
 refine rve 26 [(0, A a0), (1, A a1), (12, I (a0.length : Int)), (13, I (w64 (x2 + 1)))] [] ?_
 exact ⟨(f3, (w64 (x2 + 1))), h, Nat.lt_succ_self _, it [0, 1, 12, 13]⟩
 refine pwp_exit ?_
 refine srve 26 [(4, B true)] [] ?_
 cases h
 exact pwp_ret rz
def slices_BinarySearchFunc_impl_Tally_impl_Tally_impl_Value_s2_l0 (a0 : List T_impl_Tally) (a1 : List T_impl_Value) (a2 : T_impl_Tally → (List T_impl_Value) → Option Int) : Nat → Int → Int → Option (Int × Bool)
 | 0, _, _ => none
 | f3 + 1, x1, x2 => bif (decide (x1 < x2)) then (getI a0 (w64 (shrU (u64 (w64 (x1 + x2))) 1))).bind fun v6 => (a2 v6 a1).bind fun v8 => bif (decide (v8 < 0)) then (slices_BinarySearchFunc_impl_Tally_impl_Tally_impl_Value_s2_l0 a0 a1 a2 f3) (w64 ((w64 (shrU (u64 (w64 (x1 + x2))) 1)) + 1)) x2 else (slices_BinarySearchFunc_impl_Tally_impl_Tally_impl_Value_s2_l0 a0 a1 a2 f3) x1 (w64 (shrU (u64 (w64 (x1 + x2))) 1)) else bif (decide (x1 < (a0.length : Int))) then (getI a0 x1).bind fun v11 => (a2 v11 a1).bind fun v13 => some (x1, (v13 == 0)) else some (x1, false)
def slices_BinarySearchFunc_impl_Tally_impl_Tally_impl_Value_s2 (a0 : List T_impl_Tally) (a1 : List T_impl_Value) (a2 : T_impl_Tally → (List T_impl_Value) → Option Int) : Option (Int × Bool) := slices_BinarySearchFunc_impl_Tally_impl_Tally_impl_Value_s2_l0 a0 a1 a2 FUEL 0 (a0.length : Int)
theorem ok_slices_BinarySearchFunc_impl_Tally_impl_Tally_impl_Value_s2 {a0 : List T_impl_Tally} {a1 : List T_impl_Value} {g2 : FuncId} {c2 : List V} (hz2 : frzL c2 = true) {a2 : T_impl_Tally → (List T_impl_Value) → Option Int} (hp2 : ∀ x0 x1 y, a2 x0 x1 = some y → OK Try.prog g2 ([E x0, A x1] ++ c2) (I y)) {y : Int × Bool} (h : slices_BinarySearchFunc_impl_Tally_impl_Tally_impl_Value_s2 a0 a1 a2 = some y) : OK Try.prog 122 [A a0, A a1, .fn g2 c2] (.tup [I y.1, B y.2]) := by
 refine ow Try.func122 fun Γ hX => ?_
 unfold slices_BinarySearchFunc_impl_Tally_impl_Tally_impl_Value_s2 at h
 refine srve 49 [(0, A a0), (1, A a1), (2, .fn g2 c2)] [] ?_
 refine srve 49 [(0, A a0), (1, A a1), (2, .fn g2 c2), (8, I (a0.length : Int))] [] ?_
 refine srve 49 [(0, A a0), (1, A a1), (2, .fn g2 c2), (8, I (a0.length : Int)), (9, I 0), (10, I (a0.length : Int))] [] ?_
 refine pwp_seq ?_
 refine pwp_block ?_
 refine pwp_loop (ι := Nat × Int × Int) (fun (f3, x1, x2) => (⟨49, [(0, A a0), (1, A a1), (2, .fn g2 c2), (8, I (a0.length : Int)), (9, I x1), (10, I x2)], []⟩ : St)) (fun (f3, x1, x2) => slices_BinarySearchFunc_impl_Tally_impl_Tally_impl_Value_s2_l0 a0 a1 a2 f3 x1 x2 = some y) Prod.fst (FUEL, 0, (a0.length : Int)) h (it [0, 1, 2, 8, 9, 10]) ?_
 rintro ⟨f3, x1, x2⟩ h
 dsimp only at h ⊢
 rcases f3 with _ | f3
 cases h
 rw [slices_BinarySearchFunc_impl_Tally_impl_Tally_impl_Value_s2_l0] at h
 refine pwp_seq ?_
 refine srve 49 [(0, A a0), (1, A a1), (2, .fn g2 c2), (8, I (a0.length : Int)), (9, I x1), (10, I x2), (17, B (decide (x1 < x2)))] [] ?_
 refine pc h (fun h => ?_) (fun h => ?_)
 refine pwp_skip ?_
 refine pwp_block ?_
 refine srve 49 [(0, A a0), (1, A a1), (2, .fn g2 c2), (8, I (a0.length : Int)), (9, I x1), (10, I x2), (11, I (w64 (shrU (u64 (w64 (x1 + x2))) 1)))] [] ?_
 refine srv 3 49 [(0, A a0), (1, A a1), (2, .fn g2 c2), (8, I (a0.length : Int)), (9, I x1), (10, I x2), (11, I (w64 (shrU (u64 (w64 (x1 + x2))) 1))), (24, .fn g2 c2), (25, A a0), (26, I (w64 (shrU (u64 (w64 (x1 + x2))) 1)))] [] ?_
 obtain ⟨v6, hv7, h⟩ := bindS h
 refine opsP_idx τ_ok 27 hv7 (by kernel_rfl) ?_
 refine v 2 49 [(0, A a0), (1, A a1), (2, .fn g2 c2), (8, I (a0.length : Int)), (9, I x1), (10, I x2), (11, I (w64 (shrU (u64 (w64 (x1 + x2))) 1))), (24, .fn g2 c2), (28, E v6), (29, A a1)] [] ?_
 obtain ⟨v8, hv9, h⟩ := bindS h
 refine opsP_callF τ 30 (hp2 _ _ _ hv9) (FzTo.frz rfl) (frz_app (xs := [E v6, A a1]) rfl hz2) (by kernel_rfl) ?_
 refine ve 1 49 [(0, A a0), (1, A a1), (2, .fn g2 c2), (8, I (a0.length : Int)), (9, I x1), (10, I x2), (11, I (w64 (shrU (u64 (w64 (x1 + x2))) 1))), (31, B (decide (v8 < 0)))] [] ?_
 refine pc h (fun h => ?_) (fun h => ?_)
 refine rve 49 [(0, A a0), (1, A a1), (2, .fn g2 c2), (8, I (a0.length : Int)), (9, I (w64 ((w64 (shrU (u64 (w64 (x1 + x2))) 1)) + 1))), (10, I x2)] [] ?_
 exact ⟨(f3, (w64 ((w64 (shrU (u64 (w64 (x1 + x2))) 1)) + 1)), x2), h, Nat.lt_succ_self _, it [0, 1, 2, 8, 9, 10]⟩
 refine rve 49 [(0, A a0), (1, A a1), (2, .fn g2 c2), (8, I (a0.length : Int)), (9, I x1), (10, I (w64 (shrU (u64 (w64 (x1 + x2))) 1)))] [] ?_
 exact ⟨(f3, x1, (w64 (shrU (u64 (w64 (x1 + x2))) 1))), h, Nat.lt_succ_self _, it [0, 1, 2, 8, 9, 10]⟩
 refine pwp_exit ?_
 refine srv 5 49 [(0, A a0), (1, A a1), (2, .fn g2 c2), (9, I x1), (35, I x1), (39, B (decide (x1 < (a0.length : Int))))] [] ?_
 rcases fk (decide (x1 < (a0.length : Int))) with hc15 | hc15
 replace h := bT hc15 h
 rw [hc15]
 refine v 3 49 [(1, A a1), (35, I x1), (39, B true), (40, .fn g2 c2), (41, A a0), (42, I x1)] [] ?_
 obtain ⟨v11, hv12, h⟩ := bindS h
 refine opsP_idx τ_ok 43 hv12 (by kernel_rfl) ?_
 refine v 2 49 [(35, I x1), (39, B true), (40, .fn g2 c2), (44, E v11), (45, A a1)] [] ?_
 obtain ⟨v13, hv14, h⟩ := bindS h
 refine opsP_callF τ 46 (hp2 _ _ _ hv14) (FzTo.frz rfl) (frz_app (xs := [E v11, A a1]) rfl hz2) (by kernel_rfl) ?_
 refine ve 4 49 [(6, I x1), (7, B (v13 == 0))] [] ?_
 have h := si h
 subst h
 exact pwp_ret (rt (.tup [I x1, B (v13 == 0)]) (OutP.tup (OutL.cons (OutP.frz (by kernel_rfl)) (OutL.cons (OutP.frz (by kernel_rfl)) (OutL.nil _)))))
 replace h := bF hc15 h
 rw [hc15]
 refine ve 11 49 [(6, I x1), (7, B false)] [] ?_
 have h := si h
 subst h
 exact pwp_ret (rt (.tup [I x1, B false]) (OutP.tup (OutL.cons (OutP.frz (by kernel_rfl)) (OutL.cons (OutP.frz (by kernel_rfl)) (OutL.nil _)))))
def slices_Clip_impl_Tally_impl_Tally (a0 : List T_impl_Tally) : Option (List T_impl_Tally) := (slI a0 none (some (a0.length : Int)) (some (a0.length : Int))).bind fun v1 => some v1
theorem ok_slices_Clip_impl_Tally_impl_Tally {a0 : List T_impl_Tally} {y : List T_impl_Tally} (h : slices_Clip_impl_Tally_impl_Tally a0 = some y) : OK Try.prog 126 [A a0] (A y) := by
 refine ow Try.func126 fun Γ hX => ?_
 unfold slices_Clip_impl_Tally_impl_Tally at h
 refine srve 9 [(0, A a0)] [] ?_
 refine srv 5 9 [(3, A a0), (5, I (a0.length : Int)), (7, I (a0.length : Int))] [] ?_
 obtain ⟨v1, hv2, h⟩ := bindS h
 refine opsP_slc τ_ok 8 hv2 (by kernel_rfl) ?_
 refine ve 1 9 [(2, A v1)] [] ?_
 cases h
 exact pwp_ret rz
def spec_l20Rd_odd (a0 : T_spec_l20Rd) (a1 : Int) : Option (Bool × T_spec_l20Rd) := bif (decide (a1 > 0)) then (spec_l20Rd_pick a0 a1).bind fun v1 => some ((v1.1 == (w64 (a1 - 1))), v1.2) else some (false, a0)
theorem ok_spec_l20Rd_odd {a0 : T_spec_l20Rd} {a1 : Int} {y : Bool × T_spec_l20Rd} (h : spec_l20Rd_odd a0 a1 = some y) : OKb Try.prog 134 (Enc.cells a0) [I a1] (B y.1) (Enc.cells y.2) := by
 refine OKb_of_pwp τ_ok Try.func134 rfl (by kernel_rfl) rfl (Enc.frz _) (Enc.frz _) fun Γ hQ => ?_
 unfold spec_l20Rd_odd at h
 refine srve 15 [(0, .ptr 0 0 0), (1, I a1)] [sc 0 a0] ?_
 refine srv 3 15 [(0, .ptr 0 0 0), (1, I a1), (7, B (decide (a1 > 0)))] [sc 0 a0] ?_
 rcases fk (decide (a1 > 0)) with hc3 | hc3
 replace h := bT hc3 h
 rw [hc3]
 refine v 2 15 [(1, I a1), (7, B true), (8, .ptr 0 0 0), (9, I a1)] [sc 0 a0] ?_
 obtain ⟨v1, hv2, h⟩ := bindS h
 refine cB 10 0 0 (ok_spec_l20Rd_pick hv2) ?_
 refine ve 5 15 [(4, B (v1.1 == (w64 (a1 - 1))))] [sc 0 v1.2] ?_
 have h := si h
 subst h
 exact pwp_ret ⟨.inr rfl, B (v1.1 == (w64 (a1 - 1))), _, 0, by kernel_rfl, (OutP.frz (by kernel_rfl)), by decide, by decide, by kernel_rfl⟩
 replace h := bF hc3 h
 rw [hc3]
 refine ve 8 15 [(4, B false)] [sc 0 a0] ?_
 have h := si h
 subst h
 exact pwp_ret ⟨.inr rfl, B false, _, 0, by kernel_rfl, (OutP.frz (by kernel_rfl)), by decide, by decide, by kernel_rfl⟩
def cmp_Or_int_l0 (a0 : List Int) : Nat → Int → Option Int
 | 0, _ => none
 | f2 + 1, x1 => bif (decide (x1 < (a0.length : Int))) then (getI a0 x1).bind fun v5 => bif (!(v5 == 0)) then some v5 else (cmp_Or_int_l0 a0 f2) (w64 (x1 + 1)) else some 0
def cmp_Or_int (a0 : List Int) : Option Int := cmp_Or_int_l0 a0 FUEL 0
theorem ok_cmp_Or_int {a0 : List Int} {y : Int} (h : cmp_Or_int a0 = some y) : OK Try.prog 150 [A a0] (I y) := by
 refine ow Try.func150 fun Γ hX => ?_
 unfold cmp_Or_int at h
 refine srve 18 [(0, A a0)] [] ?_
 refine srve 18 [(0, A a0), (3, I 0)] [] ?_
 refine pwp_seq ?_
 refine srve 18 [(3, I 0), (6, A a0), (7, I (a0.length : Int)), (8, I 0)] [] ?_
 refine pwp_block ?_
 refine pwp_loop (ι := Nat × Int) (fun (f2, x1) => (⟨18, [(3, I 0), (6, A a0), (7, I (a0.length : Int)), (8, I x1)], []⟩ : St)) (fun (f2, x1) => cmp_Or_int_l0 a0 f2 x1 = some y) Prod.fst (FUEL, 0) h (it [3, 6, 7, 8]) ?_
 rintro ⟨f2, x1⟩ h
 dsimp only at h ⊢
 rcases f2 with _ | f2
 cases h
 rw [cmp_Or_int_l0] at h
 refine srve 18 [(3, I 0), (6, A a0), (7, I (a0.length : Int)), (8, I x1), (9, B (decide (x1 < (a0.length : Int))))] [] ?_
 refine pwp_seq ?_
 refine pc h (fun h => ?_) (fun h => ?_)
 refine pwp_skip ?_
 refine pwp_seq ?_
 refine pwp_block ?_
 refine pwp_seq ?_
 refine pwp_region ?_
 obtain ⟨v5, hv6, h⟩ := bindS h
 refine opsP_idx τ_ok 10 hv6 (by kernel_rfl) ?_
 refine ve 2 18 [(3, I 0), (5, I v5), (6, A a0), (7, I (a0.length : Int)), (8, I x1)] [] ?_
 refine srve 18 [(3, I 0), (5, I v5), (6, A a0), (7, I (a0.length : Int)), (8, I x1), (14, B (!(v5 == 0)))] [] ?_
 refine pc h (fun h => ?_) (fun h => ?_)
 refine srve 18 [(2, I v5)] [] ?_
 cases h
 exact pwp_ret rz
 refine pwp_skip ?_
 refine rve 18 [(3, I 0), (6, A a0), (7, I (a0.length : Int)), (8, I (w64 (x1 + 1)))] [] ?_
 exact ⟨(f2, (w64 (x1 + 1))), h, Nat.lt_succ_self _, it [3, 6, 7, 8]⟩
 refine pwp_exit ?_
 refine srve 18 [(2, I 0)] [] ?_
 cases h
 exact pwp_ret rz
def slices_CompareFunc_impl_Value_impl_Value_impl_Value_impl_Value_s2_l0 (a0 : List T_impl_Value) (a1 : List T_impl_Value) (a2 : T_impl_Value → T_impl_Value → Option Int) : Nat → Int → Option Int
 | 0, _ => none
 | f2 + 1, x1 => bif (decide (x1 < (a0.length : Int))) then (getI a0 x1).bind fun v5 => bif (decide (x1 ≥ (a1.length : Int))) then some 1 else (getI a1 x1).bind fun v8 => (a2 v5 v8).bind fun v10 => bif (!(v10 == 0)) then some v10 else (slices_CompareFunc_impl_Value_impl_Value_impl_Value_impl_Value_s2_l0 a0 a1 a2 f2) (w64 (x1 + 1)) else bif (decide ((a0.length : Int) < (a1.length : Int))) then some (-1) else some 0
def slices_CompareFunc_impl_Value_impl_Value_impl_Value_impl_Value_s2 (a0 : List T_impl_Value) (a1 : List T_impl_Value) (a2 : T_impl_Value → T_impl_Value → Option Int) : Option Int := slices_CompareFunc_impl_Value_impl_Value_impl_Value_impl_Value_s2_l0 a0 a1 a2 FUEL 0
theorem ok_slices_CompareFunc_impl_Value_impl_Value_impl_Value_impl_Value_s2 {a0 : List T_impl_Value} {a1 : List T_impl_Value} {g2 : FuncId} {c2 : List V} (hz2 : frzL c2 = true) {a2 : T_impl_Value → T_impl_Value → Option Int} (hp2 : ∀ x0 x1 y, a2 x0 x1 = some y → OK Try.prog g2 ([E x0, E x1] ++ c2) (I y)) {y : Int} (h : slices_CompareFunc_impl_Value_impl_Value_impl_Value_impl_Value_s2 a0 a1 a2 = some y) : OK Try.prog 151 [A a0, A a1, .fn g2 c2] (I y) := by
 refine ow Try.func151 fun Γ hX => ?_
 unfold slices_CompareFunc_impl_Value_impl_Value_impl_Value_impl_Value_s2 at h
 refine srveM [8, 9] 39 [(0, A a0), (1, A a1), (2, .fn g2 c2)] [] ?_
 refine pwp_seq ?_
 refine srveM [8, 9] 39 [(0, A a0), (1, A a1), (2, .fn g2 c2), (11, A a0), (12, I (a0.length : Int)), (13, I 0)] [] ?_
 refine pwp_block ?_
 refine pwp_loop (ι := Nat × Int) (fun (f2, x1) => (⟨39, [(0, A a0), (1, A a1), (2, .fn g2 c2), (11, A a0), (12, I (a0.length : Int)), (13, I x1)], []⟩ : St)) (fun (f2, x1) => slices_CompareFunc_impl_Value_impl_Value_impl_Value_impl_Value_s2_l0 a0 a1 a2 f2 x1 = some y) Prod.fst (FUEL, 0) h (it [0, 1, 2, 11, 12, 13]) ?_
 rintro ⟨f2, x1⟩ h
 dsimp only at h ⊢
 rcases f2 with _ | f2
 cases h
 rw [slices_CompareFunc_impl_Value_impl_Value_impl_Value_impl_Value_s2_l0] at h
 refine srveM [8, 9] 39 [(0, A a0), (1, A a1), (2, .fn g2 c2), (11, A a0), (12, I (a0.length : Int)), (13, I x1), (14, B (decide (x1 < (a0.length : Int))))] [] ?_
 refine pwp_seq ?_
 refine pc h (fun h => ?_) (fun h => ?_)
 refine pwp_skip ?_
 refine pwp_seq ?_
 refine pwp_block ?_
 refine srvM [8, 9] 1 39 [(0, A a0), (1, A a1), (2, .fn g2 c2), (11, A a0), (12, I (a0.length : Int)), (13, I x1), (15, I x1)] [] ?_
 obtain ⟨v5, hv6, h⟩ := bindS h
 refine opsP_idx τ_ok 16 hv6 (by kernel_rfl) ?_
 refine veM [8, 9] 4 39 [(0, A a0), (1, A a1), (2, .fn g2 c2), (7, I x1), (8, .ptr 0 0 0), (11, A a0), (12, I (a0.length : Int)), (13, I x1)] [sc 0 v5] ?_
 refine pwp_seq ?_
 refine srveM [8, 9] 39 [(0, A a0), (1, A a1), (2, .fn g2 c2), (7, I x1), (8, .ptr 0 0 0), (11, A a0), (12, I (a0.length : Int)), (13, I x1), (21, B (decide (x1 ≥ (a1.length : Int))))] [sc 0 v5] ?_
 refine pc h (fun h => ?_) (fun h => ?_)
 refine srveM [8, 9] 39 [(6, I 1)] [sc 0 v5] ?_
 cases h
 exact pwp_ret rz
 refine pwp_skip ?_
 refine srvM [8, 9] 2 39 [(0, A a0), (1, A a1), (2, .fn g2 c2), (8, .ptr 0 0 0), (11, A a0), (12, I (a0.length : Int)), (13, I x1), (22, A a1), (23, I x1)] [sc 0 v5] ?_
 obtain ⟨v8, hv9, h⟩ := bindS h
 refine opsP_idx τ_ok 24 hv9 (by kernel_rfl) ?_
 refine veM [8, 9] 3 39 [(0, A a0), (1, A a1), (2, .fn g2 c2), (8, .ptr 0 0 0), (9, .ptr 1 0 0), (11, A a0), (12, I (a0.length : Int)), (13, I x1)] [sc 0 v5, sc 0 v8] ?_
 refine srvM [8, 9] 3 39 [(0, A a0), (1, A a1), (2, .fn g2 c2), (11, A a0), (12, I (a0.length : Int)), (13, I x1), (26, .fn g2 c2), (27, E v5), (28, E v8)] [sc 0 v5, sc 0 v8] ?_
 obtain ⟨v10, hv11, h⟩ := bindS h
 refine opsP_callF τ 29 (hp2 _ _ _ hv11) (FzTo.frz rfl) (frz_app (xs := [E v5, E v8]) rfl hz2) (by kernel_rfl) ?_
 refine veM [8, 9] 1 39 [(0, A a0), (1, A a1), (2, .fn g2 c2), (10, I v10), (11, A a0), (12, I (a0.length : Int)), (13, I x1)] [sc 0 v5, sc 0 v8] ?_
 refine srveM [8, 9] 39 [(0, A a0), (1, A a1), (2, .fn g2 c2), (10, I v10), (11, A a0), (12, I (a0.length : Int)), (13, I x1), (31, B (!(v10 == 0)))] [sc 0 v5, sc 0 v8] ?_
 refine pc h (fun h => ?_) (fun h => ?_)
 refine srveM [8, 9] 39 [(6, I v10)] [sc 0 v5, sc 0 v8] ?_
 cases h
 exact pwp_ret rz
 refine pwp_skip ?_
 refine rveM [8, 9] 39 [(0, A a0), (1, A a1), (2, .fn g2 c2), (11, A a0), (12, I (a0.length : Int)), (13, I (w64 (x1 + 1)))] [sc 0 v5, sc 0 v8] ?_
 exact ⟨(f2, (w64 (x1 + 1))), h, Nat.lt_succ_self _, (it (st' := ⟨39, [(0, A a0), (1, A a1), (2, .fn g2 c2), (11, A a0), (12, I (a0.length : Int)), (13, I (w64 (x1 + 1)))], [sc 0 v5, sc 0 v8]⟩) [0, 1, 2, 11, 12, 13]).trans (Imp.truncS 0 (nx hX) (by kernel_rfl) (allBelow_mem (by exact (And.intro rfl (And.intro rfl (And.intro (below_frz (show frz (.fn g2 c2) = true from hz2)) (And.intro rfl (And.intro rfl (And.intro rfl trivial)))))))) (by exact trivial) (by kernel_rfl))⟩
 refine pwp_exit ?_
 refine pwp_seq ?_
 refine srveM [8, 9] 39 [(38, B (decide ((a0.length : Int) < (a1.length : Int))))] [] ?_
 refine pc h (fun h => ?_) (fun h => ?_)
 refine srveM [8, 9] 39 [(6, I (-1))] [] ?_
 cases h
 exact pwp_ret rz
 refine pwp_skip ?_
 refine srveM [8, 9] 39 [(6, I 0)] [] ?_
 cases h
 exact pwp_ret rz
def spec_l1Text_j1 (x1 : Int) (K3 : Int → Option Bool) (x5 : Bool) : Option Bool := bif x5 then some false else K3 (w64 (x1 + 1))
def spec_l1Text_l0 (a0 : ByteArray) : Nat → Int → Option Bool
 | 0, _ => none
 | f2 + 1, x1 => bif (decide (x1 < (a0.size : Int))) then (getB a0 x1).bind fun v7 => bif (decide ((v7.toNat : Int) < 97)) then spec_l1Text_j1 x1 (spec_l1Text_l0 a0 f2) true else (getB a0 x1).bind fun v9 => spec_l1Text_j1 x1 (spec_l1Text_l0 a0 f2) (decide ((v9.toNat : Int) > 122)) else some (decide ((a0.size : Int) ≤ 6))
def spec_l1Text (a0 : ByteArray) : Option Bool := spec_l1Text_l0 a0 FUEL 0
theorem ok_spec_l1Text {a0 : ByteArray} {y : Bool} (h : spec_l1Text a0 = some y) : OK Try.prog 154 [S a0] (B y) := by
 refine ow Try.func154 fun Γ hX => ?_
 unfold spec_l1Text at h
 refine srve 23 [(0, S a0)] [] ?_
 refine pwp_seq ?_
 refine srve 23 [(0, S a0), (3, I 0)] [] ?_
 refine pwp_block ?_
 refine pwp_loop (ι := Nat × Int) (fun (f2, x1) => (⟨23, [(0, S a0), (3, I x1)], []⟩ : St)) (fun (f2, x1) => spec_l1Text_l0 a0 f2 x1 = some y) Prod.fst (FUEL, 0) h (it [0, 3]) ?_
 rintro ⟨f2, x1⟩ h
 dsimp only at h ⊢
 rcases f2 with _ | f2
 cases h
 rw [spec_l1Text_l0] at h
 refine pwp_seq ?_
 refine srve 23 [(0, S a0), (3, I x1), (7, B (decide (x1 < (a0.size : Int))))] [] ?_
 refine pc h (fun h => ?_) (fun h => ?_)
 refine pwp_skip ?_
 refine pwp_seq ?_
 refine pwp_block ?_
 refine pwp_seq ?_
 refine pwp_join (σ := Bool) (fun x5 => (⟨23, [(0, S a0), (3, I x1), (19, B x5)], []⟩ : St)) (fun x5 => spec_l1Text_j1 x1 (spec_l1Text_l0 a0 f2) x5 = some y) ?_ ?_
 refine rv 2 23 [(0, S a0), (3, I x1), (10, S a0), (11, I x1)] [] ?_
 obtain ⟨v7, hv8, h⟩ := bindS h
 refine opsP_byt τ_ok 12 hv8 (by kernel_rfl) ?_
 refine v 2 23 [(0, S a0), (3, I x1), (14, B (decide ((v7.toNat : Int) < 97)))] [] ?_
 rcases fk (decide ((v7.toNat : Int) < 97)) with hc11 | hc11
 replace h := bT hc11 h
 rw [hc11]
 refine ve 5 23 [(0, S a0), (3, I x1), (15, .lit undef), (16, .lit undef), (17, .lit undef), (18, .lit undef), (19, B true)] [] ?_
 exact ⟨true, h, it [0, 3, 19]⟩
 replace h := bF hc11 h
 rw [hc11]
 refine v 2 23 [(0, S a0), (3, I x1), (14, B false), (15, S a0), (16, I x1)] [] ?_
 obtain ⟨v9, hv10, h⟩ := bindS h
 refine opsP_byt τ_ok 17 hv10 (by kernel_rfl) ?_
 refine ve 2 23 [(0, S a0), (3, I x1), (15, S a0), (16, I x1), (17, .lit (.int .u8 (v9).toNat)), (18, B (decide ((v9.toNat : Int) > 122))), (19, B (decide ((v9.toNat : Int) > 122)))] [] ?_
 exact ⟨(decide ((v9.toNat : Int) > 122)), h, it [0, 3, 19]⟩
 rintro x5 h
 unfold spec_l1Text_j1 at h
 refine pc h (fun h => ?_) (fun h => ?_)
 refine srve 23 [(2, B false)] [] ?_
 cases h
 exact pwp_ret rz
 refine pwp_skip ?_
 refine rve 23 [(0, S a0), (3, I (w64 (x1 + 1)))] [] ?_
 exact ⟨(f2, (w64 (x1 + 1))), h, Nat.lt_succ_self _, it [0, 3]⟩
 refine pwp_exit ?_
 refine srve 23 [(2, B (decide ((a0.size : Int) ≤ 6)))] [] ?_
 cases h
 exact pwp_ret rz
def slices_IndexFunc_impl_Value_impl_Value_l0 (a0 : List T_impl_Value) (a1 : T_impl_Value → Option Bool) : Nat → Int → Option Int
 | 0, _ => none
 | f2 + 1, x1 => bif (decide (x1 < (a0.length : Int))) then (getI a0 x1).bind fun v5 => (a1 v5).bind fun v7 => bif v7 then some x1 else (slices_IndexFunc_impl_Value_impl_Value_l0 a0 a1 f2) (w64 (x1 + 1)) else some (-1)
def slices_IndexFunc_impl_Value_impl_Value (a0 : List T_impl_Value) (a1 : T_impl_Value → Option Bool) : Option Int := slices_IndexFunc_impl_Value_impl_Value_l0 a0 a1 FUEL 0
theorem ok_slices_IndexFunc_impl_Value_impl_Value {a0 : List T_impl_Value} {g1 : FuncId} {c1 : List V} (hz1 : frzL c1 = true) {a1 : T_impl_Value → Option Bool} (hp1 : ∀ x0 y, a1 x0 = some y → OK Try.prog g1 ([E x0] ++ c1) (B y)) {y : Int} (h : slices_IndexFunc_impl_Value_impl_Value a0 a1 = some y) : OK Try.prog 155 [A a0, .fn g1 c1] (I y) := by
 refine ow Try.func155 fun Γ hX => ?_
 unfold slices_IndexFunc_impl_Value_impl_Value at h
 refine srve 19 [(0, A a0), (1, .fn g1 c1)] [] ?_
 refine pwp_seq ?_
 refine srve 19 [(0, A a0), (1, .fn g1 c1), (7, I (a0.length : Int)), (8, I 0)] [] ?_
 refine pwp_block ?_
 refine pwp_loop (ι := Nat × Int) (fun (f2, x1) => (⟨19, [(0, A a0), (1, .fn g1 c1), (7, I (a0.length : Int)), (8, I x1)], []⟩ : St)) (fun (f2, x1) => slices_IndexFunc_impl_Value_impl_Value_l0 a0 a1 f2 x1 = some y) Prod.fst (FUEL, 0) h (it [0, 1, 7, 8]) ?_
 rintro ⟨f2, x1⟩ h
 dsimp only at h ⊢
 rcases f2 with _ | f2
 cases h
 rw [slices_IndexFunc_impl_Value_impl_Value_l0] at h
 refine srve 19 [(0, A a0), (1, .fn g1 c1), (7, I (a0.length : Int)), (8, I x1), (9, B (decide (x1 < (a0.length : Int))))] [] ?_
 refine pwp_seq ?_
 refine pc h (fun h => ?_) (fun h => ?_)
 refine pwp_skip ?_
 refine pwp_seq ?_
 refine pwp_block ?_
 refine srve 19 [(0, A a0), (1, .fn g1 c1), (5, I x1), (7, I (a0.length : Int)), (8, I x1)] [] ?_
 refine srv 3 19 [(0, A a0), (1, .fn g1 c1), (5, I x1), (7, I (a0.length : Int)), (8, I x1), (11, .fn g1 c1), (12, A a0), (13, I x1)] [] ?_
 obtain ⟨v5, hv6, h⟩ := bindS h
 refine opsP_idx τ_ok 14 hv6 (by kernel_rfl) ?_
 refine v 1 19 [(0, A a0), (1, .fn g1 c1), (5, I x1), (7, I (a0.length : Int)), (8, I x1), (11, .fn g1 c1), (15, E v5)] [] ?_
 obtain ⟨v7, hv8, h⟩ := bindS h
 refine opsP_callF τ 16 (hp1 _ _ hv8) (FzTo.frz rfl) (frz_app (xs := [E v5]) rfl hz1) (by kernel_rfl) ?_
 refine ve 0 19 [(0, A a0), (1, .fn g1 c1), (5, I x1), (7, I (a0.length : Int)), (8, I x1), (16, B v7)] [] ?_
 refine pc h (fun h => ?_) (fun h => ?_)
 refine srve 19 [(4, I x1)] [] ?_
 cases h
 exact pwp_ret rz
 refine pwp_skip ?_
 refine rve 19 [(0, A a0), (1, .fn g1 c1), (7, I (a0.length : Int)), (8, I (w64 (x1 + 1)))] [] ?_
 exact ⟨(f2, (w64 (x1 + 1))), h, Nat.lt_succ_self _, it [0, 1, 7, 8]⟩
 refine pwp_exit ?_
 refine srve 19 [(4, I (-1))] [] ?_
 cases h
 exact pwp_ret rz
def impl_letters_l0 (v1 : List UInt8) : Nat → Int → Option Bool
 | 0, _ => none
 | f4 + 1, x3 => bif (decide (x3 < (v1.length : Int))) then (getI v1 x3).bind fun v7 => (impl_between (w64 (v7.toNat : Int)) 97 122).bind fun v9 => bif (!v9) then some false else (impl_letters_l0 v1 f4) (w64 (x3 + 1)) else some true
def impl_letters (a0 : ByteArray) : Option Bool := (bytesOf a0).bind fun v1 => impl_letters_l0 v1 FUEL 0
theorem ok_impl_letters {a0 : ByteArray} {y : Bool} (h : impl_letters a0 = some y) : OK Try.prog 156 [S a0] (B y) := by
 refine ow Try.func156 fun Γ hX => ?_
 unfold impl_letters at h
 refine srve 17 [(0, S a0)] [] ?_
 refine pwp_seq ?_
 refine srv 1 17 [(5, S a0)] [] ?_
 obtain ⟨v1, hv2, h⟩ := bindS h
 refine opsP_cvb τ_ok 6 hv2 (by kernel_rfl) ?_
 refine ve 2 17 [(6, A v1), (7, I (v1.length : Int)), (8, I 0)] [] ?_
 refine pwp_block ?_
 refine pwp_loop (ι := Nat × Int) (fun (f4, x3) => (⟨17, [(6, A v1), (7, I (v1.length : Int)), (8, I x3)], []⟩ : St)) (fun (f4, x3) => impl_letters_l0 v1 f4 x3 = some y) Prod.fst (FUEL, 0) h (it [6, 7, 8]) ?_
 rintro ⟨f4, x3⟩ h
 dsimp only at h ⊢
 rcases f4 with _ | f4
 cases h
 rw [impl_letters_l0] at h
 refine srve 17 [(6, A v1), (7, I (v1.length : Int)), (8, I x3), (9, B (decide (x3 < (v1.length : Int))))] [] ?_
 refine pwp_seq ?_
 refine pc h (fun h => ?_) (fun h => ?_)
 refine pwp_skip ?_
 refine pwp_seq ?_
 refine pwp_block ?_
 refine pwp_seq ?_
 refine pwp_region ?_
 obtain ⟨v7, hv8, h⟩ := bindS h
 refine opsP_idx τ_ok 10 hv8 (by kernel_rfl) ?_
 refine ve 2 17 [(4, .lit (.int .u8 (v7).toNat)), (6, A v1), (7, I (v1.length : Int)), (8, I x3)] [] ?_
 refine srv 2 17 [(6, A v1), (7, I (v1.length : Int)), (8, I x3), (13, I (w64 (v7.toNat : Int)))] [] ?_
 obtain ⟨v9, hv10, h⟩ := bindS h
 refine cF 14 (ok_impl_between hv10) ?_
 refine ve 1 17 [(6, A v1), (7, I (v1.length : Int)), (8, I x3), (15, B (!v9))] [] ?_
 refine pc h (fun h => ?_) (fun h => ?_)
 refine srve 17 [(2, B false)] [] ?_
 cases h
 exact pwp_ret rz
 refine pwp_skip ?_
 refine rve 17 [(6, A v1), (7, I (v1.length : Int)), (8, I (w64 (x3 + 1)))] [] ?_
 exact ⟨(f4, (w64 (x3 + 1))), h, Nat.lt_succ_self _, it [6, 7, 8]⟩
 refine pwp_exit ?_
 refine srve 17 [(2, B true)] [] ?_
 cases h
 exact pwp_ret rz
def slices_Clip_impl_Value_impl_Value (a0 : List T_impl_Value) : Option (List T_impl_Value) := (slI a0 none (some (a0.length : Int)) (some (a0.length : Int))).bind fun v1 => some v1
theorem ok_slices_Clip_impl_Value_impl_Value {a0 : List T_impl_Value} {y : List T_impl_Value} (h : slices_Clip_impl_Value_impl_Value a0 = some y) : OK Try.prog 158 [A a0] (A y) := by
 refine ow Try.func158 fun Γ hX => ?_
 unfold slices_Clip_impl_Value_impl_Value at h
 refine srve 9 [(0, A a0)] [] ?_
 refine srv 5 9 [(3, A a0), (5, I (a0.length : Int)), (7, I (a0.length : Int))] [] ?_
 obtain ⟨v1, hv2, h⟩ := bindS h
 refine opsP_slc τ_ok 8 hv2 (by kernel_rfl) ?_
 refine ve 1 9 [(2, A v1)] [] ?_
 cases h
 exact pwp_ret rz
def spec_l1Less (a0 : Int) (a1 : Int) : Option Int := bif (decide (a0 < a1)) then some 1 else some 0
theorem ok_spec_l1Less {a0 : Int} {a1 : Int} {y : Int} (h : spec_l1Less a0 a1 = some y) : OK Try.prog 160 [I a0, I a1] (I y) := by
 refine ow Try.func160 fun Γ hX => ?_
 unfold spec_l1Less at h
 refine srve 8 [(0, I a0), (1, I a1)] [] ?_
 refine pwp_seq ?_
 refine srve 8 [(7, B (decide (a0 < a1)))] [] ?_
 refine pc h (fun h => ?_) (fun h => ?_)
 refine srve 8 [(4, I 1)] [] ?_
 cases h
 exact pwp_ret rz
 refine pwp_skip ?_
 refine srve 8 [(4, I 0)] [] ?_
 cases h
 exact pwp_ret rz
def spec_l20Like_j0 (a1 : T_impl_Column) (x1 : Bool) (x2 : T_spec_l20Rd) : Option (T_impl_Value × T_spec_l20Rd) := bif x1 then some ((T_impl_Value.mk 0 0 (ByteArray.mk #[])), x2) else bif (a1.fKind == 1) then (spec_l20Rd_pick x2 4).bind fun v5 => some ((T_impl_Value.mk 1 v5.1 (ByteArray.mk #[])), v5.2) else bif (a1.fKind == 2) then (spec_l20Rd_pick x2 4).bind fun v8 => (getI ([(ByteArray.mk #[]), (ByteArray.mk #[97]), (ByteArray.mk #[98]), (ByteArray.mk #[97, 98])] : List ByteArray) v8.1).bind fun v10 => some ((T_impl_Value.mk 2 0 v10), v8.2) else (spec_l20Rd_pick x2 2).bind fun v12 => some ((T_impl_Value.mk 3 v12.1 (ByteArray.mk #[])), v12.2)
def spec_l20Like (a0 : T_spec_l20Rd) (a1 : T_impl_Column) : Option (T_impl_Value × T_spec_l20Rd) := bif a1.fEmpty then (spec_l20Rd_pick a0 5).bind fun v14 => spec_l20Like_j0 a1 (v14.1 == 0) v14.2 else spec_l20Like_j0 a1 false a0
theorem ok_spec_l20Like {a0 : T_spec_l20Rd} {a1 : T_impl_Column} {y : T_impl_Value × T_spec_l20Rd} (h : spec_l20Like a0 a1 = some y) : OKb Try.prog 185 (Enc.cells a0) [E a1] (E y.1) (Enc.cells y.2) := by
 refine OKb_of_pwp τ_ok Try.func185 rfl (by kernel_rfl) rfl (Enc.frz _) (Enc.frz _) fun Γ hQ => ?_
 unfold spec_l20Like at h
 refine srveM [4] 31 [(0, .ptr 0 0 0), (3, pf a1 0), (4, .ptr 1 0 0)] [sc 0 a0, some ⟨0, Enc.cells (T_impl_Value.mk 0 0 (ByteArray.mk #[]))⟩] ?_
 refine pwp_seq ?_
 refine pwp_seq ?_
 refine pwp_join (σ := Bool × T_spec_l20Rd) (fun (x1, x2) => (⟨31, [(0, .ptr 0 0 0), (3, pf a1 0), (4, .ptr 1 0 0), (11, B x1)], [sc 0 x2, some ⟨0, Enc.cells (T_impl_Value.mk 0 0 (ByteArray.mk #[]))⟩]⟩ : St)) (fun (x1, x2) => spec_l20Like_j0 a1 x1 x2 = some y) ?_ ?_
 refine rvM [4] 3 31 [(0, .ptr 0 0 0), (3, pf a1 0), (4, .ptr 1 0 0), (7, B a1.fEmpty)] [sc 0 a0, some ⟨0, Enc.cells (T_impl_Value.mk 0 0 (ByteArray.mk #[]))⟩] ?_
 rcases Bool.eq_false_or_eq_true a1.fEmpty with hc16 | hc16
 replace h := bT hc16 h
 rw [hc16]
 refine vM [4] 1 31 [(0, .ptr 0 0 0), (3, pf a1 0), (4, .ptr 1 0 0), (7, B true), (8, .ptr 0 0 0)] [sc 0 a0, some ⟨0, Enc.cells (T_impl_Value.mk 0 0 (ByteArray.mk #[]))⟩] ?_
 obtain ⟨v14, hv15, h⟩ := bindS h
 refine cB 9 0 0 (ok_spec_l20Rd_pick hv15) ?_
 refine veM [4] 2 31 [(0, .ptr 0 0 0), (3, pf a1 0), (4, .ptr 1 0 0), (11, B (v14.1 == 0))] [sc 0 v14.2, some ⟨0, Enc.cells (T_impl_Value.mk 0 0 (ByteArray.mk #[]))⟩] ?_
 exact ⟨((v14.1 == 0), v14.2), h, it [0, 3, 4, 11]⟩
 replace h := bF hc16 h
 rw [hc16]
 refine veM [4] 4 31 [(0, .ptr 0 0 0), (3, pf a1 0), (4, .ptr 1 0 0), (11, B false)] [sc 0 a0, some ⟨0, Enc.cells (T_impl_Value.mk 0 0 (ByteArray.mk #[]))⟩] ?_
 exact ⟨(false, a0), h, it [0, 3, 4, 11]⟩
 rintro ⟨x1, x2⟩ h
 dsimp only at h ⊢
 unfold spec_l20Like_j0 at h
 refine pc h (fun h => ?_) (fun h => ?_)
 refine srveM [4] 31 [(4, .ptr 1 0 0)] [sc 0 x2, some ⟨0, Enc.cells (T_impl_Value.mk 0 0 (ByteArray.mk #[]))⟩] ?_
 have h := si h
 subst h
 exact pwp_ret ⟨.inr rfl, E (T_impl_Value.mk 0 0 (ByteArray.mk #[])), _, 0, by kernel_rfl, (OutP.frz (by kernel_rfl)), by decide, by decide, by kernel_rfl⟩
 refine pwp_skip ?_
 refine pwp_seq ?_
 refine srveM [4] 31 [(0, .ptr 0 0 0), (4, .ptr 1 0 0), (14, I a1.fKind)] [sc 0 x2, some ⟨0, Enc.cells (T_impl_Value.mk 0 0 (ByteArray.mk #[]))⟩] ?_
 refine pwp_block ?_
 refine srveM [4] 31 [(0, .ptr 0 0 0), (4, .ptr 1 0 0), (14, I a1.fKind), (15, B (a1.fKind == 1))] [sc 0 x2, some ⟨0, Enc.cells (T_impl_Value.mk 0 0 (ByteArray.mk #[]))⟩] ?_
 refine pc h (fun h => ?_) (fun h => ?_)
 refine srvM [4] 1 31 [(4, .ptr 1 0 0), (17, .ptr 0 0 0)] [sc 0 x2, some ⟨0, Enc.cells (T_impl_Value.mk 0 0 (ByteArray.mk #[]))⟩] ?_
 obtain ⟨v5, hv6, h⟩ := bindS h
 refine cB 18 0 0 (ok_spec_l20Rd_pick hv6) ?_
 refine veM [4] 2 31 [(4, .ptr 1 0 0)] [sc 0 v5.2, some ⟨0, Enc.cells (T_impl_Value.mk 1 v5.1 (ByteArray.mk #[]))⟩] ?_
 have h := si h
 subst h
 exact pwp_ret ⟨.inr rfl, E (T_impl_Value.mk 1 v5.1 (ByteArray.mk #[])), _, 0, by kernel_rfl, (OutP.frz (by kernel_rfl)), by decide, by decide, by kernel_rfl⟩
 refine srveM [4] 31 [(0, .ptr 0 0 0), (4, .ptr 1 0 0), (20, B (a1.fKind == 2))] [sc 0 x2, some ⟨0, Enc.cells (T_impl_Value.mk 0 0 (ByteArray.mk #[]))⟩] ?_
 refine pc h (fun h => ?_) (fun h => ?_)
 refine srvM [4] 2 31 [(4, .ptr 1 0 0), (22, .arr 1 ([(ByteArray.mk #[]), (ByteArray.mk #[97]), (ByteArray.mk #[98]), (ByteArray.mk #[97, 98])] : List ByteArray).length (eL ([(ByteArray.mk #[]), (ByteArray.mk #[97]), (ByteArray.mk #[98]), (ByteArray.mk #[97, 98])] : List ByteArray)) true), (23, .ptr 0 0 0)] [sc 0 x2, some ⟨0, Enc.cells (T_impl_Value.mk 0 0 (ByteArray.mk #[]))⟩] ?_
 obtain ⟨v8, hv9, h⟩ := bindS h
 refine cB 24 0 0 (ok_spec_l20Rd_pick hv9) ?_
 obtain ⟨v10, hv11, h⟩ := bindS h
 refine opsP_idx τ_ok 25 hv11 (by kernel_rfl) ?_
 refine veM [4] 3 31 [(4, .ptr 1 0 0)] [sc 0 v8.2, some ⟨0, Enc.cells (T_impl_Value.mk 2 0 v10)⟩] ?_
 have h := si h
 subst h
 exact pwp_ret ⟨.inr rfl, E (T_impl_Value.mk 2 0 v10), _, 0, by kernel_rfl, (OutP.frz (by kernel_rfl)), by decide, by decide, by kernel_rfl⟩
 refine pwp_skip ?_
 refine srvM [4] 1 31 [(4, .ptr 1 0 0), (28, .ptr 0 0 0)] [sc 0 x2, some ⟨0, Enc.cells (T_impl_Value.mk 0 0 (ByteArray.mk #[]))⟩] ?_
 obtain ⟨v12, hv13, h⟩ := bindS h
 refine cB 29 0 0 (ok_spec_l20Rd_pick hv13) ?_
 refine veM [4] 2 31 [(4, .ptr 1 0 0)] [sc 0 v12.2, some ⟨0, Enc.cells (T_impl_Value.mk 3 v12.1 (ByteArray.mk #[]))⟩] ?_
 have h := si h
 subst h
 exact pwp_ret ⟨.inr rfl, E (T_impl_Value.mk 3 v12.1 (ByteArray.mk #[])), _, 0, by kernel_rfl, (OutP.frz (by kernel_rfl)), by decide, by decide, by kernel_rfl⟩
def spec_l20Value_j1 (x3 : T_spec_l20Rd) (x4 : T_impl_Value) : Option (T_impl_Value × T_spec_l20Rd) := some (x4, x3)
def spec_l20Value_j0 (a1 : Int) (x1 : T_spec_l20Rd) (x2 : T_impl_Value) : Option (T_impl_Value × T_spec_l20Rd) := (spec_l20Rd_odd x1 a1).bind fun v5 => bif v5.1 then (spec_l20Rd_pick v5.2 4).bind fun v8 => bif (v8.1 == 0) then spec_l20Value_j1 v8.2 ({ x2 with fN := 10000 }) else bif (v8.1 == 1) then (addS x2.fS (ByteArray.mk #[97, 98, 99, 100, 101, 102, 103])).bind fun v12 => spec_l20Value_j1 v8.2 ({ x2 with fS := v12 }) else bif (v8.1 == 2) then (spec_l20Rd_pick v8.2 7).bind fun v15 => spec_l20Value_j1 v15.2 ({ x2 with fKind := (w64 (v15.1 - 1)) }) else (addS x2.fS (ByteArray.mk #[65])).bind fun v17 => spec_l20Value_j1 v8.2 ({ x2 with fS := v17 }) else spec_l20Value_j1 v5.2 x2
def spec_l20Value_l4 (a1 : Int) : Nat → Int → T_spec_l20Rd → T_impl_Value → Option (T_impl_Value × T_spec_l20Rd)
 | 0, _, _, _ => none
 | f43 + 1, x40, x41, x42 => bif (decide (x40 > 0)) then (spec_l20Rd_pick x41 3).bind fun v46 => (addS x42.fS (ByteArray.mk (List.toArray ([(u8 (w64 (97 + v46.1)))] : List UInt8)))).bind fun v48 => (spec_l20Value_l4 a1 f43) (w64 (x40 - 1)) v46.2 ({ x42 with fS := v48 }) else spec_l20Value_j0 a1 x41 x42
def spec_l20Value_j3 (a1 : Int) (v19 : Int × T_spec_l20Rd) (x33 : Bool) : Option (T_impl_Value × T_spec_l20Rd) := bif x33 then (spec_l20Rd_pick v19.2 4).bind fun v35 => spec_l20Value_l4 a1 FUEL v35.1 v35.2 (T_impl_Value.mk 2 0 (ByteArray.mk #[])) else (spec_l20Rd_pick v19.2 2).bind fun v50 => spec_l20Value_j0 a1 v50.2 (T_impl_Value.mk 3 v50.1 (ByteArray.mk #[]))
def spec_l20Value_j2 (a1 : Int) (v19 : Int × T_spec_l20Rd) (x22 : Bool) : Option (T_impl_Value × T_spec_l20Rd) := bif x22 then (spec_l20Rd_pick v19.2 7).bind fun v24 => (spec_l20Rd_pick v24.2 8).bind fun v26 => bif (v26.1 == 0) then (spec_l20Rd_pick v26.2 5).bind fun v29 => (getI ([9999, -9999, 255, 256, -256] : List Int) v29.1).bind fun v31 => spec_l20Value_j0 a1 v29.2 (T_impl_Value.mk 1 v31 (ByteArray.mk #[])) else spec_l20Value_j0 a1 v26.2 (T_impl_Value.mk 1 (w64 (v24.1 - 3)) (ByteArray.mk #[])) else bif (v19.1 == 4) then spec_l20Value_j3 a1 v19 (v19.1 == 4) else spec_l20Value_j3 a1 v19 (v19.1 == 5)
def spec_l20Value (a0 : T_spec_l20Rd) (a1 : Int) : Option (T_impl_Value × T_spec_l20Rd) := (spec_l20Rd_pick a0 7).bind fun v19 => bif (v19.1 == 0) then spec_l20Value_j0 a1 v19.2 (T_impl_Value.mk 0 0 (ByteArray.mk #[])) else bif (v19.1 == 1) then spec_l20Value_j2 a1 v19 (v19.1 == 1) else bif (v19.1 == 2) then spec_l20Value_j2 a1 v19 (v19.1 == 2) else spec_l20Value_j2 a1 v19 (v19.1 == 3)
theorem ok_spec_l20Value {a0 : T_spec_l20Rd} {a1 : Int} {y : T_impl_Value × T_spec_l20Rd} (h : spec_l20Value a0 a1 = some y) : OKb Try.prog 186 (Enc.cells a0) [I a1] (E y.1) (Enc.cells y.2) := by
 refine OKb_of_pwp τ_ok Try.func186 rfl (by kernel_rfl) rfl (Enc.frz _) (Enc.frz _) fun Γ hQ => ?_
 unfold spec_l20Value at h
 refine srveM [4, 5] 77 [(0, .ptr 0 0 0), (1, I a1), (4, .ptr 1 0 0)] [sc 0 a0, some ⟨0, Enc.cells (T_impl_Value.mk 0 0 (ByteArray.mk #[]))⟩] ?_
 refine srveM [4, 5] 77 [(0, .ptr 0 0 0), (1, I a1), (4, .ptr 1 0 0), (5, .ptr 2 0 0)] [sc 0 a0, some ⟨0, Enc.cells (T_impl_Value.mk 0 0 (ByteArray.mk #[]))⟩, some ⟨0, Enc.cells (T_impl_Value.mk 0 0 (ByteArray.mk #[]))⟩] ?_
 refine pwp_seq ?_
 refine pwp_join (σ := T_spec_l20Rd × T_impl_Value) (fun (x1, x2) => (⟨77, [(0, .ptr 0 0 0), (1, I a1), (4, .ptr 1 0 0), (5, .ptr 2 0 0)], [sc 0 x1, some ⟨0, Enc.cells (T_impl_Value.mk 0 0 (ByteArray.mk #[]))⟩, sc 0 x2]⟩ : St)) (fun (x1, x2) => spec_l20Value_j0 a1 x1 x2 = some y) ?_ ?_
 refine srvM [4, 5] 1 77 [(0, .ptr 0 0 0), (1, I a1), (4, .ptr 1 0 0), (5, .ptr 2 0 0), (8, .ptr 0 0 0)] [sc 0 a0, some ⟨0, Enc.cells (T_impl_Value.mk 0 0 (ByteArray.mk #[]))⟩, some ⟨0, Enc.cells (T_impl_Value.mk 0 0 (ByteArray.mk #[]))⟩] ?_
 obtain ⟨v19, hv20, h⟩ := bindS h
 refine cB 9 0 0 (ok_spec_l20Rd_pick hv20) ?_
 refine veM [4, 5] 0 77 [(0, .ptr 0 0 0), (1, I a1), (4, .ptr 1 0 0), (5, .ptr 2 0 0), (9, I v19.1)] [sc 0 v19.2, some ⟨0, Enc.cells (T_impl_Value.mk 0 0 (ByteArray.mk #[]))⟩, some ⟨0, Enc.cells (T_impl_Value.mk 0 0 (ByteArray.mk #[]))⟩] ?_
 refine pwp_block ?_
 refine srveM [4, 5] 77 [(0, .ptr 0 0 0), (1, I a1), (4, .ptr 1 0 0), (5, .ptr 2 0 0), (9, I v19.1), (13, B (v19.1 == 0))] [sc 0 v19.2, some ⟨0, Enc.cells (T_impl_Value.mk 0 0 (ByteArray.mk #[]))⟩, some ⟨0, Enc.cells (T_impl_Value.mk 0 0 (ByteArray.mk #[]))⟩] ?_
 refine pc h (fun h => ?_) (fun h => ?_)
 refine pwp_skip ?_
 exact ⟨(v19.2, (T_impl_Value.mk 0 0 (ByteArray.mk #[]))), h, it [0, 1, 4, 5]⟩
 refine pwp_seq ?_
 refine pwp_join (σ := Bool) (fun x22 => (⟨77, [(0, .ptr 0 0 0), (1, I a1), (4, .ptr 1 0 0), (5, .ptr 2 0 0), (9, I v19.1), (15, B x22)], [sc 0 v19.2, some ⟨0, Enc.cells (T_impl_Value.mk 0 0 (ByteArray.mk #[]))⟩, some ⟨0, Enc.cells (T_impl_Value.mk 0 0 (ByteArray.mk #[]))⟩]⟩ : St)) (fun x22 => spec_l20Value_j2 a1 v19 x22 = some y) ?_ ?_
 refine srveM [4, 5] 77 [(0, .ptr 0 0 0), (1, I a1), (4, .ptr 1 0 0), (5, .ptr 2 0 0), (9, I v19.1), (15, B (v19.1 == 1))] [sc 0 v19.2, some ⟨0, Enc.cells (T_impl_Value.mk 0 0 (ByteArray.mk #[]))⟩, some ⟨0, Enc.cells (T_impl_Value.mk 0 0 (ByteArray.mk #[]))⟩] ?_
 refine pc h (fun h => ?_) (fun h => ?_)
 refine pwp_skip ?_
 exact ⟨(v19.1 == 1), h, it [0, 1, 4, 5, 9, 15]⟩
 refine srveM [4, 5] 77 [(0, .ptr 0 0 0), (1, I a1), (4, .ptr 1 0 0), (5, .ptr 2 0 0), (9, I v19.1), (15, B (v19.1 == 2))] [sc 0 v19.2, some ⟨0, Enc.cells (T_impl_Value.mk 0 0 (ByteArray.mk #[]))⟩, some ⟨0, Enc.cells (T_impl_Value.mk 0 0 (ByteArray.mk #[]))⟩] ?_
 refine pc h (fun h => ?_) (fun h => ?_)
 refine pwp_skip ?_
 exact ⟨(v19.1 == 2), h, it [0, 1, 4, 5, 9, 15]⟩
 refine rveM [4, 5] 77 [(0, .ptr 0 0 0), (1, I a1), (4, .ptr 1 0 0), (5, .ptr 2 0 0), (9, I v19.1), (15, B (v19.1 == 3))] [sc 0 v19.2, some ⟨0, Enc.cells (T_impl_Value.mk 0 0 (ByteArray.mk #[]))⟩, some ⟨0, Enc.cells (T_impl_Value.mk 0 0 (ByteArray.mk #[]))⟩] ?_
 exact ⟨(v19.1 == 3), h, it [0, 1, 4, 5, 9, 15]⟩
 rintro x22 h
 unfold spec_l20Value_j2 at h
 refine pc h (fun h => ?_) (fun h => ?_)
 refine srvM [4, 5] 1 77 [(0, .ptr 0 0 0), (1, I a1), (4, .ptr 1 0 0), (5, .ptr 2 0 0), (19, .ptr 0 0 0)] [sc 0 v19.2, some ⟨0, Enc.cells (T_impl_Value.mk 0 0 (ByteArray.mk #[]))⟩, some ⟨0, Enc.cells (T_impl_Value.mk 0 0 (ByteArray.mk #[]))⟩] ?_
 obtain ⟨v24, hv25, h⟩ := bindS h
 refine cB 20 0 0 (ok_spec_l20Rd_pick hv25) ?_
 refine veM [4, 5] 3 77 [(0, .ptr 0 0 0), (1, I a1), (4, .ptr 1 0 0), (5, .ptr 2 0 0)] [sc 0 v24.2, some ⟨0, Enc.cells (T_impl_Value.mk 0 0 (ByteArray.mk #[]))⟩, some ⟨0, Enc.cells (T_impl_Value.mk 1 (w64 (v24.1 - 3)) (ByteArray.mk #[]))⟩] ?_
 refine srvM [4, 5] 1 77 [(0, .ptr 0 0 0), (1, I a1), (4, .ptr 1 0 0), (5, .ptr 2 0 0), (23, .ptr 0 0 0)] [sc 0 v24.2, some ⟨0, Enc.cells (T_impl_Value.mk 0 0 (ByteArray.mk #[]))⟩, some ⟨0, Enc.cells (T_impl_Value.mk 1 (w64 (v24.1 - 3)) (ByteArray.mk #[]))⟩] ?_
 obtain ⟨v26, hv27, h⟩ := bindS h
 refine cB 24 0 0 (ok_spec_l20Rd_pick hv27) ?_
 refine veM [4, 5] 1 77 [(0, .ptr 0 0 0), (1, I a1), (4, .ptr 1 0 0), (5, .ptr 2 0 0), (25, B (v26.1 == 0))] [sc 0 v26.2, some ⟨0, Enc.cells (T_impl_Value.mk 0 0 (ByteArray.mk #[]))⟩, some ⟨0, Enc.cells (T_impl_Value.mk 1 (w64 (v24.1 - 3)) (ByteArray.mk #[]))⟩] ?_
 refine pc h (fun h => ?_) (fun h => ?_)
 refine rvM [4, 5] 2 77 [(0, .ptr 0 0 0), (1, I a1), (4, .ptr 1 0 0), (5, .ptr 2 0 0), (26, .arr 1 ([9999, -9999, 255, 256, -256] : List Int).length (eL ([9999, -9999, 255, 256, -256] : List Int)) true), (27, .ptr 0 0 0)] [sc 0 v26.2, some ⟨0, Enc.cells (T_impl_Value.mk 0 0 (ByteArray.mk #[]))⟩, some ⟨0, Enc.cells (T_impl_Value.mk 1 (w64 (v24.1 - 3)) (ByteArray.mk #[]))⟩] ?_
 obtain ⟨v29, hv30, h⟩ := bindS h
 refine cB 28 0 0 (ok_spec_l20Rd_pick hv30) ?_
 obtain ⟨v31, hv32, h⟩ := bindS h
 refine opsP_idx τ_ok 29 hv32 (by kernel_rfl) ?_
 refine veM [4, 5] 3 77 [(0, .ptr 0 0 0), (1, I a1), (4, .ptr 1 0 0), (5, .ptr 2 0 0)] [sc 0 v29.2, some ⟨0, Enc.cells (T_impl_Value.mk 0 0 (ByteArray.mk #[]))⟩, some ⟨0, Enc.cells (T_impl_Value.mk 1 v31 (ByteArray.mk #[]))⟩] ?_
 exact ⟨(v29.2, (T_impl_Value.mk 1 v31 (ByteArray.mk #[]))), h, it [0, 1, 4, 5]⟩
 refine pwp_skip ?_
 exact ⟨(v26.2, (T_impl_Value.mk 1 (w64 (v24.1 - 3)) (ByteArray.mk #[]))), h, it [0, 1, 4, 5]⟩
 refine pwp_seq ?_
 refine pwp_join (σ := Bool) (fun x33 => (⟨77, [(0, .ptr 0 0 0), (1, I a1), (4, .ptr 1 0 0), (5, .ptr 2 0 0), (32, B x33)], [sc 0 v19.2, some ⟨0, Enc.cells (T_impl_Value.mk 0 0 (ByteArray.mk #[]))⟩, some ⟨0, Enc.cells (T_impl_Value.mk 0 0 (ByteArray.mk #[]))⟩]⟩ : St)) (fun x33 => spec_l20Value_j3 a1 v19 x33 = some y) ?_ ?_
 refine srveM [4, 5] 77 [(0, .ptr 0 0 0), (1, I a1), (4, .ptr 1 0 0), (5, .ptr 2 0 0), (9, I v19.1), (32, B (v19.1 == 4))] [sc 0 v19.2, some ⟨0, Enc.cells (T_impl_Value.mk 0 0 (ByteArray.mk #[]))⟩, some ⟨0, Enc.cells (T_impl_Value.mk 0 0 (ByteArray.mk #[]))⟩] ?_
 refine pc h (fun h => ?_) (fun h => ?_)
 refine pwp_skip ?_
 exact ⟨(v19.1 == 4), h, it [0, 1, 4, 5, 32]⟩
 refine rveM [4, 5] 77 [(0, .ptr 0 0 0), (1, I a1), (4, .ptr 1 0 0), (5, .ptr 2 0 0), (32, B (v19.1 == 5))] [sc 0 v19.2, some ⟨0, Enc.cells (T_impl_Value.mk 0 0 (ByteArray.mk #[]))⟩, some ⟨0, Enc.cells (T_impl_Value.mk 0 0 (ByteArray.mk #[]))⟩] ?_
 exact ⟨(v19.1 == 5), h, it [0, 1, 4, 5, 32]⟩
 rintro x33 h
 unfold spec_l20Value_j3 at h
 refine pc h (fun h => ?_) (fun h => ?_)
 refine srveM [4, 5] 77 [(0, .ptr 0 0 0), (1, I a1), (4, .ptr 1 0 0), (5, .ptr 2 0 0)] [sc 0 v19.2, some ⟨0, Enc.cells (T_impl_Value.mk 0 0 (ByteArray.mk #[]))⟩, some ⟨0, Enc.cells (T_impl_Value.mk 2 0 (ByteArray.mk #[]))⟩] ?_
 refine srvM [4, 5] 1 77 [(0, .ptr 0 0 0), (1, I a1), (4, .ptr 1 0 0), (5, .ptr 2 0 0), (36, .ptr 0 0 0)] [sc 0 v19.2, some ⟨0, Enc.cells (T_impl_Value.mk 0 0 (ByteArray.mk #[]))⟩, some ⟨0, Enc.cells (T_impl_Value.mk 2 0 (ByteArray.mk #[]))⟩] ?_
 obtain ⟨v35, hv36, h⟩ := bindS h
 refine cB 37 0 0 (ok_spec_l20Rd_pick hv36) ?_
 refine veM [4, 5] 1 77 [(0, .ptr 0 0 0), (1, I a1), (4, .ptr 1 0 0), (5, .ptr 2 0 0), (6, I v35.1)] [sc 0 v35.2, some ⟨0, Enc.cells (T_impl_Value.mk 0 0 (ByteArray.mk #[]))⟩, some ⟨0, Enc.cells (T_impl_Value.mk 2 0 (ByteArray.mk #[]))⟩] ?_
 refine pwp_block ?_
 refine pwp_loop (ι := Nat × Int × T_spec_l20Rd × T_impl_Value) (fun (f43, x40, x41, x42) => (⟨77, [(0, .ptr 0 0 0), (1, I a1), (4, .ptr 1 0 0), (5, .ptr 2 0 0), (6, I x40)], [sc 0 x41, some ⟨0, Enc.cells (T_impl_Value.mk 0 0 (ByteArray.mk #[]))⟩, sc 0 x42]⟩ : St)) (fun (f43, x40, x41, x42) => spec_l20Value_l4 a1 f43 x40 x41 x42 = some y) Prod.fst (FUEL, v35.1, v35.2, (T_impl_Value.mk 2 0 (ByteArray.mk #[]))) h (it [0, 1, 4, 5, 6]) ?_
 rintro ⟨f43, x40, x41, x42⟩ h
 dsimp only at h ⊢
 rcases f43 with _ | f43
 cases h
 rw [spec_l20Value_l4] at h
 refine pwp_seq ?_
 refine srveM [4, 5] 77 [(0, .ptr 0 0 0), (1, I a1), (4, .ptr 1 0 0), (5, .ptr 2 0 0), (6, I x40), (39, B (decide (x40 > 0)))] [sc 0 x41, some ⟨0, Enc.cells (T_impl_Value.mk 0 0 (ByteArray.mk #[]))⟩, sc 0 x42] ?_
 refine pc h (fun h => ?_) (fun h => ?_)
 refine pwp_skip ?_
 refine pwp_seq ?_
 refine pwp_block ?_
 refine ip 77 [(0, .ptr 0 0 0), (1, I a1), (4, .ptr 1 0 0), (5, .ptr 2 0 0), (6, I x40)] [sc 0 x41, some ⟨0, Enc.cells (T_impl_Value.mk 0 0 (ByteArray.mk #[]))⟩, sc 0 x42] ?_
 refine pwp_any ([[2], [2], [0], [0], [], [], [], [], [], [2], [2]]) ([[], [], [], [0], [], [], [], [], [], [], [2]]) rfl (by kernel_rfl) ?_
 refine qvM [4, 5] [2] (hB trivial) 2 77 [(43, S x42.fS), (0, .ptr 0 0 0), (1, I a1), (4, .ptr 1 0 0), (5, .ptr 2 0 0), (6, I x40)] [sc 0 x41, some ⟨0, Enc.cells (T_impl_Value.mk 0 0 (ByteArray.mk #[]))⟩, sc 0 x42] ?_
 refine qvM [4, 5] [0] (hB trivial) 1 77 [(44, .ptr 0 0 0), (43, S x42.fS), (0, .ptr 0 0 0), (1, I a1), (4, .ptr 1 0 0), (5, .ptr 2 0 0), (6, I x40)] [sc 0 x41, some ⟨0, Enc.cells (T_impl_Value.mk 0 0 (ByteArray.mk #[]))⟩, sc 0 x42] ?_
 obtain ⟨v46, hv47, h⟩ := bindS h
 refine qX (some 45) (I v46.1) 77 [(45, I v46.1), (43, S x42.fS), (0, .ptr 0 0 0), (1, I a1), (4, .ptr 1 0 0), (5, .ptr 2 0 0), (6, I x40)] [sc 0 v46.2, some ⟨0, Enc.cells (T_impl_Value.mk 0 0 (ByteArray.mk #[]))⟩, sc 0 x42] (fun Γ' hΓ => callB_E τ 45 0 0 (ok_spec_l20Rd_pick hv47) (FzTo.frz rfl) rfl (by kernel_rfl)) (hB trivial) ?_
 refine qvM [4, 5] [] trivial 1 77 [(46, I (w64 (97 + v46.1))), (43, S x42.fS), (0, .ptr 0 0 0), (1, I a1), (4, .ptr 1 0 0), (5, .ptr 2 0 0), (6, I x40)] [sc 0 v46.2, some ⟨0, Enc.cells (T_impl_Value.mk 0 0 (ByteArray.mk #[]))⟩, sc 0 x42] ?_
 refine qX (some 47) (.lit (.int .u8 (u8 (w64 (97 + v46.1))).toNat)) 77 [(47, .lit (.int .u8 (u8 (w64 (97 + v46.1))).toNat)), (43, S x42.fS), (0, .ptr 0 0 0), (1, I a1), (4, .ptr 1 0 0), (5, .ptr 2 0 0), (6, I x40)] [sc 0 v46.2, some ⟨0, Enc.cells (T_impl_Value.mk 0 0 (ByteArray.mk #[]))⟩, sc 0 x42] (fun Γ' hΓ => CoreE.of_y (cv8V_sound (n := (w64 (97 + v46.1))) τ_ok (by kernel_rfl))) trivial ?_
 refine qvM [4, 5] [] trivial 1 77 [(48, .arr 1 ([(u8 (w64 (97 + v46.1)))] : List UInt8).length (eL ([(u8 (w64 (97 + v46.1)))] : List UInt8)) true), (43, S x42.fS), (0, .ptr 0 0 0), (1, I a1), (4, .ptr 1 0 0), (5, .ptr 2 0 0), (6, I x40)] [sc 0 v46.2, some ⟨0, Enc.cells (T_impl_Value.mk 0 0 (ByteArray.mk #[]))⟩, sc 0 x42] ?_
 refine qX (some 49) (S (ByteArray.mk (List.toArray ([(u8 (w64 (97 + v46.1)))] : List UInt8)))) 77 [(49, S (ByteArray.mk (List.toArray ([(u8 (w64 (97 + v46.1)))] : List UInt8)))), (43, S x42.fS), (0, .ptr 0 0 0), (1, I a1), (4, .ptr 1 0 0), (5, .ptr 2 0 0), (6, I x40)] [sc 0 v46.2, some ⟨0, Enc.cells (T_impl_Value.mk 0 0 (ByteArray.mk #[]))⟩, sc 0 x42] (fun Γ' hΓ => CoreE.of_y (cvsV_sound (l := ([(u8 (w64 (97 + v46.1)))] : List UInt8)) τ_ok (by kernel_rfl))) trivial ?_
 obtain ⟨v48, hv49, h⟩ := bindS h
 refine qX (some 50) (S v48) 77 [(50, S v48), (0, .ptr 0 0 0), (1, I a1), (4, .ptr 1 0 0), (5, .ptr 2 0 0), (6, I x40)] [sc 0 v46.2, some ⟨0, Enc.cells (T_impl_Value.mk 0 0 (ByteArray.mk #[]))⟩, sc 0 x42] (fun Γ' hΓ => CoreE.of_y (adsV_sound τ_ok (by kernel_rfl) hv49)) trivial ?_
 refine qvM [4, 5] [2] (hB trivial) 1 77 [(51, .ptr 2 0 2), (50, S v48), (0, .ptr 0 0 0), (1, I a1), (4, .ptr 1 0 0), (5, .ptr 2 0 0), (6, I x40)] [sc 0 v46.2, some ⟨0, Enc.cells (T_impl_Value.mk 0 0 (ByteArray.mk #[]))⟩, sc 0 x42] ?_
 refine qX (Hm' := [none, none, some ⟨0, Enc.cells ({ x42 with fS := v48 })⟩]) none (.any) 77 [(0, .ptr 0 0 0), (1, I a1), (4, .ptr 1 0 0), (5, .ptr 2 0 0), (6, I x40)] [sc 0 v46.2, some ⟨0, Enc.cells (T_impl_Value.mk 0 0 (ByteArray.mk #[]))⟩, some ⟨0, Enc.cells ({ x42 with fS := v48 })⟩] (fun Γ' hΓ => sto_E τ_ok 2 0 (by kernel_rfl)) (hB trivial) ?_
 refine qn 77 [(0, .ptr 0 0 0), (1, I a1), (4, .ptr 1 0 0), (5, .ptr 2 0 0), (6, I x40)] [sc 0 v46.2, some ⟨0, Enc.cells (T_impl_Value.mk 0 0 (ByteArray.mk #[]))⟩, some ⟨0, Enc.cells ({ x42 with fS := v48 })⟩] ?_
 refine rveM [4, 5] 77 [(0, .ptr 0 0 0), (1, I a1), (4, .ptr 1 0 0), (5, .ptr 2 0 0), (6, I (w64 (x40 - 1)))] [sc 0 v46.2, some ⟨0, Enc.cells (T_impl_Value.mk 0 0 (ByteArray.mk #[]))⟩, some ⟨0, Enc.cells ({ x42 with fS := v48 })⟩] ?_
 exact ⟨(f43, (w64 (x40 - 1)), v46.2, { x42 with fS := v48 }), h, Nat.lt_succ_self _, it [0, 1, 4, 5, 6]⟩
 refine pwp_exit ?_
 exact ⟨(x41, x42), h, it [0, 1, 4, 5]⟩
 refine rvM [4, 5] 1 77 [(0, .ptr 0 0 0), (1, I a1), (4, .ptr 1 0 0), (5, .ptr 2 0 0), (10, .ptr 0 0 0)] [sc 0 v19.2, some ⟨0, Enc.cells (T_impl_Value.mk 0 0 (ByteArray.mk #[]))⟩, some ⟨0, Enc.cells (T_impl_Value.mk 0 0 (ByteArray.mk #[]))⟩] ?_
 obtain ⟨v50, hv51, h⟩ := bindS h
 refine cB 11 0 0 (ok_spec_l20Rd_pick hv51) ?_
 refine veM [4, 5] 2 77 [(0, .ptr 0 0 0), (1, I a1), (4, .ptr 1 0 0), (5, .ptr 2 0 0)] [sc 0 v50.2, some ⟨0, Enc.cells (T_impl_Value.mk 0 0 (ByteArray.mk #[]))⟩, some ⟨0, Enc.cells (T_impl_Value.mk 3 v50.1 (ByteArray.mk #[]))⟩] ?_
 exact ⟨(v50.2, (T_impl_Value.mk 3 v50.1 (ByteArray.mk #[]))), h, it [0, 1, 4, 5]⟩
 rintro ⟨x1, x2⟩ h
 dsimp only at h ⊢
 unfold spec_l20Value_j0 at h
 refine pwp_seq ?_
 refine pwp_join (σ := T_spec_l20Rd × T_impl_Value) (fun (x3, x4) => (⟨77, [(4, .ptr 1 0 0), (5, .ptr 2 0 0)], [sc 0 x3, some ⟨0, Enc.cells (T_impl_Value.mk 0 0 (ByteArray.mk #[]))⟩, sc 0 x4]⟩ : St)) (fun (x3, x4) => spec_l20Value_j1 x3 x4 = some y) ?_ ?_
 refine srvM [4, 5] 2 77 [(0, .ptr 0 0 0), (4, .ptr 1 0 0), (5, .ptr 2 0 0), (52, .ptr 0 0 0), (53, I a1)] [sc 0 x1, some ⟨0, Enc.cells (T_impl_Value.mk 0 0 (ByteArray.mk #[]))⟩, sc 0 x2] ?_
 obtain ⟨v5, hv6, h⟩ := bindS h
 refine cB 54 0 0 (ok_spec_l20Rd_odd hv6) ?_
 refine veM [4, 5] 0 77 [(0, .ptr 0 0 0), (4, .ptr 1 0 0), (5, .ptr 2 0 0), (54, B v5.1)] [sc 0 v5.2, some ⟨0, Enc.cells (T_impl_Value.mk 0 0 (ByteArray.mk #[]))⟩, sc 0 x2] ?_
 refine pc h (fun h => ?_) (fun h => ?_)
 refine srvM [4, 5] 1 77 [(0, .ptr 0 0 0), (4, .ptr 1 0 0), (5, .ptr 2 0 0), (55, .ptr 0 0 0)] [sc 0 v5.2, some ⟨0, Enc.cells (T_impl_Value.mk 0 0 (ByteArray.mk #[]))⟩, sc 0 x2] ?_
 obtain ⟨v8, hv9, h⟩ := bindS h
 refine cB 56 0 0 (ok_spec_l20Rd_pick hv9) ?_
 refine veM [4, 5] 0 77 [(0, .ptr 0 0 0), (4, .ptr 1 0 0), (5, .ptr 2 0 0), (56, I v8.1)] [sc 0 v8.2, some ⟨0, Enc.cells (T_impl_Value.mk 0 0 (ByteArray.mk #[]))⟩, sc 0 x2] ?_
 refine pwp_block ?_
 refine srveM [4, 5] 77 [(0, .ptr 0 0 0), (4, .ptr 1 0 0), (5, .ptr 2 0 0), (56, I v8.1), (61, B (v8.1 == 0))] [sc 0 v8.2, some ⟨0, Enc.cells (T_impl_Value.mk 0 0 (ByteArray.mk #[]))⟩, sc 0 x2] ?_
 refine pc h (fun h => ?_) (fun h => ?_)
 refine rveM [4, 5] 77 [(4, .ptr 1 0 0), (5, .ptr 2 0 0)] [sc 0 v8.2, some ⟨0, Enc.cells (T_impl_Value.mk 0 0 (ByteArray.mk #[]))⟩, some ⟨0, Enc.cells ({ x2 with fN := 10000 })⟩] ?_
 exact ⟨(v8.2, { x2 with fN := 10000 }), h, it [4, 5]⟩
 refine srveM [4, 5] 77 [(0, .ptr 0 0 0), (4, .ptr 1 0 0), (5, .ptr 2 0 0), (56, I v8.1), (64, B (v8.1 == 1))] [sc 0 v8.2, some ⟨0, Enc.cells (T_impl_Value.mk 0 0 (ByteArray.mk #[]))⟩, sc 0 x2] ?_
 refine pc h (fun h => ?_) (fun h => ?_)
 refine rvM [4, 5] 2 77 [(4, .ptr 1 0 0), (5, .ptr 2 0 0), (67, S x2.fS)] [sc 0 v8.2, some ⟨0, Enc.cells (T_impl_Value.mk 0 0 (ByteArray.mk #[]))⟩, sc 0 x2] ?_
 obtain ⟨v12, hv13, h⟩ := bindS h
 refine opsP_ads τ_ok 68 hv13 (by kernel_rfl) ?_
 refine veM [4, 5] 2 77 [(4, .ptr 1 0 0), (5, .ptr 2 0 0)] [sc 0 v8.2, some ⟨0, Enc.cells (T_impl_Value.mk 0 0 (ByteArray.mk #[]))⟩, some ⟨0, Enc.cells ({ x2 with fS := v12 })⟩] ?_
 exact ⟨(v8.2, { x2 with fS := v12 }), h, it [4, 5]⟩
 refine srveM [4, 5] 77 [(0, .ptr 0 0 0), (4, .ptr 1 0 0), (5, .ptr 2 0 0), (70, B (v8.1 == 2))] [sc 0 v8.2, some ⟨0, Enc.cells (T_impl_Value.mk 0 0 (ByteArray.mk #[]))⟩, sc 0 x2] ?_
 refine pc h (fun h => ?_) (fun h => ?_)
 refine rvM [4, 5] 1 77 [(4, .ptr 1 0 0), (5, .ptr 2 0 0), (72, .ptr 0 0 0)] [sc 0 v8.2, some ⟨0, Enc.cells (T_impl_Value.mk 0 0 (ByteArray.mk #[]))⟩, sc 0 x2] ?_
 obtain ⟨v15, hv16, h⟩ := bindS h
 refine cB 73 0 0 (ok_spec_l20Rd_pick hv16) ?_
 refine veM [4, 5] 3 77 [(4, .ptr 1 0 0), (5, .ptr 2 0 0)] [sc 0 v15.2, some ⟨0, Enc.cells (T_impl_Value.mk 0 0 (ByteArray.mk #[]))⟩, some ⟨0, Enc.cells ({ x2 with fKind := (w64 (v15.1 - 1)) })⟩] ?_
 exact ⟨(v15.2, { x2 with fKind := (w64 (v15.1 - 1)) }), h, it [4, 5]⟩
 refine rvM [4, 5] 2 77 [(4, .ptr 1 0 0), (5, .ptr 2 0 0), (58, S x2.fS)] [sc 0 v8.2, some ⟨0, Enc.cells (T_impl_Value.mk 0 0 (ByteArray.mk #[]))⟩, sc 0 x2] ?_
 obtain ⟨v17, hv18, h⟩ := bindS h
 refine opsP_ads τ_ok 59 hv18 (by kernel_rfl) ?_
 refine veM [4, 5] 2 77 [(4, .ptr 1 0 0), (5, .ptr 2 0 0)] [sc 0 v8.2, some ⟨0, Enc.cells (T_impl_Value.mk 0 0 (ByteArray.mk #[]))⟩, some ⟨0, Enc.cells ({ x2 with fS := v17 })⟩] ?_
 exact ⟨(v8.2, { x2 with fS := v17 }), h, it [4, 5]⟩
 refine pwp_skip ?_
 exact ⟨(v5.2, x2), h, it [4, 5]⟩
 rintro ⟨x3, x4⟩ h
 dsimp only at h ⊢
 unfold spec_l20Value_j1 at h
 refine srveM [4, 5] 77 [(4, .ptr 1 0 0)] [sc 0 x3, sc 0 x4, sc 0 x4] ?_
 have h := si h
 subst h
 exact pwp_ret ⟨.inr rfl, E x4, _, 0, by kernel_rfl, (OutP.frz (by kernel_rfl)), by decide, by decide, by kernel_rfl⟩
def slices_insertionSortCmpFunc_impl_Value_j2 (x2 : Int) (K5 : Int → (List (List T_impl_Value)) → Option (List (List T_impl_Value))) (x8 : Int) (x9 : List (List T_impl_Value)) (K11 : Int → (List (List T_impl_Value)) → Option (List (List T_impl_Value))) (x12 : Bool) : Option (List (List T_impl_Value)) := bif x12 then (getI x9 (w64 (x8 - 1))).bind fun v14 => (getI x9 x8).bind fun v16 => (getI x9 x8).bind fun v18 => (getI (x9.set x8.toNat v14) (w64 (x8 - 1))).bind fun v20 => K11 (w64 (x8 - 1)) ((x9.set x8.toNat v14).set (w64 (x8 - 1)).toNat v16) else K5 (w64 (x2 + 1)) x9
def slices_insertionSortCmpFunc_impl_Value_l1 (a1 : Int) (a3 : (List T_impl_Value) → (List T_impl_Value) → Option Int) (x2 : Int) (K5 : Int → (List (List T_impl_Value)) → Option (List (List T_impl_Value))) : Nat → Int → (List (List T_impl_Value)) → Option (List (List T_impl_Value))
 | 0, _, _ => none
 | f10 + 1, x8, x9 => bif (decide (x8 > a1)) then (getI x9 x8).bind fun v22 => (getI x9 (w64 (x8 - 1))).bind fun v24 => (a3 v22 v24).bind fun v26 => slices_insertionSortCmpFunc_impl_Value_j2 x2 K5 x8 x9 (slices_insertionSortCmpFunc_impl_Value_l1 a1 a3 x2 K5 f10) (decide (v26 < 0)) else slices_insertionSortCmpFunc_impl_Value_j2 x2 K5 x8 x9 (slices_insertionSortCmpFunc_impl_Value_l1 a1 a3 x2 K5 f10) false
def slices_insertionSortCmpFunc_impl_Value_l0 (a1 : Int) (a2 : Int) (a3 : (List T_impl_Value) → (List T_impl_Value) → Option Int) : Nat → Int → (List (List T_impl_Value)) → Option (List (List T_impl_Value))
 | 0, _, _ => none
 | f4 + 1, x2, x3 => bif (decide (x2 < a2)) then slices_insertionSortCmpFunc_impl_Value_l1 a1 a3 x2 (slices_insertionSortCmpFunc_impl_Value_l0 a1 a2 a3 f4) FUEL x2 x3 else some x3
def slices_insertionSortCmpFunc_impl_Value_w (a0 : List (List T_impl_Value)) (a1 : Int) (a2 : Int) (a3 : (List T_impl_Value) → (List T_impl_Value) → Option Int) : Option (List (List T_impl_Value)) := slices_insertionSortCmpFunc_impl_Value_l0 a1 a2 a3 FUEL (w64 (a1 + 1)) a0
def slices_insertionSortCmpFunc_impl_Value (a0 : List (List T_impl_Value)) (a1 : Int) (a2 : Int) (a3 : (List T_impl_Value) → (List T_impl_Value) → Option Int) : Option (List (List T_impl_Value)) := (slices_insertionSortCmpFunc_impl_Value_w a0 a1 a2 a3).bind fun y => bif (y.length == a0.length) then some y else none
theorem len_slices_insertionSortCmpFunc_impl_Value {a0 : List (List T_impl_Value)} {a1 : Int} {a2 : Int} {a3 : (List T_impl_Value) → (List T_impl_Value) → Option Int} {y : List (List T_impl_Value)} (h : slices_insertionSortCmpFunc_impl_Value a0 a1 a2 a3 = some y) : y.length = a0.length := (bindLen (f := fun y : List (List T_impl_Value) => y) h).2
theorem ok_slices_insertionSortCmpFunc_impl_Value {a0 : List (List T_impl_Value)} {a1 : Int} {a2 : Int} {g3 : FuncId} {c3 : List V} (hz3 : frzL c3 = true) {a3 : (List T_impl_Value) → (List T_impl_Value) → Option Int} (hp3 : ∀ x0 x1 y, a3 x0 x1 = some y → OK Try.prog g3 ([A x0, A x1] ++ c3) (I y)) {y : List (List T_impl_Value)} (h : slices_insertionSortCmpFunc_impl_Value a0 a1 a2 a3 = some y) : OKs Try.prog 187 [] 1 a0.length (eL a0) [I a1, I a2, .fn g3 c3] (.tup []) (eL y) := by
 refine OKs_of_pwp τ_ok Try.func187 rfl (by kernel_rfl) rfl (eL_frz _) (eL_frz _) (by rw [eL_len, eL_len, len_slices_insertionSortCmpFunc_impl_Value h]) fun Γ hQ => ?_
 refine pwp_imp (Imp.to (st' := ⟨53, [(0, rf 0 0 1 a0), (1, I a1), (2, I a2), (3, .fn g3 c3)], [sl 0 a0]⟩) [0, 1, 2, 3] (by kernel_rfl)) ?_
 have h := (bindLen (f := fun y : List (List T_impl_Value) => y) h).1
 unfold slices_insertionSortCmpFunc_impl_Value_w at h
 refine srve 53 [(0, rf 0 0 1 a0), (1, I a1), (2, I a2), (3, .fn g3 c3), (8, I (w64 (a1 + 1)))] [sl 0 a0] ?_
 refine pwp_block ?_
 refine pwp_loop (ι := Nat × Int × (List (List T_impl_Value))) (fun (f4, x2, x3) => (⟨53, [(0, rf 0 0 1 x3), (1, I a1), (2, I a2), (3, .fn g3 c3), (8, I x2)], [sl 0 x3]⟩ : St)) (fun (f4, x2, x3) => slices_insertionSortCmpFunc_impl_Value_l0 a1 a2 a3 f4 x2 x3 = some y) Prod.fst (FUEL, (w64 (a1 + 1)), a0) h (it [0, 1, 2, 3, 8]) ?_
 rintro ⟨f4, x2, x3⟩ h
 dsimp only at h ⊢
 rcases f4 with _ | f4
 cases h
 rw [slices_insertionSortCmpFunc_impl_Value_l0] at h
 refine pwp_seq ?_
 refine srve 53 [(0, rf 0 0 1 x3), (1, I a1), (2, I a2), (3, .fn g3 c3), (8, I x2), (14, B (decide (x2 < a2)))] [sl 0 x3] ?_
 refine pc h (fun h => ?_) (fun h => ?_)
 refine pwp_skip ?_
 refine pwp_seq ?_
 refine pwp_block ?_
 refine srve 53 [(0, rf 0 0 1 x3), (1, I a1), (2, I a2), (3, .fn g3 c3), (8, I x2), (9, I x2)] [sl 0 x3] ?_
 refine pwp_block ?_
 refine pwp_loop (ι := Nat × Int × (List (List T_impl_Value))) (fun (f10, x8, x9) => (⟨53, [(0, rf 0 0 1 x9), (1, I a1), (2, I a2), (3, .fn g3 c3), (8, I x2), (9, I x8)], [sl 0 x9]⟩ : St)) (fun (f10, x8, x9) => slices_insertionSortCmpFunc_impl_Value_l1 a1 a3 x2 (slices_insertionSortCmpFunc_impl_Value_l0 a1 a2 a3 f4) f10 x8 x9 = some y) Prod.fst (FUEL, x2, x3) h (it [0, 1, 2, 3, 8, 9]) ?_
 rintro ⟨f10, x8, x9⟩ h
 dsimp only at h ⊢
 rcases f10 with _ | f10
 cases h
 rw [slices_insertionSortCmpFunc_impl_Value_l1] at h
 refine pwp_seq ?_
 refine pwp_seq ?_
 refine pwp_join (σ := Bool) (fun x12 => (⟨53, [(0, rf 0 0 1 x9), (1, I a1), (2, I a2), (3, .fn g3 c3), (8, I x2), (9, I x8), (34, B x12)], [sl 0 x9]⟩ : St)) (fun x12 => slices_insertionSortCmpFunc_impl_Value_j2 x2 (slices_insertionSortCmpFunc_impl_Value_l0 a1 a2 a3 f4) x8 x9 (slices_insertionSortCmpFunc_impl_Value_l1 a1 a3 x2 (slices_insertionSortCmpFunc_impl_Value_l0 a1 a2 a3 f4) f10) x12 = some y) ?_ ?_
 refine ip 53 [(0, rf 0 0 1 x9), (1, I a1), (2, I a2), (3, .fn g3 c3), (8, I x2), (9, I x8)] [sl 0 x9] ?_
 refine pwp_any ([[], [], [], [], [], [0], [], [0], [0], [0], [], [], [0], [0], [], [], []]) ([[], [], [], [], [], [], [], [], [], [], [], [], [], [], [], [], []]) rfl (by kernel_rfl) ?_
 refine qv [] trivial 4 53 [(21, B (decide (x8 > a1))), (0, rf 0 0 1 x9), (1, I a1), (2, I a2), (3, .fn g3 c3), (8, I x2), (9, I x8)] [sl 0 x9] ?_
 rcases fk (decide (x8 > a1)) with hc28 | hc28
 replace h := bT hc28 h
 rw [hc28]
 refine qA_mv (⟨53, [(22, .fn g3 c3), (21, B true), (0, rf 0 0 1 x9), (1, I a1), (2, I a2), (3, .fn g3 c3), (8, I x2), (9, I x8)], [sl 0 x9]⟩) (by kernel_rfl) rfl ?_
 refine qv [0] (hL trivial) 1 53 [(23, rf 0 0 1 x9), (22, .fn g3 c3), (21, B true), (0, rf 0 0 1 x9), (1, I a1), (2, I a2), (3, .fn g3 c3), (8, I x2), (9, I x8)] [sl 0 x9] ?_
 refine qv [] trivial 1 53 [(24, I x8), (23, rf 0 0 1 x9), (22, .fn g3 c3), (21, B true), (0, rf 0 0 1 x9), (1, I a1), (2, I a2), (3, .fn g3 c3), (8, I x2), (9, I x8)] [sl 0 x9] ?_
 obtain ⟨v22, hv23, h⟩ := bindS h
 refine qX (some 25) (.ptr 0 0 (x8.toNat * 1)) 53 [(25, .ptr 0 0 (x8.toNat * 1)), (24, I x8), (23, rf 0 0 1 x9), (22, .fn g3 c3), (21, B true), (0, rf 0 0 1 x9), (1, I a1), (2, I a2), (3, .fn g3 c3), (8, I x2), (9, I x8)] [sl 0 x9] (fun Γ' hΓ => CoreE.of_y (idrV_sound (n := x9.length) τ_ok (by kernel_rfl) hv23 rfl)) (hL trivial) ?_
 refine qX (some 26) (A v22) 53 [(26, A v22), (25, .ptr 0 0 (x8.toNat * 1)), (24, I x8), (23, rf 0 0 1 x9), (22, .fn g3 c3), (21, B true), (0, rf 0 0 1 x9), (1, I a1), (2, I a2), (3, .fn g3 c3), (8, I x2), (9, I x8)] [sl 0 x9] (fun Γ' hΓ => CoreE.of_y (ldeV_sound (t := 29) (o' := 0) (r := A v22) τ_ok hv23 (by kernel_rfl) (by kernel_rfl))) (hL trivial) ?_
 refine qv [0] (hL trivial) 1 53 [(27, rf 0 0 1 x9), (26, A v22), (25, .ptr 0 0 (x8.toNat * 1)), (24, I x8), (23, rf 0 0 1 x9), (22, .fn g3 c3), (21, B true), (0, rf 0 0 1 x9), (1, I a1), (2, I a2), (3, .fn g3 c3), (8, I x2), (9, I x8)] [sl 0 x9] ?_
 refine qv [] trivial 2 53 [(29, I (w64 (x8 - 1))), (28, I x8), (27, rf 0 0 1 x9), (26, A v22), (25, .ptr 0 0 (x8.toNat * 1)), (24, I x8), (23, rf 0 0 1 x9), (22, .fn g3 c3), (21, B true), (0, rf 0 0 1 x9), (1, I a1), (2, I a2), (3, .fn g3 c3), (8, I x2), (9, I x8)] [sl 0 x9] ?_
 obtain ⟨v24, hv25, h⟩ := bindS h
 refine qX (some 30) (.ptr 0 0 ((w64 (x8 - 1)).toNat * 1)) 53 [(30, .ptr 0 0 ((w64 (x8 - 1)).toNat * 1)), (29, I (w64 (x8 - 1))), (28, I x8), (27, rf 0 0 1 x9), (26, A v22), (25, .ptr 0 0 (x8.toNat * 1)), (24, I x8), (23, rf 0 0 1 x9), (22, .fn g3 c3), (21, B true), (0, rf 0 0 1 x9), (1, I a1), (2, I a2), (3, .fn g3 c3), (8, I x2), (9, I x8)] [sl 0 x9] (fun Γ' hΓ => CoreE.of_y (idrV_sound (n := x9.length) τ_ok (by kernel_rfl) hv25 rfl)) (hL trivial) ?_
 refine qX (some 31) (A v24) 53 [(31, A v24), (30, .ptr 0 0 ((w64 (x8 - 1)).toNat * 1)), (29, I (w64 (x8 - 1))), (28, I x8), (27, rf 0 0 1 x9), (26, A v22), (25, .ptr 0 0 (x8.toNat * 1)), (24, I x8), (23, rf 0 0 1 x9), (22, .fn g3 c3), (21, B true), (0, rf 0 0 1 x9), (1, I a1), (2, I a2), (3, .fn g3 c3), (8, I x2), (9, I x8)] [sl 0 x9] (fun Γ' hΓ => CoreE.of_y (ldeV_sound (t := 29) (o' := 0) (r := A v24) τ_ok hv25 (by kernel_rfl) (by kernel_rfl))) (hL trivial) ?_
 obtain ⟨v26, hv27, h⟩ := bindS h
 refine qX (some 32) (I v26) 53 [(32, I v26), (31, A v24), (30, .ptr 0 0 ((w64 (x8 - 1)).toNat * 1)), (29, I (w64 (x8 - 1))), (28, I x8), (27, rf 0 0 1 x9), (26, A v22), (25, .ptr 0 0 (x8.toNat * 1)), (24, I x8), (23, rf 0 0 1 x9), (22, .fn g3 c3), (21, B true), (0, rf 0 0 1 x9), (1, I a1), (2, I a2), (3, .fn g3 c3), (8, I x2), (9, I x8)] [sl 0 x9] (fun Γ' hΓ => CoreE.of_g (callV_sound (τ := τ) (by kernel_rfl) (frz_app (xs := [A v22, A v24]) rfl hz3) (hp3 _ _ _ hv27) (FzTo.frz rfl))) trivial ?_
 refine qvn [] trivial 2 53 [(0, rf 0 0 1 x9), (1, I a1), (2, I a2), (3, .fn g3 c3), (8, I x2), (9, I x8), (22, .fn g3 c3), (23, rf 0 0 1 x9), (24, I x8), (25, .ptr 0 0 (x8.toNat * 1)), (26, A v22), (27, rf 0 0 1 x9), (28, I x8), (29, I (w64 (x8 - 1))), (30, .ptr 0 0 ((w64 (x8 - 1)).toNat * 1)), (31, A v24), (32, I v26), (33, B (decide (v26 < 0))), (34, B (decide (v26 < 0)))] [sl 0 x9] ?_
 exact ⟨(decide (v26 < 0)), h, it [0, 1, 2, 3, 8, 9, 34]⟩
 replace h := bF hc28 h
 rw [hc28]
 refine qv [] trivial 1 53 [(22, .lit undef), (21, B false), (0, rf 0 0 1 x9), (1, I a1), (2, I a2), (3, .fn g3 c3), (8, I x2), (9, I x8)] [sl 0 x9] ?_
 refine qv [0] (hL trivial) 1 53 [(23, .lit undef), (22, .lit undef), (21, B false), (0, rf 0 0 1 x9), (1, I a1), (2, I a2), (3, .fn g3 c3), (8, I x2), (9, I x8)] [sl 0 x9] ?_
 refine qv [] trivial 1 53 [(24, .lit undef), (23, .lit undef), (22, .lit undef), (21, B false), (0, rf 0 0 1 x9), (1, I a1), (2, I a2), (3, .fn g3 c3), (8, I x2), (9, I x8)] [sl 0 x9] ?_
 refine qv [0] (hL trivial) 3 53 [(27, .lit undef), (26, .lit undef), (25, .lit undef), (24, .lit undef), (23, .lit undef), (22, .lit undef), (21, B false), (0, rf 0 0 1 x9), (1, I a1), (2, I a2), (3, .fn g3 c3), (8, I x2), (9, I x8)] [sl 0 x9] ?_
 refine qv [] trivial 2 53 [(29, .lit undef), (28, .lit undef), (27, .lit undef), (26, .lit undef), (25, .lit undef), (24, .lit undef), (23, .lit undef), (22, .lit undef), (21, B false), (0, rf 0 0 1 x9), (1, I a1), (2, I a2), (3, .fn g3 c3), (8, I x2), (9, I x8)] [sl 0 x9] ?_
 refine qv [0] (hL trivial) 2 53 [(31, .lit undef), (30, .lit undef), (29, .lit undef), (28, .lit undef), (27, .lit undef), (26, .lit undef), (25, .lit undef), (24, .lit undef), (23, .lit undef), (22, .lit undef), (21, B false), (0, rf 0 0 1 x9), (1, I a1), (2, I a2), (3, .fn g3 c3), (8, I x2), (9, I x8)] [sl 0 x9] ?_
 refine qv [] trivial 3 53 [(34, B false), (33, .lit undef), (32, .lit undef), (31, .lit undef), (30, .lit undef), (29, .lit undef), (28, .lit undef), (27, .lit undef), (26, .lit undef), (25, .lit undef), (24, .lit undef), (23, .lit undef), (22, .lit undef), (0, rf 0 0 1 x9), (1, I a1), (2, I a2), (3, .fn g3 c3), (8, I x2), (9, I x8)] [sl 0 x9] ?_
 refine qn 53 [(0, rf 0 0 1 x9), (1, I a1), (2, I a2), (3, .fn g3 c3), (8, I x2), (9, I x8), (22, .lit undef), (23, .lit undef), (24, .lit undef), (25, .lit undef), (26, .lit undef), (27, .lit undef), (28, .lit undef), (29, .lit undef), (30, .lit undef), (31, .lit undef), (32, .lit undef), (33, .lit undef), (34, B false)] [sl 0 x9] ?_
 exact ⟨false, h, it [0, 1, 2, 3, 8, 9, 34]⟩
 rintro x12 h
 unfold slices_insertionSortCmpFunc_impl_Value_j2 at h
 refine pc h (fun h => ?_) (fun h => ?_)
 refine pwp_skip ?_
 refine pwp_seq ?_
 refine pwp_block ?_
 refine ip 53 [(0, rf 0 0 1 x9), (1, I a1), (2, I a2), (3, .fn g3 c3), (8, I x2), (9, I x8)] [sl 0 x9] ?_
 refine pwp_any ([[], [], [], [], [], [], [], [], [0], [0], [], [], [0], [0], [0], [0], [0], [0]]) ([[], [], [], [], [], [], [], [], [], [], [], [], [], [], [], [0], [], [0]]) rfl (by kernel_rfl) ?_
 refine qA_mv (⟨53, [(37, rf 0 0 1 x9), (0, rf 0 0 1 x9), (1, I a1), (2, I a2), (3, .fn g3 c3), (8, I x2), (9, I x8)], [sl 0 x9]⟩) (by kernel_rfl) rfl ?_
 refine qv [] trivial 1 53 [(38, I x8), (37, rf 0 0 1 x9), (0, rf 0 0 1 x9), (1, I a1), (2, I a2), (3, .fn g3 c3), (8, I x2), (9, I x8)] [sl 0 x9] ?_
 refine qA_mv (⟨53, [(39, rf 0 0 1 x9), (38, I x8), (37, rf 0 0 1 x9), (0, rf 0 0 1 x9), (1, I a1), (2, I a2), (3, .fn g3 c3), (8, I x2), (9, I x8)], [sl 0 x9]⟩) (by kernel_rfl) rfl ?_
 refine qv [] trivial 2 53 [(41, I (w64 (x8 - 1))), (39, rf 0 0 1 x9), (38, I x8), (37, rf 0 0 1 x9), (0, rf 0 0 1 x9), (1, I a1), (2, I a2), (3, .fn g3 c3), (8, I x2), (9, I x8)] [sl 0 x9] ?_
 refine qA_mv (⟨53, [(42, rf 0 0 1 x9), (41, I (w64 (x8 - 1))), (39, rf 0 0 1 x9), (38, I x8), (37, rf 0 0 1 x9), (0, rf 0 0 1 x9), (1, I a1), (2, I a2), (3, .fn g3 c3), (8, I x2), (9, I x8)], [sl 0 x9]⟩) (by kernel_rfl) rfl ?_
 refine qv [] trivial 2 53 [(44, I (w64 (x8 - 1))), (42, rf 0 0 1 x9), (41, I (w64 (x8 - 1))), (39, rf 0 0 1 x9), (38, I x8), (37, rf 0 0 1 x9), (0, rf 0 0 1 x9), (1, I a1), (2, I a2), (3, .fn g3 c3), (8, I x2), (9, I x8)] [sl 0 x9] ?_
 obtain ⟨v14, hv15, h⟩ := bindS h
 refine qX (some 45) (.ptr 0 0 ((w64 (x8 - 1)).toNat * 1)) 53 [(45, .ptr 0 0 ((w64 (x8 - 1)).toNat * 1)), (41, I (w64 (x8 - 1))), (39, rf 0 0 1 x9), (38, I x8), (37, rf 0 0 1 x9), (0, rf 0 0 1 x9), (1, I a1), (2, I a2), (3, .fn g3 c3), (8, I x2), (9, I x8)] [sl 0 x9] (fun Γ' hΓ => CoreE.of_y (idrV_sound (n := x9.length) τ_ok (by kernel_rfl) hv15 rfl)) (hL trivial) ?_
 refine qX (some 46) (A v14) 53 [(46, A v14), (41, I (w64 (x8 - 1))), (39, rf 0 0 1 x9), (38, I x8), (37, rf 0 0 1 x9), (0, rf 0 0 1 x9), (1, I a1), (2, I a2), (3, .fn g3 c3), (8, I x2), (9, I x8)] [sl 0 x9] (fun Γ' hΓ => CoreE.of_y (ldeV_sound (t := 29) (o' := 0) (r := A v14) τ_ok hv15 (by kernel_rfl) (by kernel_rfl))) (hL trivial) ?_
 refine qA_mv (⟨53, [(47, rf 0 0 1 x9), (46, A v14), (41, I (w64 (x8 - 1))), (39, rf 0 0 1 x9), (38, I x8), (37, rf 0 0 1 x9), (0, rf 0 0 1 x9), (1, I a1), (2, I a2), (3, .fn g3 c3), (8, I x2), (9, I x8)], [sl 0 x9]⟩) (by kernel_rfl) rfl ?_
 refine qv [] trivial 1 53 [(48, I x8), (47, rf 0 0 1 x9), (46, A v14), (41, I (w64 (x8 - 1))), (39, rf 0 0 1 x9), (38, I x8), (37, rf 0 0 1 x9), (0, rf 0 0 1 x9), (1, I a1), (2, I a2), (3, .fn g3 c3), (8, I x2), (9, I x8)] [sl 0 x9] ?_
 obtain ⟨v16, hv17, h⟩ := bindS h
 refine qX (some 49) (.ptr 0 0 (x8.toNat * 1)) 53 [(49, .ptr 0 0 (x8.toNat * 1)), (46, A v14), (41, I (w64 (x8 - 1))), (39, rf 0 0 1 x9), (38, I x8), (37, rf 0 0 1 x9), (0, rf 0 0 1 x9), (1, I a1), (2, I a2), (3, .fn g3 c3), (8, I x2), (9, I x8)] [sl 0 x9] (fun Γ' hΓ => CoreE.of_y (idrV_sound (n := x9.length) τ_ok (by kernel_rfl) hv17 rfl)) (hL trivial) ?_
 refine qX (some 50) (A v16) 53 [(50, A v16), (46, A v14), (41, I (w64 (x8 - 1))), (39, rf 0 0 1 x9), (38, I x8), (37, rf 0 0 1 x9), (0, rf 0 0 1 x9), (1, I a1), (2, I a2), (3, .fn g3 c3), (8, I x2), (9, I x8)] [sl 0 x9] (fun Γ' hΓ => CoreE.of_y (ldeV_sound (t := 29) (o' := 0) (r := A v16) τ_ok hv17 (by kernel_rfl) (by kernel_rfl))) (hL trivial) ?_
 obtain ⟨v18, hv19, h⟩ := bindS h
 refine qX (some 51) (.ptr 0 0 (x8.toNat * 1)) 53 [(51, .ptr 0 0 (x8.toNat * 1)), (50, A v16), (46, A v14), (41, I (w64 (x8 - 1))), (39, rf 0 0 1 x9), (0, rf 0 0 1 x9), (1, I a1), (2, I a2), (3, .fn g3 c3), (8, I x2), (9, I x8)] [sl 0 x9] (fun Γ' hΓ => CoreE.of_y (idrV_sound (n := x9.length) τ_ok (by kernel_rfl) hv19 rfl)) (hL trivial) ?_
 refine qX none (.any) 53 [(50, A v16), (41, I (w64 (x8 - 1))), (39, rf 0 0 1 x9), (0, rf 0 0 1 x9), (1, I a1), (2, I a2), (3, .fn g3 c3), (8, I x2), (9, I x8)] [some ⟨0, eL (x9.set x8.toNat v14)⟩] (fun Γ' hΓ => ste_E (vs := [A v14]) τ_ok 29 0 0 0 v14 hv19 (by kernel_rfl) (by kernel_rfl) (by kernel_rfl)) (hL trivial) ?_
 refine qA_ren (st' := ⟨53, [(50, A v16), (41, I (w64 (x8 - 1))), (39, .ref 0 0 0 1 (x9.set x8.toNat v14).length false), (0, .ref 0 0 0 1 (x9.set x8.toNat v14).length false), (1, I a1), (2, I a2), (3, .fn g3 c3), (8, I x2), (9, I x8)], [some ⟨0, eL (x9.set x8.toNat v14)⟩]⟩) 0 (x9.set x8.toNat v14).length (renC trivial (renC trivial (renC (ren_ref (List.length_set ..).symm) (renC (ren_ref (List.length_set ..).symm) (renC trivial (renC trivial (renC trivial (renC trivial (renC trivial renC0))))))))) (by kernel_rfl) ?_
 obtain ⟨v20, hv21, h⟩ := bindS h
 refine qX (some 52) (.ptr 0 0 ((w64 (x8 - 1)).toNat * 1)) 53 [(52, .ptr 0 0 ((w64 (x8 - 1)).toNat * 1)), (50, A v16), (0, .ref 0 0 0 1 (x9.set x8.toNat v14).length false), (1, I a1), (2, I a2), (3, .fn g3 c3), (8, I x2), (9, I x8)] [some ⟨0, eL (x9.set x8.toNat v14)⟩] (fun Γ' hΓ => CoreE.of_y (idrV_sound (n := (x9.set x8.toNat v14).length) τ_ok (by kernel_rfl) hv21 rfl)) (hL trivial) ?_
 refine qX none (.any) 53 [(0, .ref 0 0 0 1 (x9.set x8.toNat v14).length false), (1, I a1), (2, I a2), (3, .fn g3 c3), (8, I x2), (9, I x8)] [some ⟨0, eL ((x9.set x8.toNat v14).set (w64 (x8 - 1)).toNat v16)⟩] (fun Γ' hΓ => ste_E (vs := [A v16]) τ_ok 29 0 0 0 v16 hv21 (by kernel_rfl) (by kernel_rfl) (by kernel_rfl)) (hL trivial) ?_
 refine qA_ren (st' := ⟨53, [(0, .ref 0 0 0 1 ((x9.set x8.toNat v14).set (w64 (x8 - 1)).toNat v16).length false), (1, I a1), (2, I a2), (3, .fn g3 c3), (8, I x2), (9, I x8)], [some ⟨0, eL ((x9.set x8.toNat v14).set (w64 (x8 - 1)).toNat v16)⟩]⟩) 0 ((x9.set x8.toNat v14).set (w64 (x8 - 1)).toNat v16).length (renC (ren_ref (List.length_set ..).symm) (renC trivial (renC trivial (renC trivial (renC trivial (renC trivial renC0)))))) (by kernel_rfl) ?_
 refine qn 53 [(0, .ref 0 0 0 1 ((x9.set x8.toNat v14).set (w64 (x8 - 1)).toNat v16).length false), (1, I a1), (2, I a2), (3, .fn g3 c3), (8, I x2), (9, I x8)] [some ⟨0, eL ((x9.set x8.toNat v14).set (w64 (x8 - 1)).toNat v16)⟩] ?_
 refine rve 53 [(0, .ref 0 0 0 1 ((x9.set x8.toNat v14).set (w64 (x8 - 1)).toNat v16).length false), (1, I a1), (2, I a2), (3, .fn g3 c3), (8, I x2), (9, I (w64 (x8 - 1)))] [some ⟨0, eL ((x9.set x8.toNat v14).set (w64 (x8 - 1)).toNat v16)⟩] ?_
 exact ⟨(f10, (w64 (x8 - 1)), ((x9.set x8.toNat v14).set (w64 (x8 - 1)).toNat v16)), h, Nat.lt_succ_self _, it [0, 1, 2, 3, 8, 9]⟩
 refine pwp_exit ?_
 refine rve 53 [(0, rf 0 0 1 x9), (1, I a1), (2, I a2), (3, .fn g3 c3), (8, I (w64 (x2 + 1)))] [sl 0 x9] ?_
 exact ⟨(f4, (w64 (x2 + 1)), x9), h, Nat.lt_succ_self _, it [0, 1, 2, 3, 8]⟩
 refine pwp_exit ?_
 have h := si h
 subst h
 first | exact ⟨.inl rfl, .tup [], _, 0, by kernel_rfl, (OutP.tup (OutL.nil _)), by decide, by decide, by kernel_rfl⟩ | exact pwp_ret ⟨.inr rfl, .tup [], _, 0, by kernel_rfl, (OutP.tup (OutL.nil _)), by decide, by decide, by kernel_rfl⟩
def cmp_isNaN_int (a0 : Int) : Option Bool := some (!(a0 == a0))
theorem ok_cmp_isNaN_int {a0 : Int} {y : Bool} (h : cmp_isNaN_int a0 = some y) : OK Try.prog 190 [I a0] (B y) := by
 refine ow Try.func190 fun Γ hX => ?_
 unfold cmp_isNaN_int at h
 refine srve 6 [(0, I a0)] [] ?_
 refine srve 6 [(2, B (!(a0 == a0)))] [] ?_
 cases h
 exact pwp_ret rz
def spec_l1Cmp (a0 : ByteArray) (a1 : ByteArray) : Option Int := bif (Op.bytesLess a0.toList a1.toList) then some (-1) else bif (!Op.bytesLess a0.toList a1.toList && !(a0.toList == a1.toList)) then some 1 else some 0
theorem ok_spec_l1Cmp {a0 : ByteArray} {a1 : ByteArray} {y : Int} (h : spec_l1Cmp a0 a1 = some y) : OK Try.prog 192 [S a0, S a1] (I y) := by
 refine ow Try.func192 fun Γ hX => ?_
 unfold spec_l1Cmp at h
 refine srve 11 [(0, S a0), (1, S a1)] [] ?_
 refine pwp_seq ?_
 refine srve 11 [(0, S a0), (1, S a1), (7, B (Op.bytesLess a0.toList a1.toList))] [] ?_
 refine pc h (fun h => ?_) (fun h => ?_)
 refine srve 11 [(4, I (-1))] [] ?_
 cases h
 exact pwp_ret rz
 refine pwp_skip ?_
 refine pwp_seq ?_
 refine srve 11 [(10, B (!Op.bytesLess a0.toList a1.toList && !(a0.toList == a1.toList)))] [] ?_
 refine pc h (fun h => ?_) (fun h => ?_)
 refine srve 11 [(4, I 1)] [] ?_
 cases h
 exact pwp_ret rz
 refine pwp_skip ?_
 refine srve 11 [(4, I 0)] [] ?_
 cases h
 exact pwp_ret rz
def cmp_isNaN_string (a0 : ByteArray) : Option Bool := some (!(a0.toList == a0.toList))
theorem ok_cmp_isNaN_string {a0 : ByteArray} {y : Bool} (h : cmp_isNaN_string a0 = some y) : OK Try.prog 200 [S a0] (B y) := by
 refine ow Try.func200 fun Γ hX => ?_
 unfold cmp_isNaN_string at h
 refine srve 6 [(0, S a0)] [] ?_
 refine srve 6 [(2, B (!(a0.toList == a0.toList)))] [] ?_
 cases h
 exact pwp_ret rz
def slices_swapRangeCmpFunc_impl_Value_l0 (a1 : Int) (a2 : Int) (a3 : Int) : Nat → Int → (List (List T_impl_Value)) → Option (List (List T_impl_Value))
 | 0, _, _ => none
 | f4 + 1, x2, x3 => bif (decide (x2 < a3)) then (getI x3 (w64 (a2 + x2))).bind fun v7 => (getI x3 (w64 (a1 + x2))).bind fun v9 => (getI x3 (w64 (a1 + x2))).bind fun v11 => (getI (x3.set (w64 (a1 + x2)).toNat v7) (w64 (a2 + x2))).bind fun v13 => (slices_swapRangeCmpFunc_impl_Value_l0 a1 a2 a3 f4) (w64 (x2 + 1)) ((x3.set (w64 (a1 + x2)).toNat v7).set (w64 (a2 + x2)).toNat v9) else some x3
def slices_swapRangeCmpFunc_impl_Value_w (a0 : List (List T_impl_Value)) (a1 : Int) (a2 : Int) (a3 : Int) (a4 : (List T_impl_Value) → (List T_impl_Value) → Option Int) : Option (List (List T_impl_Value)) := slices_swapRangeCmpFunc_impl_Value_l0 a1 a2 a3 FUEL 0 a0
def slices_swapRangeCmpFunc_impl_Value (a0 : List (List T_impl_Value)) (a1 : Int) (a2 : Int) (a3 : Int) (a4 : (List T_impl_Value) → (List T_impl_Value) → Option Int) : Option (List (List T_impl_Value)) := (slices_swapRangeCmpFunc_impl_Value_w a0 a1 a2 a3 a4).bind fun y => bif (y.length == a0.length) then some y else none
theorem len_slices_swapRangeCmpFunc_impl_Value {a0 : List (List T_impl_Value)} {a1 : Int} {a2 : Int} {a3 : Int} {a4 : (List T_impl_Value) → (List T_impl_Value) → Option Int} {y : List (List T_impl_Value)} (h : slices_swapRangeCmpFunc_impl_Value a0 a1 a2 a3 a4 = some y) : y.length = a0.length := (bindLen (f := fun y : List (List T_impl_Value) => y) h).2
theorem ok_slices_swapRangeCmpFunc_impl_Value {a0 : List (List T_impl_Value)} {a1 : Int} {a2 : Int} {a3 : Int} {g4 : FuncId} {c4 : List V} (hz4 : frzL c4 = true) {a4 : (List T_impl_Value) → (List T_impl_Value) → Option Int} (hp4 : ∀ x0 x1 y, a4 x0 x1 = some y → OK Try.prog g4 ([A x0, A x1] ++ c4) (I y)) {y : List (List T_impl_Value)} (h : slices_swapRangeCmpFunc_impl_Value a0 a1 a2 a3 a4 = some y) : OKs Try.prog 207 [] 1 a0.length (eL a0) [I a1, I a2, I a3, .fn g4 c4] (.tup []) (eL y) := by
 refine OKs_of_pwp τ_ok Try.func207 rfl (by kernel_rfl) rfl (eL_frz _) (eL_frz _) (by rw [eL_len, eL_len, len_slices_swapRangeCmpFunc_impl_Value h]) fun Γ hQ => ?_
 refine pwp_imp (Imp.to (st' := ⟨38, [(0, rf 0 0 1 a0), (1, I a1), (2, I a2), (3, I a3), (4, .fn g4 c4)], [sl 0 a0]⟩) [0, 1, 2, 3, 4] (by kernel_rfl)) ?_
 have h := (bindLen (f := fun y : List (List T_impl_Value) => y) h).1
 unfold slices_swapRangeCmpFunc_impl_Value_w at h
 refine srve 38 [(0, rf 0 0 1 a0), (1, I a1), (2, I a2), (3, I a3), (10, I 0)] [sl 0 a0] ?_
 refine pwp_block ?_
 refine pwp_loop (ι := Nat × Int × (List (List T_impl_Value))) (fun (f4, x2, x3) => (⟨38, [(0, rf 0 0 1 x3), (1, I a1), (2, I a2), (3, I a3), (10, I x2)], [sl 0 x3]⟩ : St)) (fun (f4, x2, x3) => slices_swapRangeCmpFunc_impl_Value_l0 a1 a2 a3 f4 x2 x3 = some y) Prod.fst (FUEL, 0, a0) h (it [0, 1, 2, 3, 10]) ?_
 rintro ⟨f4, x2, x3⟩ h
 dsimp only at h ⊢
 rcases f4 with _ | f4
 cases h
 rw [slices_swapRangeCmpFunc_impl_Value_l0] at h
 refine pwp_seq ?_
 refine srve 38 [(0, rf 0 0 1 x3), (1, I a1), (2, I a2), (3, I a3), (10, I x2), (13, B (decide (x2 < a3)))] [sl 0 x3] ?_
 refine pc h (fun h => ?_) (fun h => ?_)
 refine pwp_skip ?_
 refine pwp_seq ?_
 refine pwp_block ?_
 refine ip 38 [(0, rf 0 0 1 x3), (1, I a1), (2, I a2), (3, I a3), (10, I x2)] [sl 0 x3] ?_
 refine pwp_any ([[], [], [], [], [], [], [], [], [], [], [], [], [0], [0], [], [], [], [], [0], [0], [0], [0], [0], [0]]) ([[], [], [], [], [], [], [], [], [], [], [], [], [], [], [], [], [], [], [], [], [], [0], [], [0]]) rfl (by kernel_rfl) ?_
 refine qA_mv (⟨38, [(16, rf 0 0 1 x3), (0, rf 0 0 1 x3), (1, I a1), (2, I a2), (3, I a3), (10, I x2)], [sl 0 x3]⟩) (by kernel_rfl) rfl ?_
 refine qv [] trivial 3 38 [(19, I (w64 (a1 + x2))), (16, rf 0 0 1 x3), (0, rf 0 0 1 x3), (1, I a1), (2, I a2), (3, I a3), (10, I x2)] [sl 0 x3] ?_
 refine qA_mv (⟨38, [(20, rf 0 0 1 x3), (19, I (w64 (a1 + x2))), (16, rf 0 0 1 x3), (0, rf 0 0 1 x3), (1, I a1), (2, I a2), (3, I a3), (10, I x2)], [sl 0 x3]⟩) (by kernel_rfl) rfl ?_
 refine qv [] trivial 3 38 [(23, I (w64 (a2 + x2))), (20, rf 0 0 1 x3), (19, I (w64 (a1 + x2))), (16, rf 0 0 1 x3), (0, rf 0 0 1 x3), (1, I a1), (2, I a2), (3, I a3), (10, I x2)] [sl 0 x3] ?_
 refine qA_mv (⟨38, [(24, rf 0 0 1 x3), (23, I (w64 (a2 + x2))), (20, rf 0 0 1 x3), (19, I (w64 (a1 + x2))), (16, rf 0 0 1 x3), (0, rf 0 0 1 x3), (1, I a1), (2, I a2), (3, I a3), (10, I x2)], [sl 0 x3]⟩) (by kernel_rfl) rfl ?_
 refine qv [] trivial 3 38 [(27, I (w64 (a2 + x2))), (24, rf 0 0 1 x3), (23, I (w64 (a2 + x2))), (20, rf 0 0 1 x3), (19, I (w64 (a1 + x2))), (16, rf 0 0 1 x3), (0, rf 0 0 1 x3), (1, I a1), (2, I a2), (3, I a3), (10, I x2)] [sl 0 x3] ?_
 obtain ⟨v7, hv8, h⟩ := bindS h
 refine qX (some 28) (.ptr 0 0 ((w64 (a2 + x2)).toNat * 1)) 38 [(28, .ptr 0 0 ((w64 (a2 + x2)).toNat * 1)), (23, I (w64 (a2 + x2))), (20, rf 0 0 1 x3), (19, I (w64 (a1 + x2))), (16, rf 0 0 1 x3), (0, rf 0 0 1 x3), (1, I a1), (2, I a2), (3, I a3), (10, I x2)] [sl 0 x3] (fun Γ' hΓ => CoreE.of_y (idrV_sound (n := x3.length) τ_ok (by kernel_rfl) hv8 rfl)) (hL trivial) ?_
 refine qX (some 29) (A v7) 38 [(29, A v7), (23, I (w64 (a2 + x2))), (20, rf 0 0 1 x3), (19, I (w64 (a1 + x2))), (16, rf 0 0 1 x3), (0, rf 0 0 1 x3), (1, I a1), (2, I a2), (3, I a3), (10, I x2)] [sl 0 x3] (fun Γ' hΓ => CoreE.of_y (ldeV_sound (t := 29) (o' := 0) (r := A v7) τ_ok hv8 (by kernel_rfl) (by kernel_rfl))) (hL trivial) ?_
 refine qA_mv (⟨38, [(30, rf 0 0 1 x3), (29, A v7), (23, I (w64 (a2 + x2))), (20, rf 0 0 1 x3), (19, I (w64 (a1 + x2))), (16, rf 0 0 1 x3), (0, rf 0 0 1 x3), (1, I a1), (2, I a2), (3, I a3), (10, I x2)], [sl 0 x3]⟩) (by kernel_rfl) rfl ?_
 refine qv [] trivial 3 38 [(33, I (w64 (a1 + x2))), (30, rf 0 0 1 x3), (29, A v7), (23, I (w64 (a2 + x2))), (20, rf 0 0 1 x3), (19, I (w64 (a1 + x2))), (16, rf 0 0 1 x3), (0, rf 0 0 1 x3), (1, I a1), (2, I a2), (3, I a3), (10, I x2)] [sl 0 x3] ?_
 obtain ⟨v9, hv10, h⟩ := bindS h
 refine qX (some 34) (.ptr 0 0 ((w64 (a1 + x2)).toNat * 1)) 38 [(34, .ptr 0 0 ((w64 (a1 + x2)).toNat * 1)), (29, A v7), (23, I (w64 (a2 + x2))), (20, rf 0 0 1 x3), (19, I (w64 (a1 + x2))), (16, rf 0 0 1 x3), (0, rf 0 0 1 x3), (1, I a1), (2, I a2), (3, I a3), (10, I x2)] [sl 0 x3] (fun Γ' hΓ => CoreE.of_y (idrV_sound (n := x3.length) τ_ok (by kernel_rfl) hv10 rfl)) (hL trivial) ?_
 refine qX (some 35) (A v9) 38 [(35, A v9), (29, A v7), (23, I (w64 (a2 + x2))), (20, rf 0 0 1 x3), (19, I (w64 (a1 + x2))), (16, rf 0 0 1 x3), (0, rf 0 0 1 x3), (1, I a1), (2, I a2), (3, I a3), (10, I x2)] [sl 0 x3] (fun Γ' hΓ => CoreE.of_y (ldeV_sound (t := 29) (o' := 0) (r := A v9) τ_ok hv10 (by kernel_rfl) (by kernel_rfl))) (hL trivial) ?_
 obtain ⟨v11, hv12, h⟩ := bindS h
 refine qX (some 36) (.ptr 0 0 ((w64 (a1 + x2)).toNat * 1)) 38 [(36, .ptr 0 0 ((w64 (a1 + x2)).toNat * 1)), (35, A v9), (29, A v7), (23, I (w64 (a2 + x2))), (20, rf 0 0 1 x3), (0, rf 0 0 1 x3), (1, I a1), (2, I a2), (3, I a3), (10, I x2)] [sl 0 x3] (fun Γ' hΓ => CoreE.of_y (idrV_sound (n := x3.length) τ_ok (by kernel_rfl) hv12 rfl)) (hL trivial) ?_
 refine qX none (.any) 38 [(35, A v9), (23, I (w64 (a2 + x2))), (20, rf 0 0 1 x3), (0, rf 0 0 1 x3), (1, I a1), (2, I a2), (3, I a3), (10, I x2)] [some ⟨0, eL (x3.set (w64 (a1 + x2)).toNat v7)⟩] (fun Γ' hΓ => ste_E (vs := [A v7]) τ_ok 29 0 0 0 v7 hv12 (by kernel_rfl) (by kernel_rfl) (by kernel_rfl)) (hL trivial) ?_
 refine qA_ren (st' := ⟨38, [(35, A v9), (23, I (w64 (a2 + x2))), (20, .ref 0 0 0 1 (x3.set (w64 (a1 + x2)).toNat v7).length false), (0, .ref 0 0 0 1 (x3.set (w64 (a1 + x2)).toNat v7).length false), (1, I a1), (2, I a2), (3, I a3), (10, I x2)], [some ⟨0, eL (x3.set (w64 (a1 + x2)).toNat v7)⟩]⟩) 0 (x3.set (w64 (a1 + x2)).toNat v7).length (renC trivial (renC trivial (renC (ren_ref (List.length_set ..).symm) (renC (ren_ref (List.length_set ..).symm) (renC trivial (renC trivial (renC trivial (renC trivial renC0)))))))) (by kernel_rfl) ?_
 obtain ⟨v13, hv14, h⟩ := bindS h
 refine qX (some 37) (.ptr 0 0 ((w64 (a2 + x2)).toNat * 1)) 38 [(37, .ptr 0 0 ((w64 (a2 + x2)).toNat * 1)), (35, A v9), (0, .ref 0 0 0 1 (x3.set (w64 (a1 + x2)).toNat v7).length false), (1, I a1), (2, I a2), (3, I a3), (10, I x2)] [some ⟨0, eL (x3.set (w64 (a1 + x2)).toNat v7)⟩] (fun Γ' hΓ => CoreE.of_y (idrV_sound (n := (x3.set (w64 (a1 + x2)).toNat v7).length) τ_ok (by kernel_rfl) hv14 rfl)) (hL trivial) ?_
 refine qX none (.any) 38 [(0, .ref 0 0 0 1 (x3.set (w64 (a1 + x2)).toNat v7).length false), (1, I a1), (2, I a2), (3, I a3), (10, I x2)] [some ⟨0, eL ((x3.set (w64 (a1 + x2)).toNat v7).set (w64 (a2 + x2)).toNat v9)⟩] (fun Γ' hΓ => ste_E (vs := [A v9]) τ_ok 29 0 0 0 v9 hv14 (by kernel_rfl) (by kernel_rfl) (by kernel_rfl)) (hL trivial) ?_
 refine qA_ren (st' := ⟨38, [(0, .ref 0 0 0 1 ((x3.set (w64 (a1 + x2)).toNat v7).set (w64 (a2 + x2)).toNat v9).length false), (1, I a1), (2, I a2), (3, I a3), (10, I x2)], [some ⟨0, eL ((x3.set (w64 (a1 + x2)).toNat v7).set (w64 (a2 + x2)).toNat v9)⟩]⟩) 0 ((x3.set (w64 (a1 + x2)).toNat v7).set (w64 (a2 + x2)).toNat v9).length (renC (ren_ref (List.length_set ..).symm) (renC trivial (renC trivial (renC trivial (renC trivial renC0))))) (by kernel_rfl) ?_
 refine qn 38 [(0, .ref 0 0 0 1 ((x3.set (w64 (a1 + x2)).toNat v7).set (w64 (a2 + x2)).toNat v9).length false), (1, I a1), (2, I a2), (3, I a3), (10, I x2)] [some ⟨0, eL ((x3.set (w64 (a1 + x2)).toNat v7).set (w64 (a2 + x2)).toNat v9)⟩] ?_
 refine rve 38 [(0, .ref 0 0 0 1 ((x3.set (w64 (a1 + x2)).toNat v7).set (w64 (a2 + x2)).toNat v9).length false), (1, I a1), (2, I a2), (3, I a3), (10, I (w64 (x2 + 1)))] [some ⟨0, eL ((x3.set (w64 (a1 + x2)).toNat v7).set (w64 (a2 + x2)).toNat v9)⟩] ?_
 exact ⟨(f4, (w64 (x2 + 1)), ((x3.set (w64 (a1 + x2)).toNat v7).set (w64 (a2 + x2)).toNat v9)), h, Nat.lt_succ_self _, it [0, 1, 2, 3, 10]⟩
 refine pwp_exit ?_
 have h := si h
 subst h
 first | exact ⟨.inl rfl, .tup [], _, 0, by kernel_rfl, (OutP.tup (OutL.nil _)), by decide, by decide, by kernel_rfl⟩ | exact pwp_ret ⟨.inr rfl, .tup [], _, 0, by kernel_rfl, (OutP.tup (OutL.nil _)), by decide, by decide, by kernel_rfl⟩
def slices_ContainsFunc_impl_Value_impl_Value_s3 (a0 : List (List T_impl_Value)) (a1 : (List T_impl_Value) → Option Bool) : Option Bool := (slices_IndexFunc_impl_Value_impl_Value_s3 a0 a1).bind fun v1 => some (decide (v1 ≥ 0))
theorem ok_slices_ContainsFunc_impl_Value_impl_Value_s3 {a0 : List (List T_impl_Value)} {g1 : FuncId} {c1 : List V} (hz1 : frzL c1 = true) {a1 : (List T_impl_Value) → Option Bool} (hp1 : ∀ x0 y, a1 x0 = some y → OK Try.prog g1 ([A x0] ++ c1) (B y)) {y : Bool} (h : slices_ContainsFunc_impl_Value_impl_Value_s3 a0 a1 = some y) : OK Try.prog 67 [A a0, .fn g1 c1] (B y) := by
 refine ow Try.func67 fun Γ hX => ?_
 unfold slices_ContainsFunc_impl_Value_impl_Value_s3 at h
 refine srve 9 [(0, A a0), (1, .fn g1 c1)] [] ?_
 refine srv 2 9 [(5, A a0), (6, .fn g1 c1)] [] ?_
 obtain ⟨v1, hv2, h⟩ := bindS h
 refine opsP_callF τ 7 (ok_slices_IndexFunc_impl_Value_impl_Value_s3 (hz1) (hp1) hv2) (FzTo.frz rfl) (by simp only [frzL, frz, hz1, Bool.and_true]) (by kernel_rfl) ?_
 refine ve 2 9 [(4, B (decide (v1 ≥ 0)))] [] ?_
 cases h
 exact pwp_ret rz
def impl_RowMany_l0 (a0 : List (List T_impl_Value)) (a1 : List T_impl_Value) : Nat → Int → Int → Option Int
 | 0, _, _ => none
 | f3 + 1, x1, x2 => bif (decide (x2 < (a0.length : Int))) then (getI a0 x2).bind fun v6 => (slices_Equal_impl_Value_impl_Value v6 a1).bind fun v8 => bif v8 then (impl_RowMany_l0 a0 a1 f3) (w64 (x1 + 1)) (w64 (x2 + 1)) else (impl_RowMany_l0 a0 a1 f3) x1 (w64 (x2 + 1)) else some x1
def impl_RowMany (a0 : List (List T_impl_Value)) (a1 : List T_impl_Value) : Option Int := impl_RowMany_l0 a0 a1 FUEL 0 0
theorem ok_impl_RowMany {a0 : List (List T_impl_Value)} {a1 : List T_impl_Value} {y : Int} (h : impl_RowMany a0 a1 = some y) : OK Try.prog 104 [A a0, A a1] (I y) := by
 refine ow Try.func104 fun Γ hX => ?_
 unfold impl_RowMany at h
 refine srve 21 [(0, A a0), (1, A a1)] [] ?_
 refine srve 21 [(0, A a0), (1, A a1), (5, I 0)] [] ?_
 refine pwp_seq ?_
 refine srve 21 [(1, A a1), (5, I 0), (8, A a0), (9, I (a0.length : Int)), (10, I 0)] [] ?_
 refine pwp_block ?_
 refine pwp_loop (ι := Nat × Int × Int) (fun (f3, x1, x2) => (⟨21, [(1, A a1), (5, I x1), (8, A a0), (9, I (a0.length : Int)), (10, I x2)], []⟩ : St)) (fun (f3, x1, x2) => impl_RowMany_l0 a0 a1 f3 x1 x2 = some y) Prod.fst (FUEL, 0, 0) h (it [1, 5, 8, 9, 10]) ?_
 rintro ⟨f3, x1, x2⟩ h
 dsimp only at h ⊢
 rcases f3 with _ | f3
 cases h
 rw [impl_RowMany_l0] at h
 refine srve 21 [(1, A a1), (5, I x1), (8, A a0), (9, I (a0.length : Int)), (10, I x2), (11, B (decide (x2 < (a0.length : Int))))] [] ?_
 refine pwp_seq ?_
 refine pc h (fun h => ?_) (fun h => ?_)
 refine pwp_skip ?_
 refine pwp_seq ?_
 refine pwp_block ?_
 refine pwp_seq ?_
 refine pwp_region ?_
 obtain ⟨v6, hv7, h⟩ := bindS h
 refine opsP_idx τ_ok 12 hv7 (by kernel_rfl) ?_
 refine ve 2 21 [(1, A a1), (5, I x1), (7, A v6), (8, A a0), (9, I (a0.length : Int)), (10, I x2)] [] ?_
 refine srv 2 21 [(1, A a1), (5, I x1), (8, A a0), (9, I (a0.length : Int)), (10, I x2), (14, A v6), (15, A a1)] [] ?_
 obtain ⟨v8, hv9, h⟩ := bindS h
 refine cF 16 (ok_slices_Equal_impl_Value_impl_Value hv9) ?_
 refine ve 0 21 [(1, A a1), (5, I x1), (8, A a0), (9, I (a0.length : Int)), (10, I x2), (16, B v8)] [] ?_
 refine pc h (fun h => ?_) (fun h => ?_)
 refine rve 21 [(1, A a1), (5, I (w64 (x1 + 1))), (8, A a0), (9, I (a0.length : Int)), (10, I x2)] [] ?_
 refine rve 21 [(1, A a1), (5, I (w64 (x1 + 1))), (8, A a0), (9, I (a0.length : Int)), (10, I (w64 (x2 + 1)))] [] ?_
 exact ⟨(f3, (w64 (x1 + 1)), (w64 (x2 + 1))), h, Nat.lt_succ_self _, it [1, 5, 8, 9, 10]⟩
 refine pwp_skip ?_
 refine rve 21 [(1, A a1), (5, I x1), (8, A a0), (9, I (a0.length : Int)), (10, I (w64 (x2 + 1)))] [] ?_
 exact ⟨(f3, x1, (w64 (x2 + 1))), h, Nat.lt_succ_self _, it [1, 5, 8, 9, 10]⟩
 refine pwp_exit ?_
 refine srve 21 [(4, I x1)] [] ?_
 cases h
 exact pwp_ret rz
def spec_ValueOk (a0 : T_impl_Value) : Option Bool := bif (a0.fKind == 0) then bif (a0.fN == 0) then some (a0.fS.toList == (ByteArray.mk #[]).toList) else some false else bif (a0.fKind == 1) then (spec_l1In a0.fN (-9999) 9999).bind fun v4 => bif v4 then some (a0.fS.toList == (ByteArray.mk #[]).toList) else some false else bif (a0.fKind == 2) then bif (a0.fN == 0) then (spec_l1Text a0.fS).bind fun v8 => some v8 else some false else bif (a0.fKind == 3) then (spec_l1In a0.fN 0 1).bind fun v12 => bif v12 then some (a0.fS.toList == (ByteArray.mk #[]).toList) else some false else some false
theorem ok_spec_ValueOk {a0 : T_impl_Value} {y : Bool} (h : spec_ValueOk a0 = some y) : OK Try.prog 106 [E a0] (B y) := by
 refine ow Try.func106 fun Γ hX => ?_
 unfold spec_ValueOk at h
 refine srve 45 [(1, pf a0 0)] [] ?_
 refine pwp_seq ?_
 refine srve 45 [(1, pf a0 0), (4, I a0.fKind)] [] ?_
 refine pwp_block ?_
 refine srve 45 [(1, pf a0 0), (4, I a0.fKind), (5, B (a0.fKind == 0))] [] ?_
 refine pc h (fun h => ?_) (fun h => ?_)
 refine srv 4 45 [(1, pf a0 0), (10, B (a0.fN == 0))] [] ?_
 rcases fk (a0.fN == 0) with hc2 | hc2
 replace h := bT hc2 h
 rw [hc2]
 refine ve 5 45 [(2, B (a0.fS.toList == (ByteArray.mk #[]).toList))] [] ?_
 cases h
 exact pwp_ret rz
 replace h := bF hc2 h
 rw [hc2]
 refine ve 5 45 [(2, B false)] [] ?_
 cases h
 exact pwp_ret rz
 refine srve 45 [(1, pf a0 0), (4, I a0.fKind), (15, B (a0.fKind == 1))] [] ?_
 refine pc h (fun h => ?_) (fun h => ?_)
 refine srv 2 45 [(1, pf a0 0), (18, I a0.fN)] [] ?_
 obtain ⟨v4, hv5, h⟩ := bindS h
 refine cF 19 (ok_spec_l1In hv5) ?_
 refine v 1 45 [(1, pf a0 0), (20, B v4)] [] ?_
 rcases Bool.eq_false_or_eq_true v4 with hc6 | hc6
 replace h := bT hc6 h
 rw [hc6]
 refine ve 5 45 [(2, B (a0.fS.toList == (ByteArray.mk #[]).toList))] [] ?_
 cases h
 exact pwp_ret rz
 replace h := bF hc6 h
 rw [hc6]
 refine ve 5 45 [(2, B false)] [] ?_
 cases h
 exact pwp_ret rz
 refine srve 45 [(1, pf a0 0), (4, I a0.fKind), (25, B (a0.fKind == 2))] [] ?_
 refine pc h (fun h => ?_) (fun h => ?_)
 refine srv 4 45 [(1, pf a0 0), (30, B (a0.fN == 0))] [] ?_
 rcases fk (a0.fN == 0) with hc10 | hc10
 replace h := bT hc10 h
 rw [hc10]
 refine v 2 45 [(30, B true), (32, S a0.fS)] [] ?_
 obtain ⟨v8, hv9, h⟩ := bindS h
 refine cF 33 (ok_spec_l1Text hv9) ?_
 refine ve 2 45 [(2, B v8)] [] ?_
 cases h
 exact pwp_ret rz
 replace h := bF hc10 h
 rw [hc10]
 refine ve 5 45 [(2, B false)] [] ?_
 cases h
 exact pwp_ret rz
 refine srve 45 [(1, pf a0 0), (35, B (a0.fKind == 3))] [] ?_
 refine pc h (fun h => ?_) (fun h => ?_)
 refine srv 2 45 [(1, pf a0 0), (38, I a0.fN)] [] ?_
 obtain ⟨v12, hv13, h⟩ := bindS h
 refine cF 39 (ok_spec_l1In hv13) ?_
 refine v 1 45 [(1, pf a0 0), (40, B v12)] [] ?_
 rcases Bool.eq_false_or_eq_true v12 with hc14 | hc14
 replace h := bT hc14 h
 rw [hc14]
 refine ve 5 45 [(2, B (a0.fS.toList == (ByteArray.mk #[]).toList))] [] ?_
 cases h
 exact pwp_ret rz
 replace h := bF hc14 h
 rw [hc14]
 refine ve 5 45 [(2, B false)] [] ?_
 cases h
 exact pwp_ret rz
 refine pwp_skip ?_
 refine srve 45 [(2, B false)] [] ?_
 cases h
 exact pwp_ret rz
def slices_ContainsFunc_impl_Value_impl_Value (a0 : List T_impl_Value) (a1 : T_impl_Value → Option Bool) : Option Bool := (slices_IndexFunc_impl_Value_impl_Value a0 a1).bind fun v1 => some (decide (v1 ≥ 0))
theorem ok_slices_ContainsFunc_impl_Value_impl_Value {a0 : List T_impl_Value} {g1 : FuncId} {c1 : List V} (hz1 : frzL c1 = true) {a1 : T_impl_Value → Option Bool} (hp1 : ∀ x0 y, a1 x0 = some y → OK Try.prog g1 ([E x0] ++ c1) (B y)) {y : Bool} (h : slices_ContainsFunc_impl_Value_impl_Value a0 a1 = some y) : OK Try.prog 109 [A a0, .fn g1 c1] (B y) := by
 refine ow Try.func109 fun Γ hX => ?_
 unfold slices_ContainsFunc_impl_Value_impl_Value at h
 refine srve 9 [(0, A a0), (1, .fn g1 c1)] [] ?_
 refine srv 2 9 [(5, A a0), (6, .fn g1 c1)] [] ?_
 obtain ⟨v1, hv2, h⟩ := bindS h
 refine opsP_callF τ 7 (ok_slices_IndexFunc_impl_Value_impl_Value (hz1) (hp1) hv2) (FzTo.frz rfl) (by simp only [frzL, frz, hz1, Bool.and_true]) (by kernel_rfl) ?_
 refine ve 2 9 [(4, B (decide (v1 ≥ 0)))] [] ?_
 cases h
 exact pwp_ret rz
def impl_Value_ok (a0 : T_impl_Value) : Option Bool := bif (a0.fKind == 0) then some (eq_T_impl_Value a0 (T_impl_Value.mk 0 0 (ByteArray.mk #[]))) else bif (a0.fKind == 1) then bif (a0.fS.toList == (ByteArray.mk #[]).toList) then (impl_between a0.fN (-9999) 9999).bind fun v3 => some v3 else some false else bif (a0.fKind == 2) then bif (a0.fN == 0) then bif (decide ((a0.fS.size : Int) ≤ 6)) then (impl_letters a0.fS).bind fun v7 => some v7 else some false else some false else bif (a0.fKind == 3) then bif (a0.fS.toList == (ByteArray.mk #[]).toList) then (impl_between a0.fN 0 1).bind fun v12 => some v12 else some false else some false
theorem ok_impl_Value_ok {a0 : T_impl_Value} {y : Bool} (h : impl_Value_ok a0 = some y) : OK Try.prog 111 [E a0] (B y) := by
 refine ow Try.func111 fun Γ hX => ?_
 unfold impl_Value_ok at h
 refine srve 46 [(1, pf a0 0)] [] ?_
 refine pwp_seq ?_
 refine srve 46 [(1, pf a0 0), (4, I a0.fKind)] [] ?_
 refine pwp_block ?_
 refine srve 46 [(1, pf a0 0), (4, I a0.fKind), (5, B (a0.fKind == 0))] [] ?_
 refine pc h (fun h => ?_) (fun h => ?_)
 refine srve 46 [(2, B (eq_T_impl_Value a0 (T_impl_Value.mk 0 0 (ByteArray.mk #[]))))] [] ?_
 cases h
 exact pwp_ret rz
 refine srve 46 [(1, pf a0 0), (4, I a0.fKind), (10, B (a0.fKind == 1))] [] ?_
 refine pc h (fun h => ?_) (fun h => ?_)
 refine srv 4 46 [(1, pf a0 0), (15, B (a0.fS.toList == (ByteArray.mk #[]).toList))] [] ?_
 rcases fk (a0.fS.toList == (ByteArray.mk #[]).toList) with hc5 | hc5
 replace h := bT hc5 h
 rw [hc5]
 refine v 2 46 [(15, B true), (17, I a0.fN)] [] ?_
 obtain ⟨v3, hv4, h⟩ := bindS h
 refine cF 18 (ok_impl_between hv4) ?_
 refine ve 2 46 [(2, B v3)] [] ?_
 cases h
 exact pwp_ret rz
 replace h := bF hc5 h
 rw [hc5]
 refine ve 5 46 [(2, B false)] [] ?_
 cases h
 exact pwp_ret rz
 refine srve 46 [(1, pf a0 0), (4, I a0.fKind), (20, B (a0.fKind == 2))] [] ?_
 refine pc h (fun h => ?_) (fun h => ?_)
 refine srv 4 46 [(1, pf a0 0), (25, B (a0.fN == 0))] [] ?_
 rcases fk (a0.fN == 0) with hc10 | hc10
 replace h := bT hc10 h
 rw [hc10]
 refine v 6 46 [(1, pf a0 0), (31, B (decide ((a0.fS.size : Int) ≤ 6)))] [] ?_
 rcases fk (decide ((a0.fS.size : Int) ≤ 6)) with hc9 | hc9
 replace h := bT hc9 h
 rw [hc9]
 refine v 2 46 [(31, B true), (33, S a0.fS)] [] ?_
 obtain ⟨v7, hv8, h⟩ := bindS h
 refine cF 34 (ok_impl_letters hv8) ?_
 refine ve 2 46 [(2, B v7)] [] ?_
 cases h
 exact pwp_ret rz
 replace h := bF hc9 h
 rw [hc9]
 refine ve 5 46 [(2, B false)] [] ?_
 cases h
 exact pwp_ret rz
 replace h := bF hc10 h
 rw [hc10]
 refine ve 11 46 [(2, B false)] [] ?_
 cases h
 exact pwp_ret rz
 refine srve 46 [(1, pf a0 0), (36, B (a0.fKind == 3))] [] ?_
 refine pc h (fun h => ?_) (fun h => ?_)
 refine srv 4 46 [(1, pf a0 0), (41, B (a0.fS.toList == (ByteArray.mk #[]).toList))] [] ?_
 rcases fk (a0.fS.toList == (ByteArray.mk #[]).toList) with hc14 | hc14
 replace h := bT hc14 h
 rw [hc14]
 refine v 2 46 [(41, B true), (43, I a0.fN)] [] ?_
 obtain ⟨v12, hv13, h⟩ := bindS h
 refine cF 44 (ok_impl_between hv13) ?_
 refine ve 2 46 [(2, B v12)] [] ?_
 cases h
 exact pwp_ret rz
 replace h := bF hc14 h
 rw [hc14]
 refine ve 5 46 [(2, B false)] [] ?_
 cases h
 exact pwp_ret rz
 refine pwp_skip ?_
 refine srve 46 [(2, B false)] [] ?_
 cases h
 exact pwp_ret rz
def impl_clone_impl_Value (a0 : List T_impl_Value) : Option (List T_impl_Value) := bif ((a0.length : Int) == 0) then some ([] : List T_impl_Value) else (app [] a0).bind fun v2 => (slices_Clip_impl_Value_impl_Value v2).bind fun v4 => some v4
theorem ok_impl_clone_impl_Value {a0 : List T_impl_Value} {y : List T_impl_Value} (h : impl_clone_impl_Value a0 = some y) : OK Try.prog 119 [A a0] (A y) := by
 refine ow Try.func119 fun Γ hX => ?_
 unfold impl_clone_impl_Value at h
 refine srve 9 [(0, A a0)] [] ?_
 refine pwp_seq ?_
 refine srve 9 [(0, A a0), (5, B ((a0.length : Int) == 0))] [] ?_
 refine pc h (fun h => ?_) (fun h => ?_)
 refine srve 9 [(2, .arr 3 0 (eL ([] : List T_impl_Value)) true)] [] ?_
 refine ip 9 [(2, .arr 3 0 (eL ([] : List T_impl_Value)) true)] [] ?_
 refine pwp_imp (Imp.unfS (st' := ⟨9, [(2, A ([] : List T_impl_Value))], []⟩) 2 [2] (by kernel_rfl)) ?_
 cases h
 exact pwp_ret rz
 refine pwp_skip ?_
 refine srv 1 9 [(6, A a0)] [] ?_
 obtain ⟨v2, hv3, h⟩ := bindS h
 refine opsP_apn τ_ok 7 0 (nx hX) hv3 (by kernel_rfl) ?_
 refine v 0 9 [(7, rf 0 1 3 v2)] [sl 1 v2] ?_
 refine opsP_imp (Imp.freezeB (v := 1) (cs := eL v2) (st' := ⟨9, [(7, A v2)], [none]⟩) 0 1 (nx hX) (by kernel_rfl) (eL_frz _) (wholeC (whole_is (eL_len v2).symm) wholeC0) (HpRel.key HpRel.nil) (by kernel_rfl) rfl (nx hX)) ?_
 obtain ⟨v4, hv5, h⟩ := bindS h
 refine cF 8 (ok_slices_Clip_impl_Value_impl_Value hv5) ?_
 refine ve 1 9 [(2, A v4)] [none] ?_
 cases h
 exact pwp_ret rz
def spec_l20Fit_l0 (a1 : List T_impl_Column) (a2 : Int) : Nat → Int → T_spec_l20Rd → (List T_impl_Value) → Option ((List T_impl_Value) × T_spec_l20Rd)
 | 0, _, _, _ => none
 | f6 + 1, x3, x4, x5 => bif (decide (x3 < (a1.length : Int))) then (getI a1 x3).bind fun v9 => (spec_l20Like x4 v9).bind fun v11 => (app x5 ([v11.1] : List T_impl_Value)).bind fun v13 => (spec_l20Fit_l0 a1 a2 f6) (w64 (x3 + 1)) v11.2 v13 else (spec_l20Rd_odd x4 a2).bind fun v15 => bif v15.1 then (spec_l20Rd_pick v15.2 3).bind fun v18 => bif (v18.1 == 0) then (app x5 ([(T_impl_Value.mk 0 0 (ByteArray.mk #[]))] : List T_impl_Value)).bind fun v21 => some (v21, v18.2) else bif (v18.1 == 1) then bif (decide ((x5.length : Int) > 0)) then (spec_l20Rd_pick v18.2 (x5.length : Int)).bind fun v25 => (spec_l20Value v25.2 3).bind fun v27 => (getI x5 v25.1).bind fun v29 => some ((x5.set v25.1.toNat v27.1), v27.2) else some (x5, v18.2) else (spec_l20Value v18.2 0).bind fun v31 => (spec_l20Value v31.2 0).bind fun v33 => (spec_l20Value v33.2 0).bind fun v35 => (app x5 ([v31.1, v33.1, v35.1] : List T_impl_Value)).bind fun v37 => some (v37, v35.2) else some (x5, v15.2)
def spec_l20Fit (a0 : T_spec_l20Rd) (a1 : List T_impl_Column) (a2 : Int) : Option ((List T_impl_Value) × T_spec_l20Rd) := spec_l20Fit_l0 a1 a2 FUEL 0 a0 ([] : List T_impl_Value)
theorem ok_spec_l20Fit {a0 : T_spec_l20Rd} {a1 : List T_impl_Column} {a2 : Int} {y : (List T_impl_Value) × T_spec_l20Rd} (h : spec_l20Fit a0 a1 a2 = some y) : OKb Try.prog 146 (Enc.cells a0) [A a1, I a2] (O y.1) (Enc.cells y.2) := by
 refine OKb_of_pwp τ_ok Try.func146 rfl (by kernel_rfl) rfl (Enc.frz _) (Enc.frz _) fun Γ hQ => ?_
 unfold spec_l20Fit at h
 refine srve 59 [(0, .ptr 0 0 0), (1, A a1), (2, I a2)] [sc 0 a0] ?_
 refine srve 59 [(0, .ptr 0 0 0), (1, A a1), (2, I a2), (7, .arr 3 0 (eL ([] : List T_impl_Value)) true)] [sc 0 a0] ?_
 refine pwp_seq ?_
 refine srve 59 [(0, .ptr 0 0 0), (1, A a1), (2, I a2), (7, .arr 3 0 (eL ([] : List T_impl_Value)) true), (8, I 0)] [sc 0 a0] ?_
 refine pwp_block ?_
 refine pwp_loop (ι := Nat × Int × T_spec_l20Rd × (List T_impl_Value)) (fun (f6, x3, x4, x5) => (⟨59, [(0, .ptr 0 0 0), (1, A a1), (2, I a2), (7, rf 1 0 3 x5), (8, I x3)], [sc 0 x4, sl 0 x5]⟩ : St)) (fun (f6, x3, x4, x5) => spec_l20Fit_l0 a1 a2 f6 x3 x4 x5 = some y) Prod.fst (FUEL, 0, a0, ([] : List T_impl_Value)) h (Imp.thawS 7 [0, 1, 2, 7, 8] (by kernel_rfl)) ?_
 rintro ⟨f6, x3, x4, x5⟩ h
 dsimp only at h ⊢
 rcases f6 with _ | f6
 cases h
 rw [spec_l20Fit_l0] at h
 refine pwp_seq ?_
 refine srve 59 [(0, .ptr 0 0 0), (1, A a1), (2, I a2), (7, rf 1 0 3 x5), (8, I x3), (13, B (decide (x3 < (a1.length : Int))))] [sc 0 x4, sl 0 x5] ?_
 refine pc h (fun h => ?_) (fun h => ?_)
 refine pwp_skip ?_
 refine pwp_seq ?_
 refine pwp_block ?_
 refine rv 4 59 [(0, .ptr 0 0 0), (1, A a1), (2, I a2), (8, I x3), (16, rf 1 0 3 x5), (17, .ptr 0 0 0), (18, A a1), (19, I x3)] [sc 0 x4, sl 0 x5] ?_
 obtain ⟨v9, hv10, h⟩ := bindS h
 refine opsP_idx τ_ok 20 hv10 (by kernel_rfl) ?_
 refine v 1 59 [(0, .ptr 0 0 0), (1, A a1), (2, I a2), (8, I x3), (16, rf 1 0 3 x5), (17, .ptr 0 0 0), (21, E v9)] [sc 0 x4, sl 0 x5] ?_
 obtain ⟨v11, hv12, h⟩ := bindS h
 refine cB 22 0 0 (ok_spec_l20Like hv12) ?_
 refine v 1 59 [(0, .ptr 0 0 0), (1, A a1), (2, I a2), (8, I x3), (16, rf 1 0 3 x5), (23, .arr 3 ([v11.1] : List T_impl_Value).length (eL ([v11.1] : List T_impl_Value)) true)] [sc 0 v11.2, sl 0 x5] ?_
 obtain ⟨v13, hv14, h⟩ := bindS h
 refine opsP_app τ_ok 24 1 0 (pn hQ) hv14 (by kernel_rfl) ?_
 refine ve 1 59 [(0, .ptr 0 0 0), (1, A a1), (2, I a2), (7, rf 1 1 3 v13), (8, I x3)] [sc 0 v11.2, sl 1 v13] ?_
 refine rve 59 [(0, .ptr 0 0 0), (1, A a1), (2, I a2), (7, rf 1 1 3 v13), (8, I (w64 (x3 + 1)))] [sc 0 v11.2, sl 1 v13] ?_
 exact ⟨(f6, (w64 (x3 + 1)), v11.2, v13), h, Nat.lt_succ_self _, (it (st' := ⟨59, [(0, .ptr 0 0 0), (1, A a1), (2, I a2), (7, rf 1 1 3 v13), (8, I (w64 (x3 + 1)))], [sc 0 v11.2, sl 1 v13]⟩) [0, 1, 2, 7, 8]).trans (Imp.reverS 1 1 (eL v13) [0, 1, 2, 7, 8] (by kernel_rfl) (by exact (And.intro (rfl) (And.intro (eL_frz _) trivial))) (by kernel_rfl))⟩
 refine pwp_exit ?_
 refine pwp_seq ?_
 refine srv 2 59 [(0, .ptr 0 0 0), (7, rf 1 0 3 x5), (25, .ptr 0 0 0), (26, I a2)] [sc 0 x4, sl 0 x5] ?_
 obtain ⟨v15, hv16, h⟩ := bindS h
 refine cB 27 0 0 (ok_spec_l20Rd_odd hv16) ?_
 refine ve 0 59 [(0, .ptr 0 0 0), (7, rf 1 0 3 x5), (27, B v15.1)] [sc 0 v15.2, sl 0 x5] ?_
 refine pc h (fun h => ?_) (fun h => ?_)
 refine srv 1 59 [(0, .ptr 0 0 0), (7, rf 1 0 3 x5), (28, .ptr 0 0 0)] [sc 0 v15.2, sl 0 x5] ?_
 obtain ⟨v18, hv19, h⟩ := bindS h
 refine cB 29 0 0 (ok_spec_l20Rd_pick hv19) ?_
 refine ve 0 59 [(0, .ptr 0 0 0), (7, rf 1 0 3 x5), (29, I v18.1)] [sc 0 v18.2, sl 0 x5] ?_
 refine pwp_block ?_
 refine srve 59 [(0, .ptr 0 0 0), (7, rf 1 0 3 x5), (29, I v18.1), (39, B (v18.1 == 0))] [sc 0 v18.2, sl 0 x5] ?_
 refine pc h (fun h => ?_) (fun h => ?_)
 refine rv 3 59 [(41, rf 1 0 3 x5), (43, .arr 3 ([(T_impl_Value.mk 0 0 (ByteArray.mk #[]))] : List T_impl_Value).length (eL ([(T_impl_Value.mk 0 0 (ByteArray.mk #[]))] : List T_impl_Value)) true)] [sc 0 v18.2, sl 0 x5] ?_
 obtain ⟨v21, hv22, h⟩ := bindS h
 refine opsP_app τ_ok 44 1 0 (pn hQ) hv22 (by kernel_rfl) ?_
 refine ve 1 59 [(7, rf 1 1 3 v21)] [sc 0 v18.2, sl 1 v21] ?_
 refine srve 59 [(6, rf 1 1 3 v21)] [sc 0 v18.2, sl 1 v21] ?_
 have h := si h
 subst h
 exact pwp_ret ⟨.inr rfl, rf 1 1 3 v21, _, 0, by kernel_rfl, (OutP.list (v := 1) (by kernel_rfl)), by decide, by decide, by kernel_rfl⟩
 refine srve 59 [(0, .ptr 0 0 0), (7, rf 1 0 3 x5), (45, B (v18.1 == 1))] [sc 0 v18.2, sl 0 x5] ?_
 refine pc h (fun h => ?_) (fun h => ?_)
 refine srve 59 [(0, .ptr 0 0 0), (7, rf 1 0 3 x5), (49, B (decide ((x5.length : Int) > 0)))] [sc 0 v18.2, sl 0 x5] ?_
 refine pc h (fun h => ?_) (fun h => ?_)
 refine rv 4 59 [(0, .ptr 0 0 0), (7, rf 1 0 3 x5), (50, rf 1 0 3 x5), (51, .ptr 0 0 0), (53, I (x5.length : Int))] [sc 0 v18.2, sl 0 x5] ?_
 obtain ⟨v25, hv26, h⟩ := bindS h
 refine cB 54 0 0 (ok_spec_l20Rd_pick hv26) ?_
 refine v 1 59 [(7, rf 1 0 3 x5), (50, rf 1 0 3 x5), (54, I v25.1), (55, .ptr 0 0 0)] [sc 0 v25.2, sl 0 x5] ?_
 obtain ⟨v27, hv28, h⟩ := bindS h
 refine cB 56 0 0 (ok_spec_l20Value hv28) ?_
 obtain ⟨v29, hv30, h⟩ := bindS h
 refine opsP_idr τ_ok 57 1 0 x5.length hv30 rfl (by kernel_rfl) ?_
 refine v 0 59 [(7, rf 1 0 3 x5), (56, E v27.1), (57, .ptr 1 0 (v25.1.toNat * 3))] [sc 0 v27.2, sl 0 x5] ?_
 refine opsP_ste (vs := [I v27.1.fKind, I v27.1.fN, S v27.1.fS]) τ_ok 84 1 0 0 v27.1 hv30 (by kernel_rfl) (by kernel_rfl) (by kernel_rfl) (renC (ren_ref (List.length_set ..).symm) (renC trivial (renC trivial renC0))) ?_
 refine ve 0 59 [(7, .ref 1 0 0 3 (x5.set v25.1.toNat v27.1).length false)] [sc 0 v27.2, some ⟨0, eL (x5.set v25.1.toNat v27.1)⟩] ?_
 refine srve 59 [(6, .ref 1 0 0 3 (x5.set v25.1.toNat v27.1).length false)] [sc 0 v27.2, some ⟨0, eL (x5.set v25.1.toNat v27.1)⟩] ?_
 have h := si h
 subst h
 exact pwp_ret ⟨.inr rfl, .ref 1 0 0 3 (x5.set v25.1.toNat v27.1).length false, _, 0, by kernel_rfl, (OutP.list (v := 0) (by kernel_rfl)), by decide, by decide, by kernel_rfl⟩
 refine pwp_skip ?_
 refine srve 59 [(6, rf 1 0 3 x5)] [sc 0 v18.2, sl 0 x5] ?_
 have h := si h
 subst h
 exact pwp_ret ⟨.inr rfl, rf 1 0 3 x5, _, 0, by kernel_rfl, (OutP.list (v := 0) (by kernel_rfl)), by decide, by decide, by kernel_rfl⟩
 refine rv 2 59 [(0, .ptr 0 0 0), (30, rf 1 0 3 x5), (31, .ptr 0 0 0)] [sc 0 v18.2, sl 0 x5] ?_
 obtain ⟨v31, hv32, h⟩ := bindS h
 refine cB 32 0 0 (ok_spec_l20Value hv32) ?_
 refine v 1 59 [(0, .ptr 0 0 0), (30, rf 1 0 3 x5), (32, E v31.1), (33, .ptr 0 0 0)] [sc 0 v31.2, sl 0 x5] ?_
 obtain ⟨v33, hv34, h⟩ := bindS h
 refine cB 34 0 0 (ok_spec_l20Value hv34) ?_
 refine v 1 59 [(30, rf 1 0 3 x5), (32, E v31.1), (34, E v33.1), (35, .ptr 0 0 0)] [sc 0 v33.2, sl 0 x5] ?_
 obtain ⟨v35, hv36, h⟩ := bindS h
 refine cB 36 0 0 (ok_spec_l20Value hv36) ?_
 refine v 1 59 [(30, rf 1 0 3 x5), (37, .arr 3 ([v31.1, v33.1, v35.1] : List T_impl_Value).length (eL ([v31.1, v33.1, v35.1] : List T_impl_Value)) true)] [sc 0 v35.2, sl 0 x5] ?_
 obtain ⟨v37, hv38, h⟩ := bindS h
 refine opsP_app τ_ok 38 1 0 (pn hQ) hv38 (by kernel_rfl) ?_
 refine ve 1 59 [(7, rf 1 1 3 v37)] [sc 0 v35.2, sl 1 v37] ?_
 refine srve 59 [(6, rf 1 1 3 v37)] [sc 0 v35.2, sl 1 v37] ?_
 have h := si h
 subst h
 exact pwp_ret ⟨.inr rfl, rf 1 1 3 v37, _, 0, by kernel_rfl, (OutP.list (v := 1) (by kernel_rfl)), by decide, by decide, by kernel_rfl⟩
 refine pwp_skip ?_
 refine srve 59 [(6, rf 1 0 3 x5)] [sc 0 v15.2, sl 0 x5] ?_
 have h := si h
 subst h
 exact pwp_ret ⟨.inr rfl, rf 1 0 3 x5, _, 0, by kernel_rfl, (OutP.list (v := 0) (by kernel_rfl)), by decide, by decide, by kernel_rfl⟩
def impl_rowsHas (a0 : List (List T_impl_Value)) (a1 : List T_impl_Value) : Option Bool := (impl_RowMany a0 a1).bind fun v1 => some (decide (v1 > 0))
theorem ok_impl_rowsHas {a0 : List (List T_impl_Value)} {a1 : List T_impl_Value} {y : Bool} (h : impl_rowsHas a0 a1 = some y) : OK Try.prog 147 [A a0, A a1] (B y) := by
 refine ow Try.func147 fun Γ hX => ?_
 unfold impl_rowsHas at h
 refine srve 9 [(0, A a0), (1, A a1)] [] ?_
 refine srv 2 9 [(5, A a0), (6, A a1)] [] ?_
 obtain ⟨v1, hv2, h⟩ := bindS h
 refine cF 7 (ok_impl_RowMany hv2) ?_
 refine ve 2 9 [(4, B (decide (v1 > 0)))] [] ?_
 cases h
 exact pwp_ret rz
def cmp_Compare_int (a0 : Int) (a1 : Int) : Option Int := (cmp_isNaN_int a0).bind fun v1 => (cmp_isNaN_int a1).bind fun v3 => bif v1 then bif v3 then some 0 else some (-1) else bif v3 then some 1 else bif (decide (a0 < a1)) then some (-1) else bif (decide (a0 > a1)) then some 1 else some 0
theorem ok_cmp_Compare_int {a0 : Int} {a1 : Int} {y : Int} (h : cmp_Compare_int a0 a1 = some y) : OK Try.prog 153 [I a0, I a1] (I y) := by
 refine ow Try.func153 fun Γ hX => ?_
 unfold cmp_Compare_int at h
 refine srve 20 [(0, I a0), (1, I a1)] [] ?_
 refine srv 1 20 [(0, I a0), (1, I a1), (7, I a0)] [] ?_
 obtain ⟨v1, hv2, h⟩ := bindS h
 refine cF 8 (ok_cmp_isNaN_int hv2) ?_
 refine ve 1 20 [(0, I a0), (1, I a1), (5, B v1)] [] ?_
 refine srv 1 20 [(0, I a0), (1, I a1), (5, B v1), (9, I a1)] [] ?_
 obtain ⟨v3, hv4, h⟩ := bindS h
 refine cF 10 (ok_cmp_isNaN_int hv4) ?_
 refine ve 1 20 [(0, I a0), (1, I a1), (5, B v1), (6, B v3)] [] ?_
 refine pwp_seq ?_
 refine srve 20 [(0, I a0), (1, I a1), (6, B v3), (11, B v1)] [] ?_
 refine pc h (fun h => ?_) (fun h => ?_)
 refine pwp_seq ?_
 refine srve 20 [(12, B v3)] [] ?_
 refine pc h (fun h => ?_) (fun h => ?_)
 refine srve 20 [(4, I 0)] [] ?_
 cases h
 exact pwp_ret rz
 refine pwp_skip ?_
 refine srve 20 [(4, I (-1))] [] ?_
 cases h
 exact pwp_ret rz
 refine pwp_skip ?_
 refine pwp_seq ?_
 refine srve 20 [(0, I a0), (1, I a1), (13, B v3)] [] ?_
 refine pc h (fun h => ?_) (fun h => ?_)
 refine srve 20 [(4, I 1)] [] ?_
 cases h
 exact pwp_ret rz
 refine pwp_skip ?_
 refine pwp_seq ?_
 refine srve 20 [(0, I a0), (1, I a1), (16, B (decide (a0 < a1)))] [] ?_
 refine pc h (fun h => ?_) (fun h => ?_)
 refine srve 20 [(4, I (-1))] [] ?_
 cases h
 exact pwp_ret rz
 refine pwp_skip ?_
 refine pwp_seq ?_
 refine srve 20 [(19, B (decide (a0 > a1)))] [] ?_
 refine pc h (fun h => ?_) (fun h => ?_)
 refine srve 20 [(4, I 1)] [] ?_
 cases h
 exact pwp_ret rz
 refine pwp_skip ?_
 refine srve 20 [(4, I 0)] [] ?_
 cases h
 exact pwp_ret rz
def spec_ValueOrder_j0 (a0 : T_impl_Value) (a1 : T_impl_Value) (x1 : Bool) : Option Int := bif x1 then some 0 else bif (!(a0.fKind == a1.fKind)) then (spec_l1Less a1.fKind a0.fKind).bind fun v4 => some (w64 ((w64 (2 * v4)) - 1)) else bif (!(a0.fN == a1.fN)) then (spec_l1Less a1.fN a0.fN).bind fun v7 => some (w64 ((w64 (2 * v7)) - 1)) else (spec_l1Cmp a0.fS a1.fS).bind fun v9 => some v9
def spec_ValueOrder (a0 : T_impl_Value) (a1 : T_impl_Value) : Option Int := (spec_ValueOk a0).bind fun v11 => bif (!v11) then spec_ValueOrder_j0 a0 a1 true else (spec_ValueOk a1).bind fun v13 => spec_ValueOrder_j0 a0 a1 (!v13)
theorem ok_spec_ValueOrder {a0 : T_impl_Value} {a1 : T_impl_Value} {y : Int} (h : spec_ValueOrder a0 a1 = some y) : OK Try.prog 159 [E a0, E a1] (I y) := by
 refine ow Try.func159 fun Γ hX => ?_
 unfold spec_ValueOrder at h
 refine srve 44 [(2, pf a0 0), (3, pf a1 0)] [] ?_
 refine pwp_seq ?_
 refine pwp_seq ?_
 refine pwp_join (σ := Bool) (fun x1 => (⟨44, [(2, pf a0 0), (3, pf a1 0), (12, B x1)], []⟩ : St)) (fun x1 => spec_ValueOrder_j0 a0 a1 x1 = some y) ?_ ?_
 refine rv 1 44 [(2, pf a0 0), (3, pf a1 0), (5, E a0)] [] ?_
 obtain ⟨v11, hv12, h⟩ := bindS h
 refine cF 6 (ok_spec_ValueOk hv12) ?_
 refine v 2 44 [(2, pf a0 0), (3, pf a1 0), (8, B (!v11))] [] ?_
 rcases fk (!v11) with hc15 | hc15
 replace h := bT hc15 h
 rw [hc15]
 refine ve 4 44 [(2, pf a0 0), (3, pf a1 0), (12, B true)] [] ?_
 exact ⟨true, h, it [2, 3, 12]⟩
 replace h := bF hc15 h
 rw [hc15]
 refine v 1 44 [(2, pf a0 0), (3, pf a1 0), (8, B false), (9, E a1)] [] ?_
 obtain ⟨v13, hv14, h⟩ := bindS h
 refine cF 10 (ok_spec_ValueOk hv14) ?_
 refine ve 2 44 [(2, pf a0 0), (3, pf a1 0), (12, B (!v13))] [] ?_
 exact ⟨(!v13), h, it [2, 3, 12]⟩
 rintro x1 h
 unfold spec_ValueOrder_j0 at h
 refine pc h (fun h => ?_) (fun h => ?_)
 refine srve 44 [(4, I 0)] [] ?_
 cases h
 exact pwp_ret rz
 refine pwp_skip ?_
 refine pwp_seq ?_
 refine pwp_block ?_
 refine srve 44 [(2, pf a0 0), (3, pf a1 0), (13, B (!(a0.fKind == a1.fKind)))] [] ?_
 refine pc h (fun h => ?_) (fun h => ?_)
 refine srv 4 44 [(20, I a1.fKind), (22, I a0.fKind)] [] ?_
 obtain ⟨v4, hv5, h⟩ := bindS h
 refine cF 23 (ok_spec_l1Less hv5) ?_
 refine ve 3 44 [(4, I (w64 ((w64 (2 * v4)) - 1)))] [] ?_
 cases h
 exact pwp_ret rz
 refine srve 44 [(2, pf a0 0), (3, pf a1 0), (26, B (!(a0.fN == a1.fN)))] [] ?_
 refine pc h (fun h => ?_) (fun h => ?_)
 refine srv 4 44 [(33, I a1.fN), (35, I a0.fN)] [] ?_
 obtain ⟨v7, hv8, h⟩ := bindS h
 refine cF 36 (ok_spec_l1Less hv8) ?_
 refine ve 3 44 [(4, I (w64 ((w64 (2 * v7)) - 1)))] [] ?_
 cases h
 exact pwp_ret rz
 refine pwp_skip ?_
 refine srv 4 44 [(40, S a0.fS), (42, S a1.fS)] [] ?_
 obtain ⟨v9, hv10, h⟩ := bindS h
 refine cF 43 (ok_spec_l1Cmp hv10) ?_
 refine ve 1 44 [(4, I v9)] [] ?_
 cases h
 exact pwp_ret rz
def cmp_Compare_string (a0 : ByteArray) (a1 : ByteArray) : Option Int := (cmp_isNaN_string a0).bind fun v1 => (cmp_isNaN_string a1).bind fun v3 => bif v1 then bif v3 then some 0 else some (-1) else bif v3 then some 1 else bif (Op.bytesLess a0.toList a1.toList) then some (-1) else bif (!Op.bytesLess a0.toList a1.toList && !(a0.toList == a1.toList)) then some 1 else some 0
theorem ok_cmp_Compare_string {a0 : ByteArray} {a1 : ByteArray} {y : Int} (h : cmp_Compare_string a0 a1 = some y) : OK Try.prog 189 [S a0, S a1] (I y) := by
 refine ow Try.func189 fun Γ hX => ?_
 unfold cmp_Compare_string at h
 refine srve 20 [(0, S a0), (1, S a1)] [] ?_
 refine srv 1 20 [(0, S a0), (1, S a1), (7, S a0)] [] ?_
 obtain ⟨v1, hv2, h⟩ := bindS h
 refine cF 8 (ok_cmp_isNaN_string hv2) ?_
 refine ve 1 20 [(0, S a0), (1, S a1), (5, B v1)] [] ?_
 refine srv 1 20 [(0, S a0), (1, S a1), (5, B v1), (9, S a1)] [] ?_
 obtain ⟨v3, hv4, h⟩ := bindS h
 refine cF 10 (ok_cmp_isNaN_string hv4) ?_
 refine ve 1 20 [(0, S a0), (1, S a1), (5, B v1), (6, B v3)] [] ?_
 refine pwp_seq ?_
 refine srve 20 [(0, S a0), (1, S a1), (6, B v3), (11, B v1)] [] ?_
 refine pc h (fun h => ?_) (fun h => ?_)
 refine pwp_seq ?_
 refine srve 20 [(12, B v3)] [] ?_
 refine pc h (fun h => ?_) (fun h => ?_)
 refine srve 20 [(4, I 0)] [] ?_
 cases h
 exact pwp_ret rz
 refine pwp_skip ?_
 refine srve 20 [(4, I (-1))] [] ?_
 cases h
 exact pwp_ret rz
 refine pwp_skip ?_
 refine pwp_seq ?_
 refine srve 20 [(0, S a0), (1, S a1), (13, B v3)] [] ?_
 refine pc h (fun h => ?_) (fun h => ?_)
 refine srve 20 [(4, I 1)] [] ?_
 cases h
 exact pwp_ret rz
 refine pwp_skip ?_
 refine pwp_seq ?_
 refine srve 20 [(0, S a0), (1, S a1), (16, B (Op.bytesLess a0.toList a1.toList))] [] ?_
 refine pc h (fun h => ?_) (fun h => ?_)
 refine srve 20 [(4, I (-1))] [] ?_
 cases h
 exact pwp_ret rz
 refine pwp_skip ?_
 refine pwp_seq ?_
 refine srve 20 [(19, B (!Op.bytesLess a0.toList a1.toList && !(a0.toList == a1.toList)))] [] ?_
 refine pc h (fun h => ?_) (fun h => ?_)
 refine srve 20 [(4, I 1)] [] ?_
 cases h
 exact pwp_ret rz
 refine pwp_skip ?_
 refine srve 20 [(4, I 0)] [] ?_
 cases h
 exact pwp_ret rz
def slices_rotateCmpFunc_impl_Value_l0 (a2 : Int) (a4 : (List T_impl_Value) → (List T_impl_Value) → Option Int) : Nat → Int → Int → (List (List T_impl_Value)) → Option (List (List T_impl_Value))
 | 0, _, _, _ => none
 | f5 + 1, x2, x3, x4 => bif (!(x2 == x3)) then bif (decide (x2 > x3)) then (slices_swapRangeCmpFunc_impl_Value x4 (w64 (a2 - x2)) a2 x3 a4).bind fun v9 => (slices_rotateCmpFunc_impl_Value_l0 a2 a4 f5) (w64 (x2 - x3)) x3 v9 else (slices_swapRangeCmpFunc_impl_Value x4 (w64 (a2 - x2)) (w64 ((w64 (a2 + x3)) - x2)) x2 a4).bind fun v11 => (slices_rotateCmpFunc_impl_Value_l0 a2 a4 f5) x2 (w64 (x3 - x2)) v11 else (slices_swapRangeCmpFunc_impl_Value x4 (w64 (a2 - x2)) a2 x2 a4).bind fun v13 => some v13
def slices_rotateCmpFunc_impl_Value_w (a0 : List (List T_impl_Value)) (a1 : Int) (a2 : Int) (a3 : Int) (a4 : (List T_impl_Value) → (List T_impl_Value) → Option Int) : Option (List (List T_impl_Value)) := slices_rotateCmpFunc_impl_Value_l0 a2 a4 FUEL (w64 (a2 - a1)) (w64 (a3 - a2)) a0
def slices_rotateCmpFunc_impl_Value (a0 : List (List T_impl_Value)) (a1 : Int) (a2 : Int) (a3 : Int) (a4 : (List T_impl_Value) → (List T_impl_Value) → Option Int) : Option (List (List T_impl_Value)) := (slices_rotateCmpFunc_impl_Value_w a0 a1 a2 a3 a4).bind fun y => bif (y.length == a0.length) then some y else none
theorem len_slices_rotateCmpFunc_impl_Value {a0 : List (List T_impl_Value)} {a1 : Int} {a2 : Int} {a3 : Int} {a4 : (List T_impl_Value) → (List T_impl_Value) → Option Int} {y : List (List T_impl_Value)} (h : slices_rotateCmpFunc_impl_Value a0 a1 a2 a3 a4 = some y) : y.length = a0.length := (bindLen (f := fun y : List (List T_impl_Value) => y) h).2
theorem ok_slices_rotateCmpFunc_impl_Value {a0 : List (List T_impl_Value)} {a1 : Int} {a2 : Int} {a3 : Int} {g4 : FuncId} {c4 : List V} (hz4 : frzL c4 = true) {a4 : (List T_impl_Value) → (List T_impl_Value) → Option Int} (hp4 : ∀ x0 x1 y, a4 x0 x1 = some y → OK Try.prog g4 ([A x0, A x1] ++ c4) (I y)) {y : List (List T_impl_Value)} (h : slices_rotateCmpFunc_impl_Value a0 a1 a2 a3 a4 = some y) : OKs Try.prog 199 [] 1 a0.length (eL a0) [I a1, I a2, I a3, .fn g4 c4] (.tup []) (eL y) := by
 refine OKs_of_pwp τ_ok Try.func199 rfl (by kernel_rfl) rfl (eL_frz _) (eL_frz _) (by rw [eL_len, eL_len, len_slices_rotateCmpFunc_impl_Value h]) fun Γ hQ => ?_
 refine pwp_imp (Imp.to (st' := ⟨58, [(0, rf 0 0 1 a0), (1, I a1), (2, I a2), (3, I a3), (4, .fn g4 c4)], [sl 0 a0]⟩) [0, 1, 2, 3, 4] (by kernel_rfl)) ?_
 have h := (bindLen (f := fun y : List (List T_impl_Value) => y) h).1
 unfold slices_rotateCmpFunc_impl_Value_w at h
 refine srve 58 [(0, rf 0 0 1 a0), (2, I a2), (3, I a3), (4, .fn g4 c4), (10, I (w64 (a2 - a1)))] [sl 0 a0] ?_
 refine srve 58 [(0, rf 0 0 1 a0), (2, I a2), (4, .fn g4 c4), (10, I (w64 (a2 - a1))), (11, I (w64 (a3 - a2)))] [sl 0 a0] ?_
 refine pwp_seq ?_
 refine pwp_block ?_
 refine pwp_loop (ι := Nat × Int × Int × (List (List T_impl_Value))) (fun (f5, x2, x3, x4) => (⟨58, [(0, rf 0 0 1 x4), (2, I a2), (4, .fn g4 c4), (10, I x2), (11, I x3)], [sl 0 x4]⟩ : St)) (fun (f5, x2, x3, x4) => slices_rotateCmpFunc_impl_Value_l0 a2 a4 f5 x2 x3 x4 = some y) Prod.fst (FUEL, (w64 (a2 - a1)), (w64 (a3 - a2)), a0) h (it [0, 2, 4, 10, 11]) ?_
 rintro ⟨f5, x2, x3, x4⟩ h
 dsimp only at h ⊢
 rcases f5 with _ | f5
 cases h
 rw [slices_rotateCmpFunc_impl_Value_l0] at h
 refine pwp_seq ?_
 refine srve 58 [(0, rf 0 0 1 x4), (2, I a2), (4, .fn g4 c4), (10, I x2), (11, I x3), (20, B (!(x2 == x3)))] [sl 0 x4] ?_
 refine pc h (fun h => ?_) (fun h => ?_)
 refine pwp_skip ?_
 refine pwp_block ?_
 refine srve 58 [(0, rf 0 0 1 x4), (2, I a2), (4, .fn g4 c4), (10, I x2), (11, I x3), (23, B (decide (x2 > x3)))] [sl 0 x4] ?_
 refine pc h (fun h => ?_) (fun h => ?_)
 refine srv 7 58 [(0, rf 0 0 1 x4), (2, I a2), (4, .fn g4 c4), (10, I x2), (11, I x3), (24, rf 0 0 1 x4), (27, I (w64 (a2 - x2))), (28, I a2), (29, I x3), (30, .fn g4 c4)] [sl 0 x4] ?_
 obtain ⟨v9, hv10, h⟩ := bindS h
 refine opsP_E (dd := some 31) (x := .tup []) (callS_E τ 31 0 0 (ok_slices_swapRangeCmpFunc_impl_Value (hz4) (hp4) hv10) (FzTo.tup FzToL.nil) rfl (by simp only [frzL, frz, hz4, Bool.and_true]) (by kernel_rfl)) ?_
 refine io 58 [(0, rf 0 0 1 x4), (2, I a2), (4, .fn g4 c4), (10, I x2), (11, I x3), (24, rf 0 0 1 x4), (27, I (w64 (a2 - x2))), (28, I a2), (29, I x3), (30, .fn g4 c4), (31, .tup [])] [sl 0 v9] ?_
 refine opsP_ren (st' := ⟨58, [(0, rf 0 0 1 v9), (2, I a2), (4, .fn g4 c4), (10, I x2), (11, I x3), (24, rf 0 0 1 v9), (27, I (w64 (a2 - x2))), (28, I a2), (29, I x3), (30, .fn g4 c4), (31, .tup [])], [sl 0 v9]⟩) 0 v9.length (renC (ren_ref (len_slices_swapRangeCmpFunc_impl_Value hv10).symm) (renC trivial (renC trivial (renC trivial (renC trivial (renC (ren_ref (len_slices_swapRangeCmpFunc_impl_Value hv10).symm) (renC trivial (renC trivial (renC trivial (renC trivial (renC trivial renC0))))))))))) (by kernel_rfl) ?_
 refine ve 0 58 [(0, rf 0 0 1 v9), (2, I a2), (4, .fn g4 c4), (10, I x2), (11, I x3)] [sl 0 v9] ?_
 refine rve 58 [(0, rf 0 0 1 v9), (2, I a2), (4, .fn g4 c4), (10, I (w64 (x2 - x3))), (11, I x3)] [sl 0 v9] ?_
 exact ⟨(f5, (w64 (x2 - x3)), x3, v9), h, Nat.lt_succ_self _, it [0, 2, 4, 10, 11]⟩
 refine srv 11 58 [(0, rf 0 0 1 x4), (2, I a2), (4, .fn g4 c4), (10, I x2), (11, I x3), (35, rf 0 0 1 x4), (38, I (w64 (a2 - x2))), (43, I (w64 ((w64 (a2 + x3)) - x2))), (44, I x2), (45, .fn g4 c4)] [sl 0 x4] ?_
 obtain ⟨v11, hv12, h⟩ := bindS h
 refine opsP_E (dd := some 46) (x := .tup []) (callS_E τ 46 0 0 (ok_slices_swapRangeCmpFunc_impl_Value (hz4) (hp4) hv12) (FzTo.tup FzToL.nil) rfl (by simp only [frzL, frz, hz4, Bool.and_true]) (by kernel_rfl)) ?_
 refine io 58 [(0, rf 0 0 1 x4), (2, I a2), (4, .fn g4 c4), (10, I x2), (11, I x3), (35, rf 0 0 1 x4), (38, I (w64 (a2 - x2))), (43, I (w64 ((w64 (a2 + x3)) - x2))), (44, I x2), (45, .fn g4 c4), (46, .tup [])] [sl 0 v11] ?_
 refine opsP_ren (st' := ⟨58, [(0, rf 0 0 1 v11), (2, I a2), (4, .fn g4 c4), (10, I x2), (11, I x3), (35, rf 0 0 1 v11), (38, I (w64 (a2 - x2))), (43, I (w64 ((w64 (a2 + x3)) - x2))), (44, I x2), (45, .fn g4 c4), (46, .tup [])], [sl 0 v11]⟩) 0 v11.length (renC (ren_ref (len_slices_swapRangeCmpFunc_impl_Value hv12).symm) (renC trivial (renC trivial (renC trivial (renC trivial (renC (ren_ref (len_slices_swapRangeCmpFunc_impl_Value hv12).symm) (renC trivial (renC trivial (renC trivial (renC trivial (renC trivial renC0))))))))))) (by kernel_rfl) ?_
 refine ve 0 58 [(0, rf 0 0 1 v11), (2, I a2), (4, .fn g4 c4), (10, I x2), (11, I x3)] [sl 0 v11] ?_
 refine rve 58 [(0, rf 0 0 1 v11), (2, I a2), (4, .fn g4 c4), (10, I x2), (11, I (w64 (x3 - x2)))] [sl 0 v11] ?_
 exact ⟨(f5, x2, (w64 (x3 - x2)), v11), h, Nat.lt_succ_self _, it [0, 2, 4, 10, 11]⟩
 refine pwp_exit ?_
 refine rv 7 58 [(50, rf 0 0 1 x4), (53, I (w64 (a2 - x2))), (54, I a2), (55, I x2), (56, .fn g4 c4)] [sl 0 x4] ?_
 obtain ⟨v13, hv14, h⟩ := bindS h
 refine opsP_E (dd := some 57) (x := .tup []) (callS_E τ 57 0 0 (ok_slices_swapRangeCmpFunc_impl_Value (hz4) (hp4) hv14) (FzTo.tup FzToL.nil) rfl (by simp only [frzL, frz, hz4, Bool.and_true]) (by kernel_rfl)) ?_
 refine io 58 [(50, rf 0 0 1 x4), (53, I (w64 (a2 - x2))), (54, I a2), (55, I x2), (56, .fn g4 c4), (57, .tup [])] [sl 0 v13] ?_
 refine opsP_ren (st' := ⟨58, [(50, rf 0 0 1 v13), (53, I (w64 (a2 - x2))), (54, I a2), (55, I x2), (56, .fn g4 c4), (57, .tup [])], [sl 0 v13]⟩) 0 v13.length (renC (ren_ref (len_slices_swapRangeCmpFunc_impl_Value hv14).symm) (renC trivial (renC trivial (renC trivial (renC trivial (renC trivial renC0)))))) (by kernel_rfl) ?_
 refine ve 0 58 [] [sl 0 v13] ?_
 have h := si h
 subst h
 first | exact ⟨.inl rfl, .tup [], _, 0, by kernel_rfl, (OutP.tup (OutL.nil _)), by decide, by decide, by kernel_rfl⟩ | exact pwp_ret ⟨.inr rfl, .tup [], _, 0, by kernel_rfl, (OutP.tup (OutL.nil _)), by decide, by decide, by kernel_rfl⟩
def slices_Grow_impl_Value_impl_Value_s3_n0 (a1 : Int) : Option (List (List T_impl_Value)) := bif (decide (a1 < 0)) then none else bif (decide ((w64 (a1 - (w64 (0 - (0 : Int))))) > 0)) then (apzI (w64 (a1 - (w64 (0 - (0 : Int))))) ([] : List T_impl_Value)).bind fun v3 => (slI v3 none (some (0 : Int)) none).bind fun v5 => some v5 else some ([] : List (List T_impl_Value))
theorem ok_slices_Grow_impl_Value_impl_Value_s3_n0 {a1 : Int} {y : List (List T_impl_Value)} (h : slices_Grow_impl_Value_impl_Value_s3_n0 a1 = some y) : OK Try.prog 148 [.arr 1 0 (eL ([] : List (List T_impl_Value))) true, I a1] (O y) := by
 refine ow Try.func148 fun Γ hX => ?_
 unfold slices_Grow_impl_Value_impl_Value_s3_n0 at h
 refine srve 27 [(0, .arr 1 0 (eL ([] : List (List T_impl_Value))) true), (1, I a1)] [] ?_
 refine pwp_seq ?_
 refine srve 27 [(0, .arr 1 0 (eL ([] : List (List T_impl_Value))) true), (1, I a1), (6, B (decide (a1 < 0)))] [] ?_
 refine pc h (fun h => ?_) (fun h => ?_)
 cases h
 refine pwp_skip ?_
 refine pwp_seq ?_
 refine srv 2 27 [(0, .arr 1 0 (eL ([] : List (List T_impl_Value))) true), (8, I a1), (9, .arr 1 0 (eL ([] : List (List T_impl_Value))) true)] [] ?_
 refine opsP_E (dd := some 10) (x := I 0) (CoreE.of_y (capV_sound (n := 0) τ_ok (by kernel_rfl))) ?_
 refine ve 5 27 [(0, .arr 1 0 (eL ([] : List (List T_impl_Value))) true), (1, I (w64 (a1 - (w64 (0 - (0 : Int))))))] [] ?_
 refine srve 27 [(0, .arr 1 0 (eL ([] : List (List T_impl_Value))) true), (1, I (w64 (a1 - (w64 (0 - (0 : Int)))))), (16, B (decide ((w64 (a1 - (w64 (0 - (0 : Int))))) > 0)))] [] ?_
 refine pc h (fun h => ?_) (fun h => ?_)
 refine rv 2 27 [(0, .arr 1 0 (eL ([] : List (List T_impl_Value))) true), (1, I (w64 (a1 - (w64 (0 - (0 : Int)))))), (17, .arr 1 0 (eL ([] : List (List T_impl_Value))) true), (18, .arr 1 0 (eL ([] : List (List T_impl_Value))) true)] [] ?_
 refine opsP_E (dd := some 19) (x := I 0) (CoreE.of_y (capV_sound (n := 0) τ_ok (by kernel_rfl))) ?_
 refine opsP_E (dd := some 20) (x := .arr 1 0 [] true) (CoreE.of_y (slnV_sound τ_ok (by kernel_rfl))) ?_
 refine v 1 27 [(0, .arr 1 0 (eL ([] : List (List T_impl_Value))) true), (20, .arr 1 0 (eL ([] : List (List T_impl_Value))) true), (21, I (w64 (a1 - (w64 (0 - (0 : Int))))))] [] ?_
 obtain ⟨v3, hv4, h⟩ := bindS h
 refine opsP_apz τ_ok 22 0 _ hv4 (by kernel_rfl) (by kernel_rfl) ?_
 refine v 2 27 [(22, rf 0 0 1 v3), (24, I (0 : Int))] [sl 0 v3] ?_
 obtain ⟨v5, hv6, h⟩ := bindS h
 refine opsP_slr τ_ok 25 0 0 v3.length hv6 rfl (by kernel_rfl) ?_
 refine ve 1 27 [(0, rf 0 0 1 v5)] [sl 0 v3] ?_
 refine srve 27 [(4, rf 0 0 1 v5)] [sl 0 v3] ?_
 refine ip 27 [(4, rf 0 0 1 v5)] [sl 0 v3] ?_
 refine pwp_imp (Imp.cut (st' := ⟨27, [(4, rf 0 0 1 v5)], [sl 0 v5]⟩) 0 0 v3 v5 (by kernel_rfl) (slI_view hv6) (by kernel_rfl)) ?_
 have h := si h
 subst h
 exact pwp_ret (rt (rf 0 0 1 v5) (OutP.list (v := 0) (by kernel_rfl)))
 refine pwp_skip ?_
 refine srve 27 [(4, .arr 1 0 (eL ([] : List (List T_impl_Value))) true)] [] ?_
 refine ip 27 [(4, .arr 1 0 (eL ([] : List (List T_impl_Value))) true)] [] ?_
 refine pwp_imp (Imp.thawS (st' := ⟨27, [(4, .ref 0 0 0 1 ([] : List (List T_impl_Value)).length false)], [some ⟨0, eL ([] : List (List T_impl_Value))⟩]⟩) 4 [4] (by kernel_rfl)) ?_
 have h := si h
 subst h
 exact pwp_ret (rt (.ref 0 0 0 1 ([] : List (List T_impl_Value)).length false) (OutP.list (v := 0) (by kernel_rfl)))
def spec_RowOk_l0 (a0 : List T_impl_Value) : Nat → Int → Option Bool
 | 0, _ => none
 | f2 + 1, x1 => bif (decide (x1 < (a0.length : Int))) then (getI a0 x1).bind fun v5 => (spec_ValueOk v5).bind fun v7 => bif (!v7) then some false else (spec_RowOk_l0 a0 f2) (w64 (x1 + 1)) else some (decide ((a0.length : Int) ≤ 4))
def spec_RowOk (a0 : List T_impl_Value) : Option Bool := spec_RowOk_l0 a0 FUEL 0
theorem ok_spec_RowOk {a0 : List T_impl_Value} {y : Bool} (h : spec_RowOk a0 = some y) : OK Try.prog 49 [A a0] (B y) := by
 refine ow Try.func49 fun Γ hX => ?_
 unfold spec_RowOk at h
 refine srve 19 [(0, A a0)] [] ?_
 refine pwp_seq ?_
 refine srve 19 [(0, A a0), (3, I 0)] [] ?_
 refine pwp_block ?_
 refine pwp_loop (ι := Nat × Int) (fun (f2, x1) => (⟨19, [(0, A a0), (3, I x1)], []⟩ : St)) (fun (f2, x1) => spec_RowOk_l0 a0 f2 x1 = some y) Prod.fst (FUEL, 0) h (it [0, 3]) ?_
 rintro ⟨f2, x1⟩ h
 dsimp only at h ⊢
 rcases f2 with _ | f2
 cases h
 rw [spec_RowOk_l0] at h
 refine pwp_seq ?_
 refine srve 19 [(0, A a0), (3, I x1), (7, B (decide (x1 < (a0.length : Int))))] [] ?_
 refine pc h (fun h => ?_) (fun h => ?_)
 refine pwp_skip ?_
 refine pwp_seq ?_
 refine pwp_block ?_
 refine srv 2 19 [(0, A a0), (3, I x1), (10, A a0), (11, I x1)] [] ?_
 obtain ⟨v5, hv6, h⟩ := bindS h
 refine opsP_idx τ_ok 12 hv6 (by kernel_rfl) ?_
 refine v 1 19 [(0, A a0), (3, I x1), (13, E v5)] [] ?_
 obtain ⟨v7, hv8, h⟩ := bindS h
 refine cF 14 (ok_spec_ValueOk hv8) ?_
 refine ve 1 19 [(0, A a0), (3, I x1), (15, B (!v7))] [] ?_
 refine pc h (fun h => ?_) (fun h => ?_)
 refine srve 19 [(2, B false)] [] ?_
 cases h
 exact pwp_ret rz
 refine pwp_skip ?_
 refine rve 19 [(0, A a0), (3, I (w64 (x1 + 1)))] [] ?_
 exact ⟨(f2, (w64 (x1 + 1))), h, Nat.lt_succ_self _, it [0, 3]⟩
 refine pwp_exit ?_
 refine srve 19 [(2, B (decide ((a0.length : Int) ≤ 4)))] [] ?_
 cases h
 exact pwp_ret rz
def impl_ValueOk (a0 : T_impl_Value) : Option Bool := (impl_Value_ok a0).bind fun v1 => some v1
theorem ok_impl_ValueOk {a0 : T_impl_Value} {y : Bool} (h : impl_ValueOk a0 = some y) : OK Try.prog 59 [E a0] (B y) := by
 refine ow Try.func59 fun Γ hX => ?_
 unfold impl_ValueOk at h
 refine srve 5 [(1, pf a0 0)] [] ?_
 refine srv 1 5 [(3, E a0)] [] ?_
 obtain ⟨v1, hv2, h⟩ := bindS h
 refine cF 4 (ok_impl_Value_ok hv2) ?_
 refine ve 1 5 [(2, B v1)] [] ?_
 cases h
 exact pwp_ret rz
def impl_tallies_l0 (a0 : List T_impl_Tally) : Nat → Int → (List T_impl_Tally) → Option (List T_impl_Tally)
 | 0, _, _ => none
 | f4 + 1, x2, x3 => bif (decide (x2 < (a0.length : Int))) then (getI a0 x2).bind fun v7 => (impl_clone_impl_Value v7.fKey).bind fun v9 => (app x3 ([{ v7 with fKey := v9 }] : List T_impl_Tally)).bind fun v11 => (impl_tallies_l0 a0 f4) (w64 (x2 + 1)) v11 else (slices_Clip_impl_Tally_impl_Tally x3).bind fun v13 => some v13
def impl_tallies (a0 : List T_impl_Tally) : Option (List T_impl_Tally) := impl_tallies_l0 a0 FUEL 0 ([] : List T_impl_Tally)
theorem ok_impl_tallies {a0 : List T_impl_Tally} {y : List T_impl_Tally} (h : impl_tallies a0 = some y) : OK Try.prog 71 [A a0] (A y) := by
 refine ow Try.func71 fun Γ hX => ?_
 unfold impl_tallies at h
 refine srveM [5] 23 [(0, A a0)] [] ?_
 refine srveM [5] 23 [(0, A a0), (3, .arr 4 0 (eL ([] : List T_impl_Tally)) true)] [] ?_
 refine pwp_seq ?_
 refine srveM [5] 23 [(3, .arr 4 0 (eL ([] : List T_impl_Tally)) true), (6, A a0), (7, I (a0.length : Int)), (8, I 0)] [] ?_
 refine pwp_block ?_
 refine pwp_loop (ι := Nat × Int × (List T_impl_Tally)) (fun (f4, x2, x3) => (⟨23, [(3, rf 0 0 4 x3), (6, A a0), (7, I (a0.length : Int)), (8, I x2)], [sl 0 x3]⟩ : St)) (fun (f4, x2, x3) => impl_tallies_l0 a0 f4 x2 x3 = some y) Prod.fst (FUEL, 0, ([] : List T_impl_Tally)) h (Imp.thawS 3 [3, 6, 7, 8] (by kernel_rfl)) ?_
 rintro ⟨f4, x2, x3⟩ h
 dsimp only at h ⊢
 rcases f4 with _ | f4
 cases h
 rw [impl_tallies_l0] at h
 refine srveM [5] 23 [(3, rf 0 0 4 x3), (6, A a0), (7, I (a0.length : Int)), (8, I x2), (9, B (decide (x2 < (a0.length : Int))))] [sl 0 x3] ?_
 refine pwp_seq ?_
 refine pc h (fun h => ?_) (fun h => ?_)
 refine pwp_skip ?_
 refine pwp_seq ?_
 refine pwp_block ?_
 refine pwp_seq ?_
 refine pwp_region ?_
 obtain ⟨v7, hv8, h⟩ := bindS h
 refine opsP_idx τ_ok 10 hv8 (by kernel_rfl) ?_
 refine veM [5] 3 23 [(3, rf 0 0 4 x3), (5, .ptr 1 0 0), (6, A a0), (7, I (a0.length : Int)), (8, I x2)] [sl 0 x3, sc 0 v7] ?_
 refine srvM [5] 2 23 [(3, rf 0 0 4 x3), (5, .ptr 1 0 0), (6, A a0), (7, I (a0.length : Int)), (8, I x2), (13, A v7.fKey)] [sl 0 x3, sc 0 v7] ?_
 obtain ⟨v9, hv10, h⟩ := bindS h
 refine cF 14 (ok_impl_clone_impl_Value hv10) ?_
 refine veM [5] 2 23 [(3, rf 0 0 4 x3), (5, .ptr 1 0 0), (6, A a0), (7, I (a0.length : Int)), (8, I x2)] [sl 0 x3, some ⟨0, Enc.cells ({ v7 with fKey := v9 })⟩] ?_
 refine rvM [5] 3 23 [(6, A a0), (7, I (a0.length : Int)), (8, I x2), (16, rf 0 0 4 x3), (18, .arr 4 ([{ v7 with fKey := v9 }] : List T_impl_Tally).length (eL ([{ v7 with fKey := v9 }] : List T_impl_Tally)) true)] [sl 0 x3, some ⟨0, Enc.cells ({ v7 with fKey := v9 })⟩] ?_
 obtain ⟨v11, hv12, h⟩ := bindS h
 refine opsP_app τ_ok 19 0 0 (nx hX) hv12 (by kernel_rfl) ?_
 refine veM [5] 1 23 [(3, rf 0 1 4 v11), (6, A a0), (7, I (a0.length : Int)), (8, I x2)] [sl 1 v11, some ⟨0, Enc.cells ({ v7 with fKey := v9 })⟩] ?_
 refine rveM [5] 23 [(3, rf 0 1 4 v11), (6, A a0), (7, I (a0.length : Int)), (8, I (w64 (x2 + 1)))] [sl 1 v11, some ⟨0, Enc.cells ({ v7 with fKey := v9 })⟩] ?_
 exact ⟨(f4, (w64 (x2 + 1)), v11), h, Nat.lt_succ_self _, qt (it (st' := ⟨23, [(3, rf 0 1 4 v11), (6, A a0), (7, I (a0.length : Int)), (8, I (w64 (x2 + 1)))], [sl 1 v11, some ⟨0, Enc.cells ({ v7 with fKey := v9 })⟩]⟩) [3, 6, 7, 8]) (qt (Imp.truncS (st' := ⟨23, [(3, rf 0 1 4 v11), (6, A a0), (7, I (a0.length : Int)), (8, I (w64 (x2 + 1)))], [sl 1 v11]⟩) 1 (nx hX) (by kernel_rfl) (allBelow_mem (by exact (And.intro rfl (And.intro rfl (And.intro rfl (And.intro rfl trivial)))))) (by exact (And.intro (frz_below (eL_frz _)) trivial)) (by kernel_rfl)) (Imp.reverS 0 1 (eL v11) [3, 6, 7, 8] (by kernel_rfl) (by exact (And.intro (eL_frz _) trivial)) (by kernel_rfl)))⟩
 refine pwp_exit ?_
 refine srvM [5] 1 23 [(21, rf 0 0 4 x3)] [sl 0 x3] ?_
 refine opsP_imp (Imp.freezeB (v := 0) (cs := eL x3) (st' := ⟨23, [(21, A x3)], [none]⟩) 0 0 (nx hX) (by kernel_rfl) (eL_frz _) (wholeC (whole_is (eL_len x3).symm) wholeC0) (HpRel.key HpRel.nil) (by kernel_rfl) rfl (nx hX)) ?_
 obtain ⟨v13, hv14, h⟩ := bindS h
 refine cF 22 (ok_slices_Clip_impl_Tally_impl_Tally hv14) ?_
 refine veM [5] 1 23 [(2, A v13)] [none] ?_
 cases h
 exact pwp_ret rz
def spec_l32Row (a0 : List T_impl_Value) : Option Bool := (spec_RowOk a0).bind fun v1 => bif v1 then bif ((a0.length : Int) == 2) then (getI a0 1).bind fun v3 => bif (v3.fKind == 1) then some true else (getI a0 1).bind fun v5 => some (v5.fKind == 0) else some false else some false
theorem ok_spec_l32Row {a0 : List T_impl_Value} {y : Bool} (h : spec_l32Row a0 = some y) : OK Try.prog 72 [A a0] (B y) := by
 refine ow Try.func72 fun Γ hX => ?_
 unfold spec_l32Row at h
 refine srve 24 [(0, A a0)] [] ?_
 refine srv 1 24 [(0, A a0), (3, A a0)] [] ?_
 obtain ⟨v1, hv2, h⟩ := bindS h
 refine cF 4 (ok_spec_RowOk hv2) ?_
 refine v 1 24 [(0, A a0), (5, B v1)] [] ?_
 rcases Bool.eq_false_or_eq_true v1 with hc9 | hc9
 replace h := bT hc9 h
 rw [hc9]
 refine v 5 24 [(0, A a0), (10, B ((a0.length : Int) == 2))] [] ?_
 rcases fk ((a0.length : Int) == 2) with hc8 | hc8
 replace h := bT hc8 h
 rw [hc8]
 refine v 1 24 [(0, A a0), (10, B true), (11, A a0)] [] ?_
 obtain ⟨v3, hv4, h⟩ := bindS h
 refine opsP_idx τ_ok 12 hv4 (by kernel_rfl) ?_
 refine v 4 24 [(0, A a0), (10, B true), (16, B (v3.fKind == 1))] [] ?_
 rcases fk (v3.fKind == 1) with hc7 | hc7
 replace h := bT hc7 h
 rw [hc7]
 refine ve 8 24 [(2, B true)] [] ?_
 cases h
 exact pwp_ret rz
 replace h := bF hc7 h
 rw [hc7]
 refine v 1 24 [(10, B true), (16, B false), (17, A a0)] [] ?_
 obtain ⟨v5, hv6, h⟩ := bindS h
 refine opsP_idx τ_ok 18 hv6 (by kernel_rfl) ?_
 refine ve 6 24 [(2, B (v5.fKind == 0))] [] ?_
 cases h
 exact pwp_ret rz
 replace h := bF hc8 h
 rw [hc8]
 refine ve 14 24 [(2, B false)] [] ?_
 cases h
 exact pwp_ret rz
 replace h := bF hc9 h
 rw [hc9]
 refine ve 19 24 [(2, B false)] [] ?_
 cases h
 exact pwp_ret rz
def spec_l20Bag_j1 (x5 : Int) (K9 : Int → T_spec_l20Rd → (List (List T_impl_Value)) → Option ((List (List T_impl_Value)) × T_spec_l20Rd)) (x11 : T_spec_l20Rd) (x12 : List (List T_impl_Value)) : Option ((List (List T_impl_Value)) × T_spec_l20Rd) := K9 (w64 (x5 - 1)) x11 x12
def spec_l20Bag_j2 (a1 : List T_impl_Column) (a2 : Int) (x5 : Int) (x7 : List (List T_impl_Value)) (K9 : Int → T_spec_l20Rd → (List (List T_impl_Value)) → Option ((List (List T_impl_Value)) × T_spec_l20Rd)) (x13 : Bool) (x14 : T_spec_l20Rd) : Option ((List (List T_impl_Value)) × T_spec_l20Rd) := bif x13 then (spec_l20Rd_pick x14 (x7.length : Int)).bind fun v16 => (getI x7 v16.1).bind fun v18 => (spec_l3Own v18).bind fun v20 => (app x7 ([v20] : List (List T_impl_Value))).bind fun v22 => spec_l20Bag_j1 x5 K9 v16.2 v22 else (spec_l20Fit x14 a1 a2).bind fun v24 => (app x7 ([v24.1] : List (List T_impl_Value))).bind fun v26 => spec_l20Bag_j1 x5 K9 v24.2 v26
def spec_l20Bag_l0 (a1 : List T_impl_Column) (a2 : Int) : Nat → Int → T_spec_l20Rd → (List (List T_impl_Value)) → Option ((List (List T_impl_Value)) × T_spec_l20Rd)
 | 0, _, _, _ => none
 | f8 + 1, x5, x6, x7 => bif (decide (x5 > 0)) then bif (decide ((x7.length : Int) > 0)) then (spec_l20Rd_pick x6 3).bind fun v28 => spec_l20Bag_j2 a1 a2 x5 x7 (spec_l20Bag_l0 a1 a2 f8) (v28.1 == 0) v28.2 else spec_l20Bag_j2 a1 a2 x5 x7 (spec_l20Bag_l0 a1 a2 f8) false x6 else some (x7, x6)
def spec_l20Bag (a0 : T_spec_l20Rd) (a1 : List T_impl_Column) (a2 : Int) : Option ((List (List T_impl_Value)) × T_spec_l20Rd) := (spec_l20Rd_pick a0 7).bind fun v1 => spec_l20Bag_l0 a1 a2 FUEL v1.1 v1.2 ([] : List (List T_impl_Value))
theorem ok_spec_l20Bag {a0 : T_spec_l20Rd} {a1 : List T_impl_Column} {a2 : Int} {y : (List (List T_impl_Value)) × T_spec_l20Rd} (h : spec_l20Bag a0 a1 a2 = some y) : OKb Try.prog 98 (Enc.cells a0) [A a1, I a2] (O y.1) (Enc.cells y.2) := by
 refine OKb_of_pwp τ_ok Try.func98 rfl (by kernel_rfl) rfl (Enc.frz _) (Enc.frz _) fun Γ hQ => ?_
 unfold spec_l20Bag at h
 refine srve 43 [(0, .ptr 0 0 0), (1, A a1), (2, I a2)] [sc 0 a0] ?_
 refine srve 43 [(0, .ptr 0 0 0), (1, A a1), (2, I a2), (7, .arr 1 0 (eL ([] : List (List T_impl_Value))) true)] [sc 0 a0] ?_
 refine pwp_seq ?_
 refine srv 1 43 [(0, .ptr 0 0 0), (1, A a1), (2, I a2), (7, .arr 1 0 (eL ([] : List (List T_impl_Value))) true), (10, .ptr 0 0 0)] [sc 0 a0] ?_
 obtain ⟨v1, hv2, h⟩ := bindS h
 refine cB 11 0 0 (ok_spec_l20Rd_pick hv2) ?_
 refine ve 1 43 [(0, .ptr 0 0 0), (1, A a1), (2, I a2), (7, .arr 1 0 (eL ([] : List (List T_impl_Value))) true), (8, I v1.1)] [sc 0 v1.2] ?_
 refine pwp_block ?_
 refine pwp_loop (ι := Nat × Int × T_spec_l20Rd × (List (List T_impl_Value))) (fun (f8, x5, x6, x7) => (⟨43, [(0, .ptr 0 0 0), (1, A a1), (2, I a2), (7, rf 1 0 1 x7), (8, I x5)], [sc 0 x6, sl 0 x7]⟩ : St)) (fun (f8, x5, x6, x7) => spec_l20Bag_l0 a1 a2 f8 x5 x6 x7 = some y) Prod.fst (FUEL, v1.1, v1.2, ([] : List (List T_impl_Value))) h (Imp.thawS 7 [0, 1, 2, 7, 8] (by kernel_rfl)) ?_
 rintro ⟨f8, x5, x6, x7⟩ h
 dsimp only at h ⊢
 rcases f8 with _ | f8
 cases h
 rw [spec_l20Bag_l0] at h
 refine pwp_seq ?_
 refine srve 43 [(0, .ptr 0 0 0), (1, A a1), (2, I a2), (7, rf 1 0 1 x7), (8, I x5), (13, B (decide (x5 > 0)))] [sc 0 x6, sl 0 x7] ?_
 refine pc h (fun h => ?_) (fun h => ?_)
 refine pwp_skip ?_
 refine pwp_seq ?_
 refine pwp_join (σ := T_spec_l20Rd × (List (List T_impl_Value))) (fun (x11, x12) => (⟨43, [(0, .ptr 0 0 0), (1, A a1), (2, I a2), (7, rf 1 0 1 x12), (8, I x5)], [sc 0 x11, sl 0 x12]⟩ : St)) (fun (x11, x12) => spec_l20Bag_j1 x5 (spec_l20Bag_l0 a1 a2 f8) x11 x12 = some y) ?_ ?_
 refine pwp_block ?_
 refine pwp_seq ?_
 refine pwp_join (σ := Bool × T_spec_l20Rd) (fun (x13, x14) => (⟨43, [(0, .ptr 0 0 0), (1, A a1), (2, I a2), (7, rf 1 0 1 x7), (8, I x5), (23, B x13)], [sc 0 x14, sl 0 x7]⟩ : St)) (fun (x13, x14) => spec_l20Bag_j2 a1 a2 x5 x7 (spec_l20Bag_l0 a1 a2 f8) x13 x14 = some y) ?_ ?_
 refine rv 4 43 [(0, .ptr 0 0 0), (1, A a1), (2, I a2), (7, rf 1 0 1 x7), (8, I x5), (19, B (decide ((x7.length : Int) > 0)))] [sc 0 x6, sl 0 x7] ?_
 rcases fk (decide ((x7.length : Int) > 0)) with hc30 | hc30
 replace h := bT hc30 h
 rw [hc30]
 refine v 1 43 [(0, .ptr 0 0 0), (1, A a1), (2, I a2), (7, rf 1 0 1 x7), (8, I x5), (19, B true), (20, .ptr 0 0 0)] [sc 0 x6, sl 0 x7] ?_
 obtain ⟨v28, hv29, h⟩ := bindS h
 refine cB 21 0 0 (ok_spec_l20Rd_pick hv29) ?_
 refine ve 2 43 [(0, .ptr 0 0 0), (1, A a1), (2, I a2), (7, rf 1 0 1 x7), (8, I x5), (20, .ptr 0 0 0), (21, I v28.1), (22, B (v28.1 == 0)), (23, B (v28.1 == 0))] [sc 0 v28.2, sl 0 x7] ?_
 exact ⟨((v28.1 == 0), v28.2), h, it [0, 1, 2, 7, 8, 23]⟩
 replace h := bF hc30 h
 rw [hc30]
 refine ve 4 43 [(0, .ptr 0 0 0), (1, A a1), (2, I a2), (7, rf 1 0 1 x7), (8, I x5), (20, .lit undef), (21, .lit undef), (22, .lit undef), (23, B false)] [sc 0 x6, sl 0 x7] ?_
 exact ⟨(false, x6), h, it [0, 1, 2, 7, 8, 23]⟩
 rintro ⟨x13, x14⟩ h
 dsimp only at h ⊢
 unfold spec_l20Bag_j2 at h
 refine pc h (fun h => ?_) (fun h => ?_)
 refine rv 5 43 [(0, .ptr 0 0 0), (1, A a1), (2, I a2), (8, I x5), (24, rf 1 0 1 x7), (25, rf 1 0 1 x7), (26, .ptr 0 0 0), (28, I (x7.length : Int))] [sc 0 x14, sl 0 x7] ?_
 obtain ⟨v16, hv17, h⟩ := bindS h
 refine cB 29 0 0 (ok_spec_l20Rd_pick hv17) ?_
 obtain ⟨v18, hv19, h⟩ := bindS h
 refine opsP_idr τ_ok 30 1 0 x7.length hv19 rfl (by kernel_rfl) ?_
 refine opsP_lde (r := A v18) τ_ok 31 29 0 hv19 (by kernel_rfl) (by kernel_rfl) ?_
 obtain ⟨v20, hv21, h⟩ := bindS h
 refine cFo 32 (ok_spec_l3Own hv21) ?_
 refine v 1 43 [(0, .ptr 0 0 0), (1, A a1), (2, I a2), (8, I x5), (24, rf 1 0 1 x7), (33, .arr 1 ([v20] : List (List T_impl_Value)).length (eL ([v20] : List (List T_impl_Value))) true)] [sc 0 v16.2, sl 0 x7] ?_
 obtain ⟨v22, hv23, h⟩ := bindS h
 refine opsP_app τ_ok 34 1 0 (pn hQ) hv23 (by kernel_rfl) ?_
 refine ve 1 43 [(0, .ptr 0 0 0), (1, A a1), (2, I a2), (7, rf 1 1 1 v22), (8, I x5)] [sc 0 v16.2, sl 1 v22] ?_
 exact ⟨(v16.2, v22), h, (it (st' := ⟨43, [(0, .ptr 0 0 0), (1, A a1), (2, I a2), (7, rf 1 1 1 v22), (8, I x5)], [sc 0 v16.2, sl 1 v22]⟩) [0, 1, 2, 7, 8]).trans (Imp.reverS 1 1 (eL v22) [0, 1, 2, 7, 8] (by kernel_rfl) (by exact (And.intro (rfl) (And.intro (eL_frz _) trivial))) (by kernel_rfl))⟩
 refine rv 4 43 [(0, .ptr 0 0 0), (1, A a1), (2, I a2), (8, I x5), (35, rf 1 0 1 x7), (36, .ptr 0 0 0), (37, A a1), (38, I a2)] [sc 0 x14, sl 0 x7] ?_
 obtain ⟨v24, hv25, h⟩ := bindS h
 refine cBo 39 0 0 (ok_spec_l20Fit hv25) ?_
 refine v 1 43 [(0, .ptr 0 0 0), (1, A a1), (2, I a2), (8, I x5), (35, rf 1 0 1 x7), (40, .arr 1 ([v24.1] : List (List T_impl_Value)).length (eL ([v24.1] : List (List T_impl_Value))) true)] [sc 0 v24.2, sl 0 x7] ?_
 obtain ⟨v26, hv27, h⟩ := bindS h
 refine opsP_app τ_ok 41 1 0 (pn hQ) hv27 (by kernel_rfl) ?_
 refine ve 1 43 [(0, .ptr 0 0 0), (1, A a1), (2, I a2), (7, rf 1 1 1 v26), (8, I x5)] [sc 0 v24.2, sl 1 v26] ?_
 exact ⟨(v24.2, v26), h, (it (st' := ⟨43, [(0, .ptr 0 0 0), (1, A a1), (2, I a2), (7, rf 1 1 1 v26), (8, I x5)], [sc 0 v24.2, sl 1 v26]⟩) [0, 1, 2, 7, 8]).trans (Imp.reverS 1 1 (eL v26) [0, 1, 2, 7, 8] (by kernel_rfl) (by exact (And.intro (rfl) (And.intro (eL_frz _) trivial))) (by kernel_rfl))⟩
 rintro ⟨x11, x12⟩ h
 dsimp only at h ⊢
 unfold spec_l20Bag_j1 at h
 refine rve 43 [(0, .ptr 0 0 0), (1, A a1), (2, I a2), (7, rf 1 0 1 x12), (8, I (w64 (x5 - 1)))] [sc 0 x11, sl 0 x12] ?_
 exact ⟨(f8, (w64 (x5 - 1)), x11, x12), h, Nat.lt_succ_self _, it [0, 1, 2, 7, 8]⟩
 refine pwp_exit ?_
 refine srve 43 [(6, rf 1 0 1 x7)] [sc 0 x6, sl 0 x7] ?_
 have h := si h
 subst h
 exact pwp_ret ⟨.inr rfl, rf 1 0 1 x7, _, 0, by kernel_rfl, (OutP.list (v := 0) (by kernel_rfl)), by decide, by decide, by kernel_rfl⟩
def slices_Concat_impl_Value_impl_Value_s3_l1 (a0 : List (List (List T_impl_Value))) : Nat → Int → (List (List T_impl_Value)) → Option (List (List T_impl_Value))
 | 0, _, _ => none
 | f14 + 1, x12, x13 => bif (decide (x12 < (a0.length : Int))) then (getI a0 x12).bind fun v17 => (app x13 v17).bind fun v19 => (slices_Concat_impl_Value_impl_Value_s3_l1 a0 f14) (w64 (x12 + 1)) v19 else some x13
def slices_Concat_impl_Value_impl_Value_s3_l0 (a0 : List (List (List T_impl_Value))) : Nat → Int → Int → Option (List (List T_impl_Value))
 | 0, _, _ => none
 | f3 + 1, x1, x2 => bif (decide (x2 < (a0.length : Int))) then (getI a0 x2).bind fun v6 => bif (decide ((w64 (x1 + (v6.length : Int))) < 0)) then none else (slices_Concat_impl_Value_impl_Value_s3_l0 a0 f3) (w64 (x1 + (v6.length : Int))) (w64 (x2 + 1)) else (slices_Grow_impl_Value_impl_Value_s3_n0 x1).bind fun v9 => slices_Concat_impl_Value_impl_Value_s3_l1 a0 FUEL 0 v9
def slices_Concat_impl_Value_impl_Value_s3 (a0 : List (List (List T_impl_Value))) : Option (List (List T_impl_Value)) := slices_Concat_impl_Value_impl_Value_s3_l0 a0 FUEL 0 0
theorem ok_slices_Concat_impl_Value_impl_Value_s3 {a0 : List (List (List T_impl_Value))} {y : List (List T_impl_Value)} (h : slices_Concat_impl_Value_impl_Value_s3 a0 = some y) : OK Try.prog 101 [A a0] (O y) := by
 refine ow Try.func101 fun Γ hX => ?_
 unfold slices_Concat_impl_Value_impl_Value_s3 at h
 refine srve 36 [(0, A a0)] [] ?_
 refine srve 36 [(0, A a0), (3, I 0)] [] ?_
 refine pwp_seq ?_
 refine srve 36 [(0, A a0), (3, I 0), (9, A a0), (10, I (a0.length : Int)), (11, I 0)] [] ?_
 refine pwp_block ?_
 refine pwp_loop (ι := Nat × Int × Int) (fun (f3, x1, x2) => (⟨36, [(0, A a0), (3, I x1), (9, A a0), (10, I (a0.length : Int)), (11, I x2)], []⟩ : St)) (fun (f3, x1, x2) => slices_Concat_impl_Value_impl_Value_s3_l0 a0 f3 x1 x2 = some y) Prod.fst (FUEL, 0, 0) h (it [0, 3, 9, 10, 11]) ?_
 rintro ⟨f3, x1, x2⟩ h
 dsimp only at h ⊢
 rcases f3 with _ | f3
 cases h
 rw [slices_Concat_impl_Value_impl_Value_s3_l0] at h
 refine srve 36 [(0, A a0), (3, I x1), (9, A a0), (10, I (a0.length : Int)), (11, I x2), (12, B (decide (x2 < (a0.length : Int))))] [] ?_
 refine pwp_seq ?_
 refine pc h (fun h => ?_) (fun h => ?_)
 refine pwp_skip ?_
 refine pwp_seq ?_
 refine pwp_block ?_
 refine pwp_seq ?_
 refine pwp_region ?_
 obtain ⟨v6, hv7, h⟩ := bindS h
 refine opsP_idx τ_ok 13 hv7 (by kernel_rfl) ?_
 refine ve 2 36 [(0, A a0), (3, I x1), (5, A v6), (9, A a0), (10, I (a0.length : Int)), (11, I x2)] [] ?_
 refine srve 36 [(0, A a0), (3, I (w64 (x1 + (v6.length : Int)))), (9, A a0), (10, I (a0.length : Int)), (11, I x2)] [] ?_
 refine srve 36 [(0, A a0), (3, I (w64 (x1 + (v6.length : Int)))), (9, A a0), (10, I (a0.length : Int)), (11, I x2), (20, B (decide ((w64 (x1 + (v6.length : Int))) < 0)))] [] ?_
 refine pc h (fun h => ?_) (fun h => ?_)
 cases h
 refine pwp_skip ?_
 refine rve 36 [(0, A a0), (3, I (w64 (x1 + (v6.length : Int)))), (9, A a0), (10, I (a0.length : Int)), (11, I (w64 (x2 + 1)))] [] ?_
 exact ⟨(f3, (w64 (x1 + (v6.length : Int))), (w64 (x2 + 1))), h, Nat.lt_succ_self _, it [0, 3, 9, 10, 11]⟩
 refine pwp_exit ?_
 refine srv 1 36 [(0, A a0), (23, I x1)] [] ?_
 obtain ⟨v9, hv10, h⟩ := bindS h
 refine opsP_callH τ 24 (ok_slices_Grow_impl_Value_impl_Value_s3_n0 hv10) rfl (by kernel_rfl) ?_
 refine ve 1 36 [(0, A a0), (6, rf 0 0 1 v9)] [sl 0 v9] ?_
 refine pwp_seq ?_
 refine srve 36 [(6, rf 0 0 1 v9), (25, A a0), (26, I (a0.length : Int)), (27, I 0)] [sl 0 v9] ?_
 refine pwp_block ?_
 refine pwp_loop (ι := Nat × Int × (List (List T_impl_Value))) (fun (f14, x12, x13) => (⟨36, [(6, rf 0 0 1 x13), (25, A a0), (26, I (a0.length : Int)), (27, I x12)], [sl 0 x13]⟩ : St)) (fun (f14, x12, x13) => slices_Concat_impl_Value_impl_Value_s3_l1 a0 f14 x12 x13 = some y) Prod.fst (FUEL, 0, v9) h (it [6, 25, 26, 27]) ?_
 rintro ⟨f14, x12, x13⟩ h
 dsimp only at h ⊢
 rcases f14 with _ | f14
 cases h
 rw [slices_Concat_impl_Value_impl_Value_s3_l1] at h
 refine srve 36 [(6, rf 0 0 1 x13), (25, A a0), (26, I (a0.length : Int)), (27, I x12), (28, B (decide (x12 < (a0.length : Int))))] [sl 0 x13] ?_
 refine pwp_seq ?_
 refine pc h (fun h => ?_) (fun h => ?_)
 refine pwp_skip ?_
 refine pwp_seq ?_
 refine pwp_block ?_
 refine pwp_seq ?_
 refine pwp_region ?_
 obtain ⟨v17, hv18, h⟩ := bindS h
 refine opsP_idx τ_ok 29 hv18 (by kernel_rfl) ?_
 refine ve 2 36 [(6, rf 0 0 1 x13), (8, A v17), (25, A a0), (26, I (a0.length : Int)), (27, I x12)] [sl 0 x13] ?_
 refine rv 2 36 [(25, A a0), (26, I (a0.length : Int)), (27, I x12), (31, rf 0 0 1 x13), (32, A v17)] [sl 0 x13] ?_
 obtain ⟨v19, hv20, h⟩ := bindS h
 refine opsP_app τ_ok 33 0 0 (nx hX) hv20 (by kernel_rfl) ?_
 refine ve 1 36 [(6, rf 0 1 1 v19), (25, A a0), (26, I (a0.length : Int)), (27, I x12)] [sl 1 v19] ?_
 refine rve 36 [(6, rf 0 1 1 v19), (25, A a0), (26, I (a0.length : Int)), (27, I (w64 (x12 + 1)))] [sl 1 v19] ?_
 exact ⟨(f14, (w64 (x12 + 1)), v19), h, Nat.lt_succ_self _, (it (st' := ⟨36, [(6, rf 0 1 1 v19), (25, A a0), (26, I (a0.length : Int)), (27, I (w64 (x12 + 1)))], [sl 1 v19]⟩) [6, 25, 26, 27]).trans (Imp.reverS 0 1 (eL v19) [6, 25, 26, 27] (by kernel_rfl) (by exact (And.intro (eL_frz _) trivial)) (by kernel_rfl))⟩
 refine pwp_exit ?_
 refine srve 36 [(2, rf 0 0 1 x13)] [sl 0 x13] ?_
 have h := si h
 subst h
 exact pwp_ret (rt (rf 0 0 1 x13) (OutP.list (v := 0) (by kernel_rfl)))
def impl_RowOk_1 (a0 : T_impl_Value) : Option Bool := (impl_Value_ok a0).bind fun v1 => some (!v1)
theorem ok_impl_RowOk_1 {a0 : T_impl_Value} {y : Bool} (h : impl_RowOk_1 a0 = some y) : OK Try.prog 110 [E a0] (B y) := by
 refine ow Try.func110 fun Γ hX => ?_
 unfold impl_RowOk_1 at h
 refine srve 6 [(1, pf a0 0)] [] ?_
 refine srv 1 6 [(3, E a0)] [] ?_
 obtain ⟨v1, hv2, h⟩ := bindS h
 refine cF 4 (ok_impl_Value_ok hv2) ?_
 refine ve 2 6 [(2, B (!v1))] [] ?_
 cases h
 exact pwp_ret rz
def spec_RowOrder_j2 (a0 : List T_impl_Value) (a1 : List T_impl_Value) (x3 : Int) (K5 : Int → Option Int) (x6 : Bool) : Option Int := bif x6 then (getI a0 x3).bind fun v8 => (getI a1 x3).bind fun v10 => (spec_ValueOrder v8 v10).bind fun v12 => bif (!(v12 == 0)) then some v12 else K5 (w64 (x3 + 1)) else (spec_l1Less (a1.length : Int) (a0.length : Int)).bind fun v15 => (spec_l1Less (a0.length : Int) (a1.length : Int)).bind fun v17 => some (w64 (v15 - v17))
def spec_RowOrder_l1 (a0 : List T_impl_Value) (a1 : List T_impl_Value) : Nat → Int → Option Int
 | 0, _ => none
 | f4 + 1, x3 => bif (decide (x3 < (a0.length : Int))) then spec_RowOrder_j2 a0 a1 x3 (spec_RowOrder_l1 a0 a1 f4) (decide (x3 < (a1.length : Int))) else spec_RowOrder_j2 a0 a1 x3 (spec_RowOrder_l1 a0 a1 f4) false
def spec_RowOrder_j0 (a0 : List T_impl_Value) (a1 : List T_impl_Value) (x1 : Bool) : Option Int := bif x1 then some 0 else spec_RowOrder_l1 a0 a1 FUEL 0
def spec_RowOrder (a0 : List T_impl_Value) (a1 : List T_impl_Value) : Option Int := (spec_RowOk a0).bind fun v20 => bif (!v20) then spec_RowOrder_j0 a0 a1 true else (spec_RowOk a1).bind fun v22 => spec_RowOrder_j0 a0 a1 (!v22)
theorem ok_spec_RowOrder {a0 : List T_impl_Value} {a1 : List T_impl_Value} {y : Int} (h : spec_RowOrder a0 a1 = some y) : OK Try.prog 121 [A a0, A a1] (I y) := by
 refine ow Try.func121 fun Γ hX => ?_
 unfold spec_RowOrder at h
 refine srve 50 [(0, A a0), (1, A a1)] [] ?_
 refine pwp_seq ?_
 refine pwp_seq ?_
 refine pwp_join (σ := Bool) (fun x1 => (⟨50, [(0, A a0), (1, A a1), (14, B x1)], []⟩ : St)) (fun x1 => spec_RowOrder_j0 a0 a1 x1 = some y) ?_ ?_
 refine rv 1 50 [(0, A a0), (1, A a1), (7, A a0)] [] ?_
 obtain ⟨v20, hv21, h⟩ := bindS h
 refine cF 8 (ok_spec_RowOk hv21) ?_
 refine v 2 50 [(0, A a0), (1, A a1), (10, B (!v20))] [] ?_
 rcases fk (!v20) with hc24 | hc24
 replace h := bT hc24 h
 rw [hc24]
 refine ve 4 50 [(0, A a0), (1, A a1), (14, B true)] [] ?_
 exact ⟨true, h, it [0, 1, 14]⟩
 replace h := bF hc24 h
 rw [hc24]
 refine v 1 50 [(0, A a0), (1, A a1), (10, B false), (11, A a1)] [] ?_
 obtain ⟨v22, hv23, h⟩ := bindS h
 refine cF 12 (ok_spec_RowOk hv23) ?_
 refine ve 2 50 [(0, A a0), (1, A a1), (14, B (!v22))] [] ?_
 exact ⟨(!v22), h, it [0, 1, 14]⟩
 rintro x1 h
 unfold spec_RowOrder_j0 at h
 refine pc h (fun h => ?_) (fun h => ?_)
 refine srve 50 [(4, I 0)] [] ?_
 cases h
 exact pwp_ret rz
 refine pwp_skip ?_
 refine pwp_seq ?_
 refine srve 50 [(0, A a0), (1, A a1), (5, I 0)] [] ?_
 refine pwp_block ?_
 refine pwp_loop (ι := Nat × Int) (fun (f4, x3) => (⟨50, [(0, A a0), (1, A a1), (5, I x3)], []⟩ : St)) (fun (f4, x3) => spec_RowOrder_l1 a0 a1 f4 x3 = some y) Prod.fst (FUEL, 0) h (it [0, 1, 5]) ?_
 rintro ⟨f4, x3⟩ h
 dsimp only at h ⊢
 rcases f4 with _ | f4
 cases h
 rw [spec_RowOrder_l1] at h
 refine pwp_seq ?_
 refine pwp_seq ?_
 refine pwp_join (σ := Bool) (fun x6 => (⟨50, [(0, A a0), (1, A a1), (5, I x3), (24, B x6)], []⟩ : St)) (fun x6 => spec_RowOrder_j2 a0 a1 x3 (spec_RowOrder_l1 a0 a1 f4) x6 = some y) ?_ ?_
 refine rv 5 50 [(0, A a0), (1, A a1), (5, I x3), (19, B (decide (x3 < (a0.length : Int))))] [] ?_
 rcases fk (decide (x3 < (a0.length : Int))) with hc19 | hc19
 replace h := bT hc19 h
 rw [hc19]
 refine ve 5 50 [(0, A a0), (1, A a1), (5, I x3), (20, I x3), (21, A a1), (22, I (a1.length : Int)), (23, B (decide (x3 < (a1.length : Int)))), (24, B (decide (x3 < (a1.length : Int))))] [] ?_
 exact ⟨(decide (x3 < (a1.length : Int))), h, it [0, 1, 5, 24]⟩
 replace h := bF hc19 h
 rw [hc19]
 refine ve 5 50 [(0, A a0), (1, A a1), (5, I x3), (20, .lit undef), (21, .lit undef), (22, .lit undef), (23, .lit undef), (24, B false)] [] ?_
 exact ⟨false, h, it [0, 1, 5, 24]⟩
 rintro x6 h
 unfold spec_RowOrder_j2 at h
 refine pc h (fun h => ?_) (fun h => ?_)
 refine pwp_skip ?_
 refine pwp_seq ?_
 refine pwp_block ?_
 refine pwp_seq ?_
 refine ip 50 [(0, A a0), (1, A a1), (5, I x3)] [] ?_
 refine pN 10 ?_
 refine qv [] trivial 2 50 [(28, I x3), (27, A a0), (0, A a0), (1, A a1), (5, I x3)] [] ?_
 obtain ⟨v8, hv9, h⟩ := bindS h
 refine qX (some 29) (pf v8 0) 50 [(29, pf v8 0), (0, A a0), (1, A a1), (5, I x3)] [] (fun Γ' hΓ => CoreE.of_y (idxV_sound τ_ok (by kernel_rfl) hv9)) trivial ?_
 refine qv [] trivial 3 50 [(32, I x3), (31, A a1), (30, E v8), (0, A a0), (1, A a1), (5, I x3)] [] ?_
 obtain ⟨v10, hv11, h⟩ := bindS h
 refine qX (some 33) (pf v10 0) 50 [(33, pf v10 0), (30, E v8), (0, A a0), (1, A a1), (5, I x3)] [] (fun Γ' hΓ => CoreE.of_y (idxV_sound τ_ok (by kernel_rfl) hv11)) trivial ?_
 refine qv [] trivial 1 50 [(34, E v10), (30, E v8), (0, A a0), (1, A a1), (5, I x3)] [] ?_
 obtain ⟨v12, hv13, h⟩ := bindS h
 refine qX (some 35) (I v12) 50 [(35, I v12), (0, A a0), (1, A a1), (5, I x3)] [] (fun Γ' hΓ => CoreE.of_g (callV_sound (τ := τ) (by kernel_rfl) rfl (ok_spec_ValueOrder hv13) (FzTo.frz rfl))) trivial ?_
 refine qvn [] trivial 1 50 [(0, A a0), (1, A a1), (5, I x3), (6, I v12)] [] ?_
 refine srve 50 [(0, A a0), (1, A a1), (5, I x3), (6, I v12), (37, B (!(v12 == 0)))] [] ?_
 refine pc h (fun h => ?_) (fun h => ?_)
 refine srve 50 [(4, I v12)] [] ?_
 cases h
 exact pwp_ret rz
 refine pwp_skip ?_
 refine rve 50 [(0, A a0), (1, A a1), (5, I (w64 (x3 + 1)))] [] ?_
 exact ⟨(f4, (w64 (x3 + 1))), h, Nat.lt_succ_self _, it [0, 1, 5]⟩
 refine pwp_exit ?_
 refine srv 4 50 [(0, A a0), (1, A a1), (40, I (a1.length : Int)), (42, I (a0.length : Int))] [] ?_
 obtain ⟨v15, hv16, h⟩ := bindS h
 refine cF 43 (ok_spec_l1Less hv16) ?_
 refine v 4 50 [(43, I v15), (45, I (a0.length : Int)), (47, I (a1.length : Int))] [] ?_
 obtain ⟨v17, hv18, h⟩ := bindS h
 refine cF 48 (ok_spec_l1Less hv18) ?_
 refine ve 2 50 [(4, I (w64 (v15 - v17)))] [] ?_
 cases h
 exact pwp_ret rz
def impl_Value_order (a0 : T_impl_Value) (a1 : T_impl_Value) : Option Int := (cmp_Compare_int a0.fKind a1.fKind).bind fun v1 => (cmp_Compare_int a0.fN a1.fN).bind fun v3 => (cmp_Compare_string a0.fS a1.fS).bind fun v5 => (cmp_Or_int ([v1, v3, v5])).bind fun v7 => some v7
theorem ok_impl_Value_order {a0 : T_impl_Value} {a1 : T_impl_Value} {y : Int} (h : impl_Value_order a0 a1 = some y) : OK Try.prog 152 [E a0, E a1] (I y) := by
 refine ow Try.func152 fun Γ hX => ?_
 unfold impl_Value_order at h
 refine srve 22 [(2, pf a0 0), (3, pf a1 0)] [] ?_
 refine pwp_seq ?_
 refine ip 22 [(2, pf a0 0), (3, pf a1 0)] [] ?_
 refine pN 18 ?_
 refine qv [] trivial 4 22 [(8, I a1.fKind), (6, I a0.fKind), (2, pf a0 0), (3, pf a1 0)] [] ?_
 obtain ⟨v1, hv2, h⟩ := bindS h
 refine qX (some 9) (I v1) 22 [(9, I v1), (2, pf a0 0), (3, pf a1 0)] [] (fun Γ' hΓ => CoreE.of_g (callV_sound (τ := τ) (by kernel_rfl) rfl (ok_cmp_Compare_int hv2) (FzTo.frz rfl))) trivial ?_
 refine qv [] trivial 4 22 [(13, I a1.fN), (11, I a0.fN), (9, I v1), (2, pf a0 0), (3, pf a1 0)] [] ?_
 obtain ⟨v3, hv4, h⟩ := bindS h
 refine qX (some 14) (I v3) 22 [(14, I v3), (9, I v1), (2, pf a0 0), (3, pf a1 0)] [] (fun Γ' hΓ => CoreE.of_g (callV_sound (τ := τ) (by kernel_rfl) rfl (ok_cmp_Compare_int hv4) (FzTo.frz rfl))) trivial ?_
 refine qv [] trivial 4 22 [(18, S a1.fS), (16, S a0.fS), (14, I v3), (9, I v1)] [] ?_
 obtain ⟨v5, hv6, h⟩ := bindS h
 refine qX (some 19) (I v5) 22 [(19, I v5), (14, I v3), (9, I v1)] [] (fun Γ' hΓ => CoreE.of_g (callV_sound (τ := τ) (by kernel_rfl) rfl (ok_cmp_Compare_string hv6) (FzTo.frz rfl))) trivial ?_
 refine qv [] trivial 1 22 [(20, .arr 1 ([v1, v3, v5] : List Int).length (eL ([v1, v3, v5] : List Int)) true)] [] ?_
 obtain ⟨v7, hv8, h⟩ := bindS h
 refine qX (some 21) (I v7) 22 [(21, I v7)] [] (fun Γ' hΓ => CoreE.of_g (callV_sound (τ := τ) (by kernel_rfl) rfl (ok_cmp_Or_int hv8) (FzTo.frz rfl))) trivial ?_
 refine qvn [] trivial 1 22 [(4, I v7)] [] ?_
 cases h
 exact pwp_ret rz
def slices_symMergeCmpFunc_impl_Value_l1 (x3 : Int) : Nat → Int → (List (List T_impl_Value)) → Option (List (List T_impl_Value))
 | 0, _, _ => none
 | f18 + 1, x16, x17 => bif (decide (x16 < (w64 (x3 - 1)))) then (getI x17 (w64 (x16 + 1))).bind fun v21 => (getI x17 x16).bind fun v23 => (getI x17 x16).bind fun v25 => (getI (x17.set x16.toNat v21) (w64 (x16 + 1))).bind fun v27 => (slices_symMergeCmpFunc_impl_Value_l1 x3 f18) (w64 (x16 + 1)) ((x17.set x16.toNat v21).set (w64 (x16 + 1)).toNat v23) else some x17
def slices_symMergeCmpFunc_impl_Value_l0 (a0 : List (List T_impl_Value)) (a1 : Int) (a4 : (List T_impl_Value) → (List T_impl_Value) → Option Int) : Nat → Int → Int → Option (List (List T_impl_Value))
 | 0, _, _ => none
 | f5 + 1, x3, x4 => bif (decide (x3 < x4)) then (getI a0 (w64 (shrU (u64 (w64 (x3 + x4))) 1))).bind fun v8 => (getI a0 a1).bind fun v10 => (a4 v8 v10).bind fun v12 => bif (decide (v12 < 0)) then (slices_symMergeCmpFunc_impl_Value_l0 a0 a1 a4 f5) (w64 ((w64 (shrU (u64 (w64 (x3 + x4))) 1)) + 1)) x4 else (slices_symMergeCmpFunc_impl_Value_l0 a0 a1 a4 f5) x3 (w64 (shrU (u64 (w64 (x3 + x4))) 1)) else slices_symMergeCmpFunc_impl_Value_l1 x3 FUEL a1 a0
def slices_symMergeCmpFunc_impl_Value_l3 (x31 : Int) : Nat → Int → (List (List T_impl_Value)) → Option (List (List T_impl_Value))
 | 0, _, _ => none
 | f46 + 1, x44, x45 => bif (decide (x44 > x31)) then (getI x45 (w64 (x44 - 1))).bind fun v49 => (getI x45 x44).bind fun v51 => (getI x45 x44).bind fun v53 => (getI (x45.set x44.toNat v49) (w64 (x44 - 1))).bind fun v55 => (slices_symMergeCmpFunc_impl_Value_l3 x31 f46) (w64 (x44 - 1)) ((x45.set x44.toNat v49).set (w64 (x44 - 1)).toNat v51) else some x45
def slices_symMergeCmpFunc_impl_Value_l2 (a0 : List (List T_impl_Value)) (a2 : Int) (a4 : (List T_impl_Value) → (List T_impl_Value) → Option Int) : Nat → Int → Int → Option (List (List T_impl_Value))
 | 0, _, _ => none
 | f33 + 1, x31, x32 => bif (decide (x31 < x32)) then (getI a0 a2).bind fun v36 => (getI a0 (w64 (shrU (u64 (w64 (x31 + x32))) 1))).bind fun v38 => (a4 v36 v38).bind fun v40 => bif (!(decide (v40 < 0))) then (slices_symMergeCmpFunc_impl_Value_l2 a0 a2 a4 f33) (w64 ((w64 (shrU (u64 (w64 (x31 + x32))) 1)) + 1)) x32 else (slices_symMergeCmpFunc_impl_Value_l2 a0 a2 a4 f33) x31 (w64 (shrU (u64 (w64 (x31 + x32))) 1)) else slices_symMergeCmpFunc_impl_Value_l3 x31 FUEL a2 a0
def slices_symMergeCmpFunc_impl_Value_j8 (rec0 : (List (List T_impl_Value)) → Int → Int → Int → Option (List (List T_impl_Value))) (a1 : Int) (a2 : Int) (a3 : Int) (x60 : Int) (x73 : List (List T_impl_Value)) (x74 : Bool) : Option (List (List T_impl_Value)) := bif x74 then (rec0 x73 (w64 (shrU (u64 (w64 (a1 + a3))) 1)) (w64 ((w64 ((w64 (shrU (u64 (w64 (a1 + a3))) 1)) + a2)) - x60)) a3).bind fun v76 => some v76 else some x73
def slices_symMergeCmpFunc_impl_Value_j7 (rec0 : (List (List T_impl_Value)) → Int → Int → Int → Option (List (List T_impl_Value))) (a1 : Int) (a2 : Int) (a3 : Int) (x60 : Int) (x73 : List (List T_impl_Value)) : Option (List (List T_impl_Value)) := bif (decide ((w64 (shrU (u64 (w64 (a1 + a3))) 1)) < (w64 ((w64 ((w64 (shrU (u64 (w64 (a1 + a3))) 1)) + a2)) - x60)))) then slices_symMergeCmpFunc_impl_Value_j8 rec0 a1 a2 a3 x60 x73 (decide ((w64 ((w64 ((w64 (shrU (u64 (w64 (a1 + a3))) 1)) + a2)) - x60)) < a3)) else slices_symMergeCmpFunc_impl_Value_j8 rec0 a1 a2 a3 x60 x73 false
def slices_symMergeCmpFunc_impl_Value_j9 (rec0 : (List (List T_impl_Value)) → Int → Int → Int → Option (List (List T_impl_Value))) (a1 : Int) (a2 : Int) (a3 : Int) (x60 : Int) (x72 : List (List T_impl_Value)) (x79 : Bool) : Option (List (List T_impl_Value)) := bif x79 then (rec0 x72 a1 x60 (w64 (shrU (u64 (w64 (a1 + a3))) 1))).bind fun v81 => slices_symMergeCmpFunc_impl_Value_j7 rec0 a1 a2 a3 x60 v81 else slices_symMergeCmpFunc_impl_Value_j7 rec0 a1 a2 a3 x60 x72
def slices_symMergeCmpFunc_impl_Value_j6 (rec0 : (List (List T_impl_Value)) → Int → Int → Int → Option (List (List T_impl_Value))) (a1 : Int) (a2 : Int) (a3 : Int) (x60 : Int) (x72 : List (List T_impl_Value)) : Option (List (List T_impl_Value)) := bif (decide (a1 < x60)) then slices_symMergeCmpFunc_impl_Value_j9 rec0 a1 a2 a3 x60 x72 (decide (x60 < (w64 (shrU (u64 (w64 (a1 + a3))) 1)))) else slices_symMergeCmpFunc_impl_Value_j9 rec0 a1 a2 a3 x60 x72 false
def slices_symMergeCmpFunc_impl_Value_j10 (rec0 : (List (List T_impl_Value)) → Int → Int → Int → Option (List (List T_impl_Value))) (a0 : List (List T_impl_Value)) (a1 : Int) (a2 : Int) (a3 : Int) (a4 : (List T_impl_Value) → (List T_impl_Value) → Option Int) (x60 : Int) (x84 : Bool) : Option (List (List T_impl_Value)) := bif x84 then (slices_rotateCmpFunc_impl_Value a0 x60 a2 (w64 ((w64 ((w64 (shrU (u64 (w64 (a1 + a3))) 1)) + a2)) - x60)) a4).bind fun v86 => slices_symMergeCmpFunc_impl_Value_j6 rec0 a1 a2 a3 x60 v86 else slices_symMergeCmpFunc_impl_Value_j6 rec0 a1 a2 a3 x60 a0
def slices_symMergeCmpFunc_impl_Value_l5 (rec0 : (List (List T_impl_Value)) → Int → Int → Int → Option (List (List T_impl_Value))) (a0 : List (List T_impl_Value)) (a1 : Int) (a2 : Int) (a3 : Int) (a4 : (List T_impl_Value) → (List T_impl_Value) → Option Int) : Nat → Int → Int → Option (List (List T_impl_Value))
 | 0, _, _ => none
 | f62 + 1, x60, x61 => bif (decide (x60 < x61)) then (getI a0 (w64 ((w64 ((w64 ((w64 (shrU (u64 (w64 (a1 + a3))) 1)) + a2)) - 1)) - (w64 (shrU (u64 (w64 (x60 + x61))) 1))))).bind fun v65 => (getI a0 (w64 (shrU (u64 (w64 (x60 + x61))) 1))).bind fun v67 => (a4 v65 v67).bind fun v69 => bif (!(decide (v69 < 0))) then (slices_symMergeCmpFunc_impl_Value_l5 rec0 a0 a1 a2 a3 a4 f62) (w64 ((w64 (shrU (u64 (w64 (x60 + x61))) 1)) + 1)) x61 else (slices_symMergeCmpFunc_impl_Value_l5 rec0 a0 a1 a2 a3 a4 f62) x60 (w64 (shrU (u64 (w64 (x60 + x61))) 1)) else bif (decide (x60 < a2)) then slices_symMergeCmpFunc_impl_Value_j10 rec0 a0 a1 a2 a3 a4 x60 (decide (a2 < (w64 ((w64 ((w64 (shrU (u64 (w64 (a1 + a3))) 1)) + a2)) - x60)))) else slices_symMergeCmpFunc_impl_Value_j10 rec0 a0 a1 a2 a3 a4 x60 false
def slices_symMergeCmpFunc_impl_Value_j4 (rec0 : (List (List T_impl_Value)) → Int → Int → Int → Option (List (List T_impl_Value))) (a0 : List (List T_impl_Value)) (a1 : Int) (a2 : Int) (a3 : Int) (a4 : (List T_impl_Value) → (List T_impl_Value) → Option Int) (x57 : Int) (x58 : Int) : Option (List (List T_impl_Value)) := slices_symMergeCmpFunc_impl_Value_l5 rec0 a0 a1 a2 a3 a4 FUEL x57 x58
def slices_symMergeCmpFunc_impl_Value_s (rec0 : (List (List T_impl_Value)) → Int → Int → Int → Option (List (List T_impl_Value))) (a0 : List (List T_impl_Value)) (a1 : Int) (a2 : Int) (a3 : Int) (a4 : (List T_impl_Value) → (List T_impl_Value) → Option Int) : Option (List (List T_impl_Value)) := bif ((w64 (a2 - a1)) == 1) then slices_symMergeCmpFunc_impl_Value_l0 a0 a1 a4 FUEL a2 a3 else bif ((w64 (a3 - a2)) == 1) then slices_symMergeCmpFunc_impl_Value_l2 a0 a2 a4 FUEL a1 a2 else bif (decide (a2 > (w64 (shrU (u64 (w64 (a1 + a3))) 1)))) then slices_symMergeCmpFunc_impl_Value_j4 rec0 a0 a1 a2 a3 a4 (w64 ((w64 ((w64 (shrU (u64 (w64 (a1 + a3))) 1)) + a2)) - a3)) (w64 (shrU (u64 (w64 (a1 + a3))) 1)) else slices_symMergeCmpFunc_impl_Value_j4 rec0 a0 a1 a2 a3 a4 a1 a2
def slices_symMergeCmpFunc_impl_Value_f (a4 : (List T_impl_Value) → (List T_impl_Value) → Option Int) : Nat → (List (List T_impl_Value)) → Int → Int → Int → Option (List (List T_impl_Value))
 | 0, _, _, _, _ => none
 | f + 1, a0, a1, a2, a3 => (slices_symMergeCmpFunc_impl_Value_s (slices_symMergeCmpFunc_impl_Value_f a4 f) a0 a1 a2 a3 a4).bind fun y => bif (y.length == a0.length) then some y else none
def slices_symMergeCmpFunc_impl_Value (a0 : List (List T_impl_Value)) (a1 : Int) (a2 : Int) (a3 : Int) (a4 : (List T_impl_Value) → (List T_impl_Value) → Option Int) : Option (List (List T_impl_Value)) := slices_symMergeCmpFunc_impl_Value_f a4 FUEL a0 a1 a2 a3
theorem len_slices_symMergeCmpFunc_impl_Value_f (a4 : (List T_impl_Value) → (List T_impl_Value) → Option Int) : ∀ (f : Nat) {a0 : List (List T_impl_Value)} {a1 : Int} {a2 : Int} {a3 : Int} {y : List (List T_impl_Value)}, slices_symMergeCmpFunc_impl_Value_f a4 f a0 a1 a2 a3 = some y → y.length = a0.length
 | 0, _, _, _, _, _, h => by cases h
 | f + 1, _, _, _, _, _, h => (bindLen (f := fun y : List (List T_impl_Value) => y) h).2
theorem len_slices_symMergeCmpFunc_impl_Value {a0 : List (List T_impl_Value)} {a1 : Int} {a2 : Int} {a3 : Int} {a4 : (List T_impl_Value) → (List T_impl_Value) → Option Int} {y : List (List T_impl_Value)} (h : slices_symMergeCmpFunc_impl_Value a0 a1 a2 a3 a4 = some y) : y.length = a0.length := len_slices_symMergeCmpFunc_impl_Value_f _ FUEL h
theorem ok_slices_symMergeCmpFunc_impl_Value_s {g4 : FuncId} {c4 : List V} (hz4 : frzL c4 = true) {a4 : (List T_impl_Value) → (List T_impl_Value) → Option Int} (hp4 : ∀ x0 x1 y, a4 x0 x1 = some y → OK Try.prog g4 ([A x0, A x1] ++ c4) (I y)) {a0 : List (List T_impl_Value)} {a1 : Int} {a2 : Int} {a3 : Int} {rec0 : (List (List T_impl_Value)) → Int → Int → Int → Option (List (List T_impl_Value))} (hrec : ∀ {a0 : List (List T_impl_Value)} {a1 : Int} {a2 : Int} {a3 : Int} {y : List (List T_impl_Value)}, rec0 a0 a1 a2 a3 = some y → OKs Try.prog 188 [] 1 a0.length (eL a0) [I a1, I a2, I a3, .fn g4 c4] (.tup []) (eL y)) (len_rec0 : ∀ {a0 : List (List T_impl_Value)} {a1 : Int} {a2 : Int} {a3 : Int} {y : List (List T_impl_Value)}, rec0 a0 a1 a2 a3 = some y → y.length = a0.length) {y : List (List T_impl_Value)} (hl : y.length = a0.length) (h : slices_symMergeCmpFunc_impl_Value_s rec0 a0 a1 a2 a3 a4 = some y) : OKs Try.prog 188 [] 1 a0.length (eL a0) [I a1, I a2, I a3, .fn g4 c4] (.tup []) (eL y) := by
 refine OKs_of_pwp τ_ok Try.func188 rfl (by kernel_rfl) rfl (eL_frz _) (eL_frz _) (by rw [eL_len, eL_len, hl]) fun Γ hQ => ?_
 refine pwp_imp (Imp.to (st' := ⟨220, [(0, rf 0 0 1 a0), (1, I a1), (2, I a2), (3, I a3), (4, .fn g4 c4)], [sl 0 a0]⟩) [0, 1, 2, 3, 4] (by kernel_rfl)) ?_
 unfold slices_symMergeCmpFunc_impl_Value_s at h
 refine pwp_seq ?_
 refine srve 220 [(0, rf 0 0 1 a0), (1, I a1), (2, I a2), (3, I a3), (4, .fn g4 c4), (28, B ((w64 (a2 - a1)) == 1))] [sl 0 a0] ?_
 refine pc h (fun h => ?_) (fun h => ?_)
 refine srve 220 [(0, rf 0 0 1 a0), (1, I a1), (3, I a3), (4, .fn g4 c4), (10, I a2)] [sl 0 a0] ?_
 refine srve 220 [(0, rf 0 0 1 a0), (1, I a1), (4, .fn g4 c4), (10, I a2), (11, I a3)] [sl 0 a0] ?_
 refine pwp_seq ?_
 refine pwp_block ?_
 refine pwp_loop (ι := Nat × Int × Int) (fun (f5, x3, x4) => (⟨220, [(0, rf 0 0 1 a0), (1, I a1), (4, .fn g4 c4), (10, I x3), (11, I x4)], [sl 0 a0]⟩ : St)) (fun (f5, x3, x4) => slices_symMergeCmpFunc_impl_Value_l0 a0 a1 a4 f5 x3 x4 = some y) Prod.fst (FUEL, a2, a3) h (it [0, 1, 4, 10, 11]) ?_
 rintro ⟨f5, x3, x4⟩ h
 dsimp only at h ⊢
 rcases f5 with _ | f5
 cases h
 rw [slices_symMergeCmpFunc_impl_Value_l0] at h
 refine pwp_seq ?_
 refine srve 220 [(0, rf 0 0 1 a0), (1, I a1), (4, .fn g4 c4), (10, I x3), (11, I x4), (33, B (decide (x3 < x4)))] [sl 0 a0] ?_
 refine pc h (fun h => ?_) (fun h => ?_)
 refine pwp_skip ?_
 refine pwp_block ?_
 refine srve 220 [(0, rf 0 0 1 a0), (1, I a1), (4, .fn g4 c4), (10, I x3), (11, I x4), (12, I (w64 (shrU (u64 (w64 (x3 + x4))) 1)))] [sl 0 a0] ?_
 refine pwp_seq ?_
 refine ip 220 [(0, rf 0 0 1 a0), (1, I a1), (4, .fn g4 c4), (10, I x3), (11, I x4), (12, I (w64 (shrU (u64 (w64 (x3 + x4))) 1)))] [sl 0 a0] ?_
 refine pwp_any ([[], [0], [], [0], [0], [0], [], [0], [0], [], []]) ([[], [], [], [], [], [], [], [], [], [], []]) rfl (by kernel_rfl) ?_
 refine qA_mv (⟨220, [(40, .fn g4 c4), (0, rf 0 0 1 a0), (1, I a1), (4, .fn g4 c4), (10, I x3), (11, I x4), (12, I (w64 (shrU (u64 (w64 (x3 + x4))) 1)))], [sl 0 a0]⟩) (by kernel_rfl) rfl ?_
 refine qv [0] (hL trivial) 1 220 [(41, rf 0 0 1 a0), (40, .fn g4 c4), (0, rf 0 0 1 a0), (1, I a1), (4, .fn g4 c4), (10, I x3), (11, I x4), (12, I (w64 (shrU (u64 (w64 (x3 + x4))) 1)))] [sl 0 a0] ?_
 refine qv [] trivial 1 220 [(42, I (w64 (shrU (u64 (w64 (x3 + x4))) 1))), (41, rf 0 0 1 a0), (40, .fn g4 c4), (0, rf 0 0 1 a0), (1, I a1), (4, .fn g4 c4), (10, I x3), (11, I x4), (12, I (w64 (shrU (u64 (w64 (x3 + x4))) 1)))] [sl 0 a0] ?_
 obtain ⟨v8, hv9, h⟩ := bindS h
 refine qX (some 43) (.ptr 0 0 ((w64 (shrU (u64 (w64 (x3 + x4))) 1)).toNat * 1)) 220 [(43, .ptr 0 0 ((w64 (shrU (u64 (w64 (x3 + x4))) 1)).toNat * 1)), (40, .fn g4 c4), (0, rf 0 0 1 a0), (1, I a1), (4, .fn g4 c4), (10, I x3), (11, I x4), (12, I (w64 (shrU (u64 (w64 (x3 + x4))) 1)))] [sl 0 a0] (fun Γ' hΓ => CoreE.of_y (idrV_sound (n := a0.length) τ_ok (by kernel_rfl) hv9 rfl)) (hL trivial) ?_
 refine qX (some 44) (A v8) 220 [(44, A v8), (40, .fn g4 c4), (0, rf 0 0 1 a0), (1, I a1), (4, .fn g4 c4), (10, I x3), (11, I x4), (12, I (w64 (shrU (u64 (w64 (x3 + x4))) 1)))] [sl 0 a0] (fun Γ' hΓ => CoreE.of_y (ldeV_sound (t := 29) (o' := 0) (r := A v8) τ_ok hv9 (by kernel_rfl) (by kernel_rfl))) (hL trivial) ?_
 refine qv [0] (hL trivial) 1 220 [(45, rf 0 0 1 a0), (44, A v8), (40, .fn g4 c4), (0, rf 0 0 1 a0), (1, I a1), (4, .fn g4 c4), (10, I x3), (11, I x4), (12, I (w64 (shrU (u64 (w64 (x3 + x4))) 1)))] [sl 0 a0] ?_
 refine qv [] trivial 1 220 [(46, I a1), (45, rf 0 0 1 a0), (44, A v8), (40, .fn g4 c4), (0, rf 0 0 1 a0), (1, I a1), (4, .fn g4 c4), (10, I x3), (11, I x4), (12, I (w64 (shrU (u64 (w64 (x3 + x4))) 1)))] [sl 0 a0] ?_
 obtain ⟨v10, hv11, h⟩ := bindS h
 refine qX (some 47) (.ptr 0 0 (a1.toNat * 1)) 220 [(47, .ptr 0 0 (a1.toNat * 1)), (44, A v8), (40, .fn g4 c4), (0, rf 0 0 1 a0), (1, I a1), (4, .fn g4 c4), (10, I x3), (11, I x4), (12, I (w64 (shrU (u64 (w64 (x3 + x4))) 1)))] [sl 0 a0] (fun Γ' hΓ => CoreE.of_y (idrV_sound (n := a0.length) τ_ok (by kernel_rfl) hv11 rfl)) (hL trivial) ?_
 refine qX (some 48) (A v10) 220 [(48, A v10), (44, A v8), (40, .fn g4 c4), (0, rf 0 0 1 a0), (1, I a1), (4, .fn g4 c4), (10, I x3), (11, I x4), (12, I (w64 (shrU (u64 (w64 (x3 + x4))) 1)))] [sl 0 a0] (fun Γ' hΓ => CoreE.of_y (ldeV_sound (t := 29) (o' := 0) (r := A v10) τ_ok hv11 (by kernel_rfl) (by kernel_rfl))) (hL trivial) ?_
 obtain ⟨v12, hv13, h⟩ := bindS h
 refine qX (some 49) (I v12) 220 [(49, I v12), (0, rf 0 0 1 a0), (1, I a1), (4, .fn g4 c4), (10, I x3), (11, I x4), (12, I (w64 (shrU (u64 (w64 (x3 + x4))) 1)))] [sl 0 a0] (fun Γ' hΓ => CoreE.of_g (callV_sound (τ := τ) (by kernel_rfl) (frz_app (xs := [A v8, A v10]) rfl hz4) (hp4 _ _ _ hv13) (FzTo.frz rfl))) trivial ?_
 refine qvn [] trivial 1 220 [(0, rf 0 0 1 a0), (1, I a1), (4, .fn g4 c4), (10, I x3), (11, I x4), (12, I (w64 (shrU (u64 (w64 (x3 + x4))) 1))), (50, B (decide (v12 < 0)))] [sl 0 a0] ?_
 refine pc h (fun h => ?_) (fun h => ?_)
 refine rve 220 [(0, rf 0 0 1 a0), (1, I a1), (4, .fn g4 c4), (10, I (w64 ((w64 (shrU (u64 (w64 (x3 + x4))) 1)) + 1))), (11, I x4)] [sl 0 a0] ?_
 exact ⟨(f5, (w64 ((w64 (shrU (u64 (w64 (x3 + x4))) 1)) + 1)), x4), h, Nat.lt_succ_self _, it [0, 1, 4, 10, 11]⟩
 refine rve 220 [(0, rf 0 0 1 a0), (1, I a1), (4, .fn g4 c4), (10, I x3), (11, I (w64 (shrU (u64 (w64 (x3 + x4))) 1)))] [sl 0 a0] ?_
 exact ⟨(f5, x3, (w64 (shrU (u64 (w64 (x3 + x4))) 1))), h, Nat.lt_succ_self _, it [0, 1, 4, 10, 11]⟩
 refine pwp_exit ?_
 refine pwp_seq ?_
 refine srve 220 [(0, rf 0 0 1 a0), (10, I x3), (13, I a1)] [sl 0 a0] ?_
 refine pwp_block ?_
 refine pwp_loop (ι := Nat × Int × (List (List T_impl_Value))) (fun (f18, x16, x17) => (⟨220, [(0, rf 0 0 1 x17), (10, I x3), (13, I x16)], [sl 0 x17]⟩ : St)) (fun (f18, x16, x17) => slices_symMergeCmpFunc_impl_Value_l1 x3 f18 x16 x17 = some y) Prod.fst (FUEL, a1, a0) h (it [0, 10, 13]) ?_
 rintro ⟨f18, x16, x17⟩ h
 dsimp only at h ⊢
 rcases f18 with _ | f18
 cases h
 rw [slices_symMergeCmpFunc_impl_Value_l1] at h
 refine pwp_seq ?_
 refine srve 220 [(0, rf 0 0 1 x17), (10, I x3), (13, I x16), (58, B (decide (x16 < (w64 (x3 - 1)))))] [sl 0 x17] ?_
 refine pc h (fun h => ?_) (fun h => ?_)
 refine pwp_skip ?_
 refine pwp_seq ?_
 refine pwp_block ?_
 refine ip 220 [(0, rf 0 0 1 x17), (10, I x3), (13, I x16)] [sl 0 x17] ?_
 refine pwp_any ([[], [], [], [], [], [], [], [], [0], [0], [], [], [0], [0], [0], [0], [0], [0]]) ([[], [], [], [], [], [], [], [], [], [], [], [], [], [], [], [0], [], [0]]) rfl (by kernel_rfl) ?_
 refine qA_mv (⟨220, [(61, rf 0 0 1 x17), (0, rf 0 0 1 x17), (10, I x3), (13, I x16)], [sl 0 x17]⟩) (by kernel_rfl) rfl ?_
 refine qv [] trivial 1 220 [(62, I x16), (61, rf 0 0 1 x17), (0, rf 0 0 1 x17), (10, I x3), (13, I x16)] [sl 0 x17] ?_
 refine qA_mv (⟨220, [(63, rf 0 0 1 x17), (62, I x16), (61, rf 0 0 1 x17), (0, rf 0 0 1 x17), (10, I x3), (13, I x16)], [sl 0 x17]⟩) (by kernel_rfl) rfl ?_
 refine qv [] trivial 2 220 [(65, I (w64 (x16 + 1))), (63, rf 0 0 1 x17), (62, I x16), (61, rf 0 0 1 x17), (0, rf 0 0 1 x17), (10, I x3), (13, I x16)] [sl 0 x17] ?_
 refine qA_mv (⟨220, [(66, rf 0 0 1 x17), (65, I (w64 (x16 + 1))), (63, rf 0 0 1 x17), (62, I x16), (61, rf 0 0 1 x17), (0, rf 0 0 1 x17), (10, I x3), (13, I x16)], [sl 0 x17]⟩) (by kernel_rfl) rfl ?_
 refine qv [] trivial 2 220 [(68, I (w64 (x16 + 1))), (66, rf 0 0 1 x17), (65, I (w64 (x16 + 1))), (63, rf 0 0 1 x17), (62, I x16), (61, rf 0 0 1 x17), (0, rf 0 0 1 x17), (10, I x3), (13, I x16)] [sl 0 x17] ?_
 obtain ⟨v21, hv22, h⟩ := bindS h
 refine qX (some 69) (.ptr 0 0 ((w64 (x16 + 1)).toNat * 1)) 220 [(69, .ptr 0 0 ((w64 (x16 + 1)).toNat * 1)), (65, I (w64 (x16 + 1))), (63, rf 0 0 1 x17), (62, I x16), (61, rf 0 0 1 x17), (0, rf 0 0 1 x17), (10, I x3), (13, I x16)] [sl 0 x17] (fun Γ' hΓ => CoreE.of_y (idrV_sound (n := x17.length) τ_ok (by kernel_rfl) hv22 rfl)) (hL trivial) ?_
 refine qX (some 70) (A v21) 220 [(70, A v21), (65, I (w64 (x16 + 1))), (63, rf 0 0 1 x17), (62, I x16), (61, rf 0 0 1 x17), (0, rf 0 0 1 x17), (10, I x3), (13, I x16)] [sl 0 x17] (fun Γ' hΓ => CoreE.of_y (ldeV_sound (t := 29) (o' := 0) (r := A v21) τ_ok hv22 (by kernel_rfl) (by kernel_rfl))) (hL trivial) ?_
 refine qA_mv (⟨220, [(71, rf 0 0 1 x17), (70, A v21), (65, I (w64 (x16 + 1))), (63, rf 0 0 1 x17), (62, I x16), (61, rf 0 0 1 x17), (0, rf 0 0 1 x17), (10, I x3), (13, I x16)], [sl 0 x17]⟩) (by kernel_rfl) rfl ?_
 refine qv [] trivial 1 220 [(72, I x16), (71, rf 0 0 1 x17), (70, A v21), (65, I (w64 (x16 + 1))), (63, rf 0 0 1 x17), (62, I x16), (61, rf 0 0 1 x17), (0, rf 0 0 1 x17), (10, I x3), (13, I x16)] [sl 0 x17] ?_
 obtain ⟨v23, hv24, h⟩ := bindS h
 refine qX (some 73) (.ptr 0 0 (x16.toNat * 1)) 220 [(73, .ptr 0 0 (x16.toNat * 1)), (70, A v21), (65, I (w64 (x16 + 1))), (63, rf 0 0 1 x17), (62, I x16), (61, rf 0 0 1 x17), (0, rf 0 0 1 x17), (10, I x3), (13, I x16)] [sl 0 x17] (fun Γ' hΓ => CoreE.of_y (idrV_sound (n := x17.length) τ_ok (by kernel_rfl) hv24 rfl)) (hL trivial) ?_
 refine qX (some 74) (A v23) 220 [(74, A v23), (70, A v21), (65, I (w64 (x16 + 1))), (63, rf 0 0 1 x17), (62, I x16), (61, rf 0 0 1 x17), (0, rf 0 0 1 x17), (10, I x3), (13, I x16)] [sl 0 x17] (fun Γ' hΓ => CoreE.of_y (ldeV_sound (t := 29) (o' := 0) (r := A v23) τ_ok hv24 (by kernel_rfl) (by kernel_rfl))) (hL trivial) ?_
 obtain ⟨v25, hv26, h⟩ := bindS h
 refine qX (some 75) (.ptr 0 0 (x16.toNat * 1)) 220 [(75, .ptr 0 0 (x16.toNat * 1)), (74, A v23), (70, A v21), (65, I (w64 (x16 + 1))), (63, rf 0 0 1 x17), (0, rf 0 0 1 x17), (10, I x3), (13, I x16)] [sl 0 x17] (fun Γ' hΓ => CoreE.of_y (idrV_sound (n := x17.length) τ_ok (by kernel_rfl) hv26 rfl)) (hL trivial) ?_
 refine qX none (.any) 220 [(74, A v23), (65, I (w64 (x16 + 1))), (63, rf 0 0 1 x17), (0, rf 0 0 1 x17), (10, I x3), (13, I x16)] [some ⟨0, eL (x17.set x16.toNat v21)⟩] (fun Γ' hΓ => ste_E (vs := [A v21]) τ_ok 29 0 0 0 v21 hv26 (by kernel_rfl) (by kernel_rfl) (by kernel_rfl)) (hL trivial) ?_
 refine qA_ren (st' := ⟨220, [(74, A v23), (65, I (w64 (x16 + 1))), (63, .ref 0 0 0 1 (x17.set x16.toNat v21).length false), (0, .ref 0 0 0 1 (x17.set x16.toNat v21).length false), (10, I x3), (13, I x16)], [some ⟨0, eL (x17.set x16.toNat v21)⟩]⟩) 0 (x17.set x16.toNat v21).length (renC trivial (renC trivial (renC (ren_ref (List.length_set ..).symm) (renC (ren_ref (List.length_set ..).symm) (renC trivial (renC trivial renC0)))))) (by kernel_rfl) ?_
 obtain ⟨v27, hv28, h⟩ := bindS h
 refine qX (some 76) (.ptr 0 0 ((w64 (x16 + 1)).toNat * 1)) 220 [(76, .ptr 0 0 ((w64 (x16 + 1)).toNat * 1)), (74, A v23), (0, .ref 0 0 0 1 (x17.set x16.toNat v21).length false), (10, I x3), (13, I x16)] [some ⟨0, eL (x17.set x16.toNat v21)⟩] (fun Γ' hΓ => CoreE.of_y (idrV_sound (n := (x17.set x16.toNat v21).length) τ_ok (by kernel_rfl) hv28 rfl)) (hL trivial) ?_
 refine qX none (.any) 220 [(0, .ref 0 0 0 1 (x17.set x16.toNat v21).length false), (10, I x3), (13, I x16)] [some ⟨0, eL ((x17.set x16.toNat v21).set (w64 (x16 + 1)).toNat v23)⟩] (fun Γ' hΓ => ste_E (vs := [A v23]) τ_ok 29 0 0 0 v23 hv28 (by kernel_rfl) (by kernel_rfl) (by kernel_rfl)) (hL trivial) ?_
 refine qA_ren (st' := ⟨220, [(0, .ref 0 0 0 1 ((x17.set x16.toNat v21).set (w64 (x16 + 1)).toNat v23).length false), (10, I x3), (13, I x16)], [some ⟨0, eL ((x17.set x16.toNat v21).set (w64 (x16 + 1)).toNat v23)⟩]⟩) 0 ((x17.set x16.toNat v21).set (w64 (x16 + 1)).toNat v23).length (renC (ren_ref (List.length_set ..).symm) (renC trivial (renC trivial renC0))) (by kernel_rfl) ?_
 refine qn 220 [(0, .ref 0 0 0 1 ((x17.set x16.toNat v21).set (w64 (x16 + 1)).toNat v23).length false), (10, I x3), (13, I x16)] [some ⟨0, eL ((x17.set x16.toNat v21).set (w64 (x16 + 1)).toNat v23)⟩] ?_
 refine rve 220 [(0, .ref 0 0 0 1 ((x17.set x16.toNat v21).set (w64 (x16 + 1)).toNat v23).length false), (10, I x3), (13, I (w64 (x16 + 1)))] [some ⟨0, eL ((x17.set x16.toNat v21).set (w64 (x16 + 1)).toNat v23)⟩] ?_
 exact ⟨(f18, (w64 (x16 + 1)), ((x17.set x16.toNat v21).set (w64 (x16 + 1)).toNat v23)), h, Nat.lt_succ_self _, it [0, 10, 13]⟩
 refine pwp_exit ?_
 have h := si h
 subst h
 first | exact ⟨.inl rfl, .tup [], _, 0, by kernel_rfl, (OutP.tup (OutL.nil _)), by decide, by decide, by kernel_rfl⟩ | exact pwp_ret ⟨.inr rfl, .tup [], _, 0, by kernel_rfl, (OutP.tup (OutL.nil _)), by decide, by decide, by kernel_rfl⟩
 refine pwp_skip ?_
 refine pwp_seq ?_
 refine srve 220 [(0, rf 0 0 1 a0), (1, I a1), (2, I a2), (3, I a3), (4, .fn g4 c4), (80, B ((w64 (a3 - a2)) == 1))] [sl 0 a0] ?_
 refine pc h (fun h => ?_) (fun h => ?_)
 refine srve 220 [(0, rf 0 0 1 a0), (2, I a2), (4, .fn g4 c4), (14, I a1)] [sl 0 a0] ?_
 refine srve 220 [(0, rf 0 0 1 a0), (2, I a2), (4, .fn g4 c4), (14, I a1), (15, I a2)] [sl 0 a0] ?_
 refine pwp_seq ?_
 refine pwp_block ?_
 refine pwp_loop (ι := Nat × Int × Int) (fun (f33, x31, x32) => (⟨220, [(0, rf 0 0 1 a0), (2, I a2), (4, .fn g4 c4), (14, I x31), (15, I x32)], [sl 0 a0]⟩ : St)) (fun (f33, x31, x32) => slices_symMergeCmpFunc_impl_Value_l2 a0 a2 a4 f33 x31 x32 = some y) Prod.fst (FUEL, a1, a2) h (it [0, 2, 4, 14, 15]) ?_
 rintro ⟨f33, x31, x32⟩ h
 dsimp only at h ⊢
 rcases f33 with _ | f33
 cases h
 rw [slices_symMergeCmpFunc_impl_Value_l2] at h
 refine pwp_seq ?_
 refine srve 220 [(0, rf 0 0 1 a0), (2, I a2), (4, .fn g4 c4), (14, I x31), (15, I x32), (85, B (decide (x31 < x32)))] [sl 0 a0] ?_
 refine pc h (fun h => ?_) (fun h => ?_)
 refine pwp_skip ?_
 refine pwp_block ?_
 refine srve 220 [(0, rf 0 0 1 a0), (2, I a2), (4, .fn g4 c4), (14, I x31), (15, I x32), (16, I (w64 (shrU (u64 (w64 (x31 + x32))) 1)))] [sl 0 a0] ?_
 refine pwp_seq ?_
 refine ip 220 [(0, rf 0 0 1 a0), (2, I a2), (4, .fn g4 c4), (14, I x31), (15, I x32), (16, I (w64 (shrU (u64 (w64 (x31 + x32))) 1)))] [sl 0 a0] ?_
 refine pwp_any ([[], [0], [], [0], [0], [0], [], [0], [0], [], [], []]) ([[], [], [], [], [], [], [], [], [], [], [], []]) rfl (by kernel_rfl) ?_
 refine qA_mv (⟨220, [(92, .fn g4 c4), (0, rf 0 0 1 a0), (2, I a2), (4, .fn g4 c4), (14, I x31), (15, I x32), (16, I (w64 (shrU (u64 (w64 (x31 + x32))) 1)))], [sl 0 a0]⟩) (by kernel_rfl) rfl ?_
 refine qv [0] (hL trivial) 1 220 [(93, rf 0 0 1 a0), (92, .fn g4 c4), (0, rf 0 0 1 a0), (2, I a2), (4, .fn g4 c4), (14, I x31), (15, I x32), (16, I (w64 (shrU (u64 (w64 (x31 + x32))) 1)))] [sl 0 a0] ?_
 refine qv [] trivial 1 220 [(94, I a2), (93, rf 0 0 1 a0), (92, .fn g4 c4), (0, rf 0 0 1 a0), (2, I a2), (4, .fn g4 c4), (14, I x31), (15, I x32), (16, I (w64 (shrU (u64 (w64 (x31 + x32))) 1)))] [sl 0 a0] ?_
 obtain ⟨v36, hv37, h⟩ := bindS h
 refine qX (some 95) (.ptr 0 0 (a2.toNat * 1)) 220 [(95, .ptr 0 0 (a2.toNat * 1)), (92, .fn g4 c4), (0, rf 0 0 1 a0), (2, I a2), (4, .fn g4 c4), (14, I x31), (15, I x32), (16, I (w64 (shrU (u64 (w64 (x31 + x32))) 1)))] [sl 0 a0] (fun Γ' hΓ => CoreE.of_y (idrV_sound (n := a0.length) τ_ok (by kernel_rfl) hv37 rfl)) (hL trivial) ?_
 refine qX (some 96) (A v36) 220 [(96, A v36), (92, .fn g4 c4), (0, rf 0 0 1 a0), (2, I a2), (4, .fn g4 c4), (14, I x31), (15, I x32), (16, I (w64 (shrU (u64 (w64 (x31 + x32))) 1)))] [sl 0 a0] (fun Γ' hΓ => CoreE.of_y (ldeV_sound (t := 29) (o' := 0) (r := A v36) τ_ok hv37 (by kernel_rfl) (by kernel_rfl))) (hL trivial) ?_
 refine qv [0] (hL trivial) 1 220 [(97, rf 0 0 1 a0), (96, A v36), (92, .fn g4 c4), (0, rf 0 0 1 a0), (2, I a2), (4, .fn g4 c4), (14, I x31), (15, I x32), (16, I (w64 (shrU (u64 (w64 (x31 + x32))) 1)))] [sl 0 a0] ?_
 refine qv [] trivial 1 220 [(98, I (w64 (shrU (u64 (w64 (x31 + x32))) 1))), (97, rf 0 0 1 a0), (96, A v36), (92, .fn g4 c4), (0, rf 0 0 1 a0), (2, I a2), (4, .fn g4 c4), (14, I x31), (15, I x32), (16, I (w64 (shrU (u64 (w64 (x31 + x32))) 1)))] [sl 0 a0] ?_
 obtain ⟨v38, hv39, h⟩ := bindS h
 refine qX (some 99) (.ptr 0 0 ((w64 (shrU (u64 (w64 (x31 + x32))) 1)).toNat * 1)) 220 [(99, .ptr 0 0 ((w64 (shrU (u64 (w64 (x31 + x32))) 1)).toNat * 1)), (96, A v36), (92, .fn g4 c4), (0, rf 0 0 1 a0), (2, I a2), (4, .fn g4 c4), (14, I x31), (15, I x32), (16, I (w64 (shrU (u64 (w64 (x31 + x32))) 1)))] [sl 0 a0] (fun Γ' hΓ => CoreE.of_y (idrV_sound (n := a0.length) τ_ok (by kernel_rfl) hv39 rfl)) (hL trivial) ?_
 refine qX (some 100) (A v38) 220 [(100, A v38), (96, A v36), (92, .fn g4 c4), (0, rf 0 0 1 a0), (2, I a2), (4, .fn g4 c4), (14, I x31), (15, I x32), (16, I (w64 (shrU (u64 (w64 (x31 + x32))) 1)))] [sl 0 a0] (fun Γ' hΓ => CoreE.of_y (ldeV_sound (t := 29) (o' := 0) (r := A v38) τ_ok hv39 (by kernel_rfl) (by kernel_rfl))) (hL trivial) ?_
 obtain ⟨v40, hv41, h⟩ := bindS h
 refine qX (some 101) (I v40) 220 [(101, I v40), (0, rf 0 0 1 a0), (2, I a2), (4, .fn g4 c4), (14, I x31), (15, I x32), (16, I (w64 (shrU (u64 (w64 (x31 + x32))) 1)))] [sl 0 a0] (fun Γ' hΓ => CoreE.of_g (callV_sound (τ := τ) (by kernel_rfl) (frz_app (xs := [A v36, A v38]) rfl hz4) (hp4 _ _ _ hv41) (FzTo.frz rfl))) trivial ?_
 refine qvn [] trivial 2 220 [(0, rf 0 0 1 a0), (2, I a2), (4, .fn g4 c4), (14, I x31), (15, I x32), (16, I (w64 (shrU (u64 (w64 (x31 + x32))) 1))), (103, B (!(decide (v40 < 0))))] [sl 0 a0] ?_
 refine pc h (fun h => ?_) (fun h => ?_)
 refine rve 220 [(0, rf 0 0 1 a0), (2, I a2), (4, .fn g4 c4), (14, I (w64 ((w64 (shrU (u64 (w64 (x31 + x32))) 1)) + 1))), (15, I x32)] [sl 0 a0] ?_
 exact ⟨(f33, (w64 ((w64 (shrU (u64 (w64 (x31 + x32))) 1)) + 1)), x32), h, Nat.lt_succ_self _, it [0, 2, 4, 14, 15]⟩
 refine rve 220 [(0, rf 0 0 1 a0), (2, I a2), (4, .fn g4 c4), (14, I x31), (15, I (w64 (shrU (u64 (w64 (x31 + x32))) 1)))] [sl 0 a0] ?_
 exact ⟨(f33, x31, (w64 (shrU (u64 (w64 (x31 + x32))) 1))), h, Nat.lt_succ_self _, it [0, 2, 4, 14, 15]⟩
 refine pwp_exit ?_
 refine pwp_seq ?_
 refine srve 220 [(0, rf 0 0 1 a0), (14, I x31), (17, I a2)] [sl 0 a0] ?_
 refine pwp_block ?_
 refine pwp_loop (ι := Nat × Int × (List (List T_impl_Value))) (fun (f46, x44, x45) => (⟨220, [(0, rf 0 0 1 x45), (14, I x31), (17, I x44)], [sl 0 x45]⟩ : St)) (fun (f46, x44, x45) => slices_symMergeCmpFunc_impl_Value_l3 x31 f46 x44 x45 = some y) Prod.fst (FUEL, a2, a0) h (it [0, 14, 17]) ?_
 rintro ⟨f46, x44, x45⟩ h
 dsimp only at h ⊢
 rcases f46 with _ | f46
 cases h
 rw [slices_symMergeCmpFunc_impl_Value_l3] at h
 refine pwp_seq ?_
 refine srve 220 [(0, rf 0 0 1 x45), (14, I x31), (17, I x44), (110, B (decide (x44 > x31)))] [sl 0 x45] ?_
 refine pc h (fun h => ?_) (fun h => ?_)
 refine pwp_skip ?_
 refine pwp_seq ?_
 refine pwp_block ?_
 refine ip 220 [(0, rf 0 0 1 x45), (14, I x31), (17, I x44)] [sl 0 x45] ?_
 refine pwp_any ([[], [], [], [], [], [], [], [], [0], [0], [], [], [0], [0], [0], [0], [0], [0]]) ([[], [], [], [], [], [], [], [], [], [], [], [], [], [], [], [0], [], [0]]) rfl (by kernel_rfl) ?_
 refine qA_mv (⟨220, [(113, rf 0 0 1 x45), (0, rf 0 0 1 x45), (14, I x31), (17, I x44)], [sl 0 x45]⟩) (by kernel_rfl) rfl ?_
 refine qv [] trivial 1 220 [(114, I x44), (113, rf 0 0 1 x45), (0, rf 0 0 1 x45), (14, I x31), (17, I x44)] [sl 0 x45] ?_
 refine qA_mv (⟨220, [(115, rf 0 0 1 x45), (114, I x44), (113, rf 0 0 1 x45), (0, rf 0 0 1 x45), (14, I x31), (17, I x44)], [sl 0 x45]⟩) (by kernel_rfl) rfl ?_
 refine qv [] trivial 2 220 [(117, I (w64 (x44 - 1))), (115, rf 0 0 1 x45), (114, I x44), (113, rf 0 0 1 x45), (0, rf 0 0 1 x45), (14, I x31), (17, I x44)] [sl 0 x45] ?_
 refine qA_mv (⟨220, [(118, rf 0 0 1 x45), (117, I (w64 (x44 - 1))), (115, rf 0 0 1 x45), (114, I x44), (113, rf 0 0 1 x45), (0, rf 0 0 1 x45), (14, I x31), (17, I x44)], [sl 0 x45]⟩) (by kernel_rfl) rfl ?_
 refine qv [] trivial 2 220 [(120, I (w64 (x44 - 1))), (118, rf 0 0 1 x45), (117, I (w64 (x44 - 1))), (115, rf 0 0 1 x45), (114, I x44), (113, rf 0 0 1 x45), (0, rf 0 0 1 x45), (14, I x31), (17, I x44)] [sl 0 x45] ?_
 obtain ⟨v49, hv50, h⟩ := bindS h
 refine qX (some 121) (.ptr 0 0 ((w64 (x44 - 1)).toNat * 1)) 220 [(121, .ptr 0 0 ((w64 (x44 - 1)).toNat * 1)), (117, I (w64 (x44 - 1))), (115, rf 0 0 1 x45), (114, I x44), (113, rf 0 0 1 x45), (0, rf 0 0 1 x45), (14, I x31), (17, I x44)] [sl 0 x45] (fun Γ' hΓ => CoreE.of_y (idrV_sound (n := x45.length) τ_ok (by kernel_rfl) hv50 rfl)) (hL trivial) ?_
 refine qX (some 122) (A v49) 220 [(122, A v49), (117, I (w64 (x44 - 1))), (115, rf 0 0 1 x45), (114, I x44), (113, rf 0 0 1 x45), (0, rf 0 0 1 x45), (14, I x31), (17, I x44)] [sl 0 x45] (fun Γ' hΓ => CoreE.of_y (ldeV_sound (t := 29) (o' := 0) (r := A v49) τ_ok hv50 (by kernel_rfl) (by kernel_rfl))) (hL trivial) ?_
 refine qA_mv (⟨220, [(123, rf 0 0 1 x45), (122, A v49), (117, I (w64 (x44 - 1))), (115, rf 0 0 1 x45), (114, I x44), (113, rf 0 0 1 x45), (0, rf 0 0 1 x45), (14, I x31), (17, I x44)], [sl 0 x45]⟩) (by kernel_rfl) rfl ?_
 refine qv [] trivial 1 220 [(124, I x44), (123, rf 0 0 1 x45), (122, A v49), (117, I (w64 (x44 - 1))), (115, rf 0 0 1 x45), (114, I x44), (113, rf 0 0 1 x45), (0, rf 0 0 1 x45), (14, I x31), (17, I x44)] [sl 0 x45] ?_
 obtain ⟨v51, hv52, h⟩ := bindS h
 refine qX (some 125) (.ptr 0 0 (x44.toNat * 1)) 220 [(125, .ptr 0 0 (x44.toNat * 1)), (122, A v49), (117, I (w64 (x44 - 1))), (115, rf 0 0 1 x45), (114, I x44), (113, rf 0 0 1 x45), (0, rf 0 0 1 x45), (14, I x31), (17, I x44)] [sl 0 x45] (fun Γ' hΓ => CoreE.of_y (idrV_sound (n := x45.length) τ_ok (by kernel_rfl) hv52 rfl)) (hL trivial) ?_
 refine qX (some 126) (A v51) 220 [(126, A v51), (122, A v49), (117, I (w64 (x44 - 1))), (115, rf 0 0 1 x45), (114, I x44), (113, rf 0 0 1 x45), (0, rf 0 0 1 x45), (14, I x31), (17, I x44)] [sl 0 x45] (fun Γ' hΓ => CoreE.of_y (ldeV_sound (t := 29) (o' := 0) (r := A v51) τ_ok hv52 (by kernel_rfl) (by kernel_rfl))) (hL trivial) ?_
 obtain ⟨v53, hv54, h⟩ := bindS h
 refine qX (some 127) (.ptr 0 0 (x44.toNat * 1)) 220 [(127, .ptr 0 0 (x44.toNat * 1)), (126, A v51), (122, A v49), (117, I (w64 (x44 - 1))), (115, rf 0 0 1 x45), (0, rf 0 0 1 x45), (14, I x31), (17, I x44)] [sl 0 x45] (fun Γ' hΓ => CoreE.of_y (idrV_sound (n := x45.length) τ_ok (by kernel_rfl) hv54 rfl)) (hL trivial) ?_
 refine qX none (.any) 220 [(126, A v51), (117, I (w64 (x44 - 1))), (115, rf 0 0 1 x45), (0, rf 0 0 1 x45), (14, I x31), (17, I x44)] [some ⟨0, eL (x45.set x44.toNat v49)⟩] (fun Γ' hΓ => ste_E (vs := [A v49]) τ_ok 29 0 0 0 v49 hv54 (by kernel_rfl) (by kernel_rfl) (by kernel_rfl)) (hL trivial) ?_
 refine qA_ren (st' := ⟨220, [(126, A v51), (117, I (w64 (x44 - 1))), (115, .ref 0 0 0 1 (x45.set x44.toNat v49).length false), (0, .ref 0 0 0 1 (x45.set x44.toNat v49).length false), (14, I x31), (17, I x44)], [some ⟨0, eL (x45.set x44.toNat v49)⟩]⟩) 0 (x45.set x44.toNat v49).length (renC trivial (renC trivial (renC (ren_ref (List.length_set ..).symm) (renC (ren_ref (List.length_set ..).symm) (renC trivial (renC trivial renC0)))))) (by kernel_rfl) ?_
 obtain ⟨v55, hv56, h⟩ := bindS h
 refine qX (some 128) (.ptr 0 0 ((w64 (x44 - 1)).toNat * 1)) 220 [(128, .ptr 0 0 ((w64 (x44 - 1)).toNat * 1)), (126, A v51), (0, .ref 0 0 0 1 (x45.set x44.toNat v49).length false), (14, I x31), (17, I x44)] [some ⟨0, eL (x45.set x44.toNat v49)⟩] (fun Γ' hΓ => CoreE.of_y (idrV_sound (n := (x45.set x44.toNat v49).length) τ_ok (by kernel_rfl) hv56 rfl)) (hL trivial) ?_
 refine qX none (.any) 220 [(0, .ref 0 0 0 1 (x45.set x44.toNat v49).length false), (14, I x31), (17, I x44)] [some ⟨0, eL ((x45.set x44.toNat v49).set (w64 (x44 - 1)).toNat v51)⟩] (fun Γ' hΓ => ste_E (vs := [A v51]) τ_ok 29 0 0 0 v51 hv56 (by kernel_rfl) (by kernel_rfl) (by kernel_rfl)) (hL trivial) ?_
 refine qA_ren (st' := ⟨220, [(0, .ref 0 0 0 1 ((x45.set x44.toNat v49).set (w64 (x44 - 1)).toNat v51).length false), (14, I x31), (17, I x44)], [some ⟨0, eL ((x45.set x44.toNat v49).set (w64 (x44 - 1)).toNat v51)⟩]⟩) 0 ((x45.set x44.toNat v49).set (w64 (x44 - 1)).toNat v51).length (renC (ren_ref (List.length_set ..).symm) (renC trivial (renC trivial renC0))) (by kernel_rfl) ?_
 refine qn 220 [(0, .ref 0 0 0 1 ((x45.set x44.toNat v49).set (w64 (x44 - 1)).toNat v51).length false), (14, I x31), (17, I x44)] [some ⟨0, eL ((x45.set x44.toNat v49).set (w64 (x44 - 1)).toNat v51)⟩] ?_
 refine rve 220 [(0, .ref 0 0 0 1 ((x45.set x44.toNat v49).set (w64 (x44 - 1)).toNat v51).length false), (14, I x31), (17, I (w64 (x44 - 1)))] [some ⟨0, eL ((x45.set x44.toNat v49).set (w64 (x44 - 1)).toNat v51)⟩] ?_
 exact ⟨(f46, (w64 (x44 - 1)), ((x45.set x44.toNat v49).set (w64 (x44 - 1)).toNat v51)), h, Nat.lt_succ_self _, it [0, 14, 17]⟩
 refine pwp_exit ?_
 have h := si h
 subst h
 first | exact ⟨.inl rfl, .tup [], _, 0, by kernel_rfl, (OutP.tup (OutL.nil _)), by decide, by decide, by kernel_rfl⟩ | exact pwp_ret ⟨.inr rfl, .tup [], _, 0, by kernel_rfl, (OutP.tup (OutL.nil _)), by decide, by decide, by kernel_rfl⟩
 refine pwp_skip ?_
 refine srve 220 [(0, rf 0 0 1 a0), (1, I a1), (2, I a2), (3, I a3), (4, .fn g4 c4), (18, I (w64 (shrU (u64 (w64 (a1 + a3))) 1)))] [sl 0 a0] ?_
 refine srve 220 [(0, rf 0 0 1 a0), (1, I a1), (2, I a2), (3, I a3), (4, .fn g4 c4), (18, I (w64 (shrU (u64 (w64 (a1 + a3))) 1))), (19, I (w64 ((w64 (shrU (u64 (w64 (a1 + a3))) 1)) + a2)))] [sl 0 a0] ?_
 refine srve 220 [(0, rf 0 0 1 a0), (1, I a1), (2, I a2), (3, I a3), (4, .fn g4 c4), (18, I (w64 (shrU (u64 (w64 (a1 + a3))) 1))), (19, I (w64 ((w64 (shrU (u64 (w64 (a1 + a3))) 1)) + a2)))] [sl 0 a0] ?_
 refine pwp_seq ?_
 refine pwp_join (σ := Int × Int) (fun (x57, x58) => (⟨220, [(0, rf 0 0 1 a0), (1, I a1), (2, I a2), (3, I a3), (4, .fn g4 c4), (18, I (w64 (shrU (u64 (w64 (a1 + a3))) 1))), (19, I (w64 ((w64 (shrU (u64 (w64 (a1 + a3))) 1)) + a2))), (20, I x57), (21, I x58)], [sl 0 a0]⟩ : St)) (fun (x57, x58) => slices_symMergeCmpFunc_impl_Value_j4 rec0 a0 a1 a2 a3 a4 x57 x58 = some y) ?_ ?_
 refine srve 220 [(0, rf 0 0 1 a0), (1, I a1), (2, I a2), (3, I a3), (4, .fn g4 c4), (18, I (w64 (shrU (u64 (w64 (a1 + a3))) 1))), (19, I (w64 ((w64 (shrU (u64 (w64 (a1 + a3))) 1)) + a2))), (140, B (decide (a2 > (w64 (shrU (u64 (w64 (a1 + a3))) 1)))))] [sl 0 a0] ?_
 refine pc h (fun h => ?_) (fun h => ?_)
 refine srve 220 [(0, rf 0 0 1 a0), (1, I a1), (2, I a2), (3, I a3), (4, .fn g4 c4), (18, I (w64 (shrU (u64 (w64 (a1 + a3))) 1))), (19, I (w64 ((w64 (shrU (u64 (w64 (a1 + a3))) 1)) + a2))), (20, I (w64 ((w64 ((w64 (shrU (u64 (w64 (a1 + a3))) 1)) + a2)) - a3)))] [sl 0 a0] ?_
 refine rve 220 [(0, rf 0 0 1 a0), (1, I a1), (2, I a2), (3, I a3), (4, .fn g4 c4), (18, I (w64 (shrU (u64 (w64 (a1 + a3))) 1))), (19, I (w64 ((w64 (shrU (u64 (w64 (a1 + a3))) 1)) + a2))), (20, I (w64 ((w64 ((w64 (shrU (u64 (w64 (a1 + a3))) 1)) + a2)) - a3))), (21, I (w64 (shrU (u64 (w64 (a1 + a3))) 1)))] [sl 0 a0] ?_
 exact ⟨((w64 ((w64 ((w64 (shrU (u64 (w64 (a1 + a3))) 1)) + a2)) - a3)), (w64 (shrU (u64 (w64 (a1 + a3))) 1))), h, it [0, 1, 2, 3, 4, 18, 19, 20, 21]⟩
 refine srve 220 [(0, rf 0 0 1 a0), (1, I a1), (2, I a2), (3, I a3), (4, .fn g4 c4), (18, I (w64 (shrU (u64 (w64 (a1 + a3))) 1))), (19, I (w64 ((w64 (shrU (u64 (w64 (a1 + a3))) 1)) + a2))), (20, I a1)] [sl 0 a0] ?_
 refine rve 220 [(0, rf 0 0 1 a0), (1, I a1), (2, I a2), (3, I a3), (4, .fn g4 c4), (18, I (w64 (shrU (u64 (w64 (a1 + a3))) 1))), (19, I (w64 ((w64 (shrU (u64 (w64 (a1 + a3))) 1)) + a2))), (20, I a1), (21, I a2)] [sl 0 a0] ?_
 exact ⟨(a1, a2), h, it [0, 1, 2, 3, 4, 18, 19, 20, 21]⟩
 rintro ⟨x57, x58⟩ h
 dsimp only at h ⊢
 unfold slices_symMergeCmpFunc_impl_Value_j4 at h
 refine srve 220 [(0, rf 0 0 1 a0), (1, I a1), (2, I a2), (3, I a3), (4, .fn g4 c4), (18, I (w64 (shrU (u64 (w64 (a1 + a3))) 1))), (19, I (w64 ((w64 (shrU (u64 (w64 (a1 + a3))) 1)) + a2))), (20, I x57), (21, I x58), (22, I (w64 ((w64 ((w64 (shrU (u64 (w64 (a1 + a3))) 1)) + a2)) - 1)))] [sl 0 a0] ?_
 refine pwp_seq ?_
 refine pwp_block ?_
 refine pwp_loop (ι := Nat × Int × Int) (fun (f62, x60, x61) => (⟨220, [(0, rf 0 0 1 a0), (1, I a1), (2, I a2), (3, I a3), (4, .fn g4 c4), (18, I (w64 (shrU (u64 (w64 (a1 + a3))) 1))), (19, I (w64 ((w64 (shrU (u64 (w64 (a1 + a3))) 1)) + a2))), (20, I x60), (21, I x61), (22, I (w64 ((w64 ((w64 (shrU (u64 (w64 (a1 + a3))) 1)) + a2)) - 1)))], [sl 0 a0]⟩ : St)) (fun (f62, x60, x61) => slices_symMergeCmpFunc_impl_Value_l5 rec0 a0 a1 a2 a3 a4 f62 x60 x61 = some y) Prod.fst (FUEL, x57, x58) h (it [0, 1, 2, 3, 4, 18, 19, 20, 21, 22]) ?_
 rintro ⟨f62, x60, x61⟩ h
 dsimp only at h ⊢
 rcases f62 with _ | f62
 cases h
 rw [slices_symMergeCmpFunc_impl_Value_l5] at h
 refine pwp_seq ?_
 refine srve 220 [(0, rf 0 0 1 a0), (1, I a1), (2, I a2), (3, I a3), (4, .fn g4 c4), (18, I (w64 (shrU (u64 (w64 (a1 + a3))) 1))), (19, I (w64 ((w64 (shrU (u64 (w64 (a1 + a3))) 1)) + a2))), (20, I x60), (21, I x61), (22, I (w64 ((w64 ((w64 (shrU (u64 (w64 (a1 + a3))) 1)) + a2)) - 1))), (151, B (decide (x60 < x61)))] [sl 0 a0] ?_
 refine pc h (fun h => ?_) (fun h => ?_)
 refine pwp_skip ?_
 refine pwp_block ?_
 refine srve 220 [(0, rf 0 0 1 a0), (1, I a1), (2, I a2), (3, I a3), (4, .fn g4 c4), (18, I (w64 (shrU (u64 (w64 (a1 + a3))) 1))), (19, I (w64 ((w64 (shrU (u64 (w64 (a1 + a3))) 1)) + a2))), (20, I x60), (21, I x61), (22, I (w64 ((w64 ((w64 (shrU (u64 (w64 (a1 + a3))) 1)) + a2)) - 1))), (23, I (w64 (shrU (u64 (w64 (x60 + x61))) 1)))] [sl 0 a0] ?_
 refine pwp_seq ?_
 refine ip 220 [(0, rf 0 0 1 a0), (1, I a1), (2, I a2), (3, I a3), (4, .fn g4 c4), (18, I (w64 (shrU (u64 (w64 (a1 + a3))) 1))), (19, I (w64 ((w64 (shrU (u64 (w64 (a1 + a3))) 1)) + a2))), (20, I x60), (21, I x61), (22, I (w64 ((w64 ((w64 (shrU (u64 (w64 (a1 + a3))) 1)) + a2)) - 1))), (23, I (w64 (shrU (u64 (w64 (x60 + x61))) 1)))] [sl 0 a0] ?_
 refine pwp_any ([[], [0], [], [], [], [0], [0], [0], [], [0], [0], [], [], []]) ([[], [], [], [], [], [], [], [], [], [], [], [], [], []]) rfl (by kernel_rfl) ?_
 refine qA_mv (⟨220, [(158, .fn g4 c4), (0, rf 0 0 1 a0), (1, I a1), (2, I a2), (3, I a3), (4, .fn g4 c4), (18, I (w64 (shrU (u64 (w64 (a1 + a3))) 1))), (19, I (w64 ((w64 (shrU (u64 (w64 (a1 + a3))) 1)) + a2))), (20, I x60), (21, I x61), (22, I (w64 ((w64 ((w64 (shrU (u64 (w64 (a1 + a3))) 1)) + a2)) - 1))), (23, I (w64 (shrU (u64 (w64 (x60 + x61))) 1)))], [sl 0 a0]⟩) (by kernel_rfl) rfl ?_
 refine qv [0] (hL trivial) 1 220 [(159, rf 0 0 1 a0), (158, .fn g4 c4), (0, rf 0 0 1 a0), (1, I a1), (2, I a2), (3, I a3), (4, .fn g4 c4), (18, I (w64 (shrU (u64 (w64 (a1 + a3))) 1))), (19, I (w64 ((w64 (shrU (u64 (w64 (a1 + a3))) 1)) + a2))), (20, I x60), (21, I x61), (22, I (w64 ((w64 ((w64 (shrU (u64 (w64 (a1 + a3))) 1)) + a2)) - 1))), (23, I (w64 (shrU (u64 (w64 (x60 + x61))) 1)))] [sl 0 a0] ?_
 refine qv [] trivial 3 220 [(162, I (w64 ((w64 ((w64 ((w64 (shrU (u64 (w64 (a1 + a3))) 1)) + a2)) - 1)) - (w64 (shrU (u64 (w64 (x60 + x61))) 1))))), (159, rf 0 0 1 a0), (158, .fn g4 c4), (0, rf 0 0 1 a0), (1, I a1), (2, I a2), (3, I a3), (4, .fn g4 c4), (18, I (w64 (shrU (u64 (w64 (a1 + a3))) 1))), (19, I (w64 ((w64 (shrU (u64 (w64 (a1 + a3))) 1)) + a2))), (20, I x60), (21, I x61), (22, I (w64 ((w64 ((w64 (shrU (u64 (w64 (a1 + a3))) 1)) + a2)) - 1))), (23, I (w64 (shrU (u64 (w64 (x60 + x61))) 1)))] [sl 0 a0] ?_
 obtain ⟨v65, hv66, h⟩ := bindS h
 refine qX (some 163) (.ptr 0 0 ((w64 ((w64 ((w64 ((w64 (shrU (u64 (w64 (a1 + a3))) 1)) + a2)) - 1)) - (w64 (shrU (u64 (w64 (x60 + x61))) 1)))).toNat * 1)) 220 [(163, .ptr 0 0 ((w64 ((w64 ((w64 ((w64 (shrU (u64 (w64 (a1 + a3))) 1)) + a2)) - 1)) - (w64 (shrU (u64 (w64 (x60 + x61))) 1)))).toNat * 1)), (158, .fn g4 c4), (0, rf 0 0 1 a0), (1, I a1), (2, I a2), (3, I a3), (4, .fn g4 c4), (18, I (w64 (shrU (u64 (w64 (a1 + a3))) 1))), (19, I (w64 ((w64 (shrU (u64 (w64 (a1 + a3))) 1)) + a2))), (20, I x60), (21, I x61), (22, I (w64 ((w64 ((w64 (shrU (u64 (w64 (a1 + a3))) 1)) + a2)) - 1))), (23, I (w64 (shrU (u64 (w64 (x60 + x61))) 1)))] [sl 0 a0] (fun Γ' hΓ => CoreE.of_y (idrV_sound (n := a0.length) τ_ok (by kernel_rfl) hv66 rfl)) (hL trivial) ?_
 refine qX (some 164) (A v65) 220 [(164, A v65), (158, .fn g4 c4), (0, rf 0 0 1 a0), (1, I a1), (2, I a2), (3, I a3), (4, .fn g4 c4), (18, I (w64 (shrU (u64 (w64 (a1 + a3))) 1))), (19, I (w64 ((w64 (shrU (u64 (w64 (a1 + a3))) 1)) + a2))), (20, I x60), (21, I x61), (22, I (w64 ((w64 ((w64 (shrU (u64 (w64 (a1 + a3))) 1)) + a2)) - 1))), (23, I (w64 (shrU (u64 (w64 (x60 + x61))) 1)))] [sl 0 a0] (fun Γ' hΓ => CoreE.of_y (ldeV_sound (t := 29) (o' := 0) (r := A v65) τ_ok hv66 (by kernel_rfl) (by kernel_rfl))) (hL trivial) ?_
 refine qv [0] (hL trivial) 1 220 [(165, rf 0 0 1 a0), (164, A v65), (158, .fn g4 c4), (0, rf 0 0 1 a0), (1, I a1), (2, I a2), (3, I a3), (4, .fn g4 c4), (18, I (w64 (shrU (u64 (w64 (a1 + a3))) 1))), (19, I (w64 ((w64 (shrU (u64 (w64 (a1 + a3))) 1)) + a2))), (20, I x60), (21, I x61), (22, I (w64 ((w64 ((w64 (shrU (u64 (w64 (a1 + a3))) 1)) + a2)) - 1))), (23, I (w64 (shrU (u64 (w64 (x60 + x61))) 1)))] [sl 0 a0] ?_
 refine qv [] trivial 1 220 [(166, I (w64 (shrU (u64 (w64 (x60 + x61))) 1))), (165, rf 0 0 1 a0), (164, A v65), (158, .fn g4 c4), (0, rf 0 0 1 a0), (1, I a1), (2, I a2), (3, I a3), (4, .fn g4 c4), (18, I (w64 (shrU (u64 (w64 (a1 + a3))) 1))), (19, I (w64 ((w64 (shrU (u64 (w64 (a1 + a3))) 1)) + a2))), (20, I x60), (21, I x61), (22, I (w64 ((w64 ((w64 (shrU (u64 (w64 (a1 + a3))) 1)) + a2)) - 1))), (23, I (w64 (shrU (u64 (w64 (x60 + x61))) 1)))] [sl 0 a0] ?_
 obtain ⟨v67, hv68, h⟩ := bindS h
 refine qX (some 167) (.ptr 0 0 ((w64 (shrU (u64 (w64 (x60 + x61))) 1)).toNat * 1)) 220 [(167, .ptr 0 0 ((w64 (shrU (u64 (w64 (x60 + x61))) 1)).toNat * 1)), (164, A v65), (158, .fn g4 c4), (0, rf 0 0 1 a0), (1, I a1), (2, I a2), (3, I a3), (4, .fn g4 c4), (18, I (w64 (shrU (u64 (w64 (a1 + a3))) 1))), (19, I (w64 ((w64 (shrU (u64 (w64 (a1 + a3))) 1)) + a2))), (20, I x60), (21, I x61), (22, I (w64 ((w64 ((w64 (shrU (u64 (w64 (a1 + a3))) 1)) + a2)) - 1))), (23, I (w64 (shrU (u64 (w64 (x60 + x61))) 1)))] [sl 0 a0] (fun Γ' hΓ => CoreE.of_y (idrV_sound (n := a0.length) τ_ok (by kernel_rfl) hv68 rfl)) (hL trivial) ?_
 refine qX (some 168) (A v67) 220 [(168, A v67), (164, A v65), (158, .fn g4 c4), (0, rf 0 0 1 a0), (1, I a1), (2, I a2), (3, I a3), (4, .fn g4 c4), (18, I (w64 (shrU (u64 (w64 (a1 + a3))) 1))), (19, I (w64 ((w64 (shrU (u64 (w64 (a1 + a3))) 1)) + a2))), (20, I x60), (21, I x61), (22, I (w64 ((w64 ((w64 (shrU (u64 (w64 (a1 + a3))) 1)) + a2)) - 1))), (23, I (w64 (shrU (u64 (w64 (x60 + x61))) 1)))] [sl 0 a0] (fun Γ' hΓ => CoreE.of_y (ldeV_sound (t := 29) (o' := 0) (r := A v67) τ_ok hv68 (by kernel_rfl) (by kernel_rfl))) (hL trivial) ?_
 obtain ⟨v69, hv70, h⟩ := bindS h
 refine qX (some 169) (I v69) 220 [(169, I v69), (0, rf 0 0 1 a0), (1, I a1), (2, I a2), (3, I a3), (4, .fn g4 c4), (18, I (w64 (shrU (u64 (w64 (a1 + a3))) 1))), (19, I (w64 ((w64 (shrU (u64 (w64 (a1 + a3))) 1)) + a2))), (20, I x60), (21, I x61), (22, I (w64 ((w64 ((w64 (shrU (u64 (w64 (a1 + a3))) 1)) + a2)) - 1))), (23, I (w64 (shrU (u64 (w64 (x60 + x61))) 1)))] [sl 0 a0] (fun Γ' hΓ => CoreE.of_g (callV_sound (τ := τ) (by kernel_rfl) (frz_app (xs := [A v65, A v67]) rfl hz4) (hp4 _ _ _ hv70) (FzTo.frz rfl))) trivial ?_
 refine qvn [] trivial 2 220 [(0, rf 0 0 1 a0), (1, I a1), (2, I a2), (3, I a3), (4, .fn g4 c4), (18, I (w64 (shrU (u64 (w64 (a1 + a3))) 1))), (19, I (w64 ((w64 (shrU (u64 (w64 (a1 + a3))) 1)) + a2))), (20, I x60), (21, I x61), (22, I (w64 ((w64 ((w64 (shrU (u64 (w64 (a1 + a3))) 1)) + a2)) - 1))), (23, I (w64 (shrU (u64 (w64 (x60 + x61))) 1))), (171, B (!(decide (v69 < 0))))] [sl 0 a0] ?_
 refine pc h (fun h => ?_) (fun h => ?_)
 refine rve 220 [(0, rf 0 0 1 a0), (1, I a1), (2, I a2), (3, I a3), (4, .fn g4 c4), (18, I (w64 (shrU (u64 (w64 (a1 + a3))) 1))), (19, I (w64 ((w64 (shrU (u64 (w64 (a1 + a3))) 1)) + a2))), (20, I (w64 ((w64 (shrU (u64 (w64 (x60 + x61))) 1)) + 1))), (21, I x61), (22, I (w64 ((w64 ((w64 (shrU (u64 (w64 (a1 + a3))) 1)) + a2)) - 1)))] [sl 0 a0] ?_
 exact ⟨(f62, (w64 ((w64 (shrU (u64 (w64 (x60 + x61))) 1)) + 1)), x61), h, Nat.lt_succ_self _, it [0, 1, 2, 3, 4, 18, 19, 20, 21, 22]⟩
 refine rve 220 [(0, rf 0 0 1 a0), (1, I a1), (2, I a2), (3, I a3), (4, .fn g4 c4), (18, I (w64 (shrU (u64 (w64 (a1 + a3))) 1))), (19, I (w64 ((w64 (shrU (u64 (w64 (a1 + a3))) 1)) + a2))), (20, I x60), (21, I (w64 (shrU (u64 (w64 (x60 + x61))) 1))), (22, I (w64 ((w64 ((w64 (shrU (u64 (w64 (a1 + a3))) 1)) + a2)) - 1)))] [sl 0 a0] ?_
 exact ⟨(f62, x60, (w64 (shrU (u64 (w64 (x60 + x61))) 1))), h, Nat.lt_succ_self _, it [0, 1, 2, 3, 4, 18, 19, 20, 21, 22]⟩
 refine pwp_exit ?_
 refine srve 220 [(0, rf 0 0 1 a0), (1, I a1), (2, I a2), (3, I a3), (4, .fn g4 c4), (18, I (w64 (shrU (u64 (w64 (a1 + a3))) 1))), (20, I x60), (24, I (w64 ((w64 ((w64 (shrU (u64 (w64 (a1 + a3))) 1)) + a2)) - x60)))] [sl 0 a0] ?_
 refine pwp_seq ?_
 refine pwp_join (σ := (List (List T_impl_Value))) (fun x72 => (⟨220, [(0, rf 0 0 1 x72), (1, I a1), (3, I a3), (4, .fn g4 c4), (18, I (w64 (shrU (u64 (w64 (a1 + a3))) 1))), (20, I x60), (24, I (w64 ((w64 ((w64 (shrU (u64 (w64 (a1 + a3))) 1)) + a2)) - x60)))], [sl 0 x72]⟩ : St)) (fun x72 => slices_symMergeCmpFunc_impl_Value_j6 rec0 a1 a2 a3 x60 x72 = some y) ?_ ?_
 refine pwp_seq ?_
 refine pwp_join (σ := Bool) (fun x84 => (⟨220, [(0, rf 0 0 1 a0), (1, I a1), (2, I a2), (3, I a3), (4, .fn g4 c4), (18, I (w64 (shrU (u64 (w64 (a1 + a3))) 1))), (20, I x60), (24, I (w64 ((w64 ((w64 (shrU (u64 (w64 (a1 + a3))) 1)) + a2)) - x60))), (185, B x84)], [sl 0 a0]⟩ : St)) (fun x84 => slices_symMergeCmpFunc_impl_Value_j10 rec0 a0 a1 a2 a3 a4 x60 x84 = some y) ?_ ?_
 refine rv 4 220 [(0, rf 0 0 1 a0), (1, I a1), (2, I a2), (3, I a3), (4, .fn g4 c4), (18, I (w64 (shrU (u64 (w64 (a1 + a3))) 1))), (20, I x60), (24, I (w64 ((w64 ((w64 (shrU (u64 (w64 (a1 + a3))) 1)) + a2)) - x60))), (181, B (decide (x60 < a2)))] [sl 0 a0] ?_
 rcases fk (decide (x60 < a2)) with hc88 | hc88
 replace h := bT hc88 h
 rw [hc88]
 refine ve 4 220 [(0, rf 0 0 1 a0), (1, I a1), (2, I a2), (3, I a3), (4, .fn g4 c4), (18, I (w64 (shrU (u64 (w64 (a1 + a3))) 1))), (20, I x60), (24, I (w64 ((w64 ((w64 (shrU (u64 (w64 (a1 + a3))) 1)) + a2)) - x60))), (185, B (decide (a2 < (w64 ((w64 ((w64 (shrU (u64 (w64 (a1 + a3))) 1)) + a2)) - x60)))))] [sl 0 a0] ?_
 exact ⟨(decide (a2 < (w64 ((w64 ((w64 (shrU (u64 (w64 (a1 + a3))) 1)) + a2)) - x60)))), h, it [0, 1, 2, 3, 4, 18, 20, 24, 185]⟩
 replace h := bF hc88 h
 rw [hc88]
 refine ve 4 220 [(0, rf 0 0 1 a0), (1, I a1), (2, I a2), (3, I a3), (4, .fn g4 c4), (18, I (w64 (shrU (u64 (w64 (a1 + a3))) 1))), (20, I x60), (24, I (w64 ((w64 ((w64 (shrU (u64 (w64 (a1 + a3))) 1)) + a2)) - x60))), (185, B false)] [sl 0 a0] ?_
 exact ⟨false, h, it [0, 1, 2, 3, 4, 18, 20, 24, 185]⟩
 rintro x84 h
 unfold slices_symMergeCmpFunc_impl_Value_j10 at h
 refine pc h (fun h => ?_) (fun h => ?_)
 refine rv 5 220 [(0, rf 0 0 1 a0), (1, I a1), (3, I a3), (4, .fn g4 c4), (18, I (w64 (shrU (u64 (w64 (a1 + a3))) 1))), (20, I x60), (24, I (w64 ((w64 ((w64 (shrU (u64 (w64 (a1 + a3))) 1)) + a2)) - x60))), (186, rf 0 0 1 a0), (187, I x60), (188, I a2), (189, I (w64 ((w64 ((w64 (shrU (u64 (w64 (a1 + a3))) 1)) + a2)) - x60))), (190, .fn g4 c4)] [sl 0 a0] ?_
 obtain ⟨v86, hv87, h⟩ := bindS h
 refine opsP_E (dd := some 191) (x := .tup []) (callS_E τ 191 0 0 (ok_slices_rotateCmpFunc_impl_Value (hz4) (hp4) hv87) (FzTo.tup FzToL.nil) rfl (by simp only [frzL, frz, hz4, Bool.and_true]) (by kernel_rfl)) ?_
 refine io 220 [(0, rf 0 0 1 a0), (1, I a1), (3, I a3), (4, .fn g4 c4), (18, I (w64 (shrU (u64 (w64 (a1 + a3))) 1))), (20, I x60), (24, I (w64 ((w64 ((w64 (shrU (u64 (w64 (a1 + a3))) 1)) + a2)) - x60))), (186, rf 0 0 1 a0), (187, I x60), (188, I a2), (189, I (w64 ((w64 ((w64 (shrU (u64 (w64 (a1 + a3))) 1)) + a2)) - x60))), (190, .fn g4 c4), (191, .tup [])] [sl 0 v86] ?_
 refine opsP_ren (st' := ⟨220, [(0, rf 0 0 1 v86), (1, I a1), (3, I a3), (4, .fn g4 c4), (18, I (w64 (shrU (u64 (w64 (a1 + a3))) 1))), (20, I x60), (24, I (w64 ((w64 ((w64 (shrU (u64 (w64 (a1 + a3))) 1)) + a2)) - x60))), (186, rf 0 0 1 v86), (187, I x60), (188, I a2), (189, I (w64 ((w64 ((w64 (shrU (u64 (w64 (a1 + a3))) 1)) + a2)) - x60))), (190, .fn g4 c4), (191, .tup [])], [sl 0 v86]⟩) 0 v86.length (renC (ren_ref (len_slices_rotateCmpFunc_impl_Value hv87).symm) (renC trivial (renC trivial (renC trivial (renC trivial (renC trivial (renC trivial (renC (ren_ref (len_slices_rotateCmpFunc_impl_Value hv87).symm) (renC trivial (renC trivial (renC trivial (renC trivial (renC trivial renC0))))))))))))) (by kernel_rfl) ?_
 refine ve 0 220 [(0, rf 0 0 1 v86), (1, I a1), (3, I a3), (4, .fn g4 c4), (18, I (w64 (shrU (u64 (w64 (a1 + a3))) 1))), (20, I x60), (24, I (w64 ((w64 ((w64 (shrU (u64 (w64 (a1 + a3))) 1)) + a2)) - x60)))] [sl 0 v86] ?_
 exact ⟨v86, h, it [0, 1, 3, 4, 18, 20, 24]⟩
 refine pwp_skip ?_
 exact ⟨a0, h, it [0, 1, 3, 4, 18, 20, 24]⟩
 rintro x72 h
 unfold slices_symMergeCmpFunc_impl_Value_j6 at h
 refine pwp_seq ?_
 refine pwp_join (σ := (List (List T_impl_Value))) (fun x73 => (⟨220, [(0, rf 0 0 1 x73), (3, I a3), (4, .fn g4 c4), (18, I (w64 (shrU (u64 (w64 (a1 + a3))) 1))), (24, I (w64 ((w64 ((w64 (shrU (u64 (w64 (a1 + a3))) 1)) + a2)) - x60)))], [sl 0 x73]⟩ : St)) (fun x73 => slices_symMergeCmpFunc_impl_Value_j7 rec0 a1 a2 a3 x60 x73 = some y) ?_ ?_
 refine pwp_seq ?_
 refine pwp_join (σ := Bool) (fun x79 => (⟨220, [(0, rf 0 0 1 x72), (1, I a1), (3, I a3), (4, .fn g4 c4), (18, I (w64 (shrU (u64 (w64 (a1 + a3))) 1))), (20, I x60), (24, I (w64 ((w64 ((w64 (shrU (u64 (w64 (a1 + a3))) 1)) + a2)) - x60))), (199, B x79)], [sl 0 x72]⟩ : St)) (fun x79 => slices_symMergeCmpFunc_impl_Value_j9 rec0 a1 a2 a3 x60 x72 x79 = some y) ?_ ?_
 refine rv 4 220 [(0, rf 0 0 1 x72), (1, I a1), (3, I a3), (4, .fn g4 c4), (18, I (w64 (shrU (u64 (w64 (a1 + a3))) 1))), (20, I x60), (24, I (w64 ((w64 ((w64 (shrU (u64 (w64 (a1 + a3))) 1)) + a2)) - x60))), (195, B (decide (a1 < x60)))] [sl 0 x72] ?_
 rcases fk (decide (a1 < x60)) with hc83 | hc83
 replace h := bT hc83 h
 rw [hc83]
 refine ve 4 220 [(0, rf 0 0 1 x72), (1, I a1), (3, I a3), (4, .fn g4 c4), (18, I (w64 (shrU (u64 (w64 (a1 + a3))) 1))), (20, I x60), (24, I (w64 ((w64 ((w64 (shrU (u64 (w64 (a1 + a3))) 1)) + a2)) - x60))), (199, B (decide (x60 < (w64 (shrU (u64 (w64 (a1 + a3))) 1)))))] [sl 0 x72] ?_
 exact ⟨(decide (x60 < (w64 (shrU (u64 (w64 (a1 + a3))) 1)))), h, it [0, 1, 3, 4, 18, 20, 24, 199]⟩
 replace h := bF hc83 h
 rw [hc83]
 refine ve 4 220 [(0, rf 0 0 1 x72), (1, I a1), (3, I a3), (4, .fn g4 c4), (18, I (w64 (shrU (u64 (w64 (a1 + a3))) 1))), (20, I x60), (24, I (w64 ((w64 ((w64 (shrU (u64 (w64 (a1 + a3))) 1)) + a2)) - x60))), (199, B false)] [sl 0 x72] ?_
 exact ⟨false, h, it [0, 1, 3, 4, 18, 20, 24, 199]⟩
 rintro x79 h
 unfold slices_symMergeCmpFunc_impl_Value_j9 at h
 refine pc h (fun h => ?_) (fun h => ?_)
 refine rv 5 220 [(0, rf 0 0 1 x72), (3, I a3), (4, .fn g4 c4), (18, I (w64 (shrU (u64 (w64 (a1 + a3))) 1))), (24, I (w64 ((w64 ((w64 (shrU (u64 (w64 (a1 + a3))) 1)) + a2)) - x60))), (200, rf 0 0 1 x72), (201, I a1), (202, I x60), (203, I (w64 (shrU (u64 (w64 (a1 + a3))) 1))), (204, .fn g4 c4)] [sl 0 x72] ?_
 obtain ⟨v81, hv82, h⟩ := bindS h
 refine opsP_E (dd := some 205) (x := .tup []) (callS_E τ 205 0 0 (hrec hv82) (FzTo.tup FzToL.nil) rfl (by simp only [frzL, frz, hz4, Bool.and_true]) (by kernel_rfl)) ?_
 refine io 220 [(0, rf 0 0 1 x72), (3, I a3), (4, .fn g4 c4), (18, I (w64 (shrU (u64 (w64 (a1 + a3))) 1))), (24, I (w64 ((w64 ((w64 (shrU (u64 (w64 (a1 + a3))) 1)) + a2)) - x60))), (200, rf 0 0 1 x72), (201, I a1), (202, I x60), (203, I (w64 (shrU (u64 (w64 (a1 + a3))) 1))), (204, .fn g4 c4), (205, .tup [])] [sl 0 v81] ?_
 refine opsP_ren (st' := ⟨220, [(0, rf 0 0 1 v81), (3, I a3), (4, .fn g4 c4), (18, I (w64 (shrU (u64 (w64 (a1 + a3))) 1))), (24, I (w64 ((w64 ((w64 (shrU (u64 (w64 (a1 + a3))) 1)) + a2)) - x60))), (200, rf 0 0 1 v81), (201, I a1), (202, I x60), (203, I (w64 (shrU (u64 (w64 (a1 + a3))) 1))), (204, .fn g4 c4), (205, .tup [])], [sl 0 v81]⟩) 0 v81.length (renC (ren_ref (len_rec0 hv82).symm) (renC trivial (renC trivial (renC trivial (renC trivial (renC (ren_ref (len_rec0 hv82).symm) (renC trivial (renC trivial (renC trivial (renC trivial (renC trivial renC0))))))))))) (by kernel_rfl) ?_
 refine ve 0 220 [(0, rf 0 0 1 v81), (3, I a3), (4, .fn g4 c4), (18, I (w64 (shrU (u64 (w64 (a1 + a3))) 1))), (24, I (w64 ((w64 ((w64 (shrU (u64 (w64 (a1 + a3))) 1)) + a2)) - x60)))] [sl 0 v81] ?_
 exact ⟨v81, h, it [0, 3, 4, 18, 24]⟩
 refine pwp_skip ?_
 exact ⟨x72, h, it [0, 3, 4, 18, 24]⟩
 rintro x73 h
 unfold slices_symMergeCmpFunc_impl_Value_j7 at h
 refine pwp_seq ?_
 refine pwp_join (σ := Bool) (fun x74 => (⟨220, [(0, rf 0 0 1 x73), (3, I a3), (4, .fn g4 c4), (18, I (w64 (shrU (u64 (w64 (a1 + a3))) 1))), (24, I (w64 ((w64 ((w64 (shrU (u64 (w64 (a1 + a3))) 1)) + a2)) - x60))), (213, B x74)], [sl 0 x73]⟩ : St)) (fun x74 => slices_symMergeCmpFunc_impl_Value_j8 rec0 a1 a2 a3 x60 x73 x74 = some y) ?_ ?_
 refine rv 4 220 [(0, rf 0 0 1 x73), (3, I a3), (4, .fn g4 c4), (18, I (w64 (shrU (u64 (w64 (a1 + a3))) 1))), (24, I (w64 ((w64 ((w64 (shrU (u64 (w64 (a1 + a3))) 1)) + a2)) - x60))), (209, B (decide ((w64 (shrU (u64 (w64 (a1 + a3))) 1)) < (w64 ((w64 ((w64 (shrU (u64 (w64 (a1 + a3))) 1)) + a2)) - x60)))))] [sl 0 x73] ?_
 rcases fk (decide ((w64 (shrU (u64 (w64 (a1 + a3))) 1)) < (w64 ((w64 ((w64 (shrU (u64 (w64 (a1 + a3))) 1)) + a2)) - x60)))) with hc78 | hc78
 replace h := bT hc78 h
 rw [hc78]
 refine ve 4 220 [(0, rf 0 0 1 x73), (3, I a3), (4, .fn g4 c4), (18, I (w64 (shrU (u64 (w64 (a1 + a3))) 1))), (24, I (w64 ((w64 ((w64 (shrU (u64 (w64 (a1 + a3))) 1)) + a2)) - x60))), (213, B (decide ((w64 ((w64 ((w64 (shrU (u64 (w64 (a1 + a3))) 1)) + a2)) - x60)) < a3)))] [sl 0 x73] ?_
 exact ⟨(decide ((w64 ((w64 ((w64 (shrU (u64 (w64 (a1 + a3))) 1)) + a2)) - x60)) < a3)), h, it [0, 3, 4, 18, 24, 213]⟩
 replace h := bF hc78 h
 rw [hc78]
 refine ve 4 220 [(0, rf 0 0 1 x73), (3, I a3), (4, .fn g4 c4), (18, I (w64 (shrU (u64 (w64 (a1 + a3))) 1))), (24, I (w64 ((w64 ((w64 (shrU (u64 (w64 (a1 + a3))) 1)) + a2)) - x60))), (213, B false)] [sl 0 x73] ?_
 exact ⟨false, h, it [0, 3, 4, 18, 24, 213]⟩
 rintro x74 h
 unfold slices_symMergeCmpFunc_impl_Value_j8 at h
 refine pc h (fun h => ?_) (fun h => ?_)
 refine rv 5 220 [(214, rf 0 0 1 x73), (215, I (w64 (shrU (u64 (w64 (a1 + a3))) 1))), (216, I (w64 ((w64 ((w64 (shrU (u64 (w64 (a1 + a3))) 1)) + a2)) - x60))), (217, I a3), (218, .fn g4 c4)] [sl 0 x73] ?_
 obtain ⟨v76, hv77, h⟩ := bindS h
 refine opsP_E (dd := some 219) (x := .tup []) (callS_E τ 219 0 0 (hrec hv77) (FzTo.tup FzToL.nil) rfl (by simp only [frzL, frz, hz4, Bool.and_true]) (by kernel_rfl)) ?_
 refine io 220 [(214, rf 0 0 1 x73), (215, I (w64 (shrU (u64 (w64 (a1 + a3))) 1))), (216, I (w64 ((w64 ((w64 (shrU (u64 (w64 (a1 + a3))) 1)) + a2)) - x60))), (217, I a3), (218, .fn g4 c4), (219, .tup [])] [sl 0 v76] ?_
 refine opsP_ren (st' := ⟨220, [(214, rf 0 0 1 v76), (215, I (w64 (shrU (u64 (w64 (a1 + a3))) 1))), (216, I (w64 ((w64 ((w64 (shrU (u64 (w64 (a1 + a3))) 1)) + a2)) - x60))), (217, I a3), (218, .fn g4 c4), (219, .tup [])], [sl 0 v76]⟩) 0 v76.length (renC (ren_ref (len_rec0 hv77).symm) (renC trivial (renC trivial (renC trivial (renC trivial (renC trivial renC0)))))) (by kernel_rfl) ?_
 refine ve 0 220 [] [sl 0 v76] ?_
 have h := si h
 subst h
 first | exact ⟨.inl rfl, .tup [], _, 0, by kernel_rfl, (OutP.tup (OutL.nil _)), by decide, by decide, by kernel_rfl⟩ | exact pwp_ret ⟨.inr rfl, .tup [], _, 0, by kernel_rfl, (OutP.tup (OutL.nil _)), by decide, by decide, by kernel_rfl⟩
 refine pwp_skip ?_
 have h := si h
 subst h
 first | exact ⟨.inl rfl, .tup [], _, 0, by kernel_rfl, (OutP.tup (OutL.nil _)), by decide, by decide, by kernel_rfl⟩ | exact pwp_ret ⟨.inr rfl, .tup [], _, 0, by kernel_rfl, (OutP.tup (OutL.nil _)), by decide, by decide, by kernel_rfl⟩
theorem ok_slices_symMergeCmpFunc_impl_Value_f {g4 : FuncId} {c4 : List V} (hz4 : frzL c4 = true) {a4 : (List T_impl_Value) → (List T_impl_Value) → Option Int} (hp4 : ∀ x0 x1 y, a4 x0 x1 = some y → OK Try.prog g4 ([A x0, A x1] ++ c4) (I y)) : ∀ (f : Nat) {a0 : List (List T_impl_Value)} {a1 : Int} {a2 : Int} {a3 : Int} {y : List (List T_impl_Value)}, slices_symMergeCmpFunc_impl_Value_f a4 f a0 a1 a2 a3 = some y → OKs Try.prog 188 [] 1 a0.length (eL a0) [I a1, I a2, I a3, .fn g4 c4] (.tup []) (eL y)
 | 0, _, _, _, _, _, h => by cases h
 | f + 1, _, _, _, _, _, h => ok_slices_symMergeCmpFunc_impl_Value_s hz4 hp4 (ok_slices_symMergeCmpFunc_impl_Value_f hz4 hp4 f) (len_slices_symMergeCmpFunc_impl_Value_f _ f) (bindLen (f := fun y : List (List T_impl_Value) => y) h).2 (bindLen (f := fun y : List (List T_impl_Value) => y) h).1
theorem ok_slices_symMergeCmpFunc_impl_Value {a0 : List (List T_impl_Value)} {a1 : Int} {a2 : Int} {a3 : Int} {g4 : FuncId} {c4 : List V} (hz4 : frzL c4 = true) {a4 : (List T_impl_Value) → (List T_impl_Value) → Option Int} (hp4 : ∀ x0 x1 y, a4 x0 x1 = some y → OK Try.prog g4 ([A x0, A x1] ++ c4) (I y)) {y : List (List T_impl_Value)} (h : slices_symMergeCmpFunc_impl_Value a0 a1 a2 a3 a4 = some y) : OKs Try.prog 188 [] 1 a0.length (eL a0) [I a1, I a2, I a3, .fn g4 c4] (.tup []) (eL y) := ok_slices_symMergeCmpFunc_impl_Value_f hz4 hp4 FUEL h
def laws_alive  : Option Bool := (impl_ValueOk (T_impl_Value.mk 1 3 (ByteArray.mk #[]))).bind fun v1 => bif v1 then (impl_ValueOk (T_impl_Value.mk 9 0 (ByteArray.mk #[]))).bind fun v3 => some (!v3) else some false
theorem ok_laws_alive  {y : Bool} (h : laws_alive  = some y) : OK Try.prog 18 [] (B y) := by
 refine ow Try.func18 fun Γ hX => ?_
 unfold laws_alive at h
 refine srve 8 [] [] ?_
 refine srv 1 8 [(1, E (T_impl_Value.mk 1 3 (ByteArray.mk #[])))] [] ?_
 obtain ⟨v1, hv2, h⟩ := bindS h
 refine cF 2 (ok_impl_ValueOk hv2) ?_
 refine v 1 8 [(3, B v1)] [] ?_
 rcases Bool.eq_false_or_eq_true v1 with hc5 | hc5
 replace h := bT hc5 h
 rw [hc5]
 refine v 1 8 [(3, B true), (4, E (T_impl_Value.mk 9 0 (ByteArray.mk #[])))] [] ?_
 obtain ⟨v3, hv4, h⟩ := bindS h
 refine cF 5 (ok_impl_ValueOk hv4) ?_
 refine ve 3 8 [(0, B (!v3))] [] ?_
 cases h
 exact pwp_ret rz
 replace h := bF hc5 h
 rw [hc5]
 refine ve 5 8 [(0, B false)] [] ?_
 cases h
 exact pwp_ret rz
def impl_RowOk (a0 : List T_impl_Value) : Option Bool := bif (decide ((a0.length : Int) ≤ 4)) then (slices_ContainsFunc_impl_Value_impl_Value a0 impl_RowOk_1).bind fun v1 => some (!v1) else some false
theorem ok_impl_RowOk {a0 : List T_impl_Value} {y : Bool} (h : impl_RowOk a0 = some y) : OK Try.prog 53 [A a0] (B y) := by
 refine ow Try.func53 fun Γ hX => ?_
 unfold impl_RowOk at h
 refine srve 11 [(0, A a0)] [] ?_
 refine srv 4 11 [(0, A a0), (6, B (decide ((a0.length : Int) ≤ 4)))] [] ?_
 rcases fk (decide ((a0.length : Int) ≤ 4)) with hc3 | hc3
 replace h := bT hc3 h
 rw [hc3]
 refine v 1 11 [(6, B true), (7, A a0)] [] ?_
 obtain ⟨v1, hv2, h⟩ := bindS h
 refine cF 8 (ok_slices_ContainsFunc_impl_Value_impl_Value (rfl) (fun _ w hw => ok_impl_RowOk_1 hw) hv2) ?_
 refine ve 3 11 [(2, B (!v1))] [] ?_
 cases h
 exact pwp_ret rz
 replace h := bF hc3 h
 rw [hc3]
 refine ve 5 11 [(2, B false)] [] ?_
 cases h
 exact pwp_ret rz
def spec_l20Twos_j0 (a1 : Int) (x1 : T_spec_l20Rd) (x2 : List T_impl_Column) : Option ((List (List T_impl_Value)) × T_spec_l20Rd) := (spec_l20Bag x1 x2 a1).bind fun v3 => (spec_l20Bag v3.2 x2 a1).bind fun v5 => (app v3.1 v5.1).bind fun v7 => some (v7, v5.2)
def spec_l20Twos (a0 : T_spec_l20Rd) (a1 : Int) : Option ((List (List T_impl_Value)) × T_spec_l20Rd) := (spec_l20Rd_pick a0 4).bind fun v9 => bif (v9.1 == 0) then (getI ([(T_impl_Column.mk 1 true), (T_impl_Column.mk 1 true)] : List T_impl_Column) (0 : Int)).bind fun v12 => spec_l20Twos_j0 a1 v9.2 (([(T_impl_Column.mk 1 true), (T_impl_Column.mk 1 true)] : List T_impl_Column).set (0 : Int).toNat ({ v12 with fKind := 2 } : T_impl_Column)) else spec_l20Twos_j0 a1 v9.2 ([(T_impl_Column.mk 1 true), (T_impl_Column.mk 1 true)] : List T_impl_Column)
theorem ok_spec_l20Twos {a0 : T_spec_l20Rd} {a1 : Int} {y : (List (List T_impl_Value)) × T_spec_l20Rd} (h : spec_l20Twos a0 a1 = some y) : OKb Try.prog 66 (Enc.cells a0) [I a1] (O y.1) (Enc.cells y.2) := by
 refine OKb_of_pwp τ_ok Try.func66 rfl (by kernel_rfl) rfl (Enc.frz _) (Enc.frz _) fun Γ hQ => ?_
 unfold spec_l20Twos at h
 refine srve 24 [(0, .ptr 0 0 0), (1, I a1)] [sc 0 a0] ?_
 refine srv 2 24 [(0, .ptr 0 0 0), (1, I a1), (6, E (T_impl_Column.mk 1 true)), (7, E (T_impl_Column.mk 1 true))] [sc 0 a0] ?_
 refine opsP_E (dd := some 8) (x := .ref 1 0 0 2 ([(T_impl_Column.mk 1 true), (T_impl_Column.mk 1 true)] : List T_impl_Column).length false) (bsl_N (cells := eL ([(T_impl_Column.mk 1 true), (T_impl_Column.mk 1 true)] : List T_impl_Column)) τ_ok 8 1 (by first | exact pn hQ | exact pk hQ) (by kernel_rfl) (by kernel_rfl)) ?_
 refine ve 1 24 [(0, .ptr 0 0 0), (1, I a1), (5, .ref 1 0 0 2 ([(T_impl_Column.mk 1 true), (T_impl_Column.mk 1 true)] : List T_impl_Column).length false)] [sc 0 a0, some ⟨0, eL ([(T_impl_Column.mk 1 true), (T_impl_Column.mk 1 true)] : List T_impl_Column)⟩] ?_
 refine pwp_seq ?_
 refine pwp_join (σ := T_spec_l20Rd × (List T_impl_Column)) (fun (x1, x2) => (⟨24, [(0, .ptr 0 0 0), (1, I a1), (5, rf 1 0 2 x2)], [sc 0 x1, sl 0 x2]⟩ : St)) (fun (x1, x2) => spec_l20Twos_j0 a1 x1 x2 = some y) ?_ ?_
 refine srv 1 24 [(0, .ptr 0 0 0), (1, I a1), (5, .ref 1 0 0 2 ([(T_impl_Column.mk 1 true), (T_impl_Column.mk 1 true)] : List T_impl_Column).length false), (9, .ptr 0 0 0)] [sc 0 a0, some ⟨0, eL ([(T_impl_Column.mk 1 true), (T_impl_Column.mk 1 true)] : List T_impl_Column)⟩] ?_
 obtain ⟨v9, hv10, h⟩ := bindS h
 refine cB 10 0 0 (ok_spec_l20Rd_pick hv10) ?_
 refine ve 1 24 [(0, .ptr 0 0 0), (1, I a1), (5, .ref 1 0 0 2 ([(T_impl_Column.mk 1 true), (T_impl_Column.mk 1 true)] : List T_impl_Column).length false), (11, B (v9.1 == 0))] [sc 0 v9.2, some ⟨0, eL ([(T_impl_Column.mk 1 true), (T_impl_Column.mk 1 true)] : List T_impl_Column)⟩] ?_
 refine pc h (fun h => ?_) (fun h => ?_)
 refine rv 1 24 [(0, .ptr 0 0 0), (1, I a1), (5, .ref 1 0 0 2 ([(T_impl_Column.mk 1 true), (T_impl_Column.mk 1 true)] : List T_impl_Column).length false), (12, .ref 1 0 0 2 ([(T_impl_Column.mk 1 true), (T_impl_Column.mk 1 true)] : List T_impl_Column).length false)] [sc 0 v9.2, some ⟨0, eL ([(T_impl_Column.mk 1 true), (T_impl_Column.mk 1 true)] : List T_impl_Column)⟩] ?_
 obtain ⟨v12, hv13, h⟩ := bindS h
 refine opsP_idr τ_ok 13 1 0 ([(T_impl_Column.mk 1 true), (T_impl_Column.mk 1 true)] : List T_impl_Column).length hv13 rfl (by kernel_rfl) ?_
 refine v 1 24 [(0, .ptr 0 0 0), (1, I a1), (5, .ref 1 0 0 2 ([(T_impl_Column.mk 1 true), (T_impl_Column.mk 1 true)] : List T_impl_Column).length false), (14, .ptr 1 0 ((0 : Int).toNat * 2))] [sc 0 v9.2, some ⟨0, eL ([(T_impl_Column.mk 1 true), (T_impl_Column.mk 1 true)] : List T_impl_Column)⟩] ?_
 refine opsP_ste (vs := [I 2]) τ_ok 3 1 0 0 ({ v12 with fKind := 2 } : T_impl_Column) hv13 (by kernel_rfl) (by kernel_rfl) (by kernel_rfl) (renC trivial (renC trivial (renC (ren_ref (List.length_set ..).symm) (renC trivial renC0)))) ?_
 refine ve 0 24 [(0, .ptr 0 0 0), (1, I a1), (5, .ref 1 0 0 2 (([(T_impl_Column.mk 1 true), (T_impl_Column.mk 1 true)] : List T_impl_Column).set (0 : Int).toNat ({ v12 with fKind := 2 } : T_impl_Column)).length false)] [sc 0 v9.2, some ⟨0, eL (([(T_impl_Column.mk 1 true), (T_impl_Column.mk 1 true)] : List T_impl_Column).set (0 : Int).toNat ({ v12 with fKind := 2 } : T_impl_Column))⟩] ?_
 exact ⟨(v9.2, (([(T_impl_Column.mk 1 true), (T_impl_Column.mk 1 true)] : List T_impl_Column).set (0 : Int).toNat ({ v12 with fKind := 2 } : T_impl_Column))), h, it [0, 1, 5]⟩
 refine pwp_skip ?_
 exact ⟨(v9.2, ([(T_impl_Column.mk 1 true), (T_impl_Column.mk 1 true)] : List T_impl_Column)), h, it [0, 1, 5]⟩
 rintro ⟨x1, x2⟩ h
 dsimp only at h ⊢
 unfold spec_l20Twos_j0 at h
 refine srv 3 24 [(0, .ptr 0 0 0), (1, I a1), (5, rf 1 0 2 x2), (15, .ptr 0 0 0), (16, rf 1 0 2 x2), (17, I a1)] [sc 0 x1, sl 0 x2] ?_
 refine opsP_imp (Imp.freezeB (v := 0) (cs := eL x2) (st' := ⟨24, [(0, .ptr 0 0 0), (1, I a1), (5, A x2), (15, .ptr 0 0 0), (16, A x2), (17, I a1)], [sc 0 x1, none]⟩) 1 0 (pn hQ) (by kernel_rfl) (eL_frz _) (wholeC (whole_noRef (by kernel_rfl)) (wholeC (whole_noRef (by kernel_rfl)) (wholeC (whole_is (eL_len x2).symm) (wholeC (whole_noRef (by kernel_rfl)) (wholeC (whole_is (eL_len x2).symm) (wholeC (whole_noRef (by kernel_rfl)) wholeC0)))))) (HpRel.frz rfl (Enc.frz _) (HpRel.key HpRel.nil)) (by kernel_rfl) rfl (p01 hQ)) ?_
 obtain ⟨v3, hv4, h⟩ := bindS h
 refine opsP_E (dd := some 18) (x := rf 2 0 1 v3.1) (callBN_E τ 18 0 0 2 (by first | exact pn hQ | exact pk hQ) (by decide) (ok_spec_l20Bag hv4) rfl (by kernel_rfl) (by kernel_rfl)) ?_
 refine v 3 24 [(18, rf 2 0 1 v3.1), (19, .ptr 0 0 0), (20, A x2), (21, I a1)] [sc 0 v3.2, none, sl 0 v3.1] ?_
 obtain ⟨v5, hv6, h⟩ := bindS h
 refine cBo 22 0 0 (ok_spec_l20Bag hv6) ?_
 obtain ⟨v7, hv8, h⟩ := bindS h
 refine opsP_app τ_ok 23 2 0 (pn hQ) hv8 (by kernel_rfl) ?_
 refine ve 1 24 [(4, rf 2 1 1 v7)] [sc 0 v5.2, none, sl 1 v7] ?_
 have h := si h
 subst h
 exact pwp_ret ⟨.inr rfl, rf 2 1 1 v7, _, 0, by kernel_rfl, (OutP.list (v := 1) (by kernel_rfl)), by decide, by decide, by kernel_rfl⟩
def impl_counted (a0 : List T_impl_Value) : Option Bool := bif ((a0.length : Int) == 2) then (impl_RowOk a0).bind fun v1 => bif v1 then (getI a0 1).bind fun v3 => bif (v3.fKind == 1) then some true else (getI a0 1).bind fun v5 => some (v5.fKind == 0) else some false else some false
theorem ok_impl_counted {a0 : List T_impl_Value} {y : Bool} (h : impl_counted a0 = some y) : OK Try.prog 69 [A a0] (B y) := by
 refine ow Try.func69 fun Γ hX => ?_
 unfold impl_counted at h
 refine srve 24 [(0, A a0)] [] ?_
 refine srv 4 24 [(0, A a0), (6, B ((a0.length : Int) == 2))] [] ?_
 rcases fk ((a0.length : Int) == 2) with hc9 | hc9
 replace h := bT hc9 h
 rw [hc9]
 refine v 1 24 [(0, A a0), (6, B true), (7, A a0)] [] ?_
 obtain ⟨v1, hv2, h⟩ := bindS h
 refine cF 8 (ok_impl_RowOk hv2) ?_
 refine v 2 24 [(0, A a0), (10, B v1)] [] ?_
 rcases Bool.eq_false_or_eq_true v1 with hc8 | hc8
 replace h := bT hc8 h
 rw [hc8]
 refine v 1 24 [(0, A a0), (10, B true), (11, A a0)] [] ?_
 obtain ⟨v3, hv4, h⟩ := bindS h
 refine opsP_idx τ_ok 12 hv4 (by kernel_rfl) ?_
 refine v 4 24 [(0, A a0), (10, B true), (16, B (v3.fKind == 1))] [] ?_
 rcases fk (v3.fKind == 1) with hc7 | hc7
 replace h := bT hc7 h
 rw [hc7]
 refine ve 8 24 [(2, B true)] [] ?_
 cases h
 exact pwp_ret rz
 replace h := bF hc7 h
 rw [hc7]
 refine v 1 24 [(10, B true), (16, B false), (17, A a0)] [] ?_
 obtain ⟨v5, hv6, h⟩ := bindS h
 refine opsP_idx τ_ok 18 hv6 (by kernel_rfl) ?_
 refine ve 6 24 [(2, B (v5.fKind == 0))] [] ?_
 cases h
 exact pwp_ret rz
 replace h := bF hc8 h
 rw [hc8]
 refine ve 14 24 [(2, B false)] [] ?_
 cases h
 exact pwp_ret rz
 replace h := bF hc9 h
 rw [hc9]
 refine ve 18 24 [(2, B false)] [] ?_
 cases h
 exact pwp_ret rz
def spec_l32Turn_j2 (x5 : Int) (K8 : Bool → Int → (List T_impl_Tally) → Option (List T_impl_Tally)) (x10 : Bool) (x11 : List T_impl_Tally) (x12 : T_impl_Tally) : Option (List T_impl_Tally) := K8 x10 (w64 (x5 + 1)) x11
def spec_l32Turn_j5 (x5 : Int) (K8 : Bool → Int → (List T_impl_Tally) → Option (List T_impl_Tally)) (x18 : List T_impl_Tally) (x19 : Bool) (x20 : T_impl_Tally) (x21 : Bool) : Option (List T_impl_Tally) := bif x21 then (app x18 ([x20] : List T_impl_Tally)).bind fun v23 => spec_l32Turn_j2 x5 K8 x19 v23 x20 else spec_l32Turn_j2 x5 K8 x19 x18 x20
def spec_l32Turn_j4 (x5 : Int) (K8 : Bool → Int → (List T_impl_Tally) → Option (List T_impl_Tally)) (x18 : List T_impl_Tally) (x19 : Bool) (x20 : T_impl_Tally) : Option (List T_impl_Tally) := bif (!(x20.fRows == 0)) then spec_l32Turn_j5 x5 K8 x18 x19 x20 true else bif (!(x20.fMany == 0)) then spec_l32Turn_j5 x5 K8 x18 x19 x20 true else spec_l32Turn_j5 x5 K8 x18 x19 x20 (!(x20.fSum == 0))
def spec_l32Turn_j3 (x1 : T_impl_Tally) (x5 : Int) (K8 : Bool → Int → (List T_impl_Tally) → Option (List T_impl_Tally)) (v13 : T_impl_Tally) (v15 : Int) (x17 : Bool) (x18 : List T_impl_Tally) : Option (List T_impl_Tally) := bif (v15 == 0) then spec_l32Turn_j4 x5 K8 x18 true ({ (({ (({ v13 with fRows := (w64 (v13.fRows + x1.fRows)) }) : T_impl_Tally) with fMany := (w64 ((({ v13 with fRows := (w64 (v13.fRows + x1.fRows)) } : T_impl_Tally).fMany) + x1.fMany)) }) : T_impl_Tally) with fSum := (w64 ((({ (({ v13 with fRows := (w64 (v13.fRows + x1.fRows)) }) : T_impl_Tally) with fMany := (w64 ((({ v13 with fRows := (w64 (v13.fRows + x1.fRows)) } : T_impl_Tally).fMany) + x1.fMany)) } : T_impl_Tally).fSum) + x1.fSum)) }) else spec_l32Turn_j4 x5 K8 x18 x17 v13
def spec_l32Turn_j6 (x1 : T_impl_Tally) (x4 : Bool) (x5 : Int) (x6 : List T_impl_Tally) (K8 : Bool → Int → (List T_impl_Tally) → Option (List T_impl_Tally)) (v13 : T_impl_Tally) (v15 : Int) (x28 : Bool) : Option (List T_impl_Tally) := bif x28 then (app x6 ([x1] : List T_impl_Tally)).bind fun v30 => spec_l32Turn_j3 x1 x5 K8 v13 v15 true v30 else spec_l32Turn_j3 x1 x5 K8 v13 v15 x4 x6
def spec_l32Turn_l1 (a0 : List T_impl_Tally) (x1 : T_impl_Tally) : Nat → Bool → Int → (List T_impl_Tally) → Option (List T_impl_Tally)
 | 0, _, _, _ => none
 | f7 + 1, x4, x5, x6 => bif (decide (x5 < (a0.length : Int))) then (getI a0 x5).bind fun v13 => (spec_RowOrder v13.fKey x1.fKey).bind fun v15 => bif (decide (v15 > 0)) then spec_l32Turn_j6 x1 x4 x5 x6 (spec_l32Turn_l1 a0 x1 f7) v13 v15 (!x4) else spec_l32Turn_j6 x1 x4 x5 x6 (spec_l32Turn_l1 a0 x1 f7) v13 v15 false else bif (!x4) then (app x6 ([x1] : List T_impl_Tally)).bind fun v34 => some v34 else some x6
def spec_l32Turn_j0 (a0 : List T_impl_Tally) (x1 : T_impl_Tally) : Option (List T_impl_Tally) := spec_l32Turn_l1 a0 x1 FUEL false 0 ([] : List T_impl_Tally)
def spec_l32Turn (a0 : List T_impl_Tally) (a1 : T_impl_Value) (a2 : T_impl_Value) (a3 : Int) : Option (List T_impl_Tally) := bif (a2.fKind == 1) then spec_l32Turn_j0 a0 (T_impl_Tally.mk ([a1]) a3 a3 (w64 (a3 * a2.fN))) else spec_l32Turn_j0 a0 (T_impl_Tally.mk ([a1]) a3 0 0)
end Go.D
