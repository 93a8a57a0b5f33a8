import Derived.Test.YtpkaieniomkofaaGreatBrDXFB
import Derived.KernelRfl
set_option linter.unusedVariables false
set_option linter.unusedSimpArgs false
namespace Go.D
open Go.Proofs
theorem ok_spec_l12Broken {a0 : List T_impl_Table} {a1 : T_impl_Bond} {y : Int} (h : spec_l12Broken a0 a1 = some y) : OK Tryz.prog 59 [A a0, E a1] (I y) := by
 refine ow Tryz.func59 fun Γ hX => ?_
 unfold spec_l12Broken at h
 refine srve 110 [(0, A a0), (3, pf a1 0)] [] ?_
 refine srv 3 110 [(0, A a0), (3, pf a1 0), (12, A a0), (14, I a1.fIn)] [] ?_
 obtain ⟨v1, hv2, h⟩ := bindS h
 refine opsP_idx τ_ok 15 hv2 (by kernel_rfl) ?_
 refine ve 3 110 [(0, A a0), (3, pf a1 0), (5, A v1.fRows)] [] ?_
 refine pwp_seq ?_
 refine srve 110 [(0, A a0), (3, pf a1 0), (5, A v1.fRows), (6, I 0)] [] ?_
 refine pwp_block ?_
 refine pwp_loop (ι := Nat × Int) (fun (f4, x3) => (⟨110, [(0, A a0), (3, pf a1 0), (5, A v1.fRows), (6, I x3)], []⟩ : St)) (fun (f4, x3) => spec_l12Broken_l0 a0 a1 v1 f4 x3 = some y) Prod.fst (FUEL, 0) h (it [0, 3, 5, 6]) ?_
 rintro ⟨f4, x3⟩ h
 dsimp only at h ⊢
 rcases f4 with _ | f4
 cases h
 rw [spec_l12Broken_l0] at h
 refine pwp_seq ?_
 refine srve 110 [(0, A a0), (3, pf a1 0), (5, A v1.fRows), (6, I x3), (21, B (decide (x3 < (v1.fRows.length : Int))))] [] ?_
 refine pc h (fun h => ?_) (fun h => ?_)
 refine pwp_skip ?_
 refine pwp_seq ?_
 refine pwp_join (σ := Unit) (fun _ => (⟨110, [(0, A a0), (3, pf a1 0), (5, A v1.fRows), (6, I x3)], []⟩ : St)) (fun _ => spec_l12Broken_j1 x3 (spec_l12Broken_l0 a0 a1 v1 f4) = some y) ?_ ?_
 refine pwp_block ?_
 refine srve 110 [(0, A a0), (3, pf a1 0), (5, A v1.fRows), (6, I x3), (25, I a1.fKind)] [] ?_
 refine pwp_block ?_
 refine srve 110 [(0, A a0), (3, pf a1 0), (5, A v1.fRows), (6, I x3), (25, I a1.fKind), (26, B (a1.fKind == 3))] [] ?_
 refine pc h (fun h => ?_) (fun h => ?_)
 refine pwp_seq ?_
 refine ip 110 [(0, A a0), (3, pf a1 0), (5, A v1.fRows), (6, I x3)] [] ?_
 refine pN 9 ?_
 refine qv [] trivial 2 110 [(29, I x3), (28, A v1.fRows), (0, A a0), (3, pf a1 0), (5, A v1.fRows), (6, I x3)] [] ?_
 obtain ⟨v8, hv9, h⟩ := bindS h
 refine qX (some 30) (pf v8 0) 110 [(30, pf v8 0), (0, A a0), (3, pf a1 0), (5, A v1.fRows), (6, I x3)] [] (fun Γ' hΓ => CoreE.of_y (idxV_sound τ_ok (by kernel_rfl) hv9)) trivial ?_
 refine qv [] trivial 3 110 [(33, A a1.fE), (31, A v8), (0, A a0), (3, pf a1 0), (5, A v1.fRows), (6, I x3)] [] ?_
 obtain ⟨v10, hv11, h⟩ := bindS h
 refine qX (some 34) (E v10) 110 [(34, E v10), (0, A a0), (3, pf a1 0), (5, A v1.fRows), (6, I x3)] [] (fun Γ' hΓ => CoreE.of_g (callV_sound (τ := τ) (by kernel_rfl) rfl (ok_spec_l4Value hv11) (FzTo.frz rfl))) trivial ?_
 obtain ⟨v12, hv13, h⟩ := bindS h
 refine qX (some 35) (E v12) 110 [(35, E v12), (34, E v10), (0, A a0), (3, pf a1 0), (5, A v1.fRows), (6, I x3)] [] (fun Γ' hΓ => CoreE.of_g (callV_sound (τ := τ) (by kernel_rfl) rfl (ok_spec_ValueOf hv13) (FzTo.frz rfl))) trivial ?_
 refine qvn [] trivial 1 110 [(0, A a0), (3, pf a1 0), (5, A v1.fRows), (6, I x3), (36, B (eq_T_impl_Value v10 v12))] [] ?_
 refine pc h (fun h => ?_) (fun h => ?_)
 refine srve 110 [(4, I x3)] [] ?_
 cases h
 exact pwp_ret rz
 refine pwp_skip ?_
 exact ⟨(), h, it [0, 3, 5, 6]⟩
 refine srve 110 [(0, A a0), (3, pf a1 0), (5, A v1.fRows), (6, I x3), (25, I a1.fKind), (38, B (a1.fKind == 1))] [] ?_
 refine pc h (fun h => ?_) (fun h => ?_)
 refine pwp_seq ?_
 refine ip 110 [(0, A a0), (3, pf a1 0), (5, A v1.fRows), (6, I x3)] [] ?_
 refine pN 8 ?_
 refine qv [] trivial 2 110 [(41, I x3), (40, A v1.fRows), (0, A a0), (3, pf a1 0), (5, A v1.fRows), (6, I x3)] [] ?_
 obtain ⟨v16, hv17, h⟩ := bindS h
 refine qX (some 42) (pf v16 0) 110 [(42, pf v16 0), (0, A a0), (3, pf a1 0), (5, A v1.fRows), (6, I x3)] [] (fun Γ' hΓ => CoreE.of_y (idxV_sound τ_ok (by kernel_rfl) hv17)) trivial ?_
 refine qv [] trivial 3 110 [(45, A a1.fList), (43, A v16), (0, A a0), (3, pf a1 0), (5, A v1.fRows), (6, I x3)] [] ?_
 obtain ⟨v18, hv19, h⟩ := bindS h
 refine qX (some 46) (A v18) 110 [(46, A v18), (0, A a0), (3, pf a1 0), (5, A v1.fRows), (6, I x3)] [] (fun Γ' hΓ => CoreE.of_g (callV_sound (τ := τ) (by kernel_rfl) rfl (ok_spec_l6Taken hv19) (FzTo.O _))) trivial ?_
 refine qvn [] trivial 1 110 [(0, A a0), (3, pf a1 0), (5, A v1.fRows), (6, I x3), (7, A v18)] [] ?_
 refine srve 110 [(0, A a0), (3, pf a1 0), (5, A v1.fRows), (6, I x3), (7, A v18), (8, I 0)] [] ?_
 refine pwp_block ?_
 refine pwp_loop (ι := Nat × Int) (fun (f21, x20) => (⟨110, [(0, A a0), (3, pf a1 0), (5, A v1.fRows), (6, I x3), (7, A v18), (8, I x20)], []⟩ : St)) (fun (f21, x20) => spec_l12Broken_l2 a1 v1 x3 (spec_l12Broken_l0 a0 a1 v1 f4) v18 f21 x20 = some y) Prod.fst (FUEL, 0) h (it [0, 3, 5, 6, 7, 8]) ?_
 rintro ⟨f21, x20⟩ h
 dsimp only at h ⊢
 rcases f21 with _ | f21
 cases h
 rw [spec_l12Broken_l2] at h
 refine pwp_seq ?_
 refine pwp_seq ?_
 refine pwp_join (σ := Bool) (fun x23 => (⟨110, [(0, A a0), (3, pf a1 0), (5, A v1.fRows), (6, I x3), (7, A v18), (8, I x20), (54, B x23)], []⟩ : St)) (fun x23 => spec_l12Broken_j3 a1 v1 x3 (spec_l12Broken_l0 a0 a1 v1 f4) v18 x20 (spec_l12Broken_l2 a1 v1 x3 (spec_l12Broken_l0 a0 a1 v1 f4) v18 f21) x23 = some y) ?_ ?_
 refine rv 4 110 [(0, A a0), (3, pf a1 0), (5, A v1.fRows), (6, I x3), (7, A v18), (8, I x20), (50, B (decide (x20 < x3)))] [] ?_
 rcases fk (decide (x20 < x3)) with hc34 | hc34
 replace h := bT hc34 h
 rw [hc34]
 refine v 1 110 [(0, A a0), (3, pf a1 0), (5, A v1.fRows), (6, I x3), (7, A v18), (8, I x20), (50, B true), (51, A v18)] [] ?_
 obtain ⟨v32, hv33, h⟩ := bindS h
 refine cF 52 (ok_spec_l12None hv33) ?_
 refine ve 2 110 [(0, A a0), (3, pf a1 0), (5, A v1.fRows), (6, I x3), (7, A v18), (8, I x20), (51, A v18), (52, B v32), (53, B (!v32)), (54, B (!v32))] [] ?_
 exact ⟨(!v32), h, it [0, 3, 5, 6, 7, 8, 54]⟩
 replace h := bF hc34 h
 rw [hc34]
 refine ve 4 110 [(0, A a0), (3, pf a1 0), (5, A v1.fRows), (6, I x3), (7, A v18), (8, I x20), (51, .lit undef), (52, .lit undef), (53, .lit undef), (54, B false)] [] ?_
 exact ⟨false, h, it [0, 3, 5, 6, 7, 8, 54]⟩
 rintro x23 h
 unfold spec_l12Broken_j3 at h
 refine pc h (fun h => ?_) (fun h => ?_)
 refine pwp_skip ?_
 refine pwp_seq ?_
 refine pwp_block ?_
 refine pwp_seq ?_
 refine ip 110 [(0, A a0), (3, pf a1 0), (5, A v1.fRows), (6, I x3), (7, A v18), (8, I x20)] [] ?_
 refine pN 9 ?_
 refine qv [] trivial 2 110 [(58, I x20), (57, A v1.fRows), (0, A a0), (3, pf a1 0), (5, A v1.fRows), (6, I x3), (7, A v18), (8, I x20)] [] ?_
 obtain ⟨v25, hv26, h⟩ := bindS h
 refine qX (some 59) (pf v25 0) 110 [(59, pf v25 0), (0, A a0), (3, pf a1 0), (5, A v1.fRows), (6, I x3), (7, A v18), (8, I x20)] [] (fun Γ' hΓ => CoreE.of_y (idxV_sound τ_ok (by kernel_rfl) hv26)) trivial ?_
 refine qv [] trivial 3 110 [(62, A a1.fList), (60, A v25), (0, A a0), (3, pf a1 0), (5, A v1.fRows), (6, I x3), (7, A v18), (8, I x20)] [] ?_
 obtain ⟨v27, hv28, h⟩ := bindS h
 refine qX (some 63) (A v27) 110 [(63, A v27), (0, A a0), (3, pf a1 0), (5, A v1.fRows), (6, I x3), (7, A v18), (8, I x20)] [] (fun Γ' hΓ => CoreE.of_g (callV_sound (τ := τ) (by kernel_rfl) rfl (ok_spec_l6Taken hv28) (FzTo.O _))) trivial ?_
 refine qv [] trivial 1 110 [(64, A v18), (63, A v27), (0, A a0), (3, pf a1 0), (5, A v1.fRows), (6, I x3), (7, A v18), (8, I x20)] [] ?_
 obtain ⟨v29, hv30, h⟩ := bindS h
 refine qX (some 65) (B v29) 110 [(65, B v29), (0, A a0), (3, pf a1 0), (5, A v1.fRows), (6, I x3), (7, A v18), (8, I x20)] [] (fun Γ' hΓ => CoreE.of_g (callV_sound (τ := τ) (by kernel_rfl) rfl (ok_spec_l3Same hv30) (FzTo.frz rfl))) trivial ?_
 refine qn 110 [(0, A a0), (3, pf a1 0), (5, A v1.fRows), (6, I x3), (7, A v18), (8, I x20), (65, B v29)] [] ?_
 refine pc h (fun h => ?_) (fun h => ?_)
 refine srve 110 [(4, I x3)] [] ?_
 cases h
 exact pwp_ret rz
 refine pwp_skip ?_
 refine rve 110 [(0, A a0), (3, pf a1 0), (5, A v1.fRows), (6, I x3), (7, A v18), (8, I (w64 (x20 + 1)))] [] ?_
 exact ⟨(f21, (w64 (x20 + 1))), h, Nat.lt_succ_self _, it [0, 3, 5, 6, 7, 8]⟩
 refine pwp_exit ?_
 exact ⟨(), h, it [0, 3, 5, 6]⟩
 refine srve 110 [(0, A a0), (3, pf a1 0), (5, A v1.fRows), (6, I x3), (67, B (a1.fKind == 2))] [] ?_
 refine pc h (fun h => ?_) (fun h => ?_)
 refine pwp_seq ?_
 refine ip 110 [(0, A a0), (3, pf a1 0), (5, A v1.fRows), (6, I x3)] [] ?_
 refine pN 8 ?_
 refine qv [] trivial 2 110 [(70, I x3), (69, A v1.fRows), (0, A a0), (3, pf a1 0), (5, A v1.fRows), (6, I x3)] [] ?_
 obtain ⟨v36, hv37, h⟩ := bindS h
 refine qX (some 71) (pf v36 0) 110 [(71, pf v36 0), (0, A a0), (3, pf a1 0), (5, A v1.fRows), (6, I x3)] [] (fun Γ' hΓ => CoreE.of_y (idxV_sound τ_ok (by kernel_rfl) hv37)) trivial ?_
 refine qv [] trivial 3 110 [(74, A a1.fList), (72, A v36), (0, A a0), (3, pf a1 0), (5, A v1.fRows), (6, I x3)] [] ?_
 obtain ⟨v38, hv39, h⟩ := bindS h
 refine qX (some 75) (A v38) 110 [(75, A v38), (0, A a0), (3, pf a1 0), (5, A v1.fRows), (6, I x3)] [] (fun Γ' hΓ => CoreE.of_g (callV_sound (τ := τ) (by kernel_rfl) rfl (ok_spec_l6Taken hv39) (FzTo.O _))) trivial ?_
 refine qvn [] trivial 1 110 [(0, A a0), (3, pf a1 0), (5, A v1.fRows), (6, I x3), (9, A v38)] [] ?_
 refine srv 1 110 [(0, A a0), (3, pf a1 0), (5, A v1.fRows), (6, I x3), (9, A v38), (76, A v38)] [] ?_
 obtain ⟨v40, hv41, h⟩ := bindS h
 refine cF 77 (ok_spec_l12None hv41) ?_
 refine ve 1 110 [(0, A a0), (3, pf a1 0), (5, A v1.fRows), (6, I x3), (9, A v38), (10, B v40)] [] ?_
 refine pwp_seq ?_
 refine srve 110 [(0, A a0), (3, pf a1 0), (5, A v1.fRows), (6, I x3), (9, A v38), (10, B v40), (11, I 0)] [] ?_
 refine pwp_block ?_
 refine pwp_loop (ι := Nat × Bool × Int) (fun (f44, x42, x43) => (⟨110, [(0, A a0), (3, pf a1 0), (5, A v1.fRows), (6, I x3), (9, A v38), (10, B x42), (11, I x43)], []⟩ : St)) (fun (f44, x42, x43) => spec_l12Broken_l4 a0 a1 x3 (spec_l12Broken_l0 a0 a1 v1 f4) v38 f44 x42 x43 = some y) Prod.fst (FUEL, v40, 0) h (it [0, 3, 5, 6, 9, 10, 11]) ?_
 rintro ⟨f44, x42, x43⟩ h
 dsimp only at h ⊢
 rcases f44 with _ | f44
 cases h
 rw [spec_l12Broken_l4] at h
 refine pwp_seq ?_
 refine pwp_seq ?_
 refine pwp_join (σ := Bool) (fun x46 => (⟨110, [(0, A a0), (3, pf a1 0), (5, A v1.fRows), (6, I x3), (9, A v38), (10, B x42), (11, I x43), (90, B x46)], []⟩ : St)) (fun x46 => spec_l12Broken_j5 a0 a1 x3 (spec_l12Broken_l0 a0 a1 v1 f4) v38 x42 x43 (spec_l12Broken_l4 a0 a1 x3 (spec_l12Broken_l0 a0 a1 v1 f4) v38 f44) x46 = some y) ?_ ?_
 refine rv 4 110 [(0, A a0), (3, pf a1 0), (5, A v1.fRows), (6, I x3), (9, A v38), (10, B x42), (11, I x43), (78, I x43), (79, A a0), (81, I a1.fOf)] [] ?_
 obtain ⟨v57, hv58, h⟩ := bindS h
 refine opsP_idx τ_ok 82 hv58 (by kernel_rfl) ?_
 refine v 5 110 [(0, A a0), (3, pf a1 0), (5, A v1.fRows), (6, I x3), (9, A v38), (10, B x42), (11, I x43), (87, B (decide (x43 < (v57.fRows.length : Int))))] [] ?_
 rcases fk (decide (x43 < (v57.fRows.length : Int))) with hc59 | hc59
 replace h := bT hc59 h
 rw [hc59]
 refine ve 3 110 [(0, A a0), (3, pf a1 0), (5, A v1.fRows), (6, I x3), (9, A v38), (10, B x42), (11, I x43), (88, B x42), (89, B (!x42)), (90, B (!x42))] [] ?_
 exact ⟨(!x42), h, it [0, 3, 5, 6, 9, 10, 11, 90]⟩
 replace h := bF hc59 h
 rw [hc59]
 refine ve 3 110 [(0, A a0), (3, pf a1 0), (5, A v1.fRows), (6, I x3), (9, A v38), (10, B x42), (11, I x43), (88, .lit undef), (89, .lit undef), (90, B false)] [] ?_
 exact ⟨false, h, it [0, 3, 5, 6, 9, 10, 11, 90]⟩
 rintro x46 h
 unfold spec_l12Broken_j5 at h
 refine pc h (fun h => ?_) (fun h => ?_)
 refine pwp_skip ?_
 refine pwp_seq ?_
 refine pwp_block ?_
 refine ip 110 [(0, A a0), (3, pf a1 0), (5, A v1.fRows), (6, I x3), (9, A v38), (11, I x43)] [] ?_
 refine pN 15 ?_
 refine qv [] trivial 3 110 [(95, I a1.fOf), (93, A a0), (0, A a0), (3, pf a1 0), (5, A v1.fRows), (6, I x3), (9, A v38), (11, I x43)] [] ?_
 obtain ⟨v48, hv49, h⟩ := bindS h
 refine qX (some 96) (pf v48 0) 110 [(96, pf v48 0), (0, A a0), (3, pf a1 0), (5, A v1.fRows), (6, I x3), (9, A v38), (11, I x43)] [] (fun Γ' hΓ => CoreE.of_y (idxV_sound τ_ok (by kernel_rfl) hv49)) trivial ?_
 refine qv [] trivial 3 110 [(99, I x43), (98, A v48.fRows), (0, A a0), (3, pf a1 0), (5, A v1.fRows), (6, I x3), (9, A v38), (11, I x43)] [] ?_
 obtain ⟨v50, hv51, h⟩ := bindS h
 refine qX (some 100) (pf v50 0) 110 [(100, pf v50 0), (0, A a0), (3, pf a1 0), (5, A v1.fRows), (6, I x3), (9, A v38), (11, I x43)] [] (fun Γ' hΓ => CoreE.of_y (idxV_sound τ_ok (by kernel_rfl) hv51)) trivial ?_
 refine qv [] trivial 3 110 [(103, A a1.fTo), (101, A v50), (0, A a0), (3, pf a1 0), (5, A v1.fRows), (6, I x3), (9, A v38), (11, I x43)] [] ?_
 obtain ⟨v52, hv53, h⟩ := bindS h
 refine qX (some 104) (A v52) 110 [(104, A v52), (0, A a0), (3, pf a1 0), (5, A v1.fRows), (6, I x3), (9, A v38), (11, I x43)] [] (fun Γ' hΓ => CoreE.of_g (callV_sound (τ := τ) (by kernel_rfl) rfl (ok_spec_l6Taken hv53) (FzTo.O _))) trivial ?_
 refine qv [] trivial 1 110 [(105, A v38), (104, A v52), (0, A a0), (3, pf a1 0), (5, A v1.fRows), (6, I x3), (9, A v38), (11, I x43)] [] ?_
 obtain ⟨v54, hv55, h⟩ := bindS h
 refine qX (some 106) (B v54) 110 [(106, B v54), (0, A a0), (3, pf a1 0), (5, A v1.fRows), (6, I x3), (9, A v38), (11, I x43)] [] (fun Γ' hΓ => CoreE.of_g (callV_sound (τ := τ) (by kernel_rfl) rfl (ok_spec_l3Same hv55) (FzTo.frz rfl))) trivial ?_
 refine qvn [] trivial 1 110 [(0, A a0), (3, pf a1 0), (5, A v1.fRows), (6, I x3), (9, A v38), (10, B v54), (11, I x43)] [] ?_
 refine rve 110 [(0, A a0), (3, pf a1 0), (5, A v1.fRows), (6, I x3), (9, A v38), (10, B v54), (11, I (w64 (x43 + 1)))] [] ?_
 exact ⟨(f44, v54, (w64 (x43 + 1))), h, Nat.lt_succ_self _, it [0, 3, 5, 6, 9, 10, 11]⟩
 refine pwp_exit ?_
 refine srve 110 [(0, A a0), (3, pf a1 0), (5, A v1.fRows), (6, I x3), (108, B (!x42))] [] ?_
 refine pc h (fun h => ?_) (fun h => ?_)
 refine srve 110 [(4, I x3)] [] ?_
 cases h
 exact pwp_ret rz
 refine pwp_skip ?_
 exact ⟨(), h, it [0, 3, 5, 6]⟩
 refine pwp_skip ?_
 exact ⟨(), h, it [0, 3, 5, 6]⟩
 rintro _ h
 unfold spec_l12Broken_j1 at h
 refine rve 110 [(0, A a0), (3, pf a1 0), (5, A v1.fRows), (6, I (w64 (x3 + 1)))] [] ?_
 exact ⟨(f4, (w64 (x3 + 1))), h, Nat.lt_succ_self _, it [0, 3, 5, 6]⟩
 refine pwp_exit ?_
 refine srve 110 [(4, I (-1))] [] ?_
 cases h
 exact pwp_ret rz
def impl_exprValue_l0 (a0 : List T_impl_Value) (a1 : List T_impl_Part) : Nat → Int → (List T_impl_Value) → Option T_impl_Value
 | 0, _, _ => none
 | f5 + 1, x3, x4 => bif (decide (x3 < (a1.length : Int))) then (getI a1 x3).bind fun v8 => (impl_Part_takes v8).bind fun v10 => (slI x4 (some (w64 ((x4.length : Int) - v10))) none none).bind fun v12 => (impl_Part_value v8 a0 v12).bind fun v14 => (slI x4 none (some (w64 ((x4.length : Int) - v10))) none).bind fun v16 => (appT x4 ([v14] : List T_impl_Value) v16.length).bind fun v18 => (impl_exprValue_l0 a0 a1 f5) (w64 (x3 + 1)) v18 else (getI x4 (0 : Int)).bind fun v20 => some v20
def impl_exprValue (a0 : List T_impl_Value) (a1 : List T_impl_Part) : Option T_impl_Value := impl_exprValue_l0 a0 a1 FUEL 0 ([] : List T_impl_Value)
theorem ok_impl_exprValue {a0 : List T_impl_Value} {a1 : List T_impl_Part} {y : T_impl_Value} (h : impl_exprValue a0 a1 = some y) : OK Tryz.prog 99 [A a0, A a1] (E y) := by
 refine ow Tryz.func99 fun Γ hX => ?_
 unfold impl_exprValue at h
 refine srveM [4, 7, 9] 37 [(0, A a0), (1, A a1), (4, .ptr 0 0 0)] [some ⟨0, Enc.cells (T_impl_Value.mk 0 0 (ByteArray.mk #[]))⟩] ?_
 refine srveM [4, 7, 9] 37 [(0, A a0), (1, A a1), (4, .ptr 0 0 0), (5, .arr 3 0 (eL ([] : List T_impl_Value)) true)] [some ⟨0, Enc.cells (T_impl_Value.mk 0 0 (ByteArray.mk #[]))⟩] ?_
 refine pwp_seq ?_
 refine srveM [4, 7, 9] 37 [(0, A a0), (4, .ptr 0 0 0), (5, .arr 3 0 (eL ([] : List T_impl_Value)) true), (10, A a1), (11, I (a1.length : Int)), (12, I 0)] [some ⟨0, Enc.cells (T_impl_Value.mk 0 0 (ByteArray.mk #[]))⟩] ?_
 refine pwp_block ?_
 refine pwp_loop (ι := Nat × Int × (List T_impl_Value)) (fun (f5, x3, x4) => (⟨37, [(0, A a0), (4, .ptr 0 0 0), (5, rf 1 0 3 x4), (10, A a1), (11, I (a1.length : Int)), (12, I x3)], [some ⟨0, Enc.cells (T_impl_Value.mk 0 0 (ByteArray.mk #[]))⟩, sl 0 x4]⟩ : St)) (fun (f5, x3, x4) => impl_exprValue_l0 a0 a1 f5 x3 x4 = some y) Prod.fst (FUEL, 0, ([] : List T_impl_Value)) h (Imp.thawS 5 [0, 4, 5, 10, 11, 12] (by kernel_rfl)) ?_
 rintro ⟨f5, x3, x4⟩ h
 dsimp only at h ⊢
 rcases f5 with _ | f5
 cases h
 rw [impl_exprValue_l0] at h
 refine srveM [4, 7, 9] 37 [(0, A a0), (4, .ptr 0 0 0), (5, rf 1 0 3 x4), (10, A a1), (11, I (a1.length : Int)), (12, I x3), (13, B (decide (x3 < (a1.length : Int))))] [some ⟨0, Enc.cells (T_impl_Value.mk 0 0 (ByteArray.mk #[]))⟩, sl 0 x4] ?_
 refine pwp_seq ?_
 refine pc h (fun h => ?_) (fun h => ?_)
 refine pwp_skip ?_
 refine pwp_seq ?_
 refine pwp_block ?_
 refine pwp_seq ?_
 refine pwp_region ?_
 obtain ⟨v8, hv9, h⟩ := bindS h
 refine opsP_idx τ_ok 14 hv9 (by kernel_rfl) ?_
 refine veM [4, 7, 9] 3 37 [(0, A a0), (4, .ptr 0 0 0), (5, rf 1 0 3 x4), (7, .ptr 2 0 0), (10, A a1), (11, I (a1.length : Int)), (12, I x3)] [some ⟨0, Enc.cells (T_impl_Value.mk 0 0 (ByteArray.mk #[]))⟩, sl 0 x4, sc 0 v8] ?_
 refine srvM [4, 7, 9] 3 37 [(0, A a0), (4, .ptr 0 0 0), (5, rf 1 0 3 x4), (7, .ptr 2 0 0), (10, A a1), (11, I (a1.length : Int)), (12, I x3), (17, I (x4.length : Int)), (18, E v8)] [some ⟨0, Enc.cells (T_impl_Value.mk 0 0 (ByteArray.mk #[]))⟩, sl 0 x4, sc 0 v8] ?_
 obtain ⟨v10, hv11, h⟩ := bindS h
 refine cF 19 (ok_impl_Part_takes hv11) ?_
 refine veM [4, 7, 9] 2 37 [(0, A a0), (4, .ptr 0 0 0), (5, rf 1 0 3 x4), (7, .ptr 2 0 0), (8, I (w64 ((x4.length : Int) - v10))), (10, A a1), (11, I (a1.length : Int)), (12, I x3)] [some ⟨0, Enc.cells (T_impl_Value.mk 0 0 (ByteArray.mk #[]))⟩, sl 0 x4, sc 0 v8] ?_
 refine pwp_seq ?_
 refine ip 37 [(0, A a0), (4, .ptr 0 0 0), (5, rf 1 0 3 x4), (7, .ptr 2 0 0), (8, I (w64 ((x4.length : Int) - v10))), (10, A a1), (11, I (a1.length : Int)), (12, I x3)] [some ⟨0, Enc.cells (T_impl_Value.mk 0 0 (ByteArray.mk #[]))⟩, sl 0 x4, sc 0 v8] ?_
 refine pwp_imp (Imp.ghosts 1 (st' := ⟨37, [(0, A a0), (4, .ptr 0 0 0), (5, rf 1 0 3 x4), (7, .ptr 2 0 0), (8, I (w64 ((x4.length : Int) - v10))), (10, A a1), (11, I (a1.length : Int)), (12, I x3)], [some ⟨0, Enc.cells (T_impl_Value.mk 0 0 (ByteArray.mk #[]))⟩, sl 0 x4, sc 0 v8, some ⟨0, []⟩]⟩) (by kernel_rfl)) ?_
 refine pwp_any ([[2], [], [1], [], [1], [1], [3], [3]]) ([[], [], [], [], [], [], [3], [3]]) rfl (by kernel_rfl) ?_
 refine qvM [4, 7, 9] [2] (hB trivial) 1 37 [(21, E v8), (0, A a0), (4, .ptr 0 0 0), (5, rf 1 0 3 x4), (8, I (w64 ((x4.length : Int) - v10))), (10, A a1), (11, I (a1.length : Int)), (12, I x3)] [some ⟨0, Enc.cells (T_impl_Value.mk 0 0 (ByteArray.mk #[]))⟩, sl 0 x4, sc 0 v8, some ⟨0, []⟩] ?_
 refine qvM [4, 7, 9] [] trivial 1 37 [(22, A a0), (21, E v8), (0, A a0), (4, .ptr 0 0 0), (5, rf 1 0 3 x4), (8, I (w64 ((x4.length : Int) - v10))), (10, A a1), (11, I (a1.length : Int)), (12, I x3)] [some ⟨0, Enc.cells (T_impl_Value.mk 0 0 (ByteArray.mk #[]))⟩, sl 0 x4, sc 0 v8, some ⟨0, []⟩] ?_
 refine qvM [4, 7, 9] [1] (hL trivial) 1 37 [(23, rf 1 0 3 x4), (22, A a0), (21, E v8), (0, A a0), (4, .ptr 0 0 0), (5, rf 1 0 3 x4), (8, I (w64 ((x4.length : Int) - v10))), (10, A a1), (11, I (a1.length : Int)), (12, I x3)] [some ⟨0, Enc.cells (T_impl_Value.mk 0 0 (ByteArray.mk #[]))⟩, sl 0 x4, sc 0 v8, some ⟨0, []⟩] ?_
 refine qvM [4, 7, 9] [] trivial 1 37 [(24, I (w64 ((x4.length : Int) - v10))), (23, rf 1 0 3 x4), (22, A a0), (21, E v8), (0, A a0), (4, .ptr 0 0 0), (5, rf 1 0 3 x4), (8, I (w64 ((x4.length : Int) - v10))), (10, A a1), (11, I (a1.length : Int)), (12, I x3)] [some ⟨0, Enc.cells (T_impl_Value.mk 0 0 (ByteArray.mk #[]))⟩, sl 0 x4, sc 0 v8, some ⟨0, []⟩] ?_
 obtain ⟨v12, hv13, h⟩ := bindS h
 refine qX (some 25) (.ref 1 0 ((w64 ((x4.length : Int) - v10)).toNat * 3) 3 v12.length false) 37 [(25, .ref 1 0 ((w64 ((x4.length : Int) - v10)).toNat * 3) 3 v12.length false), (22, A a0), (21, E v8), (0, A a0), (4, .ptr 0 0 0), (5, rf 1 0 3 x4), (8, I (w64 ((x4.length : Int) - v10))), (10, A a1), (11, I (a1.length : Int)), (12, I x3)] [some ⟨0, Enc.cells (T_impl_Value.mk 0 0 (ByteArray.mk #[]))⟩, sl 0 x4, sc 0 v8, some ⟨0, []⟩] (fun Γ' hΓ => CoreE.of_y (slrV_sound (n := x4.length) τ_ok (by kernel_rfl) rfl hv13)) (hL trivial) ?_
 obtain ⟨v14, hv15, h⟩ := bindS h
 refine qX (some 26) (E v14) 37 [(26, E v14), (0, A a0), (4, .ptr 0 0 0), (5, rf 1 0 3 x4), (8, I (w64 ((x4.length : Int) - v10))), (10, A a1), (11, I (a1.length : Int)), (12, I x3)] [some ⟨0, Enc.cells (T_impl_Value.mk 0 0 (ByteArray.mk #[]))⟩, sl 0 x4, sc 0 v8, some ⟨0, []⟩] (fun Γ' hΓ => CoreE.of_g (callVV_sound (xs := [E v8, A a0, .ref 1 0 ((w64 ((x4.length : Int) - v10)).toNat * 3) 3 v12.length false]) (τ := τ) (by kernel_rfl) (ViewL.cons (View.frz rfl) (ViewL.cons (View.frz rfl) (ViewL.cons (View.ref (v := 0) (lo := (w64 ((x4.length : Int) - v10)).toNat) x4 v12 (by kernel_rfl) (slI_view hv13) rfl) (ViewL.nil _)))) (ok_impl_Part_value hv15) (Blind.E _ rfl rfl) (FzTo.frz rfl))) (hL trivial) ?_
 refine qX (Hm' := [none, none, none, some ⟨1, Enc.cells (T_impl_Value.mk 0 0 (ByteArray.mk #[]))⟩]) (some 9) (.ptr 3 1 0) 37 [(9, .ptr 3 1 0), (26, E v14), (0, A a0), (4, .ptr 0 0 0), (5, rf 1 0 3 x4), (8, I (w64 ((x4.length : Int) - v10))), (10, A a1), (11, I (a1.length : Int)), (12, I x3)] [some ⟨0, Enc.cells (T_impl_Value.mk 0 0 (ByteArray.mk #[]))⟩, sl 0 x4, sc 0 v8, some ⟨1, Enc.cells (T_impl_Value.mk 0 0 (ByteArray.mk #[]))⟩] (fun Γ' hΓ => alc_E (blk := ⟨0, []⟩) τ_ok [4, 7, 9] 9 3 0 (ny hΓ hX) (by kernel_rfl) (by kernel_rfl)) (hB trivial) ?_
 refine qX (Hm' := [none, none, none, sc 1 v14]) none (.any) 37 [(9, .ptr 3 1 0), (0, A a0), (4, .ptr 0 0 0), (5, rf 1 0 3 x4), (8, I (w64 ((x4.length : Int) - v10))), (10, A a1), (11, I (a1.length : Int)), (12, I x3)] [some ⟨0, Enc.cells (T_impl_Value.mk 0 0 (ByteArray.mk #[]))⟩, sl 0 x4, sc 0 v8, sc 1 v14] (fun Γ' hΓ => sto_E τ_ok 3 1 (by kernel_rfl)) (hB trivial) ?_
 refine qn 37 [(0, A a0), (4, .ptr 0 0 0), (5, rf 1 0 3 x4), (8, I (w64 ((x4.length : Int) - v10))), (9, .ptr 3 1 0), (10, A a1), (11, I (a1.length : Int)), (12, I x3)] [some ⟨0, Enc.cells (T_impl_Value.mk 0 0 (ByteArray.mk #[]))⟩, sl 0 x4, sc 0 v8, sc 1 v14] ?_
 refine ip 37 [(0, A a0), (4, .ptr 0 0 0), (5, rf 1 0 3 x4), (8, I (w64 ((x4.length : Int) - v10))), (9, .ptr 3 1 0), (10, A a1), (11, I (a1.length : Int)), (12, I x3)] [some ⟨0, Enc.cells (T_impl_Value.mk 0 0 (ByteArray.mk #[]))⟩, sl 0 x4, sc 0 v8, sc 1 v14] ?_
 refine pwp_any ([[1], [], [1], [3], [], [1], [1]]) ([[], [], [], [], [], [1], []]) rfl (by kernel_rfl) ?_
 refine qvM [4, 7, 9] [1] (hL trivial) 1 37 [(27, rf 1 0 3 x4), (0, A a0), (4, .ptr 0 0 0), (5, rf 1 0 3 x4), (8, I (w64 ((x4.length : Int) - v10))), (9, .ptr 3 1 0), (10, A a1), (11, I (a1.length : Int)), (12, I x3)] [some ⟨0, Enc.cells (T_impl_Value.mk 0 0 (ByteArray.mk #[]))⟩, sl 0 x4, sc 0 v8, sc 1 v14] ?_
 refine qvM [4, 7, 9] [] trivial 1 37 [(28, I (w64 ((x4.length : Int) - v10))), (27, rf 1 0 3 x4), (0, A a0), (4, .ptr 0 0 0), (5, rf 1 0 3 x4), (9, .ptr 3 1 0), (10, A a1), (11, I (a1.length : Int)), (12, I x3)] [some ⟨0, Enc.cells (T_impl_Value.mk 0 0 (ByteArray.mk #[]))⟩, sl 0 x4, sc 0 v8, sc 1 v14] ?_
 obtain ⟨v16, hv17, h⟩ := bindS h
 refine qX (some 29) (rf 1 0 3 v16) 37 [(29, rf 1 0 3 v16), (0, A a0), (4, .ptr 0 0 0), (5, rf 1 0 3 x4), (9, .ptr 3 1 0), (10, A a1), (11, I (a1.length : Int)), (12, I x3)] [some ⟨0, Enc.cells (T_impl_Value.mk 0 0 (ByteArray.mk #[]))⟩, sl 0 x4, sc 0 v8, sc 1 v14] (fun Γ' hΓ => CoreE.of_y (slrV_sound (n := x4.length) τ_ok (by kernel_rfl) rfl hv17)) (hL trivial) ?_
 refine qvM [4, 7, 9] [3] (hB trivial) 1 37 [(30, E v14), (29, rf 1 0 3 v16), (0, A a0), (4, .ptr 0 0 0), (5, rf 1 0 3 x4), (10, A a1), (11, I (a1.length : Int)), (12, I x3)] [some ⟨0, Enc.cells (T_impl_Value.mk 0 0 (ByteArray.mk #[]))⟩, sl 0 x4, sc 0 v8, sc 1 v14] ?_
 refine qvM [4, 7, 9] [] trivial 1 37 [(31, .arr 3 ([v14] : List T_impl_Value).length (eL ([v14] : List T_impl_Value)) true), (29, rf 1 0 3 v16), (0, A a0), (4, .ptr 0 0 0), (5, rf 1 0 3 x4), (10, A a1), (11, I (a1.length : Int)), (12, I x3)] [some ⟨0, Enc.cells (T_impl_Value.mk 0 0 (ByteArray.mk #[]))⟩, sl 0 x4, sc 0 v8, sc 1 v14] ?_
 obtain ⟨v18, hv19, h⟩ := bindS h
 refine qX (some 32) (rf 1 1 3 v18) 37 [(32, rf 1 1 3 v18), (0, A a0), (4, .ptr 0 0 0), (5, rf 1 0 3 x4), (10, A a1), (11, I (a1.length : Int)), (12, I x3)] [some ⟨0, Enc.cells (T_impl_Value.mk 0 0 (ByteArray.mk #[]))⟩, sl 1 v18, sc 0 v8, sc 1 v14] (fun Γ' hΓ => app_E τ_ok 32 1 0 v16.length (ny hΓ hX) hv19 (slI_le hv17) (by kernel_rfl)) (hL trivial) ?_
 refine qvnM [4, 7, 9] [1] (hL trivial) 1 37 [(0, A a0), (4, .ptr 0 0 0), (5, rf 1 1 3 v18), (10, A a1), (11, I (a1.length : Int)), (12, I x3)] [some ⟨0, Enc.cells (T_impl_Value.mk 0 0 (ByteArray.mk #[]))⟩, sl 1 v18, sc 0 v8, sc 1 v14] ?_
 refine rveM [4, 7, 9] 37 [(0, A a0), (4, .ptr 0 0 0), (5, rf 1 1 3 v18), (10, A a1), (11, I (a1.length : Int)), (12, I (w64 (x3 + 1)))] [some ⟨0, Enc.cells (T_impl_Value.mk 0 0 (ByteArray.mk #[]))⟩, sl 1 v18, sc 0 v8, sc 1 v14] ?_
 exact ⟨(f5, (w64 (x3 + 1)), v18), h, Nat.lt_succ_self _, qt (it (st' := ⟨37, [(0, A a0), (4, .ptr 0 0 0), (5, rf 1 1 3 v18), (10, A a1), (11, I (a1.length : Int)), (12, I (w64 (x3 + 1)))], [some ⟨0, Enc.cells (T_impl_Value.mk 0 0 (ByteArray.mk #[]))⟩, sl 1 v18, sc 0 v8, sc 1 v14]⟩) [0, 4, 5, 10, 11, 12]) (qt (Imp.truncS (st' := ⟨37, [(0, A a0), (4, .ptr 0 0 0), (5, rf 1 1 3 v18), (10, A a1), (11, I (a1.length : Int)), (12, I (w64 (x3 + 1)))], [some ⟨0, Enc.cells (T_impl_Value.mk 0 0 (ByteArray.mk #[]))⟩, sl 1 v18]⟩) 2 (nx hX) (by kernel_rfl) (allBelow_mem (by exact (And.intro rfl (And.intro rfl (And.intro rfl (And.intro rfl (And.intro rfl (And.intro rfl trivial)))))))) (by exact (And.intro (rfl) (And.intro (frz_below (eL_frz _)) trivial))) (by kernel_rfl)) (Imp.reverS 1 1 (eL v18) [0, 4, 5, 10, 11, 12] (by kernel_rfl) (by exact (And.intro (rfl) (And.intro (eL_frz _) trivial))) (by kernel_rfl)))⟩
 refine pwp_exit ?_
 refine srvM [4, 7, 9] 1 37 [(4, .ptr 0 0 0), (34, rf 1 0 3 x4)] [some ⟨0, Enc.cells (T_impl_Value.mk 0 0 (ByteArray.mk #[]))⟩, sl 0 x4] ?_
 obtain ⟨v20, hv21, h⟩ := bindS h
 refine opsP_idr τ_ok 35 1 0 x4.length hv21 rfl (by kernel_rfl) ?_
 refine opsP_lde (r := E v20) τ_ok 36 90 0 hv21 (by kernel_rfl) (by kernel_rfl) ?_
 refine veM [4, 7, 9] 1 37 [(4, .ptr 0 0 0)] [sc 0 v20, sl 0 x4] ?_
 cases h
 exact pwp_ret rz
def impl_Bond_breaks (a0 : T_impl_Bond) (a1 : List T_impl_Table) (a2 : Int) : Option Bool := (getI a1 a0.fIn).bind fun v1 => (getI v1.fRows a2).bind fun v3 => bif (a0.fKind == 3) then (impl_exprValue v3 a0.fE).bind fun v6 => (impl_ValueOf 0).bind fun v8 => some (eq_T_impl_Value v6 v8) else (impl_taken v3 a0.fList).bind fun v10 => (slices_ContainsFunc_impl_Value_impl_Value v10 impl_Bond_breaks_1).bind fun v12 => bif v12 then some false else bif (a0.fKind == 1) then (getI a1 a0.fIn).bind fun v16 => (slI v16.fRows none (some a2) none).bind fun v18 => (impl_Bond_breaks_2 a0.fList v10).bind fun v20 => (slices_ContainsFunc_impl_Value_impl_Value_s3 v18 (fun z0 => impl_Bond_breaks_2_1 z0 a0.fList v10)).bind fun v22 => some v22 else (getI a1 a0.fOf).bind fun v24 => (impl_Bond_breaks_2 a0.fTo v10).bind fun v26 => (slices_ContainsFunc_impl_Value_impl_Value_s3 v24.fRows (fun z0 => impl_Bond_breaks_2_1 z0 a0.fTo v10)).bind fun v28 => some (!v28)
theorem ok_impl_Bond_breaks {a0 : T_impl_Bond} {a1 : List T_impl_Table} {a2 : Int} {y : Bool} (h : impl_Bond_breaks a0 a1 a2 = some y) : OK Tryz.prog 112 [E a0, A a1, I a2] (B y) := by
 refine ow Tryz.func112 fun Γ hX => ?_
 unfold impl_Bond_breaks at h
 refine srveM [8] 63 [(1, A a1), (2, I a2), (3, pf a0 0)] [] ?_
 refine srvM [8] 3 63 [(1, A a1), (2, I a2), (3, pf a0 0), (10, A a1), (12, I a0.fIn)] [] ?_
 obtain ⟨v1, hv2, h⟩ := bindS h
 refine opsP_idx τ_ok 13 hv2 (by kernel_rfl) ?_
 refine vM [8] 3 63 [(1, A a1), (2, I a2), (3, pf a0 0), (15, A v1.fRows), (16, I a2)] [] ?_
 obtain ⟨v3, hv4, h⟩ := bindS h
 refine opsP_idx τ_ok 17 hv4 (by kernel_rfl) ?_
 refine veM [8] 2 63 [(1, A a1), (2, I a2), (3, pf a0 0), (7, A v3)] [] ?_
 refine pwp_seq ?_
 refine srveM [8] 63 [(1, A a1), (2, I a2), (3, pf a0 0), (7, A v3), (21, B (a0.fKind == 3))] [] ?_
 refine pc h (fun h => ?_) (fun h => ?_)
 refine srvM [8] 3 63 [(22, A v3), (24, A a0.fE)] [] ?_
 obtain ⟨v6, hv7, h⟩ := bindS h
 refine cF 25 (ok_impl_exprValue hv7) ?_
 obtain ⟨v8, hv9, h⟩ := bindS h
 refine cF 26 (ok_impl_ValueOf hv9) ?_
 refine veM [8] 2 63 [(6, B (eq_T_impl_Value v6 v8))] [] ?_
 cases h
 exact pwp_ret rz
 refine pwp_skip ?_
 refine srvM [8] 3 63 [(1, A a1), (2, I a2), (3, pf a0 0), (28, A v3), (30, A a0.fList)] [] ?_
 obtain ⟨v10, hv11, h⟩ := bindS h
 refine cF 31 (ok_impl_taken hv11) ?_
 refine veM [8] 2 63 [(1, A a1), (2, I a2), (3, pf a0 0), (8, .ptr 0 0 0)] [sc 0 v10] ?_
 refine pwp_seq ?_
 refine srvM [8] 1 63 [(1, A a1), (2, I a2), (3, pf a0 0), (8, .ptr 0 0 0), (32, A v10)] [sc 0 v10] ?_
 obtain ⟨v12, hv13, h⟩ := bindS h
 refine cF 33 (ok_slices_ContainsFunc_impl_Value_impl_Value (rfl) (fun _ w hw => ok_impl_Bond_breaks_1 hw) hv13) ?_
 refine veM [8] 0 63 [(1, A a1), (2, I a2), (3, pf a0 0), (8, .ptr 0 0 0), (33, B v12)] [sc 0 v10] ?_
 refine pc h (fun h => ?_) (fun h => ?_)
 refine srveM [8] 63 [(6, B false)] [sc 0 v10] ?_
 cases h
 exact pwp_ret rz
 refine pwp_skip ?_
 refine srvM [8] 0 63 [(1, A a1), (2, I a2), (3, pf a0 0), (8, .ptr 0 0 0)] [sc 0 v10] ?_
 refine opsP_imp (Imp.freezeB (v := 0) (cs := Enc.cells v10) (st' := ⟨63, [(1, A a1), (2, I a2), (3, pf a0 0), (8, pf v10 0)], [none]⟩) 0 0 (nx hX) (by kernel_rfl) (Enc.frz _) (wholeC (whole_noRef (by kernel_rfl)) (wholeC (whole_noRef (by kernel_rfl)) (wholeC (whole_noRef (by kernel_rfl)) (wholeC (whole_noRef (by kernel_rfl)) wholeC0)))) (HpRel.key HpRel.nil) (by kernel_rfl) rfl (nx hX)) ?_
 refine veM [8] 2 63 [(1, A a1), (2, I a2), (3, pf a0 0), (9, .fn 156 [pf v10 0])] [none] ?_
 refine pwp_seq ?_
 refine srveM [8] 63 [(1, A a1), (2, I a2), (3, pf a0 0), (9, .fn 156 [pf v10 0]), (37, B (a0.fKind == 1))] [none] ?_
 refine pc h (fun h => ?_) (fun h => ?_)
 refine pwp_seq ?_
 refine ip 63 [(1, A a1), (2, I a2), (3, pf a0 0), (9, .fn 156 [pf v10 0])] [none] ?_
 refine pN 14 ?_
 refine qvM [8] [] trivial 3 63 [(40, I a0.fIn), (38, A a1), (2, I a2), (3, pf a0 0), (9, .fn 156 [pf v10 0])] [none] ?_
 obtain ⟨v16, hv17, h⟩ := bindS h
 refine qX (some 41) (pf v16 0) 63 [(41, pf v16 0), (2, I a2), (3, pf a0 0), (9, .fn 156 [pf v10 0])] [none] (fun Γ' hΓ => CoreE.of_y (idxV_sound τ_ok (by kernel_rfl) hv17)) trivial ?_
 refine qvM [8] [] trivial 3 63 [(44, I a2), (43, A v16.fRows), (3, pf a0 0), (9, .fn 156 [pf v10 0])] [none] ?_
 obtain ⟨v18, hv19, h⟩ := bindS h
 refine qX (some 45) (A v18) 63 [(45, A v18), (3, pf a0 0), (9, .fn 156 [pf v10 0])] [none] (fun Γ' hΓ => CoreE.of_y (slcV_sound τ_ok (by kernel_rfl) hv19)) trivial ?_
 refine qvM [8] [] trivial 3 63 [(48, A a0.fList), (46, .fn 156 [pf v10 0]), (45, A v18)] [none] ?_
 obtain ⟨v20, hv21, h⟩ := bindS h
 refine qX (some 49) (.fn 157 [pf a0.fList 0, pf v10 0]) 63 [(49, .fn 157 [pf a0.fList 0, pf v10 0]), (45, A v18)] [none] (fun Γ' hΓ => CoreE.of_g (callV_sound (τ := τ) (by kernel_rfl) rfl (ok_impl_Bond_breaks_2 hv21) (FzTo.frz rfl))) trivial ?_
 obtain ⟨v22, hv23, h⟩ := bindS h
 refine qX (some 50) (B v22) 63 [(50, B v22)] [none] (fun Γ' hΓ => CoreE.of_g (callV_sound (τ := τ) (by kernel_rfl) rfl (ok_slices_ContainsFunc_impl_Value_impl_Value_s3 (rfl) (fun _ w hw => ok_impl_Bond_breaks_2_1 hw) hv23) (FzTo.frz rfl))) trivial ?_
 refine qvnM [8] [] trivial 1 63 [(6, B v22)] [none] ?_
 cases h
 exact pwp_ret rz
 refine pwp_skip ?_
 refine pwp_seq ?_
 refine ip 63 [(1, A a1), (3, pf a0 0), (9, .fn 156 [pf v10 0])] [none] ?_
 refine pN 13 ?_
 refine qvM [8] [] trivial 3 63 [(53, I a0.fOf), (51, A a1), (3, pf a0 0), (9, .fn 156 [pf v10 0])] [none] ?_
 obtain ⟨v24, hv25, h⟩ := bindS h
 refine qX (some 54) (pf v24 0) 63 [(54, pf v24 0), (3, pf a0 0), (9, .fn 156 [pf v10 0])] [none] (fun Γ' hΓ => CoreE.of_y (idxV_sound τ_ok (by kernel_rfl) hv25)) trivial ?_
 refine qvM [8] [] trivial 5 63 [(59, A a0.fTo), (57, .fn 156 [pf v10 0]), (56, A v24.fRows)] [none] ?_
 obtain ⟨v26, hv27, h⟩ := bindS h
 refine qX (some 60) (.fn 157 [pf a0.fTo 0, pf v10 0]) 63 [(60, .fn 157 [pf a0.fTo 0, pf v10 0]), (56, A v24.fRows)] [none] (fun Γ' hΓ => CoreE.of_g (callV_sound (τ := τ) (by kernel_rfl) rfl (ok_impl_Bond_breaks_2 hv27) (FzTo.frz rfl))) trivial ?_
 obtain ⟨v28, hv29, h⟩ := bindS h
 refine qX (some 61) (B v28) 63 [(61, B v28)] [none] (fun Γ' hΓ => CoreE.of_g (callV_sound (τ := τ) (by kernel_rfl) rfl (ok_slices_ContainsFunc_impl_Value_impl_Value_s3 (rfl) (fun _ w hw => ok_impl_Bond_breaks_2_1 hw) hv29) (FzTo.frz rfl))) trivial ?_
 refine qvnM [8] [] trivial 2 63 [(6, B (!v28))] [none] ?_
 cases h
 exact pwp_ret rz
def impl_TablesOk (a0 : List T_impl_Table) : Option Bool := bif (decide ((a0.length : Int) ≤ 3)) then (slices_ContainsFunc_impl_Table_impl_Table a0 impl_TablesOk_1).bind fun v1 => some (!v1) else some false
theorem ok_impl_TablesOk {a0 : List T_impl_Table} {y : Bool} (h : impl_TablesOk a0 = some y) : OK Tryz.prog 16 [A a0] (B y) := by
 refine ow Tryz.func16 fun Γ hX => ?_
 unfold impl_TablesOk at h
 refine srve 11 [(0, A a0)] [] ?_
 refine srv 4 11 [(0, A a0), (6, B (decide ((a0.length : Int) ≤ 3)))] [] ?_
 rcases fk (decide ((a0.length : Int) ≤ 3)) with hc3 | hc3
 replace h := bT hc3 h
 rw [hc3]
 refine v 1 11 [(6, B true), (7, A a0)] [] ?_
 obtain ⟨v1, hv2, h⟩ := bindS h
 refine cF 8 (ok_slices_ContainsFunc_impl_Table_impl_Table (rfl) (fun _ w hw => ok_impl_TablesOk_1 hw) hv2) ?_
 refine ve 3 11 [(2, B (!v1))] [] ?_
 cases h
 exact pwp_ret rz
 replace h := bF hc3 h
 rw [hc3]
 refine ve 5 11 [(2, B false)] [] ?_
 cases h
 exact pwp_ret rz
def spec_BondBroken (a0 : List T_impl_Table) (a1 : T_impl_Bond) : Option Int := (spec_BondOk a0 a1).bind fun v1 => bif (!v1) then some (-2) else (spec_l12Broken a0 a1).bind fun v4 => some v4
theorem ok_spec_BondBroken {a0 : List T_impl_Table} {a1 : T_impl_Bond} {y : Int} (h : spec_BondBroken a0 a1 = some y) : OK Tryz.prog 19 [A a0, E a1] (I y) := by
 refine ow Tryz.func19 fun Γ hX => ?_
 unfold spec_BondBroken at h
 refine srve 12 [(0, A a0), (3, pf a1 0)] [] ?_
 refine pwp_seq ?_
 refine srv 2 12 [(0, A a0), (3, pf a1 0), (5, A a0), (6, E a1)] [] ?_
 obtain ⟨v1, hv2, h⟩ := bindS h
 refine cF 7 (ok_spec_BondOk hv2) ?_
 refine ve 1 12 [(0, A a0), (3, pf a1 0), (8, B (!v1))] [] ?_
 refine pc h (fun h => ?_) (fun h => ?_)
 refine srve 12 [(4, I (-2))] [] ?_
 cases h
 exact pwp_ret rz
 refine pwp_skip ?_
 refine srv 2 12 [(9, A a0), (10, E a1)] [] ?_
 obtain ⟨v4, hv5, h⟩ := bindS h
 refine cF 11 (ok_spec_l12Broken hv5) ?_
 refine ve 1 12 [(4, I v4)] [] ?_
 cases h
 exact pwp_ret rz
def impl_BondOk (a0 : List T_impl_Table) (a1 : T_impl_Bond) : Option Bool := (impl_TablesOk a0).bind fun v1 => bif v1 then (impl_bondOk a0 a1).bind fun v3 => some v3 else some false
theorem ok_impl_BondOk {a0 : List T_impl_Table} {a1 : T_impl_Bond} {y : Bool} (h : impl_BondOk a0 a1 = some y) : OK Tryz.prog 20 [A a0, E a1] (B y) := by
 refine ow Tryz.func20 fun Γ hX => ?_
 unfold impl_BondOk at h
 refine srve 12 [(0, A a0), (3, pf a1 0)] [] ?_
 refine srv 1 12 [(0, A a0), (3, pf a1 0), (5, A a0)] [] ?_
 obtain ⟨v1, hv2, h⟩ := bindS h
 refine cF 6 (ok_impl_TablesOk hv2) ?_
 refine v 1 12 [(0, A a0), (3, pf a1 0), (7, B v1)] [] ?_
 rcases Bool.eq_false_or_eq_true v1 with hc5 | hc5
 replace h := bT hc5 h
 rw [hc5]
 refine v 2 12 [(7, B true), (8, A a0), (9, E a1)] [] ?_
 obtain ⟨v3, hv4, h⟩ := bindS h
 refine cF 10 (ok_impl_bondOk hv4) ?_
 refine ve 2 12 [(4, B v3)] [] ?_
 cases h
 exact pwp_ret rz
 replace h := bF hc5 h
 rw [hc5]
 refine ve 5 12 [(4, B false)] [] ?_
 cases h
 exact pwp_ret rz
def impl_Bond_broken_l0 (a0 : T_impl_Bond) (a1 : List T_impl_Table) (v1 : T_impl_Table) : Nat → Int → Option Int
 | 0, _ => none
 | f4 + 1, x3 => bif (decide (x3 < (v1.fRows.length : Int))) then (impl_Bond_breaks a0 a1 x3).bind fun v7 => bif v7 then some x3 else (impl_Bond_broken_l0 a0 a1 v1 f4) (w64 (x3 + 1)) else some (-1)
def impl_Bond_broken (a0 : T_impl_Bond) (a1 : List T_impl_Table) : Option Int := (getI a1 a0.fIn).bind fun v1 => impl_Bond_broken_l0 a0 a1 v1 FUEL 0
theorem ok_impl_Bond_broken {a0 : T_impl_Bond} {a1 : List T_impl_Table} {y : Int} (h : impl_Bond_broken a0 a1 = some y) : OK Tryz.prog 57 [E a0, A a1] (I y) := by
 refine ow Tryz.func57 fun Γ hX => ?_
 unfold impl_Bond_broken at h
 refine srve 22 [(1, A a1), (2, pf a0 0)] [] ?_
 refine pwp_seq ?_
 refine srv 3 22 [(1, A a1), (2, pf a0 0), (6, A a1), (8, I a0.fIn)] [] ?_
 obtain ⟨v1, hv2, h⟩ := bindS h
 refine opsP_idx τ_ok 9 hv2 (by kernel_rfl) ?_
 refine ve 4 22 [(1, A a1), (2, pf a0 0), (12, I (v1.fRows.length : Int)), (13, I 0)] [] ?_
 refine pwp_block ?_
 refine pwp_loop (ι := Nat × Int) (fun (f4, x3) => (⟨22, [(1, A a1), (2, pf a0 0), (12, I (v1.fRows.length : Int)), (13, I x3)], []⟩ : St)) (fun (f4, x3) => impl_Bond_broken_l0 a0 a1 v1 f4 x3 = some y) Prod.fst (FUEL, 0) h (it [1, 2, 12, 13]) ?_
 rintro ⟨f4, x3⟩ h
 dsimp only at h ⊢
 rcases f4 with _ | f4
 cases h
 rw [impl_Bond_broken_l0] at h
 refine srve 22 [(1, A a1), (2, pf a0 0), (12, I (v1.fRows.length : Int)), (13, I x3), (14, B (decide (x3 < (v1.fRows.length : Int))))] [] ?_
 refine pwp_seq ?_
 refine pc h (fun h => ?_) (fun h => ?_)
 refine pwp_skip ?_
 refine pwp_seq ?_
 refine pwp_block ?_
 refine srve 22 [(1, A a1), (2, pf a0 0), (5, I x3), (12, I (v1.fRows.length : Int)), (13, I x3)] [] ?_
 refine srv 3 22 [(1, A a1), (2, pf a0 0), (5, I x3), (12, I (v1.fRows.length : Int)), (13, I x3), (16, E a0), (17, A a1), (18, I x3)] [] ?_
 obtain ⟨v7, hv8, h⟩ := bindS h
 refine cF 19 (ok_impl_Bond_breaks hv8) ?_
 refine ve 0 22 [(1, A a1), (2, pf a0 0), (5, I x3), (12, I (v1.fRows.length : Int)), (13, I x3), (19, B v7)] [] ?_
 refine pc h (fun h => ?_) (fun h => ?_)
 refine srve 22 [(4, I x3)] [] ?_
 cases h
 exact pwp_ret rz
 refine pwp_skip ?_
 refine rve 22 [(1, A a1), (2, pf a0 0), (12, I (v1.fRows.length : Int)), (13, I (w64 (x3 + 1)))] [] ?_
 exact ⟨(f4, (w64 (x3 + 1))), h, Nat.lt_succ_self _, it [1, 2, 12, 13]⟩
 refine pwp_exit ?_
 refine srve 22 [(4, I (-1))] [] ?_
 cases h
 exact pwp_ret rz
def impl_BondBroken (a0 : List T_impl_Table) (a1 : T_impl_Bond) : Option Int := (impl_BondOk a0 a1).bind fun v1 => bif (!v1) then some (-2) else (impl_Bond_broken a1 a0).bind fun v4 => some v4
theorem ok_impl_BondBroken {a0 : List T_impl_Table} {a1 : T_impl_Bond} {y : Int} (h : impl_BondBroken a0 a1 = some y) : OK Tryz.prog 18 [A a0, E a1] (I y) := by
 refine ow Tryz.func18 fun Γ hX => ?_
 unfold impl_BondBroken at h
 refine srve 12 [(0, A a0), (3, pf a1 0)] [] ?_
 refine pwp_seq ?_
 refine srv 2 12 [(0, A a0), (3, pf a1 0), (5, A a0), (6, E a1)] [] ?_
 obtain ⟨v1, hv2, h⟩ := bindS h
 refine cF 7 (ok_impl_BondOk hv2) ?_
 refine ve 1 12 [(0, A a0), (3, pf a1 0), (8, B (!v1))] [] ?_
 refine pc h (fun h => ?_) (fun h => ?_)
 refine srve 12 [(4, I (-2))] [] ?_
 cases h
 exact pwp_ret rz
 refine pwp_skip ?_
 refine srv 2 12 [(9, E a1), (10, A a0)] [] ?_
 obtain ⟨v4, hv5, h⟩ := bindS h
 refine cF 11 (ok_impl_Bond_broken hv5) ?_
 refine ve 1 12 [(4, I v4)] [] ?_
 cases h
 exact pwp_ret rz
def laws_FnBondBroken (a0 : List UInt8) : Option Bool := bif (decide ((a0.length : Int) > 1048576)) then some true else (spec_DrawBondBroken a0).bind fun v2 => (impl_BondBroken v2.1 v2.2).bind fun v4 => (spec_BondBroken v2.1 v2.2).bind fun v6 => bif (!(v4 == v6)) then some false else bif (decide (v4 < 0)) then (impl_BondOk v2.1 v2.2).bind fun v10 => bif ((v4 == (-2)) == (!v10)) then (laws_alive).bind fun v12 => some v12 else some false else (getI v2.1 v2.2.fIn).bind fun v15 => bif (decide (v4 ≥ (v15.fRows.length : Int))) then some false else bif (v2.2.fKind == 2) then (laws_alive).bind fun v19 => some v19 else (app ([] : List T_impl_Table) v2.1).bind fun v21 => (getI v2.1 v2.2.fIn).bind fun v23 => (getI v2.1 v2.2.fIn).bind fun v25 => (slI v25.fRows none (some v4) none).bind fun v27 => (app [] v27).bind fun v29 => (getI v21 v2.2.fIn).bind fun v31 => (impl_BondBroken (v21.set v2.2.fIn.toNat (T_impl_Table.mk v23.fColumns v29)) v2.2).bind fun v33 => some (v33 == (-1))
theorem ok_laws_FnBondBroken {a0 : List UInt8} {y : Bool} (h : laws_FnBondBroken a0 = some y) : OK Tryz.prog 4 [A a0] (B y) := by
 refine ow Tryz.func4 fun Γ hX => ?_
 unfold laws_FnBondBroken at h
 refine srveM [4] 76 [(0, A a0)] [] ?_
 refine pwp_seq ?_
 refine srveM [4] 76 [(0, A a0), (9, B (decide ((a0.length : Int) > 1048576)))] [] ?_
 refine pc h (fun h => ?_) (fun h => ?_)
 refine srveM [4] 76 [(2, B true)] [] ?_
 cases h
 exact pwp_ret rz
 refine pwp_skip ?_
 refine srvM [4] 1 76 [(11, A a0)] [] ?_
 obtain ⟨v2, hv3, h⟩ := bindS h
 refine opsP_callF τ 12 (ok_spec_DrawBondBroken hv3) (FzTo.tup (FzToL.cons (FzTo.frz rfl) (FzToL.cons (FzTo.frz rfl) FzToL.nil))) rfl (by kernel_rfl) ?_
 refine veM [4] 6 76 [(3, A v2.1), (4, .ptr 0 0 0)] [sc 0 v2.2] ?_
 refine srvM [4] 2 76 [(3, A v2.1), (4, .ptr 0 0 0), (15, A v2.1), (16, E v2.2)] [sc 0 v2.2] ?_
 obtain ⟨v4, hv5, h⟩ := bindS h
 refine cF 17 (ok_impl_BondBroken hv5) ?_
 refine veM [4] 1 76 [(3, A v2.1), (4, .ptr 0 0 0), (5, I v4)] [sc 0 v2.2] ?_
 refine pwp_seq ?_
 refine srvM [4] 3 76 [(3, A v2.1), (4, .ptr 0 0 0), (5, I v4), (18, I v4), (19, A v2.1), (20, E v2.2)] [sc 0 v2.2] ?_
 obtain ⟨v6, hv7, h⟩ := bindS h
 refine cF 21 (ok_spec_BondBroken hv7) ?_
 refine veM [4] 1 76 [(3, A v2.1), (4, .ptr 0 0 0), (5, I v4), (22, B (!(v4 == v6)))] [sc 0 v2.2] ?_
 refine pc h (fun h => ?_) (fun h => ?_)
 refine srveM [4] 76 [(2, B false)] [sc 0 v2.2] ?_
 cases h
 exact pwp_ret rz
 refine pwp_skip ?_
 refine pwp_seq ?_
 refine srveM [4] 76 [(3, A v2.1), (4, .ptr 0 0 0), (5, I v4), (24, B (decide (v4 < 0)))] [sc 0 v2.2] ?_
 refine pc h (fun h => ?_) (fun h => ?_)
 refine srvM [4] 4 76 [(26, B (v4 == (-2))), (27, A v2.1), (28, E v2.2)] [sc 0 v2.2] ?_
 obtain ⟨v10, hv11, h⟩ := bindS h
 refine cF 29 (ok_impl_BondOk hv11) ?_
 refine vM [4] 3 76 [(32, B ((v4 == (-2)) == (!v10)))] [sc 0 v2.2] ?_
 rcases fk ((v4 == (-2)) == (!v10)) with hc14 | hc14
 replace h := bT hc14 h
 rw [hc14]
 obtain ⟨v12, hv13, h⟩ := bindS h
 refine cF 33 (ok_laws_alive hv13) ?_
 refine veM [4] 2 76 [(2, B v12)] [sc 0 v2.2] ?_
 cases h
 exact pwp_ret rz
 replace h := bF hc14 h
 rw [hc14]
 refine veM [4] 3 76 [(2, B false)] [sc 0 v2.2] ?_
 cases h
 exact pwp_ret rz
 refine pwp_skip ?_
 refine pwp_seq ?_
 refine srvM [4] 4 76 [(3, A v2.1), (4, .ptr 0 0 0), (5, I v4), (35, I v4), (36, A v2.1), (38, I v2.2.fIn)] [sc 0 v2.2] ?_
 obtain ⟨v15, hv16, h⟩ := bindS h
 refine opsP_idx τ_ok 39 hv16 (by kernel_rfl) ?_
 refine veM [4] 4 76 [(3, A v2.1), (4, .ptr 0 0 0), (5, I v4), (43, B (decide (v4 ≥ (v15.fRows.length : Int))))] [sc 0 v2.2] ?_
 refine pc h (fun h => ?_) (fun h => ?_)
 refine srveM [4] 76 [(2, B false)] [sc 0 v2.2] ?_
 cases h
 exact pwp_ret rz
 refine pwp_skip ?_
 refine pwp_seq ?_
 refine srveM [4] 76 [(3, A v2.1), (4, .ptr 0 0 0), (5, I v4), (46, B (v2.2.fKind == 2))] [sc 0 v2.2] ?_
 refine pc h (fun h => ?_) (fun h => ?_)
 refine pwp_seq ?_
 refine pwp_region ?_
 obtain ⟨v19, hv20, h⟩ := bindS h
 refine cF 47 (ok_laws_alive hv20) ?_
 refine veM [4] 1 76 [(2, B v19)] [sc 0 v2.2] ?_
 cases h
 exact pwp_ret rz
 refine pwp_skip ?_
 refine srvM [4] 2 76 [(3, A v2.1), (4, .ptr 0 0 0), (5, I v4), (48, .arr 2 0 (eL ([] : List T_impl_Table)) true), (49, A v2.1)] [sc 0 v2.2] ?_
 refine opsP_thaw 48 2 (by kernel_rfl) ?_
 obtain ⟨v21, hv22, h⟩ := bindS h
 refine opsP_app τ_ok 50 1 0 (nx hX) hv22 (by kernel_rfl) ?_
 refine veM [4] 1 76 [(3, A v2.1), (4, .ptr 0 0 0), (5, I v4), (6, rf 1 1 2 v21)] [sc 0 v2.2, sl 1 v21] ?_
 refine pwp_seq ?_
 refine ip 76 [(3, A v2.1), (4, .ptr 0 0 0), (5, I v4), (6, rf 1 1 2 v21)] [sc 0 v2.2, sl 1 v21] ?_
 refine pwp_imp (Imp.ghosts 1 (st' := ⟨76, [(3, A v2.1), (4, .ptr 0 0 0), (5, I v4), (6, rf 1 1 2 v21)], [sc 0 v2.2, sl 1 v21, some ⟨0, []⟩]⟩) (by kernel_rfl)) ?_
 refine pwp_any ([[1], [0], [0], [], [0], [0], [], [], [], [], [], [0], [0], [], [], [], [], [], [2], [2], [1], [1, 2]]) ([[], [], [], [], [], [], [], [], [], [], [], [], [], [], [], [], [], [], [2], [], [], [1, 2]]) rfl (by kernel_rfl) ?_
 refine qvM [4] [1] (hL trivial) 1 76 [(51, rf 1 1 2 v21), (3, A v2.1), (4, .ptr 0 0 0), (5, I v4), (6, rf 1 1 2 v21)] [sc 0 v2.2, sl 1 v21, some ⟨0, []⟩] ?_
 refine qvM [4] [0] (hB trivial) 2 76 [(53, I v2.2.fIn), (51, rf 1 1 2 v21), (3, A v2.1), (4, .ptr 0 0 0), (5, I v4), (6, rf 1 1 2 v21)] [sc 0 v2.2, sl 1 v21, some ⟨0, []⟩] ?_
 refine qvM [4] [] trivial 1 76 [(54, A v2.1), (53, I v2.2.fIn), (51, rf 1 1 2 v21), (3, A v2.1), (4, .ptr 0 0 0), (5, I v4), (6, rf 1 1 2 v21)] [sc 0 v2.2, sl 1 v21, some ⟨0, []⟩] ?_
 refine qvM [4] [0] (hB trivial) 2 76 [(56, I v2.2.fIn), (54, A v2.1), (53, I v2.2.fIn), (51, rf 1 1 2 v21), (3, A v2.1), (4, .ptr 0 0 0), (5, I v4), (6, rf 1 1 2 v21)] [sc 0 v2.2, sl 1 v21, some ⟨0, []⟩] ?_
 obtain ⟨v23, hv24, h⟩ := bindS h
 refine qX (some 57) (pf v23 0) 76 [(57, pf v23 0), (53, I v2.2.fIn), (51, rf 1 1 2 v21), (3, A v2.1), (4, .ptr 0 0 0), (5, I v4), (6, rf 1 1 2 v21)] [sc 0 v2.2, sl 1 v21, some ⟨0, []⟩] (fun Γ' hΓ => CoreE.of_y (idxV_sound τ_ok (by kernel_rfl) hv24)) trivial ?_
 refine qvM [4] [] trivial 4 76 [(61, A v2.1), (60, .arr 1 0 (eL ([] : List (List T_impl_Value))) true), (59, A v23.fColumns), (53, I v2.2.fIn), (51, rf 1 1 2 v21), (4, .ptr 0 0 0), (5, I v4), (6, rf 1 1 2 v21)] [sc 0 v2.2, sl 1 v21, some ⟨0, []⟩] ?_
 refine qvM [4] [0] (hB trivial) 2 76 [(63, I v2.2.fIn), (61, A v2.1), (60, .arr 1 0 (eL ([] : List (List T_impl_Value))) true), (59, A v23.fColumns), (53, I v2.2.fIn), (51, rf 1 1 2 v21), (4, .ptr 0 0 0), (5, I v4), (6, rf 1 1 2 v21)] [sc 0 v2.2, sl 1 v21, some ⟨0, []⟩] ?_
 obtain ⟨v25, hv26, h⟩ := bindS h
 refine qX (some 64) (pf v25 0) 76 [(64, pf v25 0), (60, .arr 1 0 (eL ([] : List (List T_impl_Value))) true), (59, A v23.fColumns), (53, I v2.2.fIn), (51, rf 1 1 2 v21), (4, .ptr 0 0 0), (5, I v4), (6, rf 1 1 2 v21)] [sc 0 v2.2, sl 1 v21, some ⟨0, []⟩] (fun Γ' hΓ => CoreE.of_y (idxV_sound τ_ok (by kernel_rfl) hv26)) trivial ?_
 refine qvM [4] [] trivial 3 76 [(67, I v4), (66, A v25.fRows), (60, .arr 1 0 (eL ([] : List (List T_impl_Value))) true), (59, A v23.fColumns), (53, I v2.2.fIn), (51, rf 1 1 2 v21), (4, .ptr 0 0 0), (6, rf 1 1 2 v21)] [sc 0 v2.2, sl 1 v21, some ⟨0, []⟩] ?_
 obtain ⟨v27, hv28, h⟩ := bindS h
 refine qX (some 68) (A v27) 76 [(68, A v27), (60, .arr 1 0 (eL ([] : List (List T_impl_Value))) true), (59, A v23.fColumns), (53, I v2.2.fIn), (51, rf 1 1 2 v21), (4, .ptr 0 0 0), (6, rf 1 1 2 v21)] [sc 0 v2.2, sl 1 v21, some ⟨0, []⟩] (fun Γ' hΓ => CoreE.of_y (slcV_sound τ_ok (by kernel_rfl) hv28)) trivial ?_
 obtain ⟨v29, hv30, h⟩ := bindS h
 refine qX (some 69) (rf 2 1 1 v29) 76 [(69, rf 2 1 1 v29), (59, A v23.fColumns), (53, I v2.2.fIn), (51, rf 1 1 2 v21), (4, .ptr 0 0 0), (6, rf 1 1 2 v21)] [sc 0 v2.2, sl 1 v21, sl 1 v29] (fun Γ' hΓ => apm_E (blk := ⟨0, []⟩) τ_ok 69 2 0 3 (ny hΓ hX) hv30 (by kernel_rfl) (by kernel_rfl)) (hL trivial) ?_
 refine qvM [4] [2] (hL trivial) 1 76 [(70, .agg [A v23.fColumns, rf 2 1 1 v29]), (53, I v2.2.fIn), (51, rf 1 1 2 v21), (4, .ptr 0 0 0), (6, rf 1 1 2 v21)] [sc 0 v2.2, sl 1 v21, sl 1 v29] ?_
 obtain ⟨v31, hv32, h⟩ := bindS h
 refine qX (some 71) (.ptr 1 1 (v2.2.fIn.toNat * 2)) 76 [(71, .ptr 1 1 (v2.2.fIn.toNat * 2)), (70, .agg [A v23.fColumns, rf 2 1 1 v29]), (4, .ptr 0 0 0), (6, rf 1 1 2 v21)] [sc 0 v2.2, sl 1 v21, sl 1 v29] (fun Γ' hΓ => CoreE.of_y (idrV_sound (n := v21.length) τ_ok (by kernel_rfl) hv32 rfl)) (hL trivial) ?_
 refine qX (Hm' := [none, some ⟨1, eL (v21.set v2.2.fIn.toNat (T_impl_Table.mk v23.fColumns v29))⟩, some ⟨2, []⟩]) none (.any) 76 [(4, .ptr 0 0 0), (6, rf 1 1 2 v21)] [sc 0 v2.2, some ⟨1, eL (v21.set v2.2.fIn.toNat (T_impl_Table.mk v23.fColumns v29))⟩, some ⟨2, []⟩] (fun Γ' hΓ => stf_E (vs := [A v23.fColumns, rf 2 1 1 v29]) (vs' := [A v23.fColumns, O v29]) (zs := [A v23.fColumns, A v29]) τ_ok 35 1 1 0 (T_impl_Table.mk v23.fColumns v29) hv32 (by kernel_rfl) (OutL.cons (OutP.frz rfl) (OutL.cons (OutP.listn (v := 1) (xs := v29) rfl (by kernel_rfl)) (OutL.nil _))) (by decide) (by decide) (ny hΓ hX) (FzToL.cons (FzTo.frz rfl) (FzToL.cons (FzTo.O _) FzToL.nil)) rfl rfl (by kernel_rfl) (by kernel_rfl) (by kernel_rfl)) (hL (hG trivial)) ?_
 refine qA_ren (st' := ⟨76, [(4, .ptr 0 0 0), (6, .ref 1 1 0 2 (v21.set v2.2.fIn.toNat (T_impl_Table.mk v23.fColumns v29)).length false)], [sc 0 v2.2, some ⟨1, eL (v21.set v2.2.fIn.toNat (T_impl_Table.mk v23.fColumns v29))⟩, some ⟨2, []⟩]⟩) 1 (v21.set v2.2.fIn.toNat (T_impl_Table.mk v23.fColumns v29)).length (renC trivial (renC (ren_ref (List.length_set ..).symm) renC0)) (by kernel_rfl) ?_
 refine qn 76 [(4, .ptr 0 0 0), (6, .ref 1 1 0 2 (v21.set v2.2.fIn.toNat (T_impl_Table.mk v23.fColumns v29)).length false)] [sc 0 v2.2, some ⟨1, eL (v21.set v2.2.fIn.toNat (T_impl_Table.mk v23.fColumns v29))⟩, some ⟨2, []⟩] ?_
 refine srvM [4] 2 76 [(72, .ref 1 1 0 2 (v21.set v2.2.fIn.toNat (T_impl_Table.mk v23.fColumns v29)).length false), (73, E v2.2)] [sc 0 v2.2, some ⟨1, eL (v21.set v2.2.fIn.toNat (T_impl_Table.mk v23.fColumns v29))⟩, some ⟨2, []⟩] ?_
 obtain ⟨v33, hv34, h⟩ := bindS h
 refine opsP_callV (xs := [.ref 1 1 0 2 (v21.set v2.2.fIn.toNat (T_impl_Table.mk v23.fColumns v29)).length false, E v2.2]) τ 74 (ok_impl_BondBroken hv34) (Blind.lit _) (FzTo.frz rfl) (by kernel_rfl) (ViewL.cons (View.whole (v := 1) (v21.set v2.2.fIn.toNat (T_impl_Table.mk v23.fColumns v29)) (by kernel_rfl) rfl) (ViewL.cons (View.frz rfl) (ViewL.nil _))) ?_
 refine veM [4] 2 76 [(2, B (v33 == (-1)))] [sc 0 v2.2, some ⟨1, eL (v21.set v2.2.fIn.toNat (T_impl_Table.mk v23.fColumns v29))⟩, some ⟨2, []⟩] ?_
 cases h
 exact pwp_ret rz
end Go.D
