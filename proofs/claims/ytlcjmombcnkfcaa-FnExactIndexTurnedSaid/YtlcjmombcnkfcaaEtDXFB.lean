import Derived.Test.YtlcjmombcnkfcaaEtDXFA
import Derived.KernelRfl
set_option linter.unusedVariables false
set_option linter.unusedSimpArgs false
namespace Go.D
open Go.Proofs
theorem ok_spec_IndexTurned {a0 : List T_impl_Mark} {a1 : List T_impl_Write} {a2 : Int} {y : (List T_impl_Mark) × Bool} (h : spec_IndexTurned a0 a1 a2 = some y) : OK Try.prog 27 [A a0, A a1, I a2] (.tup [O y.1, B y.2]) := by
 refine ow Try.func27 fun Γ hX => ?_
 unfold spec_IndexTurned at h
 refine srveM [10] 106 [(0, A a0), (1, A a1), (2, I a2)] [] ?_
 refine pwp_seq ?_
 refine pwp_seq ?_
 refine pwp_join (σ := Bool) (fun x1 => (⟨106, [(0, A a0), (1, A a1), (2, I a2), (25, B x1)], []⟩ : St)) (fun x1 => spec_IndexTurned_j0 a0 a1 a2 x1 = some y) ?_ ?_
 refine rvM [10] 1 106 [(0, A a0), (1, A a1), (2, I a2), (13, A a0)] [] ?_
 obtain ⟨v48, hv49, h⟩ := bindS h
 refine cF 14 (ok_spec_IndexOk hv49) ?_
 refine vM [10] 2 106 [(0, A a0), (1, A a1), (2, I a2), (16, B (!v48))] [] ?_
 rcases fk (!v48) with hc55 | hc55
 replace h := bT hc55 h
 rw [hc55]
 refine veM [10] 9 106 [(0, A a0), (1, A a1), (2, I a2), (25, B true)] [] ?_
 exact ⟨true, h, it [0, 1, 2, 25]⟩
 replace h := bF hc55 h
 rw [hc55]
 refine vM [10] 1 106 [(0, A a0), (1, A a1), (2, I a2), (16, B false), (17, A a1)] [] ?_
 obtain ⟨v50, hv51, h⟩ := bindS h
 refine cF 18 (ok_spec_WritesOk hv51) ?_
 refine vM [10] 3 106 [(0, A a0), (1, A a1), (2, I a2), (21, B (!v50))] [] ?_
 rcases fk (!v50) with hc54 | hc54
 replace h := bT hc54 h
 rw [hc54]
 refine veM [10] 4 106 [(0, A a0), (1, A a1), (2, I a2), (25, B true)] [] ?_
 exact ⟨true, h, it [0, 1, 2, 25]⟩
 replace h := bF hc54 h
 rw [hc54]
 refine vM [10] 1 106 [(0, A a0), (1, A a1), (2, I a2), (21, B false), (22, I a2)] [] ?_
 obtain ⟨v52, hv53, h⟩ := bindS h
 refine cF 23 (ok_spec_l1In hv53) ?_
 refine veM [10] 2 106 [(0, A a0), (1, A a1), (2, I a2), (25, B (!v52))] [] ?_
 exact ⟨(!v52), h, it [0, 1, 2, 25]⟩
 rintro x1 h
 unfold spec_IndexTurned_j0 at h
 refine pc h (fun h => ?_) (fun h => ?_)
 refine srveM [10] 106 [(6, .arr 6 0 (eL ([] : List T_impl_Mark)) true), (7, B false)] [] ?_
 refine ip 106 [(6, .arr 6 0 (eL ([] : List T_impl_Mark)) true), (7, B false)] [] ?_
 refine pwp_imp (Imp.thawS (st' := ⟨106, [(6, .ref 0 0 0 6 ([] : List T_impl_Mark).length false), (7, B false)], [some ⟨0, eL ([] : List T_impl_Mark)⟩]⟩) 6 [6, 7] (by kernel_rfl)) ?_
 have h := si h
 subst h
 exact pwp_ret (rt (.tup [.ref 0 0 0 6 ([] : List T_impl_Mark).length false, B false]) (OutP.tup (OutL.cons (OutP.list (v := 0) (by kernel_rfl)) (OutL.cons (OutP.frz (by kernel_rfl)) (OutL.nil _)))))
 refine pwp_skip ?_
 refine srveM [10] 106 [(0, A a0), (1, A a1), (2, I a2), (8, .arr 6 0 (eL ([] : List T_impl_Mark)) true)] [] ?_
 refine pwp_seq ?_
 refine srveM [10] 106 [(0, A a0), (1, A a1), (2, I a2), (8, .arr 6 0 (eL ([] : List T_impl_Mark)) true), (9, I 0)] [] ?_
 refine pwp_block ?_
 refine pwp_loop (ι := Nat × Int × (List T_impl_Mark)) (fun (f6, x4, x5) => (⟨106, [(0, A a0), (1, A a1), (2, I a2), (8, rf 0 0 6 x5), (9, I x4)], [sl 0 x5]⟩ : St)) (fun (f6, x4, x5) => spec_IndexTurned_l1 a0 a1 a2 f6 x4 x5 = some y) Prod.fst (FUEL, 0, ([] : List T_impl_Mark)) h (Imp.thawS 8 [0, 1, 2, 8, 9] (by kernel_rfl)) ?_
 rintro ⟨f6, x4, x5⟩ h
 dsimp only at h ⊢
 rcases f6 with _ | f6
 cases h
 rw [spec_IndexTurned_l1] at h
 refine pwp_seq ?_
 refine srveM [10] 106 [(0, A a0), (1, A a1), (2, I a2), (8, rf 0 0 6 x5), (9, I x4), (31, B (decide (x4 < (a0.length : Int))))] [sl 0 x5] ?_
 refine pc h (fun h => ?_) (fun h => ?_)
 refine pwp_skip ?_
 refine pwp_seq ?_
 refine pwp_block ?_
 refine srvM [10] 2 106 [(0, A a0), (1, A a1), (2, I a2), (8, rf 0 0 6 x5), (9, I x4), (34, A a0), (35, I x4)] [sl 0 x5] ?_
 obtain ⟨v9, hv10, h⟩ := bindS h
 refine opsP_idx τ_ok 36 hv10 (by kernel_rfl) ?_
 refine veM [10] 3 106 [(0, A a0), (1, A a1), (2, I a2), (8, rf 0 0 6 x5), (9, I x4), (10, .ptr 1 0 0)] [sl 0 x5, sc 0 v9] ?_
 refine pwp_seq ?_
 refine pwp_seq ?_
 refine pwp_join (σ := Bool) (fun x11 => (⟨106, [(0, A a0), (1, A a1), (2, I a2), (8, rf 0 0 6 x5), (9, I x4), (10, .ptr 1 0 0), (47, B x11)], [sl 0 x5, sc 0 v9]⟩ : St)) (fun x11 => spec_IndexTurned_j2 a1 a2 x4 x5 (spec_IndexTurned_l1 a0 a1 a2 f6) v9 x11 = some y) ?_ ?_
 refine rvM [10] 5 106 [(0, A a0), (1, A a1), (2, I a2), (8, rf 0 0 6 x5), (9, I x4), (10, .ptr 1 0 0), (42, B (decide (v9.fBorn ≥ a2)))] [sl 0 x5, sc 0 v9] ?_
 rcases fk (decide (v9.fBorn ≥ a2)) with hc28 | hc28
 replace h := bT hc28 h
 rw [hc28]
 refine veM [10] 5 106 [(0, A a0), (1, A a1), (2, I a2), (8, rf 0 0 6 x5), (9, I x4), (10, .ptr 1 0 0), (43, .lit undef), (44, .lit undef), (45, .lit undef), (46, .lit undef), (47, B true)] [sl 0 x5, sc 0 v9] ?_
 exact ⟨true, h, it [0, 1, 2, 8, 9, 10, 47]⟩
 replace h := bF hc28 h
 rw [hc28]
 refine veM [10] 5 106 [(0, A a0), (1, A a1), (2, I a2), (8, rf 0 0 6 x5), (9, I x4), (10, .ptr 1 0 0), (43, .ptr 1 0 5), (44, I v9.fDied), (45, I a2), (46, B (decide (v9.fDied ≥ a2))), (47, B (decide (v9.fDied ≥ a2)))] [sl 0 x5, sc 0 v9] ?_
 exact ⟨(decide (v9.fDied ≥ a2)), h, it [0, 1, 2, 8, 9, 10, 47]⟩
 rintro x11 h
 unfold spec_IndexTurned_j2 at h
 refine pc h (fun h => ?_) (fun h => ?_)
 refine srveM [10] 106 [(6, .arr 6 0 (eL ([] : List T_impl_Mark)) true), (7, B false)] [sl 0 x5, sc 0 v9] ?_
 refine ip 106 [(6, .arr 6 0 (eL ([] : List T_impl_Mark)) true), (7, B false)] [sl 0 x5, sc 0 v9] ?_
 refine pwp_imp (Imp.thawS (st' := ⟨106, [(6, .ref 2 0 0 6 ([] : List T_impl_Mark).length false), (7, B false)], [sl 0 x5, sc 0 v9, some ⟨0, eL ([] : List T_impl_Mark)⟩]⟩) 6 [6, 7] (by kernel_rfl)) ?_
 have h := si h
 subst h
 exact pwp_ret (rt (.tup [.ref 2 0 0 6 ([] : List T_impl_Mark).length false, B false]) (OutP.tup (OutL.cons (OutP.list (v := 0) (by kernel_rfl)) (OutL.cons (OutP.frz (by kernel_rfl)) (OutL.nil _)))))
 refine pwp_skip ?_
 refine pwp_seq ?_
 refine srveM [10] 106 [(0, A a0), (1, A a1), (2, I a2), (8, rf 0 0 6 x5), (9, I x4), (10, .ptr 1 0 0), (11, I 0)] [sl 0 x5, sc 0 v9] ?_
 refine pwp_block ?_
 refine pwp_loop (ι := Nat × Int × T_impl_Mark) (fun (f17, x15, x16) => (⟨106, [(0, A a0), (1, A a1), (2, I a2), (8, rf 0 0 6 x5), (9, I x4), (10, .ptr 1 0 0), (11, I x15)], [sl 0 x5, sc 0 x16]⟩ : St)) (fun (f17, x15, x16) => spec_IndexTurned_l3 a1 a2 x4 x5 (spec_IndexTurned_l1 a0 a1 a2 f6) f17 x15 x16 = some y) Prod.fst (FUEL, 0, v9) h (it [0, 1, 2, 8, 9, 10, 11]) ?_
 rintro ⟨f17, x15, x16⟩ h
 dsimp only at h ⊢
 rcases f17 with _ | f17
 cases h
 rw [spec_IndexTurned_l3] at h
 refine pwp_seq ?_
 refine srveM [10] 106 [(0, A a0), (1, A a1), (2, I a2), (8, rf 0 0 6 x5), (9, I x4), (10, .ptr 1 0 0), (11, I x15), (52, B (decide (x15 < (a1.length : Int))))] [sl 0 x5, sc 0 x16] ?_
 refine pc h (fun h => ?_) (fun h => ?_)
 refine pwp_skip ?_
 refine pwp_seq ?_
 refine pwp_join (σ := T_impl_Mark) (fun x20 => (⟨106, [(0, A a0), (1, A a1), (2, I a2), (8, rf 0 0 6 x5), (9, I x4), (10, .ptr 1 0 0), (11, I x15)], [sl 0 x5, sc 0 x20]⟩ : St)) (fun x20 => spec_IndexTurned_j4 x15 (spec_IndexTurned_l3 a1 a2 x4 x5 (spec_IndexTurned_l1 a0 a1 a2 f6) f17) x20 = some y) ?_ ?_
 refine pwp_block ?_
 refine pwp_seq ?_
 refine pwp_join (σ := Bool) (fun x21 => (⟨106, [(0, A a0), (1, A a1), (2, I a2), (8, rf 0 0 6 x5), (9, I x4), (10, .ptr 1 0 0), (11, I x15), (67, B x21)], [sl 0 x5, sc 0 x16]⟩ : St)) (fun x21 => spec_IndexTurned_j5 a2 x15 x16 (spec_IndexTurned_l3 a1 a2 x4 x5 (spec_IndexTurned_l1 a0 a1 a2 f6) f17) x21 = some y) ?_ ?_
 refine ip 106 [(0, A a0), (1, A a1), (2, I a2), (8, rf 0 0 6 x5), (9, I x4), (10, .ptr 1 0 0), (11, I x15)] [sl 0 x5, sc 0 x16] ?_
 refine pwp_any ([[], [], [], [], [], [1], [1], [], [], [1], [1], [], []]) ([[], [], [], [], [], [], [], [], [], [], [], [], []]) rfl (by kernel_rfl) ?_
 refine qvM [10] [] trivial 2 106 [(56, I x15), (55, A a1), (0, A a0), (1, A a1), (2, I a2), (8, rf 0 0 6 x5), (9, I x4), (10, .ptr 1 0 0), (11, I x15)] [sl 0 x5, sc 0 x16] ?_
 obtain ⟨v23, hv24, h⟩ := bindS h
 refine qX (some 57) (pf v23 0) 106 [(57, pf v23 0), (0, A a0), (1, A a1), (2, I a2), (8, rf 0 0 6 x5), (9, I x4), (10, .ptr 1 0 0), (11, I x15)] [sl 0 x5, sc 0 x16] (fun Γ' hΓ => CoreE.of_y (idxV_sound τ_ok (by kernel_rfl) hv24)) trivial ?_
 refine qvM [10] [] trivial 2 106 [(59, I v23.fKey), (0, A a0), (1, A a1), (2, I a2), (8, rf 0 0 6 x5), (9, I x4), (10, .ptr 1 0 0), (11, I x15)] [sl 0 x5, sc 0 x16] ?_
 refine qvM [10] [1] (hB trivial) 2 106 [(61, I x16.fKey), (59, I v23.fKey), (0, A a0), (1, A a1), (2, I a2), (8, rf 0 0 6 x5), (9, I x4), (10, .ptr 1 0 0), (11, I x15)] [sl 0 x5, sc 0 x16] ?_
 refine qvM [10] [] trivial 2 106 [(63, B (v23.fKey == x16.fKey)), (0, A a0), (1, A a1), (2, I a2), (8, rf 0 0 6 x5), (9, I x4), (10, .ptr 1 0 0), (11, I x15)] [sl 0 x5, sc 0 x16] ?_
 rcases fk (v23.fKey == x16.fKey) with hc25 | hc25
 replace h := bT hc25 h
 rw [hc25]
 refine qvM [10] [1] (hB trivial) 2 106 [(65, I x16.fDied), (64, .ptr 1 0 5), (63, B true), (0, A a0), (1, A a1), (2, I a2), (8, rf 0 0 6 x5), (9, I x4), (10, .ptr 1 0 0), (11, I x15)] [sl 0 x5, sc 0 x16] ?_
 refine qvM [10] [] trivial 2 106 [(67, B (x16.fDied == 0)), (66, B (x16.fDied == 0)), (65, I x16.fDied), (64, .ptr 1 0 5), (0, A a0), (1, A a1), (2, I a2), (8, rf 0 0 6 x5), (9, I x4), (10, .ptr 1 0 0), (11, I x15)] [sl 0 x5, sc 0 x16] ?_
 refine qn 106 [(0, A a0), (1, A a1), (2, I a2), (8, rf 0 0 6 x5), (9, I x4), (10, .ptr 1 0 0), (11, I x15), (64, .ptr 1 0 5), (65, I x16.fDied), (66, B (x16.fDied == 0)), (67, B (x16.fDied == 0))] [sl 0 x5, sc 0 x16] ?_
 exact ⟨(x16.fDied == 0), h, it [0, 1, 2, 8, 9, 10, 11, 67]⟩
 replace h := bF hc25 h
 rw [hc25]
 refine qvM [10] [1] (hB trivial) 2 106 [(65, .lit undef), (64, .lit undef), (63, B false), (0, A a0), (1, A a1), (2, I a2), (8, rf 0 0 6 x5), (9, I x4), (10, .ptr 1 0 0), (11, I x15)] [sl 0 x5, sc 0 x16] ?_
 refine qvM [10] [] trivial 2 106 [(67, B false), (66, .lit undef), (65, .lit undef), (64, .lit undef), (0, A a0), (1, A a1), (2, I a2), (8, rf 0 0 6 x5), (9, I x4), (10, .ptr 1 0 0), (11, I x15)] [sl 0 x5, sc 0 x16] ?_
 refine qn 106 [(0, A a0), (1, A a1), (2, I a2), (8, rf 0 0 6 x5), (9, I x4), (10, .ptr 1 0 0), (11, I x15), (64, .lit undef), (65, .lit undef), (66, .lit undef), (67, B false)] [sl 0 x5, sc 0 x16] ?_
 exact ⟨false, h, it [0, 1, 2, 8, 9, 10, 11, 67]⟩
 rintro x21 h
 unfold spec_IndexTurned_j5 at h
 refine pc h (fun h => ?_) (fun h => ?_)
 refine rveM [10] 106 [(0, A a0), (1, A a1), (2, I a2), (8, rf 0 0 6 x5), (9, I x4), (10, .ptr 1 0 0), (11, I x15)] [sl 0 x5, some ⟨0, Enc.cells ({ x16 with fDied := a2 })⟩] ?_
 exact ⟨{ x16 with fDied := a2 }, h, it [0, 1, 2, 8, 9, 10, 11]⟩
 refine pwp_skip ?_
 exact ⟨x16, h, it [0, 1, 2, 8, 9, 10, 11]⟩
 rintro x20 h
 unfold spec_IndexTurned_j4 at h
 refine rveM [10] 106 [(0, A a0), (1, A a1), (2, I a2), (8, rf 0 0 6 x5), (9, I x4), (10, .ptr 1 0 0), (11, I (w64 (x15 + 1)))] [sl 0 x5, sc 0 x20] ?_
 exact ⟨(f17, (w64 (x15 + 1)), x20), h, Nat.lt_succ_self _, it [0, 1, 2, 8, 9, 10, 11]⟩
 refine pwp_exit ?_
 refine rvM [10] 3 106 [(0, A a0), (1, A a1), (2, I a2), (9, I x4), (70, rf 0 0 6 x5), (72, .arr 6 ([x16] : List T_impl_Mark).length (eL ([x16] : List T_impl_Mark)) true)] [sl 0 x5, sc 0 x16] ?_
 obtain ⟨v26, hv27, h⟩ := bindS h
 refine opsP_app τ_ok 73 0 0 (nx hX) hv27 (by kernel_rfl) ?_
 refine veM [10] 1 106 [(0, A a0), (1, A a1), (2, I a2), (8, rf 0 1 6 v26), (9, I x4)] [sl 1 v26, sc 0 x16] ?_
 refine rveM [10] 106 [(0, A a0), (1, A a1), (2, I a2), (8, rf 0 1 6 v26), (9, I (w64 (x4 + 1)))] [sl 1 v26, sc 0 x16] ?_
 exact ⟨(f6, (w64 (x4 + 1)), v26), h, Nat.lt_succ_self _, qt (it (st' := ⟨106, [(0, A a0), (1, A a1), (2, I a2), (8, rf 0 1 6 v26), (9, I (w64 (x4 + 1)))], [sl 1 v26, sc 0 x16]⟩) [0, 1, 2, 8, 9]) (qt (Imp.truncS (st' := ⟨106, [(0, A a0), (1, A a1), (2, I a2), (8, rf 0 1 6 v26), (9, I (w64 (x4 + 1)))], [sl 1 v26]⟩) 1 (nx hX) (by kernel_rfl) (allBelow_mem (by exact (And.intro rfl (And.intro rfl (And.intro rfl (And.intro rfl (And.intro rfl trivial))))))) (by exact (And.intro (frz_below (eL_frz _)) trivial)) (by kernel_rfl)) (Imp.reverS 0 1 (eL v26) [0, 1, 2, 8, 9] (by kernel_rfl) (by exact (And.intro (eL_frz _) trivial)) (by kernel_rfl)))⟩
 refine pwp_exit ?_
 refine pwp_seq ?_
 refine srveM [10] 106 [(1, A a1), (2, I a2), (8, rf 0 0 6 x5), (12, I 0)] [sl 0 x5] ?_
 refine pwp_block ?_
 refine pwp_loop (ι := Nat × Int × (List T_impl_Mark)) (fun (f32, x30, x31) => (⟨106, [(1, A a1), (2, I a2), (8, rf 0 0 6 x31), (12, I x30)], [sl 0 x31]⟩ : St)) (fun (f32, x30, x31) => spec_IndexTurned_l6 a1 a2 f32 x30 x31 = some y) Prod.fst (FUEL, 0, x5) h (it [1, 2, 8, 12]) ?_
 rintro ⟨f32, x30, x31⟩ h
 dsimp only at h ⊢
 rcases f32 with _ | f32
 cases h
 rw [spec_IndexTurned_l6] at h
 refine pwp_seq ?_
 refine srveM [10] 106 [(1, A a1), (2, I a2), (8, rf 0 0 6 x31), (12, I x30), (77, B (decide (x30 < (a1.length : Int))))] [sl 0 x31] ?_
 refine pc h (fun h => ?_) (fun h => ?_)
 refine pwp_skip ?_
 refine pwp_seq ?_
 refine pwp_join (σ := (List T_impl_Mark)) (fun x35 => (⟨106, [(1, A a1), (2, I a2), (8, rf 0 0 6 x35), (12, I x30)], [sl 0 x35]⟩ : St)) (fun x35 => spec_IndexTurned_j7 x30 (spec_IndexTurned_l6 a1 a2 f32) x35 = some y) ?_ ?_
 refine pwp_block ?_
 refine srvM [10] 2 106 [(1, A a1), (2, I a2), (8, rf 0 0 6 x31), (12, I x30), (80, A a1), (81, I x30)] [sl 0 x31] ?_
 obtain ⟨v36, hv37, h⟩ := bindS h
 refine opsP_idx τ_ok 82 hv37 (by kernel_rfl) ?_
 refine veM [10] 3 106 [(1, A a1), (2, I a2), (8, rf 0 0 6 x31), (12, I x30), (85, B (!v36.fGone))] [sl 0 x31] ?_
 refine pc h (fun h => ?_) (fun h => ?_)
 refine ip 106 [(1, A a1), (2, I a2), (8, rf 0 0 6 x31), (12, I x30)] [sl 0 x31] ?_
 refine pwp_imp (Imp.ghosts 1 (st' := ⟨106, [(1, A a1), (2, I a2), (8, rf 0 0 6 x31), (12, I x30)], [sl 0 x31, some ⟨0, []⟩]⟩) (by kernel_rfl)) ?_
 refine pwp_any ([[0], [], [], [], [], [], [], [], [], [], [], [], [], [], [0, 1], [1]]) ([[], [], [], [], [], [], [], [], [], [], [], [], [], [], [1], []]) rfl (by kernel_rfl) ?_
 refine qvM [10] [0] (hL trivial) 1 106 [(86, rf 0 0 6 x31), (1, A a1), (2, I a2), (8, rf 0 0 6 x31), (12, I x30)] [sl 0 x31, some ⟨0, []⟩] ?_
 refine qvM [10] [] trivial 2 106 [(88, I x30), (87, A a1), (86, rf 0 0 6 x31), (1, A a1), (2, I a2), (8, rf 0 0 6 x31), (12, I x30)] [sl 0 x31, some ⟨0, []⟩] ?_
 obtain ⟨v39, hv40, h⟩ := bindS h
 refine qX (some 89) (pf v39 0) 106 [(89, pf v39 0), (86, rf 0 0 6 x31), (1, A a1), (2, I a2), (8, rf 0 0 6 x31), (12, I x30)] [sl 0 x31, some ⟨0, []⟩] (fun Γ' hΓ => CoreE.of_y (idxV_sound τ_ok (by kernel_rfl) hv40)) trivial ?_
 refine qvM [10] [] trivial 2 106 [(91, A v39.fRow), (86, rf 0 0 6 x31), (1, A a1), (2, I a2), (8, rf 0 0 6 x31), (12, I x30)] [sl 0 x31, some ⟨0, []⟩] ?_
 obtain ⟨v41, hv42, h⟩ := bindS h
 refine qX (some 92) (E v41) 106 [(92, E v41), (86, rf 0 0 6 x31), (1, A a1), (2, I a2), (8, rf 0 0 6 x31), (12, I x30)] [sl 0 x31, some ⟨0, []⟩] (fun Γ' hΓ => CoreE.of_g (callV_sound (τ := τ) (by kernel_rfl) rfl (ok_spec_l31Value hv42) (FzTo.frz rfl))) trivial ?_
 refine qvM [10] [] trivial 2 106 [(94, I x30), (93, A a1), (92, E v41), (86, rf 0 0 6 x31), (1, A a1), (2, I a2), (8, rf 0 0 6 x31), (12, I x30)] [sl 0 x31, some ⟨0, []⟩] ?_
 obtain ⟨v43, hv44, h⟩ := bindS h
 refine qX (some 95) (pf v43 0) 106 [(95, pf v43 0), (92, E v41), (86, rf 0 0 6 x31), (1, A a1), (2, I a2), (8, rf 0 0 6 x31), (12, I x30)] [sl 0 x31, some ⟨0, []⟩] (fun Γ' hΓ => CoreE.of_y (idxV_sound τ_ok (by kernel_rfl) hv44)) trivial ?_
 refine qvM [10] [] trivial 4 106 [(99, E (T_impl_Mark.mk v41 v43.fKey a2 0)), (86, rf 0 0 6 x31), (1, A a1), (2, I a2), (8, rf 0 0 6 x31), (12, I x30)] [sl 0 x31, some ⟨0, []⟩] ?_
 obtain ⟨v45, hv46, h⟩ := bindS h
 refine qX (some 100) (rf 1 1 6 v45) 106 [(100, rf 1 1 6 v45), (1, A a1), (2, I a2), (8, rf 0 0 6 x31), (12, I x30)] [sl 0 x31, sl 1 v45] (fun Γ' hΓ => callVK_E (xs := [rf 0 0 6 x31, E (T_impl_Mark.mk v41 v43.fKey a2 0)]) τ 100 1 1 (ny hΓ hX) (Nat.le_of_ble_eq_true (by kernel_rfl)) (fun _ => ⟨_, rfl, Nat.lt_succ_self _⟩) (ok_spec_l31Put hv46) (Blind.O (fun _ => rfl) _) (by kernel_rfl) (ViewL.cons (View.whole (v := 0) x31 (by kernel_rfl) rfl) (ViewL.cons (View.frz rfl) (ViewL.nil _)))) (hL (hL trivial)) ?_
 refine qvnM [10] [1] (hL trivial) 1 106 [(1, A a1), (2, I a2), (8, rf 1 1 6 v45), (12, I x30)] [sl 0 x31, sl 1 v45] ?_
 exact ⟨v45, h, qt (it (st' := ⟨106, [(1, A a1), (2, I a2), (8, rf 1 1 6 v45), (12, I x30)], [sl 0 x31, sl 1 v45]⟩) [1, 2, 8, 12]) (qt (Imp.hideS (st' := ⟨106, [(1, A a1), (2, I a2), (8, rf 1 1 6 v45), (12, I x30)], [none, sl 1 v45]⟩) 0 (nx hX) (by kernel_rfl)) (qt (Imp.mvS (st' := ⟨106, [(1, A a1), (2, I a2), (8, rf 0 1 6 v45), (12, I x30)], [sl 1 v45, none]⟩) 1 0 [1, 2, 8, 12] (nx hX) (v := 1) (cs := eL v45) (by kernel_rfl) (by kernel_rfl) (by exact (And.intro (eL_frz _) trivial)) (by kernel_rfl) (by kernel_rfl)) (qt (Imp.truncS (st' := ⟨106, [(1, A a1), (2, I a2), (8, rf 0 1 6 v45), (12, I x30)], [sl 1 v45]⟩) 1 (nx hX) (by kernel_rfl) (allBelow_mem (by exact (And.intro rfl (And.intro rfl (And.intro rfl (And.intro rfl trivial)))))) (by exact (And.intro (frz_below (eL_frz _)) trivial)) (by kernel_rfl)) (Imp.reverS 0 1 (eL v45) [1, 2, 8, 12] (by kernel_rfl) (by exact (And.intro (eL_frz _) trivial)) (by kernel_rfl)))))⟩
 refine pwp_skip ?_
 exact ⟨x31, h, it [1, 2, 8, 12]⟩
 rintro x35 h
 unfold spec_IndexTurned_j7 at h
 refine rveM [10] 106 [(1, A a1), (2, I a2), (8, rf 0 0 6 x35), (12, I (w64 (x30 + 1)))] [sl 0 x35] ?_
 exact ⟨(f32, (w64 (x30 + 1)), x35), h, Nat.lt_succ_self _, it [1, 2, 8, 12]⟩
 refine pwp_exit ?_
 refine pwp_seq ?_
 refine srveM [10] 106 [(8, rf 0 0 6 x31), (103, B (decide ((x31.length : Int) > 60)))] [sl 0 x31] ?_
 refine pc h (fun h => ?_) (fun h => ?_)
 refine srveM [10] 106 [(6, .arr 6 0 (eL ([] : List T_impl_Mark)) true), (7, B false)] [sl 0 x31] ?_
 refine ip 106 [(6, .arr 6 0 (eL ([] : List T_impl_Mark)) true), (7, B false)] [sl 0 x31] ?_
 refine pwp_imp (Imp.thawS (st' := ⟨106, [(6, .ref 1 0 0 6 ([] : List T_impl_Mark).length false), (7, B false)], [sl 0 x31, some ⟨0, eL ([] : List T_impl_Mark)⟩]⟩) 6 [6, 7] (by kernel_rfl)) ?_
 have h := si h
 subst h
 exact pwp_ret (rt (.tup [.ref 1 0 0 6 ([] : List T_impl_Mark).length false, B false]) (OutP.tup (OutL.cons (OutP.list (v := 0) (by kernel_rfl)) (OutL.cons (OutP.frz (by kernel_rfl)) (OutL.nil _)))))
 refine pwp_skip ?_
 refine srveM [10] 106 [(6, rf 0 0 6 x31), (7, B true)] [sl 0 x31] ?_
 have h := si h
 subst h
 exact pwp_ret (rt (.tup [rf 0 0 6 x31, B true]) (OutP.tup (OutL.cons (OutP.list (v := 0) (by kernel_rfl)) (OutL.cons (OutP.frz (by kernel_rfl)) (OutL.nil _)))))
def laws_toWrite_D (a0 : T_laws_Write) : Option T_impl_Write := (laws_toValueS a0.fRow).bind fun v1 => some (T_impl_Write.mk a0.fKey v1 a0.fGone)
theorem ok_laws_toWrite_D {a0 : T_laws_Write} {y : T_impl_Write} (h : laws_toWrite_D a0 = some y) : OK Try.prog 68 [E a0] (.agg (DEnc.cells y)) := by
 refine ow Try.func68 fun Γ hX => ?_
 unfold laws_toWrite_D at h
 refine srvM [1, 2, 3] 1 15 [(1, .ptr 0 0 0)] [sc 0 a0] ?_
 refine opsP_imp (Imp.ghosts 1 (st' := ⟨15, [(1, .ptr 0 0 0)], [sc 0 a0, some ⟨0, []⟩]⟩) (by kernel_rfl)) ?_
 refine opsP_E (dd := some 2) (x := .ptr 1 1 0) (alz_E (blk := ⟨0, []⟩) (zs := [.lit (.int .i64 0), .arr 3 0 [] true, .lit (.bool false)]) 2 105 1 0 (nx hX) zi_ok105 (by kernel_rfl) (by kernel_rfl)) ?_
 refine veM [1, 2, 3] 0 15 [(1, .ptr 0 0 0), (2, .ptr 1 1 0)] [sc 0 a0, some ⟨1, [I 0, .arr 3 0 (eL ([] : List T_impl_Value)) true, B false]⟩] ?_
 refine srvM [1, 2, 3] 0 15 [(1, .ptr 0 0 0), (2, .ptr 1 1 0)] [sc 0 a0, some ⟨1, [I 0, .arr 3 0 (eL ([] : List T_impl_Value)) true, B false]⟩] ?_
 refine opsP_imp (Imp.ghosts 1 (st' := ⟨15, [(1, .ptr 0 0 0), (2, .ptr 1 1 0)], [sc 0 a0, some ⟨1, [I 0, .arr 3 0 (eL ([] : List T_impl_Value)) true, B false]⟩, some ⟨0, []⟩]⟩) (by kernel_rfl)) ?_
 refine opsP_E (dd := some 3) (x := .ptr 2 1 0) (alz_E (blk := ⟨0, []⟩) (zs := [.lit (.int .i64 0), .arr 3 0 [] true, .lit (.bool false)]) 3 105 2 0 (nx hX) zi_ok105 (by kernel_rfl) (by kernel_rfl)) ?_
 refine veM [1, 2, 3] 0 15 [(1, .ptr 0 0 0), (2, .ptr 1 1 0), (3, .ptr 2 1 0)] [sc 0 a0, some ⟨1, [I 0, .arr 3 0 (eL ([] : List T_impl_Value)) true, B false]⟩, some ⟨1, [I 0, .arr 3 0 (eL ([] : List T_impl_Value)) true, B false]⟩] ?_
 refine srveM [1, 2, 3] 15 [(1, .ptr 0 0 0), (2, .ptr 1 1 0), (3, .ptr 2 1 0)] [sc 0 a0, some ⟨1, [I 0, .arr 3 0 (eL ([] : List T_impl_Value)) true, B false]⟩, some ⟨1, [I a0.fKey, .arr 3 0 (eL ([] : List T_impl_Value)) true, B false]⟩] ?_
 refine srvM [1, 2, 3] 2 15 [(1, .ptr 0 0 0), (2, .ptr 1 1 0), (3, .ptr 2 1 0), (8, A a0.fRow)] [sc 0 a0, some ⟨1, [I 0, .arr 3 0 (eL ([] : List T_impl_Value)) true, B false]⟩, some ⟨1, [I a0.fKey, .arr 3 0 (eL ([] : List T_impl_Value)) true, B false]⟩] ?_
 obtain ⟨v1, hv2, h⟩ := bindS h
 refine opsP_callO τ 9 (ok_laws_toValueS hv2) rfl (by kernel_rfl) ?_
 refine veM [1, 2, 3] 2 15 [(1, .ptr 0 0 0), (2, .ptr 1 1 0), (3, .ptr 2 1 0)] [sc 0 a0, some ⟨1, [I 0, .arr 3 0 (eL ([] : List T_impl_Value)) true, B false]⟩, some ⟨1, [I a0.fKey, rf 3 0 3 v1, B false]⟩, sl 0 v1] ?_
 refine srveM [1, 2, 3] 15 [(2, .ptr 1 1 0), (3, .ptr 2 1 0)] [sc 0 a0, some ⟨1, [I 0, .arr 3 0 (eL ([] : List T_impl_Value)) true, B false]⟩, some ⟨1, [I a0.fKey, rf 3 0 3 v1, B a0.fGone]⟩, sl 0 v1] ?_
 refine srveM [1, 2, 3] 15 [(2, .ptr 1 1 0)] [sc 0 a0, some ⟨1, [I a0.fKey, rf 3 0 3 v1, B a0.fGone]⟩, some ⟨1, [I a0.fKey, rf 3 0 3 v1, B a0.fGone]⟩, sl 0 v1] ?_
 have h := si h
 subst h
 exact pwp_ret (rt (.agg [I a0.fKey, rf 3 0 3 v1, B a0.fGone]) (OutP.agg (OutL.cons (OutP.frz rfl) (OutL.cons (OutP.listn (v := 0) (xs := v1) rfl (by kernel_rfl)) (OutL.cons (OutP.frz rfl) (OutL.nil _))))))
def laws_toWriteS_D_l0 (a0 : List T_laws_Write) : Nat → Int → (List T_impl_Write) → Option (List T_impl_Write)
 | 0, _, _ => none
 | f6 + 1, x4, x5 => bif (decide (x4 < (a0.length : Int))) then (getI a0 x4).bind fun v9 => (laws_toWrite_D v9).bind fun v11 => (getI x5 x4).bind fun v13 => (laws_toWriteS_D_l0 a0 f6) (w64 (x4 + 1)) (x5.set x4.toNat ({ v11 with fRow := v11.fRow } : T_impl_Write)) else some x5
def laws_toWriteS_D (a0 : List T_laws_Write) : Option (List T_impl_Write) := (mkI (a0.length : Int) (T_impl_Write.mk 0 [] false)).bind fun v1 => laws_toWriteS_D_l0 a0 FUEL 0 v1
theorem ok_laws_toWriteS_D {a0 : List T_laws_Write} {y : List T_impl_Write} (h : laws_toWriteS_D a0 = some y) : OK Try.prog 29 [A a0] (OD y) := by
 refine ow Try.func29 fun Γ hX => ?_
 unfold laws_toWriteS_D at h
 refine srve 23 [(0, A a0)] [] ?_
 refine srv 2 23 [(0, A a0), (6, I (a0.length : Int))] [] ?_
 obtain ⟨v1, hv2, h⟩ := bindS h
 refine opsP_E (dd := some 7) (x := rf 0 0 3 v1) (mkD_N τ_ok 7 0 105 (nx hX) (by kernel_rfl) _ hv2 dz_ok105 (by kernel_rfl)) ?_
 refine ve 1 23 [(0, A a0), (3, rf 0 0 3 v1)] [some ⟨0, dL v1⟩] ?_
 refine pwp_seq ?_
 refine srve 23 [(0, A a0), (3, rf 0 0 3 v1), (4, I 0)] [some ⟨0, dL v1⟩] ?_
 refine pwp_block ?_
 refine pwp_loop (ι := Nat × Int × (List T_impl_Write)) (fun (f6, x4, x5) => (⟨23, [(0, A a0), (3, rf 0 0 3 x5), (4, I x4)], [some ⟨0, dL x5⟩]⟩ : St)) (fun (f6, x4, x5) => laws_toWriteS_D_l0 a0 f6 x4 x5 = some y) Prod.fst (FUEL, 0, v1) h (it [0, 3, 4]) ?_
 rintro ⟨f6, x4, x5⟩ h
 dsimp only at h ⊢
 rcases f6 with _ | f6
 cases h
 rw [laws_toWriteS_D_l0] at h
 refine pwp_seq ?_
 refine srve 23 [(0, A a0), (3, rf 0 0 3 x5), (4, I x4), (11, B (decide (x4 < (a0.length : Int))))] [some ⟨0, dL x5⟩] ?_
 refine pc h (fun h => ?_) (fun h => ?_)
 refine pwp_skip ?_
 refine pwp_seq ?_
 refine pwp_block ?_
 refine rv 4 23 [(0, A a0), (3, rf 0 0 3 x5), (4, I x4), (14, rf 0 0 3 x5), (15, I x4), (16, A a0), (17, I x4)] [some ⟨0, dL x5⟩] ?_
 obtain ⟨v9, hv10, h⟩ := bindS h
 refine opsP_idx τ_ok 18 hv10 (by kernel_rfl) ?_
 refine v 1 23 [(0, A a0), (3, rf 0 0 3 x5), (4, I x4), (14, rf 0 0 3 x5), (15, I x4), (19, E v9)] [some ⟨0, dL x5⟩] ?_
 obtain ⟨v11, hv12, h⟩ := bindS h
 refine opsP_callO τ 20 (ok_laws_toWrite_D hv12) rfl (by kernel_rfl) ?_
 obtain ⟨v13, hv14, h⟩ := bindS h
 refine opsP_idr τ_ok 21 0 0 x5.length hv14 rfl (by kernel_rfl) ?_
 refine v 0 23 [(0, A a0), (3, rf 0 0 3 x5), (4, I x4), (20, .agg [I v11.fKey, rf 1 0 3 v11.fRow, B v11.fGone]), (21, .ptr 0 0 (x4.toNat * 3))] [some ⟨0, dL x5⟩, sl 0 v11.fRow] ?_
 refine opsP_E (dd := none) (x := .any) ((std_E (xs := x5) (vs := [I v11.fKey, rf 1 0 3 v11.fRow, B v11.fGone]) (cells' := setL (dL x5) (x4.toNat * 3 + 0) [I v11.fKey, rf 1 0 3 v11.fRow, B v11.fGone]) τ_ok 105 0 0 0 hv14 (by kernel_rfl) (by kernel_rfl) rfl).then (H2 := [some ⟨0, dL (x5.set x4.toNat ({ v11 with fRow := v11.fRow } : T_impl_Write))⟩, some ⟨1, []⟩]) (HStep.nestL (xs := x5) (vs := [I v11.fKey, rf 1 0 3 v11.fRow, B v11.fGone]) 0 0 0 ({ v11 with fRow := v11.fRow } : T_impl_Write) hv14 (by kernel_rfl) (OutL.cons (OutP.frz rfl) (OutL.cons (OutP.listn (v := 0) (xs := v11.fRow) rfl (by kernel_rfl)) (OutL.cons (OutP.frz rfl) (OutL.nil _)))) (by decide) (by decide) (nx hX) (by kernel_rfl) (by kernel_rfl) (by kernel_rfl) (by kernel_rfl))) ?_
 refine io 23 [(0, A a0), (3, rf 0 0 3 x5), (4, I x4)] [some ⟨0, dL (x5.set x4.toNat ({ v11 with fRow := v11.fRow } : T_impl_Write))⟩, some ⟨1, []⟩] ?_
 refine opsP_ren (st' := ⟨23, [(0, A a0), (3, .ref 0 0 0 3 (x5.set x4.toNat ({ v11 with fRow := v11.fRow } : T_impl_Write)).length false), (4, I x4)], [some ⟨0, dL (x5.set x4.toNat ({ v11 with fRow := v11.fRow } : T_impl_Write))⟩, some ⟨1, []⟩]⟩) 0 (x5.set x4.toNat ({ v11 with fRow := v11.fRow } : T_impl_Write)).length (renC trivial (renC (ren_ref (List.length_set ..).symm) (renC trivial renC0))) (by kernel_rfl) ?_
 refine ve 0 23 [(0, A a0), (3, .ref 0 0 0 3 (x5.set x4.toNat ({ v11 with fRow := v11.fRow } : T_impl_Write)).length false), (4, I x4)] [some ⟨0, dL (x5.set x4.toNat ({ v11 with fRow := v11.fRow } : T_impl_Write))⟩, some ⟨1, []⟩] ?_
 refine rve 23 [(0, A a0), (3, .ref 0 0 0 3 (x5.set x4.toNat ({ v11 with fRow := v11.fRow } : T_impl_Write)).length false), (4, I (w64 (x4 + 1)))] [some ⟨0, dL (x5.set x4.toNat ({ v11 with fRow := v11.fRow } : T_impl_Write))⟩, some ⟨1, []⟩] ?_
 exact ⟨(f6, (w64 (x4 + 1)), (x5.set x4.toNat ({ v11 with fRow := v11.fRow } : T_impl_Write))), h, Nat.lt_succ_self _, (it (st' := ⟨23, [(0, A a0), (3, .ref 0 0 0 3 (x5.set x4.toNat ({ v11 with fRow := v11.fRow } : T_impl_Write)).length false), (4, I (w64 (x4 + 1)))], [some ⟨0, dL (x5.set x4.toNat ({ v11 with fRow := v11.fRow } : T_impl_Write))⟩, some ⟨1, []⟩]⟩) [0, 3, 4]).trans (Imp.truncS 1 (nx hX) (by kernel_rfl) (allBelow_mem (by exact (And.intro rfl (And.intro rfl (And.intro rfl trivial))))) (by exact (And.intro (dL_below _ _) trivial)) (by kernel_rfl))⟩
 refine pwp_exit ?_
 refine srve 23 [(2, rf 0 0 3 x5)] [some ⟨0, dL x5⟩] ?_
 have h := si h
 subst h
 exact pwp_ret (rt (rf 0 0 3 x5) (OutP.listD (v := 0) (by kernel_rfl)))
def slices_Clip_impl_Mark_impl_Mark_R (a0 : List T_impl_Mark) : Option (List T_impl_Mark) := (slI a0 none (some (a0.length : Int)) (some (a0.length : Int))).bind fun v1 => some v1
theorem ok_slices_Clip_impl_Mark_impl_Mark_R {a0 : List T_impl_Mark} {y : List T_impl_Mark} (h : slices_Clip_impl_Mark_impl_Mark_R a0 = some y) : OKm Try.prog 82 [O a0] (O y) := by
 refine OKm_of_pwp (sl := [rf 0 0 6 a0]) (bs := [⟨0, eL a0⟩]) τ_ok Try.func82 rfl (by kernel_rfl) rfl (by kernel_rfl) fun Γ hX => ?_
 refine pwp_imp (Imp.to (st' := ⟨9, [(0, rf 0 0 6 a0)], [sl 0 a0]⟩) [0] (by kernel_rfl)) ?_
 unfold slices_Clip_impl_Mark_impl_Mark_R at h
 refine srve 9 [(0, rf 0 0 6 a0)] [sl 0 a0] ?_
 refine srv 5 9 [(3, rf 0 0 6 a0), (5, I (a0.length : Int)), (7, I (a0.length : Int))] [sl 0 a0] ?_
 obtain ⟨v1, hv2, h⟩ := bindS h
 refine opsP_slr τ_ok 8 0 0 a0.length hv2 rfl (by kernel_rfl) ?_
 refine ve 1 9 [(2, rf 0 0 6 v1)] [sl 0 a0] ?_
 refine ip 9 [(2, rf 0 0 6 v1)] [sl 0 a0] ?_
 refine pwp_imp (Imp.cut (st' := ⟨9, [(2, rf 0 0 6 v1)], [sl 0 v1]⟩) 0 0 a0 v1 (by kernel_rfl) (slI_view hv2) (by kernel_rfl)) ?_
 have h := si h
 subst h
 exact pwp_ret (rt (rf 0 0 6 v1) (OutP.list (v := 0) (by kernel_rfl)))
def impl_clone_impl_Mark_R (a0 : List T_impl_Mark) : Option (List T_impl_Mark) := bif ((a0.length : Int) == 0) then some ([] : List T_impl_Mark) else (app [] a0).bind fun v2 => (slices_Clip_impl_Mark_impl_Mark_R v2).bind fun v4 => some v4
theorem ok_impl_clone_impl_Mark_R {a0 : List T_impl_Mark} {y : List T_impl_Mark} (h : impl_clone_impl_Mark_R a0 = some y) : OK Try.prog 41 [A a0] (O y) := by
 refine ow Try.func41 fun Γ hX => ?_
 unfold impl_clone_impl_Mark_R at h
 refine srve 9 [(0, A a0)] [] ?_
 refine pwp_seq ?_
 refine srve 9 [(0, A a0), (5, B ((a0.length : Int) == 0))] [] ?_
 refine pc h (fun h => ?_) (fun h => ?_)
 refine srve 9 [(2, .arr 6 0 (eL ([] : List T_impl_Mark)) true)] [] ?_
 refine ip 9 [(2, .arr 6 0 (eL ([] : List T_impl_Mark)) true)] [] ?_
 refine pwp_imp (Imp.thawS (st' := ⟨9, [(2, .ref 0 0 0 6 ([] : List T_impl_Mark).length false)], [some ⟨0, eL ([] : List T_impl_Mark)⟩]⟩) 2 [2] (by kernel_rfl)) ?_
 have h := si h
 subst h
 exact pwp_ret (rt (.ref 0 0 0 6 ([] : List T_impl_Mark).length false) (OutP.list (v := 0) (by kernel_rfl)))
 refine pwp_skip ?_
 refine srv 1 9 [(6, A a0)] [] ?_
 obtain ⟨v2, hv3, h⟩ := bindS h
 refine opsP_apn τ_ok 7 0 (nx hX) hv3 (by kernel_rfl) ?_
 obtain ⟨v4, hv5, h⟩ := bindS h
 refine opsP_callM (xs := [rf 0 1 6 v2]) (x := rf 1 0 6 v4) (bs := [⟨0, eL v4⟩]) τ 8 [0] (nx hX) (ok_slices_Clip_impl_Mark_impl_Mark_R hv5) (by kernel_rfl) (OutL.cons (OutP.list (v := 1) (by kernel_rfl)) (OutL.nil _)) (by decide) (by kernel_rfl) ?_
 refine ve 1 9 [(2, rf 1 0 6 v4)] [none, sl 0 v4] ?_
 have h := si h
 subst h
 exact pwp_ret (rt (rf 1 0 6 v4) (OutP.list (v := 0) (by kernel_rfl)))
noncomputable def impl_IndexTurned_R_j3 (a2 : Int) (x15 : Int) (x16 : List T_impl_Mark) (K18 : Int → (List T_impl_Mark) → Option ((List T_impl_Mark) × Bool)) (x20 : Bool) : Option ((List T_impl_Mark) × Bool) := bif x20 then (getI x16 x15).bind fun v22 => K18 (w64 (x15 + 1)) (x16.set x15.toNat ({ v22 with fDied := a2 } : T_impl_Mark)) else K18 (w64 (x15 + 1)) x16
noncomputable def impl_IndexTurned_R_l2 (a2 : Int) (x6 : Int) (x7 : List T_impl_Mark) (K9 : Int → (List T_impl_Mark) → Option ((List T_impl_Mark) × Bool)) (v11 : T_impl_Write) : Nat → Int → (List T_impl_Mark) → Option ((List T_impl_Mark) × Bool)
 | 0, _, _ => none
 | f17 + 1, x15, x16 => bif (decide (x15 < (x7.length : Int))) then (getI x16 x15).bind fun v24 => bif (v24.fKey == v11.fKey) then (getI x16 x15).bind fun v26 => impl_IndexTurned_R_j3 a2 x15 x16 (impl_IndexTurned_R_l2 a2 x6 x7 K9 v11 f17) (v26.fDied == 0) else impl_IndexTurned_R_j3 a2 x15 x16 (impl_IndexTurned_R_l2 a2 x6 x7 K9 v11 f17) false else bif (!v11.fGone) then (impl_firstOf v11.fRow).bind fun v30 => (app x16 ([(T_impl_Mark.mk v30 v11.fKey a2 0)] : List T_impl_Mark)).bind fun v32 => K9 (w64 (x6 + 1)) v32 else K9 (w64 (x6 + 1)) x16
noncomputable def impl_IndexTurned_R_l1 (a1 : List T_impl_Write) (a2 : Int) : Nat → Int → (List T_impl_Mark) → Option ((List T_impl_Mark) × Bool)
 | 0, _, _ => none
 | f8 + 1, x6, x7 => bif (decide (x6 < (a1.length : Int))) then (getI a1 x6).bind fun v11 => impl_IndexTurned_R_l2 a2 x6 x7 (impl_IndexTurned_R_l1 a1 a2 f8) v11 FUEL 0 x7 else (sortM x7 impl_Mark_order).bind fun v34 => bif (decide ((v34.length : Int) > 60)) then some (([] : List T_impl_Mark), false) else (impl_clone_impl_Mark_R v34).bind fun v37 => some (v37, true)
noncomputable def impl_IndexTurned_R_j0 (a0 : List T_impl_Mark) (a1 : List T_impl_Write) (a2 : Int) (x1 : Bool) : Option ((List T_impl_Mark) × Bool) := bif x1 then some (([] : List T_impl_Mark), false) else (slices_Clone_impl_Mark_impl_Mark a0).bind fun v3 => impl_IndexTurned_R_l1 a1 a2 FUEL 0 v3
noncomputable def impl_IndexTurned_R (a0 : List T_impl_Mark) (a1 : List T_impl_Write) (a2 : Int) : Option ((List T_impl_Mark) × Bool) := (impl_IndexOk a0).bind fun v39 => bif (!v39) then impl_IndexTurned_R_j0 a0 a1 a2 true else (impl_WritesOk a1).bind fun v41 => bif (!v41) then impl_IndexTurned_R_j0 a0 a1 a2 true else (impl_between a2 1 40).bind fun v43 => bif (!v43) then impl_IndexTurned_R_j0 a0 a1 a2 true else (slices_ContainsFunc_impl_Mark_impl_Mark a0 (fun z0 => impl_IndexTurned_1 z0 a2)).bind fun v45 => impl_IndexTurned_R_j0 a0 a1 a2 v45
theorem ok_impl_IndexTurned_R {a0 : List T_impl_Mark} {a1 : List T_impl_Write} {a2 : Int} {y : (List T_impl_Mark) × Bool} (h : impl_IndexTurned_R a0 a1 a2 = some y) : OK Try.prog 30 [A a0, A a1, I a2] (.tup [O y.1, B y.2]) := by
 refine ow Try.func30 fun Γ hX => ?_
 unfold impl_IndexTurned_R at h
 refine srveM [10] 86 [(0, A a0), (1, A a1), (5, pf a2 0)] [] ?_
 refine pwp_seq ?_
 refine pwp_seq ?_
 refine pwp_join (σ := Bool) (fun x1 => (⟨86, [(0, A a0), (1, A a1), (5, pf a2 0), (29, B x1)], []⟩ : St)) (fun x1 => impl_IndexTurned_R_j0 a0 a1 a2 x1 = some y) ?_ ?_
 refine rvM [10] 1 86 [(0, A a0), (1, A a1), (5, pf a2 0), (12, A a0)] [] ?_
 obtain ⟨v39, hv40, h⟩ := bindS h
 refine cF 13 (ok_impl_IndexOk hv40) ?_
 refine vM [10] 2 86 [(0, A a0), (1, A a1), (5, pf a2 0), (15, B (!v39))] [] ?_
 rcases fk (!v39) with hc49 | hc49
 replace h := bT hc49 h
 rw [hc49]
 refine veM [10] 14 86 [(0, A a0), (1, A a1), (5, pf a2 0), (29, B true)] [] ?_
 exact ⟨true, h, it [0, 1, 5, 29]⟩
 replace h := bF hc49 h
 rw [hc49]
 refine vM [10] 1 86 [(0, A a0), (1, A a1), (5, pf a2 0), (15, B false), (16, A a1)] [] ?_
 obtain ⟨v41, hv42, h⟩ := bindS h
 refine cF 17 (ok_impl_WritesOk hv42) ?_
 refine vM [10] 3 86 [(0, A a0), (1, A a1), (5, pf a2 0), (20, B (!v41))] [] ?_
 rcases fk (!v41) with hc48 | hc48
 replace h := bT hc48 h
 rw [hc48]
 refine veM [10] 9 86 [(0, A a0), (1, A a1), (5, pf a2 0), (29, B true)] [] ?_
 exact ⟨true, h, it [0, 1, 5, 29]⟩
 replace h := bF hc48 h
 rw [hc48]
 refine vM [10] 1 86 [(0, A a0), (1, A a1), (5, pf a2 0), (20, B false), (21, I a2)] [] ?_
 obtain ⟨v43, hv44, h⟩ := bindS h
 refine cF 22 (ok_impl_between hv44) ?_
 refine vM [10] 3 86 [(0, A a0), (1, A a1), (5, pf a2 0), (25, B (!v43))] [] ?_
 rcases fk (!v43) with hc47 | hc47
 replace h := bT hc47 h
 rw [hc47]
 refine veM [10] 4 86 [(0, A a0), (1, A a1), (5, pf a2 0), (29, B true)] [] ?_
 exact ⟨true, h, it [0, 1, 5, 29]⟩
 replace h := bF hc47 h
 rw [hc47]
 refine vM [10] 2 86 [(0, A a0), (1, A a1), (5, pf a2 0), (25, B false), (26, A a0), (27, .fn 70 [pf a2 0])] [] ?_
 obtain ⟨v45, hv46, h⟩ := bindS h
 refine cF 28 (ok_slices_ContainsFunc_impl_Mark_impl_Mark (rfl) (fun _ w hw => ok_impl_IndexTurned_1 hw) hv46) ?_
 refine veM [10] 1 86 [(0, A a0), (1, A a1), (5, pf a2 0), (29, B v45)] [] ?_
 exact ⟨v45, h, it [0, 1, 5, 29]⟩
 rintro x1 h
 unfold impl_IndexTurned_R_j0 at h
 refine pc h (fun h => ?_) (fun h => ?_)
 refine srveM [10] 86 [(6, .arr 6 0 (eL ([] : List T_impl_Mark)) true), (7, B false)] [] ?_
 refine ip 86 [(6, .arr 6 0 (eL ([] : List T_impl_Mark)) true), (7, B false)] [] ?_
 refine pwp_imp (Imp.thawS (st' := ⟨86, [(6, .ref 0 0 0 6 ([] : List T_impl_Mark).length false), (7, B false)], [some ⟨0, eL ([] : List T_impl_Mark)⟩]⟩) 6 [6, 7] (by kernel_rfl)) ?_
 have h := si h
 subst h
 exact pwp_ret (rt (.tup [.ref 0 0 0 6 ([] : List T_impl_Mark).length false, B false]) (OutP.tup (OutL.cons (OutP.list (v := 0) (by kernel_rfl)) (OutL.cons (OutP.frz (by kernel_rfl)) (OutL.nil _)))))
 refine pwp_skip ?_
 refine srvM [10] 1 86 [(1, A a1), (5, pf a2 0), (30, A a0)] [] ?_
 obtain ⟨v3, hv4, h⟩ := bindS h
 refine opsP_callO τ 31 (ok_slices_Clone_impl_Mark_impl_Mark hv4) rfl (by kernel_rfl) ?_
 refine veM [10] 1 86 [(1, A a1), (5, pf a2 0), (8, rf 0 0 6 v3)] [sl 0 v3] ?_
 refine pwp_seq ?_
 refine srveM [10] 86 [(5, pf a2 0), (8, rf 0 0 6 v3), (32, A a1), (33, I (a1.length : Int)), (34, I 0)] [sl 0 v3] ?_
 refine pwp_block ?_
 refine pwp_loop (ι := Nat × Int × (List T_impl_Mark)) (fun (f8, x6, x7) => (⟨86, [(5, pf a2 0), (8, rf 0 0 6 x7), (32, A a1), (33, I (a1.length : Int)), (34, I x6)], [sl 0 x7]⟩ : St)) (fun (f8, x6, x7) => impl_IndexTurned_R_l1 a1 a2 f8 x6 x7 = some y) Prod.fst (FUEL, 0, v3) h (it [5, 8, 32, 33, 34]) ?_
 rintro ⟨f8, x6, x7⟩ h
 dsimp only at h ⊢
 rcases f8 with _ | f8
 cases h
 rw [impl_IndexTurned_R_l1] at h
 refine srveM [10] 86 [(5, pf a2 0), (8, rf 0 0 6 x7), (32, A a1), (33, I (a1.length : Int)), (34, I x6), (35, B (decide (x6 < (a1.length : Int))))] [sl 0 x7] ?_
 refine pwp_seq ?_
 refine pc h (fun h => ?_) (fun h => ?_)
 refine pwp_skip ?_
 refine pwp_seq ?_
 refine pwp_block ?_
 refine pwp_seq ?_
 refine pwp_region ?_
 obtain ⟨v11, hv12, h⟩ := bindS h
 refine opsP_idx τ_ok 36 hv12 (by kernel_rfl) ?_
 refine veM [10] 3 86 [(5, pf a2 0), (8, rf 0 0 6 x7), (10, .ptr 1 0 0), (32, A a1), (33, I (a1.length : Int)), (34, I x6)] [sl 0 x7, sc 0 v11] ?_
 refine pwp_seq ?_
 refine srveM [10] 86 [(5, pf a2 0), (8, rf 0 0 6 x7), (10, .ptr 1 0 0), (32, A a1), (33, I (a1.length : Int)), (34, I x6), (39, I (x7.length : Int)), (40, I 0)] [sl 0 x7, sc 0 v11] ?_
 refine pwp_block ?_
 refine pwp_loop (ι := Nat × Int × (List T_impl_Mark)) (fun (f17, x15, x16) => (⟨86, [(5, pf a2 0), (8, rf 0 0 6 x16), (10, .ptr 1 0 0), (32, A a1), (33, I (a1.length : Int)), (34, I x6), (39, I (x7.length : Int)), (40, I x15)], [sl 0 x16, sc 0 v11]⟩ : St)) (fun (f17, x15, x16) => impl_IndexTurned_R_l2 a2 x6 x7 (impl_IndexTurned_R_l1 a1 a2 f8) v11 f17 x15 x16 = some y) Prod.fst (FUEL, 0, x7) h (it [5, 8, 10, 32, 33, 34, 39, 40]) ?_
 rintro ⟨f17, x15, x16⟩ h
 dsimp only at h ⊢
 rcases f17 with _ | f17
 cases h
 rw [impl_IndexTurned_R_l2] at h
 refine srveM [10] 86 [(5, pf a2 0), (8, rf 0 0 6 x16), (10, .ptr 1 0 0), (32, A a1), (33, I (a1.length : Int)), (34, I x6), (39, I (x7.length : Int)), (40, I x15), (41, B (decide (x15 < (x7.length : Int))))] [sl 0 x16, sc 0 v11] ?_
 refine pwp_seq ?_
 refine pc h (fun h => ?_) (fun h => ?_)
 refine pwp_skip ?_
 refine pwp_seq ?_
 refine pwp_block ?_
 refine srveM [10] 86 [(5, pf a2 0), (8, rf 0 0 6 x16), (10, .ptr 1 0 0), (11, I x15), (32, A a1), (33, I (a1.length : Int)), (34, I x6), (39, I (x7.length : Int)), (40, I x15)] [sl 0 x16, sc 0 v11] ?_
 refine pwp_seq ?_
 refine pwp_join (σ := Bool) (fun x20 => (⟨86, [(5, pf a2 0), (8, rf 0 0 6 x16), (10, .ptr 1 0 0), (11, I x15), (32, A a1), (33, I (a1.length : Int)), (34, I x6), (39, I (x7.length : Int)), (40, I x15), (58, B x20)], [sl 0 x16, sc 0 v11]⟩ : St)) (fun x20 => impl_IndexTurned_R_j3 a2 x15 x16 (impl_IndexTurned_R_l2 a2 x6 x7 (impl_IndexTurned_R_l1 a1 a2 f8) v11 f17) x20 = some y) ?_ ?_
 refine ip 86 [(5, pf a2 0), (8, rf 0 0 6 x16), (10, .ptr 1 0 0), (11, I x15), (32, A a1), (33, I (a1.length : Int)), (34, I x6), (39, I (x7.length : Int)), (40, I x15)] [sl 0 x16, sc 0 v11] ?_
 refine pwp_any ([[0], [], [0], [0], [0], [1], [1], [], [], [0], [], [0], [0], [0], [], []]) ([[], [], [], [], [], [], [], [], [], [], [], [], [], [], [], []]) rfl (by kernel_rfl) ?_
 refine qvM [10] [0] (hL trivial) 1 86 [(43, rf 0 0 6 x16), (5, pf a2 0), (8, rf 0 0 6 x16), (10, .ptr 1 0 0), (11, I x15), (32, A a1), (33, I (a1.length : Int)), (34, I x6), (39, I (x7.length : Int)), (40, I x15)] [sl 0 x16, sc 0 v11] ?_
 refine qvM [10] [] trivial 1 86 [(44, I x15), (43, rf 0 0 6 x16), (5, pf a2 0), (8, rf 0 0 6 x16), (10, .ptr 1 0 0), (11, I x15), (32, A a1), (33, I (a1.length : Int)), (34, I x6), (39, I (x7.length : Int)), (40, I x15)] [sl 0 x16, sc 0 v11] ?_
 obtain ⟨v24, hv25, h⟩ := bindS h
 refine qX (some 45) (.ptr 0 0 (x15.toNat * 6)) 86 [(45, .ptr 0 0 (x15.toNat * 6)), (5, pf a2 0), (8, rf 0 0 6 x16), (10, .ptr 1 0 0), (11, I x15), (32, A a1), (33, I (a1.length : Int)), (34, I x6), (39, I (x7.length : Int)), (40, I x15)] [sl 0 x16, sc 0 v11] (fun Γ' hΓ => CoreE.of_y (idrV_sound (n := x16.length) τ_ok (by kernel_rfl) hv25 rfl)) (hL trivial) ?_
 refine qvM [10] [0] (hL trivial) 1 86 [(46, .ptr 0 0 (x15.toNat * 6 + 3)), (5, pf a2 0), (8, rf 0 0 6 x16), (10, .ptr 1 0 0), (11, I x15), (32, A a1), (33, I (a1.length : Int)), (34, I x6), (39, I (x7.length : Int)), (40, I x15)] [sl 0 x16, sc 0 v11] ?_
 refine qX (some 47) (I v24.fKey) 86 [(47, I v24.fKey), (5, pf a2 0), (8, rf 0 0 6 x16), (10, .ptr 1 0 0), (11, I x15), (32, A a1), (33, I (a1.length : Int)), (34, I x6), (39, I (x7.length : Int)), (40, I x15)] [sl 0 x16, sc 0 v11] (fun Γ' hΓ => CoreE.of_y (ldeV_sound (t := 3) (o' := 3) (r := I v24.fKey) τ_ok hv25 (by kernel_rfl) (by kernel_rfl))) (hL trivial) ?_
 refine qvM [10] [1] (hB trivial) 2 86 [(49, I v11.fKey), (47, I v24.fKey), (5, pf a2 0), (8, rf 0 0 6 x16), (10, .ptr 1 0 0), (11, I x15), (32, A a1), (33, I (a1.length : Int)), (34, I x6), (39, I (x7.length : Int)), (40, I x15)] [sl 0 x16, sc 0 v11] ?_
 refine qvM [10] [] trivial 2 86 [(51, B (v24.fKey == v11.fKey)), (5, pf a2 0), (8, rf 0 0 6 x16), (10, .ptr 1 0 0), (11, I x15), (32, A a1), (33, I (a1.length : Int)), (34, I x6), (39, I (x7.length : Int)), (40, I x15)] [sl 0 x16, sc 0 v11] ?_
 rcases fk (v24.fKey == v11.fKey) with hc28 | hc28
 replace h := bT hc28 h
 rw [hc28]
 refine qvM [10] [0] (hL trivial) 1 86 [(52, rf 0 0 6 x16), (51, B true), (5, pf a2 0), (8, rf 0 0 6 x16), (10, .ptr 1 0 0), (11, I x15), (32, A a1), (33, I (a1.length : Int)), (34, I x6), (39, I (x7.length : Int)), (40, I x15)] [sl 0 x16, sc 0 v11] ?_
 refine qvM [10] [] trivial 1 86 [(53, I x15), (52, rf 0 0 6 x16), (51, B true), (5, pf a2 0), (8, rf 0 0 6 x16), (10, .ptr 1 0 0), (11, I x15), (32, A a1), (33, I (a1.length : Int)), (34, I x6), (39, I (x7.length : Int)), (40, I x15)] [sl 0 x16, sc 0 v11] ?_
 obtain ⟨v26, hv27, h⟩ := bindS h
 refine qX (some 54) (.ptr 0 0 (x15.toNat * 6)) 86 [(54, .ptr 0 0 (x15.toNat * 6)), (53, I x15), (52, rf 0 0 6 x16), (51, B true), (5, pf a2 0), (8, rf 0 0 6 x16), (10, .ptr 1 0 0), (11, I x15), (32, A a1), (33, I (a1.length : Int)), (34, I x6), (39, I (x7.length : Int)), (40, I x15)] [sl 0 x16, sc 0 v11] (fun Γ' hΓ => CoreE.of_y (idrV_sound (n := x16.length) τ_ok (by kernel_rfl) hv27 rfl)) (hL trivial) ?_
 refine qvM [10] [0] (hL trivial) 1 86 [(55, .ptr 0 0 (x15.toNat * 6 + 5)), (54, .ptr 0 0 (x15.toNat * 6)), (53, I x15), (52, rf 0 0 6 x16), (51, B true), (5, pf a2 0), (8, rf 0 0 6 x16), (10, .ptr 1 0 0), (11, I x15), (32, A a1), (33, I (a1.length : Int)), (34, I x6), (39, I (x7.length : Int)), (40, I x15)] [sl 0 x16, sc 0 v11] ?_
 refine qX (some 56) (I v26.fDied) 86 [(56, I v26.fDied), (55, .ptr 0 0 (x15.toNat * 6 + 5)), (54, .ptr 0 0 (x15.toNat * 6)), (53, I x15), (52, rf 0 0 6 x16), (51, B true), (5, pf a2 0), (8, rf 0 0 6 x16), (10, .ptr 1 0 0), (11, I x15), (32, A a1), (33, I (a1.length : Int)), (34, I x6), (39, I (x7.length : Int)), (40, I x15)] [sl 0 x16, sc 0 v11] (fun Γ' hΓ => CoreE.of_y (ldeV_sound (t := 3) (o' := 5) (r := I v26.fDied) τ_ok hv27 (by kernel_rfl) (by kernel_rfl))) (hL trivial) ?_
 refine qvnM [10] [] trivial 2 86 [(5, pf a2 0), (8, rf 0 0 6 x16), (10, .ptr 1 0 0), (11, I x15), (32, A a1), (33, I (a1.length : Int)), (34, I x6), (39, I (x7.length : Int)), (40, I x15), (52, rf 0 0 6 x16), (53, I x15), (54, .ptr 0 0 (x15.toNat * 6)), (55, .ptr 0 0 (x15.toNat * 6 + 5)), (56, I v26.fDied), (57, B (v26.fDied == 0)), (58, B (v26.fDied == 0))] [sl 0 x16, sc 0 v11] ?_
 exact ⟨(v26.fDied == 0), h, it [5, 8, 10, 11, 32, 33, 34, 39, 40, 58]⟩
 replace h := bF hc28 h
 rw [hc28]
 refine qvM [10] [0] (hL trivial) 1 86 [(52, .lit undef), (51, B false), (5, pf a2 0), (8, rf 0 0 6 x16), (10, .ptr 1 0 0), (11, I x15), (32, A a1), (33, I (a1.length : Int)), (34, I x6), (39, I (x7.length : Int)), (40, I x15)] [sl 0 x16, sc 0 v11] ?_
 refine qvM [10] [] trivial 1 86 [(53, .lit undef), (52, .lit undef), (51, B false), (5, pf a2 0), (8, rf 0 0 6 x16), (10, .ptr 1 0 0), (11, I x15), (32, A a1), (33, I (a1.length : Int)), (34, I x6), (39, I (x7.length : Int)), (40, I x15)] [sl 0 x16, sc 0 v11] ?_
 refine qvM [10] [0] (hL trivial) 3 86 [(56, .lit undef), (55, .lit undef), (54, .lit undef), (53, .lit undef), (52, .lit undef), (51, B false), (5, pf a2 0), (8, rf 0 0 6 x16), (10, .ptr 1 0 0), (11, I x15), (32, A a1), (33, I (a1.length : Int)), (34, I x6), (39, I (x7.length : Int)), (40, I x15)] [sl 0 x16, sc 0 v11] ?_
 refine qvM [10] [] trivial 2 86 [(58, B false), (57, .lit undef), (56, .lit undef), (55, .lit undef), (54, .lit undef), (53, .lit undef), (52, .lit undef), (5, pf a2 0), (8, rf 0 0 6 x16), (10, .ptr 1 0 0), (11, I x15), (32, A a1), (33, I (a1.length : Int)), (34, I x6), (39, I (x7.length : Int)), (40, I x15)] [sl 0 x16, sc 0 v11] ?_
 refine qn 86 [(5, pf a2 0), (8, rf 0 0 6 x16), (10, .ptr 1 0 0), (11, I x15), (32, A a1), (33, I (a1.length : Int)), (34, I x6), (39, I (x7.length : Int)), (40, I x15), (52, .lit undef), (53, .lit undef), (54, .lit undef), (55, .lit undef), (56, .lit undef), (57, .lit undef), (58, B false)] [sl 0 x16, sc 0 v11] ?_
 exact ⟨false, h, it [5, 8, 10, 11, 32, 33, 34, 39, 40, 58]⟩
 rintro x20 h
 unfold impl_IndexTurned_R_j3 at h
 refine pc h (fun h => ?_) (fun h => ?_)
 refine rvM [10] 3 86 [(5, pf a2 0), (8, rf 0 0 6 x16), (10, .ptr 1 0 0), (32, A a1), (33, I (a1.length : Int)), (34, I x6), (39, I (x7.length : Int)), (40, I x15), (59, rf 0 0 6 x16), (60, I x15), (61, I a2)] [sl 0 x16, sc 0 v11] ?_
 obtain ⟨v22, hv23, h⟩ := bindS h
 refine opsP_idr τ_ok 62 0 0 x16.length hv23 rfl (by kernel_rfl) ?_
 refine vM [10] 1 86 [(5, pf a2 0), (8, rf 0 0 6 x16), (10, .ptr 1 0 0), (32, A a1), (33, I (a1.length : Int)), (34, I x6), (39, I (x7.length : Int)), (40, I x15), (61, I a2), (63, .ptr 0 0 (x15.toNat * 6 + 5))] [sl 0 x16, sc 0 v11] ?_
 refine opsP_ste (vs := [I a2]) τ_ok 3 0 0 5 ({ v22 with fDied := a2 } : T_impl_Mark) hv23 (by kernel_rfl) (by kernel_rfl) (by kernel_rfl) (renC trivial (renC (ren_ref (List.length_set ..).symm) (renC trivial (renC trivial (renC trivial (renC trivial (renC trivial (renC trivial (renC trivial (renC trivial renC0)))))))))) ?_
 refine veM [10] 0 86 [(5, pf a2 0), (8, .ref 0 0 0 6 (x16.set x15.toNat ({ v22 with fDied := a2 } : T_impl_Mark)).length false), (10, .ptr 1 0 0), (32, A a1), (33, I (a1.length : Int)), (34, I x6), (39, I (x7.length : Int)), (40, I x15)] [some ⟨0, eL (x16.set x15.toNat ({ v22 with fDied := a2 } : T_impl_Mark))⟩, sc 0 v11] ?_
 refine rveM [10] 86 [(5, pf a2 0), (8, .ref 0 0 0 6 (x16.set x15.toNat ({ v22 with fDied := a2 } : T_impl_Mark)).length false), (10, .ptr 1 0 0), (32, A a1), (33, I (a1.length : Int)), (34, I x6), (39, I (x7.length : Int)), (40, I (w64 (x15 + 1)))] [some ⟨0, eL (x16.set x15.toNat ({ v22 with fDied := a2 } : T_impl_Mark))⟩, sc 0 v11] ?_
 exact ⟨(f17, (w64 (x15 + 1)), (x16.set x15.toNat ({ v22 with fDied := a2 } : T_impl_Mark))), h, Nat.lt_succ_self _, it [5, 8, 10, 32, 33, 34, 39, 40]⟩
 refine pwp_skip ?_
 refine rveM [10] 86 [(5, pf a2 0), (8, rf 0 0 6 x16), (10, .ptr 1 0 0), (32, A a1), (33, I (a1.length : Int)), (34, I x6), (39, I (x7.length : Int)), (40, I (w64 (x15 + 1)))] [sl 0 x16, sc 0 v11] ?_
 exact ⟨(f17, (w64 (x15 + 1)), x16), h, Nat.lt_succ_self _, it [5, 8, 10, 32, 33, 34, 39, 40]⟩
 refine pwp_exit ?_
 refine srveM [10] 86 [(5, pf a2 0), (8, rf 0 0 6 x16), (10, .ptr 1 0 0), (32, A a1), (33, I (a1.length : Int)), (34, I x6), (67, B (!v11.fGone))] [sl 0 x16, sc 0 v11] ?_
 refine pc h (fun h => ?_) (fun h => ?_)
 refine ip 86 [(5, pf a2 0), (8, rf 0 0 6 x16), (10, .ptr 1 0 0), (32, A a1), (33, I (a1.length : Int)), (34, I x6)] [sl 0 x16, sc 0 v11] ?_
 refine pwp_any ([[0], [1], [1], [], [1], [1], [], [], [], [0], [0]]) ([[], [], [], [], [], [], [], [], [], [0], []]) rfl (by kernel_rfl) ?_
 refine qvM [10] [0] (hL trivial) 1 86 [(68, rf 0 0 6 x16), (5, pf a2 0), (8, rf 0 0 6 x16), (10, .ptr 1 0 0), (32, A a1), (33, I (a1.length : Int)), (34, I x6)] [sl 0 x16, sc 0 v11] ?_
 refine qvM [10] [1] (hB trivial) 2 86 [(70, A v11.fRow), (68, rf 0 0 6 x16), (5, pf a2 0), (8, rf 0 0 6 x16), (10, .ptr 1 0 0), (32, A a1), (33, I (a1.length : Int)), (34, I x6)] [sl 0 x16, sc 0 v11] ?_
 obtain ⟨v30, hv31, h⟩ := bindS h
 refine qX (some 71) (E v30) 86 [(71, E v30), (68, rf 0 0 6 x16), (5, pf a2 0), (8, rf 0 0 6 x16), (10, .ptr 1 0 0), (32, A a1), (33, I (a1.length : Int)), (34, I x6)] [sl 0 x16, sc 0 v11] (fun Γ' hΓ => CoreE.of_g (callV_sound (τ := τ) (by kernel_rfl) rfl (ok_impl_firstOf hv31) (FzTo.frz rfl))) trivial ?_
 refine qvM [10] [1] (hB trivial) 2 86 [(73, I v11.fKey), (71, E v30), (68, rf 0 0 6 x16), (5, pf a2 0), (8, rf 0 0 6 x16), (32, A a1), (33, I (a1.length : Int)), (34, I x6)] [sl 0 x16, sc 0 v11] ?_
 refine qvM [10] [] trivial 3 86 [(76, .arr 6 ([(T_impl_Mark.mk v30 v11.fKey a2 0)] : List T_impl_Mark).length (eL ([(T_impl_Mark.mk v30 v11.fKey a2 0)] : List T_impl_Mark)) true), (68, rf 0 0 6 x16), (5, pf a2 0), (8, rf 0 0 6 x16), (32, A a1), (33, I (a1.length : Int)), (34, I x6)] [sl 0 x16, sc 0 v11] ?_
 obtain ⟨v32, hv33, h⟩ := bindS h
 refine qX (some 77) (rf 0 1 6 v32) 86 [(77, rf 0 1 6 v32), (5, pf a2 0), (8, rf 0 0 6 x16), (32, A a1), (33, I (a1.length : Int)), (34, I x6)] [sl 1 v32, sc 0 v11] (fun Γ' hΓ => app_Ew τ_ok 77 0 0 (ny hΓ hX) hv33 (by kernel_rfl)) (hL trivial) ?_
 refine qvnM [10] [0] (hL trivial) 1 86 [(5, pf a2 0), (8, rf 0 1 6 v32), (32, A a1), (33, I (a1.length : Int)), (34, I x6)] [sl 1 v32, sc 0 v11] ?_
 refine rveM [10] 86 [(5, pf a2 0), (8, rf 0 1 6 v32), (32, A a1), (33, I (a1.length : Int)), (34, I (w64 (x6 + 1)))] [sl 1 v32, sc 0 v11] ?_
 exact ⟨(f8, (w64 (x6 + 1)), v32), h, Nat.lt_succ_self _, qt (it (st' := ⟨86, [(5, pf a2 0), (8, rf 0 1 6 v32), (32, A a1), (33, I (a1.length : Int)), (34, I (w64 (x6 + 1)))], [sl 1 v32, sc 0 v11]⟩) [5, 8, 32, 33, 34]) (qt (Imp.truncS (st' := ⟨86, [(5, pf a2 0), (8, rf 0 1 6 v32), (32, A a1), (33, I (a1.length : Int)), (34, I (w64 (x6 + 1)))], [sl 1 v32]⟩) 1 (nx hX) (by kernel_rfl) (allBelow_mem (by exact (And.intro rfl (And.intro rfl (And.intro rfl (And.intro rfl (And.intro rfl trivial))))))) (by exact (And.intro (frz_below (eL_frz _)) trivial)) (by kernel_rfl)) (Imp.reverS 0 1 (eL v32) [5, 8, 32, 33, 34] (by kernel_rfl) (by exact (And.intro (eL_frz _) trivial)) (by kernel_rfl)))⟩
 refine pwp_skip ?_
 refine rveM [10] 86 [(5, pf a2 0), (8, rf 0 0 6 x16), (32, A a1), (33, I (a1.length : Int)), (34, I (w64 (x6 + 1)))] [sl 0 x16, sc 0 v11] ?_
 exact ⟨(f8, (w64 (x6 + 1)), x16), h, Nat.lt_succ_self _, (it (st' := ⟨86, [(5, pf a2 0), (8, rf 0 0 6 x16), (32, A a1), (33, I (a1.length : Int)), (34, I (w64 (x6 + 1)))], [sl 0 x16, sc 0 v11]⟩) [5, 8, 32, 33, 34]).trans (Imp.truncS 1 (nx hX) (by kernel_rfl) (allBelow_mem (by exact (And.intro rfl (And.intro rfl (And.intro rfl (And.intro rfl (And.intro rfl trivial))))))) (by exact (And.intro (frz_below (eL_frz _)) trivial)) (by kernel_rfl))⟩
 refine pwp_exit ?_
 refine srvM [10] 1 86 [(8, rf 0 0 6 x7), (79, rf 0 0 6 x7)] [sl 0 x7] ?_
 obtain ⟨v34, hv35, h⟩ := bindS h
 refine opsP_E (dd := some 80) (x := .tup []) (callS_E τ 80 0 0 (ok_sortM (rfl) (fun _ _ w hw => ok_impl_Mark_order hw) hv35) (FzTo.tup FzToL.nil) rfl rfl (by kernel_rfl)) ?_
 refine io 86 [(8, rf 0 0 6 x7), (79, rf 0 0 6 x7), (80, .tup [])] [sl 0 v34] ?_
 refine opsP_ren (st' := ⟨86, [(8, rf 0 0 6 v34), (79, rf 0 0 6 v34), (80, .tup [])], [sl 0 v34]⟩) 0 v34.length (renC (ren_ref (len_sortM hv35).symm) (renC (ren_ref (len_sortM hv35).symm) (renC trivial renC0))) (by kernel_rfl) ?_
 refine veM [10] 0 86 [(8, rf 0 0 6 v34)] [sl 0 v34] ?_
 refine pwp_seq ?_
 refine srveM [10] 86 [(8, rf 0 0 6 v34), (83, B (decide ((v34.length : Int) > 60)))] [sl 0 v34] ?_
 refine pc h (fun h => ?_) (fun h => ?_)
 refine srveM [10] 86 [(6, .arr 6 0 (eL ([] : List T_impl_Mark)) true), (7, B false)] [sl 0 v34] ?_
 refine ip 86 [(6, .arr 6 0 (eL ([] : List T_impl_Mark)) true), (7, B false)] [sl 0 v34] ?_
 refine pwp_imp (Imp.thawS (st' := ⟨86, [(6, .ref 1 0 0 6 ([] : List T_impl_Mark).length false), (7, B false)], [sl 0 v34, some ⟨0, eL ([] : List T_impl_Mark)⟩]⟩) 6 [6, 7] (by kernel_rfl)) ?_
 have h := si h
 subst h
 exact pwp_ret (rt (.tup [.ref 1 0 0 6 ([] : List T_impl_Mark).length false, B false]) (OutP.tup (OutL.cons (OutP.list (v := 0) (by kernel_rfl)) (OutL.cons (OutP.frz (by kernel_rfl)) (OutL.nil _)))))
 refine pwp_skip ?_
 refine srvM [10] 1 86 [(84, rf 0 0 6 v34)] [sl 0 v34] ?_
 obtain ⟨v37, hv38, h⟩ := bindS h
 refine opsP_E (dd := some 85) (x := rf 1 0 6 v37) (callVN_E (xs := [rf 0 0 6 v34]) τ 85 1 (nx hX) (by kernel_rfl) (ok_impl_clone_impl_Mark_R hv38) (Blind.O (fun _ => rfl) _) (by kernel_rfl) (ViewL.cons (View.whole (v := 0) v34 (by kernel_rfl) rfl) (ViewL.nil _))) ?_
 refine veM [10] 2 86 [(6, rf 1 0 6 v37), (7, B true)] [sl 0 v34, sl 0 v37] ?_
 have h := si h
 subst h
 exact pwp_ret (rt (.tup [rf 1 0 6 v37, B true]) (OutP.tup (OutL.cons (OutP.list (v := 0) (by kernel_rfl)) (OutL.cons (OutP.frz (by kernel_rfl)) (OutL.nil _)))))
noncomputable def laws_FnExactIndexTurned_j2 (v37 : Int × List T_impl_Mark) (x49 : Bool) : Option Bool := bif x49 then some false else (laws_heldMarkS v37.2 1).bind fun v51 => bif (decide (v51 < 0)) then some false else bif (!(v51 == v37.1)) then some false else some true
noncomputable def laws_FnExactIndexTurned_j1 (a0 : List T_laws_Mark) (a1 : List T_laws_Write) (a2 : Int) (v11 : (List T_impl_Mark) × Bool) (v17 : (List T_impl_Mark) × Bool) (x35 : Bool) : Option Bool := bif x35 then some false else (laws_markMarkS v17.1 1).bind fun v37 => (laws_heldMarkS v37.2 1).bind fun v39 => bif (decide (v39 < 0)) then some false else bif (!(v39 == v37.1)) then some false else (laws_toMarkS a0).bind fun v43 => (laws_toWriteS_D a1).bind fun v45 => (impl_IndexTurned_R v43 v45 a2).bind fun v47 => (laws_eqMarkS v47.1 v11.1).bind fun v55 => bif (!v55) then laws_FnExactIndexTurned_j2 v37 true else laws_FnExactIndexTurned_j2 v37 (!(v47.2 == v11.2))
noncomputable def laws_FnExactIndexTurned_j0 (a0 : List T_laws_Mark) (a1 : List T_laws_Write) (a2 : Int) (v11 : (List T_impl_Mark) × Bool) (v13 : List T_impl_Mark) (v15 : List T_impl_Write) (v17 : (List T_impl_Mark) × Bool) (x19 : Bool) : Option Bool := bif x19 then some false else (laws_toMarkS a0).bind fun v21 => (laws_eqMarkS v13 v21).bind fun v23 => bif (!v23) then some false else (laws_toWriteS_D a1).bind fun v26 => (laws_eqWriteS v15 v26).bind fun v28 => bif (!v28) then some false else (laws_markMarkS v13 1).bind fun v31 => (laws_markWriteS v15 v31.1).bind fun v33 => bif (decide (v33.1 < 0)) then laws_FnExactIndexTurned_j1 a0 a1 a2 v11 v17 true else (laws_eqMarkS v17.1 v11.1).bind fun v58 => bif (!v58) then laws_FnExactIndexTurned_j1 a0 a1 a2 v11 v17 true else laws_FnExactIndexTurned_j1 a0 a1 a2 v11 v17 (!(v17.2 == v11.2))
noncomputable def laws_FnExactIndexTurned (a0 : List T_laws_Mark) (a1 : List T_laws_Write) (a2 : Int) : Option Bool := (laws_szMarkS a0 1048576).bind fun v1 => bif (decide (v1 < 0)) then some true else (laws_szWriteS a1 v1).bind fun v4 => bif (decide (v4 < 0)) then some true else (laws_toMarkS a0).bind fun v7 => (laws_toWriteS_D a1).bind fun v9 => (spec_IndexTurned v7 v9 a2).bind fun v11 => (laws_toMarkS a0).bind fun v13 => (laws_toWriteS_D a1).bind fun v15 => (impl_IndexTurned_R v13 v15 a2).bind fun v17 => (laws_eqMarkS v17.1 v11.1).bind fun v62 => bif (!v62) then laws_FnExactIndexTurned_j0 a0 a1 a2 v11 v13 v15 v17 true else laws_FnExactIndexTurned_j0 a0 a1 a2 v11 v13 v15 v17 (!(v17.2 == v11.2))
theorem ok_laws_FnExactIndexTurned {a0 : List T_laws_Mark} {a1 : List T_laws_Write} {a2 : Int} {y : Bool} (h : laws_FnExactIndexTurned a0 a1 a2 = some y) : OK Try.prog 6 [A a0, A a1, I a2] (B y) := by
 refine ow Try.func6 fun Γ hX => ?_
 unfold laws_FnExactIndexTurned at h
 refine srve 124 [(0, A a0), (1, A a1), (2, I a2)] [] ?_
 refine srve 124 [(0, A a0), (1, A a1), (2, I a2), (7, I 1048576)] [] ?_
 refine srv 2 124 [(0, A a0), (1, A a1), (2, I a2), (19, A a0), (20, I 1048576)] [] ?_
 obtain ⟨v1, hv2, h⟩ := bindS h
 refine cF 21 (ok_laws_szMarkS hv2) ?_
 refine ve 1 124 [(0, A a0), (1, A a1), (2, I a2), (7, I v1)] [] ?_
 refine pwp_seq ?_
 refine srve 124 [(0, A a0), (1, A a1), (2, I a2), (7, I v1), (23, B (decide (v1 < 0)))] [] ?_
 refine pc h (fun h => ?_) (fun h => ?_)
 refine srve 124 [(6, B true)] [] ?_
 cases h
 exact pwp_ret rz
 refine pwp_skip ?_
 refine srv 2 124 [(0, A a0), (1, A a1), (2, I a2), (24, A a1), (25, I v1)] [] ?_
 obtain ⟨v4, hv5, h⟩ := bindS h
 refine cF 26 (ok_laws_szWriteS hv5) ?_
 refine ve 1 124 [(0, A a0), (1, A a1), (2, I a2), (7, I v4)] [] ?_
 refine pwp_seq ?_
 refine srve 124 [(0, A a0), (1, A a1), (2, I a2), (28, B (decide (v4 < 0)))] [] ?_
 refine pc h (fun h => ?_) (fun h => ?_)
 refine srve 124 [(6, B true)] [] ?_
 cases h
 exact pwp_ret rz
 refine pwp_skip ?_
 refine srv 1 124 [(0, A a0), (1, A a1), (2, I a2), (30, A a0)] [] ?_
 obtain ⟨v7, hv8, h⟩ := bindS h
 refine cFo 31 (ok_laws_toMarkS hv8) ?_
 refine v 1 124 [(0, A a0), (1, A a1), (2, I a2), (31, A v7), (32, A a1)] [] ?_
 obtain ⟨v9, hv10, h⟩ := bindS h
 refine opsP_callF τ 33 (ok_laws_toWriteS_D hv10) (FzTo.OD _) rfl (by kernel_rfl) ?_
 refine v 1 124 [(0, A a0), (1, A a1), (2, I a2), (31, A v7), (33, A v9), (34, I a2)] [] ?_
 obtain ⟨v11, hv12, h⟩ := bindS h
 refine opsP_callF τ 35 (ok_spec_IndexTurned hv12) (FzTo.tup (FzToL.cons (FzTo.O _) (FzToL.cons (FzTo.frz rfl) FzToL.nil))) rfl (by kernel_rfl) ?_
 refine ve 5 124 [(0, A a0), (1, A a1), (2, I a2), (8, A v11.1), (9, B v11.2)] [] ?_
 refine srv 1 124 [(0, A a0), (1, A a1), (2, I a2), (8, A v11.1), (9, B v11.2), (38, A a0)] [] ?_
 obtain ⟨v13, hv14, h⟩ := bindS h
 refine opsP_callO τ 39 (ok_laws_toMarkS hv14) rfl (by kernel_rfl) ?_
 refine ve 1 124 [(0, A a0), (1, A a1), (2, I a2), (8, A v11.1), (9, B v11.2), (10, rf 0 0 6 v13)] [sl 0 v13] ?_
 refine srv 1 124 [(0, A a0), (1, A a1), (2, I a2), (8, A v11.1), (9, B v11.2), (10, rf 0 0 6 v13), (40, A a1)] [sl 0 v13] ?_
 obtain ⟨v15, hv16, h⟩ := bindS h
 refine opsP_callO τ 41 (ok_laws_toWriteS_D hv16) rfl (by kernel_rfl) ?_
 refine ve 1 124 [(0, A a0), (1, A a1), (2, I a2), (8, A v11.1), (9, B v11.2), (10, rf 0 0 6 v13), (11, rf 1 0 3 v15)] [sl 0 v13, some ⟨0, dL v15⟩] ?_
 refine srv 3 124 [(0, A a0), (1, A a1), (2, I a2), (8, A v11.1), (9, B v11.2), (10, rf 0 0 6 v13), (11, rf 1 0 3 v15), (43, rf 0 0 6 v13), (44, rf 1 0 3 v15), (45, I a2)] [sl 0 v13, some ⟨0, dL v15⟩] ?_
 obtain ⟨v17, hv18, h⟩ := bindS h
 refine opsP_callVO (xs := [rf 0 0 6 v13, rf 1 0 3 v15, I a2]) τ 46 (ok_impl_IndexTurned_R hv18) (Blind.tup (BlindL.cons (Blind.O (fun _ => rfl) _) (BlindL.cons (Blind.lit _) BlindL.nil))) (by kernel_rfl) (ViewL.cons (View.whole (v := 0) v13 (by kernel_rfl) rfl) (ViewL.cons (View.deep (v := 0) v15 (by kernel_rfl) rfl) (ViewL.cons (View.frz rfl) (ViewL.nil _)))) ?_
 refine ve 5 124 [(0, A a0), (1, A a1), (2, I a2), (8, A v11.1), (9, B v11.2), (10, rf 0 0 6 v13), (11, rf 1 0 3 v15), (12, rf 2 0 6 v17.1), (13, B v17.2)] [sl 0 v13, some ⟨0, dL v15⟩, sl 0 v17.1] ?_
 refine pwp_seq ?_
 refine pwp_seq ?_
 refine pwp_join (σ := Bool) (fun x19 => (⟨124, [(0, A a0), (1, A a1), (2, I a2), (8, A v11.1), (9, B v11.2), (10, rf 0 0 6 v13), (11, rf 1 0 3 v15), (12, rf 2 0 6 v17.1), (13, B v17.2), (57, B x19)], [sl 0 v13, some ⟨0, dL v15⟩, sl 0 v17.1]⟩ : St)) (fun x19 => laws_FnExactIndexTurned_j0 a0 a1 a2 v11 v13 v15 v17 x19 = some y) ?_ ?_
 refine rv 2 124 [(0, A a0), (1, A a1), (2, I a2), (8, A v11.1), (9, B v11.2), (10, rf 0 0 6 v13), (11, rf 1 0 3 v15), (12, rf 2 0 6 v17.1), (13, B v17.2), (49, rf 2 0 6 v17.1), (50, A v11.1)] [sl 0 v13, some ⟨0, dL v15⟩, sl 0 v17.1] ?_
 obtain ⟨v62, hv63, h⟩ := bindS h
 refine opsP_callV (xs := [rf 2 0 6 v17.1, A v11.1]) τ 51 (ok_laws_eqMarkS hv63) (Blind.lit _) (FzTo.frz rfl) (by kernel_rfl) (ViewL.cons (View.whole (v := 0) v17.1 (by kernel_rfl) rfl) (ViewL.cons (View.frz rfl) (ViewL.nil _))) ?_
 refine v 2 124 [(0, A a0), (1, A a1), (2, I a2), (8, A v11.1), (9, B v11.2), (10, rf 0 0 6 v13), (11, rf 1 0 3 v15), (12, rf 2 0 6 v17.1), (13, B v17.2), (53, B (!v62))] [sl 0 v13, some ⟨0, dL v15⟩, sl 0 v17.1] ?_
 rcases fk (!v62) with hc64 | hc64
 replace h := bT hc64 h
 rw [hc64]
 refine ve 4 124 [(0, A a0), (1, A a1), (2, I a2), (8, A v11.1), (9, B v11.2), (10, rf 0 0 6 v13), (11, rf 1 0 3 v15), (12, rf 2 0 6 v17.1), (13, B v17.2), (57, B true)] [sl 0 v13, some ⟨0, dL v15⟩, sl 0 v17.1] ?_
 exact ⟨true, h, it [0, 1, 2, 8, 9, 10, 11, 12, 13, 57]⟩
 replace h := bF hc64 h
 rw [hc64]
 refine ve 4 124 [(0, A a0), (1, A a1), (2, I a2), (8, A v11.1), (9, B v11.2), (10, rf 0 0 6 v13), (11, rf 1 0 3 v15), (12, rf 2 0 6 v17.1), (13, B v17.2), (57, B (!(v17.2 == v11.2)))] [sl 0 v13, some ⟨0, dL v15⟩, sl 0 v17.1] ?_
 exact ⟨(!(v17.2 == v11.2)), h, it [0, 1, 2, 8, 9, 10, 11, 12, 13, 57]⟩
 rintro x19 h
 unfold laws_FnExactIndexTurned_j0 at h
 refine pc h (fun h => ?_) (fun h => ?_)
 refine srve 124 [(6, B false)] [sl 0 v13, some ⟨0, dL v15⟩, sl 0 v17.1] ?_
 cases h
 exact pwp_ret rz
 refine pwp_skip ?_
 refine pwp_seq ?_
 refine srv 2 124 [(0, A a0), (1, A a1), (2, I a2), (8, A v11.1), (9, B v11.2), (10, rf 0 0 6 v13), (11, rf 1 0 3 v15), (12, rf 2 0 6 v17.1), (13, B v17.2), (58, rf 0 0 6 v13), (59, A a0)] [sl 0 v13, some ⟨0, dL v15⟩, sl 0 v17.1] ?_
 obtain ⟨v21, hv22, h⟩ := bindS h
 refine cFo 60 (ok_laws_toMarkS hv22) ?_
 obtain ⟨v23, hv24, h⟩ := bindS h
 refine opsP_callV (xs := [rf 0 0 6 v13, A v21]) τ 61 (ok_laws_eqMarkS hv24) (Blind.lit _) (FzTo.frz rfl) (by kernel_rfl) (ViewL.cons (View.whole (v := 0) v13 (by kernel_rfl) rfl) (ViewL.cons (View.frz rfl) (ViewL.nil _))) ?_
 refine ve 1 124 [(0, A a0), (1, A a1), (2, I a2), (8, A v11.1), (9, B v11.2), (10, rf 0 0 6 v13), (11, rf 1 0 3 v15), (12, rf 2 0 6 v17.1), (13, B v17.2), (62, B (!v23))] [sl 0 v13, some ⟨0, dL v15⟩, sl 0 v17.1] ?_
 refine pc h (fun h => ?_) (fun h => ?_)
 refine srve 124 [(6, B false)] [sl 0 v13, some ⟨0, dL v15⟩, sl 0 v17.1] ?_
 cases h
 exact pwp_ret rz
 refine pwp_skip ?_
 refine pwp_seq ?_
 refine srv 2 124 [(0, A a0), (1, A a1), (2, I a2), (8, A v11.1), (9, B v11.2), (10, rf 0 0 6 v13), (11, rf 1 0 3 v15), (12, rf 2 0 6 v17.1), (13, B v17.2), (63, rf 1 0 3 v15), (64, A a1)] [sl 0 v13, some ⟨0, dL v15⟩, sl 0 v17.1] ?_
 obtain ⟨v26, hv27, h⟩ := bindS h
 refine opsP_callF τ 65 (ok_laws_toWriteS_D hv27) (FzTo.OD _) rfl (by kernel_rfl) ?_
 obtain ⟨v28, hv29, h⟩ := bindS h
 refine opsP_callV (xs := [rf 1 0 3 v15, A v26]) τ 66 (ok_laws_eqWriteS hv29) (Blind.lit _) (FzTo.frz rfl) (by kernel_rfl) (ViewL.cons (View.deep (v := 0) v15 (by kernel_rfl) rfl) (ViewL.cons (View.frz rfl) (ViewL.nil _))) ?_
 refine ve 1 124 [(0, A a0), (1, A a1), (2, I a2), (8, A v11.1), (9, B v11.2), (10, rf 0 0 6 v13), (11, rf 1 0 3 v15), (12, rf 2 0 6 v17.1), (13, B v17.2), (67, B (!v28))] [sl 0 v13, some ⟨0, dL v15⟩, sl 0 v17.1] ?_
 refine pc h (fun h => ?_) (fun h => ?_)
 refine srve 124 [(6, B false)] [sl 0 v13, some ⟨0, dL v15⟩, sl 0 v17.1] ?_
 cases h
 exact pwp_ret rz
 refine pwp_skip ?_
 refine srve 124 [(0, A a0), (1, A a1), (2, I a2), (8, A v11.1), (9, B v11.2), (10, rf 0 0 6 v13), (11, rf 1 0 3 v15), (12, rf 2 0 6 v17.1), (13, B v17.2), (14, I 1)] [sl 0 v13, some ⟨0, dL v15⟩, sl 0 v17.1] ?_
 refine srv 2 124 [(0, A a0), (1, A a1), (2, I a2), (8, A v11.1), (9, B v11.2), (11, rf 1 0 3 v15), (12, rf 2 0 6 v17.1), (13, B v17.2), (68, rf 0 0 6 v13), (69, I 1)] [sl 0 v13, some ⟨0, dL v15⟩, sl 0 v17.1] ?_
 obtain ⟨v31, hv32, h⟩ := bindS h
 refine opsP_E (dd := some 70) (x := I v31.1) (callD_E τ 70 0 0 (ok_laws_markMarkS hv32) (by kernel_rfl)) ?_
 refine io 124 [(0, A a0), (1, A a1), (2, I a2), (8, A v11.1), (9, B v11.2), (11, rf 1 0 3 v15), (12, rf 2 0 6 v17.1), (13, B v17.2), (68, rf 0 0 6 v13), (69, I 1), (70, I v31.1)] [sl 0 v31.2, some ⟨0, dL v15⟩, sl 0 v17.1] ?_
 refine opsP_ren (st' := ⟨124, [(0, A a0), (1, A a1), (2, I a2), (8, A v11.1), (9, B v11.2), (11, rf 1 0 3 v15), (12, rf 2 0 6 v17.1), (13, B v17.2), (68, rf 0 0 6 v31.2), (69, I 1), (70, I v31.1)], [sl 0 v31.2, some ⟨0, dL v15⟩, sl 0 v17.1]⟩) 0 v31.2.length (renC trivial (renC trivial (renC trivial (renC trivial (renC trivial (renC (ren_ne rfl) (renC (ren_ne rfl) (renC trivial (renC (ren_ref (len_laws_markMarkS hv32).symm) (renC trivial (renC trivial renC0))))))))))) (by kernel_rfl) ?_
 refine ve 1 124 [(0, A a0), (1, A a1), (2, I a2), (8, A v11.1), (9, B v11.2), (11, rf 1 0 3 v15), (12, rf 2 0 6 v17.1), (13, B v17.2), (14, I v31.1)] [sl 0 v31.2, some ⟨0, dL v15⟩, sl 0 v17.1] ?_
 refine srv 2 124 [(0, A a0), (1, A a1), (2, I a2), (8, A v11.1), (9, B v11.2), (12, rf 2 0 6 v17.1), (13, B v17.2), (71, rf 1 0 3 v15), (72, I v31.1)] [sl 0 v31.2, some ⟨0, dL v15⟩, sl 0 v17.1] ?_
 obtain ⟨v33, hv34, h⟩ := bindS h
 refine opsP_E (dd := some 73) (x := I v33.1) (callD_E τ 73 1 0 (ok_laws_markWriteS hv34) (by kernel_rfl)) ?_
 refine io 124 [(0, A a0), (1, A a1), (2, I a2), (8, A v11.1), (9, B v11.2), (12, rf 2 0 6 v17.1), (13, B v17.2), (71, rf 1 0 3 v15), (72, I v31.1), (73, I v33.1)] [sl 0 v31.2, some ⟨0, dL v33.2⟩, sl 0 v17.1] ?_
 refine opsP_ren (st' := ⟨124, [(0, A a0), (1, A a1), (2, I a2), (8, A v11.1), (9, B v11.2), (12, rf 2 0 6 v17.1), (13, B v17.2), (71, rf 1 0 3 v33.2), (72, I v31.1), (73, I v33.1)], [sl 0 v31.2, some ⟨0, dL v33.2⟩, sl 0 v17.1]⟩) 1 v33.2.length (renC trivial (renC trivial (renC trivial (renC trivial (renC trivial (renC (ren_ne rfl) (renC trivial (renC (ren_ref (len_laws_markWriteS hv34).symm) (renC trivial (renC trivial renC0)))))))))) (by kernel_rfl) ?_
 refine ve 1 124 [(0, A a0), (1, A a1), (2, I a2), (8, A v11.1), (9, B v11.2), (12, rf 2 0 6 v17.1), (13, B v17.2), (14, I v33.1)] [sl 0 v31.2, some ⟨0, dL v33.2⟩, sl 0 v17.1] ?_
 refine pwp_seq ?_
 refine pwp_seq ?_
 refine pwp_join (σ := Bool) (fun x35 => (⟨124, [(0, A a0), (1, A a1), (2, I a2), (8, A v11.1), (9, B v11.2), (12, rf 2 0 6 v17.1), (86, B x35)], [sl 0 v31.2, some ⟨0, dL v33.2⟩, sl 0 v17.1]⟩ : St)) (fun x35 => laws_FnExactIndexTurned_j1 a0 a1 a2 v11 v17 x35 = some y) ?_ ?_
 refine rv 3 124 [(0, A a0), (1, A a1), (2, I a2), (8, A v11.1), (9, B v11.2), (12, rf 2 0 6 v17.1), (13, B v17.2), (76, B (decide (v33.1 < 0)))] [sl 0 v31.2, some ⟨0, dL v33.2⟩, sl 0 v17.1] ?_
 rcases fk (decide (v33.1 < 0)) with hc61 | hc61
 replace h := bT hc61 h
 rw [hc61]
 refine ve 10 124 [(0, A a0), (1, A a1), (2, I a2), (8, A v11.1), (9, B v11.2), (12, rf 2 0 6 v17.1), (86, B true)] [sl 0 v31.2, some ⟨0, dL v33.2⟩, sl 0 v17.1] ?_
 exact ⟨true, h, it [0, 1, 2, 8, 9, 12, 86]⟩
 replace h := bF hc61 h
 rw [hc61]
 refine v 2 124 [(0, A a0), (1, A a1), (2, I a2), (8, A v11.1), (9, B v11.2), (12, rf 2 0 6 v17.1), (13, B v17.2), (76, B false), (77, rf 2 0 6 v17.1), (78, A v11.1)] [sl 0 v31.2, some ⟨0, dL v33.2⟩, sl 0 v17.1] ?_
 obtain ⟨v58, hv59, h⟩ := bindS h
 refine opsP_callV (xs := [rf 2 0 6 v17.1, A v11.1]) τ 79 (ok_laws_eqMarkS hv59) (Blind.lit _) (FzTo.frz rfl) (by kernel_rfl) (ViewL.cons (View.whole (v := 0) v17.1 (by kernel_rfl) rfl) (ViewL.cons (View.frz rfl) (ViewL.nil _))) ?_
 refine v 3 124 [(0, A a0), (1, A a1), (2, I a2), (8, A v11.1), (9, B v11.2), (12, rf 2 0 6 v17.1), (13, B v17.2), (82, B (!v58))] [sl 0 v31.2, some ⟨0, dL v33.2⟩, sl 0 v17.1] ?_
 rcases fk (!v58) with hc60 | hc60
 replace h := bT hc60 h
 rw [hc60]
 refine ve 4 124 [(0, A a0), (1, A a1), (2, I a2), (8, A v11.1), (9, B v11.2), (12, rf 2 0 6 v17.1), (86, B true)] [sl 0 v31.2, some ⟨0, dL v33.2⟩, sl 0 v17.1] ?_
 exact ⟨true, h, it [0, 1, 2, 8, 9, 12, 86]⟩
 replace h := bF hc60 h
 rw [hc60]
 refine ve 4 124 [(0, A a0), (1, A a1), (2, I a2), (8, A v11.1), (9, B v11.2), (12, rf 2 0 6 v17.1), (86, B (!(v17.2 == v11.2)))] [sl 0 v31.2, some ⟨0, dL v33.2⟩, sl 0 v17.1] ?_
 exact ⟨(!(v17.2 == v11.2)), h, it [0, 1, 2, 8, 9, 12, 86]⟩
 rintro x35 h
 unfold laws_FnExactIndexTurned_j1 at h
 refine pc h (fun h => ?_) (fun h => ?_)
 refine srve 124 [(6, B false)] [sl 0 v31.2, some ⟨0, dL v33.2⟩, sl 0 v17.1] ?_
 cases h
 exact pwp_ret rz
 refine pwp_skip ?_
 refine srve 124 [(0, A a0), (1, A a1), (2, I a2), (8, A v11.1), (9, B v11.2), (12, rf 2 0 6 v17.1), (15, I 1)] [sl 0 v31.2, some ⟨0, dL v33.2⟩, sl 0 v17.1] ?_
 refine srv 2 124 [(0, A a0), (1, A a1), (2, I a2), (8, A v11.1), (9, B v11.2), (12, rf 2 0 6 v17.1), (87, rf 2 0 6 v17.1), (88, I 1)] [sl 0 v31.2, some ⟨0, dL v33.2⟩, sl 0 v17.1] ?_
 obtain ⟨v37, hv38, h⟩ := bindS h
 refine opsP_E (dd := some 89) (x := I v37.1) (callD_E τ 89 2 0 (ok_laws_markMarkS hv38) (by kernel_rfl)) ?_
 refine io 124 [(0, A a0), (1, A a1), (2, I a2), (8, A v11.1), (9, B v11.2), (12, rf 2 0 6 v17.1), (87, rf 2 0 6 v17.1), (88, I 1), (89, I v37.1)] [sl 0 v31.2, some ⟨0, dL v33.2⟩, sl 0 v37.2] ?_
 refine opsP_ren (st' := ⟨124, [(0, A a0), (1, A a1), (2, I a2), (8, A v11.1), (9, B v11.2), (12, rf 2 0 6 v37.2), (87, rf 2 0 6 v37.2), (88, I 1), (89, I v37.1)], [sl 0 v31.2, some ⟨0, dL v33.2⟩, sl 0 v37.2]⟩) 2 v37.2.length (renC trivial (renC trivial (renC trivial (renC trivial (renC trivial (renC (ren_ref (len_laws_markMarkS hv38).symm) (renC (ren_ref (len_laws_markMarkS hv38).symm) (renC trivial (renC trivial renC0))))))))) (by kernel_rfl) ?_
 refine ve 1 124 [(0, A a0), (1, A a1), (2, I a2), (8, A v11.1), (9, B v11.2), (12, rf 2 0 6 v37.2), (15, I v37.1)] [sl 0 v31.2, some ⟨0, dL v33.2⟩, sl 0 v37.2] ?_
 refine srve 124 [(0, A a0), (1, A a1), (2, I a2), (8, A v11.1), (9, B v11.2), (12, rf 2 0 6 v37.2), (15, I v37.1), (16, I 1)] [sl 0 v31.2, some ⟨0, dL v33.2⟩, sl 0 v37.2] ?_
 refine srv 2 124 [(0, A a0), (1, A a1), (2, I a2), (8, A v11.1), (9, B v11.2), (12, rf 2 0 6 v37.2), (15, I v37.1), (90, rf 2 0 6 v37.2), (91, I 1)] [sl 0 v31.2, some ⟨0, dL v33.2⟩, sl 0 v37.2] ?_
 obtain ⟨v39, hv40, h⟩ := bindS h
 refine opsP_callV (xs := [rf 2 0 6 v37.2, I 1]) τ 92 (ok_laws_heldMarkS hv40) (Blind.lit _) (FzTo.frz rfl) (by kernel_rfl) (ViewL.cons (View.whole (v := 0) v37.2 (by kernel_rfl) rfl) (ViewL.cons (View.frz rfl) (ViewL.nil _))) ?_
 refine ve 1 124 [(0, A a0), (1, A a1), (2, I a2), (8, A v11.1), (9, B v11.2), (12, rf 2 0 6 v37.2), (15, I v37.1), (16, I v39)] [sl 0 v31.2, some ⟨0, dL v33.2⟩, sl 0 v37.2] ?_
 refine pwp_seq ?_
 refine srve 124 [(0, A a0), (1, A a1), (2, I a2), (8, A v11.1), (9, B v11.2), (12, rf 2 0 6 v37.2), (15, I v37.1), (16, I v39), (94, B (decide (v39 < 0)))] [sl 0 v31.2, some ⟨0, dL v33.2⟩, sl 0 v37.2] ?_
 refine pc h (fun h => ?_) (fun h => ?_)
 refine srve 124 [(6, B false)] [sl 0 v31.2, some ⟨0, dL v33.2⟩, sl 0 v37.2] ?_
 cases h
 exact pwp_ret rz
 refine pwp_skip ?_
 refine pwp_seq ?_
 refine srve 124 [(0, A a0), (1, A a1), (2, I a2), (8, A v11.1), (9, B v11.2), (12, rf 2 0 6 v37.2), (15, I v37.1), (97, B (!(v39 == v37.1)))] [sl 0 v31.2, some ⟨0, dL v33.2⟩, sl 0 v37.2] ?_
 refine pc h (fun h => ?_) (fun h => ?_)
 refine srve 124 [(6, B false)] [sl 0 v31.2, some ⟨0, dL v33.2⟩, sl 0 v37.2] ?_
 cases h
 exact pwp_ret rz
 refine pwp_skip ?_
 refine srv 1 124 [(1, A a1), (2, I a2), (8, A v11.1), (9, B v11.2), (12, rf 2 0 6 v37.2), (15, I v37.1), (99, A a0)] [sl 0 v31.2, some ⟨0, dL v33.2⟩, sl 0 v37.2] ?_
 obtain ⟨v43, hv44, h⟩ := bindS h
 refine cFo 100 (ok_laws_toMarkS hv44) ?_
 refine v 1 124 [(2, I a2), (8, A v11.1), (9, B v11.2), (12, rf 2 0 6 v37.2), (15, I v37.1), (100, A v43), (101, A a1)] [sl 0 v31.2, some ⟨0, dL v33.2⟩, sl 0 v37.2] ?_
 obtain ⟨v45, hv46, h⟩ := bindS h
 refine opsP_callF τ 102 (ok_laws_toWriteS_D hv46) (FzTo.OD _) rfl (by kernel_rfl) ?_
 refine v 1 124 [(8, A v11.1), (9, B v11.2), (12, rf 2 0 6 v37.2), (15, I v37.1), (100, A v43), (102, A v45), (103, I a2)] [sl 0 v31.2, some ⟨0, dL v33.2⟩, sl 0 v37.2] ?_
 obtain ⟨v47, hv48, h⟩ := bindS h
 refine opsP_callF τ 104 (ok_impl_IndexTurned_R hv48) (FzTo.tup (FzToL.cons (FzTo.O _) (FzToL.cons (FzTo.frz rfl) FzToL.nil))) rfl (by kernel_rfl) ?_
 refine ve 5 124 [(8, A v11.1), (9, B v11.2), (12, rf 2 0 6 v37.2), (15, I v37.1), (17, A v47.1), (18, B v47.2)] [sl 0 v31.2, some ⟨0, dL v33.2⟩, sl 0 v37.2] ?_
 refine pwp_seq ?_
 refine pwp_seq ?_
 refine pwp_join (σ := Bool) (fun x49 => (⟨124, [(12, rf 2 0 6 v37.2), (15, I v37.1), (115, B x49)], [sl 0 v31.2, some ⟨0, dL v33.2⟩, sl 0 v37.2]⟩ : St)) (fun x49 => laws_FnExactIndexTurned_j2 v37 x49 = some y) ?_ ?_
 refine rv 2 124 [(9, B v11.2), (12, rf 2 0 6 v37.2), (15, I v37.1), (18, B v47.2), (107, A v47.1), (108, A v11.1)] [sl 0 v31.2, some ⟨0, dL v33.2⟩, sl 0 v37.2] ?_
 obtain ⟨v55, hv56, h⟩ := bindS h
 refine cF 109 (ok_laws_eqMarkS hv56) ?_
 refine v 2 124 [(9, B v11.2), (12, rf 2 0 6 v37.2), (15, I v37.1), (18, B v47.2), (111, B (!v55))] [sl 0 v31.2, some ⟨0, dL v33.2⟩, sl 0 v37.2] ?_
 rcases fk (!v55) with hc57 | hc57
 replace h := bT hc57 h
 rw [hc57]
 refine ve 4 124 [(12, rf 2 0 6 v37.2), (15, I v37.1), (115, B true)] [sl 0 v31.2, some ⟨0, dL v33.2⟩, sl 0 v37.2] ?_
 exact ⟨true, h, it [12, 15, 115]⟩
 replace h := bF hc57 h
 rw [hc57]
 refine ve 4 124 [(12, rf 2 0 6 v37.2), (15, I v37.1), (115, B (!(v47.2 == v11.2)))] [sl 0 v31.2, some ⟨0, dL v33.2⟩, sl 0 v37.2] ?_
 exact ⟨(!(v47.2 == v11.2)), h, it [12, 15, 115]⟩
 rintro x49 h
 unfold laws_FnExactIndexTurned_j2 at h
 refine pc h (fun h => ?_) (fun h => ?_)
 refine srve 124 [(6, B false)] [sl 0 v31.2, some ⟨0, dL v33.2⟩, sl 0 v37.2] ?_
 cases h
 exact pwp_ret rz
 refine pwp_skip ?_
 refine srve 124 [(12, rf 2 0 6 v37.2), (15, I v37.1), (16, I 1)] [sl 0 v31.2, some ⟨0, dL v33.2⟩, sl 0 v37.2] ?_
 refine srv 2 124 [(15, I v37.1), (116, rf 2 0 6 v37.2), (117, I 1)] [sl 0 v31.2, some ⟨0, dL v33.2⟩, sl 0 v37.2] ?_
 obtain ⟨v51, hv52, h⟩ := bindS h
 refine opsP_callV (xs := [rf 2 0 6 v37.2, I 1]) τ 118 (ok_laws_heldMarkS hv52) (Blind.lit _) (FzTo.frz rfl) (by kernel_rfl) (ViewL.cons (View.whole (v := 0) v37.2 (by kernel_rfl) rfl) (ViewL.cons (View.frz rfl) (ViewL.nil _))) ?_
 refine ve 1 124 [(15, I v37.1), (16, I v51)] [sl 0 v31.2, some ⟨0, dL v33.2⟩, sl 0 v37.2] ?_
 refine pwp_seq ?_
 refine srve 124 [(15, I v37.1), (16, I v51), (120, B (decide (v51 < 0)))] [sl 0 v31.2, some ⟨0, dL v33.2⟩, sl 0 v37.2] ?_
 refine pc h (fun h => ?_) (fun h => ?_)
 refine srve 124 [(6, B false)] [sl 0 v31.2, some ⟨0, dL v33.2⟩, sl 0 v37.2] ?_
 cases h
 exact pwp_ret rz
 refine pwp_skip ?_
 refine pwp_seq ?_
 refine srve 124 [(123, B (!(v51 == v37.1)))] [sl 0 v31.2, some ⟨0, dL v33.2⟩, sl 0 v37.2] ?_
 refine pc h (fun h => ?_) (fun h => ?_)
 refine srve 124 [(6, B false)] [sl 0 v31.2, some ⟨0, dL v33.2⟩, sl 0 v37.2] ?_
 cases h
 exact pwp_ret rz
 refine pwp_skip ?_
 refine srve 124 [(6, B true)] [sl 0 v31.2, some ⟨0, dL v33.2⟩, sl 0 v37.2] ?_
 cases h
 exact pwp_ret rz
end Go.D
