import Derived.Test.YtgddjdemlelffaatlbDXFA
import Derived.KernelRfl
set_option linter.unusedVariables false
set_option linter.unusedSimpArgs false
namespace Go.D
open Go.Proofs
theorem ok_spec_l32Turn {a0 : List T_impl_Tally} {a1 : T_impl_Value} {a2 : T_impl_Value} {a3 : Int} {y : List T_impl_Tally} (h : spec_l32Turn a0 a1 a2 a3 = some y) : OK Try.prog 73 [A a0, E a1, E a2, I a3] (O y) := by
 refine ow Try.func73 fun Γ hX => ?_
 unfold spec_l32Turn at h
 refine srveM [9, 13] 99 [(0, A a0), (3, I a3), (5, pf a1 0), (6, pf a2 0)] [] ?_
 refine srveM [9, 13] 99 [(0, A a0), (3, I a3), (6, pf a2 0), (9, .ptr 0 0 0)] [some ⟨0, Enc.cells (T_impl_Tally.mk ([a1]) a3 0 0)⟩] ?_
 refine pwp_seq ?_
 refine pwp_join (σ := T_impl_Tally) (fun x1 => (⟨99, [(0, A a0), (9, .ptr 0 0 0)], [sc 0 x1]⟩ : St)) (fun x1 => spec_l32Turn_j0 a0 x1 = some y) ?_ ?_
 refine srveM [9, 13] 99 [(0, A a0), (3, I a3), (6, pf a2 0), (9, .ptr 0 0 0), (21, B (a2.fKind == 1))] [some ⟨0, Enc.cells (T_impl_Tally.mk ([a1]) a3 0 0)⟩] ?_
 refine pc h (fun h => ?_) (fun h => ?_)
 refine srveM [9, 13] 99 [(0, A a0), (3, I a3), (6, pf a2 0), (9, .ptr 0 0 0)] [some ⟨0, Enc.cells (T_impl_Tally.mk ([a1]) a3 a3 0)⟩] ?_
 refine rveM [9, 13] 99 [(0, A a0), (9, .ptr 0 0 0)] [some ⟨0, Enc.cells (T_impl_Tally.mk ([a1]) a3 a3 (w64 (a3 * a2.fN)))⟩] ?_
 exact ⟨(T_impl_Tally.mk ([a1]) a3 a3 (w64 (a3 * a2.fN))), h, it [0, 9]⟩
 refine pwp_skip ?_
 exact ⟨(T_impl_Tally.mk ([a1]) a3 0 0), h, it [0, 9]⟩
 rintro x1 h
 unfold spec_l32Turn_j0 at h
 refine srveM [9, 13] 99 [(0, A a0), (9, .ptr 0 0 0), (10, .arr 4 0 (eL ([] : List T_impl_Tally)) true)] [sc 0 x1] ?_
 refine srveM [9, 13] 99 [(0, A a0), (9, .ptr 0 0 0), (10, .arr 4 0 (eL ([] : List T_impl_Tally)) true), (11, B false)] [sc 0 x1] ?_
 refine pwp_seq ?_
 refine srveM [9, 13] 99 [(0, A a0), (9, .ptr 0 0 0), (10, .arr 4 0 (eL ([] : List T_impl_Tally)) true), (11, B false), (12, I 0)] [sc 0 x1] ?_
 refine pwp_block ?_
 refine pwp_loop (ι := Nat × Bool × Int × (List T_impl_Tally)) (fun (f7, x4, x5, x6) => (⟨99, [(0, A a0), (9, .ptr 0 0 0), (10, rf 1 0 4 x6), (11, B x4), (12, I x5)], [sc 0 x1, sl 0 x6]⟩ : St)) (fun (f7, x4, x5, x6) => spec_l32Turn_l1 a0 x1 f7 x4 x5 x6 = some y) Prod.fst (FUEL, false, 0, ([] : List T_impl_Tally)) h (Imp.thawS 10 [0, 9, 10, 11, 12] (by kernel_rfl)) ?_
 rintro ⟨f7, x4, x5, x6⟩ h
 dsimp only at h ⊢
 rcases f7 with _ | f7
 cases h
 rw [spec_l32Turn_l1] at h
 refine pwp_seq ?_
 refine srveM [9, 13] 99 [(0, A a0), (9, .ptr 0 0 0), (10, rf 1 0 4 x6), (11, B x4), (12, I x5), (33, B (decide (x5 < (a0.length : Int))))] [sc 0 x1, sl 0 x6] ?_
 refine pc h (fun h => ?_) (fun h => ?_)
 refine pwp_skip ?_
 refine pwp_seq ?_
 refine pwp_join (σ := Bool × (List T_impl_Tally) × T_impl_Tally) (fun (x10, x11, x12) => (⟨99, [(0, A a0), (9, .ptr 0 0 0), (10, rf 1 0 4 x11), (11, B x10), (12, I x5)], [sc 0 x1, sl 0 x11, sc 0 x12]⟩ : St)) (fun (x10, x11, x12) => spec_l32Turn_j2 x5 (spec_l32Turn_l1 a0 x1 f7) x10 x11 x12 = some y) ?_ ?_
 refine pwp_block ?_
 refine srvM [9, 13] 2 99 [(0, A a0), (9, .ptr 0 0 0), (10, rf 1 0 4 x6), (11, B x4), (12, I x5), (36, A a0), (37, I x5)] [sc 0 x1, sl 0 x6] ?_
 obtain ⟨v13, hv14, h⟩ := bindS h
 refine opsP_idx τ_ok 38 hv14 (by kernel_rfl) ?_
 refine veM [9, 13] 3 99 [(0, A a0), (9, .ptr 0 0 0), (10, rf 1 0 4 x6), (11, B x4), (12, I x5), (13, .ptr 2 0 0)] [sc 0 x1, sl 0 x6, sc 0 v13] ?_
 refine srvM [9, 13] 4 99 [(0, A a0), (9, .ptr 0 0 0), (10, rf 1 0 4 x6), (11, B x4), (12, I x5), (13, .ptr 2 0 0), (41, A v13.fKey), (43, A x1.fKey)] [sc 0 x1, sl 0 x6, sc 0 v13] ?_
 obtain ⟨v15, hv16, h⟩ := bindS h
 refine cF 44 (ok_spec_RowOrder hv16) ?_
 refine veM [9, 13] 1 99 [(0, A a0), (9, .ptr 0 0 0), (10, rf 1 0 4 x6), (11, B x4), (12, I x5), (13, .ptr 2 0 0), (14, I v15)] [sc 0 x1, sl 0 x6, sc 0 v13] ?_
 refine pwp_seq ?_
 refine pwp_join (σ := Bool × (List T_impl_Tally)) (fun (x17, x18) => (⟨99, [(0, A a0), (9, .ptr 0 0 0), (10, rf 1 0 4 x18), (11, B x17), (12, I x5), (13, .ptr 2 0 0), (14, I v15)], [sc 0 x1, sl 0 x18, sc 0 v13]⟩ : St)) (fun (x17, x18) => spec_l32Turn_j3 x1 x5 (spec_l32Turn_l1 a0 x1 f7) v13 v15 x17 x18 = some y) ?_ ?_
 refine pwp_seq ?_
 refine pwp_join (σ := Bool) (fun x28 => (⟨99, [(0, A a0), (9, .ptr 0 0 0), (10, rf 1 0 4 x6), (11, B x4), (12, I x5), (13, .ptr 2 0 0), (14, I v15), (50, B x28)], [sc 0 x1, sl 0 x6, sc 0 v13]⟩ : St)) (fun x28 => spec_l32Turn_j6 x1 x4 x5 x6 (spec_l32Turn_l1 a0 x1 f7) v13 v15 x28 = some y) ?_ ?_
 refine rvM [9, 13] 3 99 [(0, A a0), (9, .ptr 0 0 0), (10, rf 1 0 4 x6), (11, B x4), (12, I x5), (13, .ptr 2 0 0), (14, I v15), (47, B (decide (v15 > 0)))] [sc 0 x1, sl 0 x6, sc 0 v13] ?_
 rcases fk (decide (v15 > 0)) with hc32 | hc32
 replace h := bT hc32 h
 rw [hc32]
 refine veM [9, 13] 3 99 [(0, A a0), (9, .ptr 0 0 0), (10, rf 1 0 4 x6), (11, B x4), (12, I x5), (13, .ptr 2 0 0), (14, I v15), (48, B x4), (49, B (!x4)), (50, B (!x4))] [sc 0 x1, sl 0 x6, sc 0 v13] ?_
 exact ⟨(!x4), h, it [0, 9, 10, 11, 12, 13, 14, 50]⟩
 replace h := bF hc32 h
 rw [hc32]
 refine veM [9, 13] 3 99 [(0, A a0), (9, .ptr 0 0 0), (10, rf 1 0 4 x6), (11, B x4), (12, I x5), (13, .ptr 2 0 0), (14, I v15), (48, .lit undef), (49, .lit undef), (50, B false)] [sc 0 x1, sl 0 x6, sc 0 v13] ?_
 exact ⟨false, h, it [0, 9, 10, 11, 12, 13, 14, 50]⟩
 rintro x28 h
 unfold spec_l32Turn_j6 at h
 refine pc h (fun h => ?_) (fun h => ?_)
 refine srvM [9, 13] 3 99 [(0, A a0), (9, .ptr 0 0 0), (12, I x5), (13, .ptr 2 0 0), (14, I v15), (51, rf 1 0 4 x6), (53, .arr 4 ([x1] : List T_impl_Tally).length (eL ([x1] : List T_impl_Tally)) true)] [sc 0 x1, sl 0 x6, sc 0 v13] ?_
 obtain ⟨v30, hv31, h⟩ := bindS h
 refine opsP_app τ_ok 54 1 0 (nx hX) hv31 (by kernel_rfl) ?_
 refine veM [9, 13] 1 99 [(0, A a0), (9, .ptr 0 0 0), (10, rf 1 1 4 v30), (12, I x5), (13, .ptr 2 0 0), (14, I v15)] [sc 0 x1, sl 1 v30, sc 0 v13] ?_
 refine rveM [9, 13] 99 [(0, A a0), (9, .ptr 0 0 0), (10, rf 1 1 4 v30), (11, B true), (12, I x5), (13, .ptr 2 0 0), (14, I v15)] [sc 0 x1, sl 1 v30, sc 0 v13] ?_
 exact ⟨(true, v30), h, (it (st' := ⟨99, [(0, A a0), (9, .ptr 0 0 0), (10, rf 1 1 4 v30), (11, B true), (12, I x5), (13, .ptr 2 0 0), (14, I v15)], [sc 0 x1, sl 1 v30, sc 0 v13]⟩) [0, 9, 10, 11, 12, 13, 14]).trans (Imp.reverS 1 1 (eL v30) [0, 9, 10, 11, 12, 13, 14] (by kernel_rfl) (by exact (And.intro (rfl) (And.intro (eL_frz _) (And.intro (rfl) trivial)))) (by kernel_rfl))⟩
 refine pwp_skip ?_
 exact ⟨(x4, x6), h, it [0, 9, 10, 11, 12, 13, 14]⟩
 rintro ⟨x17, x18⟩ h
 dsimp only at h ⊢
 unfold spec_l32Turn_j3 at h
 refine pwp_seq ?_
 refine pwp_join (σ := Bool × T_impl_Tally) (fun (x19, x20) => (⟨99, [(0, A a0), (9, .ptr 0 0 0), (10, rf 1 0 4 x18), (11, B x19), (12, I x5), (13, .ptr 2 0 0)], [sc 0 x1, sl 0 x18, sc 0 x20]⟩ : St)) (fun (x19, x20) => spec_l32Turn_j4 x5 (spec_l32Turn_l1 a0 x1 f7) x18 x19 x20 = some y) ?_ ?_
 refine srveM [9, 13] 99 [(0, A a0), (9, .ptr 0 0 0), (10, rf 1 0 4 x18), (11, B x17), (12, I x5), (13, .ptr 2 0 0), (56, B (v15 == 0))] [sc 0 x1, sl 0 x18, sc 0 v13] ?_
 refine pc h (fun h => ?_) (fun h => ?_)
 refine srveM [9, 13] 99 [(0, A a0), (9, .ptr 0 0 0), (10, rf 1 0 4 x18), (12, I x5), (13, .ptr 2 0 0)] [sc 0 x1, sl 0 x18, some ⟨0, Enc.cells ({ v13 with fRows := (w64 (v13.fRows + x1.fRows)) })⟩] ?_
 refine srveM [9, 13] 99 [(0, A a0), (9, .ptr 0 0 0), (10, rf 1 0 4 x18), (12, I x5), (13, .ptr 2 0 0)] [sc 0 x1, sl 0 x18, some ⟨0, Enc.cells ({ (({ v13 with fRows := (w64 (v13.fRows + x1.fRows)) }) : T_impl_Tally) with fMany := (w64 ((({ v13 with fRows := (w64 (v13.fRows + x1.fRows)) } : T_impl_Tally).fMany) + x1.fMany)) })⟩] ?_
 refine srveM [9, 13] 99 [(0, A a0), (9, .ptr 0 0 0), (10, rf 1 0 4 x18), (12, I x5), (13, .ptr 2 0 0)] [sc 0 x1, sl 0 x18, some ⟨0, Enc.cells ({ (({ (({ v13 with fRows := (w64 (v13.fRows + x1.fRows)) }) : T_impl_Tally) with fMany := (w64 ((({ v13 with fRows := (w64 (v13.fRows + x1.fRows)) } : T_impl_Tally).fMany) + x1.fMany)) }) : T_impl_Tally) with fSum := (w64 ((({ (({ v13 with fRows := (w64 (v13.fRows + x1.fRows)) }) : T_impl_Tally) with fMany := (w64 ((({ v13 with fRows := (w64 (v13.fRows + x1.fRows)) } : T_impl_Tally).fMany) + x1.fMany)) } : T_impl_Tally).fSum) + x1.fSum)) })⟩] ?_
 refine rveM [9, 13] 99 [(0, A a0), (9, .ptr 0 0 0), (10, rf 1 0 4 x18), (11, B true), (12, I x5), (13, .ptr 2 0 0)] [sc 0 x1, sl 0 x18, some ⟨0, Enc.cells ({ (({ (({ v13 with fRows := (w64 (v13.fRows + x1.fRows)) }) : T_impl_Tally) with fMany := (w64 ((({ v13 with fRows := (w64 (v13.fRows + x1.fRows)) } : T_impl_Tally).fMany) + x1.fMany)) }) : T_impl_Tally) with fSum := (w64 ((({ (({ v13 with fRows := (w64 (v13.fRows + x1.fRows)) }) : T_impl_Tally) with fMany := (w64 ((({ v13 with fRows := (w64 (v13.fRows + x1.fRows)) } : T_impl_Tally).fMany) + x1.fMany)) } : T_impl_Tally).fSum) + x1.fSum)) })⟩] ?_
 exact ⟨(true, { (({ (({ v13 with fRows := (w64 (v13.fRows + x1.fRows)) }) : T_impl_Tally) with fMany := (w64 ((({ v13 with fRows := (w64 (v13.fRows + x1.fRows)) } : T_impl_Tally).fMany) + x1.fMany)) }) : T_impl_Tally) with fSum := (w64 ((({ (({ v13 with fRows := (w64 (v13.fRows + x1.fRows)) }) : T_impl_Tally) with fMany := (w64 ((({ v13 with fRows := (w64 (v13.fRows + x1.fRows)) } : T_impl_Tally).fMany) + x1.fMany)) } : T_impl_Tally).fSum) + x1.fSum)) }), h, it [0, 9, 10, 11, 12, 13]⟩
 refine pwp_skip ?_
 exact ⟨(x17, v13), h, it [0, 9, 10, 11, 12, 13]⟩
 rintro ⟨x19, x20⟩ h
 dsimp only at h ⊢
 unfold spec_l32Turn_j4 at h
 refine pwp_seq ?_
 refine pwp_join (σ := Bool) (fun x21 => (⟨99, [(0, A a0), (9, .ptr 0 0 0), (10, rf 1 0 4 x18), (11, B x19), (12, I x5), (13, .ptr 2 0 0), (87, B x21)], [sc 0 x1, sl 0 x18, sc 0 x20]⟩ : St)) (fun x21 => spec_l32Turn_j5 x5 (spec_l32Turn_l1 a0 x1 f7) x18 x19 x20 x21 = some y) ?_ ?_
 refine rvM [9, 13] 4 99 [(0, A a0), (9, .ptr 0 0 0), (10, rf 1 0 4 x18), (11, B x19), (12, I x5), (13, .ptr 2 0 0), (78, B (!(x20.fRows == 0)))] [sc 0 x1, sl 0 x18, sc 0 x20] ?_
 rcases fk (!(x20.fRows == 0)) with hc26 | hc26
 replace h := bT hc26 h
 rw [hc26]
 refine veM [9, 13] 9 99 [(0, A a0), (9, .ptr 0 0 0), (10, rf 1 0 4 x18), (11, B x19), (12, I x5), (13, .ptr 2 0 0), (79, .lit undef), (80, .lit undef), (81, .lit undef), (84, .lit undef), (85, .lit undef), (86, .lit undef), (87, B true)] [sc 0 x1, sl 0 x18, sc 0 x20] ?_
 exact ⟨true, h, it [0, 9, 10, 11, 12, 13, 87]⟩
 replace h := bF hc26 h
 rw [hc26]
 refine vM [9, 13] 5 99 [(0, A a0), (9, .ptr 0 0 0), (10, rf 1 0 4 x18), (11, B x19), (12, I x5), (13, .ptr 2 0 0), (79, .ptr 2 0 2), (80, I x20.fMany), (81, B (!(x20.fMany == 0))), (83, B (!(x20.fMany == 0)))] [sc 0 x1, sl 0 x18, sc 0 x20] ?_
 rcases fk (!(x20.fMany == 0)) with hc25 | hc25
 replace h := bT hc25 h
 rw [hc25]
 refine veM [9, 13] 4 99 [(0, A a0), (9, .ptr 0 0 0), (10, rf 1 0 4 x18), (11, B x19), (12, I x5), (13, .ptr 2 0 0), (79, .ptr 2 0 2), (80, I x20.fMany), (81, B true), (84, .lit undef), (85, .lit undef), (86, .lit undef), (87, B true)] [sc 0 x1, sl 0 x18, sc 0 x20] ?_
 exact ⟨true, h, it [0, 9, 10, 11, 12, 13, 87]⟩
 replace h := bF hc25 h
 rw [hc25]
 refine veM [9, 13] 4 99 [(0, A a0), (9, .ptr 0 0 0), (10, rf 1 0 4 x18), (11, B x19), (12, I x5), (13, .ptr 2 0 0), (79, .ptr 2 0 2), (80, I x20.fMany), (81, B false), (84, .ptr 2 0 3), (85, I x20.fSum), (86, B (!(x20.fSum == 0))), (87, B (!(x20.fSum == 0)))] [sc 0 x1, sl 0 x18, sc 0 x20] ?_
 exact ⟨(!(x20.fSum == 0)), h, it [0, 9, 10, 11, 12, 13, 87]⟩
 rintro x21 h
 unfold spec_l32Turn_j5 at h
 refine pc h (fun h => ?_) (fun h => ?_)
 refine rvM [9, 13] 3 99 [(0, A a0), (9, .ptr 0 0 0), (11, B x19), (12, I x5), (88, rf 1 0 4 x18), (90, .arr 4 ([x20] : List T_impl_Tally).length (eL ([x20] : List T_impl_Tally)) true)] [sc 0 x1, sl 0 x18, sc 0 x20] ?_
 obtain ⟨v23, hv24, h⟩ := bindS h
 refine opsP_app τ_ok 91 1 0 (nx hX) hv24 (by kernel_rfl) ?_
 refine veM [9, 13] 1 99 [(0, A a0), (9, .ptr 0 0 0), (10, rf 1 1 4 v23), (11, B x19), (12, I x5)] [sc 0 x1, sl 1 v23, sc 0 x20] ?_
 exact ⟨(x19, v23, x20), h, (it (st' := ⟨99, [(0, A a0), (9, .ptr 0 0 0), (10, rf 1 1 4 v23), (11, B x19), (12, I x5)], [sc 0 x1, sl 1 v23, sc 0 x20]⟩) [0, 9, 10, 11, 12]).trans (Imp.reverS 1 1 (eL v23) [0, 9, 10, 11, 12] (by kernel_rfl) (by exact (And.intro (rfl) (And.intro (eL_frz _) (And.intro (rfl) trivial)))) (by kernel_rfl))⟩
 refine pwp_skip ?_
 exact ⟨(x19, x18, x20), h, it [0, 9, 10, 11, 12]⟩
 rintro ⟨x10, x11, x12⟩ h
 dsimp only at h ⊢
 unfold spec_l32Turn_j2 at h
 refine rveM [9, 13] 99 [(0, A a0), (9, .ptr 0 0 0), (10, rf 1 0 4 x11), (11, B x10), (12, I (w64 (x5 + 1)))] [sc 0 x1, sl 0 x11, sc 0 x12] ?_
 exact ⟨(f7, x10, (w64 (x5 + 1)), x11), h, Nat.lt_succ_self _, (it (st' := ⟨99, [(0, A a0), (9, .ptr 0 0 0), (10, rf 1 0 4 x11), (11, B x10), (12, I (w64 (x5 + 1)))], [sc 0 x1, sl 0 x11, sc 0 x12]⟩) [0, 9, 10, 11, 12]).trans (Imp.truncS 2 (nx hX) (by kernel_rfl) (allBelow_mem (by exact (And.intro rfl (And.intro rfl (And.intro rfl (And.intro rfl (And.intro rfl trivial))))))) (by exact (And.intro (rfl) (And.intro (frz_below (eL_frz _)) trivial))) (by kernel_rfl))⟩
 refine pwp_exit ?_
 refine pwp_seq ?_
 refine srveM [9, 13] 99 [(9, .ptr 0 0 0), (10, rf 1 0 4 x6), (93, B (!x4))] [sc 0 x1, sl 0 x6] ?_
 refine pc h (fun h => ?_) (fun h => ?_)
 refine rvM [9, 13] 3 99 [(94, rf 1 0 4 x6), (96, .arr 4 ([x1] : List T_impl_Tally).length (eL ([x1] : List T_impl_Tally)) true)] [sc 0 x1, sl 0 x6] ?_
 obtain ⟨v34, hv35, h⟩ := bindS h
 refine opsP_app τ_ok 97 1 0 (nx hX) hv35 (by kernel_rfl) ?_
 refine veM [9, 13] 1 99 [(10, rf 1 1 4 v34)] [sc 0 x1, sl 1 v34] ?_
 refine srveM [9, 13] 99 [(8, rf 1 1 4 v34)] [sc 0 x1, sl 1 v34] ?_
 have h := si h
 subst h
 exact pwp_ret (rt (rf 1 1 4 v34) (OutP.list (v := 1) (by kernel_rfl)))
 refine pwp_skip ?_
 refine srveM [9, 13] 99 [(8, rf 1 0 4 x6)] [sc 0 x1, sl 0 x6] ?_
 have h := si h
 subst h
 exact pwp_ret (rt (rf 1 0 4 x6) (OutP.list (v := 0) (by kernel_rfl)))
def impl_allOk_1 (a0 : List T_impl_Value) : Option Bool := (impl_RowOk a0).bind fun v1 => some (!v1)
theorem ok_impl_allOk_1 {a0 : List T_impl_Value} {y : Bool} (h : impl_allOk_1 a0 = some y) : OK Try.prog 99 [A a0] (B y) := by
 refine ow Try.func99 fun Γ hX => ?_
 unfold impl_allOk_1 at h
 refine srve 6 [(0, A a0)] [] ?_
 refine srv 1 6 [(3, A a0)] [] ?_
 obtain ⟨v1, hv2, h⟩ := bindS h
 refine cF 4 (ok_impl_RowOk hv2) ?_
 refine ve 2 6 [(2, B (!v1))] [] ?_
 cases h
 exact pwp_ret rz
def impl_rowOrder (a0 : List T_impl_Value) (a1 : List T_impl_Value) : Option Int := (slices_CompareFunc_impl_Value_impl_Value_impl_Value_impl_Value_s2 a0 a1 impl_Value_order).bind fun v1 => (cmp_Compare_int (a0.length : Int) (a1.length : Int)).bind fun v3 => (cmp_Or_int ([v1, v3])).bind fun v5 => some v5
theorem ok_impl_rowOrder {a0 : List T_impl_Value} {a1 : List T_impl_Value} {y : Int} (h : impl_rowOrder a0 a1 = some y) : OK Try.prog 103 [A a0, A a1] (I y) := by
 refine ow Try.func103 fun Γ hX => ?_
 unfold impl_rowOrder at h
 refine srve 15 [(0, A a0), (1, A a1)] [] ?_
 refine srv 2 15 [(0, A a0), (1, A a1), (5, A a0), (6, A a1)] [] ?_
 obtain ⟨v1, hv2, h⟩ := bindS h
 refine cF 7 (ok_slices_CompareFunc_impl_Value_impl_Value_impl_Value_impl_Value_s2 (rfl) (fun _ _ w hw => ok_impl_Value_order hw) hv2) ?_
 refine v 4 15 [(7, I v1), (9, I (a0.length : Int)), (11, I (a1.length : Int))] [] ?_
 obtain ⟨v3, hv4, h⟩ := bindS h
 refine cF 12 (ok_cmp_Compare_int hv4) ?_
 refine v 1 15 [(13, .arr 1 ([v1, v3] : List Int).length (eL ([v1, v3] : List Int)) true)] [] ?_
 obtain ⟨v5, hv6, h⟩ := bindS h
 refine cF 14 (ok_cmp_Or_int hv6) ?_
 refine ve 1 15 [(4, I v5)] [] ?_
 cases h
 exact pwp_ret rz
def impl_tell_1 (a0 : T_impl_Tally) (a1 : List T_impl_Value) : Option Int := (impl_rowOrder a0.fKey a1).bind fun v1 => some v1
theorem ok_impl_tell_1 {a0 : T_impl_Tally} {a1 : List T_impl_Value} {y : Int} (h : impl_tell_1 a0 a1 = some y) : OK Try.prog 123 [E a0, A a1] (I y) := by
 refine ow Try.func123 fun Γ hX => ?_
 unfold impl_tell_1 at h
 refine srve 9 [(1, A a1), (2, pf a0 0)] [] ?_
 refine srv 3 9 [(6, A a0.fKey), (7, A a1)] [] ?_
 obtain ⟨v1, hv2, h⟩ := bindS h
 refine cF 8 (ok_impl_rowOrder hv2) ?_
 refine ve 1 9 [(4, I v1)] [] ?_
 cases h
 exact pwp_ret rz
def impl_Tally_ok (a0 : T_impl_Tally) : Option Bool := bif ((a0.fKey.length : Int) == 1) then (impl_RowOk a0.fKey).bind fun v1 => bif v1 then (impl_between a0.fRows 1 100).bind fun v3 => bif v3 then (impl_between a0.fMany 0 a0.fRows).bind fun v5 => bif v5 then (impl_between a0.fSum (w64 ((-9999) * a0.fMany)) (w64 (9999 * a0.fMany))).bind fun v7 => some v7 else some false else some false else some false else some false
theorem ok_impl_Tally_ok {a0 : T_impl_Tally} {y : Bool} (h : impl_Tally_ok a0 = some y) : OK Try.prog 127 [E a0] (B y) := by
 refine ow Try.func127 fun Γ hX => ?_
 unfold impl_Tally_ok at h
 refine srve 35 [(1, pf a0 0)] [] ?_
 refine srv 5 35 [(1, pf a0 0), (7, B ((a0.fKey.length : Int) == 1))] [] ?_
 rcases fk ((a0.fKey.length : Int) == 1) with hc12 | hc12
 replace h := bT hc12 h
 rw [hc12]
 refine v 2 35 [(1, pf a0 0), (7, B true), (9, A a0.fKey)] [] ?_
 obtain ⟨v1, hv2, h⟩ := bindS h
 refine cF 10 (ok_impl_RowOk hv2) ?_
 refine v 2 35 [(1, pf a0 0), (12, B v1)] [] ?_
 rcases Bool.eq_false_or_eq_true v1 with hc11 | hc11
 replace h := bT hc11 h
 rw [hc11]
 refine v 2 35 [(1, pf a0 0), (12, B true), (14, I a0.fRows)] [] ?_
 obtain ⟨v3, hv4, h⟩ := bindS h
 refine cF 15 (ok_impl_between hv4) ?_
 refine v 2 35 [(1, pf a0 0), (17, B v3)] [] ?_
 rcases Bool.eq_false_or_eq_true v3 with hc10 | hc10
 replace h := bT hc10 h
 rw [hc10]
 refine v 4 35 [(1, pf a0 0), (17, B true), (19, I a0.fMany), (21, I a0.fRows)] [] ?_
 obtain ⟨v5, hv6, h⟩ := bindS h
 refine cF 22 (ok_impl_between hv6) ?_
 refine v 2 35 [(1, pf a0 0), (24, B v5)] [] ?_
 rcases Bool.eq_false_or_eq_true v5 with hc9 | hc9
 replace h := bT hc9 h
 rw [hc9]
 refine v 8 35 [(24, B true), (26, I a0.fSum), (29, I (w64 ((-9999) * a0.fMany))), (32, I (w64 (9999 * a0.fMany)))] [] ?_
 obtain ⟨v7, hv8, h⟩ := bindS h
 refine cF 33 (ok_impl_between hv8) ?_
 refine ve 2 35 [(2, B v7)] [] ?_
 cases h
 exact pwp_ret rz
 replace h := bF hc9 h
 rw [hc9]
 refine ve 11 35 [(2, B false)] [] ?_
 cases h
 exact pwp_ret rz
 replace h := bF hc10 h
 rw [hc10]
 refine ve 18 35 [(2, B false)] [] ?_
 cases h
 exact pwp_ret rz
 replace h := bF hc11 h
 rw [hc11]
 refine ve 23 35 [(2, B false)] [] ?_
 cases h
 exact pwp_ret rz
 replace h := bF hc12 h
 rw [hc12]
 refine ve 28 35 [(2, B false)] [] ?_
 cases h
 exact pwp_ret rz
def slices_stableCmpFunc_impl_Value_j3 (x13 : Int) (K16 : Int → (List (List T_impl_Value)) → Option (List (List T_impl_Value))) (x27 : List (List T_impl_Value)) : Option (List (List T_impl_Value)) := K16 (w64 (x13 * 2)) x27
def slices_stableCmpFunc_impl_Value_l2 (a1 : Int) (a2 : (List T_impl_Value) → (List T_impl_Value) → Option Int) (x13 : Int) (K16 : Int → (List (List T_impl_Value)) → Option (List (List T_impl_Value))) : Nat → Int → Int → (List (List T_impl_Value)) → Option (List (List T_impl_Value))
 | 0, _, _, _ => none
 | f22 + 1, x19, x20, x21 => bif (decide (x20 ≤ a1)) then (slices_symMergeCmpFunc_impl_Value x21 x19 (w64 (x19 + x13)) x20 a2).bind fun v25 => (slices_stableCmpFunc_impl_Value_l2 a1 a2 x13 K16 f22) x20 (w64 (x20 + (w64 (2 * x13)))) v25 else bif (decide ((w64 (x19 + x13)) < a1)) then (slices_symMergeCmpFunc_impl_Value x21 x19 (w64 (x19 + x13)) a1 a2).bind fun v29 => slices_stableCmpFunc_impl_Value_j3 x13 K16 v29 else slices_stableCmpFunc_impl_Value_j3 x13 K16 x21
def slices_stableCmpFunc_impl_Value_l1 (a1 : Int) (a2 : (List T_impl_Value) → (List T_impl_Value) → Option Int) : Nat → Int → (List (List T_impl_Value)) → Option (List (List T_impl_Value))
 | 0, _, _ => none
 | f15 + 1, x13, x14 => bif (decide (x13 < a1)) then slices_stableCmpFunc_impl_Value_l2 a1 a2 x13 (slices_stableCmpFunc_impl_Value_l1 a1 a2 f15) FUEL 0 (w64 (2 * x13)) x14 else some x14
def slices_stableCmpFunc_impl_Value_l0 (a1 : Int) (a2 : (List T_impl_Value) → (List T_impl_Value) → Option Int) : Nat → Int → Int → (List (List T_impl_Value)) → Option (List (List T_impl_Value))
 | 0, _, _, _ => none
 | f5 + 1, x2, x3, x4 => bif (decide (x3 ≤ a1)) then (slices_insertionSortCmpFunc_impl_Value x4 x2 x3 a2).bind fun v8 => (slices_stableCmpFunc_impl_Value_l0 a1 a2 f5) x3 (w64 (x3 + 20)) v8 else (slices_insertionSortCmpFunc_impl_Value x4 x2 a1 a2).bind fun v10 => slices_stableCmpFunc_impl_Value_l1 a1 a2 FUEL 20 v10
def slices_stableCmpFunc_impl_Value_w (a0 : List (List T_impl_Value)) (a1 : Int) (a2 : (List T_impl_Value) → (List T_impl_Value) → Option Int) : Option (List (List T_impl_Value)) := slices_stableCmpFunc_impl_Value_l0 a1 a2 FUEL 0 20 a0
def slices_stableCmpFunc_impl_Value (a0 : List (List T_impl_Value)) (a1 : Int) (a2 : (List T_impl_Value) → (List T_impl_Value) → Option Int) : Option (List (List T_impl_Value)) := (slices_stableCmpFunc_impl_Value_w a0 a1 a2).bind fun y => bif (y.length == a0.length) then some y else none
theorem len_slices_stableCmpFunc_impl_Value {a0 : List (List T_impl_Value)} {a1 : Int} {a2 : (List T_impl_Value) → (List T_impl_Value) → Option Int} {y : List (List T_impl_Value)} (h : slices_stableCmpFunc_impl_Value a0 a1 a2 = some y) : y.length = a0.length := (bindLen (f := fun y : List (List T_impl_Value) => y) h).2
theorem ok_slices_stableCmpFunc_impl_Value {a0 : List (List T_impl_Value)} {a1 : Int} {g2 : FuncId} {c2 : List V} (hz2 : frzL c2 = true) {a2 : (List T_impl_Value) → (List T_impl_Value) → Option Int} (hp2 : ∀ x0 x1 y, a2 x0 x1 = some y → OK Try.prog g2 ([A x0, A x1] ++ c2) (I y)) {y : List (List T_impl_Value)} (h : slices_stableCmpFunc_impl_Value a0 a1 a2 = some y) : OKs Try.prog 149 [] 1 a0.length (eL a0) [I a1, .fn g2 c2] (.tup []) (eL y) := by
 refine OKs_of_pwp τ_ok Try.func149 rfl (by kernel_rfl) rfl (eL_frz _) (eL_frz _) (by rw [eL_len, eL_len, len_slices_stableCmpFunc_impl_Value h]) fun Γ hQ => ?_
 refine pwp_imp (Imp.to (st' := ⟨63, [(0, rf 0 0 1 a0), (1, I a1), (2, .fn g2 c2)], [sl 0 a0]⟩) [0, 1, 2] (by kernel_rfl)) ?_
 have h := (bindLen (f := fun y : List (List T_impl_Value) => y) h).1
 unfold slices_stableCmpFunc_impl_Value_w at h
 refine srve 63 [(0, rf 0 0 1 a0), (1, I a1), (2, .fn g2 c2), (6, I 20)] [sl 0 a0] ?_
 refine srve 63 [(0, rf 0 0 1 a0), (1, I a1), (2, .fn g2 c2), (6, I 20), (7, I 0), (8, I 20)] [sl 0 a0] ?_
 refine pwp_seq ?_
 refine pwp_block ?_
 refine pwp_loop (ι := Nat × Int × Int × (List (List T_impl_Value))) (fun (f5, x2, x3, x4) => (⟨63, [(0, rf 0 0 1 x4), (1, I a1), (2, .fn g2 c2), (6, I 20), (7, I x2), (8, I x3)], [sl 0 x4]⟩ : St)) (fun (f5, x2, x3, x4) => slices_stableCmpFunc_impl_Value_l0 a1 a2 f5 x2 x3 x4 = some y) Prod.fst (FUEL, 0, 20, a0) h (it [0, 1, 2, 6, 7, 8]) ?_
 rintro ⟨f5, x2, x3, x4⟩ h
 dsimp only at h ⊢
 rcases f5 with _ | f5
 cases h
 rw [slices_stableCmpFunc_impl_Value_l0] at h
 refine pwp_seq ?_
 refine srve 63 [(0, rf 0 0 1 x4), (1, I a1), (2, .fn g2 c2), (6, I 20), (7, I x2), (8, I x3), (13, B (decide (x3 ≤ a1)))] [sl 0 x4] ?_
 refine pc h (fun h => ?_) (fun h => ?_)
 refine pwp_skip ?_
 refine pwp_block ?_
 refine srv 4 63 [(0, rf 0 0 1 x4), (1, I a1), (2, .fn g2 c2), (6, I 20), (8, I x3), (14, rf 0 0 1 x4), (15, I x2), (16, I x3), (17, .fn g2 c2)] [sl 0 x4] ?_
 obtain ⟨v8, hv9, h⟩ := bindS h
 refine opsP_E (dd := some 18) (x := .tup []) (callS_E τ 18 0 0 (ok_slices_insertionSortCmpFunc_impl_Value (hz2) (hp2) hv9) (FzTo.tup FzToL.nil) rfl (by simp only [frzL, frz, hz2, Bool.and_true]) (by kernel_rfl)) ?_
 refine io 63 [(0, rf 0 0 1 x4), (1, I a1), (2, .fn g2 c2), (6, I 20), (8, I x3), (14, rf 0 0 1 x4), (15, I x2), (16, I x3), (17, .fn g2 c2), (18, .tup [])] [sl 0 v8] ?_
 refine opsP_ren (st' := ⟨63, [(0, rf 0 0 1 v8), (1, I a1), (2, .fn g2 c2), (6, I 20), (8, I x3), (14, rf 0 0 1 v8), (15, I x2), (16, I x3), (17, .fn g2 c2), (18, .tup [])], [sl 0 v8]⟩) 0 v8.length (renC (ren_ref (len_slices_insertionSortCmpFunc_impl_Value hv9).symm) (renC trivial (renC trivial (renC trivial (renC trivial (renC (ren_ref (len_slices_insertionSortCmpFunc_impl_Value hv9).symm) (renC trivial (renC trivial (renC trivial (renC trivial renC0)))))))))) (by kernel_rfl) ?_
 refine ve 0 63 [(0, rf 0 0 1 v8), (1, I a1), (2, .fn g2 c2), (6, I 20), (8, I x3)] [sl 0 v8] ?_
 refine srve 63 [(0, rf 0 0 1 v8), (1, I a1), (2, .fn g2 c2), (6, I 20), (7, I x3), (8, I x3)] [sl 0 v8] ?_
 refine rve 63 [(0, rf 0 0 1 v8), (1, I a1), (2, .fn g2 c2), (6, I 20), (7, I x3), (8, I (w64 (x3 + 20)))] [sl 0 v8] ?_
 exact ⟨(f5, x3, (w64 (x3 + 20)), v8), h, Nat.lt_succ_self _, it [0, 1, 2, 6, 7, 8]⟩
 refine pwp_exit ?_
 refine srv 4 63 [(0, rf 0 0 1 x4), (1, I a1), (2, .fn g2 c2), (6, I 20), (23, rf 0 0 1 x4), (24, I x2), (25, I a1), (26, .fn g2 c2)] [sl 0 x4] ?_
 obtain ⟨v10, hv11, h⟩ := bindS h
 refine opsP_E (dd := some 27) (x := .tup []) (callS_E τ 27 0 0 (ok_slices_insertionSortCmpFunc_impl_Value (hz2) (hp2) hv11) (FzTo.tup FzToL.nil) rfl (by simp only [frzL, frz, hz2, Bool.and_true]) (by kernel_rfl)) ?_
 refine io 63 [(0, rf 0 0 1 x4), (1, I a1), (2, .fn g2 c2), (6, I 20), (23, rf 0 0 1 x4), (24, I x2), (25, I a1), (26, .fn g2 c2), (27, .tup [])] [sl 0 v10] ?_
 refine opsP_ren (st' := ⟨63, [(0, rf 0 0 1 v10), (1, I a1), (2, .fn g2 c2), (6, I 20), (23, rf 0 0 1 v10), (24, I x2), (25, I a1), (26, .fn g2 c2), (27, .tup [])], [sl 0 v10]⟩) 0 v10.length (renC (ren_ref (len_slices_insertionSortCmpFunc_impl_Value hv11).symm) (renC trivial (renC trivial (renC trivial (renC (ren_ref (len_slices_insertionSortCmpFunc_impl_Value hv11).symm) (renC trivial (renC trivial (renC trivial (renC trivial renC0))))))))) (by kernel_rfl) ?_
 refine ve 0 63 [(0, rf 0 0 1 v10), (1, I a1), (2, .fn g2 c2), (6, I 20)] [sl 0 v10] ?_
 refine pwp_block ?_
 refine pwp_loop (ι := Nat × Int × (List (List T_impl_Value))) (fun (f15, x13, x14) => (⟨63, [(0, rf 0 0 1 x14), (1, I a1), (2, .fn g2 c2), (6, I x13)], [sl 0 x14]⟩ : St)) (fun (f15, x13, x14) => slices_stableCmpFunc_impl_Value_l1 a1 a2 f15 x13 x14 = some y) Prod.fst (FUEL, 20, v10) h (it [0, 1, 2, 6]) ?_
 rintro ⟨f15, x13, x14⟩ h
 dsimp only at h ⊢
 rcases f15 with _ | f15
 cases h
 rw [slices_stableCmpFunc_impl_Value_l1] at h
 refine pwp_seq ?_
 refine srve 63 [(0, rf 0 0 1 x14), (1, I a1), (2, .fn g2 c2), (6, I x13), (30, B (decide (x13 < a1)))] [sl 0 x14] ?_
 refine pc h (fun h => ?_) (fun h => ?_)
 refine pwp_skip ?_
 refine pwp_block ?_
 refine srve 63 [(0, rf 0 0 1 x14), (1, I a1), (2, .fn g2 c2), (6, I x13), (7, I 0), (8, I (w64 (2 * x13)))] [sl 0 x14] ?_
 refine pwp_seq ?_
 refine pwp_block ?_
 refine pwp_loop (ι := Nat × Int × Int × (List (List T_impl_Value))) (fun (f22, x19, x20, x21) => (⟨63, [(0, rf 0 0 1 x21), (1, I a1), (2, .fn g2 c2), (6, I x13), (7, I x19), (8, I x20)], [sl 0 x21]⟩ : St)) (fun (f22, x19, x20, x21) => slices_stableCmpFunc_impl_Value_l2 a1 a2 x13 (slices_stableCmpFunc_impl_Value_l1 a1 a2 f15) f22 x19 x20 x21 = some y) Prod.fst (FUEL, 0, (w64 (2 * x13)), x14) h (it [0, 1, 2, 6, 7, 8]) ?_
 rintro ⟨f22, x19, x20, x21⟩ h
 dsimp only at h ⊢
 rcases f22 with _ | f22
 cases h
 rw [slices_stableCmpFunc_impl_Value_l2] at h
 refine pwp_seq ?_
 refine srve 63 [(0, rf 0 0 1 x21), (1, I a1), (2, .fn g2 c2), (6, I x13), (7, I x19), (8, I x20), (35, B (decide (x20 ≤ a1)))] [sl 0 x21] ?_
 refine pc h (fun h => ?_) (fun h => ?_)
 refine pwp_skip ?_
 refine pwp_block ?_
 refine srv 7 63 [(0, rf 0 0 1 x21), (1, I a1), (2, .fn g2 c2), (6, I x13), (8, I x20), (36, rf 0 0 1 x21), (37, I x19), (40, I (w64 (x19 + x13))), (41, I x20), (42, .fn g2 c2)] [sl 0 x21] ?_
 obtain ⟨v25, hv26, h⟩ := bindS h
 refine opsP_E (dd := some 43) (x := .tup []) (callS_E τ 43 0 0 (ok_slices_symMergeCmpFunc_impl_Value (hz2) (hp2) hv26) (FzTo.tup FzToL.nil) rfl (by simp only [frzL, frz, hz2, Bool.and_true]) (by kernel_rfl)) ?_
 refine io 63 [(0, rf 0 0 1 x21), (1, I a1), (2, .fn g2 c2), (6, I x13), (8, I x20), (36, rf 0 0 1 x21), (37, I x19), (40, I (w64 (x19 + x13))), (41, I x20), (42, .fn g2 c2), (43, .tup [])] [sl 0 v25] ?_
 refine opsP_ren (st' := ⟨63, [(0, rf 0 0 1 v25), (1, I a1), (2, .fn g2 c2), (6, I x13), (8, I x20), (36, rf 0 0 1 v25), (37, I x19), (40, I (w64 (x19 + x13))), (41, I x20), (42, .fn g2 c2), (43, .tup [])], [sl 0 v25]⟩) 0 v25.length (renC (ren_ref (len_slices_symMergeCmpFunc_impl_Value hv26).symm) (renC trivial (renC trivial (renC trivial (renC trivial (renC (ren_ref (len_slices_symMergeCmpFunc_impl_Value hv26).symm) (renC trivial (renC trivial (renC trivial (renC trivial (renC trivial renC0))))))))))) (by kernel_rfl) ?_
 refine ve 0 63 [(0, rf 0 0 1 v25), (1, I a1), (2, .fn g2 c2), (6, I x13), (8, I x20)] [sl 0 v25] ?_
 refine srve 63 [(0, rf 0 0 1 v25), (1, I a1), (2, .fn g2 c2), (6, I x13), (7, I x20), (8, I x20)] [sl 0 v25] ?_
 refine rve 63 [(0, rf 0 0 1 v25), (1, I a1), (2, .fn g2 c2), (6, I x13), (7, I x20), (8, I (w64 (x20 + (w64 (2 * x13)))))] [sl 0 v25] ?_
 exact ⟨(f22, x20, (w64 (x20 + (w64 (2 * x13)))), v25), h, Nat.lt_succ_self _, it [0, 1, 2, 6, 7, 8]⟩
 refine pwp_exit ?_
 refine pwp_seq ?_
 refine pwp_join (σ := (List (List T_impl_Value))) (fun x27 => (⟨63, [(0, rf 0 0 1 x27), (1, I a1), (2, .fn g2 c2), (6, I x13)], [sl 0 x27]⟩ : St)) (fun x27 => slices_stableCmpFunc_impl_Value_j3 x13 (slices_stableCmpFunc_impl_Value_l1 a1 a2 f15) x27 = some y) ?_ ?_
 refine srve 63 [(0, rf 0 0 1 x21), (1, I a1), (2, .fn g2 c2), (6, I x13), (7, I x19), (9, I (w64 (x19 + x13)))] [sl 0 x21] ?_
 refine srve 63 [(0, rf 0 0 1 x21), (1, I a1), (2, .fn g2 c2), (6, I x13), (7, I x19), (9, I (w64 (x19 + x13))), (54, B (decide ((w64 (x19 + x13)) < a1)))] [sl 0 x21] ?_
 refine pc h (fun h => ?_) (fun h => ?_)
 refine rv 5 63 [(0, rf 0 0 1 x21), (1, I a1), (2, .fn g2 c2), (6, I x13), (55, rf 0 0 1 x21), (56, I x19), (57, I (w64 (x19 + x13))), (58, I a1), (59, .fn g2 c2)] [sl 0 x21] ?_
 obtain ⟨v29, hv30, h⟩ := bindS h
 refine opsP_E (dd := some 60) (x := .tup []) (callS_E τ 60 0 0 (ok_slices_symMergeCmpFunc_impl_Value (hz2) (hp2) hv30) (FzTo.tup FzToL.nil) rfl (by simp only [frzL, frz, hz2, Bool.and_true]) (by kernel_rfl)) ?_
 refine io 63 [(0, rf 0 0 1 x21), (1, I a1), (2, .fn g2 c2), (6, I x13), (55, rf 0 0 1 x21), (56, I x19), (57, I (w64 (x19 + x13))), (58, I a1), (59, .fn g2 c2), (60, .tup [])] [sl 0 v29] ?_
 refine opsP_ren (st' := ⟨63, [(0, rf 0 0 1 v29), (1, I a1), (2, .fn g2 c2), (6, I x13), (55, rf 0 0 1 v29), (56, I x19), (57, I (w64 (x19 + x13))), (58, I a1), (59, .fn g2 c2), (60, .tup [])], [sl 0 v29]⟩) 0 v29.length (renC (ren_ref (len_slices_symMergeCmpFunc_impl_Value hv30).symm) (renC trivial (renC trivial (renC trivial (renC (ren_ref (len_slices_symMergeCmpFunc_impl_Value hv30).symm) (renC trivial (renC trivial (renC trivial (renC trivial (renC trivial renC0)))))))))) (by kernel_rfl) ?_
 refine ve 0 63 [(0, rf 0 0 1 v29), (1, I a1), (2, .fn g2 c2), (6, I x13)] [sl 0 v29] ?_
 exact ⟨v29, h, it [0, 1, 2, 6]⟩
 refine pwp_skip ?_
 exact ⟨x21, h, it [0, 1, 2, 6]⟩
 rintro x27 h
 unfold slices_stableCmpFunc_impl_Value_j3 at h
 refine rve 63 [(0, rf 0 0 1 x27), (1, I a1), (2, .fn g2 c2), (6, I (w64 (x13 * 2)))] [sl 0 x27] ?_
 exact ⟨(f15, (w64 (x13 * 2)), x27), h, Nat.lt_succ_self _, it [0, 1, 2, 6]⟩
 refine pwp_exit ?_
 have h := si h
 subst h
 first | exact ⟨.inl rfl, .tup [], _, 0, by kernel_rfl, (OutP.tup (OutL.nil _)), by decide, by decide, by kernel_rfl⟩ | exact pwp_ret ⟨.inr rfl, .tup [], _, 0, by kernel_rfl, (OutP.tup (OutL.nil _)), by decide, by decide, by kernel_rfl⟩
def spec_DrawTurnedRows_j0 (v3 : (List (List T_impl_Value)) × T_spec_l20Rd) (x7 : List (List T_impl_Value)) (x8 : T_spec_l20Rd) : Option ((List (List T_impl_Value)) × (List (List T_impl_Value))) := some (v3.1, x7)
def spec_DrawTurnedRows (a0 : List UInt8) : Option ((List (List T_impl_Value)) × (List (List T_impl_Value))) := (spec_l20Open a0).bind fun v1 => (spec_l20Twos v1 0).bind fun v3 => (spec_l20Twos v3.2 0).bind fun v5 => (spec_l20Rd_pick v5.2 3).bind fun v9 => bif (v9.1 == 0) then (app ([] : List (List T_impl_Value)) v3.1).bind fun v12 => (spec_l20Rd_pick v9.2 (w64 ((v5.1.length : Int) + 1))).bind fun v14 => (slI v5.1 none (some v14.1) none).bind fun v16 => (app v12 v16).bind fun v18 => spec_DrawTurnedRows_j0 v3 v18 v14.2 else spec_DrawTurnedRows_j0 v3 v5.1 v9.2
theorem ok_spec_DrawTurnedRows {a0 : List UInt8} {y : (List (List T_impl_Value)) × (List (List T_impl_Value))} (h : spec_DrawTurnedRows a0 = some y) : OK Try.prog 21 [A a0] (.tup [A y.1, A y.2]) := by
 refine ow Try.func21 fun Γ hX => ?_
 unfold spec_DrawTurnedRows at h
 refine srve 29 [(0, A a0)] [] ?_
 refine srv 1 29 [(7, A a0)] [] ?_
 obtain ⟨v1, hv2, h⟩ := bindS h
 refine opsP_callO τ 8 (ok_spec_l20Open hv2) rfl (by kernel_rfl) ?_
 refine ve 1 29 [(4, .ptr 0 0 0)] [sc 0 v1] ?_
 refine srv 1 29 [(4, .ptr 0 0 0), (9, .ptr 0 0 0)] [sc 0 v1] ?_
 obtain ⟨v3, hv4, h⟩ := bindS h
 refine cBo 10 0 0 (ok_spec_l20Twos hv4) ?_
 refine ve 1 29 [(4, .ptr 0 0 0), (5, A v3.1)] [sc 0 v3.2] ?_
 refine srv 1 29 [(4, .ptr 0 0 0), (5, A v3.1), (11, .ptr 0 0 0)] [sc 0 v3.2] ?_
 obtain ⟨v5, hv6, h⟩ := bindS h
 refine cBo 12 0 0 (ok_spec_l20Twos hv6) ?_
 refine ve 1 29 [(4, .ptr 0 0 0), (5, A v3.1), (6, A v5.1)] [sc 0 v5.2] ?_
 refine pwp_seq ?_
 refine pwp_join (σ := (List (List T_impl_Value)) × T_spec_l20Rd) (fun (x7, x8) => (⟨29, [(5, A v3.1), (6, A x7)], [sc 0 x8]⟩ : St)) (fun (x7, x8) => spec_DrawTurnedRows_j0 v3 x7 x8 = some y) ?_ ?_
 refine srv 1 29 [(4, .ptr 0 0 0), (5, A v3.1), (6, A v5.1), (13, .ptr 0 0 0)] [sc 0 v5.2] ?_
 obtain ⟨v9, hv10, h⟩ := bindS h
 refine cB 14 0 0 (ok_spec_l20Rd_pick hv10) ?_
 refine ve 1 29 [(4, .ptr 0 0 0), (5, A v3.1), (6, A v5.1), (15, B (v9.1 == 0))] [sc 0 v9.2] ?_
 refine pc h (fun h => ?_) (fun h => ?_)
 refine rv 2 29 [(4, .ptr 0 0 0), (5, A v3.1), (6, A v5.1), (16, .arr 1 0 (eL ([] : List (List T_impl_Value))) true), (17, A v3.1)] [sc 0 v9.2] ?_
 refine opsP_thaw 16 1 (by kernel_rfl) ?_
 obtain ⟨v12, hv13, h⟩ := bindS h
 refine opsP_app τ_ok 18 1 0 (nx hX) hv13 (by kernel_rfl) ?_
 refine v 5 29 [(5, A v3.1), (18, rf 1 1 1 v12), (19, A v5.1), (20, .ptr 0 0 0), (23, I (w64 ((v5.1.length : Int) + 1)))] [sc 0 v9.2, sl 1 v12] ?_
 obtain ⟨v14, hv15, h⟩ := bindS h
 refine cB 24 0 0 (ok_spec_l20Rd_pick hv15) ?_
 obtain ⟨v16, hv17, h⟩ := bindS h
 refine opsP_slc τ_ok 25 hv17 (by kernel_rfl) ?_
 obtain ⟨v18, hv19, h⟩ := bindS h
 refine opsP_app τ_ok 26 1 1 (nx hX) hv19 (by kernel_rfl) ?_
 refine ve 1 29 [(5, A v3.1), (6, rf 1 2 1 v18)] [sc 0 v14.2, sl 2 v18] ?_
 exact ⟨(v18, v14.2), h, qt (it (st' := ⟨29, [(5, A v3.1), (6, rf 1 2 1 v18)], [sc 0 v14.2, sl 2 v18]⟩) [5, 6]) (qt (Imp.freezeB (v := 2) (cs := eL v18) (st' := ⟨29, [(5, A v3.1), (6, A v18)], [sc 0 v14.2, none]⟩) 1 2 (nx hX) (by kernel_rfl) (eL_frz _) (wholeC (whole_noRef (by kernel_rfl)) (wholeC (whole_is (eL_len v18).symm) wholeC0)) (HpRel.frz rfl (Enc.frz _) (HpRel.key HpRel.nil)) (by kernel_rfl) rfl (nx hX)) (Imp.truncS 1 (nx hX) (by kernel_rfl) (allBelow_mem (by exact (And.intro rfl (And.intro rfl trivial)))) (by exact (And.intro (rfl) trivial)) (by kernel_rfl)))⟩
 refine pwp_skip ?_
 exact ⟨(v5.1, v9.2), h, it [5, 6]⟩
 rintro ⟨x7, x8⟩ h
 dsimp only at h ⊢
 unfold spec_DrawTurnedRows_j0 at h
 refine srve 29 [(2, A v3.1), (3, A x7)] [sc 0 x8] ?_
 have h := si h
 subst h
 exact pwp_ret (rt (.tup [A v3.1, A x7]) (OutP.tup (OutL.cons (OutP.frz (by kernel_rfl)) (OutL.cons (OutP.frz (by kernel_rfl)) (OutL.nil _)))))
def spec_TalliesOf_j1 (x1 : Int) (K3 : Int → Option (List T_impl_Tally)) (x5 : Bool) : Option (List T_impl_Tally) := bif x5 then some ([] : List T_impl_Tally) else K3 (w64 (x1 + 1))
def spec_TalliesOf_l2 (a0 : List (List T_impl_Value)) : Nat → (List T_impl_Tally) → Int → Option (List T_impl_Tally)
 | 0, _, _ => none
 | f14 + 1, x12, x13 => bif (decide (x13 < (a0.length : Int))) then (getI a0 x13).bind fun v17 => (getI v17 0).bind fun v19 => (getI a0 x13).bind fun v21 => (getI v21 1).bind fun v23 => (spec_l32Turn x12 v19 v23 1).bind fun v25 => (spec_TalliesOf_l2 a0 f14) v25 (w64 (x13 + 1)) else some x12
def spec_TalliesOf_l0 (a0 : List (List T_impl_Value)) : Nat → Int → Option (List T_impl_Tally)
 | 0, _ => none
 | f2 + 1, x1 => bif (decide (x1 < (a0.length : Int))) then (getI a0 x1).bind fun v7 => (spec_l32Row v7).bind fun v9 => bif (!v9) then spec_TalliesOf_j1 x1 (spec_TalliesOf_l0 a0 f2) true else spec_TalliesOf_j1 x1 (spec_TalliesOf_l0 a0 f2) (decide ((a0.length : Int) > 100)) else spec_TalliesOf_l2 a0 FUEL ([] : List T_impl_Tally) 0
def spec_TalliesOf (a0 : List (List T_impl_Value)) : Option (List T_impl_Tally) := spec_TalliesOf_l0 a0 FUEL 0
theorem ok_spec_TalliesOf {a0 : List (List T_impl_Value)} {y : List T_impl_Tally} (h : spec_TalliesOf a0 = some y) : OK Try.prog 24 [A a0] (A y) := by
 refine ow Try.func24 fun Γ hX => ?_
 unfold spec_TalliesOf at h
 refine srve 46 [(0, A a0)] [] ?_
 refine srve 46 [(0, A a0), (3, .arr 4 0 (eL ([] : List T_impl_Tally)) true)] [] ?_
 refine pwp_seq ?_
 refine srve 46 [(0, A a0), (3, .arr 4 0 (eL ([] : List T_impl_Tally)) true), (4, I 0)] [] ?_
 refine pwp_block ?_
 refine pwp_loop (ι := Nat × Int) (fun (f2, x1) => (⟨46, [(0, A a0), (3, .arr 4 0 (eL ([] : List T_impl_Tally)) true), (4, I x1)], []⟩ : St)) (fun (f2, x1) => spec_TalliesOf_l0 a0 f2 x1 = some y) Prod.fst (FUEL, 0) h (it [0, 3, 4]) ?_
 rintro ⟨f2, x1⟩ h
 dsimp only at h ⊢
 rcases f2 with _ | f2
 cases h
 rw [spec_TalliesOf_l0] at h
 refine pwp_seq ?_
 refine srve 46 [(0, A a0), (3, .arr 4 0 (eL ([] : List T_impl_Tally)) true), (4, I x1), (10, B (decide (x1 < (a0.length : Int))))] [] ?_
 refine pc h (fun h => ?_) (fun h => ?_)
 refine pwp_skip ?_
 refine pwp_seq ?_
 refine pwp_block ?_
 refine pwp_seq ?_
 refine pwp_join (σ := Bool) (fun x5 => (⟨46, [(0, A a0), (3, .arr 4 0 (eL ([] : List T_impl_Tally)) true), (4, I x1), (23, B x5)], []⟩ : St)) (fun x5 => spec_TalliesOf_j1 x1 (spec_TalliesOf_l0 a0 f2) x5 = some y) ?_ ?_
 refine rv 2 46 [(0, A a0), (3, .arr 4 0 (eL ([] : List T_impl_Tally)) true), (4, I x1), (13, A a0), (14, I x1)] [] ?_
 obtain ⟨v7, hv8, h⟩ := bindS h
 refine opsP_idx τ_ok 15 hv8 (by kernel_rfl) ?_
 refine v 1 46 [(0, A a0), (3, .arr 4 0 (eL ([] : List T_impl_Tally)) true), (4, I x1), (16, A v7)] [] ?_
 obtain ⟨v9, hv10, h⟩ := bindS h
 refine cF 17 (ok_spec_l32Row hv10) ?_
 refine v 2 46 [(0, A a0), (3, .arr 4 0 (eL ([] : List T_impl_Tally)) true), (4, I x1), (19, B (!v9))] [] ?_
 rcases fk (!v9) with hc11 | hc11
 replace h := bT hc11 h
 rw [hc11]
 refine ve 4 46 [(0, A a0), (3, .arr 4 0 (eL ([] : List T_impl_Tally)) true), (4, I x1), (20, .lit undef), (21, .lit undef), (22, .lit undef), (23, B true)] [] ?_
 exact ⟨true, h, it [0, 3, 4, 23]⟩
 replace h := bF hc11 h
 rw [hc11]
 refine ve 4 46 [(0, A a0), (3, .arr 4 0 (eL ([] : List T_impl_Tally)) true), (4, I x1), (20, A a0), (21, I (a0.length : Int)), (22, B (decide ((a0.length : Int) > 100))), (23, B (decide ((a0.length : Int) > 100)))] [] ?_
 exact ⟨(decide ((a0.length : Int) > 100)), h, it [0, 3, 4, 23]⟩
 rintro x5 h
 unfold spec_TalliesOf_j1 at h
 refine pc h (fun h => ?_) (fun h => ?_)
 refine srve 46 [(2, .arr 4 0 (eL ([] : List T_impl_Tally)) true)] [] ?_
 refine ip 46 [(2, .arr 4 0 (eL ([] : List T_impl_Tally)) true)] [] ?_
 refine pwp_imp (Imp.unfS (st' := ⟨46, [(2, A ([] : List T_impl_Tally))], []⟩) 2 [2] (by kernel_rfl)) ?_
 cases h
 exact pwp_ret rz
 refine pwp_skip ?_
 refine rve 46 [(0, A a0), (3, .arr 4 0 (eL ([] : List T_impl_Tally)) true), (4, I (w64 (x1 + 1)))] [] ?_
 exact ⟨(f2, (w64 (x1 + 1))), h, Nat.lt_succ_self _, it [0, 3, 4]⟩
 refine pwp_exit ?_
 refine pwp_seq ?_
 refine srve 46 [(0, A a0), (3, .arr 4 0 (eL ([] : List T_impl_Tally)) true), (5, I 0)] [] ?_
 refine pwp_block ?_
 refine pwp_loop (ι := Nat × (List T_impl_Tally) × Int) (fun (f14, x12, x13) => (⟨46, [(0, A a0), (3, A x12), (5, I x13)], []⟩ : St)) (fun (f14, x12, x13) => spec_TalliesOf_l2 a0 f14 x12 x13 = some y) Prod.fst (FUEL, ([] : List T_impl_Tally), 0) h (Imp.unfS 3 [0, 3, 5] (by kernel_rfl)) ?_
 rintro ⟨f14, x12, x13⟩ h
 dsimp only at h ⊢
 rcases f14 with _ | f14
 cases h
 rw [spec_TalliesOf_l2] at h
 refine pwp_seq ?_
 refine srve 46 [(0, A a0), (3, A x12), (5, I x13), (28, B (decide (x13 < (a0.length : Int))))] [] ?_
 refine pc h (fun h => ?_) (fun h => ?_)
 refine pwp_skip ?_
 refine pwp_seq ?_
 refine pwp_block ?_
 refine ip 46 [(0, A a0), (3, A x12), (5, I x13)] [] ?_
 refine pN 15 ?_
 refine qv [] trivial 3 46 [(33, I x13), (32, A a0), (31, A x12), (0, A a0), (3, A x12), (5, I x13)] [] ?_
 obtain ⟨v17, hv18, h⟩ := bindS h
 refine qX (some 34) (pf v17 0) 46 [(34, pf v17 0), (31, A x12), (0, A a0), (3, A x12), (5, I x13)] [] (fun Γ' hΓ => CoreE.of_y (idxV_sound τ_ok (by kernel_rfl) hv18)) trivial ?_
 refine qv [] trivial 1 46 [(35, A v17), (31, A x12), (0, A a0), (3, A x12), (5, I x13)] [] ?_
 obtain ⟨v19, hv20, h⟩ := bindS h
 refine qX (some 36) (pf v19 0) 46 [(36, pf v19 0), (31, A x12), (0, A a0), (3, A x12), (5, I x13)] [] (fun Γ' hΓ => CoreE.of_y (idxV_sound τ_ok (by kernel_rfl) hv20)) trivial ?_
 refine qv [] trivial 3 46 [(39, I x13), (38, A a0), (37, E v19), (31, A x12), (0, A a0), (3, A x12), (5, I x13)] [] ?_
 obtain ⟨v21, hv22, h⟩ := bindS h
 refine qX (some 40) (pf v21 0) 46 [(40, pf v21 0), (37, E v19), (31, A x12), (0, A a0), (3, A x12), (5, I x13)] [] (fun Γ' hΓ => CoreE.of_y (idxV_sound τ_ok (by kernel_rfl) hv22)) trivial ?_
 refine qv [] trivial 1 46 [(41, A v21), (37, E v19), (31, A x12), (0, A a0), (3, A x12), (5, I x13)] [] ?_
 obtain ⟨v23, hv24, h⟩ := bindS h
 refine qX (some 42) (pf v23 0) 46 [(42, pf v23 0), (37, E v19), (31, A x12), (0, A a0), (3, A x12), (5, I x13)] [] (fun Γ' hΓ => CoreE.of_y (idxV_sound τ_ok (by kernel_rfl) hv24)) trivial ?_
 refine qv [] trivial 1 46 [(43, E v23), (37, E v19), (31, A x12), (0, A a0), (3, A x12), (5, I x13)] [] ?_
 obtain ⟨v25, hv26, h⟩ := bindS h
 refine qX (some 44) (A v25) 46 [(44, A v25), (0, A a0), (3, A x12), (5, I x13)] [] (fun Γ' hΓ => CoreE.of_g (callV_sound (τ := τ) (by kernel_rfl) rfl (ok_spec_l32Turn hv26) (FzTo.O _))) trivial ?_
 refine qvn [] trivial 1 46 [(0, A a0), (3, A v25), (5, I x13)] [] ?_
 refine rve 46 [(0, A a0), (3, A v25), (5, I (w64 (x13 + 1)))] [] ?_
 exact ⟨(f14, v25, (w64 (x13 + 1))), h, Nat.lt_succ_self _, it [0, 3, 5]⟩
 refine pwp_exit ?_
 refine srve 46 [(2, A x12)] [] ?_
 cases h
 exact pwp_ret rz
def impl_allOk (a0 : List (List T_impl_Value)) : Option Bool := (slices_ContainsFunc_impl_Value_impl_Value_s3 a0 impl_allOk_1).bind fun v1 => some (!v1)
theorem ok_impl_allOk {a0 : List (List T_impl_Value)} {y : Bool} (h : impl_allOk a0 = some y) : OK Try.prog 47 [A a0] (B y) := by
 refine ow Try.func47 fun Γ hX => ?_
 unfold impl_allOk at h
 refine srve 6 [(0, A a0)] [] ?_
 refine srv 1 6 [(3, A a0)] [] ?_
 obtain ⟨v1, hv2, h⟩ := bindS h
 refine cF 4 (ok_slices_ContainsFunc_impl_Value_impl_Value_s3 (rfl) (fun _ w hw => ok_impl_allOk_1 hw) hv2) ?_
 refine ve 2 6 [(2, B (!v1))] [] ?_
 cases h
 exact pwp_ret rz
def impl_TalliesOf_1 (a0 : List T_impl_Value) : Option Bool := (impl_counted a0).bind fun v1 => some (!v1)
theorem ok_impl_TalliesOf_1 {a0 : List T_impl_Value} {y : Bool} (h : impl_TalliesOf_1 a0 = some y) : OK Try.prog 68 [A a0] (B y) := by
 refine ow Try.func68 fun Γ hX => ?_
 unfold impl_TalliesOf_1 at h
 refine srve 6 [(0, A a0)] [] ?_
 refine srv 1 6 [(3, A a0)] [] ?_
 obtain ⟨v1, hv2, h⟩ := bindS h
 refine cF 4 (ok_impl_counted hv2) ?_
 refine ve 2 6 [(2, B (!v1))] [] ?_
 cases h
 exact pwp_ret rz
def impl_tell_j1 (a2 : Int) (v3 : Int × Bool) (x5 : List T_impl_Tally) (v6 : T_impl_Tally) (v11 : T_impl_Value) (x13 : Bool) : Option (List T_impl_Tally) := bif x13 then (delT (((x5.set v3.1.toNat ({ v6 with fRows := (w64 (v6.fRows + a2)) } : T_impl_Tally)).set v3.1.toNat ({ ({ v6 with fRows := (w64 (v6.fRows + a2)) } : T_impl_Tally) with fMany := (w64 ((({ v6 with fRows := (w64 (v6.fRows + a2)) } : T_impl_Tally).fMany) + a2)) } : T_impl_Tally)).set v3.1.toNat ({ ({ ({ v6 with fRows := (w64 (v6.fRows + a2)) } : T_impl_Tally) with fMany := (w64 ((({ v6 with fRows := (w64 (v6.fRows + a2)) } : T_impl_Tally).fMany) + a2)) } : T_impl_Tally) with fSum := (w64 ((({ ({ v6 with fRows := (w64 (v6.fRows + a2)) } : T_impl_Tally) with fMany := (w64 ((({ v6 with fRows := (w64 (v6.fRows + a2)) } : T_impl_Tally).fMany) + a2)) } : T_impl_Tally).fSum) + (w64 (a2 * v11.fN)))) } : T_impl_Tally)) v3.1 (w64 (v3.1 + 1))).bind fun v15 => some v15 else some (((x5.set v3.1.toNat ({ v6 with fRows := (w64 (v6.fRows + a2)) } : T_impl_Tally)).set v3.1.toNat ({ ({ v6 with fRows := (w64 (v6.fRows + a2)) } : T_impl_Tally) with fMany := (w64 ((({ v6 with fRows := (w64 (v6.fRows + a2)) } : T_impl_Tally).fMany) + a2)) } : T_impl_Tally)).set v3.1.toNat ({ ({ ({ v6 with fRows := (w64 (v6.fRows + a2)) } : T_impl_Tally) with fMany := (w64 ((({ v6 with fRows := (w64 (v6.fRows + a2)) } : T_impl_Tally).fMany) + a2)) } : T_impl_Tally) with fSum := (w64 ((({ ({ v6 with fRows := (w64 (v6.fRows + a2)) } : T_impl_Tally) with fMany := (w64 ((({ v6 with fRows := (w64 (v6.fRows + a2)) } : T_impl_Tally).fMany) + a2)) } : T_impl_Tally).fSum) + (w64 (a2 * v11.fN)))) } : T_impl_Tally))
def impl_tell_j2 (a2 : Int) (v3 : Int × Bool) (x5 : List T_impl_Tally) (v6 : T_impl_Tally) (x19 : Bool) : Option (List T_impl_Tally) := bif x19 then (delT (x5.set v3.1.toNat ({ v6 with fRows := (w64 (v6.fRows + a2)) } : T_impl_Tally)) v3.1 (w64 (v3.1 + 1))).bind fun v21 => some v21 else some (x5.set v3.1.toNat ({ v6 with fRows := (w64 (v6.fRows + a2)) } : T_impl_Tally))
def impl_tell_j0 (a1 : List T_impl_Value) (a2 : Int) (v3 : Int × Bool) (x5 : List T_impl_Tally) : Option (List T_impl_Tally) := (getI x5 v3.1).bind fun v6 => (getI a1 1).bind fun v8 => bif (v8.fKind == 1) then (getI a1 1).bind fun v11 => bif ((({ ({ ({ v6 with fRows := (w64 (v6.fRows + a2)) } : T_impl_Tally) with fMany := (w64 ((({ v6 with fRows := (w64 (v6.fRows + a2)) } : T_impl_Tally).fMany) + a2)) } : T_impl_Tally) with fSum := (w64 ((({ ({ v6 with fRows := (w64 (v6.fRows + a2)) } : T_impl_Tally) with fMany := (w64 ((({ v6 with fRows := (w64 (v6.fRows + a2)) } : T_impl_Tally).fMany) + a2)) } : T_impl_Tally).fSum) + (w64 (a2 * v11.fN)))) } : T_impl_Tally).fRows) == 0) then bif ((({ ({ ({ v6 with fRows := (w64 (v6.fRows + a2)) } : T_impl_Tally) with fMany := (w64 ((({ v6 with fRows := (w64 (v6.fRows + a2)) } : T_impl_Tally).fMany) + a2)) } : T_impl_Tally) with fSum := (w64 ((({ ({ v6 with fRows := (w64 (v6.fRows + a2)) } : T_impl_Tally) with fMany := (w64 ((({ v6 with fRows := (w64 (v6.fRows + a2)) } : T_impl_Tally).fMany) + a2)) } : T_impl_Tally).fSum) + (w64 (a2 * v11.fN)))) } : T_impl_Tally).fMany) == 0) then impl_tell_j1 a2 v3 x5 v6 v11 ((({ ({ ({ v6 with fRows := (w64 (v6.fRows + a2)) } : T_impl_Tally) with fMany := (w64 ((({ v6 with fRows := (w64 (v6.fRows + a2)) } : T_impl_Tally).fMany) + a2)) } : T_impl_Tally) with fSum := (w64 ((({ ({ v6 with fRows := (w64 (v6.fRows + a2)) } : T_impl_Tally) with fMany := (w64 ((({ v6 with fRows := (w64 (v6.fRows + a2)) } : T_impl_Tally).fMany) + a2)) } : T_impl_Tally).fSum) + (w64 (a2 * v11.fN)))) } : T_impl_Tally).fSum) == 0) else impl_tell_j1 a2 v3 x5 v6 v11 false else impl_tell_j1 a2 v3 x5 v6 v11 false else bif ((({ v6 with fRows := (w64 (v6.fRows + a2)) } : T_impl_Tally).fRows) == 0) then bif ((({ v6 with fRows := (w64 (v6.fRows + a2)) } : T_impl_Tally).fMany) == 0) then impl_tell_j2 a2 v3 x5 v6 ((({ v6 with fRows := (w64 (v6.fRows + a2)) } : T_impl_Tally).fSum) == 0) else impl_tell_j2 a2 v3 x5 v6 false else impl_tell_j2 a2 v3 x5 v6 false
def impl_tell (a0 : List T_impl_Tally) (a1 : List T_impl_Value) (a2 : Int) : Option (List T_impl_Tally) := (slI a1 none (some 1) none).bind fun v1 => (slices_BinarySearchFunc_impl_Tally_impl_Tally_impl_Value_s2 a0 v1 impl_tell_1).bind fun v3 => bif (!v3.2) then (slI a1 none (some 1) none).bind fun v26 => (impl_clone_impl_Value v26).bind fun v28 => (insT a0 v3.1 ([(T_impl_Tally.mk v28 0 0 0)] : List T_impl_Tally)).bind fun v30 => impl_tell_j0 a1 a2 v3 v30 else impl_tell_j0 a1 a2 v3 a0
theorem ok_impl_tell {a0 : List T_impl_Tally} {a1 : List T_impl_Value} {a2 : Int} {y : List T_impl_Tally} (h : impl_tell a0 a1 a2 = some y) : OKm Try.prog 70 [O a0, A a1, I a2] (O y) := by
 refine OKm_of_pwp (sl := [rf 0 0 4 a0, A a1, I a2]) (bs := [⟨0, eL a0⟩]) τ_ok Try.func70 rfl (by kernel_rfl) rfl (by kernel_rfl) fun Γ hX => ?_
 refine pwp_imp (Imp.to (st' := ⟨89, [(0, rf 0 0 4 a0), (1, A a1), (2, I a2)], [sl 0 a0]⟩) [0, 1, 2] (by kernel_rfl)) ?_
 unfold impl_tell at h
 refine srve 89 [(0, rf 0 0 4 a0), (1, A a1), (2, I a2)] [sl 0 a0] ?_
 refine srv 2 89 [(0, rf 0 0 4 a0), (1, A a1), (2, I a2), (11, rf 0 0 4 a0), (12, A a1)] [sl 0 a0] ?_
 obtain ⟨v1, hv2, h⟩ := bindS h
 refine opsP_slc τ_ok 13 hv2 (by kernel_rfl) ?_
 obtain ⟨v3, hv4, h⟩ := bindS h
 refine opsP_callV (xs := [rf 0 0 4 a0, A v1, .fn 123 []]) τ 14 (ok_slices_BinarySearchFunc_impl_Tally_impl_Tally_impl_Value_s2 (rfl) (fun _ _ w hw => ok_impl_tell_1 hw) hv4) (Blind.tup (BlindL.cons (Blind.lit _) (BlindL.cons (Blind.lit _) BlindL.nil))) (FzTo.tup (FzToL.cons (FzTo.frz rfl) (FzToL.cons (FzTo.frz rfl) FzToL.nil))) (by kernel_rfl) (ViewL.cons (View.whole (v := 0) a0 (by kernel_rfl) rfl) (ViewL.cons (View.frz rfl) (ViewL.cons (View.frz rfl) (ViewL.nil _)))) ?_
 refine ve 5 89 [(0, rf 0 0 4 a0), (1, A a1), (2, I a2), (7, I v3.1), (8, B v3.2)] [sl 0 a0] ?_
 refine pwp_seq ?_
 refine pwp_join (σ := (List T_impl_Tally)) (fun x5 => (⟨89, [(0, rf 0 0 4 x5), (1, A a1), (2, I a2), (7, I v3.1)], [sl 0 x5]⟩ : St)) (fun x5 => impl_tell_j0 a1 a2 v3 x5 = some y) ?_ ?_
 refine srve 89 [(0, rf 0 0 4 a0), (1, A a1), (2, I a2), (7, I v3.1), (18, B (!v3.2))] [sl 0 a0] ?_
 refine pc h (fun h => ?_) (fun h => ?_)
 refine rv 3 89 [(1, A a1), (2, I a2), (7, I v3.1), (19, rf 0 0 4 a0), (20, I v3.1), (21, A a1)] [sl 0 a0] ?_
 obtain ⟨v26, hv27, h⟩ := bindS h
 refine opsP_slc τ_ok 22 hv27 (by kernel_rfl) ?_
 obtain ⟨v28, hv29, h⟩ := bindS h
 refine cF 23 (ok_impl_clone_impl_Value hv29) ?_
 refine v 1 89 [(1, A a1), (2, I a2), (7, I v3.1), (19, rf 0 0 4 a0), (20, I v3.1), (24, E (T_impl_Tally.mk v28 0 0 0))] [sl 0 a0] ?_
 refine opsP_E (dd := some 25) (x := .ref 1 0 0 4 ([(T_impl_Tally.mk v28 0 0 0)] : List T_impl_Tally).length false) (bsl_N (cells := eL ([(T_impl_Tally.mk v28 0 0 0)] : List T_impl_Tally)) τ_ok 25 1 (nx hX) (by kernel_rfl) (by kernel_rfl)) ?_
 obtain ⟨v30, hv31, h⟩ := bindS h
 refine opsP_callM (xs := [rf 0 0 4 a0, I v3.1, .ref 1 0 0 4 ([(T_impl_Tally.mk v28 0 0 0)] : List T_impl_Tally).length false]) (x := rf 2 0 4 v30) (bs := [⟨0, eL v30⟩]) τ 26 [0, 1] (nx hX) (ok_insT hv31) (by kernel_rfl) (OutL.cons (OutP.list (v := 0) (by kernel_rfl)) (OutL.cons (OutP.frz rfl) (OutL.cons (OutP.list (v := 0) (by kernel_rfl)) (OutL.nil _)))) (by decide) (by kernel_rfl) ?_
 refine ve 1 89 [(0, rf 2 0 4 v30), (1, A a1), (2, I a2), (7, I v3.1)] [none, none, sl 0 v30] ?_
 exact ⟨v30, h, qt (it (st' := ⟨89, [(0, rf 2 0 4 v30), (1, A a1), (2, I a2), (7, I v3.1)], [none, none, sl 0 v30]⟩) [0, 1, 2, 7]) (qt (Imp.mvS (st' := ⟨89, [(0, rf 0 0 4 v30), (1, A a1), (2, I a2), (7, I v3.1)], [sl 0 v30, none, none]⟩) 2 0 [0, 1, 2, 7] (nx hX) (v := 0) (cs := eL v30) (by kernel_rfl) (by kernel_rfl) (by exact (And.intro (eL_frz _) trivial)) (by kernel_rfl) (by kernel_rfl)) (Imp.truncS 1 (nx hX) (by kernel_rfl) (allBelow_mem (by exact (And.intro rfl (And.intro rfl (And.intro rfl (And.intro rfl trivial)))))) (by exact (And.intro (frz_below (eL_frz _)) trivial)) (by kernel_rfl)))⟩
 refine pwp_skip ?_
 exact ⟨a0, h, it [0, 1, 2, 7]⟩
 rintro x5 h
 unfold impl_tell_j0 at h
 refine srv 2 89 [(0, rf 0 0 4 x5), (1, A a1), (2, I a2), (7, I v3.1), (27, rf 0 0 4 x5), (28, I v3.1)] [sl 0 x5] ?_
 obtain ⟨v6, hv7, h⟩ := bindS h
 refine opsP_idr τ_ok 29 0 0 x5.length hv7 rfl (by kernel_rfl) ?_
 refine ve 1 89 [(0, rf 0 0 4 x5), (1, A a1), (2, I a2), (7, I v3.1), (9, .ptr 0 0 (v3.1.toNat * 4))] [sl 0 x5] ?_
 refine srv 3 89 [(0, rf 0 0 4 x5), (1, A a1), (2, I a2), (7, I v3.1), (9, .ptr 0 0 (v3.1.toNat * 4)), (30, .ptr 0 0 (v3.1.toNat * 4)), (32, .ptr 0 0 (v3.1.toNat * 4 + 1))] [sl 0 x5] ?_
 refine opsP_lde (r := I v6.fRows) τ_ok 33 3 1 hv7 (by kernel_rfl) (by kernel_rfl) ?_
 refine v 4 89 [(0, rf 0 0 4 x5), (1, A a1), (2, I a2), (7, I v3.1), (9, .ptr 0 0 (v3.1.toNat * 4)), (35, I (w64 (v6.fRows + a2))), (37, .ptr 0 0 (v3.1.toNat * 4 + 1))] [sl 0 x5] ?_
 refine opsP_ste (vs := [I (w64 (v6.fRows + a2))]) τ_ok 3 0 0 1 ({ v6 with fRows := (w64 (v6.fRows + a2)) } : T_impl_Tally) hv7 (by kernel_rfl) (by kernel_rfl) (by kernel_rfl) (renC (ren_ref (List.length_set ..).symm) (renC trivial (renC trivial (renC trivial (renC trivial (renC trivial (renC trivial renC0))))))) ?_
 refine ve 0 89 [(0, .ref 0 0 0 4 (x5.set v3.1.toNat ({ v6 with fRows := (w64 (v6.fRows + a2)) } : T_impl_Tally)).length false), (1, A a1), (2, I a2), (7, I v3.1), (9, .ptr 0 0 (v3.1.toNat * 4))] [some ⟨0, eL (x5.set v3.1.toNat ({ v6 with fRows := (w64 (v6.fRows + a2)) } : T_impl_Tally))⟩] ?_
 refine pwp_seq ?_
 refine srv 1 89 [(0, .ref 0 0 0 4 (x5.set v3.1.toNat ({ v6 with fRows := (w64 (v6.fRows + a2)) } : T_impl_Tally)).length false), (1, A a1), (2, I a2), (7, I v3.1), (9, .ptr 0 0 (v3.1.toNat * 4)), (38, A a1)] [some ⟨0, eL (x5.set v3.1.toNat ({ v6 with fRows := (w64 (v6.fRows + a2)) } : T_impl_Tally))⟩] ?_
 obtain ⟨v8, hv9, h⟩ := bindS h
 refine opsP_idx τ_ok 39 hv9 (by kernel_rfl) ?_
 refine ve 3 89 [(0, .ref 0 0 0 4 (x5.set v3.1.toNat ({ v6 with fRows := (w64 (v6.fRows + a2)) } : T_impl_Tally)).length false), (1, A a1), (2, I a2), (7, I v3.1), (9, .ptr 0 0 (v3.1.toNat * 4)), (42, B (v8.fKind == 1))] [some ⟨0, eL (x5.set v3.1.toNat ({ v6 with fRows := (w64 (v6.fRows + a2)) } : T_impl_Tally))⟩] ?_
 refine pc h (fun h => ?_) (fun h => ?_)
 refine srv 3 89 [(0, .ref 0 0 0 4 (x5.set v3.1.toNat ({ v6 with fRows := (w64 (v6.fRows + a2)) } : T_impl_Tally)).length false), (1, A a1), (2, I a2), (7, I v3.1), (9, .ptr 0 0 (v3.1.toNat * 4)), (43, .ptr 0 0 (v3.1.toNat * 4)), (45, .ptr 0 0 (v3.1.toNat * 4 + 2))] [some ⟨0, eL (x5.set v3.1.toNat ({ v6 with fRows := (w64 (v6.fRows + a2)) } : T_impl_Tally))⟩] ?_
 refine opsP_lde (r := I (({ v6 with fRows := (w64 (v6.fRows + a2)) } : T_impl_Tally).fMany)) τ_ok 46 3 2 (getI_set (y := ({ v6 with fRows := (w64 (v6.fRows + a2)) } : T_impl_Tally)) hv7) (by kernel_rfl) (by kernel_rfl) ?_
 refine v 4 89 [(0, .ref 0 0 0 4 (x5.set v3.1.toNat ({ v6 with fRows := (w64 (v6.fRows + a2)) } : T_impl_Tally)).length false), (1, A a1), (2, I a2), (7, I v3.1), (9, .ptr 0 0 (v3.1.toNat * 4)), (48, I (w64 ((({ v6 with fRows := (w64 (v6.fRows + a2)) } : T_impl_Tally).fMany) + a2))), (50, .ptr 0 0 (v3.1.toNat * 4 + 2))] [some ⟨0, eL (x5.set v3.1.toNat ({ v6 with fRows := (w64 (v6.fRows + a2)) } : T_impl_Tally))⟩] ?_
 refine opsP_ste (vs := [I (w64 ((({ v6 with fRows := (w64 (v6.fRows + a2)) } : T_impl_Tally).fMany) + a2))]) τ_ok 3 0 0 2 ({ ({ v6 with fRows := (w64 (v6.fRows + a2)) } : T_impl_Tally) with fMany := (w64 ((({ v6 with fRows := (w64 (v6.fRows + a2)) } : T_impl_Tally).fMany) + a2)) } : T_impl_Tally) (getI_set (y := ({ v6 with fRows := (w64 (v6.fRows + a2)) } : T_impl_Tally)) hv7) (by kernel_rfl) (by kernel_rfl) (by kernel_rfl) (renC (ren_ref (List.length_set ..).symm) (renC trivial (renC trivial (renC trivial (renC trivial (renC trivial (renC trivial renC0))))))) ?_
 refine ve 0 89 [(0, .ref 0 0 0 4 ((x5.set v3.1.toNat ({ v6 with fRows := (w64 (v6.fRows + a2)) } : T_impl_Tally)).set v3.1.toNat ({ ({ v6 with fRows := (w64 (v6.fRows + a2)) } : T_impl_Tally) with fMany := (w64 ((({ v6 with fRows := (w64 (v6.fRows + a2)) } : T_impl_Tally).fMany) + a2)) } : T_impl_Tally)).length false), (1, A a1), (2, I a2), (7, I v3.1), (9, .ptr 0 0 (v3.1.toNat * 4))] [some ⟨0, eL ((x5.set v3.1.toNat ({ v6 with fRows := (w64 (v6.fRows + a2)) } : T_impl_Tally)).set v3.1.toNat ({ ({ v6 with fRows := (w64 (v6.fRows + a2)) } : T_impl_Tally) with fMany := (w64 ((({ v6 with fRows := (w64 (v6.fRows + a2)) } : T_impl_Tally).fMany) + a2)) } : T_impl_Tally))⟩] ?_
 refine ip 89 [(0, .ref 0 0 0 4 ((x5.set v3.1.toNat ({ v6 with fRows := (w64 (v6.fRows + a2)) } : T_impl_Tally)).set v3.1.toNat ({ ({ v6 with fRows := (w64 (v6.fRows + a2)) } : T_impl_Tally) with fMany := (w64 ((({ v6 with fRows := (w64 (v6.fRows + a2)) } : T_impl_Tally).fMany) + a2)) } : T_impl_Tally)).length false), (1, A a1), (2, I a2), (7, I v3.1), (9, .ptr 0 0 (v3.1.toNat * 4))] [some ⟨0, eL ((x5.set v3.1.toNat ({ v6 with fRows := (w64 (v6.fRows + a2)) } : T_impl_Tally)).set v3.1.toNat ({ ({ v6 with fRows := (w64 (v6.fRows + a2)) } : T_impl_Tally) with fMany := (w64 ((({ v6 with fRows := (w64 (v6.fRows + a2)) } : T_impl_Tally).fMany) + a2)) } : T_impl_Tally))⟩] ?_
 refine pwp_any ([[0], [0], [0], [0], [], [], [], [], [], [], [], [0], [0], [0]]) ([[], [], [], [], [], [], [], [], [], [], [], [], [], [0]]) rfl (by kernel_rfl) ?_
 refine qv [0] (hL trivial) 3 89 [(53, .ptr 0 0 (v3.1.toNat * 4 + 3)), (51, .ptr 0 0 (v3.1.toNat * 4)), (0, .ref 0 0 0 4 ((x5.set v3.1.toNat ({ v6 with fRows := (w64 (v6.fRows + a2)) } : T_impl_Tally)).set v3.1.toNat ({ ({ v6 with fRows := (w64 (v6.fRows + a2)) } : T_impl_Tally) with fMany := (w64 ((({ v6 with fRows := (w64 (v6.fRows + a2)) } : T_impl_Tally).fMany) + a2)) } : T_impl_Tally)).length false), (1, A a1), (2, I a2), (7, I v3.1), (9, .ptr 0 0 (v3.1.toNat * 4))] [some ⟨0, eL ((x5.set v3.1.toNat ({ v6 with fRows := (w64 (v6.fRows + a2)) } : T_impl_Tally)).set v3.1.toNat ({ ({ v6 with fRows := (w64 (v6.fRows + a2)) } : T_impl_Tally) with fMany := (w64 ((({ v6 with fRows := (w64 (v6.fRows + a2)) } : T_impl_Tally).fMany) + a2)) } : T_impl_Tally))⟩] ?_
 refine qX (some 54) (I (({ ({ v6 with fRows := (w64 (v6.fRows + a2)) } : T_impl_Tally) with fMany := (w64 ((({ v6 with fRows := (w64 (v6.fRows + a2)) } : T_impl_Tally).fMany) + a2)) } : T_impl_Tally).fSum)) 89 [(54, I (({ ({ v6 with fRows := (w64 (v6.fRows + a2)) } : T_impl_Tally) with fMany := (w64 ((({ v6 with fRows := (w64 (v6.fRows + a2)) } : T_impl_Tally).fMany) + a2)) } : T_impl_Tally).fSum)), (51, .ptr 0 0 (v3.1.toNat * 4)), (0, .ref 0 0 0 4 ((x5.set v3.1.toNat ({ v6 with fRows := (w64 (v6.fRows + a2)) } : T_impl_Tally)).set v3.1.toNat ({ ({ v6 with fRows := (w64 (v6.fRows + a2)) } : T_impl_Tally) with fMany := (w64 ((({ v6 with fRows := (w64 (v6.fRows + a2)) } : T_impl_Tally).fMany) + a2)) } : T_impl_Tally)).length false), (1, A a1), (2, I a2), (7, I v3.1), (9, .ptr 0 0 (v3.1.toNat * 4))] [some ⟨0, eL ((x5.set v3.1.toNat ({ v6 with fRows := (w64 (v6.fRows + a2)) } : T_impl_Tally)).set v3.1.toNat ({ ({ v6 with fRows := (w64 (v6.fRows + a2)) } : T_impl_Tally) with fMany := (w64 ((({ v6 with fRows := (w64 (v6.fRows + a2)) } : T_impl_Tally).fMany) + a2)) } : T_impl_Tally))⟩] (fun Γ' hΓ => CoreE.of_y (ldeV_sound (t := 3) (o' := 3) (r := I (({ ({ v6 with fRows := (w64 (v6.fRows + a2)) } : T_impl_Tally) with fMany := (w64 ((({ v6 with fRows := (w64 (v6.fRows + a2)) } : T_impl_Tally).fMany) + a2)) } : T_impl_Tally).fSum)) τ_ok (getI_set (y := ({ ({ v6 with fRows := (w64 (v6.fRows + a2)) } : T_impl_Tally) with fMany := (w64 ((({ v6 with fRows := (w64 (v6.fRows + a2)) } : T_impl_Tally).fMany) + a2)) } : T_impl_Tally)) (getI_set (y := ({ v6 with fRows := (w64 (v6.fRows + a2)) } : T_impl_Tally)) hv7)) (by kernel_rfl) (by kernel_rfl))) (hL trivial) ?_
 refine qv [] trivial 2 89 [(56, A a1), (55, I a2), (54, I (({ ({ v6 with fRows := (w64 (v6.fRows + a2)) } : T_impl_Tally) with fMany := (w64 ((({ v6 with fRows := (w64 (v6.fRows + a2)) } : T_impl_Tally).fMany) + a2)) } : T_impl_Tally).fSum)), (51, .ptr 0 0 (v3.1.toNat * 4)), (0, .ref 0 0 0 4 ((x5.set v3.1.toNat ({ v6 with fRows := (w64 (v6.fRows + a2)) } : T_impl_Tally)).set v3.1.toNat ({ ({ v6 with fRows := (w64 (v6.fRows + a2)) } : T_impl_Tally) with fMany := (w64 ((({ v6 with fRows := (w64 (v6.fRows + a2)) } : T_impl_Tally).fMany) + a2)) } : T_impl_Tally)).length false), (7, I v3.1), (9, .ptr 0 0 (v3.1.toNat * 4))] [some ⟨0, eL ((x5.set v3.1.toNat ({ v6 with fRows := (w64 (v6.fRows + a2)) } : T_impl_Tally)).set v3.1.toNat ({ ({ v6 with fRows := (w64 (v6.fRows + a2)) } : T_impl_Tally) with fMany := (w64 ((({ v6 with fRows := (w64 (v6.fRows + a2)) } : T_impl_Tally).fMany) + a2)) } : T_impl_Tally))⟩] ?_
 obtain ⟨v11, hv12, h⟩ := bindS h
 refine qX (some 57) (pf v11 0) 89 [(57, pf v11 0), (55, I a2), (54, I (({ ({ v6 with fRows := (w64 (v6.fRows + a2)) } : T_impl_Tally) with fMany := (w64 ((({ v6 with fRows := (w64 (v6.fRows + a2)) } : T_impl_Tally).fMany) + a2)) } : T_impl_Tally).fSum)), (51, .ptr 0 0 (v3.1.toNat * 4)), (0, .ref 0 0 0 4 ((x5.set v3.1.toNat ({ v6 with fRows := (w64 (v6.fRows + a2)) } : T_impl_Tally)).set v3.1.toNat ({ ({ v6 with fRows := (w64 (v6.fRows + a2)) } : T_impl_Tally) with fMany := (w64 ((({ v6 with fRows := (w64 (v6.fRows + a2)) } : T_impl_Tally).fMany) + a2)) } : T_impl_Tally)).length false), (7, I v3.1), (9, .ptr 0 0 (v3.1.toNat * 4))] [some ⟨0, eL ((x5.set v3.1.toNat ({ v6 with fRows := (w64 (v6.fRows + a2)) } : T_impl_Tally)).set v3.1.toNat ({ ({ v6 with fRows := (w64 (v6.fRows + a2)) } : T_impl_Tally) with fMany := (w64 ((({ v6 with fRows := (w64 (v6.fRows + a2)) } : T_impl_Tally).fMany) + a2)) } : T_impl_Tally))⟩] (fun Γ' hΓ => CoreE.of_y (idxV_sound τ_ok (by kernel_rfl) hv12)) trivial ?_
 refine qv [] trivial 4 89 [(61, I (w64 ((({ ({ v6 with fRows := (w64 (v6.fRows + a2)) } : T_impl_Tally) with fMany := (w64 ((({ v6 with fRows := (w64 (v6.fRows + a2)) } : T_impl_Tally).fMany) + a2)) } : T_impl_Tally).fSum) + (w64 (a2 * v11.fN))))), (51, .ptr 0 0 (v3.1.toNat * 4)), (0, .ref 0 0 0 4 ((x5.set v3.1.toNat ({ v6 with fRows := (w64 (v6.fRows + a2)) } : T_impl_Tally)).set v3.1.toNat ({ ({ v6 with fRows := (w64 (v6.fRows + a2)) } : T_impl_Tally) with fMany := (w64 ((({ v6 with fRows := (w64 (v6.fRows + a2)) } : T_impl_Tally).fMany) + a2)) } : T_impl_Tally)).length false), (7, I v3.1), (9, .ptr 0 0 (v3.1.toNat * 4))] [some ⟨0, eL ((x5.set v3.1.toNat ({ v6 with fRows := (w64 (v6.fRows + a2)) } : T_impl_Tally)).set v3.1.toNat ({ ({ v6 with fRows := (w64 (v6.fRows + a2)) } : T_impl_Tally) with fMany := (w64 ((({ v6 with fRows := (w64 (v6.fRows + a2)) } : T_impl_Tally).fMany) + a2)) } : T_impl_Tally))⟩] ?_
 refine qv [0] (hL trivial) 2 89 [(63, .ptr 0 0 (v3.1.toNat * 4 + 3)), (61, I (w64 ((({ ({ v6 with fRows := (w64 (v6.fRows + a2)) } : T_impl_Tally) with fMany := (w64 ((({ v6 with fRows := (w64 (v6.fRows + a2)) } : T_impl_Tally).fMany) + a2)) } : T_impl_Tally).fSum) + (w64 (a2 * v11.fN))))), (0, .ref 0 0 0 4 ((x5.set v3.1.toNat ({ v6 with fRows := (w64 (v6.fRows + a2)) } : T_impl_Tally)).set v3.1.toNat ({ ({ v6 with fRows := (w64 (v6.fRows + a2)) } : T_impl_Tally) with fMany := (w64 ((({ v6 with fRows := (w64 (v6.fRows + a2)) } : T_impl_Tally).fMany) + a2)) } : T_impl_Tally)).length false), (7, I v3.1), (9, .ptr 0 0 (v3.1.toNat * 4))] [some ⟨0, eL ((x5.set v3.1.toNat ({ v6 with fRows := (w64 (v6.fRows + a2)) } : T_impl_Tally)).set v3.1.toNat ({ ({ v6 with fRows := (w64 (v6.fRows + a2)) } : T_impl_Tally) with fMany := (w64 ((({ v6 with fRows := (w64 (v6.fRows + a2)) } : T_impl_Tally).fMany) + a2)) } : T_impl_Tally))⟩] ?_
 refine qX none (.any) 89 [(0, .ref 0 0 0 4 ((x5.set v3.1.toNat ({ v6 with fRows := (w64 (v6.fRows + a2)) } : T_impl_Tally)).set v3.1.toNat ({ ({ v6 with fRows := (w64 (v6.fRows + a2)) } : T_impl_Tally) with fMany := (w64 ((({ v6 with fRows := (w64 (v6.fRows + a2)) } : T_impl_Tally).fMany) + a2)) } : T_impl_Tally)).length false), (7, I v3.1), (9, .ptr 0 0 (v3.1.toNat * 4))] [some ⟨0, eL (((x5.set v3.1.toNat ({ v6 with fRows := (w64 (v6.fRows + a2)) } : T_impl_Tally)).set v3.1.toNat ({ ({ v6 with fRows := (w64 (v6.fRows + a2)) } : T_impl_Tally) with fMany := (w64 ((({ v6 with fRows := (w64 (v6.fRows + a2)) } : T_impl_Tally).fMany) + a2)) } : T_impl_Tally)).set v3.1.toNat ({ ({ ({ v6 with fRows := (w64 (v6.fRows + a2)) } : T_impl_Tally) with fMany := (w64 ((({ v6 with fRows := (w64 (v6.fRows + a2)) } : T_impl_Tally).fMany) + a2)) } : T_impl_Tally) with fSum := (w64 ((({ ({ v6 with fRows := (w64 (v6.fRows + a2)) } : T_impl_Tally) with fMany := (w64 ((({ v6 with fRows := (w64 (v6.fRows + a2)) } : T_impl_Tally).fMany) + a2)) } : T_impl_Tally).fSum) + (w64 (a2 * v11.fN)))) } : T_impl_Tally))⟩] (fun Γ' hΓ => ste_E (vs := [I (w64 ((({ ({ v6 with fRows := (w64 (v6.fRows + a2)) } : T_impl_Tally) with fMany := (w64 ((({ v6 with fRows := (w64 (v6.fRows + a2)) } : T_impl_Tally).fMany) + a2)) } : T_impl_Tally).fSum) + (w64 (a2 * v11.fN))))]) τ_ok 3 0 0 3 ({ ({ ({ v6 with fRows := (w64 (v6.fRows + a2)) } : T_impl_Tally) with fMany := (w64 ((({ v6 with fRows := (w64 (v6.fRows + a2)) } : T_impl_Tally).fMany) + a2)) } : T_impl_Tally) with fSum := (w64 ((({ ({ v6 with fRows := (w64 (v6.fRows + a2)) } : T_impl_Tally) with fMany := (w64 ((({ v6 with fRows := (w64 (v6.fRows + a2)) } : T_impl_Tally).fMany) + a2)) } : T_impl_Tally).fSum) + (w64 (a2 * v11.fN)))) } : T_impl_Tally) (getI_set (y := ({ ({ v6 with fRows := (w64 (v6.fRows + a2)) } : T_impl_Tally) with fMany := (w64 ((({ v6 with fRows := (w64 (v6.fRows + a2)) } : T_impl_Tally).fMany) + a2)) } : T_impl_Tally)) (getI_set (y := ({ v6 with fRows := (w64 (v6.fRows + a2)) } : T_impl_Tally)) hv7)) (by kernel_rfl) (by kernel_rfl) (by kernel_rfl)) (hL trivial) ?_
 refine qA_ren (st' := ⟨89, [(0, .ref 0 0 0 4 (((x5.set v3.1.toNat ({ v6 with fRows := (w64 (v6.fRows + a2)) } : T_impl_Tally)).set v3.1.toNat ({ ({ v6 with fRows := (w64 (v6.fRows + a2)) } : T_impl_Tally) with fMany := (w64 ((({ v6 with fRows := (w64 (v6.fRows + a2)) } : T_impl_Tally).fMany) + a2)) } : T_impl_Tally)).set v3.1.toNat ({ ({ ({ v6 with fRows := (w64 (v6.fRows + a2)) } : T_impl_Tally) with fMany := (w64 ((({ v6 with fRows := (w64 (v6.fRows + a2)) } : T_impl_Tally).fMany) + a2)) } : T_impl_Tally) with fSum := (w64 ((({ ({ v6 with fRows := (w64 (v6.fRows + a2)) } : T_impl_Tally) with fMany := (w64 ((({ v6 with fRows := (w64 (v6.fRows + a2)) } : T_impl_Tally).fMany) + a2)) } : T_impl_Tally).fSum) + (w64 (a2 * v11.fN)))) } : T_impl_Tally)).length false), (7, I v3.1), (9, .ptr 0 0 (v3.1.toNat * 4))], [some ⟨0, eL (((x5.set v3.1.toNat ({ v6 with fRows := (w64 (v6.fRows + a2)) } : T_impl_Tally)).set v3.1.toNat ({ ({ v6 with fRows := (w64 (v6.fRows + a2)) } : T_impl_Tally) with fMany := (w64 ((({ v6 with fRows := (w64 (v6.fRows + a2)) } : T_impl_Tally).fMany) + a2)) } : T_impl_Tally)).set v3.1.toNat ({ ({ ({ v6 with fRows := (w64 (v6.fRows + a2)) } : T_impl_Tally) with fMany := (w64 ((({ v6 with fRows := (w64 (v6.fRows + a2)) } : T_impl_Tally).fMany) + a2)) } : T_impl_Tally) with fSum := (w64 ((({ ({ v6 with fRows := (w64 (v6.fRows + a2)) } : T_impl_Tally) with fMany := (w64 ((({ v6 with fRows := (w64 (v6.fRows + a2)) } : T_impl_Tally).fMany) + a2)) } : T_impl_Tally).fSum) + (w64 (a2 * v11.fN)))) } : T_impl_Tally))⟩]⟩) 0 (((x5.set v3.1.toNat ({ v6 with fRows := (w64 (v6.fRows + a2)) } : T_impl_Tally)).set v3.1.toNat ({ ({ v6 with fRows := (w64 (v6.fRows + a2)) } : T_impl_Tally) with fMany := (w64 ((({ v6 with fRows := (w64 (v6.fRows + a2)) } : T_impl_Tally).fMany) + a2)) } : T_impl_Tally)).set v3.1.toNat ({ ({ ({ v6 with fRows := (w64 (v6.fRows + a2)) } : T_impl_Tally) with fMany := (w64 ((({ v6 with fRows := (w64 (v6.fRows + a2)) } : T_impl_Tally).fMany) + a2)) } : T_impl_Tally) with fSum := (w64 ((({ ({ v6 with fRows := (w64 (v6.fRows + a2)) } : T_impl_Tally) with fMany := (w64 ((({ v6 with fRows := (w64 (v6.fRows + a2)) } : T_impl_Tally).fMany) + a2)) } : T_impl_Tally).fSum) + (w64 (a2 * v11.fN)))) } : T_impl_Tally)).length (renC (ren_ref (List.length_set ..).symm) (renC trivial (renC trivial renC0))) (by kernel_rfl) ?_
 refine qn 89 [(0, .ref 0 0 0 4 (((x5.set v3.1.toNat ({ v6 with fRows := (w64 (v6.fRows + a2)) } : T_impl_Tally)).set v3.1.toNat ({ ({ v6 with fRows := (w64 (v6.fRows + a2)) } : T_impl_Tally) with fMany := (w64 ((({ v6 with fRows := (w64 (v6.fRows + a2)) } : T_impl_Tally).fMany) + a2)) } : T_impl_Tally)).set v3.1.toNat ({ ({ ({ v6 with fRows := (w64 (v6.fRows + a2)) } : T_impl_Tally) with fMany := (w64 ((({ v6 with fRows := (w64 (v6.fRows + a2)) } : T_impl_Tally).fMany) + a2)) } : T_impl_Tally) with fSum := (w64 ((({ ({ v6 with fRows := (w64 (v6.fRows + a2)) } : T_impl_Tally) with fMany := (w64 ((({ v6 with fRows := (w64 (v6.fRows + a2)) } : T_impl_Tally).fMany) + a2)) } : T_impl_Tally).fSum) + (w64 (a2 * v11.fN)))) } : T_impl_Tally)).length false), (7, I v3.1), (9, .ptr 0 0 (v3.1.toNat * 4))] [some ⟨0, eL (((x5.set v3.1.toNat ({ v6 with fRows := (w64 (v6.fRows + a2)) } : T_impl_Tally)).set v3.1.toNat ({ ({ v6 with fRows := (w64 (v6.fRows + a2)) } : T_impl_Tally) with fMany := (w64 ((({ v6 with fRows := (w64 (v6.fRows + a2)) } : T_impl_Tally).fMany) + a2)) } : T_impl_Tally)).set v3.1.toNat ({ ({ ({ v6 with fRows := (w64 (v6.fRows + a2)) } : T_impl_Tally) with fMany := (w64 ((({ v6 with fRows := (w64 (v6.fRows + a2)) } : T_impl_Tally).fMany) + a2)) } : T_impl_Tally) with fSum := (w64 ((({ ({ v6 with fRows := (w64 (v6.fRows + a2)) } : T_impl_Tally) with fMany := (w64 ((({ v6 with fRows := (w64 (v6.fRows + a2)) } : T_impl_Tally).fMany) + a2)) } : T_impl_Tally).fSum) + (w64 (a2 * v11.fN)))) } : T_impl_Tally))⟩] ?_
 refine pwp_seq ?_
 refine pwp_seq ?_
 refine pwp_join (σ := Bool) (fun x13 => (⟨89, [(0, .ref 0 0 0 4 (((x5.set v3.1.toNat ({ v6 with fRows := (w64 (v6.fRows + a2)) } : T_impl_Tally)).set v3.1.toNat ({ ({ v6 with fRows := (w64 (v6.fRows + a2)) } : T_impl_Tally) with fMany := (w64 ((({ v6 with fRows := (w64 (v6.fRows + a2)) } : T_impl_Tally).fMany) + a2)) } : T_impl_Tally)).set v3.1.toNat ({ ({ ({ v6 with fRows := (w64 (v6.fRows + a2)) } : T_impl_Tally) with fMany := (w64 ((({ v6 with fRows := (w64 (v6.fRows + a2)) } : T_impl_Tally).fMany) + a2)) } : T_impl_Tally) with fSum := (w64 ((({ ({ v6 with fRows := (w64 (v6.fRows + a2)) } : T_impl_Tally) with fMany := (w64 ((({ v6 with fRows := (w64 (v6.fRows + a2)) } : T_impl_Tally).fMany) + a2)) } : T_impl_Tally).fSum) + (w64 (a2 * v11.fN)))) } : T_impl_Tally)).length false), (7, I v3.1), (82, B x13)], [some ⟨0, eL (((x5.set v3.1.toNat ({ v6 with fRows := (w64 (v6.fRows + a2)) } : T_impl_Tally)).set v3.1.toNat ({ ({ v6 with fRows := (w64 (v6.fRows + a2)) } : T_impl_Tally) with fMany := (w64 ((({ v6 with fRows := (w64 (v6.fRows + a2)) } : T_impl_Tally).fMany) + a2)) } : T_impl_Tally)).set v3.1.toNat ({ ({ ({ v6 with fRows := (w64 (v6.fRows + a2)) } : T_impl_Tally) with fMany := (w64 ((({ v6 with fRows := (w64 (v6.fRows + a2)) } : T_impl_Tally).fMany) + a2)) } : T_impl_Tally) with fSum := (w64 ((({ ({ v6 with fRows := (w64 (v6.fRows + a2)) } : T_impl_Tally) with fMany := (w64 ((({ v6 with fRows := (w64 (v6.fRows + a2)) } : T_impl_Tally).fMany) + a2)) } : T_impl_Tally).fSum) + (w64 (a2 * v11.fN)))) } : T_impl_Tally))⟩]⟩ : St)) (fun x13 => impl_tell_j1 a2 v3 x5 v6 v11 x13 = some y) ?_ ?_
 refine rv 3 89 [(0, .ref 0 0 0 4 (((x5.set v3.1.toNat ({ v6 with fRows := (w64 (v6.fRows + a2)) } : T_impl_Tally)).set v3.1.toNat ({ ({ v6 with fRows := (w64 (v6.fRows + a2)) } : T_impl_Tally) with fMany := (w64 ((({ v6 with fRows := (w64 (v6.fRows + a2)) } : T_impl_Tally).fMany) + a2)) } : T_impl_Tally)).set v3.1.toNat ({ ({ ({ v6 with fRows := (w64 (v6.fRows + a2)) } : T_impl_Tally) with fMany := (w64 ((({ v6 with fRows := (w64 (v6.fRows + a2)) } : T_impl_Tally).fMany) + a2)) } : T_impl_Tally) with fSum := (w64 ((({ ({ v6 with fRows := (w64 (v6.fRows + a2)) } : T_impl_Tally) with fMany := (w64 ((({ v6 with fRows := (w64 (v6.fRows + a2)) } : T_impl_Tally).fMany) + a2)) } : T_impl_Tally).fSum) + (w64 (a2 * v11.fN)))) } : T_impl_Tally)).length false), (7, I v3.1), (9, .ptr 0 0 (v3.1.toNat * 4)), (66, .ptr 0 0 (v3.1.toNat * 4 + 1))] [some ⟨0, eL (((x5.set v3.1.toNat ({ v6 with fRows := (w64 (v6.fRows + a2)) } : T_impl_Tally)).set v3.1.toNat ({ ({ v6 with fRows := (w64 (v6.fRows + a2)) } : T_impl_Tally) with fMany := (w64 ((({ v6 with fRows := (w64 (v6.fRows + a2)) } : T_impl_Tally).fMany) + a2)) } : T_impl_Tally)).set v3.1.toNat ({ ({ ({ v6 with fRows := (w64 (v6.fRows + a2)) } : T_impl_Tally) with fMany := (w64 ((({ v6 with fRows := (w64 (v6.fRows + a2)) } : T_impl_Tally).fMany) + a2)) } : T_impl_Tally) with fSum := (w64 ((({ ({ v6 with fRows := (w64 (v6.fRows + a2)) } : T_impl_Tally) with fMany := (w64 ((({ v6 with fRows := (w64 (v6.fRows + a2)) } : T_impl_Tally).fMany) + a2)) } : T_impl_Tally).fSum) + (w64 (a2 * v11.fN)))) } : T_impl_Tally))⟩] ?_
 refine opsP_lde (r := I (({ ({ ({ v6 with fRows := (w64 (v6.fRows + a2)) } : T_impl_Tally) with fMany := (w64 ((({ v6 with fRows := (w64 (v6.fRows + a2)) } : T_impl_Tally).fMany) + a2)) } : T_impl_Tally) with fSum := (w64 ((({ ({ v6 with fRows := (w64 (v6.fRows + a2)) } : T_impl_Tally) with fMany := (w64 ((({ v6 with fRows := (w64 (v6.fRows + a2)) } : T_impl_Tally).fMany) + a2)) } : T_impl_Tally).fSum) + (w64 (a2 * v11.fN)))) } : T_impl_Tally).fRows)) τ_ok 67 3 1 (getI_set (y := ({ ({ ({ v6 with fRows := (w64 (v6.fRows + a2)) } : T_impl_Tally) with fMany := (w64 ((({ v6 with fRows := (w64 (v6.fRows + a2)) } : T_impl_Tally).fMany) + a2)) } : T_impl_Tally) with fSum := (w64 ((({ ({ v6 with fRows := (w64 (v6.fRows + a2)) } : T_impl_Tally) with fMany := (w64 ((({ v6 with fRows := (w64 (v6.fRows + a2)) } : T_impl_Tally).fMany) + a2)) } : T_impl_Tally).fSum) + (w64 (a2 * v11.fN)))) } : T_impl_Tally)) (getI_set (y := ({ ({ v6 with fRows := (w64 (v6.fRows + a2)) } : T_impl_Tally) with fMany := (w64 ((({ v6 with fRows := (w64 (v6.fRows + a2)) } : T_impl_Tally).fMany) + a2)) } : T_impl_Tally)) (getI_set (y := ({ v6 with fRows := (w64 (v6.fRows + a2)) } : T_impl_Tally)) hv7))) (by kernel_rfl) (by kernel_rfl) ?_
 refine v 2 89 [(0, .ref 0 0 0 4 (((x5.set v3.1.toNat ({ v6 with fRows := (w64 (v6.fRows + a2)) } : T_impl_Tally)).set v3.1.toNat ({ ({ v6 with fRows := (w64 (v6.fRows + a2)) } : T_impl_Tally) with fMany := (w64 ((({ v6 with fRows := (w64 (v6.fRows + a2)) } : T_impl_Tally).fMany) + a2)) } : T_impl_Tally)).set v3.1.toNat ({ ({ ({ v6 with fRows := (w64 (v6.fRows + a2)) } : T_impl_Tally) with fMany := (w64 ((({ v6 with fRows := (w64 (v6.fRows + a2)) } : T_impl_Tally).fMany) + a2)) } : T_impl_Tally) with fSum := (w64 ((({ ({ v6 with fRows := (w64 (v6.fRows + a2)) } : T_impl_Tally) with fMany := (w64 ((({ v6 with fRows := (w64 (v6.fRows + a2)) } : T_impl_Tally).fMany) + a2)) } : T_impl_Tally).fSum) + (w64 (a2 * v11.fN)))) } : T_impl_Tally)).length false), (7, I v3.1), (9, .ptr 0 0 (v3.1.toNat * 4)), (69, B ((({ ({ ({ v6 with fRows := (w64 (v6.fRows + a2)) } : T_impl_Tally) with fMany := (w64 ((({ v6 with fRows := (w64 (v6.fRows + a2)) } : T_impl_Tally).fMany) + a2)) } : T_impl_Tally) with fSum := (w64 ((({ ({ v6 with fRows := (w64 (v6.fRows + a2)) } : T_impl_Tally) with fMany := (w64 ((({ v6 with fRows := (w64 (v6.fRows + a2)) } : T_impl_Tally).fMany) + a2)) } : T_impl_Tally).fSum) + (w64 (a2 * v11.fN)))) } : T_impl_Tally).fRows) == 0))] [some ⟨0, eL (((x5.set v3.1.toNat ({ v6 with fRows := (w64 (v6.fRows + a2)) } : T_impl_Tally)).set v3.1.toNat ({ ({ v6 with fRows := (w64 (v6.fRows + a2)) } : T_impl_Tally) with fMany := (w64 ((({ v6 with fRows := (w64 (v6.fRows + a2)) } : T_impl_Tally).fMany) + a2)) } : T_impl_Tally)).set v3.1.toNat ({ ({ ({ v6 with fRows := (w64 (v6.fRows + a2)) } : T_impl_Tally) with fMany := (w64 ((({ v6 with fRows := (w64 (v6.fRows + a2)) } : T_impl_Tally).fMany) + a2)) } : T_impl_Tally) with fSum := (w64 ((({ ({ v6 with fRows := (w64 (v6.fRows + a2)) } : T_impl_Tally) with fMany := (w64 ((({ v6 with fRows := (w64 (v6.fRows + a2)) } : T_impl_Tally).fMany) + a2)) } : T_impl_Tally).fSum) + (w64 (a2 * v11.fN)))) } : T_impl_Tally))⟩] ?_
 rcases fk ((({ ({ ({ v6 with fRows := (w64 (v6.fRows + a2)) } : T_impl_Tally) with fMany := (w64 ((({ v6 with fRows := (w64 (v6.fRows + a2)) } : T_impl_Tally).fMany) + a2)) } : T_impl_Tally) with fSum := (w64 ((({ ({ v6 with fRows := (w64 (v6.fRows + a2)) } : T_impl_Tally) with fMany := (w64 ((({ v6 with fRows := (w64 (v6.fRows + a2)) } : T_impl_Tally).fMany) + a2)) } : T_impl_Tally).fSum) + (w64 (a2 * v11.fN)))) } : T_impl_Tally).fRows) == 0) with hc18 | hc18
 replace h := bT hc18 h
 rw [hc18]
 refine v 3 89 [(0, .ref 0 0 0 4 (((x5.set v3.1.toNat ({ v6 with fRows := (w64 (v6.fRows + a2)) } : T_impl_Tally)).set v3.1.toNat ({ ({ v6 with fRows := (w64 (v6.fRows + a2)) } : T_impl_Tally) with fMany := (w64 ((({ v6 with fRows := (w64 (v6.fRows + a2)) } : T_impl_Tally).fMany) + a2)) } : T_impl_Tally)).set v3.1.toNat ({ ({ ({ v6 with fRows := (w64 (v6.fRows + a2)) } : T_impl_Tally) with fMany := (w64 ((({ v6 with fRows := (w64 (v6.fRows + a2)) } : T_impl_Tally).fMany) + a2)) } : T_impl_Tally) with fSum := (w64 ((({ ({ v6 with fRows := (w64 (v6.fRows + a2)) } : T_impl_Tally) with fMany := (w64 ((({ v6 with fRows := (w64 (v6.fRows + a2)) } : T_impl_Tally).fMany) + a2)) } : T_impl_Tally).fSum) + (w64 (a2 * v11.fN)))) } : T_impl_Tally)).length false), (7, I v3.1), (9, .ptr 0 0 (v3.1.toNat * 4)), (69, B true), (72, .ptr 0 0 (v3.1.toNat * 4 + 2))] [some ⟨0, eL (((x5.set v3.1.toNat ({ v6 with fRows := (w64 (v6.fRows + a2)) } : T_impl_Tally)).set v3.1.toNat ({ ({ v6 with fRows := (w64 (v6.fRows + a2)) } : T_impl_Tally) with fMany := (w64 ((({ v6 with fRows := (w64 (v6.fRows + a2)) } : T_impl_Tally).fMany) + a2)) } : T_impl_Tally)).set v3.1.toNat ({ ({ ({ v6 with fRows := (w64 (v6.fRows + a2)) } : T_impl_Tally) with fMany := (w64 ((({ v6 with fRows := (w64 (v6.fRows + a2)) } : T_impl_Tally).fMany) + a2)) } : T_impl_Tally) with fSum := (w64 ((({ ({ v6 with fRows := (w64 (v6.fRows + a2)) } : T_impl_Tally) with fMany := (w64 ((({ v6 with fRows := (w64 (v6.fRows + a2)) } : T_impl_Tally).fMany) + a2)) } : T_impl_Tally).fSum) + (w64 (a2 * v11.fN)))) } : T_impl_Tally))⟩] ?_
 refine opsP_lde (r := I (({ ({ ({ v6 with fRows := (w64 (v6.fRows + a2)) } : T_impl_Tally) with fMany := (w64 ((({ v6 with fRows := (w64 (v6.fRows + a2)) } : T_impl_Tally).fMany) + a2)) } : T_impl_Tally) with fSum := (w64 ((({ ({ v6 with fRows := (w64 (v6.fRows + a2)) } : T_impl_Tally) with fMany := (w64 ((({ v6 with fRows := (w64 (v6.fRows + a2)) } : T_impl_Tally).fMany) + a2)) } : T_impl_Tally).fSum) + (w64 (a2 * v11.fN)))) } : T_impl_Tally).fMany)) τ_ok 73 3 2 (getI_set (y := ({ ({ ({ v6 with fRows := (w64 (v6.fRows + a2)) } : T_impl_Tally) with fMany := (w64 ((({ v6 with fRows := (w64 (v6.fRows + a2)) } : T_impl_Tally).fMany) + a2)) } : T_impl_Tally) with fSum := (w64 ((({ ({ v6 with fRows := (w64 (v6.fRows + a2)) } : T_impl_Tally) with fMany := (w64 ((({ v6 with fRows := (w64 (v6.fRows + a2)) } : T_impl_Tally).fMany) + a2)) } : T_impl_Tally).fSum) + (w64 (a2 * v11.fN)))) } : T_impl_Tally)) (getI_set (y := ({ ({ v6 with fRows := (w64 (v6.fRows + a2)) } : T_impl_Tally) with fMany := (w64 ((({ v6 with fRows := (w64 (v6.fRows + a2)) } : T_impl_Tally).fMany) + a2)) } : T_impl_Tally)) (getI_set (y := ({ v6 with fRows := (w64 (v6.fRows + a2)) } : T_impl_Tally)) hv7))) (by kernel_rfl) (by kernel_rfl) ?_
 refine v 3 89 [(0, .ref 0 0 0 4 (((x5.set v3.1.toNat ({ v6 with fRows := (w64 (v6.fRows + a2)) } : T_impl_Tally)).set v3.1.toNat ({ ({ v6 with fRows := (w64 (v6.fRows + a2)) } : T_impl_Tally) with fMany := (w64 ((({ v6 with fRows := (w64 (v6.fRows + a2)) } : T_impl_Tally).fMany) + a2)) } : T_impl_Tally)).set v3.1.toNat ({ ({ ({ v6 with fRows := (w64 (v6.fRows + a2)) } : T_impl_Tally) with fMany := (w64 ((({ v6 with fRows := (w64 (v6.fRows + a2)) } : T_impl_Tally).fMany) + a2)) } : T_impl_Tally) with fSum := (w64 ((({ ({ v6 with fRows := (w64 (v6.fRows + a2)) } : T_impl_Tally) with fMany := (w64 ((({ v6 with fRows := (w64 (v6.fRows + a2)) } : T_impl_Tally).fMany) + a2)) } : T_impl_Tally).fSum) + (w64 (a2 * v11.fN)))) } : T_impl_Tally)).length false), (7, I v3.1), (9, .ptr 0 0 (v3.1.toNat * 4)), (76, B ((({ ({ ({ v6 with fRows := (w64 (v6.fRows + a2)) } : T_impl_Tally) with fMany := (w64 ((({ v6 with fRows := (w64 (v6.fRows + a2)) } : T_impl_Tally).fMany) + a2)) } : T_impl_Tally) with fSum := (w64 ((({ ({ v6 with fRows := (w64 (v6.fRows + a2)) } : T_impl_Tally) with fMany := (w64 ((({ v6 with fRows := (w64 (v6.fRows + a2)) } : T_impl_Tally).fMany) + a2)) } : T_impl_Tally).fSum) + (w64 (a2 * v11.fN)))) } : T_impl_Tally).fMany) == 0))] [some ⟨0, eL (((x5.set v3.1.toNat ({ v6 with fRows := (w64 (v6.fRows + a2)) } : T_impl_Tally)).set v3.1.toNat ({ ({ v6 with fRows := (w64 (v6.fRows + a2)) } : T_impl_Tally) with fMany := (w64 ((({ v6 with fRows := (w64 (v6.fRows + a2)) } : T_impl_Tally).fMany) + a2)) } : T_impl_Tally)).set v3.1.toNat ({ ({ ({ v6 with fRows := (w64 (v6.fRows + a2)) } : T_impl_Tally) with fMany := (w64 ((({ v6 with fRows := (w64 (v6.fRows + a2)) } : T_impl_Tally).fMany) + a2)) } : T_impl_Tally) with fSum := (w64 ((({ ({ v6 with fRows := (w64 (v6.fRows + a2)) } : T_impl_Tally) with fMany := (w64 ((({ v6 with fRows := (w64 (v6.fRows + a2)) } : T_impl_Tally).fMany) + a2)) } : T_impl_Tally).fSum) + (w64 (a2 * v11.fN)))) } : T_impl_Tally))⟩] ?_
 rcases fk ((({ ({ ({ v6 with fRows := (w64 (v6.fRows + a2)) } : T_impl_Tally) with fMany := (w64 ((({ v6 with fRows := (w64 (v6.fRows + a2)) } : T_impl_Tally).fMany) + a2)) } : T_impl_Tally) with fSum := (w64 ((({ ({ v6 with fRows := (w64 (v6.fRows + a2)) } : T_impl_Tally) with fMany := (w64 ((({ v6 with fRows := (w64 (v6.fRows + a2)) } : T_impl_Tally).fMany) + a2)) } : T_impl_Tally).fSum) + (w64 (a2 * v11.fN)))) } : T_impl_Tally).fMany) == 0) with hc17 | hc17
 replace h := bT hc17 h
 rw [hc17]
 refine v 3 89 [(0, .ref 0 0 0 4 (((x5.set v3.1.toNat ({ v6 with fRows := (w64 (v6.fRows + a2)) } : T_impl_Tally)).set v3.1.toNat ({ ({ v6 with fRows := (w64 (v6.fRows + a2)) } : T_impl_Tally) with fMany := (w64 ((({ v6 with fRows := (w64 (v6.fRows + a2)) } : T_impl_Tally).fMany) + a2)) } : T_impl_Tally)).set v3.1.toNat ({ ({ ({ v6 with fRows := (w64 (v6.fRows + a2)) } : T_impl_Tally) with fMany := (w64 ((({ v6 with fRows := (w64 (v6.fRows + a2)) } : T_impl_Tally).fMany) + a2)) } : T_impl_Tally) with fSum := (w64 ((({ ({ v6 with fRows := (w64 (v6.fRows + a2)) } : T_impl_Tally) with fMany := (w64 ((({ v6 with fRows := (w64 (v6.fRows + a2)) } : T_impl_Tally).fMany) + a2)) } : T_impl_Tally).fSum) + (w64 (a2 * v11.fN)))) } : T_impl_Tally)).length false), (7, I v3.1), (76, B true), (79, .ptr 0 0 (v3.1.toNat * 4 + 3))] [some ⟨0, eL (((x5.set v3.1.toNat ({ v6 with fRows := (w64 (v6.fRows + a2)) } : T_impl_Tally)).set v3.1.toNat ({ ({ v6 with fRows := (w64 (v6.fRows + a2)) } : T_impl_Tally) with fMany := (w64 ((({ v6 with fRows := (w64 (v6.fRows + a2)) } : T_impl_Tally).fMany) + a2)) } : T_impl_Tally)).set v3.1.toNat ({ ({ ({ v6 with fRows := (w64 (v6.fRows + a2)) } : T_impl_Tally) with fMany := (w64 ((({ v6 with fRows := (w64 (v6.fRows + a2)) } : T_impl_Tally).fMany) + a2)) } : T_impl_Tally) with fSum := (w64 ((({ ({ v6 with fRows := (w64 (v6.fRows + a2)) } : T_impl_Tally) with fMany := (w64 ((({ v6 with fRows := (w64 (v6.fRows + a2)) } : T_impl_Tally).fMany) + a2)) } : T_impl_Tally).fSum) + (w64 (a2 * v11.fN)))) } : T_impl_Tally))⟩] ?_
 refine opsP_lde (r := I (({ ({ ({ v6 with fRows := (w64 (v6.fRows + a2)) } : T_impl_Tally) with fMany := (w64 ((({ v6 with fRows := (w64 (v6.fRows + a2)) } : T_impl_Tally).fMany) + a2)) } : T_impl_Tally) with fSum := (w64 ((({ ({ v6 with fRows := (w64 (v6.fRows + a2)) } : T_impl_Tally) with fMany := (w64 ((({ v6 with fRows := (w64 (v6.fRows + a2)) } : T_impl_Tally).fMany) + a2)) } : T_impl_Tally).fSum) + (w64 (a2 * v11.fN)))) } : T_impl_Tally).fSum)) τ_ok 80 3 3 (getI_set (y := ({ ({ ({ v6 with fRows := (w64 (v6.fRows + a2)) } : T_impl_Tally) with fMany := (w64 ((({ v6 with fRows := (w64 (v6.fRows + a2)) } : T_impl_Tally).fMany) + a2)) } : T_impl_Tally) with fSum := (w64 ((({ ({ v6 with fRows := (w64 (v6.fRows + a2)) } : T_impl_Tally) with fMany := (w64 ((({ v6 with fRows := (w64 (v6.fRows + a2)) } : T_impl_Tally).fMany) + a2)) } : T_impl_Tally).fSum) + (w64 (a2 * v11.fN)))) } : T_impl_Tally)) (getI_set (y := ({ ({ v6 with fRows := (w64 (v6.fRows + a2)) } : T_impl_Tally) with fMany := (w64 ((({ v6 with fRows := (w64 (v6.fRows + a2)) } : T_impl_Tally).fMany) + a2)) } : T_impl_Tally)) (getI_set (y := ({ v6 with fRows := (w64 (v6.fRows + a2)) } : T_impl_Tally)) hv7))) (by kernel_rfl) (by kernel_rfl) ?_
 refine ve 2 89 [(0, .ref 0 0 0 4 (((x5.set v3.1.toNat ({ v6 with fRows := (w64 (v6.fRows + a2)) } : T_impl_Tally)).set v3.1.toNat ({ ({ v6 with fRows := (w64 (v6.fRows + a2)) } : T_impl_Tally) with fMany := (w64 ((({ v6 with fRows := (w64 (v6.fRows + a2)) } : T_impl_Tally).fMany) + a2)) } : T_impl_Tally)).set v3.1.toNat ({ ({ ({ v6 with fRows := (w64 (v6.fRows + a2)) } : T_impl_Tally) with fMany := (w64 ((({ v6 with fRows := (w64 (v6.fRows + a2)) } : T_impl_Tally).fMany) + a2)) } : T_impl_Tally) with fSum := (w64 ((({ ({ v6 with fRows := (w64 (v6.fRows + a2)) } : T_impl_Tally) with fMany := (w64 ((({ v6 with fRows := (w64 (v6.fRows + a2)) } : T_impl_Tally).fMany) + a2)) } : T_impl_Tally).fSum) + (w64 (a2 * v11.fN)))) } : T_impl_Tally)).length false), (7, I v3.1), (82, B ((({ ({ ({ v6 with fRows := (w64 (v6.fRows + a2)) } : T_impl_Tally) with fMany := (w64 ((({ v6 with fRows := (w64 (v6.fRows + a2)) } : T_impl_Tally).fMany) + a2)) } : T_impl_Tally) with fSum := (w64 ((({ ({ v6 with fRows := (w64 (v6.fRows + a2)) } : T_impl_Tally) with fMany := (w64 ((({ v6 with fRows := (w64 (v6.fRows + a2)) } : T_impl_Tally).fMany) + a2)) } : T_impl_Tally).fSum) + (w64 (a2 * v11.fN)))) } : T_impl_Tally).fSum) == 0))] [some ⟨0, eL (((x5.set v3.1.toNat ({ v6 with fRows := (w64 (v6.fRows + a2)) } : T_impl_Tally)).set v3.1.toNat ({ ({ v6 with fRows := (w64 (v6.fRows + a2)) } : T_impl_Tally) with fMany := (w64 ((({ v6 with fRows := (w64 (v6.fRows + a2)) } : T_impl_Tally).fMany) + a2)) } : T_impl_Tally)).set v3.1.toNat ({ ({ ({ v6 with fRows := (w64 (v6.fRows + a2)) } : T_impl_Tally) with fMany := (w64 ((({ v6 with fRows := (w64 (v6.fRows + a2)) } : T_impl_Tally).fMany) + a2)) } : T_impl_Tally) with fSum := (w64 ((({ ({ v6 with fRows := (w64 (v6.fRows + a2)) } : T_impl_Tally) with fMany := (w64 ((({ v6 with fRows := (w64 (v6.fRows + a2)) } : T_impl_Tally).fMany) + a2)) } : T_impl_Tally).fSum) + (w64 (a2 * v11.fN)))) } : T_impl_Tally))⟩] ?_
 exact ⟨((({ ({ ({ v6 with fRows := (w64 (v6.fRows + a2)) } : T_impl_Tally) with fMany := (w64 ((({ v6 with fRows := (w64 (v6.fRows + a2)) } : T_impl_Tally).fMany) + a2)) } : T_impl_Tally) with fSum := (w64 ((({ ({ v6 with fRows := (w64 (v6.fRows + a2)) } : T_impl_Tally) with fMany := (w64 ((({ v6 with fRows := (w64 (v6.fRows + a2)) } : T_impl_Tally).fMany) + a2)) } : T_impl_Tally).fSum) + (w64 (a2 * v11.fN)))) } : T_impl_Tally).fSum) == 0), h, it [0, 7, 82]⟩
 replace h := bF hc17 h
 rw [hc17]
 refine ve 6 89 [(0, .ref 0 0 0 4 (((x5.set v3.1.toNat ({ v6 with fRows := (w64 (v6.fRows + a2)) } : T_impl_Tally)).set v3.1.toNat ({ ({ v6 with fRows := (w64 (v6.fRows + a2)) } : T_impl_Tally) with fMany := (w64 ((({ v6 with fRows := (w64 (v6.fRows + a2)) } : T_impl_Tally).fMany) + a2)) } : T_impl_Tally)).set v3.1.toNat ({ ({ ({ v6 with fRows := (w64 (v6.fRows + a2)) } : T_impl_Tally) with fMany := (w64 ((({ v6 with fRows := (w64 (v6.fRows + a2)) } : T_impl_Tally).fMany) + a2)) } : T_impl_Tally) with fSum := (w64 ((({ ({ v6 with fRows := (w64 (v6.fRows + a2)) } : T_impl_Tally) with fMany := (w64 ((({ v6 with fRows := (w64 (v6.fRows + a2)) } : T_impl_Tally).fMany) + a2)) } : T_impl_Tally).fSum) + (w64 (a2 * v11.fN)))) } : T_impl_Tally)).length false), (7, I v3.1), (82, B false)] [some ⟨0, eL (((x5.set v3.1.toNat ({ v6 with fRows := (w64 (v6.fRows + a2)) } : T_impl_Tally)).set v3.1.toNat ({ ({ v6 with fRows := (w64 (v6.fRows + a2)) } : T_impl_Tally) with fMany := (w64 ((({ v6 with fRows := (w64 (v6.fRows + a2)) } : T_impl_Tally).fMany) + a2)) } : T_impl_Tally)).set v3.1.toNat ({ ({ ({ v6 with fRows := (w64 (v6.fRows + a2)) } : T_impl_Tally) with fMany := (w64 ((({ v6 with fRows := (w64 (v6.fRows + a2)) } : T_impl_Tally).fMany) + a2)) } : T_impl_Tally) with fSum := (w64 ((({ ({ v6 with fRows := (w64 (v6.fRows + a2)) } : T_impl_Tally) with fMany := (w64 ((({ v6 with fRows := (w64 (v6.fRows + a2)) } : T_impl_Tally).fMany) + a2)) } : T_impl_Tally).fSum) + (w64 (a2 * v11.fN)))) } : T_impl_Tally))⟩] ?_
 exact ⟨false, h, it [0, 7, 82]⟩
 replace h := bF hc18 h
 rw [hc18]
 refine ve 13 89 [(0, .ref 0 0 0 4 (((x5.set v3.1.toNat ({ v6 with fRows := (w64 (v6.fRows + a2)) } : T_impl_Tally)).set v3.1.toNat ({ ({ v6 with fRows := (w64 (v6.fRows + a2)) } : T_impl_Tally) with fMany := (w64 ((({ v6 with fRows := (w64 (v6.fRows + a2)) } : T_impl_Tally).fMany) + a2)) } : T_impl_Tally)).set v3.1.toNat ({ ({ ({ v6 with fRows := (w64 (v6.fRows + a2)) } : T_impl_Tally) with fMany := (w64 ((({ v6 with fRows := (w64 (v6.fRows + a2)) } : T_impl_Tally).fMany) + a2)) } : T_impl_Tally) with fSum := (w64 ((({ ({ v6 with fRows := (w64 (v6.fRows + a2)) } : T_impl_Tally) with fMany := (w64 ((({ v6 with fRows := (w64 (v6.fRows + a2)) } : T_impl_Tally).fMany) + a2)) } : T_impl_Tally).fSum) + (w64 (a2 * v11.fN)))) } : T_impl_Tally)).length false), (7, I v3.1), (82, B false)] [some ⟨0, eL (((x5.set v3.1.toNat ({ v6 with fRows := (w64 (v6.fRows + a2)) } : T_impl_Tally)).set v3.1.toNat ({ ({ v6 with fRows := (w64 (v6.fRows + a2)) } : T_impl_Tally) with fMany := (w64 ((({ v6 with fRows := (w64 (v6.fRows + a2)) } : T_impl_Tally).fMany) + a2)) } : T_impl_Tally)).set v3.1.toNat ({ ({ ({ v6 with fRows := (w64 (v6.fRows + a2)) } : T_impl_Tally) with fMany := (w64 ((({ v6 with fRows := (w64 (v6.fRows + a2)) } : T_impl_Tally).fMany) + a2)) } : T_impl_Tally) with fSum := (w64 ((({ ({ v6 with fRows := (w64 (v6.fRows + a2)) } : T_impl_Tally) with fMany := (w64 ((({ v6 with fRows := (w64 (v6.fRows + a2)) } : T_impl_Tally).fMany) + a2)) } : T_impl_Tally).fSum) + (w64 (a2 * v11.fN)))) } : T_impl_Tally))⟩] ?_
 exact ⟨false, h, it [0, 7, 82]⟩
 rintro x13 h
 unfold impl_tell_j1 at h
 refine pc h (fun h => ?_) (fun h => ?_)
 refine rv 4 89 [(83, .ref 0 0 0 4 (((x5.set v3.1.toNat ({ v6 with fRows := (w64 (v6.fRows + a2)) } : T_impl_Tally)).set v3.1.toNat ({ ({ v6 with fRows := (w64 (v6.fRows + a2)) } : T_impl_Tally) with fMany := (w64 ((({ v6 with fRows := (w64 (v6.fRows + a2)) } : T_impl_Tally).fMany) + a2)) } : T_impl_Tally)).set v3.1.toNat ({ ({ ({ v6 with fRows := (w64 (v6.fRows + a2)) } : T_impl_Tally) with fMany := (w64 ((({ v6 with fRows := (w64 (v6.fRows + a2)) } : T_impl_Tally).fMany) + a2)) } : T_impl_Tally) with fSum := (w64 ((({ ({ v6 with fRows := (w64 (v6.fRows + a2)) } : T_impl_Tally) with fMany := (w64 ((({ v6 with fRows := (w64 (v6.fRows + a2)) } : T_impl_Tally).fMany) + a2)) } : T_impl_Tally).fSum) + (w64 (a2 * v11.fN)))) } : T_impl_Tally)).length false), (84, I v3.1), (86, I (w64 (v3.1 + 1)))] [some ⟨0, eL (((x5.set v3.1.toNat ({ v6 with fRows := (w64 (v6.fRows + a2)) } : T_impl_Tally)).set v3.1.toNat ({ ({ v6 with fRows := (w64 (v6.fRows + a2)) } : T_impl_Tally) with fMany := (w64 ((({ v6 with fRows := (w64 (v6.fRows + a2)) } : T_impl_Tally).fMany) + a2)) } : T_impl_Tally)).set v3.1.toNat ({ ({ ({ v6 with fRows := (w64 (v6.fRows + a2)) } : T_impl_Tally) with fMany := (w64 ((({ v6 with fRows := (w64 (v6.fRows + a2)) } : T_impl_Tally).fMany) + a2)) } : T_impl_Tally) with fSum := (w64 ((({ ({ v6 with fRows := (w64 (v6.fRows + a2)) } : T_impl_Tally) with fMany := (w64 ((({ v6 with fRows := (w64 (v6.fRows + a2)) } : T_impl_Tally).fMany) + a2)) } : T_impl_Tally).fSum) + (w64 (a2 * v11.fN)))) } : T_impl_Tally))⟩] ?_
 obtain ⟨v15, hv16, h⟩ := bindS h
 refine opsP_callM (xs := [.ref 0 0 0 4 (((x5.set v3.1.toNat ({ v6 with fRows := (w64 (v6.fRows + a2)) } : T_impl_Tally)).set v3.1.toNat ({ ({ v6 with fRows := (w64 (v6.fRows + a2)) } : T_impl_Tally) with fMany := (w64 ((({ v6 with fRows := (w64 (v6.fRows + a2)) } : T_impl_Tally).fMany) + a2)) } : T_impl_Tally)).set v3.1.toNat ({ ({ ({ v6 with fRows := (w64 (v6.fRows + a2)) } : T_impl_Tally) with fMany := (w64 ((({ v6 with fRows := (w64 (v6.fRows + a2)) } : T_impl_Tally).fMany) + a2)) } : T_impl_Tally) with fSum := (w64 ((({ ({ v6 with fRows := (w64 (v6.fRows + a2)) } : T_impl_Tally) with fMany := (w64 ((({ v6 with fRows := (w64 (v6.fRows + a2)) } : T_impl_Tally).fMany) + a2)) } : T_impl_Tally).fSum) + (w64 (a2 * v11.fN)))) } : T_impl_Tally)).length false, I v3.1, I (w64 (v3.1 + 1))]) (x := rf 1 0 4 v15) (bs := [⟨0, eL v15⟩]) τ 87 [0] (nx hX) (ok_delT hv16) (by kernel_rfl) (OutL.cons (OutP.list (v := 0) (by kernel_rfl)) (OutL.cons (OutP.frz rfl) (OutL.cons (OutP.frz rfl) (OutL.nil _)))) (by decide) (by kernel_rfl) ?_
 refine ve 1 89 [(0, rf 1 0 4 v15)] [none, sl 0 v15] ?_
 refine srve 89 [(6, rf 1 0 4 v15)] [none, sl 0 v15] ?_
 have h := si h
 subst h
 exact pwp_ret (rt (rf 1 0 4 v15) (OutP.list (v := 0) (by kernel_rfl)))
 refine pwp_skip ?_
 refine srve 89 [(6, .ref 0 0 0 4 (((x5.set v3.1.toNat ({ v6 with fRows := (w64 (v6.fRows + a2)) } : T_impl_Tally)).set v3.1.toNat ({ ({ v6 with fRows := (w64 (v6.fRows + a2)) } : T_impl_Tally) with fMany := (w64 ((({ v6 with fRows := (w64 (v6.fRows + a2)) } : T_impl_Tally).fMany) + a2)) } : T_impl_Tally)).set v3.1.toNat ({ ({ ({ v6 with fRows := (w64 (v6.fRows + a2)) } : T_impl_Tally) with fMany := (w64 ((({ v6 with fRows := (w64 (v6.fRows + a2)) } : T_impl_Tally).fMany) + a2)) } : T_impl_Tally) with fSum := (w64 ((({ ({ v6 with fRows := (w64 (v6.fRows + a2)) } : T_impl_Tally) with fMany := (w64 ((({ v6 with fRows := (w64 (v6.fRows + a2)) } : T_impl_Tally).fMany) + a2)) } : T_impl_Tally).fSum) + (w64 (a2 * v11.fN)))) } : T_impl_Tally)).length false)] [some ⟨0, eL (((x5.set v3.1.toNat ({ v6 with fRows := (w64 (v6.fRows + a2)) } : T_impl_Tally)).set v3.1.toNat ({ ({ v6 with fRows := (w64 (v6.fRows + a2)) } : T_impl_Tally) with fMany := (w64 ((({ v6 with fRows := (w64 (v6.fRows + a2)) } : T_impl_Tally).fMany) + a2)) } : T_impl_Tally)).set v3.1.toNat ({ ({ ({ v6 with fRows := (w64 (v6.fRows + a2)) } : T_impl_Tally) with fMany := (w64 ((({ v6 with fRows := (w64 (v6.fRows + a2)) } : T_impl_Tally).fMany) + a2)) } : T_impl_Tally) with fSum := (w64 ((({ ({ v6 with fRows := (w64 (v6.fRows + a2)) } : T_impl_Tally) with fMany := (w64 ((({ v6 with fRows := (w64 (v6.fRows + a2)) } : T_impl_Tally).fMany) + a2)) } : T_impl_Tally).fSum) + (w64 (a2 * v11.fN)))) } : T_impl_Tally))⟩] ?_
 have h := si h
 subst h
 exact pwp_ret (rt (.ref 0 0 0 4 (((x5.set v3.1.toNat ({ v6 with fRows := (w64 (v6.fRows + a2)) } : T_impl_Tally)).set v3.1.toNat ({ ({ v6 with fRows := (w64 (v6.fRows + a2)) } : T_impl_Tally) with fMany := (w64 ((({ v6 with fRows := (w64 (v6.fRows + a2)) } : T_impl_Tally).fMany) + a2)) } : T_impl_Tally)).set v3.1.toNat ({ ({ ({ v6 with fRows := (w64 (v6.fRows + a2)) } : T_impl_Tally) with fMany := (w64 ((({ v6 with fRows := (w64 (v6.fRows + a2)) } : T_impl_Tally).fMany) + a2)) } : T_impl_Tally) with fSum := (w64 ((({ ({ v6 with fRows := (w64 (v6.fRows + a2)) } : T_impl_Tally) with fMany := (w64 ((({ v6 with fRows := (w64 (v6.fRows + a2)) } : T_impl_Tally).fMany) + a2)) } : T_impl_Tally).fSum) + (w64 (a2 * v11.fN)))) } : T_impl_Tally)).length false) (OutP.list (v := 0) (by kernel_rfl)))
 refine pwp_skip ?_
 refine pwp_seq ?_
 refine pwp_seq ?_
 refine pwp_join (σ := Bool) (fun x19 => (⟨89, [(0, .ref 0 0 0 4 (x5.set v3.1.toNat ({ v6 with fRows := (w64 (v6.fRows + a2)) } : T_impl_Tally)).length false), (7, I v3.1), (82, B x19)], [some ⟨0, eL (x5.set v3.1.toNat ({ v6 with fRows := (w64 (v6.fRows + a2)) } : T_impl_Tally))⟩]⟩ : St)) (fun x19 => impl_tell_j2 a2 v3 x5 v6 x19 = some y) ?_ ?_
 refine rv 3 89 [(0, .ref 0 0 0 4 (x5.set v3.1.toNat ({ v6 with fRows := (w64 (v6.fRows + a2)) } : T_impl_Tally)).length false), (7, I v3.1), (9, .ptr 0 0 (v3.1.toNat * 4)), (66, .ptr 0 0 (v3.1.toNat * 4 + 1))] [some ⟨0, eL (x5.set v3.1.toNat ({ v6 with fRows := (w64 (v6.fRows + a2)) } : T_impl_Tally))⟩] ?_
 refine opsP_lde (r := I (({ v6 with fRows := (w64 (v6.fRows + a2)) } : T_impl_Tally).fRows)) τ_ok 67 3 1 (getI_set (y := ({ v6 with fRows := (w64 (v6.fRows + a2)) } : T_impl_Tally)) hv7) (by kernel_rfl) (by kernel_rfl) ?_
 refine v 2 89 [(0, .ref 0 0 0 4 (x5.set v3.1.toNat ({ v6 with fRows := (w64 (v6.fRows + a2)) } : T_impl_Tally)).length false), (7, I v3.1), (9, .ptr 0 0 (v3.1.toNat * 4)), (69, B ((({ v6 with fRows := (w64 (v6.fRows + a2)) } : T_impl_Tally).fRows) == 0))] [some ⟨0, eL (x5.set v3.1.toNat ({ v6 with fRows := (w64 (v6.fRows + a2)) } : T_impl_Tally))⟩] ?_
 rcases fk ((({ v6 with fRows := (w64 (v6.fRows + a2)) } : T_impl_Tally).fRows) == 0) with hc24 | hc24
 replace h := bT hc24 h
 rw [hc24]
 refine v 3 89 [(0, .ref 0 0 0 4 (x5.set v3.1.toNat ({ v6 with fRows := (w64 (v6.fRows + a2)) } : T_impl_Tally)).length false), (7, I v3.1), (9, .ptr 0 0 (v3.1.toNat * 4)), (69, B true), (72, .ptr 0 0 (v3.1.toNat * 4 + 2))] [some ⟨0, eL (x5.set v3.1.toNat ({ v6 with fRows := (w64 (v6.fRows + a2)) } : T_impl_Tally))⟩] ?_
 refine opsP_lde (r := I (({ v6 with fRows := (w64 (v6.fRows + a2)) } : T_impl_Tally).fMany)) τ_ok 73 3 2 (getI_set (y := ({ v6 with fRows := (w64 (v6.fRows + a2)) } : T_impl_Tally)) hv7) (by kernel_rfl) (by kernel_rfl) ?_
 refine v 3 89 [(0, .ref 0 0 0 4 (x5.set v3.1.toNat ({ v6 with fRows := (w64 (v6.fRows + a2)) } : T_impl_Tally)).length false), (7, I v3.1), (9, .ptr 0 0 (v3.1.toNat * 4)), (76, B ((({ v6 with fRows := (w64 (v6.fRows + a2)) } : T_impl_Tally).fMany) == 0))] [some ⟨0, eL (x5.set v3.1.toNat ({ v6 with fRows := (w64 (v6.fRows + a2)) } : T_impl_Tally))⟩] ?_
 rcases fk ((({ v6 with fRows := (w64 (v6.fRows + a2)) } : T_impl_Tally).fMany) == 0) with hc23 | hc23
 replace h := bT hc23 h
 rw [hc23]
 refine v 3 89 [(0, .ref 0 0 0 4 (x5.set v3.1.toNat ({ v6 with fRows := (w64 (v6.fRows + a2)) } : T_impl_Tally)).length false), (7, I v3.1), (76, B true), (79, .ptr 0 0 (v3.1.toNat * 4 + 3))] [some ⟨0, eL (x5.set v3.1.toNat ({ v6 with fRows := (w64 (v6.fRows + a2)) } : T_impl_Tally))⟩] ?_
 refine opsP_lde (r := I (({ v6 with fRows := (w64 (v6.fRows + a2)) } : T_impl_Tally).fSum)) τ_ok 80 3 3 (getI_set (y := ({ v6 with fRows := (w64 (v6.fRows + a2)) } : T_impl_Tally)) hv7) (by kernel_rfl) (by kernel_rfl) ?_
 refine ve 2 89 [(0, .ref 0 0 0 4 (x5.set v3.1.toNat ({ v6 with fRows := (w64 (v6.fRows + a2)) } : T_impl_Tally)).length false), (7, I v3.1), (82, B ((({ v6 with fRows := (w64 (v6.fRows + a2)) } : T_impl_Tally).fSum) == 0))] [some ⟨0, eL (x5.set v3.1.toNat ({ v6 with fRows := (w64 (v6.fRows + a2)) } : T_impl_Tally))⟩] ?_
 exact ⟨((({ v6 with fRows := (w64 (v6.fRows + a2)) } : T_impl_Tally).fSum) == 0), h, it [0, 7, 82]⟩
 replace h := bF hc23 h
 rw [hc23]
 refine ve 6 89 [(0, .ref 0 0 0 4 (x5.set v3.1.toNat ({ v6 with fRows := (w64 (v6.fRows + a2)) } : T_impl_Tally)).length false), (7, I v3.1), (82, B false)] [some ⟨0, eL (x5.set v3.1.toNat ({ v6 with fRows := (w64 (v6.fRows + a2)) } : T_impl_Tally))⟩] ?_
 exact ⟨false, h, it [0, 7, 82]⟩
 replace h := bF hc24 h
 rw [hc24]
 refine ve 13 89 [(0, .ref 0 0 0 4 (x5.set v3.1.toNat ({ v6 with fRows := (w64 (v6.fRows + a2)) } : T_impl_Tally)).length false), (7, I v3.1), (82, B false)] [some ⟨0, eL (x5.set v3.1.toNat ({ v6 with fRows := (w64 (v6.fRows + a2)) } : T_impl_Tally))⟩] ?_
 exact ⟨false, h, it [0, 7, 82]⟩
 rintro x19 h
 unfold impl_tell_j2 at h
 refine pc h (fun h => ?_) (fun h => ?_)
 refine rv 4 89 [(83, .ref 0 0 0 4 (x5.set v3.1.toNat ({ v6 with fRows := (w64 (v6.fRows + a2)) } : T_impl_Tally)).length false), (84, I v3.1), (86, I (w64 (v3.1 + 1)))] [some ⟨0, eL (x5.set v3.1.toNat ({ v6 with fRows := (w64 (v6.fRows + a2)) } : T_impl_Tally))⟩] ?_
 obtain ⟨v21, hv22, h⟩ := bindS h
 refine opsP_callM (xs := [.ref 0 0 0 4 (x5.set v3.1.toNat ({ v6 with fRows := (w64 (v6.fRows + a2)) } : T_impl_Tally)).length false, I v3.1, I (w64 (v3.1 + 1))]) (x := rf 1 0 4 v21) (bs := [⟨0, eL v21⟩]) τ 87 [0] (nx hX) (ok_delT hv22) (by kernel_rfl) (OutL.cons (OutP.list (v := 0) (by kernel_rfl)) (OutL.cons (OutP.frz rfl) (OutL.cons (OutP.frz rfl) (OutL.nil _)))) (by decide) (by kernel_rfl) ?_
 refine ve 1 89 [(0, rf 1 0 4 v21)] [none, sl 0 v21] ?_
 refine srve 89 [(6, rf 1 0 4 v21)] [none, sl 0 v21] ?_
 have h := si h
 subst h
 exact pwp_ret (rt (rf 1 0 4 v21) (OutP.list (v := 0) (by kernel_rfl)))
 refine pwp_skip ?_
 refine srve 89 [(6, .ref 0 0 0 4 (x5.set v3.1.toNat ({ v6 with fRows := (w64 (v6.fRows + a2)) } : T_impl_Tally)).length false)] [some ⟨0, eL (x5.set v3.1.toNat ({ v6 with fRows := (w64 (v6.fRows + a2)) } : T_impl_Tally))⟩] ?_
 have h := si h
 subst h
 exact pwp_ret (rt (.ref 0 0 0 4 (x5.set v3.1.toNat ({ v6 with fRows := (w64 (v6.fRows + a2)) } : T_impl_Tally)).length false) (OutP.list (v := 0) (by kernel_rfl)))
def impl_TalliesOk_j1 (x1 : Int) (K3 : Int → Option Bool) (x7 : Bool) : Option Bool := bif x7 then some false else K3 (w64 (x1 + 1))
def impl_TalliesOk_l0 (a0 : List T_impl_Tally) : Nat → Int → Option Bool
 | 0, _ => none
 | f2 + 1, x1 => bif (decide (x1 < (a0.length : Int))) then (getI a0 x1).bind fun v5 => (impl_Tally_ok v5).bind fun v9 => bif (!v9) then impl_TalliesOk_j1 x1 (impl_TalliesOk_l0 a0 f2) true else bif (decide (x1 > 0)) then (getI a0 (w64 (x1 - 1))).bind fun v11 => (impl_rowOrder v11.fKey v5.fKey).bind fun v13 => impl_TalliesOk_j1 x1 (impl_TalliesOk_l0 a0 f2) (decide (v13 ≥ 0)) else impl_TalliesOk_j1 x1 (impl_TalliesOk_l0 a0 f2) false else some true
def impl_TalliesOk (a0 : List T_impl_Tally) : Option Bool := impl_TalliesOk_l0 a0 FUEL 0
theorem ok_impl_TalliesOk {a0 : List T_impl_Tally} {y : Bool} (h : impl_TalliesOk a0 = some y) : OK Try.prog 74 [A a0] (B y) := by
 refine ow Try.func74 fun Γ hX => ?_
 unfold impl_TalliesOk at h
 refine srveM [4] 32 [(0, A a0)] [] ?_
 refine pwp_seq ?_
 refine srveM [4] 32 [(0, A a0), (5, A a0), (6, I (a0.length : Int)), (7, I 0)] [] ?_
 refine pwp_block ?_
 refine pwp_loop (ι := Nat × Int) (fun (f2, x1) => (⟨32, [(0, A a0), (5, A a0), (6, I (a0.length : Int)), (7, I x1)], []⟩ : St)) (fun (f2, x1) => impl_TalliesOk_l0 a0 f2 x1 = some y) Prod.fst (FUEL, 0) h (it [0, 5, 6, 7]) ?_
 rintro ⟨f2, x1⟩ h
 dsimp only at h ⊢
 rcases f2 with _ | f2
 cases h
 rw [impl_TalliesOk_l0] at h
 refine srveM [4] 32 [(0, A a0), (5, A a0), (6, I (a0.length : Int)), (7, I x1), (8, B (decide (x1 < (a0.length : Int))))] [] ?_
 refine pwp_seq ?_
 refine pc h (fun h => ?_) (fun h => ?_)
 refine pwp_skip ?_
 refine pwp_seq ?_
 refine pwp_block ?_
 refine srvM [4] 1 32 [(0, A a0), (5, A a0), (6, I (a0.length : Int)), (7, I x1), (9, I x1)] [] ?_
 obtain ⟨v5, hv6, h⟩ := bindS h
 refine opsP_idx τ_ok 10 hv6 (by kernel_rfl) ?_
 refine veM [4] 4 32 [(0, A a0), (3, I x1), (4, .ptr 0 0 0), (5, A a0), (6, I (a0.length : Int)), (7, I x1)] [sc 0 v5] ?_
 refine pwp_seq ?_
 refine pwp_join (σ := Bool) (fun x7 => (⟨32, [(0, A a0), (5, A a0), (6, I (a0.length : Int)), (7, I x1), (30, B x7)], [sc 0 v5]⟩ : St)) (fun x7 => impl_TalliesOk_j1 x1 (impl_TalliesOk_l0 a0 f2) x7 = some y) ?_ ?_
 refine ip 32 [(0, A a0), (3, I x1), (4, .ptr 0 0 0), (5, A a0), (6, I (a0.length : Int)), (7, I x1)] [sc 0 v5] ?_
 refine pwp_any ([[0], [], [], [], [], [], [], [], [], [], [], [], [], [0], [0], [], [], [], []]) ([[], [], [], [], [], [], [], [], [], [], [], [], [], [], [], [], [], [], []]) rfl (by kernel_rfl) ?_
 refine qvM [4] [0] (hB trivial) 1 32 [(12, E v5), (0, A a0), (3, I x1), (4, .ptr 0 0 0), (5, A a0), (6, I (a0.length : Int)), (7, I x1)] [sc 0 v5] ?_
 obtain ⟨v9, hv10, h⟩ := bindS h
 refine qX (some 13) (B v9) 32 [(13, B v9), (0, A a0), (3, I x1), (4, .ptr 0 0 0), (5, A a0), (6, I (a0.length : Int)), (7, I x1)] [sc 0 v5] (fun Γ' hΓ => CoreE.of_g (callV_sound (τ := τ) (by kernel_rfl) rfl (ok_impl_Tally_ok hv10) (FzTo.frz rfl))) trivial ?_
 refine qvM [4] [] trivial 2 32 [(15, B (!v9)), (0, A a0), (3, I x1), (4, .ptr 0 0 0), (5, A a0), (6, I (a0.length : Int)), (7, I x1)] [sc 0 v5] ?_
 rcases fk (!v9) with hc16 | hc16
 replace h := bT hc16 h
 rw [hc16]
 refine qvM [4] [] trivial 9 32 [(24, .lit undef), (23, .lit undef), (22, .lit undef), (21, .lit undef), (20, .lit undef), (19, .lit undef), (18, .lit undef), (17, .lit undef), (16, .lit undef), (15, B true), (0, A a0), (4, .ptr 0 0 0), (5, A a0), (6, I (a0.length : Int)), (7, I x1)] [sc 0 v5] ?_
 refine qvM [4] [0] (hB trivial) 2 32 [(26, .lit undef), (25, .lit undef), (24, .lit undef), (23, .lit undef), (22, .lit undef), (21, .lit undef), (20, .lit undef), (19, .lit undef), (18, .lit undef), (17, .lit undef), (16, .lit undef), (15, B true), (0, A a0), (5, A a0), (6, I (a0.length : Int)), (7, I x1)] [sc 0 v5] ?_
 refine qvM [4] [] trivial 4 32 [(30, B true), (29, .lit undef), (28, .lit undef), (27, .lit undef), (26, .lit undef), (25, .lit undef), (24, .lit undef), (23, .lit undef), (22, .lit undef), (21, .lit undef), (20, .lit undef), (19, .lit undef), (18, .lit undef), (17, .lit undef), (16, .lit undef), (0, A a0), (5, A a0), (6, I (a0.length : Int)), (7, I x1)] [sc 0 v5] ?_
 refine qn 32 [(0, A a0), (5, A a0), (6, I (a0.length : Int)), (7, I x1), (16, .lit undef), (17, .lit undef), (18, .lit undef), (19, .lit undef), (20, .lit undef), (21, .lit undef), (22, .lit undef), (23, .lit undef), (24, .lit undef), (25, .lit undef), (26, .lit undef), (27, .lit undef), (28, .lit undef), (29, .lit undef), (30, B true)] [sc 0 v5] ?_
 exact ⟨true, h, it [0, 5, 6, 7, 30]⟩
 replace h := bF hc16 h
 rw [hc16]
 refine qvM [4] [] trivial 3 32 [(18, B (decide (x1 > 0))), (17, B (decide (x1 > 0))), (16, I x1), (15, B false), (0, A a0), (3, I x1), (4, .ptr 0 0 0), (5, A a0), (6, I (a0.length : Int)), (7, I x1)] [sc 0 v5] ?_
 rcases fk (decide (x1 > 0)) with hc15 | hc15
 replace h := bT hc15 h
 rw [hc15]
 refine qvM [4] [] trivial 3 32 [(21, I (w64 (x1 - 1))), (20, I x1), (19, A a0), (18, B true), (17, B true), (16, I x1), (15, B false), (0, A a0), (4, .ptr 0 0 0), (5, A a0), (6, I (a0.length : Int)), (7, I x1)] [sc 0 v5] ?_
 obtain ⟨v11, hv12, h⟩ := bindS h
 refine qX (some 22) (pf v11 0) 32 [(22, pf v11 0), (21, I (w64 (x1 - 1))), (20, I x1), (19, A a0), (18, B true), (17, B true), (16, I x1), (15, B false), (0, A a0), (4, .ptr 0 0 0), (5, A a0), (6, I (a0.length : Int)), (7, I x1)] [sc 0 v5] (fun Γ' hΓ => CoreE.of_y (idxV_sound τ_ok (by kernel_rfl) hv12)) trivial ?_
 refine qvM [4] [] trivial 2 32 [(24, A v11.fKey), (23, pf v11 0), (22, pf v11 0), (21, I (w64 (x1 - 1))), (20, I x1), (19, A a0), (18, B true), (17, B true), (16, I x1), (15, B false), (0, A a0), (4, .ptr 0 0 0), (5, A a0), (6, I (a0.length : Int)), (7, I x1)] [sc 0 v5] ?_
 refine qvM [4] [0] (hB trivial) 2 32 [(26, A v5.fKey), (25, .ptr 0 0 0), (24, A v11.fKey), (23, pf v11 0), (22, pf v11 0), (21, I (w64 (x1 - 1))), (20, I x1), (19, A a0), (18, B true), (17, B true), (16, I x1), (15, B false), (0, A a0), (5, A a0), (6, I (a0.length : Int)), (7, I x1)] [sc 0 v5] ?_
 obtain ⟨v13, hv14, h⟩ := bindS h
 refine qX (some 27) (I v13) 32 [(27, I v13), (26, A v5.fKey), (25, .ptr 0 0 0), (24, A v11.fKey), (23, pf v11 0), (22, pf v11 0), (21, I (w64 (x1 - 1))), (20, I x1), (19, A a0), (18, B true), (17, B true), (16, I x1), (15, B false), (0, A a0), (5, A a0), (6, I (a0.length : Int)), (7, I x1)] [sc 0 v5] (fun Γ' hΓ => CoreE.of_g (callV_sound (τ := τ) (by kernel_rfl) rfl (ok_impl_rowOrder hv14) (FzTo.frz rfl))) trivial ?_
 refine qvnM [4] [] trivial 3 32 [(0, A a0), (5, A a0), (6, I (a0.length : Int)), (7, I x1), (16, I x1), (17, B true), (18, B true), (19, A a0), (20, I x1), (21, I (w64 (x1 - 1))), (22, pf v11 0), (23, pf v11 0), (24, A v11.fKey), (25, .ptr 0 0 0), (26, A v5.fKey), (27, I v13), (28, B (decide (v13 ≥ 0))), (29, B (decide (v13 ≥ 0))), (30, B (decide (v13 ≥ 0)))] [sc 0 v5] ?_
 exact ⟨(decide (v13 ≥ 0)), h, it [0, 5, 6, 7, 30]⟩
 replace h := bF hc15 h
 rw [hc15]
 refine qvM [4] [] trivial 6 32 [(24, .lit undef), (23, .lit undef), (22, .lit undef), (21, .lit undef), (20, .lit undef), (19, .lit undef), (18, B false), (17, B false), (16, I x1), (15, B false), (0, A a0), (4, .ptr 0 0 0), (5, A a0), (6, I (a0.length : Int)), (7, I x1)] [sc 0 v5] ?_
 refine qvM [4] [0] (hB trivial) 2 32 [(26, .lit undef), (25, .lit undef), (24, .lit undef), (23, .lit undef), (22, .lit undef), (21, .lit undef), (20, .lit undef), (19, .lit undef), (18, B false), (17, B false), (16, I x1), (15, B false), (0, A a0), (5, A a0), (6, I (a0.length : Int)), (7, I x1)] [sc 0 v5] ?_
 refine qvM [4] [] trivial 4 32 [(30, B false), (29, B false), (28, .lit undef), (27, .lit undef), (26, .lit undef), (25, .lit undef), (24, .lit undef), (23, .lit undef), (22, .lit undef), (21, .lit undef), (20, .lit undef), (19, .lit undef), (18, B false), (17, B false), (16, I x1), (0, A a0), (5, A a0), (6, I (a0.length : Int)), (7, I x1)] [sc 0 v5] ?_
 refine qn 32 [(0, A a0), (5, A a0), (6, I (a0.length : Int)), (7, I x1), (16, I x1), (17, B false), (18, B false), (19, .lit undef), (20, .lit undef), (21, .lit undef), (22, .lit undef), (23, .lit undef), (24, .lit undef), (25, .lit undef), (26, .lit undef), (27, .lit undef), (28, .lit undef), (29, B false), (30, B false)] [sc 0 v5] ?_
 exact ⟨false, h, it [0, 5, 6, 7, 30]⟩
 rintro x7 h
 unfold impl_TalliesOk_j1 at h
 refine pc h (fun h => ?_) (fun h => ?_)
 refine srveM [4] 32 [(2, B false)] [sc 0 v5] ?_
 cases h
 exact pwp_ret rz
 refine pwp_skip ?_
 refine rveM [4] 32 [(0, A a0), (5, A a0), (6, I (a0.length : Int)), (7, I (w64 (x1 + 1)))] [sc 0 v5] ?_
 exact ⟨(f2, (w64 (x1 + 1))), h, Nat.lt_succ_self _, (it (st' := ⟨32, [(0, A a0), (5, A a0), (6, I (a0.length : Int)), (7, I (w64 (x1 + 1)))], [sc 0 v5]⟩) [0, 5, 6, 7]).trans (Imp.truncS 0 (nx hX) (by kernel_rfl) (allBelow_mem (by exact (And.intro rfl (And.intro rfl (And.intro rfl (And.intro rfl trivial)))))) (by exact trivial) (by kernel_rfl))⟩
 refine pwp_exit ?_
 refine srveM [4] 32 [(2, B true)] [] ?_
 cases h
 exact pwp_ret rz
def slices_SortStableFunc_impl_Value_impl_Value_s3_w (a0 : List (List T_impl_Value)) (a1 : (List T_impl_Value) → (List T_impl_Value) → Option Int) : Option (List (List T_impl_Value)) := (slices_stableCmpFunc_impl_Value a0 (a0.length : Int) a1).bind fun v1 => some v1
def slices_SortStableFunc_impl_Value_impl_Value_s3 (a0 : List (List T_impl_Value)) (a1 : (List T_impl_Value) → (List T_impl_Value) → Option Int) : Option (List (List T_impl_Value)) := (slices_SortStableFunc_impl_Value_impl_Value_s3_w a0 a1).bind fun y => bif (y.length == a0.length) then some y else none
theorem len_slices_SortStableFunc_impl_Value_impl_Value_s3 {a0 : List (List T_impl_Value)} {a1 : (List T_impl_Value) → (List T_impl_Value) → Option Int} {y : List (List T_impl_Value)} (h : slices_SortStableFunc_impl_Value_impl_Value_s3 a0 a1 = some y) : y.length = a0.length := (bindLen (f := fun y : List (List T_impl_Value) => y) h).2
theorem ok_slices_SortStableFunc_impl_Value_impl_Value_s3 {a0 : List (List T_impl_Value)} {g1 : FuncId} {c1 : List V} (hz1 : frzL c1 = true) {a1 : (List T_impl_Value) → (List T_impl_Value) → Option Int} (hp1 : ∀ x0 x1 y, a1 x0 x1 = some y → OK Try.prog g1 ([A x0, A x1] ++ c1) (I y)) {y : List (List T_impl_Value)} (h : slices_SortStableFunc_impl_Value_impl_Value_s3 a0 a1 = some y) : OKs Try.prog 102 [] 1 a0.length (eL a0) [.fn g1 c1] (.tup []) (eL y) := by
 refine OKs_of_pwp τ_ok Try.func102 rfl (by kernel_rfl) rfl (eL_frz _) (eL_frz _) (by rw [eL_len, eL_len, len_slices_SortStableFunc_impl_Value_impl_Value_s3 h]) fun Γ hQ => ?_
 refine pwp_imp (Imp.to (st' := ⟨9, [(0, rf 0 0 1 a0), (1, .fn g1 c1)], [sl 0 a0]⟩) [0, 1] (by kernel_rfl)) ?_
 have h := (bindLen (f := fun y : List (List T_impl_Value) => y) h).1
 unfold slices_SortStableFunc_impl_Value_impl_Value_s3_w at h
 refine rv 4 9 [(4, rf 0 0 1 a0), (6, I (a0.length : Int)), (7, .fn g1 c1)] [sl 0 a0] ?_
 obtain ⟨v1, hv2, h⟩ := bindS h
 refine opsP_E (dd := some 8) (x := .tup []) (callS_E τ 8 0 0 (ok_slices_stableCmpFunc_impl_Value (hz1) (hp1) hv2) (FzTo.tup FzToL.nil) rfl (by simp only [frzL, frz, hz1, Bool.and_true]) (by kernel_rfl)) ?_
 refine io 9 [(4, rf 0 0 1 a0), (6, I (a0.length : Int)), (7, .fn g1 c1), (8, .tup [])] [sl 0 v1] ?_
 refine opsP_ren (st' := ⟨9, [(4, rf 0 0 1 v1), (6, I (a0.length : Int)), (7, .fn g1 c1), (8, .tup [])], [sl 0 v1]⟩) 0 v1.length (renC (ren_ref (len_slices_stableCmpFunc_impl_Value hv2).symm) (renC trivial (renC trivial (renC trivial renC0)))) (by kernel_rfl) ?_
 refine ve 0 9 [] [sl 0 v1] ?_
 have h := si h
 subst h
 first | exact ⟨.inl rfl, .tup [], _, 0, by kernel_rfl, (OutP.tup (OutL.nil _)), by decide, by decide, by kernel_rfl⟩ | exact pwp_ret ⟨.inr rfl, .tup [], _, 0, by kernel_rfl, (OutP.tup (OutL.nil _)), by decide, by decide, by kernel_rfl⟩
def impl_TalliesOf_l1 (a0 : List (List T_impl_Value)) : Nat → Int → (List T_impl_Tally) → Option (List T_impl_Tally)
 | 0, _, _ => none
 | f6 + 1, x4, x5 => bif (decide (x4 < (a0.length : Int))) then (getI a0 x4).bind fun v9 => (impl_tell x5 v9 1).bind fun v11 => (impl_TalliesOf_l1 a0 f6) (w64 (x4 + 1)) v11 else (impl_tallies x5).bind fun v13 => some v13
def impl_TalliesOf_j0 (a0 : List (List T_impl_Value)) (x1 : Bool) : Option (List T_impl_Tally) := bif x1 then some ([] : List T_impl_Tally) else impl_TalliesOf_l1 a0 FUEL 0 ([] : List T_impl_Tally)
def impl_TalliesOf (a0 : List (List T_impl_Value)) : Option (List T_impl_Tally) := bif (decide ((a0.length : Int) > 100)) then impl_TalliesOf_j0 a0 true else (slices_ContainsFunc_impl_Value_impl_Value_s3 a0 impl_TalliesOf_1).bind fun v15 => impl_TalliesOf_j0 a0 v15
theorem ok_impl_TalliesOf {a0 : List (List T_impl_Value)} {y : List T_impl_Tally} (h : impl_TalliesOf a0 = some y) : OK Try.prog 22 [A a0] (A y) := by
 refine ow Try.func22 fun Γ hX => ?_
 unfold impl_TalliesOf at h
 refine srve 25 [(0, A a0)] [] ?_
 refine pwp_seq ?_
 refine pwp_seq ?_
 refine pwp_join (σ := Bool) (fun x1 => (⟨25, [(0, A a0), (12, B x1)], []⟩ : St)) (fun x1 => impl_TalliesOf_j0 a0 x1 = some y) ?_ ?_
 refine rv 4 25 [(0, A a0), (9, B (decide ((a0.length : Int) > 100)))] [] ?_
 rcases fk (decide ((a0.length : Int) > 100)) with hc17 | hc17
 replace h := bT hc17 h
 rw [hc17]
 refine ve 3 25 [(0, A a0), (12, B true)] [] ?_
 exact ⟨true, h, it [0, 12]⟩
 replace h := bF hc17 h
 rw [hc17]
 refine v 1 25 [(0, A a0), (9, B false), (10, A a0)] [] ?_
 obtain ⟨v15, hv16, h⟩ := bindS h
 refine cF 11 (ok_slices_ContainsFunc_impl_Value_impl_Value_s3 (rfl) (fun _ w hw => ok_impl_TalliesOf_1 hw) hv16) ?_
 refine ve 1 25 [(0, A a0), (12, B v15)] [] ?_
 exact ⟨v15, h, it [0, 12]⟩
 rintro x1 h
 unfold impl_TalliesOf_j0 at h
 refine pc h (fun h => ?_) (fun h => ?_)
 refine srve 25 [(2, .arr 4 0 (eL ([] : List T_impl_Tally)) true)] [] ?_
 refine ip 25 [(2, .arr 4 0 (eL ([] : List T_impl_Tally)) true)] [] ?_
 refine pwp_imp (Imp.unfS (st' := ⟨25, [(2, A ([] : List T_impl_Tally))], []⟩) 2 [2] (by kernel_rfl)) ?_
 cases h
 exact pwp_ret rz
 refine pwp_skip ?_
 refine srve 25 [(0, A a0), (3, .arr 4 0 (eL ([] : List T_impl_Tally)) true)] [] ?_
 refine pwp_seq ?_
 refine srve 25 [(3, .arr 4 0 (eL ([] : List T_impl_Tally)) true), (13, A a0), (14, I (a0.length : Int)), (15, I 0)] [] ?_
 refine pwp_block ?_
 refine pwp_loop (ι := Nat × Int × (List T_impl_Tally)) (fun (f6, x4, x5) => (⟨25, [(3, rf 0 0 4 x5), (13, A a0), (14, I (a0.length : Int)), (15, I x4)], [sl 0 x5]⟩ : St)) (fun (f6, x4, x5) => impl_TalliesOf_l1 a0 f6 x4 x5 = some y) Prod.fst (FUEL, 0, ([] : List T_impl_Tally)) h (Imp.thawS 3 [3, 13, 14, 15] (by kernel_rfl)) ?_
 rintro ⟨f6, x4, x5⟩ h
 dsimp only at h ⊢
 rcases f6 with _ | f6
 cases h
 rw [impl_TalliesOf_l1] at h
 refine srve 25 [(3, rf 0 0 4 x5), (13, A a0), (14, I (a0.length : Int)), (15, I x4), (16, B (decide (x4 < (a0.length : Int))))] [sl 0 x5] ?_
 refine pwp_seq ?_
 refine pc h (fun h => ?_) (fun h => ?_)
 refine pwp_skip ?_
 refine pwp_seq ?_
 refine pwp_block ?_
 refine pwp_seq ?_
 refine pwp_region ?_
 obtain ⟨v9, hv10, h⟩ := bindS h
 refine opsP_idx τ_ok 17 hv10 (by kernel_rfl) ?_
 refine ve 2 25 [(3, rf 0 0 4 x5), (5, A v9), (13, A a0), (14, I (a0.length : Int)), (15, I x4)] [sl 0 x5] ?_
 refine rv 2 25 [(13, A a0), (14, I (a0.length : Int)), (15, I x4), (19, rf 0 0 4 x5), (20, A v9)] [sl 0 x5] ?_
 obtain ⟨v11, hv12, h⟩ := bindS h
 refine opsP_callM (xs := [rf 0 0 4 x5, A v9, I 1]) (x := rf 1 0 4 v11) (bs := [⟨0, eL v11⟩]) τ 21 [0] (nx hX) (ok_impl_tell hv12) (by kernel_rfl) (OutL.cons (OutP.list (v := 0) (by kernel_rfl)) (OutL.cons (OutP.frz rfl) (OutL.cons (OutP.frz rfl) (OutL.nil _)))) (by decide) (by kernel_rfl) ?_
 refine ve 1 25 [(3, rf 1 0 4 v11), (13, A a0), (14, I (a0.length : Int)), (15, I x4)] [none, sl 0 v11] ?_
 refine rve 25 [(3, rf 1 0 4 v11), (13, A a0), (14, I (a0.length : Int)), (15, I (w64 (x4 + 1)))] [none, sl 0 v11] ?_
 exact ⟨(f6, (w64 (x4 + 1)), v11), h, Nat.lt_succ_self _, qt (it (st' := ⟨25, [(3, rf 1 0 4 v11), (13, A a0), (14, I (a0.length : Int)), (15, I (w64 (x4 + 1)))], [none, sl 0 v11]⟩) [3, 13, 14, 15]) (qt (Imp.mvS (st' := ⟨25, [(3, rf 0 0 4 v11), (13, A a0), (14, I (a0.length : Int)), (15, I (w64 (x4 + 1)))], [sl 0 v11, none]⟩) 1 0 [3, 13, 14, 15] (nx hX) (v := 0) (cs := eL v11) (by kernel_rfl) (by kernel_rfl) (by exact (And.intro (eL_frz _) trivial)) (by kernel_rfl) (by kernel_rfl)) (Imp.truncS 1 (nx hX) (by kernel_rfl) (allBelow_mem (by exact (And.intro rfl (And.intro rfl (And.intro rfl (And.intro rfl trivial)))))) (by exact (And.intro (frz_below (eL_frz _)) trivial)) (by kernel_rfl)))⟩
 refine pwp_exit ?_
 refine srv 1 25 [(23, rf 0 0 4 x5)] [sl 0 x5] ?_
 refine opsP_imp (Imp.freezeB (v := 0) (cs := eL x5) (st' := ⟨25, [(23, A x5)], [none]⟩) 0 0 (nx hX) (by kernel_rfl) (eL_frz _) (wholeC (whole_is (eL_len x5).symm) wholeC0) (HpRel.key HpRel.nil) (by kernel_rfl) rfl (nx hX)) ?_
 obtain ⟨v13, hv14, h⟩ := bindS h
 refine cF 24 (ok_impl_tallies hv14) ?_
 refine ve 1 25 [(2, A v13)] [none] ?_
 cases h
 exact pwp_ret rz
def impl_tallies_L0_l0 (a0 : List T_impl_Tally) : Nat → Int → (List T_impl_Tally) → Option (List T_impl_Tally)
 | 0, _, _ => none
 | f5 + 1, x3, x4 => bif (decide (x3 < (a0.length : Int))) then (getI a0 x3).bind fun v8 => (impl_clone_impl_Value v8.fKey).bind fun v10 => (app x4 ([{ v8 with fKey := v10 }] : List T_impl_Tally)).bind fun v12 => (impl_tallies_L0_l0 a0 f5) (w64 (x3 + 1)) v12 else (slices_Clip_impl_Tally_impl_Tally x4).bind fun v14 => some v14
def impl_tallies_L0 (a0 : List T_impl_Tally) : Option (List T_impl_Tally) := impl_tallies_L0_l0 a0 FUEL 0 ([] : List T_impl_Tally)
theorem ok_impl_tallies_L0 {a0 : List T_impl_Tally} {y : List T_impl_Tally} (h : impl_tallies_L0 a0 = some y) : OKs Try.prog 71 [] 4 a0.length (eL a0) [] (A y) (eL a0) := by
 refine OKs_of_pwp τ_ok Try.func71 rfl (by kernel_rfl) rfl (eL_frz _) (eL_frz _) rfl fun Γ hQ => ?_
 refine pwp_imp (Imp.to (st' := ⟨23, [(0, rf 0 0 4 a0)], [sl 0 a0]⟩) [0] (by kernel_rfl)) ?_
 unfold impl_tallies_L0 at h
 refine srveM [5] 23 [(0, rf 0 0 4 a0)] [sl 0 a0] ?_
 refine srveM [5] 23 [(0, rf 0 0 4 a0), (3, .arr 4 0 (eL ([] : List T_impl_Tally)) true)] [sl 0 a0] ?_
 refine pwp_seq ?_
 refine srveM [5] 23 [(3, .arr 4 0 (eL ([] : List T_impl_Tally)) true), (6, rf 0 0 4 a0), (7, I (a0.length : Int)), (8, I 0)] [sl 0 a0] ?_
 refine pwp_block ?_
 refine pwp_loop (ι := Nat × Int × (List T_impl_Tally)) (fun (f5, x3, x4) => (⟨23, [(3, rf 1 0 4 x4), (6, rf 0 0 4 a0), (7, I (a0.length : Int)), (8, I x3)], [sl 0 a0, sl 0 x4]⟩ : St)) (fun (f5, x3, x4) => impl_tallies_L0_l0 a0 f5 x3 x4 = some y) Prod.fst (FUEL, 0, ([] : List T_impl_Tally)) h (Imp.thawS 3 [3, 6, 7, 8] (by kernel_rfl)) ?_
 rintro ⟨f5, x3, x4⟩ h
 dsimp only at h ⊢
 rcases f5 with _ | f5
 cases h
 rw [impl_tallies_L0_l0] at h
 refine srveM [5] 23 [(3, rf 1 0 4 x4), (6, rf 0 0 4 a0), (7, I (a0.length : Int)), (8, I x3), (9, B (decide (x3 < (a0.length : Int))))] [sl 0 a0, sl 0 x4] ?_
 refine pwp_seq ?_
 refine pc h (fun h => ?_) (fun h => ?_)
 refine pwp_skip ?_
 refine pwp_seq ?_
 refine pwp_block ?_
 refine pwp_seq ?_
 refine pwp_region ?_
 obtain ⟨v8, hv9, h⟩ := bindS h
 refine opsP_idr τ_ok 10 0 0 a0.length hv9 rfl (by kernel_rfl) ?_
 refine opsP_lde (r := E v8) τ_ok 11 100 0 hv9 (by kernel_rfl) (by kernel_rfl) ?_
 refine veM [5] 2 23 [(3, rf 1 0 4 x4), (5, .ptr 2 0 0), (6, rf 0 0 4 a0), (7, I (a0.length : Int)), (8, I x3)] [sl 0 a0, sl 0 x4, sc 0 v8] ?_
 refine srvM [5] 2 23 [(3, rf 1 0 4 x4), (5, .ptr 2 0 0), (6, rf 0 0 4 a0), (7, I (a0.length : Int)), (8, I x3), (13, A v8.fKey)] [sl 0 a0, sl 0 x4, sc 0 v8] ?_
 obtain ⟨v10, hv11, h⟩ := bindS h
 refine cF 14 (ok_impl_clone_impl_Value hv11) ?_
 refine veM [5] 2 23 [(3, rf 1 0 4 x4), (5, .ptr 2 0 0), (6, rf 0 0 4 a0), (7, I (a0.length : Int)), (8, I x3)] [sl 0 a0, sl 0 x4, some ⟨0, Enc.cells ({ v8 with fKey := v10 })⟩] ?_
 refine rvM [5] 3 23 [(6, rf 0 0 4 a0), (7, I (a0.length : Int)), (8, I x3), (16, rf 1 0 4 x4), (18, .arr 4 ([{ v8 with fKey := v10 }] : List T_impl_Tally).length (eL ([{ v8 with fKey := v10 }] : List T_impl_Tally)) true)] [sl 0 a0, sl 0 x4, some ⟨0, Enc.cells ({ v8 with fKey := v10 })⟩] ?_
 obtain ⟨v12, hv13, h⟩ := bindS h
 refine opsP_app τ_ok 19 1 0 (pn hQ) hv13 (by kernel_rfl) ?_
 refine veM [5] 1 23 [(3, rf 1 1 4 v12), (6, rf 0 0 4 a0), (7, I (a0.length : Int)), (8, I x3)] [sl 0 a0, sl 1 v12, some ⟨0, Enc.cells ({ v8 with fKey := v10 })⟩] ?_
 refine rveM [5] 23 [(3, rf 1 1 4 v12), (6, rf 0 0 4 a0), (7, I (a0.length : Int)), (8, I (w64 (x3 + 1)))] [sl 0 a0, sl 1 v12, some ⟨0, Enc.cells ({ v8 with fKey := v10 })⟩] ?_
 exact ⟨(f5, (w64 (x3 + 1)), v12), h, Nat.lt_succ_self _, qt (it (st' := ⟨23, [(3, rf 1 1 4 v12), (6, rf 0 0 4 a0), (7, I (a0.length : Int)), (8, I (w64 (x3 + 1)))], [sl 0 a0, sl 1 v12, some ⟨0, Enc.cells ({ v8 with fKey := v10 })⟩]⟩) [3, 6, 7, 8]) (qt (Imp.truncS (st' := ⟨23, [(3, rf 1 1 4 v12), (6, rf 0 0 4 a0), (7, I (a0.length : Int)), (8, I (w64 (x3 + 1)))], [sl 0 a0, sl 1 v12]⟩) 2 (pl hQ) (by kernel_rfl) (allBelow_mem (by exact (And.intro rfl (And.intro rfl (And.intro rfl (And.intro rfl trivial)))))) (by exact (And.intro (frz_below (eL_frz _)) (And.intro (frz_below (eL_frz _)) trivial))) (by kernel_rfl)) (Imp.reverS 1 1 (eL v12) [3, 6, 7, 8] (by kernel_rfl) (by exact (And.intro (eL_frz _) (And.intro (eL_frz _) trivial))) (by kernel_rfl)))⟩
 refine pwp_exit ?_
 refine srvM [5] 1 23 [(21, rf 1 0 4 x4)] [sl 0 a0, sl 0 x4] ?_
 refine opsP_imp (Imp.freezeB (v := 0) (cs := eL x4) (st' := ⟨23, [(21, A x4)], [sl 0 a0, none]⟩) 1 0 (pn hQ) (by kernel_rfl) (eL_frz _) (wholeC (whole_is (eL_len x4).symm) wholeC0) (HpRel.frz rfl (eL_frz _) (HpRel.key HpRel.nil)) (by kernel_rfl) rfl (p01 hQ)) ?_
 obtain ⟨v14, hv15, h⟩ := bindS h
 refine cF 22 (ok_slices_Clip_impl_Tally_impl_Tally hv15) ?_
 refine veM [5] 1 23 [(2, A v14)] [sl 0 a0, none] ?_
 have h := si h
 subst h
 exact pwp_ret ⟨.inr rfl, A v14, _, 0, by kernel_rfl, (OutP.frz (by kernel_rfl)), by decide, by decide, by kernel_rfl⟩
def slices_Clip_impl_Tally_impl_Tally_R (a0 : List T_impl_Tally) : Option (List T_impl_Tally) := (slI a0 none (some (a0.length : Int)) (some (a0.length : Int))).bind fun v1 => some v1
theorem ok_slices_Clip_impl_Tally_impl_Tally_R {a0 : List T_impl_Tally} {y : List T_impl_Tally} (h : slices_Clip_impl_Tally_impl_Tally_R a0 = some y) : OKm Try.prog 126 [O a0] (O y) := by
 refine OKm_of_pwp (sl := [rf 0 0 4 a0]) (bs := [⟨0, eL a0⟩]) τ_ok Try.func126 rfl (by kernel_rfl) rfl (by kernel_rfl) fun Γ hX => ?_
 refine pwp_imp (Imp.to (st' := ⟨9, [(0, rf 0 0 4 a0)], [sl 0 a0]⟩) [0] (by kernel_rfl)) ?_
 unfold slices_Clip_impl_Tally_impl_Tally_R at h
 refine srve 9 [(0, rf 0 0 4 a0)] [sl 0 a0] ?_
 refine srv 5 9 [(3, rf 0 0 4 a0), (5, I (a0.length : Int)), (7, I (a0.length : Int))] [sl 0 a0] ?_
 obtain ⟨v1, hv2, h⟩ := bindS h
 refine opsP_slr τ_ok 8 0 0 a0.length hv2 rfl (by kernel_rfl) ?_
 refine ve 1 9 [(2, rf 0 0 4 v1)] [sl 0 a0] ?_
 refine ip 9 [(2, rf 0 0 4 v1)] [sl 0 a0] ?_
 refine pwp_imp (Imp.cut (st' := ⟨9, [(2, rf 0 0 4 v1)], [sl 0 v1]⟩) 0 0 a0 v1 (by kernel_rfl) (slI_view hv2) (by kernel_rfl)) ?_
 have h := si h
 subst h
 exact pwp_ret (rt (rf 0 0 4 v1) (OutP.list (v := 0) (by kernel_rfl)))
def impl_tallies_R_l0 (a0 : List T_impl_Tally) : Nat → Int → (List T_impl_Tally) → Option (List T_impl_Tally)
 | 0, _, _ => none
 | f4 + 1, x2, x3 => bif (decide (x2 < (a0.length : Int))) then (getI a0 x2).bind fun v7 => (impl_clone_impl_Value v7.fKey).bind fun v9 => (app x3 ([{ v7 with fKey := v9 }] : List T_impl_Tally)).bind fun v11 => (impl_tallies_R_l0 a0 f4) (w64 (x2 + 1)) v11 else (slices_Clip_impl_Tally_impl_Tally_R x3).bind fun v13 => some v13
def impl_tallies_R (a0 : List T_impl_Tally) : Option (List T_impl_Tally) := impl_tallies_R_l0 a0 FUEL 0 ([] : List T_impl_Tally)
theorem ok_impl_tallies_R {a0 : List T_impl_Tally} {y : List T_impl_Tally} (h : impl_tallies_R a0 = some y) : OK Try.prog 71 [A a0] (O y) := by
 refine ow Try.func71 fun Γ hX => ?_
 unfold impl_tallies_R at h
 refine srveM [5] 23 [(0, A a0)] [] ?_
 refine srveM [5] 23 [(0, A a0), (3, .arr 4 0 (eL ([] : List T_impl_Tally)) true)] [] ?_
 refine pwp_seq ?_
 refine srveM [5] 23 [(3, .arr 4 0 (eL ([] : List T_impl_Tally)) true), (6, A a0), (7, I (a0.length : Int)), (8, I 0)] [] ?_
 refine pwp_block ?_
 refine pwp_loop (ι := Nat × Int × (List T_impl_Tally)) (fun (f4, x2, x3) => (⟨23, [(3, rf 0 0 4 x3), (6, A a0), (7, I (a0.length : Int)), (8, I x2)], [sl 0 x3]⟩ : St)) (fun (f4, x2, x3) => impl_tallies_R_l0 a0 f4 x2 x3 = some y) Prod.fst (FUEL, 0, ([] : List T_impl_Tally)) h (Imp.thawS 3 [3, 6, 7, 8] (by kernel_rfl)) ?_
 rintro ⟨f4, x2, x3⟩ h
 dsimp only at h ⊢
 rcases f4 with _ | f4
 cases h
 rw [impl_tallies_R_l0] at h
 refine srveM [5] 23 [(3, rf 0 0 4 x3), (6, A a0), (7, I (a0.length : Int)), (8, I x2), (9, B (decide (x2 < (a0.length : Int))))] [sl 0 x3] ?_
 refine pwp_seq ?_
 refine pc h (fun h => ?_) (fun h => ?_)
 refine pwp_skip ?_
 refine pwp_seq ?_
 refine pwp_block ?_
 refine pwp_seq ?_
 refine pwp_region ?_
 obtain ⟨v7, hv8, h⟩ := bindS h
 refine opsP_idx τ_ok 10 hv8 (by kernel_rfl) ?_
 refine veM [5] 3 23 [(3, rf 0 0 4 x3), (5, .ptr 1 0 0), (6, A a0), (7, I (a0.length : Int)), (8, I x2)] [sl 0 x3, sc 0 v7] ?_
 refine srvM [5] 2 23 [(3, rf 0 0 4 x3), (5, .ptr 1 0 0), (6, A a0), (7, I (a0.length : Int)), (8, I x2), (13, A v7.fKey)] [sl 0 x3, sc 0 v7] ?_
 obtain ⟨v9, hv10, h⟩ := bindS h
 refine cF 14 (ok_impl_clone_impl_Value hv10) ?_
 refine veM [5] 2 23 [(3, rf 0 0 4 x3), (5, .ptr 1 0 0), (6, A a0), (7, I (a0.length : Int)), (8, I x2)] [sl 0 x3, some ⟨0, Enc.cells ({ v7 with fKey := v9 })⟩] ?_
 refine rvM [5] 3 23 [(6, A a0), (7, I (a0.length : Int)), (8, I x2), (16, rf 0 0 4 x3), (18, .arr 4 ([{ v7 with fKey := v9 }] : List T_impl_Tally).length (eL ([{ v7 with fKey := v9 }] : List T_impl_Tally)) true)] [sl 0 x3, some ⟨0, Enc.cells ({ v7 with fKey := v9 })⟩] ?_
 obtain ⟨v11, hv12, h⟩ := bindS h
 refine opsP_app τ_ok 19 0 0 (nx hX) hv12 (by kernel_rfl) ?_
 refine veM [5] 1 23 [(3, rf 0 1 4 v11), (6, A a0), (7, I (a0.length : Int)), (8, I x2)] [sl 1 v11, some ⟨0, Enc.cells ({ v7 with fKey := v9 })⟩] ?_
 refine rveM [5] 23 [(3, rf 0 1 4 v11), (6, A a0), (7, I (a0.length : Int)), (8, I (w64 (x2 + 1)))] [sl 1 v11, some ⟨0, Enc.cells ({ v7 with fKey := v9 })⟩] ?_
 exact ⟨(f4, (w64 (x2 + 1)), v11), h, Nat.lt_succ_self _, qt (it (st' := ⟨23, [(3, rf 0 1 4 v11), (6, A a0), (7, I (a0.length : Int)), (8, I (w64 (x2 + 1)))], [sl 1 v11, some ⟨0, Enc.cells ({ v7 with fKey := v9 })⟩]⟩) [3, 6, 7, 8]) (qt (Imp.truncS (st' := ⟨23, [(3, rf 0 1 4 v11), (6, A a0), (7, I (a0.length : Int)), (8, I (w64 (x2 + 1)))], [sl 1 v11]⟩) 1 (nx hX) (by kernel_rfl) (allBelow_mem (by exact (And.intro rfl (And.intro rfl (And.intro rfl (And.intro rfl trivial)))))) (by exact (And.intro (frz_below (eL_frz _)) trivial)) (by kernel_rfl)) (Imp.reverS 0 1 (eL v11) [3, 6, 7, 8] (by kernel_rfl) (by exact (And.intro (eL_frz _) trivial)) (by kernel_rfl)))⟩
 refine pwp_exit ?_
 refine srvM [5] 1 23 [(21, rf 0 0 4 x3)] [sl 0 x3] ?_
 obtain ⟨v13, hv14, h⟩ := bindS h
 refine opsP_callM (xs := [rf 0 0 4 x3]) (x := rf 1 0 4 v13) (bs := [⟨0, eL v13⟩]) τ 22 [0] (nx hX) (ok_slices_Clip_impl_Tally_impl_Tally_R hv14) (by kernel_rfl) (OutL.cons (OutP.list (v := 0) (by kernel_rfl)) (OutL.nil _)) (by decide) (by kernel_rfl) ?_
 refine veM [5] 1 23 [(2, rf 1 0 4 v13)] [none, sl 0 v13] ?_
 have h := si h
 subst h
 exact pwp_ret (rt (rf 1 0 4 v13) (OutP.list (v := 0) (by kernel_rfl)))
def impl_TalliesTurned_j1 (x7 : Int) (x8 : List T_impl_Tally) (K10 : Int → (List T_impl_Tally) → Option ((List T_impl_Tally) × Bool)) (v12 : T_impl_Delta) (x14 : Bool) : Option ((List T_impl_Tally) × Bool) := bif x14 then some (([] : List T_impl_Tally), false) else (impl_tell x8 v12.fRow v12.fMany).bind fun v16 => (impl_TalliesOk v16).bind fun v18 => bif (!v18) then some (([] : List T_impl_Tally), false) else K10 (w64 (x7 + 1)) v16
def impl_TalliesTurned_l0 (a1 : List T_impl_Delta) : Nat → Int → (List T_impl_Tally) → Option ((List T_impl_Tally) × Bool)
 | 0, _, _ => none
 | f9 + 1, x7, x8 => bif (decide (x7 < (a1.length : Int))) then (getI a1 x7).bind fun v12 => (impl_counted v12.fRow).bind fun v21 => bif (!v21) then impl_TalliesTurned_j1 x7 x8 (impl_TalliesTurned_l0 a1 f9) v12 true else bif (v12.fMany == 0) then impl_TalliesTurned_j1 x7 x8 (impl_TalliesTurned_l0 a1 f9) v12 true else (impl_between v12.fMany (-100) 100).bind fun v23 => impl_TalliesTurned_j1 x7 x8 (impl_TalliesTurned_l0 a1 f9) v12 (!v23) else (impl_tallies_L0 x8).bind fun v27 => some (v27, true)
def impl_TalliesTurned (a0 : List T_impl_Tally) (a1 : List T_impl_Delta) : Option ((List T_impl_Tally) × Bool) := (impl_TalliesOk a0).bind fun v1 => bif (!v1) then some (([] : List T_impl_Tally), false) else (impl_tallies_R a0).bind fun v4 => impl_TalliesTurned_l0 a1 FUEL 0 v4
theorem ok_impl_TalliesTurned {a0 : List T_impl_Tally} {a1 : List T_impl_Delta} {y : (List T_impl_Tally) × Bool} (h : impl_TalliesTurned a0 a1 = some y) : OK Try.prog 25 [A a0, A a1] (.tup [A y.1, B y.2]) := by
 refine ow Try.func25 fun Γ hX => ?_
 unfold impl_TalliesTurned at h
 refine srveM [8] 47 [(0, A a0), (1, A a1)] [] ?_
 refine pwp_seq ?_
 refine srvM [8] 1 47 [(0, A a0), (1, A a1), (9, A a0)] [] ?_
 obtain ⟨v1, hv2, h⟩ := bindS h
 refine cF 10 (ok_impl_TalliesOk hv2) ?_
 refine veM [8] 1 47 [(0, A a0), (1, A a1), (11, B (!v1))] [] ?_
 refine pc h (fun h => ?_) (fun h => ?_)
 refine srveM [8] 47 [(4, .arr 4 0 (eL ([] : List T_impl_Tally)) true), (5, B false)] [] ?_
 refine ip 47 [(4, .arr 4 0 (eL ([] : List T_impl_Tally)) true), (5, B false)] [] ?_
 refine pwp_imp (Imp.unfS (st' := ⟨47, [(4, A ([] : List T_impl_Tally)), (5, B false)], []⟩) 4 [4, 5] (by kernel_rfl)) ?_
 have h := si h
 subst h
 exact pwp_ret (rt (.tup [A ([] : List T_impl_Tally), B false]) (OutP.tup (OutL.cons (OutP.frz (by kernel_rfl)) (OutL.cons (OutP.frz (by kernel_rfl)) (OutL.nil _)))))
 refine pwp_skip ?_
 refine srvM [8] 1 47 [(1, A a1), (12, A a0)] [] ?_
 obtain ⟨v4, hv5, h⟩ := bindS h
 refine opsP_callO τ 13 (ok_impl_tallies_R hv5) rfl (by kernel_rfl) ?_
 refine veM [8] 1 47 [(1, A a1), (6, rf 0 0 4 v4)] [sl 0 v4] ?_
 refine pwp_seq ?_
 refine srveM [8] 47 [(6, rf 0 0 4 v4), (14, A a1), (15, I (a1.length : Int)), (16, I 0)] [sl 0 v4] ?_
 refine pwp_block ?_
 refine pwp_loop (ι := Nat × Int × (List T_impl_Tally)) (fun (f9, x7, x8) => (⟨47, [(6, rf 0 0 4 x8), (14, A a1), (15, I (a1.length : Int)), (16, I x7)], [sl 0 x8]⟩ : St)) (fun (f9, x7, x8) => impl_TalliesTurned_l0 a1 f9 x7 x8 = some y) Prod.fst (FUEL, 0, v4) h (it [6, 14, 15, 16]) ?_
 rintro ⟨f9, x7, x8⟩ h
 dsimp only at h ⊢
 rcases f9 with _ | f9
 cases h
 rw [impl_TalliesTurned_l0] at h
 refine srveM [8] 47 [(6, rf 0 0 4 x8), (14, A a1), (15, I (a1.length : Int)), (16, I x7), (17, B (decide (x7 < (a1.length : Int))))] [sl 0 x8] ?_
 refine pwp_seq ?_
 refine pc h (fun h => ?_) (fun h => ?_)
 refine pwp_skip ?_
 refine pwp_seq ?_
 refine pwp_block ?_
 refine pwp_seq ?_
 refine pwp_region ?_
 obtain ⟨v12, hv13, h⟩ := bindS h
 refine opsP_idx τ_ok 18 hv13 (by kernel_rfl) ?_
 refine veM [8] 3 47 [(6, rf 0 0 4 x8), (8, .ptr 1 0 0), (14, A a1), (15, I (a1.length : Int)), (16, I x7)] [sl 0 x8, sc 0 v12] ?_
 refine pwp_seq ?_
 refine pwp_seq ?_
 refine pwp_join (σ := Bool) (fun x14 => (⟨47, [(6, rf 0 0 4 x8), (8, .ptr 1 0 0), (14, A a1), (15, I (a1.length : Int)), (16, I x7), (34, B x14)], [sl 0 x8, sc 0 v12]⟩ : St)) (fun x14 => impl_TalliesTurned_j1 x7 x8 (impl_TalliesTurned_l0 a1 f9) v12 x14 = some y) ?_ ?_
 refine rvM [8] 2 47 [(6, rf 0 0 4 x8), (8, .ptr 1 0 0), (14, A a1), (15, I (a1.length : Int)), (16, I x7), (21, A v12.fRow)] [sl 0 x8, sc 0 v12] ?_
 obtain ⟨v21, hv22, h⟩ := bindS h
 refine cF 22 (ok_impl_counted hv22) ?_
 refine vM [8] 2 47 [(6, rf 0 0 4 x8), (8, .ptr 1 0 0), (14, A a1), (15, I (a1.length : Int)), (16, I x7), (24, B (!v21))] [sl 0 x8, sc 0 v12] ?_
 rcases fk (!v21) with hc26 | hc26
 replace h := bT hc26 h
 rw [hc26]
 refine veM [8] 10 47 [(6, rf 0 0 4 x8), (8, .ptr 1 0 0), (14, A a1), (15, I (a1.length : Int)), (16, I x7), (25, .lit undef), (26, .lit undef), (27, .lit undef), (30, .lit undef), (31, .lit undef), (32, .lit undef), (33, .lit undef), (34, B true)] [sl 0 x8, sc 0 v12] ?_
 exact ⟨true, h, it [6, 8, 14, 15, 16, 34]⟩
 replace h := bF hc26 h
 rw [hc26]
 refine vM [8] 5 47 [(6, rf 0 0 4 x8), (8, .ptr 1 0 0), (14, A a1), (15, I (a1.length : Int)), (16, I x7), (25, .ptr 1 0 1), (26, I v12.fMany), (27, B (v12.fMany == 0)), (29, B (v12.fMany == 0))] [sl 0 x8, sc 0 v12] ?_
 rcases fk (v12.fMany == 0) with hc25 | hc25
 replace h := bT hc25 h
 rw [hc25]
 refine veM [8] 5 47 [(6, rf 0 0 4 x8), (8, .ptr 1 0 0), (14, A a1), (15, I (a1.length : Int)), (16, I x7), (25, .ptr 1 0 1), (26, I v12.fMany), (27, B true), (30, .lit undef), (31, .lit undef), (32, .lit undef), (33, .lit undef), (34, B true)] [sl 0 x8, sc 0 v12] ?_
 exact ⟨true, h, it [6, 8, 14, 15, 16, 34]⟩
 replace h := bF hc25 h
 rw [hc25]
 refine vM [8] 2 47 [(6, rf 0 0 4 x8), (8, .ptr 1 0 0), (14, A a1), (15, I (a1.length : Int)), (16, I x7), (25, .ptr 1 0 1), (26, I v12.fMany), (27, B false), (29, B false), (30, .ptr 1 0 1), (31, I v12.fMany)] [sl 0 x8, sc 0 v12] ?_
 obtain ⟨v23, hv24, h⟩ := bindS h
 refine cF 32 (ok_impl_between hv24) ?_
 refine veM [8] 2 47 [(6, rf 0 0 4 x8), (8, .ptr 1 0 0), (14, A a1), (15, I (a1.length : Int)), (16, I x7), (25, .ptr 1 0 1), (26, I v12.fMany), (27, B false), (30, .ptr 1 0 1), (31, I v12.fMany), (32, B v23), (33, B (!v23)), (34, B (!v23))] [sl 0 x8, sc 0 v12] ?_
 exact ⟨(!v23), h, it [6, 8, 14, 15, 16, 34]⟩
 rintro x14 h
 unfold impl_TalliesTurned_j1 at h
 refine pc h (fun h => ?_) (fun h => ?_)
 refine srveM [8] 47 [(4, .arr 4 0 (eL ([] : List T_impl_Tally)) true), (5, B false)] [sl 0 x8, sc 0 v12] ?_
 refine ip 47 [(4, .arr 4 0 (eL ([] : List T_impl_Tally)) true), (5, B false)] [sl 0 x8, sc 0 v12] ?_
 refine pwp_imp (Imp.unfS (st' := ⟨47, [(4, A ([] : List T_impl_Tally)), (5, B false)], [sl 0 x8, sc 0 v12]⟩) 4 [4, 5] (by kernel_rfl)) ?_
 have h := si h
 subst h
 exact pwp_ret (rt (.tup [A ([] : List T_impl_Tally), B false]) (OutP.tup (OutL.cons (OutP.frz (by kernel_rfl)) (OutL.cons (OutP.frz (by kernel_rfl)) (OutL.nil _)))))
 refine pwp_skip ?_
 refine srvM [8] 5 47 [(14, A a1), (15, I (a1.length : Int)), (16, I x7), (35, rf 0 0 4 x8), (37, A v12.fRow), (39, I v12.fMany)] [sl 0 x8, sc 0 v12] ?_
 obtain ⟨v16, hv17, h⟩ := bindS h
 refine opsP_callM (xs := [rf 0 0 4 x8, A v12.fRow, I v12.fMany]) (x := rf 2 0 4 v16) (bs := [⟨0, eL v16⟩]) τ 40 [0] (nx hX) (ok_impl_tell hv17) (by kernel_rfl) (OutL.cons (OutP.list (v := 0) (by kernel_rfl)) (OutL.cons (OutP.frz rfl) (OutL.cons (OutP.frz rfl) (OutL.nil _)))) (by decide) (by kernel_rfl) ?_
 refine veM [8] 1 47 [(6, rf 2 0 4 v16), (14, A a1), (15, I (a1.length : Int)), (16, I x7)] [none, sc 0 v12, sl 0 v16] ?_
 refine srvM [8] 1 47 [(6, rf 2 0 4 v16), (14, A a1), (15, I (a1.length : Int)), (16, I x7), (41, rf 2 0 4 v16)] [none, sc 0 v12, sl 0 v16] ?_
 obtain ⟨v18, hv19, h⟩ := bindS h
 refine opsP_callV (xs := [rf 2 0 4 v16]) τ 42 (ok_impl_TalliesOk hv19) (Blind.lit _) (FzTo.frz rfl) (by kernel_rfl) (ViewL.cons (View.whole (v := 0) v16 (by kernel_rfl) rfl) (ViewL.nil _)) ?_
 refine veM [8] 1 47 [(6, rf 2 0 4 v16), (14, A a1), (15, I (a1.length : Int)), (16, I x7), (43, B (!v18))] [none, sc 0 v12, sl 0 v16] ?_
 refine pc h (fun h => ?_) (fun h => ?_)
 refine srveM [8] 47 [(4, .arr 4 0 (eL ([] : List T_impl_Tally)) true), (5, B false)] [none, sc 0 v12, sl 0 v16] ?_
 refine ip 47 [(4, .arr 4 0 (eL ([] : List T_impl_Tally)) true), (5, B false)] [none, sc 0 v12, sl 0 v16] ?_
 refine pwp_imp (Imp.unfS (st' := ⟨47, [(4, A ([] : List T_impl_Tally)), (5, B false)], [none, sc 0 v12, sl 0 v16]⟩) 4 [4, 5] (by kernel_rfl)) ?_
 have h := si h
 subst h
 exact pwp_ret (rt (.tup [A ([] : List T_impl_Tally), B false]) (OutP.tup (OutL.cons (OutP.frz (by kernel_rfl)) (OutL.cons (OutP.frz (by kernel_rfl)) (OutL.nil _)))))
 refine pwp_skip ?_
 refine rveM [8] 47 [(6, rf 2 0 4 v16), (14, A a1), (15, I (a1.length : Int)), (16, I (w64 (x7 + 1)))] [none, sc 0 v12, sl 0 v16] ?_
 exact ⟨(f9, (w64 (x7 + 1)), v16), h, Nat.lt_succ_self _, qt (it (st' := ⟨47, [(6, rf 2 0 4 v16), (14, A a1), (15, I (a1.length : Int)), (16, I (w64 (x7 + 1)))], [none, sc 0 v12, sl 0 v16]⟩) [6, 14, 15, 16]) (qt (Imp.mvS (st' := ⟨47, [(6, rf 0 0 4 v16), (14, A a1), (15, I (a1.length : Int)), (16, I (w64 (x7 + 1)))], [sl 0 v16, sc 0 v12, none]⟩) 2 0 [6, 14, 15, 16] (nx hX) (v := 0) (cs := eL v16) (by kernel_rfl) (by kernel_rfl) (by exact (And.intro (rfl) (And.intro (eL_frz _) trivial))) (by kernel_rfl) (by kernel_rfl)) (Imp.truncS 1 (nx hX) (by kernel_rfl) (allBelow_mem (by exact (And.intro rfl (And.intro rfl (And.intro rfl (And.intro rfl trivial)))))) (by exact (And.intro (frz_below (eL_frz _)) trivial)) (by kernel_rfl)))⟩
 refine pwp_exit ?_
 refine srvM [8] 1 47 [(45, rf 0 0 4 x8)] [sl 0 x8] ?_
 obtain ⟨v27, hv28, h⟩ := bindS h
 refine opsP_E (dd := some 46) (x := A v27) (callS_E τ 46 0 0 (ok_impl_tallies_L0 hv28) (FzTo.frz rfl) rfl rfl (by kernel_rfl)) ?_
 refine veM [8] 2 47 [(4, A v27), (5, B true)] [sl 0 x8] ?_
 have h := si h
 subst h
 exact pwp_ret (rt (.tup [A v27, B true]) (OutP.tup (OutL.cons (OutP.frz (by kernel_rfl)) (OutL.cons (OutP.frz (by kernel_rfl)) (OutL.nil _)))))
def slices_Clip_impl_Value_impl_Value_s3_R (a0 : List (List T_impl_Value)) : Option (List (List T_impl_Value)) := (slI a0 none (some (a0.length : Int)) (some (a0.length : Int))).bind fun v1 => some v1
theorem ok_slices_Clip_impl_Value_impl_Value_s3_R {a0 : List (List T_impl_Value)} {y : List (List T_impl_Value)} (h : slices_Clip_impl_Value_impl_Value_s3_R a0 = some y) : OKm Try.prog 120 [O a0] (O y) := by
 refine OKm_of_pwp (sl := [rf 0 0 1 a0]) (bs := [⟨0, eL a0⟩]) τ_ok Try.func120 rfl (by kernel_rfl) rfl (by kernel_rfl) fun Γ hX => ?_
 refine pwp_imp (Imp.to (st' := ⟨9, [(0, rf 0 0 1 a0)], [sl 0 a0]⟩) [0] (by kernel_rfl)) ?_
 unfold slices_Clip_impl_Value_impl_Value_s3_R at h
 refine srve 9 [(0, rf 0 0 1 a0)] [sl 0 a0] ?_
 refine srv 5 9 [(3, rf 0 0 1 a0), (5, I (a0.length : Int)), (7, I (a0.length : Int))] [sl 0 a0] ?_
 obtain ⟨v1, hv2, h⟩ := bindS h
 refine opsP_slr τ_ok 8 0 0 a0.length hv2 rfl (by kernel_rfl) ?_
 refine ve 1 9 [(2, rf 0 0 1 v1)] [sl 0 a0] ?_
 refine ip 9 [(2, rf 0 0 1 v1)] [sl 0 a0] ?_
 refine pwp_imp (Imp.cut (st' := ⟨9, [(2, rf 0 0 1 v1)], [sl 0 v1]⟩) 0 0 a0 v1 (by kernel_rfl) (slI_view hv2) (by kernel_rfl)) ?_
 have h := si h
 subst h
 exact pwp_ret (rt (rf 0 0 1 v1) (OutP.list (v := 0) (by kernel_rfl)))
def impl_rowsCopy_R_l0 (a0 : List (List T_impl_Value)) : Nat → Int → (List (List T_impl_Value)) → Option (List (List T_impl_Value))
 | 0, _, _ => none
 | f4 + 1, x2, x3 => bif (decide (x2 < (a0.length : Int))) then (getI a0 x2).bind fun v7 => (impl_clone_impl_Value v7).bind fun v9 => (app x3 ([v9] : List (List T_impl_Value))).bind fun v11 => (impl_rowsCopy_R_l0 a0 f4) (w64 (x2 + 1)) v11 else (slices_Clip_impl_Value_impl_Value_s3_R x3).bind fun v13 => some v13
def impl_rowsCopy_R (a0 : List (List T_impl_Value)) : Option (List (List T_impl_Value)) := impl_rowsCopy_R_l0 a0 FUEL 0 ([] : List (List T_impl_Value))
theorem ok_impl_rowsCopy_R {a0 : List (List T_impl_Value)} {y : List (List T_impl_Value)} (h : impl_rowsCopy_R a0 = some y) : OK Try.prog 58 [A a0] (O y) := by
 refine ow Try.func58 fun Γ hX => ?_
 unfold impl_rowsCopy_R at h
 refine srve 20 [(0, A a0)] [] ?_
 refine srve 20 [(0, A a0), (3, .arr 1 0 (eL ([] : List (List T_impl_Value))) true)] [] ?_
 refine pwp_seq ?_
 refine srve 20 [(3, .arr 1 0 (eL ([] : List (List T_impl_Value))) true), (6, A a0), (7, I (a0.length : Int)), (8, I 0)] [] ?_
 refine pwp_block ?_
 refine pwp_loop (ι := Nat × Int × (List (List T_impl_Value))) (fun (f4, x2, x3) => (⟨20, [(3, rf 0 0 1 x3), (6, A a0), (7, I (a0.length : Int)), (8, I x2)], [sl 0 x3]⟩ : St)) (fun (f4, x2, x3) => impl_rowsCopy_R_l0 a0 f4 x2 x3 = some y) Prod.fst (FUEL, 0, ([] : List (List T_impl_Value))) h (Imp.thawS 3 [3, 6, 7, 8] (by kernel_rfl)) ?_
 rintro ⟨f4, x2, x3⟩ h
 dsimp only at h ⊢
 rcases f4 with _ | f4
 cases h
 rw [impl_rowsCopy_R_l0] at h
 refine srve 20 [(3, rf 0 0 1 x3), (6, A a0), (7, I (a0.length : Int)), (8, I x2), (9, B (decide (x2 < (a0.length : Int))))] [sl 0 x3] ?_
 refine pwp_seq ?_
 refine pc h (fun h => ?_) (fun h => ?_)
 refine pwp_skip ?_
 refine pwp_seq ?_
 refine pwp_block ?_
 refine pwp_seq ?_
 refine pwp_region ?_
 obtain ⟨v7, hv8, h⟩ := bindS h
 refine opsP_idx τ_ok 10 hv8 (by kernel_rfl) ?_
 refine ve 2 20 [(3, rf 0 0 1 x3), (5, A v7), (6, A a0), (7, I (a0.length : Int)), (8, I x2)] [sl 0 x3] ?_
 refine rv 2 20 [(6, A a0), (7, I (a0.length : Int)), (8, I x2), (12, rf 0 0 1 x3), (13, A v7)] [sl 0 x3] ?_
 obtain ⟨v9, hv10, h⟩ := bindS h
 refine cF 14 (ok_impl_clone_impl_Value hv10) ?_
 refine v 1 20 [(6, A a0), (7, I (a0.length : Int)), (8, I x2), (12, rf 0 0 1 x3), (15, .arr 1 ([v9] : List (List T_impl_Value)).length (eL ([v9] : List (List T_impl_Value))) true)] [sl 0 x3] ?_
 obtain ⟨v11, hv12, h⟩ := bindS h
 refine opsP_app τ_ok 16 0 0 (nx hX) hv12 (by kernel_rfl) ?_
 refine ve 1 20 [(3, rf 0 1 1 v11), (6, A a0), (7, I (a0.length : Int)), (8, I x2)] [sl 1 v11] ?_
 refine rve 20 [(3, rf 0 1 1 v11), (6, A a0), (7, I (a0.length : Int)), (8, I (w64 (x2 + 1)))] [sl 1 v11] ?_
 exact ⟨(f4, (w64 (x2 + 1)), v11), h, Nat.lt_succ_self _, (it (st' := ⟨20, [(3, rf 0 1 1 v11), (6, A a0), (7, I (a0.length : Int)), (8, I (w64 (x2 + 1)))], [sl 1 v11]⟩) [3, 6, 7, 8]).trans (Imp.reverS 0 1 (eL v11) [3, 6, 7, 8] (by kernel_rfl) (by exact (And.intro (eL_frz _) trivial)) (by kernel_rfl))⟩
 refine pwp_exit ?_
 refine srv 1 20 [(18, rf 0 0 1 x3)] [sl 0 x3] ?_
 obtain ⟨v13, hv14, h⟩ := bindS h
 refine opsP_callM (xs := [rf 0 0 1 x3]) (x := rf 1 0 1 v13) (bs := [⟨0, eL v13⟩]) τ 19 [0] (nx hX) (ok_slices_Clip_impl_Value_impl_Value_s3_R hv14) (by kernel_rfl) (OutL.cons (OutP.list (v := 0) (by kernel_rfl)) (OutL.nil _)) (by decide) (by kernel_rfl) ?_
 refine ve 1 20 [(2, rf 1 0 1 v13)] [none, sl 0 v13] ?_
 have h := si h
 subst h
 exact pwp_ret (rt (rf 1 0 1 v13) (OutP.list (v := 0) (by kernel_rfl)))
def impl_RowsOnce_R_l0 (a0 : List (List T_impl_Value)) : Nat → Int → (List (List T_impl_Value)) → Option (List (List T_impl_Value))
 | 0, _, _ => none
 | f4 + 1, x2, x3 => bif (decide (x2 < (a0.length : Int))) then (getI a0 x2).bind fun v7 => (impl_rowsHas x3 v7).bind fun v9 => bif (!v9) then (app x3 ([v7] : List (List T_impl_Value))).bind fun v12 => (impl_RowsOnce_R_l0 a0 f4) (w64 (x2 + 1)) v12 else (impl_RowsOnce_R_l0 a0 f4) (w64 (x2 + 1)) x3 else (impl_rowsCopy_R x3).bind fun v14 => some v14
def impl_RowsOnce_R (a0 : List (List T_impl_Value)) : Option (List (List T_impl_Value)) := impl_RowsOnce_R_l0 a0 FUEL 0 ([] : List (List T_impl_Value))
theorem ok_impl_RowsOnce_R {a0 : List (List T_impl_Value)} {y : List (List T_impl_Value)} (h : impl_RowsOnce_R a0 = some y) : OK Try.prog 100 [A a0] (O y) := by
 refine ow Try.func100 fun Γ hX => ?_
 unfold impl_RowsOnce_R at h
 refine srve 23 [(0, A a0)] [] ?_
 refine srve 23 [(0, A a0), (3, .arr 1 0 (eL ([] : List (List T_impl_Value))) true)] [] ?_
 refine pwp_seq ?_
 refine srve 23 [(3, .arr 1 0 (eL ([] : List (List T_impl_Value))) true), (6, A a0), (7, I (a0.length : Int)), (8, I 0)] [] ?_
 refine pwp_block ?_
 refine pwp_loop (ι := Nat × Int × (List (List T_impl_Value))) (fun (f4, x2, x3) => (⟨23, [(3, rf 0 0 1 x3), (6, A a0), (7, I (a0.length : Int)), (8, I x2)], [sl 0 x3]⟩ : St)) (fun (f4, x2, x3) => impl_RowsOnce_R_l0 a0 f4 x2 x3 = some y) Prod.fst (FUEL, 0, ([] : List (List T_impl_Value))) h (Imp.thawS 3 [3, 6, 7, 8] (by kernel_rfl)) ?_
 rintro ⟨f4, x2, x3⟩ h
 dsimp only at h ⊢
 rcases f4 with _ | f4
 cases h
 rw [impl_RowsOnce_R_l0] at h
 refine srve 23 [(3, rf 0 0 1 x3), (6, A a0), (7, I (a0.length : Int)), (8, I x2), (9, B (decide (x2 < (a0.length : Int))))] [sl 0 x3] ?_
 refine pwp_seq ?_
 refine pc h (fun h => ?_) (fun h => ?_)
 refine pwp_skip ?_
 refine pwp_seq ?_
 refine pwp_block ?_
 refine pwp_seq ?_
 refine pwp_region ?_
 obtain ⟨v7, hv8, h⟩ := bindS h
 refine opsP_idx τ_ok 10 hv8 (by kernel_rfl) ?_
 refine ve 2 23 [(3, rf 0 0 1 x3), (5, A v7), (6, A a0), (7, I (a0.length : Int)), (8, I x2)] [sl 0 x3] ?_
 refine srv 2 23 [(3, rf 0 0 1 x3), (5, A v7), (6, A a0), (7, I (a0.length : Int)), (8, I x2), (12, rf 0 0 1 x3), (13, A v7)] [sl 0 x3] ?_
 obtain ⟨v9, hv10, h⟩ := bindS h
 refine opsP_callV (xs := [rf 0 0 1 x3, A v7]) τ 14 (ok_impl_rowsHas hv10) (Blind.lit _) (FzTo.frz rfl) (by kernel_rfl) (ViewL.cons (View.whole (v := 0) x3 (by kernel_rfl) rfl) (ViewL.cons (View.frz rfl) (ViewL.nil _))) ?_
 refine ve 1 23 [(3, rf 0 0 1 x3), (5, A v7), (6, A a0), (7, I (a0.length : Int)), (8, I x2), (15, B (!v9))] [sl 0 x3] ?_
 refine pc h (fun h => ?_) (fun h => ?_)
 refine rv 3 23 [(6, A a0), (7, I (a0.length : Int)), (8, I x2), (16, rf 0 0 1 x3), (18, .arr 1 ([v7] : List (List T_impl_Value)).length (eL ([v7] : List (List T_impl_Value))) true)] [sl 0 x3] ?_
 obtain ⟨v12, hv13, h⟩ := bindS h
 refine opsP_app τ_ok 19 0 0 (nx hX) hv13 (by kernel_rfl) ?_
 refine ve 1 23 [(3, rf 0 1 1 v12), (6, A a0), (7, I (a0.length : Int)), (8, I x2)] [sl 1 v12] ?_
 refine rve 23 [(3, rf 0 1 1 v12), (6, A a0), (7, I (a0.length : Int)), (8, I (w64 (x2 + 1)))] [sl 1 v12] ?_
 exact ⟨(f4, (w64 (x2 + 1)), v12), h, Nat.lt_succ_self _, (it (st' := ⟨23, [(3, rf 0 1 1 v12), (6, A a0), (7, I (a0.length : Int)), (8, I (w64 (x2 + 1)))], [sl 1 v12]⟩) [3, 6, 7, 8]).trans (Imp.reverS 0 1 (eL v12) [3, 6, 7, 8] (by kernel_rfl) (by exact (And.intro (eL_frz _) trivial)) (by kernel_rfl))⟩
 refine pwp_skip ?_
 refine rve 23 [(3, rf 0 0 1 x3), (6, A a0), (7, I (a0.length : Int)), (8, I (w64 (x2 + 1)))] [sl 0 x3] ?_
 exact ⟨(f4, (w64 (x2 + 1)), x3), h, Nat.lt_succ_self _, it [3, 6, 7, 8]⟩
 refine pwp_exit ?_
 refine srv 1 23 [(21, rf 0 0 1 x3)] [sl 0 x3] ?_
 refine opsP_imp (Imp.freezeB (v := 0) (cs := eL x3) (st' := ⟨23, [(21, A x3)], [none]⟩) 0 0 (nx hX) (by kernel_rfl) (eL_frz _) (wholeC (whole_is (eL_len x3).symm) wholeC0) (HpRel.key HpRel.nil) (by kernel_rfl) rfl (nx hX)) ?_
 obtain ⟨v14, hv15, h⟩ := bindS h
 refine opsP_callO τ 22 (ok_impl_rowsCopy_R hv15) rfl (by kernel_rfl) ?_
 refine ve 1 23 [(2, rf 1 0 1 v14)] [none, sl 0 v14] ?_
 have h := si h
 subst h
 exact pwp_ret (rt (rf 1 0 1 v14) (OutP.list (v := 0) (by kernel_rfl)))
def impl_deltaOf_l0 (a0 : List (List T_impl_Value)) (a1 : List (List T_impl_Value)) (v5 : List (List T_impl_Value)) : Nat → Int → (List T_impl_Delta) → Option (List T_impl_Delta)
 | 0, _, _ => none
 | f11 + 1, x9, x10 => bif (decide (x9 < (v5.length : Int))) then (getI v5 x9).bind fun v14 => (impl_RowMany a1 v14).bind fun v16 => (impl_RowMany a0 v14).bind fun v18 => bif (!((w64 (v16 - v18)) == 0)) then (app x10 ([(T_impl_Delta.mk v14 (w64 (v16 - v18)))] : List T_impl_Delta)).bind fun v21 => (impl_deltaOf_l0 a0 a1 v5 f11) (w64 (x9 + 1)) v21 else (impl_deltaOf_l0 a0 a1 v5 f11) (w64 (x9 + 1)) x10 else (slices_Clip_impl_Delta_impl_Delta x10).bind fun v23 => some v23
def impl_deltaOf (a0 : List (List T_impl_Value)) (a1 : List (List T_impl_Value)) : Option (List T_impl_Delta) := (slices_Concat_impl_Value_impl_Value_s3 ([a0, a1])).bind fun v1 => (impl_RowsOnce_R v1).bind fun v3 => (slices_SortStableFunc_impl_Value_impl_Value_s3 v3 impl_rowOrder).bind fun v5 => impl_deltaOf_l0 a0 a1 v5 FUEL 0 ([] : List T_impl_Delta)
theorem ok_impl_deltaOf {a0 : List (List T_impl_Value)} {a1 : List (List T_impl_Value)} {y : List T_impl_Delta} (h : impl_deltaOf a0 a1 = some y) : OK Try.prog 48 [A a0, A a1] (A y) := by
 refine ow Try.func48 fun Γ hX => ?_
 unfold impl_deltaOf at h
 refine srve 41 [(0, A a0), (1, A a1)] [] ?_
 refine srve 41 [(0, A a0), (1, A a1), (5, .arr 2 0 (eL ([] : List T_impl_Delta)) true)] [] ?_
 refine srv 3 41 [(0, A a0), (1, A a1), (5, .arr 2 0 (eL ([] : List T_impl_Delta)) true), (12, .arr 1 ([a0, a1] : List (List (List T_impl_Value))).length (eL ([a0, a1] : List (List (List T_impl_Value)))) true)] [] ?_
 obtain ⟨v1, hv2, h⟩ := bindS h
 refine cFo 13 (ok_slices_Concat_impl_Value_impl_Value_s3 hv2) ?_
 obtain ⟨v3, hv4, h⟩ := bindS h
 refine opsP_callO τ 14 (ok_impl_RowsOnce_R hv4) rfl (by kernel_rfl) ?_
 refine ve 1 41 [(0, A a0), (1, A a1), (5, .arr 2 0 (eL ([] : List T_impl_Delta)) true), (6, rf 0 0 1 v3)] [sl 0 v3] ?_
 refine srv 1 41 [(0, A a0), (1, A a1), (5, .arr 2 0 (eL ([] : List T_impl_Delta)) true), (6, rf 0 0 1 v3), (15, rf 0 0 1 v3)] [sl 0 v3] ?_
 obtain ⟨v5, hv6, h⟩ := bindS h
 refine opsP_E (dd := some 16) (x := .tup []) (callS_E τ 16 0 0 (ok_slices_SortStableFunc_impl_Value_impl_Value_s3 (rfl) (fun _ _ w hw => ok_impl_rowOrder hw) hv6) (FzTo.tup FzToL.nil) rfl rfl (by kernel_rfl)) ?_
 refine io 41 [(0, A a0), (1, A a1), (5, .arr 2 0 (eL ([] : List T_impl_Delta)) true), (6, rf 0 0 1 v3), (15, rf 0 0 1 v3), (16, .tup [])] [sl 0 v5] ?_
 refine opsP_ren (st' := ⟨41, [(0, A a0), (1, A a1), (5, .arr 2 0 (eL ([] : List T_impl_Delta)) true), (6, rf 0 0 1 v5), (15, rf 0 0 1 v5), (16, .tup [])], [sl 0 v5]⟩) 0 v5.length (renC trivial (renC trivial (renC trivial (renC (ren_ref (len_slices_SortStableFunc_impl_Value_impl_Value_s3 hv6).symm) (renC (ren_ref (len_slices_SortStableFunc_impl_Value_impl_Value_s3 hv6).symm) (renC trivial renC0)))))) (by kernel_rfl) ?_
 refine ve 0 41 [(0, A a0), (1, A a1), (5, .arr 2 0 (eL ([] : List T_impl_Delta)) true), (6, rf 0 0 1 v5)] [sl 0 v5] ?_
 refine pwp_seq ?_
 refine srve 41 [(0, A a0), (1, A a1), (5, .arr 2 0 (eL ([] : List T_impl_Delta)) true), (17, rf 0 0 1 v5), (18, I (v5.length : Int)), (19, I 0)] [sl 0 v5] ?_
 refine pwp_block ?_
 refine pwp_loop (ι := Nat × Int × (List T_impl_Delta)) (fun (f11, x9, x10) => (⟨41, [(0, A a0), (1, A a1), (5, rf 1 0 2 x10), (17, rf 0 0 1 v5), (18, I (v5.length : Int)), (19, I x9)], [sl 0 v5, sl 0 x10]⟩ : St)) (fun (f11, x9, x10) => impl_deltaOf_l0 a0 a1 v5 f11 x9 x10 = some y) Prod.fst (FUEL, 0, ([] : List T_impl_Delta)) h (Imp.thawS 5 [0, 1, 5, 17, 18, 19] (by kernel_rfl)) ?_
 rintro ⟨f11, x9, x10⟩ h
 dsimp only at h ⊢
 rcases f11 with _ | f11
 cases h
 rw [impl_deltaOf_l0] at h
 refine srve 41 [(0, A a0), (1, A a1), (5, rf 1 0 2 x10), (17, rf 0 0 1 v5), (18, I (v5.length : Int)), (19, I x9), (20, B (decide (x9 < (v5.length : Int))))] [sl 0 v5, sl 0 x10] ?_
 refine pwp_seq ?_
 refine pc h (fun h => ?_) (fun h => ?_)
 refine pwp_skip ?_
 refine pwp_seq ?_
 refine pwp_block ?_
 refine pwp_seq ?_
 refine pwp_region ?_
 obtain ⟨v14, hv15, h⟩ := bindS h
 refine opsP_idr τ_ok 21 0 0 v5.length hv15 rfl (by kernel_rfl) ?_
 refine opsP_lde (r := A v14) τ_ok 22 29 0 hv15 (by kernel_rfl) (by kernel_rfl) ?_
 refine ve 1 41 [(0, A a0), (1, A a1), (5, rf 1 0 2 x10), (8, A v14), (17, rf 0 0 1 v5), (18, I (v5.length : Int)), (19, I x9)] [sl 0 v5, sl 0 x10] ?_
 refine srv 2 41 [(0, A a0), (1, A a1), (5, rf 1 0 2 x10), (8, A v14), (17, rf 0 0 1 v5), (18, I (v5.length : Int)), (19, I x9), (23, A a1), (24, A v14)] [sl 0 v5, sl 0 x10] ?_
 obtain ⟨v16, hv17, h⟩ := bindS h
 refine cF 25 (ok_impl_RowMany hv17) ?_
 refine v 2 41 [(0, A a0), (1, A a1), (5, rf 1 0 2 x10), (8, A v14), (17, rf 0 0 1 v5), (18, I (v5.length : Int)), (19, I x9), (25, I v16), (26, A a0), (27, A v14)] [sl 0 v5, sl 0 x10] ?_
 obtain ⟨v18, hv19, h⟩ := bindS h
 refine cF 28 (ok_impl_RowMany hv19) ?_
 refine ve 2 41 [(0, A a0), (1, A a1), (5, rf 1 0 2 x10), (8, A v14), (9, I (w64 (v16 - v18))), (17, rf 0 0 1 v5), (18, I (v5.length : Int)), (19, I x9)] [sl 0 v5, sl 0 x10] ?_
 refine srve 41 [(0, A a0), (1, A a1), (5, rf 1 0 2 x10), (8, A v14), (9, I (w64 (v16 - v18))), (17, rf 0 0 1 v5), (18, I (v5.length : Int)), (19, I x9), (31, B (!((w64 (v16 - v18)) == 0)))] [sl 0 v5, sl 0 x10] ?_
 refine pc h (fun h => ?_) (fun h => ?_)
 refine rv 5 41 [(0, A a0), (1, A a1), (17, rf 0 0 1 v5), (18, I (v5.length : Int)), (19, I x9), (32, rf 1 0 2 x10), (36, .arr 2 ([(T_impl_Delta.mk v14 (w64 (v16 - v18)))] : List T_impl_Delta).length (eL ([(T_impl_Delta.mk v14 (w64 (v16 - v18)))] : List T_impl_Delta)) true)] [sl 0 v5, sl 0 x10] ?_
 obtain ⟨v21, hv22, h⟩ := bindS h
 refine opsP_app τ_ok 37 1 0 (nx hX) hv22 (by kernel_rfl) ?_
 refine ve 1 41 [(0, A a0), (1, A a1), (5, rf 1 1 2 v21), (17, rf 0 0 1 v5), (18, I (v5.length : Int)), (19, I x9)] [sl 0 v5, sl 1 v21] ?_
 refine rve 41 [(0, A a0), (1, A a1), (5, rf 1 1 2 v21), (17, rf 0 0 1 v5), (18, I (v5.length : Int)), (19, I (w64 (x9 + 1)))] [sl 0 v5, sl 1 v21] ?_
 exact ⟨(f11, (w64 (x9 + 1)), v21), h, Nat.lt_succ_self _, (it (st' := ⟨41, [(0, A a0), (1, A a1), (5, rf 1 1 2 v21), (17, rf 0 0 1 v5), (18, I (v5.length : Int)), (19, I (w64 (x9 + 1)))], [sl 0 v5, sl 1 v21]⟩) [0, 1, 5, 17, 18, 19]).trans (Imp.reverS 1 1 (eL v21) [0, 1, 5, 17, 18, 19] (by kernel_rfl) (by exact (And.intro (eL_frz _) (And.intro (eL_frz _) trivial))) (by kernel_rfl))⟩
 refine pwp_skip ?_
 refine rve 41 [(0, A a0), (1, A a1), (5, rf 1 0 2 x10), (17, rf 0 0 1 v5), (18, I (v5.length : Int)), (19, I (w64 (x9 + 1)))] [sl 0 v5, sl 0 x10] ?_
 exact ⟨(f11, (w64 (x9 + 1)), x10), h, Nat.lt_succ_self _, it [0, 1, 5, 17, 18, 19]⟩
 refine pwp_exit ?_
 refine srv 1 41 [(39, rf 1 0 2 x10)] [sl 0 v5, sl 0 x10] ?_
 refine opsP_imp (Imp.freezeB (v := 0) (cs := eL x10) (st' := ⟨41, [(39, A x10)], [sl 0 v5, none]⟩) 1 0 (nx hX) (by kernel_rfl) (eL_frz _) (wholeC (whole_is (eL_len x10).symm) wholeC0) (HpRel.frz rfl (eL_frz _) (HpRel.key HpRel.nil)) (by kernel_rfl) rfl (nx hX)) ?_
 obtain ⟨v23, hv24, h⟩ := bindS h
 refine cF 40 (ok_slices_Clip_impl_Delta_impl_Delta hv24) ?_
 refine ve 1 41 [(4, A v23)] [sl 0 v5, none] ?_
 cases h
 exact pwp_ret rz
def impl_DeltaOf_j0 (a0 : List (List T_impl_Value)) (a1 : List (List T_impl_Value)) (x1 : Bool) : Option (List T_impl_Delta) := bif x1 then some ([] : List T_impl_Delta) else (impl_deltaOf a0 a1).bind fun v3 => some v3
def impl_DeltaOf (a0 : List (List T_impl_Value)) (a1 : List (List T_impl_Value)) : Option (List T_impl_Delta) := (impl_allOk a0).bind fun v5 => bif (!v5) then impl_DeltaOf_j0 a0 a1 true else (impl_allOk a1).bind fun v7 => impl_DeltaOf_j0 a0 a1 (!v7)
theorem ok_impl_DeltaOf {a0 : List (List T_impl_Value)} {a1 : List (List T_impl_Value)} {y : List T_impl_Delta} (h : impl_DeltaOf a0 a1 = some y) : OK Try.prog 10 [A a0, A a1] (A y) := by
 refine ow Try.func10 fun Γ hX => ?_
 unfold impl_DeltaOf at h
 refine srve 16 [(0, A a0), (1, A a1)] [] ?_
 refine pwp_seq ?_
 refine pwp_seq ?_
 refine pwp_join (σ := Bool) (fun x1 => (⟨16, [(0, A a0), (1, A a1), (12, B x1)], []⟩ : St)) (fun x1 => impl_DeltaOf_j0 a0 a1 x1 = some y) ?_ ?_
 refine rv 1 16 [(0, A a0), (1, A a1), (5, A a0)] [] ?_
 obtain ⟨v5, hv6, h⟩ := bindS h
 refine cF 6 (ok_impl_allOk hv6) ?_
 refine v 2 16 [(0, A a0), (1, A a1), (8, B (!v5))] [] ?_
 rcases fk (!v5) with hc9 | hc9
 replace h := bT hc9 h
 rw [hc9]
 refine ve 4 16 [(0, A a0), (1, A a1), (12, B true)] [] ?_
 exact ⟨true, h, it [0, 1, 12]⟩
 replace h := bF hc9 h
 rw [hc9]
 refine v 1 16 [(0, A a0), (1, A a1), (8, B false), (9, A a1)] [] ?_
 obtain ⟨v7, hv8, h⟩ := bindS h
 refine cF 10 (ok_impl_allOk hv8) ?_
 refine ve 2 16 [(0, A a0), (1, A a1), (12, B (!v7))] [] ?_
 exact ⟨(!v7), h, it [0, 1, 12]⟩
 rintro x1 h
 unfold impl_DeltaOf_j0 at h
 refine pc h (fun h => ?_) (fun h => ?_)
 refine srve 16 [(4, .arr 2 0 (eL ([] : List T_impl_Delta)) true)] [] ?_
 refine ip 16 [(4, .arr 2 0 (eL ([] : List T_impl_Delta)) true)] [] ?_
 refine pwp_imp (Imp.unfS (st' := ⟨16, [(4, A ([] : List T_impl_Delta))], []⟩) 4 [4] (by kernel_rfl)) ?_
 cases h
 exact pwp_ret rz
 refine pwp_skip ?_
 refine srv 2 16 [(13, A a0), (14, A a1)] [] ?_
 obtain ⟨v3, hv4, h⟩ := bindS h
 refine cF 15 (ok_impl_deltaOf hv4) ?_
 refine ve 1 16 [(4, A v3)] [] ?_
 cases h
 exact pwp_ret rz
def laws_FnTurnedRows_j1 (x15 : Int) (K19 : Int → (List T_impl_Delta) → (List T_impl_Delta) → Option Bool) (x21 : List T_impl_Delta) (x22 : List T_impl_Delta) : Option Bool := K19 (w64 (x15 + 1)) x21 x22
def laws_FnTurnedRows_l0 (v2 : (List (List T_impl_Value)) × (List (List T_impl_Value))) (v4 : List T_impl_Tally) (v11 : List T_impl_Delta) : Nat → Int → (List T_impl_Delta) → (List T_impl_Delta) → Option Bool
 | 0, _, _, _ => none
 | f18 + 1, x15, x16, x17 => bif (decide (x15 < (v11.length : Int))) then (getI v11 x15).bind fun v23 => bif (decide (v23.fMany > 0)) then (getI v11 x15).bind fun v26 => (app x16 ([v26] : List T_impl_Delta)).bind fun v28 => laws_FnTurnedRows_j1 x15 (laws_FnTurnedRows_l0 v2 v4 v11 f18) v28 x17 else (getI v11 x15).bind fun v30 => (app x17 ([v30] : List T_impl_Delta)).bind fun v32 => laws_FnTurnedRows_j1 x15 (laws_FnTurnedRows_l0 v2 v4 v11 f18) x16 v32 else (app x17 x16).bind fun v34 => (impl_TalliesTurned v4 v34).bind fun v36 => bif v36.2 then (impl_TalliesOf v2.2).bind fun v38 => (laws_sameTallies v36.1 v38).bind fun v40 => bif v40 then (laws_alive).bind fun v42 => some v42 else some false else some false
def laws_FnTurnedRows (a0 : List UInt8) : Option Bool := bif (decide ((a0.length : Int) > 1048576)) then some true else (spec_DrawTurnedRows a0).bind fun v2 => (impl_TalliesOf v2.1).bind fun v4 => (spec_TalliesOf v2.1).bind fun v6 => (laws_sameTallies v4 v6).bind fun v8 => bif (!v8) then some false else (impl_DeltaOf v2.1 v2.2).bind fun v11 => laws_FnTurnedRows_l0 v2 v4 v11 FUEL 0 ([] : List T_impl_Delta) ([] : List T_impl_Delta)
theorem ok_laws_FnTurnedRows {a0 : List UInt8} {y : Bool} (h : laws_FnTurnedRows a0 = some y) : OK Try.prog 5 [A a0] (B y) := by
 refine ow Try.func5 fun Γ hX => ?_
 unfold laws_FnTurnedRows at h
 refine srve 76 [(0, A a0)] [] ?_
 refine pwp_seq ?_
 refine srve 76 [(0, A a0), (14, B (decide ((a0.length : Int) > 1048576)))] [] ?_
 refine pc h (fun h => ?_) (fun h => ?_)
 refine srve 76 [(2, B true)] [] ?_
 cases h
 exact pwp_ret rz
 refine pwp_skip ?_
 refine srv 1 76 [(16, A a0)] [] ?_
 obtain ⟨v2, hv3, h⟩ := bindS h
 refine opsP_callF τ 17 (ok_spec_DrawTurnedRows hv3) (FzTo.tup (FzToL.cons (FzTo.frz rfl) (FzToL.cons (FzTo.frz rfl) FzToL.nil))) rfl (by kernel_rfl) ?_
 refine ve 5 76 [(3, A v2.1), (4, A v2.2)] [] ?_
 refine srv 1 76 [(3, A v2.1), (4, A v2.2), (20, A v2.1)] [] ?_
 obtain ⟨v4, hv5, h⟩ := bindS h
 refine cF 21 (ok_impl_TalliesOf hv5) ?_
 refine ve 1 76 [(3, A v2.1), (4, A v2.2), (5, A v4)] [] ?_
 refine pwp_seq ?_
 refine srv 2 76 [(3, A v2.1), (4, A v2.2), (5, A v4), (22, A v4), (23, A v2.1)] [] ?_
 obtain ⟨v6, hv7, h⟩ := bindS h
 refine cF 24 (ok_spec_TalliesOf hv7) ?_
 obtain ⟨v8, hv9, h⟩ := bindS h
 refine cF 25 (ok_laws_sameTallies hv9) ?_
 refine ve 1 76 [(3, A v2.1), (4, A v2.2), (5, A v4), (26, B (!v8))] [] ?_
 refine pc h (fun h => ?_) (fun h => ?_)
 refine srve 76 [(2, B false)] [] ?_
 cases h
 exact pwp_ret rz
 refine pwp_skip ?_
 refine srve 76 [(3, A v2.1), (4, A v2.2), (5, A v4), (6, .arr 2 0 (eL ([] : List T_impl_Delta)) true)] [] ?_
 refine srve 76 [(3, A v2.1), (4, A v2.2), (5, A v4), (6, .arr 2 0 (eL ([] : List T_impl_Delta)) true), (7, .arr 2 0 (eL ([] : List T_impl_Delta)) true)] [] ?_
 refine srv 2 76 [(4, A v2.2), (5, A v4), (6, .arr 2 0 (eL ([] : List T_impl_Delta)) true), (7, .arr 2 0 (eL ([] : List T_impl_Delta)) true), (29, A v2.1), (30, A v2.2)] [] ?_
 obtain ⟨v11, hv12, h⟩ := bindS h
 refine cF 31 (ok_impl_DeltaOf hv12) ?_
 refine ve 1 76 [(4, A v2.2), (5, A v4), (6, .arr 2 0 (eL ([] : List T_impl_Delta)) true), (7, .arr 2 0 (eL ([] : List T_impl_Delta)) true), (8, A v11)] [] ?_
 refine pwp_seq ?_
 refine srve 76 [(4, A v2.2), (5, A v4), (6, .arr 2 0 (eL ([] : List T_impl_Delta)) true), (7, .arr 2 0 (eL ([] : List T_impl_Delta)) true), (8, A v11), (9, I 0)] [] ?_
 refine pwp_block ?_
 refine pwp_loop (ι := Nat × Int × (List T_impl_Delta) × (List T_impl_Delta)) (fun (f18, x15, x16, x17) => (⟨76, [(4, A v2.2), (5, A v4), (6, rf 0 0 2 x16), (7, rf 1 0 2 x17), (8, A v11), (9, I x15)], [sl 0 x16, sl 0 x17]⟩ : St)) (fun (f18, x15, x16, x17) => laws_FnTurnedRows_l0 v2 v4 v11 f18 x15 x16 x17 = some y) Prod.fst (FUEL, 0, ([] : List T_impl_Delta), ([] : List T_impl_Delta)) h ((Imp.thawS (st' := ⟨76, [(4, A v2.2), (5, A v4), (6, .ref 0 0 0 2 ([] : List T_impl_Delta).length false), (7, .arr 2 0 (eL ([] : List T_impl_Delta)) true), (8, A v11), (9, I 0)], [some ⟨0, eL ([] : List T_impl_Delta)⟩]⟩) 6 [4, 5, 6, 7, 8, 9] (by kernel_rfl)).trans (Imp.thawS 7 [4, 5, 6, 7, 8, 9] (by kernel_rfl))) ?_
 rintro ⟨f18, x15, x16, x17⟩ h
 dsimp only at h ⊢
 rcases f18 with _ | f18
 cases h
 rw [laws_FnTurnedRows_l0] at h
 refine pwp_seq ?_
 refine srve 76 [(4, A v2.2), (5, A v4), (6, rf 0 0 2 x16), (7, rf 1 0 2 x17), (8, A v11), (9, I x15), (35, B (decide (x15 < (v11.length : Int))))] [sl 0 x16, sl 0 x17] ?_
 refine pc h (fun h => ?_) (fun h => ?_)
 refine pwp_skip ?_
 refine pwp_seq ?_
 refine pwp_join (σ := (List T_impl_Delta) × (List T_impl_Delta)) (fun (x21, x22) => (⟨76, [(4, A v2.2), (5, A v4), (6, rf 0 0 2 x21), (7, rf 1 0 2 x22), (8, A v11), (9, I x15)], [sl 0 x21, sl 0 x22]⟩ : St)) (fun (x21, x22) => laws_FnTurnedRows_j1 x15 (laws_FnTurnedRows_l0 v2 v4 v11 f18) x21 x22 = some y) ?_ ?_
 refine pwp_block ?_
 refine srv 2 76 [(4, A v2.2), (5, A v4), (6, rf 0 0 2 x16), (7, rf 1 0 2 x17), (8, A v11), (9, I x15), (38, A v11), (39, I x15)] [sl 0 x16, sl 0 x17] ?_
 obtain ⟨v23, hv24, h⟩ := bindS h
 refine opsP_idx τ_ok 40 hv24 (by kernel_rfl) ?_
 refine ve 3 76 [(4, A v2.2), (5, A v4), (6, rf 0 0 2 x16), (7, rf 1 0 2 x17), (8, A v11), (9, I x15), (43, B (decide (v23.fMany > 0)))] [sl 0 x16, sl 0 x17] ?_
 refine pc h (fun h => ?_) (fun h => ?_)
 refine rv 3 76 [(4, A v2.2), (5, A v4), (7, rf 1 0 2 x17), (8, A v11), (9, I x15), (44, rf 0 0 2 x16), (45, A v11), (46, I x15)] [sl 0 x16, sl 0 x17] ?_
 obtain ⟨v26, hv27, h⟩ := bindS h
 refine opsP_idx τ_ok 47 hv27 (by kernel_rfl) ?_
 refine v 2 76 [(4, A v2.2), (5, A v4), (7, rf 1 0 2 x17), (8, A v11), (9, I x15), (44, rf 0 0 2 x16), (49, .arr 2 ([v26] : List T_impl_Delta).length (eL ([v26] : List T_impl_Delta)) true)] [sl 0 x16, sl 0 x17] ?_
 obtain ⟨v28, hv29, h⟩ := bindS h
 refine opsP_app τ_ok 50 0 0 (nx hX) hv29 (by kernel_rfl) ?_
 refine ve 1 76 [(4, A v2.2), (5, A v4), (6, rf 0 1 2 v28), (7, rf 1 0 2 x17), (8, A v11), (9, I x15)] [sl 1 v28, sl 0 x17] ?_
 exact ⟨(v28, x17), h, (it (st' := ⟨76, [(4, A v2.2), (5, A v4), (6, rf 0 1 2 v28), (7, rf 1 0 2 x17), (8, A v11), (9, I x15)], [sl 1 v28, sl 0 x17]⟩) [4, 5, 6, 7, 8, 9]).trans (Imp.reverS 0 1 (eL v28) [4, 5, 6, 7, 8, 9] (by kernel_rfl) (by exact (And.intro (eL_frz _) (And.intro (eL_frz _) trivial))) (by kernel_rfl))⟩
 refine rv 3 76 [(4, A v2.2), (5, A v4), (6, rf 0 0 2 x16), (8, A v11), (9, I x15), (51, rf 1 0 2 x17), (52, A v11), (53, I x15)] [sl 0 x16, sl 0 x17] ?_
 obtain ⟨v30, hv31, h⟩ := bindS h
 refine opsP_idx τ_ok 54 hv31 (by kernel_rfl) ?_
 refine v 2 76 [(4, A v2.2), (5, A v4), (6, rf 0 0 2 x16), (8, A v11), (9, I x15), (51, rf 1 0 2 x17), (56, .arr 2 ([v30] : List T_impl_Delta).length (eL ([v30] : List T_impl_Delta)) true)] [sl 0 x16, sl 0 x17] ?_
 obtain ⟨v32, hv33, h⟩ := bindS h
 refine opsP_app τ_ok 57 1 0 (nx hX) hv33 (by kernel_rfl) ?_
 refine ve 1 76 [(4, A v2.2), (5, A v4), (6, rf 0 0 2 x16), (7, rf 1 1 2 v32), (8, A v11), (9, I x15)] [sl 0 x16, sl 1 v32] ?_
 exact ⟨(x16, v32), h, (it (st' := ⟨76, [(4, A v2.2), (5, A v4), (6, rf 0 0 2 x16), (7, rf 1 1 2 v32), (8, A v11), (9, I x15)], [sl 0 x16, sl 1 v32]⟩) [4, 5, 6, 7, 8, 9]).trans (Imp.reverS 1 1 (eL v32) [4, 5, 6, 7, 8, 9] (by kernel_rfl) (by exact (And.intro (eL_frz _) (And.intro (eL_frz _) trivial))) (by kernel_rfl))⟩
 rintro ⟨x21, x22⟩ h
 dsimp only at h ⊢
 unfold laws_FnTurnedRows_j1 at h
 refine rve 76 [(4, A v2.2), (5, A v4), (6, rf 0 0 2 x21), (7, rf 1 0 2 x22), (8, A v11), (9, I (w64 (x15 + 1)))] [sl 0 x21, sl 0 x22] ?_
 exact ⟨(f18, (w64 (x15 + 1)), x21, x22), h, Nat.lt_succ_self _, it [4, 5, 6, 7, 8, 9]⟩
 refine pwp_exit ?_
 refine srv 3 76 [(4, A v2.2), (59, A v4), (60, rf 1 0 2 x17), (61, rf 0 0 2 x16)] [sl 0 x16, sl 0 x17] ?_
 refine opsP_imp (Imp.freezeB (v := 0) (cs := eL x16) (st' := ⟨76, [(4, A v2.2), (59, A v4), (60, rf 1 0 2 x17), (61, A x16)], [none, sl 0 x17]⟩) 0 0 (nx hX) (by kernel_rfl) (eL_frz _) (wholeC (whole_noRef (by kernel_rfl)) (wholeC (whole_noRef (by kernel_rfl)) (wholeC (whole_ne rfl) (wholeC (whole_is (eL_len x16).symm) wholeC0)))) (HpRel.key (HpRel.frz rfl (eL_frz _) HpRel.nil)) (by kernel_rfl) rfl (nx hX)) ?_
 obtain ⟨v34, hv35, h⟩ := bindS h
 refine opsP_app τ_ok 62 1 0 (nx hX) hv35 (by kernel_rfl) ?_
 refine v 0 76 [(4, A v2.2), (59, A v4), (62, rf 1 1 2 v34)] [none, sl 1 v34] ?_
 refine opsP_imp (Imp.freezeB (v := 1) (cs := eL v34) (st' := ⟨76, [(4, A v2.2), (59, A v4), (62, A v34)], [none, none]⟩) 1 1 (nx hX) (by kernel_rfl) (eL_frz _) (wholeC (whole_noRef (by kernel_rfl)) (wholeC (whole_noRef (by kernel_rfl)) (wholeC (whole_is (eL_len v34).symm) wholeC0))) (HpRel.none rfl (HpRel.key HpRel.nil)) (by kernel_rfl) rfl (nx hX)) ?_
 obtain ⟨v36, hv37, h⟩ := bindS h
 refine opsP_callF τ 63 (ok_impl_TalliesTurned hv37) (FzTo.tup (FzToL.cons (FzTo.frz rfl) (FzToL.cons (FzTo.frz rfl) FzToL.nil))) rfl (by kernel_rfl) ?_
 refine ve 5 76 [(4, A v2.2), (10, A v36.1), (11, B v36.2)] [none, none] ?_
 refine srv 2 76 [(4, A v2.2), (10, A v36.1), (67, B v36.2)] [none, none] ?_
 rcases Bool.eq_false_or_eq_true v36.2 with hc45 | hc45
 replace h := bT hc45 h
 rw [hc45]
 refine v 2 76 [(67, B true), (68, A v36.1), (69, A v2.2)] [none, none] ?_
 obtain ⟨v38, hv39, h⟩ := bindS h
 refine cF 70 (ok_impl_TalliesOf hv39) ?_
 obtain ⟨v40, hv41, h⟩ := bindS h
 refine cF 71 (ok_laws_sameTallies hv41) ?_
 refine v 2 76 [(73, B v40)] [none, none] ?_
 rcases Bool.eq_false_or_eq_true v40 with hc44 | hc44
 replace h := bT hc44 h
 rw [hc44]
 obtain ⟨v42, hv43, h⟩ := bindS h
 refine cF 74 (ok_laws_alive hv43) ?_
 refine ve 2 76 [(2, B v42)] [none, none] ?_
 cases h
 exact pwp_ret rz
 replace h := bF hc44 h
 rw [hc44]
 refine ve 3 76 [(2, B false)] [none, none] ?_
 cases h
 exact pwp_ret rz
 replace h := bF hc45 h
 rw [hc45]
 refine ve 9 76 [(2, B false)] [none, none] ?_
 cases h
 exact pwp_ret rz
end Go.D
