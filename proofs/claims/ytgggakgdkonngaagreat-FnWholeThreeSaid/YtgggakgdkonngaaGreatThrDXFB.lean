import Derived.Test.YtgggakgdkonngaaGreatThrDXFA
import Derived.KernelRfl
set_option linter.unusedVariables false
set_option linter.unusedSimpArgs false
namespace Go.D
open Go.Proofs
theorem ok_spec_l20Tables {a0 : Zc} {a1 : Int} {y : (List Zh) × Zc} (h : spec_l20Tables a0 a1 = some y) : OKb Tryz.prog 35 (Enc.cells a0) [I a1] (O y.1) (Enc.cells y.2) := by
 refine OKb_of_pwp τ_ok Tryz.func35 rfl (by kernel_rfl) rfl (Enc.frz _) (Enc.frz _) fun Γ hQ => ?_
 unfold spec_l20Tables at h
 refine srveM [8] 73 [(0, .ptr 0 0 0), (1, I a1)] [sc 0 a0] ?_
 refine srveM [8] 73 [(0, .ptr 0 0 0), (1, I a1), (5, .arr 2 0 (eL ([] : List Zh)) true)] [sc 0 a0] ?_
 refine Zi ?_
 refine srvM [8] 1 73 [(0, .ptr 0 0 0), (1, I a1), (5, .arr 2 0 (eL ([] : List Zh)) true), (10, .ptr 0 0 0)] [sc 0 a0] ?_
 obtain ⟨v1, hv2, h⟩ := bindS h
 refine cB 11 0 0 (Zl hv2) ?_
 refine veM [8] 2 73 [(0, .ptr 0 0 0), (1, I a1), (5, .arr 2 0 (eL ([] : List Zh)) true), (6, I (w64 (1 + v1.1)))] [sc 0 v1.2] ?_
 refine Zk ?_
 refine Zaf (ι := Nat × Int × Zc × (List Zh)) (fun (f8, x5, x6, x7) => (⟨73, [(0, .ptr 0 0 0), (1, I a1), (5, rf 1 0 2 x7), (6, I x5)], [sc 0 x6, sl 0 x7]⟩ : St)) (fun (f8, x5, x6, x7) => spec_l20Tables_l0 a1 f8 x5 x6 x7 = some y) Prod.fst (FUEL, (w64 (1 + v1.1)), v1.2, ([] : List Zh)) h (Imp.thawS 5 [0, 1, 5, 6] (by kernel_rfl)) ?_
 rintro ⟨f8, x5, x6, x7⟩ h
 dsimp only at h ⊢
 rcases f8 with _ | f8
 cases h
 rw [spec_l20Tables_l0] at h
 refine Zi ?_
 refine srveM [8] 73 [(0, .ptr 0 0 0), (1, I a1), (5, rf 1 0 2 x7), (6, I x5), (14, B (decide (x5 > 0)))] [sc 0 x6, sl 0 x7] ?_
 refine pc h (fun h => ?_) (fun h => ?_)
 refine Zj ?_
 refine Zi ?_
 refine Zk ?_
 refine srvM [8] 1 73 [(0, .ptr 0 0 0), (1, I a1), (5, rf 1 0 2 x7), (6, I x5), (17, .ptr 0 0 0)] [sc 0 x6, sl 0 x7] ?_
 obtain ⟨v11, hv12, h⟩ := bindS h
 refine cBo 18 0 0 (ok_spec_l20Columns hv12) ?_
 refine veM [8] 1 73 [(0, .ptr 0 0 0), (1, I a1), (5, rf 1 0 2 x7), (6, I x5), (7, A v11.1)] [sc 0 v11.2, sl 0 x7] ?_
 refine srvM [8] 2 73 [(0, .ptr 0 0 0), (1, I a1), (5, rf 1 0 2 x7), (6, I x5), (7, A v11.1), (19, A v11.1), (20, .ptr 0 0 0)] [sc 0 v11.2, sl 0 x7] ?_
 obtain ⟨v13, hv14, h⟩ := bindS h
 refine cB 21 0 0 (Zl hv14) ?_
 refine vM [8] 2 73 [(0, .ptr 0 0 0), (1, I a1), (5, rf 1 0 2 x7), (6, I x5), (19, A v11.1), (21, I v13.1), (23, I (v11.1.length : Int))] [sc 0 v13.2, sl 0 x7] ?_
 obtain ⟨v15, hv16, h⟩ := bindS h
 refine opsP_div τ_ok (r := true) 24 hv16 (by kernel_rfl) ?_
 refine vM [8] 1 73 [(0, .ptr 0 0 0), (1, I a1), (5, rf 1 0 2 x7), (6, I x5), (19, A v11.1), (25, I (w64 (1 + v15)))] [sc 0 v13.2, sl 0 x7] ?_
 obtain ⟨v17, hv18, h⟩ := bindS h
 refine opsP_slc τ_ok 26 hv18 (by kernel_rfl) ?_
 refine veM [8] 1 73 [(0, .ptr 0 0 0), (1, I a1), (5, rf 1 0 2 x7), (6, I x5), (7, A v17)] [sc 0 v13.2, sl 0 x7] ?_
 refine srvM [8] 3 73 [(0, .ptr 0 0 0), (1, I a1), (5, rf 1 0 2 x7), (6, I x5), (27, A v17), (28, .ptr 0 0 0), (29, A v17)] [sc 0 v13.2, sl 0 x7] ?_
 obtain ⟨v19, hv20, h⟩ := bindS h
 refine cBo 30 0 0 (ok_spec_l20Bag hv20) ?_
 refine veM [8] 3 73 [(0, .ptr 0 0 0), (1, I a1), (5, rf 1 0 2 x7), (6, I x5), (8, .ptr 2 0 0)] [sc 0 v19.2, sl 0 x7, some ⟨0, Enc.cells (Zh.mk v17 v19.1)⟩] ?_
 refine rvM [8] 3 73 [(0, .ptr 0 0 0), (1, I a1), (6, I x5), (32, rf 1 0 2 x7), (34, .arr 2 ([(Zh.mk v17 v19.1)] : List Zh).length (eL ([(Zh.mk v17 v19.1)] : List Zh)) true)] [sc 0 v19.2, sl 0 x7, some ⟨0, Enc.cells (Zh.mk v17 v19.1)⟩] ?_
 obtain ⟨v21, hv22, h⟩ := bindS h
 refine Zan τ_ok 35 1 0 (pn hQ) hv22 (by kernel_rfl) ?_
 refine veM [8] 1 73 [(0, .ptr 0 0 0), (1, I a1), (5, rf 1 1 2 v21), (6, I x5)] [sc 0 v19.2, sl 1 v21, some ⟨0, Enc.cells (Zh.mk v17 v19.1)⟩] ?_
 refine rveM [8] 73 [(0, .ptr 0 0 0), (1, I a1), (5, rf 1 1 2 v21), (6, I (w64 (x5 - 1)))] [sc 0 v19.2, sl 1 v21, some ⟨0, Enc.cells (Zh.mk v17 v19.1)⟩] ?_
 exact ⟨(f8, (w64 (x5 - 1)), v19.2, v21), h, Nat.lt_succ_self _, qt (it (st' := ⟨73, [(0, .ptr 0 0 0), (1, I a1), (5, rf 1 1 2 v21), (6, I (w64 (x5 - 1)))], [sc 0 v19.2, sl 1 v21, some ⟨0, Enc.cells (Zh.mk v17 v19.1)⟩]⟩) [0, 1, 5, 6]) (qt (Imp.truncS (st' := ⟨73, [(0, .ptr 0 0 0), (1, I a1), (5, rf 1 1 2 v21), (6, I (w64 (x5 - 1)))], [sc 0 v19.2, sl 1 v21]⟩) 2 (pl hQ) (by kernel_rfl) (allBelow_mem (by exact (And.intro rfl (And.intro rfl (And.intro rfl (And.intro rfl trivial)))))) (by exact (And.intro (rfl) (And.intro (frz_below (eL_frz _)) trivial))) (by kernel_rfl)) (Imp.reverS 1 1 (eL v21) [0, 1, 5, 6] (by kernel_rfl) (by exact (And.intro (rfl) (And.intro (eL_frz _) trivial))) (by kernel_rfl)))⟩
 refine Zae ?_
 refine Zi ?_
 refine srvM [8] 2 73 [(0, .ptr 0 0 0), (5, rf 1 0 2 x7), (36, .ptr 0 0 0), (37, I a1)] [sc 0 x6, sl 0 x7] ?_
 obtain ⟨v23, hv24, h⟩ := bindS h
 refine cB 38 0 0 (ok_spec_l20Rd_odd hv24) ?_
 refine veM [8] 0 73 [(0, .ptr 0 0 0), (5, rf 1 0 2 x7), (38, B v23.1)] [sc 0 v23.2, sl 0 x7] ?_
 refine pc h (fun h => ?_) (fun h => ?_)
 refine srvM [8] 1 73 [(5, rf 1 0 2 x7), (39, .ptr 0 0 0)] [sc 0 v23.2, sl 0 x7] ?_
 obtain ⟨v26, hv27, h⟩ := bindS h
 refine cB 40 0 0 (Zl hv27) ?_
 refine veM [8] 0 73 [(5, rf 1 0 2 x7), (40, I v26.1)] [sc 0 v26.2, sl 0 x7] ?_
 refine Zk ?_
 refine srveM [8] 73 [(5, rf 1 0 2 x7), (40, I v26.1), (51, B (v26.1 == 0))] [sc 0 v26.2, sl 0 x7] ?_
 refine pc h (fun h => ?_) (fun h => ?_)
 refine rvM [8] 5 73 [(53, rf 1 0 2 x7), (57, .arr 2 ([(Zh.mk [] []), (Zh.mk [] []), (Zh.mk [] [])] : List Zh).length (eL ([(Zh.mk [] []), (Zh.mk [] []), (Zh.mk [] [])] : List Zh)) true)] [sc 0 v26.2, sl 0 x7] ?_
 obtain ⟨v29, hv30, h⟩ := bindS h
 refine Zan τ_ok 58 1 0 (pn hQ) hv30 (by kernel_rfl) ?_
 refine veM [8] 1 73 [(5, rf 1 1 2 v29)] [sc 0 v26.2, sl 1 v29] ?_
 refine srveM [8] 73 [(4, rf 1 1 2 v29)] [sc 0 v26.2, sl 1 v29] ?_
 have h := si h
 subst h
 exact Zg ⟨.inr rfl, rf 1 1 2 v29, _, 0, by kernel_rfl, (OutP.list (v := 1) (by kernel_rfl)), by decide, by decide, by kernel_rfl⟩
 refine srveM [8] 73 [(5, rf 1 0 2 x7), (59, B (v26.1 == 1))] [sc 0 v26.2, sl 0 x7] ?_
 refine pc h (fun h => ?_) (fun h => ?_)
 cases h
 cases h
 refine Zj ?_
 refine srveM [8] 73 [(4, rf 1 0 2 x7)] [sc 0 v23.2, sl 0 x7] ?_
 have h := si h
 subst h
 exact Zg ⟨.inr rfl, rf 1 0 2 x7, _, 0, by kernel_rfl, (OutP.list (v := 0) (by kernel_rfl)), by decide, by decide, by kernel_rfl⟩
def impl_RowFits_j2 (x3 : Int) (K5 : Int → Option Bool) (x9 : Bool) : Option Bool := bif x9 then some false else K5 (w64 (x3 + 1))
def impl_RowFits_l1 (a0 : List Zb) (a1 : List Za) : Nat → Int → Option Bool
 | 0, _ => none
 | f4 + 1, x3 => bif (decide (x3 < (a1.length : Int))) then (getI a1 x3).bind fun v7 => (getI a0 x3).bind fun v11 => bif (!(v7.fKind == v11.fKind)) then bif (!(v7.fKind == 0)) then impl_RowFits_j2 x3 (impl_RowFits_l1 a0 a1 f4) true else (getI a0 x3).bind fun v13 => impl_RowFits_j2 x3 (impl_RowFits_l1 a0 a1 f4) (!v13.fEmpty) else impl_RowFits_j2 x3 (impl_RowFits_l1 a0 a1 f4) false else some true
def impl_RowFits_j0 (a0 : List Zb) (a1 : List Za) (x1 : Bool) : Option Bool := bif x1 then some false else impl_RowFits_l1 a0 a1 FUEL 0
def impl_RowFits (a0 : List Zb) (a1 : List Za) : Option Bool := (impl_ColumnsOk a0).bind fun v17 => bif (!v17) then impl_RowFits_j0 a0 a1 true else (impl_RowOk a1).bind fun v19 => bif (!v19) then impl_RowFits_j0 a0 a1 true else impl_RowFits_j0 a0 a1 (!((a1.length : Int) == (a0.length : Int)))
theorem ok_impl_RowFits {a0 : List Zb} {a1 : List Za} {y : Bool} (h : impl_RowFits a0 a1 = some y) : OK Tryz.prog 59 [A a0, A a1] (B y) := by
 refine ow Tryz.func59 fun Γ hX => ?_
 unfold impl_RowFits at h
 refine srveM [6] 51 [(0, A a0), (1, A a1)] [] ?_
 refine Zi ?_
 refine Zi ?_
 refine Zab (σ := Bool) (fun x1 => (⟨51, [(0, A a0), (1, A a1), (21, B x1)], []⟩ : St)) (fun x1 => impl_RowFits_j0 a0 a1 x1 = some y) ?_ ?_
 refine rvM [6] 1 51 [(0, A a0), (1, A a1), (7, A a0)] [] ?_
 obtain ⟨v17, hv18, h⟩ := bindS h
 refine cF 8 (ok_impl_ColumnsOk hv18) ?_
 refine vM [6] 2 51 [(0, A a0), (1, A a1), (10, B (!v17))] [] ?_
 rcases fk (!v17) with hc22 | hc22
 replace h := bT hc22 h
 rw [hc22]
 refine veM [6] 11 51 [(0, A a0), (1, A a1), (21, B true)] [] ?_
 exact ⟨true, h, it [0, 1, 21]⟩
 replace h := bF hc22 h
 rw [hc22]
 refine vM [6] 1 51 [(0, A a0), (1, A a1), (10, B false), (11, A a1)] [] ?_
 obtain ⟨v19, hv20, h⟩ := bindS h
 refine cF 12 (ok_impl_RowOk hv20) ?_
 refine vM [6] 3 51 [(0, A a0), (1, A a1), (15, B (!v19))] [] ?_
 rcases fk (!v19) with hc21 | hc21
 replace h := bT hc21 h
 rw [hc21]
 refine veM [6] 6 51 [(0, A a0), (1, A a1), (21, B true)] [] ?_
 exact ⟨true, h, it [0, 1, 21]⟩
 replace h := bF hc21 h
 rw [hc21]
 refine veM [6] 6 51 [(0, A a0), (1, A a1), (21, B (!((a1.length : Int) == (a0.length : Int))))] [] ?_
 exact ⟨(!((a1.length : Int) == (a0.length : Int))), h, it [0, 1, 21]⟩
 rintro x1 h
 unfold impl_RowFits_j0 at h
 refine pc h (fun h => ?_) (fun h => ?_)
 refine srveM [6] 51 [(4, B false)] [] ?_
 cases h
 exact Zg rz
 refine Zj ?_
 refine Zi ?_
 refine srveM [6] 51 [(0, A a0), (22, A a1), (23, I (a1.length : Int)), (24, I 0)] [] ?_
 refine Zk ?_
 refine Zaf (ι := Nat × Int) (fun (f4, x3) => (⟨51, [(0, A a0), (22, A a1), (23, I (a1.length : Int)), (24, I x3)], []⟩ : St)) (fun (f4, x3) => impl_RowFits_l1 a0 a1 f4 x3 = some y) Prod.fst (FUEL, 0) h (it [0, 22, 23, 24]) ?_
 rintro ⟨f4, x3⟩ h
 dsimp only at h ⊢
 rcases f4 with _ | f4
 cases h
 rw [impl_RowFits_l1] at h
 refine srveM [6] 51 [(0, A a0), (22, A a1), (23, I (a1.length : Int)), (24, I x3), (25, B (decide (x3 < (a1.length : Int))))] [] ?_
 refine Zi ?_
 refine pc h (fun h => ?_) (fun h => ?_)
 refine Zj ?_
 refine Zi ?_
 refine Zk ?_
 refine srvM [6] 1 51 [(0, A a0), (22, A a1), (23, I (a1.length : Int)), (24, I x3), (26, I x3)] [] ?_
 obtain ⟨v7, hv8, h⟩ := bindS h
 refine Z2 τ_ok 27 hv8 (by kernel_rfl) ?_
 refine veM [6] 4 51 [(0, A a0), (5, I x3), (6, .ptr 0 0 0), (22, A a1), (23, I (a1.length : Int)), (24, I x3)] [sc 0 v7] ?_
 refine Zi ?_
 refine Zab (σ := Bool) (fun x9 => (⟨51, [(0, A a0), (22, A a1), (23, I (a1.length : Int)), (24, I x3), (49, B x9)], [sc 0 v7]⟩ : St)) (fun x9 => impl_RowFits_j2 x3 (impl_RowFits_l1 a0 a1 f4) x9 = some y) ?_ ?_
 refine ip 51 [(0, A a0), (5, I x3), (6, .ptr 0 0 0), (22, A a1), (23, I (a1.length : Int)), (24, I x3)] [sc 0 v7] ?_
 refine pwp_any ([[0], [0], [], [], [], [], [], [], [], [0], [0], [], [], [], [], [], [], [], [], [], []]) ([[], [], [], [], [], [], [], [], [], [], [], [], [], [], [], [], [], [], [], [], []]) rfl (by kernel_rfl) ?_
 refine qvM [6] [0] (hB trivial) 2 51 [(30, I v7.fKind), (0, A a0), (5, I x3), (6, .ptr 0 0 0), (22, A a1), (23, I (a1.length : Int)), (24, I x3)] [sc 0 v7] ?_
 refine qvM [6] [] trivial 2 51 [(32, I x3), (31, A a0), (30, I v7.fKind), (0, A a0), (5, I x3), (6, .ptr 0 0 0), (22, A a1), (23, I (a1.length : Int)), (24, I x3)] [sc 0 v7] ?_
 obtain ⟨v11, hv12, h⟩ := bindS h
 refine qX (some 33) (pf v11 0) 51 [(33, pf v11 0), (30, I v7.fKind), (0, A a0), (5, I x3), (6, .ptr 0 0 0), (22, A a1), (23, I (a1.length : Int)), (24, I x3)] [sc 0 v7] (fun Γ' hΓ => CoreE.of_y (Zaj τ_ok (by kernel_rfl) hv12)) trivial ?_
 refine qvM [6] [] trivial 4 51 [(37, B (!(v7.fKind == v11.fKind))), (0, A a0), (5, I x3), (6, .ptr 0 0 0), (22, A a1), (23, I (a1.length : Int)), (24, I x3)] [sc 0 v7] ?_
 rcases fk (!(v7.fKind == v11.fKind)) with hc16 | hc16
 replace h := bT hc16 h
 rw [hc16]
 refine qvM [6] [0] (hB trivial) 2 51 [(39, I v7.fKind), (38, .ptr 0 0 0), (37, B true), (0, A a0), (5, I x3), (22, A a1), (23, I (a1.length : Int)), (24, I x3)] [sc 0 v7] ?_
 refine qvM [6] [] trivial 2 51 [(41, B (!(v7.fKind == 0))), (40, B (!(v7.fKind == 0))), (39, I v7.fKind), (38, .ptr 0 0 0), (37, B true), (0, A a0), (5, I x3), (22, A a1), (23, I (a1.length : Int)), (24, I x3)] [sc 0 v7] ?_
 rcases fk (!(v7.fKind == 0)) with hc15 | hc15
 replace h := bT hc15 h
 rw [hc15]
 refine qvnM [6] [] trivial 8 51 [(0, A a0), (22, A a1), (23, I (a1.length : Int)), (24, I x3), (38, .ptr 0 0 0), (39, I v7.fKind), (40, B true), (41, B true), (42, .lit undef), (43, .lit undef), (44, .lit undef), (45, .lit undef), (46, .lit undef), (47, .lit undef), (48, B true), (49, B true)] [sc 0 v7] ?_
 exact ⟨true, h, it [0, 22, 23, 24, 49]⟩
 replace h := bF hc15 h
 rw [hc15]
 refine qvM [6] [] trivial 2 51 [(43, I x3), (42, A a0), (41, B false), (40, B false), (39, I v7.fKind), (38, .ptr 0 0 0), (37, B true), (0, A a0), (22, A a1), (23, I (a1.length : Int)), (24, I x3)] [sc 0 v7] ?_
 obtain ⟨v13, hv14, h⟩ := bindS h
 refine qX (some 44) (pf v13 0) 51 [(44, pf v13 0), (43, I x3), (42, A a0), (41, B false), (40, B false), (39, I v7.fKind), (38, .ptr 0 0 0), (37, B true), (0, A a0), (22, A a1), (23, I (a1.length : Int)), (24, I x3)] [sc 0 v7] (fun Γ' hΓ => CoreE.of_y (Zaj τ_ok (by kernel_rfl) hv14)) trivial ?_
 refine qvnM [6] [] trivial 5 51 [(0, A a0), (22, A a1), (23, I (a1.length : Int)), (24, I x3), (38, .ptr 0 0 0), (39, I v7.fKind), (40, B false), (41, B false), (42, A a0), (43, I x3), (44, pf v13 0), (45, pf v13 1), (46, B v13.fEmpty), (47, B (!v13.fEmpty)), (48, B (!v13.fEmpty)), (49, B (!v13.fEmpty))] [sc 0 v7] ?_
 exact ⟨(!v13.fEmpty), h, it [0, 22, 23, 24, 49]⟩
 replace h := bF hc16 h
 rw [hc16]
 refine qvM [6] [0] (hB trivial) 2 51 [(39, .lit undef), (38, .lit undef), (37, B false), (0, A a0), (5, I x3), (22, A a1), (23, I (a1.length : Int)), (24, I x3)] [sc 0 v7] ?_
 refine qvM [6] [] trivial 10 51 [(49, B false), (48, .lit undef), (47, .lit undef), (46, .lit undef), (45, .lit undef), (44, .lit undef), (43, .lit undef), (42, .lit undef), (41, .lit undef), (40, .lit undef), (39, .lit undef), (38, .lit undef), (0, A a0), (22, A a1), (23, I (a1.length : Int)), (24, I x3)] [sc 0 v7] ?_
 refine qn 51 [(0, A a0), (22, A a1), (23, I (a1.length : Int)), (24, I x3), (38, .lit undef), (39, .lit undef), (40, .lit undef), (41, .lit undef), (42, .lit undef), (43, .lit undef), (44, .lit undef), (45, .lit undef), (46, .lit undef), (47, .lit undef), (48, .lit undef), (49, B false)] [sc 0 v7] ?_
 exact ⟨false, h, it [0, 22, 23, 24, 49]⟩
 rintro x9 h
 unfold impl_RowFits_j2 at h
 refine pc h (fun h => ?_) (fun h => ?_)
 refine srveM [6] 51 [(4, B false)] [sc 0 v7] ?_
 cases h
 exact Zg rz
 refine Zj ?_
 refine rveM [6] 51 [(0, A a0), (22, A a1), (23, I (a1.length : Int)), (24, I (w64 (x3 + 1)))] [sc 0 v7] ?_
 exact ⟨(f4, (w64 (x3 + 1))), h, Nat.lt_succ_self _, (it (st' := ⟨51, [(0, A a0), (22, A a1), (23, I (a1.length : Int)), (24, I (w64 (x3 + 1)))], [sc 0 v7]⟩) [0, 22, 23, 24]).trans (Imp.truncS 0 (nx hX) (by kernel_rfl) (allBelow_mem (by exact (And.intro rfl (And.intro rfl (And.intro rfl (And.intro rfl trivial)))))) (by exact trivial) (by kernel_rfl))⟩
 refine Zae ?_
 refine srveM [6] 51 [(4, B true)] [] ?_
 cases h
 exact Zg rz
def spec_ExprKind_j3 (x6 : List Int) (x15 : Bool) : Option Int := bif x15 then some (-1) else (getI x6 (0 : Int)).bind fun v17 => some v17
def spec_ExprKind_j2 (a0 : List Zb) (a1 : List Zd) (x4 : Bool) (x5 : Int) (x6 : List Int) (K8 : Bool → Int → (List Int) → Option Int) (x9 : Bool) : Option Int := bif x9 then (getI a1 x5).bind fun v11 => (Zay a0 x6 v11).bind fun v13 => K8 v13.2 (w64 (x5 + 1)) v13.1 else bif (!x4) then spec_ExprKind_j3 x6 true else spec_ExprKind_j3 x6 (!((x6.length : Int) == 1))
def spec_ExprKind_l1 (a0 : List Zb) (a1 : List Zd) : Nat → Bool → Int → (List Int) → Option Int
 | 0, _, _, _ => none
 | f7 + 1, x4, x5, x6 => bif (decide (x5 < (a1.length : Int))) then spec_ExprKind_j2 a0 a1 x4 x5 x6 (spec_ExprKind_l1 a0 a1 f7) x4 else spec_ExprKind_j2 a0 a1 x4 x5 x6 (spec_ExprKind_l1 a0 a1 f7) false
def spec_ExprKind_j0 (a0 : List Zb) (a1 : List Zd) (x1 : Bool) : Option Int := bif x1 then some (-1) else spec_ExprKind_l1 a0 a1 FUEL true 0 ([] : List Int)
def spec_ExprKind (a0 : List Zb) (a1 : List Zd) : Option Int := (spec_ColumnsOk a0).bind fun v21 => bif (!v21) then spec_ExprKind_j0 a0 a1 true else spec_ExprKind_j0 a0 a1 (decide ((a1.length : Int) > 12))
theorem ok_spec_ExprKind {a0 : List Zb} {a1 : List Zd} {y : Int} (h : spec_ExprKind a0 a1 = some y) : OK Tryz.prog 73 [A a0, A a1] (I y) := by
 refine ow Tryz.func73 fun Γ hX => ?_
 unfold spec_ExprKind at h
 refine srve 46 [(0, A a0), (1, A a1)] [] ?_
 refine Zi ?_
 refine Zi ?_
 refine Zab (σ := Bool) (fun x1 => (⟨46, [(0, A a0), (1, A a1), (15, B x1)], []⟩ : St)) (fun x1 => spec_ExprKind_j0 a0 a1 x1 = some y) ?_ ?_
 refine rv 1 46 [(0, A a0), (1, A a1), (8, A a0)] [] ?_
 obtain ⟨v21, hv22, h⟩ := bindS h
 refine cF 9 (ok_spec_ColumnsOk hv22) ?_
 refine v 2 46 [(0, A a0), (1, A a1), (11, B (!v21))] [] ?_
 rcases fk (!v21) with hc23 | hc23
 replace h := bT hc23 h
 rw [hc23]
 refine ve 4 46 [(0, A a0), (1, A a1), (15, B true)] [] ?_
 exact ⟨true, h, it [0, 1, 15]⟩
 replace h := bF hc23 h
 rw [hc23]
 refine ve 4 46 [(0, A a0), (1, A a1), (15, B (decide ((a1.length : Int) > 12)))] [] ?_
 exact ⟨(decide ((a1.length : Int) > 12)), h, it [0, 1, 15]⟩
 rintro x1 h
 unfold spec_ExprKind_j0 at h
 refine pc h (fun h => ?_) (fun h => ?_)
 refine srve 46 [(4, I (-1))] [] ?_
 cases h
 exact Zg rz
 refine Zj ?_
 refine srve 46 [(0, A a0), (1, A a1), (5, .arr 1 0 (eL ([] : List Int)) true)] [] ?_
 refine srve 46 [(0, A a0), (1, A a1), (5, .arr 1 0 (eL ([] : List Int)) true), (6, B true)] [] ?_
 refine Zi ?_
 refine srve 46 [(0, A a0), (1, A a1), (5, .arr 1 0 (eL ([] : List Int)) true), (6, B true), (7, I 0)] [] ?_
 refine Zk ?_
 refine Zaf (ι := Nat × Bool × Int × (List Int)) (fun (f7, x4, x5, x6) => (⟨46, [(0, A a0), (1, A a1), (5, rf 0 0 1 x6), (6, B x4), (7, I x5)], [sl 0 x6]⟩ : St)) (fun (f7, x4, x5, x6) => spec_ExprKind_l1 a0 a1 f7 x4 x5 x6 = some y) Prod.fst (FUEL, true, 0, ([] : List Int)) h (Imp.thawS 5 [0, 1, 5, 6, 7] (by kernel_rfl)) ?_
 rintro ⟨f7, x4, x5, x6⟩ h
 dsimp only at h ⊢
 rcases f7 with _ | f7
 cases h
 rw [spec_ExprKind_l1] at h
 refine Zi ?_
 refine Zi ?_
 refine Zab (σ := Bool) (fun x9 => (⟨46, [(0, A a0), (1, A a1), (5, rf 0 0 1 x6), (6, B x4), (7, I x5), (23, B x9)], [sl 0 x6]⟩ : St)) (fun x9 => spec_ExprKind_j2 a0 a1 x4 x5 x6 (spec_ExprKind_l1 a0 a1 f7) x9 = some y) ?_ ?_
 refine rv 5 46 [(0, A a0), (1, A a1), (5, rf 0 0 1 x6), (6, B x4), (7, I x5), (21, B (decide (x5 < (a1.length : Int))))] [sl 0 x6] ?_
 rcases fk (decide (x5 < (a1.length : Int))) with hc20 | hc20
 replace h := bT hc20 h
 rw [hc20]
 refine ve 2 46 [(0, A a0), (1, A a1), (5, rf 0 0 1 x6), (6, B x4), (7, I x5), (22, B x4), (23, B x4)] [sl 0 x6] ?_
 exact ⟨x4, h, it [0, 1, 5, 6, 7, 23]⟩
 replace h := bF hc20 h
 rw [hc20]
 refine ve 2 46 [(0, A a0), (1, A a1), (5, rf 0 0 1 x6), (6, B x4), (7, I x5), (22, .lit undef), (23, B false)] [sl 0 x6] ?_
 exact ⟨false, h, it [0, 1, 5, 6, 7, 23]⟩
 rintro x9 h
 unfold spec_ExprKind_j2 at h
 refine pc h (fun h => ?_) (fun h => ?_)
 refine Zj ?_
 refine Zi ?_
 refine Zk ?_
 refine rv 4 46 [(0, A a0), (1, A a1), (7, I x5), (27, A a0), (28, rf 0 0 1 x6), (29, A a1), (30, I x5)] [sl 0 x6] ?_
 obtain ⟨v11, hv12, h⟩ := bindS h
 refine Z2 τ_ok 31 hv12 (by kernel_rfl) ?_
 refine v 1 46 [(0, A a0), (1, A a1), (7, I x5), (27, A a0), (28, rf 0 0 1 x6), (32, E v11)] [sl 0 x6] ?_
 obtain ⟨v13, hv14, h⟩ := bindS h
 refine opsP_callM (xs := [A a0, rf 0 0 1 x6, E v11]) (x := .tup [rf 1 0 1 v13.1, B v13.2]) (bs := [⟨0, eL v13.1⟩]) τ 33 [0] (nx hX) (ok_spec_l4Step hv14) (by kernel_rfl) (OutL.cons (OutP.frz rfl) (OutL.cons (OutP.list (v := 0) (by kernel_rfl)) (OutL.cons (OutP.frz rfl) (OutL.nil _)))) (by decide) (by kernel_rfl) ?_
 refine ve 5 46 [(0, A a0), (1, A a1), (5, rf 1 0 1 v13.1), (6, B v13.2), (7, I x5)] [none, sl 0 v13.1] ?_
 refine rve 46 [(0, A a0), (1, A a1), (5, rf 1 0 1 v13.1), (6, B v13.2), (7, I (w64 (x5 + 1)))] [none, sl 0 v13.1] ?_
 exact ⟨(f7, v13.2, (w64 (x5 + 1)), v13.1), h, Nat.lt_succ_self _, qt (it (st' := ⟨46, [(0, A a0), (1, A a1), (5, rf 1 0 1 v13.1), (6, B v13.2), (7, I (w64 (x5 + 1)))], [none, sl 0 v13.1]⟩) [0, 1, 5, 6, 7]) (qt (Imp.mvS (st' := ⟨46, [(0, A a0), (1, A a1), (5, rf 0 0 1 v13.1), (6, B v13.2), (7, I (w64 (x5 + 1)))], [sl 0 v13.1, none]⟩) 1 0 [0, 1, 5, 6, 7] (nx hX) (v := 0) (cs := eL v13.1) (by kernel_rfl) (by kernel_rfl) (by exact (And.intro (eL_frz _) trivial)) (by kernel_rfl) (by kernel_rfl)) (Imp.truncS 1 (nx hX) (by kernel_rfl) (allBelow_mem (by exact (And.intro rfl (And.intro rfl (And.intro rfl (And.intro rfl (And.intro rfl trivial))))))) (by exact (And.intro (frz_below (eL_frz _)) trivial)) (by kernel_rfl)))⟩
 refine Zae ?_
 refine Zi ?_
 refine Zi ?_
 refine Zab (σ := Bool) (fun x15 => (⟨46, [(5, rf 0 0 1 x6), (42, B x15)], [sl 0 x6]⟩ : St)) (fun x15 => spec_ExprKind_j3 x6 x15 = some y) ?_ ?_
 refine rv 3 46 [(5, rf 0 0 1 x6), (38, B (!x4))] [sl 0 x6] ?_
 rcases fk (!x4) with hc19 | hc19
 replace h := bT hc19 h
 rw [hc19]
 refine ve 4 46 [(5, rf 0 0 1 x6), (42, B true)] [sl 0 x6] ?_
 exact ⟨true, h, it [5, 42]⟩
 replace h := bF hc19 h
 rw [hc19]
 refine ve 4 46 [(5, rf 0 0 1 x6), (42, B (!((x6.length : Int) == 1)))] [sl 0 x6] ?_
 exact ⟨(!((x6.length : Int) == 1)), h, it [5, 42]⟩
 rintro x15 h
 unfold spec_ExprKind_j3 at h
 refine pc h (fun h => ?_) (fun h => ?_)
 refine srve 46 [(4, I (-1))] [sl 0 x6] ?_
 cases h
 exact Zg rz
 refine Zj ?_
 refine srv 1 46 [(43, rf 0 0 1 x6)] [sl 0 x6] ?_
 obtain ⟨v17, hv18, h⟩ := bindS h
 refine opsP_idr τ_ok 44 0 0 x6.length hv18 rfl (by kernel_rfl) ?_
 refine opsP_lde (r := I v17) τ_ok 45 3 0 hv18 (by kernel_rfl) (by kernel_rfl) ?_
 refine ve 1 46 [(4, I v17)] [sl 0 x6] ?_
 cases h
 exact Zg rz
def spec_RowFits_j2 (x3 : Int) (K5 : Int → Option Bool) (x7 : Bool) : Option Bool := bif x7 then some false else K5 (w64 (x3 + 1))
def spec_RowFits_l1 (a0 : List Zb) (a1 : List Za) : Nat → Int → Option Bool
 | 0, _ => none
 | f4 + 1, x3 => bif (decide (x3 < (a1.length : Int))) then (getI a1 x3).bind fun v9 => (getI a0 x3).bind fun v11 => bif (!(v9.fKind == v11.fKind)) then (getI a1 x3).bind fun v13 => bif (!(v13.fKind == 0)) then spec_RowFits_j2 x3 (spec_RowFits_l1 a0 a1 f4) true else (getI a0 x3).bind fun v15 => spec_RowFits_j2 x3 (spec_RowFits_l1 a0 a1 f4) (!v15.fEmpty) else spec_RowFits_j2 x3 (spec_RowFits_l1 a0 a1 f4) false else some true
def spec_RowFits_j0 (a0 : List Zb) (a1 : List Za) (x1 : Bool) : Option Bool := bif x1 then some false else spec_RowFits_l1 a0 a1 FUEL 0
def spec_RowFits (a0 : List Zb) (a1 : List Za) : Option Bool := (spec_ColumnsOk a0).bind fun v19 => bif (!v19) then spec_RowFits_j0 a0 a1 true else (spec_RowOk a1).bind fun v21 => bif (!v21) then spec_RowFits_j0 a0 a1 true else spec_RowFits_j0 a0 a1 (!((a1.length : Int) == (a0.length : Int)))
theorem ok_spec_RowFits {a0 : List Zb} {a1 : List Za} {y : Bool} (h : spec_RowFits a0 a1 = some y) : OK Tryz.prog 74 [A a0, A a1] (B y) := by
 refine ow Tryz.func74 fun Γ hX => ?_
 unfold spec_RowFits at h
 refine srve 54 [(0, A a0), (1, A a1)] [] ?_
 refine Zi ?_
 refine Zi ?_
 refine Zab (σ := Bool) (fun x1 => (⟨54, [(0, A a0), (1, A a1), (20, B x1)], []⟩ : St)) (fun x1 => spec_RowFits_j0 a0 a1 x1 = some y) ?_ ?_
 refine rv 1 54 [(0, A a0), (1, A a1), (6, A a0)] [] ?_
 obtain ⟨v19, hv20, h⟩ := bindS h
 refine cF 7 (ok_spec_ColumnsOk hv20) ?_
 refine v 2 54 [(0, A a0), (1, A a1), (9, B (!v19))] [] ?_
 rcases fk (!v19) with hc24 | hc24
 replace h := bT hc24 h
 rw [hc24]
 refine ve 11 54 [(0, A a0), (1, A a1), (20, B true)] [] ?_
 exact ⟨true, h, it [0, 1, 20]⟩
 replace h := bF hc24 h
 rw [hc24]
 refine v 1 54 [(0, A a0), (1, A a1), (9, B false), (10, A a1)] [] ?_
 obtain ⟨v21, hv22, h⟩ := bindS h
 refine cF 11 (ok_spec_RowOk hv22) ?_
 refine v 3 54 [(0, A a0), (1, A a1), (14, B (!v21))] [] ?_
 rcases fk (!v21) with hc23 | hc23
 replace h := bT hc23 h
 rw [hc23]
 refine ve 6 54 [(0, A a0), (1, A a1), (20, B true)] [] ?_
 exact ⟨true, h, it [0, 1, 20]⟩
 replace h := bF hc23 h
 rw [hc23]
 refine ve 6 54 [(0, A a0), (1, A a1), (20, B (!((a1.length : Int) == (a0.length : Int))))] [] ?_
 exact ⟨(!((a1.length : Int) == (a0.length : Int))), h, it [0, 1, 20]⟩
 rintro x1 h
 unfold spec_RowFits_j0 at h
 refine pc h (fun h => ?_) (fun h => ?_)
 refine srve 54 [(4, B false)] [] ?_
 cases h
 exact Zg rz
 refine Zj ?_
 refine Zi ?_
 refine srve 54 [(0, A a0), (1, A a1), (5, I 0)] [] ?_
 refine Zk ?_
 refine Zaf (ι := Nat × Int) (fun (f4, x3) => (⟨54, [(0, A a0), (1, A a1), (5, I x3)], []⟩ : St)) (fun (f4, x3) => spec_RowFits_l1 a0 a1 f4 x3 = some y) Prod.fst (FUEL, 0) h (it [0, 1, 5]) ?_
 rintro ⟨f4, x3⟩ h
 dsimp only at h ⊢
 rcases f4 with _ | f4
 cases h
 rw [spec_RowFits_l1] at h
 refine Zi ?_
 refine srve 54 [(0, A a0), (1, A a1), (5, I x3), (24, B (decide (x3 < (a1.length : Int))))] [] ?_
 refine pc h (fun h => ?_) (fun h => ?_)
 refine Zj ?_
 refine Zi ?_
 refine Zk ?_
 refine Zi ?_
 refine Zab (σ := Bool) (fun x7 => (⟨54, [(0, A a0), (1, A a1), (5, I x3), (53, B x7)], []⟩ : St)) (fun x7 => spec_RowFits_j2 x3 (spec_RowFits_l1 a0 a1 f4) x7 = some y) ?_ ?_
 refine ip 54 [(0, A a0), (1, A a1), (5, I x3)] [] ?_
 refine pN 27 ?_
 refine qv [] trivial 2 54 [(28, I x3), (27, A a1), (0, A a0), (1, A a1), (5, I x3)] [] ?_
 obtain ⟨v9, hv10, h⟩ := bindS h
 refine qX (some 29) (pf v9 0) 54 [(29, pf v9 0), (0, A a0), (1, A a1), (5, I x3)] [] (fun Γ' hΓ => CoreE.of_y (Zaj τ_ok (by kernel_rfl) hv10)) trivial ?_
 refine qv [] trivial 4 54 [(33, I x3), (32, A a0), (31, I v9.fKind), (0, A a0), (1, A a1), (5, I x3)] [] ?_
 obtain ⟨v11, hv12, h⟩ := bindS h
 refine qX (some 34) (pf v11 0) 54 [(34, pf v11 0), (31, I v9.fKind), (0, A a0), (1, A a1), (5, I x3)] [] (fun Γ' hΓ => CoreE.of_y (Zaj τ_ok (by kernel_rfl) hv12)) trivial ?_
 refine qv [] trivial 4 54 [(38, B (!(v9.fKind == v11.fKind))), (0, A a0), (1, A a1), (5, I x3)] [] ?_
 rcases fk (!(v9.fKind == v11.fKind)) with hc18 | hc18
 replace h := bT hc18 h
 rw [hc18]
 refine qv [] trivial 2 54 [(40, I x3), (39, A a1), (38, B true), (0, A a0), (1, A a1), (5, I x3)] [] ?_
 obtain ⟨v13, hv14, h⟩ := bindS h
 refine qX (some 41) (pf v13 0) 54 [(41, pf v13 0), (40, I x3), (39, A a1), (38, B true), (0, A a0), (1, A a1), (5, I x3)] [] (fun Γ' hΓ => CoreE.of_y (Zaj τ_ok (by kernel_rfl) hv14)) trivial ?_
 refine qv [] trivial 4 54 [(45, B (!(v13.fKind == 0))), (44, B (!(v13.fKind == 0))), (43, I v13.fKind), (42, pf v13 0), (41, pf v13 0), (40, I x3), (39, A a1), (38, B true), (0, A a0), (1, A a1), (5, I x3)] [] ?_
 rcases fk (!(v13.fKind == 0)) with hc17 | hc17
 replace h := bT hc17 h
 rw [hc17]
 refine qvn [] trivial 8 54 [(0, A a0), (1, A a1), (5, I x3), (39, A a1), (40, I x3), (41, pf v13 0), (42, pf v13 0), (43, I v13.fKind), (44, B true), (45, B true), (46, .lit undef), (47, .lit undef), (48, .lit undef), (49, .lit undef), (50, .lit undef), (51, .lit undef), (52, B true), (53, B true)] [] ?_
 exact ⟨true, h, it [0, 1, 5, 53]⟩
 replace h := bF hc17 h
 rw [hc17]
 refine qv [] trivial 2 54 [(47, I x3), (46, A a0), (45, B false), (44, B false), (43, I v13.fKind), (42, pf v13 0), (41, pf v13 0), (40, I x3), (39, A a1), (38, B true), (0, A a0), (1, A a1), (5, I x3)] [] ?_
 obtain ⟨v15, hv16, h⟩ := bindS h
 refine qX (some 48) (pf v15 0) 54 [(48, pf v15 0), (47, I x3), (46, A a0), (45, B false), (44, B false), (43, I v13.fKind), (42, pf v13 0), (41, pf v13 0), (40, I x3), (39, A a1), (38, B true), (0, A a0), (1, A a1), (5, I x3)] [] (fun Γ' hΓ => CoreE.of_y (Zaj τ_ok (by kernel_rfl) hv16)) trivial ?_
 refine qvn [] trivial 5 54 [(0, A a0), (1, A a1), (5, I x3), (39, A a1), (40, I x3), (41, pf v13 0), (42, pf v13 0), (43, I v13.fKind), (44, B false), (45, B false), (46, A a0), (47, I x3), (48, pf v15 0), (49, pf v15 1), (50, B v15.fEmpty), (51, B (!v15.fEmpty)), (52, B (!v15.fEmpty)), (53, B (!v15.fEmpty))] [] ?_
 exact ⟨(!v15.fEmpty), h, it [0, 1, 5, 53]⟩
 replace h := bF hc18 h
 rw [hc18]
 refine qvn [] trivial 15 54 [(0, A a0), (1, A a1), (5, I x3), (39, .lit undef), (40, .lit undef), (41, .lit undef), (42, .lit undef), (43, .lit undef), (44, .lit undef), (45, .lit undef), (46, .lit undef), (47, .lit undef), (48, .lit undef), (49, .lit undef), (50, .lit undef), (51, .lit undef), (52, .lit undef), (53, B false)] [] ?_
 exact ⟨false, h, it [0, 1, 5, 53]⟩
 rintro x7 h
 unfold spec_RowFits_j2 at h
 refine pc h (fun h => ?_) (fun h => ?_)
 refine srve 54 [(4, B false)] [] ?_
 cases h
 exact Zg rz
 refine Zj ?_
 refine rve 54 [(0, A a0), (1, A a1), (5, I (w64 (x3 + 1)))] [] ?_
 exact ⟨(f4, (w64 (x3 + 1))), h, Nat.lt_succ_self _, it [0, 1, 5]⟩
 refine Zae ?_
 refine srve 54 [(4, B true)] [] ?_
 cases h
 exact Zg rz
def impl_beside (a0 : List Za) (a1 : List Za) : Option (List Za) := (slices_Concat_impl_Value_impl_Value ([a0, a1])).bind fun v1 => (impl_clone_impl_Value v1).bind fun v3 => some v3
theorem ok_impl_beside {a0 : List Za} {a1 : List Za} {y : List Za} (h : impl_beside a0 a1 = some y) : OK Tryz.prog 78 [A a0, A a1] (A y) := by
 refine ow Tryz.func78 fun Γ hX => ?_
 unfold impl_beside at h
 refine srve 10 [(0, A a0), (1, A a1)] [] ?_
 refine srv 3 10 [(7, .arr 1 ([a0, a1] : List (List Za)).length (eL ([a0, a1] : List (List Za))) true)] [] ?_
 obtain ⟨v1, hv2, h⟩ := bindS h
 refine cFo 8 (ok_slices_Concat_impl_Value_impl_Value hv2) ?_
 obtain ⟨v3, hv4, h⟩ := bindS h
 refine cF 9 (ok_impl_clone_impl_Value hv4) ?_
 refine ve 1 10 [(4, A v3)] [] ?_
 cases h
 exact Zg rz
def impl_RowsOk_1 (a0 : List Za) (b0 : List Zb) : Option Bool := (impl_RowFits b0 a0).bind fun v1 => some (!v1)
theorem ok_impl_RowsOk_1 {a0 : List Za} {b0 : List Zb} {y : Bool} (h : impl_RowsOk_1 a0 b0 = some y) : OK Tryz.prog 91 [A a0, pf b0 0] (B y) := by
 refine ow Tryz.func91 fun Γ hX => ?_
 unfold impl_RowsOk_1 at h
 refine srve 8 [(0, A a0), (1, pf b0 0)] [] ?_
 refine srv 2 8 [(4, A b0), (5, A a0)] [] ?_
 obtain ⟨v1, hv2, h⟩ := bindS h
 refine cF 6 (ok_impl_RowFits hv2) ?_
 refine ve 2 8 [(3, B (!v1))] [] ?_
 cases h
 exact Zg rz
def Zah (a0 : Zd) (a1 : List Zb) (a2 : List Int) : Option (Int × Bool) := bif (a0.fKind == 1) then some (a0.fV.fKind, true) else bif (a0.fKind == 2) then (getI a1 a0.fN).bind fun v3 => some (v3.fKind, true) else bif (a0.fKind == 3) then (impl_Part_kind_1 1 a2).bind fun v6 => some (1, v6) else bif (a0.fKind == 4) then (getI a2 0).bind fun v9 => (getI a2 1).bind fun v11 => some (3, (v9 == v11)) else bif (a0.fKind == 8) then some (3, true) else (impl_Part_kind_1 3 a2).bind fun v14 => some (3, v14)
theorem ok_impl_Part_kind {a0 : Zd} {a1 : List Zb} {a2 : List Int} {y : Int × Bool} (h : Zah a0 a1 a2 = some y) : OK Tryz.prog 94 [E a0, A a1, A a2] (.tup [I y.1, B y.2]) := by
 refine ow Tryz.func94 fun Γ hX => ?_
 unfold Zah at h
 refine srve 42 [(1, A a1), (3, pf a0 0), (5, pf a2 0)] [] ?_
 refine srve 42 [(1, A a1), (3, pf a0 0), (5, pf a2 0), (8, .fn 105 [pf a2 0])] [] ?_
 refine Zi ?_
 refine srve 42 [(1, A a1), (3, pf a0 0), (5, pf a2 0), (8, .fn 105 [pf a2 0]), (11, I a0.fKind)] [] ?_
 refine Zk ?_
 refine srve 42 [(1, A a1), (3, pf a0 0), (5, pf a2 0), (8, .fn 105 [pf a2 0]), (11, I a0.fKind), (12, B (a0.fKind == 1))] [] ?_
 refine pc h (fun h => ?_) (fun h => ?_)
 refine srve 42 [(6, I a0.fV.fKind), (7, B true)] [] ?_
 have h := si h
 subst h
 exact Zg (rt (.tup [I a0.fV.fKind, B true]) (OutP.tup (OutL.cons (OutP.frz (by kernel_rfl)) (OutL.cons (OutP.frz (by kernel_rfl)) (OutL.nil _)))))
 refine srve 42 [(1, A a1), (3, pf a0 0), (5, pf a2 0), (8, .fn 105 [pf a2 0]), (11, I a0.fKind), (17, B (a0.fKind == 2))] [] ?_
 refine pc h (fun h => ?_) (fun h => ?_)
 refine srv 3 42 [(19, A a1), (21, I a0.fN)] [] ?_
 obtain ⟨v3, hv4, h⟩ := bindS h
 refine Z2 τ_ok 22 hv4 (by kernel_rfl) ?_
 refine ve 4 42 [(6, I v3.fKind), (7, B true)] [] ?_
 have h := si h
 subst h
 exact Zg (rt (.tup [I v3.fKind, B true]) (OutP.tup (OutL.cons (OutP.frz (by kernel_rfl)) (OutL.cons (OutP.frz (by kernel_rfl)) (OutL.nil _)))))
 refine srve 42 [(5, pf a2 0), (8, .fn 105 [pf a2 0]), (11, I a0.fKind), (25, B (a0.fKind == 3))] [] ?_
 refine pc h (fun h => ?_) (fun h => ?_)
 refine srv 1 42 [(27, .fn 105 [pf a2 0])] [] ?_
 obtain ⟨v6, hv7, h⟩ := bindS h
 refine cF 28 (ok_impl_Part_kind_1 hv7) ?_
 refine ve 2 42 [(6, I 1), (7, B v6)] [] ?_
 have h := si h
 subst h
 exact Zg (rt (.tup [I 1, B v6]) (OutP.tup (OutL.cons (OutP.frz (by kernel_rfl)) (OutL.cons (OutP.frz (by kernel_rfl)) (OutL.nil _)))))
 refine srve 42 [(5, pf a2 0), (8, .fn 105 [pf a2 0]), (11, I a0.fKind), (29, B (a0.fKind == 4))] [] ?_
 refine pc h (fun h => ?_) (fun h => ?_)
 refine Zi ?_
 refine ip 42 [(5, pf a2 0)] [] ?_
 refine pN 9 ?_
 refine qv [] trivial 1 42 [(31, A a2), (5, pf a2 0)] [] ?_
 obtain ⟨v9, hv10, h⟩ := bindS h
 refine qX (some 32) (pf v9 0) 42 [(32, pf v9 0), (5, pf a2 0)] [] (fun Γ' hΓ => CoreE.of_y (Zaj τ_ok (by kernel_rfl) hv10)) trivial ?_
 refine qv [] trivial 2 42 [(34, A a2), (33, I v9)] [] ?_
 obtain ⟨v11, hv12, h⟩ := bindS h
 refine qX (some 35) (pf v11 0) 42 [(35, pf v11 0), (33, I v9)] [] (fun Γ' hΓ => CoreE.of_y (Zaj τ_ok (by kernel_rfl) hv12)) trivial ?_
 refine qvn [] trivial 4 42 [(6, I 3), (7, B (v9 == v11))] [] ?_
 have h := si h
 subst h
 exact Zg (rt (.tup [I 3, B (v9 == v11)]) (OutP.tup (OutL.cons (OutP.frz (by kernel_rfl)) (OutL.cons (OutP.frz (by kernel_rfl)) (OutL.nil _)))))
 refine srve 42 [(8, .fn 105 [pf a2 0]), (38, B (a0.fKind == 8))] [] ?_
 refine pc h (fun h => ?_) (fun h => ?_)
 refine srve 42 [(6, I 3), (7, B true)] [] ?_
 have h := si h
 subst h
 exact Zg (rt (.tup [I 3, B true]) (OutP.tup (OutL.cons (OutP.frz (by kernel_rfl)) (OutL.cons (OutP.frz (by kernel_rfl)) (OutL.nil _)))))
 refine Zj ?_
 refine srv 1 42 [(40, .fn 105 [pf a2 0])] [] ?_
 obtain ⟨v14, hv15, h⟩ := bindS h
 refine cF 41 (ok_impl_Part_kind_1 hv15) ?_
 refine ve 2 42 [(6, I 3), (7, B v14)] [] ?_
 have h := si h
 subst h
 exact Zg (rt (.tup [I 3, B v14]) (OutP.tup (OutL.cons (OutP.frz (by kernel_rfl)) (OutL.cons (OutP.frz (by kernel_rfl)) (OutL.nil _)))))
def impl_Compare_j1 (a0 : Int) (a1 : Za) (a2 : Za) (x3 : Bool) : Option Int := bif x3 then some 2 else bif (!(a1.fKind == a2.fKind)) then some (-1) else (impl_Value_order a1 a2).bind fun v6 => bif (a0 == 1) then bif (v6 == 0) then (Zai true).bind fun v8 => some v8 else bif (a0 == 2) then bif (!(v6 == 0)) then (Zai true).bind fun v10 => some v10 else bif (a0 == 3) then bif (decide (v6 < 0)) then (Zai true).bind fun v12 => some v12 else bif (a0 == 4) then (Zai (decide (v6 ≤ 0))).bind fun v14 => some v14 else (Zai false).bind fun v16 => some v16 else bif (a0 == 4) then (Zai (decide (v6 ≤ 0))).bind fun v20 => some v20 else (Zai false).bind fun v22 => some v22 else bif (a0 == 3) then bif (decide (v6 < 0)) then (Zai true).bind fun v27 => some v27 else bif (a0 == 4) then (Zai (decide (v6 ≤ 0))).bind fun v29 => some v29 else (Zai false).bind fun v31 => some v31 else bif (a0 == 4) then (Zai (decide (v6 ≤ 0))).bind fun v35 => some v35 else (Zai false).bind fun v37 => some v37 else bif (a0 == 2) then bif (!(v6 == 0)) then (Zai true).bind fun v43 => some v43 else bif (a0 == 3) then bif (decide (v6 < 0)) then (Zai true).bind fun v45 => some v45 else bif (a0 == 4) then (Zai (decide (v6 ≤ 0))).bind fun v47 => some v47 else (Zai false).bind fun v49 => some v49 else bif (a0 == 4) then (Zai (decide (v6 ≤ 0))).bind fun v53 => some v53 else (Zai false).bind fun v55 => some v55 else bif (a0 == 3) then bif (decide (v6 < 0)) then (Zai true).bind fun v60 => some v60 else bif (a0 == 4) then (Zai (decide (v6 ≤ 0))).bind fun v62 => some v62 else (Zai false).bind fun v64 => some v64 else bif (a0 == 4) then (Zai (decide (v6 ≤ 0))).bind fun v68 => some v68 else (Zai false).bind fun v70 => some v70
def impl_Compare_j0 (a0 : Int) (a1 : Za) (a2 : Za) (x1 : Bool) : Option Int := bif x1 then some (-1) else bif (a1.fKind == 0) then impl_Compare_j1 a0 a1 a2 true else impl_Compare_j1 a0 a1 a2 (a2.fKind == 0)
def impl_Compare (a0 : Int) (a1 : Za) (a2 : Za) : Option Int := (Za9 a0 1 4).bind fun v77 => bif (!v77) then impl_Compare_j0 a0 a1 a2 true else (impl_Value_ok a1).bind fun v79 => bif (!v79) then impl_Compare_j0 a0 a1 a2 true else (impl_Value_ok a2).bind fun v81 => impl_Compare_j0 a0 a1 a2 (!v81)
theorem ok_impl_Compare {a0 : Int} {a1 : Za} {a2 : Za} {y : Int} (h : impl_Compare a0 a1 a2 = some y) : OK Tryz.prog 114 [I a0, E a1, E a2] (I y) := by
 refine ow Tryz.func114 fun Γ hX => ?_
 unfold impl_Compare at h
 refine srve 71 [(0, I a0), (4, pf a1 0), (5, pf a2 0)] [] ?_
 refine Zi ?_
 refine Zk ?_
 refine Zi ?_
 refine Zab (σ := Bool) (fun x1 => (⟨71, [(0, I a0), (4, pf a1 0), (5, pf a2 0), (8, B x1)], []⟩ : St)) (fun x1 => impl_Compare_j0 a0 a1 a2 x1 = some y) ?_ ?_
 refine rv 1 71 [(0, I a0), (4, pf a1 0), (5, pf a2 0), (9, I a0)] [] ?_
 obtain ⟨v77, hv78, h⟩ := bindS h
 refine cF 10 (Za2 hv78) ?_
 refine v 2 71 [(0, I a0), (4, pf a1 0), (5, pf a2 0), (12, B (!v77))] [] ?_
 rcases fk (!v77) with hc84 | hc84
 replace h := bT hc84 h
 rw [hc84]
 refine ve 10 71 [(0, I a0), (4, pf a1 0), (5, pf a2 0), (8, B true)] [] ?_
 exact ⟨true, h, it [0, 4, 5, 8]⟩
 replace h := bF hc84 h
 rw [hc84]
 refine v 1 71 [(0, I a0), (4, pf a1 0), (5, pf a2 0), (12, B false), (13, E a1)] [] ?_
 obtain ⟨v79, hv80, h⟩ := bindS h
 refine cF 14 (ok_impl_Value_ok hv80) ?_
 refine v 3 71 [(0, I a0), (4, pf a1 0), (5, pf a2 0), (17, B (!v79))] [] ?_
 rcases fk (!v79) with hc83 | hc83
 replace h := bT hc83 h
 rw [hc83]
 refine ve 5 71 [(0, I a0), (4, pf a1 0), (5, pf a2 0), (8, B true)] [] ?_
 exact ⟨true, h, it [0, 4, 5, 8]⟩
 replace h := bF hc83 h
 rw [hc83]
 refine v 1 71 [(0, I a0), (4, pf a1 0), (5, pf a2 0), (17, B false), (18, E a2)] [] ?_
 obtain ⟨v81, hv82, h⟩ := bindS h
 refine cF 19 (ok_impl_Value_ok hv82) ?_
 refine ve 3 71 [(0, I a0), (4, pf a1 0), (5, pf a2 0), (8, B (!v81))] [] ?_
 exact ⟨(!v81), h, it [0, 4, 5, 8]⟩
 rintro x1 h
 unfold impl_Compare_j0 at h
 refine pc h (fun h => ?_) (fun h => ?_)
 refine srve 71 [(6, I (-1))] [] ?_
 cases h
 exact Zg rz
 refine Zi ?_
 refine Zab (σ := Bool) (fun x3 => (⟨71, [(0, I a0), (4, pf a1 0), (5, pf a2 0), (22, B x3)], []⟩ : St)) (fun x3 => impl_Compare_j1 a0 a1 a2 x3 = some y) ?_ ?_
 refine rv 4 71 [(0, I a0), (4, pf a1 0), (5, pf a2 0), (26, B (a1.fKind == 0))] [] ?_
 rcases fk (a1.fKind == 0) with hc76 | hc76
 replace h := bT hc76 h
 rw [hc76]
 refine ve 5 71 [(0, I a0), (4, pf a1 0), (5, pf a2 0), (22, B true)] [] ?_
 exact ⟨true, h, it [0, 4, 5, 22]⟩
 replace h := bF hc76 h
 rw [hc76]
 refine ve 5 71 [(0, I a0), (4, pf a1 0), (5, pf a2 0), (22, B (a2.fKind == 0))] [] ?_
 exact ⟨(a2.fKind == 0), h, it [0, 4, 5, 22]⟩
 rintro x3 h
 unfold impl_Compare_j1 at h
 refine pc h (fun h => ?_) (fun h => ?_)
 refine srve 71 [(6, I 2)] [] ?_
 cases h
 exact Zg rz
 refine srve 71 [(0, I a0), (4, pf a1 0), (5, pf a2 0), (31, B (!(a1.fKind == a2.fKind)))] [] ?_
 refine pc h (fun h => ?_) (fun h => ?_)
 refine srve 71 [(6, I (-1))] [] ?_
 cases h
 exact Zg rz
 refine Zj ?_
 refine srv 2 71 [(0, I a0), (37, E a1), (38, E a2)] [] ?_
 obtain ⟨v6, hv7, h⟩ := bindS h
 refine cF 39 (ok_impl_Value_order hv7) ?_
 refine ve 1 71 [(0, I a0), (7, I v6)] [] ?_
 refine srv 3 71 [(0, I a0), (7, I v6), (42, B (a0 == 1))] [] ?_
 rcases fk (a0 == 1) with hc75 | hc75
 replace h := bT hc75 h
 rw [hc75]
 refine v 4 71 [(0, I a0), (7, I v6), (46, B (v6 == 0))] [] ?_
 rcases fk (v6 == 0) with hc42 | hc42
 replace h := bT hc42 h
 rw [hc42]
 refine v 23 71 [(69, B true)] [] ?_
 obtain ⟨v8, hv9, h⟩ := bindS h
 refine cF 70 (Z7 hv9) ?_
 refine ve 1 71 [(6, I v8)] [] ?_
 cases h
 exact Zg rz
 replace h := bF hc42 h
 rw [hc42]
 refine v 3 71 [(0, I a0), (7, I v6), (46, B false), (49, B (a0 == 2))] [] ?_
 rcases fk (a0 == 2) with hc41 | hc41
 replace h := bT hc41 h
 rw [hc41]
 refine v 5 71 [(0, I a0), (7, I v6), (54, B (!(v6 == 0)))] [] ?_
 rcases fk (!(v6 == 0)) with hc26 | hc26
 replace h := bT hc26 h
 rw [hc26]
 refine v 15 71 [(69, B true)] [] ?_
 obtain ⟨v10, hv11, h⟩ := bindS h
 refine cF 70 (Z7 hv11) ?_
 refine ve 1 71 [(6, I v10)] [] ?_
 cases h
 exact Zg rz
 replace h := bF hc26 h
 rw [hc26]
 refine v 3 71 [(0, I a0), (7, I v6), (54, B false), (57, B (a0 == 3))] [] ?_
 rcases fk (a0 == 3) with hc25 | hc25
 replace h := bT hc25 h
 rw [hc25]
 refine v 5 71 [(0, I a0), (7, I v6), (62, B (decide (v6 < 0)))] [] ?_
 rcases fk (decide (v6 < 0)) with hc19 | hc19
 replace h := bT hc19 h
 rw [hc19]
 refine v 7 71 [(69, B true)] [] ?_
 obtain ⟨v12, hv13, h⟩ := bindS h
 refine cF 70 (Z7 hv13) ?_
 refine ve 1 71 [(6, I v12)] [] ?_
 cases h
 exact Zg rz
 replace h := bF hc19 h
 rw [hc19]
 refine v 3 71 [(7, I v6), (62, B false), (65, B (a0 == 4))] [] ?_
 rcases fk (a0 == 4) with hc18 | hc18
 replace h := bT hc18 h
 rw [hc18]
 refine v 4 71 [(69, B (decide (v6 ≤ 0)))] [] ?_
 obtain ⟨v14, hv15, h⟩ := bindS h
 refine cF 70 (Z7 hv15) ?_
 refine ve 1 71 [(6, I v14)] [] ?_
 cases h
 exact Zg rz
 replace h := bF hc18 h
 rw [hc18]
 refine v 4 71 [(69, B false)] [] ?_
 obtain ⟨v16, hv17, h⟩ := bindS h
 refine cF 70 (Z7 hv17) ?_
 refine ve 1 71 [(6, I v16)] [] ?_
 cases h
 exact Zg rz
 replace h := bF hc25 h
 rw [hc25]
 refine v 8 71 [(7, I v6), (62, B false), (65, B (a0 == 4))] [] ?_
 rcases fk (a0 == 4) with hc24 | hc24
 replace h := bT hc24 h
 rw [hc24]
 refine v 4 71 [(69, B (decide (v6 ≤ 0)))] [] ?_
 obtain ⟨v20, hv21, h⟩ := bindS h
 refine cF 70 (Z7 hv21) ?_
 refine ve 1 71 [(6, I v20)] [] ?_
 cases h
 exact Zg rz
 replace h := bF hc24 h
 rw [hc24]
 refine v 4 71 [(69, B false)] [] ?_
 obtain ⟨v22, hv23, h⟩ := bindS h
 refine cF 70 (Z7 hv23) ?_
 refine ve 1 71 [(6, I v22)] [] ?_
 cases h
 exact Zg rz
 replace h := bF hc41 h
 rw [hc41]
 refine v 8 71 [(0, I a0), (7, I v6), (54, B false), (57, B (a0 == 3))] [] ?_
 rcases fk (a0 == 3) with hc40 | hc40
 replace h := bT hc40 h
 rw [hc40]
 refine v 5 71 [(0, I a0), (7, I v6), (62, B (decide (v6 < 0)))] [] ?_
 rcases fk (decide (v6 < 0)) with hc34 | hc34
 replace h := bT hc34 h
 rw [hc34]
 refine v 7 71 [(69, B true)] [] ?_
 obtain ⟨v27, hv28, h⟩ := bindS h
 refine cF 70 (Z7 hv28) ?_
 refine ve 1 71 [(6, I v27)] [] ?_
 cases h
 exact Zg rz
 replace h := bF hc34 h
 rw [hc34]
 refine v 3 71 [(7, I v6), (62, B false), (65, B (a0 == 4))] [] ?_
 rcases fk (a0 == 4) with hc33 | hc33
 replace h := bT hc33 h
 rw [hc33]
 refine v 4 71 [(69, B (decide (v6 ≤ 0)))] [] ?_
 obtain ⟨v29, hv30, h⟩ := bindS h
 refine cF 70 (Z7 hv30) ?_
 refine ve 1 71 [(6, I v29)] [] ?_
 cases h
 exact Zg rz
 replace h := bF hc33 h
 rw [hc33]
 refine v 4 71 [(69, B false)] [] ?_
 obtain ⟨v31, hv32, h⟩ := bindS h
 refine cF 70 (Z7 hv32) ?_
 refine ve 1 71 [(6, I v31)] [] ?_
 cases h
 exact Zg rz
 replace h := bF hc40 h
 rw [hc40]
 refine v 8 71 [(7, I v6), (62, B false), (65, B (a0 == 4))] [] ?_
 rcases fk (a0 == 4) with hc39 | hc39
 replace h := bT hc39 h
 rw [hc39]
 refine v 4 71 [(69, B (decide (v6 ≤ 0)))] [] ?_
 obtain ⟨v35, hv36, h⟩ := bindS h
 refine cF 70 (Z7 hv36) ?_
 refine ve 1 71 [(6, I v35)] [] ?_
 cases h
 exact Zg rz
 replace h := bF hc39 h
 rw [hc39]
 refine v 4 71 [(69, B false)] [] ?_
 obtain ⟨v37, hv38, h⟩ := bindS h
 refine cF 70 (Z7 hv38) ?_
 refine ve 1 71 [(6, I v37)] [] ?_
 cases h
 exact Zg rz
 replace h := bF hc75 h
 rw [hc75]
 refine v 7 71 [(0, I a0), (7, I v6), (46, B false), (49, B (a0 == 2))] [] ?_
 rcases fk (a0 == 2) with hc74 | hc74
 replace h := bT hc74 h
 rw [hc74]
 refine v 5 71 [(0, I a0), (7, I v6), (54, B (!(v6 == 0)))] [] ?_
 rcases fk (!(v6 == 0)) with hc59 | hc59
 replace h := bT hc59 h
 rw [hc59]
 refine v 15 71 [(69, B true)] [] ?_
 obtain ⟨v43, hv44, h⟩ := bindS h
 refine cF 70 (Z7 hv44) ?_
 refine ve 1 71 [(6, I v43)] [] ?_
 cases h
 exact Zg rz
 replace h := bF hc59 h
 rw [hc59]
 refine v 3 71 [(0, I a0), (7, I v6), (54, B false), (57, B (a0 == 3))] [] ?_
 rcases fk (a0 == 3) with hc58 | hc58
 replace h := bT hc58 h
 rw [hc58]
 refine v 5 71 [(0, I a0), (7, I v6), (62, B (decide (v6 < 0)))] [] ?_
 rcases fk (decide (v6 < 0)) with hc52 | hc52
 replace h := bT hc52 h
 rw [hc52]
 refine v 7 71 [(69, B true)] [] ?_
 obtain ⟨v45, hv46, h⟩ := bindS h
 refine cF 70 (Z7 hv46) ?_
 refine ve 1 71 [(6, I v45)] [] ?_
 cases h
 exact Zg rz
 replace h := bF hc52 h
 rw [hc52]
 refine v 3 71 [(7, I v6), (62, B false), (65, B (a0 == 4))] [] ?_
 rcases fk (a0 == 4) with hc51 | hc51
 replace h := bT hc51 h
 rw [hc51]
 refine v 4 71 [(69, B (decide (v6 ≤ 0)))] [] ?_
 obtain ⟨v47, hv48, h⟩ := bindS h
 refine cF 70 (Z7 hv48) ?_
 refine ve 1 71 [(6, I v47)] [] ?_
 cases h
 exact Zg rz
 replace h := bF hc51 h
 rw [hc51]
 refine v 4 71 [(69, B false)] [] ?_
 obtain ⟨v49, hv50, h⟩ := bindS h
 refine cF 70 (Z7 hv50) ?_
 refine ve 1 71 [(6, I v49)] [] ?_
 cases h
 exact Zg rz
 replace h := bF hc58 h
 rw [hc58]
 refine v 8 71 [(7, I v6), (62, B false), (65, B (a0 == 4))] [] ?_
 rcases fk (a0 == 4) with hc57 | hc57
 replace h := bT hc57 h
 rw [hc57]
 refine v 4 71 [(69, B (decide (v6 ≤ 0)))] [] ?_
 obtain ⟨v53, hv54, h⟩ := bindS h
 refine cF 70 (Z7 hv54) ?_
 refine ve 1 71 [(6, I v53)] [] ?_
 cases h
 exact Zg rz
 replace h := bF hc57 h
 rw [hc57]
 refine v 4 71 [(69, B false)] [] ?_
 obtain ⟨v55, hv56, h⟩ := bindS h
 refine cF 70 (Z7 hv56) ?_
 refine ve 1 71 [(6, I v55)] [] ?_
 cases h
 exact Zg rz
 replace h := bF hc74 h
 rw [hc74]
 refine v 8 71 [(0, I a0), (7, I v6), (54, B false), (57, B (a0 == 3))] [] ?_
 rcases fk (a0 == 3) with hc73 | hc73
 replace h := bT hc73 h
 rw [hc73]
 refine v 5 71 [(0, I a0), (7, I v6), (62, B (decide (v6 < 0)))] [] ?_
 rcases fk (decide (v6 < 0)) with hc67 | hc67
 replace h := bT hc67 h
 rw [hc67]
 refine v 7 71 [(69, B true)] [] ?_
 obtain ⟨v60, hv61, h⟩ := bindS h
 refine cF 70 (Z7 hv61) ?_
 refine ve 1 71 [(6, I v60)] [] ?_
 cases h
 exact Zg rz
 replace h := bF hc67 h
 rw [hc67]
 refine v 3 71 [(7, I v6), (62, B false), (65, B (a0 == 4))] [] ?_
 rcases fk (a0 == 4) with hc66 | hc66
 replace h := bT hc66 h
 rw [hc66]
 refine v 4 71 [(69, B (decide (v6 ≤ 0)))] [] ?_
 obtain ⟨v62, hv63, h⟩ := bindS h
 refine cF 70 (Z7 hv63) ?_
 refine ve 1 71 [(6, I v62)] [] ?_
 cases h
 exact Zg rz
 replace h := bF hc66 h
 rw [hc66]
 refine v 4 71 [(69, B false)] [] ?_
 obtain ⟨v64, hv65, h⟩ := bindS h
 refine cF 70 (Z7 hv65) ?_
 refine ve 1 71 [(6, I v64)] [] ?_
 cases h
 exact Zg rz
 replace h := bF hc73 h
 rw [hc73]
 refine v 8 71 [(7, I v6), (62, B false), (65, B (a0 == 4))] [] ?_
 rcases fk (a0 == 4) with hc72 | hc72
 replace h := bT hc72 h
 rw [hc72]
 refine v 4 71 [(69, B (decide (v6 ≤ 0)))] [] ?_
 obtain ⟨v68, hv69, h⟩ := bindS h
 refine cF 70 (Z7 hv69) ?_
 refine ve 1 71 [(6, I v68)] [] ?_
 cases h
 exact Zg rz
 replace h := bF hc72 h
 rw [hc72]
 refine v 4 71 [(69, B false)] [] ?_
 obtain ⟨v70, hv71, h⟩ := bindS h
 refine cF 70 (Z7 hv71) ?_
 refine ve 1 71 [(6, I v70)] [] ?_
 cases h
 exact Zg rz
def spec_l6Columns_l1 (a2 : Zf) (v16 : List Zb) : Nat → Int → (List Zb) → Option ((List Zb) × Bool)
 | 0, _, _ => none
 | f26 + 1, x24, x25 => bif (decide (x24 < (a2.fList.length : Int))) then (getI a2.fList x24).bind fun v29 => (spec_l1In v29 0 (w64 ((v16.length : Int) - 1))).bind fun v31 => bif (!v31) then some (([] : List Zb), false) else (getI a2.fList x24).bind fun v34 => (getI v16 v34).bind fun v36 => (app x25 ([v36] : List Zb)).bind fun v38 => (spec_l6Columns_l1 a2 v16 f26) (w64 (x24 + 1)) v38 else some (x25, (decide ((x25.length : Int) ≤ 4)))
def spec_l6Columns_j3 (x53 : Int) (K56 : Int → (List Zb) → Option ((List Zb) × Bool)) (x58 : List Zb) : Option ((List Zb) × Bool) := K56 (w64 (x53 + 1)) x58
def spec_l6Columns_l2 (a1 : List (List Zb)) (a2 : Zf) : Nat → Int → (List Zb) → Option ((List Zb) × Bool)
 | 0, _, _ => none
 | f55 + 1, x53, x54 => bif (decide (x53 < (x54.length : Int))) then (getI x54 x53).bind fun v59 => (getI a1 a2.fB).bind fun v61 => (getI v61 x53).bind fun v63 => bif (!(v59.fKind == v63.fKind)) then some (([] : List Zb), false) else (getI x54 x53).bind fun v66 => bif v66.fEmpty then (getI x54 x53).bind fun v68 => spec_l6Columns_j3 x53 (spec_l6Columns_l2 a1 a2 f55) (x54.set x53.toNat ({ v68 with fEmpty := true } : Zb)) else (getI a1 a2.fB).bind fun v70 => (getI v70 x53).bind fun v72 => (getI x54 x53).bind fun v74 => spec_l6Columns_j3 x53 (spec_l6Columns_l2 a1 a2 f55) (x54.set x53.toNat ({ v74 with fEmpty := v72.fEmpty } : Zb)) else some (x54, true)
def spec_l6Columns_j0 (a1 : List (List Zb)) (a2 : Zf) (x12 : Bool) : Option ((List Zb) × Bool) := bif x12 then some (([] : List Zb), false) else (getI a1 a2.fA).bind fun v14 => (app ([] : List Zb) v14).bind fun v16 => bif (a2.fKind == 2) then (spec_ExprKind v16 a2.fE).bind fun v19 => some (v16, (v19 == 3)) else bif (a2.fKind == 3) then spec_l6Columns_l1 a2 v16 FUEL 0 ([] : List Zb) else bif (a2.fKind == 4) then (getI a1 a2.fB).bind fun v41 => (app v16 v41).bind fun v43 => bif (decide ((v43.length : Int) ≤ 4)) then (spec_ExprKind v43 a2.fE).bind fun v45 => some (v43, (v45 == 3)) else some (v43, false) else bif (a2.fKind == 5) then (getI a1 a2.fB).bind fun v49 => bif (!((v16.length : Int) == (v49.length : Int))) then some (([] : List Zb), false) else spec_l6Columns_l2 a1 a2 FUEL 0 v16 else bif (a2.fKind == 6) then some (v16, true) else some (([] : List Zb), false)
def spec_l6Columns (a0 : List Zh) (a1 : List (List Zb)) (a2 : Zf) : Option ((List Zb) × Bool) := (spec_l6Fields a2).bind fun v1 => bif (!v1) then some (([] : List Zb), false) else bif (a2.fKind == 1) then (spec_l1In a2.fN 0 (w64 ((a0.length : Int) - 1))).bind fun v5 => bif (!v5) then some (([] : List Zb), false) else (getI a0 a2.fN).bind fun v8 => (app ([] : List Zb) v8.fColumns).bind fun v10 => some (v10, true) else (spec_l1In a2.fA 0 (w64 ((a1.length : Int) - 1))).bind fun v78 => bif (!v78) then spec_l6Columns_j0 a1 a2 true else (spec_l1In a2.fB 0 (w64 ((a1.length : Int) - 1))).bind fun v80 => spec_l6Columns_j0 a1 a2 (!v80)
theorem ok_spec_l6Columns {a0 : List Zh} {a1 : List (List Zb)} {a2 : Zf} {y : (List Zb) × Bool} (h : spec_l6Columns a0 a1 a2 = some y) : OK Tryz.prog 45 [A a0, A a1, E a2] (.tup [O y.1, B y.2]) := by
 refine ow Tryz.func45 fun Γ hX => ?_
 unfold spec_l6Columns at h
 refine srve 185 [(0, A a0), (1, A a1), (5, pf a2 0)] [] ?_
 refine Zi ?_
 refine srv 1 185 [(0, A a0), (1, A a1), (5, pf a2 0), (13, E a2)] [] ?_
 obtain ⟨v1, hv2, h⟩ := bindS h
 refine cF 14 (ok_spec_l6Fields hv2) ?_
 refine ve 1 185 [(0, A a0), (1, A a1), (5, pf a2 0), (15, B (!v1))] [] ?_
 refine pc h (fun h => ?_) (fun h => ?_)
 refine srve 185 [(6, .arr 2 0 (eL ([] : List Zb)) true), (7, B false)] [] ?_
 refine ip 185 [(6, .arr 2 0 (eL ([] : List Zb)) true), (7, B false)] [] ?_
 refine Za8 (Imp.thawS (st' := ⟨185, [(6, .ref 0 0 0 2 ([] : List Zb).length false), (7, B false)], [some ⟨0, eL ([] : List Zb)⟩]⟩) 6 [6, 7] (by kernel_rfl)) ?_
 have h := si h
 subst h
 exact Zg (rt (.tup [.ref 0 0 0 2 ([] : List Zb).length false, B false]) (OutP.tup (OutL.cons (OutP.list (v := 0) (by kernel_rfl)) (OutL.cons (OutP.frz (by kernel_rfl)) (OutL.nil _)))))
 refine Zj ?_
 refine Zi ?_
 refine srve 185 [(0, A a0), (1, A a1), (5, pf a2 0), (19, B (a2.fKind == 1))] [] ?_
 refine pc h (fun h => ?_) (fun h => ?_)
 refine Zi ?_
 refine srv 5 185 [(0, A a0), (5, pf a2 0), (21, I a2.fN), (24, I (w64 ((a0.length : Int) - 1)))] [] ?_
 obtain ⟨v5, hv6, h⟩ := bindS h
 refine cF 25 (ok_spec_l1In hv6) ?_
 refine ve 1 185 [(0, A a0), (5, pf a2 0), (26, B (!v5))] [] ?_
 refine pc h (fun h => ?_) (fun h => ?_)
 refine srve 185 [(6, .arr 2 0 (eL ([] : List Zb)) true), (7, B false)] [] ?_
 refine ip 185 [(6, .arr 2 0 (eL ([] : List Zb)) true), (7, B false)] [] ?_
 refine Za8 (Imp.thawS (st' := ⟨185, [(6, .ref 0 0 0 2 ([] : List Zb).length false), (7, B false)], [some ⟨0, eL ([] : List Zb)⟩]⟩) 6 [6, 7] (by kernel_rfl)) ?_
 have h := si h
 subst h
 exact Zg (rt (.tup [.ref 0 0 0 2 ([] : List Zb).length false, B false]) (OutP.tup (OutL.cons (OutP.list (v := 0) (by kernel_rfl)) (OutL.cons (OutP.frz (by kernel_rfl)) (OutL.nil _)))))
 refine Zj ?_
 refine srv 4 185 [(28, .arr 2 0 (eL ([] : List Zb)) true), (29, A a0), (31, I a2.fN)] [] ?_
 obtain ⟨v8, hv9, h⟩ := bindS h
 refine Z2 τ_ok 32 hv9 (by kernel_rfl) ?_
 refine v 2 185 [(28, .arr 2 0 (eL ([] : List Zb)) true), (34, A v8.fColumns)] [] ?_
 refine opsP_thaw 28 2 (by kernel_rfl) ?_
 obtain ⟨v10, hv11, h⟩ := bindS h
 refine Zan τ_ok 35 0 0 (nx hX) hv11 (by kernel_rfl) ?_
 refine ve 2 185 [(6, rf 0 1 2 v10), (7, B true)] [sl 1 v10] ?_
 have h := si h
 subst h
 exact Zg (rt (.tup [rf 0 1 2 v10, B true]) (OutP.tup (OutL.cons (OutP.list (v := 1) (by kernel_rfl)) (OutL.cons (OutP.frz (by kernel_rfl)) (OutL.nil _)))))
 refine Zj ?_
 refine Zi ?_
 refine Zi ?_
 refine Zab (σ := Bool) (fun x12 => (⟨185, [(1, A a1), (5, pf a2 0), (51, B x12)], []⟩ : St)) (fun x12 => spec_l6Columns_j0 a1 a2 x12 = some y) ?_ ?_
 refine rv 5 185 [(1, A a1), (5, pf a2 0), (37, I a2.fA), (40, I (w64 ((a1.length : Int) - 1)))] [] ?_
 obtain ⟨v78, hv79, h⟩ := bindS h
 refine cF 41 (ok_spec_l1In hv79) ?_
 refine v 2 185 [(1, A a1), (5, pf a2 0), (43, B (!v78))] [] ?_
 rcases fk (!v78) with hc82 | hc82
 replace h := bT hc82 h
 rw [hc82]
 refine ve 8 185 [(1, A a1), (5, pf a2 0), (51, B true)] [] ?_
 exact ⟨true, h, it [1, 5, 51]⟩
 replace h := bF hc82 h
 rw [hc82]
 refine v 5 185 [(1, A a1), (5, pf a2 0), (43, B false), (45, I a2.fB), (48, I (w64 ((a1.length : Int) - 1)))] [] ?_
 obtain ⟨v80, hv81, h⟩ := bindS h
 refine cF 49 (ok_spec_l1In hv81) ?_
 refine ve 2 185 [(1, A a1), (5, pf a2 0), (51, B (!v80))] [] ?_
 exact ⟨(!v80), h, it [1, 5, 51]⟩
 rintro x12 h
 unfold spec_l6Columns_j0 at h
 refine pc h (fun h => ?_) (fun h => ?_)
 refine srve 185 [(6, .arr 2 0 (eL ([] : List Zb)) true), (7, B false)] [] ?_
 refine ip 185 [(6, .arr 2 0 (eL ([] : List Zb)) true), (7, B false)] [] ?_
 refine Za8 (Imp.thawS (st' := ⟨185, [(6, .ref 0 0 0 2 ([] : List Zb).length false), (7, B false)], [some ⟨0, eL ([] : List Zb)⟩]⟩) 6 [6, 7] (by kernel_rfl)) ?_
 have h := si h
 subst h
 exact Zg (rt (.tup [.ref 0 0 0 2 ([] : List Zb).length false, B false]) (OutP.tup (OutL.cons (OutP.list (v := 0) (by kernel_rfl)) (OutL.cons (OutP.frz (by kernel_rfl)) (OutL.nil _)))))
 refine Zj ?_
 refine srv 4 185 [(1, A a1), (5, pf a2 0), (53, .arr 2 0 (eL ([] : List Zb)) true), (54, A a1), (56, I a2.fA)] [] ?_
 obtain ⟨v14, hv15, h⟩ := bindS h
 refine Z2 τ_ok 57 hv15 (by kernel_rfl) ?_
 refine v 1 185 [(1, A a1), (5, pf a2 0), (53, .arr 2 0 (eL ([] : List Zb)) true), (58, A v14)] [] ?_
 refine opsP_thaw 53 2 (by kernel_rfl) ?_
 obtain ⟨v16, hv17, h⟩ := bindS h
 refine Zan τ_ok 59 0 0 (nx hX) hv17 (by kernel_rfl) ?_
 refine ve 1 185 [(1, A a1), (5, pf a2 0), (8, rf 0 1 2 v16)] [sl 1 v16] ?_
 refine Zi ?_
 refine srve 185 [(1, A a1), (5, pf a2 0), (8, rf 0 1 2 v16), (61, I a2.fKind)] [sl 1 v16] ?_
 refine Zk ?_
 refine srve 185 [(1, A a1), (5, pf a2 0), (8, rf 0 1 2 v16), (61, I a2.fKind), (62, B (a2.fKind == 2))] [sl 1 v16] ?_
 refine pc h (fun h => ?_) (fun h => ?_)
 refine srv 4 185 [(64, rf 0 1 2 v16), (65, rf 0 1 2 v16), (67, A a2.fE)] [sl 1 v16] ?_
 obtain ⟨v19, hv20, h⟩ := bindS h
 refine opsP_callV (xs := [rf 0 1 2 v16, A a2.fE]) τ 68 (ok_spec_ExprKind hv20) (Blind.lit _) (FzTo.frz rfl) (by kernel_rfl) (ViewL.cons (View.whole (v := 1) v16 (by kernel_rfl) rfl) (ViewL.cons (View.frz rfl) (ViewL.nil _))) ?_
 refine ve 3 185 [(6, rf 0 1 2 v16), (7, B (v19 == 3))] [sl 1 v16] ?_
 have h := si h
 subst h
 exact Zg (rt (.tup [rf 0 1 2 v16, B (v19 == 3)]) (OutP.tup (OutL.cons (OutP.list (v := 1) (by kernel_rfl)) (OutL.cons (OutP.frz (by kernel_rfl)) (OutL.nil _)))))
 refine srve 185 [(1, A a1), (5, pf a2 0), (8, rf 0 1 2 v16), (61, I a2.fKind), (70, B (a2.fKind == 3))] [sl 1 v16] ?_
 refine pc h (fun h => ?_) (fun h => ?_)
 refine srve 185 [(5, pf a2 0), (8, rf 0 1 2 v16), (9, .arr 2 0 (eL ([] : List Zb)) true)] [sl 1 v16] ?_
 refine Zi ?_
 refine srve 185 [(5, pf a2 0), (8, rf 0 1 2 v16), (9, .arr 2 0 (eL ([] : List Zb)) true), (10, I 0)] [sl 1 v16] ?_
 refine Zk ?_
 refine Zaf (ι := Nat × Int × (List Zb)) (fun (f26, x24, x25) => (⟨185, [(5, pf a2 0), (8, rf 0 0 2 v16), (9, rf 1 0 2 x25), (10, I x24)], [sl 0 v16, sl 0 x25]⟩ : St)) (fun (f26, x24, x25) => spec_l6Columns_l1 a2 v16 f26 x24 x25 = some y) Prod.fst (FUEL, 0, ([] : List Zb)) h ((Imp.thawS (st' := ⟨185, [(5, pf a2 0), (8, rf 0 1 2 v16), (9, .ref 1 0 0 2 ([] : List Zb).length false), (10, I 0)], [sl 1 v16, some ⟨0, eL ([] : List Zb)⟩]⟩) 9 [5, 8, 9, 10] (by kernel_rfl)).trans (Imp.reverS 0 1 (eL v16) [5, 8, 9, 10] (by kernel_rfl) (by exact (And.intro (eL_frz _) (And.intro (eL_frz _) trivial))) (by kernel_rfl))) ?_
 rintro ⟨f26, x24, x25⟩ h
 dsimp only at h ⊢
 rcases f26 with _ | f26
 cases h
 rw [spec_l6Columns_l1] at h
 refine Zi ?_
 refine srve 185 [(5, pf a2 0), (8, rf 0 0 2 v16), (9, rf 1 0 2 x25), (10, I x24), (77, B (decide (x24 < (a2.fList.length : Int))))] [sl 0 v16, sl 0 x25] ?_
 refine pc h (fun h => ?_) (fun h => ?_)
 refine Zj ?_
 refine Zi ?_
 refine Zk ?_
 refine Zi ?_
 refine srv 3 185 [(5, pf a2 0), (8, rf 0 0 2 v16), (9, rf 1 0 2 x25), (10, I x24), (81, A a2.fList), (82, I x24)] [sl 0 v16, sl 0 x25] ?_
 obtain ⟨v29, hv30, h⟩ := bindS h
 refine Z2 τ_ok 83 hv30 (by kernel_rfl) ?_
 refine v 4 185 [(5, pf a2 0), (8, rf 0 0 2 v16), (9, rf 1 0 2 x25), (10, I x24), (84, I v29), (87, I (w64 ((v16.length : Int) - 1)))] [sl 0 v16, sl 0 x25] ?_
 obtain ⟨v31, hv32, h⟩ := bindS h
 refine cF 88 (ok_spec_l1In hv32) ?_
 refine ve 1 185 [(5, pf a2 0), (8, rf 0 0 2 v16), (9, rf 1 0 2 x25), (10, I x24), (89, B (!v31))] [sl 0 v16, sl 0 x25] ?_
 refine pc h (fun h => ?_) (fun h => ?_)
 refine srve 185 [(6, .arr 2 0 (eL ([] : List Zb)) true), (7, B false)] [sl 0 v16, sl 0 x25] ?_
 refine ip 185 [(6, .arr 2 0 (eL ([] : List Zb)) true), (7, B false)] [sl 0 v16, sl 0 x25] ?_
 refine Za8 (Imp.thawS (st' := ⟨185, [(6, .ref 2 0 0 2 ([] : List Zb).length false), (7, B false)], [sl 0 v16, sl 0 x25, some ⟨0, eL ([] : List Zb)⟩]⟩) 6 [6, 7] (by kernel_rfl)) ?_
 have h := si h
 subst h
 exact Zg (rt (.tup [.ref 2 0 0 2 ([] : List Zb).length false, B false]) (OutP.tup (OutL.cons (OutP.list (v := 0) (by kernel_rfl)) (OutL.cons (OutP.frz (by kernel_rfl)) (OutL.nil _)))))
 refine Zj ?_
 refine rv 5 185 [(5, pf a2 0), (8, rf 0 0 2 v16), (10, I x24), (91, rf 1 0 2 x25), (92, rf 0 0 2 v16), (94, A a2.fList), (95, I x24)] [sl 0 v16, sl 0 x25] ?_
 obtain ⟨v34, hv35, h⟩ := bindS h
 refine Z2 τ_ok 96 hv35 (by kernel_rfl) ?_
 refine v 1 185 [(5, pf a2 0), (8, rf 0 0 2 v16), (10, I x24), (91, rf 1 0 2 x25), (92, rf 0 0 2 v16), (97, I v34)] [sl 0 v16, sl 0 x25] ?_
 obtain ⟨v36, hv37, h⟩ := bindS h
 refine opsP_idr τ_ok 98 0 0 v16.length hv37 rfl (by kernel_rfl) ?_
 refine opsP_lde (r := E v36) τ_ok 99 99 0 hv37 (by kernel_rfl) (by kernel_rfl) ?_
 refine v 1 185 [(5, pf a2 0), (8, rf 0 0 2 v16), (10, I x24), (91, rf 1 0 2 x25), (100, .arr 2 ([v36] : List Zb).length (eL ([v36] : List Zb)) true)] [sl 0 v16, sl 0 x25] ?_
 obtain ⟨v38, hv39, h⟩ := bindS h
 refine Zan τ_ok 101 1 0 (nx hX) hv39 (by kernel_rfl) ?_
 refine ve 1 185 [(5, pf a2 0), (8, rf 0 0 2 v16), (9, rf 1 1 2 v38), (10, I x24)] [sl 0 v16, sl 1 v38] ?_
 refine rve 185 [(5, pf a2 0), (8, rf 0 0 2 v16), (9, rf 1 1 2 v38), (10, I (w64 (x24 + 1)))] [sl 0 v16, sl 1 v38] ?_
 exact ⟨(f26, (w64 (x24 + 1)), v38), h, Nat.lt_succ_self _, (it (st' := ⟨185, [(5, pf a2 0), (8, rf 0 0 2 v16), (9, rf 1 1 2 v38), (10, I (w64 (x24 + 1)))], [sl 0 v16, sl 1 v38]⟩) [5, 8, 9, 10]).trans (Imp.reverS 1 1 (eL v38) [5, 8, 9, 10] (by kernel_rfl) (by exact (And.intro (eL_frz _) (And.intro (eL_frz _) trivial))) (by kernel_rfl))⟩
 refine Zae ?_
 refine srve 185 [(6, rf 1 0 2 x25), (7, B (decide ((x25.length : Int) ≤ 4)))] [sl 0 v16, sl 0 x25] ?_
 have h := si h
 subst h
 exact Zg (rt (.tup [rf 1 0 2 x25, B (decide ((x25.length : Int) ≤ 4))]) (OutP.tup (OutL.cons (OutP.list (v := 0) (by kernel_rfl)) (OutL.cons (OutP.frz (by kernel_rfl)) (OutL.nil _)))))
 refine srve 185 [(1, A a1), (5, pf a2 0), (8, rf 0 1 2 v16), (61, I a2.fKind), (106, B (a2.fKind == 4))] [sl 1 v16] ?_
 refine pc h (fun h => ?_) (fun h => ?_)
 refine srv 4 185 [(5, pf a2 0), (108, rf 0 1 2 v16), (109, A a1), (111, I a2.fB)] [sl 1 v16] ?_
 obtain ⟨v41, hv42, h⟩ := bindS h
 refine Z2 τ_ok 112 hv42 (by kernel_rfl) ?_
 refine v 1 185 [(5, pf a2 0), (108, rf 0 1 2 v16), (113, A v41)] [sl 1 v16] ?_
 obtain ⟨v43, hv44, h⟩ := bindS h
 refine Zan τ_ok 114 0 1 (nx hX) hv44 (by kernel_rfl) ?_
 refine ve 1 185 [(5, pf a2 0), (11, rf 0 2 2 v43)] [sl 2 v43] ?_
 refine srv 5 185 [(5, pf a2 0), (11, rf 0 2 2 v43), (115, rf 0 2 2 v43), (119, B (decide ((v43.length : Int) ≤ 4)))] [sl 2 v43] ?_
 rcases fk (decide ((v43.length : Int) ≤ 4)) with hc47 | hc47
 replace h := bT hc47 h
 rw [hc47]
 refine v 3 185 [(115, rf 0 2 2 v43), (119, B true), (120, rf 0 2 2 v43), (122, A a2.fE)] [sl 2 v43] ?_
 obtain ⟨v45, hv46, h⟩ := bindS h
 refine opsP_callV (xs := [rf 0 2 2 v43, A a2.fE]) τ 123 (ok_spec_ExprKind hv46) (Blind.lit _) (FzTo.frz rfl) (by kernel_rfl) (ViewL.cons (View.whole (v := 2) v43 (by kernel_rfl) rfl) (ViewL.cons (View.frz rfl) (ViewL.nil _))) ?_
 refine ve 4 185 [(6, rf 0 2 2 v43), (7, B (v45 == 3))] [sl 2 v43] ?_
 have h := si h
 subst h
 exact Zg (rt (.tup [rf 0 2 2 v43, B (v45 == 3)]) (OutP.tup (OutL.cons (OutP.list (v := 2) (by kernel_rfl)) (OutL.cons (OutP.frz (by kernel_rfl)) (OutL.nil _)))))
 replace h := bF hc47 h
 rw [hc47]
 refine ve 8 185 [(6, rf 0 2 2 v43), (7, B false)] [sl 2 v43] ?_
 have h := si h
 subst h
 exact Zg (rt (.tup [rf 0 2 2 v43, B false]) (OutP.tup (OutL.cons (OutP.list (v := 2) (by kernel_rfl)) (OutL.cons (OutP.frz (by kernel_rfl)) (OutL.nil _)))))
 refine srve 185 [(1, A a1), (5, pf a2 0), (8, rf 0 1 2 v16), (61, I a2.fKind), (126, B (a2.fKind == 5))] [sl 1 v16] ?_
 refine pc h (fun h => ?_) (fun h => ?_)
 refine Zi ?_
 refine srv 5 185 [(1, A a1), (5, pf a2 0), (8, rf 0 1 2 v16), (129, I (v16.length : Int)), (130, A a1), (132, I a2.fB)] [sl 1 v16] ?_
 obtain ⟨v49, hv50, h⟩ := bindS h
 refine Z2 τ_ok 133 hv50 (by kernel_rfl) ?_
 refine ve 3 185 [(1, A a1), (5, pf a2 0), (8, rf 0 1 2 v16), (136, B (!((v16.length : Int) == (v49.length : Int))))] [sl 1 v16] ?_
 refine pc h (fun h => ?_) (fun h => ?_)
 refine srve 185 [(6, .arr 2 0 (eL ([] : List Zb)) true), (7, B false)] [sl 1 v16] ?_
 refine ip 185 [(6, .arr 2 0 (eL ([] : List Zb)) true), (7, B false)] [sl 1 v16] ?_
 refine Za8 (Imp.thawS (st' := ⟨185, [(6, .ref 1 0 0 2 ([] : List Zb).length false), (7, B false)], [sl 1 v16, some ⟨0, eL ([] : List Zb)⟩]⟩) 6 [6, 7] (by kernel_rfl)) ?_
 have h := si h
 subst h
 exact Zg (rt (.tup [.ref 1 0 0 2 ([] : List Zb).length false, B false]) (OutP.tup (OutL.cons (OutP.list (v := 0) (by kernel_rfl)) (OutL.cons (OutP.frz (by kernel_rfl)) (OutL.nil _)))))
 refine Zj ?_
 refine Zi ?_
 refine srve 185 [(1, A a1), (5, pf a2 0), (8, rf 0 1 2 v16), (12, I 0)] [sl 1 v16] ?_
 refine Zk ?_
 refine Zaf (ι := Nat × Int × (List Zb)) (fun (f55, x53, x54) => (⟨185, [(1, A a1), (5, pf a2 0), (8, rf 0 0 2 x54), (12, I x53)], [sl 0 x54]⟩ : St)) (fun (f55, x53, x54) => spec_l6Columns_l2 a1 a2 f55 x53 x54 = some y) Prod.fst (FUEL, 0, v16) h ((it (st' := ⟨185, [(1, A a1), (5, pf a2 0), (8, rf 0 1 2 v16), (12, I 0)], [sl 1 v16]⟩) [1, 5, 8, 12]).trans (Imp.reverS 0 1 (eL v16) [1, 5, 8, 12] (by kernel_rfl) (by exact (And.intro (eL_frz _) trivial)) (by kernel_rfl))) ?_
 rintro ⟨f55, x53, x54⟩ h
 dsimp only at h ⊢
 rcases f55 with _ | f55
 cases h
 rw [spec_l6Columns_l2] at h
 refine Zi ?_
 refine srve 185 [(1, A a1), (5, pf a2 0), (8, rf 0 0 2 x54), (12, I x53), (141, B (decide (x53 < (x54.length : Int))))] [sl 0 x54] ?_
 refine pc h (fun h => ?_) (fun h => ?_)
 refine Zj ?_
 refine Zi ?_
 refine Zab (σ := (List Zb)) (fun x58 => (⟨185, [(1, A a1), (5, pf a2 0), (8, rf 0 0 2 x58), (12, I x53)], [sl 0 x58]⟩ : St)) (fun x58 => spec_l6Columns_j3 x53 (spec_l6Columns_l2 a1 a2 f55) x58 = some y) ?_ ?_
 refine Zk ?_
 refine Zi ?_
 refine Zi ?_
 refine ip 185 [(1, A a1), (5, pf a2 0), (8, rf 0 0 2 x54), (12, I x53)] [sl 0 x54] ?_
 refine pwp_any ([[0], [], [0], [0], [0], [], [], [], [], [], [], [], [], [], []]) ([[], [], [], [], [], [], [], [], [], [], [], [], [], [], []]) rfl (by kernel_rfl) ?_
 refine qv [0] (hL trivial) 1 185 [(144, rf 0 0 2 x54), (1, A a1), (5, pf a2 0), (8, rf 0 0 2 x54), (12, I x53)] [sl 0 x54] ?_
 refine qv [] trivial 1 185 [(145, I x53), (144, rf 0 0 2 x54), (1, A a1), (5, pf a2 0), (8, rf 0 0 2 x54), (12, I x53)] [sl 0 x54] ?_
 obtain ⟨v59, hv60, h⟩ := bindS h
 refine qX (some 146) (.ptr 0 0 (x53.toNat * 2)) 185 [(146, .ptr 0 0 (x53.toNat * 2)), (1, A a1), (5, pf a2 0), (8, rf 0 0 2 x54), (12, I x53)] [sl 0 x54] (fun Γ' hΓ => CoreE.of_y (idrV_sound (n := x54.length) τ_ok (by kernel_rfl) hv60 rfl)) (hL trivial) ?_
 refine qv [0] (hL trivial) 1 185 [(147, .ptr 0 0 (x53.toNat * 2)), (1, A a1), (5, pf a2 0), (8, rf 0 0 2 x54), (12, I x53)] [sl 0 x54] ?_
 refine qX (some 148) (I v59.fKind) 185 [(148, I v59.fKind), (1, A a1), (5, pf a2 0), (8, rf 0 0 2 x54), (12, I x53)] [sl 0 x54] (fun Γ' hΓ => CoreE.of_y (ldeV_sound (t := 3) (o' := 0) (r := I v59.fKind) τ_ok hv60 (by kernel_rfl) (by kernel_rfl))) (hL trivial) ?_
 refine qv [] trivial 3 185 [(151, I a2.fB), (149, A a1), (148, I v59.fKind), (1, A a1), (5, pf a2 0), (8, rf 0 0 2 x54), (12, I x53)] [sl 0 x54] ?_
 obtain ⟨v61, hv62, h⟩ := bindS h
 refine qX (some 152) (pf v61 0) 185 [(152, pf v61 0), (148, I v59.fKind), (1, A a1), (5, pf a2 0), (8, rf 0 0 2 x54), (12, I x53)] [sl 0 x54] (fun Γ' hΓ => CoreE.of_y (Zaj τ_ok (by kernel_rfl) hv62)) trivial ?_
 refine qv [] trivial 2 185 [(154, I x53), (153, A v61), (148, I v59.fKind), (1, A a1), (5, pf a2 0), (8, rf 0 0 2 x54), (12, I x53)] [sl 0 x54] ?_
 obtain ⟨v63, hv64, h⟩ := bindS h
 refine qX (some 155) (pf v63 0) 185 [(155, pf v63 0), (148, I v59.fKind), (1, A a1), (5, pf a2 0), (8, rf 0 0 2 x54), (12, I x53)] [sl 0 x54] (fun Γ' hΓ => CoreE.of_y (Zaj τ_ok (by kernel_rfl) hv64)) trivial ?_
 refine qvn [] trivial 3 185 [(1, A a1), (5, pf a2 0), (8, rf 0 0 2 x54), (12, I x53), (158, B (!(v59.fKind == v63.fKind)))] [sl 0 x54] ?_
 refine pc h (fun h => ?_) (fun h => ?_)
 refine srve 185 [(6, .arr 2 0 (eL ([] : List Zb)) true), (7, B false)] [sl 0 x54] ?_
 refine ip 185 [(6, .arr 2 0 (eL ([] : List Zb)) true), (7, B false)] [sl 0 x54] ?_
 refine Za8 (Imp.thawS (st' := ⟨185, [(6, .ref 1 0 0 2 ([] : List Zb).length false), (7, B false)], [sl 0 x54, some ⟨0, eL ([] : List Zb)⟩]⟩) 6 [6, 7] (by kernel_rfl)) ?_
 have h := si h
 subst h
 exact Zg (rt (.tup [.ref 1 0 0 2 ([] : List Zb).length false, B false]) (OutP.tup (OutL.cons (OutP.list (v := 0) (by kernel_rfl)) (OutL.cons (OutP.frz (by kernel_rfl)) (OutL.nil _)))))
 refine Zj ?_
 refine rv 4 185 [(1, A a1), (5, pf a2 0), (8, rf 0 0 2 x54), (12, I x53), (160, rf 0 0 2 x54), (161, I x53), (162, rf 0 0 2 x54), (163, I x53)] [sl 0 x54] ?_
 obtain ⟨v66, hv67, h⟩ := bindS h
 refine opsP_idr τ_ok 164 0 0 x54.length hv67 rfl (by kernel_rfl) ?_
 refine v 1 185 [(1, A a1), (5, pf a2 0), (8, rf 0 0 2 x54), (12, I x53), (160, rf 0 0 2 x54), (161, I x53), (165, .ptr 0 0 (x53.toNat * 2 + 1))] [sl 0 x54] ?_
 refine opsP_lde (r := B v66.fEmpty) τ_ok 166 4 1 hv67 (by kernel_rfl) (by kernel_rfl) ?_
 refine v 1 185 [(1, A a1), (5, pf a2 0), (8, rf 0 0 2 x54), (12, I x53), (160, rf 0 0 2 x54), (161, I x53), (167, B v66.fEmpty)] [sl 0 x54] ?_
 rcases Bool.eq_false_or_eq_true v66.fEmpty with hc76 | hc76
 replace h := bT hc76 h
 rw [hc76]
 refine v 10 185 [(1, A a1), (5, pf a2 0), (8, rf 0 0 2 x54), (12, I x53), (160, rf 0 0 2 x54), (161, I x53), (168, .lit undef), (169, .lit undef), (170, .lit undef), (171, .lit undef), (172, .lit undef), (173, .lit undef), (174, .lit undef), (175, .lit undef), (176, .lit undef), (177, B true)] [sl 0 x54] ?_
 obtain ⟨v68, hv69, h⟩ := bindS h
 refine opsP_idr τ_ok 178 0 0 x54.length hv69 rfl (by kernel_rfl) ?_
 refine v 1 185 [(1, A a1), (5, pf a2 0), (8, rf 0 0 2 x54), (12, I x53), (168, .lit undef), (169, .lit undef), (170, .lit undef), (171, .lit undef), (172, .lit undef), (173, .lit undef), (174, .lit undef), (175, .lit undef), (176, .lit undef), (177, B true), (179, .ptr 0 0 (x53.toNat * 2 + 1))] [sl 0 x54] ?_
 refine opsP_ste (vs := [B true]) τ_ok 4 0 0 1 ({ v68 with fEmpty := true } : Zb) hv69 (by kernel_rfl) (by kernel_rfl) (by kernel_rfl) (renC trivial (renC trivial (renC (ren_ref (List.length_set ..).symm) (renC trivial (renC trivial (renC trivial (renC trivial (renC trivial (renC trivial (renC trivial (renC trivial (renC trivial (renC trivial (renC trivial (renC trivial renC0))))))))))))))) ?_
 refine ve 0 185 [(1, A a1), (5, pf a2 0), (8, .ref 0 0 0 2 (x54.set x53.toNat ({ v68 with fEmpty := true } : Zb)).length false), (12, I x53), (168, .lit undef), (169, .lit undef), (170, .lit undef), (171, .lit undef), (172, .lit undef), (173, .lit undef), (174, .lit undef), (175, .lit undef), (176, .lit undef)] [some ⟨0, eL (x54.set x53.toNat ({ v68 with fEmpty := true } : Zb))⟩] ?_
 exact ⟨(x54.set x53.toNat ({ v68 with fEmpty := true } : Zb)), h, it [1, 5, 8, 12]⟩
 replace h := bF hc76 h
 rw [hc76]
 refine v 3 185 [(1, A a1), (5, pf a2 0), (8, rf 0 0 2 x54), (12, I x53), (160, rf 0 0 2 x54), (161, I x53), (167, B false), (168, A a1), (169, pf a2 2), (170, I a2.fB)] [sl 0 x54] ?_
 obtain ⟨v70, hv71, h⟩ := bindS h
 refine Z2 τ_ok 171 hv71 (by kernel_rfl) ?_
 refine v 2 185 [(1, A a1), (5, pf a2 0), (8, rf 0 0 2 x54), (12, I x53), (160, rf 0 0 2 x54), (161, I x53), (167, B false), (168, A a1), (169, pf a2 2), (170, I a2.fB), (171, pf v70 0), (172, A v70), (173, I x53)] [sl 0 x54] ?_
 obtain ⟨v72, hv73, h⟩ := bindS h
 refine Z2 τ_ok 174 hv73 (by kernel_rfl) ?_
 refine v 3 185 [(1, A a1), (5, pf a2 0), (8, rf 0 0 2 x54), (12, I x53), (160, rf 0 0 2 x54), (161, I x53), (168, A a1), (169, pf a2 2), (170, I a2.fB), (171, pf v70 0), (172, A v70), (173, I x53), (174, pf v72 0), (175, pf v72 1), (176, B v72.fEmpty), (177, B v72.fEmpty)] [sl 0 x54] ?_
 obtain ⟨v74, hv75, h⟩ := bindS h
 refine opsP_idr τ_ok 178 0 0 x54.length hv75 rfl (by kernel_rfl) ?_
 refine v 1 185 [(1, A a1), (5, pf a2 0), (8, rf 0 0 2 x54), (12, I x53), (168, A a1), (169, pf a2 2), (170, I a2.fB), (171, pf v70 0), (172, A v70), (173, I x53), (174, pf v72 0), (175, pf v72 1), (176, B v72.fEmpty), (177, B v72.fEmpty), (179, .ptr 0 0 (x53.toNat * 2 + 1))] [sl 0 x54] ?_
 refine opsP_ste (vs := [B v72.fEmpty]) τ_ok 4 0 0 1 ({ v74 with fEmpty := v72.fEmpty } : Zb) hv75 (by kernel_rfl) (by kernel_rfl) (by kernel_rfl) (renC trivial (renC trivial (renC (ren_ref (List.length_set ..).symm) (renC trivial (renC trivial (renC trivial (renC trivial (renC trivial (renC trivial (renC trivial (renC trivial (renC trivial (renC trivial (renC trivial (renC trivial renC0))))))))))))))) ?_
 refine ve 0 185 [(1, A a1), (5, pf a2 0), (8, .ref 0 0 0 2 (x54.set x53.toNat ({ v74 with fEmpty := v72.fEmpty } : Zb)).length false), (12, I x53), (168, A a1), (169, pf a2 2), (170, I a2.fB), (171, pf v70 0), (172, A v70), (173, I x53), (174, pf v72 0), (175, pf v72 1), (176, B v72.fEmpty)] [some ⟨0, eL (x54.set x53.toNat ({ v74 with fEmpty := v72.fEmpty } : Zb))⟩] ?_
 exact ⟨(x54.set x53.toNat ({ v74 with fEmpty := v72.fEmpty } : Zb)), h, it [1, 5, 8, 12]⟩
 rintro x58 h
 unfold spec_l6Columns_j3 at h
 refine rve 185 [(1, A a1), (5, pf a2 0), (8, rf 0 0 2 x58), (12, I (w64 (x53 + 1)))] [sl 0 x58] ?_
 exact ⟨(f55, (w64 (x53 + 1)), x58), h, Nat.lt_succ_self _, it [1, 5, 8, 12]⟩
 refine Zae ?_
 refine srve 185 [(6, rf 0 0 2 x54), (7, B true)] [sl 0 x54] ?_
 have h := si h
 subst h
 exact Zg (rt (.tup [rf 0 0 2 x54, B true]) (OutP.tup (OutL.cons (OutP.list (v := 0) (by kernel_rfl)) (OutL.cons (OutP.frz (by kernel_rfl)) (OutL.nil _)))))
 refine srve 185 [(8, rf 0 1 2 v16), (181, B (a2.fKind == 6))] [sl 1 v16] ?_
 refine pc h (fun h => ?_) (fun h => ?_)
 refine srve 185 [(6, rf 0 1 2 v16), (7, B true)] [sl 1 v16] ?_
 have h := si h
 subst h
 exact Zg (rt (.tup [rf 0 1 2 v16, B true]) (OutP.tup (OutL.cons (OutP.list (v := 1) (by kernel_rfl)) (OutL.cons (OutP.frz (by kernel_rfl)) (OutL.nil _)))))
 refine Zj ?_
 refine srve 185 [(6, .arr 2 0 (eL ([] : List Zb)) true), (7, B false)] [sl 1 v16] ?_
 refine ip 185 [(6, .arr 2 0 (eL ([] : List Zb)) true), (7, B false)] [sl 1 v16] ?_
 refine Za8 (Imp.thawS (st' := ⟨185, [(6, .ref 1 0 0 2 ([] : List Zb).length false), (7, B false)], [sl 1 v16, some ⟨0, eL ([] : List Zb)⟩]⟩) 6 [6, 7] (by kernel_rfl)) ?_
 have h := si h
 subst h
 exact Zg (rt (.tup [.ref 1 0 0 2 ([] : List Zb).length false, B false]) (OutP.tup (OutL.cons (OutP.list (v := 0) (by kernel_rfl)) (OutL.cons (OutP.frz (by kernel_rfl)) (OutL.nil _)))))
def spec_RowsOk_l0 (a0 : List Zb) (a1 : List (List Za)) : Nat → Int → Option Bool
 | 0, _ => none
 | f2 + 1, x1 => bif (decide (x1 < (a1.length : Int))) then (getI a1 x1).bind fun v5 => (spec_RowFits a0 v5).bind fun v7 => bif (!v7) then some false else (spec_RowsOk_l0 a0 a1 f2) (w64 (x1 + 1)) else (spec_ColumnsOk a0).bind fun v10 => some v10
def spec_RowsOk (a0 : List Zb) (a1 : List (List Za)) : Option Bool := spec_RowsOk_l0 a0 a1 FUEL 0
theorem ok_spec_RowsOk {a0 : List Zb} {a1 : List (List Za)} {y : Bool} (h : spec_RowsOk a0 a1 = some y) : OK Tryz.prog 47 [A a0, A a1] (B y) := by
 refine ow Tryz.func47 fun Γ hX => ?_
 unfold spec_RowsOk at h
 refine srve 21 [(0, A a0), (1, A a1)] [] ?_
 refine Zi ?_
 refine srve 21 [(0, A a0), (1, A a1), (5, I 0)] [] ?_
 refine Zk ?_
 refine Zaf (ι := Nat × Int) (fun (f2, x1) => (⟨21, [(0, A a0), (1, A a1), (5, I x1)], []⟩ : St)) (fun (f2, x1) => spec_RowsOk_l0 a0 a1 f2 x1 = some y) Prod.fst (FUEL, 0) h (it [0, 1, 5]) ?_
 rintro ⟨f2, x1⟩ h
 dsimp only at h ⊢
 rcases f2 with _ | f2
 cases h
 rw [spec_RowsOk_l0] at h
 refine Zi ?_
 refine srve 21 [(0, A a0), (1, A a1), (5, I x1), (9, B (decide (x1 < (a1.length : Int))))] [] ?_
 refine pc h (fun h => ?_) (fun h => ?_)
 refine Zj ?_
 refine Zi ?_
 refine Zk ?_
 refine srv 3 21 [(0, A a0), (1, A a1), (5, I x1), (12, A a0), (13, A a1), (14, I x1)] [] ?_
 obtain ⟨v5, hv6, h⟩ := bindS h
 refine Z2 τ_ok 15 hv6 (by kernel_rfl) ?_
 refine v 1 21 [(0, A a0), (1, A a1), (5, I x1), (12, A a0), (16, A v5)] [] ?_
 obtain ⟨v7, hv8, h⟩ := bindS h
 refine cF 17 (ok_spec_RowFits hv8) ?_
 refine ve 1 21 [(0, A a0), (1, A a1), (5, I x1), (18, B (!v7))] [] ?_
 refine pc h (fun h => ?_) (fun h => ?_)
 refine srve 21 [(4, B false)] [] ?_
 cases h
 exact Zg rz
 refine Zj ?_
 refine rve 21 [(0, A a0), (1, A a1), (5, I (w64 (x1 + 1)))] [] ?_
 exact ⟨(f2, (w64 (x1 + 1))), h, Nat.lt_succ_self _, it [0, 1, 5]⟩
 refine Zae ?_
 refine srv 1 21 [(19, A a0)] [] ?_
 obtain ⟨v10, hv11, h⟩ := bindS h
 refine cF 20 (ok_spec_ColumnsOk hv11) ?_
 refine ve 1 21 [(4, B v10)] [] ?_
 cases h
 exact Zg rz
def impl_RowsOk (a0 : List Zb) (a1 : List (List Za)) : Option Bool := (impl_ColumnsOk a0).bind fun v1 => bif v1 then (Zak a1 (fun z0 => impl_RowsOk_1 z0 a0)).bind fun v3 => some (!v3) else some false
theorem ok_impl_RowsOk {a0 : List Zb} {a1 : List (List Za)} {y : Bool} (h : impl_RowsOk a0 a1 = some y) : OK Tryz.prog 67 [A a0, A a1] (B y) := by
 refine ow Tryz.func67 fun Γ hX => ?_
 unfold impl_RowsOk at h
 refine srve 13 [(1, A a1), (2, pf a0 0)] [] ?_
 refine srv 1 13 [(1, A a1), (2, pf a0 0), (5, A a0)] [] ?_
 obtain ⟨v1, hv2, h⟩ := bindS h
 refine cF 6 (ok_impl_ColumnsOk hv2) ?_
 refine v 1 13 [(1, A a1), (2, pf a0 0), (7, B v1)] [] ?_
 rcases Bool.eq_false_or_eq_true v1 with hc5 | hc5
 replace h := bT hc5 h
 rw [hc5]
 refine v 2 13 [(7, B true), (8, A a1), (9, .fn 91 [pf a0 0])] [] ?_
 obtain ⟨v3, hv4, h⟩ := bindS h
 refine cF 10 (ok_slices_ContainsFunc_impl_Value_impl_Value_s3 (rfl) (fun _ w hw => ok_impl_RowsOk_1 hw) hv4) ?_
 refine ve 3 13 [(4, B (!v3))] [] ?_
 cases h
 exact Zg rz
 replace h := bF hc5 h
 rw [hc5]
 refine ve 6 13 [(4, B false)] [] ?_
 cases h
 exact Zg rz
def Zy (a0 : List Zb) (x4 : Int) (x5 : List Int) (K7 : Int → (List Int) → Option Int) (v9 : Zd) (v11 : Int) (x13 : Bool) : Option Int := bif x13 then some (-1) else (slI x5 (some (w64 ((x5.length : Int) - v11))) none none).bind fun v15 => (Zah v9 a0 v15).bind fun v17 => bif (!v17.2) then some (-1) else (slI x5 none (some (w64 ((x5.length : Int) - v11))) none).bind fun v20 => (appT x5 ([v17.1] : List Int) v20.length).bind fun v22 => K7 (w64 (x4 + 1)) v22
def impl_ExprKind_l1 (a0 : List Zb) (a1 : List Zd) : Nat → Int → (List Int) → Option Int
 | 0, _, _ => none
 | f6 + 1, x4, x5 => bif (decide (x4 < (a1.length : Int))) then (getI a1 x4).bind fun v9 => (Zs v9).bind fun v11 => (Z8 v9 a0).bind fun v24 => bif (!v24) then Zy a0 x4 x5 (impl_ExprKind_l1 a0 a1 f6) v9 v11 true else Zy a0 x4 x5 (impl_ExprKind_l1 a0 a1 f6) v9 v11 (decide ((x5.length : Int) < v11)) else bif (!((x5.length : Int) == 1)) then some (-1) else (getI x5 (0 : Int)).bind fun v28 => some v28
def impl_ExprKind_j0 (a0 : List Zb) (a1 : List Zd) (x1 : Bool) : Option Int := bif x1 then some (-1) else impl_ExprKind_l1 a0 a1 FUEL 0 ([] : List Int)
def impl_ExprKind (a0 : List Zb) (a1 : List Zd) : Option Int := (impl_ColumnsOk a0).bind fun v30 => bif (!v30) then impl_ExprKind_j0 a0 a1 true else impl_ExprKind_j0 a0 a1 (decide ((a1.length : Int) > 12))
theorem ok_impl_ExprKind {a0 : List Zb} {a1 : List Zd} {y : Int} (h : impl_ExprKind a0 a1 = some y) : OK Tryz.prog 69 [A a0, A a1] (I y) := by
 refine ow Tryz.func69 fun Γ hX => ?_
 unfold impl_ExprKind at h
 refine srveM [7] 67 [(0, A a0), (1, A a1)] [] ?_
 refine Zi ?_
 refine Zi ?_
 refine Zab (σ := Bool) (fun x1 => (⟨67, [(0, A a0), (1, A a1), (18, B x1)], []⟩ : St)) (fun x1 => impl_ExprKind_j0 a0 a1 x1 = some y) ?_ ?_
 refine rvM [7] 1 67 [(0, A a0), (1, A a1), (11, A a0)] [] ?_
 obtain ⟨v30, hv31, h⟩ := bindS h
 refine cF 12 (ok_impl_ColumnsOk hv31) ?_
 refine vM [7] 2 67 [(0, A a0), (1, A a1), (14, B (!v30))] [] ?_
 rcases fk (!v30) with hc32 | hc32
 replace h := bT hc32 h
 rw [hc32]
 refine veM [7] 4 67 [(0, A a0), (1, A a1), (18, B true)] [] ?_
 exact ⟨true, h, it [0, 1, 18]⟩
 replace h := bF hc32 h
 rw [hc32]
 refine veM [7] 4 67 [(0, A a0), (1, A a1), (18, B (decide ((a1.length : Int) > 12)))] [] ?_
 exact ⟨(decide ((a1.length : Int) > 12)), h, it [0, 1, 18]⟩
 rintro x1 h
 unfold impl_ExprKind_j0 at h
 refine pc h (fun h => ?_) (fun h => ?_)
 refine srveM [7] 67 [(4, I (-1))] [] ?_
 cases h
 exact Zg rz
 refine Zj ?_
 refine srveM [7] 67 [(0, A a0), (1, A a1), (5, .arr 1 0 (eL ([] : List Int)) true)] [] ?_
 refine Zi ?_
 refine srveM [7] 67 [(0, A a0), (5, .arr 1 0 (eL ([] : List Int)) true), (19, A a1), (20, I (a1.length : Int)), (21, I 0)] [] ?_
 refine Zk ?_
 refine Zaf (ι := Nat × Int × (List Int)) (fun (f6, x4, x5) => (⟨67, [(0, A a0), (5, rf 0 0 1 x5), (19, A a1), (20, I (a1.length : Int)), (21, I x4)], [sl 0 x5]⟩ : St)) (fun (f6, x4, x5) => impl_ExprKind_l1 a0 a1 f6 x4 x5 = some y) Prod.fst (FUEL, 0, ([] : List Int)) h (Imp.thawS 5 [0, 5, 19, 20, 21] (by kernel_rfl)) ?_
 rintro ⟨f6, x4, x5⟩ h
 dsimp only at h ⊢
 rcases f6 with _ | f6
 cases h
 rw [impl_ExprKind_l1] at h
 refine srveM [7] 67 [(0, A a0), (5, rf 0 0 1 x5), (19, A a1), (20, I (a1.length : Int)), (21, I x4), (22, B (decide (x4 < (a1.length : Int))))] [sl 0 x5] ?_
 refine Zi ?_
 refine pc h (fun h => ?_) (fun h => ?_)
 refine Zj ?_
 refine Zi ?_
 refine Zk ?_
 refine Zi ?_
 refine Zaq ?_
 obtain ⟨v9, hv10, h⟩ := bindS h
 refine Z2 τ_ok 23 hv10 (by kernel_rfl) ?_
 refine veM [7] 3 67 [(0, A a0), (5, rf 0 0 1 x5), (7, .ptr 1 0 0), (19, A a1), (20, I (a1.length : Int)), (21, I x4)] [sl 0 x5, sc 0 v9] ?_
 refine srvM [7] 1 67 [(0, A a0), (5, rf 0 0 1 x5), (7, .ptr 1 0 0), (19, A a1), (20, I (a1.length : Int)), (21, I x4), (25, E v9)] [sl 0 x5, sc 0 v9] ?_
 obtain ⟨v11, hv12, h⟩ := bindS h
 refine cF 26 (ok_impl_Part_takes hv12) ?_
 refine veM [7] 1 67 [(0, A a0), (5, rf 0 0 1 x5), (7, .ptr 1 0 0), (8, I v11), (19, A a1), (20, I (a1.length : Int)), (21, I x4)] [sl 0 x5, sc 0 v9] ?_
 refine Zi ?_
 refine Zi ?_
 refine Zab (σ := Bool) (fun x13 => (⟨67, [(0, A a0), (5, rf 0 0 1 x5), (7, .ptr 1 0 0), (8, I v11), (19, A a1), (20, I (a1.length : Int)), (21, I x4), (36, B x13)], [sl 0 x5, sc 0 v9]⟩ : St)) (fun x13 => Zy a0 x4 x5 (impl_ExprKind_l1 a0 a1 f6) v9 v11 x13 = some y) ?_ ?_
 refine rvM [7] 2 67 [(0, A a0), (5, rf 0 0 1 x5), (7, .ptr 1 0 0), (8, I v11), (19, A a1), (20, I (a1.length : Int)), (21, I x4), (27, E v9), (28, A a0)] [sl 0 x5, sc 0 v9] ?_
 obtain ⟨v24, hv25, h⟩ := bindS h
 refine cF 29 (ok_impl_Part_tells hv25) ?_
 refine vM [7] 2 67 [(0, A a0), (5, rf 0 0 1 x5), (7, .ptr 1 0 0), (8, I v11), (19, A a1), (20, I (a1.length : Int)), (21, I x4), (31, B (!v24))] [sl 0 x5, sc 0 v9] ?_
 rcases fk (!v24) with hc26 | hc26
 replace h := bT hc26 h
 rw [hc26]
 refine veM [7] 5 67 [(0, A a0), (5, rf 0 0 1 x5), (7, .ptr 1 0 0), (8, I v11), (19, A a1), (20, I (a1.length : Int)), (21, I x4), (32, .lit undef), (33, .lit undef), (34, .lit undef), (35, .lit undef), (36, B true)] [sl 0 x5, sc 0 v9] ?_
 exact ⟨true, h, it [0, 5, 7, 8, 19, 20, 21, 36]⟩
 replace h := bF hc26 h
 rw [hc26]
 refine veM [7] 5 67 [(0, A a0), (5, rf 0 0 1 x5), (7, .ptr 1 0 0), (8, I v11), (19, A a1), (20, I (a1.length : Int)), (21, I x4), (32, rf 0 0 1 x5), (33, I (x5.length : Int)), (34, I v11), (35, B (decide ((x5.length : Int) < v11))), (36, B (decide ((x5.length : Int) < v11)))] [sl 0 x5, sc 0 v9] ?_
 exact ⟨(decide ((x5.length : Int) < v11)), h, it [0, 5, 7, 8, 19, 20, 21, 36]⟩
 rintro x13 h
 unfold Zy at h
 refine pc h (fun h => ?_) (fun h => ?_)
 refine srveM [7] 67 [(4, I (-1))] [sl 0 x5, sc 0 v9] ?_
 cases h
 exact Zg rz
 refine Zj ?_
 refine Zi ?_
 refine ip 67 [(0, A a0), (5, rf 0 0 1 x5), (7, .ptr 1 0 0), (8, I v11), (19, A a1), (20, I (a1.length : Int)), (21, I x4)] [sl 0 x5, sc 0 v9] ?_
 refine pwp_any ([[1], [], [0], [0], [0], [], [], [0], [0], [], [], [], [], []]) ([[], [], [], [], [], [], [], [], [], [], [], [], [], []]) rfl (by kernel_rfl) ?_
 refine qvM [7] [1] (hB trivial) 1 67 [(38, E v9), (0, A a0), (5, rf 0 0 1 x5), (8, I v11), (19, A a1), (20, I (a1.length : Int)), (21, I x4)] [sl 0 x5, sc 0 v9] ?_
 refine qvM [7] [] trivial 1 67 [(39, A a0), (38, E v9), (0, A a0), (5, rf 0 0 1 x5), (8, I v11), (19, A a1), (20, I (a1.length : Int)), (21, I x4)] [sl 0 x5, sc 0 v9] ?_
 refine qvM [7] [0] (hL trivial) 3 67 [(42, I (x5.length : Int)), (40, rf 0 0 1 x5), (39, A a0), (38, E v9), (0, A a0), (5, rf 0 0 1 x5), (8, I v11), (19, A a1), (20, I (a1.length : Int)), (21, I x4)] [sl 0 x5, sc 0 v9] ?_
 refine qvM [7] [] trivial 2 67 [(44, I (w64 ((x5.length : Int) - v11))), (40, rf 0 0 1 x5), (39, A a0), (38, E v9), (0, A a0), (5, rf 0 0 1 x5), (8, I v11), (19, A a1), (20, I (a1.length : Int)), (21, I x4)] [sl 0 x5, sc 0 v9] ?_
 obtain ⟨v15, hv16, h⟩ := bindS h
 refine qX (some 45) (.ref 0 0 ((w64 ((x5.length : Int) - v11)).toNat * 1) 1 v15.length false) 67 [(45, .ref 0 0 ((w64 ((x5.length : Int) - v11)).toNat * 1) 1 v15.length false), (39, A a0), (38, E v9), (0, A a0), (5, rf 0 0 1 x5), (8, I v11), (19, A a1), (20, I (a1.length : Int)), (21, I x4)] [sl 0 x5, sc 0 v9] (fun Γ' hΓ => CoreE.of_y (slrV_sound (n := x5.length) τ_ok (by kernel_rfl) rfl hv16)) (hL trivial) ?_
 obtain ⟨v17, hv18, h⟩ := bindS h
 refine qX (some 46) (.tup [I v17.1, B v17.2]) 67 [(46, .tup [I v17.1, B v17.2]), (0, A a0), (5, rf 0 0 1 x5), (8, I v11), (19, A a1), (20, I (a1.length : Int)), (21, I x4)] [sl 0 x5, sc 0 v9] (fun Γ' hΓ => CoreE.of_g (callVV_sound (xs := [E v9, A a0, .ref 0 0 ((w64 ((x5.length : Int) - v11)).toNat * 1) 1 v15.length false]) (τ := τ) (by kernel_rfl) (ViewL.cons (View.frz rfl) (ViewL.cons (View.frz rfl) (ViewL.cons (View.ref (v := 0) (lo := (w64 ((x5.length : Int) - v11)).toNat) x5 v15 (by kernel_rfl) (slI_view hv16) rfl) (ViewL.nil _)))) (ok_impl_Part_kind hv18) (Blind.tup (BlindL.cons (Blind.lit _) (BlindL.cons (Blind.lit _) BlindL.nil))) (FzTo.tup (FzToL.cons (FzTo.frz rfl) (FzToL.cons (FzTo.frz rfl) FzToL.nil))))) (hL trivial) ?_
 refine qvnM [7] [] trivial 5 67 [(0, A a0), (5, rf 0 0 1 x5), (8, I v11), (9, I v17.1), (10, B v17.2), (19, A a1), (20, I (a1.length : Int)), (21, I x4)] [sl 0 x5, sc 0 v9] ?_
 refine Zi ?_
 refine srveM [7] 67 [(0, A a0), (5, rf 0 0 1 x5), (8, I v11), (9, I v17.1), (19, A a1), (20, I (a1.length : Int)), (21, I x4), (50, B (!v17.2))] [sl 0 x5, sc 0 v9] ?_
 refine pc h (fun h => ?_) (fun h => ?_)
 refine srveM [7] 67 [(4, I (-1))] [sl 0 x5, sc 0 v9] ?_
 cases h
 exact Zg rz
 refine Zj ?_
 refine rvM [7] 5 67 [(0, A a0), (9, I v17.1), (19, A a1), (20, I (a1.length : Int)), (21, I x4), (51, rf 0 0 1 x5), (55, I (w64 ((x5.length : Int) - v11)))] [sl 0 x5, sc 0 v9] ?_
 obtain ⟨v20, hv21, h⟩ := bindS h
 refine opsP_slr τ_ok 56 0 0 x5.length hv21 rfl (by kernel_rfl) ?_
 refine vM [7] 2 67 [(0, A a0), (19, A a1), (20, I (a1.length : Int)), (21, I x4), (56, rf 0 0 1 v20), (58, .arr 1 ([v17.1] : List Int).length (eL ([v17.1] : List Int)) true)] [sl 0 x5, sc 0 v9] ?_
 obtain ⟨v22, hv23, h⟩ := bindS h
 refine opsP_apt τ_ok 59 0 0 v20.length (nx hX) hv23 (slI_le hv21) (by kernel_rfl) ?_
 refine veM [7] 1 67 [(0, A a0), (5, rf 0 1 1 v22), (19, A a1), (20, I (a1.length : Int)), (21, I x4)] [sl 1 v22, sc 0 v9] ?_
 refine rveM [7] 67 [(0, A a0), (5, rf 0 1 1 v22), (19, A a1), (20, I (a1.length : Int)), (21, I (w64 (x4 + 1)))] [sl 1 v22, sc 0 v9] ?_
 exact ⟨(f6, (w64 (x4 + 1)), v22), h, Nat.lt_succ_self _, qt (it (st' := ⟨67, [(0, A a0), (5, rf 0 1 1 v22), (19, A a1), (20, I (a1.length : Int)), (21, I (w64 (x4 + 1)))], [sl 1 v22, sc 0 v9]⟩) [0, 5, 19, 20, 21]) (qt (Imp.truncS (st' := ⟨67, [(0, A a0), (5, rf 0 1 1 v22), (19, A a1), (20, I (a1.length : Int)), (21, I (w64 (x4 + 1)))], [sl 1 v22]⟩) 1 (nx hX) (by kernel_rfl) (allBelow_mem (by exact (And.intro rfl (And.intro rfl (And.intro rfl (And.intro rfl (And.intro rfl trivial))))))) (by exact (And.intro (frz_below (eL_frz _)) trivial)) (by kernel_rfl)) (Imp.reverS 0 1 (eL v22) [0, 5, 19, 20, 21] (by kernel_rfl) (by exact (And.intro (eL_frz _) trivial)) (by kernel_rfl)))⟩
 refine Zae ?_
 refine Zi ?_
 refine srveM [7] 67 [(5, rf 0 0 1 x5), (63, B (!((x5.length : Int) == 1)))] [sl 0 x5] ?_
 refine pc h (fun h => ?_) (fun h => ?_)
 refine srveM [7] 67 [(4, I (-1))] [sl 0 x5] ?_
 cases h
 exact Zg rz
 refine Zj ?_
 refine srvM [7] 1 67 [(64, rf 0 0 1 x5)] [sl 0 x5] ?_
 obtain ⟨v28, hv29, h⟩ := bindS h
 refine opsP_idr τ_ok 65 0 0 x5.length hv29 rfl (by kernel_rfl) ?_
 refine opsP_lde (r := I v28) τ_ok 66 3 0 hv29 (by kernel_rfl) (by kernel_rfl) ?_
 refine veM [7] 1 67 [(4, I v28)] [sl 0 x5] ?_
 cases h
 exact Zg rz
def impl_Part_value_j0 (v6 : Za) (v8 : Za) (x10 : Bool) : Option Za := bif x10 then some (Za.mk 0 0 (ByteArray.mk #[])) else some (Za.mk 1 (w64 (v6.fN + v8.fN)) (ByteArray.mk #[]))
def impl_Part_value (a0 : Zd) (a1 : List Za) (a2 : List Za) : Option Za := bif (a0.fKind == 1) then some a0.fV else bif (a0.fKind == 2) then (getI a1 a0.fN).bind fun v3 => some v3 else bif (a0.fKind == 3) then (getI a2 0).bind fun v6 => (getI a2 1).bind fun v8 => (getI a2 0).bind fun v12 => bif (v12.fKind == 0) then impl_Part_value_j0 v6 v8 true else (getI a2 1).bind fun v14 => bif (v14.fKind == 0) then impl_Part_value_j0 v6 v8 true else (impl_Value_ok (Za.mk 1 (w64 (v6.fN + v8.fN)) (ByteArray.mk #[]))).bind fun v16 => impl_Part_value_j0 v6 v8 (!v16) else bif (a0.fKind == 4) then (getI a2 0).bind fun v21 => (getI a2 1).bind fun v23 => (impl_Compare a0.fN v21 v23).bind fun v25 => (impl_ValueOf v25).bind fun v27 => some v27 else bif (a0.fKind == 5) then (getI a2 0).bind fun v30 => (impl_TruthOf v30).bind fun v32 => (getI a2 1).bind fun v34 => (impl_TruthOf v34).bind fun v36 => (impl_AndOf v32 v36).bind fun v38 => (impl_ValueOf v38).bind fun v40 => some v40 else bif (a0.fKind == 6) then (getI a2 0).bind fun v43 => (impl_TruthOf v43).bind fun v45 => (getI a2 1).bind fun v47 => (impl_TruthOf v47).bind fun v49 => (impl_OrOf v45 v49).bind fun v51 => (impl_ValueOf v51).bind fun v53 => some v53 else bif (a0.fKind == 7) then (getI a2 0).bind fun v56 => (impl_TruthOf v56).bind fun v58 => (impl_NotOf v58).bind fun v60 => (impl_ValueOf v60).bind fun v62 => some v62 else (getI a2 0).bind fun v64 => (Zai (v64.fKind == 0)).bind fun v66 => (impl_ValueOf v66).bind fun v68 => some v68
theorem ok_impl_Part_value {a0 : Zd} {a1 : List Za} {a2 : List Za} {y : Za} (h : impl_Part_value a0 a1 a2 = some y) : OK Tryz.prog 109 [E a0, A a1, A a2] (E y) := by
 refine ow Tryz.func109 fun Γ hX => ?_
 unfold impl_Part_value at h
 refine srveM [6, 7] 103 [(1, A a1), (2, A a2), (3, pf a0 0), (6, .ptr 0 0 0)] [some ⟨0, Enc.cells (Za.mk 0 0 (ByteArray.mk #[]))⟩] ?_
 refine Zi ?_
 refine srveM [6, 7] 103 [(1, A a1), (2, A a2), (3, pf a0 0), (6, .ptr 0 0 0), (9, I a0.fKind)] [some ⟨0, Enc.cells (Za.mk 0 0 (ByteArray.mk #[]))⟩] ?_
 refine Zk ?_
 refine srveM [6, 7] 103 [(1, A a1), (2, A a2), (3, pf a0 0), (6, .ptr 0 0 0), (9, I a0.fKind), (10, B (a0.fKind == 1))] [some ⟨0, Enc.cells (Za.mk 0 0 (ByteArray.mk #[]))⟩] ?_
 refine pc h (fun h => ?_) (fun h => ?_)
 refine srveM [6, 7] 103 [(6, .ptr 0 0 0)] [sc 0 a0.fV] ?_
 cases h
 exact Zg rz
 refine srveM [6, 7] 103 [(1, A a1), (2, A a2), (3, pf a0 0), (6, .ptr 0 0 0), (9, I a0.fKind), (14, B (a0.fKind == 2))] [some ⟨0, Enc.cells (Za.mk 0 0 (ByteArray.mk #[]))⟩] ?_
 refine pc h (fun h => ?_) (fun h => ?_)
 refine srvM [6, 7] 3 103 [(6, .ptr 0 0 0), (16, A a1), (18, I a0.fN)] [some ⟨0, Enc.cells (Za.mk 0 0 (ByteArray.mk #[]))⟩] ?_
 obtain ⟨v3, hv4, h⟩ := bindS h
 refine Z2 τ_ok 19 hv4 (by kernel_rfl) ?_
 refine veM [6, 7] 2 103 [(6, .ptr 0 0 0)] [sc 0 v3] ?_
 cases h
 exact Zg rz
 refine srveM [6, 7] 103 [(2, A a2), (3, pf a0 0), (6, .ptr 0 0 0), (9, I a0.fKind), (21, B (a0.fKind == 3))] [some ⟨0, Enc.cells (Za.mk 0 0 (ByteArray.mk #[]))⟩] ?_
 refine pc h (fun h => ?_) (fun h => ?_)
 refine Zi ?_
 refine ip 103 [(2, A a2), (6, .ptr 0 0 0)] [some ⟨0, Enc.cells (Za.mk 0 0 (ByteArray.mk #[]))⟩] ?_
 refine Za8 (Imp.ghosts 1 (st' := ⟨103, [(2, A a2), (6, .ptr 0 0 0)], [some ⟨0, Enc.cells (Za.mk 0 0 (ByteArray.mk #[]))⟩, some ⟨0, []⟩]⟩) (by kernel_rfl)) ?_
 refine pwp_any ([[], [], [], [], [], [], [], [], [], [], [1], [1]]) ([[], [], [], [], [], [], [], [], [], [], [1], [1]]) rfl (by kernel_rfl) ?_
 refine qvM [6, 7] [] trivial 1 103 [(23, A a2), (2, A a2), (6, .ptr 0 0 0)] [some ⟨0, Enc.cells (Za.mk 0 0 (ByteArray.mk #[]))⟩, some ⟨0, []⟩] ?_
 obtain ⟨v6, hv7, h⟩ := bindS h
 refine qX (some 24) (pf v6 0) 103 [(24, pf v6 0), (2, A a2), (6, .ptr 0 0 0)] [some ⟨0, Enc.cells (Za.mk 0 0 (ByteArray.mk #[]))⟩, some ⟨0, []⟩] (fun Γ' hΓ => CoreE.of_y (Zaj τ_ok (by kernel_rfl) hv7)) trivial ?_
 refine qvM [6, 7] [] trivial 3 103 [(27, A a2), (26, I v6.fN), (2, A a2), (6, .ptr 0 0 0)] [some ⟨0, Enc.cells (Za.mk 0 0 (ByteArray.mk #[]))⟩, some ⟨0, []⟩] ?_
 obtain ⟨v8, hv9, h⟩ := bindS h
 refine qX (some 28) (pf v8 0) 103 [(28, pf v8 0), (26, I v6.fN), (2, A a2), (6, .ptr 0 0 0)] [some ⟨0, Enc.cells (Za.mk 0 0 (ByteArray.mk #[]))⟩, some ⟨0, []⟩] (fun Γ' hΓ => CoreE.of_y (Zaj τ_ok (by kernel_rfl) hv9)) trivial ?_
 refine qvM [6, 7] [] trivial 4 103 [(32, E (Za.mk 1 (w64 (v6.fN + v8.fN)) (ByteArray.mk #[]))), (2, A a2), (6, .ptr 0 0 0)] [some ⟨0, Enc.cells (Za.mk 0 0 (ByteArray.mk #[]))⟩, some ⟨0, []⟩] ?_
 refine qX (Hm' := [none, some ⟨1, Enc.cells (Za.mk 0 0 (ByteArray.mk #[]))⟩]) (some 7) (.ptr 1 1 0) 103 [(7, .ptr 1 1 0), (32, E (Za.mk 1 (w64 (v6.fN + v8.fN)) (ByteArray.mk #[]))), (2, A a2), (6, .ptr 0 0 0)] [some ⟨0, Enc.cells (Za.mk 0 0 (ByteArray.mk #[]))⟩, some ⟨1, Enc.cells (Za.mk 0 0 (ByteArray.mk #[]))⟩] (fun Γ' hΓ => alc_E (blk := ⟨0, []⟩) τ_ok [6, 7] 7 1 0 (ny hΓ hX) (by kernel_rfl) (by kernel_rfl)) (hB trivial) ?_
 refine qX (Hm' := [none, some ⟨1, Enc.cells (Za.mk 1 (w64 (v6.fN + v8.fN)) (ByteArray.mk #[]))⟩]) none (.any) 103 [(7, .ptr 1 1 0), (2, A a2), (6, .ptr 0 0 0)] [some ⟨0, Enc.cells (Za.mk 0 0 (ByteArray.mk #[]))⟩, some ⟨1, Enc.cells (Za.mk 1 (w64 (v6.fN + v8.fN)) (ByteArray.mk #[]))⟩] (fun Γ' hΓ => sto_E τ_ok 1 1 (by kernel_rfl)) (hB trivial) ?_
 refine qn 103 [(2, A a2), (6, .ptr 0 0 0), (7, .ptr 1 1 0)] [some ⟨0, Enc.cells (Za.mk 0 0 (ByteArray.mk #[]))⟩, some ⟨1, Enc.cells (Za.mk 1 (w64 (v6.fN + v8.fN)) (ByteArray.mk #[]))⟩] ?_
 refine Zi ?_
 refine Zi ?_
 refine Zab (σ := Bool) (fun x10 => (⟨103, [(6, .ptr 0 0 0), (7, .ptr 1 1 0), (49, B x10)], [some ⟨0, Enc.cells (Za.mk 0 0 (ByteArray.mk #[]))⟩, some ⟨1, Enc.cells (Za.mk 1 (w64 (v6.fN + v8.fN)) (ByteArray.mk #[]))⟩]⟩ : St)) (fun x10 => impl_Part_value_j0 v6 v8 x10 = some y) ?_ ?_
 refine rvM [6, 7] 1 103 [(2, A a2), (6, .ptr 0 0 0), (7, .ptr 1 1 0), (33, A a2)] [some ⟨0, Enc.cells (Za.mk 0 0 (ByteArray.mk #[]))⟩, some ⟨1, Enc.cells (Za.mk 1 (w64 (v6.fN + v8.fN)) (ByteArray.mk #[]))⟩] ?_
 obtain ⟨v12, hv13, h⟩ := bindS h
 refine Z2 τ_ok 34 hv13 (by kernel_rfl) ?_
 refine vM [6, 7] 4 103 [(2, A a2), (6, .ptr 0 0 0), (7, .ptr 1 1 0), (38, B (v12.fKind == 0))] [some ⟨0, Enc.cells (Za.mk 0 0 (ByteArray.mk #[]))⟩, some ⟨1, Enc.cells (Za.mk 1 (w64 (v6.fN + v8.fN)) (ByteArray.mk #[]))⟩] ?_
 rcases fk (v12.fKind == 0) with hc19 | hc19
 replace h := bT hc19 h
 rw [hc19]
 refine veM [6, 7] 11 103 [(6, .ptr 0 0 0), (7, .ptr 1 1 0), (49, B true)] [some ⟨0, Enc.cells (Za.mk 0 0 (ByteArray.mk #[]))⟩, some ⟨1, Enc.cells (Za.mk 1 (w64 (v6.fN + v8.fN)) (ByteArray.mk #[]))⟩] ?_
 exact ⟨true, h, it [6, 7, 49]⟩
 replace h := bF hc19 h
 rw [hc19]
 refine vM [6, 7] 1 103 [(6, .ptr 0 0 0), (7, .ptr 1 1 0), (38, B false), (39, A a2)] [some ⟨0, Enc.cells (Za.mk 0 0 (ByteArray.mk #[]))⟩, some ⟨1, Enc.cells (Za.mk 1 (w64 (v6.fN + v8.fN)) (ByteArray.mk #[]))⟩] ?_
 obtain ⟨v14, hv15, h⟩ := bindS h
 refine Z2 τ_ok 40 hv15 (by kernel_rfl) ?_
 refine vM [6, 7] 5 103 [(6, .ptr 0 0 0), (7, .ptr 1 1 0), (45, B (v14.fKind == 0))] [some ⟨0, Enc.cells (Za.mk 0 0 (ByteArray.mk #[]))⟩, some ⟨1, Enc.cells (Za.mk 1 (w64 (v6.fN + v8.fN)) (ByteArray.mk #[]))⟩] ?_
 rcases fk (v14.fKind == 0) with hc18 | hc18
 replace h := bT hc18 h
 rw [hc18]
 refine veM [6, 7] 4 103 [(6, .ptr 0 0 0), (7, .ptr 1 1 0), (49, B true)] [some ⟨0, Enc.cells (Za.mk 0 0 (ByteArray.mk #[]))⟩, some ⟨1, Enc.cells (Za.mk 1 (w64 (v6.fN + v8.fN)) (ByteArray.mk #[]))⟩] ?_
 exact ⟨true, h, it [6, 7, 49]⟩
 replace h := bF hc18 h
 rw [hc18]
 refine vM [6, 7] 1 103 [(6, .ptr 0 0 0), (7, .ptr 1 1 0), (45, B false), (46, E (Za.mk 1 (w64 (v6.fN + v8.fN)) (ByteArray.mk #[])))] [some ⟨0, Enc.cells (Za.mk 0 0 (ByteArray.mk #[]))⟩, some ⟨1, Enc.cells (Za.mk 1 (w64 (v6.fN + v8.fN)) (ByteArray.mk #[]))⟩] ?_
 obtain ⟨v16, hv17, h⟩ := bindS h
 refine cF 47 (ok_impl_Value_ok hv17) ?_
 refine veM [6, 7] 2 103 [(6, .ptr 0 0 0), (7, .ptr 1 1 0), (49, B (!v16))] [some ⟨0, Enc.cells (Za.mk 0 0 (ByteArray.mk #[]))⟩, some ⟨1, Enc.cells (Za.mk 1 (w64 (v6.fN + v8.fN)) (ByteArray.mk #[]))⟩] ?_
 exact ⟨(!v16), h, it [6, 7, 49]⟩
 rintro x10 h
 unfold impl_Part_value_j0 at h
 refine pc h (fun h => ?_) (fun h => ?_)
 refine srveM [6, 7] 103 [(6, .ptr 0 0 0)] [some ⟨0, Enc.cells (Za.mk 0 0 (ByteArray.mk #[]))⟩, some ⟨1, Enc.cells (Za.mk 1 (w64 (v6.fN + v8.fN)) (ByteArray.mk #[]))⟩] ?_
 cases h
 exact Zg rz
 refine Zj ?_
 refine srveM [6, 7] 103 [(6, .ptr 0 0 0)] [some ⟨0, Enc.cells (Za.mk 1 (w64 (v6.fN + v8.fN)) (ByteArray.mk #[]))⟩, some ⟨1, Enc.cells (Za.mk 1 (w64 (v6.fN + v8.fN)) (ByteArray.mk #[]))⟩] ?_
 cases h
 exact Zg rz
 refine srveM [6, 7] 103 [(2, A a2), (3, pf a0 0), (6, .ptr 0 0 0), (9, I a0.fKind), (52, B (a0.fKind == 4))] [some ⟨0, Enc.cells (Za.mk 0 0 (ByteArray.mk #[]))⟩] ?_
 refine pc h (fun h => ?_) (fun h => ?_)
 refine Zi ?_
 refine ip 103 [(2, A a2), (3, pf a0 0), (6, .ptr 0 0 0)] [some ⟨0, Enc.cells (Za.mk 0 0 (ByteArray.mk #[]))⟩] ?_
 refine pwp_any ([[], [], [], [], [], [], [], [], [], [], [0]]) ([[], [], [], [], [], [], [], [], [], [], [0]]) rfl (by kernel_rfl) ?_
 refine qvM [6, 7] [] trivial 3 103 [(56, A a2), (55, I a0.fN), (2, A a2), (6, .ptr 0 0 0)] [some ⟨0, Enc.cells (Za.mk 0 0 (ByteArray.mk #[]))⟩] ?_
 obtain ⟨v21, hv22, h⟩ := bindS h
 refine qX (some 57) (pf v21 0) 103 [(57, pf v21 0), (55, I a0.fN), (2, A a2), (6, .ptr 0 0 0)] [some ⟨0, Enc.cells (Za.mk 0 0 (ByteArray.mk #[]))⟩] (fun Γ' hΓ => CoreE.of_y (Zaj τ_ok (by kernel_rfl) hv22)) trivial ?_
 refine qvM [6, 7] [] trivial 2 103 [(59, A a2), (58, E v21), (55, I a0.fN), (6, .ptr 0 0 0)] [some ⟨0, Enc.cells (Za.mk 0 0 (ByteArray.mk #[]))⟩] ?_
 obtain ⟨v23, hv24, h⟩ := bindS h
 refine qX (some 60) (pf v23 0) 103 [(60, pf v23 0), (58, E v21), (55, I a0.fN), (6, .ptr 0 0 0)] [some ⟨0, Enc.cells (Za.mk 0 0 (ByteArray.mk #[]))⟩] (fun Γ' hΓ => CoreE.of_y (Zaj τ_ok (by kernel_rfl) hv24)) trivial ?_
 refine qvM [6, 7] [] trivial 1 103 [(61, E v23), (58, E v21), (55, I a0.fN), (6, .ptr 0 0 0)] [some ⟨0, Enc.cells (Za.mk 0 0 (ByteArray.mk #[]))⟩] ?_
 obtain ⟨v25, hv26, h⟩ := bindS h
 refine qX (some 62) (I v25) 103 [(62, I v25), (6, .ptr 0 0 0)] [some ⟨0, Enc.cells (Za.mk 0 0 (ByteArray.mk #[]))⟩] (fun Γ' hΓ => CoreE.of_g (Zbb (τ := τ) (by kernel_rfl) rfl (ok_impl_Compare hv26) (FzTo.frz rfl))) trivial ?_
 obtain ⟨v27, hv28, h⟩ := bindS h
 refine qX (some 63) (E v27) 103 [(63, E v27), (6, .ptr 0 0 0)] [some ⟨0, Enc.cells (Za.mk 0 0 (ByteArray.mk #[]))⟩] (fun Γ' hΓ => CoreE.of_g (Zbb (τ := τ) (by kernel_rfl) rfl (ok_impl_ValueOf hv28) (FzTo.frz rfl))) trivial ?_
 refine qX (Hm' := [sc 0 v27]) none (.any) 103 [(6, .ptr 0 0 0)] [sc 0 v27] (fun Γ' hΓ => sto_E τ_ok 0 0 (by kernel_rfl)) (hB trivial) ?_
 refine qn 103 [(6, .ptr 0 0 0)] [sc 0 v27] ?_
 cases h
 exact Zg rz
 refine srveM [6, 7] 103 [(2, A a2), (6, .ptr 0 0 0), (9, I a0.fKind), (64, B (a0.fKind == 5))] [some ⟨0, Enc.cells (Za.mk 0 0 (ByteArray.mk #[]))⟩] ?_
 refine pc h (fun h => ?_) (fun h => ?_)
 refine Zi ?_
 refine ip 103 [(2, A a2), (6, .ptr 0 0 0)] [some ⟨0, Enc.cells (Za.mk 0 0 (ByteArray.mk #[]))⟩] ?_
 refine pwp_any ([[], [], [], [], [], [], [], [], [], [], [0]]) ([[], [], [], [], [], [], [], [], [], [], [0]]) rfl (by kernel_rfl) ?_
 refine qvM [6, 7] [] trivial 1 103 [(66, A a2), (2, A a2), (6, .ptr 0 0 0)] [some ⟨0, Enc.cells (Za.mk 0 0 (ByteArray.mk #[]))⟩] ?_
 obtain ⟨v30, hv31, h⟩ := bindS h
 refine qX (some 67) (pf v30 0) 103 [(67, pf v30 0), (2, A a2), (6, .ptr 0 0 0)] [some ⟨0, Enc.cells (Za.mk 0 0 (ByteArray.mk #[]))⟩] (fun Γ' hΓ => CoreE.of_y (Zaj τ_ok (by kernel_rfl) hv31)) trivial ?_
 refine qvM [6, 7] [] trivial 1 103 [(68, E v30), (2, A a2), (6, .ptr 0 0 0)] [some ⟨0, Enc.cells (Za.mk 0 0 (ByteArray.mk #[]))⟩] ?_
 obtain ⟨v32, hv33, h⟩ := bindS h
 refine qX (some 69) (I v32) 103 [(69, I v32), (2, A a2), (6, .ptr 0 0 0)] [some ⟨0, Enc.cells (Za.mk 0 0 (ByteArray.mk #[]))⟩] (fun Γ' hΓ => CoreE.of_g (Zbb (τ := τ) (by kernel_rfl) rfl (ok_impl_TruthOf hv33) (FzTo.frz rfl))) trivial ?_
 refine qvM [6, 7] [] trivial 1 103 [(70, A a2), (69, I v32), (6, .ptr 0 0 0)] [some ⟨0, Enc.cells (Za.mk 0 0 (ByteArray.mk #[]))⟩] ?_
 obtain ⟨v34, hv35, h⟩ := bindS h
 refine qX (some 71) (pf v34 0) 103 [(71, pf v34 0), (69, I v32), (6, .ptr 0 0 0)] [some ⟨0, Enc.cells (Za.mk 0 0 (ByteArray.mk #[]))⟩] (fun Γ' hΓ => CoreE.of_y (Zaj τ_ok (by kernel_rfl) hv35)) trivial ?_
 refine qvM [6, 7] [] trivial 1 103 [(72, E v34), (69, I v32), (6, .ptr 0 0 0)] [some ⟨0, Enc.cells (Za.mk 0 0 (ByteArray.mk #[]))⟩] ?_
 obtain ⟨v36, hv37, h⟩ := bindS h
 refine qX (some 73) (I v36) 103 [(73, I v36), (69, I v32), (6, .ptr 0 0 0)] [some ⟨0, Enc.cells (Za.mk 0 0 (ByteArray.mk #[]))⟩] (fun Γ' hΓ => CoreE.of_g (Zbb (τ := τ) (by kernel_rfl) rfl (ok_impl_TruthOf hv37) (FzTo.frz rfl))) trivial ?_
 obtain ⟨v38, hv39, h⟩ := bindS h
 refine qX (some 74) (I v38) 103 [(74, I v38), (6, .ptr 0 0 0)] [some ⟨0, Enc.cells (Za.mk 0 0 (ByteArray.mk #[]))⟩] (fun Γ' hΓ => CoreE.of_g (Zbb (τ := τ) (by kernel_rfl) rfl (ok_impl_AndOf hv39) (FzTo.frz rfl))) trivial ?_
 obtain ⟨v40, hv41, h⟩ := bindS h
 refine qX (some 75) (E v40) 103 [(75, E v40), (6, .ptr 0 0 0)] [some ⟨0, Enc.cells (Za.mk 0 0 (ByteArray.mk #[]))⟩] (fun Γ' hΓ => CoreE.of_g (Zbb (τ := τ) (by kernel_rfl) rfl (ok_impl_ValueOf hv41) (FzTo.frz rfl))) trivial ?_
 refine qX (Hm' := [sc 0 v40]) none (.any) 103 [(6, .ptr 0 0 0)] [sc 0 v40] (fun Γ' hΓ => sto_E τ_ok 0 0 (by kernel_rfl)) (hB trivial) ?_
 refine qn 103 [(6, .ptr 0 0 0)] [sc 0 v40] ?_
 cases h
 exact Zg rz
 refine srveM [6, 7] 103 [(2, A a2), (6, .ptr 0 0 0), (9, I a0.fKind), (76, B (a0.fKind == 6))] [some ⟨0, Enc.cells (Za.mk 0 0 (ByteArray.mk #[]))⟩] ?_
 refine pc h (fun h => ?_) (fun h => ?_)
 refine Zi ?_
 refine ip 103 [(2, A a2), (6, .ptr 0 0 0)] [some ⟨0, Enc.cells (Za.mk 0 0 (ByteArray.mk #[]))⟩] ?_
 refine pwp_any ([[], [], [], [], [], [], [], [], [], [], [0]]) ([[], [], [], [], [], [], [], [], [], [], [0]]) rfl (by kernel_rfl) ?_
 refine qvM [6, 7] [] trivial 1 103 [(78, A a2), (2, A a2), (6, .ptr 0 0 0)] [some ⟨0, Enc.cells (Za.mk 0 0 (ByteArray.mk #[]))⟩] ?_
 obtain ⟨v43, hv44, h⟩ := bindS h
 refine qX (some 79) (pf v43 0) 103 [(79, pf v43 0), (2, A a2), (6, .ptr 0 0 0)] [some ⟨0, Enc.cells (Za.mk 0 0 (ByteArray.mk #[]))⟩] (fun Γ' hΓ => CoreE.of_y (Zaj τ_ok (by kernel_rfl) hv44)) trivial ?_
 refine qvM [6, 7] [] trivial 1 103 [(80, E v43), (2, A a2), (6, .ptr 0 0 0)] [some ⟨0, Enc.cells (Za.mk 0 0 (ByteArray.mk #[]))⟩] ?_
 obtain ⟨v45, hv46, h⟩ := bindS h
 refine qX (some 81) (I v45) 103 [(81, I v45), (2, A a2), (6, .ptr 0 0 0)] [some ⟨0, Enc.cells (Za.mk 0 0 (ByteArray.mk #[]))⟩] (fun Γ' hΓ => CoreE.of_g (Zbb (τ := τ) (by kernel_rfl) rfl (ok_impl_TruthOf hv46) (FzTo.frz rfl))) trivial ?_
 refine qvM [6, 7] [] trivial 1 103 [(82, A a2), (81, I v45), (6, .ptr 0 0 0)] [some ⟨0, Enc.cells (Za.mk 0 0 (ByteArray.mk #[]))⟩] ?_
 obtain ⟨v47, hv48, h⟩ := bindS h
 refine qX (some 83) (pf v47 0) 103 [(83, pf v47 0), (81, I v45), (6, .ptr 0 0 0)] [some ⟨0, Enc.cells (Za.mk 0 0 (ByteArray.mk #[]))⟩] (fun Γ' hΓ => CoreE.of_y (Zaj τ_ok (by kernel_rfl) hv48)) trivial ?_
 refine qvM [6, 7] [] trivial 1 103 [(84, E v47), (81, I v45), (6, .ptr 0 0 0)] [some ⟨0, Enc.cells (Za.mk 0 0 (ByteArray.mk #[]))⟩] ?_
 obtain ⟨v49, hv50, h⟩ := bindS h
 refine qX (some 85) (I v49) 103 [(85, I v49), (81, I v45), (6, .ptr 0 0 0)] [some ⟨0, Enc.cells (Za.mk 0 0 (ByteArray.mk #[]))⟩] (fun Γ' hΓ => CoreE.of_g (Zbb (τ := τ) (by kernel_rfl) rfl (ok_impl_TruthOf hv50) (FzTo.frz rfl))) trivial ?_
 obtain ⟨v51, hv52, h⟩ := bindS h
 refine qX (some 86) (I v51) 103 [(86, I v51), (6, .ptr 0 0 0)] [some ⟨0, Enc.cells (Za.mk 0 0 (ByteArray.mk #[]))⟩] (fun Γ' hΓ => CoreE.of_g (Zbb (τ := τ) (by kernel_rfl) rfl (ok_impl_OrOf hv52) (FzTo.frz rfl))) trivial ?_
 obtain ⟨v53, hv54, h⟩ := bindS h
 refine qX (some 87) (E v53) 103 [(87, E v53), (6, .ptr 0 0 0)] [some ⟨0, Enc.cells (Za.mk 0 0 (ByteArray.mk #[]))⟩] (fun Γ' hΓ => CoreE.of_g (Zbb (τ := τ) (by kernel_rfl) rfl (ok_impl_ValueOf hv54) (FzTo.frz rfl))) trivial ?_
 refine qX (Hm' := [sc 0 v53]) none (.any) 103 [(6, .ptr 0 0 0)] [sc 0 v53] (fun Γ' hΓ => sto_E τ_ok 0 0 (by kernel_rfl)) (hB trivial) ?_
 refine qn 103 [(6, .ptr 0 0 0)] [sc 0 v53] ?_
 cases h
 exact Zg rz
 refine srveM [6, 7] 103 [(2, A a2), (6, .ptr 0 0 0), (88, B (a0.fKind == 7))] [some ⟨0, Enc.cells (Za.mk 0 0 (ByteArray.mk #[]))⟩] ?_
 refine pc h (fun h => ?_) (fun h => ?_)
 refine srvM [6, 7] 1 103 [(6, .ptr 0 0 0), (90, A a2)] [some ⟨0, Enc.cells (Za.mk 0 0 (ByteArray.mk #[]))⟩] ?_
 obtain ⟨v56, hv57, h⟩ := bindS h
 refine Z2 τ_ok 91 hv57 (by kernel_rfl) ?_
 refine vM [6, 7] 1 103 [(6, .ptr 0 0 0), (92, E v56)] [some ⟨0, Enc.cells (Za.mk 0 0 (ByteArray.mk #[]))⟩] ?_
 obtain ⟨v58, hv59, h⟩ := bindS h
 refine cF 93 (ok_impl_TruthOf hv59) ?_
 obtain ⟨v60, hv61, h⟩ := bindS h
 refine cF 94 (ok_impl_NotOf hv61) ?_
 obtain ⟨v62, hv63, h⟩ := bindS h
 refine cF 95 (ok_impl_ValueOf hv63) ?_
 refine veM [6, 7] 1 103 [(6, .ptr 0 0 0)] [sc 0 v62] ?_
 cases h
 exact Zg rz
 refine Zj ?_
 refine srvM [6, 7] 1 103 [(6, .ptr 0 0 0), (96, A a2)] [some ⟨0, Enc.cells (Za.mk 0 0 (ByteArray.mk #[]))⟩] ?_
 obtain ⟨v64, hv65, h⟩ := bindS h
 refine Z2 τ_ok 97 hv65 (by kernel_rfl) ?_
 refine vM [6, 7] 3 103 [(6, .ptr 0 0 0), (100, B (v64.fKind == 0))] [some ⟨0, Enc.cells (Za.mk 0 0 (ByteArray.mk #[]))⟩] ?_
 obtain ⟨v66, hv67, h⟩ := bindS h
 refine cF 101 (Z7 hv67) ?_
 obtain ⟨v68, hv69, h⟩ := bindS h
 refine cF 102 (ok_impl_ValueOf hv69) ?_
 refine veM [6, 7] 1 103 [(6, .ptr 0 0 0)] [sc 0 v68] ?_
 cases h
 exact Zg rz
def spec_l6All_l0 (a0 : List Zh) (a1 : List Zf) : Nat → Int → (List (List Zb)) → (List Int) → Option ((List (List Zb)) × Bool)
 | 0, _, _, _ => none
 | f6 + 1, x3, x4, x5 => bif (decide (x3 < (a1.length : Int))) then (getI a1 x3).bind fun v9 => (spec_l6Columns a0 x4 v9).bind fun v11 => bif (!v11.2) then some (([] : List (List Zb)), false) else (app x4 ([v11.1] : List (List Zb))).bind fun v14 => (getI a1 x3).bind fun v16 => (spec_l6Made x5 v16).bind fun v18 => (app x5 ([v18] : List Int)).bind fun v20 => (getI v20 x3).bind fun v22 => bif (decide (v22 > 300)) then some (([] : List (List Zb)), false) else (spec_l6All_l0 a0 a1 f6) (w64 (x3 + 1)) v14 v20 else some (x4, true)
def spec_l6All (a0 : List Zh) (a1 : List Zf) : Option ((List (List Zb)) × Bool) := spec_l6All_l0 a0 a1 FUEL 0 ([] : List (List Zb)) ([] : List Int)
theorem ok_spec_l6All {a0 : List Zh} {a1 : List Zf} {y : (List (List Zb)) × Bool} (h : spec_l6All a0 a1 = some y) : OK Tryz.prog 25 [A a0, A a1] (.tup [O y.1, B y.2]) := by
 refine ow Tryz.func25 fun Γ hX => ?_
 unfold spec_l6All at h
 refine srve 52 [(0, A a0), (1, A a1)] [] ?_
 refine srve 52 [(0, A a0), (1, A a1), (6, .arr 1 0 (eL ([] : List (List Zb))) true)] [] ?_
 refine srve 52 [(0, A a0), (1, A a1), (6, .arr 1 0 (eL ([] : List (List Zb))) true), (7, .arr 1 0 (eL ([] : List Int)) true)] [] ?_
 refine Zi ?_
 refine srve 52 [(0, A a0), (1, A a1), (6, .arr 1 0 (eL ([] : List (List Zb))) true), (7, .arr 1 0 (eL ([] : List Int)) true), (8, I 0)] [] ?_
 refine Zk ?_
 refine Zaf (ι := Nat × Int × (List (List Zb)) × (List Int)) (fun (f6, x3, x4, x5) => (⟨52, [(0, A a0), (1, A a1), (6, rf 0 0 1 x4), (7, rf 1 0 1 x5), (8, I x3)], [sl 0 x4, sl 0 x5]⟩ : St)) (fun (f6, x3, x4, x5) => spec_l6All_l0 a0 a1 f6 x3 x4 x5 = some y) Prod.fst (FUEL, 0, ([] : List (List Zb)), ([] : List Int)) h ((Imp.thawS (st' := ⟨52, [(0, A a0), (1, A a1), (6, .ref 0 0 0 1 ([] : List (List Zb)).length false), (7, .arr 1 0 (eL ([] : List Int)) true), (8, I 0)], [some ⟨0, eL ([] : List (List Zb))⟩]⟩) 6 [0, 1, 6, 7, 8] (by kernel_rfl)).trans (Imp.thawS 7 [0, 1, 6, 7, 8] (by kernel_rfl))) ?_
 rintro ⟨f6, x3, x4, x5⟩ h
 dsimp only at h ⊢
 rcases f6 with _ | f6
 cases h
 rw [spec_l6All_l0] at h
 refine Zi ?_
 refine srve 52 [(0, A a0), (1, A a1), (6, rf 0 0 1 x4), (7, rf 1 0 1 x5), (8, I x3), (16, B (decide (x3 < (a1.length : Int))))] [sl 0 x4, sl 0 x5] ?_
 refine pc h (fun h => ?_) (fun h => ?_)
 refine Zj ?_
 refine Zi ?_
 refine Zk ?_
 refine srv 4 52 [(0, A a0), (1, A a1), (6, rf 0 0 1 x4), (7, rf 1 0 1 x5), (8, I x3), (20, A a0), (21, rf 0 0 1 x4), (22, A a1), (23, I x3)] [sl 0 x4, sl 0 x5] ?_
 obtain ⟨v9, hv10, h⟩ := bindS h
 refine Z2 τ_ok 24 hv10 (by kernel_rfl) ?_
 refine v 1 52 [(0, A a0), (1, A a1), (6, rf 0 0 1 x4), (7, rf 1 0 1 x5), (8, I x3), (20, A a0), (21, rf 0 0 1 x4), (25, E v9)] [sl 0 x4, sl 0 x5] ?_
 obtain ⟨v11, hv12, h⟩ := bindS h
 refine opsP_callV (xs := [A a0, rf 0 0 1 x4, E v9]) τ 26 (ok_spec_l6Columns hv12) (Blind.tup (BlindL.cons (Blind.O (fun _ => rfl) _) (BlindL.cons (Blind.lit _) BlindL.nil))) (FzTo.tup (FzToL.cons (FzTo.O _) (FzToL.cons (FzTo.frz rfl) FzToL.nil))) (by kernel_rfl) (ViewL.cons (View.frz rfl) (ViewL.cons (View.whole (v := 0) x4 (by kernel_rfl) rfl) (ViewL.cons (View.frz rfl) (ViewL.nil _)))) ?_
 refine ve 5 52 [(0, A a0), (1, A a1), (6, rf 0 0 1 x4), (7, rf 1 0 1 x5), (8, I x3), (9, A v11.1), (10, B v11.2)] [sl 0 x4, sl 0 x5] ?_
 refine Zi ?_
 refine srve 52 [(0, A a0), (1, A a1), (6, rf 0 0 1 x4), (7, rf 1 0 1 x5), (8, I x3), (9, A v11.1), (30, B (!v11.2))] [sl 0 x4, sl 0 x5] ?_
 refine pc h (fun h => ?_) (fun h => ?_)
 refine srve 52 [(4, .arr 1 0 (eL ([] : List (List Zb))) true), (5, B false)] [sl 0 x4, sl 0 x5] ?_
 refine ip 52 [(4, .arr 1 0 (eL ([] : List (List Zb))) true), (5, B false)] [sl 0 x4, sl 0 x5] ?_
 refine Za8 (Imp.thawS (st' := ⟨52, [(4, .ref 2 0 0 1 ([] : List (List Zb)).length false), (5, B false)], [sl 0 x4, sl 0 x5, some ⟨0, eL ([] : List (List Zb))⟩]⟩) 4 [4, 5] (by kernel_rfl)) ?_
 have h := si h
 subst h
 exact Zg (rt (.tup [.ref 2 0 0 1 ([] : List (List Zb)).length false, B false]) (OutP.tup (OutL.cons (OutP.list (v := 0) (by kernel_rfl)) (OutL.cons (OutP.frz (by kernel_rfl)) (OutL.nil _)))))
 refine Zj ?_
 refine srv 3 52 [(0, A a0), (1, A a1), (7, rf 1 0 1 x5), (8, I x3), (32, rf 0 0 1 x4), (34, .arr 1 ([v11.1] : List (List Zb)).length (eL ([v11.1] : List (List Zb))) true)] [sl 0 x4, sl 0 x5] ?_
 obtain ⟨v14, hv15, h⟩ := bindS h
 refine Zan τ_ok 35 0 0 (nx hX) hv15 (by kernel_rfl) ?_
 refine ve 1 52 [(0, A a0), (1, A a1), (6, rf 0 1 1 v14), (7, rf 1 0 1 x5), (8, I x3)] [sl 1 v14, sl 0 x5] ?_
 refine srv 4 52 [(0, A a0), (1, A a1), (6, rf 0 1 1 v14), (8, I x3), (36, rf 1 0 1 x5), (37, rf 1 0 1 x5), (38, A a1), (39, I x3)] [sl 1 v14, sl 0 x5] ?_
 obtain ⟨v16, hv17, h⟩ := bindS h
 refine Z2 τ_ok 40 hv17 (by kernel_rfl) ?_
 refine v 1 52 [(0, A a0), (1, A a1), (6, rf 0 1 1 v14), (8, I x3), (36, rf 1 0 1 x5), (37, rf 1 0 1 x5), (41, E v16)] [sl 1 v14, sl 0 x5] ?_
 obtain ⟨v18, hv19, h⟩ := bindS h
 refine opsP_callV (xs := [rf 1 0 1 x5, E v16]) τ 42 (ok_spec_l6Made hv19) (Blind.lit _) (FzTo.frz rfl) (by kernel_rfl) (ViewL.cons (View.whole (v := 0) x5 (by kernel_rfl) rfl) (ViewL.cons (View.frz rfl) (ViewL.nil _))) ?_
 refine v 1 52 [(0, A a0), (1, A a1), (6, rf 0 1 1 v14), (8, I x3), (36, rf 1 0 1 x5), (43, .arr 1 ([v18] : List Int).length (eL ([v18] : List Int)) true)] [sl 1 v14, sl 0 x5] ?_
 obtain ⟨v20, hv21, h⟩ := bindS h
 refine Zan τ_ok 44 1 0 (nx hX) hv21 (by kernel_rfl) ?_
 refine ve 1 52 [(0, A a0), (1, A a1), (6, rf 0 1 1 v14), (7, rf 1 1 1 v20), (8, I x3)] [sl 1 v14, sl 1 v20] ?_
 refine srv 2 52 [(0, A a0), (1, A a1), (6, rf 0 1 1 v14), (7, rf 1 1 1 v20), (8, I x3), (45, rf 1 1 1 v20), (46, I x3)] [sl 1 v14, sl 1 v20] ?_
 obtain ⟨v22, hv23, h⟩ := bindS h
 refine opsP_idr τ_ok 47 1 1 v20.length hv23 rfl (by kernel_rfl) ?_
 refine opsP_lde (r := I v22) τ_ok 48 3 0 hv23 (by kernel_rfl) (by kernel_rfl) ?_
 refine ve 1 52 [(0, A a0), (1, A a1), (6, rf 0 1 1 v14), (7, rf 1 1 1 v20), (8, I x3), (49, B (decide (v22 > 300)))] [sl 1 v14, sl 1 v20] ?_
 refine pc h (fun h => ?_) (fun h => ?_)
 refine srve 52 [(4, .arr 1 0 (eL ([] : List (List Zb))) true), (5, B false)] [sl 1 v14, sl 1 v20] ?_
 refine ip 52 [(4, .arr 1 0 (eL ([] : List (List Zb))) true), (5, B false)] [sl 1 v14, sl 1 v20] ?_
 refine Za8 (Imp.thawS (st' := ⟨52, [(4, .ref 2 0 0 1 ([] : List (List Zb)).length false), (5, B false)], [sl 1 v14, sl 1 v20, some ⟨0, eL ([] : List (List Zb))⟩]⟩) 4 [4, 5] (by kernel_rfl)) ?_
 have h := si h
 subst h
 exact Zg (rt (.tup [.ref 2 0 0 1 ([] : List (List Zb)).length false, B false]) (OutP.tup (OutL.cons (OutP.list (v := 0) (by kernel_rfl)) (OutL.cons (OutP.frz (by kernel_rfl)) (OutL.nil _)))))
 refine Zj ?_
 refine rve 52 [(0, A a0), (1, A a1), (6, rf 0 1 1 v14), (7, rf 1 1 1 v20), (8, I (w64 (x3 + 1)))] [sl 1 v14, sl 1 v20] ?_
 exact ⟨(f6, (w64 (x3 + 1)), v14, v20), h, Nat.lt_succ_self _, qt (it (st' := ⟨52, [(0, A a0), (1, A a1), (6, rf 0 1 1 v14), (7, rf 1 1 1 v20), (8, I (w64 (x3 + 1)))], [sl 1 v14, sl 1 v20]⟩) [0, 1, 6, 7, 8]) (qt (Imp.reverS (st' := ⟨52, [(0, A a0), (1, A a1), (6, rf 0 0 1 v14), (7, rf 1 1 1 v20), (8, I (w64 (x3 + 1)))], [sl 0 v14, sl 1 v20]⟩) 0 1 (eL v14) [0, 1, 6, 7, 8] (by kernel_rfl) (by exact (And.intro (eL_frz _) (And.intro (eL_frz _) trivial))) (by kernel_rfl)) (Imp.reverS 1 1 (eL v20) [0, 1, 6, 7, 8] (by kernel_rfl) (by exact (And.intro (eL_frz _) (And.intro (eL_frz _) trivial))) (by kernel_rfl)))⟩
 refine Zae ?_
 refine srve 52 [(4, rf 0 0 1 x4), (5, B true)] [sl 0 x4, sl 0 x5] ?_
 have h := si h
 subst h
 exact Zg (rt (.tup [rf 0 0 1 x4, B true]) (OutP.tup (OutL.cons (OutP.list (v := 0) (by kernel_rfl)) (OutL.cons (OutP.frz (by kernel_rfl)) (OutL.nil _)))))
def spec_TablesOk_j1 (x1 : Int) (K3 : Int → Option Bool) (x5 : Bool) : Option Bool := bif x5 then some false else K3 (w64 (x1 + 1))
def spec_TablesOk_l0 (a0 : List Zh) : Nat → Int → Option Bool
 | 0, _ => none
 | f2 + 1, x1 => bif (decide (x1 < (a0.length : Int))) then (getI a0 x1).bind fun v7 => bif (decide ((v7.fRows.length : Int) > 6)) then spec_TablesOk_j1 x1 (spec_TablesOk_l0 a0 f2) true else (getI a0 x1).bind fun v9 => (getI a0 x1).bind fun v11 => (spec_RowsOk v9.fColumns v11.fRows).bind fun v13 => spec_TablesOk_j1 x1 (spec_TablesOk_l0 a0 f2) (!v13) else some (decide ((a0.length : Int) ≤ 3))
def spec_TablesOk (a0 : List Zh) : Option Bool := spec_TablesOk_l0 a0 FUEL 0
theorem ok_spec_TablesOk {a0 : List Zh} {y : Bool} (h : spec_TablesOk a0 = some y) : OK Tryz.prog 26 [A a0] (B y) := by
 refine ow Tryz.func26 fun Γ hX => ?_
 unfold spec_TablesOk at h
 refine srve 34 [(0, A a0)] [] ?_
 refine Zi ?_
 refine srve 34 [(0, A a0), (3, I 0)] [] ?_
 refine Zk ?_
 refine Zaf (ι := Nat × Int) (fun (f2, x1) => (⟨34, [(0, A a0), (3, I x1)], []⟩ : St)) (fun (f2, x1) => spec_TablesOk_l0 a0 f2 x1 = some y) Prod.fst (FUEL, 0) h (it [0, 3]) ?_
 rintro ⟨f2, x1⟩ h
 dsimp only at h ⊢
 rcases f2 with _ | f2
 cases h
 rw [spec_TablesOk_l0] at h
 refine Zi ?_
 refine srve 34 [(0, A a0), (3, I x1), (7, B (decide (x1 < (a0.length : Int))))] [] ?_
 refine pc h (fun h => ?_) (fun h => ?_)
 refine Zj ?_
 refine Zi ?_
 refine Zk ?_
 refine Zi ?_
 refine Zab (σ := Bool) (fun x5 => (⟨34, [(0, A a0), (3, I x1), (30, B x5)], []⟩ : St)) (fun x5 => spec_TablesOk_j1 x1 (spec_TablesOk_l0 a0 f2) x5 = some y) ?_ ?_
 refine ip 34 [(0, A a0), (3, I x1)] [] ?_
 refine pN 21 ?_
 refine qv [] trivial 2 34 [(11, I x1), (10, A a0), (0, A a0), (3, I x1)] [] ?_
 obtain ⟨v7, hv8, h⟩ := bindS h
 refine qX (some 12) (pf v7 0) 34 [(12, pf v7 0), (0, A a0), (3, I x1)] [] (fun Γ' hΓ => CoreE.of_y (Zaj τ_ok (by kernel_rfl) hv8)) trivial ?_
 refine qv [] trivial 5 34 [(17, B (decide ((v7.fRows.length : Int) > 6))), (0, A a0), (3, I x1)] [] ?_
 rcases fk (decide ((v7.fRows.length : Int) > 6)) with hc15 | hc15
 replace h := bT hc15 h
 rw [hc15]
 refine qvn [] trivial 13 34 [(0, A a0), (3, I x1), (18, .lit undef), (19, .lit undef), (20, .lit undef), (21, .lit undef), (22, .lit undef), (23, .lit undef), (24, .lit undef), (25, .lit undef), (26, .lit undef), (27, .lit undef), (28, .lit undef), (29, .lit undef), (30, B true)] [] ?_
 exact ⟨true, h, it [0, 3, 30]⟩
 replace h := bF hc15 h
 rw [hc15]
 refine qv [] trivial 2 34 [(19, I x1), (18, A a0), (17, B false), (0, A a0), (3, I x1)] [] ?_
 obtain ⟨v9, hv10, h⟩ := bindS h
 refine qX (some 20) (pf v9 0) 34 [(20, pf v9 0), (19, I x1), (18, A a0), (17, B false), (0, A a0), (3, I x1)] [] (fun Γ' hΓ => CoreE.of_y (Zaj τ_ok (by kernel_rfl) hv10)) trivial ?_
 refine qv [] trivial 4 34 [(24, I x1), (23, A a0), (22, A v9.fColumns), (21, pf v9 0), (20, pf v9 0), (19, I x1), (18, A a0), (17, B false), (0, A a0), (3, I x1)] [] ?_
 obtain ⟨v11, hv12, h⟩ := bindS h
 refine qX (some 25) (pf v11 0) 34 [(25, pf v11 0), (24, I x1), (23, A a0), (22, A v9.fColumns), (21, pf v9 0), (20, pf v9 0), (19, I x1), (18, A a0), (17, B false), (0, A a0), (3, I x1)] [] (fun Γ' hΓ => CoreE.of_y (Zaj τ_ok (by kernel_rfl) hv12)) trivial ?_
 refine qv [] trivial 2 34 [(27, A v11.fRows), (26, pf v11 1), (25, pf v11 0), (24, I x1), (23, A a0), (22, A v9.fColumns), (21, pf v9 0), (20, pf v9 0), (19, I x1), (18, A a0), (17, B false), (0, A a0), (3, I x1)] [] ?_
 obtain ⟨v13, hv14, h⟩ := bindS h
 refine qX (some 28) (B v13) 34 [(28, B v13), (27, A v11.fRows), (26, pf v11 1), (25, pf v11 0), (24, I x1), (23, A a0), (22, A v9.fColumns), (21, pf v9 0), (20, pf v9 0), (19, I x1), (18, A a0), (17, B false), (0, A a0), (3, I x1)] [] (fun Γ' hΓ => CoreE.of_g (Zbb (τ := τ) (by kernel_rfl) rfl (ok_spec_RowsOk hv14) (FzTo.frz rfl))) trivial ?_
 refine qvn [] trivial 2 34 [(0, A a0), (3, I x1), (18, A a0), (19, I x1), (20, pf v9 0), (21, pf v9 0), (22, A v9.fColumns), (23, A a0), (24, I x1), (25, pf v11 0), (26, pf v11 1), (27, A v11.fRows), (28, B v13), (29, B (!v13)), (30, B (!v13))] [] ?_
 exact ⟨(!v13), h, it [0, 3, 30]⟩
 rintro x5 h
 unfold spec_TablesOk_j1 at h
 refine pc h (fun h => ?_) (fun h => ?_)
 refine srve 34 [(2, B false)] [] ?_
 cases h
 exact Zg rz
 refine Zj ?_
 refine rve 34 [(0, A a0), (3, I (w64 (x1 + 1)))] [] ?_
 exact ⟨(f2, (w64 (x1 + 1))), h, Nat.lt_succ_self _, it [0, 3]⟩
 refine Zae ?_
 refine srve 34 [(2, B (decide ((a0.length : Int) ≤ 3)))] [] ?_
 cases h
 exact Zg rz
def impl_TablesOk_1 (a0 : Zh) : Option Bool := (impl_ColumnsOk a0.fColumns).bind fun v1 => bif (!v1) then some true else bif (decide ((a0.fRows.length : Int) > 6)) then some true else (impl_RowsOk a0.fColumns a0.fRows).bind fun v3 => some (!v3)
theorem ok_impl_TablesOk_1 {a0 : Zh} {y : Bool} (h : impl_TablesOk_1 a0 = some y) : OK Tryz.prog 65 [E a0] (B y) := by
 refine ow Tryz.func65 fun Γ hX => ?_
 unfold impl_TablesOk_1 at h
 refine srve 21 [(1, pf a0 0)] [] ?_
 refine srv 2 21 [(1, pf a0 0), (4, A a0.fColumns)] [] ?_
 obtain ⟨v1, hv2, h⟩ := bindS h
 refine cF 5 (ok_impl_ColumnsOk hv2) ?_
 refine v 2 21 [(1, pf a0 0), (7, B (!v1))] [] ?_
 rcases fk (!v1) with hc6 | hc6
 replace h := bT hc6 h
 rw [hc6]
 refine ve 14 21 [(2, B true)] [] ?_
 cases h
 exact Zg rz
 replace h := bF hc6 h
 rw [hc6]
 refine v 6 21 [(1, pf a0 0), (13, B (decide ((a0.fRows.length : Int) > 6)))] [] ?_
 rcases fk (decide ((a0.fRows.length : Int) > 6)) with hc5 | hc5
 replace h := bT hc5 h
 rw [hc5]
 refine ve 8 21 [(2, B true)] [] ?_
 cases h
 exact Zg rz
 replace h := bF hc5 h
 rw [hc5]
 refine v 4 21 [(13, B false), (15, A a0.fColumns), (17, A a0.fRows)] [] ?_
 obtain ⟨v3, hv4, h⟩ := bindS h
 refine cF 18 (ok_impl_RowsOk hv4) ?_
 refine ve 3 21 [(2, B (!v3))] [] ?_
 cases h
 exact Zg rz
def impl_exprValue_l0 (a0 : List Za) (a1 : List Zd) : Nat → Int → (List Za) → Option Za
 | 0, _, _ => none
 | f5 + 1, x3, x4 => bif (decide (x3 < (a1.length : Int))) then (getI a1 x3).bind fun v8 => (Zs v8).bind fun v10 => (slI x4 (some (w64 ((x4.length : Int) - v10))) none none).bind fun v12 => (impl_Part_value v8 a0 v12).bind fun v14 => (slI x4 none (some (w64 ((x4.length : Int) - v10))) none).bind fun v16 => (appT x4 ([v14] : List Za) v16.length).bind fun v18 => (impl_exprValue_l0 a0 a1 f5) (w64 (x3 + 1)) v18 else (getI x4 (0 : Int)).bind fun v20 => some v20
def impl_exprValue (a0 : List Za) (a1 : List Zd) : Option Za := impl_exprValue_l0 a0 a1 FUEL 0 ([] : List Za)
theorem ok_impl_exprValue {a0 : List Za} {a1 : List Zd} {y : Za} (h : impl_exprValue a0 a1 = some y) : OK Tryz.prog 99 [A a0, A a1] (E y) := by
 refine ow Tryz.func99 fun Γ hX => ?_
 unfold impl_exprValue at h
 refine srveM [4, 7, 9] 37 [(0, A a0), (1, A a1), (4, .ptr 0 0 0)] [some ⟨0, Enc.cells (Za.mk 0 0 (ByteArray.mk #[]))⟩] ?_
 refine srveM [4, 7, 9] 37 [(0, A a0), (1, A a1), (4, .ptr 0 0 0), (5, .arr 3 0 (eL ([] : List Za)) true)] [some ⟨0, Enc.cells (Za.mk 0 0 (ByteArray.mk #[]))⟩] ?_
 refine Zi ?_
 refine srveM [4, 7, 9] 37 [(0, A a0), (4, .ptr 0 0 0), (5, .arr 3 0 (eL ([] : List Za)) true), (10, A a1), (11, I (a1.length : Int)), (12, I 0)] [some ⟨0, Enc.cells (Za.mk 0 0 (ByteArray.mk #[]))⟩] ?_
 refine Zk ?_
 refine Zaf (ι := Nat × Int × (List Za)) (fun (f5, x3, x4) => (⟨37, [(0, A a0), (4, .ptr 0 0 0), (5, rf 1 0 3 x4), (10, A a1), (11, I (a1.length : Int)), (12, I x3)], [some ⟨0, Enc.cells (Za.mk 0 0 (ByteArray.mk #[]))⟩, sl 0 x4]⟩ : St)) (fun (f5, x3, x4) => impl_exprValue_l0 a0 a1 f5 x3 x4 = some y) Prod.fst (FUEL, 0, ([] : List Za)) h (Imp.thawS 5 [0, 4, 5, 10, 11, 12] (by kernel_rfl)) ?_
 rintro ⟨f5, x3, x4⟩ h
 dsimp only at h ⊢
 rcases f5 with _ | f5
 cases h
 rw [impl_exprValue_l0] at h
 refine srveM [4, 7, 9] 37 [(0, A a0), (4, .ptr 0 0 0), (5, rf 1 0 3 x4), (10, A a1), (11, I (a1.length : Int)), (12, I x3), (13, B (decide (x3 < (a1.length : Int))))] [some ⟨0, Enc.cells (Za.mk 0 0 (ByteArray.mk #[]))⟩, sl 0 x4] ?_
 refine Zi ?_
 refine pc h (fun h => ?_) (fun h => ?_)
 refine Zj ?_
 refine Zi ?_
 refine Zk ?_
 refine Zi ?_
 refine Zaq ?_
 obtain ⟨v8, hv9, h⟩ := bindS h
 refine Z2 τ_ok 14 hv9 (by kernel_rfl) ?_
 refine veM [4, 7, 9] 3 37 [(0, A a0), (4, .ptr 0 0 0), (5, rf 1 0 3 x4), (7, .ptr 2 0 0), (10, A a1), (11, I (a1.length : Int)), (12, I x3)] [some ⟨0, Enc.cells (Za.mk 0 0 (ByteArray.mk #[]))⟩, sl 0 x4, sc 0 v8] ?_
 refine srvM [4, 7, 9] 3 37 [(0, A a0), (4, .ptr 0 0 0), (5, rf 1 0 3 x4), (7, .ptr 2 0 0), (10, A a1), (11, I (a1.length : Int)), (12, I x3), (17, I (x4.length : Int)), (18, E v8)] [some ⟨0, Enc.cells (Za.mk 0 0 (ByteArray.mk #[]))⟩, sl 0 x4, sc 0 v8] ?_
 obtain ⟨v10, hv11, h⟩ := bindS h
 refine cF 19 (ok_impl_Part_takes hv11) ?_
 refine veM [4, 7, 9] 2 37 [(0, A a0), (4, .ptr 0 0 0), (5, rf 1 0 3 x4), (7, .ptr 2 0 0), (8, I (w64 ((x4.length : Int) - v10))), (10, A a1), (11, I (a1.length : Int)), (12, I x3)] [some ⟨0, Enc.cells (Za.mk 0 0 (ByteArray.mk #[]))⟩, sl 0 x4, sc 0 v8] ?_
 refine Zi ?_
 refine ip 37 [(0, A a0), (4, .ptr 0 0 0), (5, rf 1 0 3 x4), (7, .ptr 2 0 0), (8, I (w64 ((x4.length : Int) - v10))), (10, A a1), (11, I (a1.length : Int)), (12, I x3)] [some ⟨0, Enc.cells (Za.mk 0 0 (ByteArray.mk #[]))⟩, sl 0 x4, sc 0 v8] ?_
 refine Za8 (Imp.ghosts 1 (st' := ⟨37, [(0, A a0), (4, .ptr 0 0 0), (5, rf 1 0 3 x4), (7, .ptr 2 0 0), (8, I (w64 ((x4.length : Int) - v10))), (10, A a1), (11, I (a1.length : Int)), (12, I x3)], [some ⟨0, Enc.cells (Za.mk 0 0 (ByteArray.mk #[]))⟩, sl 0 x4, sc 0 v8, some ⟨0, []⟩]⟩) (by kernel_rfl)) ?_
 refine pwp_any ([[2], [], [1], [], [1], [1], [3], [3]]) ([[], [], [], [], [], [], [3], [3]]) rfl (by kernel_rfl) ?_
 refine qvM [4, 7, 9] [2] (hB trivial) 1 37 [(21, E v8), (0, A a0), (4, .ptr 0 0 0), (5, rf 1 0 3 x4), (8, I (w64 ((x4.length : Int) - v10))), (10, A a1), (11, I (a1.length : Int)), (12, I x3)] [some ⟨0, Enc.cells (Za.mk 0 0 (ByteArray.mk #[]))⟩, sl 0 x4, sc 0 v8, some ⟨0, []⟩] ?_
 refine qvM [4, 7, 9] [] trivial 1 37 [(22, A a0), (21, E v8), (0, A a0), (4, .ptr 0 0 0), (5, rf 1 0 3 x4), (8, I (w64 ((x4.length : Int) - v10))), (10, A a1), (11, I (a1.length : Int)), (12, I x3)] [some ⟨0, Enc.cells (Za.mk 0 0 (ByteArray.mk #[]))⟩, sl 0 x4, sc 0 v8, some ⟨0, []⟩] ?_
 refine qvM [4, 7, 9] [1] (hL trivial) 1 37 [(23, rf 1 0 3 x4), (22, A a0), (21, E v8), (0, A a0), (4, .ptr 0 0 0), (5, rf 1 0 3 x4), (8, I (w64 ((x4.length : Int) - v10))), (10, A a1), (11, I (a1.length : Int)), (12, I x3)] [some ⟨0, Enc.cells (Za.mk 0 0 (ByteArray.mk #[]))⟩, sl 0 x4, sc 0 v8, some ⟨0, []⟩] ?_
 refine qvM [4, 7, 9] [] trivial 1 37 [(24, I (w64 ((x4.length : Int) - v10))), (23, rf 1 0 3 x4), (22, A a0), (21, E v8), (0, A a0), (4, .ptr 0 0 0), (5, rf 1 0 3 x4), (8, I (w64 ((x4.length : Int) - v10))), (10, A a1), (11, I (a1.length : Int)), (12, I x3)] [some ⟨0, Enc.cells (Za.mk 0 0 (ByteArray.mk #[]))⟩, sl 0 x4, sc 0 v8, some ⟨0, []⟩] ?_
 obtain ⟨v12, hv13, h⟩ := bindS h
 refine qX (some 25) (.ref 1 0 ((w64 ((x4.length : Int) - v10)).toNat * 3) 3 v12.length false) 37 [(25, .ref 1 0 ((w64 ((x4.length : Int) - v10)).toNat * 3) 3 v12.length false), (22, A a0), (21, E v8), (0, A a0), (4, .ptr 0 0 0), (5, rf 1 0 3 x4), (8, I (w64 ((x4.length : Int) - v10))), (10, A a1), (11, I (a1.length : Int)), (12, I x3)] [some ⟨0, Enc.cells (Za.mk 0 0 (ByteArray.mk #[]))⟩, sl 0 x4, sc 0 v8, some ⟨0, []⟩] (fun Γ' hΓ => CoreE.of_y (slrV_sound (n := x4.length) τ_ok (by kernel_rfl) rfl hv13)) (hL trivial) ?_
 obtain ⟨v14, hv15, h⟩ := bindS h
 refine qX (some 26) (E v14) 37 [(26, E v14), (0, A a0), (4, .ptr 0 0 0), (5, rf 1 0 3 x4), (8, I (w64 ((x4.length : Int) - v10))), (10, A a1), (11, I (a1.length : Int)), (12, I x3)] [some ⟨0, Enc.cells (Za.mk 0 0 (ByteArray.mk #[]))⟩, sl 0 x4, sc 0 v8, some ⟨0, []⟩] (fun Γ' hΓ => CoreE.of_g (callVV_sound (xs := [E v8, A a0, .ref 1 0 ((w64 ((x4.length : Int) - v10)).toNat * 3) 3 v12.length false]) (τ := τ) (by kernel_rfl) (ViewL.cons (View.frz rfl) (ViewL.cons (View.frz rfl) (ViewL.cons (View.ref (v := 0) (lo := (w64 ((x4.length : Int) - v10)).toNat) x4 v12 (by kernel_rfl) (slI_view hv13) rfl) (ViewL.nil _)))) (ok_impl_Part_value hv15) (Blind.E _ rfl rfl) (FzTo.frz rfl))) (hL trivial) ?_
 refine qX (Hm' := [none, none, none, some ⟨1, Enc.cells (Za.mk 0 0 (ByteArray.mk #[]))⟩]) (some 9) (.ptr 3 1 0) 37 [(9, .ptr 3 1 0), (26, E v14), (0, A a0), (4, .ptr 0 0 0), (5, rf 1 0 3 x4), (8, I (w64 ((x4.length : Int) - v10))), (10, A a1), (11, I (a1.length : Int)), (12, I x3)] [some ⟨0, Enc.cells (Za.mk 0 0 (ByteArray.mk #[]))⟩, sl 0 x4, sc 0 v8, some ⟨1, Enc.cells (Za.mk 0 0 (ByteArray.mk #[]))⟩] (fun Γ' hΓ => alc_E (blk := ⟨0, []⟩) τ_ok [4, 7, 9] 9 3 0 (ny hΓ hX) (by kernel_rfl) (by kernel_rfl)) (hB trivial) ?_
 refine qX (Hm' := [none, none, none, sc 1 v14]) none (.any) 37 [(9, .ptr 3 1 0), (0, A a0), (4, .ptr 0 0 0), (5, rf 1 0 3 x4), (8, I (w64 ((x4.length : Int) - v10))), (10, A a1), (11, I (a1.length : Int)), (12, I x3)] [some ⟨0, Enc.cells (Za.mk 0 0 (ByteArray.mk #[]))⟩, sl 0 x4, sc 0 v8, sc 1 v14] (fun Γ' hΓ => sto_E τ_ok 3 1 (by kernel_rfl)) (hB trivial) ?_
 refine qn 37 [(0, A a0), (4, .ptr 0 0 0), (5, rf 1 0 3 x4), (8, I (w64 ((x4.length : Int) - v10))), (9, .ptr 3 1 0), (10, A a1), (11, I (a1.length : Int)), (12, I x3)] [some ⟨0, Enc.cells (Za.mk 0 0 (ByteArray.mk #[]))⟩, sl 0 x4, sc 0 v8, sc 1 v14] ?_
 refine ip 37 [(0, A a0), (4, .ptr 0 0 0), (5, rf 1 0 3 x4), (8, I (w64 ((x4.length : Int) - v10))), (9, .ptr 3 1 0), (10, A a1), (11, I (a1.length : Int)), (12, I x3)] [some ⟨0, Enc.cells (Za.mk 0 0 (ByteArray.mk #[]))⟩, sl 0 x4, sc 0 v8, sc 1 v14] ?_
 refine pwp_any ([[1], [], [1], [3], [], [1], [1]]) ([[], [], [], [], [], [1], []]) rfl (by kernel_rfl) ?_
 refine qvM [4, 7, 9] [1] (hL trivial) 1 37 [(27, rf 1 0 3 x4), (0, A a0), (4, .ptr 0 0 0), (5, rf 1 0 3 x4), (8, I (w64 ((x4.length : Int) - v10))), (9, .ptr 3 1 0), (10, A a1), (11, I (a1.length : Int)), (12, I x3)] [some ⟨0, Enc.cells (Za.mk 0 0 (ByteArray.mk #[]))⟩, sl 0 x4, sc 0 v8, sc 1 v14] ?_
 refine qvM [4, 7, 9] [] trivial 1 37 [(28, I (w64 ((x4.length : Int) - v10))), (27, rf 1 0 3 x4), (0, A a0), (4, .ptr 0 0 0), (5, rf 1 0 3 x4), (9, .ptr 3 1 0), (10, A a1), (11, I (a1.length : Int)), (12, I x3)] [some ⟨0, Enc.cells (Za.mk 0 0 (ByteArray.mk #[]))⟩, sl 0 x4, sc 0 v8, sc 1 v14] ?_
 obtain ⟨v16, hv17, h⟩ := bindS h
 refine qX (some 29) (rf 1 0 3 v16) 37 [(29, rf 1 0 3 v16), (0, A a0), (4, .ptr 0 0 0), (5, rf 1 0 3 x4), (9, .ptr 3 1 0), (10, A a1), (11, I (a1.length : Int)), (12, I x3)] [some ⟨0, Enc.cells (Za.mk 0 0 (ByteArray.mk #[]))⟩, sl 0 x4, sc 0 v8, sc 1 v14] (fun Γ' hΓ => CoreE.of_y (slrV_sound (n := x4.length) τ_ok (by kernel_rfl) rfl hv17)) (hL trivial) ?_
 refine qvM [4, 7, 9] [3] (hB trivial) 1 37 [(30, E v14), (29, rf 1 0 3 v16), (0, A a0), (4, .ptr 0 0 0), (5, rf 1 0 3 x4), (10, A a1), (11, I (a1.length : Int)), (12, I x3)] [some ⟨0, Enc.cells (Za.mk 0 0 (ByteArray.mk #[]))⟩, sl 0 x4, sc 0 v8, sc 1 v14] ?_
 refine qvM [4, 7, 9] [] trivial 1 37 [(31, .arr 3 ([v14] : List Za).length (eL ([v14] : List Za)) true), (29, rf 1 0 3 v16), (0, A a0), (4, .ptr 0 0 0), (5, rf 1 0 3 x4), (10, A a1), (11, I (a1.length : Int)), (12, I x3)] [some ⟨0, Enc.cells (Za.mk 0 0 (ByteArray.mk #[]))⟩, sl 0 x4, sc 0 v8, sc 1 v14] ?_
 obtain ⟨v18, hv19, h⟩ := bindS h
 refine qX (some 32) (rf 1 1 3 v18) 37 [(32, rf 1 1 3 v18), (0, A a0), (4, .ptr 0 0 0), (5, rf 1 0 3 x4), (10, A a1), (11, I (a1.length : Int)), (12, I x3)] [some ⟨0, Enc.cells (Za.mk 0 0 (ByteArray.mk #[]))⟩, sl 1 v18, sc 0 v8, sc 1 v14] (fun Γ' hΓ => app_E τ_ok 32 1 0 v16.length (ny hΓ hX) hv19 (slI_le hv17) (by kernel_rfl)) (hL trivial) ?_
 refine qvnM [4, 7, 9] [1] (hL trivial) 1 37 [(0, A a0), (4, .ptr 0 0 0), (5, rf 1 1 3 v18), (10, A a1), (11, I (a1.length : Int)), (12, I x3)] [some ⟨0, Enc.cells (Za.mk 0 0 (ByteArray.mk #[]))⟩, sl 1 v18, sc 0 v8, sc 1 v14] ?_
 refine rveM [4, 7, 9] 37 [(0, A a0), (4, .ptr 0 0 0), (5, rf 1 1 3 v18), (10, A a1), (11, I (a1.length : Int)), (12, I (w64 (x3 + 1)))] [some ⟨0, Enc.cells (Za.mk 0 0 (ByteArray.mk #[]))⟩, sl 1 v18, sc 0 v8, sc 1 v14] ?_
 exact ⟨(f5, (w64 (x3 + 1)), v18), h, Nat.lt_succ_self _, qt (it (st' := ⟨37, [(0, A a0), (4, .ptr 0 0 0), (5, rf 1 1 3 v18), (10, A a1), (11, I (a1.length : Int)), (12, I (w64 (x3 + 1)))], [some ⟨0, Enc.cells (Za.mk 0 0 (ByteArray.mk #[]))⟩, sl 1 v18, sc 0 v8, sc 1 v14]⟩) [0, 4, 5, 10, 11, 12]) (qt (Imp.truncS (st' := ⟨37, [(0, A a0), (4, .ptr 0 0 0), (5, rf 1 1 3 v18), (10, A a1), (11, I (a1.length : Int)), (12, I (w64 (x3 + 1)))], [some ⟨0, Enc.cells (Za.mk 0 0 (ByteArray.mk #[]))⟩, sl 1 v18]⟩) 2 (nx hX) (by kernel_rfl) (allBelow_mem (by exact (And.intro rfl (And.intro rfl (And.intro rfl (And.intro rfl (And.intro rfl (And.intro rfl trivial)))))))) (by exact (And.intro (rfl) (And.intro (frz_below (eL_frz _)) trivial))) (by kernel_rfl)) (Imp.reverS 1 1 (eL v18) [0, 4, 5, 10, 11, 12] (by kernel_rfl) (by exact (And.intro (rfl) (And.intro (eL_frz _) trivial))) (by kernel_rfl)))⟩
 refine Zae ?_
 refine srvM [4, 7, 9] 1 37 [(4, .ptr 0 0 0), (34, rf 1 0 3 x4)] [some ⟨0, Enc.cells (Za.mk 0 0 (ByteArray.mk #[]))⟩, sl 0 x4] ?_
 obtain ⟨v20, hv21, h⟩ := bindS h
 refine opsP_idr τ_ok 35 1 0 x4.length hv21 rfl (by kernel_rfl) ?_
 refine opsP_lde (r := E v20) τ_ok 36 64 0 hv21 (by kernel_rfl) (by kernel_rfl) ?_
 refine veM [4, 7, 9] 1 37 [(4, .ptr 0 0 0)] [sc 0 v20, sl 0 x4] ?_
 cases h
 exact Zg rz
def spec_PlanOk (a0 : List Zh) (a1 : List Zf) : Option Bool := (spec_l6All a0 a1).bind fun v1 => bif v1.2 then (spec_TablesOk a0).bind fun v3 => bif v3 then (spec_l1In (a1.length : Int) 1 6).bind fun v5 => some v5 else some false else some false
theorem ok_spec_PlanOk {a0 : List Zh} {a1 : List Zf} {y : Bool} (h : spec_PlanOk a0 a1 = some y) : OK Tryz.prog 9 [A a0, A a1] (B y) := by
 refine ow Tryz.func9 fun Γ hX => ?_
 unfold spec_PlanOk at h
 refine srve 23 [(0, A a0), (1, A a1)] [] ?_
 refine srv 2 23 [(0, A a0), (1, A a1), (8, A a0), (9, A a1)] [] ?_
 obtain ⟨v1, hv2, h⟩ := bindS h
 refine opsP_callF τ 10 (ok_spec_l6All hv2) (FzTo.tup (FzToL.cons (FzTo.O _) (FzToL.cons (FzTo.frz rfl) FzToL.nil))) rfl (by kernel_rfl) ?_
 refine ve 5 23 [(0, A a0), (1, A a1), (6, B v1.2)] [] ?_
 refine srv 2 23 [(0, A a0), (1, A a1), (14, B v1.2)] [] ?_
 rcases Bool.eq_false_or_eq_true v1.2 with hc8 | hc8
 replace h := bT hc8 h
 rw [hc8]
 refine v 1 23 [(1, A a1), (14, B true), (15, A a0)] [] ?_
 obtain ⟨v3, hv4, h⟩ := bindS h
 refine cF 16 (ok_spec_TablesOk hv4) ?_
 refine v 2 23 [(1, A a1), (18, B v3)] [] ?_
 rcases Bool.eq_false_or_eq_true v3 with hc7 | hc7
 replace h := bT hc7 h
 rw [hc7]
 refine v 2 23 [(18, B true), (20, I (a1.length : Int))] [] ?_
 obtain ⟨v5, hv6, h⟩ := bindS h
 refine cF 21 (ok_spec_l1In hv6) ?_
 refine ve 2 23 [(4, B v5)] [] ?_
 cases h
 exact Zg rz
 replace h := bF hc7 h
 rw [hc7]
 refine ve 5 23 [(4, B false)] [] ?_
 cases h
 exact Zg rz
 replace h := bF hc8 h
 rw [hc8]
 refine ve 9 23 [(4, B false)] [] ?_
 cases h
 exact Zg rz
def spec_PlanColumns (a0 : List Zh) (a1 : List Zf) : Option (List Zb) := (spec_PlanOk a0 a1).bind fun v1 => bif (!v1) then some ([] : List Zb) else (spec_l6All a0 a1).bind fun v4 => (getI v4.1 (w64 ((a1.length : Int) - 1))).bind fun v6 => (app ([] : List Zb) v6).bind fun v8 => some v8
theorem ok_spec_PlanColumns {a0 : List Zh} {a1 : List Zf} {y : List Zb} (h : spec_PlanColumns a0 a1 = some y) : OK Tryz.prog 22 [A a0, A a1] (O y) := by
 refine ow Tryz.func22 fun Γ hX => ?_
 unfold spec_PlanColumns at h
 refine srve 26 [(0, A a0), (1, A a1)] [] ?_
 refine Zi ?_
 refine srv 2 26 [(0, A a0), (1, A a1), (7, A a0), (8, A a1)] [] ?_
 obtain ⟨v1, hv2, h⟩ := bindS h
 refine cF 9 (ok_spec_PlanOk hv2) ?_
 refine ve 1 26 [(0, A a0), (1, A a1), (10, B (!v1))] [] ?_
 refine pc h (fun h => ?_) (fun h => ?_)
 refine srve 26 [(4, .arr 2 0 (eL ([] : List Zb)) true)] [] ?_
 refine ip 26 [(4, .arr 2 0 (eL ([] : List Zb)) true)] [] ?_
 refine Za8 (Imp.thawS (st' := ⟨26, [(4, .ref 0 0 0 2 ([] : List Zb).length false)], [some ⟨0, eL ([] : List Zb)⟩]⟩) 4 [4] (by kernel_rfl)) ?_
 have h := si h
 subst h
 exact Zg (rt (.ref 0 0 0 2 ([] : List Zb).length false) (OutP.list (v := 0) (by kernel_rfl)))
 refine Zj ?_
 refine srv 2 26 [(1, A a1), (13, A a0), (14, A a1)] [] ?_
 obtain ⟨v4, hv5, h⟩ := bindS h
 refine opsP_callF τ 15 (ok_spec_l6All hv5) (FzTo.tup (FzToL.cons (FzTo.O _) (FzToL.cons (FzTo.frz rfl) FzToL.nil))) rfl (by kernel_rfl) ?_
 refine ve 5 26 [(1, A a1), (5, A v4.1)] [] ?_
 refine srv 5 26 [(18, .arr 2 0 (eL ([] : List Zb)) true), (19, A v4.1), (22, I (w64 ((a1.length : Int) - 1)))] [] ?_
 obtain ⟨v6, hv7, h⟩ := bindS h
 refine Z2 τ_ok 23 hv7 (by kernel_rfl) ?_
 refine v 1 26 [(18, .arr 2 0 (eL ([] : List Zb)) true), (24, A v6)] [] ?_
 refine opsP_thaw 18 2 (by kernel_rfl) ?_
 obtain ⟨v8, hv9, h⟩ := bindS h
 refine Zan τ_ok 25 0 0 (nx hX) hv9 (by kernel_rfl) ?_
 refine ve 1 26 [(4, rf 0 1 2 v8)] [sl 1 v8] ?_
 have h := si h
 subst h
 exact Zg (rt (rf 0 1 2 v8) (OutP.list (v := 1) (by kernel_rfl)))
def impl_TablesOk (a0 : List Zh) : Option Bool := bif (decide ((a0.length : Int) ≤ 3)) then (Zas a0 impl_TablesOk_1).bind fun v1 => some (!v1) else some false
theorem ok_impl_TablesOk {a0 : List Zh} {y : Bool} (h : impl_TablesOk a0 = some y) : OK Tryz.prog 42 [A a0] (B y) := by
 refine ow Tryz.func42 fun Γ hX => ?_
 unfold impl_TablesOk at h
 refine srve 11 [(0, A a0)] [] ?_
 refine srv 4 11 [(0, A a0), (6, B (decide ((a0.length : Int) ≤ 3)))] [] ?_
 rcases fk (decide ((a0.length : Int) ≤ 3)) with hc3 | hc3
 replace h := bT hc3 h
 rw [hc3]
 refine v 1 11 [(6, B true), (7, A a0)] [] ?_
 obtain ⟨v1, hv2, h⟩ := bindS h
 refine cF 8 (ok_slices_ContainsFunc_impl_Table_impl_Table (rfl) (fun _ w hw => ok_impl_TablesOk_1 hw) hv2) ?_
 refine ve 3 11 [(2, B (!v1))] [] ?_
 cases h
 exact Zg rz
 replace h := bF hc3 h
 rw [hc3]
 refine ve 5 11 [(2, B false)] [] ?_
 cases h
 exact Zg rz
def impl_exprHolds (a0 : List Za) (a1 : List Zd) : Option Bool := (impl_exprValue a0 a1).bind fun v1 => (impl_ValueOf 1).bind fun v3 => some (Zr v1 v3)
theorem ok_impl_exprHolds {a0 : List Za} {a1 : List Zd} {y : Bool} (h : impl_exprHolds a0 a1 = some y) : OK Tryz.prog 76 [A a0, A a1] (B y) := by
 refine ow Tryz.func76 fun Γ hX => ?_
 unfold impl_exprHolds at h
 refine srve 10 [(0, A a0), (1, A a1)] [] ?_
 refine srv 2 10 [(5, A a0), (6, A a1)] [] ?_
 obtain ⟨v1, hv2, h⟩ := bindS h
 refine cF 7 (ok_impl_exprValue hv2) ?_
 obtain ⟨v3, hv4, h⟩ := bindS h
 refine cF 8 (ok_impl_ValueOf hv4) ?_
 refine ve 2 10 [(4, B (Zr v1 v3))] [] ?_
 cases h
 exact Zg rz
def spec_l6All_L1_l0 (a0 : List Zh) (a1 : List Zf) : Nat → Int → (List (List Zb)) → (List Int) → Option ((List (List Zb)) × Bool)
 | 0, _, _, _ => none
 | f7 + 1, x4, x5, x6 => bif (decide (x4 < (a1.length : Int))) then (getI a1 x4).bind fun v10 => (spec_l6Columns a0 x5 v10).bind fun v12 => bif (!v12.2) then some (([] : List (List Zb)), false) else (app x5 ([v12.1] : List (List Zb))).bind fun v15 => (getI a1 x4).bind fun v17 => (spec_l6Made x6 v17).bind fun v19 => (app x6 ([v19] : List Int)).bind fun v21 => (getI v21 x4).bind fun v23 => bif (decide (v23 > 300)) then some (([] : List (List Zb)), false) else (spec_l6All_L1_l0 a0 a1 f7) (w64 (x4 + 1)) v15 v21 else some (x5, true)
def spec_l6All_L1 (a0 : List Zh) (a1 : List Zf) : Option ((List (List Zb)) × Bool) := spec_l6All_L1_l0 a0 a1 FUEL 0 ([] : List (List Zb)) ([] : List Int)
theorem ok_spec_l6All_L1 {a0 : List Zh} {a1 : List Zf} {y : (List (List Zb)) × Bool} (h : spec_l6All_L1 a0 a1 = some y) : OKs Tryz.prog 25 [A a0] 6 a1.length (eL a1) [] (.tup [O y.1, B y.2]) (eL a1) := by
 refine OKs_of_pwp τ_ok Tryz.func25 rfl (by kernel_rfl) rfl (eL_frz _) (eL_frz _) rfl fun Γ hQ => ?_
 refine Za8 (Imp.to (st' := ⟨52, [(0, A a0), (1, rf 0 0 6 a1)], [sl 0 a1]⟩) [0, 1] (by kernel_rfl)) ?_
 unfold spec_l6All_L1 at h
 refine srve 52 [(0, A a0), (1, rf 0 0 6 a1)] [sl 0 a1] ?_
 refine srve 52 [(0, A a0), (1, rf 0 0 6 a1), (6, .arr 1 0 (eL ([] : List (List Zb))) true)] [sl 0 a1] ?_
 refine srve 52 [(0, A a0), (1, rf 0 0 6 a1), (6, .arr 1 0 (eL ([] : List (List Zb))) true), (7, .arr 1 0 (eL ([] : List Int)) true)] [sl 0 a1] ?_
 refine Zi ?_
 refine srve 52 [(0, A a0), (1, rf 0 0 6 a1), (6, .arr 1 0 (eL ([] : List (List Zb))) true), (7, .arr 1 0 (eL ([] : List Int)) true), (8, I 0)] [sl 0 a1] ?_
 refine Zk ?_
 refine Zaf (ι := Nat × Int × (List (List Zb)) × (List Int)) (fun (f7, x4, x5, x6) => (⟨52, [(0, A a0), (1, rf 0 0 6 a1), (6, rf 1 0 1 x5), (7, rf 2 0 1 x6), (8, I x4)], [sl 0 a1, sl 0 x5, sl 0 x6]⟩ : St)) (fun (f7, x4, x5, x6) => spec_l6All_L1_l0 a0 a1 f7 x4 x5 x6 = some y) Prod.fst (FUEL, 0, ([] : List (List Zb)), ([] : List Int)) h ((Imp.thawS (st' := ⟨52, [(0, A a0), (1, rf 0 0 6 a1), (6, .ref 1 0 0 1 ([] : List (List Zb)).length false), (7, .arr 1 0 (eL ([] : List Int)) true), (8, I 0)], [sl 0 a1, some ⟨0, eL ([] : List (List Zb))⟩]⟩) 6 [0, 1, 6, 7, 8] (by kernel_rfl)).trans (Imp.thawS 7 [0, 1, 6, 7, 8] (by kernel_rfl))) ?_
 rintro ⟨f7, x4, x5, x6⟩ h
 dsimp only at h ⊢
 rcases f7 with _ | f7
 cases h
 rw [spec_l6All_L1_l0] at h
 refine Zi ?_
 refine srve 52 [(0, A a0), (1, rf 0 0 6 a1), (6, rf 1 0 1 x5), (7, rf 2 0 1 x6), (8, I x4), (16, B (decide (x4 < (a1.length : Int))))] [sl 0 a1, sl 0 x5, sl 0 x6] ?_
 refine pc h (fun h => ?_) (fun h => ?_)
 refine Zj ?_
 refine Zi ?_
 refine Zk ?_
 refine srv 4 52 [(0, A a0), (1, rf 0 0 6 a1), (6, rf 1 0 1 x5), (7, rf 2 0 1 x6), (8, I x4), (20, A a0), (21, rf 1 0 1 x5), (22, rf 0 0 6 a1), (23, I x4)] [sl 0 a1, sl 0 x5, sl 0 x6] ?_
 obtain ⟨v10, hv11, h⟩ := bindS h
 refine opsP_idr τ_ok 24 0 0 a1.length hv11 rfl (by kernel_rfl) ?_
 refine opsP_lde (r := E v10) τ_ok 25 37 0 hv11 (by kernel_rfl) (by kernel_rfl) ?_
 obtain ⟨v12, hv13, h⟩ := bindS h
 refine opsP_callV (xs := [A a0, rf 1 0 1 x5, E v10]) τ 26 (ok_spec_l6Columns hv13) (Blind.tup (BlindL.cons (Blind.O (fun _ => rfl) _) (BlindL.cons (Blind.lit _) BlindL.nil))) (FzTo.tup (FzToL.cons (FzTo.O _) (FzToL.cons (FzTo.frz rfl) FzToL.nil))) (by kernel_rfl) (ViewL.cons (View.frz rfl) (ViewL.cons (View.whole (v := 0) x5 (by kernel_rfl) rfl) (ViewL.cons (View.frz rfl) (ViewL.nil _)))) ?_
 refine ve 5 52 [(0, A a0), (1, rf 0 0 6 a1), (6, rf 1 0 1 x5), (7, rf 2 0 1 x6), (8, I x4), (9, A v12.1), (10, B v12.2)] [sl 0 a1, sl 0 x5, sl 0 x6] ?_
 refine Zi ?_
 refine srve 52 [(0, A a0), (1, rf 0 0 6 a1), (6, rf 1 0 1 x5), (7, rf 2 0 1 x6), (8, I x4), (9, A v12.1), (30, B (!v12.2))] [sl 0 a1, sl 0 x5, sl 0 x6] ?_
 refine pc h (fun h => ?_) (fun h => ?_)
 refine srve 52 [(4, .arr 1 0 (eL ([] : List (List Zb))) true), (5, B false)] [sl 0 a1, sl 0 x5, sl 0 x6] ?_
 refine ip 52 [(4, .arr 1 0 (eL ([] : List (List Zb))) true), (5, B false)] [sl 0 a1, sl 0 x5, sl 0 x6] ?_
 refine Za8 (Imp.thawS (st' := ⟨52, [(4, .ref 3 0 0 1 ([] : List (List Zb)).length false), (5, B false)], [sl 0 a1, sl 0 x5, sl 0 x6, some ⟨0, eL ([] : List (List Zb))⟩]⟩) 4 [4, 5] (by kernel_rfl)) ?_
 have h := si h
 subst h
 exact Zg ⟨.inr rfl, .tup [.ref 3 0 0 1 ([] : List (List Zb)).length false, B false], _, 0, by kernel_rfl, (OutP.tup (OutL.cons (OutP.list (v := 0) (by kernel_rfl)) (OutL.cons (OutP.frz (by kernel_rfl)) (OutL.nil _)))), by decide, by decide, by kernel_rfl⟩
 refine Zj ?_
 refine srv 3 52 [(0, A a0), (1, rf 0 0 6 a1), (7, rf 2 0 1 x6), (8, I x4), (32, rf 1 0 1 x5), (34, .arr 1 ([v12.1] : List (List Zb)).length (eL ([v12.1] : List (List Zb))) true)] [sl 0 a1, sl 0 x5, sl 0 x6] ?_
 obtain ⟨v15, hv16, h⟩ := bindS h
 refine Zan τ_ok 35 1 0 (pn hQ) hv16 (by kernel_rfl) ?_
 refine ve 1 52 [(0, A a0), (1, rf 0 0 6 a1), (6, rf 1 1 1 v15), (7, rf 2 0 1 x6), (8, I x4)] [sl 0 a1, sl 1 v15, sl 0 x6] ?_
 refine srv 4 52 [(0, A a0), (1, rf 0 0 6 a1), (6, rf 1 1 1 v15), (8, I x4), (36, rf 2 0 1 x6), (37, rf 2 0 1 x6), (38, rf 0 0 6 a1), (39, I x4)] [sl 0 a1, sl 1 v15, sl 0 x6] ?_
 obtain ⟨v17, hv18, h⟩ := bindS h
 refine opsP_idr τ_ok 40 0 0 a1.length hv18 rfl (by kernel_rfl) ?_
 refine opsP_lde (r := E v17) τ_ok 41 37 0 hv18 (by kernel_rfl) (by kernel_rfl) ?_
 obtain ⟨v19, hv20, h⟩ := bindS h
 refine opsP_callV (xs := [rf 2 0 1 x6, E v17]) τ 42 (ok_spec_l6Made hv20) (Blind.lit _) (FzTo.frz rfl) (by kernel_rfl) (ViewL.cons (View.whole (v := 0) x6 (by kernel_rfl) rfl) (ViewL.cons (View.frz rfl) (ViewL.nil _))) ?_
 refine v 1 52 [(0, A a0), (1, rf 0 0 6 a1), (6, rf 1 1 1 v15), (8, I x4), (36, rf 2 0 1 x6), (43, .arr 1 ([v19] : List Int).length (eL ([v19] : List Int)) true)] [sl 0 a1, sl 1 v15, sl 0 x6] ?_
 obtain ⟨v21, hv22, h⟩ := bindS h
 refine Zan τ_ok 44 2 0 (pn hQ) hv22 (by kernel_rfl) ?_
 refine ve 1 52 [(0, A a0), (1, rf 0 0 6 a1), (6, rf 1 1 1 v15), (7, rf 2 1 1 v21), (8, I x4)] [sl 0 a1, sl 1 v15, sl 1 v21] ?_
 refine srv 2 52 [(0, A a0), (1, rf 0 0 6 a1), (6, rf 1 1 1 v15), (7, rf 2 1 1 v21), (8, I x4), (45, rf 2 1 1 v21), (46, I x4)] [sl 0 a1, sl 1 v15, sl 1 v21] ?_
 obtain ⟨v23, hv24, h⟩ := bindS h
 refine opsP_idr τ_ok 47 2 1 v21.length hv24 rfl (by kernel_rfl) ?_
 refine opsP_lde (r := I v23) τ_ok 48 3 0 hv24 (by kernel_rfl) (by kernel_rfl) ?_
 refine ve 1 52 [(0, A a0), (1, rf 0 0 6 a1), (6, rf 1 1 1 v15), (7, rf 2 1 1 v21), (8, I x4), (49, B (decide (v23 > 300)))] [sl 0 a1, sl 1 v15, sl 1 v21] ?_
 refine pc h (fun h => ?_) (fun h => ?_)
 refine srve 52 [(4, .arr 1 0 (eL ([] : List (List Zb))) true), (5, B false)] [sl 0 a1, sl 1 v15, sl 1 v21] ?_
 refine ip 52 [(4, .arr 1 0 (eL ([] : List (List Zb))) true), (5, B false)] [sl 0 a1, sl 1 v15, sl 1 v21] ?_
 refine Za8 (Imp.thawS (st' := ⟨52, [(4, .ref 3 0 0 1 ([] : List (List Zb)).length false), (5, B false)], [sl 0 a1, sl 1 v15, sl 1 v21, some ⟨0, eL ([] : List (List Zb))⟩]⟩) 4 [4, 5] (by kernel_rfl)) ?_
 have h := si h
 subst h
 exact Zg ⟨.inr rfl, .tup [.ref 3 0 0 1 ([] : List (List Zb)).length false, B false], _, 0, by kernel_rfl, (OutP.tup (OutL.cons (OutP.list (v := 0) (by kernel_rfl)) (OutL.cons (OutP.frz (by kernel_rfl)) (OutL.nil _)))), by decide, by decide, by kernel_rfl⟩
 refine Zj ?_
 refine rve 52 [(0, A a0), (1, rf 0 0 6 a1), (6, rf 1 1 1 v15), (7, rf 2 1 1 v21), (8, I (w64 (x4 + 1)))] [sl 0 a1, sl 1 v15, sl 1 v21] ?_
 exact ⟨(f7, (w64 (x4 + 1)), v15, v21), h, Nat.lt_succ_self _, qt (it (st' := ⟨52, [(0, A a0), (1, rf 0 0 6 a1), (6, rf 1 1 1 v15), (7, rf 2 1 1 v21), (8, I (w64 (x4 + 1)))], [sl 0 a1, sl 1 v15, sl 1 v21]⟩) [0, 1, 6, 7, 8]) (qt (Imp.reverS (st' := ⟨52, [(0, A a0), (1, rf 0 0 6 a1), (6, rf 1 0 1 v15), (7, rf 2 1 1 v21), (8, I (w64 (x4 + 1)))], [sl 0 a1, sl 0 v15, sl 1 v21]⟩) 1 1 (eL v15) [0, 1, 6, 7, 8] (by kernel_rfl) (by exact (And.intro (eL_frz _) (And.intro (eL_frz _) (And.intro (eL_frz _) trivial)))) (by kernel_rfl)) (Imp.reverS 2 1 (eL v21) [0, 1, 6, 7, 8] (by kernel_rfl) (by exact (And.intro (eL_frz _) (And.intro (eL_frz _) (And.intro (eL_frz _) trivial)))) (by kernel_rfl)))⟩
 refine Zae ?_
 refine srve 52 [(4, rf 1 0 1 x5), (5, B true)] [sl 0 a1, sl 0 x5, sl 0 x6] ?_
 have h := si h
 subst h
 exact Zg ⟨.inr rfl, .tup [rf 1 0 1 x5, B true], _, 0, by kernel_rfl, (OutP.tup (OutL.cons (OutP.list (v := 0) (by kernel_rfl)) (OutL.cons (OutP.frz (by kernel_rfl)) (OutL.nil _)))), by decide, by decide, by kernel_rfl⟩
def spec_l20Plan_j1 (x7 : Int) (K11 : Int → Zc → (List Zf) → Option ((List Zf) × Zc)) (x13 : Zc) (x14 : List Zf) (x15 : Zf) (x16 : List Zf) : Option ((List Zf) × Zc) := K11 (w64 (x7 - 1)) x13 x14
def spec_l20Plan_j3 (a1 : List Zh) (x7 : Int) (x9 : List Zf) (K11 : Int → Zc → (List Zf) → Option ((List Zf) × Zc)) (x25 : Zc) (x26 : Zf) : Option ((List Zf) × Zc) := (app [] x9).bind fun v27 => (app v27 ([x26] : List Zf)).bind fun v29 => (spec_l6All_L1 a1 v29).bind fun v31 => bif v31.2 then (app x9 ([x26] : List Zf)).bind fun v34 => spec_l20Plan_j1 x7 K11 x25 v34 x26 v29 else spec_l20Plan_j1 x7 K11 x25 x9 x26 v29
def spec_l20Plan_j5 (a1 : List Zh) (x7 : Int) (x9 : List Zf) (K11 : Int → Zc → (List Zf) → Option ((List Zf) × Zc)) (v17 : (List (List Zb)) × Bool) (x22 : Int) (x50 : Int) (x51 : Zc) (x52 : List Int) (K54 : Int → Zc → (List Int) → Option ((List Zf) × Zc)) (x55 : Bool) : Option ((List Zf) × Zc) := bif x55 then (getI v17.1 x22).bind fun v57 => (Zm x51 (v57.length : Int)).bind fun v59 => (app x52 ([v59.1] : List Int)).bind fun v61 => K54 (w64 (x50 - 1)) v59.2 v61 else spec_l20Plan_j3 a1 x7 x9 K11 x51 (Zf.mk 3 x22 0 0 [] x52)
def spec_l20Plan_l4 (a1 : List Zh) (x7 : Int) (x9 : List Zf) (K11 : Int → Zc → (List Zf) → Option ((List Zf) × Zc)) (v17 : (List (List Zb)) × Bool) (x22 : Int) : Nat → Int → Zc → (List Int) → Option ((List Zf) × Zc)
 | 0, _, _, _ => none
 | f53 + 1, x50, x51, x52 => bif (decide (x50 ≥ 0)) then (getI v17.1 x22).bind fun v63 => spec_l20Plan_j5 a1 x7 x9 K11 v17 x22 x50 x51 x52 (spec_l20Plan_l4 a1 x7 x9 K11 v17 x22 f53) (decide ((v63.length : Int) > 0)) else spec_l20Plan_j5 a1 x7 x9 K11 v17 x22 x50 x51 x52 (spec_l20Plan_l4 a1 x7 x9 K11 v17 x22 f53) false
def spec_l20Plan_j8 (x85 : Int) (K88 : Int → Zf → Option ((List Zf) × Zc)) (x90 : Zf) : Option ((List Zf) × Zc) := K88 (w64 (x85 + 1)) x90
def spec_l20Plan_l7 (a1 : List Zh) (x7 : Int) (x9 : List Zf) (K11 : Int → Zc → (List Zf) → Option ((List Zf) × Zc)) (v17 : (List (List Zb)) × Bool) (x22 : Int) (v36 : Int × Zc) : Nat → Int → Zf → Option ((List Zf) × Zc)
 | 0, _, _ => none
 | f87 + 1, x85, x86 => bif (decide (x85 < (x9.length : Int))) then (spec_l6Columns a1 v17.1 (Zf.mk 5 x22 x85 0 [] [])).bind fun v91 => bif v91.2 then spec_l20Plan_j8 x85 (spec_l20Plan_l7 a1 x7 x9 K11 v17 x22 v36 f87) (Zf.mk 5 x22 x85 0 [] []) else spec_l20Plan_j8 x85 (spec_l20Plan_l7 a1 x7 x9 K11 v17 x22 v36 f87) x86 else spec_l20Plan_j3 a1 x7 x9 K11 v36.2 x86
def spec_l20Plan_j6 (a1 : List Zh) (x7 : Int) (x9 : List Zf) (K11 : Int → Zc → (List Zf) → Option ((List Zf) × Zc)) (v17 : (List (List Zb)) × Bool) (x22 : Int) (v23 : Int × Zc) (v36 : Int × Zc) (x66 : Bool) : Option ((List Zf) × Zc) := bif x66 then (Zm v36.2 (x9.length : Int)).bind fun v68 => (getI v17.1 x22).bind fun v70 => (app [] v70).bind fun v72 => (getI v17.1 v68.1).bind fun v74 => (app v72 v74).bind fun v76 => bif (decide ((v76.length : Int) ≤ 4)) then (spec_l20Expr v68.2 v76 3 2).bind fun v79 => spec_l20Plan_j3 a1 x7 x9 K11 v79.2 (Zf.mk 4 x22 v68.1 0 v79.1 []) else spec_l20Plan_j3 a1 x7 x9 K11 v68.2 (Zf.mk 1 0 0 v23.1 [] []) else bif (v36.1 == 4) then spec_l20Plan_l7 a1 x7 x9 K11 v17 x22 v36 FUEL 0 (Zf.mk 1 0 0 v23.1 [] []) else bif (v36.1 == 5) then spec_l20Plan_j3 a1 x7 x9 K11 v36.2 (Zf.mk 6 x22 0 0 [] []) else spec_l20Plan_j3 a1 x7 x9 K11 v36.2 (Zf.mk 1 0 0 v23.1 [] [])
def spec_l20Plan_j2 (a1 : List Zh) (x7 : Int) (x9 : List Zf) (K11 : Int → Zc → (List Zf) → Option ((List Zf) × Zc)) (v17 : (List (List Zb)) × Bool) (v20 : Int × Zc) (x22 : Int) : Option ((List Zf) × Zc) := (Zm v20.2 (a1.length : Int)).bind fun v23 => (Zm v23.2 7).bind fun v36 => bif (v36.1 == 0) then (getI v17.1 x22).bind fun v39 => (spec_l20Expr v36.2 v39 3 2).bind fun v41 => spec_l20Plan_j3 a1 x7 x9 K11 v41.2 (Zf.mk 2 x22 0 0 v41.1 []) else bif (v36.1 == 1) then (Zm v36.2 3).bind fun v44 => spec_l20Plan_l4 a1 x7 x9 K11 v17 x22 FUEL v44.1 v44.2 ([] : List Int) else bif (v36.1 == 2) then spec_l20Plan_j6 a1 x7 x9 K11 v17 x22 v23 v36 (v36.1 == 2) else spec_l20Plan_j6 a1 x7 x9 K11 v17 x22 v23 v36 (v36.1 == 3)
def Zar (a1 : List Zh) : Nat → Int → Zc → (List Zf) → Option ((List Zf) × Zc)
 | 0, _, _, _ => none
 | f10 + 1, x7, x8, x9 => bif (decide (x7 > 0)) then (spec_l6All_L1 a1 x9).bind fun v17 => bif (!v17.2) then some (x9, x8) else (Zm x8 5).bind fun v20 => bif (decide ((w64 ((w64 ((x9.length : Int) - 1)) - (w64 (v20.1.tdiv 4)))) < 0)) then spec_l20Plan_j2 a1 x7 x9 (Zar a1 f10) v17 v20 0 else spec_l20Plan_j2 a1 x7 x9 (Zar a1 f10) v17 v20 (w64 ((w64 ((x9.length : Int) - 1)) - (w64 (v20.1.tdiv 4)))) else some (x9, x8)
def spec_l20Plan (a0 : Zc) (a1 : List Zh) : Option ((List Zf) × Zc) := (Zm a0 (a1.length : Int)).bind fun v1 => (Zm v1.2 6).bind fun v3 => Zar a1 FUEL v3.1 v3.2 ([(Zf.mk 1 0 0 v1.1 [] [])] : List Zf)
theorem ok_spec_l20Plan {a0 : Zc} {a1 : List Zh} {y : (List Zf) × Zc} (h : spec_l20Plan a0 a1 = some y) : OKb Tryz.prog 36 (Enc.cells a0) [A a1] (O y.1) (Enc.cells y.2) := by
 refine OKb_of_pwp τ_ok Tryz.func36 rfl (by kernel_rfl) rfl (Enc.frz _) (Enc.frz _) fun Γ hQ => ?_
 unfold spec_l20Plan at h
 refine srveM [11, 16] 165 [(0, .ptr 0 0 0), (1, A a1)] [sc 0 a0] ?_
 refine srvM [11, 16] 3 165 [(0, .ptr 0 0 0), (1, A a1), (21, .ptr 0 0 0), (23, I (a1.length : Int))] [sc 0 a0] ?_
 obtain ⟨v1, hv2, h⟩ := bindS h
 refine cB 24 0 0 (Zl hv2) ?_
 refine vM [11, 16] 1 165 [(0, .ptr 0 0 0), (1, A a1), (25, E (Zf.mk 1 0 0 v1.1 [] []))] [sc 0 v1.2] ?_
 refine opsP_E (dd := some 26) (x := .ref 1 0 0 6 ([(Zf.mk 1 0 0 v1.1 [] [])] : List Zf).length false) (bsl_N (cells := eL ([(Zf.mk 1 0 0 v1.1 [] [])] : List Zf)) τ_ok 26 1 (by first | exact pn hQ | exact pk hQ) (by kernel_rfl) (by kernel_rfl)) ?_
 refine veM [11, 16] 1 165 [(0, .ptr 0 0 0), (1, A a1), (5, .ref 1 0 0 6 ([(Zf.mk 1 0 0 v1.1 [] [])] : List Zf).length false)] [sc 0 v1.2, some ⟨0, eL ([(Zf.mk 1 0 0 v1.1 [] [])] : List Zf)⟩] ?_
 refine Zi ?_
 refine srvM [11, 16] 1 165 [(0, .ptr 0 0 0), (1, A a1), (5, .ref 1 0 0 6 ([(Zf.mk 1 0 0 v1.1 [] [])] : List Zf).length false), (27, .ptr 0 0 0)] [sc 0 v1.2, some ⟨0, eL ([(Zf.mk 1 0 0 v1.1 [] [])] : List Zf)⟩] ?_
 obtain ⟨v3, hv4, h⟩ := bindS h
 refine cB 28 0 0 (Zl hv4) ?_
 refine veM [11, 16] 1 165 [(0, .ptr 0 0 0), (1, A a1), (5, .ref 1 0 0 6 ([(Zf.mk 1 0 0 v1.1 [] [])] : List Zf).length false), (6, I v3.1)] [sc 0 v3.2, some ⟨0, eL ([(Zf.mk 1 0 0 v1.1 [] [])] : List Zf)⟩] ?_
 refine Zk ?_
 refine Zaf (ι := Nat × Int × Zc × (List Zf)) (fun (f10, x7, x8, x9) => (⟨165, [(0, .ptr 0 0 0), (1, A a1), (5, rf 1 0 6 x9), (6, I x7)], [sc 0 x8, sl 0 x9]⟩ : St)) (fun (f10, x7, x8, x9) => Zar a1 f10 x7 x8 x9 = some y) Prod.fst (FUEL, v3.1, v3.2, ([(Zf.mk 1 0 0 v1.1 [] [])] : List Zf)) h (it [0, 1, 5, 6]) ?_
 rintro ⟨f10, x7, x8, x9⟩ h
 dsimp only at h ⊢
 rcases f10 with _ | f10
 cases h
 rw [Zar] at h
 refine Zi ?_
 refine srveM [11, 16] 165 [(0, .ptr 0 0 0), (1, A a1), (5, rf 1 0 6 x9), (6, I x7), (30, B (decide (x7 > 0)))] [sc 0 x8, sl 0 x9] ?_
 refine pc h (fun h => ?_) (fun h => ?_)
 refine Zj ?_
 refine Zi ?_
 refine Zab (σ := Zc × (List Zf) × Zf × (List Zf)) (fun (x13, x14, x15, x16) => (⟨165, [(0, .ptr 0 0 0), (1, A a1), (5, rf 1 0 6 x14), (6, I x7)], [sc 0 x13, sl 0 x14, sc 1 x15, sl 0 x16]⟩ : St)) (fun (x13, x14, x15, x16) => spec_l20Plan_j1 x7 (Zar a1 f10) x13 x14 x15 x16 = some y) ?_ ?_
 refine Zk ?_
 refine srvM [11, 16] 2 165 [(0, .ptr 0 0 0), (1, A a1), (5, rf 1 0 6 x9), (6, I x7), (34, A a1), (35, rf 1 0 6 x9)] [sc 0 x8, sl 0 x9] ?_
 obtain ⟨v17, hv18, h⟩ := bindS h
 refine opsP_E (dd := some 36) (x := .tup [A v17.1, B v17.2]) (callS_E τ 36 1 0 (ok_spec_l6All_L1 hv18) (FzTo.tup (FzToL.cons (FzTo.O _) (FzToL.cons (FzTo.frz rfl) FzToL.nil))) rfl rfl (by kernel_rfl)) ?_
 refine veM [11, 16] 5 165 [(0, .ptr 0 0 0), (1, A a1), (5, rf 1 0 6 x9), (6, I x7), (7, A v17.1), (8, B v17.2)] [sc 0 x8, sl 0 x9] ?_
 refine Zi ?_
 refine srveM [11, 16] 165 [(0, .ptr 0 0 0), (1, A a1), (5, rf 1 0 6 x9), (6, I x7), (7, A v17.1), (40, B (!v17.2))] [sc 0 x8, sl 0 x9] ?_
 refine pc h (fun h => ?_) (fun h => ?_)
 refine srveM [11, 16] 165 [(4, rf 1 0 6 x9)] [sc 0 x8, sl 0 x9] ?_
 have h := si h
 subst h
 exact Zg ⟨.inr rfl, rf 1 0 6 x9, _, 0, by kernel_rfl, (OutP.list (v := 0) (by kernel_rfl)), by decide, by decide, by kernel_rfl⟩
 refine Zj ?_
 refine srveM [11, 16] 165 [(0, .ptr 0 0 0), (1, A a1), (5, rf 1 0 6 x9), (6, I x7), (7, A v17.1), (9, I (x9.length : Int))] [sc 0 x8, sl 0 x9] ?_
 refine srvM [11, 16] 3 165 [(0, .ptr 0 0 0), (1, A a1), (5, rf 1 0 6 x9), (6, I x7), (7, A v17.1), (9, I (x9.length : Int)), (45, I (w64 ((x9.length : Int) - 1))), (46, .ptr 0 0 0)] [sc 0 x8, sl 0 x9] ?_
 obtain ⟨v20, hv21, h⟩ := bindS h
 refine cB 47 0 0 (Zl hv21) ?_
 refine veM [11, 16] 3 165 [(0, .ptr 0 0 0), (1, A a1), (5, rf 1 0 6 x9), (6, I x7), (7, A v17.1), (9, I (x9.length : Int)), (10, I (w64 ((w64 ((x9.length : Int) - 1)) - (w64 (v20.1.tdiv 4)))))] [sc 0 v20.2, sl 0 x9] ?_
 refine Zi ?_
 refine Zab (σ := Int) (fun x22 => (⟨165, [(0, .ptr 0 0 0), (1, A a1), (5, rf 1 0 6 x9), (6, I x7), (7, A v17.1), (9, I (x9.length : Int)), (10, I x22)], [sc 0 v20.2, sl 0 x9]⟩ : St)) (fun x22 => spec_l20Plan_j2 a1 x7 x9 (Zar a1 f10) v17 v20 x22 = some y) ?_ ?_
 refine srveM [11, 16] 165 [(0, .ptr 0 0 0), (1, A a1), (5, rf 1 0 6 x9), (6, I x7), (7, A v17.1), (9, I (x9.length : Int)), (10, I (w64 ((w64 ((x9.length : Int) - 1)) - (w64 (v20.1.tdiv 4))))), (51, B (decide ((w64 ((w64 ((x9.length : Int) - 1)) - (w64 (v20.1.tdiv 4)))) < 0)))] [sc 0 v20.2, sl 0 x9] ?_
 refine pc h (fun h => ?_) (fun h => ?_)
 refine rveM [11, 16] 165 [(0, .ptr 0 0 0), (1, A a1), (5, rf 1 0 6 x9), (6, I x7), (7, A v17.1), (9, I (x9.length : Int)), (10, I 0)] [sc 0 v20.2, sl 0 x9] ?_
 exact ⟨0, h, it [0, 1, 5, 6, 7, 9, 10]⟩
 refine Zj ?_
 exact ⟨(w64 ((w64 ((x9.length : Int) - 1)) - (w64 (v20.1.tdiv 4)))), h, it [0, 1, 5, 6, 7, 9, 10]⟩
 rintro x22 h
 unfold spec_l20Plan_j2 at h
 refine srvM [11, 16] 3 165 [(0, .ptr 0 0 0), (1, A a1), (5, rf 1 0 6 x9), (6, I x7), (7, A v17.1), (9, I (x9.length : Int)), (10, I x22), (52, .ptr 0 0 0), (54, I (a1.length : Int))] [sc 0 v20.2, sl 0 x9] ?_
 obtain ⟨v23, hv24, h⟩ := bindS h
 refine cB 55 0 0 (Zl hv24) ?_
 refine opsP_E (dd := some 56) (x := .agg [I 1, I 0, I 0, I v23.1, .arr 5 0 (eL ([] : List Zd)) true, .arr 1 0 (eL ([] : List Int)) true]) (CoreE.of_y (bldV_sound (zs := [.lit (.int .i64 0), .lit (.int .i64 0), .lit (.int .i64 0), .lit (.int .i64 0), .arr 5 0 [] true, .arr 1 0 [] true]) (cells := [I 1, I 0, I 0, I v23.1, .arr 5 0 (eL ([] : List Zd)) true, .arr 1 0 (eL ([] : List Int)) true]) τ_ok zi_ok37 (by kernel_rfl))) ?_
 refine vM [11, 16] 0 165 [(0, .ptr 0 0 0), (1, A a1), (5, rf 1 0 6 x9), (6, I x7), (7, A v17.1), (9, I (x9.length : Int)), (10, I x22), (56, .agg [I 1, I 0, I 0, I v23.1, .arr 5 0 (eL ([] : List Zd)) true, .arr 1 0 (eL ([] : List Int)) true])] [sc 0 v23.2, sl 0 x9] ?_
 refine opsP_imp (Imp.ghosts 1 (st' := ⟨165, [(0, .ptr 0 0 0), (1, A a1), (5, rf 1 0 6 x9), (6, I x7), (7, A v17.1), (9, I (x9.length : Int)), (10, I x22), (56, .agg [I 1, I 0, I 0, I v23.1, .arr 5 0 (eL ([] : List Zd)) true, .arr 1 0 (eL ([] : List Int)) true])], [sc 0 v23.2, sl 0 x9, some ⟨0, []⟩]⟩) (by kernel_rfl)) ?_
 refine opsP_E (dd := some 11) (x := .ptr 2 1 0) (alz_E (blk := ⟨0, []⟩) (zs := [.lit (.int .i64 0), .lit (.int .i64 0), .lit (.int .i64 0), .lit (.int .i64 0), .arr 5 0 [] true, .arr 1 0 [] true]) 11 37 2 0 (pn hQ) zi_ok37 (by kernel_rfl) (by kernel_rfl)) ?_
 refine veM [11, 16] 1 165 [(0, .ptr 0 0 0), (1, A a1), (5, rf 1 0 6 x9), (6, I x7), (7, A v17.1), (9, I (x9.length : Int)), (10, I x22), (11, .ptr 2 1 0)] [sc 0 v23.2, sl 0 x9, some ⟨1, [I 1, I 0, I 0, I v23.1, .arr 5 0 (eL ([] : List Zd)) true, .arr 1 0 (eL ([] : List Int)) true]⟩] ?_
 refine Zi ?_
 refine Zab (σ := Zc × Zf) (fun (x25, x26) => (⟨165, [(0, .ptr 0 0 0), (1, A a1), (5, rf 1 0 6 x9), (6, I x7), (11, .ptr 2 1 0)], [sc 0 x25, sl 0 x9, sc 1 x26]⟩ : St)) (fun (x25, x26) => spec_l20Plan_j3 a1 x7 x9 (Zar a1 f10) x25 x26 = some y) ?_ ?_
 refine srvM [11, 16] 1 165 [(0, .ptr 0 0 0), (1, A a1), (5, rf 1 0 6 x9), (6, I x7), (7, A v17.1), (9, I (x9.length : Int)), (10, I x22), (11, .ptr 2 1 0), (57, .ptr 0 0 0)] [sc 0 v23.2, sl 0 x9, some ⟨1, [I 1, I 0, I 0, I v23.1, .arr 5 0 (eL ([] : List Zd)) true, .arr 1 0 (eL ([] : List Int)) true]⟩] ?_
 obtain ⟨v36, hv37, h⟩ := bindS h
 refine cB 58 0 0 (Zl hv37) ?_
 refine veM [11, 16] 0 165 [(0, .ptr 0 0 0), (1, A a1), (5, rf 1 0 6 x9), (6, I x7), (7, A v17.1), (9, I (x9.length : Int)), (10, I x22), (11, .ptr 2 1 0), (58, I v36.1)] [sc 0 v36.2, sl 0 x9, some ⟨1, [I 1, I 0, I 0, I v23.1, .arr 5 0 (eL ([] : List Zd)) true, .arr 1 0 (eL ([] : List Int)) true]⟩] ?_
 refine Zk ?_
 refine srveM [11, 16] 165 [(0, .ptr 0 0 0), (1, A a1), (5, rf 1 0 6 x9), (6, I x7), (7, A v17.1), (9, I (x9.length : Int)), (10, I x22), (11, .ptr 2 1 0), (58, I v36.1), (59, B (v36.1 == 0))] [sc 0 v36.2, sl 0 x9, some ⟨1, [I 1, I 0, I 0, I v23.1, .arr 5 0 (eL ([] : List Zd)) true, .arr 1 0 (eL ([] : List Int)) true]⟩] ?_
 refine pc h (fun h => ?_) (fun h => ?_)
 refine rvM [11, 16] 4 165 [(0, .ptr 0 0 0), (1, A a1), (5, rf 1 0 6 x9), (6, I x7), (11, .ptr 2 1 0), (61, I x22), (62, .ptr 0 0 0), (63, A v17.1), (64, I x22)] [sc 0 v36.2, sl 0 x9, some ⟨1, [I 1, I 0, I 0, I v23.1, .arr 5 0 (eL ([] : List Zd)) true, .arr 1 0 (eL ([] : List Int)) true]⟩] ?_
 obtain ⟨v39, hv40, h⟩ := bindS h
 refine Z2 τ_ok 65 hv40 (by kernel_rfl) ?_
 refine vM [11, 16] 1 165 [(0, .ptr 0 0 0), (1, A a1), (5, rf 1 0 6 x9), (6, I x7), (11, .ptr 2 1 0), (61, I x22), (62, .ptr 0 0 0), (66, A v39)] [sc 0 v36.2, sl 0 x9, some ⟨1, [I 1, I 0, I 0, I v23.1, .arr 5 0 (eL ([] : List Zd)) true, .arr 1 0 (eL ([] : List Int)) true]⟩] ?_
 obtain ⟨v41, hv42, h⟩ := bindS h
 refine opsP_E (dd := some 67) (x := rf 3 0 5 v41.1) (callBN_E τ 67 0 0 3 (by first | exact pn hQ | exact pk hQ) (by decide) (ok_spec_l20Expr hv42) rfl (by kernel_rfl) (by kernel_rfl)) ?_
 refine opsP_E (dd := some 68) (x := .agg [I 2, I x22, I 0, I 0, rf 3 0 5 v41.1, .arr 1 0 (eL ([] : List Int)) true]) (CoreE.of_y (bldV_sound (zs := [.lit (.int .i64 0), .lit (.int .i64 0), .lit (.int .i64 0), .lit (.int .i64 0), .arr 5 0 [] true, .arr 1 0 [] true]) (cells := [I 2, I x22, I 0, I 0, rf 3 0 5 v41.1, .arr 1 0 (eL ([] : List Int)) true]) τ_ok zi_ok37 (by kernel_rfl))) ?_
 refine veM [11, 16] 1 165 [(0, .ptr 0 0 0), (1, A a1), (5, rf 1 0 6 x9), (6, I x7), (11, .ptr 2 1 0)] [sc 0 v41.2, sl 0 x9, some ⟨1, [I 2, I x22, I 0, I 0, rf 3 0 5 v41.1, .arr 1 0 (eL ([] : List Int)) true]⟩, sl 0 v41.1] ?_
 exact ⟨(v41.2, (Zf.mk 2 x22 0 0 v41.1 [])), h, qt (it (st' := ⟨165, [(0, .ptr 0 0 0), (1, A a1), (5, rf 1 0 6 x9), (6, I x7), (11, .ptr 2 1 0)], [sc 0 v41.2, sl 0 x9, some ⟨1, [I 2, I x22, I 0, I 0, rf 3 0 5 v41.1, .arr 1 0 (eL ([] : List Int)) true]⟩, sl 0 v41.1]⟩) [0, 1, 5, 6, 11]) (qt (Imp.freezeB (v := 0) (cs := eL v41.1) (st' := ⟨165, [(0, .ptr 0 0 0), (1, A a1), (5, rf 1 0 6 x9), (6, I x7), (11, .ptr 2 1 0)], [sc 0 v41.2, sl 0 x9, some ⟨1, [I 2, I x22, I 0, I 0, A v41.1, .arr 1 0 (eL ([] : List Int)) true]⟩, none]⟩) 3 0 (pn hQ) (by kernel_rfl) (eL_frz _) (wholeC (Zaa (by kernel_rfl)) (wholeC (Zaa (by kernel_rfl)) (wholeC (whole_ne rfl) (wholeC (Zaa (by kernel_rfl)) (wholeC (Zaa (by kernel_rfl)) wholeC0))))) (HpRel.frz rfl (Enc.frz _) (HpRel.frz rfl (eL_frz _) (HpRel.box rfl (Zp.cons ⟨rfl, trivial, rfl⟩ (Zp.cons ⟨rfl, trivial, rfl⟩ (Zp.cons ⟨rfl, trivial, rfl⟩ (Zp.cons ⟨rfl, trivial, rfl⟩ (Zp.cons ⟨rfl, (whole_is (eL_len v41.1).symm), rfl⟩ (Zp.cons ⟨rfl, trivial, rfl⟩ Zp.nil)))))) (HpRel.key HpRel.nil)))) (by kernel_rfl) rfl (p01 hQ)) (qt (Imp.softB (st' := ⟨165, [(0, .ptr 0 0 0), (1, A a1), (5, rf 1 0 6 x9), (6, I x7), (11, .ptr 2 1 0)], [sc 0 v41.2, sl 0 x9, some ⟨1, Enc.cells (Zf.mk 2 x22 0 0 v41.1 [])⟩, none]⟩) 4 (by kernel_rfl) (HpRel.frz rfl (Enc.frz _) (HpRel.frz rfl (eL_frz _) (HpRel.box rfl (Zp.cons rfl (Zp.cons rfl (Zp.cons rfl (Zp.cons rfl (Zp.cons rfl (Zp.cons rfl Zp.nil)))))) (HpRel.none rfl HpRel.nil)))) (by kernel_rfl) (by rfl) (p01 hQ)) (Imp.truncS 3 (pl hQ) (by kernel_rfl) (allBelow_mem (by exact (And.intro rfl (And.intro rfl (And.intro rfl (And.intro rfl (And.intro rfl trivial))))))) (by exact (And.intro (rfl) (And.intro (frz_below (eL_frz _)) (And.intro (rfl) trivial)))) (by kernel_rfl))))⟩
 refine srveM [11, 16] 165 [(0, .ptr 0 0 0), (1, A a1), (5, rf 1 0 6 x9), (6, I x7), (7, A v17.1), (9, I (x9.length : Int)), (10, I x22), (11, .ptr 2 1 0), (58, I v36.1), (69, B (v36.1 == 1))] [sc 0 v36.2, sl 0 x9, some ⟨1, [I 1, I 0, I 0, I v23.1, .arr 5 0 (eL ([] : List Zd)) true, .arr 1 0 (eL ([] : List Int)) true]⟩] ?_
 refine pc h (fun h => ?_) (fun h => ?_)
 refine srvM [11, 16] 1 165 [(0, .ptr 0 0 0), (1, A a1), (5, rf 1 0 6 x9), (6, I x7), (7, A v17.1), (10, I x22), (11, .ptr 2 1 0), (71, I x22)] [sc 0 v36.2, sl 0 x9, some ⟨1, [I 1, I 0, I 0, I v23.1, .arr 5 0 (eL ([] : List Zd)) true, .arr 1 0 (eL ([] : List Int)) true]⟩] ?_
 refine opsP_E (dd := some 72) (x := .agg [I 3, I x22, I 0, I 0, .arr 5 0 (eL ([] : List Zd)) true, .arr 1 0 (eL ([] : List Int)) true]) (CoreE.of_y (bldV_sound (zs := [.lit (.int .i64 0), .lit (.int .i64 0), .lit (.int .i64 0), .lit (.int .i64 0), .arr 5 0 [] true, .arr 1 0 [] true]) (cells := [I 3, I x22, I 0, I 0, .arr 5 0 (eL ([] : List Zd)) true, .arr 1 0 (eL ([] : List Int)) true]) τ_ok zi_ok37 (by kernel_rfl))) ?_
 refine veM [11, 16] 1 165 [(0, .ptr 0 0 0), (1, A a1), (5, rf 1 0 6 x9), (6, I x7), (7, A v17.1), (10, I x22), (11, .ptr 2 1 0)] [sc 0 v36.2, sl 0 x9, some ⟨1, [I 3, I x22, I 0, I 0, .arr 5 0 (eL ([] : List Zd)) true, .arr 1 0 (eL ([] : List Int)) true]⟩] ?_
 refine srvM [11, 16] 1 165 [(0, .ptr 0 0 0), (1, A a1), (5, rf 1 0 6 x9), (6, I x7), (7, A v17.1), (10, I x22), (11, .ptr 2 1 0), (73, .ptr 0 0 0)] [sc 0 v36.2, sl 0 x9, some ⟨1, [I 3, I x22, I 0, I 0, .arr 5 0 (eL ([] : List Zd)) true, .arr 1 0 (eL ([] : List Int)) true]⟩] ?_
 obtain ⟨v44, hv45, h⟩ := bindS h
 refine cB 74 0 0 (Zl hv45) ?_
 refine veM [11, 16] 1 165 [(0, .ptr 0 0 0), (1, A a1), (5, rf 1 0 6 x9), (6, I x7), (7, A v17.1), (10, I x22), (11, .ptr 2 1 0), (12, I v44.1)] [sc 0 v44.2, sl 0 x9, some ⟨1, [I 3, I x22, I 0, I 0, .arr 5 0 (eL ([] : List Zd)) true, .arr 1 0 (eL ([] : List Int)) true]⟩] ?_
 refine Zk ?_
 refine ip 165 [(0, .ptr 0 0 0), (1, A a1), (5, rf 1 0 6 x9), (6, I x7), (7, A v17.1), (10, I x22), (11, .ptr 2 1 0), (12, I v44.1)] [sc 0 v44.2, sl 0 x9, some ⟨1, [I 3, I x22, I 0, I 0, .arr 5 0 (eL ([] : List Zd)) true, .arr 1 0 (eL ([] : List Int)) true]⟩] ?_
 refine Za8 (Imp.thawB (st' := ⟨165, [(0, .ptr 0 0 0), (1, A a1), (5, rf 1 0 6 x9), (6, I x7), (7, A v17.1), (10, I x22), (11, .ptr 2 1 0), (12, I v44.1)], [sc 0 v44.2, sl 0 x9, some ⟨1, [I 3, I x22, I 0, I 0, .arr 5 0 (eL ([] : List Zd)) true, .ref 3 0 0 1 ([] : List Int).length false]⟩, some ⟨0, eL ([] : List Int)⟩]⟩) 3 (by kernel_rfl) (HpRel.frz rfl (Enc.frz _) (HpRel.frz rfl (eL_frz _) (HpRel.box rfl (Zp.cons (.inl ⟨rfl, rfl⟩) (Zp.cons (.inl ⟨rfl, rfl⟩) (Zp.cons (.inl ⟨rfl, rfl⟩) (Zp.cons (.inl ⟨rfl, rfl⟩) (Zp.cons (.inl ⟨rfl, rfl⟩) (Zp.cons (.inr ⟨_, rfl, rfl⟩) Zp.nil)))))) (HpRel.key HpRel.nil)))) (by rfl) (by rfl) (p01 hQ)) ?_
 refine Zaf (ι := Nat × Int × Zc × (List Int)) (fun (f53, x50, x51, x52) => (⟨165, [(0, .ptr 0 0 0), (1, A a1), (5, rf 1 0 6 x9), (6, I x7), (7, A v17.1), (10, I x22), (11, .ptr 2 1 0), (12, I x50)], [sc 0 x51, sl 0 x9, some ⟨1, [I 3, I x22, I 0, I 0, .arr 5 0 (eL ([] : List Zd)) true, rf 3 0 1 x52]⟩, sl 0 x52]⟩ : St)) (fun (f53, x50, x51, x52) => spec_l20Plan_l4 a1 x7 x9 (Zar a1 f10) v17 x22 f53 x50 x51 x52 = some y) Prod.fst (FUEL, v44.1, v44.2, ([] : List Int)) h (it [0, 1, 5, 6, 7, 10, 11, 12]) ?_
 rintro ⟨f53, x50, x51, x52⟩ h
 dsimp only at h ⊢
 rcases f53 with _ | f53
 cases h
 rw [spec_l20Plan_l4] at h
 refine Zi ?_
 refine Zi ?_
 refine Zab (σ := Bool) (fun x55 => (⟨165, [(0, .ptr 0 0 0), (1, A a1), (5, rf 1 0 6 x9), (6, I x7), (7, A v17.1), (10, I x22), (11, .ptr 2 1 0), (12, I x50), (84, B x55)], [sc 0 x51, sl 0 x9, some ⟨1, [I 3, I x22, I 0, I 0, .arr 5 0 (eL ([] : List Zd)) true, rf 3 0 1 x52]⟩, sl 0 x52]⟩ : St)) (fun x55 => spec_l20Plan_j5 a1 x7 x9 (Zar a1 f10) v17 x22 x50 x51 x52 (spec_l20Plan_l4 a1 x7 x9 (Zar a1 f10) v17 x22 f53) x55 = some y) ?_ ?_
 refine rvM [11, 16] 3 165 [(0, .ptr 0 0 0), (1, A a1), (5, rf 1 0 6 x9), (6, I x7), (7, A v17.1), (10, I x22), (11, .ptr 2 1 0), (12, I x50), (77, B (decide (x50 ≥ 0)))] [sc 0 x51, sl 0 x9, some ⟨1, [I 3, I x22, I 0, I 0, .arr 5 0 (eL ([] : List Zd)) true, rf 3 0 1 x52]⟩, sl 0 x52] ?_
 rcases fk (decide (x50 ≥ 0)) with hc65 | hc65
 replace h := bT hc65 h
 rw [hc65]
 refine vM [11, 16] 2 165 [(0, .ptr 0 0 0), (1, A a1), (5, rf 1 0 6 x9), (6, I x7), (7, A v17.1), (10, I x22), (11, .ptr 2 1 0), (12, I x50), (77, B true), (78, A v17.1), (79, I x22)] [sc 0 x51, sl 0 x9, some ⟨1, [I 3, I x22, I 0, I 0, .arr 5 0 (eL ([] : List Zd)) true, rf 3 0 1 x52]⟩, sl 0 x52] ?_
 obtain ⟨v63, hv64, h⟩ := bindS h
 refine Z2 τ_ok 80 hv64 (by kernel_rfl) ?_
 refine veM [11, 16] 4 165 [(0, .ptr 0 0 0), (1, A a1), (5, rf 1 0 6 x9), (6, I x7), (7, A v17.1), (10, I x22), (11, .ptr 2 1 0), (12, I x50), (78, A v17.1), (79, I x22), (80, pf v63 0), (81, A v63), (82, I (v63.length : Int)), (83, B (decide ((v63.length : Int) > 0))), (84, B (decide ((v63.length : Int) > 0)))] [sc 0 x51, sl 0 x9, some ⟨1, [I 3, I x22, I 0, I 0, .arr 5 0 (eL ([] : List Zd)) true, rf 3 0 1 x52]⟩, sl 0 x52] ?_
 exact ⟨(decide ((v63.length : Int) > 0)), h, it [0, 1, 5, 6, 7, 10, 11, 12, 84]⟩
 replace h := bF hc65 h
 rw [hc65]
 refine veM [11, 16] 7 165 [(0, .ptr 0 0 0), (1, A a1), (5, rf 1 0 6 x9), (6, I x7), (7, A v17.1), (10, I x22), (11, .ptr 2 1 0), (12, I x50), (78, .lit undef), (79, .lit undef), (80, .lit undef), (81, .lit undef), (82, .lit undef), (83, .lit undef), (84, B false)] [sc 0 x51, sl 0 x9, some ⟨1, [I 3, I x22, I 0, I 0, .arr 5 0 (eL ([] : List Zd)) true, rf 3 0 1 x52]⟩, sl 0 x52] ?_
 exact ⟨false, h, it [0, 1, 5, 6, 7, 10, 11, 12, 84]⟩
 rintro x55 h
 unfold spec_l20Plan_j5 at h
 refine pc h (fun h => ?_) (fun h => ?_)
 refine Zj ?_
 refine Zi ?_
 refine Zk ?_
 refine ip 165 [(0, .ptr 0 0 0), (1, A a1), (5, rf 1 0 6 x9), (6, I x7), (7, A v17.1), (10, I x22), (11, .ptr 2 1 0), (12, I x50)] [sc 0 x51, sl 0 x9, some ⟨1, [I 3, I x22, I 0, I 0, .arr 5 0 (eL ([] : List Zd)) true, rf 3 0 1 x52]⟩, sl 0 x52] ?_
 refine pwp_any ([[2, 3], [2, 3], [0], [], [], [], [], [], [0], [], [3], [2, 3], [2, 3]]) ([[], [], [], [], [], [], [], [], [0], [], [3], [], [2]]) rfl (by kernel_rfl) ?_
 refine qvM [11, 16] [2, 3] (hR (hL trivial)) 2 165 [(88, rf 3 0 1 x52), (0, .ptr 0 0 0), (1, A a1), (5, rf 1 0 6 x9), (6, I x7), (7, A v17.1), (10, I x22), (11, .ptr 2 1 0), (12, I x50)] [sc 0 x51, sl 0 x9, some ⟨1, [I 3, I x22, I 0, I 0, .arr 5 0 (eL ([] : List Zd)) true, rf 3 0 1 x52]⟩, sl 0 x52] ?_
 refine qvM [11, 16] [0] (hB trivial) 1 165 [(89, .ptr 0 0 0), (88, rf 3 0 1 x52), (0, .ptr 0 0 0), (1, A a1), (5, rf 1 0 6 x9), (6, I x7), (7, A v17.1), (10, I x22), (11, .ptr 2 1 0), (12, I x50)] [sc 0 x51, sl 0 x9, some ⟨1, [I 3, I x22, I 0, I 0, .arr 5 0 (eL ([] : List Zd)) true, rf 3 0 1 x52]⟩, sl 0 x52] ?_
 refine qvM [11, 16] [] trivial 2 165 [(91, I x22), (90, A v17.1), (89, .ptr 0 0 0), (88, rf 3 0 1 x52), (0, .ptr 0 0 0), (1, A a1), (5, rf 1 0 6 x9), (6, I x7), (7, A v17.1), (10, I x22), (11, .ptr 2 1 0), (12, I x50)] [sc 0 x51, sl 0 x9, some ⟨1, [I 3, I x22, I 0, I 0, .arr 5 0 (eL ([] : List Zd)) true, rf 3 0 1 x52]⟩, sl 0 x52] ?_
 obtain ⟨v57, hv58, h⟩ := bindS h
 refine qX (some 92) (pf v57 0) 165 [(92, pf v57 0), (89, .ptr 0 0 0), (88, rf 3 0 1 x52), (0, .ptr 0 0 0), (1, A a1), (5, rf 1 0 6 x9), (6, I x7), (7, A v17.1), (10, I x22), (11, .ptr 2 1 0), (12, I x50)] [sc 0 x51, sl 0 x9, some ⟨1, [I 3, I x22, I 0, I 0, .arr 5 0 (eL ([] : List Zd)) true, rf 3 0 1 x52]⟩, sl 0 x52] (fun Γ' hΓ => CoreE.of_y (Zaj τ_ok (by kernel_rfl) hv58)) trivial ?_
 refine qvM [11, 16] [] trivial 2 165 [(94, I (v57.length : Int)), (89, .ptr 0 0 0), (88, rf 3 0 1 x52), (0, .ptr 0 0 0), (1, A a1), (5, rf 1 0 6 x9), (6, I x7), (7, A v17.1), (10, I x22), (11, .ptr 2 1 0), (12, I x50)] [sc 0 x51, sl 0 x9, some ⟨1, [I 3, I x22, I 0, I 0, .arr 5 0 (eL ([] : List Zd)) true, rf 3 0 1 x52]⟩, sl 0 x52] ?_
 obtain ⟨v59, hv60, h⟩ := bindS h
 refine qX (some 95) (I v59.1) 165 [(95, I v59.1), (88, rf 3 0 1 x52), (0, .ptr 0 0 0), (1, A a1), (5, rf 1 0 6 x9), (6, I x7), (7, A v17.1), (10, I x22), (11, .ptr 2 1 0), (12, I x50)] [sc 0 v59.2, sl 0 x9, some ⟨1, [I 3, I x22, I 0, I 0, .arr 5 0 (eL ([] : List Zd)) true, rf 3 0 1 x52]⟩, sl 0 x52] (fun Γ' hΓ => callB_E τ 95 0 0 (Zl hv60) (FzTo.frz rfl) rfl (by kernel_rfl)) (hB trivial) ?_
 refine qvM [11, 16] [] trivial 1 165 [(96, .arr 1 ([v59.1] : List Int).length (eL ([v59.1] : List Int)) true), (88, rf 3 0 1 x52), (0, .ptr 0 0 0), (1, A a1), (5, rf 1 0 6 x9), (6, I x7), (7, A v17.1), (10, I x22), (11, .ptr 2 1 0), (12, I x50)] [sc 0 v59.2, sl 0 x9, some ⟨1, [I 3, I x22, I 0, I 0, .arr 5 0 (eL ([] : List Zd)) true, rf 3 0 1 x52]⟩, sl 0 x52] ?_
 obtain ⟨v61, hv62, h⟩ := bindS h
 refine qX (some 97) (rf 3 1 1 v61) 165 [(97, rf 3 1 1 v61), (0, .ptr 0 0 0), (1, A a1), (5, rf 1 0 6 x9), (6, I x7), (7, A v17.1), (10, I x22), (11, .ptr 2 1 0), (12, I x50)] [sc 0 v59.2, sl 0 x9, some ⟨1, [I 3, I x22, I 0, I 0, .arr 5 0 (eL ([] : List Zd)) true, rf 3 0 1 x52]⟩, sl 1 v61] (fun Γ' hΓ => app_Ew τ_ok 97 3 0 (by first | exact py hΓ hQ | exact pky hΓ hQ) hv62 (by kernel_rfl)) (hL trivial) ?_
 refine qvM [11, 16] [2, 3] (hR (hL trivial)) 1 165 [(98, .ptr 2 1 5), (97, rf 3 1 1 v61), (0, .ptr 0 0 0), (1, A a1), (5, rf 1 0 6 x9), (6, I x7), (7, A v17.1), (10, I x22), (11, .ptr 2 1 0), (12, I x50)] [sc 0 v59.2, sl 0 x9, some ⟨1, [I 3, I x22, I 0, I 0, .arr 5 0 (eL ([] : List Zd)) true, rf 3 0 1 x52]⟩, sl 1 v61] ?_
 refine qX (Hm' := [none, none, some ⟨1, [I 3, I x22, I 0, I 0, .arr 5 0 (eL ([] : List Zd)) true, rf 3 1 1 v61]⟩, sl 1 v61]) none (.any) 165 [(0, .ptr 0 0 0), (1, A a1), (5, rf 1 0 6 x9), (6, I x7), (7, A v17.1), (10, I x22), (11, .ptr 2 1 0), (12, I x50)] [sc 0 v59.2, sl 0 x9, some ⟨1, [I 3, I x22, I 0, I 0, .arr 5 0 (eL ([] : List Zd)) true, rf 3 1 1 v61]⟩, sl 1 v61] (fun Γ' hΓ => sto_E τ_ok 2 1 (by kernel_rfl)) (hR (hL trivial)) ?_
 refine qn 165 [(0, .ptr 0 0 0), (1, A a1), (5, rf 1 0 6 x9), (6, I x7), (7, A v17.1), (10, I x22), (11, .ptr 2 1 0), (12, I x50)] [sc 0 v59.2, sl 0 x9, some ⟨1, [I 3, I x22, I 0, I 0, .arr 5 0 (eL ([] : List Zd)) true, rf 3 1 1 v61]⟩, sl 1 v61] ?_
 refine rveM [11, 16] 165 [(0, .ptr 0 0 0), (1, A a1), (5, rf 1 0 6 x9), (6, I x7), (7, A v17.1), (10, I x22), (11, .ptr 2 1 0), (12, I (w64 (x50 - 1)))] [sc 0 v59.2, sl 0 x9, some ⟨1, [I 3, I x22, I 0, I 0, .arr 5 0 (eL ([] : List Zd)) true, rf 3 1 1 v61]⟩, sl 1 v61] ?_
 exact ⟨(f53, (w64 (x50 - 1)), v59.2, v61), h, Nat.lt_succ_self _, qt (it (st' := ⟨165, [(0, .ptr 0 0 0), (1, A a1), (5, rf 1 0 6 x9), (6, I x7), (7, A v17.1), (10, I x22), (11, .ptr 2 1 0), (12, I (w64 (x50 - 1)))], [sc 0 v59.2, sl 0 x9, some ⟨1, [I 3, I x22, I 0, I 0, .arr 5 0 (eL ([] : List Zd)) true, rf 3 1 1 v61]⟩, sl 1 v61]⟩) [0, 1, 5, 6, 7, 10, 11, 12]) (qt (Imp.reverB (cs := eL v61) (st' := ⟨165, [(0, .ptr 0 0 0), (1, A a1), (5, rf 1 0 6 x9), (6, I x7), (7, A v17.1), (10, I x22), (11, .ptr 2 1 0), (12, I (w64 (x50 - 1)))], [sc 0 v59.2, sl 0 x9, some ⟨1, [I 3, I x22, I 0, I 0, .arr 5 0 (eL ([] : List Zd)) true, rf 3 0 1 v61]⟩, sl 0 v61]⟩) 3 1 (by kernel_rfl) (qu_of_frzL (eL_frz _)) (HpRel.frz rfl (Enc.frz _) (HpRel.frz rfl (eL_frz _) (HpRel.box rfl (Zp.cons ⟨rfl, rfl⟩ (Zp.cons ⟨rfl, rfl⟩ (Zp.cons ⟨rfl, rfl⟩ (Zp.cons ⟨rfl, rfl⟩ (Zp.cons ⟨rfl, rfl⟩ (Zp.cons ⟨rfl, rfl⟩ Zp.nil)))))) (HpRel.key HpRel.nil)))) (by kernel_rfl) (by rfl) (p01 hQ)) (it [0, 1, 5, 6, 7, 10, 11, 12]))⟩
 refine Zae ?_
 exact ⟨(x51, (Zf.mk 3 x22 0 0 [] x52)), h, qt (it (st' := ⟨165, [(0, .ptr 0 0 0), (1, A a1), (5, rf 1 0 6 x9), (6, I x7), (11, .ptr 2 1 0)], [sc 0 x51, sl 0 x9, some ⟨1, [I 3, I x22, I 0, I 0, .arr 5 0 (eL ([] : List Zd)) true, rf 3 0 1 x52]⟩, sl 0 x52]⟩) [0, 1, 5, 6, 11]) (qt (Imp.softB (st' := ⟨165, [(0, .ptr 0 0 0), (1, A a1), (5, rf 1 0 6 x9), (6, I x7), (11, .ptr 2 1 0)], [sc 0 x51, sl 0 x9, some ⟨1, [I 3, I x22, I 0, I 0, A ([] : List Zd), rf 3 0 1 x52]⟩, sl 0 x52]⟩) 4 (by kernel_rfl) (HpRel.frz rfl (Enc.frz _) (HpRel.frz rfl (eL_frz _) (HpRel.box rfl (Zp.cons rfl (Zp.cons rfl (Zp.cons rfl (Zp.cons rfl (Zp.cons rfl (Zp.cons rfl Zp.nil)))))) (HpRel.frz rfl (eL_frz _) HpRel.nil)))) (by kernel_rfl) (by rfl) (p01 hQ)) (qt (Imp.freezeB (v := 0) (cs := eL x52) (st' := ⟨165, [(0, .ptr 0 0 0), (1, A a1), (5, rf 1 0 6 x9), (6, I x7), (11, .ptr 2 1 0)], [sc 0 x51, sl 0 x9, some ⟨1, Enc.cells (Zf.mk 3 x22 0 0 [] x52)⟩, none]⟩) 3 0 (pn hQ) (by kernel_rfl) (eL_frz _) (wholeC (Zaa (by kernel_rfl)) (wholeC (Zaa (by kernel_rfl)) (wholeC (whole_ne rfl) (wholeC (Zaa (by kernel_rfl)) (wholeC (Zaa (by kernel_rfl)) wholeC0))))) (HpRel.frz rfl (Enc.frz _) (HpRel.frz rfl (eL_frz _) (HpRel.box rfl (Zp.cons ⟨rfl, trivial, rfl⟩ (Zp.cons ⟨rfl, trivial, rfl⟩ (Zp.cons ⟨rfl, trivial, rfl⟩ (Zp.cons ⟨rfl, trivial, rfl⟩ (Zp.cons ⟨rfl, trivial, rfl⟩ (Zp.cons ⟨rfl, (whole_is (eL_len x52).symm), rfl⟩ Zp.nil)))))) (HpRel.key HpRel.nil)))) (by kernel_rfl) rfl (p01 hQ)) (Imp.truncS 3 (pl hQ) (by kernel_rfl) (allBelow_mem (by exact (And.intro rfl (And.intro rfl (And.intro rfl (And.intro rfl (And.intro rfl trivial))))))) (by exact (And.intro (rfl) (And.intro (frz_below (eL_frz _)) (And.intro (rfl) trivial)))) (by kernel_rfl))))⟩
 refine Zi ?_
 refine Zab (σ := Bool) (fun x66 => (⟨165, [(0, .ptr 0 0 0), (1, A a1), (5, rf 1 0 6 x9), (6, I x7), (7, A v17.1), (9, I (x9.length : Int)), (10, I x22), (11, .ptr 2 1 0), (58, I v36.1), (99, B x66)], [sc 0 v36.2, sl 0 x9, some ⟨1, [I 1, I 0, I 0, I v23.1, .arr 5 0 (eL ([] : List Zd)) true, .arr 1 0 (eL ([] : List Int)) true]⟩]⟩ : St)) (fun x66 => spec_l20Plan_j6 a1 x7 x9 (Zar a1 f10) v17 x22 v23 v36 x66 = some y) ?_ ?_
 refine srveM [11, 16] 165 [(0, .ptr 0 0 0), (1, A a1), (5, rf 1 0 6 x9), (6, I x7), (7, A v17.1), (9, I (x9.length : Int)), (10, I x22), (11, .ptr 2 1 0), (58, I v36.1), (99, B (v36.1 == 2))] [sc 0 v36.2, sl 0 x9, some ⟨1, [I 1, I 0, I 0, I v23.1, .arr 5 0 (eL ([] : List Zd)) true, .arr 1 0 (eL ([] : List Int)) true]⟩] ?_
 refine pc h (fun h => ?_) (fun h => ?_)
 refine Zj ?_
 exact ⟨(v36.1 == 2), h, it [0, 1, 5, 6, 7, 9, 10, 11, 58, 99]⟩
 refine rveM [11, 16] 165 [(0, .ptr 0 0 0), (1, A a1), (5, rf 1 0 6 x9), (6, I x7), (7, A v17.1), (9, I (x9.length : Int)), (10, I x22), (11, .ptr 2 1 0), (58, I v36.1), (99, B (v36.1 == 3))] [sc 0 v36.2, sl 0 x9, some ⟨1, [I 1, I 0, I 0, I v23.1, .arr 5 0 (eL ([] : List Zd)) true, .arr 1 0 (eL ([] : List Int)) true]⟩] ?_
 exact ⟨(v36.1 == 3), h, it [0, 1, 5, 6, 7, 9, 10, 11, 58, 99]⟩
 rintro x66 h
 unfold spec_l20Plan_j6 at h
 refine pc h (fun h => ?_) (fun h => ?_)
 refine srvM [11, 16] 2 165 [(0, .ptr 0 0 0), (1, A a1), (5, rf 1 0 6 x9), (6, I x7), (7, A v17.1), (10, I x22), (11, .ptr 2 1 0), (102, .ptr 0 0 0), (103, I (x9.length : Int))] [sc 0 v36.2, sl 0 x9, some ⟨1, [I 1, I 0, I 0, I v23.1, .arr 5 0 (eL ([] : List Zd)) true, .arr 1 0 (eL ([] : List Int)) true]⟩] ?_
 obtain ⟨v68, hv69, h⟩ := bindS h
 refine cB 104 0 0 (Zl hv69) ?_
 refine veM [11, 16] 1 165 [(0, .ptr 0 0 0), (1, A a1), (5, rf 1 0 6 x9), (6, I x7), (7, A v17.1), (10, I x22), (11, .ptr 2 1 0), (13, I v68.1)] [sc 0 v68.2, sl 0 x9, some ⟨1, [I 1, I 0, I 0, I v23.1, .arr 5 0 (eL ([] : List Zd)) true, .arr 1 0 (eL ([] : List Int)) true]⟩] ?_
 refine Zi ?_
 refine ip 165 [(0, .ptr 0 0 0), (1, A a1), (5, rf 1 0 6 x9), (6, I x7), (7, A v17.1), (10, I x22), (11, .ptr 2 1 0), (13, I v68.1)] [sc 0 v68.2, sl 0 x9, some ⟨1, [I 1, I 0, I 0, I v23.1, .arr 5 0 (eL ([] : List Zd)) true, .arr 1 0 (eL ([] : List Int)) true]⟩] ?_
 refine Za8 (Imp.ghosts 1 (st' := ⟨165, [(0, .ptr 0 0 0), (1, A a1), (5, rf 1 0 6 x9), (6, I x7), (7, A v17.1), (10, I x22), (11, .ptr 2 1 0), (13, I v68.1)], [sc 0 v68.2, sl 0 x9, some ⟨1, [I 1, I 0, I 0, I v23.1, .arr 5 0 (eL ([] : List Zd)) true, .arr 1 0 (eL ([] : List Int)) true]⟩, some ⟨0, []⟩]⟩) (by kernel_rfl)) ?_
 refine pwp_any ([[], [], [], [], [], [3], [], [], [], [], [3], [3]]) ([[], [], [], [], [], [3], [], [], [], [], [3], []]) rfl (by kernel_rfl) ?_
 refine qvM [11, 16] [] trivial 3 165 [(107, I x22), (106, A v17.1), (105, .arr 2 0 (eL ([] : List Zb)) true), (0, .ptr 0 0 0), (1, A a1), (5, rf 1 0 6 x9), (6, I x7), (7, A v17.1), (10, I x22), (11, .ptr 2 1 0), (13, I v68.1)] [sc 0 v68.2, sl 0 x9, some ⟨1, [I 1, I 0, I 0, I v23.1, .arr 5 0 (eL ([] : List Zd)) true, .arr 1 0 (eL ([] : List Int)) true]⟩, some ⟨0, []⟩] ?_
 obtain ⟨v70, hv71, h⟩ := bindS h
 refine qX (some 108) (pf v70 0) 165 [(108, pf v70 0), (105, .arr 2 0 (eL ([] : List Zb)) true), (0, .ptr 0 0 0), (1, A a1), (5, rf 1 0 6 x9), (6, I x7), (7, A v17.1), (10, I x22), (11, .ptr 2 1 0), (13, I v68.1)] [sc 0 v68.2, sl 0 x9, some ⟨1, [I 1, I 0, I 0, I v23.1, .arr 5 0 (eL ([] : List Zd)) true, .arr 1 0 (eL ([] : List Int)) true]⟩, some ⟨0, []⟩] (fun Γ' hΓ => CoreE.of_y (Zaj τ_ok (by kernel_rfl) hv71)) trivial ?_
 refine qvM [11, 16] [] trivial 1 165 [(109, A v70), (105, .arr 2 0 (eL ([] : List Zb)) true), (0, .ptr 0 0 0), (1, A a1), (5, rf 1 0 6 x9), (6, I x7), (7, A v17.1), (10, I x22), (11, .ptr 2 1 0), (13, I v68.1)] [sc 0 v68.2, sl 0 x9, some ⟨1, [I 1, I 0, I 0, I v23.1, .arr 5 0 (eL ([] : List Zd)) true, .arr 1 0 (eL ([] : List Int)) true]⟩, some ⟨0, []⟩] ?_
 obtain ⟨v72, hv73, h⟩ := bindS h
 refine qX (some 110) (rf 3 1 2 v72) 165 [(110, rf 3 1 2 v72), (0, .ptr 0 0 0), (1, A a1), (5, rf 1 0 6 x9), (6, I x7), (7, A v17.1), (10, I x22), (11, .ptr 2 1 0), (13, I v68.1)] [sc 0 v68.2, sl 0 x9, some ⟨1, [I 1, I 0, I 0, I v23.1, .arr 5 0 (eL ([] : List Zd)) true, .arr 1 0 (eL ([] : List Int)) true]⟩, sl 1 v72] (fun Γ' hΓ => apm_E (blk := ⟨0, []⟩) τ_ok 110 3 0 4 (by first | exact py hΓ hQ | exact pky hΓ hQ) hv73 (by kernel_rfl) (by kernel_rfl)) (hL trivial) ?_
 refine qvM [11, 16] [] trivial 2 165 [(112, I v68.1), (111, A v17.1), (110, rf 3 1 2 v72), (0, .ptr 0 0 0), (1, A a1), (5, rf 1 0 6 x9), (6, I x7), (10, I x22), (11, .ptr 2 1 0), (13, I v68.1)] [sc 0 v68.2, sl 0 x9, some ⟨1, [I 1, I 0, I 0, I v23.1, .arr 5 0 (eL ([] : List Zd)) true, .arr 1 0 (eL ([] : List Int)) true]⟩, sl 1 v72] ?_
 obtain ⟨v74, hv75, h⟩ := bindS h
 refine qX (some 113) (pf v74 0) 165 [(113, pf v74 0), (110, rf 3 1 2 v72), (0, .ptr 0 0 0), (1, A a1), (5, rf 1 0 6 x9), (6, I x7), (10, I x22), (11, .ptr 2 1 0), (13, I v68.1)] [sc 0 v68.2, sl 0 x9, some ⟨1, [I 1, I 0, I 0, I v23.1, .arr 5 0 (eL ([] : List Zd)) true, .arr 1 0 (eL ([] : List Int)) true]⟩, sl 1 v72] (fun Γ' hΓ => CoreE.of_y (Zaj τ_ok (by kernel_rfl) hv75)) trivial ?_
 refine qvM [11, 16] [] trivial 1 165 [(114, A v74), (110, rf 3 1 2 v72), (0, .ptr 0 0 0), (1, A a1), (5, rf 1 0 6 x9), (6, I x7), (10, I x22), (11, .ptr 2 1 0), (13, I v68.1)] [sc 0 v68.2, sl 0 x9, some ⟨1, [I 1, I 0, I 0, I v23.1, .arr 5 0 (eL ([] : List Zd)) true, .arr 1 0 (eL ([] : List Int)) true]⟩, sl 1 v72] ?_
 obtain ⟨v76, hv77, h⟩ := bindS h
 refine qX (some 115) (rf 3 2 2 v76) 165 [(115, rf 3 2 2 v76), (0, .ptr 0 0 0), (1, A a1), (5, rf 1 0 6 x9), (6, I x7), (10, I x22), (11, .ptr 2 1 0), (13, I v68.1)] [sc 0 v68.2, sl 0 x9, some ⟨1, [I 1, I 0, I 0, I v23.1, .arr 5 0 (eL ([] : List Zd)) true, .arr 1 0 (eL ([] : List Int)) true]⟩, sl 2 v76] (fun Γ' hΓ => app_Ew τ_ok 115 3 1 (by first | exact py hΓ hQ | exact pky hΓ hQ) hv77 (by kernel_rfl)) (hL trivial) ?_
 refine qvnM [11, 16] [3] (hL trivial) 1 165 [(0, .ptr 0 0 0), (1, A a1), (5, rf 1 0 6 x9), (6, I x7), (10, I x22), (11, .ptr 2 1 0), (13, I v68.1), (14, rf 3 2 2 v76)] [sc 0 v68.2, sl 0 x9, some ⟨1, [I 1, I 0, I 0, I v23.1, .arr 5 0 (eL ([] : List Zd)) true, .arr 1 0 (eL ([] : List Int)) true]⟩, sl 2 v76] ?_
 refine srveM [11, 16] 165 [(0, .ptr 0 0 0), (1, A a1), (5, rf 1 0 6 x9), (6, I x7), (10, I x22), (11, .ptr 2 1 0), (13, I v68.1), (14, rf 3 2 2 v76), (118, B (decide ((v76.length : Int) ≤ 4)))] [sc 0 v68.2, sl 0 x9, some ⟨1, [I 1, I 0, I 0, I v23.1, .arr 5 0 (eL ([] : List Zd)) true, .arr 1 0 (eL ([] : List Int)) true]⟩, sl 2 v76] ?_
 refine pc h (fun h => ?_) (fun h => ?_)
 refine rvM [11, 16] 4 165 [(0, .ptr 0 0 0), (1, A a1), (5, rf 1 0 6 x9), (6, I x7), (11, .ptr 2 1 0), (119, I x22), (120, I v68.1), (121, .ptr 0 0 0), (122, rf 3 2 2 v76)] [sc 0 v68.2, sl 0 x9, some ⟨1, [I 1, I 0, I 0, I v23.1, .arr 5 0 (eL ([] : List Zd)) true, .arr 1 0 (eL ([] : List Int)) true]⟩, sl 2 v76] ?_
 refine opsP_imp (Imp.freezeB (v := 2) (cs := eL v76) (st' := ⟨165, [(0, .ptr 0 0 0), (1, A a1), (5, rf 1 0 6 x9), (6, I x7), (11, .ptr 2 1 0), (119, I x22), (120, I v68.1), (121, .ptr 0 0 0), (122, A v76)], [sc 0 v68.2, sl 0 x9, some ⟨1, [I 1, I 0, I 0, I v23.1, .arr 5 0 (eL ([] : List Zd)) true, .arr 1 0 (eL ([] : List Int)) true]⟩, none]⟩) 3 2 (pn hQ) (by kernel_rfl) (eL_frz _) (wholeC (Zaa (by kernel_rfl)) (wholeC (Zaa (by kernel_rfl)) (wholeC (whole_ne rfl) (wholeC (Zaa (by kernel_rfl)) (wholeC (Zaa (by kernel_rfl)) (wholeC (Zaa (by kernel_rfl)) (wholeC (Zaa (by kernel_rfl)) (wholeC (Zaa (by kernel_rfl)) (wholeC (whole_is (eL_len v76).symm) wholeC0))))))))) (HpRel.frz rfl (Enc.frz _) (HpRel.frz rfl (eL_frz _) (HpRel.frz rfl rfl (HpRel.key HpRel.nil)))) (by kernel_rfl) rfl (p01 hQ)) ?_
 obtain ⟨v79, hv80, h⟩ := bindS h
 refine opsP_E (dd := some 123) (x := rf 4 0 5 v79.1) (callBN_E τ 123 0 0 4 (by first | exact pn hQ | exact pk hQ) (by decide) (ok_spec_l20Expr hv80) rfl (by kernel_rfl) (by kernel_rfl)) ?_
 refine opsP_E (dd := some 124) (x := .agg [I 4, I x22, I v68.1, I 0, rf 4 0 5 v79.1, .arr 1 0 (eL ([] : List Int)) true]) (CoreE.of_y (bldV_sound (zs := [.lit (.int .i64 0), .lit (.int .i64 0), .lit (.int .i64 0), .lit (.int .i64 0), .arr 5 0 [] true, .arr 1 0 [] true]) (cells := [I 4, I x22, I v68.1, I 0, rf 4 0 5 v79.1, .arr 1 0 (eL ([] : List Int)) true]) τ_ok zi_ok37 (by kernel_rfl))) ?_
 refine veM [11, 16] 1 165 [(0, .ptr 0 0 0), (1, A a1), (5, rf 1 0 6 x9), (6, I x7), (11, .ptr 2 1 0)] [sc 0 v79.2, sl 0 x9, some ⟨1, [I 4, I x22, I v68.1, I 0, rf 4 0 5 v79.1, .arr 1 0 (eL ([] : List Int)) true]⟩, none, sl 0 v79.1] ?_
 exact ⟨(v79.2, (Zf.mk 4 x22 v68.1 0 v79.1 [])), h, qt (it (st' := ⟨165, [(0, .ptr 0 0 0), (1, A a1), (5, rf 1 0 6 x9), (6, I x7), (11, .ptr 2 1 0)], [sc 0 v79.2, sl 0 x9, some ⟨1, [I 4, I x22, I v68.1, I 0, rf 4 0 5 v79.1, .arr 1 0 (eL ([] : List Int)) true]⟩, none, sl 0 v79.1]⟩) [0, 1, 5, 6, 11]) (qt (Imp.freezeB (v := 0) (cs := eL v79.1) (st' := ⟨165, [(0, .ptr 0 0 0), (1, A a1), (5, rf 1 0 6 x9), (6, I x7), (11, .ptr 2 1 0)], [sc 0 v79.2, sl 0 x9, some ⟨1, [I 4, I x22, I v68.1, I 0, A v79.1, .arr 1 0 (eL ([] : List Int)) true]⟩, none, none]⟩) 4 0 (pn hQ) (by kernel_rfl) (eL_frz _) (wholeC (Zaa (by kernel_rfl)) (wholeC (Zaa (by kernel_rfl)) (wholeC (whole_ne rfl) (wholeC (Zaa (by kernel_rfl)) (wholeC (Zaa (by kernel_rfl)) wholeC0))))) (HpRel.frz rfl (Enc.frz _) (HpRel.frz rfl (eL_frz _) (HpRel.box rfl (Zp.cons ⟨rfl, trivial, rfl⟩ (Zp.cons ⟨rfl, trivial, rfl⟩ (Zp.cons ⟨rfl, trivial, rfl⟩ (Zp.cons ⟨rfl, trivial, rfl⟩ (Zp.cons ⟨rfl, (whole_is (eL_len v79.1).symm), rfl⟩ (Zp.cons ⟨rfl, trivial, rfl⟩ Zp.nil)))))) (HpRel.none rfl (HpRel.key HpRel.nil))))) (by kernel_rfl) rfl (p01 hQ)) (qt (Imp.softB (st' := ⟨165, [(0, .ptr 0 0 0), (1, A a1), (5, rf 1 0 6 x9), (6, I x7), (11, .ptr 2 1 0)], [sc 0 v79.2, sl 0 x9, some ⟨1, Enc.cells (Zf.mk 4 x22 v68.1 0 v79.1 [])⟩, none, none]⟩) 5 (by kernel_rfl) (HpRel.frz rfl (Enc.frz _) (HpRel.frz rfl (eL_frz _) (HpRel.box rfl (Zp.cons rfl (Zp.cons rfl (Zp.cons rfl (Zp.cons rfl (Zp.cons rfl (Zp.cons rfl Zp.nil)))))) (HpRel.none rfl (HpRel.none rfl HpRel.nil))))) (by kernel_rfl) (by rfl) (p01 hQ)) (Imp.truncS 3 (pl hQ) (by kernel_rfl) (allBelow_mem (by exact (And.intro rfl (And.intro rfl (And.intro rfl (And.intro rfl (And.intro rfl trivial))))))) (by exact (And.intro (rfl) (And.intro (frz_below (eL_frz _)) (And.intro (rfl) trivial)))) (by kernel_rfl))))⟩
 refine Zj ?_
 exact ⟨(v68.2, (Zf.mk 1 0 0 v23.1 [] [])), h, qt (it (st' := ⟨165, [(0, .ptr 0 0 0), (1, A a1), (5, rf 1 0 6 x9), (6, I x7), (11, .ptr 2 1 0)], [sc 0 v68.2, sl 0 x9, some ⟨1, [I 1, I 0, I 0, I v23.1, .arr 5 0 (eL ([] : List Zd)) true, .arr 1 0 (eL ([] : List Int)) true]⟩, sl 2 v76]⟩) [0, 1, 5, 6, 11]) (qt (Imp.softB (st' := ⟨165, [(0, .ptr 0 0 0), (1, A a1), (5, rf 1 0 6 x9), (6, I x7), (11, .ptr 2 1 0)], [sc 0 v68.2, sl 0 x9, some ⟨1, Enc.cells (Zf.mk 1 0 0 v23.1 [] [])⟩, sl 2 v76]⟩) 4 (by kernel_rfl) (HpRel.frz rfl (Enc.frz _) (HpRel.frz rfl (eL_frz _) (HpRel.box rfl (Zp.cons rfl (Zp.cons rfl (Zp.cons rfl (Zp.cons rfl (Zp.cons rfl (Zp.cons rfl Zp.nil)))))) (HpRel.frz rfl (eL_frz _) HpRel.nil)))) (by kernel_rfl) (by rfl) (p01 hQ)) (Imp.truncS 3 (pl hQ) (by kernel_rfl) (allBelow_mem (by exact (And.intro rfl (And.intro rfl (And.intro rfl (And.intro rfl (And.intro rfl trivial))))))) (by exact (And.intro (rfl) (And.intro (frz_below (eL_frz _)) (And.intro (rfl) trivial)))) (by kernel_rfl)))⟩
 refine srveM [11, 16] 165 [(0, .ptr 0 0 0), (1, A a1), (5, rf 1 0 6 x9), (6, I x7), (7, A v17.1), (9, I (x9.length : Int)), (10, I x22), (11, .ptr 2 1 0), (58, I v36.1), (125, B (v36.1 == 4))] [sc 0 v36.2, sl 0 x9, some ⟨1, [I 1, I 0, I 0, I v23.1, .arr 5 0 (eL ([] : List Zd)) true, .arr 1 0 (eL ([] : List Int)) true]⟩] ?_
 refine pc h (fun h => ?_) (fun h => ?_)
 refine srveM [11, 16] 165 [(0, .ptr 0 0 0), (1, A a1), (5, rf 1 0 6 x9), (6, I x7), (7, A v17.1), (9, I (x9.length : Int)), (10, I x22), (11, .ptr 2 1 0), (15, I 0)] [sc 0 v36.2, sl 0 x9, some ⟨1, [I 1, I 0, I 0, I v23.1, .arr 5 0 (eL ([] : List Zd)) true, .arr 1 0 (eL ([] : List Int)) true]⟩] ?_
 refine Zk ?_
 refine ip 165 [(0, .ptr 0 0 0), (1, A a1), (5, rf 1 0 6 x9), (6, I x7), (7, A v17.1), (9, I (x9.length : Int)), (10, I x22), (11, .ptr 2 1 0), (15, I 0)] [sc 0 v36.2, sl 0 x9, some ⟨1, [I 1, I 0, I 0, I v23.1, .arr 5 0 (eL ([] : List Zd)) true, .arr 1 0 (eL ([] : List Int)) true]⟩] ?_
 refine Za8 (Imp.softB (st' := ⟨165, [(0, .ptr 0 0 0), (1, A a1), (5, rf 1 0 6 x9), (6, I x7), (7, A v17.1), (9, I (x9.length : Int)), (10, I x22), (11, .ptr 2 1 0), (15, I 0)], [sc 0 v36.2, sl 0 x9, some ⟨1, Enc.cells (Zf.mk 1 0 0 v23.1 [] [])⟩]⟩) 3 (by kernel_rfl) (HpRel.frz rfl (Enc.frz _) (HpRel.frz rfl (eL_frz _) (HpRel.box rfl (Zp.cons rfl (Zp.cons rfl (Zp.cons rfl (Zp.cons rfl (Zp.cons rfl (Zp.cons rfl Zp.nil)))))) HpRel.nil))) (by kernel_rfl) (by rfl) (p01 hQ)) ?_
 refine Zaf (ι := Nat × Int × Zf) (fun (f87, x85, x86) => (⟨165, [(0, .ptr 0 0 0), (1, A a1), (5, rf 1 0 6 x9), (6, I x7), (7, A v17.1), (9, I (x9.length : Int)), (10, I x22), (11, .ptr 2 1 0), (15, I x85)], [sc 0 v36.2, sl 0 x9, sc 1 x86]⟩ : St)) (fun (f87, x85, x86) => spec_l20Plan_l7 a1 x7 x9 (Zar a1 f10) v17 x22 v36 f87 x85 x86 = some y) Prod.fst (FUEL, 0, (Zf.mk 1 0 0 v23.1 [] [])) h (it [0, 1, 5, 6, 7, 9, 10, 11, 15]) ?_
 rintro ⟨f87, x85, x86⟩ h
 dsimp only at h ⊢
 rcases f87 with _ | f87
 cases h
 rw [spec_l20Plan_l7] at h
 refine Zi ?_
 refine srveM [11, 16] 165 [(0, .ptr 0 0 0), (1, A a1), (5, rf 1 0 6 x9), (6, I x7), (7, A v17.1), (9, I (x9.length : Int)), (10, I x22), (11, .ptr 2 1 0), (15, I x85), (129, B (decide (x85 < (x9.length : Int))))] [sc 0 v36.2, sl 0 x9, sc 1 x86] ?_
 refine pc h (fun h => ?_) (fun h => ?_)
 refine Zj ?_
 refine Zi ?_
 refine Zab (σ := Zf) (fun x90 => (⟨165, [(0, .ptr 0 0 0), (1, A a1), (5, rf 1 0 6 x9), (6, I x7), (7, A v17.1), (9, I (x9.length : Int)), (10, I x22), (11, .ptr 2 1 0), (15, I x85)], [sc 0 v36.2, sl 0 x9, sc 1 x90, some ⟨1, Enc.cells (Zf.mk 5 x22 x85 0 [] [])⟩]⟩ : St)) (fun x90 => spec_l20Plan_j8 x85 (spec_l20Plan_l7 a1 x7 x9 (Zar a1 f10) v17 x22 v36 f87) x90 = some y) ?_ ?_
 refine Zk ?_
 refine srvM [11, 16] 2 165 [(0, .ptr 0 0 0), (1, A a1), (5, rf 1 0 6 x9), (6, I x7), (7, A v17.1), (9, I (x9.length : Int)), (10, I x22), (11, .ptr 2 1 0), (15, I x85), (132, I x22), (133, I x85)] [sc 0 v36.2, sl 0 x9, sc 1 x86] ?_
 refine opsP_E (dd := some 134) (x := .agg [I 5, I x22, I x85, I 0, .arr 5 0 (eL ([] : List Zd)) true, .arr 1 0 (eL ([] : List Int)) true]) (CoreE.of_y (bldV_sound (zs := [.lit (.int .i64 0), .lit (.int .i64 0), .lit (.int .i64 0), .lit (.int .i64 0), .arr 5 0 [] true, .arr 1 0 [] true]) (cells := [I 5, I x22, I x85, I 0, .arr 5 0 (eL ([] : List Zd)) true, .arr 1 0 (eL ([] : List Int)) true]) τ_ok zi_ok37 (by kernel_rfl))) ?_
 refine vM [11, 16] 0 165 [(0, .ptr 0 0 0), (1, A a1), (5, rf 1 0 6 x9), (6, I x7), (7, A v17.1), (9, I (x9.length : Int)), (10, I x22), (11, .ptr 2 1 0), (15, I x85), (134, .agg [I 5, I x22, I x85, I 0, .arr 5 0 (eL ([] : List Zd)) true, .arr 1 0 (eL ([] : List Int)) true])] [sc 0 v36.2, sl 0 x9, sc 1 x86] ?_
 refine opsP_imp (Imp.ghosts 1 (st' := ⟨165, [(0, .ptr 0 0 0), (1, A a1), (5, rf 1 0 6 x9), (6, I x7), (7, A v17.1), (9, I (x9.length : Int)), (10, I x22), (11, .ptr 2 1 0), (15, I x85), (134, .agg [I 5, I x22, I x85, I 0, .arr 5 0 (eL ([] : List Zd)) true, .arr 1 0 (eL ([] : List Int)) true])], [sc 0 v36.2, sl 0 x9, sc 1 x86, some ⟨0, []⟩]⟩) (by kernel_rfl)) ?_
 refine opsP_E (dd := some 16) (x := .ptr 3 1 0) (alz_E (blk := ⟨0, []⟩) (zs := [.lit (.int .i64 0), .lit (.int .i64 0), .lit (.int .i64 0), .lit (.int .i64 0), .arr 5 0 [] true, .arr 1 0 [] true]) 16 37 3 0 (pn hQ) zi_ok37 (by kernel_rfl) (by kernel_rfl)) ?_
 refine veM [11, 16] 1 165 [(0, .ptr 0 0 0), (1, A a1), (5, rf 1 0 6 x9), (6, I x7), (7, A v17.1), (9, I (x9.length : Int)), (10, I x22), (11, .ptr 2 1 0), (15, I x85), (16, .ptr 3 1 0)] [sc 0 v36.2, sl 0 x9, sc 1 x86, some ⟨1, [I 5, I x22, I x85, I 0, .arr 5 0 (eL ([] : List Zd)) true, .arr 1 0 (eL ([] : List Int)) true]⟩] ?_
 refine srvM [11, 16] 3 165 [(0, .ptr 0 0 0), (1, A a1), (5, rf 1 0 6 x9), (6, I x7), (7, A v17.1), (9, I (x9.length : Int)), (10, I x22), (11, .ptr 2 1 0), (15, I x85), (16, .ptr 3 1 0), (136, A a1), (137, A v17.1), (138, .agg [I 5, I x22, I x85, I 0, .arr 5 0 (eL ([] : List Zd)) true, .arr 1 0 (eL ([] : List Int)) true])] [sc 0 v36.2, sl 0 x9, sc 1 x86, some ⟨1, [I 5, I x22, I x85, I 0, .arr 5 0 (eL ([] : List Zd)) true, .arr 1 0 (eL ([] : List Int)) true]⟩] ?_
 refine opsP_imp (Imp.softB (st' := ⟨165, [(0, .ptr 0 0 0), (1, A a1), (5, rf 1 0 6 x9), (6, I x7), (7, A v17.1), (9, I (x9.length : Int)), (10, I x22), (11, .ptr 2 1 0), (15, I x85), (16, .ptr 3 1 0), (136, A a1), (137, A v17.1), (138, E (Zf.mk 5 x22 x85 0 [] []))], [sc 0 v36.2, sl 0 x9, sc 1 x86, some ⟨1, Enc.cells (Zf.mk 5 x22 x85 0 [] [])⟩]⟩) 4 (by kernel_rfl) (HpRel.frz rfl (Enc.frz _) (HpRel.frz rfl (eL_frz _) (HpRel.frz rfl (Enc.frz _) (HpRel.box rfl (Zp.cons rfl (Zp.cons rfl (Zp.cons rfl (Zp.cons rfl (Zp.cons rfl (Zp.cons rfl Zp.nil)))))) HpRel.nil)))) (by kernel_rfl) (by rfl) (p01 hQ)) ?_
 obtain ⟨v91, hv92, h⟩ := bindS h
 refine opsP_callF τ 139 (ok_spec_l6Columns hv92) (FzTo.tup (FzToL.cons (FzTo.O _) (FzToL.cons (FzTo.frz rfl) FzToL.nil))) rfl (by kernel_rfl) ?_
 refine veM [11, 16] 5 165 [(0, .ptr 0 0 0), (1, A a1), (5, rf 1 0 6 x9), (6, I x7), (7, A v17.1), (9, I (x9.length : Int)), (10, I x22), (11, .ptr 2 1 0), (15, I x85), (16, .ptr 3 1 0), (18, B v91.2)] [sc 0 v36.2, sl 0 x9, sc 1 x86, some ⟨1, Enc.cells (Zf.mk 5 x22 x85 0 [] [])⟩] ?_
 refine srveM [11, 16] 165 [(0, .ptr 0 0 0), (1, A a1), (5, rf 1 0 6 x9), (6, I x7), (7, A v17.1), (9, I (x9.length : Int)), (10, I x22), (11, .ptr 2 1 0), (15, I x85), (16, .ptr 3 1 0), (142, B v91.2)] [sc 0 v36.2, sl 0 x9, sc 1 x86, some ⟨1, Enc.cells (Zf.mk 5 x22 x85 0 [] [])⟩] ?_
 refine pc h (fun h => ?_) (fun h => ?_)
 refine rveM [11, 16] 165 [(0, .ptr 0 0 0), (1, A a1), (5, rf 1 0 6 x9), (6, I x7), (7, A v17.1), (9, I (x9.length : Int)), (10, I x22), (11, .ptr 2 1 0), (15, I x85)] [sc 0 v36.2, sl 0 x9, some ⟨1, Enc.cells (Zf.mk 5 x22 x85 0 [] [])⟩, some ⟨1, Enc.cells (Zf.mk 5 x22 x85 0 [] [])⟩] ?_
 exact ⟨(Zf.mk 5 x22 x85 0 [] []), h, it [0, 1, 5, 6, 7, 9, 10, 11, 15]⟩
 refine Zj ?_
 exact ⟨x86, h, it [0, 1, 5, 6, 7, 9, 10, 11, 15]⟩
 rintro x90 h
 unfold spec_l20Plan_j8 at h
 refine rveM [11, 16] 165 [(0, .ptr 0 0 0), (1, A a1), (5, rf 1 0 6 x9), (6, I x7), (7, A v17.1), (9, I (x9.length : Int)), (10, I x22), (11, .ptr 2 1 0), (15, I (w64 (x85 + 1)))] [sc 0 v36.2, sl 0 x9, sc 1 x90, some ⟨1, Enc.cells (Zf.mk 5 x22 x85 0 [] [])⟩] ?_
 exact ⟨(f87, (w64 (x85 + 1)), x90), h, Nat.lt_succ_self _, (it (st' := ⟨165, [(0, .ptr 0 0 0), (1, A a1), (5, rf 1 0 6 x9), (6, I x7), (7, A v17.1), (9, I (x9.length : Int)), (10, I x22), (11, .ptr 2 1 0), (15, I (w64 (x85 + 1)))], [sc 0 v36.2, sl 0 x9, sc 1 x90, some ⟨1, Enc.cells (Zf.mk 5 x22 x85 0 [] [])⟩]⟩) [0, 1, 5, 6, 7, 9, 10, 11, 15]).trans (Imp.truncS 3 (pl hQ) (by kernel_rfl) (allBelow_mem (by exact (And.intro rfl (And.intro rfl (And.intro rfl (And.intro rfl (And.intro rfl (And.intro rfl (And.intro rfl (And.intro rfl (And.intro rfl trivial))))))))))) (by exact (And.intro (rfl) (And.intro (frz_below (eL_frz _)) (And.intro (rfl) trivial)))) (by kernel_rfl))⟩
 refine Zae ?_
 exact ⟨(v36.2, x86), h, it [0, 1, 5, 6, 11]⟩
 refine srveM [11, 16] 165 [(0, .ptr 0 0 0), (1, A a1), (5, rf 1 0 6 x9), (6, I x7), (10, I x22), (11, .ptr 2 1 0), (144, B (v36.1 == 5))] [sc 0 v36.2, sl 0 x9, some ⟨1, [I 1, I 0, I 0, I v23.1, .arr 5 0 (eL ([] : List Zd)) true, .arr 1 0 (eL ([] : List Int)) true]⟩] ?_
 refine pc h (fun h => ?_) (fun h => ?_)
 refine rvM [11, 16] 1 165 [(0, .ptr 0 0 0), (1, A a1), (5, rf 1 0 6 x9), (6, I x7), (11, .ptr 2 1 0), (146, I x22)] [sc 0 v36.2, sl 0 x9, some ⟨1, [I 1, I 0, I 0, I v23.1, .arr 5 0 (eL ([] : List Zd)) true, .arr 1 0 (eL ([] : List Int)) true]⟩] ?_
 refine opsP_E (dd := some 147) (x := .agg [I 6, I x22, I 0, I 0, .arr 5 0 (eL ([] : List Zd)) true, .arr 1 0 (eL ([] : List Int)) true]) (CoreE.of_y (bldV_sound (zs := [.lit (.int .i64 0), .lit (.int .i64 0), .lit (.int .i64 0), .lit (.int .i64 0), .arr 5 0 [] true, .arr 1 0 [] true]) (cells := [I 6, I x22, I 0, I 0, .arr 5 0 (eL ([] : List Zd)) true, .arr 1 0 (eL ([] : List Int)) true]) τ_ok zi_ok37 (by kernel_rfl))) ?_
 refine veM [11, 16] 1 165 [(0, .ptr 0 0 0), (1, A a1), (5, rf 1 0 6 x9), (6, I x7), (11, .ptr 2 1 0)] [sc 0 v36.2, sl 0 x9, some ⟨1, [I 6, I x22, I 0, I 0, .arr 5 0 (eL ([] : List Zd)) true, .arr 1 0 (eL ([] : List Int)) true]⟩] ?_
 exact ⟨(v36.2, (Zf.mk 6 x22 0 0 [] [])), h, qt (it (st' := ⟨165, [(0, .ptr 0 0 0), (1, A a1), (5, rf 1 0 6 x9), (6, I x7), (11, .ptr 2 1 0)], [sc 0 v36.2, sl 0 x9, some ⟨1, [I 6, I x22, I 0, I 0, .arr 5 0 (eL ([] : List Zd)) true, .arr 1 0 (eL ([] : List Int)) true]⟩]⟩) [0, 1, 5, 6, 11]) (qt (Imp.softB (st' := ⟨165, [(0, .ptr 0 0 0), (1, A a1), (5, rf 1 0 6 x9), (6, I x7), (11, .ptr 2 1 0)], [sc 0 v36.2, sl 0 x9, some ⟨1, Enc.cells (Zf.mk 6 x22 0 0 [] [])⟩]⟩) 3 (by kernel_rfl) (HpRel.frz rfl (Enc.frz _) (HpRel.frz rfl (eL_frz _) (HpRel.box rfl (Zp.cons rfl (Zp.cons rfl (Zp.cons rfl (Zp.cons rfl (Zp.cons rfl (Zp.cons rfl Zp.nil)))))) HpRel.nil))) (by kernel_rfl) (by rfl) (p01 hQ)) (it [0, 1, 5, 6, 11]))⟩
 refine Zj ?_
 exact ⟨(v36.2, (Zf.mk 1 0 0 v23.1 [] [])), h, qt (it (st' := ⟨165, [(0, .ptr 0 0 0), (1, A a1), (5, rf 1 0 6 x9), (6, I x7), (11, .ptr 2 1 0)], [sc 0 v36.2, sl 0 x9, some ⟨1, [I 1, I 0, I 0, I v23.1, .arr 5 0 (eL ([] : List Zd)) true, .arr 1 0 (eL ([] : List Int)) true]⟩]⟩) [0, 1, 5, 6, 11]) (qt (Imp.softB (st' := ⟨165, [(0, .ptr 0 0 0), (1, A a1), (5, rf 1 0 6 x9), (6, I x7), (11, .ptr 2 1 0)], [sc 0 v36.2, sl 0 x9, some ⟨1, Enc.cells (Zf.mk 1 0 0 v23.1 [] [])⟩]⟩) 3 (by kernel_rfl) (HpRel.frz rfl (Enc.frz _) (HpRel.frz rfl (eL_frz _) (HpRel.box rfl (Zp.cons rfl (Zp.cons rfl (Zp.cons rfl (Zp.cons rfl (Zp.cons rfl (Zp.cons rfl Zp.nil)))))) HpRel.nil))) (by kernel_rfl) (by rfl) (p01 hQ)) (it [0, 1, 5, 6, 11]))⟩
 rintro ⟨x25, x26⟩ h
 dsimp only at h ⊢
 unfold spec_l20Plan_j3 at h
 refine Zi ?_
 refine ip 165 [(0, .ptr 0 0 0), (1, A a1), (5, rf 1 0 6 x9), (6, I x7), (11, .ptr 2 1 0)] [sc 0 x25, sl 0 x9, sc 1 x26] ?_
 refine Za8 (Imp.ghosts 1 (st' := ⟨165, [(0, .ptr 0 0 0), (1, A a1), (5, rf 1 0 6 x9), (6, I x7), (11, .ptr 2 1 0)], [sc 0 x25, sl 0 x9, sc 1 x26, some ⟨0, []⟩]⟩) (by kernel_rfl)) ?_
 refine pwp_any ([[], [], [1], [1, 3], [2], [], [3], [3], [], [], [], [], []]) ([[], [], [], [3], [], [], [3], [], [], [], [], [], []]) rfl (by kernel_rfl) ?_
 refine qvM [11, 16] [] trivial 2 165 [(150, .arr 6 0 (eL ([] : List Zf)) true), (149, A a1), (0, .ptr 0 0 0), (1, A a1), (5, rf 1 0 6 x9), (6, I x7), (11, .ptr 2 1 0)] [sc 0 x25, sl 0 x9, sc 1 x26, some ⟨0, []⟩] ?_
 refine qvM [11, 16] [1] (hL trivial) 1 165 [(151, rf 1 0 6 x9), (150, .arr 6 0 (eL ([] : List Zf)) true), (149, A a1), (0, .ptr 0 0 0), (1, A a1), (5, rf 1 0 6 x9), (6, I x7), (11, .ptr 2 1 0)] [sc 0 x25, sl 0 x9, sc 1 x26, some ⟨0, []⟩] ?_
 obtain ⟨v27, hv28, h⟩ := bindS h
 refine qX (some 152) (rf 3 1 6 v27) 165 [(152, rf 3 1 6 v27), (149, A a1), (0, .ptr 0 0 0), (1, A a1), (5, rf 1 0 6 x9), (6, I x7), (11, .ptr 2 1 0)] [sc 0 x25, sl 0 x9, sc 1 x26, sl 1 v27] (fun Γ' hΓ => apmR_E (blk := ⟨0, []⟩) τ_ok 152 3 0 4 (by first | exact py hΓ hQ | exact pky hΓ hQ) hv28 (by kernel_rfl) (by kernel_rfl)) (hL (hL trivial)) ?_
 refine qvM [11, 16] [2] (hB trivial) 1 165 [(153, E x26), (152, rf 3 1 6 v27), (149, A a1), (0, .ptr 0 0 0), (1, A a1), (5, rf 1 0 6 x9), (6, I x7), (11, .ptr 2 1 0)] [sc 0 x25, sl 0 x9, sc 1 x26, sl 1 v27] ?_
 refine qvM [11, 16] [] trivial 1 165 [(154, .arr 6 ([x26] : List Zf).length (eL ([x26] : List Zf)) true), (152, rf 3 1 6 v27), (149, A a1), (0, .ptr 0 0 0), (1, A a1), (5, rf 1 0 6 x9), (6, I x7), (11, .ptr 2 1 0)] [sc 0 x25, sl 0 x9, sc 1 x26, sl 1 v27] ?_
 obtain ⟨v29, hv30, h⟩ := bindS h
 refine qX (some 155) (rf 3 2 6 v29) 165 [(155, rf 3 2 6 v29), (149, A a1), (0, .ptr 0 0 0), (1, A a1), (5, rf 1 0 6 x9), (6, I x7), (11, .ptr 2 1 0)] [sc 0 x25, sl 0 x9, sc 1 x26, sl 2 v29] (fun Γ' hΓ => app_Ew τ_ok 155 3 1 (by first | exact py hΓ hQ | exact pky hΓ hQ) hv30 (by kernel_rfl)) (hL trivial) ?_
 obtain ⟨v31, hv32, h⟩ := bindS h
 refine qX (some 156) (.tup [A v31.1, B v31.2]) 165 [(156, .tup [A v31.1, B v31.2]), (0, .ptr 0 0 0), (1, A a1), (5, rf 1 0 6 x9), (6, I x7), (11, .ptr 2 1 0)] [sc 0 x25, sl 0 x9, sc 1 x26, sl 2 v29] (fun Γ' hΓ => callS_E τ 156 3 2 (ok_spec_l6All_L1 hv32) (FzTo.tup (FzToL.cons (FzTo.O _) (FzToL.cons (FzTo.frz rfl) FzToL.nil))) rfl rfl (by kernel_rfl)) (hL trivial) ?_
 refine qvnM [11, 16] [] trivial 5 165 [(0, .ptr 0 0 0), (1, A a1), (5, rf 1 0 6 x9), (6, I x7), (11, .ptr 2 1 0), (20, B v31.2)] [sc 0 x25, sl 0 x9, sc 1 x26, sl 2 v29] ?_
 refine srveM [11, 16] 165 [(0, .ptr 0 0 0), (1, A a1), (5, rf 1 0 6 x9), (6, I x7), (11, .ptr 2 1 0), (159, B v31.2)] [sc 0 x25, sl 0 x9, sc 1 x26, sl 2 v29] ?_
 refine pc h (fun h => ?_) (fun h => ?_)
 refine rvM [11, 16] 3 165 [(0, .ptr 0 0 0), (1, A a1), (6, I x7), (160, rf 1 0 6 x9), (162, .arr 6 ([x26] : List Zf).length (eL ([x26] : List Zf)) true)] [sc 0 x25, sl 0 x9, sc 1 x26, sl 2 v29] ?_
 obtain ⟨v34, hv35, h⟩ := bindS h
 refine Zan τ_ok 163 1 0 (pn hQ) hv35 (by kernel_rfl) ?_
 refine veM [11, 16] 1 165 [(0, .ptr 0 0 0), (1, A a1), (5, rf 1 1 6 v34), (6, I x7)] [sc 0 x25, sl 1 v34, sc 1 x26, sl 2 v29] ?_
 exact ⟨(x25, v34, x26, v29), h, qt (it (st' := ⟨165, [(0, .ptr 0 0 0), (1, A a1), (5, rf 1 1 6 v34), (6, I x7)], [sc 0 x25, sl 1 v34, sc 1 x26, sl 2 v29]⟩) [0, 1, 5, 6]) (qt (Imp.reverS (st' := ⟨165, [(0, .ptr 0 0 0), (1, A a1), (5, rf 1 0 6 v34), (6, I x7)], [sc 0 x25, sl 0 v34, sc 1 x26, sl 2 v29]⟩) 1 1 (eL v34) [0, 1, 5, 6] (by kernel_rfl) (by exact (And.intro (rfl) (And.intro (eL_frz _) (And.intro (rfl) (And.intro (eL_frz _) trivial))))) (by kernel_rfl)) (Imp.reverS 3 2 (eL v29) [0, 1, 5, 6] (by kernel_rfl) (by exact (And.intro (rfl) (And.intro (eL_frz _) (And.intro (rfl) (And.intro (eL_frz _) trivial))))) (by kernel_rfl)))⟩
 refine Zj ?_
 exact ⟨(x25, x9, x26, v29), h, (it (st' := ⟨165, [(0, .ptr 0 0 0), (1, A a1), (5, rf 1 0 6 x9), (6, I x7)], [sc 0 x25, sl 0 x9, sc 1 x26, sl 2 v29]⟩) [0, 1, 5, 6]).trans (Imp.reverS 3 2 (eL v29) [0, 1, 5, 6] (by kernel_rfl) (by exact (And.intro (rfl) (And.intro (eL_frz _) (And.intro (rfl) (And.intro (eL_frz _) trivial))))) (by kernel_rfl))⟩
 rintro ⟨x13, x14, x15, x16⟩ h
 dsimp only at h ⊢
 unfold spec_l20Plan_j1 at h
 refine rveM [11, 16] 165 [(0, .ptr 0 0 0), (1, A a1), (5, rf 1 0 6 x14), (6, I (w64 (x7 - 1)))] [sc 0 x13, sl 0 x14, sc 1 x15, sl 0 x16] ?_
 exact ⟨(f10, (w64 (x7 - 1)), x13, x14), h, Nat.lt_succ_self _, (it (st' := ⟨165, [(0, .ptr 0 0 0), (1, A a1), (5, rf 1 0 6 x14), (6, I (w64 (x7 - 1)))], [sc 0 x13, sl 0 x14, sc 1 x15, sl 0 x16]⟩) [0, 1, 5, 6]).trans (Imp.truncS 2 (pl hQ) (by kernel_rfl) (allBelow_mem (by exact (And.intro rfl (And.intro rfl (And.intro rfl (And.intro rfl trivial)))))) (by exact (And.intro (rfl) (And.intro (frz_below (eL_frz _)) trivial))) (by kernel_rfl))⟩
 refine Zae ?_
 refine srveM [11, 16] 165 [(4, rf 1 0 6 x9)] [sc 0 x8, sl 0 x9] ?_
 have h := si h
 subst h
 exact Zg ⟨.inr rfl, rf 1 0 6 x9, _, 0, by kernel_rfl, (OutP.list (v := 0) (by kernel_rfl)), by decide, by decide, by kernel_rfl⟩
def Zbg (a0 : List Zb) : Option (List Zb) := (slI a0 none (some (a0.length : Int)) (some (a0.length : Int))).bind fun v1 => some v1
theorem ok_slices_Clip_impl_Column_impl_Column_R {a0 : List Zb} {y : List Zb} (h : Zbg a0 = some y) : OKm Tryz.prog 96 [O a0] (O y) := by
 refine OKm_of_pwp (sl := [rf 0 0 2 a0]) (bs := [⟨0, eL a0⟩]) τ_ok Tryz.func96 rfl (by kernel_rfl) rfl (by kernel_rfl) fun Γ hX => ?_
 refine Za8 (Imp.to (st' := ⟨9, [(0, rf 0 0 2 a0)], [sl 0 a0]⟩) [0] (by kernel_rfl)) ?_
 unfold Zbg at h
 refine srve 9 [(0, rf 0 0 2 a0)] [sl 0 a0] ?_
 refine srv 5 9 [(3, rf 0 0 2 a0), (5, I (a0.length : Int)), (7, I (a0.length : Int))] [sl 0 a0] ?_
 obtain ⟨v1, hv2, h⟩ := bindS h
 refine opsP_slr τ_ok 8 0 0 a0.length hv2 rfl (by kernel_rfl) ?_
 refine ve 1 9 [(2, rf 0 0 2 v1)] [sl 0 a0] ?_
 refine ip 9 [(2, rf 0 0 2 v1)] [sl 0 a0] ?_
 refine Za8 (Imp.cut (st' := ⟨9, [(2, rf 0 0 2 v1)], [sl 0 v1]⟩) 0 0 a0 v1 (by kernel_rfl) (slI_view hv2) (by kernel_rfl)) ?_
 have h := si h
 subst h
 exact Zg (rt (rf 0 0 2 v1) (OutP.list (v := 0) (by kernel_rfl)))
def spec_l20Short (a0 : Zc) : Option (((List Zh) × (List Zf)) × Zc) := (spec_l20Tables a0 0).bind fun v1 => (spec_l20Plan v1.2 v1.1).bind fun v3 => (Zm v3.2 (minL (v3.1.length : Int) [4])).bind fun v5 => (slI v3.1 none (some (w64 (1 + v5.1))) none).bind fun v7 => some ((v1.1, v7), v5.2)
theorem ok_spec_l20Short {a0 : Zc} {y : ((List Zh) × (List Zf)) × Zc} (h : spec_l20Short a0 = some y) : OKb Tryz.prog 21 (Enc.cells a0) [] (.tup [A y.1.1, A y.1.2]) (Enc.cells y.2) := by
 refine OKb_of_pwp τ_ok Tryz.func21 rfl (by kernel_rfl) rfl (Enc.frz _) (Enc.frz _) fun Γ hQ => ?_
 unfold spec_l20Short at h
 refine srve 20 [(0, .ptr 0 0 0)] [sc 0 a0] ?_
 refine srv 1 20 [(0, .ptr 0 0 0), (6, .ptr 0 0 0)] [sc 0 a0] ?_
 obtain ⟨v1, hv2, h⟩ := bindS h
 refine cBo 7 0 0 (ok_spec_l20Tables hv2) ?_
 refine ve 1 20 [(0, .ptr 0 0 0), (4, A v1.1)] [sc 0 v1.2] ?_
 refine srv 2 20 [(0, .ptr 0 0 0), (4, A v1.1), (8, .ptr 0 0 0), (9, A v1.1)] [sc 0 v1.2] ?_
 obtain ⟨v3, hv4, h⟩ := bindS h
 refine cBo 10 0 0 (ok_spec_l20Plan hv4) ?_
 refine ve 1 20 [(0, .ptr 0 0 0), (4, A v1.1), (5, A v3.1)] [sc 0 v3.2] ?_
 refine Zi ?_
 refine ip 20 [(0, .ptr 0 0 0), (4, A v1.1), (5, A v3.1)] [sc 0 v3.2] ?_
 refine pwp_any ([[], [], [0], [], [], [], [0], [], [], [], []]) ([[], [], [], [], [], [], [0], [], [], [], []]) rfl (by kernel_rfl) ?_
 refine qv [] trivial 2 20 [(12, A v3.1), (11, A v1.1), (0, .ptr 0 0 0), (5, A v3.1)] [sc 0 v3.2] ?_
 refine qv [0] (hB trivial) 1 20 [(13, .ptr 0 0 0), (12, A v3.1), (11, A v1.1), (5, A v3.1)] [sc 0 v3.2] ?_
 refine qv [] trivial 2 20 [(15, I (v3.1.length : Int)), (13, .ptr 0 0 0), (12, A v3.1), (11, A v1.1)] [sc 0 v3.2] ?_
 refine qX (some 16) (I (minL (v3.1.length : Int) [4])) 20 [(16, I (minL (v3.1.length : Int) [4])), (13, .ptr 0 0 0), (12, A v3.1), (11, A v1.1)] [sc 0 v3.2] (fun Γ' hΓ => CoreE.of_y (mxmV_sound (τ := τ) (m := false) (a := (v3.1.length : Int)) (l := [4]) (by kernel_rfl))) trivial ?_
 obtain ⟨v5, hv6, h⟩ := bindS h
 refine qX (some 17) (I v5.1) 20 [(17, I v5.1), (12, A v3.1), (11, A v1.1)] [sc 0 v5.2] (fun Γ' hΓ => callB_E τ 17 0 0 (Zl hv6) (FzTo.frz rfl) rfl (by kernel_rfl)) (hB trivial) ?_
 refine qv [] trivial 1 20 [(18, I (w64 (1 + v5.1))), (12, A v3.1), (11, A v1.1)] [sc 0 v5.2] ?_
 obtain ⟨v7, hv8, h⟩ := bindS h
 refine qX (some 19) (A v7) 20 [(19, A v7), (11, A v1.1)] [sc 0 v5.2] (fun Γ' hΓ => CoreE.of_y (slcV_sound τ_ok (by kernel_rfl) hv8)) trivial ?_
 refine qvn [] trivial 2 20 [(2, A v1.1), (3, A v7)] [sc 0 v5.2] ?_
 have h := si h
 subst h
 exact Zg ⟨.inr rfl, .tup [A v1.1, A v7], _, 0, by kernel_rfl, (OutP.tup (OutL.cons (OutP.frz (by kernel_rfl)) (OutL.cons (OutP.frz (by kernel_rfl)) (OutL.nil _)))), by decide, by decide, by kernel_rfl⟩
def impl_clone_impl_Column_R (a0 : List Zb) : Option (List Zb) := bif ((a0.length : Int) == 0) then some ([] : List Zb) else (app [] a0).bind fun v2 => (Zbg v2).bind fun v4 => some v4
theorem ok_impl_clone_impl_Column_R {a0 : List Zb} {y : List Zb} (h : impl_clone_impl_Column_R a0 = some y) : OK Tryz.prog 71 [A a0] (O y) := by
 refine ow Tryz.func71 fun Γ hX => ?_
 unfold impl_clone_impl_Column_R at h
 refine srve 9 [(0, A a0)] [] ?_
 refine Zi ?_
 refine srve 9 [(0, A a0), (5, B ((a0.length : Int) == 0))] [] ?_
 refine pc h (fun h => ?_) (fun h => ?_)
 refine srve 9 [(2, .arr 2 0 (eL ([] : List Zb)) true)] [] ?_
 refine ip 9 [(2, .arr 2 0 (eL ([] : List Zb)) true)] [] ?_
 refine Za8 (Imp.thawS (st' := ⟨9, [(2, .ref 0 0 0 2 ([] : List Zb).length false)], [some ⟨0, eL ([] : List Zb)⟩]⟩) 2 [2] (by kernel_rfl)) ?_
 have h := si h
 subst h
 exact Zg (rt (.ref 0 0 0 2 ([] : List Zb).length false) (OutP.list (v := 0) (by kernel_rfl)))
 refine Zj ?_
 refine srv 1 9 [(6, A a0)] [] ?_
 obtain ⟨v2, hv3, h⟩ := bindS h
 refine opsP_apn τ_ok 7 0 (nx hX) hv3 (by kernel_rfl) ?_
 obtain ⟨v4, hv5, h⟩ := bindS h
 refine opsP_callM (xs := [rf 0 1 2 v2]) (x := rf 1 0 2 v4) (bs := [⟨0, eL v4⟩]) τ 8 [0] (nx hX) (ok_slices_Clip_impl_Column_impl_Column_R hv5) (by kernel_rfl) (OutL.cons (OutP.list (v := 1) (by kernel_rfl)) (OutL.nil _)) (by decide) (by kernel_rfl) ?_
 refine ve 1 9 [(2, rf 1 0 2 v4)] [none, sl 0 v4] ?_
 have h := si h
 subst h
 exact Zg (rt (rf 1 0 2 v4) (OutP.list (v := 0) (by kernel_rfl)))
def spec_DrawTested_l0 (v3 : ((List Zh) × (List Zf)) × Zc) : Nat → (List Zf) → Option ((List Zh) × (List Zf) × (List Zd) × (List Zd))
 | 0, _ => none
 | f7 + 1, x6 => bif (decide ((x6.length : Int) > 3)) then (slI x6 none (some (w64 ((x6.length : Int) - 1))) none).bind fun v10 => (spec_DrawTested_l0 v3 f7) v10 else (spec_PlanColumns v3.1.1 x6).bind fun v12 => (spec_l20Expr v3.2 v12 3 1).bind fun v14 => (spec_l20Expr v14.2 v12 3 1).bind fun v16 => some (v3.1.1, x6, v14.1, v16.1)
def spec_DrawTested (a0 : List UInt8) : Option ((List Zh) × (List Zf) × (List Zd) × (List Zd)) := (spec_l20Open a0).bind fun v1 => (spec_l20Short v1).bind fun v3 => spec_DrawTested_l0 v3 FUEL v3.1.2
theorem ok_spec_DrawTested {a0 : List UInt8} {y : (List Zh) × (List Zf) × (List Zd) × (List Zd)} (h : spec_DrawTested a0 = some y) : OK Tryz.prog 7 [A a0] (.tup [A y.1, A y.2.1, A y.2.2.1, A y.2.2.2]) := by
 refine ow Tryz.func7 fun Γ hX => ?_
 unfold spec_DrawTested at h
 refine srve 36 [(0, A a0)] [] ?_
 refine srv 1 36 [(10, A a0)] [] ?_
 obtain ⟨v1, hv2, h⟩ := bindS h
 refine opsP_callO τ 11 (ok_spec_l20Open hv2) rfl (by kernel_rfl) ?_
 refine ve 1 36 [(6, .ptr 0 0 0)] [sc 0 v1] ?_
 refine srv 1 36 [(6, .ptr 0 0 0), (13, .ptr 0 0 0)] [sc 0 v1] ?_
 obtain ⟨v3, hv4, h⟩ := bindS h
 refine opsP_callB τ 14 0 0 (ok_spec_l20Short hv4) (FzTo.tup (FzToL.cons (FzTo.frz rfl) (FzToL.cons (FzTo.frz rfl) FzToL.nil))) rfl (by kernel_rfl) ?_
 refine ve 5 36 [(6, .ptr 0 0 0), (7, A v3.1.1), (8, A v3.1.2)] [sc 0 v3.2] ?_
 refine Zi ?_
 refine Zk ?_
 refine Zaf (ι := Nat × (List Zf)) (fun (f7, x6) => (⟨36, [(6, .ptr 0 0 0), (7, A v3.1.1), (8, A x6)], [sc 0 v3.2]⟩ : St)) (fun (f7, x6) => spec_DrawTested_l0 v3 f7 x6 = some y) Prod.fst (FUEL, v3.1.2) h (it [6, 7, 8]) ?_
 rintro ⟨f7, x6⟩ h
 dsimp only at h ⊢
 rcases f7 with _ | f7
 cases h
 rw [spec_DrawTested_l0] at h
 refine Zi ?_
 refine srve 36 [(6, .ptr 0 0 0), (7, A v3.1.1), (8, A x6), (19, B (decide ((x6.length : Int) > 3)))] [sc 0 v3.2] ?_
 refine pc h (fun h => ?_) (fun h => ?_)
 refine Zj ?_
 refine Zk ?_
 refine rv 4 36 [(6, .ptr 0 0 0), (7, A v3.1.1), (20, A x6), (23, I (w64 ((x6.length : Int) - 1)))] [sc 0 v3.2] ?_
 obtain ⟨v10, hv11, h⟩ := bindS h
 refine opsP_slc τ_ok 24 hv11 (by kernel_rfl) ?_
 refine ve 1 36 [(6, .ptr 0 0 0), (7, A v3.1.1), (8, A v10)] [sc 0 v3.2] ?_
 exact ⟨(f7, v10), h, Nat.lt_succ_self _, it [6, 7, 8]⟩
 refine Zae ?_
 refine srv 2 36 [(6, .ptr 0 0 0), (7, A v3.1.1), (8, A x6), (25, A v3.1.1), (26, A x6)] [sc 0 v3.2] ?_
 obtain ⟨v12, hv13, h⟩ := bindS h
 refine cFo 27 (ok_spec_PlanColumns hv13) ?_
 refine ve 1 36 [(6, .ptr 0 0 0), (7, A v3.1.1), (8, A x6), (9, A v12)] [sc 0 v3.2] ?_
 refine srv 4 36 [(6, .ptr 0 0 0), (9, A v12), (28, A v3.1.1), (29, A x6), (30, .ptr 0 0 0), (31, A v12)] [sc 0 v3.2] ?_
 obtain ⟨v14, hv15, h⟩ := bindS h
 refine cBo 32 0 0 (ok_spec_l20Expr hv15) ?_
 refine v 2 36 [(28, A v3.1.1), (29, A x6), (32, A v14.1), (33, .ptr 0 0 0), (34, A v12)] [sc 0 v14.2] ?_
 obtain ⟨v16, hv17, h⟩ := bindS h
 refine cBo 35 0 0 (ok_spec_l20Expr hv17) ?_
 refine ve 4 36 [(2, A v3.1.1), (3, A x6), (4, A v14.1), (5, A v16.1)] [sc 0 v16.2] ?_
 have h := si h
 subst h
 exact Zg (rt (.tup [A v3.1.1, A x6, A v14.1, A v16.1]) (OutP.tup (OutL.cons (OutP.frz (by kernel_rfl)) (OutL.cons (OutP.frz (by kernel_rfl)) (OutL.cons (OutP.frz (by kernel_rfl)) (OutL.cons (OutP.frz (by kernel_rfl)) (OutL.nil _)))))))
def Zaz (a0 : Zf) (v5 : List (List Za)) : Nat → Int → (List (List Za)) → Option (List (List Za))
 | 0, _, _ => none
 | f11 + 1, x9, x10 => bif (decide (x9 < (v5.length : Int))) then (getI v5 x9).bind fun v14 => (impl_exprHolds v14 a0.fE).bind fun v16 => bif v16 then (app x10 ([v14] : List (List Za))).bind fun v19 => (Zaz a0 v5 f11) (w64 (x9 + 1)) v19 else (Zaz a0 v5 f11) (w64 (x9 + 1)) x10 else some x10
def Zbe (a0 : Zf) (v22 : List (List Za)) : Nat → Int → (List (List Za)) → Option (List (List Za))
 | 0, _, _ => none
 | f28 + 1, x26, x27 => bif (decide (x26 < (v22.length : Int))) then (getI v22 x26).bind fun v31 => (impl_taken v31 a0.fList).bind fun v33 => (app x27 ([v33] : List (List Za))).bind fun v35 => (Zbe a0 v22 f28) (w64 (x26 + 1)) v35 else some x27
def Zbh (a0 : Zf) (x42 : Int) (K45 : Int → (List (List Za)) → Option (List (List Za))) (v47 : List Za) (v49 : List (List Za)) : Nat → Int → (List (List Za)) → Option (List (List Za))
 | 0, _, _ => none
 | f55 + 1, x53, x54 => bif (decide (x53 < (v49.length : Int))) then (getI v49 x53).bind fun v58 => (impl_beside v47 v58).bind fun v60 => (impl_exprHolds v60 a0.fE).bind fun v62 => bif v62 then (app x54 ([v60] : List (List Za))).bind fun v65 => (Zbh a0 x42 K45 v47 v49 f55) (w64 (x53 + 1)) v65 else (Zbh a0 x42 K45 v47 v49 f55) (w64 (x53 + 1)) x54 else K45 (w64 (x42 + 1)) x54
def Zau (a0 : Zf) (a2 : List (List (List Za))) (v38 : List (List Za)) : Nat → Int → (List (List Za)) → Option (List (List Za))
 | 0, _, _ => none
 | f44 + 1, x42, x43 => bif (decide (x42 < (v38.length : Int))) then (getI v38 x42).bind fun v47 => (getI a2 a0.fB).bind fun v49 => Zbh a0 x42 (Zau a0 a2 v38 f44) v47 v49 FUEL 0 x43 else some x43
def impl_Step_rows_L2 (a0 : Zf) (a1 : List Zh) (a2 : List (List (List Za))) : Option (List (List Za)) := bif (a0.fKind == 1) then (getI a1 a0.fN).bind fun v2 => some v2.fRows else bif (a0.fKind == 2) then (getI a2 a0.fA).bind fun v5 => Zaz a0 v5 FUEL 0 ([] : List (List Za)) else bif (a0.fKind == 3) then (getI a2 a0.fA).bind fun v22 => Zbe a0 v22 FUEL 0 ([] : List (List Za)) else bif (a0.fKind == 4) then (getI a2 a0.fA).bind fun v38 => Zau a0 a2 v38 FUEL 0 ([] : List (List Za)) else bif (a0.fKind == 5) then (getI a2 a0.fA).bind fun v68 => (getI a2 a0.fB).bind fun v70 => (Zal ([v68, v70])).bind fun v72 => some v72 else bif (a0.fKind == 6) then (getI a2 a0.fA).bind fun v75 => (impl_RowsOnce v75).bind fun v77 => some v77 else some ([] : List (List Za))
theorem ok_impl_Step_rows_L2 {a0 : Zf} {a1 : List Zh} {a2 : List (List (List Za))} {y : List (List Za)} (h : impl_Step_rows_L2 a0 a1 a2 = some y) : OKs Tryz.prog 48 [E a0, A a1] 1 a2.length (eL a2) [] (A y) (eL a2) := by
 refine OKs_of_pwp τ_ok Tryz.func48 rfl (by kernel_rfl) rfl (eL_frz _) (eL_frz _) rfl fun Γ hQ => ?_
 refine Za8 (Imp.to (st' := ⟨126, [(0, E a0), (1, A a1), (2, rf 0 0 1 a2)], [sl 0 a2]⟩) [0, 1, 2] (by kernel_rfl)) ?_
 unfold impl_Step_rows_L2 at h
 refine srve 126 [(1, A a1), (2, rf 0 0 1 a2), (3, pf a0 0)] [sl 0 a2] ?_
 refine srve 126 [(1, A a1), (2, rf 0 0 1 a2), (3, pf a0 0), (7, .arr 1 0 (eL ([] : List (List Za))) true)] [sl 0 a2] ?_
 refine Zi ?_
 refine srve 126 [(1, A a1), (2, rf 0 0 1 a2), (3, pf a0 0), (7, .arr 1 0 (eL ([] : List (List Za))) true), (18, I a0.fKind)] [sl 0 a2] ?_
 refine Zk ?_
 refine srve 126 [(1, A a1), (2, rf 0 0 1 a2), (3, pf a0 0), (7, .arr 1 0 (eL ([] : List (List Za))) true), (18, I a0.fKind), (19, B (a0.fKind == 1))] [sl 0 a2] ?_
 refine pc h (fun h => ?_) (fun h => ?_)
 refine srv 3 126 [(21, A a1), (23, I a0.fN)] [sl 0 a2] ?_
 obtain ⟨v2, hv3, h⟩ := bindS h
 refine Z2 τ_ok 24 hv3 (by kernel_rfl) ?_
 refine ve 3 126 [(6, A v2.fRows)] [sl 0 a2] ?_
 have h := si h
 subst h
 exact Zg ⟨.inr rfl, A v2.fRows, _, 0, by kernel_rfl, (OutP.frz (by kernel_rfl)), by decide, by decide, by kernel_rfl⟩
 refine srve 126 [(2, rf 0 0 1 a2), (3, pf a0 0), (7, .arr 1 0 (eL ([] : List (List Za))) true), (18, I a0.fKind), (27, B (a0.fKind == 2))] [sl 0 a2] ?_
 refine pc h (fun h => ?_) (fun h => ?_)
 refine srv 3 126 [(3, pf a0 0), (7, .arr 1 0 (eL ([] : List (List Za))) true), (29, rf 0 0 1 a2), (31, I a0.fA)] [sl 0 a2] ?_
 obtain ⟨v5, hv6, h⟩ := bindS h
 refine opsP_idr τ_ok 32 0 0 a2.length hv6 rfl (by kernel_rfl) ?_
 refine opsP_lde (r := A v5) τ_ok 33 29 0 hv6 (by kernel_rfl) (by kernel_rfl) ?_
 refine ve 2 126 [(3, pf a0 0), (7, .arr 1 0 (eL ([] : List (List Za))) true), (33, A v5), (34, I (v5.length : Int)), (35, I 0)] [sl 0 a2] ?_
 refine Zk ?_
 refine Zaf (ι := Nat × Int × (List (List Za))) (fun (f11, x9, x10) => (⟨126, [(3, pf a0 0), (7, rf 1 0 1 x10), (33, A v5), (34, I (v5.length : Int)), (35, I x9)], [sl 0 a2, sl 0 x10]⟩ : St)) (fun (f11, x9, x10) => Zaz a0 v5 f11 x9 x10 = some y) Prod.fst (FUEL, 0, ([] : List (List Za))) h (Imp.thawS 7 [3, 7, 33, 34, 35] (by kernel_rfl)) ?_
 rintro ⟨f11, x9, x10⟩ h
 dsimp only at h ⊢
 rcases f11 with _ | f11
 cases h
 rw [Zaz] at h
 refine srve 126 [(3, pf a0 0), (7, rf 1 0 1 x10), (33, A v5), (34, I (v5.length : Int)), (35, I x9), (36, B (decide (x9 < (v5.length : Int))))] [sl 0 a2, sl 0 x10] ?_
 refine Zi ?_
 refine pc h (fun h => ?_) (fun h => ?_)
 refine Zj ?_
 refine Zi ?_
 refine Zk ?_
 refine Zi ?_
 refine Zaq ?_
 obtain ⟨v14, hv15, h⟩ := bindS h
 refine Z2 τ_ok 37 hv15 (by kernel_rfl) ?_
 refine ve 2 126 [(3, pf a0 0), (7, rf 1 0 1 x10), (9, A v14), (33, A v5), (34, I (v5.length : Int)), (35, I x9)] [sl 0 a2, sl 0 x10] ?_
 refine srv 3 126 [(3, pf a0 0), (7, rf 1 0 1 x10), (9, A v14), (33, A v5), (34, I (v5.length : Int)), (35, I x9), (39, A v14), (41, A a0.fE)] [sl 0 a2, sl 0 x10] ?_
 obtain ⟨v16, hv17, h⟩ := bindS h
 refine cF 42 (ok_impl_exprHolds hv17) ?_
 refine ve 0 126 [(3, pf a0 0), (7, rf 1 0 1 x10), (9, A v14), (33, A v5), (34, I (v5.length : Int)), (35, I x9), (42, B v16)] [sl 0 a2, sl 0 x10] ?_
 refine pc h (fun h => ?_) (fun h => ?_)
 refine rv 3 126 [(3, pf a0 0), (33, A v5), (34, I (v5.length : Int)), (35, I x9), (43, rf 1 0 1 x10), (45, .arr 1 ([v14] : List (List Za)).length (eL ([v14] : List (List Za))) true)] [sl 0 a2, sl 0 x10] ?_
 obtain ⟨v19, hv20, h⟩ := bindS h
 refine Zan τ_ok 46 1 0 (pn hQ) hv20 (by kernel_rfl) ?_
 refine ve 1 126 [(3, pf a0 0), (7, rf 1 1 1 v19), (33, A v5), (34, I (v5.length : Int)), (35, I x9)] [sl 0 a2, sl 1 v19] ?_
 refine rve 126 [(3, pf a0 0), (7, rf 1 1 1 v19), (33, A v5), (34, I (v5.length : Int)), (35, I (w64 (x9 + 1)))] [sl 0 a2, sl 1 v19] ?_
 exact ⟨(f11, (w64 (x9 + 1)), v19), h, Nat.lt_succ_self _, (it (st' := ⟨126, [(3, pf a0 0), (7, rf 1 1 1 v19), (33, A v5), (34, I (v5.length : Int)), (35, I (w64 (x9 + 1)))], [sl 0 a2, sl 1 v19]⟩) [3, 7, 33, 34, 35]).trans (Imp.reverS 1 1 (eL v19) [3, 7, 33, 34, 35] (by kernel_rfl) (by exact (And.intro (eL_frz _) (And.intro (eL_frz _) trivial))) (by kernel_rfl))⟩
 refine Zj ?_
 refine rve 126 [(3, pf a0 0), (7, rf 1 0 1 x10), (33, A v5), (34, I (v5.length : Int)), (35, I (w64 (x9 + 1)))] [sl 0 a2, sl 0 x10] ?_
 exact ⟨(f11, (w64 (x9 + 1)), x10), h, Nat.lt_succ_self _, it [3, 7, 33, 34, 35]⟩
 refine Zae ?_
 refine srve 126 [(6, rf 1 0 1 x10)] [sl 0 a2, sl 0 x10] ?_
 refine ip 126 [(6, rf 1 0 1 x10)] [sl 0 a2, sl 0 x10] ?_
 refine Za8 (Imp.freezeB (v := 0) (cs := eL x10) (st' := ⟨126, [(6, A x10)], [sl 0 a2, none]⟩) 1 0 (pn hQ) (by kernel_rfl) (eL_frz _) (wholeC (whole_is (eL_len x10).symm) wholeC0) (HpRel.frz rfl (eL_frz _) (HpRel.key HpRel.nil)) (by kernel_rfl) rfl (p01 hQ)) ?_
 have h := si h
 subst h
 exact Zg ⟨.inr rfl, A x10, _, 0, by kernel_rfl, (OutP.frz (by kernel_rfl)), by decide, by decide, by kernel_rfl⟩
 refine srve 126 [(2, rf 0 0 1 a2), (3, pf a0 0), (7, .arr 1 0 (eL ([] : List (List Za))) true), (18, I a0.fKind), (48, B (a0.fKind == 3))] [sl 0 a2] ?_
 refine pc h (fun h => ?_) (fun h => ?_)
 refine srv 3 126 [(3, pf a0 0), (7, .arr 1 0 (eL ([] : List (List Za))) true), (50, rf 0 0 1 a2), (52, I a0.fA)] [sl 0 a2] ?_
 obtain ⟨v22, hv23, h⟩ := bindS h
 refine opsP_idr τ_ok 53 0 0 a2.length hv23 rfl (by kernel_rfl) ?_
 refine opsP_lde (r := A v22) τ_ok 54 29 0 hv23 (by kernel_rfl) (by kernel_rfl) ?_
 refine ve 2 126 [(3, pf a0 0), (7, .arr 1 0 (eL ([] : List (List Za))) true), (54, A v22), (55, I (v22.length : Int)), (56, I 0)] [sl 0 a2] ?_
 refine Zk ?_
 refine Zaf (ι := Nat × Int × (List (List Za))) (fun (f28, x26, x27) => (⟨126, [(3, pf a0 0), (7, rf 1 0 1 x27), (54, A v22), (55, I (v22.length : Int)), (56, I x26)], [sl 0 a2, sl 0 x27]⟩ : St)) (fun (f28, x26, x27) => Zbe a0 v22 f28 x26 x27 = some y) Prod.fst (FUEL, 0, ([] : List (List Za))) h (Imp.thawS 7 [3, 7, 54, 55, 56] (by kernel_rfl)) ?_
 rintro ⟨f28, x26, x27⟩ h
 dsimp only at h ⊢
 rcases f28 with _ | f28
 cases h
 rw [Zbe] at h
 refine srve 126 [(3, pf a0 0), (7, rf 1 0 1 x27), (54, A v22), (55, I (v22.length : Int)), (56, I x26), (57, B (decide (x26 < (v22.length : Int))))] [sl 0 a2, sl 0 x27] ?_
 refine Zi ?_
 refine pc h (fun h => ?_) (fun h => ?_)
 refine Zj ?_
 refine Zi ?_
 refine Zk ?_
 refine Zi ?_
 refine Zaq ?_
 obtain ⟨v31, hv32, h⟩ := bindS h
 refine Z2 τ_ok 58 hv32 (by kernel_rfl) ?_
 refine ve 2 126 [(3, pf a0 0), (7, rf 1 0 1 x27), (11, A v31), (54, A v22), (55, I (v22.length : Int)), (56, I x26)] [sl 0 a2, sl 0 x27] ?_
 refine rv 4 126 [(3, pf a0 0), (54, A v22), (55, I (v22.length : Int)), (56, I x26), (60, rf 1 0 1 x27), (61, A v31), (63, A a0.fList)] [sl 0 a2, sl 0 x27] ?_
 obtain ⟨v33, hv34, h⟩ := bindS h
 refine cF 64 (ok_impl_taken hv34) ?_
 refine v 1 126 [(3, pf a0 0), (54, A v22), (55, I (v22.length : Int)), (56, I x26), (60, rf 1 0 1 x27), (65, .arr 1 ([v33] : List (List Za)).length (eL ([v33] : List (List Za))) true)] [sl 0 a2, sl 0 x27] ?_
 obtain ⟨v35, hv36, h⟩ := bindS h
 refine Zan τ_ok 66 1 0 (pn hQ) hv36 (by kernel_rfl) ?_
 refine ve 1 126 [(3, pf a0 0), (7, rf 1 1 1 v35), (54, A v22), (55, I (v22.length : Int)), (56, I x26)] [sl 0 a2, sl 1 v35] ?_
 refine rve 126 [(3, pf a0 0), (7, rf 1 1 1 v35), (54, A v22), (55, I (v22.length : Int)), (56, I (w64 (x26 + 1)))] [sl 0 a2, sl 1 v35] ?_
 exact ⟨(f28, (w64 (x26 + 1)), v35), h, Nat.lt_succ_self _, (it (st' := ⟨126, [(3, pf a0 0), (7, rf 1 1 1 v35), (54, A v22), (55, I (v22.length : Int)), (56, I (w64 (x26 + 1)))], [sl 0 a2, sl 1 v35]⟩) [3, 7, 54, 55, 56]).trans (Imp.reverS 1 1 (eL v35) [3, 7, 54, 55, 56] (by kernel_rfl) (by exact (And.intro (eL_frz _) (And.intro (eL_frz _) trivial))) (by kernel_rfl))⟩
 refine Zae ?_
 refine srve 126 [(6, rf 1 0 1 x27)] [sl 0 a2, sl 0 x27] ?_
 refine ip 126 [(6, rf 1 0 1 x27)] [sl 0 a2, sl 0 x27] ?_
 refine Za8 (Imp.freezeB (v := 0) (cs := eL x27) (st' := ⟨126, [(6, A x27)], [sl 0 a2, none]⟩) 1 0 (pn hQ) (by kernel_rfl) (eL_frz _) (wholeC (whole_is (eL_len x27).symm) wholeC0) (HpRel.frz rfl (eL_frz _) (HpRel.key HpRel.nil)) (by kernel_rfl) rfl (p01 hQ)) ?_
 have h := si h
 subst h
 exact Zg ⟨.inr rfl, A x27, _, 0, by kernel_rfl, (OutP.frz (by kernel_rfl)), by decide, by decide, by kernel_rfl⟩
 refine srve 126 [(2, rf 0 0 1 a2), (3, pf a0 0), (7, .arr 1 0 (eL ([] : List (List Za))) true), (18, I a0.fKind), (68, B (a0.fKind == 4))] [sl 0 a2] ?_
 refine pc h (fun h => ?_) (fun h => ?_)
 refine srv 3 126 [(2, rf 0 0 1 a2), (3, pf a0 0), (7, .arr 1 0 (eL ([] : List (List Za))) true), (70, rf 0 0 1 a2), (72, I a0.fA)] [sl 0 a2] ?_
 obtain ⟨v38, hv39, h⟩ := bindS h
 refine opsP_idr τ_ok 73 0 0 a2.length hv39 rfl (by kernel_rfl) ?_
 refine opsP_lde (r := A v38) τ_ok 74 29 0 hv39 (by kernel_rfl) (by kernel_rfl) ?_
 refine ve 2 126 [(2, rf 0 0 1 a2), (3, pf a0 0), (7, .arr 1 0 (eL ([] : List (List Za))) true), (74, A v38), (75, I (v38.length : Int)), (76, I 0)] [sl 0 a2] ?_
 refine Zk ?_
 refine Zaf (ι := Nat × Int × (List (List Za))) (fun (f44, x42, x43) => (⟨126, [(2, rf 0 0 1 a2), (3, pf a0 0), (7, rf 1 0 1 x43), (74, A v38), (75, I (v38.length : Int)), (76, I x42)], [sl 0 a2, sl 0 x43]⟩ : St)) (fun (f44, x42, x43) => Zau a0 a2 v38 f44 x42 x43 = some y) Prod.fst (FUEL, 0, ([] : List (List Za))) h (Imp.thawS 7 [2, 3, 7, 74, 75, 76] (by kernel_rfl)) ?_
 rintro ⟨f44, x42, x43⟩ h
 dsimp only at h ⊢
 rcases f44 with _ | f44
 cases h
 rw [Zau] at h
 refine srve 126 [(2, rf 0 0 1 a2), (3, pf a0 0), (7, rf 1 0 1 x43), (74, A v38), (75, I (v38.length : Int)), (76, I x42), (77, B (decide (x42 < (v38.length : Int))))] [sl 0 a2, sl 0 x43] ?_
 refine Zi ?_
 refine pc h (fun h => ?_) (fun h => ?_)
 refine Zj ?_
 refine Zi ?_
 refine Zk ?_
 refine Zi ?_
 refine Zaq ?_
 obtain ⟨v47, hv48, h⟩ := bindS h
 refine Z2 τ_ok 78 hv48 (by kernel_rfl) ?_
 refine ve 2 126 [(2, rf 0 0 1 a2), (3, pf a0 0), (7, rf 1 0 1 x43), (13, A v47), (74, A v38), (75, I (v38.length : Int)), (76, I x42)] [sl 0 a2, sl 0 x43] ?_
 refine srv 3 126 [(2, rf 0 0 1 a2), (3, pf a0 0), (7, rf 1 0 1 x43), (13, A v47), (74, A v38), (75, I (v38.length : Int)), (76, I x42), (80, rf 0 0 1 a2), (82, I a0.fB)] [sl 0 a2, sl 0 x43] ?_
 obtain ⟨v49, hv50, h⟩ := bindS h
 refine opsP_idr τ_ok 83 0 0 a2.length hv50 rfl (by kernel_rfl) ?_
 refine opsP_lde (r := A v49) τ_ok 84 29 0 hv50 (by kernel_rfl) (by kernel_rfl) ?_
 refine ve 2 126 [(2, rf 0 0 1 a2), (3, pf a0 0), (7, rf 1 0 1 x43), (13, A v47), (74, A v38), (75, I (v38.length : Int)), (76, I x42), (84, A v49), (85, I (v49.length : Int)), (86, I 0)] [sl 0 a2, sl 0 x43] ?_
 refine Zk ?_
 refine Zaf (ι := Nat × Int × (List (List Za))) (fun (f55, x53, x54) => (⟨126, [(2, rf 0 0 1 a2), (3, pf a0 0), (7, rf 1 0 1 x54), (13, A v47), (74, A v38), (75, I (v38.length : Int)), (76, I x42), (84, A v49), (85, I (v49.length : Int)), (86, I x53)], [sl 0 a2, sl 0 x54]⟩ : St)) (fun (f55, x53, x54) => Zbh a0 x42 (Zau a0 a2 v38 f44) v47 v49 f55 x53 x54 = some y) Prod.fst (FUEL, 0, x43) h (it [2, 3, 7, 13, 74, 75, 76, 84, 85, 86]) ?_
 rintro ⟨f55, x53, x54⟩ h
 dsimp only at h ⊢
 rcases f55 with _ | f55
 cases h
 rw [Zbh] at h
 refine srve 126 [(2, rf 0 0 1 a2), (3, pf a0 0), (7, rf 1 0 1 x54), (13, A v47), (74, A v38), (75, I (v38.length : Int)), (76, I x42), (84, A v49), (85, I (v49.length : Int)), (86, I x53), (87, B (decide (x53 < (v49.length : Int))))] [sl 0 a2, sl 0 x54] ?_
 refine Zi ?_
 refine pc h (fun h => ?_) (fun h => ?_)
 refine Zj ?_
 refine Zi ?_
 refine Zk ?_
 refine Zi ?_
 refine Zaq ?_
 obtain ⟨v58, hv59, h⟩ := bindS h
 refine Z2 τ_ok 88 hv59 (by kernel_rfl) ?_
 refine ve 2 126 [(2, rf 0 0 1 a2), (3, pf a0 0), (7, rf 1 0 1 x54), (13, A v47), (15, A v58), (74, A v38), (75, I (v38.length : Int)), (76, I x42), (84, A v49), (85, I (v49.length : Int)), (86, I x53)] [sl 0 a2, sl 0 x54] ?_
 refine srv 2 126 [(2, rf 0 0 1 a2), (3, pf a0 0), (7, rf 1 0 1 x54), (13, A v47), (74, A v38), (75, I (v38.length : Int)), (76, I x42), (84, A v49), (85, I (v49.length : Int)), (86, I x53), (90, A v47), (91, A v58)] [sl 0 a2, sl 0 x54] ?_
 obtain ⟨v60, hv61, h⟩ := bindS h
 refine cF 92 (ok_impl_beside hv61) ?_
 refine ve 1 126 [(2, rf 0 0 1 a2), (3, pf a0 0), (7, rf 1 0 1 x54), (13, A v47), (16, A v60), (74, A v38), (75, I (v38.length : Int)), (76, I x42), (84, A v49), (85, I (v49.length : Int)), (86, I x53)] [sl 0 a2, sl 0 x54] ?_
 refine srv 3 126 [(2, rf 0 0 1 a2), (3, pf a0 0), (7, rf 1 0 1 x54), (13, A v47), (16, A v60), (74, A v38), (75, I (v38.length : Int)), (76, I x42), (84, A v49), (85, I (v49.length : Int)), (86, I x53), (93, A v60), (95, A a0.fE)] [sl 0 a2, sl 0 x54] ?_
 obtain ⟨v62, hv63, h⟩ := bindS h
 refine cF 96 (ok_impl_exprHolds hv63) ?_
 refine ve 0 126 [(2, rf 0 0 1 a2), (3, pf a0 0), (7, rf 1 0 1 x54), (13, A v47), (16, A v60), (74, A v38), (75, I (v38.length : Int)), (76, I x42), (84, A v49), (85, I (v49.length : Int)), (86, I x53), (96, B v62)] [sl 0 a2, sl 0 x54] ?_
 refine pc h (fun h => ?_) (fun h => ?_)
 refine rv 3 126 [(2, rf 0 0 1 a2), (3, pf a0 0), (13, A v47), (74, A v38), (75, I (v38.length : Int)), (76, I x42), (84, A v49), (85, I (v49.length : Int)), (86, I x53), (97, rf 1 0 1 x54), (99, .arr 1 ([v60] : List (List Za)).length (eL ([v60] : List (List Za))) true)] [sl 0 a2, sl 0 x54] ?_
 obtain ⟨v65, hv66, h⟩ := bindS h
 refine Zan τ_ok 100 1 0 (pn hQ) hv66 (by kernel_rfl) ?_
 refine ve 1 126 [(2, rf 0 0 1 a2), (3, pf a0 0), (7, rf 1 1 1 v65), (13, A v47), (74, A v38), (75, I (v38.length : Int)), (76, I x42), (84, A v49), (85, I (v49.length : Int)), (86, I x53)] [sl 0 a2, sl 1 v65] ?_
 refine rve 126 [(2, rf 0 0 1 a2), (3, pf a0 0), (7, rf 1 1 1 v65), (13, A v47), (74, A v38), (75, I (v38.length : Int)), (76, I x42), (84, A v49), (85, I (v49.length : Int)), (86, I (w64 (x53 + 1)))] [sl 0 a2, sl 1 v65] ?_
 exact ⟨(f55, (w64 (x53 + 1)), v65), h, Nat.lt_succ_self _, (it (st' := ⟨126, [(2, rf 0 0 1 a2), (3, pf a0 0), (7, rf 1 1 1 v65), (13, A v47), (74, A v38), (75, I (v38.length : Int)), (76, I x42), (84, A v49), (85, I (v49.length : Int)), (86, I (w64 (x53 + 1)))], [sl 0 a2, sl 1 v65]⟩) [2, 3, 7, 13, 74, 75, 76, 84, 85, 86]).trans (Imp.reverS 1 1 (eL v65) [2, 3, 7, 13, 74, 75, 76, 84, 85, 86] (by kernel_rfl) (by exact (And.intro (eL_frz _) (And.intro (eL_frz _) trivial))) (by kernel_rfl))⟩
 refine Zj ?_
 refine rve 126 [(2, rf 0 0 1 a2), (3, pf a0 0), (7, rf 1 0 1 x54), (13, A v47), (74, A v38), (75, I (v38.length : Int)), (76, I x42), (84, A v49), (85, I (v49.length : Int)), (86, I (w64 (x53 + 1)))] [sl 0 a2, sl 0 x54] ?_
 exact ⟨(f55, (w64 (x53 + 1)), x54), h, Nat.lt_succ_self _, it [2, 3, 7, 13, 74, 75, 76, 84, 85, 86]⟩
 refine Zae ?_
 refine rve 126 [(2, rf 0 0 1 a2), (3, pf a0 0), (7, rf 1 0 1 x54), (74, A v38), (75, I (v38.length : Int)), (76, I (w64 (x42 + 1)))] [sl 0 a2, sl 0 x54] ?_
 exact ⟨(f44, (w64 (x42 + 1)), x54), h, Nat.lt_succ_self _, it [2, 3, 7, 74, 75, 76]⟩
 refine Zae ?_
 refine srve 126 [(6, rf 1 0 1 x43)] [sl 0 a2, sl 0 x43] ?_
 refine ip 126 [(6, rf 1 0 1 x43)] [sl 0 a2, sl 0 x43] ?_
 refine Za8 (Imp.freezeB (v := 0) (cs := eL x43) (st' := ⟨126, [(6, A x43)], [sl 0 a2, none]⟩) 1 0 (pn hQ) (by kernel_rfl) (eL_frz _) (wholeC (whole_is (eL_len x43).symm) wholeC0) (HpRel.frz rfl (eL_frz _) (HpRel.key HpRel.nil)) (by kernel_rfl) rfl (p01 hQ)) ?_
 have h := si h
 subst h
 exact Zg ⟨.inr rfl, A x43, _, 0, by kernel_rfl, (OutP.frz (by kernel_rfl)), by decide, by decide, by kernel_rfl⟩
 refine srve 126 [(2, rf 0 0 1 a2), (3, pf a0 0), (7, .arr 1 0 (eL ([] : List (List Za))) true), (18, I a0.fKind), (103, B (a0.fKind == 5))] [sl 0 a2] ?_
 refine pc h (fun h => ?_) (fun h => ?_)
 refine Zi ?_
 refine ip 126 [(2, rf 0 0 1 a2), (3, pf a0 0)] [sl 0 a2] ?_
 refine pwp_any ([[0], [], [], [0], [0], [0], [], [], [0], [0], [], [], []]) ([[], [], [], [], [], [], [], [], [], [], [], [], []]) rfl (by kernel_rfl) ?_
 refine qv [0] (hL trivial) 1 126 [(105, rf 0 0 1 a2), (2, rf 0 0 1 a2), (3, pf a0 0)] [sl 0 a2] ?_
 refine qv [] trivial 2 126 [(107, I a0.fA), (105, rf 0 0 1 a2), (2, rf 0 0 1 a2), (3, pf a0 0)] [sl 0 a2] ?_
 obtain ⟨v68, hv69, h⟩ := bindS h
 refine qX (some 108) (.ptr 0 0 (a0.fA.toNat * 1)) 126 [(108, .ptr 0 0 (a0.fA.toNat * 1)), (2, rf 0 0 1 a2), (3, pf a0 0)] [sl 0 a2] (fun Γ' hΓ => CoreE.of_y (idrV_sound (n := a2.length) τ_ok (by kernel_rfl) hv69 rfl)) (hL trivial) ?_
 refine qX (some 109) (A v68) 126 [(109, A v68), (2, rf 0 0 1 a2), (3, pf a0 0)] [sl 0 a2] (fun Γ' hΓ => CoreE.of_y (ldeV_sound (t := 29) (o' := 0) (r := A v68) τ_ok hv69 (by kernel_rfl) (by kernel_rfl))) (hL trivial) ?_
 refine qv [0] (hL trivial) 1 126 [(110, rf 0 0 1 a2), (109, A v68), (3, pf a0 0)] [sl 0 a2] ?_
 refine qv [] trivial 2 126 [(112, I a0.fB), (110, rf 0 0 1 a2), (109, A v68)] [sl 0 a2] ?_
 obtain ⟨v70, hv71, h⟩ := bindS h
 refine qX (some 113) (.ptr 0 0 (a0.fB.toNat * 1)) 126 [(113, .ptr 0 0 (a0.fB.toNat * 1)), (109, A v68)] [sl 0 a2] (fun Γ' hΓ => CoreE.of_y (idrV_sound (n := a2.length) τ_ok (by kernel_rfl) hv71 rfl)) (hL trivial) ?_
 refine qX (some 114) (A v70) 126 [(114, A v70), (109, A v68)] [sl 0 a2] (fun Γ' hΓ => CoreE.of_y (ldeV_sound (t := 29) (o' := 0) (r := A v70) τ_ok hv71 (by kernel_rfl) (by kernel_rfl))) (hL trivial) ?_
 refine qv [] trivial 1 126 [(115, .arr 1 ([v68, v70] : List (List (List Za))).length (eL ([v68, v70] : List (List (List Za)))) true)] [sl 0 a2] ?_
 obtain ⟨v72, hv73, h⟩ := bindS h
 refine qX (some 116) (A v72) 126 [(116, A v72)] [sl 0 a2] (fun Γ' hΓ => CoreE.of_g (Zbb (τ := τ) (by kernel_rfl) rfl (ok_slices_Concat_impl_Value_impl_Value_s3 hv73) (FzTo.O _))) trivial ?_
 refine qvn [] trivial 1 126 [(6, A v72)] [sl 0 a2] ?_
 have h := si h
 subst h
 exact Zg ⟨.inr rfl, A v72, _, 0, by kernel_rfl, (OutP.frz (by kernel_rfl)), by decide, by decide, by kernel_rfl⟩
 refine srve 126 [(2, rf 0 0 1 a2), (3, pf a0 0), (7, .arr 1 0 (eL ([] : List (List Za))) true), (117, B (a0.fKind == 6))] [sl 0 a2] ?_
 refine pc h (fun h => ?_) (fun h => ?_)
 refine srv 3 126 [(119, rf 0 0 1 a2), (121, I a0.fA)] [sl 0 a2] ?_
 obtain ⟨v75, hv76, h⟩ := bindS h
 refine opsP_idr τ_ok 122 0 0 a2.length hv76 rfl (by kernel_rfl) ?_
 refine opsP_lde (r := A v75) τ_ok 123 29 0 hv76 (by kernel_rfl) (by kernel_rfl) ?_
 obtain ⟨v77, hv78, h⟩ := bindS h
 refine cF 124 (ok_impl_RowsOnce hv78) ?_
 refine ve 1 126 [(6, A v77)] [sl 0 a2] ?_
 have h := si h
 subst h
 exact Zg ⟨.inr rfl, A v77, _, 0, by kernel_rfl, (OutP.frz (by kernel_rfl)), by decide, by decide, by kernel_rfl⟩
 refine Zj ?_
 refine srve 126 [(6, .arr 1 0 (eL ([] : List (List Za))) true)] [sl 0 a2] ?_
 refine ip 126 [(6, .arr 1 0 (eL ([] : List (List Za))) true)] [sl 0 a2] ?_
 refine Za8 (Imp.unfS (st' := ⟨126, [(6, A ([] : List (List Za)))], [sl 0 a2]⟩) 6 [6] (by kernel_rfl)) ?_
 have h := si h
 subst h
 exact Zg ⟨.inr rfl, A ([] : List (List Za)), _, 0, by kernel_rfl, (OutP.frz (by kernel_rfl)), by decide, by decide, by kernel_rfl⟩
def impl_planRows_l0 (a0 : List Zh) (a1 : List Zf) : Nat → Int → (List (List (List Za))) → Option (List (List Za))
 | 0, _, _ => none
 | f4 + 1, x2, x3 => bif (decide (x2 < (a1.length : Int))) then (getI a1 x2).bind fun v7 => (impl_Step_rows_L2 v7 a0 x3).bind fun v9 => (app x3 ([v9] : List (List (List Za)))).bind fun v11 => (impl_planRows_l0 a0 a1 f4) (w64 (x2 + 1)) v11 else (getI x3 (w64 ((x3.length : Int) - 1))).bind fun v13 => (impl_rowsCopy v13).bind fun v15 => some v15
def impl_planRows (a0 : List Zh) (a1 : List Zf) : Option (List (List Za)) := impl_planRows_l0 a0 a1 FUEL 0 ([] : List (List (List Za)))
theorem ok_impl_planRows {a0 : List Zh} {a1 : List Zf} {y : List (List Za)} (h : impl_planRows a0 a1 = some y) : OK Tryz.prog 28 [A a0, A a1] (A y) := by
 refine ow Tryz.func28 fun Γ hX => ?_
 unfold impl_planRows at h
 refine srveM [7] 29 [(0, A a0), (1, A a1)] [] ?_
 refine srveM [7] 29 [(0, A a0), (1, A a1), (5, .arr 1 0 (eL ([] : List (List (List Za)))) true)] [] ?_
 refine Zi ?_
 refine srveM [7] 29 [(0, A a0), (5, .arr 1 0 (eL ([] : List (List (List Za)))) true), (8, A a1), (9, I (a1.length : Int)), (10, I 0)] [] ?_
 refine Zk ?_
 refine Zaf (ι := Nat × Int × (List (List (List Za)))) (fun (f4, x2, x3) => (⟨29, [(0, A a0), (5, rf 0 0 1 x3), (8, A a1), (9, I (a1.length : Int)), (10, I x2)], [sl 0 x3]⟩ : St)) (fun (f4, x2, x3) => impl_planRows_l0 a0 a1 f4 x2 x3 = some y) Prod.fst (FUEL, 0, ([] : List (List (List Za)))) h (Imp.thawS 5 [0, 5, 8, 9, 10] (by kernel_rfl)) ?_
 rintro ⟨f4, x2, x3⟩ h
 dsimp only at h ⊢
 rcases f4 with _ | f4
 cases h
 rw [impl_planRows_l0] at h
 refine srveM [7] 29 [(0, A a0), (5, rf 0 0 1 x3), (8, A a1), (9, I (a1.length : Int)), (10, I x2), (11, B (decide (x2 < (a1.length : Int))))] [sl 0 x3] ?_
 refine Zi ?_
 refine pc h (fun h => ?_) (fun h => ?_)
 refine Zj ?_
 refine Zi ?_
 refine Zk ?_
 refine Zi ?_
 refine Zaq ?_
 obtain ⟨v7, hv8, h⟩ := bindS h
 refine Z2 τ_ok 12 hv8 (by kernel_rfl) ?_
 refine veM [7] 3 29 [(0, A a0), (5, rf 0 0 1 x3), (7, .ptr 1 0 0), (8, A a1), (9, I (a1.length : Int)), (10, I x2)] [sl 0 x3, sc 0 v7] ?_
 refine rvM [7] 4 29 [(0, A a0), (8, A a1), (9, I (a1.length : Int)), (10, I x2), (14, rf 0 0 1 x3), (15, E v7), (16, A a0), (17, rf 0 0 1 x3)] [sl 0 x3, sc 0 v7] ?_
 obtain ⟨v9, hv10, h⟩ := bindS h
 refine opsP_E (dd := some 18) (x := A v9) (callS_E τ 18 0 0 (ok_impl_Step_rows_L2 hv10) (FzTo.frz rfl) rfl rfl (by kernel_rfl)) ?_
 refine vM [7] 1 29 [(0, A a0), (8, A a1), (9, I (a1.length : Int)), (10, I x2), (14, rf 0 0 1 x3), (19, .arr 1 ([v9] : List (List (List Za))).length (eL ([v9] : List (List (List Za)))) true)] [sl 0 x3, sc 0 v7] ?_
 obtain ⟨v11, hv12, h⟩ := bindS h
 refine Zan τ_ok 20 0 0 (nx hX) hv12 (by kernel_rfl) ?_
 refine veM [7] 1 29 [(0, A a0), (5, rf 0 1 1 v11), (8, A a1), (9, I (a1.length : Int)), (10, I x2)] [sl 1 v11, sc 0 v7] ?_
 refine rveM [7] 29 [(0, A a0), (5, rf 0 1 1 v11), (8, A a1), (9, I (a1.length : Int)), (10, I (w64 (x2 + 1)))] [sl 1 v11, sc 0 v7] ?_
 exact ⟨(f4, (w64 (x2 + 1)), v11), h, Nat.lt_succ_self _, qt (it (st' := ⟨29, [(0, A a0), (5, rf 0 1 1 v11), (8, A a1), (9, I (a1.length : Int)), (10, I (w64 (x2 + 1)))], [sl 1 v11, sc 0 v7]⟩) [0, 5, 8, 9, 10]) (qt (Imp.truncS (st' := ⟨29, [(0, A a0), (5, rf 0 1 1 v11), (8, A a1), (9, I (a1.length : Int)), (10, I (w64 (x2 + 1)))], [sl 1 v11]⟩) 1 (nx hX) (by kernel_rfl) (allBelow_mem (by exact (And.intro rfl (And.intro rfl (And.intro rfl (And.intro rfl (And.intro rfl trivial))))))) (by exact (And.intro (frz_below (eL_frz _)) trivial)) (by kernel_rfl)) (Imp.reverS 0 1 (eL v11) [0, 5, 8, 9, 10] (by kernel_rfl) (by exact (And.intro (eL_frz _) trivial)) (by kernel_rfl)))⟩
 refine Zae ?_
 refine srvM [7] 4 29 [(22, rf 0 0 1 x3), (25, I (w64 ((x3.length : Int) - 1)))] [sl 0 x3] ?_
 obtain ⟨v13, hv14, h⟩ := bindS h
 refine opsP_idr τ_ok 26 0 0 x3.length hv14 rfl (by kernel_rfl) ?_
 refine opsP_lde (r := A v13) τ_ok 27 29 0 hv14 (by kernel_rfl) (by kernel_rfl) ?_
 obtain ⟨v15, hv16, h⟩ := bindS h
 refine cF 28 (ok_impl_rowsCopy hv16) ?_
 refine veM [7] 1 29 [(4, A v15)] [sl 0 x3] ?_
 cases h
 exact Zg rz
def impl_Step_make_L2_l2 (a0 : Zf) (v11 : Ze) : Nat → Int → (List Zb) → Option (Ze × Bool)
 | 0, _, _ => none
 | f27 + 1, x25, x26 => bif (decide (x25 < (a0.fList.length : Int))) then (getI a0.fList x25).bind fun v30 => (Za9 v30 0 (w64 ((v11.fColumns.length : Int) - 1))).bind fun v32 => bif (!v32) then some ((Ze.mk [] 0), false) else (getI v11.fColumns v30).bind fun v35 => (app x26 ([v35] : List Zb)).bind fun v37 => (impl_Step_make_L2_l2 a0 v11 f27) (w64 (x25 + 1)) v37 else some ((Ze.mk x26 v11.fMost), (decide ((a0.fList.length : Int) ≤ 4)))
def Za5 (v11 : Ze) (v13 : Ze) : Nat → Int → (List Zb) → Option (Ze × Bool)
 | 0, _, _ => none
 | f57 + 1, x55, x56 => bif (decide (x55 < (v13.fColumns.length : Int))) then (getI v13.fColumns x55).bind fun v60 => (getI x56 x55).bind fun v62 => bif (!(v60.fKind == v62.fKind)) then some ((Ze.mk [] 0), false) else (getI x56 x55).bind fun v65 => bif v65.fEmpty then (getI x56 x55).bind fun v67 => (Za5 v11 v13 f57) (w64 (x55 + 1)) (x56.set x55.toNat ({ v67 with fEmpty := true } : Zb)) else (getI x56 x55).bind fun v69 => (Za5 v11 v13 f57) (w64 (x55 + 1)) (x56.set x55.toNat ({ v69 with fEmpty := v60.fEmpty } : Zb)) else some ((Ze.mk x56 (w64 (v11.fMost + v13.fMost))), true)
def impl_Step_make_L2_j1 (a0 : Zf) (a2 : List Ze) (x9 : Bool) : Option (Ze × Bool) := bif x9 then some ((Ze.mk [] 0), false) else (getI a2 a0.fA).bind fun v11 => (getI a2 a0.fB).bind fun v13 => bif (a0.fKind == 2) then (impl_ExprKind v11.fColumns a0.fE).bind fun v16 => some (v11, (v16 == 3)) else bif (a0.fKind == 3) then impl_Step_make_L2_l2 a0 v11 FUEL 0 ([] : List Zb) else bif (a0.fKind == 4) then (Zbf ([v11.fColumns, v13.fColumns])).bind fun v40 => bif (decide ((v40.length : Int) ≤ 4)) then (impl_ExprKind v40 a0.fE).bind fun v42 => some ((Ze.mk v40 (w64 (v11.fMost * v13.fMost))), (v42 == 3)) else some ((Ze.mk v40 (w64 (v11.fMost * v13.fMost))), false) else bif (a0.fKind == 5) then (impl_clone_impl_Column_R v11.fColumns).bind fun v46 => bif (!((v11.fColumns.length : Int) == (v13.fColumns.length : Int))) then some ((Ze.mk [] 0), false) else Za5 v11 v13 FUEL 0 v46 else some (v11, true)
def impl_Step_make_L2_j0 (a0 : Zf) (a1 : List Zh) (a2 : List Ze) (x1 : Bool) : Option (Ze × Bool) := bif x1 then some ((Ze.mk [] 0), false) else bif (a0.fKind == 1) then (Za9 a0.fN 0 (w64 ((a1.length : Int) - 1))).bind fun v4 => bif (!v4) then some ((Ze.mk [] 0), false) else (getI a1 a0.fN).bind fun v7 => some ((Ze.mk v7.fColumns 6), true) else (Za9 a0.fA 0 (w64 ((a2.length : Int) - 1))).bind fun v72 => bif (!v72) then impl_Step_make_L2_j1 a0 a2 true else (Za9 a0.fB 0 (w64 ((a2.length : Int) - 1))).bind fun v74 => impl_Step_make_L2_j1 a0 a2 (!v74)
def impl_Step_make_L2 (a0 : Zf) (a1 : List Zh) (a2 : List Ze) : Option (Ze × Bool) := (impl_Step_plain a0).bind fun v77 => bif (!v77) then impl_Step_make_L2_j0 a0 a1 a2 true else (Za9 a0.fKind 1 6).bind fun v79 => impl_Step_make_L2_j0 a0 a1 a2 (!v79)
end Go.D
