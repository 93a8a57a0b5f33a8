import Derived.Test.YtgggakgdkonngaaGreatThrDXFB
import Derived.KernelRfl
set_option linter.unusedVariables false
set_option linter.unusedSimpArgs false
namespace Go.D
open Go.Proofs
theorem ok_impl_Step_make_L2 {a0 : Zf} {a1 : List Zh} {a2 : List Ze} {y : Ze × Bool} (h : impl_Step_make_L2 a0 a1 a2 = some y) : OKs Tryz.prog 44 [E a0, A a1] 2 a2.length (eL a2) [] (.tup [E y.1, B y.2]) (eL a2) := by
 refine OKs_of_pwp τ_ok Tryz.func44 rfl (by kernel_rfl) rfl (eL_frz _) (eL_frz _) rfl fun Γ hQ => ?_
 refine Za8 (Imp.to (st' := ⟨201, [(0, E a0), (1, A a1), (2, rf 0 0 2 a2)], [sl 0 a2]⟩) [0, 1, 2] (by kernel_rfl)) ?_
 unfold impl_Step_make_L2 at h
 refine srveM [6, 8, 9, 10, 13, 14, 16] 201 [(1, A a1), (2, rf 0 0 2 a2), (3, pf a0 0), (6, .ptr 1 0 0)] [sl 0 a2, some ⟨0, Enc.cells (Ze.mk [] 0)⟩] ?_
 refine Zi ?_
 refine Zi ?_
 refine Zab (σ := Bool) (fun x1 => (⟨201, [(1, A a1), (2, rf 0 0 2 a2), (3, pf a0 0), (6, .ptr 1 0 0), (25, B x1)], [sl 0 a2, some ⟨0, Enc.cells (Ze.mk [] 0)⟩]⟩ : St)) (fun x1 => impl_Step_make_L2_j0 a0 a1 a2 x1 = some y) ?_ ?_
 refine rvM [6, 8, 9, 10, 13, 14, 16] 1 201 [(1, A a1), (2, rf 0 0 2 a2), (3, pf a0 0), (6, .ptr 1 0 0), (17, E a0)] [sl 0 a2, some ⟨0, Enc.cells (Ze.mk [] 0)⟩] ?_
 obtain ⟨v77, hv78, h⟩ := bindS h
 refine cF 18 (ok_impl_Step_plain hv78) ?_
 refine vM [6, 8, 9, 10, 13, 14, 16] 2 201 [(1, A a1), (2, rf 0 0 2 a2), (3, pf a0 0), (6, .ptr 1 0 0), (20, B (!v77))] [sl 0 a2, some ⟨0, Enc.cells (Ze.mk [] 0)⟩] ?_
 rcases fk (!v77) with hc81 | hc81
 replace h := bT hc81 h
 rw [hc81]
 refine veM [6, 8, 9, 10, 13, 14, 16] 5 201 [(1, A a1), (2, rf 0 0 2 a2), (3, pf a0 0), (6, .ptr 1 0 0), (25, B true)] [sl 0 a2, some ⟨0, Enc.cells (Ze.mk [] 0)⟩] ?_
 exact ⟨true, h, it [1, 2, 3, 6, 25]⟩
 replace h := bF hc81 h
 rw [hc81]
 refine vM [6, 8, 9, 10, 13, 14, 16] 2 201 [(1, A a1), (2, rf 0 0 2 a2), (3, pf a0 0), (6, .ptr 1 0 0), (20, B false), (22, I a0.fKind)] [sl 0 a2, some ⟨0, Enc.cells (Ze.mk [] 0)⟩] ?_
 obtain ⟨v79, hv80, h⟩ := bindS h
 refine cF 23 (Za2 hv80) ?_
 refine veM [6, 8, 9, 10, 13, 14, 16] 2 201 [(1, A a1), (2, rf 0 0 2 a2), (3, pf a0 0), (6, .ptr 1 0 0), (25, B (!v79))] [sl 0 a2, some ⟨0, Enc.cells (Ze.mk [] 0)⟩] ?_
 exact ⟨(!v79), h, it [1, 2, 3, 6, 25]⟩
 rintro x1 h
 unfold impl_Step_make_L2_j0 at h
 refine pc h (fun h => ?_) (fun h => ?_)
 refine srveM [6, 8, 9, 10, 13, 14, 16] 201 [(6, .ptr 1 0 0), (7, B false)] [sl 0 a2, some ⟨0, Enc.cells (Ze.mk [] 0)⟩] ?_
 have h := si h
 subst h
 exact Zg ⟨.inr rfl, .tup [E (Ze.mk [] 0), B false], _, 0, by kernel_rfl, (OutP.tup (OutL.cons (OutP.frz (by kernel_rfl)) (OutL.cons (OutP.frz (by kernel_rfl)) (OutL.nil _)))), by decide, by decide, by kernel_rfl⟩
 refine Zj ?_
 refine Zi ?_
 refine srveM [6, 8, 9, 10, 13, 14, 16] 201 [(1, A a1), (2, rf 0 0 2 a2), (3, pf a0 0), (6, .ptr 1 0 0), (29, B (a0.fKind == 1))] [sl 0 a2, some ⟨0, Enc.cells (Ze.mk [] 0)⟩] ?_
 refine pc h (fun h => ?_) (fun h => ?_)
 refine Zi ?_
 refine srvM [6, 8, 9, 10, 13, 14, 16] 5 201 [(1, A a1), (3, pf a0 0), (6, .ptr 1 0 0), (31, I a0.fN), (34, I (w64 ((a1.length : Int) - 1)))] [sl 0 a2, some ⟨0, Enc.cells (Ze.mk [] 0)⟩] ?_
 obtain ⟨v4, hv5, h⟩ := bindS h
 refine cF 35 (Za2 hv5) ?_
 refine veM [6, 8, 9, 10, 13, 14, 16] 1 201 [(1, A a1), (3, pf a0 0), (6, .ptr 1 0 0), (36, B (!v4))] [sl 0 a2, some ⟨0, Enc.cells (Ze.mk [] 0)⟩] ?_
 refine pc h (fun h => ?_) (fun h => ?_)
 refine srveM [6, 8, 9, 10, 13, 14, 16] 201 [(6, .ptr 1 0 0), (7, B false)] [sl 0 a2, some ⟨0, Enc.cells (Ze.mk [] 0)⟩] ?_
 have h := si h
 subst h
 exact Zg ⟨.inr rfl, .tup [E (Ze.mk [] 0), B false], _, 0, by kernel_rfl, (OutP.tup (OutL.cons (OutP.frz (by kernel_rfl)) (OutL.cons (OutP.frz (by kernel_rfl)) (OutL.nil _)))), by decide, by decide, by kernel_rfl⟩
 refine Zj ?_
 refine srvM [6, 8, 9, 10, 13, 14, 16] 3 201 [(6, .ptr 1 0 0), (38, A a1), (40, I a0.fN)] [sl 0 a2, some ⟨0, Enc.cells (Ze.mk [] 0)⟩] ?_
 obtain ⟨v7, hv8, h⟩ := bindS h
 refine Z2 τ_ok 41 hv8 (by kernel_rfl) ?_
 refine veM [6, 8, 9, 10, 13, 14, 16] 5 201 [(6, .ptr 1 0 0), (7, B true)] [sl 0 a2, some ⟨0, Enc.cells (Ze.mk v7.fColumns 6)⟩] ?_
 have h := si h
 subst h
 exact Zg ⟨.inr rfl, .tup [E (Ze.mk v7.fColumns 6), B true], _, 0, by kernel_rfl, (OutP.tup (OutL.cons (OutP.frz (by kernel_rfl)) (OutL.cons (OutP.frz (by kernel_rfl)) (OutL.nil _)))), by decide, by decide, by kernel_rfl⟩
 refine Zj ?_
 refine Zi ?_
 refine Zi ?_
 refine Zab (σ := Bool) (fun x9 => (⟨201, [(2, rf 0 0 2 a2), (3, pf a0 0), (6, .ptr 1 0 0), (60, B x9)], [sl 0 a2, some ⟨0, Enc.cells (Ze.mk [] 0)⟩]⟩ : St)) (fun x9 => impl_Step_make_L2_j1 a0 a2 x9 = some y) ?_ ?_
 refine rvM [6, 8, 9, 10, 13, 14, 16] 5 201 [(2, rf 0 0 2 a2), (3, pf a0 0), (6, .ptr 1 0 0), (46, I a0.fA), (49, I (w64 ((a2.length : Int) - 1)))] [sl 0 a2, some ⟨0, Enc.cells (Ze.mk [] 0)⟩] ?_
 obtain ⟨v72, hv73, h⟩ := bindS h
 refine cF 50 (Za2 hv73) ?_
 refine vM [6, 8, 9, 10, 13, 14, 16] 2 201 [(2, rf 0 0 2 a2), (3, pf a0 0), (6, .ptr 1 0 0), (52, B (!v72))] [sl 0 a2, some ⟨0, Enc.cells (Ze.mk [] 0)⟩] ?_
 rcases fk (!v72) with hc76 | hc76
 replace h := bT hc76 h
 rw [hc76]
 refine veM [6, 8, 9, 10, 13, 14, 16] 8 201 [(2, rf 0 0 2 a2), (3, pf a0 0), (6, .ptr 1 0 0), (60, B true)] [sl 0 a2, some ⟨0, Enc.cells (Ze.mk [] 0)⟩] ?_
 exact ⟨true, h, it [2, 3, 6, 60]⟩
 replace h := bF hc76 h
 rw [hc76]
 refine vM [6, 8, 9, 10, 13, 14, 16] 5 201 [(2, rf 0 0 2 a2), (3, pf a0 0), (6, .ptr 1 0 0), (52, B false), (54, I a0.fB), (57, I (w64 ((a2.length : Int) - 1)))] [sl 0 a2, some ⟨0, Enc.cells (Ze.mk [] 0)⟩] ?_
 obtain ⟨v74, hv75, h⟩ := bindS h
 refine cF 58 (Za2 hv75) ?_
 refine veM [6, 8, 9, 10, 13, 14, 16] 2 201 [(2, rf 0 0 2 a2), (3, pf a0 0), (6, .ptr 1 0 0), (60, B (!v74))] [sl 0 a2, some ⟨0, Enc.cells (Ze.mk [] 0)⟩] ?_
 exact ⟨(!v74), h, it [2, 3, 6, 60]⟩
 rintro x9 h
 unfold impl_Step_make_L2_j1 at h
 refine pc h (fun h => ?_) (fun h => ?_)
 refine srveM [6, 8, 9, 10, 13, 14, 16] 201 [(6, .ptr 1 0 0), (7, B false)] [sl 0 a2, some ⟨0, Enc.cells (Ze.mk [] 0)⟩] ?_
 have h := si h
 subst h
 exact Zg ⟨.inr rfl, .tup [E (Ze.mk [] 0), B false], _, 0, by kernel_rfl, (OutP.tup (OutL.cons (OutP.frz (by kernel_rfl)) (OutL.cons (OutP.frz (by kernel_rfl)) (OutL.nil _)))), by decide, by decide, by kernel_rfl⟩
 refine Zj ?_
 refine Zi ?_
 refine ip 201 [(2, rf 0 0 2 a2), (3, pf a0 0), (6, .ptr 1 0 0)] [sl 0 a2, some ⟨0, Enc.cells (Ze.mk [] 0)⟩] ?_
 refine Za8 (Imp.ghosts 2 (st' := ⟨201, [(2, rf 0 0 2 a2), (3, pf a0 0), (6, .ptr 1 0 0)], [sl 0 a2, some ⟨0, Enc.cells (Ze.mk [] 0)⟩, some ⟨0, []⟩, some ⟨0, []⟩]⟩) (by kernel_rfl)) ?_
 refine pwp_any ([[0], [], [], [0], [0], [0], [], [], [0], [0], [2], [3], [2], [3]]) ([[], [], [], [], [], [], [], [], [], [], [2], [3], [2], [3]]) rfl (by kernel_rfl) ?_
 refine qvM [6, 8, 9, 10, 13, 14, 16] [0] (hL trivial) 1 201 [(62, rf 0 0 2 a2), (2, rf 0 0 2 a2), (3, pf a0 0), (6, .ptr 1 0 0)] [sl 0 a2, some ⟨0, Enc.cells (Ze.mk [] 0)⟩, some ⟨0, []⟩, some ⟨0, []⟩] ?_
 refine qvM [6, 8, 9, 10, 13, 14, 16] [] trivial 2 201 [(64, I a0.fA), (62, rf 0 0 2 a2), (2, rf 0 0 2 a2), (3, pf a0 0), (6, .ptr 1 0 0)] [sl 0 a2, some ⟨0, Enc.cells (Ze.mk [] 0)⟩, some ⟨0, []⟩, some ⟨0, []⟩] ?_
 obtain ⟨v11, hv12, h⟩ := bindS h
 refine qX (some 65) (.ptr 0 0 (a0.fA.toNat * 2)) 201 [(65, .ptr 0 0 (a0.fA.toNat * 2)), (2, rf 0 0 2 a2), (3, pf a0 0), (6, .ptr 1 0 0)] [sl 0 a2, some ⟨0, Enc.cells (Ze.mk [] 0)⟩, some ⟨0, []⟩, some ⟨0, []⟩] (fun Γ' hΓ => CoreE.of_y (idrV_sound (n := a2.length) τ_ok (by kernel_rfl) hv12 rfl)) (hL trivial) ?_
 refine qX (some 66) (E v11) 201 [(66, E v11), (2, rf 0 0 2 a2), (3, pf a0 0), (6, .ptr 1 0 0)] [sl 0 a2, some ⟨0, Enc.cells (Ze.mk [] 0)⟩, some ⟨0, []⟩, some ⟨0, []⟩] (fun Γ' hΓ => CoreE.of_y (ldeV_sound (t := 82) (o' := 0) (r := E v11) τ_ok hv12 (by kernel_rfl) (by kernel_rfl))) (hL trivial) ?_
 refine qvM [6, 8, 9, 10, 13, 14, 16] [0] (hL trivial) 1 201 [(67, rf 0 0 2 a2), (66, E v11), (3, pf a0 0), (6, .ptr 1 0 0)] [sl 0 a2, some ⟨0, Enc.cells (Ze.mk [] 0)⟩, some ⟨0, []⟩, some ⟨0, []⟩] ?_
 refine qvM [6, 8, 9, 10, 13, 14, 16] [] trivial 2 201 [(69, I a0.fB), (67, rf 0 0 2 a2), (66, E v11), (3, pf a0 0), (6, .ptr 1 0 0)] [sl 0 a2, some ⟨0, Enc.cells (Ze.mk [] 0)⟩, some ⟨0, []⟩, some ⟨0, []⟩] ?_
 obtain ⟨v13, hv14, h⟩ := bindS h
 refine qX (some 70) (.ptr 0 0 (a0.fB.toNat * 2)) 201 [(70, .ptr 0 0 (a0.fB.toNat * 2)), (66, E v11), (3, pf a0 0), (6, .ptr 1 0 0)] [sl 0 a2, some ⟨0, Enc.cells (Ze.mk [] 0)⟩, some ⟨0, []⟩, some ⟨0, []⟩] (fun Γ' hΓ => CoreE.of_y (idrV_sound (n := a2.length) τ_ok (by kernel_rfl) hv14 rfl)) (hL trivial) ?_
 refine qX (some 71) (E v13) 201 [(71, E v13), (66, E v11), (3, pf a0 0), (6, .ptr 1 0 0)] [sl 0 a2, some ⟨0, Enc.cells (Ze.mk [] 0)⟩, some ⟨0, []⟩, some ⟨0, []⟩] (fun Γ' hΓ => CoreE.of_y (ldeV_sound (t := 82) (o' := 0) (r := E v13) τ_ok hv14 (by kernel_rfl) (by kernel_rfl))) (hL trivial) ?_
 refine qX (some 8) (.ptr 2 1 0) 201 [(8, .ptr 2 1 0), (71, E v13), (66, E v11), (3, pf a0 0), (6, .ptr 1 0 0)] [sl 0 a2, some ⟨0, Enc.cells (Ze.mk [] 0)⟩, some ⟨1, [.arr 2 0 (eL ([] : List Zb)) true, I 0]⟩, some ⟨0, []⟩] (fun Γ' hΓ => alz_E (blk := ⟨0, []⟩) (zs := [.arr 2 0 [] true, .lit (.int .i64 0)]) 8 82 2 0 (by first | exact py hΓ hQ | exact pky hΓ hQ) zi_ok82 (by kernel_rfl) (by kernel_rfl)) (hG trivial) ?_
 refine qX (Hm' := [none, none, none, some ⟨1, Enc.cells (Ze.mk [] 0)⟩]) (some 9) (.ptr 3 1 0) 201 [(9, .ptr 3 1 0), (8, .ptr 2 1 0), (71, E v13), (66, E v11), (3, pf a0 0), (6, .ptr 1 0 0)] [sl 0 a2, some ⟨0, Enc.cells (Ze.mk [] 0)⟩, some ⟨1, [.arr 2 0 (eL ([] : List Zb)) true, I 0]⟩, some ⟨1, Enc.cells (Ze.mk [] 0)⟩] (fun Γ' hΓ => alc_E (blk := ⟨0, []⟩) τ_ok [6, 8, 9, 10, 13, 14, 16] 9 3 0 (by first | exact py hΓ hQ | exact pky hΓ hQ) (by kernel_rfl) (by kernel_rfl)) (hB trivial) ?_
 refine qX (Hm' := [none, none, sc 1 v11, none]) none (.any) 201 [(9, .ptr 3 1 0), (8, .ptr 2 1 0), (71, E v13), (3, pf a0 0), (6, .ptr 1 0 0)] [sl 0 a2, some ⟨0, Enc.cells (Ze.mk [] 0)⟩, sc 1 v11, some ⟨1, Enc.cells (Ze.mk [] 0)⟩] (fun Γ' hΓ => sto_E τ_ok 2 1 (by kernel_rfl)) (hB trivial) ?_
 refine qX (Hm' := [none, none, none, sc 1 v13]) none (.any) 201 [(9, .ptr 3 1 0), (8, .ptr 2 1 0), (3, pf a0 0), (6, .ptr 1 0 0)] [sl 0 a2, some ⟨0, Enc.cells (Ze.mk [] 0)⟩, sc 1 v11, sc 1 v13] (fun Γ' hΓ => sto_E τ_ok 3 1 (by kernel_rfl)) (hB trivial) ?_
 refine qn 201 [(3, pf a0 0), (6, .ptr 1 0 0), (8, .ptr 2 1 0), (9, .ptr 3 1 0)] [sl 0 a2, some ⟨0, Enc.cells (Ze.mk [] 0)⟩, sc 1 v11, sc 1 v13] ?_
 refine Zi ?_
 refine srveM [6, 8, 9, 10, 13, 14, 16] 201 [(3, pf a0 0), (6, .ptr 1 0 0), (8, .ptr 2 1 0), (9, .ptr 3 1 0), (73, I a0.fKind)] [sl 0 a2, some ⟨0, Enc.cells (Ze.mk [] 0)⟩, sc 1 v11, sc 1 v13] ?_
 refine Zk ?_
 refine srveM [6, 8, 9, 10, 13, 14, 16] 201 [(3, pf a0 0), (6, .ptr 1 0 0), (8, .ptr 2 1 0), (9, .ptr 3 1 0), (73, I a0.fKind), (74, B (a0.fKind == 2))] [sl 0 a2, some ⟨0, Enc.cells (Ze.mk [] 0)⟩, sc 1 v11, sc 1 v13] ?_
 refine pc h (fun h => ?_) (fun h => ?_)
 refine Zi ?_
 refine ip 201 [(3, pf a0 0), (6, .ptr 1 0 0), (8, .ptr 2 1 0)] [sl 0 a2, some ⟨0, Enc.cells (Ze.mk [] 0)⟩, sc 1 v11, sc 1 v13] ?_
 refine pwp_any ([[2], [2], [2], [], [], [], [], [1], []]) ([[], [], [], [], [], [], [], [1], []]) rfl (by kernel_rfl) ?_
 refine qvM [6, 8, 9, 10, 13, 14, 16] [2] (hB trivial) 3 201 [(78, A v11.fColumns), (76, E v11), (3, pf a0 0), (6, .ptr 1 0 0)] [sl 0 a2, some ⟨0, Enc.cells (Ze.mk [] 0)⟩, sc 1 v11, sc 1 v13] ?_
 refine qvM [6, 8, 9, 10, 13, 14, 16] [] trivial 2 201 [(80, A a0.fE), (78, A v11.fColumns), (76, E v11), (6, .ptr 1 0 0)] [sl 0 a2, some ⟨0, Enc.cells (Ze.mk [] 0)⟩, sc 1 v11, sc 1 v13] ?_
 obtain ⟨v16, hv17, h⟩ := bindS h
 refine qX (some 81) (I v16) 201 [(81, I v16), (76, E v11), (6, .ptr 1 0 0)] [sl 0 a2, some ⟨0, Enc.cells (Ze.mk [] 0)⟩, sc 1 v11, sc 1 v13] (fun Γ' hΓ => CoreE.of_g (Zbb (τ := τ) (by kernel_rfl) rfl (ok_impl_ExprKind hv17) (FzTo.frz rfl))) trivial ?_
 refine qvM [6, 8, 9, 10, 13, 14, 16] [] trivial 1 201 [(82, B (v16 == 3)), (76, E v11), (6, .ptr 1 0 0)] [sl 0 a2, some ⟨0, Enc.cells (Ze.mk [] 0)⟩, sc 1 v11, sc 1 v13] ?_
 refine qX (Hm' := [none, sc 0 v11, none, none]) none (.any) 201 [(82, B (v16 == 3)), (6, .ptr 1 0 0)] [sl 0 a2, sc 0 v11, sc 1 v11, sc 1 v13] (fun Γ' hΓ => sto_E τ_ok 1 0 (by kernel_rfl)) (hB trivial) ?_
 refine qvnM [6, 8, 9, 10, 13, 14, 16] [] trivial 1 201 [(6, .ptr 1 0 0), (7, B (v16 == 3))] [sl 0 a2, sc 0 v11, sc 1 v11, sc 1 v13] ?_
 have h := si h
 subst h
 exact Zg ⟨.inr rfl, .tup [E v11, B (v16 == 3)], _, 0, by kernel_rfl, (OutP.tup (OutL.cons (OutP.frz (by kernel_rfl)) (OutL.cons (OutP.frz (by kernel_rfl)) (OutL.nil _)))), by decide, by decide, by kernel_rfl⟩
 refine srveM [6, 8, 9, 10, 13, 14, 16] 201 [(3, pf a0 0), (6, .ptr 1 0 0), (8, .ptr 2 1 0), (9, .ptr 3 1 0), (73, I a0.fKind), (83, B (a0.fKind == 3))] [sl 0 a2, some ⟨0, Enc.cells (Ze.mk [] 0)⟩, sc 1 v11, sc 1 v13] ?_
 refine pc h (fun h => ?_) (fun h => ?_)
 refine srvM [6, 8, 9, 10, 13, 14, 16] 2 201 [(3, pf a0 0), (6, .ptr 1 0 0), (8, .ptr 2 1 0), (86, I v11.fMost)] [sl 0 a2, some ⟨0, Enc.cells (Ze.mk [] 0)⟩, sc 1 v11, sc 1 v13] ?_
 refine opsP_E (dd := some 87) (x := .agg [.arr 2 0 (eL ([] : List Zb)) true, I v11.fMost]) (CoreE.of_y (bldV_sound (zs := [.arr 2 0 [] true, .lit (.int .i64 0)]) (cells := [.arr 2 0 (eL ([] : List Zb)) true, I v11.fMost]) τ_ok zi_ok82 (by kernel_rfl))) ?_
 refine vM [6, 8, 9, 10, 13, 14, 16] 0 201 [(3, pf a0 0), (6, .ptr 1 0 0), (8, .ptr 2 1 0), (87, .agg [.arr 2 0 (eL ([] : List Zb)) true, I v11.fMost])] [sl 0 a2, some ⟨0, Enc.cells (Ze.mk [] 0)⟩, sc 1 v11, sc 1 v13] ?_
 refine opsP_imp (Imp.ghosts 1 (st' := ⟨201, [(3, pf a0 0), (6, .ptr 1 0 0), (8, .ptr 2 1 0), (87, .agg [.arr 2 0 (eL ([] : List Zb)) true, I v11.fMost])], [sl 0 a2, some ⟨0, Enc.cells (Ze.mk [] 0)⟩, sc 1 v11, sc 1 v13, some ⟨0, []⟩]⟩) (by kernel_rfl)) ?_
 refine opsP_E (dd := some 10) (x := .ptr 4 1 0) (alz_E (blk := ⟨0, []⟩) (zs := [.arr 2 0 [] true, .lit (.int .i64 0)]) 10 82 4 0 (pn hQ) zi_ok82 (by kernel_rfl) (by kernel_rfl)) ?_
 refine veM [6, 8, 9, 10, 13, 14, 16] 1 201 [(3, pf a0 0), (6, .ptr 1 0 0), (8, .ptr 2 1 0), (10, .ptr 4 1 0)] [sl 0 a2, some ⟨0, Enc.cells (Ze.mk [] 0)⟩, sc 1 v11, sc 1 v13, some ⟨1, [.arr 2 0 (eL ([] : List Zb)) true, I v11.fMost]⟩] ?_
 refine Zi ?_
 refine srveM [6, 8, 9, 10, 13, 14, 16] 201 [(3, pf a0 0), (6, .ptr 1 0 0), (8, .ptr 2 1 0), (10, .ptr 4 1 0), (89, A a0.fList), (90, I (a0.fList.length : Int)), (91, I 0)] [sl 0 a2, some ⟨0, Enc.cells (Ze.mk [] 0)⟩, sc 1 v11, sc 1 v13, some ⟨1, [.arr 2 0 (eL ([] : List Zb)) true, I v11.fMost]⟩] ?_
 refine Zk ?_
 refine ip 201 [(3, pf a0 0), (6, .ptr 1 0 0), (8, .ptr 2 1 0), (10, .ptr 4 1 0), (89, A a0.fList), (90, I (a0.fList.length : Int)), (91, I 0)] [sl 0 a2, some ⟨0, Enc.cells (Ze.mk [] 0)⟩, sc 1 v11, sc 1 v13, some ⟨1, [.arr 2 0 (eL ([] : List Zb)) true, I v11.fMost]⟩] ?_
 refine Za8 (Imp.thawB (st' := ⟨201, [(3, pf a0 0), (6, .ptr 1 0 0), (8, .ptr 2 1 0), (10, .ptr 4 1 0), (89, A a0.fList), (90, I (a0.fList.length : Int)), (91, I 0)], [sl 0 a2, some ⟨0, Enc.cells (Ze.mk [] 0)⟩, sc 1 v11, sc 1 v13, some ⟨1, [.ref 5 0 0 2 ([] : List Zb).length false, I v11.fMost]⟩, some ⟨0, eL ([] : List Zb)⟩]⟩) 5 (by kernel_rfl) (HpRel.frz rfl (eL_frz _) (HpRel.frz rfl (Enc.frz _) (HpRel.frz rfl (Enc.frz _) (HpRel.frz rfl (Enc.frz _) (HpRel.box rfl (Zp.cons (.inr ⟨_, rfl, rfl⟩) (Zp.cons (.inl ⟨rfl, rfl⟩) Zp.nil)) (HpRel.key HpRel.nil)))))) (by rfl) (by rfl) (p01 hQ)) ?_
 refine Zaf (ι := Nat × Int × (List Zb)) (fun (f27, x25, x26) => (⟨201, [(3, pf a0 0), (6, .ptr 1 0 0), (8, .ptr 2 1 0), (10, .ptr 4 1 0), (89, A a0.fList), (90, I (a0.fList.length : Int)), (91, I x25)], [sl 0 a2, some ⟨0, Enc.cells (Ze.mk [] 0)⟩, sc 1 v11, sc 1 v13, some ⟨1, [rf 5 0 2 x26, I v11.fMost]⟩, sl 0 x26]⟩ : St)) (fun (f27, x25, x26) => impl_Step_make_L2_l2 a0 v11 f27 x25 x26 = some y) Prod.fst (FUEL, 0, ([] : List Zb)) h (it [3, 6, 8, 10, 89, 90, 91]) ?_
 rintro ⟨f27, x25, x26⟩ h
 dsimp only at h ⊢
 rcases f27 with _ | f27
 cases h
 rw [impl_Step_make_L2_l2] at h
 refine srveM [6, 8, 9, 10, 13, 14, 16] 201 [(3, pf a0 0), (6, .ptr 1 0 0), (8, .ptr 2 1 0), (10, .ptr 4 1 0), (89, A a0.fList), (90, I (a0.fList.length : Int)), (91, I x25), (92, B (decide (x25 < (a0.fList.length : Int))))] [sl 0 a2, some ⟨0, Enc.cells (Ze.mk [] 0)⟩, sc 1 v11, sc 1 v13, some ⟨1, [rf 5 0 2 x26, I v11.fMost]⟩, sl 0 x26] ?_
 refine Zi ?_
 refine pc h (fun h => ?_) (fun h => ?_)
 refine Zj ?_
 refine Zi ?_
 refine Zk ?_
 refine Zi ?_
 refine Zaq ?_
 obtain ⟨v30, hv31, h⟩ := bindS h
 refine Z2 τ_ok 93 hv31 (by kernel_rfl) ?_
 refine veM [6, 8, 9, 10, 13, 14, 16] 2 201 [(3, pf a0 0), (6, .ptr 1 0 0), (8, .ptr 2 1 0), (10, .ptr 4 1 0), (12, I v30), (89, A a0.fList), (90, I (a0.fList.length : Int)), (91, I x25)] [sl 0 a2, some ⟨0, Enc.cells (Ze.mk [] 0)⟩, sc 1 v11, sc 1 v13, some ⟨1, [rf 5 0 2 x26, I v11.fMost]⟩, sl 0 x26] ?_
 refine Zi ?_
 refine srvM [6, 8, 9, 10, 13, 14, 16] 5 201 [(3, pf a0 0), (6, .ptr 1 0 0), (8, .ptr 2 1 0), (10, .ptr 4 1 0), (12, I v30), (89, A a0.fList), (90, I (a0.fList.length : Int)), (91, I x25), (95, I v30), (99, I (w64 ((v11.fColumns.length : Int) - 1)))] [sl 0 a2, some ⟨0, Enc.cells (Ze.mk [] 0)⟩, sc 1 v11, sc 1 v13, some ⟨1, [rf 5 0 2 x26, I v11.fMost]⟩, sl 0 x26] ?_
 obtain ⟨v32, hv33, h⟩ := bindS h
 refine cF 100 (Za2 hv33) ?_
 refine veM [6, 8, 9, 10, 13, 14, 16] 1 201 [(3, pf a0 0), (6, .ptr 1 0 0), (8, .ptr 2 1 0), (10, .ptr 4 1 0), (12, I v30), (89, A a0.fList), (90, I (a0.fList.length : Int)), (91, I x25), (101, B (!v32))] [sl 0 a2, some ⟨0, Enc.cells (Ze.mk [] 0)⟩, sc 1 v11, sc 1 v13, some ⟨1, [rf 5 0 2 x26, I v11.fMost]⟩, sl 0 x26] ?_
 refine pc h (fun h => ?_) (fun h => ?_)
 refine srveM [6, 8, 9, 10, 13, 14, 16] 201 [(6, .ptr 1 0 0), (7, B false)] [sl 0 a2, some ⟨0, Enc.cells (Ze.mk [] 0)⟩, sc 1 v11, sc 1 v13, some ⟨1, [rf 5 0 2 x26, I v11.fMost]⟩, sl 0 x26] ?_
 have h := si h
 subst h
 exact Zg ⟨.inr rfl, .tup [E (Ze.mk [] 0), B false], _, 0, by kernel_rfl, (OutP.tup (OutL.cons (OutP.frz (by kernel_rfl)) (OutL.cons (OutP.frz (by kernel_rfl)) (OutL.nil _)))), by decide, by decide, by kernel_rfl⟩
 refine Zj ?_
 refine ip 201 [(3, pf a0 0), (6, .ptr 1 0 0), (8, .ptr 2 1 0), (10, .ptr 4 1 0), (12, I v30), (89, A a0.fList), (90, I (a0.fList.length : Int)), (91, I x25)] [sl 0 a2, some ⟨0, Enc.cells (Ze.mk [] 0)⟩, sc 1 v11, sc 1 v13, some ⟨1, [rf 5 0 2 x26, I v11.fMost]⟩, sl 0 x26] ?_
 refine pwp_any ([[4, 5], [4, 5], [2], [2], [], [], [], [], [5], [4, 5], [4, 5]]) ([[], [], [], [], [], [], [], [], [5], [], [4]]) rfl (by kernel_rfl) ?_
 refine qvM [6, 8, 9, 10, 13, 14, 16] [4, 5] (hR (hL trivial)) 2 201 [(104, rf 5 0 2 x26), (3, pf a0 0), (6, .ptr 1 0 0), (8, .ptr 2 1 0), (10, .ptr 4 1 0), (12, I v30), (89, A a0.fList), (90, I (a0.fList.length : Int)), (91, I x25)] [sl 0 a2, some ⟨0, Enc.cells (Ze.mk [] 0)⟩, sc 1 v11, sc 1 v13, some ⟨1, [rf 5 0 2 x26, I v11.fMost]⟩, sl 0 x26] ?_
 refine qvM [6, 8, 9, 10, 13, 14, 16] [2] (hB trivial) 2 201 [(106, A v11.fColumns), (104, rf 5 0 2 x26), (3, pf a0 0), (6, .ptr 1 0 0), (8, .ptr 2 1 0), (10, .ptr 4 1 0), (12, I v30), (89, A a0.fList), (90, I (a0.fList.length : Int)), (91, I x25)] [sl 0 a2, some ⟨0, Enc.cells (Ze.mk [] 0)⟩, sc 1 v11, sc 1 v13, some ⟨1, [rf 5 0 2 x26, I v11.fMost]⟩, sl 0 x26] ?_
 refine qvM [6, 8, 9, 10, 13, 14, 16] [] trivial 1 201 [(107, I v30), (106, A v11.fColumns), (104, rf 5 0 2 x26), (3, pf a0 0), (6, .ptr 1 0 0), (8, .ptr 2 1 0), (10, .ptr 4 1 0), (89, A a0.fList), (90, I (a0.fList.length : Int)), (91, I x25)] [sl 0 a2, some ⟨0, Enc.cells (Ze.mk [] 0)⟩, sc 1 v11, sc 1 v13, some ⟨1, [rf 5 0 2 x26, I v11.fMost]⟩, sl 0 x26] ?_
 obtain ⟨v35, hv36, h⟩ := bindS h
 refine qX (some 108) (pf v35 0) 201 [(108, pf v35 0), (104, rf 5 0 2 x26), (3, pf a0 0), (6, .ptr 1 0 0), (8, .ptr 2 1 0), (10, .ptr 4 1 0), (89, A a0.fList), (90, I (a0.fList.length : Int)), (91, I x25)] [sl 0 a2, some ⟨0, Enc.cells (Ze.mk [] 0)⟩, sc 1 v11, sc 1 v13, some ⟨1, [rf 5 0 2 x26, I v11.fMost]⟩, sl 0 x26] (fun Γ' hΓ => CoreE.of_y (Zaj τ_ok (by kernel_rfl) hv36)) trivial ?_
 refine qvM [6, 8, 9, 10, 13, 14, 16] [] trivial 2 201 [(110, .arr 2 ([v35] : List Zb).length (eL ([v35] : List Zb)) true), (104, rf 5 0 2 x26), (3, pf a0 0), (6, .ptr 1 0 0), (8, .ptr 2 1 0), (10, .ptr 4 1 0), (89, A a0.fList), (90, I (a0.fList.length : Int)), (91, I x25)] [sl 0 a2, some ⟨0, Enc.cells (Ze.mk [] 0)⟩, sc 1 v11, sc 1 v13, some ⟨1, [rf 5 0 2 x26, I v11.fMost]⟩, sl 0 x26] ?_
 obtain ⟨v37, hv38, h⟩ := bindS h
 refine qX (some 111) (rf 5 1 2 v37) 201 [(111, rf 5 1 2 v37), (3, pf a0 0), (6, .ptr 1 0 0), (8, .ptr 2 1 0), (10, .ptr 4 1 0), (89, A a0.fList), (90, I (a0.fList.length : Int)), (91, I x25)] [sl 0 a2, some ⟨0, Enc.cells (Ze.mk [] 0)⟩, sc 1 v11, sc 1 v13, some ⟨1, [rf 5 0 2 x26, I v11.fMost]⟩, sl 1 v37] (fun Γ' hΓ => app_Ew τ_ok 111 5 0 (by first | exact py hΓ hQ | exact pky hΓ hQ) hv38 (by kernel_rfl)) (hL trivial) ?_
 refine qvM [6, 8, 9, 10, 13, 14, 16] [4, 5] (hR (hL trivial)) 1 201 [(112, .ptr 4 1 0), (111, rf 5 1 2 v37), (3, pf a0 0), (6, .ptr 1 0 0), (8, .ptr 2 1 0), (10, .ptr 4 1 0), (89, A a0.fList), (90, I (a0.fList.length : Int)), (91, I x25)] [sl 0 a2, some ⟨0, Enc.cells (Ze.mk [] 0)⟩, sc 1 v11, sc 1 v13, some ⟨1, [rf 5 0 2 x26, I v11.fMost]⟩, sl 1 v37] ?_
 refine qX (Hm' := [none, none, none, none, some ⟨1, [rf 5 1 2 v37, I v11.fMost]⟩, sl 1 v37]) none (.any) 201 [(3, pf a0 0), (6, .ptr 1 0 0), (8, .ptr 2 1 0), (10, .ptr 4 1 0), (89, A a0.fList), (90, I (a0.fList.length : Int)), (91, I x25)] [sl 0 a2, some ⟨0, Enc.cells (Ze.mk [] 0)⟩, sc 1 v11, sc 1 v13, some ⟨1, [rf 5 1 2 v37, I v11.fMost]⟩, sl 1 v37] (fun Γ' hΓ => sto_E τ_ok 4 1 (by kernel_rfl)) (hR (hL trivial)) ?_
 refine qn 201 [(3, pf a0 0), (6, .ptr 1 0 0), (8, .ptr 2 1 0), (10, .ptr 4 1 0), (89, A a0.fList), (90, I (a0.fList.length : Int)), (91, I x25)] [sl 0 a2, some ⟨0, Enc.cells (Ze.mk [] 0)⟩, sc 1 v11, sc 1 v13, some ⟨1, [rf 5 1 2 v37, I v11.fMost]⟩, sl 1 v37] ?_
 refine rveM [6, 8, 9, 10, 13, 14, 16] 201 [(3, pf a0 0), (6, .ptr 1 0 0), (8, .ptr 2 1 0), (10, .ptr 4 1 0), (89, A a0.fList), (90, I (a0.fList.length : Int)), (91, I (w64 (x25 + 1)))] [sl 0 a2, some ⟨0, Enc.cells (Ze.mk [] 0)⟩, sc 1 v11, sc 1 v13, some ⟨1, [rf 5 1 2 v37, I v11.fMost]⟩, sl 1 v37] ?_
 exact ⟨(f27, (w64 (x25 + 1)), v37), h, Nat.lt_succ_self _, qt (it (st' := ⟨201, [(3, pf a0 0), (6, .ptr 1 0 0), (8, .ptr 2 1 0), (10, .ptr 4 1 0), (89, A a0.fList), (90, I (a0.fList.length : Int)), (91, I (w64 (x25 + 1)))], [sl 0 a2, some ⟨0, Enc.cells (Ze.mk [] 0)⟩, sc 1 v11, sc 1 v13, some ⟨1, [rf 5 1 2 v37, I v11.fMost]⟩, sl 1 v37]⟩) [3, 6, 8, 10, 89, 90, 91]) (qt (Imp.reverB (cs := eL v37) (st' := ⟨201, [(3, pf a0 0), (6, .ptr 1 0 0), (8, .ptr 2 1 0), (10, .ptr 4 1 0), (89, A a0.fList), (90, I (a0.fList.length : Int)), (91, I (w64 (x25 + 1)))], [sl 0 a2, some ⟨0, Enc.cells (Ze.mk [] 0)⟩, sc 1 v11, sc 1 v13, some ⟨1, [rf 5 0 2 v37, I v11.fMost]⟩, sl 0 v37]⟩) 5 1 (by kernel_rfl) (qu_of_frzL (eL_frz _)) (HpRel.frz rfl (eL_frz _) (HpRel.frz rfl (Enc.frz _) (HpRel.frz rfl (Enc.frz _) (HpRel.frz rfl (Enc.frz _) (HpRel.box rfl (Zp.cons ⟨rfl, rfl⟩ (Zp.cons ⟨rfl, rfl⟩ Zp.nil)) (HpRel.key HpRel.nil)))))) (by kernel_rfl) (by rfl) (p01 hQ)) (it [3, 6, 8, 10, 89, 90, 91]))⟩
 refine Zae ?_
 refine Zi ?_
 refine ip 201 [(3, pf a0 0), (6, .ptr 1 0 0), (10, .ptr 4 1 0)] [sl 0 a2, some ⟨0, Enc.cells (Ze.mk [] 0)⟩, sc 1 v11, sc 1 v13, some ⟨1, [rf 5 0 2 x26, I v11.fMost]⟩, sl 0 x26] ?_
 refine Za8 (Imp.freezeB (v := 0) (cs := eL x26) (st' := ⟨201, [(3, pf a0 0), (6, .ptr 1 0 0), (10, .ptr 4 1 0)], [sl 0 a2, some ⟨0, Enc.cells (Ze.mk [] 0)⟩, sc 1 v11, sc 1 v13, some ⟨1, Enc.cells (Ze.mk x26 v11.fMost)⟩, none]⟩) 5 0 (pn hQ) (by kernel_rfl) (eL_frz _) (wholeC (Zaa (by kernel_rfl)) (wholeC (Zaa (by kernel_rfl)) (wholeC (Zaa (by kernel_rfl)) wholeC0))) (HpRel.frz rfl (eL_frz _) (HpRel.frz rfl (Enc.frz _) (HpRel.frz rfl (Enc.frz _) (HpRel.frz rfl (Enc.frz _) (HpRel.box rfl (Zp.cons ⟨rfl, (whole_is (eL_len x26).symm), rfl⟩ (Zp.cons ⟨rfl, trivial, rfl⟩ Zp.nil)) (HpRel.key HpRel.nil)))))) (by kernel_rfl) rfl (p01 hQ)) ?_
 refine ip 201 [(3, pf a0 0), (6, .ptr 1 0 0), (10, .ptr 4 1 0)] [sl 0 a2, some ⟨0, Enc.cells (Ze.mk [] 0)⟩, sc 1 v11, sc 1 v13, some ⟨1, Enc.cells (Ze.mk x26 v11.fMost)⟩, none] ?_
 refine pwp_any ([[4], [], [], [], [], [1], []]) ([[], [], [], [], [], [1], []]) rfl (by kernel_rfl) ?_
 refine qvM [6, 8, 9, 10, 13, 14, 16] [4] (hB trivial) 1 201 [(114, E (Ze.mk x26 v11.fMost)), (3, pf a0 0), (6, .ptr 1 0 0)] [sl 0 a2, some ⟨0, Enc.cells (Ze.mk [] 0)⟩, sc 1 v11, sc 1 v13, some ⟨1, Enc.cells (Ze.mk x26 v11.fMost)⟩, none] ?_
 refine qvM [6, 8, 9, 10, 13, 14, 16] [] trivial 4 201 [(118, B (decide ((a0.fList.length : Int) ≤ 4))), (114, E (Ze.mk x26 v11.fMost)), (6, .ptr 1 0 0)] [sl 0 a2, some ⟨0, Enc.cells (Ze.mk [] 0)⟩, sc 1 v11, sc 1 v13, some ⟨1, Enc.cells (Ze.mk x26 v11.fMost)⟩, none] ?_
 refine qX (Hm' := [none, some ⟨0, Enc.cells (Ze.mk x26 v11.fMost)⟩, none, none, none, none]) none (.any) 201 [(118, B (decide ((a0.fList.length : Int) ≤ 4))), (6, .ptr 1 0 0)] [sl 0 a2, some ⟨0, Enc.cells (Ze.mk x26 v11.fMost)⟩, sc 1 v11, sc 1 v13, some ⟨1, Enc.cells (Ze.mk x26 v11.fMost)⟩, none] (fun Γ' hΓ => sto_E τ_ok 1 0 (by kernel_rfl)) (hB trivial) ?_
 refine qvnM [6, 8, 9, 10, 13, 14, 16] [] trivial 1 201 [(6, .ptr 1 0 0), (7, B (decide ((a0.fList.length : Int) ≤ 4)))] [sl 0 a2, some ⟨0, Enc.cells (Ze.mk x26 v11.fMost)⟩, sc 1 v11, sc 1 v13, some ⟨1, Enc.cells (Ze.mk x26 v11.fMost)⟩, none] ?_
 have h := si h
 subst h
 exact Zg ⟨.inr rfl, .tup [E (Ze.mk x26 v11.fMost), B (decide ((a0.fList.length : Int) ≤ 4))], _, 0, by kernel_rfl, (OutP.tup (OutL.cons (OutP.frz (by kernel_rfl)) (OutL.cons (OutP.frz (by kernel_rfl)) (OutL.nil _)))), by decide, by decide, by kernel_rfl⟩
 refine srveM [6, 8, 9, 10, 13, 14, 16] 201 [(3, pf a0 0), (6, .ptr 1 0 0), (8, .ptr 2 1 0), (9, .ptr 3 1 0), (73, I a0.fKind), (119, B (a0.fKind == 4))] [sl 0 a2, some ⟨0, Enc.cells (Ze.mk [] 0)⟩, sc 1 v11, sc 1 v13] ?_
 refine pc h (fun h => ?_) (fun h => ?_)
 refine Zi ?_
 refine ip 201 [(3, pf a0 0), (6, .ptr 1 0 0), (8, .ptr 2 1 0), (9, .ptr 3 1 0)] [sl 0 a2, some ⟨0, Enc.cells (Ze.mk [] 0)⟩, sc 1 v11, sc 1 v13] ?_
 refine Za8 (Imp.ghosts 1 (st' := ⟨201, [(3, pf a0 0), (6, .ptr 1 0 0), (8, .ptr 2 1 0), (9, .ptr 3 1 0)], [sl 0 a2, some ⟨0, Enc.cells (Ze.mk [] 0)⟩, sc 1 v11, sc 1 v13, some ⟨0, []⟩]⟩) (by kernel_rfl)) ?_
 refine pwp_any ([[2], [2], [3], [3], [], [], [2], [2], [3], [3], [], [], [4], [4]]) ([[], [], [], [], [], [], [], [], [], [], [], [], [4], [4]]) rfl (by kernel_rfl) ?_
 refine qvM [6, 8, 9, 10, 13, 14, 16] [2] (hB trivial) 2 201 [(122, A v11.fColumns), (3, pf a0 0), (6, .ptr 1 0 0), (8, .ptr 2 1 0), (9, .ptr 3 1 0)] [sl 0 a2, some ⟨0, Enc.cells (Ze.mk [] 0)⟩, sc 1 v11, sc 1 v13, some ⟨0, []⟩] ?_
 refine qvM [6, 8, 9, 10, 13, 14, 16] [3] (hB trivial) 2 201 [(124, A v13.fColumns), (122, A v11.fColumns), (3, pf a0 0), (6, .ptr 1 0 0), (8, .ptr 2 1 0), (9, .ptr 3 1 0)] [sl 0 a2, some ⟨0, Enc.cells (Ze.mk [] 0)⟩, sc 1 v11, sc 1 v13, some ⟨0, []⟩] ?_
 refine qvM [6, 8, 9, 10, 13, 14, 16] [] trivial 1 201 [(125, .arr 1 ([v11.fColumns, v13.fColumns] : List (List Zb)).length (eL ([v11.fColumns, v13.fColumns] : List (List Zb))) true), (3, pf a0 0), (6, .ptr 1 0 0), (8, .ptr 2 1 0), (9, .ptr 3 1 0)] [sl 0 a2, some ⟨0, Enc.cells (Ze.mk [] 0)⟩, sc 1 v11, sc 1 v13, some ⟨0, []⟩] ?_
 obtain ⟨v40, hv41, h⟩ := bindS h
 refine qX (some 126) (A v40) 201 [(126, A v40), (3, pf a0 0), (6, .ptr 1 0 0), (8, .ptr 2 1 0), (9, .ptr 3 1 0)] [sl 0 a2, some ⟨0, Enc.cells (Ze.mk [] 0)⟩, sc 1 v11, sc 1 v13, some ⟨0, []⟩] (fun Γ' hΓ => CoreE.of_g (Zbb (τ := τ) (by kernel_rfl) rfl (ok_slices_Concat_impl_Column_impl_Column hv41) (FzTo.O _))) trivial ?_
 refine qvM [6, 8, 9, 10, 13, 14, 16] [2] (hB trivial) 2 201 [(128, I v11.fMost), (126, A v40), (3, pf a0 0), (6, .ptr 1 0 0), (9, .ptr 3 1 0)] [sl 0 a2, some ⟨0, Enc.cells (Ze.mk [] 0)⟩, sc 1 v11, sc 1 v13, some ⟨0, []⟩] ?_
 refine qvM [6, 8, 9, 10, 13, 14, 16] [3] (hB trivial) 2 201 [(130, I v13.fMost), (128, I v11.fMost), (126, A v40), (3, pf a0 0), (6, .ptr 1 0 0)] [sl 0 a2, some ⟨0, Enc.cells (Ze.mk [] 0)⟩, sc 1 v11, sc 1 v13, some ⟨0, []⟩] ?_
 refine qvM [6, 8, 9, 10, 13, 14, 16] [] trivial 2 201 [(132, E (Ze.mk v40 (w64 (v11.fMost * v13.fMost)))), (3, pf a0 0), (6, .ptr 1 0 0)] [sl 0 a2, some ⟨0, Enc.cells (Ze.mk [] 0)⟩, sc 1 v11, sc 1 v13, some ⟨0, []⟩] ?_
 refine qX (Hm' := [none, none, none, none, some ⟨1, Enc.cells (Ze.mk [] 0)⟩]) (some 13) (.ptr 4 1 0) 201 [(13, .ptr 4 1 0), (132, E (Ze.mk v40 (w64 (v11.fMost * v13.fMost)))), (3, pf a0 0), (6, .ptr 1 0 0)] [sl 0 a2, some ⟨0, Enc.cells (Ze.mk [] 0)⟩, sc 1 v11, sc 1 v13, some ⟨1, Enc.cells (Ze.mk [] 0)⟩] (fun Γ' hΓ => alc_E (blk := ⟨0, []⟩) τ_ok [6, 8, 9, 10, 13, 14, 16] 13 4 0 (by first | exact py hΓ hQ | exact pky hΓ hQ) (by kernel_rfl) (by kernel_rfl)) (hB trivial) ?_
 refine qX (Hm' := [none, none, none, none, some ⟨1, Enc.cells (Ze.mk v40 (w64 (v11.fMost * v13.fMost)))⟩]) none (.any) 201 [(13, .ptr 4 1 0), (3, pf a0 0), (6, .ptr 1 0 0)] [sl 0 a2, some ⟨0, Enc.cells (Ze.mk [] 0)⟩, sc 1 v11, sc 1 v13, some ⟨1, Enc.cells (Ze.mk v40 (w64 (v11.fMost * v13.fMost)))⟩] (fun Γ' hΓ => sto_E τ_ok 4 1 (by kernel_rfl)) (hB trivial) ?_
 refine qn 201 [(3, pf a0 0), (6, .ptr 1 0 0), (13, .ptr 4 1 0)] [sl 0 a2, some ⟨0, Enc.cells (Ze.mk [] 0)⟩, sc 1 v11, sc 1 v13, some ⟨1, Enc.cells (Ze.mk v40 (w64 (v11.fMost * v13.fMost)))⟩] ?_
 refine Zi ?_
 refine ip 201 [(3, pf a0 0), (6, .ptr 1 0 0), (13, .ptr 4 1 0)] [sl 0 a2, some ⟨0, Enc.cells (Ze.mk [] 0)⟩, sc 1 v11, sc 1 v13, some ⟨1, Enc.cells (Ze.mk v40 (w64 (v11.fMost * v13.fMost)))⟩] ?_
 refine pwp_any ([[4], [4], [4], [], [], [], [4], [4], [], [], [], [], [], [1], []]) ([[], [], [], [], [], [], [], [], [], [], [], [], [], [1], []]) rfl (by kernel_rfl) ?_
 refine qvM [6, 8, 9, 10, 13, 14, 16] [4] (hB trivial) 3 201 [(135, A v40), (133, E (Ze.mk v40 (w64 (v11.fMost * v13.fMost)))), (3, pf a0 0), (6, .ptr 1 0 0), (13, .ptr 4 1 0)] [sl 0 a2, some ⟨0, Enc.cells (Ze.mk [] 0)⟩, sc 1 v11, sc 1 v13, some ⟨1, Enc.cells (Ze.mk v40 (w64 (v11.fMost * v13.fMost)))⟩] ?_
 refine qvM [6, 8, 9, 10, 13, 14, 16] [] trivial 3 201 [(138, B (decide ((v40.length : Int) ≤ 4))), (133, E (Ze.mk v40 (w64 (v11.fMost * v13.fMost)))), (3, pf a0 0), (6, .ptr 1 0 0), (13, .ptr 4 1 0)] [sl 0 a2, some ⟨0, Enc.cells (Ze.mk [] 0)⟩, sc 1 v11, sc 1 v13, some ⟨1, Enc.cells (Ze.mk v40 (w64 (v11.fMost * v13.fMost)))⟩] ?_
 rcases fk (decide ((v40.length : Int) ≤ 4)) with hc44 | hc44
 replace h := bT hc44 h
 rw [hc44]
 refine qvM [6, 8, 9, 10, 13, 14, 16] [4] (hB trivial) 2 201 [(140, A v40), (138, B true), (133, E (Ze.mk v40 (w64 (v11.fMost * v13.fMost)))), (3, pf a0 0), (6, .ptr 1 0 0)] [sl 0 a2, some ⟨0, Enc.cells (Ze.mk [] 0)⟩, sc 1 v11, sc 1 v13, some ⟨1, Enc.cells (Ze.mk v40 (w64 (v11.fMost * v13.fMost)))⟩] ?_
 refine qvM [6, 8, 9, 10, 13, 14, 16] [] trivial 2 201 [(142, A a0.fE), (140, A v40), (138, B true), (133, E (Ze.mk v40 (w64 (v11.fMost * v13.fMost)))), (6, .ptr 1 0 0)] [sl 0 a2, some ⟨0, Enc.cells (Ze.mk [] 0)⟩, sc 1 v11, sc 1 v13, some ⟨1, Enc.cells (Ze.mk v40 (w64 (v11.fMost * v13.fMost)))⟩] ?_
 obtain ⟨v42, hv43, h⟩ := bindS h
 refine qX (some 143) (I v42) 201 [(143, I v42), (138, B true), (133, E (Ze.mk v40 (w64 (v11.fMost * v13.fMost)))), (6, .ptr 1 0 0)] [sl 0 a2, some ⟨0, Enc.cells (Ze.mk [] 0)⟩, sc 1 v11, sc 1 v13, some ⟨1, Enc.cells (Ze.mk v40 (w64 (v11.fMost * v13.fMost)))⟩] (fun Γ' hΓ => CoreE.of_g (Zbb (τ := τ) (by kernel_rfl) rfl (ok_impl_ExprKind hv43) (FzTo.frz rfl))) trivial ?_
 refine qvM [6, 8, 9, 10, 13, 14, 16] [] trivial 2 201 [(145, B (v42 == 3)), (133, E (Ze.mk v40 (w64 (v11.fMost * v13.fMost)))), (6, .ptr 1 0 0)] [sl 0 a2, some ⟨0, Enc.cells (Ze.mk [] 0)⟩, sc 1 v11, sc 1 v13, some ⟨1, Enc.cells (Ze.mk v40 (w64 (v11.fMost * v13.fMost)))⟩] ?_
 refine qX (Hm' := [none, some ⟨0, Enc.cells (Ze.mk v40 (w64 (v11.fMost * v13.fMost)))⟩, none, none, none]) none (.any) 201 [(145, B (v42 == 3)), (6, .ptr 1 0 0)] [sl 0 a2, some ⟨0, Enc.cells (Ze.mk v40 (w64 (v11.fMost * v13.fMost)))⟩, sc 1 v11, sc 1 v13, some ⟨1, Enc.cells (Ze.mk v40 (w64 (v11.fMost * v13.fMost)))⟩] (fun Γ' hΓ => sto_E τ_ok 1 0 (by kernel_rfl)) (hB trivial) ?_
 refine qvnM [6, 8, 9, 10, 13, 14, 16] [] trivial 1 201 [(6, .ptr 1 0 0), (7, B (v42 == 3))] [sl 0 a2, some ⟨0, Enc.cells (Ze.mk v40 (w64 (v11.fMost * v13.fMost)))⟩, sc 1 v11, sc 1 v13, some ⟨1, Enc.cells (Ze.mk v40 (w64 (v11.fMost * v13.fMost)))⟩] ?_
 have h := si h
 subst h
 exact Zg ⟨.inr rfl, .tup [E (Ze.mk v40 (w64 (v11.fMost * v13.fMost))), B (v42 == 3)], _, 0, by kernel_rfl, (OutP.tup (OutL.cons (OutP.frz (by kernel_rfl)) (OutL.cons (OutP.frz (by kernel_rfl)) (OutL.nil _)))), by decide, by decide, by kernel_rfl⟩
 replace h := bF hc44 h
 rw [hc44]
 refine qvM [6, 8, 9, 10, 13, 14, 16] [4] (hB trivial) 2 201 [(140, .lit undef), (138, B false), (133, E (Ze.mk v40 (w64 (v11.fMost * v13.fMost)))), (3, pf a0 0), (6, .ptr 1 0 0)] [sl 0 a2, some ⟨0, Enc.cells (Ze.mk [] 0)⟩, sc 1 v11, sc 1 v13, some ⟨1, Enc.cells (Ze.mk v40 (w64 (v11.fMost * v13.fMost)))⟩] ?_
 refine qvM [6, 8, 9, 10, 13, 14, 16] [] trivial 5 201 [(145, B false), (133, E (Ze.mk v40 (w64 (v11.fMost * v13.fMost)))), (6, .ptr 1 0 0)] [sl 0 a2, some ⟨0, Enc.cells (Ze.mk [] 0)⟩, sc 1 v11, sc 1 v13, some ⟨1, Enc.cells (Ze.mk v40 (w64 (v11.fMost * v13.fMost)))⟩] ?_
 refine qX (Hm' := [none, some ⟨0, Enc.cells (Ze.mk v40 (w64 (v11.fMost * v13.fMost)))⟩, none, none, none]) none (.any) 201 [(145, B false), (6, .ptr 1 0 0)] [sl 0 a2, some ⟨0, Enc.cells (Ze.mk v40 (w64 (v11.fMost * v13.fMost)))⟩, sc 1 v11, sc 1 v13, some ⟨1, Enc.cells (Ze.mk v40 (w64 (v11.fMost * v13.fMost)))⟩] (fun Γ' hΓ => sto_E τ_ok 1 0 (by kernel_rfl)) (hB trivial) ?_
 refine qvnM [6, 8, 9, 10, 13, 14, 16] [] trivial 1 201 [(6, .ptr 1 0 0), (7, B false)] [sl 0 a2, some ⟨0, Enc.cells (Ze.mk v40 (w64 (v11.fMost * v13.fMost)))⟩, sc 1 v11, sc 1 v13, some ⟨1, Enc.cells (Ze.mk v40 (w64 (v11.fMost * v13.fMost)))⟩] ?_
 have h := si h
 subst h
 exact Zg ⟨.inr rfl, .tup [E (Ze.mk v40 (w64 (v11.fMost * v13.fMost))), B false], _, 0, by kernel_rfl, (OutP.tup (OutL.cons (OutP.frz (by kernel_rfl)) (OutL.cons (OutP.frz (by kernel_rfl)) (OutL.nil _)))), by decide, by decide, by kernel_rfl⟩
 refine srveM [6, 8, 9, 10, 13, 14, 16] 201 [(6, .ptr 1 0 0), (8, .ptr 2 1 0), (9, .ptr 3 1 0), (146, B (a0.fKind == 5))] [sl 0 a2, some ⟨0, Enc.cells (Ze.mk [] 0)⟩, sc 1 v11, sc 1 v13] ?_
 refine pc h (fun h => ?_) (fun h => ?_)
 refine Zi ?_
 refine ip 201 [(6, .ptr 1 0 0), (8, .ptr 2 1 0), (9, .ptr 3 1 0)] [sl 0 a2, some ⟨0, Enc.cells (Ze.mk [] 0)⟩, sc 1 v11, sc 1 v13] ?_
 refine Za8 (Imp.ghosts 2 (st' := ⟨201, [(6, .ptr 1 0 0), (8, .ptr 2 1 0), (9, .ptr 3 1 0)], [sl 0 a2, some ⟨0, Enc.cells (Ze.mk [] 0)⟩, sc 1 v11, sc 1 v13, some ⟨0, []⟩, some ⟨0, []⟩]⟩) (by kernel_rfl)) ?_
 refine pwp_any ([[2], [2], [4], [2], [2], [3], [3], [], [4], [5], [4, 5]]) ([[], [], [4], [], [], [], [], [], [], [5], [5]]) rfl (by kernel_rfl) ?_
 refine qvM [6, 8, 9, 10, 13, 14, 16] [2] (hB trivial) 2 201 [(149, A v11.fColumns), (6, .ptr 1 0 0), (8, .ptr 2 1 0), (9, .ptr 3 1 0)] [sl 0 a2, some ⟨0, Enc.cells (Ze.mk [] 0)⟩, sc 1 v11, sc 1 v13, some ⟨0, []⟩, some ⟨0, []⟩] ?_
 obtain ⟨v46, hv47, h⟩ := bindS h
 refine qX (some 150) (rf 4 1 2 v46) 201 [(150, rf 4 1 2 v46), (6, .ptr 1 0 0), (8, .ptr 2 1 0), (9, .ptr 3 1 0)] [sl 0 a2, some ⟨0, Enc.cells (Ze.mk [] 0)⟩, sc 1 v11, sc 1 v13, sl 1 v46, some ⟨0, []⟩] (fun Γ' hΓ => callK_E (blk := ⟨0, []⟩) τ 150 4 0 (by first | exact py hΓ hQ | exact pky hΓ hQ) (by kernel_rfl) (ok_impl_clone_impl_Column_R hv47) rfl (by kernel_rfl)) (hL trivial) ?_
 refine qvM [6, 8, 9, 10, 13, 14, 16] [2] (hB trivial) 2 201 [(152, I v11.fMost), (150, rf 4 1 2 v46), (6, .ptr 1 0 0), (8, .ptr 2 1 0), (9, .ptr 3 1 0)] [sl 0 a2, some ⟨0, Enc.cells (Ze.mk [] 0)⟩, sc 1 v11, sc 1 v13, sl 1 v46, some ⟨0, []⟩] ?_
 refine qvM [6, 8, 9, 10, 13, 14, 16] [3] (hB trivial) 2 201 [(154, I v13.fMost), (152, I v11.fMost), (150, rf 4 1 2 v46), (6, .ptr 1 0 0), (8, .ptr 2 1 0), (9, .ptr 3 1 0)] [sl 0 a2, some ⟨0, Enc.cells (Ze.mk [] 0)⟩, sc 1 v11, sc 1 v13, sl 1 v46, some ⟨0, []⟩] ?_
 refine qvM [6, 8, 9, 10, 13, 14, 16] [] trivial 1 201 [(155, I (w64 (v11.fMost + v13.fMost))), (150, rf 4 1 2 v46), (6, .ptr 1 0 0), (8, .ptr 2 1 0), (9, .ptr 3 1 0)] [sl 0 a2, some ⟨0, Enc.cells (Ze.mk [] 0)⟩, sc 1 v11, sc 1 v13, sl 1 v46, some ⟨0, []⟩] ?_
 refine qX (some 156) (.agg [rf 4 1 2 v46, I (w64 (v11.fMost + v13.fMost))]) 201 [(156, .agg [rf 4 1 2 v46, I (w64 (v11.fMost + v13.fMost))]), (6, .ptr 1 0 0), (8, .ptr 2 1 0), (9, .ptr 3 1 0)] [sl 0 a2, some ⟨0, Enc.cells (Ze.mk [] 0)⟩, sc 1 v11, sc 1 v13, sl 1 v46, some ⟨0, []⟩] (fun Γ' hΓ => CoreE.of_y (bldV_sound (zs := [.arr 2 0 [] true, .lit (.int .i64 0)]) (cells := [rf 4 1 2 v46, I (w64 (v11.fMost + v13.fMost))]) τ_ok zi_ok82 (by kernel_rfl))) (hL trivial) ?_
 refine qX (some 14) (.ptr 5 1 0) 201 [(14, .ptr 5 1 0), (156, .agg [rf 4 1 2 v46, I (w64 (v11.fMost + v13.fMost))]), (6, .ptr 1 0 0), (8, .ptr 2 1 0), (9, .ptr 3 1 0)] [sl 0 a2, some ⟨0, Enc.cells (Ze.mk [] 0)⟩, sc 1 v11, sc 1 v13, sl 1 v46, some ⟨1, [.arr 2 0 (eL ([] : List Zb)) true, I 0]⟩] (fun Γ' hΓ => alz_E (blk := ⟨0, []⟩) (zs := [.arr 2 0 [] true, .lit (.int .i64 0)]) 14 82 5 0 (by first | exact py hΓ hQ | exact pky hΓ hQ) zi_ok82 (by kernel_rfl) (by kernel_rfl)) (hG trivial) ?_
 refine qX (Hm' := [none, none, none, none, sl 1 v46, some ⟨1, [rf 4 1 2 v46, I (w64 (v11.fMost + v13.fMost))]⟩]) none (.any) 201 [(14, .ptr 5 1 0), (6, .ptr 1 0 0), (8, .ptr 2 1 0), (9, .ptr 3 1 0)] [sl 0 a2, some ⟨0, Enc.cells (Ze.mk [] 0)⟩, sc 1 v11, sc 1 v13, sl 1 v46, some ⟨1, [rf 4 1 2 v46, I (w64 (v11.fMost + v13.fMost))]⟩] (fun Γ' hΓ => sto_E τ_ok 5 1 (by kernel_rfl)) (hL (hR trivial)) ?_
 refine qn 201 [(6, .ptr 1 0 0), (8, .ptr 2 1 0), (9, .ptr 3 1 0), (14, .ptr 5 1 0)] [sl 0 a2, some ⟨0, Enc.cells (Ze.mk [] 0)⟩, sc 1 v11, sc 1 v13, sl 1 v46, some ⟨1, [rf 4 1 2 v46, I (w64 (v11.fMost + v13.fMost))]⟩] ?_
 refine Zi ?_
 refine srveM [6, 8, 9, 10, 13, 14, 16] 201 [(6, .ptr 1 0 0), (9, .ptr 3 1 0), (14, .ptr 5 1 0), (163, B (!((v11.fColumns.length : Int) == (v13.fColumns.length : Int))))] [sl 0 a2, some ⟨0, Enc.cells (Ze.mk [] 0)⟩, sc 1 v11, sc 1 v13, sl 1 v46, some ⟨1, [rf 4 1 2 v46, I (w64 (v11.fMost + v13.fMost))]⟩] ?_
 refine pc h (fun h => ?_) (fun h => ?_)
 refine srveM [6, 8, 9, 10, 13, 14, 16] 201 [(6, .ptr 1 0 0), (7, B false)] [sl 0 a2, some ⟨0, Enc.cells (Ze.mk [] 0)⟩, sc 1 v11, sc 1 v13, sl 1 v46, some ⟨1, [rf 4 1 2 v46, I (w64 (v11.fMost + v13.fMost))]⟩] ?_
 have h := si h
 subst h
 exact Zg ⟨.inr rfl, .tup [E (Ze.mk [] 0), B false], _, 0, by kernel_rfl, (OutP.tup (OutL.cons (OutP.frz (by kernel_rfl)) (OutL.cons (OutP.frz (by kernel_rfl)) (OutL.nil _)))), by decide, by decide, by kernel_rfl⟩
 refine Zj ?_
 refine Zi ?_
 refine srveM [6, 8, 9, 10, 13, 14, 16] 201 [(6, .ptr 1 0 0), (14, .ptr 5 1 0), (166, A v13.fColumns), (167, I (v13.fColumns.length : Int)), (168, I 0)] [sl 0 a2, some ⟨0, Enc.cells (Ze.mk [] 0)⟩, sc 1 v11, sc 1 v13, sl 1 v46, some ⟨1, [rf 4 1 2 v46, I (w64 (v11.fMost + v13.fMost))]⟩] ?_
 refine Zk ?_
 refine Zaf (ι := Nat × Int × (List Zb)) (fun (f57, x55, x56) => (⟨201, [(6, .ptr 1 0 0), (14, .ptr 5 1 0), (166, A v13.fColumns), (167, I (v13.fColumns.length : Int)), (168, I x55)], [sl 0 a2, some ⟨0, Enc.cells (Ze.mk [] 0)⟩, sc 1 v11, sc 1 v13, sl 0 x56, some ⟨1, [rf 4 0 2 x56, I (w64 (v11.fMost + v13.fMost))]⟩]⟩ : St)) (fun (f57, x55, x56) => Za5 v11 v13 f57 x55 x56 = some y) Prod.fst (FUEL, 0, v46) h (qt (it (st' := ⟨201, [(6, .ptr 1 0 0), (14, .ptr 5 1 0), (166, A v13.fColumns), (167, I (v13.fColumns.length : Int)), (168, I 0)], [sl 0 a2, some ⟨0, Enc.cells (Ze.mk [] 0)⟩, sc 1 v11, sc 1 v13, sl 1 v46, some ⟨1, [rf 4 1 2 v46, I (w64 (v11.fMost + v13.fMost))]⟩]⟩) [6, 14, 166, 167, 168]) (qt (Imp.reverB (cs := eL v46) (st' := ⟨201, [(6, .ptr 1 0 0), (14, .ptr 5 1 0), (166, A v13.fColumns), (167, I (v13.fColumns.length : Int)), (168, I 0)], [sl 0 a2, some ⟨0, Enc.cells (Ze.mk [] 0)⟩, sc 1 v11, sc 1 v13, sl 0 v46, some ⟨1, [rf 4 0 2 v46, I (w64 (v11.fMost + v13.fMost))]⟩]⟩) 4 1 (by kernel_rfl) (qu_of_frzL (eL_frz _)) (HpRel.frz rfl (eL_frz _) (HpRel.frz rfl (Enc.frz _) (HpRel.frz rfl (Enc.frz _) (HpRel.frz rfl (Enc.frz _) (HpRel.key (HpRel.box rfl (Zp.cons ⟨rfl, rfl⟩ (Zp.cons ⟨rfl, rfl⟩ Zp.nil)) HpRel.nil)))))) (by kernel_rfl) (by rfl) (p01 hQ)) (it [6, 14, 166, 167, 168]))) ?_
 rintro ⟨f57, x55, x56⟩ h
 dsimp only at h ⊢
 rcases f57 with _ | f57
 cases h
 rw [Za5] at h
 refine srveM [6, 8, 9, 10, 13, 14, 16] 201 [(6, .ptr 1 0 0), (14, .ptr 5 1 0), (166, A v13.fColumns), (167, I (v13.fColumns.length : Int)), (168, I x55), (169, B (decide (x55 < (v13.fColumns.length : Int))))] [sl 0 a2, some ⟨0, Enc.cells (Ze.mk [] 0)⟩, sc 1 v11, sc 1 v13, sl 0 x56, some ⟨1, [rf 4 0 2 x56, I (w64 (v11.fMost + v13.fMost))]⟩] ?_
 refine Zi ?_
 refine pc h (fun h => ?_) (fun h => ?_)
 refine Zj ?_
 refine Zi ?_
 refine Zk ?_
 refine srvM [6, 8, 9, 10, 13, 14, 16] 1 201 [(6, .ptr 1 0 0), (14, .ptr 5 1 0), (166, A v13.fColumns), (167, I (v13.fColumns.length : Int)), (168, I x55), (170, I x55)] [sl 0 a2, some ⟨0, Enc.cells (Ze.mk [] 0)⟩, sc 1 v11, sc 1 v13, sl 0 x56, some ⟨1, [rf 4 0 2 x56, I (w64 (v11.fMost + v13.fMost))]⟩] ?_
 obtain ⟨v60, hv61, h⟩ := bindS h
 refine Z2 τ_ok 171 hv61 (by kernel_rfl) ?_
 refine veM [6, 8, 9, 10, 13, 14, 16] 4 201 [(6, .ptr 1 0 0), (14, .ptr 5 1 0), (15, I x55), (16, .ptr 6 0 0), (166, A v13.fColumns), (167, I (v13.fColumns.length : Int)), (168, I x55)] [sl 0 a2, some ⟨0, Enc.cells (Ze.mk [] 0)⟩, sc 1 v11, sc 1 v13, sl 0 x56, some ⟨1, [rf 4 0 2 x56, I (w64 (v11.fMost + v13.fMost))]⟩, sc 0 v60] ?_
 refine Zi ?_
 refine Zi ?_
 refine ip 201 [(6, .ptr 1 0 0), (14, .ptr 5 1 0), (15, I x55), (16, .ptr 6 0 0), (166, A v13.fColumns), (167, I (v13.fColumns.length : Int)), (168, I x55)] [sl 0 a2, some ⟨0, Enc.cells (Ze.mk [] 0)⟩, sc 1 v11, sc 1 v13, sl 0 x56, some ⟨1, [rf 4 0 2 x56, I (w64 (v11.fMost + v13.fMost))]⟩, sc 0 v60] ?_
 refine pwp_any ([[6], [6], [4, 5], [4, 5], [], [4], [4], [4], []]) ([[], [], [], [], [], [], [], [], []]) rfl (by kernel_rfl) ?_
 refine qvM [6, 8, 9, 10, 13, 14, 16] [6] (hB trivial) 2 201 [(174, I v60.fKind), (6, .ptr 1 0 0), (14, .ptr 5 1 0), (15, I x55), (16, .ptr 6 0 0), (166, A v13.fColumns), (167, I (v13.fColumns.length : Int)), (168, I x55)] [sl 0 a2, some ⟨0, Enc.cells (Ze.mk [] 0)⟩, sc 1 v11, sc 1 v13, sl 0 x56, some ⟨1, [rf 4 0 2 x56, I (w64 (v11.fMost + v13.fMost))]⟩, sc 0 v60] ?_
 refine qvM [6, 8, 9, 10, 13, 14, 16] [4, 5] (hL (hR trivial)) 2 201 [(176, rf 4 0 2 x56), (174, I v60.fKind), (6, .ptr 1 0 0), (14, .ptr 5 1 0), (15, I x55), (16, .ptr 6 0 0), (166, A v13.fColumns), (167, I (v13.fColumns.length : Int)), (168, I x55)] [sl 0 a2, some ⟨0, Enc.cells (Ze.mk [] 0)⟩, sc 1 v11, sc 1 v13, sl 0 x56, some ⟨1, [rf 4 0 2 x56, I (w64 (v11.fMost + v13.fMost))]⟩, sc 0 v60] ?_
 refine qvM [6, 8, 9, 10, 13, 14, 16] [] trivial 1 201 [(177, I x55), (176, rf 4 0 2 x56), (174, I v60.fKind), (6, .ptr 1 0 0), (14, .ptr 5 1 0), (15, I x55), (16, .ptr 6 0 0), (166, A v13.fColumns), (167, I (v13.fColumns.length : Int)), (168, I x55)] [sl 0 a2, some ⟨0, Enc.cells (Ze.mk [] 0)⟩, sc 1 v11, sc 1 v13, sl 0 x56, some ⟨1, [rf 4 0 2 x56, I (w64 (v11.fMost + v13.fMost))]⟩, sc 0 v60] ?_
 obtain ⟨v62, hv63, h⟩ := bindS h
 refine qX (some 178) (.ptr 4 0 (x55.toNat * 2)) 201 [(178, .ptr 4 0 (x55.toNat * 2)), (174, I v60.fKind), (6, .ptr 1 0 0), (14, .ptr 5 1 0), (15, I x55), (16, .ptr 6 0 0), (166, A v13.fColumns), (167, I (v13.fColumns.length : Int)), (168, I x55)] [sl 0 a2, some ⟨0, Enc.cells (Ze.mk [] 0)⟩, sc 1 v11, sc 1 v13, sl 0 x56, some ⟨1, [rf 4 0 2 x56, I (w64 (v11.fMost + v13.fMost))]⟩, sc 0 v60] (fun Γ' hΓ => CoreE.of_y (idrV_sound (n := x56.length) τ_ok (by kernel_rfl) hv63 rfl)) (hL trivial) ?_
 refine qvM [6, 8, 9, 10, 13, 14, 16] [4] (hL trivial) 1 201 [(179, .ptr 4 0 (x55.toNat * 2)), (174, I v60.fKind), (6, .ptr 1 0 0), (14, .ptr 5 1 0), (15, I x55), (16, .ptr 6 0 0), (166, A v13.fColumns), (167, I (v13.fColumns.length : Int)), (168, I x55)] [sl 0 a2, some ⟨0, Enc.cells (Ze.mk [] 0)⟩, sc 1 v11, sc 1 v13, sl 0 x56, some ⟨1, [rf 4 0 2 x56, I (w64 (v11.fMost + v13.fMost))]⟩, sc 0 v60] ?_
 refine qX (some 180) (I v62.fKind) 201 [(180, I v62.fKind), (174, I v60.fKind), (6, .ptr 1 0 0), (14, .ptr 5 1 0), (15, I x55), (16, .ptr 6 0 0), (166, A v13.fColumns), (167, I (v13.fColumns.length : Int)), (168, I x55)] [sl 0 a2, some ⟨0, Enc.cells (Ze.mk [] 0)⟩, sc 1 v11, sc 1 v13, sl 0 x56, some ⟨1, [rf 4 0 2 x56, I (w64 (v11.fMost + v13.fMost))]⟩, sc 0 v60] (fun Γ' hΓ => CoreE.of_y (ldeV_sound (t := 3) (o' := 0) (r := I v62.fKind) τ_ok hv63 (by kernel_rfl) (by kernel_rfl))) (hL trivial) ?_
 refine qvnM [6, 8, 9, 10, 13, 14, 16] [] trivial 1 201 [(6, .ptr 1 0 0), (14, .ptr 5 1 0), (15, I x55), (16, .ptr 6 0 0), (166, A v13.fColumns), (167, I (v13.fColumns.length : Int)), (168, I x55), (181, B (!(v60.fKind == v62.fKind)))] [sl 0 a2, some ⟨0, Enc.cells (Ze.mk [] 0)⟩, sc 1 v11, sc 1 v13, sl 0 x56, some ⟨1, [rf 4 0 2 x56, I (w64 (v11.fMost + v13.fMost))]⟩, sc 0 v60] ?_
 refine pc h (fun h => ?_) (fun h => ?_)
 refine srveM [6, 8, 9, 10, 13, 14, 16] 201 [(6, .ptr 1 0 0), (7, B false)] [sl 0 a2, some ⟨0, Enc.cells (Ze.mk [] 0)⟩, sc 1 v11, sc 1 v13, sl 0 x56, some ⟨1, [rf 4 0 2 x56, I (w64 (v11.fMost + v13.fMost))]⟩, sc 0 v60] ?_
 have h := si h
 subst h
 exact Zg ⟨.inr rfl, .tup [E (Ze.mk [] 0), B false], _, 0, by kernel_rfl, (OutP.tup (OutL.cons (OutP.frz (by kernel_rfl)) (OutL.cons (OutP.frz (by kernel_rfl)) (OutL.nil _)))), by decide, by decide, by kernel_rfl⟩
 refine Zj ?_
 refine ip 201 [(6, .ptr 1 0 0), (14, .ptr 5 1 0), (15, I x55), (16, .ptr 6 0 0), (166, A v13.fColumns), (167, I (v13.fColumns.length : Int)), (168, I x55)] [sl 0 a2, some ⟨0, Enc.cells (Ze.mk [] 0)⟩, sc 1 v11, sc 1 v13, sl 0 x56, some ⟨1, [rf 4 0 2 x56, I (w64 (v11.fMost + v13.fMost))]⟩, sc 0 v60] ?_
 refine pwp_any ([[4, 5], [4, 5], [], [4, 5], [4, 5], [], [4], [4], [4], [], [6], [6], [], [4], [4], [4]]) ([[], [], [], [], [], [], [], [], [], [], [], [], [], [], [], [4]]) rfl (by kernel_rfl) ?_
 refine qvM [6, 8, 9, 10, 13, 14, 16] [4, 5] (hL (hR trivial)) 2 201 [(184, rf 4 0 2 x56), (6, .ptr 1 0 0), (14, .ptr 5 1 0), (15, I x55), (16, .ptr 6 0 0), (166, A v13.fColumns), (167, I (v13.fColumns.length : Int)), (168, I x55)] [sl 0 a2, some ⟨0, Enc.cells (Ze.mk [] 0)⟩, sc 1 v11, sc 1 v13, sl 0 x56, some ⟨1, [rf 4 0 2 x56, I (w64 (v11.fMost + v13.fMost))]⟩, sc 0 v60] ?_
 refine qvM [6, 8, 9, 10, 13, 14, 16] [] trivial 1 201 [(185, I x55), (184, rf 4 0 2 x56), (6, .ptr 1 0 0), (14, .ptr 5 1 0), (15, I x55), (16, .ptr 6 0 0), (166, A v13.fColumns), (167, I (v13.fColumns.length : Int)), (168, I x55)] [sl 0 a2, some ⟨0, Enc.cells (Ze.mk [] 0)⟩, sc 1 v11, sc 1 v13, sl 0 x56, some ⟨1, [rf 4 0 2 x56, I (w64 (v11.fMost + v13.fMost))]⟩, sc 0 v60] ?_
 refine qvM [6, 8, 9, 10, 13, 14, 16] [4, 5] (hL (hR trivial)) 2 201 [(187, rf 4 0 2 x56), (185, I x55), (184, rf 4 0 2 x56), (6, .ptr 1 0 0), (14, .ptr 5 1 0), (15, I x55), (16, .ptr 6 0 0), (166, A v13.fColumns), (167, I (v13.fColumns.length : Int)), (168, I x55)] [sl 0 a2, some ⟨0, Enc.cells (Ze.mk [] 0)⟩, sc 1 v11, sc 1 v13, sl 0 x56, some ⟨1, [rf 4 0 2 x56, I (w64 (v11.fMost + v13.fMost))]⟩, sc 0 v60] ?_
 refine qvM [6, 8, 9, 10, 13, 14, 16] [] trivial 1 201 [(188, I x55), (187, rf 4 0 2 x56), (185, I x55), (184, rf 4 0 2 x56), (6, .ptr 1 0 0), (14, .ptr 5 1 0), (16, .ptr 6 0 0), (166, A v13.fColumns), (167, I (v13.fColumns.length : Int)), (168, I x55)] [sl 0 a2, some ⟨0, Enc.cells (Ze.mk [] 0)⟩, sc 1 v11, sc 1 v13, sl 0 x56, some ⟨1, [rf 4 0 2 x56, I (w64 (v11.fMost + v13.fMost))]⟩, sc 0 v60] ?_
 obtain ⟨v65, hv66, h⟩ := bindS h
 refine qX (some 189) (.ptr 4 0 (x55.toNat * 2)) 201 [(189, .ptr 4 0 (x55.toNat * 2)), (185, I x55), (184, rf 4 0 2 x56), (6, .ptr 1 0 0), (14, .ptr 5 1 0), (16, .ptr 6 0 0), (166, A v13.fColumns), (167, I (v13.fColumns.length : Int)), (168, I x55)] [sl 0 a2, some ⟨0, Enc.cells (Ze.mk [] 0)⟩, sc 1 v11, sc 1 v13, sl 0 x56, some ⟨1, [rf 4 0 2 x56, I (w64 (v11.fMost + v13.fMost))]⟩, sc 0 v60] (fun Γ' hΓ => CoreE.of_y (idrV_sound (n := x56.length) τ_ok (by kernel_rfl) hv66 rfl)) (hL trivial) ?_
 refine qvM [6, 8, 9, 10, 13, 14, 16] [4] (hL trivial) 1 201 [(190, .ptr 4 0 (x55.toNat * 2 + 1)), (185, I x55), (184, rf 4 0 2 x56), (6, .ptr 1 0 0), (14, .ptr 5 1 0), (16, .ptr 6 0 0), (166, A v13.fColumns), (167, I (v13.fColumns.length : Int)), (168, I x55)] [sl 0 a2, some ⟨0, Enc.cells (Ze.mk [] 0)⟩, sc 1 v11, sc 1 v13, sl 0 x56, some ⟨1, [rf 4 0 2 x56, I (w64 (v11.fMost + v13.fMost))]⟩, sc 0 v60] ?_
 refine qX (some 191) (B v65.fEmpty) 201 [(191, B v65.fEmpty), (185, I x55), (184, rf 4 0 2 x56), (6, .ptr 1 0 0), (14, .ptr 5 1 0), (16, .ptr 6 0 0), (166, A v13.fColumns), (167, I (v13.fColumns.length : Int)), (168, I x55)] [sl 0 a2, some ⟨0, Enc.cells (Ze.mk [] 0)⟩, sc 1 v11, sc 1 v13, sl 0 x56, some ⟨1, [rf 4 0 2 x56, I (w64 (v11.fMost + v13.fMost))]⟩, sc 0 v60] (fun Γ' hΓ => CoreE.of_y (ldeV_sound (t := 4) (o' := 1) (r := B v65.fEmpty) τ_ok hv66 (by kernel_rfl) (by kernel_rfl))) (hL trivial) ?_
 refine qvM [6, 8, 9, 10, 13, 14, 16] [] trivial 1 201 [(192, B v65.fEmpty), (185, I x55), (184, rf 4 0 2 x56), (6, .ptr 1 0 0), (14, .ptr 5 1 0), (16, .ptr 6 0 0), (166, A v13.fColumns), (167, I (v13.fColumns.length : Int)), (168, I x55)] [sl 0 a2, some ⟨0, Enc.cells (Ze.mk [] 0)⟩, sc 1 v11, sc 1 v13, sl 0 x56, some ⟨1, [rf 4 0 2 x56, I (w64 (v11.fMost + v13.fMost))]⟩, sc 0 v60] ?_
 rcases Bool.eq_false_or_eq_true v65.fEmpty with hc71 | hc71
 replace h := bT hc71 h
 rw [hc71]
 refine qvM [6, 8, 9, 10, 13, 14, 16] [6] (hB trivial) 2 201 [(194, .lit undef), (193, .lit undef), (192, B true), (185, I x55), (184, rf 4 0 2 x56), (6, .ptr 1 0 0), (14, .ptr 5 1 0), (166, A v13.fColumns), (167, I (v13.fColumns.length : Int)), (168, I x55)] [sl 0 a2, some ⟨0, Enc.cells (Ze.mk [] 0)⟩, sc 1 v11, sc 1 v13, sl 0 x56, some ⟨1, [rf 4 0 2 x56, I (w64 (v11.fMost + v13.fMost))]⟩, sc 0 v60] ?_
 refine qvM [6, 8, 9, 10, 13, 14, 16] [] trivial 1 201 [(195, B true), (194, .lit undef), (193, .lit undef), (185, I x55), (184, rf 4 0 2 x56), (6, .ptr 1 0 0), (14, .ptr 5 1 0), (166, A v13.fColumns), (167, I (v13.fColumns.length : Int)), (168, I x55)] [sl 0 a2, some ⟨0, Enc.cells (Ze.mk [] 0)⟩, sc 1 v11, sc 1 v13, sl 0 x56, some ⟨1, [rf 4 0 2 x56, I (w64 (v11.fMost + v13.fMost))]⟩, sc 0 v60] ?_
 obtain ⟨v67, hv68, h⟩ := bindS h
 refine qX (some 196) (.ptr 4 0 (x55.toNat * 2)) 201 [(196, .ptr 4 0 (x55.toNat * 2)), (195, B true), (194, .lit undef), (193, .lit undef), (6, .ptr 1 0 0), (14, .ptr 5 1 0), (166, A v13.fColumns), (167, I (v13.fColumns.length : Int)), (168, I x55)] [sl 0 a2, some ⟨0, Enc.cells (Ze.mk [] 0)⟩, sc 1 v11, sc 1 v13, sl 0 x56, some ⟨1, [rf 4 0 2 x56, I (w64 (v11.fMost + v13.fMost))]⟩, sc 0 v60] (fun Γ' hΓ => CoreE.of_y (idrV_sound (n := x56.length) τ_ok (by kernel_rfl) hv68 rfl)) (hL trivial) ?_
 refine qvM [6, 8, 9, 10, 13, 14, 16] [4] (hL trivial) 1 201 [(197, .ptr 4 0 (x55.toNat * 2 + 1)), (195, B true), (194, .lit undef), (193, .lit undef), (6, .ptr 1 0 0), (14, .ptr 5 1 0), (166, A v13.fColumns), (167, I (v13.fColumns.length : Int)), (168, I x55)] [sl 0 a2, some ⟨0, Enc.cells (Ze.mk [] 0)⟩, sc 1 v11, sc 1 v13, sl 0 x56, some ⟨1, [rf 4 0 2 x56, I (w64 (v11.fMost + v13.fMost))]⟩, sc 0 v60] ?_
 refine qX none (.any) 201 [(194, .lit undef), (193, .lit undef), (6, .ptr 1 0 0), (14, .ptr 5 1 0), (166, A v13.fColumns), (167, I (v13.fColumns.length : Int)), (168, I x55)] [sl 0 a2, some ⟨0, Enc.cells (Ze.mk [] 0)⟩, sc 1 v11, sc 1 v13, some ⟨0, eL (x56.set x55.toNat ({ v67 with fEmpty := true } : Zb))⟩, some ⟨1, [rf 4 0 2 x56, I (w64 (v11.fMost + v13.fMost))]⟩, sc 0 v60] (fun Γ' hΓ => ste_E (vs := [B true]) τ_ok 4 4 0 1 ({ v67 with fEmpty := true } : Zb) hv68 (by kernel_rfl) (by kernel_rfl) (by kernel_rfl)) (hL trivial) ?_
 refine qA_ren (st' := ⟨201, [(194, .lit undef), (193, .lit undef), (6, .ptr 1 0 0), (14, .ptr 5 1 0), (166, A v13.fColumns), (167, I (v13.fColumns.length : Int)), (168, I x55)], [sl 0 a2, some ⟨0, Enc.cells (Ze.mk [] 0)⟩, sc 1 v11, sc 1 v13, some ⟨0, eL (x56.set x55.toNat ({ v67 with fEmpty := true } : Zb))⟩, some ⟨1, [rf 4 0 2 x56, I (w64 (v11.fMost + v13.fMost))]⟩, sc 0 v60]⟩) 4 (x56.set x55.toNat ({ v67 with fEmpty := true } : Zb)).length (renC trivial (renC trivial (renC trivial (renC trivial (renC trivial (renC trivial (renC trivial renC0))))))) (by kernel_rfl) ?_
 refine qA_of_eq (st' := ⟨201, [(194, .lit undef), (193, .lit undef), (6, .ptr 1 0 0), (14, .ptr 5 1 0), (166, A v13.fColumns), (167, I (v13.fColumns.length : Int)), (168, I x55)], [sl 0 a2, some ⟨0, Enc.cells (Ze.mk [] 0)⟩, sc 1 v11, sc 1 v13, some ⟨0, eL (x56.set x55.toNat ({ v67 with fEmpty := true } : Zb))⟩, some ⟨1, [.ref 4 0 0 2 (x56.set x55.toNat ({ v67 with fEmpty := true } : Zb)).length false, I (w64 (v11.fMost + v13.fMost))]⟩, sc 0 v60]⟩) (by simp only [List.length_set]) ?_
 refine qn 201 [(6, .ptr 1 0 0), (14, .ptr 5 1 0), (166, A v13.fColumns), (167, I (v13.fColumns.length : Int)), (168, I x55), (193, .lit undef), (194, .lit undef)] [sl 0 a2, some ⟨0, Enc.cells (Ze.mk [] 0)⟩, sc 1 v11, sc 1 v13, some ⟨0, eL (x56.set x55.toNat ({ v67 with fEmpty := true } : Zb))⟩, some ⟨1, [.ref 4 0 0 2 (x56.set x55.toNat ({ v67 with fEmpty := true } : Zb)).length false, I (w64 (v11.fMost + v13.fMost))]⟩, sc 0 v60] ?_
 refine rveM [6, 8, 9, 10, 13, 14, 16] 201 [(6, .ptr 1 0 0), (14, .ptr 5 1 0), (166, A v13.fColumns), (167, I (v13.fColumns.length : Int)), (168, I (w64 (x55 + 1))), (193, .lit undef), (194, .lit undef)] [sl 0 a2, some ⟨0, Enc.cells (Ze.mk [] 0)⟩, sc 1 v11, sc 1 v13, some ⟨0, eL (x56.set x55.toNat ({ v67 with fEmpty := true } : Zb))⟩, some ⟨1, [.ref 4 0 0 2 (x56.set x55.toNat ({ v67 with fEmpty := true } : Zb)).length false, I (w64 (v11.fMost + v13.fMost))]⟩, sc 0 v60] ?_
 exact ⟨(f57, (w64 (x55 + 1)), (x56.set x55.toNat ({ v67 with fEmpty := true } : Zb))), h, Nat.lt_succ_self _, (it (st' := ⟨201, [(6, .ptr 1 0 0), (14, .ptr 5 1 0), (166, A v13.fColumns), (167, I (v13.fColumns.length : Int)), (168, I (w64 (x55 + 1)))], [sl 0 a2, some ⟨0, Enc.cells (Ze.mk [] 0)⟩, sc 1 v11, sc 1 v13, some ⟨0, eL (x56.set x55.toNat ({ v67 with fEmpty := true } : Zb))⟩, some ⟨1, [.ref 4 0 0 2 (x56.set x55.toNat ({ v67 with fEmpty := true } : Zb)).length false, I (w64 (v11.fMost + v13.fMost))]⟩, sc 0 v60]⟩) [6, 14, 166, 167, 168]).trans (Imp.truncS 6 (pl hQ) (by kernel_rfl) (allBelow_mem (by exact (And.intro rfl (And.intro rfl (And.intro rfl (And.intro rfl (And.intro rfl trivial))))))) (by exact (And.intro (frz_below (eL_frz _)) (And.intro (rfl) (And.intro (rfl) (And.intro (rfl) (And.intro (frz_below (eL_frz _)) (And.intro (rfl) trivial))))))) (by kernel_rfl))⟩
 replace h := bF hc71 h
 rw [hc71]
 refine qvM [6, 8, 9, 10, 13, 14, 16] [6] (hB trivial) 2 201 [(194, B v60.fEmpty), (193, .ptr 6 0 1), (192, B false), (185, I x55), (184, rf 4 0 2 x56), (6, .ptr 1 0 0), (14, .ptr 5 1 0), (166, A v13.fColumns), (167, I (v13.fColumns.length : Int)), (168, I x55)] [sl 0 a2, some ⟨0, Enc.cells (Ze.mk [] 0)⟩, sc 1 v11, sc 1 v13, sl 0 x56, some ⟨1, [rf 4 0 2 x56, I (w64 (v11.fMost + v13.fMost))]⟩, sc 0 v60] ?_
 refine qvM [6, 8, 9, 10, 13, 14, 16] [] trivial 1 201 [(195, B v60.fEmpty), (194, B v60.fEmpty), (193, .ptr 6 0 1), (185, I x55), (184, rf 4 0 2 x56), (6, .ptr 1 0 0), (14, .ptr 5 1 0), (166, A v13.fColumns), (167, I (v13.fColumns.length : Int)), (168, I x55)] [sl 0 a2, some ⟨0, Enc.cells (Ze.mk [] 0)⟩, sc 1 v11, sc 1 v13, sl 0 x56, some ⟨1, [rf 4 0 2 x56, I (w64 (v11.fMost + v13.fMost))]⟩, sc 0 v60] ?_
 obtain ⟨v69, hv70, h⟩ := bindS h
 refine qX (some 196) (.ptr 4 0 (x55.toNat * 2)) 201 [(196, .ptr 4 0 (x55.toNat * 2)), (195, B v60.fEmpty), (194, B v60.fEmpty), (193, .ptr 6 0 1), (6, .ptr 1 0 0), (14, .ptr 5 1 0), (166, A v13.fColumns), (167, I (v13.fColumns.length : Int)), (168, I x55)] [sl 0 a2, some ⟨0, Enc.cells (Ze.mk [] 0)⟩, sc 1 v11, sc 1 v13, sl 0 x56, some ⟨1, [rf 4 0 2 x56, I (w64 (v11.fMost + v13.fMost))]⟩, sc 0 v60] (fun Γ' hΓ => CoreE.of_y (idrV_sound (n := x56.length) τ_ok (by kernel_rfl) hv70 rfl)) (hL trivial) ?_
 refine qvM [6, 8, 9, 10, 13, 14, 16] [4] (hL trivial) 1 201 [(197, .ptr 4 0 (x55.toNat * 2 + 1)), (195, B v60.fEmpty), (194, B v60.fEmpty), (193, .ptr 6 0 1), (6, .ptr 1 0 0), (14, .ptr 5 1 0), (166, A v13.fColumns), (167, I (v13.fColumns.length : Int)), (168, I x55)] [sl 0 a2, some ⟨0, Enc.cells (Ze.mk [] 0)⟩, sc 1 v11, sc 1 v13, sl 0 x56, some ⟨1, [rf 4 0 2 x56, I (w64 (v11.fMost + v13.fMost))]⟩, sc 0 v60] ?_
 refine qX none (.any) 201 [(194, B v60.fEmpty), (193, .ptr 6 0 1), (6, .ptr 1 0 0), (14, .ptr 5 1 0), (166, A v13.fColumns), (167, I (v13.fColumns.length : Int)), (168, I x55)] [sl 0 a2, some ⟨0, Enc.cells (Ze.mk [] 0)⟩, sc 1 v11, sc 1 v13, some ⟨0, eL (x56.set x55.toNat ({ v69 with fEmpty := v60.fEmpty } : Zb))⟩, some ⟨1, [rf 4 0 2 x56, I (w64 (v11.fMost + v13.fMost))]⟩, sc 0 v60] (fun Γ' hΓ => ste_E (vs := [B v60.fEmpty]) τ_ok 4 4 0 1 ({ v69 with fEmpty := v60.fEmpty } : Zb) hv70 (by kernel_rfl) (by kernel_rfl) (by kernel_rfl)) (hL trivial) ?_
 refine qA_ren (st' := ⟨201, [(194, B v60.fEmpty), (193, .ptr 6 0 1), (6, .ptr 1 0 0), (14, .ptr 5 1 0), (166, A v13.fColumns), (167, I (v13.fColumns.length : Int)), (168, I x55)], [sl 0 a2, some ⟨0, Enc.cells (Ze.mk [] 0)⟩, sc 1 v11, sc 1 v13, some ⟨0, eL (x56.set x55.toNat ({ v69 with fEmpty := v60.fEmpty } : Zb))⟩, some ⟨1, [rf 4 0 2 x56, I (w64 (v11.fMost + v13.fMost))]⟩, sc 0 v60]⟩) 4 (x56.set x55.toNat ({ v69 with fEmpty := v60.fEmpty } : Zb)).length (renC trivial (renC trivial (renC trivial (renC trivial (renC trivial (renC trivial (renC trivial renC0))))))) (by kernel_rfl) ?_
 refine qA_of_eq (st' := ⟨201, [(194, B v60.fEmpty), (193, .ptr 6 0 1), (6, .ptr 1 0 0), (14, .ptr 5 1 0), (166, A v13.fColumns), (167, I (v13.fColumns.length : Int)), (168, I x55)], [sl 0 a2, some ⟨0, Enc.cells (Ze.mk [] 0)⟩, sc 1 v11, sc 1 v13, some ⟨0, eL (x56.set x55.toNat ({ v69 with fEmpty := v60.fEmpty } : Zb))⟩, some ⟨1, [.ref 4 0 0 2 (x56.set x55.toNat ({ v69 with fEmpty := v60.fEmpty } : Zb)).length false, I (w64 (v11.fMost + v13.fMost))]⟩, sc 0 v60]⟩) (by simp only [List.length_set]) ?_
 refine qn 201 [(6, .ptr 1 0 0), (14, .ptr 5 1 0), (166, A v13.fColumns), (167, I (v13.fColumns.length : Int)), (168, I x55), (193, .ptr 6 0 1), (194, B v60.fEmpty)] [sl 0 a2, some ⟨0, Enc.cells (Ze.mk [] 0)⟩, sc 1 v11, sc 1 v13, some ⟨0, eL (x56.set x55.toNat ({ v69 with fEmpty := v60.fEmpty } : Zb))⟩, some ⟨1, [.ref 4 0 0 2 (x56.set x55.toNat ({ v69 with fEmpty := v60.fEmpty } : Zb)).length false, I (w64 (v11.fMost + v13.fMost))]⟩, sc 0 v60] ?_
 refine rveM [6, 8, 9, 10, 13, 14, 16] 201 [(6, .ptr 1 0 0), (14, .ptr 5 1 0), (166, A v13.fColumns), (167, I (v13.fColumns.length : Int)), (168, I (w64 (x55 + 1))), (193, .ptr 6 0 1), (194, B v60.fEmpty)] [sl 0 a2, some ⟨0, Enc.cells (Ze.mk [] 0)⟩, sc 1 v11, sc 1 v13, some ⟨0, eL (x56.set x55.toNat ({ v69 with fEmpty := v60.fEmpty } : Zb))⟩, some ⟨1, [.ref 4 0 0 2 (x56.set x55.toNat ({ v69 with fEmpty := v60.fEmpty } : Zb)).length false, I (w64 (v11.fMost + v13.fMost))]⟩, sc 0 v60] ?_
 exact ⟨(f57, (w64 (x55 + 1)), (x56.set x55.toNat ({ v69 with fEmpty := v60.fEmpty } : Zb))), h, Nat.lt_succ_self _, (it (st' := ⟨201, [(6, .ptr 1 0 0), (14, .ptr 5 1 0), (166, A v13.fColumns), (167, I (v13.fColumns.length : Int)), (168, I (w64 (x55 + 1)))], [sl 0 a2, some ⟨0, Enc.cells (Ze.mk [] 0)⟩, sc 1 v11, sc 1 v13, some ⟨0, eL (x56.set x55.toNat ({ v69 with fEmpty := v60.fEmpty } : Zb))⟩, some ⟨1, [.ref 4 0 0 2 (x56.set x55.toNat ({ v69 with fEmpty := v60.fEmpty } : Zb)).length false, I (w64 (v11.fMost + v13.fMost))]⟩, sc 0 v60]⟩) [6, 14, 166, 167, 168]).trans (Imp.truncS 6 (pl hQ) (by kernel_rfl) (allBelow_mem (by exact (And.intro rfl (And.intro rfl (And.intro rfl (And.intro rfl (And.intro rfl trivial))))))) (by exact (And.intro (frz_below (eL_frz _)) (And.intro (rfl) (And.intro (rfl) (And.intro (rfl) (And.intro (frz_below (eL_frz _)) (And.intro (rfl) trivial))))))) (by kernel_rfl))⟩
 refine Zae ?_
 refine srvM [6, 8, 9, 10, 13, 14, 16] 1 201 [(6, .ptr 1 0 0), (199, .agg [rf 4 0 2 x56, I (w64 (v11.fMost + v13.fMost))])] [sl 0 a2, some ⟨0, Enc.cells (Ze.mk [] 0)⟩, sc 1 v11, sc 1 v13, sl 0 x56, some ⟨1, [rf 4 0 2 x56, I (w64 (v11.fMost + v13.fMost))]⟩] ?_
 refine opsP_imp (Imp.freezeB (v := 0) (cs := eL x56) (st' := ⟨201, [(6, .ptr 1 0 0), (199, E (Ze.mk x56 (w64 (v11.fMost + v13.fMost))))], [sl 0 a2, some ⟨0, Enc.cells (Ze.mk [] 0)⟩, sc 1 v11, sc 1 v13, none, some ⟨1, Enc.cells (Ze.mk x56 (w64 (v11.fMost + v13.fMost)))⟩]⟩) 4 0 (pn hQ) (by kernel_rfl) (eL_frz _) (wholeC (Zaa (by kernel_rfl)) (wholeC (whole_agg (wholeL (whole_is (eL_len x56).symm) (wholeL (Zaa (by kernel_rfl)) wholeL0))) wholeC0)) (HpRel.frz rfl (eL_frz _) (HpRel.frz rfl (Enc.frz _) (HpRel.frz rfl (Enc.frz _) (HpRel.frz rfl (Enc.frz _) (HpRel.key (HpRel.box rfl (Zp.cons ⟨rfl, (whole_is (eL_len x56).symm), rfl⟩ (Zp.cons ⟨rfl, trivial, rfl⟩ Zp.nil)) HpRel.nil)))))) (by kernel_rfl) rfl (p01 hQ)) ?_
 refine veM [6, 8, 9, 10, 13, 14, 16] 2 201 [(6, .ptr 1 0 0), (7, B true)] [sl 0 a2, some ⟨0, Enc.cells (Ze.mk x56 (w64 (v11.fMost + v13.fMost)))⟩, sc 1 v11, sc 1 v13, none, some ⟨1, Enc.cells (Ze.mk x56 (w64 (v11.fMost + v13.fMost)))⟩] ?_
 have h := si h
 subst h
 exact Zg ⟨.inr rfl, .tup [E (Ze.mk x56 (w64 (v11.fMost + v13.fMost))), B true], _, 0, by kernel_rfl, (OutP.tup (OutL.cons (OutP.frz (by kernel_rfl)) (OutL.cons (OutP.frz (by kernel_rfl)) (OutL.nil _)))), by decide, by decide, by kernel_rfl⟩
 refine Zj ?_
 refine srveM [6, 8, 9, 10, 13, 14, 16] 201 [(6, .ptr 1 0 0), (7, B true)] [sl 0 a2, sc 0 v11, sc 1 v11, sc 1 v13] ?_
 have h := si h
 subst h
 exact Zg ⟨.inr rfl, .tup [E v11, B true], _, 0, by kernel_rfl, (OutP.tup (OutL.cons (OutP.frz (by kernel_rfl)) (OutL.cons (OutP.frz (by kernel_rfl)) (OutL.nil _)))), by decide, by decide, by kernel_rfl⟩
def impl_makes_j2 (x4 : Int) (x5 : List Ze) (K7 : Int → (List Ze) → Option ((List Ze) × Bool)) (v11 : Ze × Bool) (x13 : Bool) : Option ((List Ze) × Bool) := bif x13 then some (([] : List Ze), false) else (app x5 ([v11.1] : List Ze)).bind fun v15 => K7 (w64 (x4 + 1)) v15
def impl_makes_l1 (a0 : List Zh) (a1 : List Zf) : Nat → Int → (List Ze) → Option ((List Ze) × Bool)
 | 0, _, _ => none
 | f6 + 1, x4, x5 => bif (decide (x4 < (a1.length : Int))) then (getI a1 x4).bind fun v9 => (impl_Step_make_L2 v9 a0 x5).bind fun v11 => bif (!v11.2) then impl_makes_j2 x4 x5 (impl_makes_l1 a0 a1 f6) v11 true else impl_makes_j2 x4 x5 (impl_makes_l1 a0 a1 f6) v11 (decide (v11.1.fMost > 300)) else some (x5, true)
def impl_makes_j0 (a0 : List Zh) (a1 : List Zf) (x1 : Bool) : Option ((List Ze) × Bool) := bif x1 then some (([] : List Ze), false) else impl_makes_l1 a0 a1 FUEL 0 ([] : List Ze)
def impl_makes (a0 : List Zh) (a1 : List Zf) : Option ((List Ze) × Bool) := (impl_TablesOk a0).bind fun v18 => bif (!v18) then impl_makes_j0 a0 a1 true else (Za9 (a1.length : Int) 1 6).bind fun v20 => impl_makes_j0 a0 a1 (!v20)
theorem ok_impl_makes {a0 : List Zh} {a1 : List Zf} {y : (List Ze) × Bool} (h : impl_makes a0 a1 = some y) : OK Tryz.prog 24 [A a0, A a1] (.tup [O y.1, B y.2]) := by
 refine ow Tryz.func24 fun Γ hX => ?_
 unfold impl_makes at h
 refine srveM [8, 9] 46 [(0, A a0), (1, A a1)] [] ?_
 refine Zi ?_
 refine Zi ?_
 refine Zab (σ := Bool) (fun x1 => (⟨46, [(0, A a0), (1, A a1), (19, B x1)], []⟩ : St)) (fun x1 => impl_makes_j0 a0 a1 x1 = some y) ?_ ?_
 refine rvM [8, 9] 1 46 [(0, A a0), (1, A a1), (11, A a0)] [] ?_
 obtain ⟨v18, hv19, h⟩ := bindS h
 refine cF 12 (ok_impl_TablesOk hv19) ?_
 refine vM [8, 9] 2 46 [(0, A a0), (1, A a1), (14, B (!v18))] [] ?_
 rcases fk (!v18) with hc22 | hc22
 replace h := bT hc22 h
 rw [hc22]
 refine veM [8, 9] 5 46 [(0, A a0), (1, A a1), (19, B true)] [] ?_
 exact ⟨true, h, it [0, 1, 19]⟩
 replace h := bF hc22 h
 rw [hc22]
 refine vM [8, 9] 2 46 [(0, A a0), (1, A a1), (14, B false), (16, I (a1.length : Int))] [] ?_
 obtain ⟨v20, hv21, h⟩ := bindS h
 refine cF 17 (Za2 hv21) ?_
 refine veM [8, 9] 2 46 [(0, A a0), (1, A a1), (19, B (!v20))] [] ?_
 exact ⟨(!v20), h, it [0, 1, 19]⟩
 rintro x1 h
 unfold impl_makes_j0 at h
 refine pc h (fun h => ?_) (fun h => ?_)
 refine srveM [8, 9] 46 [(4, .arr 2 0 (eL ([] : List Ze)) true), (5, B false)] [] ?_
 refine ip 46 [(4, .arr 2 0 (eL ([] : List Ze)) true), (5, B false)] [] ?_
 refine Za8 (Imp.thawS (st' := ⟨46, [(4, .ref 0 0 0 2 ([] : List Ze).length false), (5, B false)], [some ⟨0, eL ([] : List Ze)⟩]⟩) 4 [4, 5] (by kernel_rfl)) ?_
 have h := si h
 subst h
 exact Zg (rt (.tup [.ref 0 0 0 2 ([] : List Ze).length false, B false]) (OutP.tup (OutL.cons (OutP.list (v := 0) (by kernel_rfl)) (OutL.cons (OutP.frz (by kernel_rfl)) (OutL.nil _)))))
 refine Zj ?_
 refine srveM [8, 9] 46 [(0, A a0), (1, A a1), (6, .arr 2 0 (eL ([] : List Ze)) true)] [] ?_
 refine Zi ?_
 refine srveM [8, 9] 46 [(0, A a0), (6, .arr 2 0 (eL ([] : List Ze)) true), (20, A a1), (21, I (a1.length : Int)), (22, I 0)] [] ?_
 refine Zk ?_
 refine Zaf (ι := Nat × Int × (List Ze)) (fun (f6, x4, x5) => (⟨46, [(0, A a0), (6, rf 0 0 2 x5), (20, A a1), (21, I (a1.length : Int)), (22, I x4)], [sl 0 x5]⟩ : St)) (fun (f6, x4, x5) => impl_makes_l1 a0 a1 f6 x4 x5 = some y) Prod.fst (FUEL, 0, ([] : List Ze)) h (Imp.thawS 6 [0, 6, 20, 21, 22] (by kernel_rfl)) ?_
 rintro ⟨f6, x4, x5⟩ h
 dsimp only at h ⊢
 rcases f6 with _ | f6
 cases h
 rw [impl_makes_l1] at h
 refine srveM [8, 9] 46 [(0, A a0), (6, rf 0 0 2 x5), (20, A a1), (21, I (a1.length : Int)), (22, I x4), (23, B (decide (x4 < (a1.length : Int))))] [sl 0 x5] ?_
 refine Zi ?_
 refine pc h (fun h => ?_) (fun h => ?_)
 refine Zj ?_
 refine Zi ?_
 refine Zk ?_
 refine Zi ?_
 refine Zaq ?_
 obtain ⟨v9, hv10, h⟩ := bindS h
 refine Z2 τ_ok 24 hv10 (by kernel_rfl) ?_
 refine veM [8, 9] 3 46 [(0, A a0), (6, rf 0 0 2 x5), (8, .ptr 1 0 0), (20, A a1), (21, I (a1.length : Int)), (22, I x4)] [sl 0 x5, sc 0 v9] ?_
 refine srvM [8, 9] 3 46 [(0, A a0), (6, rf 0 0 2 x5), (20, A a1), (21, I (a1.length : Int)), (22, I x4), (27, E v9), (28, A a0), (29, rf 0 0 2 x5)] [sl 0 x5, sc 0 v9] ?_
 obtain ⟨v11, hv12, h⟩ := bindS h
 refine opsP_E (dd := some 30) (x := .tup [E v11.1, B v11.2]) (callS_E τ 30 0 0 (ok_impl_Step_make_L2 hv12) (FzTo.tup (FzToL.cons (FzTo.frz rfl) (FzToL.cons (FzTo.frz rfl) FzToL.nil))) rfl rfl (by kernel_rfl)) ?_
 refine veM [8, 9] 6 46 [(0, A a0), (6, rf 0 0 2 x5), (9, .ptr 2 0 0), (10, B v11.2), (20, A a1), (21, I (a1.length : Int)), (22, I x4)] [sl 0 x5, sc 0 v9, sc 0 v11.1] ?_
 refine Zi ?_
 refine Zi ?_
 refine Zab (σ := Bool) (fun x13 => (⟨46, [(0, A a0), (6, rf 0 0 2 x5), (9, .ptr 2 0 0), (20, A a1), (21, I (a1.length : Int)), (22, I x4), (39, B x13)], [sl 0 x5, sc 0 v9, sc 0 v11.1]⟩ : St)) (fun x13 => impl_makes_j2 x4 x5 (impl_makes_l1 a0 a1 f6) v11 x13 = some y) ?_ ?_
 refine rvM [8, 9] 3 46 [(0, A a0), (6, rf 0 0 2 x5), (9, .ptr 2 0 0), (20, A a1), (21, I (a1.length : Int)), (22, I x4), (35, B (!v11.2))] [sl 0 x5, sc 0 v9, sc 0 v11.1] ?_
 rcases fk (!v11.2) with hc17 | hc17
 replace h := bT hc17 h
 rw [hc17]
 refine veM [8, 9] 4 46 [(0, A a0), (6, rf 0 0 2 x5), (9, .ptr 2 0 0), (20, A a1), (21, I (a1.length : Int)), (22, I x4), (36, .lit undef), (37, .lit undef), (38, .lit undef), (39, B true)] [sl 0 x5, sc 0 v9, sc 0 v11.1] ?_
 exact ⟨true, h, it [0, 6, 9, 20, 21, 22, 39]⟩
 replace h := bF hc17 h
 rw [hc17]
 refine veM [8, 9] 4 46 [(0, A a0), (6, rf 0 0 2 x5), (9, .ptr 2 0 0), (20, A a1), (21, I (a1.length : Int)), (22, I x4), (36, .ptr 2 0 1), (37, I v11.1.fMost), (38, B (decide (v11.1.fMost > 300))), (39, B (decide (v11.1.fMost > 300)))] [sl 0 x5, sc 0 v9, sc 0 v11.1] ?_
 exact ⟨(decide (v11.1.fMost > 300)), h, it [0, 6, 9, 20, 21, 22, 39]⟩
 rintro x13 h
 unfold impl_makes_j2 at h
 refine pc h (fun h => ?_) (fun h => ?_)
 refine srveM [8, 9] 46 [(4, .arr 2 0 (eL ([] : List Ze)) true), (5, B false)] [sl 0 x5, sc 0 v9, sc 0 v11.1] ?_
 refine ip 46 [(4, .arr 2 0 (eL ([] : List Ze)) true), (5, B false)] [sl 0 x5, sc 0 v9, sc 0 v11.1] ?_
 refine Za8 (Imp.thawS (st' := ⟨46, [(4, .ref 3 0 0 2 ([] : List Ze).length false), (5, B false)], [sl 0 x5, sc 0 v9, sc 0 v11.1, some ⟨0, eL ([] : List Ze)⟩]⟩) 4 [4, 5] (by kernel_rfl)) ?_
 have h := si h
 subst h
 exact Zg (rt (.tup [.ref 3 0 0 2 ([] : List Ze).length false, B false]) (OutP.tup (OutL.cons (OutP.list (v := 0) (by kernel_rfl)) (OutL.cons (OutP.frz (by kernel_rfl)) (OutL.nil _)))))
 refine Zj ?_
 refine rvM [8, 9] 3 46 [(0, A a0), (20, A a1), (21, I (a1.length : Int)), (22, I x4), (40, rf 0 0 2 x5), (42, .arr 2 ([v11.1] : List Ze).length (eL ([v11.1] : List Ze)) true)] [sl 0 x5, sc 0 v9, sc 0 v11.1] ?_
 obtain ⟨v15, hv16, h⟩ := bindS h
 refine Zan τ_ok 43 0 0 (nx hX) hv16 (by kernel_rfl) ?_
 refine veM [8, 9] 1 46 [(0, A a0), (6, rf 0 1 2 v15), (20, A a1), (21, I (a1.length : Int)), (22, I x4)] [sl 1 v15, sc 0 v9, sc 0 v11.1] ?_
 refine rveM [8, 9] 46 [(0, A a0), (6, rf 0 1 2 v15), (20, A a1), (21, I (a1.length : Int)), (22, I (w64 (x4 + 1)))] [sl 1 v15, sc 0 v9, sc 0 v11.1] ?_
 exact ⟨(f6, (w64 (x4 + 1)), v15), h, Nat.lt_succ_self _, qt (it (st' := ⟨46, [(0, A a0), (6, rf 0 1 2 v15), (20, A a1), (21, I (a1.length : Int)), (22, I (w64 (x4 + 1)))], [sl 1 v15, sc 0 v9, sc 0 v11.1]⟩) [0, 6, 20, 21, 22]) (qt (Imp.truncS (st' := ⟨46, [(0, A a0), (6, rf 0 1 2 v15), (20, A a1), (21, I (a1.length : Int)), (22, I (w64 (x4 + 1)))], [sl 1 v15]⟩) 1 (nx hX) (by kernel_rfl) (allBelow_mem (by exact (And.intro rfl (And.intro rfl (And.intro rfl (And.intro rfl (And.intro rfl trivial))))))) (by exact (And.intro (frz_below (eL_frz _)) trivial)) (by kernel_rfl)) (Imp.reverS 0 1 (eL v15) [0, 6, 20, 21, 22] (by kernel_rfl) (by exact (And.intro (eL_frz _) trivial)) (by kernel_rfl)))⟩
 refine Zae ?_
 refine srveM [8, 9] 46 [(4, rf 0 0 2 x5), (5, B true)] [sl 0 x5] ?_
 have h := si h
 subst h
 exact Zg (rt (.tup [rf 0 0 2 x5, B true]) (OutP.tup (OutL.cons (OutP.list (v := 0) (by kernel_rfl)) (OutL.cons (OutP.frz (by kernel_rfl)) (OutL.nil _)))))
def impl_PlanOk (a0 : List Zh) (a1 : List Zf) : Option Bool := (impl_makes a0 a1).bind fun v1 => some v1.2
theorem ok_impl_PlanOk {a0 : List Zh} {a1 : List Zf} {y : Bool} (h : impl_PlanOk a0 a1 = some y) : OK Tryz.prog 8 [A a0, A a1] (B y) := by
 refine ow Tryz.func8 fun Γ hX => ?_
 unfold impl_PlanOk at h
 refine srve 14 [(0, A a0), (1, A a1)] [] ?_
 refine srv 2 14 [(8, A a0), (9, A a1)] [] ?_
 obtain ⟨v1, hv2, h⟩ := bindS h
 refine opsP_callF τ 10 (ok_impl_makes hv2) (FzTo.tup (FzToL.cons (FzTo.O _) (FzToL.cons (FzTo.frz rfl) FzToL.nil))) rfl (by kernel_rfl) ?_
 refine ve 5 14 [(6, B v1.2)] [] ?_
 refine srve 14 [(4, B v1.2)] [] ?_
 cases h
 exact Zg rz
def impl_PlanRows (a0 : List Zh) (a1 : List Zf) : Option (List (List Za)) := (impl_PlanOk a0 a1).bind fun v1 => bif (!v1) then some ([] : List (List Za)) else (impl_planRows a0 a1).bind fun v4 => some v4
theorem ok_impl_PlanRows {a0 : List Zh} {a1 : List Zf} {y : List (List Za)} (h : impl_PlanRows a0 a1 = some y) : OK Tryz.prog 10 [A a0, A a1] (A y) := by
 refine ow Tryz.func10 fun Γ hX => ?_
 unfold impl_PlanRows at h
 refine srve 12 [(0, A a0), (1, A a1)] [] ?_
 refine Zi ?_
 refine srv 2 12 [(0, A a0), (1, A a1), (5, A a0), (6, A a1)] [] ?_
 obtain ⟨v1, hv2, h⟩ := bindS h
 refine cF 7 (ok_impl_PlanOk hv2) ?_
 refine ve 1 12 [(0, A a0), (1, A a1), (8, B (!v1))] [] ?_
 refine pc h (fun h => ?_) (fun h => ?_)
 refine srve 12 [(4, .arr 1 0 (eL ([] : List (List Za))) true)] [] ?_
 refine ip 12 [(4, .arr 1 0 (eL ([] : List (List Za))) true)] [] ?_
 refine Za8 (Imp.unfS (st' := ⟨12, [(4, A ([] : List (List Za)))], []⟩) 4 [4] (by kernel_rfl)) ?_
 cases h
 exact Zg rz
 refine Zj ?_
 refine srv 2 12 [(9, A a0), (10, A a1)] [] ?_
 obtain ⟨v4, hv5, h⟩ := bindS h
 refine cF 11 (ok_impl_planRows hv5) ?_
 refine ve 1 12 [(4, A v4)] [] ?_
 cases h
 exact Zg rz
def laws_FnWholeThree_j1 (v2 : (List Zh) × (List Zf) × (List Zd) × (List Zd)) (x15 : List (List Za)) (x16 : Int) (K18 : (List (List Za)) → Int → Option Bool) (v20 : List Zd) (x22 : Bool) : Option Bool := bif x22 then (laws_alive).bind fun v24 => some v24 else (app ([] : List Zf) v2.2.1).bind fun v26 => (app v26 ([(Zf.mk 2 (w64 ((v2.2.1.length : Int) - 1)) 0 0 v20 [])] : List Zf)).bind fun v28 => (impl_PlanRows v2.1 v28).bind fun v30 => (laws_joined x15 v30).bind fun v32 => K18 v32 (w64 (x16 + 1))
def laws_FnWholeThree_l0 (v2 : (List Zh) × (List Zf) × (List Zd) × (List Zd)) (v9 : List (List Za)) (v11 : List Zd) (v13 : List Zd) : Nat → (List (List Za)) → Int → Option Bool
 | 0, _, _ => none
 | f17 + 1, x15, x16 => bif (decide (x16 < (([v2.2.2.1, v11, v13] : List (List Zd)).length : Int))) then (getI ([v2.2.2.1, v11, v13] : List (List Zd)) x16).bind fun v20 => bif (decide ((v20.length : Int) > 12)) then laws_FnWholeThree_j1 v2 x15 x16 (laws_FnWholeThree_l0 v2 v9 v11 v13 f17) v20 true else laws_FnWholeThree_j1 v2 x15 x16 (laws_FnWholeThree_l0 v2 v9 v11 v13 f17) v20 ((v2.2.2.2.length : Int) == 0) else (impl_SameBag x15 v9).bind fun v35 => bif v35 then (laws_alive).bind fun v37 => some v37 else some false
def laws_FnWholeThree (a0 : List UInt8) : Option Bool := bif (decide ((a0.length : Int) > 1048576)) then some true else (spec_DrawTested a0).bind fun v2 => (impl_PlanOk v2.1 v2.2.1).bind fun v4 => (spec_PlanOk v2.1 v2.2.1).bind fun v6 => bif (!(v4 == v6)) then some false else (impl_PlanRows v2.1 v2.2.1).bind fun v9 => (laws_withParts v2.2.2.1 ([]) 7).bind fun v11 => (laws_withParts v2.2.2.1 ([]) 8).bind fun v13 => laws_FnWholeThree_l0 v2 v9 v11 v13 FUEL ([] : List (List Za)) 0
theorem ok_laws_FnWholeThree {a0 : List UInt8} {y : Bool} (h : laws_FnWholeThree a0 = some y) : OK Tryz.prog 3 [A a0] (B y) := by
 refine ow Tryz.func3 fun Γ hX => ?_
 unfold laws_FnWholeThree at h
 refine srve 75 [(0, A a0)] [] ?_
 refine Zi ?_
 refine srve 75 [(0, A a0), (14, B (decide ((a0.length : Int) > 1048576)))] [] ?_
 refine pc h (fun h => ?_) (fun h => ?_)
 refine srve 75 [(2, B true)] [] ?_
 cases h
 exact Zg rz
 refine Zj ?_
 refine srv 1 75 [(16, A a0)] [] ?_
 obtain ⟨v2, hv3, h⟩ := bindS h
 refine opsP_callF τ 17 (ok_spec_DrawTested hv3) (FzTo.tup (FzToL.cons (FzTo.frz rfl) (FzToL.cons (FzTo.frz rfl) (FzToL.cons (FzTo.frz rfl) (FzToL.cons (FzTo.frz rfl) FzToL.nil))))) rfl (by kernel_rfl) ?_
 refine ve 9 75 [(3, A v2.1), (4, A v2.2.1), (5, A v2.2.2.1), (6, A v2.2.2.2)] [] ?_
 refine Zi ?_
 refine srv 2 75 [(3, A v2.1), (4, A v2.2.1), (5, A v2.2.2.1), (6, A v2.2.2.2), (22, A v2.1), (23, A v2.2.1)] [] ?_
 obtain ⟨v4, hv5, h⟩ := bindS h
 refine cF 24 (ok_impl_PlanOk hv5) ?_
 refine v 2 75 [(3, A v2.1), (4, A v2.2.1), (5, A v2.2.2.1), (6, A v2.2.2.2), (24, B v4), (25, A v2.1), (26, A v2.2.1)] [] ?_
 obtain ⟨v6, hv7, h⟩ := bindS h
 refine cF 27 (ok_spec_PlanOk hv7) ?_
 refine ve 1 75 [(3, A v2.1), (4, A v2.2.1), (5, A v2.2.2.1), (6, A v2.2.2.2), (28, B (!(v4 == v6)))] [] ?_
 refine pc h (fun h => ?_) (fun h => ?_)
 refine srve 75 [(2, B false)] [] ?_
 cases h
 exact Zg rz
 refine Zj ?_
 refine srve 75 [(3, A v2.1), (4, A v2.2.1), (5, A v2.2.2.1), (6, A v2.2.2.2), (7, I (w64 ((v2.2.1.length : Int) - 1)))] [] ?_
 refine srv 2 75 [(3, A v2.1), (4, A v2.2.1), (5, A v2.2.2.1), (6, A v2.2.2.2), (7, I (w64 ((v2.2.1.length : Int) - 1))), (32, A v2.1), (33, A v2.2.1)] [] ?_
 obtain ⟨v9, hv10, h⟩ := bindS h
 refine cF 34 (ok_impl_PlanRows hv10) ?_
 refine ve 1 75 [(3, A v2.1), (4, A v2.2.1), (5, A v2.2.2.1), (6, A v2.2.2.2), (7, I (w64 ((v2.2.1.length : Int) - 1))), (8, A v9)] [] ?_
 refine srve 75 [(3, A v2.1), (4, A v2.2.1), (5, A v2.2.2.1), (6, A v2.2.2.2), (7, I (w64 ((v2.2.1.length : Int) - 1))), (8, A v9), (9, .arr 1 0 (eL ([] : List (List Za))) true)] [] ?_
 refine Zi ?_
 refine srv 2 75 [(3, A v2.1), (4, A v2.2.1), (5, A v2.2.2.1), (6, A v2.2.2.2), (7, I (w64 ((v2.2.1.length : Int) - 1))), (8, A v9), (9, .arr 1 0 (eL ([] : List (List Za))) true), (36, A v2.2.2.1), (37, A v2.2.2.1)] [] ?_
 obtain ⟨v11, hv12, h⟩ := bindS h
 refine cFo 38 (ok_laws_withParts hv12) ?_
 refine v 1 75 [(3, A v2.1), (4, A v2.2.1), (6, A v2.2.2.2), (7, I (w64 ((v2.2.1.length : Int) - 1))), (8, A v9), (9, .arr 1 0 (eL ([] : List (List Za))) true), (36, A v2.2.2.1), (38, A v11), (39, A v2.2.2.1)] [] ?_
 obtain ⟨v13, hv14, h⟩ := bindS h
 refine cFo 40 (ok_laws_withParts hv14) ?_
 refine ve 3 75 [(3, A v2.1), (4, A v2.2.1), (6, A v2.2.2.2), (7, I (w64 ((v2.2.1.length : Int) - 1))), (8, A v9), (9, .arr 1 0 (eL ([] : List (List Za))) true), (41, .arr 1 ([v2.2.2.1, v11, v13] : List (List Zd)).length (eL ([v2.2.2.1, v11, v13] : List (List Zd))) true), (42, I (([v2.2.2.1, v11, v13] : List (List Zd)).length : Int)), (43, I 0)] [] ?_
 refine Zk ?_
 refine Zaf (ι := Nat × (List (List Za)) × Int) (fun (f17, x15, x16) => (⟨75, [(3, A v2.1), (4, A v2.2.1), (6, A v2.2.2.2), (7, I (w64 ((v2.2.1.length : Int) - 1))), (8, A v9), (9, A x15), (41, .arr 1 ([v2.2.2.1, v11, v13] : List (List Zd)).length (eL ([v2.2.2.1, v11, v13] : List (List Zd))) true), (42, I (([v2.2.2.1, v11, v13] : List (List Zd)).length : Int)), (43, I x16)], []⟩ : St)) (fun (f17, x15, x16) => laws_FnWholeThree_l0 v2 v9 v11 v13 f17 x15 x16 = some y) Prod.fst (FUEL, ([] : List (List Za)), 0) h (Imp.unfS 9 [3, 4, 6, 7, 8, 9, 41, 42, 43] (by kernel_rfl)) ?_
 rintro ⟨f17, x15, x16⟩ h
 dsimp only at h ⊢
 rcases f17 with _ | f17
 cases h
 rw [laws_FnWholeThree_l0] at h
 refine srve 75 [(3, A v2.1), (4, A v2.2.1), (6, A v2.2.2.2), (7, I (w64 ((v2.2.1.length : Int) - 1))), (8, A v9), (9, A x15), (41, .arr 1 ([v2.2.2.1, v11, v13] : List (List Zd)).length (eL ([v2.2.2.1, v11, v13] : List (List Zd))) true), (42, I (([v2.2.2.1, v11, v13] : List (List Zd)).length : Int)), (43, I x16), (44, B (decide (x16 < (([v2.2.2.1, v11, v13] : List (List Zd)).length : Int))))] [] ?_
 refine Zi ?_
 refine pc h (fun h => ?_) (fun h => ?_)
 refine Zj ?_
 refine Zi ?_
 refine Zk ?_
 refine Zi ?_
 refine Zaq ?_
 obtain ⟨v20, hv21, h⟩ := bindS h
 refine Z2 τ_ok 45 hv21 (by kernel_rfl) ?_
 refine ve 2 75 [(3, A v2.1), (4, A v2.2.1), (6, A v2.2.2.2), (7, I (w64 ((v2.2.1.length : Int) - 1))), (8, A v9), (9, A x15), (11, A v20), (41, .arr 1 ([v2.2.2.1, v11, v13] : List (List Zd)).length (eL ([v2.2.2.1, v11, v13] : List (List Zd))) true), (42, I (([v2.2.2.1, v11, v13] : List (List Zd)).length : Int)), (43, I x16)] [] ?_
 refine Zi ?_
 refine Zi ?_
 refine Zab (σ := Bool) (fun x22 => (⟨75, [(3, A v2.1), (4, A v2.2.1), (6, A v2.2.2.2), (7, I (w64 ((v2.2.1.length : Int) - 1))), (8, A v9), (9, A x15), (11, A v20), (41, .arr 1 ([v2.2.2.1, v11, v13] : List (List Zd)).length (eL ([v2.2.2.1, v11, v13] : List (List Zd))) true), (42, I (([v2.2.2.1, v11, v13] : List (List Zd)).length : Int)), (43, I x16), (54, B x22)], []⟩ : St)) (fun x22 => laws_FnWholeThree_j1 v2 x15 x16 (laws_FnWholeThree_l0 v2 v9 v11 v13 f17) v20 x22 = some y) ?_ ?_
 refine rv 4 75 [(3, A v2.1), (4, A v2.2.1), (6, A v2.2.2.2), (7, I (w64 ((v2.2.1.length : Int) - 1))), (8, A v9), (9, A x15), (11, A v20), (41, .arr 1 ([v2.2.2.1, v11, v13] : List (List Zd)).length (eL ([v2.2.2.1, v11, v13] : List (List Zd))) true), (42, I (([v2.2.2.1, v11, v13] : List (List Zd)).length : Int)), (43, I x16), (50, B (decide ((v20.length : Int) > 12)))] [] ?_
 rcases fk (decide ((v20.length : Int) > 12)) with hc34 | hc34
 replace h := bT hc34 h
 rw [hc34]
 refine ve 4 75 [(3, A v2.1), (4, A v2.2.1), (6, A v2.2.2.2), (7, I (w64 ((v2.2.1.length : Int) - 1))), (8, A v9), (9, A x15), (11, A v20), (41, .arr 1 ([v2.2.2.1, v11, v13] : List (List Zd)).length (eL ([v2.2.2.1, v11, v13] : List (List Zd))) true), (42, I (([v2.2.2.1, v11, v13] : List (List Zd)).length : Int)), (43, I x16), (51, .lit undef), (52, .lit undef), (53, .lit undef), (54, B true)] [] ?_
 exact ⟨true, h, it [3, 4, 6, 7, 8, 9, 11, 41, 42, 43, 54]⟩
 replace h := bF hc34 h
 rw [hc34]
 refine ve 4 75 [(3, A v2.1), (4, A v2.2.1), (6, A v2.2.2.2), (7, I (w64 ((v2.2.1.length : Int) - 1))), (8, A v9), (9, A x15), (11, A v20), (41, .arr 1 ([v2.2.2.1, v11, v13] : List (List Zd)).length (eL ([v2.2.2.1, v11, v13] : List (List Zd))) true), (42, I (([v2.2.2.1, v11, v13] : List (List Zd)).length : Int)), (43, I x16), (51, A v2.2.2.2), (52, I (v2.2.2.2.length : Int)), (53, B ((v2.2.2.2.length : Int) == 0)), (54, B ((v2.2.2.2.length : Int) == 0))] [] ?_
 exact ⟨((v2.2.2.2.length : Int) == 0), h, it [3, 4, 6, 7, 8, 9, 11, 41, 42, 43, 54]⟩
 rintro x22 h
 unfold laws_FnWholeThree_j1 at h
 refine pc h (fun h => ?_) (fun h => ?_)
 refine Zi ?_
 refine Zaq ?_
 obtain ⟨v24, hv25, h⟩ := bindS h
 refine cF 55 (ok_laws_alive hv25) ?_
 refine ve 1 75 [(2, B v24)] [] ?_
 cases h
 exact Zg rz
 refine Zj ?_
 refine rv 4 75 [(3, A v2.1), (4, A v2.2.1), (6, A v2.2.2.2), (7, I (w64 ((v2.2.1.length : Int) - 1))), (8, A v9), (11, A v20), (41, .arr 1 ([v2.2.2.1, v11, v13] : List (List Zd)).length (eL ([v2.2.2.1, v11, v13] : List (List Zd))) true), (42, I (([v2.2.2.1, v11, v13] : List (List Zd)).length : Int)), (43, I x16), (56, A x15), (57, A v2.1), (58, .arr 6 0 (eL ([] : List Zf)) true), (59, A v2.2.1)] [] ?_
 refine opsP_thaw 58 6 (by kernel_rfl) ?_
 obtain ⟨v26, hv27, h⟩ := bindS h
 refine Zan τ_ok 60 0 0 (nx hX) hv27 (by kernel_rfl) ?_
 refine v 4 75 [(3, A v2.1), (4, A v2.2.1), (6, A v2.2.2.2), (7, I (w64 ((v2.2.1.length : Int) - 1))), (8, A v9), (41, .arr 1 ([v2.2.2.1, v11, v13] : List (List Zd)).length (eL ([v2.2.2.1, v11, v13] : List (List Zd))) true), (42, I (([v2.2.2.1, v11, v13] : List (List Zd)).length : Int)), (43, I x16), (56, A x15), (57, A v2.1), (60, rf 0 1 6 v26), (64, .arr 6 ([(Zf.mk 2 (w64 ((v2.2.1.length : Int) - 1)) 0 0 v20 [])] : List Zf).length (eL ([(Zf.mk 2 (w64 ((v2.2.1.length : Int) - 1)) 0 0 v20 [])] : List Zf)) true)] [sl 1 v26] ?_
 obtain ⟨v28, hv29, h⟩ := bindS h
 refine Zan τ_ok 65 0 1 (nx hX) hv29 (by kernel_rfl) ?_
 refine v 0 75 [(3, A v2.1), (4, A v2.2.1), (6, A v2.2.2.2), (7, I (w64 ((v2.2.1.length : Int) - 1))), (8, A v9), (41, .arr 1 ([v2.2.2.1, v11, v13] : List (List Zd)).length (eL ([v2.2.2.1, v11, v13] : List (List Zd))) true), (42, I (([v2.2.2.1, v11, v13] : List (List Zd)).length : Int)), (43, I x16), (56, A x15), (57, A v2.1), (65, rf 0 2 6 v28)] [sl 2 v28] ?_
 refine opsP_imp (Imp.freezeB (v := 2) (cs := eL v28) (st' := ⟨75, [(3, A v2.1), (4, A v2.2.1), (6, A v2.2.2.2), (7, I (w64 ((v2.2.1.length : Int) - 1))), (8, A v9), (41, .arr 1 ([v2.2.2.1, v11, v13] : List (List Zd)).length (eL ([v2.2.2.1, v11, v13] : List (List Zd))) true), (42, I (([v2.2.2.1, v11, v13] : List (List Zd)).length : Int)), (43, I x16), (56, A x15), (57, A v2.1), (65, A v28)], [none]⟩) 0 2 (nx hX) (by kernel_rfl) (eL_frz _) (wholeC (Zaa (by kernel_rfl)) (wholeC (Zaa (by kernel_rfl)) (wholeC (Zaa (by kernel_rfl)) (wholeC (Zaa (by kernel_rfl)) (wholeC (Zaa (by kernel_rfl)) (wholeC (Zaa (by kernel_rfl)) (wholeC (Zaa (by kernel_rfl)) (wholeC (Zaa (by kernel_rfl)) (wholeC (Zaa (by kernel_rfl)) (wholeC (Zaa (by kernel_rfl)) (wholeC (whole_is (eL_len v28).symm) wholeC0))))))))))) (HpRel.key HpRel.nil) (by kernel_rfl) rfl (nx hX)) ?_
 obtain ⟨v30, hv31, h⟩ := bindS h
 refine cF 66 (ok_impl_PlanRows hv31) ?_
 obtain ⟨v32, hv33, h⟩ := bindS h
 refine cFo 67 (ok_laws_joined hv33) ?_
 refine ve 1 75 [(3, A v2.1), (4, A v2.2.1), (6, A v2.2.2.2), (7, I (w64 ((v2.2.1.length : Int) - 1))), (8, A v9), (9, A v32), (41, .arr 1 ([v2.2.2.1, v11, v13] : List (List Zd)).length (eL ([v2.2.2.1, v11, v13] : List (List Zd))) true), (42, I (([v2.2.2.1, v11, v13] : List (List Zd)).length : Int)), (43, I x16)] [none] ?_
 refine rve 75 [(3, A v2.1), (4, A v2.2.1), (6, A v2.2.2.2), (7, I (w64 ((v2.2.1.length : Int) - 1))), (8, A v9), (9, A v32), (41, .arr 1 ([v2.2.2.1, v11, v13] : List (List Zd)).length (eL ([v2.2.2.1, v11, v13] : List (List Zd))) true), (42, I (([v2.2.2.1, v11, v13] : List (List Zd)).length : Int)), (43, I (w64 (x16 + 1)))] [none] ?_
 exact ⟨(f17, v32, (w64 (x16 + 1))), h, Nat.lt_succ_self _, (it (st' := ⟨75, [(3, A v2.1), (4, A v2.2.1), (6, A v2.2.2.2), (7, I (w64 ((v2.2.1.length : Int) - 1))), (8, A v9), (9, A v32), (41, .arr 1 ([v2.2.2.1, v11, v13] : List (List Zd)).length (eL ([v2.2.2.1, v11, v13] : List (List Zd))) true), (42, I (([v2.2.2.1, v11, v13] : List (List Zd)).length : Int)), (43, I (w64 (x16 + 1)))], [none]⟩) [3, 4, 6, 7, 8, 9, 41, 42, 43]).trans (Imp.truncS 0 (nx hX) (by kernel_rfl) (allBelow_mem (by exact (And.intro rfl (And.intro rfl (And.intro rfl (And.intro rfl (And.intro rfl (And.intro rfl (And.intro rfl (And.intro rfl (And.intro rfl trivial))))))))))) (by exact trivial) (by kernel_rfl))⟩
 refine Zae ?_
 refine srv 2 75 [(69, A x15), (70, A v9)] [] ?_
 obtain ⟨v35, hv36, h⟩ := bindS h
 refine cF 71 (ok_impl_SameBag hv36) ?_
 refine v 1 75 [(72, B v35)] [] ?_
 rcases Bool.eq_false_or_eq_true v35 with hc39 | hc39
 replace h := bT hc39 h
 rw [hc39]
 obtain ⟨v37, hv38, h⟩ := bindS h
 refine cF 73 (ok_laws_alive hv38) ?_
 refine ve 2 75 [(2, B v37)] [] ?_
 cases h
 exact Zg rz
 replace h := bF hc39 h
 rw [hc39]
 refine ve 3 75 [(2, B false)] [] ?_
 cases h
 exact Zg rz
end Go.D
