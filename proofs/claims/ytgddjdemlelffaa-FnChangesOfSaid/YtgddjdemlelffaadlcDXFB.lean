import Derived.Test.YtgddjdemlelffaadlcDXFA
import Derived.KernelRfl
set_option linter.unusedVariables false
set_option linter.unusedSimpArgs false
namespace Go.D
open Go.Proofs
theorem ok_spec_l13Written_R_L0 {a0 : List T_impl_Version} {a1 : T_impl_Write} {a2 : Int} {y : List T_impl_Version} (h : spec_l13Written_R_L0 a0 a1 a2 = some y) : OKs Try.prog 168 [] 4 a0.length (eL a0) [E a1, I a2] (O y) (eL a0) := by
 refine OKs_of_pwp τ_ok Try.func168 rfl (by kernel_rfl) rfl (eL_frz _) (eL_frz _) rfl fun Γ hQ => ?_
 refine pwp_imp (Imp.to (st' := ⟨72, [(0, rf 0 0 4 a0), (1, E a1), (2, I a2)], [sl 0 a0]⟩) [0, 1, 2] (by kernel_rfl)) ?_
 unfold spec_l13Written_R_L0 at h
 refine srveM [10] 72 [(0, rf 0 0 4 a0), (2, I a2), (4, pf a1 0)] [sl 0 a0] ?_
 refine srveM [10] 72 [(0, rf 0 0 4 a0), (2, I a2), (4, pf a1 0), (7, .arr 4 0 (eL ([] : List T_impl_Version)) true)] [sl 0 a0] ?_
 refine srveM [10] 72 [(0, rf 0 0 4 a0), (2, I a2), (4, pf a1 0), (7, .arr 4 0 (eL ([] : List T_impl_Version)) true), (8, B a1.fGone)] [sl 0 a0] ?_
 refine pwp_seq ?_
 refine srveM [10] 72 [(0, rf 0 0 4 a0), (2, I a2), (4, pf a1 0), (7, .arr 4 0 (eL ([] : List T_impl_Version)) true), (8, B a1.fGone), (9, I 0)] [sl 0 a0] ?_
 refine pwp_block ?_
 refine pwp_loop (ι := Nat × Bool × Int × (List T_impl_Version)) (fun (f6, x3, x4, x5) => (⟨72, [(0, rf 0 0 4 a0), (2, I a2), (4, pf a1 0), (7, rf 1 0 4 x5), (8, B x3), (9, I x4)], [sl 0 a0, sl 0 x5]⟩ : St)) (fun (f6, x3, x4, x5) => spec_l13Written_R_L0_l0 a0 a1 a2 f6 x3 x4 x5 = some y) Prod.fst (FUEL, a1.fGone, 0, ([] : List T_impl_Version)) h (Imp.thawS 7 [0, 2, 4, 7, 8, 9] (by kernel_rfl)) ?_
 rintro ⟨f6, x3, x4, x5⟩ h
 dsimp only at h ⊢
 rcases f6 with _ | f6
 cases h
 rw [spec_l13Written_R_L0_l0] at h
 refine pwp_seq ?_
 refine srveM [10] 72 [(0, rf 0 0 4 a0), (2, I a2), (4, pf a1 0), (7, rf 1 0 4 x5), (8, B x3), (9, I x4), (17, B (decide (x4 < (a0.length : Int))))] [sl 0 a0, sl 0 x5] ?_
 refine pc h (fun h => ?_) (fun h => ?_)
 refine pwp_skip ?_
 refine pwp_seq ?_
 refine pwp_block ?_
 refine srvM [10] 2 72 [(0, rf 0 0 4 a0), (2, I a2), (4, pf a1 0), (7, rf 1 0 4 x5), (8, B x3), (9, I x4), (20, rf 0 0 4 a0), (21, I x4)] [sl 0 a0, sl 0 x5] ?_
 obtain ⟨v9, hv10, h⟩ := bindS h
 refine opsP_idr τ_ok 22 0 0 a0.length hv10 rfl (by kernel_rfl) ?_
 refine opsP_lde (r := E v9) τ_ok 23 119 0 hv10 (by kernel_rfl) (by kernel_rfl) ?_
 refine veM [10] 2 72 [(0, rf 0 0 4 a0), (2, I a2), (4, pf a1 0), (7, rf 1 0 4 x5), (8, B x3), (9, I x4), (10, .ptr 2 0 0)] [sl 0 a0, sl 0 x5, sc 0 v9] ?_
 refine pwp_seq ?_
 refine pwp_join (σ := Bool × (List T_impl_Version)) (fun (x11, x12) => (⟨72, [(0, rf 0 0 4 a0), (2, I a2), (4, pf a1 0), (7, rf 1 0 4 x12), (8, B x11), (9, I x4), (10, .ptr 2 0 0)], [sl 0 a0, sl 0 x12, sc 0 v9]⟩ : St)) (fun (x11, x12) => spec_l13Written_R_L0_j1 a1 a2 x4 (spec_l13Written_R_L0_l0 a0 a1 a2 f6) v9 x11 x12 = some y) ?_ ?_
 refine pwp_seq ?_
 refine pwp_join (σ := Bool) (fun x19 => (⟨72, [(0, rf 0 0 4 a0), (2, I a2), (4, pf a1 0), (7, rf 1 0 4 x5), (8, B x3), (9, I x4), (10, .ptr 2 0 0), (32, B x19)], [sl 0 a0, sl 0 x5, sc 0 v9]⟩ : St)) (fun x19 => spec_l13Written_R_L0_j4 a1 a2 x3 x4 x5 (spec_l13Written_R_L0_l0 a0 a1 a2 f6) v9 x19 = some y) ?_ ?_
 refine rvM [10] 6 72 [(0, rf 0 0 4 a0), (2, I a2), (4, pf a1 0), (7, rf 1 0 4 x5), (8, B x3), (9, I x4), (10, .ptr 2 0 0), (29, B (decide (v9.fKey > a1.fKey)))] [sl 0 a0, sl 0 x5, sc 0 v9] ?_
 rcases fk (decide (v9.fKey > a1.fKey)) with hc25 | hc25
 replace h := bT hc25 h
 rw [hc25]
 refine veM [10] 3 72 [(0, rf 0 0 4 a0), (2, I a2), (4, pf a1 0), (7, rf 1 0 4 x5), (8, B x3), (9, I x4), (10, .ptr 2 0 0), (30, B x3), (31, B (!x3)), (32, B (!x3))] [sl 0 a0, sl 0 x5, sc 0 v9] ?_
 exact ⟨(!x3), h, it [0, 2, 4, 7, 8, 9, 10, 32]⟩
 replace h := bF hc25 h
 rw [hc25]
 refine veM [10] 3 72 [(0, rf 0 0 4 a0), (2, I a2), (4, pf a1 0), (7, rf 1 0 4 x5), (8, B x3), (9, I x4), (10, .ptr 2 0 0), (30, .lit undef), (31, .lit undef), (32, B false)] [sl 0 a0, sl 0 x5, sc 0 v9] ?_
 exact ⟨false, h, it [0, 2, 4, 7, 8, 9, 10, 32]⟩
 rintro x19 h
 unfold spec_l13Written_R_L0_j4 at h
 refine pc h (fun h => ?_) (fun h => ?_)
 refine pwp_seq ?_
 refine ip 72 [(0, rf 0 0 4 a0), (2, I a2), (4, pf a1 0), (7, rf 1 0 4 x5), (9, I x4), (10, .ptr 2 0 0)] [sl 0 a0, sl 0 x5, sc 0 v9] ?_
 refine pwp_any ([[1], [], [], [], [], [], [], [], [], [1], [1]]) ([[], [], [], [], [], [], [], [], [], [1], []]) rfl (by kernel_rfl) ?_
 refine qvM [10] [1] (hL trivial) 1 72 [(33, rf 1 0 4 x5), (0, rf 0 0 4 a0), (2, I a2), (4, pf a1 0), (7, rf 1 0 4 x5), (9, I x4), (10, .ptr 2 0 0)] [sl 0 a0, sl 0 x5, sc 0 v9] ?_
 refine qvM [10] [] trivial 5 72 [(38, A a1.fRow), (36, I a2), (35, I a1.fKey), (33, rf 1 0 4 x5), (0, rf 0 0 4 a0), (2, I a2), (4, pf a1 0), (7, rf 1 0 4 x5), (9, I x4), (10, .ptr 2 0 0)] [sl 0 a0, sl 0 x5, sc 0 v9] ?_
 obtain ⟨v21, hv22, h⟩ := bindS h
 refine qX (some 39) (A v21) 72 [(39, A v21), (36, I a2), (35, I a1.fKey), (33, rf 1 0 4 x5), (0, rf 0 0 4 a0), (2, I a2), (4, pf a1 0), (7, rf 1 0 4 x5), (9, I x4), (10, .ptr 2 0 0)] [sl 0 a0, sl 0 x5, sc 0 v9] (fun Γ' hΓ => CoreE.of_g (callV_sound (τ := τ) (by kernel_rfl) rfl (ok_spec_l3Own hv22) (FzTo.O _))) trivial ?_
 refine qvM [10] [] trivial 2 72 [(41, .arr 4 ([(T_impl_Version.mk a1.fKey a2 0 v21)] : List T_impl_Version).length (eL ([(T_impl_Version.mk a1.fKey a2 0 v21)] : List T_impl_Version)) true), (33, rf 1 0 4 x5), (0, rf 0 0 4 a0), (2, I a2), (4, pf a1 0), (7, rf 1 0 4 x5), (9, I x4), (10, .ptr 2 0 0)] [sl 0 a0, sl 0 x5, sc 0 v9] ?_
 obtain ⟨v23, hv24, h⟩ := bindS h
 refine qX (some 42) (rf 1 1 4 v23) 72 [(42, rf 1 1 4 v23), (0, rf 0 0 4 a0), (2, I a2), (4, pf a1 0), (7, rf 1 0 4 x5), (9, I x4), (10, .ptr 2 0 0)] [sl 0 a0, sl 1 v23, sc 0 v9] (fun Γ' hΓ => app_Ew τ_ok 42 1 0 (by first | exact py hΓ hQ | exact pky hΓ hQ) hv24 (by kernel_rfl)) (hL trivial) ?_
 refine qvnM [10] [1] (hL trivial) 1 72 [(0, rf 0 0 4 a0), (2, I a2), (4, pf a1 0), (7, rf 1 1 4 v23), (9, I x4), (10, .ptr 2 0 0)] [sl 0 a0, sl 1 v23, sc 0 v9] ?_
 refine rveM [10] 72 [(0, rf 0 0 4 a0), (2, I a2), (4, pf a1 0), (7, rf 1 1 4 v23), (8, B true), (9, I x4), (10, .ptr 2 0 0)] [sl 0 a0, sl 1 v23, sc 0 v9] ?_
 exact ⟨(true, v23), h, (it (st' := ⟨72, [(0, rf 0 0 4 a0), (2, I a2), (4, pf a1 0), (7, rf 1 1 4 v23), (8, B true), (9, I x4), (10, .ptr 2 0 0)], [sl 0 a0, sl 1 v23, sc 0 v9]⟩) [0, 2, 4, 7, 8, 9, 10]).trans (Imp.reverS 1 1 (eL v23) [0, 2, 4, 7, 8, 9, 10] (by kernel_rfl) (by exact (And.intro (eL_frz _) (And.intro (eL_frz _) (And.intro (rfl) trivial)))) (by kernel_rfl))⟩
 refine pwp_skip ?_
 exact ⟨(x3, x5), h, it [0, 2, 4, 7, 8, 9, 10]⟩
 rintro ⟨x11, x12⟩ h
 dsimp only at h ⊢
 unfold spec_l13Written_R_L0_j1 at h
 refine pwp_seq ?_
 refine pwp_join (σ := T_impl_Version) (fun x13 => (⟨72, [(0, rf 0 0 4 a0), (2, I a2), (4, pf a1 0), (7, rf 1 0 4 x12), (8, B x11), (9, I x4), (10, .ptr 2 0 0)], [sl 0 a0, sl 0 x12, sc 0 x13]⟩ : St)) (fun x13 => spec_l13Written_R_L0_j2 x4 (spec_l13Written_R_L0_l0 a0 a1 a2 f6) x11 x12 x13 = some y) ?_ ?_
 refine pwp_seq ?_
 refine pwp_join (σ := Bool) (fun x16 => (⟨72, [(0, rf 0 0 4 a0), (2, I a2), (4, pf a1 0), (7, rf 1 0 4 x12), (8, B x11), (9, I x4), (10, .ptr 2 0 0), (52, B x16)], [sl 0 a0, sl 0 x12, sc 0 v9]⟩ : St)) (fun x16 => spec_l13Written_R_L0_j3 a2 x4 (spec_l13Written_R_L0_l0 a0 a1 a2 f6) v9 x11 x12 x16 = some y) ?_ ?_
 refine rvM [10] 6 72 [(0, rf 0 0 4 a0), (2, I a2), (4, pf a1 0), (7, rf 1 0 4 x12), (8, B x11), (9, I x4), (10, .ptr 2 0 0), (48, B (v9.fKey == a1.fKey))] [sl 0 a0, sl 0 x12, sc 0 v9] ?_
 rcases fk (v9.fKey == a1.fKey) with hc18 | hc18
 replace h := bT hc18 h
 rw [hc18]
 refine veM [10] 4 72 [(0, rf 0 0 4 a0), (2, I a2), (4, pf a1 0), (7, rf 1 0 4 x12), (8, B x11), (9, I x4), (10, .ptr 2 0 0), (49, .ptr 2 0 2), (50, I v9.fDied), (51, B (v9.fDied == 0)), (52, B (v9.fDied == 0))] [sl 0 a0, sl 0 x12, sc 0 v9] ?_
 exact ⟨(v9.fDied == 0), h, it [0, 2, 4, 7, 8, 9, 10, 52]⟩
 replace h := bF hc18 h
 rw [hc18]
 refine veM [10] 4 72 [(0, rf 0 0 4 a0), (2, I a2), (4, pf a1 0), (7, rf 1 0 4 x12), (8, B x11), (9, I x4), (10, .ptr 2 0 0), (49, .lit undef), (50, .lit undef), (51, .lit undef), (52, B false)] [sl 0 a0, sl 0 x12, sc 0 v9] ?_
 exact ⟨false, h, it [0, 2, 4, 7, 8, 9, 10, 52]⟩
 rintro x16 h
 unfold spec_l13Written_R_L0_j3 at h
 refine pc h (fun h => ?_) (fun h => ?_)
 refine rveM [10] 72 [(0, rf 0 0 4 a0), (2, I a2), (4, pf a1 0), (7, rf 1 0 4 x12), (8, B x11), (9, I x4), (10, .ptr 2 0 0)] [sl 0 a0, sl 0 x12, some ⟨0, Enc.cells ({ v9 with fDied := a2 })⟩] ?_
 exact ⟨{ v9 with fDied := a2 }, h, it [0, 2, 4, 7, 8, 9, 10]⟩
 refine pwp_skip ?_
 exact ⟨v9, h, it [0, 2, 4, 7, 8, 9, 10]⟩
 rintro x13 h
 unfold spec_l13Written_R_L0_j2 at h
 refine rvM [10] 3 72 [(0, rf 0 0 4 a0), (2, I a2), (4, pf a1 0), (8, B x11), (9, I x4), (55, rf 1 0 4 x12), (57, .arr 4 ([x13] : List T_impl_Version).length (eL ([x13] : List T_impl_Version)) true)] [sl 0 a0, sl 0 x12, sc 0 x13] ?_
 obtain ⟨v14, hv15, h⟩ := bindS h
 refine opsP_app τ_ok 58 1 0 (pn hQ) hv15 (by kernel_rfl) ?_
 refine veM [10] 1 72 [(0, rf 0 0 4 a0), (2, I a2), (4, pf a1 0), (7, rf 1 1 4 v14), (8, B x11), (9, I x4)] [sl 0 a0, sl 1 v14, sc 0 x13] ?_
 refine rveM [10] 72 [(0, rf 0 0 4 a0), (2, I a2), (4, pf a1 0), (7, rf 1 1 4 v14), (8, B x11), (9, I (w64 (x4 + 1)))] [sl 0 a0, sl 1 v14, sc 0 x13] ?_
 exact ⟨(f6, x11, (w64 (x4 + 1)), v14), h, Nat.lt_succ_self _, qt (it (st' := ⟨72, [(0, rf 0 0 4 a0), (2, I a2), (4, pf a1 0), (7, rf 1 1 4 v14), (8, B x11), (9, I (w64 (x4 + 1)))], [sl 0 a0, sl 1 v14, sc 0 x13]⟩) [0, 2, 4, 7, 8, 9]) (qt (Imp.truncS (st' := ⟨72, [(0, rf 0 0 4 a0), (2, I a2), (4, pf a1 0), (7, rf 1 1 4 v14), (8, B x11), (9, I (w64 (x4 + 1)))], [sl 0 a0, sl 1 v14]⟩) 2 (pl hQ) (by kernel_rfl) (allBelow_mem (by exact (And.intro rfl (And.intro rfl (And.intro rfl (And.intro rfl (And.intro rfl (And.intro rfl trivial)))))))) (by exact (And.intro (frz_below (eL_frz _)) (And.intro (frz_below (eL_frz _)) trivial))) (by kernel_rfl)) (Imp.reverS 1 1 (eL v14) [0, 2, 4, 7, 8, 9] (by kernel_rfl) (by exact (And.intro (eL_frz _) (And.intro (eL_frz _) trivial))) (by kernel_rfl)))⟩
 refine pwp_exit ?_
 refine pwp_seq ?_
 refine srveM [10] 72 [(2, I a2), (4, pf a1 0), (7, rf 1 0 4 x5), (60, B (!x3))] [sl 0 a0, sl 0 x5] ?_
 refine pc h (fun h => ?_) (fun h => ?_)
 refine ip 72 [(2, I a2), (4, pf a1 0), (7, rf 1 0 4 x5)] [sl 0 a0, sl 0 x5] ?_
 refine pwp_any ([[1], [], [], [], [], [], [], [], [], [1], [1]]) ([[], [], [], [], [], [], [], [], [], [1], []]) rfl (by kernel_rfl) ?_
 refine qvM [10] [1] (hL trivial) 1 72 [(61, rf 1 0 4 x5), (2, I a2), (4, pf a1 0), (7, rf 1 0 4 x5)] [sl 0 a0, sl 0 x5] ?_
 refine qvM [10] [] trivial 5 72 [(66, A a1.fRow), (64, I a2), (63, I a1.fKey), (61, rf 1 0 4 x5), (7, rf 1 0 4 x5)] [sl 0 a0, sl 0 x5] ?_
 obtain ⟨v27, hv28, h⟩ := bindS h
 refine qX (some 67) (A v27) 72 [(67, A v27), (64, I a2), (63, I a1.fKey), (61, rf 1 0 4 x5), (7, rf 1 0 4 x5)] [sl 0 a0, sl 0 x5] (fun Γ' hΓ => CoreE.of_g (callV_sound (τ := τ) (by kernel_rfl) rfl (ok_spec_l3Own hv28) (FzTo.O _))) trivial ?_
 refine qvM [10] [] trivial 2 72 [(69, .arr 4 ([(T_impl_Version.mk a1.fKey a2 0 v27)] : List T_impl_Version).length (eL ([(T_impl_Version.mk a1.fKey a2 0 v27)] : List T_impl_Version)) true), (61, rf 1 0 4 x5), (7, rf 1 0 4 x5)] [sl 0 a0, sl 0 x5] ?_
 obtain ⟨v29, hv30, h⟩ := bindS h
 refine qX (some 70) (rf 1 1 4 v29) 72 [(70, rf 1 1 4 v29), (7, rf 1 0 4 x5)] [sl 0 a0, sl 1 v29] (fun Γ' hΓ => app_Ew τ_ok 70 1 0 (by first | exact py hΓ hQ | exact pky hΓ hQ) hv30 (by kernel_rfl)) (hL trivial) ?_
 refine qvnM [10] [1] (hL trivial) 1 72 [(7, rf 1 1 4 v29)] [sl 0 a0, sl 1 v29] ?_
 refine srveM [10] 72 [(6, rf 1 1 4 v29)] [sl 0 a0, sl 1 v29] ?_
 have h := si h
 subst h
 exact pwp_ret ⟨.inr rfl, rf 1 1 4 v29, _, 0, by kernel_rfl, (OutP.list (v := 1) (by kernel_rfl)), by decide, by decide, by kernel_rfl⟩
 refine pwp_skip ?_
 refine srveM [10] 72 [(6, rf 1 0 4 x5)] [sl 0 a0, sl 0 x5] ?_
 have h := si h
 subst h
 exact pwp_ret ⟨.inr rfl, rf 1 0 4 x5, _, 0, by kernel_rfl, (OutP.list (v := 0) (by kernel_rfl)), by decide, by decide, by kernel_rfl⟩
def impl_DeltaRows_j0 (a0 : List (List T_impl_Value)) (a1 : List T_impl_Delta) (x1 : Bool) : Option ((List (List T_impl_Value)) × Bool) := bif x1 then some (([] : List (List T_impl_Value)), false) else (impl_afterDeltas a0 a1).bind fun v3 => some (v3.1, v3.2)
def impl_DeltaRows (a0 : List (List T_impl_Value)) (a1 : List T_impl_Delta) : Option ((List (List T_impl_Value)) × Bool) := (impl_allOk a0).bind fun v5 => bif (!v5) then impl_DeltaRows_j0 a0 a1 true else (slices_ContainsFunc_impl_Delta_impl_Delta a1 impl_DeltaRows_1).bind fun v7 => impl_DeltaRows_j0 a0 a1 v7
theorem ok_impl_DeltaRows {a0 : List (List T_impl_Value)} {a1 : List T_impl_Delta} {y : (List (List T_impl_Value)) × Bool} (h : impl_DeltaRows a0 a1 = some y) : OK Try.prog 14 [A a0, A a1] (.tup [A y.1, B y.2]) := by
 refine ow Try.func14 fun Γ hX => ?_
 unfold impl_DeltaRows at h
 refine srve 18 [(0, A a0), (1, A a1)] [] ?_
 refine pwp_seq ?_
 refine pwp_seq ?_
 refine pwp_join (σ := Bool) (fun x1 => (⟨18, [(0, A a0), (1, A a1), (12, B x1)], []⟩ : St)) (fun x1 => impl_DeltaRows_j0 a0 a1 x1 = some y) ?_ ?_
 refine rv 1 18 [(0, A a0), (1, A a1), (6, A a0)] [] ?_
 obtain ⟨v5, hv6, h⟩ := bindS h
 refine cF 7 (ok_impl_allOk hv6) ?_
 refine v 2 18 [(0, A a0), (1, A a1), (9, B (!v5))] [] ?_
 rcases fk (!v5) with hc9 | hc9
 replace h := bT hc9 h
 rw [hc9]
 refine ve 3 18 [(0, A a0), (1, A a1), (12, B true)] [] ?_
 exact ⟨true, h, it [0, 1, 12]⟩
 replace h := bF hc9 h
 rw [hc9]
 refine v 1 18 [(0, A a0), (1, A a1), (9, B false), (10, A a1)] [] ?_
 obtain ⟨v7, hv8, h⟩ := bindS h
 refine cF 11 (ok_slices_ContainsFunc_impl_Delta_impl_Delta (rfl) (fun _ w hw => ok_impl_DeltaRows_1 hw) hv8) ?_
 refine ve 1 18 [(0, A a0), (1, A a1), (12, B v7)] [] ?_
 exact ⟨v7, h, it [0, 1, 12]⟩
 rintro x1 h
 unfold impl_DeltaRows_j0 at h
 refine pc h (fun h => ?_) (fun h => ?_)
 refine srve 18 [(4, .arr 1 0 (eL ([] : List (List T_impl_Value))) true), (5, B false)] [] ?_
 refine ip 18 [(4, .arr 1 0 (eL ([] : List (List T_impl_Value))) true), (5, B false)] [] ?_
 refine pwp_imp (Imp.unfS (st' := ⟨18, [(4, A ([] : List (List T_impl_Value))), (5, B false)], []⟩) 4 [4, 5] (by kernel_rfl)) ?_
 have h := si h
 subst h
 exact pwp_ret (rt (.tup [A ([] : List (List T_impl_Value)), B false]) (OutP.tup (OutL.cons (OutP.frz (by kernel_rfl)) (OutL.cons (OutP.frz (by kernel_rfl)) (OutL.nil _)))))
 refine pwp_skip ?_
 refine srv 2 18 [(13, A a0), (14, A a1)] [] ?_
 obtain ⟨v3, hv4, h⟩ := bindS h
 refine opsP_callF τ 15 (ok_impl_afterDeltas hv4) (FzTo.tup (FzToL.cons (FzTo.frz rfl) (FzToL.cons (FzTo.frz rfl) FzToL.nil))) rfl (by kernel_rfl) ?_
 refine ve 4 18 [(4, A v3.1), (5, B v3.2)] [] ?_
 have h := si h
 subst h
 exact pwp_ret (rt (.tup [A v3.1, B v3.2]) (OutP.tup (OutL.cons (OutP.frz (by kernel_rfl)) (OutL.cons (OutP.frz (by kernel_rfl)) (OutL.nil _)))))
def spec_l13Copy_R_L0_l0 (a0 : List T_impl_Version) : Nat → Int → (List T_impl_Version) → Option (List T_impl_Version)
 | 0, _, _ => none
 | f5 + 1, x3, x4 => bif (decide (x3 < (a0.length : Int))) then (getI a0 x3).bind fun v8 => (spec_l3Own v8.fRow).bind fun v10 => (app x4 ([{ v8 with fRow := v10 }] : List T_impl_Version)).bind fun v12 => (spec_l13Copy_R_L0_l0 a0 f5) (w64 (x3 + 1)) v12 else some x4
def spec_l13Copy_R_L0 (a0 : List T_impl_Version) : Option (List T_impl_Version) := spec_l13Copy_R_L0_l0 a0 FUEL 0 ([] : List T_impl_Version)
theorem ok_spec_l13Copy_R_L0 {a0 : List T_impl_Version} {y : List T_impl_Version} (h : spec_l13Copy_R_L0 a0 = some y) : OKs Try.prog 167 [] 4 a0.length (eL a0) [] (O y) (eL a0) := by
 refine OKs_of_pwp τ_ok Try.func167 rfl (by kernel_rfl) rfl (eL_frz _) (eL_frz _) rfl fun Γ hQ => ?_
 refine pwp_imp (Imp.to (st' := ⟨26, [(0, rf 0 0 4 a0)], [sl 0 a0]⟩) [0] (by kernel_rfl)) ?_
 unfold spec_l13Copy_R_L0 at h
 refine srveM [5] 26 [(0, rf 0 0 4 a0)] [sl 0 a0] ?_
 refine srveM [5] 26 [(0, rf 0 0 4 a0), (3, .arr 4 0 (eL ([] : List T_impl_Version)) true)] [sl 0 a0] ?_
 refine pwp_seq ?_
 refine srveM [5] 26 [(0, rf 0 0 4 a0), (3, .arr 4 0 (eL ([] : List T_impl_Version)) true), (4, I 0)] [sl 0 a0] ?_
 refine pwp_block ?_
 refine pwp_loop (ι := Nat × Int × (List T_impl_Version)) (fun (f5, x3, x4) => (⟨26, [(0, rf 0 0 4 a0), (3, rf 1 0 4 x4), (4, I x3)], [sl 0 a0, sl 0 x4]⟩ : St)) (fun (f5, x3, x4) => spec_l13Copy_R_L0_l0 a0 f5 x3 x4 = some y) Prod.fst (FUEL, 0, ([] : List T_impl_Version)) h (Imp.thawS 3 [0, 3, 4] (by kernel_rfl)) ?_
 rintro ⟨f5, x3, x4⟩ h
 dsimp only at h ⊢
 rcases f5 with _ | f5
 cases h
 rw [spec_l13Copy_R_L0_l0] at h
 refine pwp_seq ?_
 refine srveM [5] 26 [(0, rf 0 0 4 a0), (3, rf 1 0 4 x4), (4, I x3), (10, B (decide (x3 < (a0.length : Int))))] [sl 0 a0, sl 0 x4] ?_
 refine pc h (fun h => ?_) (fun h => ?_)
 refine pwp_skip ?_
 refine pwp_seq ?_
 refine pwp_block ?_
 refine srvM [5] 2 26 [(0, rf 0 0 4 a0), (3, rf 1 0 4 x4), (4, I x3), (13, rf 0 0 4 a0), (14, I x3)] [sl 0 a0, sl 0 x4] ?_
 obtain ⟨v8, hv9, h⟩ := bindS h
 refine opsP_idr τ_ok 15 0 0 a0.length hv9 rfl (by kernel_rfl) ?_
 refine opsP_lde (r := E v8) τ_ok 16 119 0 hv9 (by kernel_rfl) (by kernel_rfl) ?_
 refine veM [5] 2 26 [(0, rf 0 0 4 a0), (3, rf 1 0 4 x4), (4, I x3), (5, .ptr 2 0 0)] [sl 0 a0, sl 0 x4, sc 0 v8] ?_
 refine srvM [5] 2 26 [(0, rf 0 0 4 a0), (3, rf 1 0 4 x4), (4, I x3), (5, .ptr 2 0 0), (18, A v8.fRow)] [sl 0 a0, sl 0 x4, sc 0 v8] ?_
 obtain ⟨v10, hv11, h⟩ := bindS h
 refine cFo 19 (ok_spec_l3Own hv11) ?_
 refine veM [5] 2 26 [(0, rf 0 0 4 a0), (3, rf 1 0 4 x4), (4, I x3), (5, .ptr 2 0 0)] [sl 0 a0, sl 0 x4, some ⟨0, Enc.cells ({ v8 with fRow := v10 })⟩] ?_
 refine rvM [5] 3 26 [(0, rf 0 0 4 a0), (4, I x3), (21, rf 1 0 4 x4), (23, .arr 4 ([{ v8 with fRow := v10 }] : List T_impl_Version).length (eL ([{ v8 with fRow := v10 }] : List T_impl_Version)) true)] [sl 0 a0, sl 0 x4, some ⟨0, Enc.cells ({ v8 with fRow := v10 })⟩] ?_
 obtain ⟨v12, hv13, h⟩ := bindS h
 refine opsP_app τ_ok 24 1 0 (pn hQ) hv13 (by kernel_rfl) ?_
 refine veM [5] 1 26 [(0, rf 0 0 4 a0), (3, rf 1 1 4 v12), (4, I x3)] [sl 0 a0, sl 1 v12, some ⟨0, Enc.cells ({ v8 with fRow := v10 })⟩] ?_
 refine rveM [5] 26 [(0, rf 0 0 4 a0), (3, rf 1 1 4 v12), (4, I (w64 (x3 + 1)))] [sl 0 a0, sl 1 v12, some ⟨0, Enc.cells ({ v8 with fRow := v10 })⟩] ?_
 exact ⟨(f5, (w64 (x3 + 1)), v12), h, Nat.lt_succ_self _, qt (it (st' := ⟨26, [(0, rf 0 0 4 a0), (3, rf 1 1 4 v12), (4, I (w64 (x3 + 1)))], [sl 0 a0, sl 1 v12, some ⟨0, Enc.cells ({ v8 with fRow := v10 })⟩]⟩) [0, 3, 4]) (qt (Imp.truncS (st' := ⟨26, [(0, rf 0 0 4 a0), (3, rf 1 1 4 v12), (4, I (w64 (x3 + 1)))], [sl 0 a0, sl 1 v12]⟩) 2 (pl hQ) (by kernel_rfl) (allBelow_mem (by exact (And.intro rfl (And.intro rfl (And.intro rfl trivial))))) (by exact (And.intro (frz_below (eL_frz _)) (And.intro (frz_below (eL_frz _)) trivial))) (by kernel_rfl)) (Imp.reverS 1 1 (eL v12) [0, 3, 4] (by kernel_rfl) (by exact (And.intro (eL_frz _) (And.intro (eL_frz _) trivial))) (by kernel_rfl)))⟩
 refine pwp_exit ?_
 refine srveM [5] 26 [(2, rf 1 0 4 x4)] [sl 0 a0, sl 0 x4] ?_
 have h := si h
 subst h
 exact pwp_ret ⟨.inr rfl, rf 1 0 4 x4, _, 0, by kernel_rfl, (OutP.list (v := 0) (by kernel_rfl)), by decide, by decide, by kernel_rfl⟩
def spec_WrittenAt_R_L0_l2 (a1 : List T_impl_Write) (a2 : Int) : Nat → Int → (List T_impl_Version) → Option ((List T_impl_Version) × Bool)
 | 0, _, _ => none
 | f17 + 1, x15, x16 => bif (decide (x15 < (a1.length : Int))) then (getI a1 x15).bind fun v20 => (spec_l13Written_R_L0 x16 v20 a2).bind fun v22 => (spec_WrittenAt_R_L0_l2 a1 a2 f17) (w64 (x15 + 1)) v22 else bif (decide ((x16.length : Int) > 60)) then some (([] : List T_impl_Version), false) else some (x16, true)
def spec_WrittenAt_R_L0_l1 (a0 : List T_impl_Version) (a1 : List T_impl_Write) (a2 : Int) : Nat → Int → Option ((List T_impl_Version) × Bool)
 | 0, _ => none
 | f5 + 1, x4 => bif (decide (x4 < 5)) then (spec_LastTurn a0 x4).bind fun v8 => bif (decide (v8 ≥ a2)) then some (([] : List T_impl_Version), false) else (spec_WrittenAt_R_L0_l1 a0 a1 a2 f5) (w64 (x4 + 1)) else (spec_l13Copy_R_L0 a0).bind fun v11 => spec_WrittenAt_R_L0_l2 a1 a2 FUEL 0 v11
def spec_WrittenAt_R_L0_j0 (a0 : List T_impl_Version) (a1 : List T_impl_Write) (a2 : Int) (x1 : Bool) : Option ((List T_impl_Version) × Bool) := bif x1 then some (([] : List T_impl_Version), false) else spec_WrittenAt_R_L0_l1 a0 a1 a2 FUEL 0
def spec_WrittenAt_R_L0 (a0 : List T_impl_Version) (a1 : List T_impl_Write) (a2 : Int) : Option ((List T_impl_Version) × Bool) := (spec_VersionsOk a0).bind fun v25 => bif (!v25) then spec_WrittenAt_R_L0_j0 a0 a1 a2 true else (spec_WritesOk a1).bind fun v27 => bif (!v27) then spec_WrittenAt_R_L0_j0 a0 a1 a2 true else (spec_l1In a2 1 40).bind fun v29 => spec_WrittenAt_R_L0_j0 a0 a1 a2 (!v29)
theorem ok_spec_WrittenAt_R_L0 {a0 : List T_impl_Version} {a1 : List T_impl_Write} {a2 : Int} {y : (List T_impl_Version) × Bool} (h : spec_WrittenAt_R_L0 a0 a1 a2 = some y) : OKs Try.prog 132 [] 4 a0.length (eL a0) [A a1, I a2] (.tup [O y.1, B y.2]) (eL a0) := by
 refine OKs_of_pwp τ_ok Try.func132 rfl (by kernel_rfl) rfl (eL_frz _) (eL_frz _) rfl fun Γ hQ => ?_
 refine pwp_imp (Imp.to (st' := ⟨55, [(0, rf 0 0 4 a0), (1, A a1), (2, I a2)], [sl 0 a0]⟩) [0, 1, 2] (by kernel_rfl)) ?_
 unfold spec_WrittenAt_R_L0 at h
 refine srve 55 [(0, rf 0 0 4 a0), (1, A a1), (2, I a2)] [sl 0 a0] ?_
 refine pwp_seq ?_
 refine pwp_seq ?_
 refine pwp_join (σ := Bool) (fun x1 => (⟨55, [(0, rf 0 0 4 a0), (1, A a1), (2, I a2), (23, B x1)], [sl 0 a0]⟩ : St)) (fun x1 => spec_WrittenAt_R_L0_j0 a0 a1 a2 x1 = some y) ?_ ?_
 refine rv 1 55 [(0, rf 0 0 4 a0), (1, A a1), (2, I a2), (11, rf 0 0 4 a0)] [sl 0 a0] ?_
 obtain ⟨v25, hv26, h⟩ := bindS h
 refine opsP_callV (xs := [rf 0 0 4 a0]) τ 12 (ok_spec_VersionsOk hv26) (Blind.lit _) (FzTo.frz rfl) (by kernel_rfl) (ViewL.cons (View.whole (v := 0) a0 (by kernel_rfl) rfl) (ViewL.nil _)) ?_
 refine v 2 55 [(0, rf 0 0 4 a0), (1, A a1), (2, I a2), (14, B (!v25))] [sl 0 a0] ?_
 rcases fk (!v25) with hc32 | hc32
 replace h := bT hc32 h
 rw [hc32]
 refine ve 9 55 [(0, rf 0 0 4 a0), (1, A a1), (2, I a2), (23, B true)] [sl 0 a0] ?_
 exact ⟨true, h, it [0, 1, 2, 23]⟩
 replace h := bF hc32 h
 rw [hc32]
 refine v 1 55 [(0, rf 0 0 4 a0), (1, A a1), (2, I a2), (14, B false), (15, A a1)] [sl 0 a0] ?_
 obtain ⟨v27, hv28, h⟩ := bindS h
 refine cF 16 (ok_spec_WritesOk hv28) ?_
 refine v 3 55 [(0, rf 0 0 4 a0), (1, A a1), (2, I a2), (19, B (!v27))] [sl 0 a0] ?_
 rcases fk (!v27) with hc31 | hc31
 replace h := bT hc31 h
 rw [hc31]
 refine ve 4 55 [(0, rf 0 0 4 a0), (1, A a1), (2, I a2), (23, B true)] [sl 0 a0] ?_
 exact ⟨true, h, it [0, 1, 2, 23]⟩
 replace h := bF hc31 h
 rw [hc31]
 refine v 1 55 [(0, rf 0 0 4 a0), (1, A a1), (2, I a2), (19, B false), (20, I a2)] [sl 0 a0] ?_
 obtain ⟨v29, hv30, h⟩ := bindS h
 refine cF 21 (ok_spec_l1In hv30) ?_
 refine ve 2 55 [(0, rf 0 0 4 a0), (1, A a1), (2, I a2), (23, B (!v29))] [sl 0 a0] ?_
 exact ⟨(!v29), h, it [0, 1, 2, 23]⟩
 rintro x1 h
 unfold spec_WrittenAt_R_L0_j0 at h
 refine pc h (fun h => ?_) (fun h => ?_)
 refine srve 55 [(6, .arr 4 0 (eL ([] : List T_impl_Version)) true), (7, B false)] [sl 0 a0] ?_
 refine ip 55 [(6, .arr 4 0 (eL ([] : List T_impl_Version)) true), (7, B false)] [sl 0 a0] ?_
 refine pwp_imp (Imp.thawS (st' := ⟨55, [(6, .ref 1 0 0 4 ([] : List T_impl_Version).length false), (7, B false)], [sl 0 a0, some ⟨0, eL ([] : List T_impl_Version)⟩]⟩) 6 [6, 7] (by kernel_rfl)) ?_
 have h := si h
 subst h
 exact pwp_ret ⟨.inr rfl, .tup [.ref 1 0 0 4 ([] : List T_impl_Version).length false, B false], _, 0, by kernel_rfl, (OutP.tup (OutL.cons (OutP.list (v := 0) (by kernel_rfl)) (OutL.cons (OutP.frz (by kernel_rfl)) (OutL.nil _)))), by decide, by decide, by kernel_rfl⟩
 refine pwp_skip ?_
 refine pwp_seq ?_
 refine srve 55 [(0, rf 0 0 4 a0), (1, A a1), (2, I a2), (8, I 0)] [sl 0 a0] ?_
 refine pwp_block ?_
 refine pwp_loop (ι := Nat × Int) (fun (f5, x4) => (⟨55, [(0, rf 0 0 4 a0), (1, A a1), (2, I a2), (8, I x4)], [sl 0 a0]⟩ : St)) (fun (f5, x4) => spec_WrittenAt_R_L0_l1 a0 a1 a2 f5 x4 = some y) Prod.fst (FUEL, 0) h (it [0, 1, 2, 8]) ?_
 rintro ⟨f5, x4⟩ h
 dsimp only at h ⊢
 rcases f5 with _ | f5
 cases h
 rw [spec_WrittenAt_R_L0_l1] at h
 refine pwp_seq ?_
 refine srve 55 [(0, rf 0 0 4 a0), (1, A a1), (2, I a2), (8, I x4), (26, B (decide (x4 < 5)))] [sl 0 a0] ?_
 refine pc h (fun h => ?_) (fun h => ?_)
 refine pwp_skip ?_
 refine pwp_seq ?_
 refine pwp_block ?_
 refine srv 2 55 [(0, rf 0 0 4 a0), (1, A a1), (2, I a2), (8, I x4), (29, rf 0 0 4 a0), (30, I x4)] [sl 0 a0] ?_
 obtain ⟨v8, hv9, h⟩ := bindS h
 refine opsP_callV (xs := [rf 0 0 4 a0, I x4]) τ 31 (ok_spec_LastTurn hv9) (Blind.lit _) (FzTo.frz rfl) (by kernel_rfl) (ViewL.cons (View.whole (v := 0) a0 (by kernel_rfl) rfl) (ViewL.cons (View.frz rfl) (ViewL.nil _))) ?_
 refine ve 2 55 [(0, rf 0 0 4 a0), (1, A a1), (2, I a2), (8, I x4), (33, B (decide (v8 ≥ a2)))] [sl 0 a0] ?_
 refine pc h (fun h => ?_) (fun h => ?_)
 refine srve 55 [(6, .arr 4 0 (eL ([] : List T_impl_Version)) true), (7, B false)] [sl 0 a0] ?_
 refine ip 55 [(6, .arr 4 0 (eL ([] : List T_impl_Version)) true), (7, B false)] [sl 0 a0] ?_
 refine pwp_imp (Imp.thawS (st' := ⟨55, [(6, .ref 1 0 0 4 ([] : List T_impl_Version).length false), (7, B false)], [sl 0 a0, some ⟨0, eL ([] : List T_impl_Version)⟩]⟩) 6 [6, 7] (by kernel_rfl)) ?_
 have h := si h
 subst h
 exact pwp_ret ⟨.inr rfl, .tup [.ref 1 0 0 4 ([] : List T_impl_Version).length false, B false], _, 0, by kernel_rfl, (OutP.tup (OutL.cons (OutP.list (v := 0) (by kernel_rfl)) (OutL.cons (OutP.frz (by kernel_rfl)) (OutL.nil _)))), by decide, by decide, by kernel_rfl⟩
 refine pwp_skip ?_
 refine rve 55 [(0, rf 0 0 4 a0), (1, A a1), (2, I a2), (8, I (w64 (x4 + 1)))] [sl 0 a0] ?_
 exact ⟨(f5, (w64 (x4 + 1))), h, Nat.lt_succ_self _, it [0, 1, 2, 8]⟩
 refine pwp_exit ?_
 refine srv 1 55 [(1, A a1), (2, I a2), (35, rf 0 0 4 a0)] [sl 0 a0] ?_
 obtain ⟨v11, hv12, h⟩ := bindS h
 refine opsP_E (dd := some 36) (x := rf 1 0 4 v11) (callST_E (bs := [⟨0, eL v11⟩]) τ 36 0 0 (ok_spec_l13Copy_R_L0 hv12) rfl rfl (by kernel_rfl) (by kernel_rfl)) ?_
 refine ve 1 55 [(1, A a1), (2, I a2), (9, rf 1 0 4 v11)] [sl 0 a0, sl 0 v11] ?_
 refine pwp_seq ?_
 refine srve 55 [(1, A a1), (2, I a2), (9, rf 1 0 4 v11), (10, I 0)] [sl 0 a0, sl 0 v11] ?_
 refine pwp_block ?_
 refine pwp_loop (ι := Nat × Int × (List T_impl_Version)) (fun (f17, x15, x16) => (⟨55, [(1, A a1), (2, I a2), (9, rf 1 0 4 x16), (10, I x15)], [sl 0 a0, sl 0 x16]⟩ : St)) (fun (f17, x15, x16) => spec_WrittenAt_R_L0_l2 a1 a2 f17 x15 x16 = some y) Prod.fst (FUEL, 0, v11) h (it [1, 2, 9, 10]) ?_
 rintro ⟨f17, x15, x16⟩ h
 dsimp only at h ⊢
 rcases f17 with _ | f17
 cases h
 rw [spec_WrittenAt_R_L0_l2] at h
 refine pwp_seq ?_
 refine srve 55 [(1, A a1), (2, I a2), (9, rf 1 0 4 x16), (10, I x15), (40, B (decide (x15 < (a1.length : Int))))] [sl 0 a0, sl 0 x16] ?_
 refine pc h (fun h => ?_) (fun h => ?_)
 refine pwp_skip ?_
 refine pwp_seq ?_
 refine pwp_block ?_
 refine rv 3 55 [(1, A a1), (2, I a2), (10, I x15), (43, rf 1 0 4 x16), (44, A a1), (45, I x15)] [sl 0 a0, sl 0 x16] ?_
 obtain ⟨v20, hv21, h⟩ := bindS h
 refine opsP_idx τ_ok 46 hv21 (by kernel_rfl) ?_
 refine v 2 55 [(1, A a1), (2, I a2), (10, I x15), (43, rf 1 0 4 x16), (47, E v20), (48, I a2)] [sl 0 a0, sl 0 x16] ?_
 obtain ⟨v22, hv23, h⟩ := bindS h
 refine opsP_E (dd := some 49) (x := rf 2 0 4 v22) (callST_E (bs := [⟨0, eL v22⟩]) τ 49 1 0 (ok_spec_l13Written_R_L0 hv23) rfl rfl (by kernel_rfl) (by kernel_rfl)) ?_
 refine ve 1 55 [(1, A a1), (2, I a2), (9, rf 2 0 4 v22), (10, I x15)] [sl 0 a0, sl 0 x16, sl 0 v22] ?_
 refine rve 55 [(1, A a1), (2, I a2), (9, rf 2 0 4 v22), (10, I (w64 (x15 + 1)))] [sl 0 a0, sl 0 x16, sl 0 v22] ?_
 exact ⟨(f17, (w64 (x15 + 1)), v22), h, Nat.lt_succ_self _, qt (it (st' := ⟨55, [(1, A a1), (2, I a2), (9, rf 2 0 4 v22), (10, I (w64 (x15 + 1)))], [sl 0 a0, sl 0 x16, sl 0 v22]⟩) [1, 2, 9, 10]) (qt (Imp.hideS (st' := ⟨55, [(1, A a1), (2, I a2), (9, rf 2 0 4 v22), (10, I (w64 (x15 + 1)))], [sl 0 a0, none, sl 0 v22]⟩) 1 (pn hQ) (by kernel_rfl)) (qt (Imp.mvS (st' := ⟨55, [(1, A a1), (2, I a2), (9, rf 1 0 4 v22), (10, I (w64 (x15 + 1)))], [sl 0 a0, sl 0 v22, none]⟩) 2 1 [1, 2, 9, 10] (pn2 hQ) (v := 0) (cs := eL v22) (by kernel_rfl) (by kernel_rfl) (by exact (And.intro (eL_frz _) (And.intro (eL_frz _) trivial))) (by kernel_rfl) (by kernel_rfl)) (Imp.truncS 2 (pl hQ) (by kernel_rfl) (allBelow_mem (by exact (And.intro rfl (And.intro rfl (And.intro rfl (And.intro rfl trivial)))))) (by exact (And.intro (frz_below (eL_frz _)) (And.intro (frz_below (eL_frz _)) trivial))) (by kernel_rfl))))⟩
 refine pwp_exit ?_
 refine pwp_seq ?_
 refine srve 55 [(9, rf 1 0 4 x16), (52, B (decide ((x16.length : Int) > 60)))] [sl 0 a0, sl 0 x16] ?_
 refine pc h (fun h => ?_) (fun h => ?_)
 refine srve 55 [(6, .arr 4 0 (eL ([] : List T_impl_Version)) true), (7, B false)] [sl 0 a0, sl 0 x16] ?_
 refine ip 55 [(6, .arr 4 0 (eL ([] : List T_impl_Version)) true), (7, B false)] [sl 0 a0, sl 0 x16] ?_
 refine pwp_imp (Imp.thawS (st' := ⟨55, [(6, .ref 2 0 0 4 ([] : List T_impl_Version).length false), (7, B false)], [sl 0 a0, sl 0 x16, some ⟨0, eL ([] : List T_impl_Version)⟩]⟩) 6 [6, 7] (by kernel_rfl)) ?_
 have h := si h
 subst h
 exact pwp_ret ⟨.inr rfl, .tup [.ref 2 0 0 4 ([] : List T_impl_Version).length false, B false], _, 0, by kernel_rfl, (OutP.tup (OutL.cons (OutP.list (v := 0) (by kernel_rfl)) (OutL.cons (OutP.frz (by kernel_rfl)) (OutL.nil _)))), by decide, by decide, by kernel_rfl⟩
 refine pwp_skip ?_
 refine srve 55 [(6, rf 1 0 4 x16), (7, B true)] [sl 0 a0, sl 0 x16] ?_
 have h := si h
 subst h
 exact pwp_ret ⟨.inr rfl, .tup [rf 1 0 4 x16, B true], _, 0, by kernel_rfl, (OutP.tup (OutL.cons (OutP.list (v := 0) (by kernel_rfl)) (OutL.cons (OutP.frz (by kernel_rfl)) (OutL.nil _)))), by decide, by decide, by kernel_rfl⟩
def spec_l20Versions_j1 (x5 : Int) (x6 : Int) (K10 : Int → Int → T_spec_l20Rd → (List T_impl_Version) → Option (((List T_impl_Version) × Int) × T_spec_l20Rd)) (x12 : T_spec_l20Rd) (x13 : List T_impl_Version) : Option (((List T_impl_Version) × Int) × T_spec_l20Rd) := (spec_l20Rd_pick x12 2).bind fun v14 => K10 (w64 ((w64 (x5 + 1)) + v14.1)) (w64 (x6 - 1)) v14.2 x13
def spec_l20Versions_j2 (x5 : Int) (x21 : T_spec_l20Rd) (x22 : List T_impl_Version) : Option (((List T_impl_Version) × Int) × T_spec_l20Rd) := some ((x22, x5), x21)
def spec_l20Versions_j3 (x5 : Int) (x8 : List T_impl_Version) (x23 : Bool) (x24 : T_spec_l20Rd) : Option (((List T_impl_Version) × Int) × T_spec_l20Rd) := bif x23 then (spec_l20Rd_pick x24 (x8.length : Int)).bind fun v26 => (spec_l20Rd_pick v26.2 4).bind fun v28 => bif (v28.1 == 0) then (spec_l20Rd_pick v28.2 9).bind fun v31 => (getI x8 v26.1).bind fun v33 => spec_l20Versions_j2 x5 v31.2 (x8.set v26.1.toNat ({ v33 with fDied := (w64 (v31.1 - 1)) } : T_impl_Version)) else bif (v28.1 == 1) then (spec_l20Rd_pick v28.2 8).bind fun v36 => (getI x8 v26.1).bind fun v38 => spec_l20Versions_j2 x5 v36.2 (x8.set v26.1.toNat ({ v38 with fKey := (w64 (v36.1 - 1)) } : T_impl_Version)) else bif (v28.1 == 2) then (spec_l20Rd_pick v28.2 50).bind fun v41 => (getI x8 v26.1).bind fun v43 => spec_l20Versions_j2 x5 v41.2 (x8.set v26.1.toNat ({ v43 with fBorn := (w64 (v41.1 - 1)) } : T_impl_Version)) else (getI x8 v26.1).bind fun v45 => (app x8 ([v45] : List T_impl_Version)).bind fun v47 => spec_l20Versions_j2 x5 v28.2 v47 else spec_l20Versions_j2 x5 x24 x8
def spec_l20Versions_l0 (a1 : Int) : Nat → Int → Int → T_spec_l20Rd → (List T_impl_Version) → Option (((List T_impl_Version) × Int) × T_spec_l20Rd)
 | 0, _, _, _, _ => none
 | f9 + 1, x5, x6, x7, x8 => bif (decide (x6 > 0)) then (spec_l20Writes x7 0).bind fun v16 => (spec_WrittenAt_R_L0 x8 v16.1 x5).bind fun v18 => bif v18.2 then spec_l20Versions_j1 x5 x6 (spec_l20Versions_l0 a1 f9) v16.2 v18.1 else spec_l20Versions_j1 x5 x6 (spec_l20Versions_l0 a1 f9) v16.2 x8 else bif (decide ((x8.length : Int) > 0)) then (spec_l20Rd_odd x7 a1).bind fun v49 => spec_l20Versions_j3 x5 x8 v49.1 v49.2 else spec_l20Versions_j3 x5 x8 false x7
def spec_l20Versions (a0 : T_spec_l20Rd) (a1 : Int) : Option (((List T_impl_Version) × Int) × T_spec_l20Rd) := (spec_l20Rd_pick a0 7).bind fun v1 => spec_l20Versions_l0 a1 FUEL 1 v1.1 v1.2 ([] : List T_impl_Version)
theorem ok_spec_l20Versions {a0 : T_spec_l20Rd} {a1 : Int} {y : ((List T_impl_Version) × Int) × T_spec_l20Rd} (h : spec_l20Versions a0 a1 = some y) : OKb Try.prog 85 (Enc.cells a0) [I a1] (.tup [O y.1.1, I y.1.2]) (Enc.cells y.2) := by
 refine OKb_of_pwp τ_ok Try.func85 rfl (by kernel_rfl) rfl (Enc.frz _) (Enc.frz _) fun Γ hQ => ?_
 unfold spec_l20Versions at h
 refine srve 84 [(0, .ptr 0 0 0), (1, I a1)] [sc 0 a0] ?_
 refine srve 84 [(0, .ptr 0 0 0), (1, I a1), (6, .arr 4 0 (eL ([] : List T_impl_Version)) true)] [sc 0 a0] ?_
 refine srve 84 [(0, .ptr 0 0 0), (1, I a1), (6, .arr 4 0 (eL ([] : List T_impl_Version)) true), (7, I 1)] [sc 0 a0] ?_
 refine pwp_seq ?_
 refine srv 1 84 [(0, .ptr 0 0 0), (1, I a1), (6, .arr 4 0 (eL ([] : List T_impl_Version)) true), (7, I 1), (13, .ptr 0 0 0)] [sc 0 a0] ?_
 obtain ⟨v1, hv2, h⟩ := bindS h
 refine cB 14 0 0 (ok_spec_l20Rd_pick hv2) ?_
 refine ve 1 84 [(0, .ptr 0 0 0), (1, I a1), (6, .arr 4 0 (eL ([] : List T_impl_Version)) true), (7, I 1), (8, I v1.1)] [sc 0 v1.2] ?_
 refine pwp_block ?_
 refine pwp_loop (ι := Nat × Int × Int × T_spec_l20Rd × (List T_impl_Version)) (fun (f9, x5, x6, x7, x8) => (⟨84, [(0, .ptr 0 0 0), (1, I a1), (6, rf 1 0 4 x8), (7, I x5), (8, I x6)], [sc 0 x7, sl 0 x8]⟩ : St)) (fun (f9, x5, x6, x7, x8) => spec_l20Versions_l0 a1 f9 x5 x6 x7 x8 = some y) Prod.fst (FUEL, 1, v1.1, v1.2, ([] : List T_impl_Version)) h (Imp.thawS 6 [0, 1, 6, 7, 8] (by kernel_rfl)) ?_
 rintro ⟨f9, x5, x6, x7, x8⟩ h
 dsimp only at h ⊢
 rcases f9 with _ | f9
 cases h
 rw [spec_l20Versions_l0] at h
 refine pwp_seq ?_
 refine srve 84 [(0, .ptr 0 0 0), (1, I a1), (6, rf 1 0 4 x8), (7, I x5), (8, I x6), (16, B (decide (x6 > 0)))] [sc 0 x7, sl 0 x8] ?_
 refine pc h (fun h => ?_) (fun h => ?_)
 refine pwp_skip ?_
 refine pwp_seq ?_
 refine pwp_block ?_
 refine pwp_seq ?_
 refine pwp_join (σ := T_spec_l20Rd × (List T_impl_Version)) (fun (x12, x13) => (⟨84, [(0, .ptr 0 0 0), (1, I a1), (6, rf 1 0 4 x13), (7, I x5), (8, I x6)], [sc 0 x12, sl 0 x13, none]⟩ : St)) (fun (x12, x13) => spec_l20Versions_j1 x5 x6 (spec_l20Versions_l0 a1 f9) x12 x13 = some y) ?_ ?_
 refine srv 2 84 [(0, .ptr 0 0 0), (1, I a1), (6, rf 1 0 4 x8), (7, I x5), (8, I x6), (20, rf 1 0 4 x8), (21, .ptr 0 0 0)] [sc 0 x7, sl 0 x8] ?_
 obtain ⟨v16, hv17, h⟩ := bindS h
 refine cBo 22 0 0 (ok_spec_l20Writes hv17) ?_
 refine v 1 84 [(0, .ptr 0 0 0), (1, I a1), (6, rf 1 0 4 x8), (7, I x5), (8, I x6), (20, rf 1 0 4 x8), (22, A v16.1), (23, I x5)] [sc 0 v16.2, sl 0 x8] ?_
 obtain ⟨v18, hv19, h⟩ := bindS h
 refine opsP_E (dd := some 24) (x := .tup [rf 2 0 4 v18.1, B v18.2]) (callST_E (bs := [⟨0, eL v18.1⟩]) τ 24 1 0 (ok_spec_WrittenAt_R_L0 hv19) rfl rfl (by kernel_rfl) (by kernel_rfl)) ?_
 refine ve 5 84 [(0, .ptr 0 0 0), (1, I a1), (6, rf 1 0 4 x8), (7, I x5), (8, I x6), (9, rf 2 0 4 v18.1), (10, B v18.2)] [sc 0 v16.2, sl 0 x8, sl 0 v18.1] ?_
 refine srve 84 [(0, .ptr 0 0 0), (1, I a1), (6, rf 1 0 4 x8), (7, I x5), (8, I x6), (9, rf 2 0 4 v18.1), (27, B v18.2)] [sc 0 v16.2, sl 0 x8, sl 0 v18.1] ?_
 refine pc h (fun h => ?_) (fun h => ?_)
 refine rve 84 [(0, .ptr 0 0 0), (1, I a1), (6, rf 2 0 4 v18.1), (7, I x5), (8, I x6)] [sc 0 v16.2, sl 0 x8, sl 0 v18.1] ?_
 exact ⟨(v16.2, v18.1), h, qt (it (st' := ⟨84, [(0, .ptr 0 0 0), (1, I a1), (6, rf 2 0 4 v18.1), (7, I x5), (8, I x6)], [sc 0 v16.2, sl 0 x8, sl 0 v18.1]⟩) [0, 1, 6, 7, 8]) (qt (Imp.hideS (st' := ⟨84, [(0, .ptr 0 0 0), (1, I a1), (6, rf 2 0 4 v18.1), (7, I x5), (8, I x6)], [sc 0 v16.2, none, sl 0 v18.1]⟩) 1 (pn hQ) (by kernel_rfl)) (Imp.mvS 2 1 [0, 1, 6, 7, 8] (pn2 hQ) (v := 0) (cs := eL v18.1) (by kernel_rfl) (by kernel_rfl) (by exact (And.intro (rfl) (And.intro (eL_frz _) trivial))) (by kernel_rfl) (by kernel_rfl)))⟩
 refine pwp_skip ?_
 exact ⟨(v16.2, x8), h, qt (it (st' := ⟨84, [(0, .ptr 0 0 0), (1, I a1), (6, rf 1 0 4 x8), (7, I x5), (8, I x6)], [sc 0 v16.2, sl 0 x8, sl 0 v18.1]⟩) [0, 1, 6, 7, 8]) (qt (Imp.hideS (st' := ⟨84, [(0, .ptr 0 0 0), (1, I a1), (6, rf 1 0 4 x8), (7, I x5), (8, I x6)], [sc 0 v16.2, sl 0 x8, none]⟩) 2 (pn hQ) (by kernel_rfl)) (it [0, 1, 6, 7, 8]))⟩
 rintro ⟨x12, x13⟩ h
 dsimp only at h ⊢
 unfold spec_l20Versions_j1 at h
 refine rv 3 84 [(0, .ptr 0 0 0), (1, I a1), (6, rf 1 0 4 x13), (8, I x6), (30, I (w64 (x5 + 1))), (31, .ptr 0 0 0)] [sc 0 x12, sl 0 x13, none] ?_
 obtain ⟨v14, hv15, h⟩ := bindS h
 refine cB 32 0 0 (ok_spec_l20Rd_pick hv15) ?_
 refine ve 2 84 [(0, .ptr 0 0 0), (1, I a1), (6, rf 1 0 4 x13), (7, I (w64 ((w64 (x5 + 1)) + v14.1))), (8, I x6)] [sc 0 v14.2, sl 0 x13, none] ?_
 refine rve 84 [(0, .ptr 0 0 0), (1, I a1), (6, rf 1 0 4 x13), (7, I (w64 ((w64 (x5 + 1)) + v14.1))), (8, I (w64 (x6 - 1)))] [sc 0 v14.2, sl 0 x13, none] ?_
 exact ⟨(f9, (w64 ((w64 (x5 + 1)) + v14.1)), (w64 (x6 - 1)), v14.2, x13), h, Nat.lt_succ_self _, (it (st' := ⟨84, [(0, .ptr 0 0 0), (1, I a1), (6, rf 1 0 4 x13), (7, I (w64 ((w64 (x5 + 1)) + v14.1))), (8, I (w64 (x6 - 1)))], [sc 0 v14.2, sl 0 x13, none]⟩) [0, 1, 6, 7, 8]).trans (Imp.truncS 2 (pl hQ) (by kernel_rfl) (allBelow_mem (by exact (And.intro rfl (And.intro rfl (And.intro rfl (And.intro rfl (And.intro rfl trivial))))))) (by exact (And.intro (rfl) (And.intro (frz_below (eL_frz _)) trivial))) (by kernel_rfl))⟩
 refine pwp_exit ?_
 refine pwp_seq ?_
 refine pwp_join (σ := T_spec_l20Rd × (List T_impl_Version)) (fun (x21, x22) => (⟨84, [(6, rf 1 0 4 x22), (7, I x5)], [sc 0 x21, sl 0 x22]⟩ : St)) (fun (x21, x22) => spec_l20Versions_j2 x5 x21 x22 = some y) ?_ ?_
 refine pwp_seq ?_
 refine pwp_join (σ := Bool × T_spec_l20Rd) (fun (x23, x24) => (⟨84, [(0, .ptr 0 0 0), (6, rf 1 0 4 x8), (7, I x5), (41, B x23)], [sc 0 x24, sl 0 x8]⟩ : St)) (fun (x23, x24) => spec_l20Versions_j3 x5 x8 x23 x24 = some y) ?_ ?_
 refine rv 4 84 [(0, .ptr 0 0 0), (1, I a1), (6, rf 1 0 4 x8), (7, I x5), (37, B (decide ((x8.length : Int) > 0)))] [sc 0 x7, sl 0 x8] ?_
 rcases fk (decide ((x8.length : Int) > 0)) with hc51 | hc51
 replace h := bT hc51 h
 rw [hc51]
 refine v 2 84 [(0, .ptr 0 0 0), (6, rf 1 0 4 x8), (7, I x5), (37, B true), (38, .ptr 0 0 0), (39, I a1)] [sc 0 x7, sl 0 x8] ?_
 obtain ⟨v49, hv50, h⟩ := bindS h
 refine cB 40 0 0 (ok_spec_l20Rd_odd hv50) ?_
 refine ve 1 84 [(0, .ptr 0 0 0), (6, rf 1 0 4 x8), (7, I x5), (41, B v49.1)] [sc 0 v49.2, sl 0 x8] ?_
 exact ⟨(v49.1, v49.2), h, it [0, 6, 7, 41]⟩
 replace h := bF hc51 h
 rw [hc51]
 refine ve 4 84 [(0, .ptr 0 0 0), (6, rf 1 0 4 x8), (7, I x5), (41, B false)] [sc 0 x7, sl 0 x8] ?_
 exact ⟨(false, x7), h, it [0, 6, 7, 41]⟩
 rintro ⟨x23, x24⟩ h
 dsimp only at h ⊢
 unfold spec_l20Versions_j3 at h
 refine pc h (fun h => ?_) (fun h => ?_)
 refine srv 3 84 [(0, .ptr 0 0 0), (6, rf 1 0 4 x8), (7, I x5), (42, .ptr 0 0 0), (44, I (x8.length : Int))] [sc 0 x24, sl 0 x8] ?_
 obtain ⟨v26, hv27, h⟩ := bindS h
 refine cB 45 0 0 (ok_spec_l20Rd_pick hv27) ?_
 refine ve 1 84 [(0, .ptr 0 0 0), (6, rf 1 0 4 x8), (7, I x5), (11, I v26.1)] [sc 0 v26.2, sl 0 x8] ?_
 refine srv 1 84 [(0, .ptr 0 0 0), (6, rf 1 0 4 x8), (7, I x5), (11, I v26.1), (46, .ptr 0 0 0)] [sc 0 v26.2, sl 0 x8] ?_
 obtain ⟨v28, hv29, h⟩ := bindS h
 refine cB 47 0 0 (ok_spec_l20Rd_pick hv29) ?_
 refine ve 0 84 [(0, .ptr 0 0 0), (6, rf 1 0 4 x8), (7, I x5), (11, I v26.1), (47, I v28.1)] [sc 0 v28.2, sl 0 x8] ?_
 refine pwp_block ?_
 refine srve 84 [(0, .ptr 0 0 0), (6, rf 1 0 4 x8), (7, I x5), (11, I v26.1), (47, I v28.1), (55, B (v28.1 == 0))] [sc 0 v28.2, sl 0 x8] ?_
 refine pc h (fun h => ?_) (fun h => ?_)
 refine rv 3 84 [(6, rf 1 0 4 x8), (7, I x5), (57, rf 1 0 4 x8), (58, I v26.1), (59, .ptr 0 0 0)] [sc 0 v28.2, sl 0 x8] ?_
 obtain ⟨v31, hv32, h⟩ := bindS h
 refine cB 60 0 0 (ok_spec_l20Rd_pick hv32) ?_
 refine v 1 84 [(6, rf 1 0 4 x8), (7, I x5), (57, rf 1 0 4 x8), (58, I v26.1), (61, I (w64 (v31.1 - 1)))] [sc 0 v31.2, sl 0 x8] ?_
 obtain ⟨v33, hv34, h⟩ := bindS h
 refine opsP_idr τ_ok 62 1 0 x8.length hv34 rfl (by kernel_rfl) ?_
 refine v 1 84 [(6, rf 1 0 4 x8), (7, I x5), (61, I (w64 (v31.1 - 1))), (63, .ptr 1 0 (v26.1.toNat * 4 + 2))] [sc 0 v31.2, sl 0 x8] ?_
 refine opsP_ste (vs := [I (w64 (v31.1 - 1))]) τ_ok 3 1 0 2 ({ v33 with fDied := (w64 (v31.1 - 1)) } : T_impl_Version) hv34 (by kernel_rfl) (by kernel_rfl) (by kernel_rfl) (renC (ren_ref (List.length_set ..).symm) (renC trivial (renC trivial (renC trivial renC0)))) ?_
 refine ve 0 84 [(6, .ref 1 0 0 4 (x8.set v26.1.toNat ({ v33 with fDied := (w64 (v31.1 - 1)) } : T_impl_Version)).length false), (7, I x5)] [sc 0 v31.2, some ⟨0, eL (x8.set v26.1.toNat ({ v33 with fDied := (w64 (v31.1 - 1)) } : T_impl_Version))⟩] ?_
 exact ⟨(v31.2, (x8.set v26.1.toNat ({ v33 with fDied := (w64 (v31.1 - 1)) } : T_impl_Version))), h, it [6, 7]⟩
 refine srve 84 [(0, .ptr 0 0 0), (6, rf 1 0 4 x8), (7, I x5), (11, I v26.1), (47, I v28.1), (64, B (v28.1 == 1))] [sc 0 v28.2, sl 0 x8] ?_
 refine pc h (fun h => ?_) (fun h => ?_)
 refine rv 3 84 [(6, rf 1 0 4 x8), (7, I x5), (66, rf 1 0 4 x8), (67, I v26.1), (68, .ptr 0 0 0)] [sc 0 v28.2, sl 0 x8] ?_
 obtain ⟨v36, hv37, h⟩ := bindS h
 refine cB 69 0 0 (ok_spec_l20Rd_pick hv37) ?_
 refine v 1 84 [(6, rf 1 0 4 x8), (7, I x5), (66, rf 1 0 4 x8), (67, I v26.1), (70, I (w64 (v36.1 - 1)))] [sc 0 v36.2, sl 0 x8] ?_
 obtain ⟨v38, hv39, h⟩ := bindS h
 refine opsP_idr τ_ok 71 1 0 x8.length hv39 rfl (by kernel_rfl) ?_
 refine v 1 84 [(6, rf 1 0 4 x8), (7, I x5), (70, I (w64 (v36.1 - 1))), (72, .ptr 1 0 (v26.1.toNat * 4))] [sc 0 v36.2, sl 0 x8] ?_
 refine opsP_ste (vs := [I (w64 (v36.1 - 1))]) τ_ok 3 1 0 0 ({ v38 with fKey := (w64 (v36.1 - 1)) } : T_impl_Version) hv39 (by kernel_rfl) (by kernel_rfl) (by kernel_rfl) (renC (ren_ref (List.length_set ..).symm) (renC trivial (renC trivial (renC trivial renC0)))) ?_
 refine ve 0 84 [(6, .ref 1 0 0 4 (x8.set v26.1.toNat ({ v38 with fKey := (w64 (v36.1 - 1)) } : T_impl_Version)).length false), (7, I x5)] [sc 0 v36.2, some ⟨0, eL (x8.set v26.1.toNat ({ v38 with fKey := (w64 (v36.1 - 1)) } : T_impl_Version))⟩] ?_
 exact ⟨(v36.2, (x8.set v26.1.toNat ({ v38 with fKey := (w64 (v36.1 - 1)) } : T_impl_Version))), h, it [6, 7]⟩
 refine srve 84 [(0, .ptr 0 0 0), (6, rf 1 0 4 x8), (7, I x5), (11, I v26.1), (73, B (v28.1 == 2))] [sc 0 v28.2, sl 0 x8] ?_
 refine pc h (fun h => ?_) (fun h => ?_)
 refine rv 3 84 [(6, rf 1 0 4 x8), (7, I x5), (75, rf 1 0 4 x8), (76, I v26.1), (77, .ptr 0 0 0)] [sc 0 v28.2, sl 0 x8] ?_
 obtain ⟨v41, hv42, h⟩ := bindS h
 refine cB 78 0 0 (ok_spec_l20Rd_pick hv42) ?_
 refine v 1 84 [(6, rf 1 0 4 x8), (7, I x5), (75, rf 1 0 4 x8), (76, I v26.1), (79, I (w64 (v41.1 - 1)))] [sc 0 v41.2, sl 0 x8] ?_
 obtain ⟨v43, hv44, h⟩ := bindS h
 refine opsP_idr τ_ok 80 1 0 x8.length hv44 rfl (by kernel_rfl) ?_
 refine v 1 84 [(6, rf 1 0 4 x8), (7, I x5), (79, I (w64 (v41.1 - 1))), (81, .ptr 1 0 (v26.1.toNat * 4 + 1))] [sc 0 v41.2, sl 0 x8] ?_
 refine opsP_ste (vs := [I (w64 (v41.1 - 1))]) τ_ok 3 1 0 1 ({ v43 with fBorn := (w64 (v41.1 - 1)) } : T_impl_Version) hv44 (by kernel_rfl) (by kernel_rfl) (by kernel_rfl) (renC (ren_ref (List.length_set ..).symm) (renC trivial (renC trivial (renC trivial renC0)))) ?_
 refine ve 0 84 [(6, .ref 1 0 0 4 (x8.set v26.1.toNat ({ v43 with fBorn := (w64 (v41.1 - 1)) } : T_impl_Version)).length false), (7, I x5)] [sc 0 v41.2, some ⟨0, eL (x8.set v26.1.toNat ({ v43 with fBorn := (w64 (v41.1 - 1)) } : T_impl_Version))⟩] ?_
 exact ⟨(v41.2, (x8.set v26.1.toNat ({ v43 with fBorn := (w64 (v41.1 - 1)) } : T_impl_Version))), h, it [6, 7]⟩
 refine rv 3 84 [(7, I x5), (48, rf 1 0 4 x8), (49, rf 1 0 4 x8), (50, I v26.1)] [sc 0 v28.2, sl 0 x8] ?_
 obtain ⟨v45, hv46, h⟩ := bindS h
 refine opsP_idr τ_ok 51 1 0 x8.length hv46 rfl (by kernel_rfl) ?_
 refine opsP_lde (r := E v45) τ_ok 52 119 0 hv46 (by kernel_rfl) (by kernel_rfl) ?_
 refine v 1 84 [(7, I x5), (48, rf 1 0 4 x8), (53, .arr 4 ([v45] : List T_impl_Version).length (eL ([v45] : List T_impl_Version)) true)] [sc 0 v28.2, sl 0 x8] ?_
 obtain ⟨v47, hv48, h⟩ := bindS h
 refine opsP_app τ_ok 54 1 0 (pn hQ) hv48 (by kernel_rfl) ?_
 refine ve 1 84 [(6, rf 1 1 4 v47), (7, I x5)] [sc 0 v28.2, sl 1 v47] ?_
 exact ⟨(v28.2, v47), h, (it (st' := ⟨84, [(6, rf 1 1 4 v47), (7, I x5)], [sc 0 v28.2, sl 1 v47]⟩) [6, 7]).trans (Imp.reverS 1 1 (eL v47) [6, 7] (by kernel_rfl) (by exact (And.intro (rfl) (And.intro (eL_frz _) trivial))) (by kernel_rfl))⟩
 refine pwp_skip ?_
 exact ⟨(x24, x8), h, it [6, 7]⟩
 rintro ⟨x21, x22⟩ h
 dsimp only at h ⊢
 unfold spec_l20Versions_j2 at h
 refine srve 84 [(4, rf 1 0 4 x22), (5, I x5)] [sc 0 x21, sl 0 x22] ?_
 have h := si h
 subst h
 exact pwp_ret ⟨.inr rfl, .tup [rf 1 0 4 x22, I x5], _, 0, by kernel_rfl, (OutP.tup (OutL.cons (OutP.list (v := 0) (by kernel_rfl)) (OutL.cons (OutP.frz (by kernel_rfl)) (OutL.nil _)))), by decide, by decide, by kernel_rfl⟩
def spec_DrawChangesOf (a0 : List UInt8) : Option ((List T_impl_Version) × Int) := (spec_l20Open a0).bind fun v1 => (spec_l20Versions v1 15).bind fun v3 => (spec_l20Rd_pick v3.2 (w64 (v3.1.2 + 1))).bind fun v5 => some (v3.1.1, v5.1)
theorem ok_spec_DrawChangesOf {a0 : List UInt8} {y : (List T_impl_Version) × Int} (h : spec_DrawChangesOf a0 = some y) : OK Try.prog 36 [A a0] (.tup [A y.1, I y.2]) := by
 refine ow Try.func36 fun Γ hX => ?_
 unfold spec_DrawChangesOf at h
 refine srve 19 [(0, A a0)] [] ?_
 refine srv 1 19 [(7, A a0)] [] ?_
 obtain ⟨v1, hv2, h⟩ := bindS h
 refine opsP_callO τ 8 (ok_spec_l20Open hv2) rfl (by kernel_rfl) ?_
 refine ve 1 19 [(4, .ptr 0 0 0)] [sc 0 v1] ?_
 refine srv 1 19 [(4, .ptr 0 0 0), (10, .ptr 0 0 0)] [sc 0 v1] ?_
 obtain ⟨v3, hv4, h⟩ := bindS h
 refine opsP_callB τ 11 0 0 (ok_spec_l20Versions hv4) (FzTo.tup (FzToL.cons (FzTo.O _) (FzToL.cons (FzTo.frz rfl) FzToL.nil))) rfl (by kernel_rfl) ?_
 refine ve 5 19 [(4, .ptr 0 0 0), (5, A v3.1.1), (6, I v3.1.2)] [sc 0 v3.2] ?_
 refine srv 4 19 [(14, A v3.1.1), (15, .ptr 0 0 0), (17, I (w64 (v3.1.2 + 1)))] [sc 0 v3.2] ?_
 obtain ⟨v5, hv6, h⟩ := bindS h
 refine cB 18 0 0 (ok_spec_l20Rd_pick hv6) ?_
 refine ve 2 19 [(2, A v3.1.1), (3, I v5.1)] [sc 0 v5.2] ?_
 have h := si h
 subst h
 exact pwp_ret (rt (.tup [A v3.1.1, I v5.1]) (OutP.tup (OutL.cons (OutP.frz (by kernel_rfl)) (OutL.cons (OutP.frz (by kernel_rfl)) (OutL.nil _)))))
def laws_FnChangesOf_j2 (v4 : List T_impl_Change) (x10 : Int) (x11 : List T_impl_Delta) (K13 : Int → (List T_impl_Delta) → Option Bool) (x17 : Int) : Option Bool := (getI v4 x10).bind fun v18 => (app x11 ([(T_impl_Delta.mk v18.fRow x17)] : List T_impl_Delta)).bind fun v20 => K13 (w64 (x10 + 1)) v20
def laws_FnChangesOf_j1 (v4 : List T_impl_Change) (x10 : Int) (x11 : List T_impl_Delta) (K13 : Int → (List T_impl_Delta) → Option Bool) (x15 : Bool) : Option Bool := bif x15 then some false else (getI v4 x10).bind fun v22 => bif v22.fCome then laws_FnChangesOf_j2 v4 x10 x11 K13 1 else laws_FnChangesOf_j2 v4 x10 x11 K13 (-1)
def laws_FnChangesOf_l0 (v2 : (List T_impl_Version) × Int) (v4 : List T_impl_Change) (v6 : List T_impl_Change) : Nat → Int → (List T_impl_Delta) → Option Bool
 | 0, _, _ => none
 | f12 + 1, x10, x11 => bif (decide (x10 < (v4.length : Int))) then (getI v4 x10).bind fun v25 => (getI v6 x10).bind fun v27 => bif (!(v25.fIn == v27.fIn)) then laws_FnChangesOf_j1 v4 x10 x11 (laws_FnChangesOf_l0 v2 v4 v6 f12) true else (getI v4 x10).bind fun v29 => (getI v6 x10).bind fun v31 => bif (!(v29.fCome == v31.fCome)) then laws_FnChangesOf_j1 v4 x10 x11 (laws_FnChangesOf_l0 v2 v4 v6 f12) true else (getI v4 x10).bind fun v33 => (getI v6 x10).bind fun v35 => (laws_sameRow v33.fRow v35.fRow).bind fun v37 => laws_FnChangesOf_j1 v4 x10 x11 (laws_FnChangesOf_l0 v2 v4 v6 f12) (!v37) else (impl_VersionsOk v2.1).bind fun v41 => bif (!v41) then bif ((v4.length : Int) == 0) then (laws_alive).bind fun v44 => some v44 else some false else (impl_RowsAt v2.1 v2.2).bind fun v47 => (impl_DeltaRows v47 x11).bind fun v49 => bif v49.2 then (impl_RowsAt v2.1 (w64 (v2.2 + 1))).bind fun v51 => (impl_RowsSorted v51).bind fun v53 => (laws_sameRows v49.1 v53).bind fun v55 => bif v55 then (laws_alive).bind fun v57 => some v57 else some false else some false
def laws_FnChangesOf (a0 : List UInt8) : Option Bool := bif (decide ((a0.length : Int) > 1048576)) then some true else (spec_DrawChangesOf a0).bind fun v2 => (impl_ChangesOf v2.1 v2.2).bind fun v4 => (spec_ChangesOf v2.1 v2.2).bind fun v6 => bif (!((v4.length : Int) == (v6.length : Int))) then some false else laws_FnChangesOf_l0 v2 v4 v6 FUEL 0 ([] : List T_impl_Delta)
theorem ok_laws_FnChangesOf {a0 : List UInt8} {y : Bool} (h : laws_FnChangesOf a0 = some y) : OK Try.prog 7 [A a0] (B y) := by
 refine ow Try.func7 fun Γ hX => ?_
 unfold laws_FnChangesOf at h
 refine srve 121 [(0, A a0)] [] ?_
 refine pwp_seq ?_
 refine srve 121 [(0, A a0), (14, B (decide ((a0.length : Int) > 1048576)))] [] ?_
 refine pc h (fun h => ?_) (fun h => ?_)
 refine srve 121 [(2, B true)] [] ?_
 cases h
 exact pwp_ret rz
 refine pwp_skip ?_
 refine srv 1 121 [(16, A a0)] [] ?_
 obtain ⟨v2, hv3, h⟩ := bindS h
 refine opsP_callF τ 17 (ok_spec_DrawChangesOf hv3) (FzTo.tup (FzToL.cons (FzTo.frz rfl) (FzToL.cons (FzTo.frz rfl) FzToL.nil))) rfl (by kernel_rfl) ?_
 refine ve 5 121 [(3, A v2.1), (4, I v2.2)] [] ?_
 refine srv 2 121 [(3, A v2.1), (4, I v2.2), (20, A v2.1), (21, I v2.2)] [] ?_
 obtain ⟨v4, hv5, h⟩ := bindS h
 refine cF 22 (ok_impl_ChangesOf hv5) ?_
 refine ve 1 121 [(3, A v2.1), (4, I v2.2), (5, A v4)] [] ?_
 refine srv 2 121 [(3, A v2.1), (4, I v2.2), (5, A v4), (23, A v2.1), (24, I v2.2)] [] ?_
 obtain ⟨v6, hv7, h⟩ := bindS h
 refine cFo 25 (ok_spec_ChangesOf hv7) ?_
 refine ve 1 121 [(3, A v2.1), (4, I v2.2), (5, A v4), (6, A v6)] [] ?_
 refine pwp_seq ?_
 refine srve 121 [(3, A v2.1), (4, I v2.2), (5, A v4), (6, A v6), (30, B (!((v4.length : Int) == (v6.length : Int))))] [] ?_
 refine pc h (fun h => ?_) (fun h => ?_)
 refine srve 121 [(2, B false)] [] ?_
 cases h
 exact pwp_ret rz
 refine pwp_skip ?_
 refine srve 121 [(3, A v2.1), (4, I v2.2), (5, A v4), (6, A v6), (7, .arr 2 0 (eL ([] : List T_impl_Delta)) true)] [] ?_
 refine pwp_seq ?_
 refine srve 121 [(3, A v2.1), (4, I v2.2), (5, A v4), (6, A v6), (7, .arr 2 0 (eL ([] : List T_impl_Delta)) true), (8, I 0)] [] ?_
 refine pwp_block ?_
 refine pwp_loop (ι := Nat × Int × (List T_impl_Delta)) (fun (f12, x10, x11) => (⟨121, [(3, A v2.1), (4, I v2.2), (5, A v4), (6, A v6), (7, rf 0 0 2 x11), (8, I x10)], [sl 0 x11]⟩ : St)) (fun (f12, x10, x11) => laws_FnChangesOf_l0 v2 v4 v6 f12 x10 x11 = some y) Prod.fst (FUEL, 0, ([] : List T_impl_Delta)) h (Imp.thawS 7 [3, 4, 5, 6, 7, 8] (by kernel_rfl)) ?_
 rintro ⟨f12, x10, x11⟩ h
 dsimp only at h ⊢
 rcases f12 with _ | f12
 cases h
 rw [laws_FnChangesOf_l0] at h
 refine pwp_seq ?_
 refine srve 121 [(3, A v2.1), (4, I v2.2), (5, A v4), (6, A v6), (7, rf 0 0 2 x11), (8, I x10), (35, B (decide (x10 < (v4.length : Int))))] [sl 0 x11] ?_
 refine pc h (fun h => ?_) (fun h => ?_)
 refine pwp_skip ?_
 refine pwp_seq ?_
 refine pwp_block ?_
 refine pwp_seq ?_
 refine pwp_seq ?_
 refine pwp_join (σ := Bool) (fun x15 => (⟨121, [(3, A v2.1), (4, I v2.2), (5, A v4), (6, A v6), (7, rf 0 0 2 x11), (8, I x10), (75, B x15)], [sl 0 x11]⟩ : St)) (fun x15 => laws_FnChangesOf_j1 v4 x10 x11 (laws_FnChangesOf_l0 v2 v4 v6 f12) x15 = some y) ?_ ?_
 refine ip 121 [(3, A v2.1), (4, I v2.2), (5, A v4), (6, A v6), (7, rf 0 0 2 x11), (8, I x10)] [sl 0 x11] ?_
 refine pN 38 ?_
 refine qv [] trivial 2 121 [(39, I x10), (38, A v4), (3, A v2.1), (4, I v2.2), (5, A v4), (6, A v6), (7, rf 0 0 2 x11), (8, I x10)] [sl 0 x11] ?_
 obtain ⟨v25, hv26, h⟩ := bindS h
 refine qX (some 40) (pf v25 0) 121 [(40, pf v25 0), (3, A v2.1), (4, I v2.2), (5, A v4), (6, A v6), (7, rf 0 0 2 x11), (8, I x10)] [sl 0 x11] (fun Γ' hΓ => CoreE.of_y (idxV_sound τ_ok (by kernel_rfl) hv26)) trivial ?_
 refine qv [] trivial 4 121 [(44, I x10), (43, A v6), (42, I v25.fIn), (3, A v2.1), (4, I v2.2), (5, A v4), (6, A v6), (7, rf 0 0 2 x11), (8, I x10)] [sl 0 x11] ?_
 obtain ⟨v27, hv28, h⟩ := bindS h
 refine qX (some 45) (pf v27 0) 121 [(45, pf v27 0), (42, I v25.fIn), (3, A v2.1), (4, I v2.2), (5, A v4), (6, A v6), (7, rf 0 0 2 x11), (8, I x10)] [sl 0 x11] (fun Γ' hΓ => CoreE.of_y (idxV_sound τ_ok (by kernel_rfl) hv28)) trivial ?_
 refine qv [] trivial 4 121 [(49, B (!(v25.fIn == v27.fIn))), (3, A v2.1), (4, I v2.2), (5, A v4), (6, A v6), (7, rf 0 0 2 x11), (8, I x10)] [sl 0 x11] ?_
 rcases fk (!(v25.fIn == v27.fIn)) with hc40 | hc40
 replace h := bT hc40 h
 rw [hc40]
 refine qvn [] trivial 26 121 [(3, A v2.1), (4, I v2.2), (5, A v4), (6, A v6), (7, rf 0 0 2 x11), (8, I x10), (50, .lit undef), (51, .lit undef), (52, .lit undef), (53, .lit undef), (54, .lit undef), (55, .lit undef), (56, .lit undef), (57, .lit undef), (58, .lit undef), (59, .lit undef), (60, .lit undef), (63, .lit undef), (64, .lit undef), (65, .lit undef), (66, .lit undef), (67, .lit undef), (68, .lit undef), (69, .lit undef), (70, .lit undef), (71, .lit undef), (72, .lit undef), (73, .lit undef), (74, .lit undef), (75, B true)] [sl 0 x11] ?_
 exact ⟨true, h, it [3, 4, 5, 6, 7, 8, 75]⟩
 replace h := bF hc40 h
 rw [hc40]
 refine qv [] trivial 2 121 [(51, I x10), (50, A v4), (49, B false), (3, A v2.1), (4, I v2.2), (5, A v4), (6, A v6), (7, rf 0 0 2 x11), (8, I x10)] [sl 0 x11] ?_
 obtain ⟨v29, hv30, h⟩ := bindS h
 refine qX (some 52) (pf v29 0) 121 [(52, pf v29 0), (51, I x10), (50, A v4), (49, B false), (3, A v2.1), (4, I v2.2), (5, A v4), (6, A v6), (7, rf 0 0 2 x11), (8, I x10)] [sl 0 x11] (fun Γ' hΓ => CoreE.of_y (idxV_sound τ_ok (by kernel_rfl) hv30)) trivial ?_
 refine qv [] trivial 4 121 [(56, I x10), (55, A v6), (54, B v29.fCome), (53, pf v29 2), (52, pf v29 0), (51, I x10), (50, A v4), (49, B false), (3, A v2.1), (4, I v2.2), (5, A v4), (6, A v6), (7, rf 0 0 2 x11), (8, I x10)] [sl 0 x11] ?_
 obtain ⟨v31, hv32, h⟩ := bindS h
 refine qX (some 57) (pf v31 0) 121 [(57, pf v31 0), (56, I x10), (55, A v6), (54, B v29.fCome), (53, pf v29 2), (52, pf v29 0), (51, I x10), (50, A v4), (49, B false), (3, A v2.1), (4, I v2.2), (5, A v4), (6, A v6), (7, rf 0 0 2 x11), (8, I x10)] [sl 0 x11] (fun Γ' hΓ => CoreE.of_y (idxV_sound τ_ok (by kernel_rfl) hv32)) trivial ?_
 refine qv [] trivial 5 121 [(62, B (!(v29.fCome == v31.fCome))), (60, B (!(v29.fCome == v31.fCome))), (59, B v31.fCome), (58, pf v31 2), (57, pf v31 0), (56, I x10), (55, A v6), (54, B v29.fCome), (53, pf v29 2), (52, pf v29 0), (51, I x10), (50, A v4), (3, A v2.1), (4, I v2.2), (5, A v4), (6, A v6), (7, rf 0 0 2 x11), (8, I x10)] [sl 0 x11] ?_
 rcases fk (!(v29.fCome == v31.fCome)) with hc39 | hc39
 replace h := bT hc39 h
 rw [hc39]
 refine qvn [] trivial 13 121 [(3, A v2.1), (4, I v2.2), (5, A v4), (6, A v6), (7, rf 0 0 2 x11), (8, I x10), (50, A v4), (51, I x10), (52, pf v29 0), (53, pf v29 2), (54, B v29.fCome), (55, A v6), (56, I x10), (57, pf v31 0), (58, pf v31 2), (59, B v31.fCome), (60, B true), (63, .lit undef), (64, .lit undef), (65, .lit undef), (66, .lit undef), (67, .lit undef), (68, .lit undef), (69, .lit undef), (70, .lit undef), (71, .lit undef), (72, .lit undef), (73, .lit undef), (74, .lit undef), (75, B true)] [sl 0 x11] ?_
 exact ⟨true, h, it [3, 4, 5, 6, 7, 8, 75]⟩
 replace h := bF hc39 h
 rw [hc39]
 refine qv [] trivial 2 121 [(64, I x10), (63, A v4), (62, B false), (60, B false), (59, B v31.fCome), (58, pf v31 2), (57, pf v31 0), (56, I x10), (55, A v6), (54, B v29.fCome), (53, pf v29 2), (52, pf v29 0), (51, I x10), (50, A v4), (3, A v2.1), (4, I v2.2), (5, A v4), (6, A v6), (7, rf 0 0 2 x11), (8, I x10)] [sl 0 x11] ?_
 obtain ⟨v33, hv34, h⟩ := bindS h
 refine qX (some 65) (pf v33 0) 121 [(65, pf v33 0), (64, I x10), (63, A v4), (62, B false), (60, B false), (59, B v31.fCome), (58, pf v31 2), (57, pf v31 0), (56, I x10), (55, A v6), (54, B v29.fCome), (53, pf v29 2), (52, pf v29 0), (51, I x10), (50, A v4), (3, A v2.1), (4, I v2.2), (5, A v4), (6, A v6), (7, rf 0 0 2 x11), (8, I x10)] [sl 0 x11] (fun Γ' hΓ => CoreE.of_y (idxV_sound τ_ok (by kernel_rfl) hv34)) trivial ?_
 refine qv [] trivial 4 121 [(69, I x10), (68, A v6), (67, A v33.fRow), (66, pf v33 1), (65, pf v33 0), (64, I x10), (63, A v4), (62, B false), (60, B false), (59, B v31.fCome), (58, pf v31 2), (57, pf v31 0), (56, I x10), (55, A v6), (54, B v29.fCome), (53, pf v29 2), (52, pf v29 0), (51, I x10), (50, A v4), (3, A v2.1), (4, I v2.2), (5, A v4), (6, A v6), (7, rf 0 0 2 x11), (8, I x10)] [sl 0 x11] ?_
 obtain ⟨v35, hv36, h⟩ := bindS h
 refine qX (some 70) (pf v35 0) 121 [(70, pf v35 0), (69, I x10), (68, A v6), (67, A v33.fRow), (66, pf v33 1), (65, pf v33 0), (64, I x10), (63, A v4), (62, B false), (60, B false), (59, B v31.fCome), (58, pf v31 2), (57, pf v31 0), (56, I x10), (55, A v6), (54, B v29.fCome), (53, pf v29 2), (52, pf v29 0), (51, I x10), (50, A v4), (3, A v2.1), (4, I v2.2), (5, A v4), (6, A v6), (7, rf 0 0 2 x11), (8, I x10)] [sl 0 x11] (fun Γ' hΓ => CoreE.of_y (idxV_sound τ_ok (by kernel_rfl) hv36)) trivial ?_
 refine qv [] trivial 2 121 [(72, A v35.fRow), (71, pf v35 1), (70, pf v35 0), (69, I x10), (68, A v6), (67, A v33.fRow), (66, pf v33 1), (65, pf v33 0), (64, I x10), (63, A v4), (62, B false), (60, B false), (59, B v31.fCome), (58, pf v31 2), (57, pf v31 0), (56, I x10), (55, A v6), (54, B v29.fCome), (53, pf v29 2), (52, pf v29 0), (51, I x10), (50, A v4), (3, A v2.1), (4, I v2.2), (5, A v4), (6, A v6), (7, rf 0 0 2 x11), (8, I x10)] [sl 0 x11] ?_
 obtain ⟨v37, hv38, h⟩ := bindS h
 refine qX (some 73) (B v37) 121 [(73, B v37), (72, A v35.fRow), (71, pf v35 1), (70, pf v35 0), (69, I x10), (68, A v6), (67, A v33.fRow), (66, pf v33 1), (65, pf v33 0), (64, I x10), (63, A v4), (62, B false), (60, B false), (59, B v31.fCome), (58, pf v31 2), (57, pf v31 0), (56, I x10), (55, A v6), (54, B v29.fCome), (53, pf v29 2), (52, pf v29 0), (51, I x10), (50, A v4), (3, A v2.1), (4, I v2.2), (5, A v4), (6, A v6), (7, rf 0 0 2 x11), (8, I x10)] [sl 0 x11] (fun Γ' hΓ => CoreE.of_g (callV_sound (τ := τ) (by kernel_rfl) rfl (ok_laws_sameRow hv38) (FzTo.frz rfl))) trivial ?_
 refine qvn [] trivial 2 121 [(3, A v2.1), (4, I v2.2), (5, A v4), (6, A v6), (7, rf 0 0 2 x11), (8, I x10), (50, A v4), (51, I x10), (52, pf v29 0), (53, pf v29 2), (54, B v29.fCome), (55, A v6), (56, I x10), (57, pf v31 0), (58, pf v31 2), (59, B v31.fCome), (60, B false), (63, A v4), (64, I x10), (65, pf v33 0), (66, pf v33 1), (67, A v33.fRow), (68, A v6), (69, I x10), (70, pf v35 0), (71, pf v35 1), (72, A v35.fRow), (73, B v37), (74, B (!v37)), (75, B (!v37))] [sl 0 x11] ?_
 exact ⟨(!v37), h, it [3, 4, 5, 6, 7, 8, 75]⟩
 rintro x15 h
 unfold laws_FnChangesOf_j1 at h
 refine pc h (fun h => ?_) (fun h => ?_)
 refine srve 121 [(2, B false)] [sl 0 x11] ?_
 cases h
 exact pwp_ret rz
 refine pwp_skip ?_
 refine srve 121 [(3, A v2.1), (4, I v2.2), (5, A v4), (6, A v6), (7, rf 0 0 2 x11), (8, I x10), (9, I (-1))] [sl 0 x11] ?_
 refine pwp_seq ?_
 refine pwp_join (σ := Int) (fun x17 => (⟨121, [(3, A v2.1), (4, I v2.2), (5, A v4), (6, A v6), (7, rf 0 0 2 x11), (8, I x10), (9, I x17)], [sl 0 x11]⟩ : St)) (fun x17 => laws_FnChangesOf_j2 v4 x10 x11 (laws_FnChangesOf_l0 v2 v4 v6 f12) x17 = some y) ?_ ?_
 refine srv 2 121 [(3, A v2.1), (4, I v2.2), (5, A v4), (6, A v6), (7, rf 0 0 2 x11), (8, I x10), (9, I (-1)), (76, A v4), (77, I x10)] [sl 0 x11] ?_
 obtain ⟨v22, hv23, h⟩ := bindS h
 refine opsP_idx τ_ok 78 hv23 (by kernel_rfl) ?_
 refine ve 2 121 [(3, A v2.1), (4, I v2.2), (5, A v4), (6, A v6), (7, rf 0 0 2 x11), (8, I x10), (9, I (-1)), (80, B v22.fCome)] [sl 0 x11] ?_
 refine pc h (fun h => ?_) (fun h => ?_)
 refine rve 121 [(3, A v2.1), (4, I v2.2), (5, A v4), (6, A v6), (7, rf 0 0 2 x11), (8, I x10), (9, I 1)] [sl 0 x11] ?_
 exact ⟨1, h, it [3, 4, 5, 6, 7, 8, 9]⟩
 refine pwp_skip ?_
 exact ⟨-1, h, it [3, 4, 5, 6, 7, 8, 9]⟩
 rintro x17 h
 unfold laws_FnChangesOf_j2 at h
 refine rv 3 121 [(3, A v2.1), (4, I v2.2), (5, A v4), (6, A v6), (8, I x10), (9, I x17), (81, rf 0 0 2 x11), (82, A v4), (83, I x10)] [sl 0 x11] ?_
 obtain ⟨v18, hv19, h⟩ := bindS h
 refine opsP_idx τ_ok 84 hv19 (by kernel_rfl) ?_
 refine v 5 121 [(3, A v2.1), (4, I v2.2), (5, A v4), (6, A v6), (8, I x10), (81, rf 0 0 2 x11), (89, .arr 2 ([(T_impl_Delta.mk v18.fRow x17)] : List T_impl_Delta).length (eL ([(T_impl_Delta.mk v18.fRow x17)] : List T_impl_Delta)) true)] [sl 0 x11] ?_
 obtain ⟨v20, hv21, h⟩ := bindS h
 refine opsP_app τ_ok 90 0 0 (nx hX) hv21 (by kernel_rfl) ?_
 refine ve 1 121 [(3, A v2.1), (4, I v2.2), (5, A v4), (6, A v6), (7, rf 0 1 2 v20), (8, I x10)] [sl 1 v20] ?_
 refine rve 121 [(3, A v2.1), (4, I v2.2), (5, A v4), (6, A v6), (7, rf 0 1 2 v20), (8, I (w64 (x10 + 1)))] [sl 1 v20] ?_
 exact ⟨(f12, (w64 (x10 + 1)), v20), h, Nat.lt_succ_self _, (it (st' := ⟨121, [(3, A v2.1), (4, I v2.2), (5, A v4), (6, A v6), (7, rf 0 1 2 v20), (8, I (w64 (x10 + 1)))], [sl 1 v20]⟩) [3, 4, 5, 6, 7, 8]).trans (Imp.reverS 0 1 (eL v20) [3, 4, 5, 6, 7, 8] (by kernel_rfl) (by exact (And.intro (eL_frz _) trivial)) (by kernel_rfl))⟩
 refine pwp_exit ?_
 refine pwp_seq ?_
 refine srv 1 121 [(3, A v2.1), (4, I v2.2), (5, A v4), (7, rf 0 0 2 x11), (91, A v2.1)] [sl 0 x11] ?_
 obtain ⟨v41, hv42, h⟩ := bindS h
 refine cF 92 (ok_impl_VersionsOk hv42) ?_
 refine ve 1 121 [(3, A v2.1), (4, I v2.2), (5, A v4), (7, rf 0 0 2 x11), (93, B (!v41))] [sl 0 x11] ?_
 refine pc h (fun h => ?_) (fun h => ?_)
 refine srv 4 121 [(97, B ((v4.length : Int) == 0))] [sl 0 x11] ?_
 rcases fk ((v4.length : Int) == 0) with hc46 | hc46
 replace h := bT hc46 h
 rw [hc46]
 obtain ⟨v44, hv45, h⟩ := bindS h
 refine cF 98 (ok_laws_alive hv45) ?_
 refine ve 2 121 [(2, B v44)] [sl 0 x11] ?_
 cases h
 exact pwp_ret rz
 replace h := bF hc46 h
 rw [hc46]
 refine ve 3 121 [(2, B false)] [sl 0 x11] ?_
 cases h
 exact pwp_ret rz
 refine pwp_skip ?_
 refine srv 2 121 [(3, A v2.1), (4, I v2.2), (7, rf 0 0 2 x11), (101, A v2.1), (102, I v2.2)] [sl 0 x11] ?_
 obtain ⟨v47, hv48, h⟩ := bindS h
 refine cF 103 (ok_impl_RowsAt hv48) ?_
 refine v 1 121 [(3, A v2.1), (4, I v2.2), (103, A v47), (104, rf 0 0 2 x11)] [sl 0 x11] ?_
 refine opsP_imp (Imp.freezeB (v := 0) (cs := eL x11) (st' := ⟨121, [(3, A v2.1), (4, I v2.2), (103, A v47), (104, A x11)], [none]⟩) 0 0 (nx hX) (by kernel_rfl) (eL_frz _) (wholeC (whole_noRef (by kernel_rfl)) (wholeC (whole_noRef (by kernel_rfl)) (wholeC (whole_noRef (by kernel_rfl)) (wholeC (whole_is (eL_len x11).symm) wholeC0)))) (HpRel.key HpRel.nil) (by kernel_rfl) rfl (nx hX)) ?_
 obtain ⟨v49, hv50, h⟩ := bindS h
 refine opsP_callF τ 105 (ok_impl_DeltaRows hv50) (FzTo.tup (FzToL.cons (FzTo.frz rfl) (FzToL.cons (FzTo.frz rfl) FzToL.nil))) rfl (by kernel_rfl) ?_
 refine ve 5 121 [(3, A v2.1), (4, I v2.2), (10, A v49.1), (11, B v49.2)] [none] ?_
 refine srv 2 121 [(3, A v2.1), (4, I v2.2), (10, A v49.1), (109, B v49.2)] [none] ?_
 rcases Bool.eq_false_or_eq_true v49.2 with hc60 | hc60
 replace h := bT hc60 h
 rw [hc60]
 refine v 4 121 [(109, B true), (110, A v49.1), (111, A v2.1), (113, I (w64 (v2.2 + 1)))] [none] ?_
 obtain ⟨v51, hv52, h⟩ := bindS h
 refine cF 114 (ok_impl_RowsAt hv52) ?_
 obtain ⟨v53, hv54, h⟩ := bindS h
 refine cF 115 (ok_impl_RowsSorted hv54) ?_
 obtain ⟨v55, hv56, h⟩ := bindS h
 refine cF 116 (ok_laws_sameRows hv56) ?_
 refine v 2 121 [(118, B v55)] [none] ?_
 rcases Bool.eq_false_or_eq_true v55 with hc59 | hc59
 replace h := bT hc59 h
 rw [hc59]
 obtain ⟨v57, hv58, h⟩ := bindS h
 refine cF 119 (ok_laws_alive hv58) ?_
 refine ve 2 121 [(2, B v57)] [none] ?_
 cases h
 exact pwp_ret rz
 replace h := bF hc59 h
 rw [hc59]
 refine ve 3 121 [(2, B false)] [none] ?_
 cases h
 exact pwp_ret rz
 replace h := bF hc60 h
 rw [hc60]
 refine ve 12 121 [(2, B false)] [none] ?_
 cases h
 exact pwp_ret rz
end Go.D
