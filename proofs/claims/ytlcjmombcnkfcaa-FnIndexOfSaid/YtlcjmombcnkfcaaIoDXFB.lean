import Derived.Test.YtlcjmombcnkfcaaIoDXFA
import Derived.KernelRfl
set_option linter.unusedVariables false
set_option linter.unusedSimpArgs false
namespace Go.D
open Go.Proofs
theorem ok_spec_WrittenAt_R_L0 {a0 : List T_impl_Version} {a1 : List T_impl_Write} {a2 : Int} {y : (List T_impl_Version) × Bool} (h : spec_WrittenAt_R_L0 a0 a1 a2 = some y) : OKs Try.prog 86 [] 4 a0.length (eL a0) [A a1, I a2] (.tup [O y.1, B y.2]) (eL a0) := by
 refine OKs_of_pwp τ_ok Try.func86 rfl (by kernel_rfl) rfl (eL_frz _) (eL_frz _) rfl fun Γ hQ => ?_
 refine pwp_imp (Imp.to (st' := ⟨55, [(0, rf 0 0 4 a0), (1, A a1), (2, I a2)], [sl 0 a0]⟩) [0, 1, 2] (by kernel_rfl)) ?_
 unfold spec_WrittenAt_R_L0 at h
 refine srve 55 [(0, rf 0 0 4 a0), (1, A a1), (2, I a2)] [sl 0 a0] ?_
 refine pwp_seq ?_
 refine pwp_seq ?_
 refine pwp_join (σ := Bool) (fun x1 => (⟨55, [(0, rf 0 0 4 a0), (1, A a1), (2, I a2), (23, B x1)], [sl 0 a0]⟩ : St)) (fun x1 => spec_WrittenAt_R_L0_j0 a0 a1 a2 x1 = some y) ?_ ?_
 refine rv 1 55 [(0, rf 0 0 4 a0), (1, A a1), (2, I a2), (11, rf 0 0 4 a0)] [sl 0 a0] ?_
 obtain ⟨v25, hv26, h⟩ := bindS h
 refine opsP_callV (xs := [rf 0 0 4 a0]) τ 12 (ok_spec_VersionsOk hv26) (Blind.lit _) (FzTo.frz rfl) (by kernel_rfl) (ViewL.cons (View.whole (v := 0) a0 (by kernel_rfl) rfl) (ViewL.nil _)) ?_
 refine v 2 55 [(0, rf 0 0 4 a0), (1, A a1), (2, I a2), (14, B (!v25))] [sl 0 a0] ?_
 rcases fk (!v25) with hc32 | hc32
 replace h := bT hc32 h
 rw [hc32]
 refine ve 9 55 [(0, rf 0 0 4 a0), (1, A a1), (2, I a2), (23, B true)] [sl 0 a0] ?_
 exact ⟨true, h, it [0, 1, 2, 23]⟩
 replace h := bF hc32 h
 rw [hc32]
 refine v 1 55 [(0, rf 0 0 4 a0), (1, A a1), (2, I a2), (14, B false), (15, A a1)] [sl 0 a0] ?_
 obtain ⟨v27, hv28, h⟩ := bindS h
 refine cF 16 (ok_spec_WritesOk hv28) ?_
 refine v 3 55 [(0, rf 0 0 4 a0), (1, A a1), (2, I a2), (19, B (!v27))] [sl 0 a0] ?_
 rcases fk (!v27) with hc31 | hc31
 replace h := bT hc31 h
 rw [hc31]
 refine ve 4 55 [(0, rf 0 0 4 a0), (1, A a1), (2, I a2), (23, B true)] [sl 0 a0] ?_
 exact ⟨true, h, it [0, 1, 2, 23]⟩
 replace h := bF hc31 h
 rw [hc31]
 refine v 1 55 [(0, rf 0 0 4 a0), (1, A a1), (2, I a2), (19, B false), (20, I a2)] [sl 0 a0] ?_
 obtain ⟨v29, hv30, h⟩ := bindS h
 refine cF 21 (ok_spec_l1In hv30) ?_
 refine ve 2 55 [(0, rf 0 0 4 a0), (1, A a1), (2, I a2), (23, B (!v29))] [sl 0 a0] ?_
 exact ⟨(!v29), h, it [0, 1, 2, 23]⟩
 rintro x1 h
 unfold spec_WrittenAt_R_L0_j0 at h
 refine pc h (fun h => ?_) (fun h => ?_)
 refine srve 55 [(6, .arr 4 0 (eL ([] : List T_impl_Version)) true), (7, B false)] [sl 0 a0] ?_
 refine ip 55 [(6, .arr 4 0 (eL ([] : List T_impl_Version)) true), (7, B false)] [sl 0 a0] ?_
 refine pwp_imp (Imp.thawS (st' := ⟨55, [(6, .ref 1 0 0 4 ([] : List T_impl_Version).length false), (7, B false)], [sl 0 a0, some ⟨0, eL ([] : List T_impl_Version)⟩]⟩) 6 [6, 7] (by kernel_rfl)) ?_
 have h := si h
 subst h
 exact pwp_ret ⟨.inr rfl, .tup [.ref 1 0 0 4 ([] : List T_impl_Version).length false, B false], _, 0, by kernel_rfl, (OutP.tup (OutL.cons (OutP.list (v := 0) (by kernel_rfl)) (OutL.cons (OutP.frz (by kernel_rfl)) (OutL.nil _)))), by decide, by decide, by kernel_rfl⟩
 refine pwp_skip ?_
 refine pwp_seq ?_
 refine srve 55 [(0, rf 0 0 4 a0), (1, A a1), (2, I a2), (8, I 0)] [sl 0 a0] ?_
 refine pwp_block ?_
 refine pwp_loop (ι := Nat × Int) (fun (f5, x4) => (⟨55, [(0, rf 0 0 4 a0), (1, A a1), (2, I a2), (8, I x4)], [sl 0 a0]⟩ : St)) (fun (f5, x4) => spec_WrittenAt_R_L0_l1 a0 a1 a2 f5 x4 = some y) Prod.fst (FUEL, 0) h (it [0, 1, 2, 8]) ?_
 rintro ⟨f5, x4⟩ h
 dsimp only at h ⊢
 rcases f5 with _ | f5
 cases h
 rw [spec_WrittenAt_R_L0_l1] at h
 refine pwp_seq ?_
 refine srve 55 [(0, rf 0 0 4 a0), (1, A a1), (2, I a2), (8, I x4), (26, B (decide (x4 < 5)))] [sl 0 a0] ?_
 refine pc h (fun h => ?_) (fun h => ?_)
 refine pwp_skip ?_
 refine pwp_seq ?_
 refine pwp_block ?_
 refine srv 2 55 [(0, rf 0 0 4 a0), (1, A a1), (2, I a2), (8, I x4), (29, rf 0 0 4 a0), (30, I x4)] [sl 0 a0] ?_
 obtain ⟨v8, hv9, h⟩ := bindS h
 refine opsP_callV (xs := [rf 0 0 4 a0, I x4]) τ 31 (ok_spec_LastTurn hv9) (Blind.lit _) (FzTo.frz rfl) (by kernel_rfl) (ViewL.cons (View.whole (v := 0) a0 (by kernel_rfl) rfl) (ViewL.cons (View.frz rfl) (ViewL.nil _))) ?_
 refine ve 2 55 [(0, rf 0 0 4 a0), (1, A a1), (2, I a2), (8, I x4), (33, B (decide (v8 ≥ a2)))] [sl 0 a0] ?_
 refine pc h (fun h => ?_) (fun h => ?_)
 refine srve 55 [(6, .arr 4 0 (eL ([] : List T_impl_Version)) true), (7, B false)] [sl 0 a0] ?_
 refine ip 55 [(6, .arr 4 0 (eL ([] : List T_impl_Version)) true), (7, B false)] [sl 0 a0] ?_
 refine pwp_imp (Imp.thawS (st' := ⟨55, [(6, .ref 1 0 0 4 ([] : List T_impl_Version).length false), (7, B false)], [sl 0 a0, some ⟨0, eL ([] : List T_impl_Version)⟩]⟩) 6 [6, 7] (by kernel_rfl)) ?_
 have h := si h
 subst h
 exact pwp_ret ⟨.inr rfl, .tup [.ref 1 0 0 4 ([] : List T_impl_Version).length false, B false], _, 0, by kernel_rfl, (OutP.tup (OutL.cons (OutP.list (v := 0) (by kernel_rfl)) (OutL.cons (OutP.frz (by kernel_rfl)) (OutL.nil _)))), by decide, by decide, by kernel_rfl⟩
 refine pwp_skip ?_
 refine rve 55 [(0, rf 0 0 4 a0), (1, A a1), (2, I a2), (8, I (w64 (x4 + 1)))] [sl 0 a0] ?_
 exact ⟨(f5, (w64 (x4 + 1))), h, Nat.lt_succ_self _, it [0, 1, 2, 8]⟩
 refine pwp_exit ?_
 refine srv 1 55 [(1, A a1), (2, I a2), (35, rf 0 0 4 a0)] [sl 0 a0] ?_
 obtain ⟨v11, hv12, h⟩ := bindS h
 refine opsP_E (dd := some 36) (x := rf 1 0 4 v11) (callST_E (bs := [⟨0, eL v11⟩]) τ 36 0 0 (ok_spec_l13Copy_R_L0 hv12) rfl rfl (by kernel_rfl) (by kernel_rfl)) ?_
 refine ve 1 55 [(1, A a1), (2, I a2), (9, rf 1 0 4 v11)] [sl 0 a0, sl 0 v11] ?_
 refine pwp_seq ?_
 refine srve 55 [(1, A a1), (2, I a2), (9, rf 1 0 4 v11), (10, I 0)] [sl 0 a0, sl 0 v11] ?_
 refine pwp_block ?_
 refine pwp_loop (ι := Nat × Int × (List T_impl_Version)) (fun (f17, x15, x16) => (⟨55, [(1, A a1), (2, I a2), (9, rf 1 0 4 x16), (10, I x15)], [sl 0 a0, sl 0 x16]⟩ : St)) (fun (f17, x15, x16) => spec_WrittenAt_R_L0_l2 a1 a2 f17 x15 x16 = some y) Prod.fst (FUEL, 0, v11) h (it [1, 2, 9, 10]) ?_
 rintro ⟨f17, x15, x16⟩ h
 dsimp only at h ⊢
 rcases f17 with _ | f17
 cases h
 rw [spec_WrittenAt_R_L0_l2] at h
 refine pwp_seq ?_
 refine srve 55 [(1, A a1), (2, I a2), (9, rf 1 0 4 x16), (10, I x15), (40, B (decide (x15 < (a1.length : Int))))] [sl 0 a0, sl 0 x16] ?_
 refine pc h (fun h => ?_) (fun h => ?_)
 refine pwp_skip ?_
 refine pwp_seq ?_
 refine pwp_block ?_
 refine rv 3 55 [(1, A a1), (2, I a2), (10, I x15), (43, rf 1 0 4 x16), (44, A a1), (45, I x15)] [sl 0 a0, sl 0 x16] ?_
 obtain ⟨v20, hv21, h⟩ := bindS h
 refine opsP_idx τ_ok 46 hv21 (by kernel_rfl) ?_
 refine v 2 55 [(1, A a1), (2, I a2), (10, I x15), (43, rf 1 0 4 x16), (47, E v20), (48, I a2)] [sl 0 a0, sl 0 x16] ?_
 obtain ⟨v22, hv23, h⟩ := bindS h
 refine opsP_E (dd := some 49) (x := rf 2 0 4 v22) (callST_E (bs := [⟨0, eL v22⟩]) τ 49 1 0 (ok_spec_l13Written_R_L0 hv23) rfl rfl (by kernel_rfl) (by kernel_rfl)) ?_
 refine ve 1 55 [(1, A a1), (2, I a2), (9, rf 2 0 4 v22), (10, I x15)] [sl 0 a0, sl 0 x16, sl 0 v22] ?_
 refine rve 55 [(1, A a1), (2, I a2), (9, rf 2 0 4 v22), (10, I (w64 (x15 + 1)))] [sl 0 a0, sl 0 x16, sl 0 v22] ?_
 exact ⟨(f17, (w64 (x15 + 1)), v22), h, Nat.lt_succ_self _, qt (it (st' := ⟨55, [(1, A a1), (2, I a2), (9, rf 2 0 4 v22), (10, I (w64 (x15 + 1)))], [sl 0 a0, sl 0 x16, sl 0 v22]⟩) [1, 2, 9, 10]) (qt (Imp.hideS (st' := ⟨55, [(1, A a1), (2, I a2), (9, rf 2 0 4 v22), (10, I (w64 (x15 + 1)))], [sl 0 a0, none, sl 0 v22]⟩) 1 (pn hQ) (by kernel_rfl)) (qt (Imp.mvS (st' := ⟨55, [(1, A a1), (2, I a2), (9, rf 1 0 4 v22), (10, I (w64 (x15 + 1)))], [sl 0 a0, sl 0 v22, none]⟩) 2 1 [1, 2, 9, 10] (pn2 hQ) (v := 0) (cs := eL v22) (by kernel_rfl) (by kernel_rfl) (by exact (And.intro (eL_frz _) (And.intro (eL_frz _) trivial))) (by kernel_rfl) (by kernel_rfl)) (Imp.truncS 2 (pl hQ) (by kernel_rfl) (allBelow_mem (by exact (And.intro rfl (And.intro rfl (And.intro rfl (And.intro rfl trivial)))))) (by exact (And.intro (frz_below (eL_frz _)) (And.intro (frz_below (eL_frz _)) trivial))) (by kernel_rfl))))⟩
 refine pwp_exit ?_
 refine pwp_seq ?_
 refine srve 55 [(9, rf 1 0 4 x16), (52, B (decide ((x16.length : Int) > 60)))] [sl 0 a0, sl 0 x16] ?_
 refine pc h (fun h => ?_) (fun h => ?_)
 refine srve 55 [(6, .arr 4 0 (eL ([] : List T_impl_Version)) true), (7, B false)] [sl 0 a0, sl 0 x16] ?_
 refine ip 55 [(6, .arr 4 0 (eL ([] : List T_impl_Version)) true), (7, B false)] [sl 0 a0, sl 0 x16] ?_
 refine pwp_imp (Imp.thawS (st' := ⟨55, [(6, .ref 2 0 0 4 ([] : List T_impl_Version).length false), (7, B false)], [sl 0 a0, sl 0 x16, some ⟨0, eL ([] : List T_impl_Version)⟩]⟩) 6 [6, 7] (by kernel_rfl)) ?_
 have h := si h
 subst h
 exact pwp_ret ⟨.inr rfl, .tup [.ref 2 0 0 4 ([] : List T_impl_Version).length false, B false], _, 0, by kernel_rfl, (OutP.tup (OutL.cons (OutP.list (v := 0) (by kernel_rfl)) (OutL.cons (OutP.frz (by kernel_rfl)) (OutL.nil _)))), by decide, by decide, by kernel_rfl⟩
 refine pwp_skip ?_
 refine srve 55 [(6, rf 1 0 4 x16), (7, B true)] [sl 0 a0, sl 0 x16] ?_
 have h := si h
 subst h
 exact pwp_ret ⟨.inr rfl, .tup [rf 1 0 4 x16, B true], _, 0, by kernel_rfl, (OutP.tup (OutL.cons (OutP.list (v := 0) (by kernel_rfl)) (OutL.cons (OutP.frz (by kernel_rfl)) (OutL.nil _)))), by decide, by decide, by kernel_rfl⟩
def spec_l20Versions_j1 (x5 : Int) (x6 : Int) (K10 : Int → Int → T_spec_l20Rd → (List T_impl_Version) → Option (((List T_impl_Version) × Int) × T_spec_l20Rd)) (x12 : T_spec_l20Rd) (x13 : List T_impl_Version) : Option (((List T_impl_Version) × Int) × T_spec_l20Rd) := (spec_l20Rd_pick x12 2).bind fun v14 => K10 (w64 ((w64 (x5 + 1)) + v14.1)) (w64 (x6 - 1)) v14.2 x13
def spec_l20Versions_j2 (x5 : Int) (x21 : T_spec_l20Rd) (x22 : List T_impl_Version) : Option (((List T_impl_Version) × Int) × T_spec_l20Rd) := some ((x22, x5), x21)
def spec_l20Versions_j3 (x5 : Int) (x8 : List T_impl_Version) (x23 : Bool) (x24 : T_spec_l20Rd) : Option (((List T_impl_Version) × Int) × T_spec_l20Rd) := bif x23 then (spec_l20Rd_pick x24 (x8.length : Int)).bind fun v26 => (spec_l20Rd_pick v26.2 4).bind fun v28 => bif (v28.1 == 0) then (spec_l20Rd_pick v28.2 9).bind fun v31 => (getI x8 v26.1).bind fun v33 => spec_l20Versions_j2 x5 v31.2 (x8.set v26.1.toNat ({ v33 with fDied := (w64 (v31.1 - 1)) } : T_impl_Version)) else bif (v28.1 == 1) then (spec_l20Rd_pick v28.2 8).bind fun v36 => (getI x8 v26.1).bind fun v38 => spec_l20Versions_j2 x5 v36.2 (x8.set v26.1.toNat ({ v38 with fKey := (w64 (v36.1 - 1)) } : T_impl_Version)) else bif (v28.1 == 2) then (spec_l20Rd_pick v28.2 50).bind fun v41 => (getI x8 v26.1).bind fun v43 => spec_l20Versions_j2 x5 v41.2 (x8.set v26.1.toNat ({ v43 with fBorn := (w64 (v41.1 - 1)) } : T_impl_Version)) else (getI x8 v26.1).bind fun v45 => (app x8 ([v45] : List T_impl_Version)).bind fun v47 => spec_l20Versions_j2 x5 v28.2 v47 else spec_l20Versions_j2 x5 x24 x8
def spec_l20Versions_l0 (a1 : Int) : Nat → Int → Int → T_spec_l20Rd → (List T_impl_Version) → Option (((List T_impl_Version) × Int) × T_spec_l20Rd)
 | 0, _, _, _, _ => none
 | f9 + 1, x5, x6, x7, x8 => bif (decide (x6 > 0)) then (spec_l20Writes x7 0).bind fun v16 => (spec_WrittenAt_R_L0 x8 v16.1 x5).bind fun v18 => bif v18.2 then spec_l20Versions_j1 x5 x6 (spec_l20Versions_l0 a1 f9) v16.2 v18.1 else spec_l20Versions_j1 x5 x6 (spec_l20Versions_l0 a1 f9) v16.2 x8 else bif (decide ((x8.length : Int) > 0)) then (spec_l20Rd_odd x7 a1).bind fun v49 => spec_l20Versions_j3 x5 x8 v49.1 v49.2 else spec_l20Versions_j3 x5 x8 false x7
def spec_l20Versions (a0 : T_spec_l20Rd) (a1 : Int) : Option (((List T_impl_Version) × Int) × T_spec_l20Rd) := (spec_l20Rd_pick a0 7).bind fun v1 => spec_l20Versions_l0 a1 FUEL 1 v1.1 v1.2 ([] : List T_impl_Version)
theorem ok_spec_l20Versions {a0 : T_spec_l20Rd} {a1 : Int} {y : ((List T_impl_Version) × Int) × T_spec_l20Rd} (h : spec_l20Versions a0 a1 = some y) : OKb Try.prog 46 (Enc.cells a0) [I a1] (.tup [O y.1.1, I y.1.2]) (Enc.cells y.2) := by
 refine OKb_of_pwp τ_ok Try.func46 rfl (by kernel_rfl) rfl (Enc.frz _) (Enc.frz _) fun Γ hQ => ?_
 unfold spec_l20Versions at h
 refine srve 84 [(0, .ptr 0 0 0), (1, I a1)] [sc 0 a0] ?_
 refine srve 84 [(0, .ptr 0 0 0), (1, I a1), (6, .arr 4 0 (eL ([] : List T_impl_Version)) true)] [sc 0 a0] ?_
 refine srve 84 [(0, .ptr 0 0 0), (1, I a1), (6, .arr 4 0 (eL ([] : List T_impl_Version)) true), (7, I 1)] [sc 0 a0] ?_
 refine pwp_seq ?_
 refine srv 1 84 [(0, .ptr 0 0 0), (1, I a1), (6, .arr 4 0 (eL ([] : List T_impl_Version)) true), (7, I 1), (13, .ptr 0 0 0)] [sc 0 a0] ?_
 obtain ⟨v1, hv2, h⟩ := bindS h
 refine cB 14 0 0 (ok_spec_l20Rd_pick hv2) ?_
 refine ve 1 84 [(0, .ptr 0 0 0), (1, I a1), (6, .arr 4 0 (eL ([] : List T_impl_Version)) true), (7, I 1), (8, I v1.1)] [sc 0 v1.2] ?_
 refine pwp_block ?_
 refine pwp_loop (ι := Nat × Int × Int × T_spec_l20Rd × (List T_impl_Version)) (fun (f9, x5, x6, x7, x8) => (⟨84, [(0, .ptr 0 0 0), (1, I a1), (6, rf 1 0 4 x8), (7, I x5), (8, I x6)], [sc 0 x7, sl 0 x8]⟩ : St)) (fun (f9, x5, x6, x7, x8) => spec_l20Versions_l0 a1 f9 x5 x6 x7 x8 = some y) Prod.fst (FUEL, 1, v1.1, v1.2, ([] : List T_impl_Version)) h (Imp.thawS 6 [0, 1, 6, 7, 8] (by kernel_rfl)) ?_
 rintro ⟨f9, x5, x6, x7, x8⟩ h
 dsimp only at h ⊢
 rcases f9 with _ | f9
 cases h
 rw [spec_l20Versions_l0] at h
 refine pwp_seq ?_
 refine srve 84 [(0, .ptr 0 0 0), (1, I a1), (6, rf 1 0 4 x8), (7, I x5), (8, I x6), (16, B (decide (x6 > 0)))] [sc 0 x7, sl 0 x8] ?_
 refine pc h (fun h => ?_) (fun h => ?_)
 refine pwp_skip ?_
 refine pwp_seq ?_
 refine pwp_block ?_
 refine pwp_seq ?_
 refine pwp_join (σ := T_spec_l20Rd × (List T_impl_Version)) (fun (x12, x13) => (⟨84, [(0, .ptr 0 0 0), (1, I a1), (6, rf 1 0 4 x13), (7, I x5), (8, I x6)], [sc 0 x12, sl 0 x13, none]⟩ : St)) (fun (x12, x13) => spec_l20Versions_j1 x5 x6 (spec_l20Versions_l0 a1 f9) x12 x13 = some y) ?_ ?_
 refine srv 2 84 [(0, .ptr 0 0 0), (1, I a1), (6, rf 1 0 4 x8), (7, I x5), (8, I x6), (20, rf 1 0 4 x8), (21, .ptr 0 0 0)] [sc 0 x7, sl 0 x8] ?_
 obtain ⟨v16, hv17, h⟩ := bindS h
 refine cBo 22 0 0 (ok_spec_l20Writes hv17) ?_
 refine v 1 84 [(0, .ptr 0 0 0), (1, I a1), (6, rf 1 0 4 x8), (7, I x5), (8, I x6), (20, rf 1 0 4 x8), (22, A v16.1), (23, I x5)] [sc 0 v16.2, sl 0 x8] ?_
 obtain ⟨v18, hv19, h⟩ := bindS h
 refine opsP_E (dd := some 24) (x := .tup [rf 2 0 4 v18.1, B v18.2]) (callST_E (bs := [⟨0, eL v18.1⟩]) τ 24 1 0 (ok_spec_WrittenAt_R_L0 hv19) rfl rfl (by kernel_rfl) (by kernel_rfl)) ?_
 refine ve 5 84 [(0, .ptr 0 0 0), (1, I a1), (6, rf 1 0 4 x8), (7, I x5), (8, I x6), (9, rf 2 0 4 v18.1), (10, B v18.2)] [sc 0 v16.2, sl 0 x8, sl 0 v18.1] ?_
 refine srve 84 [(0, .ptr 0 0 0), (1, I a1), (6, rf 1 0 4 x8), (7, I x5), (8, I x6), (9, rf 2 0 4 v18.1), (27, B v18.2)] [sc 0 v16.2, sl 0 x8, sl 0 v18.1] ?_
 refine pc h (fun h => ?_) (fun h => ?_)
 refine rve 84 [(0, .ptr 0 0 0), (1, I a1), (6, rf 2 0 4 v18.1), (7, I x5), (8, I x6)] [sc 0 v16.2, sl 0 x8, sl 0 v18.1] ?_
 exact ⟨(v16.2, v18.1), h, qt (it (st' := ⟨84, [(0, .ptr 0 0 0), (1, I a1), (6, rf 2 0 4 v18.1), (7, I x5), (8, I x6)], [sc 0 v16.2, sl 0 x8, sl 0 v18.1]⟩) [0, 1, 6, 7, 8]) (qt (Imp.hideS (st' := ⟨84, [(0, .ptr 0 0 0), (1, I a1), (6, rf 2 0 4 v18.1), (7, I x5), (8, I x6)], [sc 0 v16.2, none, sl 0 v18.1]⟩) 1 (pn hQ) (by kernel_rfl)) (Imp.mvS 2 1 [0, 1, 6, 7, 8] (pn2 hQ) (v := 0) (cs := eL v18.1) (by kernel_rfl) (by kernel_rfl) (by exact (And.intro (rfl) (And.intro (eL_frz _) trivial))) (by kernel_rfl) (by kernel_rfl)))⟩
 refine pwp_skip ?_
 exact ⟨(v16.2, x8), h, qt (it (st' := ⟨84, [(0, .ptr 0 0 0), (1, I a1), (6, rf 1 0 4 x8), (7, I x5), (8, I x6)], [sc 0 v16.2, sl 0 x8, sl 0 v18.1]⟩) [0, 1, 6, 7, 8]) (qt (Imp.hideS (st' := ⟨84, [(0, .ptr 0 0 0), (1, I a1), (6, rf 1 0 4 x8), (7, I x5), (8, I x6)], [sc 0 v16.2, sl 0 x8, none]⟩) 2 (pn hQ) (by kernel_rfl)) (it [0, 1, 6, 7, 8]))⟩
 rintro ⟨x12, x13⟩ h
 dsimp only at h ⊢
 unfold spec_l20Versions_j1 at h
 refine rv 3 84 [(0, .ptr 0 0 0), (1, I a1), (6, rf 1 0 4 x13), (8, I x6), (30, I (w64 (x5 + 1))), (31, .ptr 0 0 0)] [sc 0 x12, sl 0 x13, none] ?_
 obtain ⟨v14, hv15, h⟩ := bindS h
 refine cB 32 0 0 (ok_spec_l20Rd_pick hv15) ?_
 refine ve 2 84 [(0, .ptr 0 0 0), (1, I a1), (6, rf 1 0 4 x13), (7, I (w64 ((w64 (x5 + 1)) + v14.1))), (8, I x6)] [sc 0 v14.2, sl 0 x13, none] ?_
 refine rve 84 [(0, .ptr 0 0 0), (1, I a1), (6, rf 1 0 4 x13), (7, I (w64 ((w64 (x5 + 1)) + v14.1))), (8, I (w64 (x6 - 1)))] [sc 0 v14.2, sl 0 x13, none] ?_
 exact ⟨(f9, (w64 ((w64 (x5 + 1)) + v14.1)), (w64 (x6 - 1)), v14.2, x13), h, Nat.lt_succ_self _, (it (st' := ⟨84, [(0, .ptr 0 0 0), (1, I a1), (6, rf 1 0 4 x13), (7, I (w64 ((w64 (x5 + 1)) + v14.1))), (8, I (w64 (x6 - 1)))], [sc 0 v14.2, sl 0 x13, none]⟩) [0, 1, 6, 7, 8]).trans (Imp.truncS 2 (pl hQ) (by kernel_rfl) (allBelow_mem (by exact (And.intro rfl (And.intro rfl (And.intro rfl (And.intro rfl (And.intro rfl trivial))))))) (by exact (And.intro (rfl) (And.intro (frz_below (eL_frz _)) trivial))) (by kernel_rfl))⟩
 refine pwp_exit ?_
 refine pwp_seq ?_
 refine pwp_join (σ := T_spec_l20Rd × (List T_impl_Version)) (fun (x21, x22) => (⟨84, [(6, rf 1 0 4 x22), (7, I x5)], [sc 0 x21, sl 0 x22]⟩ : St)) (fun (x21, x22) => spec_l20Versions_j2 x5 x21 x22 = some y) ?_ ?_
 refine pwp_seq ?_
 refine pwp_join (σ := Bool × T_spec_l20Rd) (fun (x23, x24) => (⟨84, [(0, .ptr 0 0 0), (6, rf 1 0 4 x8), (7, I x5), (41, B x23)], [sc 0 x24, sl 0 x8]⟩ : St)) (fun (x23, x24) => spec_l20Versions_j3 x5 x8 x23 x24 = some y) ?_ ?_
 refine rv 4 84 [(0, .ptr 0 0 0), (1, I a1), (6, rf 1 0 4 x8), (7, I x5), (37, B (decide ((x8.length : Int) > 0)))] [sc 0 x7, sl 0 x8] ?_
 rcases fk (decide ((x8.length : Int) > 0)) with hc51 | hc51
 replace h := bT hc51 h
 rw [hc51]
 refine v 2 84 [(0, .ptr 0 0 0), (6, rf 1 0 4 x8), (7, I x5), (37, B true), (38, .ptr 0 0 0), (39, I a1)] [sc 0 x7, sl 0 x8] ?_
 obtain ⟨v49, hv50, h⟩ := bindS h
 refine cB 40 0 0 (ok_spec_l20Rd_odd hv50) ?_
 refine ve 1 84 [(0, .ptr 0 0 0), (6, rf 1 0 4 x8), (7, I x5), (41, B v49.1)] [sc 0 v49.2, sl 0 x8] ?_
 exact ⟨(v49.1, v49.2), h, it [0, 6, 7, 41]⟩
 replace h := bF hc51 h
 rw [hc51]
 refine ve 4 84 [(0, .ptr 0 0 0), (6, rf 1 0 4 x8), (7, I x5), (41, B false)] [sc 0 x7, sl 0 x8] ?_
 exact ⟨(false, x7), h, it [0, 6, 7, 41]⟩
 rintro ⟨x23, x24⟩ h
 dsimp only at h ⊢
 unfold spec_l20Versions_j3 at h
 refine pc h (fun h => ?_) (fun h => ?_)
 refine srv 3 84 [(0, .ptr 0 0 0), (6, rf 1 0 4 x8), (7, I x5), (42, .ptr 0 0 0), (44, I (x8.length : Int))] [sc 0 x24, sl 0 x8] ?_
 obtain ⟨v26, hv27, h⟩ := bindS h
 refine cB 45 0 0 (ok_spec_l20Rd_pick hv27) ?_
 refine ve 1 84 [(0, .ptr 0 0 0), (6, rf 1 0 4 x8), (7, I x5), (11, I v26.1)] [sc 0 v26.2, sl 0 x8] ?_
 refine srv 1 84 [(0, .ptr 0 0 0), (6, rf 1 0 4 x8), (7, I x5), (11, I v26.1), (46, .ptr 0 0 0)] [sc 0 v26.2, sl 0 x8] ?_
 obtain ⟨v28, hv29, h⟩ := bindS h
 refine cB 47 0 0 (ok_spec_l20Rd_pick hv29) ?_
 refine ve 0 84 [(0, .ptr 0 0 0), (6, rf 1 0 4 x8), (7, I x5), (11, I v26.1), (47, I v28.1)] [sc 0 v28.2, sl 0 x8] ?_
 refine pwp_block ?_
 refine srve 84 [(0, .ptr 0 0 0), (6, rf 1 0 4 x8), (7, I x5), (11, I v26.1), (47, I v28.1), (55, B (v28.1 == 0))] [sc 0 v28.2, sl 0 x8] ?_
 refine pc h (fun h => ?_) (fun h => ?_)
 refine rv 3 84 [(6, rf 1 0 4 x8), (7, I x5), (57, rf 1 0 4 x8), (58, I v26.1), (59, .ptr 0 0 0)] [sc 0 v28.2, sl 0 x8] ?_
 obtain ⟨v31, hv32, h⟩ := bindS h
 refine cB 60 0 0 (ok_spec_l20Rd_pick hv32) ?_
 refine v 1 84 [(6, rf 1 0 4 x8), (7, I x5), (57, rf 1 0 4 x8), (58, I v26.1), (61, I (w64 (v31.1 - 1)))] [sc 0 v31.2, sl 0 x8] ?_
 obtain ⟨v33, hv34, h⟩ := bindS h
 refine opsP_idr τ_ok 62 1 0 x8.length hv34 rfl (by kernel_rfl) ?_
 refine v 1 84 [(6, rf 1 0 4 x8), (7, I x5), (61, I (w64 (v31.1 - 1))), (63, .ptr 1 0 (v26.1.toNat * 4 + 2))] [sc 0 v31.2, sl 0 x8] ?_
 refine opsP_ste (vs := [I (w64 (v31.1 - 1))]) τ_ok 3 1 0 2 ({ v33 with fDied := (w64 (v31.1 - 1)) } : T_impl_Version) hv34 (by kernel_rfl) (by kernel_rfl) (by kernel_rfl) (renC (ren_ref (List.length_set ..).symm) (renC trivial (renC trivial (renC trivial renC0)))) ?_
 refine ve 0 84 [(6, .ref 1 0 0 4 (x8.set v26.1.toNat ({ v33 with fDied := (w64 (v31.1 - 1)) } : T_impl_Version)).length false), (7, I x5)] [sc 0 v31.2, some ⟨0, eL (x8.set v26.1.toNat ({ v33 with fDied := (w64 (v31.1 - 1)) } : T_impl_Version))⟩] ?_
 exact ⟨(v31.2, (x8.set v26.1.toNat ({ v33 with fDied := (w64 (v31.1 - 1)) } : T_impl_Version))), h, it [6, 7]⟩
 refine srve 84 [(0, .ptr 0 0 0), (6, rf 1 0 4 x8), (7, I x5), (11, I v26.1), (47, I v28.1), (64, B (v28.1 == 1))] [sc 0 v28.2, sl 0 x8] ?_
 refine pc h (fun h => ?_) (fun h => ?_)
 refine rv 3 84 [(6, rf 1 0 4 x8), (7, I x5), (66, rf 1 0 4 x8), (67, I v26.1), (68, .ptr 0 0 0)] [sc 0 v28.2, sl 0 x8] ?_
 obtain ⟨v36, hv37, h⟩ := bindS h
 refine cB 69 0 0 (ok_spec_l20Rd_pick hv37) ?_
 refine v 1 84 [(6, rf 1 0 4 x8), (7, I x5), (66, rf 1 0 4 x8), (67, I v26.1), (70, I (w64 (v36.1 - 1)))] [sc 0 v36.2, sl 0 x8] ?_
 obtain ⟨v38, hv39, h⟩ := bindS h
 refine opsP_idr τ_ok 71 1 0 x8.length hv39 rfl (by kernel_rfl) ?_
 refine v 1 84 [(6, rf 1 0 4 x8), (7, I x5), (70, I (w64 (v36.1 - 1))), (72, .ptr 1 0 (v26.1.toNat * 4))] [sc 0 v36.2, sl 0 x8] ?_
 refine opsP_ste (vs := [I (w64 (v36.1 - 1))]) τ_ok 3 1 0 0 ({ v38 with fKey := (w64 (v36.1 - 1)) } : T_impl_Version) hv39 (by kernel_rfl) (by kernel_rfl) (by kernel_rfl) (renC (ren_ref (List.length_set ..).symm) (renC trivial (renC trivial (renC trivial renC0)))) ?_
 refine ve 0 84 [(6, .ref 1 0 0 4 (x8.set v26.1.toNat ({ v38 with fKey := (w64 (v36.1 - 1)) } : T_impl_Version)).length false), (7, I x5)] [sc 0 v36.2, some ⟨0, eL (x8.set v26.1.toNat ({ v38 with fKey := (w64 (v36.1 - 1)) } : T_impl_Version))⟩] ?_
 exact ⟨(v36.2, (x8.set v26.1.toNat ({ v38 with fKey := (w64 (v36.1 - 1)) } : T_impl_Version))), h, it [6, 7]⟩
 refine srve 84 [(0, .ptr 0 0 0), (6, rf 1 0 4 x8), (7, I x5), (11, I v26.1), (73, B (v28.1 == 2))] [sc 0 v28.2, sl 0 x8] ?_
 refine pc h (fun h => ?_) (fun h => ?_)
 refine rv 3 84 [(6, rf 1 0 4 x8), (7, I x5), (75, rf 1 0 4 x8), (76, I v26.1), (77, .ptr 0 0 0)] [sc 0 v28.2, sl 0 x8] ?_
 obtain ⟨v41, hv42, h⟩ := bindS h
 refine cB 78 0 0 (ok_spec_l20Rd_pick hv42) ?_
 refine v 1 84 [(6, rf 1 0 4 x8), (7, I x5), (75, rf 1 0 4 x8), (76, I v26.1), (79, I (w64 (v41.1 - 1)))] [sc 0 v41.2, sl 0 x8] ?_
 obtain ⟨v43, hv44, h⟩ := bindS h
 refine opsP_idr τ_ok 80 1 0 x8.length hv44 rfl (by kernel_rfl) ?_
 refine v 1 84 [(6, rf 1 0 4 x8), (7, I x5), (79, I (w64 (v41.1 - 1))), (81, .ptr 1 0 (v26.1.toNat * 4 + 1))] [sc 0 v41.2, sl 0 x8] ?_
 refine opsP_ste (vs := [I (w64 (v41.1 - 1))]) τ_ok 3 1 0 1 ({ v43 with fBorn := (w64 (v41.1 - 1)) } : T_impl_Version) hv44 (by kernel_rfl) (by kernel_rfl) (by kernel_rfl) (renC (ren_ref (List.length_set ..).symm) (renC trivial (renC trivial (renC trivial renC0)))) ?_
 refine ve 0 84 [(6, .ref 1 0 0 4 (x8.set v26.1.toNat ({ v43 with fBorn := (w64 (v41.1 - 1)) } : T_impl_Version)).length false), (7, I x5)] [sc 0 v41.2, some ⟨0, eL (x8.set v26.1.toNat ({ v43 with fBorn := (w64 (v41.1 - 1)) } : T_impl_Version))⟩] ?_
 exact ⟨(v41.2, (x8.set v26.1.toNat ({ v43 with fBorn := (w64 (v41.1 - 1)) } : T_impl_Version))), h, it [6, 7]⟩
 refine rv 3 84 [(7, I x5), (48, rf 1 0 4 x8), (49, rf 1 0 4 x8), (50, I v26.1)] [sc 0 v28.2, sl 0 x8] ?_
 obtain ⟨v45, hv46, h⟩ := bindS h
 refine opsP_idr τ_ok 51 1 0 x8.length hv46 rfl (by kernel_rfl) ?_
 refine opsP_lde (r := E v45) τ_ok 52 66 0 hv46 (by kernel_rfl) (by kernel_rfl) ?_
 refine v 1 84 [(7, I x5), (48, rf 1 0 4 x8), (53, .arr 4 ([v45] : List T_impl_Version).length (eL ([v45] : List T_impl_Version)) true)] [sc 0 v28.2, sl 0 x8] ?_
 obtain ⟨v47, hv48, h⟩ := bindS h
 refine opsP_app τ_ok 54 1 0 (pn hQ) hv48 (by kernel_rfl) ?_
 refine ve 1 84 [(6, rf 1 1 4 v47), (7, I x5)] [sc 0 v28.2, sl 1 v47] ?_
 exact ⟨(v28.2, v47), h, (it (st' := ⟨84, [(6, rf 1 1 4 v47), (7, I x5)], [sc 0 v28.2, sl 1 v47]⟩) [6, 7]).trans (Imp.reverS 1 1 (eL v47) [6, 7] (by kernel_rfl) (by exact (And.intro (rfl) (And.intro (eL_frz _) trivial))) (by kernel_rfl))⟩
 refine pwp_skip ?_
 exact ⟨(x24, x8), h, it [6, 7]⟩
 rintro ⟨x21, x22⟩ h
 dsimp only at h ⊢
 unfold spec_l20Versions_j2 at h
 refine srve 84 [(4, rf 1 0 4 x22), (5, I x5)] [sc 0 x21, sl 0 x22] ?_
 have h := si h
 subst h
 exact pwp_ret ⟨.inr rfl, .tup [rf 1 0 4 x22, I x5], _, 0, by kernel_rfl, (OutP.tup (OutL.cons (OutP.list (v := 0) (by kernel_rfl)) (OutL.cons (OutP.frz (by kernel_rfl)) (OutL.nil _)))), by decide, by decide, by kernel_rfl⟩
def spec_DrawIndexOf (a0 : List UInt8) : Option (List T_impl_Version) := (spec_l20Open a0).bind fun v1 => (spec_l20Versions v1 9).bind fun v3 => some v3.1.1
theorem ok_spec_DrawIndexOf {a0 : List UInt8} {y : List T_impl_Version} (h : spec_DrawIndexOf a0 = some y) : OK Try.prog 16 [A a0] (A y) := by
 refine ow Try.func16 fun Γ hX => ?_
 unfold spec_DrawIndexOf at h
 refine srve 12 [(0, A a0)] [] ?_
 refine srv 1 12 [(6, A a0)] [] ?_
 obtain ⟨v1, hv2, h⟩ := bindS h
 refine opsP_callO τ 7 (ok_spec_l20Open hv2) rfl (by kernel_rfl) ?_
 obtain ⟨v3, hv4, h⟩ := bindS h
 refine opsP_callB τ 8 0 0 (ok_spec_l20Versions hv4) (FzTo.tup (FzToL.cons (FzTo.O _) (FzToL.cons (FzTo.frz rfl) FzToL.nil))) rfl (by kernel_rfl) ?_
 refine ve 5 12 [(3, A v3.1.1)] [sc 0 v3.2] ?_
 refine srve 12 [(2, A v3.1.1)] [sc 0 v3.2] ?_
 cases h
 exact pwp_ret rz
noncomputable def laws_FnIndexOf (a0 : List UInt8) : Option Bool := bif (decide ((a0.length : Int) > 1048576)) then some true else (spec_DrawIndexOf a0).bind fun v2 => (impl_IndexOf v2).bind fun v4 => (spec_IndexOf v2).bind fun v6 => (laws_sameMarks v4 v6).bind fun v8 => bif (!v8) then some false else (impl_IndexOk v4).bind fun v11 => bif v11 then (impl_VersionsOk v2).bind fun v13 => bif (!v13) then (laws_alive).bind fun v15 => some v15 else bif ((v4.length : Int) == (v2.length : Int)) then (laws_alive).bind fun v17 => some v17 else some false else some false
theorem ok_laws_FnIndexOf {a0 : List UInt8} {y : Bool} (h : laws_FnIndexOf a0 = some y) : OK Try.prog 4 [A a0] (B y) := by
 refine ow Try.func4 fun Γ hX => ?_
 unfold laws_FnIndexOf at h
 refine srve 34 [(0, A a0)] [] ?_
 refine pwp_seq ?_
 refine srve 34 [(0, A a0), (7, B (decide ((a0.length : Int) > 1048576)))] [] ?_
 refine pc h (fun h => ?_) (fun h => ?_)
 refine srve 34 [(2, B true)] [] ?_
 cases h
 exact pwp_ret rz
 refine pwp_skip ?_
 refine srv 1 34 [(8, A a0)] [] ?_
 obtain ⟨v2, hv3, h⟩ := bindS h
 refine cF 9 (ok_spec_DrawIndexOf hv3) ?_
 refine ve 1 34 [(3, A v2)] [] ?_
 refine srv 1 34 [(3, A v2), (10, A v2)] [] ?_
 obtain ⟨v4, hv5, h⟩ := bindS h
 refine cF 11 (ok_impl_IndexOf hv5) ?_
 refine ve 1 34 [(3, A v2), (4, A v4)] [] ?_
 refine pwp_seq ?_
 refine srv 2 34 [(3, A v2), (4, A v4), (12, A v4), (13, A v2)] [] ?_
 obtain ⟨v6, hv7, h⟩ := bindS h
 refine cF 14 (ok_spec_IndexOf hv7) ?_
 obtain ⟨v8, hv9, h⟩ := bindS h
 refine cF 15 (ok_laws_sameMarks hv9) ?_
 refine ve 1 34 [(3, A v2), (4, A v4), (16, B (!v8))] [] ?_
 refine pc h (fun h => ?_) (fun h => ?_)
 refine srve 34 [(2, B false)] [] ?_
 cases h
 exact pwp_ret rz
 refine pwp_skip ?_
 refine srv 1 34 [(3, A v2), (4, A v4), (17, A v4)] [] ?_
 obtain ⟨v11, hv12, h⟩ := bindS h
 refine cF 18 (ok_impl_IndexOk hv12) ?_
 refine v 1 34 [(3, A v2), (4, A v4), (19, B v11)] [] ?_
 rcases Bool.eq_false_or_eq_true v11 with hc21 | hc21
 replace h := bT hc21 h
 rw [hc21]
 refine v 1 34 [(3, A v2), (4, A v4), (19, B true), (20, A v2)] [] ?_
 obtain ⟨v13, hv14, h⟩ := bindS h
 refine cF 21 (ok_impl_VersionsOk hv14) ?_
 refine v 2 34 [(3, A v2), (4, A v4), (19, B true), (23, B (!v13))] [] ?_
 rcases fk (!v13) with hc20 | hc20
 replace h := bT hc20 h
 rw [hc20]
 refine v 8 34 [(31, B true)] [] ?_
 obtain ⟨v15, hv16, h⟩ := bindS h
 refine cF 32 (ok_laws_alive hv16) ?_
 refine ve 2 34 [(2, B v15)] [] ?_
 cases h
 exact pwp_ret rz
 replace h := bF hc20 h
 rw [hc20]
 refine v 8 34 [(31, B ((v4.length : Int) == (v2.length : Int)))] [] ?_
 rcases fk ((v4.length : Int) == (v2.length : Int)) with hc19 | hc19
 replace h := bT hc19 h
 rw [hc19]
 obtain ⟨v17, hv18, h⟩ := bindS h
 refine cF 32 (ok_laws_alive hv18) ?_
 refine ve 2 34 [(2, B v17)] [] ?_
 cases h
 exact pwp_ret rz
 replace h := bF hc19 h
 rw [hc19]
 refine ve 3 34 [(2, B false)] [] ?_
 cases h
 exact pwp_ret rz
 replace h := bF hc21 h
 rw [hc21]
 refine ve 15 34 [(2, B false)] [] ?_
 cases h
 exact pwp_ret rz
end Go.D
