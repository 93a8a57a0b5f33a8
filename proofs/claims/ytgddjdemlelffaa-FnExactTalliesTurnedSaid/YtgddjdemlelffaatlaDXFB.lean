import Derived.Test.YtgddjdemlelffaatlaDXFA
import Derived.KernelRfl
set_option linter.unusedVariables false
set_option linter.unusedSimpArgs false
namespace Go.D
open Go.Proofs
theorem ok_slices_Clip_impl_Tally_impl_Tally_R {a0 : List T_impl_Tally} {y : List T_impl_Tally} (h : slices_Clip_impl_Tally_impl_Tally_R a0 = some y) : OKm Try.prog 126 [O a0] (O y) := by
 refine OKm_of_pwp (sl := [rf 0 0 4 a0]) (bs := [⟨0, eL a0⟩]) τ_ok Try.func126 rfl (by kernel_rfl) rfl (by kernel_rfl) fun Γ hX => ?_
 refine pwp_imp (Imp.to (st' := ⟨9, [(0, rf 0 0 4 a0)], [sl 0 a0]⟩) [0] (by kernel_rfl)) ?_
 unfold slices_Clip_impl_Tally_impl_Tally_R at h
 refine srve 9 [(0, rf 0 0 4 a0)] [sl 0 a0] ?_
 refine srv 5 9 [(3, rf 0 0 4 a0), (5, I (a0.length : Int)), (7, I (a0.length : Int))] [sl 0 a0] ?_
 obtain ⟨v1, hv2, h⟩ := bindS h
 refine opsP_slr τ_ok 8 0 0 a0.length hv2 rfl (by kernel_rfl) ?_
 refine ve 1 9 [(2, rf 0 0 4 v1)] [sl 0 a0] ?_
 refine ip 9 [(2, rf 0 0 4 v1)] [sl 0 a0] ?_
 refine pwp_imp (Imp.cut (st' := ⟨9, [(2, rf 0 0 4 v1)], [sl 0 v1]⟩) 0 0 a0 v1 (by kernel_rfl) (slI_view hv2) (by kernel_rfl)) ?_
 have h := si h
 subst h
 exact pwp_ret (rt (rf 0 0 4 v1) (OutP.list (v := 0) (by kernel_rfl)))
def impl_tallies_R_l0 (a0 : List T_impl_Tally) : Nat → Int → (List T_impl_Tally) → Option (List T_impl_Tally)
 | 0, _, _ => none
 | f4 + 1, x2, x3 => bif (decide (x2 < (a0.length : Int))) then (getI a0 x2).bind fun v7 => (impl_clone_impl_Value v7.fKey).bind fun v9 => (app x3 ([{ v7 with fKey := v9 }] : List T_impl_Tally)).bind fun v11 => (impl_tallies_R_l0 a0 f4) (w64 (x2 + 1)) v11 else (slices_Clip_impl_Tally_impl_Tally_R x3).bind fun v13 => some v13
def impl_tallies_R (a0 : List T_impl_Tally) : Option (List T_impl_Tally) := impl_tallies_R_l0 a0 FUEL 0 ([] : List T_impl_Tally)
theorem ok_impl_tallies_R {a0 : List T_impl_Tally} {y : List T_impl_Tally} (h : impl_tallies_R a0 = some y) : OK Try.prog 71 [A a0] (O y) := by
 refine ow Try.func71 fun Γ hX => ?_
 unfold impl_tallies_R at h
 refine srveM [5] 23 [(0, A a0)] [] ?_
 refine srveM [5] 23 [(0, A a0), (3, .arr 4 0 (eL ([] : List T_impl_Tally)) true)] [] ?_
 refine pwp_seq ?_
 refine srveM [5] 23 [(3, .arr 4 0 (eL ([] : List T_impl_Tally)) true), (6, A a0), (7, I (a0.length : Int)), (8, I 0)] [] ?_
 refine pwp_block ?_
 refine pwp_loop (ι := Nat × Int × (List T_impl_Tally)) (fun (f4, x2, x3) => (⟨23, [(3, rf 0 0 4 x3), (6, A a0), (7, I (a0.length : Int)), (8, I x2)], [sl 0 x3]⟩ : St)) (fun (f4, x2, x3) => impl_tallies_R_l0 a0 f4 x2 x3 = some y) Prod.fst (FUEL, 0, ([] : List T_impl_Tally)) h (Imp.thawS 3 [3, 6, 7, 8] (by kernel_rfl)) ?_
 rintro ⟨f4, x2, x3⟩ h
 dsimp only at h ⊢
 rcases f4 with _ | f4
 cases h
 rw [impl_tallies_R_l0] at h
 refine srveM [5] 23 [(3, rf 0 0 4 x3), (6, A a0), (7, I (a0.length : Int)), (8, I x2), (9, B (decide (x2 < (a0.length : Int))))] [sl 0 x3] ?_
 refine pwp_seq ?_
 refine pc h (fun h => ?_) (fun h => ?_)
 refine pwp_skip ?_
 refine pwp_seq ?_
 refine pwp_block ?_
 refine pwp_seq ?_
 refine pwp_region ?_
 obtain ⟨v7, hv8, h⟩ := bindS h
 refine opsP_idx τ_ok 10 hv8 (by kernel_rfl) ?_
 refine veM [5] 3 23 [(3, rf 0 0 4 x3), (5, .ptr 1 0 0), (6, A a0), (7, I (a0.length : Int)), (8, I x2)] [sl 0 x3, sc 0 v7] ?_
 refine srvM [5] 2 23 [(3, rf 0 0 4 x3), (5, .ptr 1 0 0), (6, A a0), (7, I (a0.length : Int)), (8, I x2), (13, A v7.fKey)] [sl 0 x3, sc 0 v7] ?_
 obtain ⟨v9, hv10, h⟩ := bindS h
 refine cF 14 (ok_impl_clone_impl_Value hv10) ?_
 refine veM [5] 2 23 [(3, rf 0 0 4 x3), (5, .ptr 1 0 0), (6, A a0), (7, I (a0.length : Int)), (8, I x2)] [sl 0 x3, some ⟨0, Enc.cells ({ v7 with fKey := v9 })⟩] ?_
 refine rvM [5] 3 23 [(6, A a0), (7, I (a0.length : Int)), (8, I x2), (16, rf 0 0 4 x3), (18, .arr 4 ([{ v7 with fKey := v9 }] : List T_impl_Tally).length (eL ([{ v7 with fKey := v9 }] : List T_impl_Tally)) true)] [sl 0 x3, some ⟨0, Enc.cells ({ v7 with fKey := v9 })⟩] ?_
 obtain ⟨v11, hv12, h⟩ := bindS h
 refine opsP_app τ_ok 19 0 0 (nx hX) hv12 (by kernel_rfl) ?_
 refine veM [5] 1 23 [(3, rf 0 1 4 v11), (6, A a0), (7, I (a0.length : Int)), (8, I x2)] [sl 1 v11, some ⟨0, Enc.cells ({ v7 with fKey := v9 })⟩] ?_
 refine rveM [5] 23 [(3, rf 0 1 4 v11), (6, A a0), (7, I (a0.length : Int)), (8, I (w64 (x2 + 1)))] [sl 1 v11, some ⟨0, Enc.cells ({ v7 with fKey := v9 })⟩] ?_
 exact ⟨(f4, (w64 (x2 + 1)), v11), h, Nat.lt_succ_self _, qt (it (st' := ⟨23, [(3, rf 0 1 4 v11), (6, A a0), (7, I (a0.length : Int)), (8, I (w64 (x2 + 1)))], [sl 1 v11, some ⟨0, Enc.cells ({ v7 with fKey := v9 })⟩]⟩) [3, 6, 7, 8]) (qt (Imp.truncS (st' := ⟨23, [(3, rf 0 1 4 v11), (6, A a0), (7, I (a0.length : Int)), (8, I (w64 (x2 + 1)))], [sl 1 v11]⟩) 1 (nx hX) (by kernel_rfl) (allBelow_mem (by exact (And.intro rfl (And.intro rfl (And.intro rfl (And.intro rfl trivial)))))) (by exact (And.intro (frz_below (eL_frz _)) trivial)) (by kernel_rfl)) (Imp.reverS 0 1 (eL v11) [3, 6, 7, 8] (by kernel_rfl) (by exact (And.intro (eL_frz _) trivial)) (by kernel_rfl)))⟩
 refine pwp_exit ?_
 refine srvM [5] 1 23 [(21, rf 0 0 4 x3)] [sl 0 x3] ?_
 obtain ⟨v13, hv14, h⟩ := bindS h
 refine opsP_callM (xs := [rf 0 0 4 x3]) (x := rf 1 0 4 v13) (bs := [⟨0, eL v13⟩]) τ 22 [0] (nx hX) (ok_slices_Clip_impl_Tally_impl_Tally_R hv14) (by kernel_rfl) (OutL.cons (OutP.list (v := 0) (by kernel_rfl)) (OutL.nil _)) (by decide) (by kernel_rfl) ?_
 refine veM [5] 1 23 [(2, rf 1 0 4 v13)] [none, sl 0 v13] ?_
 have h := si h
 subst h
 exact pwp_ret (rt (rf 1 0 4 v13) (OutP.list (v := 0) (by kernel_rfl)))
def laws_toTally_D (a0 : T_laws_Tally) : Option T_impl_Tally := (laws_toValueS a0.fKey).bind fun v1 => some (T_impl_Tally.mk v1 a0.fRows a0.fMany a0.fSum)
theorem ok_laws_toTally_D {a0 : T_laws_Tally} {y : T_impl_Tally} (h : laws_toTally_D a0 = some y) : OK Try.prog 79 [E a0] (.agg (DEnc.cells y)) := by
 refine ow Try.func79 fun Γ hX => ?_
 unfold laws_toTally_D at h
 refine srvM [1, 2, 3] 1 18 [(1, .ptr 0 0 0)] [sc 0 a0] ?_
 refine opsP_imp (Imp.ghosts 1 (st' := ⟨18, [(1, .ptr 0 0 0)], [sc 0 a0, some ⟨0, []⟩]⟩) (by kernel_rfl)) ?_
 refine opsP_E (dd := some 2) (x := .ptr 1 1 0) (alz_E (blk := ⟨0, []⟩) (zs := [.arr 3 0 [] true, .lit (.int .i64 0), .lit (.int .i64 0), .lit (.int .i64 0)]) 2 100 1 0 (nx hX) zi_ok100 (by kernel_rfl) (by kernel_rfl)) ?_
 refine veM [1, 2, 3] 0 18 [(1, .ptr 0 0 0), (2, .ptr 1 1 0)] [sc 0 a0, some ⟨1, [.arr 3 0 (eL ([] : List T_impl_Value)) true, I 0, I 0, I 0]⟩] ?_
 refine srvM [1, 2, 3] 0 18 [(1, .ptr 0 0 0), (2, .ptr 1 1 0)] [sc 0 a0, some ⟨1, [.arr 3 0 (eL ([] : List T_impl_Value)) true, I 0, I 0, I 0]⟩] ?_
 refine opsP_imp (Imp.ghosts 1 (st' := ⟨18, [(1, .ptr 0 0 0), (2, .ptr 1 1 0)], [sc 0 a0, some ⟨1, [.arr 3 0 (eL ([] : List T_impl_Value)) true, I 0, I 0, I 0]⟩, some ⟨0, []⟩]⟩) (by kernel_rfl)) ?_
 refine opsP_E (dd := some 3) (x := .ptr 2 1 0) (alz_E (blk := ⟨0, []⟩) (zs := [.arr 3 0 [] true, .lit (.int .i64 0), .lit (.int .i64 0), .lit (.int .i64 0)]) 3 100 2 0 (nx hX) zi_ok100 (by kernel_rfl) (by kernel_rfl)) ?_
 refine veM [1, 2, 3] 0 18 [(1, .ptr 0 0 0), (2, .ptr 1 1 0), (3, .ptr 2 1 0)] [sc 0 a0, some ⟨1, [.arr 3 0 (eL ([] : List T_impl_Value)) true, I 0, I 0, I 0]⟩, some ⟨1, [.arr 3 0 (eL ([] : List T_impl_Value)) true, I 0, I 0, I 0]⟩] ?_
 refine srvM [1, 2, 3] 2 18 [(1, .ptr 0 0 0), (2, .ptr 1 1 0), (3, .ptr 2 1 0), (5, A a0.fKey)] [sc 0 a0, some ⟨1, [.arr 3 0 (eL ([] : List T_impl_Value)) true, I 0, I 0, I 0]⟩, some ⟨1, [.arr 3 0 (eL ([] : List T_impl_Value)) true, I 0, I 0, I 0]⟩] ?_
 obtain ⟨v1, hv2, h⟩ := bindS h
 refine opsP_callO τ 6 (ok_laws_toValueS hv2) rfl (by kernel_rfl) ?_
 refine veM [1, 2, 3] 2 18 [(1, .ptr 0 0 0), (2, .ptr 1 1 0), (3, .ptr 2 1 0)] [sc 0 a0, some ⟨1, [.arr 3 0 (eL ([] : List T_impl_Value)) true, I 0, I 0, I 0]⟩, some ⟨1, [rf 3 0 3 v1, I 0, I 0, I 0]⟩, sl 0 v1] ?_
 refine srveM [1, 2, 3] 18 [(1, .ptr 0 0 0), (2, .ptr 1 1 0), (3, .ptr 2 1 0)] [sc 0 a0, some ⟨1, [.arr 3 0 (eL ([] : List T_impl_Value)) true, I 0, I 0, I 0]⟩, some ⟨1, [rf 3 0 3 v1, I a0.fRows, I 0, I 0]⟩, sl 0 v1] ?_
 refine srveM [1, 2, 3] 18 [(1, .ptr 0 0 0), (2, .ptr 1 1 0), (3, .ptr 2 1 0)] [sc 0 a0, some ⟨1, [.arr 3 0 (eL ([] : List T_impl_Value)) true, I 0, I 0, I 0]⟩, some ⟨1, [rf 3 0 3 v1, I a0.fRows, I a0.fMany, I 0]⟩, sl 0 v1] ?_
 refine srveM [1, 2, 3] 18 [(2, .ptr 1 1 0), (3, .ptr 2 1 0)] [sc 0 a0, some ⟨1, [.arr 3 0 (eL ([] : List T_impl_Value)) true, I 0, I 0, I 0]⟩, some ⟨1, [rf 3 0 3 v1, I a0.fRows, I a0.fMany, I a0.fSum]⟩, sl 0 v1] ?_
 refine srveM [1, 2, 3] 18 [(2, .ptr 1 1 0)] [sc 0 a0, some ⟨1, [rf 3 0 3 v1, I a0.fRows, I a0.fMany, I a0.fSum]⟩, some ⟨1, [rf 3 0 3 v1, I a0.fRows, I a0.fMany, I a0.fSum]⟩, sl 0 v1] ?_
 have h := si h
 subst h
 exact pwp_ret (rt (.agg [rf 3 0 3 v1, I a0.fRows, I a0.fMany, I a0.fSum]) (OutP.agg (OutL.cons (OutP.listn (v := 0) (xs := v1) rfl (by kernel_rfl)) (OutL.cons (OutP.frz rfl) (OutL.cons (OutP.frz rfl) (OutL.cons (OutP.frz rfl) (OutL.nil _)))))))
def laws_toTallyS_D_l0 (a0 : List T_laws_Tally) : Nat → Int → (List T_impl_Tally) → Option (List T_impl_Tally)
 | 0, _, _ => none
 | f6 + 1, x4, x5 => bif (decide (x4 < (a0.length : Int))) then (getI a0 x4).bind fun v9 => (laws_toTally_D v9).bind fun v11 => (getI x5 x4).bind fun v13 => (laws_toTallyS_D_l0 a0 f6) (w64 (x4 + 1)) (x5.set x4.toNat ({ v11 with fKey := v11.fKey } : T_impl_Tally)) else some x5
def laws_toTallyS_D (a0 : List T_laws_Tally) : Option (List T_impl_Tally) := (mkI (a0.length : Int) (T_impl_Tally.mk [] 0 0 0)).bind fun v1 => laws_toTallyS_D_l0 a0 FUEL 0 v1
theorem ok_laws_toTallyS_D {a0 : List T_laws_Tally} {y : List T_impl_Tally} (h : laws_toTallyS_D a0 = some y) : OK Try.prog 29 [A a0] (OD y) := by
 refine ow Try.func29 fun Γ hX => ?_
 unfold laws_toTallyS_D at h
 refine srve 23 [(0, A a0)] [] ?_
 refine srv 2 23 [(0, A a0), (6, I (a0.length : Int))] [] ?_
 obtain ⟨v1, hv2, h⟩ := bindS h
 refine opsP_E (dd := some 7) (x := rf 0 0 4 v1) (mkD_N τ_ok 7 0 100 (nx hX) (by kernel_rfl) _ hv2 dz_ok100 (by kernel_rfl)) ?_
 refine ve 1 23 [(0, A a0), (3, rf 0 0 4 v1)] [some ⟨0, dL v1⟩] ?_
 refine pwp_seq ?_
 refine srve 23 [(0, A a0), (3, rf 0 0 4 v1), (4, I 0)] [some ⟨0, dL v1⟩] ?_
 refine pwp_block ?_
 refine pwp_loop (ι := Nat × Int × (List T_impl_Tally)) (fun (f6, x4, x5) => (⟨23, [(0, A a0), (3, rf 0 0 4 x5), (4, I x4)], [some ⟨0, dL x5⟩]⟩ : St)) (fun (f6, x4, x5) => laws_toTallyS_D_l0 a0 f6 x4 x5 = some y) Prod.fst (FUEL, 0, v1) h (it [0, 3, 4]) ?_
 rintro ⟨f6, x4, x5⟩ h
 dsimp only at h ⊢
 rcases f6 with _ | f6
 cases h
 rw [laws_toTallyS_D_l0] at h
 refine pwp_seq ?_
 refine srve 23 [(0, A a0), (3, rf 0 0 4 x5), (4, I x4), (11, B (decide (x4 < (a0.length : Int))))] [some ⟨0, dL x5⟩] ?_
 refine pc h (fun h => ?_) (fun h => ?_)
 refine pwp_skip ?_
 refine pwp_seq ?_
 refine pwp_block ?_
 refine rv 4 23 [(0, A a0), (3, rf 0 0 4 x5), (4, I x4), (14, rf 0 0 4 x5), (15, I x4), (16, A a0), (17, I x4)] [some ⟨0, dL x5⟩] ?_
 obtain ⟨v9, hv10, h⟩ := bindS h
 refine opsP_idx τ_ok 18 hv10 (by kernel_rfl) ?_
 refine v 1 23 [(0, A a0), (3, rf 0 0 4 x5), (4, I x4), (14, rf 0 0 4 x5), (15, I x4), (19, E v9)] [some ⟨0, dL x5⟩] ?_
 obtain ⟨v11, hv12, h⟩ := bindS h
 refine opsP_callO τ 20 (ok_laws_toTally_D hv12) rfl (by kernel_rfl) ?_
 obtain ⟨v13, hv14, h⟩ := bindS h
 refine opsP_idr τ_ok 21 0 0 x5.length hv14 rfl (by kernel_rfl) ?_
 refine v 0 23 [(0, A a0), (3, rf 0 0 4 x5), (4, I x4), (20, .agg [rf 1 0 3 v11.fKey, I v11.fRows, I v11.fMany, I v11.fSum]), (21, .ptr 0 0 (x4.toNat * 4))] [some ⟨0, dL x5⟩, sl 0 v11.fKey] ?_
 refine opsP_E (dd := none) (x := .any) ((std_E (xs := x5) (vs := [rf 1 0 3 v11.fKey, I v11.fRows, I v11.fMany, I v11.fSum]) (cells' := setL (dL x5) (x4.toNat * 4 + 0) [rf 1 0 3 v11.fKey, I v11.fRows, I v11.fMany, I v11.fSum]) τ_ok 100 0 0 0 hv14 (by kernel_rfl) (by kernel_rfl) rfl).then (H2 := [some ⟨0, dL (x5.set x4.toNat ({ v11 with fKey := v11.fKey } : T_impl_Tally))⟩, some ⟨1, []⟩]) (HStep.nestL (xs := x5) (vs := [rf 1 0 3 v11.fKey, I v11.fRows, I v11.fMany, I v11.fSum]) 0 0 0 ({ v11 with fKey := v11.fKey } : T_impl_Tally) hv14 (by kernel_rfl) (OutL.cons (OutP.listn (v := 0) (xs := v11.fKey) rfl (by kernel_rfl)) (OutL.cons (OutP.frz rfl) (OutL.cons (OutP.frz rfl) (OutL.cons (OutP.frz rfl) (OutL.nil _))))) (by decide) (by decide) (nx hX) (by kernel_rfl) (by kernel_rfl) (by kernel_rfl) (by kernel_rfl))) ?_
 refine io 23 [(0, A a0), (3, rf 0 0 4 x5), (4, I x4)] [some ⟨0, dL (x5.set x4.toNat ({ v11 with fKey := v11.fKey } : T_impl_Tally))⟩, some ⟨1, []⟩] ?_
 refine opsP_ren (st' := ⟨23, [(0, A a0), (3, .ref 0 0 0 4 (x5.set x4.toNat ({ v11 with fKey := v11.fKey } : T_impl_Tally)).length false), (4, I x4)], [some ⟨0, dL (x5.set x4.toNat ({ v11 with fKey := v11.fKey } : T_impl_Tally))⟩, some ⟨1, []⟩]⟩) 0 (x5.set x4.toNat ({ v11 with fKey := v11.fKey } : T_impl_Tally)).length (renC trivial (renC (ren_ref (List.length_set ..).symm) (renC trivial renC0))) (by kernel_rfl) ?_
 refine ve 0 23 [(0, A a0), (3, .ref 0 0 0 4 (x5.set x4.toNat ({ v11 with fKey := v11.fKey } : T_impl_Tally)).length false), (4, I x4)] [some ⟨0, dL (x5.set x4.toNat ({ v11 with fKey := v11.fKey } : T_impl_Tally))⟩, some ⟨1, []⟩] ?_
 refine rve 23 [(0, A a0), (3, .ref 0 0 0 4 (x5.set x4.toNat ({ v11 with fKey := v11.fKey } : T_impl_Tally)).length false), (4, I (w64 (x4 + 1)))] [some ⟨0, dL (x5.set x4.toNat ({ v11 with fKey := v11.fKey } : T_impl_Tally))⟩, some ⟨1, []⟩] ?_
 exact ⟨(f6, (w64 (x4 + 1)), (x5.set x4.toNat ({ v11 with fKey := v11.fKey } : T_impl_Tally))), h, Nat.lt_succ_self _, (it (st' := ⟨23, [(0, A a0), (3, .ref 0 0 0 4 (x5.set x4.toNat ({ v11 with fKey := v11.fKey } : T_impl_Tally)).length false), (4, I (w64 (x4 + 1)))], [some ⟨0, dL (x5.set x4.toNat ({ v11 with fKey := v11.fKey } : T_impl_Tally))⟩, some ⟨1, []⟩]⟩) [0, 3, 4]).trans (Imp.truncS 1 (nx hX) (by kernel_rfl) (allBelow_mem (by exact (And.intro rfl (And.intro rfl (And.intro rfl trivial))))) (by exact (And.intro (dL_below _ _) trivial)) (by kernel_rfl))⟩
 refine pwp_exit ?_
 refine srve 23 [(2, rf 0 0 4 x5)] [some ⟨0, dL x5⟩] ?_
 have h := si h
 subst h
 exact pwp_ret (rt (rf 0 0 4 x5) (OutP.listD (v := 0) (by kernel_rfl)))
def laws_toDelta_D (a0 : T_laws_Delta) : Option T_impl_Delta := (laws_toValueS a0.fRow).bind fun v1 => some (T_impl_Delta.mk v1 a0.fMany)
theorem ok_laws_toDelta_D {a0 : T_laws_Delta} {y : T_impl_Delta} (h : laws_toDelta_D a0 = some y) : OK Try.prog 80 [E a0] (.agg (DEnc.cells y)) := by
 refine ow Try.func80 fun Γ hX => ?_
 unfold laws_toDelta_D at h
 refine srvM [1, 2, 3] 1 12 [(1, .ptr 0 0 0)] [sc 0 a0] ?_
 refine opsP_imp (Imp.ghosts 1 (st' := ⟨12, [(1, .ptr 0 0 0)], [sc 0 a0, some ⟨0, []⟩]⟩) (by kernel_rfl)) ?_
 refine opsP_E (dd := some 2) (x := .ptr 1 1 0) (alz_E (blk := ⟨0, []⟩) (zs := [.arr 3 0 [] true, .lit (.int .i64 0)]) 2 31 1 0 (nx hX) zi_ok31 (by kernel_rfl) (by kernel_rfl)) ?_
 refine veM [1, 2, 3] 0 12 [(1, .ptr 0 0 0), (2, .ptr 1 1 0)] [sc 0 a0, some ⟨1, [.arr 3 0 (eL ([] : List T_impl_Value)) true, I 0]⟩] ?_
 refine srvM [1, 2, 3] 0 12 [(1, .ptr 0 0 0), (2, .ptr 1 1 0)] [sc 0 a0, some ⟨1, [.arr 3 0 (eL ([] : List T_impl_Value)) true, I 0]⟩] ?_
 refine opsP_imp (Imp.ghosts 1 (st' := ⟨12, [(1, .ptr 0 0 0), (2, .ptr 1 1 0)], [sc 0 a0, some ⟨1, [.arr 3 0 (eL ([] : List T_impl_Value)) true, I 0]⟩, some ⟨0, []⟩]⟩) (by kernel_rfl)) ?_
 refine opsP_E (dd := some 3) (x := .ptr 2 1 0) (alz_E (blk := ⟨0, []⟩) (zs := [.arr 3 0 [] true, .lit (.int .i64 0)]) 3 31 2 0 (nx hX) zi_ok31 (by kernel_rfl) (by kernel_rfl)) ?_
 refine veM [1, 2, 3] 0 12 [(1, .ptr 0 0 0), (2, .ptr 1 1 0), (3, .ptr 2 1 0)] [sc 0 a0, some ⟨1, [.arr 3 0 (eL ([] : List T_impl_Value)) true, I 0]⟩, some ⟨1, [.arr 3 0 (eL ([] : List T_impl_Value)) true, I 0]⟩] ?_
 refine srvM [1, 2, 3] 2 12 [(1, .ptr 0 0 0), (2, .ptr 1 1 0), (3, .ptr 2 1 0), (5, A a0.fRow)] [sc 0 a0, some ⟨1, [.arr 3 0 (eL ([] : List T_impl_Value)) true, I 0]⟩, some ⟨1, [.arr 3 0 (eL ([] : List T_impl_Value)) true, I 0]⟩] ?_
 obtain ⟨v1, hv2, h⟩ := bindS h
 refine opsP_callO τ 6 (ok_laws_toValueS hv2) rfl (by kernel_rfl) ?_
 refine veM [1, 2, 3] 2 12 [(1, .ptr 0 0 0), (2, .ptr 1 1 0), (3, .ptr 2 1 0)] [sc 0 a0, some ⟨1, [.arr 3 0 (eL ([] : List T_impl_Value)) true, I 0]⟩, some ⟨1, [rf 3 0 3 v1, I 0]⟩, sl 0 v1] ?_
 refine srveM [1, 2, 3] 12 [(2, .ptr 1 1 0), (3, .ptr 2 1 0)] [sc 0 a0, some ⟨1, [.arr 3 0 (eL ([] : List T_impl_Value)) true, I 0]⟩, some ⟨1, [rf 3 0 3 v1, I a0.fMany]⟩, sl 0 v1] ?_
 refine srveM [1, 2, 3] 12 [(2, .ptr 1 1 0)] [sc 0 a0, some ⟨1, [rf 3 0 3 v1, I a0.fMany]⟩, some ⟨1, [rf 3 0 3 v1, I a0.fMany]⟩, sl 0 v1] ?_
 have h := si h
 subst h
 exact pwp_ret (rt (.agg [rf 3 0 3 v1, I a0.fMany]) (OutP.agg (OutL.cons (OutP.listn (v := 0) (xs := v1) rfl (by kernel_rfl)) (OutL.cons (OutP.frz rfl) (OutL.nil _)))))
def laws_toDeltaS_D_l0 (a0 : List T_laws_Delta) : Nat → Int → (List T_impl_Delta) → Option (List T_impl_Delta)
 | 0, _, _ => none
 | f6 + 1, x4, x5 => bif (decide (x4 < (a0.length : Int))) then (getI a0 x4).bind fun v9 => (laws_toDelta_D v9).bind fun v11 => (getI x5 x4).bind fun v13 => (laws_toDeltaS_D_l0 a0 f6) (w64 (x4 + 1)) (x5.set x4.toNat ({ v11 with fRow := v11.fRow } : T_impl_Delta)) else some x5
def laws_toDeltaS_D (a0 : List T_laws_Delta) : Option (List T_impl_Delta) := (mkI (a0.length : Int) (T_impl_Delta.mk [] 0)).bind fun v1 => laws_toDeltaS_D_l0 a0 FUEL 0 v1
theorem ok_laws_toDeltaS_D {a0 : List T_laws_Delta} {y : List T_impl_Delta} (h : laws_toDeltaS_D a0 = some y) : OK Try.prog 30 [A a0] (OD y) := by
 refine ow Try.func30 fun Γ hX => ?_
 unfold laws_toDeltaS_D at h
 refine srve 23 [(0, A a0)] [] ?_
 refine srv 2 23 [(0, A a0), (6, I (a0.length : Int))] [] ?_
 obtain ⟨v1, hv2, h⟩ := bindS h
 refine opsP_E (dd := some 7) (x := rf 0 0 2 v1) (mkD_N τ_ok 7 0 31 (nx hX) (by kernel_rfl) _ hv2 dz_ok31 (by kernel_rfl)) ?_
 refine ve 1 23 [(0, A a0), (3, rf 0 0 2 v1)] [some ⟨0, dL v1⟩] ?_
 refine pwp_seq ?_
 refine srve 23 [(0, A a0), (3, rf 0 0 2 v1), (4, I 0)] [some ⟨0, dL v1⟩] ?_
 refine pwp_block ?_
 refine pwp_loop (ι := Nat × Int × (List T_impl_Delta)) (fun (f6, x4, x5) => (⟨23, [(0, A a0), (3, rf 0 0 2 x5), (4, I x4)], [some ⟨0, dL x5⟩]⟩ : St)) (fun (f6, x4, x5) => laws_toDeltaS_D_l0 a0 f6 x4 x5 = some y) Prod.fst (FUEL, 0, v1) h (it [0, 3, 4]) ?_
 rintro ⟨f6, x4, x5⟩ h
 dsimp only at h ⊢
 rcases f6 with _ | f6
 cases h
 rw [laws_toDeltaS_D_l0] at h
 refine pwp_seq ?_
 refine srve 23 [(0, A a0), (3, rf 0 0 2 x5), (4, I x4), (11, B (decide (x4 < (a0.length : Int))))] [some ⟨0, dL x5⟩] ?_
 refine pc h (fun h => ?_) (fun h => ?_)
 refine pwp_skip ?_
 refine pwp_seq ?_
 refine pwp_block ?_
 refine rv 4 23 [(0, A a0), (3, rf 0 0 2 x5), (4, I x4), (14, rf 0 0 2 x5), (15, I x4), (16, A a0), (17, I x4)] [some ⟨0, dL x5⟩] ?_
 obtain ⟨v9, hv10, h⟩ := bindS h
 refine opsP_idx τ_ok 18 hv10 (by kernel_rfl) ?_
 refine v 1 23 [(0, A a0), (3, rf 0 0 2 x5), (4, I x4), (14, rf 0 0 2 x5), (15, I x4), (19, E v9)] [some ⟨0, dL x5⟩] ?_
 obtain ⟨v11, hv12, h⟩ := bindS h
 refine opsP_callO τ 20 (ok_laws_toDelta_D hv12) rfl (by kernel_rfl) ?_
 obtain ⟨v13, hv14, h⟩ := bindS h
 refine opsP_idr τ_ok 21 0 0 x5.length hv14 rfl (by kernel_rfl) ?_
 refine v 0 23 [(0, A a0), (3, rf 0 0 2 x5), (4, I x4), (20, .agg [rf 1 0 3 v11.fRow, I v11.fMany]), (21, .ptr 0 0 (x4.toNat * 2))] [some ⟨0, dL x5⟩, sl 0 v11.fRow] ?_
 refine opsP_E (dd := none) (x := .any) ((std_E (xs := x5) (vs := [rf 1 0 3 v11.fRow, I v11.fMany]) (cells' := setL (dL x5) (x4.toNat * 2 + 0) [rf 1 0 3 v11.fRow, I v11.fMany]) τ_ok 31 0 0 0 hv14 (by kernel_rfl) (by kernel_rfl) rfl).then (H2 := [some ⟨0, dL (x5.set x4.toNat ({ v11 with fRow := v11.fRow } : T_impl_Delta))⟩, some ⟨1, []⟩]) (HStep.nestL (xs := x5) (vs := [rf 1 0 3 v11.fRow, I v11.fMany]) 0 0 0 ({ v11 with fRow := v11.fRow } : T_impl_Delta) hv14 (by kernel_rfl) (OutL.cons (OutP.listn (v := 0) (xs := v11.fRow) rfl (by kernel_rfl)) (OutL.cons (OutP.frz rfl) (OutL.nil _))) (by decide) (by decide) (nx hX) (by kernel_rfl) (by kernel_rfl) (by kernel_rfl) (by kernel_rfl))) ?_
 refine io 23 [(0, A a0), (3, rf 0 0 2 x5), (4, I x4)] [some ⟨0, dL (x5.set x4.toNat ({ v11 with fRow := v11.fRow } : T_impl_Delta))⟩, some ⟨1, []⟩] ?_
 refine opsP_ren (st' := ⟨23, [(0, A a0), (3, .ref 0 0 0 2 (x5.set x4.toNat ({ v11 with fRow := v11.fRow } : T_impl_Delta)).length false), (4, I x4)], [some ⟨0, dL (x5.set x4.toNat ({ v11 with fRow := v11.fRow } : T_impl_Delta))⟩, some ⟨1, []⟩]⟩) 0 (x5.set x4.toNat ({ v11 with fRow := v11.fRow } : T_impl_Delta)).length (renC trivial (renC (ren_ref (List.length_set ..).symm) (renC trivial renC0))) (by kernel_rfl) ?_
 refine ve 0 23 [(0, A a0), (3, .ref 0 0 0 2 (x5.set x4.toNat ({ v11 with fRow := v11.fRow } : T_impl_Delta)).length false), (4, I x4)] [some ⟨0, dL (x5.set x4.toNat ({ v11 with fRow := v11.fRow } : T_impl_Delta))⟩, some ⟨1, []⟩] ?_
 refine rve 23 [(0, A a0), (3, .ref 0 0 0 2 (x5.set x4.toNat ({ v11 with fRow := v11.fRow } : T_impl_Delta)).length false), (4, I (w64 (x4 + 1)))] [some ⟨0, dL (x5.set x4.toNat ({ v11 with fRow := v11.fRow } : T_impl_Delta))⟩, some ⟨1, []⟩] ?_
 exact ⟨(f6, (w64 (x4 + 1)), (x5.set x4.toNat ({ v11 with fRow := v11.fRow } : T_impl_Delta))), h, Nat.lt_succ_self _, (it (st' := ⟨23, [(0, A a0), (3, .ref 0 0 0 2 (x5.set x4.toNat ({ v11 with fRow := v11.fRow } : T_impl_Delta)).length false), (4, I (w64 (x4 + 1)))], [some ⟨0, dL (x5.set x4.toNat ({ v11 with fRow := v11.fRow } : T_impl_Delta))⟩, some ⟨1, []⟩]⟩) [0, 3, 4]).trans (Imp.truncS 1 (nx hX) (by kernel_rfl) (allBelow_mem (by exact (And.intro rfl (And.intro rfl (And.intro rfl trivial))))) (by exact (And.intro (dL_below _ _) trivial)) (by kernel_rfl))⟩
 refine pwp_exit ?_
 refine srve 23 [(2, rf 0 0 2 x5)] [some ⟨0, dL x5⟩] ?_
 have h := si h
 subst h
 exact pwp_ret (rt (rf 0 0 2 x5) (OutP.listD (v := 0) (by kernel_rfl)))
def slices_Clip_impl_Tally_impl_Tally_D (a0 : List T_impl_Tally) : Option (List T_impl_Tally) := (slI a0 none (some (a0.length : Int)) (some (a0.length : Int))).bind fun v1 => some v1
theorem ok_slices_Clip_impl_Tally_impl_Tally_D {a0 : List T_impl_Tally} {y : List T_impl_Tally} (h : slices_Clip_impl_Tally_impl_Tally_D a0 = some y) : OKm Try.prog 126 [OD a0] (OD y) := by
 refine OKm_of_pwp (sl := [rf 0 0 4 a0]) (bs := [⟨0, dL a0⟩]) τ_ok Try.func126 rfl (by kernel_rfl) rfl (by kernel_rfl) fun Γ hX => ?_
 refine pwp_imp (Imp.to (st' := ⟨9, [(0, rf 0 0 4 a0)], [some ⟨0, dL a0⟩]⟩) [0] (by kernel_rfl)) ?_
 unfold slices_Clip_impl_Tally_impl_Tally_D at h
 refine srve 9 [(0, rf 0 0 4 a0)] [some ⟨0, dL a0⟩] ?_
 refine srv 5 9 [(3, rf 0 0 4 a0), (5, I (a0.length : Int)), (7, I (a0.length : Int))] [some ⟨0, dL a0⟩] ?_
 obtain ⟨v1, hv2, h⟩ := bindS h
 refine opsP_slr τ_ok 8 0 0 a0.length hv2 rfl (by kernel_rfl) ?_
 refine ve 1 9 [(2, rf 0 0 4 v1)] [some ⟨0, dL a0⟩] ?_
 refine ip 9 [(2, rf 0 0 4 v1)] [some ⟨0, dL a0⟩] ?_
 refine pwp_imp (Imp.cutD (st' := ⟨9, [(2, rf 0 0 4 v1)], [some ⟨0, dL v1⟩]⟩) 0 0 a0 v1 (by kernel_rfl) (slI_view hv2) (by kernel_rfl)) ?_
 have h := si h
 subst h
 exact pwp_ret (rt (rf 0 0 4 v1) (OutP.listD (v := 0) (by kernel_rfl)))
def slices_Clip_impl_Value_impl_Value_R (a0 : List T_impl_Value) : Option (List T_impl_Value) := (slI a0 none (some (a0.length : Int)) (some (a0.length : Int))).bind fun v1 => some v1
theorem ok_slices_Clip_impl_Value_impl_Value_R {a0 : List T_impl_Value} {y : List T_impl_Value} (h : slices_Clip_impl_Value_impl_Value_R a0 = some y) : OKm Try.prog 158 [O a0] (O y) := by
 refine OKm_of_pwp (sl := [rf 0 0 3 a0]) (bs := [⟨0, eL a0⟩]) τ_ok Try.func158 rfl (by kernel_rfl) rfl (by kernel_rfl) fun Γ hX => ?_
 refine pwp_imp (Imp.to (st' := ⟨9, [(0, rf 0 0 3 a0)], [sl 0 a0]⟩) [0] (by kernel_rfl)) ?_
 unfold slices_Clip_impl_Value_impl_Value_R at h
 refine srve 9 [(0, rf 0 0 3 a0)] [sl 0 a0] ?_
 refine srv 5 9 [(3, rf 0 0 3 a0), (5, I (a0.length : Int)), (7, I (a0.length : Int))] [sl 0 a0] ?_
 obtain ⟨v1, hv2, h⟩ := bindS h
 refine opsP_slr τ_ok 8 0 0 a0.length hv2 rfl (by kernel_rfl) ?_
 refine ve 1 9 [(2, rf 0 0 3 v1)] [sl 0 a0] ?_
 refine ip 9 [(2, rf 0 0 3 v1)] [sl 0 a0] ?_
 refine pwp_imp (Imp.cut (st' := ⟨9, [(2, rf 0 0 3 v1)], [sl 0 v1]⟩) 0 0 a0 v1 (by kernel_rfl) (slI_view hv2) (by kernel_rfl)) ?_
 have h := si h
 subst h
 exact pwp_ret (rt (rf 0 0 3 v1) (OutP.list (v := 0) (by kernel_rfl)))
def impl_clone_impl_Value_R (a0 : List T_impl_Value) : Option (List T_impl_Value) := bif ((a0.length : Int) == 0) then some ([] : List T_impl_Value) else (app [] a0).bind fun v2 => (slices_Clip_impl_Value_impl_Value_R v2).bind fun v4 => some v4
theorem ok_impl_clone_impl_Value_R {a0 : List T_impl_Value} {y : List T_impl_Value} (h : impl_clone_impl_Value_R a0 = some y) : OK Try.prog 119 [A a0] (O y) := by
 refine ow Try.func119 fun Γ hX => ?_
 unfold impl_clone_impl_Value_R at h
 refine srve 9 [(0, A a0)] [] ?_
 refine pwp_seq ?_
 refine srve 9 [(0, A a0), (5, B ((a0.length : Int) == 0))] [] ?_
 refine pc h (fun h => ?_) (fun h => ?_)
 refine srve 9 [(2, .arr 3 0 (eL ([] : List T_impl_Value)) true)] [] ?_
 refine ip 9 [(2, .arr 3 0 (eL ([] : List T_impl_Value)) true)] [] ?_
 refine pwp_imp (Imp.thawS (st' := ⟨9, [(2, .ref 0 0 0 3 ([] : List T_impl_Value).length false)], [some ⟨0, eL ([] : List T_impl_Value)⟩]⟩) 2 [2] (by kernel_rfl)) ?_
 have h := si h
 subst h
 exact pwp_ret (rt (.ref 0 0 0 3 ([] : List T_impl_Value).length false) (OutP.list (v := 0) (by kernel_rfl)))
 refine pwp_skip ?_
 refine srv 1 9 [(6, A a0)] [] ?_
 obtain ⟨v2, hv3, h⟩ := bindS h
 refine opsP_apn τ_ok 7 0 (nx hX) hv3 (by kernel_rfl) ?_
 obtain ⟨v4, hv5, h⟩ := bindS h
 refine opsP_callM (xs := [rf 0 1 3 v2]) (x := rf 1 0 3 v4) (bs := [⟨0, eL v4⟩]) τ 8 [0] (nx hX) (ok_slices_Clip_impl_Value_impl_Value_R hv5) (by kernel_rfl) (OutL.cons (OutP.list (v := 1) (by kernel_rfl)) (OutL.nil _)) (by decide) (by kernel_rfl) ?_
 refine ve 1 9 [(2, rf 1 0 3 v4)] [none, sl 0 v4] ?_
 have h := si h
 subst h
 exact pwp_ret (rt (rf 1 0 3 v4) (OutP.list (v := 0) (by kernel_rfl)))
def impl_tallies_D_l0 (a0 : List T_impl_Tally) : Nat → Int → (List T_impl_Tally) → Option (List T_impl_Tally)
 | 0, _, _ => none
 | f4 + 1, x2, x3 => bif (decide (x2 < (a0.length : Int))) then (getI a0 x2).bind fun v7 => (impl_clone_impl_Value_R v7.fKey).bind fun v9 => (app x3 ([{ v7 with fKey := v9 }] : List T_impl_Tally)).bind fun v11 => (impl_tallies_D_l0 a0 f4) (w64 (x2 + 1)) v11 else (slices_Clip_impl_Tally_impl_Tally_D x3).bind fun v13 => some v13
def impl_tallies_D (a0 : List T_impl_Tally) : Option (List T_impl_Tally) := impl_tallies_D_l0 a0 FUEL 0 ([] : List T_impl_Tally)
theorem ok_impl_tallies_D {a0 : List T_impl_Tally} {y : List T_impl_Tally} (h : impl_tallies_D a0 = some y) : OK Try.prog 71 [A a0] (OD y) := by
 refine ow Try.func71 fun Γ hX => ?_
 unfold impl_tallies_D at h
 refine srveM [5] 23 [(0, A a0)] [] ?_
 refine srveM [5] 23 [(0, A a0), (3, .arr 4 0 (eL ([] : List T_impl_Tally)) true)] [] ?_
 refine pwp_seq ?_
 refine srveM [5] 23 [(3, .arr 4 0 (eL ([] : List T_impl_Tally)) true), (6, A a0), (7, I (a0.length : Int)), (8, I 0)] [] ?_
 refine pwp_block ?_
 refine pwp_loop (ι := Nat × Int × (List T_impl_Tally)) (fun (f4, x2, x3) => (⟨23, [(3, rf 0 0 4 x3), (6, A a0), (7, I (a0.length : Int)), (8, I x2)], [some ⟨0, dL x3⟩]⟩ : St)) (fun (f4, x2, x3) => impl_tallies_D_l0 a0 f4 x2 x3 = some y) Prod.fst (FUEL, 0, ([] : List T_impl_Tally)) h (Imp.thawS 3 [3, 6, 7, 8] (by kernel_rfl)) ?_
 rintro ⟨f4, x2, x3⟩ h
 dsimp only at h ⊢
 rcases f4 with _ | f4
 cases h
 rw [impl_tallies_D_l0] at h
 refine srveM [5] 23 [(3, rf 0 0 4 x3), (6, A a0), (7, I (a0.length : Int)), (8, I x2), (9, B (decide (x2 < (a0.length : Int))))] [some ⟨0, dL x3⟩] ?_
 refine pwp_seq ?_
 refine pc h (fun h => ?_) (fun h => ?_)
 refine pwp_skip ?_
 refine pwp_seq ?_
 refine pwp_block ?_
 refine pwp_seq ?_
 refine pwp_region ?_
 obtain ⟨v7, hv8, h⟩ := bindS h
 refine opsP_idx τ_ok 10 hv8 (by kernel_rfl) ?_
 refine vM [5] 1 23 [(3, rf 0 0 4 x3), (6, A a0), (7, I (a0.length : Int)), (8, I x2), (11, E v7)] [some ⟨0, dL x3⟩] ?_
 refine opsP_imp (Imp.ghosts 1 (st' := ⟨23, [(3, rf 0 0 4 x3), (6, A a0), (7, I (a0.length : Int)), (8, I x2), (11, E v7)], [some ⟨0, dL x3⟩, some ⟨0, []⟩]⟩) (by kernel_rfl)) ?_
 refine opsP_E (dd := some 5) (x := .ptr 1 1 0) (alz_E (blk := ⟨0, []⟩) (zs := [.arr 3 0 [] true, .lit (.int .i64 0), .lit (.int .i64 0), .lit (.int .i64 0)]) 5 100 1 0 (nx hX) zi_ok100 (by kernel_rfl) (by kernel_rfl)) ?_
 refine veM [5] 1 23 [(3, rf 0 0 4 x3), (5, .ptr 1 1 0), (6, A a0), (7, I (a0.length : Int)), (8, I x2)] [some ⟨0, dL x3⟩, sc 1 v7] ?_
 refine srvM [5] 2 23 [(3, rf 0 0 4 x3), (5, .ptr 1 1 0), (6, A a0), (7, I (a0.length : Int)), (8, I x2), (13, A v7.fKey)] [some ⟨0, dL x3⟩, sc 1 v7] ?_
 obtain ⟨v9, hv10, h⟩ := bindS h
 refine opsP_callO τ 14 (ok_impl_clone_impl_Value_R hv10) rfl (by kernel_rfl) ?_
 refine veM [5] 2 23 [(3, rf 0 0 4 x3), (5, .ptr 1 1 0), (6, A a0), (7, I (a0.length : Int)), (8, I x2)] [some ⟨0, dL x3⟩, some ⟨1, [rf 2 0 3 v9, I v7.fRows, I v7.fMany, I v7.fSum]⟩, sl 0 v9] ?_
 refine rvM [5] 2 23 [(6, A a0), (7, I (a0.length : Int)), (8, I x2), (16, rf 0 0 4 x3), (17, .agg [rf 2 0 3 v9, I v7.fRows, I v7.fMany, I v7.fSum])] [some ⟨0, dL x3⟩, some ⟨1, [rf 2 0 3 v9, I v7.fRows, I v7.fMany, I v7.fSum]⟩, sl 0 v9] ?_
 refine opsP_E (dd := some 18) (x := .ref 3 0 0 4 ([{ v7 with fKey := v9 }] : List T_impl_Tally).length false) ((bslW_N (cells := [rf 2 0 3 v9, I v7.fRows, I v7.fMany, I v7.fSum]) τ_ok 18 3 (nx hX) (by kernel_rfl) (by kernel_rfl)).then (H2 := [some ⟨0, dL x3⟩, some ⟨1, [rf 2 0 3 v9, I v7.fRows, I v7.fMany, I v7.fSum]⟩, some ⟨1, []⟩, some ⟨0, dL ([{ v7 with fKey := v9 }] : List T_impl_Tally)⟩]) (HStep.nest0 (vs := [rf 2 0 3 v9, I v7.fRows, I v7.fMany, I v7.fSum]) 3 0 (by kernel_rfl) (OutL.cons (OutP.listn (v := 0) (xs := v9) rfl (by kernel_rfl)) (OutL.cons (OutP.frz rfl) (OutL.cons (OutP.frz rfl) (OutL.cons (OutP.frz rfl) (OutL.nil _))))) (by decide) (by decide) (nx hX) (by kernel_rfl) (by kernel_rfl))) ?_
 obtain ⟨v11, hv12, h⟩ := bindS h
 refine opsP_E (dd := some 19) (x := rf 0 1 4 v11) (appD_E τ_ok 19 0 0 3 0 (nx hX) (by decide) hv12 (by kernel_rfl) (by kernel_rfl) (by kernel_rfl)) ?_
 refine veM [5] 1 23 [(3, rf 0 1 4 v11), (6, A a0), (7, I (a0.length : Int)), (8, I x2)] [some ⟨1, dL v11⟩, some ⟨1, [rf 2 0 3 v9, I v7.fRows, I v7.fMany, I v7.fSum]⟩, some ⟨1, []⟩, some ⟨1, []⟩] ?_
 refine rveM [5] 23 [(3, rf 0 1 4 v11), (6, A a0), (7, I (a0.length : Int)), (8, I (w64 (x2 + 1)))] [some ⟨1, dL v11⟩, some ⟨1, [rf 2 0 3 v9, I v7.fRows, I v7.fMany, I v7.fSum]⟩, some ⟨1, []⟩, some ⟨1, []⟩] ?_
 exact ⟨(f4, (w64 (x2 + 1)), v11), h, Nat.lt_succ_self _, qt (it (st' := ⟨23, [(3, rf 0 1 4 v11), (6, A a0), (7, I (a0.length : Int)), (8, I (w64 (x2 + 1)))], [some ⟨1, dL v11⟩, some ⟨1, [rf 2 0 3 v9, I v7.fRows, I v7.fMany, I v7.fSum]⟩, some ⟨1, []⟩, some ⟨1, []⟩]⟩) [3, 6, 7, 8]) (qt (Imp.truncS (st' := ⟨23, [(3, rf 0 1 4 v11), (6, A a0), (7, I (a0.length : Int)), (8, I (w64 (x2 + 1)))], [some ⟨1, dL v11⟩]⟩) 1 (nx hX) (by kernel_rfl) (allBelow_mem (by exact (And.intro rfl (And.intro rfl (And.intro rfl (And.intro rfl trivial)))))) (by exact (And.intro (dL_below _ _) trivial)) (by kernel_rfl)) (qt (Imp.reverB (cs := dL v11) (st' := ⟨23, [(3, rf 0 0 4 v11), (6, A a0), (7, I (a0.length : Int)), (8, I (w64 (x2 + 1)))], [some ⟨0, dL v11⟩]⟩) 0 1 (by kernel_rfl) (dL_qu _) (HpRel.key HpRel.nil) (by kernel_rfl) (by rfl) (nx hX)) (it [3, 6, 7, 8])))⟩
 refine pwp_exit ?_
 refine srvM [5] 1 23 [(21, rf 0 0 4 x3)] [some ⟨0, dL x3⟩] ?_
 obtain ⟨v13, hv14, h⟩ := bindS h
 refine opsP_callM (xs := [rf 0 0 4 x3]) (x := rf 1 0 4 v13) (bs := [⟨0, dL v13⟩]) τ 22 [0] (nx hX) (ok_slices_Clip_impl_Tally_impl_Tally_D hv14) (by kernel_rfl) (OutL.cons (OutP.listD (v := 0) (by kernel_rfl)) (OutL.nil _)) (by decide) (by kernel_rfl) ?_
 refine veM [5] 1 23 [(2, rf 1 0 4 v13)] [none, some ⟨0, dL v13⟩] ?_
 have h := si h
 subst h
 exact pwp_ret (rt (rf 1 0 4 v13) (OutP.listD (v := 0) (by kernel_rfl)))
def impl_TalliesTurned_D_j1 (x7 : Int) (x8 : List T_impl_Tally) (K10 : Int → (List T_impl_Tally) → Option ((List T_impl_Tally) × Bool)) (v12 : T_impl_Delta) (x14 : Bool) : Option ((List T_impl_Tally) × Bool) := bif x14 then some (([] : List T_impl_Tally), false) else (impl_tell x8 v12.fRow v12.fMany).bind fun v16 => (impl_TalliesOk v16).bind fun v18 => bif (!v18) then some (([] : List T_impl_Tally), false) else K10 (w64 (x7 + 1)) v16
def impl_TalliesTurned_D_l0 (a1 : List T_impl_Delta) : Nat → Int → (List T_impl_Tally) → Option ((List T_impl_Tally) × Bool)
 | 0, _, _ => none
 | f9 + 1, x7, x8 => bif (decide (x7 < (a1.length : Int))) then (getI a1 x7).bind fun v12 => (impl_counted v12.fRow).bind fun v21 => bif (!v21) then impl_TalliesTurned_D_j1 x7 x8 (impl_TalliesTurned_D_l0 a1 f9) v12 true else bif (v12.fMany == 0) then impl_TalliesTurned_D_j1 x7 x8 (impl_TalliesTurned_D_l0 a1 f9) v12 true else (impl_between v12.fMany (-100) 100).bind fun v23 => impl_TalliesTurned_D_j1 x7 x8 (impl_TalliesTurned_D_l0 a1 f9) v12 (!v23) else (impl_tallies_D x8).bind fun v27 => some (v27, true)
def impl_TalliesTurned_D (a0 : List T_impl_Tally) (a1 : List T_impl_Delta) : Option ((List T_impl_Tally) × Bool) := (impl_TalliesOk a0).bind fun v1 => bif (!v1) then some (([] : List T_impl_Tally), false) else (impl_tallies_R a0).bind fun v4 => impl_TalliesTurned_D_l0 a1 FUEL 0 v4
theorem ok_impl_TalliesTurned_D {a0 : List T_impl_Tally} {a1 : List T_impl_Delta} {y : (List T_impl_Tally) × Bool} (h : impl_TalliesTurned_D a0 a1 = some y) : OK Try.prog 25 [A a0, A a1] (.tup [OD y.1, B y.2]) := by
 refine ow Try.func25 fun Γ hX => ?_
 unfold impl_TalliesTurned_D at h
 refine srveM [8] 47 [(0, A a0), (1, A a1)] [] ?_
 refine pwp_seq ?_
 refine srvM [8] 1 47 [(0, A a0), (1, A a1), (9, A a0)] [] ?_
 obtain ⟨v1, hv2, h⟩ := bindS h
 refine cF 10 (ok_impl_TalliesOk hv2) ?_
 refine veM [8] 1 47 [(0, A a0), (1, A a1), (11, B (!v1))] [] ?_
 refine pc h (fun h => ?_) (fun h => ?_)
 refine srveM [8] 47 [(4, .arr 4 0 (eL ([] : List T_impl_Tally)) true), (5, B false)] [] ?_
 refine ip 47 [(4, .arr 4 0 (eL ([] : List T_impl_Tally)) true), (5, B false)] [] ?_
 refine pwp_imp (Imp.thawS (st' := ⟨47, [(4, .ref 0 0 0 4 ([] : List T_impl_Tally).length false), (5, B false)], [some ⟨0, dL ([] : List T_impl_Tally)⟩]⟩) 4 [4, 5] (by kernel_rfl)) ?_
 have h := si h
 subst h
 exact pwp_ret (rt (.tup [.ref 0 0 0 4 ([] : List T_impl_Tally).length false, B false]) (OutP.tup (OutL.cons (OutP.listD (v := 0) (by kernel_rfl)) (OutL.cons (OutP.frz (by kernel_rfl)) (OutL.nil _)))))
 refine pwp_skip ?_
 refine srvM [8] 1 47 [(1, A a1), (12, A a0)] [] ?_
 obtain ⟨v4, hv5, h⟩ := bindS h
 refine opsP_callO τ 13 (ok_impl_tallies_R hv5) rfl (by kernel_rfl) ?_
 refine veM [8] 1 47 [(1, A a1), (6, rf 0 0 4 v4)] [sl 0 v4] ?_
 refine pwp_seq ?_
 refine srveM [8] 47 [(6, rf 0 0 4 v4), (14, A a1), (15, I (a1.length : Int)), (16, I 0)] [sl 0 v4] ?_
 refine pwp_block ?_
 refine pwp_loop (ι := Nat × Int × (List T_impl_Tally)) (fun (f9, x7, x8) => (⟨47, [(6, rf 0 0 4 x8), (14, A a1), (15, I (a1.length : Int)), (16, I x7)], [sl 0 x8]⟩ : St)) (fun (f9, x7, x8) => impl_TalliesTurned_D_l0 a1 f9 x7 x8 = some y) Prod.fst (FUEL, 0, v4) h (it [6, 14, 15, 16]) ?_
 rintro ⟨f9, x7, x8⟩ h
 dsimp only at h ⊢
 rcases f9 with _ | f9
 cases h
 rw [impl_TalliesTurned_D_l0] at h
 refine srveM [8] 47 [(6, rf 0 0 4 x8), (14, A a1), (15, I (a1.length : Int)), (16, I x7), (17, B (decide (x7 < (a1.length : Int))))] [sl 0 x8] ?_
 refine pwp_seq ?_
 refine pc h (fun h => ?_) (fun h => ?_)
 refine pwp_skip ?_
 refine pwp_seq ?_
 refine pwp_block ?_
 refine pwp_seq ?_
 refine pwp_region ?_
 obtain ⟨v12, hv13, h⟩ := bindS h
 refine opsP_idx τ_ok 18 hv13 (by kernel_rfl) ?_
 refine veM [8] 3 47 [(6, rf 0 0 4 x8), (8, .ptr 1 0 0), (14, A a1), (15, I (a1.length : Int)), (16, I x7)] [sl 0 x8, sc 0 v12] ?_
 refine pwp_seq ?_
 refine pwp_seq ?_
 refine pwp_join (σ := Bool) (fun x14 => (⟨47, [(6, rf 0 0 4 x8), (8, .ptr 1 0 0), (14, A a1), (15, I (a1.length : Int)), (16, I x7), (34, B x14)], [sl 0 x8, sc 0 v12]⟩ : St)) (fun x14 => impl_TalliesTurned_D_j1 x7 x8 (impl_TalliesTurned_D_l0 a1 f9) v12 x14 = some y) ?_ ?_
 refine rvM [8] 2 47 [(6, rf 0 0 4 x8), (8, .ptr 1 0 0), (14, A a1), (15, I (a1.length : Int)), (16, I x7), (21, A v12.fRow)] [sl 0 x8, sc 0 v12] ?_
 obtain ⟨v21, hv22, h⟩ := bindS h
 refine cF 22 (ok_impl_counted hv22) ?_
 refine vM [8] 2 47 [(6, rf 0 0 4 x8), (8, .ptr 1 0 0), (14, A a1), (15, I (a1.length : Int)), (16, I x7), (24, B (!v21))] [sl 0 x8, sc 0 v12] ?_
 rcases fk (!v21) with hc26 | hc26
 replace h := bT hc26 h
 rw [hc26]
 refine veM [8] 10 47 [(6, rf 0 0 4 x8), (8, .ptr 1 0 0), (14, A a1), (15, I (a1.length : Int)), (16, I x7), (25, .lit undef), (26, .lit undef), (27, .lit undef), (30, .lit undef), (31, .lit undef), (32, .lit undef), (33, .lit undef), (34, B true)] [sl 0 x8, sc 0 v12] ?_
 exact ⟨true, h, it [6, 8, 14, 15, 16, 34]⟩
 replace h := bF hc26 h
 rw [hc26]
 refine vM [8] 5 47 [(6, rf 0 0 4 x8), (8, .ptr 1 0 0), (14, A a1), (15, I (a1.length : Int)), (16, I x7), (25, .ptr 1 0 1), (26, I v12.fMany), (27, B (v12.fMany == 0)), (29, B (v12.fMany == 0))] [sl 0 x8, sc 0 v12] ?_
 rcases fk (v12.fMany == 0) with hc25 | hc25
 replace h := bT hc25 h
 rw [hc25]
 refine veM [8] 5 47 [(6, rf 0 0 4 x8), (8, .ptr 1 0 0), (14, A a1), (15, I (a1.length : Int)), (16, I x7), (25, .ptr 1 0 1), (26, I v12.fMany), (27, B true), (30, .lit undef), (31, .lit undef), (32, .lit undef), (33, .lit undef), (34, B true)] [sl 0 x8, sc 0 v12] ?_
 exact ⟨true, h, it [6, 8, 14, 15, 16, 34]⟩
 replace h := bF hc25 h
 rw [hc25]
 refine vM [8] 2 47 [(6, rf 0 0 4 x8), (8, .ptr 1 0 0), (14, A a1), (15, I (a1.length : Int)), (16, I x7), (25, .ptr 1 0 1), (26, I v12.fMany), (27, B false), (29, B false), (30, .ptr 1 0 1), (31, I v12.fMany)] [sl 0 x8, sc 0 v12] ?_
 obtain ⟨v23, hv24, h⟩ := bindS h
 refine cF 32 (ok_impl_between hv24) ?_
 refine veM [8] 2 47 [(6, rf 0 0 4 x8), (8, .ptr 1 0 0), (14, A a1), (15, I (a1.length : Int)), (16, I x7), (25, .ptr 1 0 1), (26, I v12.fMany), (27, B false), (30, .ptr 1 0 1), (31, I v12.fMany), (32, B v23), (33, B (!v23)), (34, B (!v23))] [sl 0 x8, sc 0 v12] ?_
 exact ⟨(!v23), h, it [6, 8, 14, 15, 16, 34]⟩
 rintro x14 h
 unfold impl_TalliesTurned_D_j1 at h
 refine pc h (fun h => ?_) (fun h => ?_)
 refine srveM [8] 47 [(4, .arr 4 0 (eL ([] : List T_impl_Tally)) true), (5, B false)] [sl 0 x8, sc 0 v12] ?_
 refine ip 47 [(4, .arr 4 0 (eL ([] : List T_impl_Tally)) true), (5, B false)] [sl 0 x8, sc 0 v12] ?_
 refine pwp_imp (Imp.thawS (st' := ⟨47, [(4, .ref 2 0 0 4 ([] : List T_impl_Tally).length false), (5, B false)], [sl 0 x8, sc 0 v12, some ⟨0, dL ([] : List T_impl_Tally)⟩]⟩) 4 [4, 5] (by kernel_rfl)) ?_
 have h := si h
 subst h
 exact pwp_ret (rt (.tup [.ref 2 0 0 4 ([] : List T_impl_Tally).length false, B false]) (OutP.tup (OutL.cons (OutP.listD (v := 0) (by kernel_rfl)) (OutL.cons (OutP.frz (by kernel_rfl)) (OutL.nil _)))))
 refine pwp_skip ?_
 refine srvM [8] 5 47 [(14, A a1), (15, I (a1.length : Int)), (16, I x7), (35, rf 0 0 4 x8), (37, A v12.fRow), (39, I v12.fMany)] [sl 0 x8, sc 0 v12] ?_
 obtain ⟨v16, hv17, h⟩ := bindS h
 refine opsP_callM (xs := [rf 0 0 4 x8, A v12.fRow, I v12.fMany]) (x := rf 2 0 4 v16) (bs := [⟨0, eL v16⟩]) τ 40 [0] (nx hX) (ok_impl_tell hv17) (by kernel_rfl) (OutL.cons (OutP.list (v := 0) (by kernel_rfl)) (OutL.cons (OutP.frz rfl) (OutL.cons (OutP.frz rfl) (OutL.nil _)))) (by decide) (by kernel_rfl) ?_
 refine veM [8] 1 47 [(6, rf 2 0 4 v16), (14, A a1), (15, I (a1.length : Int)), (16, I x7)] [none, sc 0 v12, sl 0 v16] ?_
 refine srvM [8] 1 47 [(6, rf 2 0 4 v16), (14, A a1), (15, I (a1.length : Int)), (16, I x7), (41, rf 2 0 4 v16)] [none, sc 0 v12, sl 0 v16] ?_
 obtain ⟨v18, hv19, h⟩ := bindS h
 refine opsP_callV (xs := [rf 2 0 4 v16]) τ 42 (ok_impl_TalliesOk hv19) (Blind.lit _) (FzTo.frz rfl) (by kernel_rfl) (ViewL.cons (View.whole (v := 0) v16 (by kernel_rfl) rfl) (ViewL.nil _)) ?_
 refine veM [8] 1 47 [(6, rf 2 0 4 v16), (14, A a1), (15, I (a1.length : Int)), (16, I x7), (43, B (!v18))] [none, sc 0 v12, sl 0 v16] ?_
 refine pc h (fun h => ?_) (fun h => ?_)
 refine srveM [8] 47 [(4, .arr 4 0 (eL ([] : List T_impl_Tally)) true), (5, B false)] [none, sc 0 v12, sl 0 v16] ?_
 refine ip 47 [(4, .arr 4 0 (eL ([] : List T_impl_Tally)) true), (5, B false)] [none, sc 0 v12, sl 0 v16] ?_
 refine pwp_imp (Imp.thawS (st' := ⟨47, [(4, .ref 3 0 0 4 ([] : List T_impl_Tally).length false), (5, B false)], [none, sc 0 v12, sl 0 v16, some ⟨0, dL ([] : List T_impl_Tally)⟩]⟩) 4 [4, 5] (by kernel_rfl)) ?_
 have h := si h
 subst h
 exact pwp_ret (rt (.tup [.ref 3 0 0 4 ([] : List T_impl_Tally).length false, B false]) (OutP.tup (OutL.cons (OutP.listD (v := 0) (by kernel_rfl)) (OutL.cons (OutP.frz (by kernel_rfl)) (OutL.nil _)))))
 refine pwp_skip ?_
 refine rveM [8] 47 [(6, rf 2 0 4 v16), (14, A a1), (15, I (a1.length : Int)), (16, I (w64 (x7 + 1)))] [none, sc 0 v12, sl 0 v16] ?_
 exact ⟨(f9, (w64 (x7 + 1)), v16), h, Nat.lt_succ_self _, qt (it (st' := ⟨47, [(6, rf 2 0 4 v16), (14, A a1), (15, I (a1.length : Int)), (16, I (w64 (x7 + 1)))], [none, sc 0 v12, sl 0 v16]⟩) [6, 14, 15, 16]) (qt (Imp.mvS (st' := ⟨47, [(6, rf 0 0 4 v16), (14, A a1), (15, I (a1.length : Int)), (16, I (w64 (x7 + 1)))], [sl 0 v16, sc 0 v12, none]⟩) 2 0 [6, 14, 15, 16] (nx hX) (v := 0) (cs := eL v16) (by kernel_rfl) (by kernel_rfl) (by exact (And.intro (rfl) (And.intro (eL_frz _) trivial))) (by kernel_rfl) (by kernel_rfl)) (Imp.truncS 1 (nx hX) (by kernel_rfl) (allBelow_mem (by exact (And.intro rfl (And.intro rfl (And.intro rfl (And.intro rfl trivial)))))) (by exact (And.intro (frz_below (eL_frz _)) trivial)) (by kernel_rfl)))⟩
 refine pwp_exit ?_
 refine srvM [8] 1 47 [(45, rf 0 0 4 x8)] [sl 0 x8] ?_
 obtain ⟨v27, hv28, h⟩ := bindS h
 refine opsP_E (dd := some 46) (x := rf 1 0 4 v27) (callVN_E (xs := [rf 0 0 4 x8]) τ 46 1 (nx hX) (by kernel_rfl) (ok_impl_tallies_D hv28) (Blind.OD _) (by kernel_rfl) (ViewL.cons (View.whole (v := 0) x8 (by kernel_rfl) rfl) (ViewL.nil _))) ?_
 refine veM [8] 2 47 [(4, rf 1 0 4 v27), (5, B true)] [sl 0 x8, some ⟨0, dL v27⟩] ?_
 have h := si h
 subst h
 exact pwp_ret (rt (.tup [rf 1 0 4 v27, B true]) (OutP.tup (OutL.cons (OutP.listD (v := 0) (by kernel_rfl)) (OutL.cons (OutP.frz (by kernel_rfl)) (OutL.nil _)))))
def laws_FnExactTalliesTurned_j2 (v37 : Int × List T_impl_Tally) (x49 : Bool) : Option Bool := bif x49 then some false else (laws_heldTallyS v37.2 1).bind fun v51 => bif (decide (v51 < 0)) then some false else bif (!(v51 == v37.1)) then some false else some true
def laws_FnExactTalliesTurned_j1 (a0 : List T_laws_Tally) (a1 : List T_laws_Delta) (v11 : (List T_impl_Tally) × Bool) (v17 : (List T_impl_Tally) × Bool) (x35 : Bool) : Option Bool := bif x35 then some false else (laws_markTallyS v17.1 1).bind fun v37 => (laws_heldTallyS v37.2 1).bind fun v39 => bif (decide (v39 < 0)) then some false else bif (!(v39 == v37.1)) then some false else (laws_toTallyS_D a0).bind fun v43 => (laws_toDeltaS_D a1).bind fun v45 => (impl_TalliesTurned_D v43 v45).bind fun v47 => (laws_eqTallyS v47.1 v11.1).bind fun v55 => bif (!v55) then laws_FnExactTalliesTurned_j2 v37 true else laws_FnExactTalliesTurned_j2 v37 (!(v47.2 == v11.2))
def laws_FnExactTalliesTurned_j0 (a0 : List T_laws_Tally) (a1 : List T_laws_Delta) (v11 : (List T_impl_Tally) × Bool) (v13 : List T_impl_Tally) (v15 : List T_impl_Delta) (v17 : (List T_impl_Tally) × Bool) (x19 : Bool) : Option Bool := bif x19 then some false else (laws_toTallyS_D a0).bind fun v21 => (laws_eqTallyS v13 v21).bind fun v23 => bif (!v23) then some false else (laws_toDeltaS_D a1).bind fun v26 => (laws_eqDeltaS v15 v26).bind fun v28 => bif (!v28) then some false else (laws_markTallyS v13 1).bind fun v31 => (laws_markDeltaS v15 v31.1).bind fun v33 => bif (decide (v33.1 < 0)) then laws_FnExactTalliesTurned_j1 a0 a1 v11 v17 true else (laws_eqTallyS v17.1 v11.1).bind fun v58 => bif (!v58) then laws_FnExactTalliesTurned_j1 a0 a1 v11 v17 true else laws_FnExactTalliesTurned_j1 a0 a1 v11 v17 (!(v17.2 == v11.2))
def laws_FnExactTalliesTurned (a0 : List T_laws_Tally) (a1 : List T_laws_Delta) : Option Bool := (laws_szTallyS a0 1048576).bind fun v1 => bif (decide (v1 < 0)) then some true else (laws_szDeltaS a1 v1).bind fun v4 => bif (decide (v4 < 0)) then some true else (laws_toTallyS_D a0).bind fun v7 => (laws_toDeltaS_D a1).bind fun v9 => (spec_TalliesTurned v7 v9).bind fun v11 => (laws_toTallyS_D a0).bind fun v13 => (laws_toDeltaS_D a1).bind fun v15 => (impl_TalliesTurned_D v13 v15).bind fun v17 => (laws_eqTallyS v17.1 v11.1).bind fun v62 => bif (!v62) then laws_FnExactTalliesTurned_j0 a0 a1 v11 v13 v15 v17 true else laws_FnExactTalliesTurned_j0 a0 a1 v11 v13 v15 v17 (!(v17.2 == v11.2))
theorem ok_laws_FnExactTalliesTurned {a0 : List T_laws_Tally} {a1 : List T_laws_Delta} {y : Bool} (h : laws_FnExactTalliesTurned a0 a1 = some y) : OK Try.prog 6 [A a0, A a1] (B y) := by
 refine ow Try.func6 fun Γ hX => ?_
 unfold laws_FnExactTalliesTurned at h
 refine srve 119 [(0, A a0), (1, A a1)] [] ?_
 refine srve 119 [(0, A a0), (1, A a1), (5, I 1048576)] [] ?_
 refine srv 2 119 [(0, A a0), (1, A a1), (17, A a0), (18, I 1048576)] [] ?_
 obtain ⟨v1, hv2, h⟩ := bindS h
 refine cF 19 (ok_laws_szTallyS hv2) ?_
 refine ve 1 119 [(0, A a0), (1, A a1), (5, I v1)] [] ?_
 refine pwp_seq ?_
 refine srve 119 [(0, A a0), (1, A a1), (5, I v1), (21, B (decide (v1 < 0)))] [] ?_
 refine pc h (fun h => ?_) (fun h => ?_)
 refine srve 119 [(4, B true)] [] ?_
 cases h
 exact pwp_ret rz
 refine pwp_skip ?_
 refine srv 2 119 [(0, A a0), (1, A a1), (22, A a1), (23, I v1)] [] ?_
 obtain ⟨v4, hv5, h⟩ := bindS h
 refine cF 24 (ok_laws_szDeltaS hv5) ?_
 refine ve 1 119 [(0, A a0), (1, A a1), (5, I v4)] [] ?_
 refine pwp_seq ?_
 refine srve 119 [(0, A a0), (1, A a1), (26, B (decide (v4 < 0)))] [] ?_
 refine pc h (fun h => ?_) (fun h => ?_)
 refine srve 119 [(4, B true)] [] ?_
 cases h
 exact pwp_ret rz
 refine pwp_skip ?_
 refine srv 1 119 [(0, A a0), (1, A a1), (28, A a0)] [] ?_
 obtain ⟨v7, hv8, h⟩ := bindS h
 refine opsP_callF τ 29 (ok_laws_toTallyS_D hv8) (FzTo.OD _) rfl (by kernel_rfl) ?_
 refine v 1 119 [(0, A a0), (1, A a1), (29, A v7), (30, A a1)] [] ?_
 obtain ⟨v9, hv10, h⟩ := bindS h
 refine opsP_callF τ 31 (ok_laws_toDeltaS_D hv10) (FzTo.OD _) rfl (by kernel_rfl) ?_
 obtain ⟨v11, hv12, h⟩ := bindS h
 refine opsP_callF τ 32 (ok_spec_TalliesTurned hv12) (FzTo.tup (FzToL.cons (FzTo.frz rfl) (FzToL.cons (FzTo.frz rfl) FzToL.nil))) rfl (by kernel_rfl) ?_
 refine ve 5 119 [(0, A a0), (1, A a1), (6, A v11.1), (7, B v11.2)] [] ?_
 refine srv 1 119 [(0, A a0), (1, A a1), (6, A v11.1), (7, B v11.2), (35, A a0)] [] ?_
 obtain ⟨v13, hv14, h⟩ := bindS h
 refine opsP_callO τ 36 (ok_laws_toTallyS_D hv14) rfl (by kernel_rfl) ?_
 refine ve 1 119 [(0, A a0), (1, A a1), (6, A v11.1), (7, B v11.2), (8, rf 0 0 4 v13)] [some ⟨0, dL v13⟩] ?_
 refine srv 1 119 [(0, A a0), (1, A a1), (6, A v11.1), (7, B v11.2), (8, rf 0 0 4 v13), (37, A a1)] [some ⟨0, dL v13⟩] ?_
 obtain ⟨v15, hv16, h⟩ := bindS h
 refine opsP_callO τ 38 (ok_laws_toDeltaS_D hv16) rfl (by kernel_rfl) ?_
 refine ve 1 119 [(0, A a0), (1, A a1), (6, A v11.1), (7, B v11.2), (8, rf 0 0 4 v13), (9, rf 1 0 2 v15)] [some ⟨0, dL v13⟩, some ⟨0, dL v15⟩] ?_
 refine srv 2 119 [(0, A a0), (1, A a1), (6, A v11.1), (7, B v11.2), (8, rf 0 0 4 v13), (9, rf 1 0 2 v15), (40, rf 0 0 4 v13), (41, rf 1 0 2 v15)] [some ⟨0, dL v13⟩, some ⟨0, dL v15⟩] ?_
 obtain ⟨v17, hv18, h⟩ := bindS h
 refine opsP_callVO (xs := [rf 0 0 4 v13, rf 1 0 2 v15]) τ 42 (ok_impl_TalliesTurned_D hv18) (Blind.tup (BlindL.cons (Blind.OD _) (BlindL.cons (Blind.lit _) BlindL.nil))) (by kernel_rfl) (ViewL.cons (View.deep (v := 0) v13 (by kernel_rfl) rfl) (ViewL.cons (View.deep (v := 0) v15 (by kernel_rfl) rfl) (ViewL.nil _))) ?_
 refine ve 5 119 [(0, A a0), (1, A a1), (6, A v11.1), (7, B v11.2), (8, rf 0 0 4 v13), (9, rf 1 0 2 v15), (10, rf 2 0 4 v17.1), (11, B v17.2)] [some ⟨0, dL v13⟩, some ⟨0, dL v15⟩, some ⟨0, dL v17.1⟩] ?_
 refine pwp_seq ?_
 refine pwp_seq ?_
 refine pwp_join (σ := Bool) (fun x19 => (⟨119, [(0, A a0), (1, A a1), (6, A v11.1), (7, B v11.2), (8, rf 0 0 4 v13), (9, rf 1 0 2 v15), (10, rf 2 0 4 v17.1), (11, B v17.2), (53, B x19)], [some ⟨0, dL v13⟩, some ⟨0, dL v15⟩, some ⟨0, dL v17.1⟩]⟩ : St)) (fun x19 => laws_FnExactTalliesTurned_j0 a0 a1 v11 v13 v15 v17 x19 = some y) ?_ ?_
 refine rv 2 119 [(0, A a0), (1, A a1), (6, A v11.1), (7, B v11.2), (8, rf 0 0 4 v13), (9, rf 1 0 2 v15), (10, rf 2 0 4 v17.1), (11, B v17.2), (45, rf 2 0 4 v17.1), (46, A v11.1)] [some ⟨0, dL v13⟩, some ⟨0, dL v15⟩, some ⟨0, dL v17.1⟩] ?_
 obtain ⟨v62, hv63, h⟩ := bindS h
 refine opsP_callV (xs := [rf 2 0 4 v17.1, A v11.1]) τ 47 (ok_laws_eqTallyS hv63) (Blind.lit _) (FzTo.frz rfl) (by kernel_rfl) (ViewL.cons (View.deep (v := 0) v17.1 (by kernel_rfl) rfl) (ViewL.cons (View.frz rfl) (ViewL.nil _))) ?_
 refine v 2 119 [(0, A a0), (1, A a1), (6, A v11.1), (7, B v11.2), (8, rf 0 0 4 v13), (9, rf 1 0 2 v15), (10, rf 2 0 4 v17.1), (11, B v17.2), (49, B (!v62))] [some ⟨0, dL v13⟩, some ⟨0, dL v15⟩, some ⟨0, dL v17.1⟩] ?_
 rcases fk (!v62) with hc64 | hc64
 replace h := bT hc64 h
 rw [hc64]
 refine ve 4 119 [(0, A a0), (1, A a1), (6, A v11.1), (7, B v11.2), (8, rf 0 0 4 v13), (9, rf 1 0 2 v15), (10, rf 2 0 4 v17.1), (11, B v17.2), (53, B true)] [some ⟨0, dL v13⟩, some ⟨0, dL v15⟩, some ⟨0, dL v17.1⟩] ?_
 exact ⟨true, h, it [0, 1, 6, 7, 8, 9, 10, 11, 53]⟩
 replace h := bF hc64 h
 rw [hc64]
 refine ve 4 119 [(0, A a0), (1, A a1), (6, A v11.1), (7, B v11.2), (8, rf 0 0 4 v13), (9, rf 1 0 2 v15), (10, rf 2 0 4 v17.1), (11, B v17.2), (53, B (!(v17.2 == v11.2)))] [some ⟨0, dL v13⟩, some ⟨0, dL v15⟩, some ⟨0, dL v17.1⟩] ?_
 exact ⟨(!(v17.2 == v11.2)), h, it [0, 1, 6, 7, 8, 9, 10, 11, 53]⟩
 rintro x19 h
 unfold laws_FnExactTalliesTurned_j0 at h
 refine pc h (fun h => ?_) (fun h => ?_)
 refine srve 119 [(4, B false)] [some ⟨0, dL v13⟩, some ⟨0, dL v15⟩, some ⟨0, dL v17.1⟩] ?_
 cases h
 exact pwp_ret rz
 refine pwp_skip ?_
 refine pwp_seq ?_
 refine srv 2 119 [(0, A a0), (1, A a1), (6, A v11.1), (7, B v11.2), (8, rf 0 0 4 v13), (9, rf 1 0 2 v15), (10, rf 2 0 4 v17.1), (11, B v17.2), (54, rf 0 0 4 v13), (55, A a0)] [some ⟨0, dL v13⟩, some ⟨0, dL v15⟩, some ⟨0, dL v17.1⟩] ?_
 obtain ⟨v21, hv22, h⟩ := bindS h
 refine opsP_callF τ 56 (ok_laws_toTallyS_D hv22) (FzTo.OD _) rfl (by kernel_rfl) ?_
 obtain ⟨v23, hv24, h⟩ := bindS h
 refine opsP_callV (xs := [rf 0 0 4 v13, A v21]) τ 57 (ok_laws_eqTallyS hv24) (Blind.lit _) (FzTo.frz rfl) (by kernel_rfl) (ViewL.cons (View.deep (v := 0) v13 (by kernel_rfl) rfl) (ViewL.cons (View.frz rfl) (ViewL.nil _))) ?_
 refine ve 1 119 [(0, A a0), (1, A a1), (6, A v11.1), (7, B v11.2), (8, rf 0 0 4 v13), (9, rf 1 0 2 v15), (10, rf 2 0 4 v17.1), (11, B v17.2), (58, B (!v23))] [some ⟨0, dL v13⟩, some ⟨0, dL v15⟩, some ⟨0, dL v17.1⟩] ?_
 refine pc h (fun h => ?_) (fun h => ?_)
 refine srve 119 [(4, B false)] [some ⟨0, dL v13⟩, some ⟨0, dL v15⟩, some ⟨0, dL v17.1⟩] ?_
 cases h
 exact pwp_ret rz
 refine pwp_skip ?_
 refine pwp_seq ?_
 refine srv 2 119 [(0, A a0), (1, A a1), (6, A v11.1), (7, B v11.2), (8, rf 0 0 4 v13), (9, rf 1 0 2 v15), (10, rf 2 0 4 v17.1), (11, B v17.2), (59, rf 1 0 2 v15), (60, A a1)] [some ⟨0, dL v13⟩, some ⟨0, dL v15⟩, some ⟨0, dL v17.1⟩] ?_
 obtain ⟨v26, hv27, h⟩ := bindS h
 refine opsP_callF τ 61 (ok_laws_toDeltaS_D hv27) (FzTo.OD _) rfl (by kernel_rfl) ?_
 obtain ⟨v28, hv29, h⟩ := bindS h
 refine opsP_callV (xs := [rf 1 0 2 v15, A v26]) τ 62 (ok_laws_eqDeltaS hv29) (Blind.lit _) (FzTo.frz rfl) (by kernel_rfl) (ViewL.cons (View.deep (v := 0) v15 (by kernel_rfl) rfl) (ViewL.cons (View.frz rfl) (ViewL.nil _))) ?_
 refine ve 1 119 [(0, A a0), (1, A a1), (6, A v11.1), (7, B v11.2), (8, rf 0 0 4 v13), (9, rf 1 0 2 v15), (10, rf 2 0 4 v17.1), (11, B v17.2), (63, B (!v28))] [some ⟨0, dL v13⟩, some ⟨0, dL v15⟩, some ⟨0, dL v17.1⟩] ?_
 refine pc h (fun h => ?_) (fun h => ?_)
 refine srve 119 [(4, B false)] [some ⟨0, dL v13⟩, some ⟨0, dL v15⟩, some ⟨0, dL v17.1⟩] ?_
 cases h
 exact pwp_ret rz
 refine pwp_skip ?_
 refine srve 119 [(0, A a0), (1, A a1), (6, A v11.1), (7, B v11.2), (8, rf 0 0 4 v13), (9, rf 1 0 2 v15), (10, rf 2 0 4 v17.1), (11, B v17.2), (12, I 1)] [some ⟨0, dL v13⟩, some ⟨0, dL v15⟩, some ⟨0, dL v17.1⟩] ?_
 refine srv 2 119 [(0, A a0), (1, A a1), (6, A v11.1), (7, B v11.2), (9, rf 1 0 2 v15), (10, rf 2 0 4 v17.1), (11, B v17.2), (64, rf 0 0 4 v13), (65, I 1)] [some ⟨0, dL v13⟩, some ⟨0, dL v15⟩, some ⟨0, dL v17.1⟩] ?_
 obtain ⟨v31, hv32, h⟩ := bindS h
 refine opsP_E (dd := some 66) (x := I v31.1) (callD_E τ 66 0 0 (ok_laws_markTallyS hv32) (by kernel_rfl)) ?_
 refine io 119 [(0, A a0), (1, A a1), (6, A v11.1), (7, B v11.2), (9, rf 1 0 2 v15), (10, rf 2 0 4 v17.1), (11, B v17.2), (64, rf 0 0 4 v13), (65, I 1), (66, I v31.1)] [some ⟨0, dL v31.2⟩, some ⟨0, dL v15⟩, some ⟨0, dL v17.1⟩] ?_
 refine opsP_ren (st' := ⟨119, [(0, A a0), (1, A a1), (6, A v11.1), (7, B v11.2), (9, rf 1 0 2 v15), (10, rf 2 0 4 v17.1), (11, B v17.2), (64, rf 0 0 4 v31.2), (65, I 1), (66, I v31.1)], [some ⟨0, dL v31.2⟩, some ⟨0, dL v15⟩, some ⟨0, dL v17.1⟩]⟩) 0 v31.2.length (renC trivial (renC trivial (renC trivial (renC trivial (renC (ren_ne rfl) (renC (ren_ne rfl) (renC trivial (renC (ren_ref (len_laws_markTallyS hv32).symm) (renC trivial (renC trivial renC0)))))))))) (by kernel_rfl) ?_
 refine ve 1 119 [(0, A a0), (1, A a1), (6, A v11.1), (7, B v11.2), (9, rf 1 0 2 v15), (10, rf 2 0 4 v17.1), (11, B v17.2), (12, I v31.1)] [some ⟨0, dL v31.2⟩, some ⟨0, dL v15⟩, some ⟨0, dL v17.1⟩] ?_
 refine srv 2 119 [(0, A a0), (1, A a1), (6, A v11.1), (7, B v11.2), (10, rf 2 0 4 v17.1), (11, B v17.2), (67, rf 1 0 2 v15), (68, I v31.1)] [some ⟨0, dL v31.2⟩, some ⟨0, dL v15⟩, some ⟨0, dL v17.1⟩] ?_
 obtain ⟨v33, hv34, h⟩ := bindS h
 refine opsP_E (dd := some 69) (x := I v33.1) (callD_E τ 69 1 0 (ok_laws_markDeltaS hv34) (by kernel_rfl)) ?_
 refine io 119 [(0, A a0), (1, A a1), (6, A v11.1), (7, B v11.2), (10, rf 2 0 4 v17.1), (11, B v17.2), (67, rf 1 0 2 v15), (68, I v31.1), (69, I v33.1)] [some ⟨0, dL v31.2⟩, some ⟨0, dL v33.2⟩, some ⟨0, dL v17.1⟩] ?_
 refine opsP_ren (st' := ⟨119, [(0, A a0), (1, A a1), (6, A v11.1), (7, B v11.2), (10, rf 2 0 4 v17.1), (11, B v17.2), (67, rf 1 0 2 v33.2), (68, I v31.1), (69, I v33.1)], [some ⟨0, dL v31.2⟩, some ⟨0, dL v33.2⟩, some ⟨0, dL v17.1⟩]⟩) 1 v33.2.length (renC trivial (renC trivial (renC trivial (renC trivial (renC (ren_ne rfl) (renC trivial (renC (ren_ref (len_laws_markDeltaS hv34).symm) (renC trivial (renC trivial renC0))))))))) (by kernel_rfl) ?_
 refine ve 1 119 [(0, A a0), (1, A a1), (6, A v11.1), (7, B v11.2), (10, rf 2 0 4 v17.1), (11, B v17.2), (12, I v33.1)] [some ⟨0, dL v31.2⟩, some ⟨0, dL v33.2⟩, some ⟨0, dL v17.1⟩] ?_
 refine pwp_seq ?_
 refine pwp_seq ?_
 refine pwp_join (σ := Bool) (fun x35 => (⟨119, [(0, A a0), (1, A a1), (6, A v11.1), (7, B v11.2), (10, rf 2 0 4 v17.1), (82, B x35)], [some ⟨0, dL v31.2⟩, some ⟨0, dL v33.2⟩, some ⟨0, dL v17.1⟩]⟩ : St)) (fun x35 => laws_FnExactTalliesTurned_j1 a0 a1 v11 v17 x35 = some y) ?_ ?_
 refine rv 3 119 [(0, A a0), (1, A a1), (6, A v11.1), (7, B v11.2), (10, rf 2 0 4 v17.1), (11, B v17.2), (72, B (decide (v33.1 < 0)))] [some ⟨0, dL v31.2⟩, some ⟨0, dL v33.2⟩, some ⟨0, dL v17.1⟩] ?_
 rcases fk (decide (v33.1 < 0)) with hc61 | hc61
 replace h := bT hc61 h
 rw [hc61]
 refine ve 10 119 [(0, A a0), (1, A a1), (6, A v11.1), (7, B v11.2), (10, rf 2 0 4 v17.1), (82, B true)] [some ⟨0, dL v31.2⟩, some ⟨0, dL v33.2⟩, some ⟨0, dL v17.1⟩] ?_
 exact ⟨true, h, it [0, 1, 6, 7, 10, 82]⟩
 replace h := bF hc61 h
 rw [hc61]
 refine v 2 119 [(0, A a0), (1, A a1), (6, A v11.1), (7, B v11.2), (10, rf 2 0 4 v17.1), (11, B v17.2), (72, B false), (73, rf 2 0 4 v17.1), (74, A v11.1)] [some ⟨0, dL v31.2⟩, some ⟨0, dL v33.2⟩, some ⟨0, dL v17.1⟩] ?_
 obtain ⟨v58, hv59, h⟩ := bindS h
 refine opsP_callV (xs := [rf 2 0 4 v17.1, A v11.1]) τ 75 (ok_laws_eqTallyS hv59) (Blind.lit _) (FzTo.frz rfl) (by kernel_rfl) (ViewL.cons (View.deep (v := 0) v17.1 (by kernel_rfl) rfl) (ViewL.cons (View.frz rfl) (ViewL.nil _))) ?_
 refine v 3 119 [(0, A a0), (1, A a1), (6, A v11.1), (7, B v11.2), (10, rf 2 0 4 v17.1), (11, B v17.2), (78, B (!v58))] [some ⟨0, dL v31.2⟩, some ⟨0, dL v33.2⟩, some ⟨0, dL v17.1⟩] ?_
 rcases fk (!v58) with hc60 | hc60
 replace h := bT hc60 h
 rw [hc60]
 refine ve 4 119 [(0, A a0), (1, A a1), (6, A v11.1), (7, B v11.2), (10, rf 2 0 4 v17.1), (82, B true)] [some ⟨0, dL v31.2⟩, some ⟨0, dL v33.2⟩, some ⟨0, dL v17.1⟩] ?_
 exact ⟨true, h, it [0, 1, 6, 7, 10, 82]⟩
 replace h := bF hc60 h
 rw [hc60]
 refine ve 4 119 [(0, A a0), (1, A a1), (6, A v11.1), (7, B v11.2), (10, rf 2 0 4 v17.1), (82, B (!(v17.2 == v11.2)))] [some ⟨0, dL v31.2⟩, some ⟨0, dL v33.2⟩, some ⟨0, dL v17.1⟩] ?_
 exact ⟨(!(v17.2 == v11.2)), h, it [0, 1, 6, 7, 10, 82]⟩
 rintro x35 h
 unfold laws_FnExactTalliesTurned_j1 at h
 refine pc h (fun h => ?_) (fun h => ?_)
 refine srve 119 [(4, B false)] [some ⟨0, dL v31.2⟩, some ⟨0, dL v33.2⟩, some ⟨0, dL v17.1⟩] ?_
 cases h
 exact pwp_ret rz
 refine pwp_skip ?_
 refine srve 119 [(0, A a0), (1, A a1), (6, A v11.1), (7, B v11.2), (10, rf 2 0 4 v17.1), (13, I 1)] [some ⟨0, dL v31.2⟩, some ⟨0, dL v33.2⟩, some ⟨0, dL v17.1⟩] ?_
 refine srv 2 119 [(0, A a0), (1, A a1), (6, A v11.1), (7, B v11.2), (10, rf 2 0 4 v17.1), (83, rf 2 0 4 v17.1), (84, I 1)] [some ⟨0, dL v31.2⟩, some ⟨0, dL v33.2⟩, some ⟨0, dL v17.1⟩] ?_
 obtain ⟨v37, hv38, h⟩ := bindS h
 refine opsP_E (dd := some 85) (x := I v37.1) (callD_E τ 85 2 0 (ok_laws_markTallyS hv38) (by kernel_rfl)) ?_
 refine io 119 [(0, A a0), (1, A a1), (6, A v11.1), (7, B v11.2), (10, rf 2 0 4 v17.1), (83, rf 2 0 4 v17.1), (84, I 1), (85, I v37.1)] [some ⟨0, dL v31.2⟩, some ⟨0, dL v33.2⟩, some ⟨0, dL v37.2⟩] ?_
 refine opsP_ren (st' := ⟨119, [(0, A a0), (1, A a1), (6, A v11.1), (7, B v11.2), (10, rf 2 0 4 v37.2), (83, rf 2 0 4 v37.2), (84, I 1), (85, I v37.1)], [some ⟨0, dL v31.2⟩, some ⟨0, dL v33.2⟩, some ⟨0, dL v37.2⟩]⟩) 2 v37.2.length (renC trivial (renC trivial (renC trivial (renC trivial (renC (ren_ref (len_laws_markTallyS hv38).symm) (renC (ren_ref (len_laws_markTallyS hv38).symm) (renC trivial (renC trivial renC0)))))))) (by kernel_rfl) ?_
 refine ve 1 119 [(0, A a0), (1, A a1), (6, A v11.1), (7, B v11.2), (10, rf 2 0 4 v37.2), (13, I v37.1)] [some ⟨0, dL v31.2⟩, some ⟨0, dL v33.2⟩, some ⟨0, dL v37.2⟩] ?_
 refine srve 119 [(0, A a0), (1, A a1), (6, A v11.1), (7, B v11.2), (10, rf 2 0 4 v37.2), (13, I v37.1), (14, I 1)] [some ⟨0, dL v31.2⟩, some ⟨0, dL v33.2⟩, some ⟨0, dL v37.2⟩] ?_
 refine srv 2 119 [(0, A a0), (1, A a1), (6, A v11.1), (7, B v11.2), (10, rf 2 0 4 v37.2), (13, I v37.1), (86, rf 2 0 4 v37.2), (87, I 1)] [some ⟨0, dL v31.2⟩, some ⟨0, dL v33.2⟩, some ⟨0, dL v37.2⟩] ?_
 obtain ⟨v39, hv40, h⟩ := bindS h
 refine opsP_callV (xs := [rf 2 0 4 v37.2, I 1]) τ 88 (ok_laws_heldTallyS hv40) (Blind.lit _) (FzTo.frz rfl) (by kernel_rfl) (ViewL.cons (View.deep (v := 0) v37.2 (by kernel_rfl) rfl) (ViewL.cons (View.frz rfl) (ViewL.nil _))) ?_
 refine ve 1 119 [(0, A a0), (1, A a1), (6, A v11.1), (7, B v11.2), (10, rf 2 0 4 v37.2), (13, I v37.1), (14, I v39)] [some ⟨0, dL v31.2⟩, some ⟨0, dL v33.2⟩, some ⟨0, dL v37.2⟩] ?_
 refine pwp_seq ?_
 refine srve 119 [(0, A a0), (1, A a1), (6, A v11.1), (7, B v11.2), (10, rf 2 0 4 v37.2), (13, I v37.1), (14, I v39), (90, B (decide (v39 < 0)))] [some ⟨0, dL v31.2⟩, some ⟨0, dL v33.2⟩, some ⟨0, dL v37.2⟩] ?_
 refine pc h (fun h => ?_) (fun h => ?_)
 refine srve 119 [(4, B false)] [some ⟨0, dL v31.2⟩, some ⟨0, dL v33.2⟩, some ⟨0, dL v37.2⟩] ?_
 cases h
 exact pwp_ret rz
 refine pwp_skip ?_
 refine pwp_seq ?_
 refine srve 119 [(0, A a0), (1, A a1), (6, A v11.1), (7, B v11.2), (10, rf 2 0 4 v37.2), (13, I v37.1), (93, B (!(v39 == v37.1)))] [some ⟨0, dL v31.2⟩, some ⟨0, dL v33.2⟩, some ⟨0, dL v37.2⟩] ?_
 refine pc h (fun h => ?_) (fun h => ?_)
 refine srve 119 [(4, B false)] [some ⟨0, dL v31.2⟩, some ⟨0, dL v33.2⟩, some ⟨0, dL v37.2⟩] ?_
 cases h
 exact pwp_ret rz
 refine pwp_skip ?_
 refine srv 1 119 [(1, A a1), (6, A v11.1), (7, B v11.2), (10, rf 2 0 4 v37.2), (13, I v37.1), (95, A a0)] [some ⟨0, dL v31.2⟩, some ⟨0, dL v33.2⟩, some ⟨0, dL v37.2⟩] ?_
 obtain ⟨v43, hv44, h⟩ := bindS h
 refine opsP_callF τ 96 (ok_laws_toTallyS_D hv44) (FzTo.OD _) rfl (by kernel_rfl) ?_
 refine v 1 119 [(6, A v11.1), (7, B v11.2), (10, rf 2 0 4 v37.2), (13, I v37.1), (96, A v43), (97, A a1)] [some ⟨0, dL v31.2⟩, some ⟨0, dL v33.2⟩, some ⟨0, dL v37.2⟩] ?_
 obtain ⟨v45, hv46, h⟩ := bindS h
 refine opsP_callF τ 98 (ok_laws_toDeltaS_D hv46) (FzTo.OD _) rfl (by kernel_rfl) ?_
 obtain ⟨v47, hv48, h⟩ := bindS h
 refine opsP_callF τ 99 (ok_impl_TalliesTurned_D hv48) (FzTo.tup (FzToL.cons (FzTo.OD _) (FzToL.cons (FzTo.frz rfl) FzToL.nil))) rfl (by kernel_rfl) ?_
 refine ve 5 119 [(6, A v11.1), (7, B v11.2), (10, rf 2 0 4 v37.2), (13, I v37.1), (15, A v47.1), (16, B v47.2)] [some ⟨0, dL v31.2⟩, some ⟨0, dL v33.2⟩, some ⟨0, dL v37.2⟩] ?_
 refine pwp_seq ?_
 refine pwp_seq ?_
 refine pwp_join (σ := Bool) (fun x49 => (⟨119, [(10, rf 2 0 4 v37.2), (13, I v37.1), (110, B x49)], [some ⟨0, dL v31.2⟩, some ⟨0, dL v33.2⟩, some ⟨0, dL v37.2⟩]⟩ : St)) (fun x49 => laws_FnExactTalliesTurned_j2 v37 x49 = some y) ?_ ?_
 refine rv 2 119 [(7, B v11.2), (10, rf 2 0 4 v37.2), (13, I v37.1), (16, B v47.2), (102, A v47.1), (103, A v11.1)] [some ⟨0, dL v31.2⟩, some ⟨0, dL v33.2⟩, some ⟨0, dL v37.2⟩] ?_
 obtain ⟨v55, hv56, h⟩ := bindS h
 refine cF 104 (ok_laws_eqTallyS hv56) ?_
 refine v 2 119 [(7, B v11.2), (10, rf 2 0 4 v37.2), (13, I v37.1), (16, B v47.2), (106, B (!v55))] [some ⟨0, dL v31.2⟩, some ⟨0, dL v33.2⟩, some ⟨0, dL v37.2⟩] ?_
 rcases fk (!v55) with hc57 | hc57
 replace h := bT hc57 h
 rw [hc57]
 refine ve 4 119 [(10, rf 2 0 4 v37.2), (13, I v37.1), (110, B true)] [some ⟨0, dL v31.2⟩, some ⟨0, dL v33.2⟩, some ⟨0, dL v37.2⟩] ?_
 exact ⟨true, h, it [10, 13, 110]⟩
 replace h := bF hc57 h
 rw [hc57]
 refine ve 4 119 [(10, rf 2 0 4 v37.2), (13, I v37.1), (110, B (!(v47.2 == v11.2)))] [some ⟨0, dL v31.2⟩, some ⟨0, dL v33.2⟩, some ⟨0, dL v37.2⟩] ?_
 exact ⟨(!(v47.2 == v11.2)), h, it [10, 13, 110]⟩
 rintro x49 h
 unfold laws_FnExactTalliesTurned_j2 at h
 refine pc h (fun h => ?_) (fun h => ?_)
 refine srve 119 [(4, B false)] [some ⟨0, dL v31.2⟩, some ⟨0, dL v33.2⟩, some ⟨0, dL v37.2⟩] ?_
 cases h
 exact pwp_ret rz
 refine pwp_skip ?_
 refine srve 119 [(10, rf 2 0 4 v37.2), (13, I v37.1), (14, I 1)] [some ⟨0, dL v31.2⟩, some ⟨0, dL v33.2⟩, some ⟨0, dL v37.2⟩] ?_
 refine srv 2 119 [(13, I v37.1), (111, rf 2 0 4 v37.2), (112, I 1)] [some ⟨0, dL v31.2⟩, some ⟨0, dL v33.2⟩, some ⟨0, dL v37.2⟩] ?_
 obtain ⟨v51, hv52, h⟩ := bindS h
 refine opsP_callV (xs := [rf 2 0 4 v37.2, I 1]) τ 113 (ok_laws_heldTallyS hv52) (Blind.lit _) (FzTo.frz rfl) (by kernel_rfl) (ViewL.cons (View.deep (v := 0) v37.2 (by kernel_rfl) rfl) (ViewL.cons (View.frz rfl) (ViewL.nil _))) ?_
 refine ve 1 119 [(13, I v37.1), (14, I v51)] [some ⟨0, dL v31.2⟩, some ⟨0, dL v33.2⟩, some ⟨0, dL v37.2⟩] ?_
 refine pwp_seq ?_
 refine srve 119 [(13, I v37.1), (14, I v51), (115, B (decide (v51 < 0)))] [some ⟨0, dL v31.2⟩, some ⟨0, dL v33.2⟩, some ⟨0, dL v37.2⟩] ?_
 refine pc h (fun h => ?_) (fun h => ?_)
 refine srve 119 [(4, B false)] [some ⟨0, dL v31.2⟩, some ⟨0, dL v33.2⟩, some ⟨0, dL v37.2⟩] ?_
 cases h
 exact pwp_ret rz
 refine pwp_skip ?_
 refine pwp_seq ?_
 refine srve 119 [(118, B (!(v51 == v37.1)))] [some ⟨0, dL v31.2⟩, some ⟨0, dL v33.2⟩, some ⟨0, dL v37.2⟩] ?_
 refine pc h (fun h => ?_) (fun h => ?_)
 refine srve 119 [(4, B false)] [some ⟨0, dL v31.2⟩, some ⟨0, dL v33.2⟩, some ⟨0, dL v37.2⟩] ?_
 cases h
 exact pwp_ret rz
 refine pwp_skip ?_
 refine srve 119 [(4, B true)] [some ⟨0, dL v31.2⟩, some ⟨0, dL v33.2⟩, some ⟨0, dL v37.2⟩] ?_
 cases h
 exact pwp_ret rz
end Go.D
