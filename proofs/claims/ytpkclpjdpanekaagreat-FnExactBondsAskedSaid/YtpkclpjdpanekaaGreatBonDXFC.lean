import Derived.Test.YtpkclpjdpanekaaGreatBonDXFB
import Derived.KernelRfl
set_option linter.unusedVariables false
set_option linter.unusedSimpArgs false
namespace Go.D
open Go.Proofs
theorem ok_laws_toBondS_D {a0 : List T_laws_Bond} {y : List T_impl_Bond} (h : laws_toBondS_D a0 = some y) : OK Tryz.prog 14 [A a0] (OD y) := by
  refine OK_of_pwp τ_ok Tryz.func14 rfl (by kernel_rfl) rfl fun Γ hX => ?_
  unfold laws_toBondS_D at h
  refine srve 23 [(0, A a0)] [] ?_
  refine srv 2 23 [(0, A a0), (6, I ((a0.length : Int)))] [] ?_
  obtain ⟨v1, hv2, h⟩ := bindS h
  refine opsP_E (dd := some 7) (x := .ref 0 0 0 7 v1.length false) (mkD_N τ_ok 7 0 93 (fun b hb => absurd hb (hX b)) (by kernel_rfl) _ hv2 dz_ok93 (by kernel_rfl)) ?_
  refine ve 1 23 [(0, A a0), (3, .ref 0 0 0 7 v1.length false)] [some ⟨0, dL v1⟩] ?_
  refine pwp_seq ?_
  refine srve 23 [(0, A a0), (3, .ref 0 0 0 7 v1.length false), (4, I 0)] [some ⟨0, dL v1⟩] ?_
  refine pwp_block ?_
  refine pwp_loop (ι := Nat × Int × (List T_impl_Bond)) (fun (f6, x4, x5) => (⟨23, [(0, A a0), (3, .ref 0 0 0 7 x5.length false), (4, I x4)], [some ⟨0, dL x5⟩]⟩ : St)) (fun (f6, x4, x5) => laws_toBondS_D_l0 a0 f6 x4 x5 = some y) (fun (f6, x4, x5) => f6) (FUEL, 0, v1) h ((Imp.to (st' := ⟨23, [(0, A a0), (3, .ref 0 0 0 7 v1.length false), (4, I 0)], [some ⟨0, dL v1⟩]⟩) [0, 3, 4] (by kernel_rfl)).trans (Imp.to [0, 3, 4] (by kernel_rfl))) ?_
  rintro ⟨f6, x4, x5⟩ h
  dsimp only at h ⊢
  rcases f6 with _ | f6
  cases h
  rw [laws_toBondS_D_l0] at h
  refine pwp_seq ?_
  refine srve 23 [(0, A a0), (3, .ref 0 0 0 7 x5.length false), (4, I x4), (11, B ((decide (x4 < ((a0.length : Int))))))] [some ⟨0, dL x5⟩] ?_
  refine pc h (fun h => ?_) (fun h => ?_)
  refine pwp_skip ?_
  refine pwp_seq ?_
  refine pwp_block ?_
  refine rv 4 23 [(0, A a0), (3, .ref 0 0 0 7 x5.length false), (4, I x4), (14, .ref 0 0 0 7 x5.length false), (15, I x4), (16, A a0), (17, I x4)] [some ⟨0, dL x5⟩] ?_
  obtain ⟨v9, hv10, h⟩ := bindS h
  refine opsP_idx τ_ok 18 hv10 (by kernel_rfl) ?_
  refine v 1 23 [(0, A a0), (3, .ref 0 0 0 7 x5.length false), (4, I x4), (14, .ref 0 0 0 7 x5.length false), (15, I x4), (19, E v9)] [some ⟨0, dL x5⟩] ?_
  obtain ⟨v11, hv12, h⟩ := bindS h
  refine opsP_callO τ 20 (ok_laws_toBond_D hv12) rfl (by kernel_rfl) ?_
  obtain ⟨v13, hv14, h⟩ := bindS h
  refine opsP_idr τ_ok 21 0 0 x5.length hv14 rfl (by kernel_rfl) ?_
  refine v 0 23 [(0, A a0), (3, .ref 0 0 0 7 x5.length false), (4, I x4), (20, .agg [I v11.fKind, I v11.fIn, .ref 1 0 0 1 v11.fList.length false, I v11.fOf, .ref 2 0 0 1 v11.fTo.length false, B v11.fFollow, .ref 3 0 0 5 v11.fE.length false]), (21, .ptr 0 0 (x4.toNat * 7))] [some ⟨0, dL x5⟩, some ⟨0, eL v11.fList⟩, some ⟨0, eL v11.fTo⟩, some ⟨0, eL v11.fE⟩] ?_
  refine opsP_E (dd := none) (x := .any) ((std_E (xs := x5) (vs := [I v11.fKind, I v11.fIn, .ref 1 0 0 1 v11.fList.length false, I v11.fOf, .ref 2 0 0 1 v11.fTo.length false, B v11.fFollow, .ref 3 0 0 5 v11.fE.length false]) (cells' := setL (dL x5) (x4.toNat * 7 + 0) [I v11.fKind, I v11.fIn, .ref 1 0 0 1 v11.fList.length false, I v11.fOf, .ref 2 0 0 1 v11.fTo.length false, B v11.fFollow, .ref 3 0 0 5 v11.fE.length false]) τ_ok 93 0 0 0 hv14 (by kernel_rfl) (by kernel_rfl) rfl).then (H2 := [some ⟨0, dL ((x5.set x4.toNat (({ (({ (({ v11 with fList := v11.fList }) : T_impl_Bond) with fTo := v11.fTo }) : T_impl_Bond) with fE := v11.fE } : T_impl_Bond))))⟩, some ⟨1, []⟩, some ⟨1, []⟩, some ⟨1, []⟩]) (HStep.nestL (xs := x5) (vs := [I v11.fKind, I v11.fIn, .ref 1 0 0 1 v11.fList.length false, I v11.fOf, .ref 2 0 0 1 v11.fTo.length false, B v11.fFollow, .ref 3 0 0 5 v11.fE.length false]) 0 0 0 (({ (({ (({ v11 with fList := v11.fList }) : T_impl_Bond) with fTo := v11.fTo }) : T_impl_Bond) with fE := v11.fE } : T_impl_Bond)) hv14 (by kernel_rfl) (OutL.cons (OutP.frz rfl) (OutL.cons (OutP.frz rfl) (OutL.cons (OutP.listn (v := 0) (xs := v11.fList) rfl (by kernel_rfl)) (OutL.cons (OutP.frz rfl) (OutL.cons (OutP.listn (v := 0) (xs := v11.fTo) rfl (by kernel_rfl)) (OutL.cons (OutP.frz rfl) (OutL.cons (OutP.listn (v := 0) (xs := v11.fE) rfl (by kernel_rfl)) (OutL.nil _)))))))) (by decide) (by decide) (fun b hb => absurd hb (hX b)) (by kernel_rfl) (by kernel_rfl) (by kernel_rfl) (by kernel_rfl))) ?_
  refine opsP_imp (Imp.to (st' := ⟨23, [(0, A a0), (3, .ref 0 0 0 7 x5.length false), (4, I x4)], [some ⟨0, dL ((x5.set x4.toNat (({ (({ (({ v11 with fList := v11.fList }) : T_impl_Bond) with fTo := v11.fTo }) : T_impl_Bond) with fE := v11.fE } : T_impl_Bond))))⟩, some ⟨1, []⟩, some ⟨1, []⟩, some ⟨1, []⟩]⟩) [0, 3, 4] (by kernel_rfl)) ?_
  refine opsP_ren (st' := ⟨23, [(0, A a0), (3, .ref 0 0 0 7 ((x5.set x4.toNat (({ (({ (({ v11 with fList := v11.fList }) : T_impl_Bond) with fTo := v11.fTo }) : T_impl_Bond) with fE := v11.fE } : T_impl_Bond)))).length false), (4, I x4)], [some ⟨0, dL ((x5.set x4.toNat (({ (({ (({ v11 with fList := v11.fList }) : T_impl_Bond) with fTo := v11.fTo }) : T_impl_Bond) with fE := v11.fE } : T_impl_Bond))))⟩, some ⟨1, []⟩, some ⟨1, []⟩, some ⟨1, []⟩]⟩) 0 ((x5.set x4.toNat (({ (({ (({ v11 with fList := v11.fList }) : T_impl_Bond) with fTo := v11.fTo }) : T_impl_Bond) with fE := v11.fE } : T_impl_Bond)))).length (renC trivial (renC (ren_ref (List.length_set ..).symm) (renC trivial renC0))) (by kernel_rfl) ?_
  refine ve 0 23 [(0, A a0), (3, .ref 0 0 0 7 ((x5.set x4.toNat (({ (({ (({ v11 with fList := v11.fList }) : T_impl_Bond) with fTo := v11.fTo }) : T_impl_Bond) with fE := v11.fE } : T_impl_Bond)))).length false), (4, I x4)] [some ⟨0, dL ((x5.set x4.toNat (({ (({ (({ v11 with fList := v11.fList }) : T_impl_Bond) with fTo := v11.fTo }) : T_impl_Bond) with fE := v11.fE } : T_impl_Bond))))⟩, some ⟨1, []⟩, some ⟨1, []⟩, some ⟨1, []⟩] ?_
  refine rve 23 [(0, A a0), (3, .ref 0 0 0 7 ((x5.set x4.toNat (({ (({ (({ v11 with fList := v11.fList }) : T_impl_Bond) with fTo := v11.fTo }) : T_impl_Bond) with fE := v11.fE } : T_impl_Bond)))).length false), (4, I ((w64 (x4 + 1))))] [some ⟨0, dL ((x5.set x4.toNat (({ (({ (({ v11 with fList := v11.fList }) : T_impl_Bond) with fTo := v11.fTo }) : T_impl_Bond) with fE := v11.fE } : T_impl_Bond))))⟩, some ⟨1, []⟩, some ⟨1, []⟩, some ⟨1, []⟩] ?_
  exact ⟨(f6, (w64 (x4 + 1)), (x5.set x4.toNat (({ (({ (({ v11 with fList := v11.fList }) : T_impl_Bond) with fTo := v11.fTo }) : T_impl_Bond) with fE := v11.fE } : T_impl_Bond)))), h, Nat.lt_succ_self _, (Imp.to (st' := ⟨23, [(0, A a0), (3, .ref 0 0 0 7 ((x5.set x4.toNat (({ (({ (({ v11 with fList := v11.fList }) : T_impl_Bond) with fTo := v11.fTo }) : T_impl_Bond) with fE := v11.fE } : T_impl_Bond)))).length false), (4, I ((w64 (x4 + 1))))], [some ⟨0, dL ((x5.set x4.toNat (({ (({ (({ v11 with fList := v11.fList }) : T_impl_Bond) with fTo := v11.fTo }) : T_impl_Bond) with fE := v11.fE } : T_impl_Bond))))⟩, some ⟨1, []⟩, some ⟨1, []⟩, some ⟨1, []⟩]⟩) [0, 3, 4] (by kernel_rfl)).trans ((Imp.truncS (st' := ⟨23, [(0, A a0), (3, .ref 0 0 0 7 ((x5.set x4.toNat (({ (({ (({ v11 with fList := v11.fList }) : T_impl_Bond) with fTo := v11.fTo }) : T_impl_Bond) with fE := v11.fE } : T_impl_Bond)))).length false), (4, I ((w64 (x4 + 1))))], [some ⟨0, dL ((x5.set x4.toNat (({ (({ (({ v11 with fList := v11.fList }) : T_impl_Bond) with fTo := v11.fTo }) : T_impl_Bond) with fE := v11.fE } : T_impl_Bond))))⟩]⟩) 1 (fun b hb => absurd hb (hX b)) (by kernel_rfl) (allBelow_mem (by exact (And.intro rfl (And.intro rfl (And.intro rfl trivial))))) (by exact (And.intro (dL_below _ _) trivial)) (by kernel_rfl)).trans (Imp.to [0, 3, 4] (by kernel_rfl)))⟩
  refine pwp_exit ?_
  refine srve 23 [(2, .ref 0 0 0 7 x5.length false)] [some ⟨0, dL x5⟩] ?_
  have h := si h
  subst h
  exact pwp_ret (rt (.ref 0 0 0 7 x5.length false) (OutP.listD (v := 0) (by kernel_rfl)))
def laws_toChange_D (a0 : T_laws_Change) : Option T_impl_Change := (laws_toValueS a0.fRow).bind fun v1 => some ({ (({ (({ ((T_impl_Change.mk 0 [] false)) with fIn := a0.fIn }) : T_impl_Change) with fCome := a0.fCome }) : T_impl_Change) with fRow := v1 })
theorem ok_laws_toChange_D {a0 : T_laws_Change} {y : T_impl_Change} (h : laws_toChange_D a0 = some y) : OK Tryz.prog 15 [E a0] (.agg (DEnc.cells y)) := by
  refine OK_of_pwp τ_ok Tryz.func15 rfl (by kernel_rfl) rfl fun Γ hX => ?_
  unfold laws_toChange_D at h
  refine srvM [1, 2, 3] 1 15 [(1, .ptr 0 0 0)] [some ⟨0, Enc.cells a0⟩] ?_
  refine opsP_imp (Imp.ghosts 1 (st' := ⟨15, [(1, .ptr 0 0 0)], [some ⟨0, Enc.cells a0⟩, some ⟨0, []⟩]⟩) (by kernel_rfl)) ?_
  refine opsP_E (dd := some 2) (x := .ptr 1 1 0) (alz_E (blk := ⟨0, []⟩) (zs := [.lit (.int .i64 0), .arr 3 0 [] true, .lit (.bool false)]) 2 38 1 0 (fun b hb => absurd hb (hX b)) zi_ok38 (by kernel_rfl) (by kernel_rfl)) ?_
  refine veM [1, 2, 3] 0 15 [(1, .ptr 0 0 0), (2, .ptr 1 1 0)] [some ⟨0, Enc.cells a0⟩, some ⟨1, [I ((T_impl_Change.mk 0 [] false).fIn), .arr 3 0 (eL ([] : List T_impl_Value)) true, B ((T_impl_Change.mk 0 [] false).fCome)]⟩] ?_
  refine srvM [1, 2, 3] 0 15 [(1, .ptr 0 0 0), (2, .ptr 1 1 0)] [some ⟨0, Enc.cells a0⟩, some ⟨1, [I ((T_impl_Change.mk 0 [] false).fIn), .arr 3 0 (eL ([] : List T_impl_Value)) true, B ((T_impl_Change.mk 0 [] false).fCome)]⟩] ?_
  refine opsP_imp (Imp.ghosts 1 (st' := ⟨15, [(1, .ptr 0 0 0), (2, .ptr 1 1 0)], [some ⟨0, Enc.cells a0⟩, some ⟨1, [I ((T_impl_Change.mk 0 [] false).fIn), .arr 3 0 (eL ([] : List T_impl_Value)) true, B ((T_impl_Change.mk 0 [] false).fCome)]⟩, some ⟨0, []⟩]⟩) (by kernel_rfl)) ?_
  refine opsP_E (dd := some 3) (x := .ptr 2 1 0) (alz_E (blk := ⟨0, []⟩) (zs := [.lit (.int .i64 0), .arr 3 0 [] true, .lit (.bool false)]) 3 38 2 0 (fun b hb => absurd hb (hX b)) zi_ok38 (by kernel_rfl) (by kernel_rfl)) ?_
  refine veM [1, 2, 3] 0 15 [(1, .ptr 0 0 0), (2, .ptr 1 1 0), (3, .ptr 2 1 0)] [some ⟨0, Enc.cells a0⟩, some ⟨1, [I ((T_impl_Change.mk 0 [] false).fIn), .arr 3 0 (eL ([] : List T_impl_Value)) true, B ((T_impl_Change.mk 0 [] false).fCome)]⟩, some ⟨1, [I ((T_impl_Change.mk 0 [] false).fIn), .arr 3 0 (eL ([] : List T_impl_Value)) true, B ((T_impl_Change.mk 0 [] false).fCome)]⟩] ?_
  refine srveM [1, 2, 3] 15 [(1, .ptr 0 0 0), (2, .ptr 1 1 0), (3, .ptr 2 1 0)] [some ⟨0, Enc.cells a0⟩, some ⟨1, [I ((T_impl_Change.mk 0 [] false).fIn), .arr 3 0 (eL ([] : List T_impl_Value)) true, B ((T_impl_Change.mk 0 [] false).fCome)]⟩, some ⟨1, [I ({ ((T_impl_Change.mk 0 [] false)) with fIn := a0.fIn }.fIn), .arr 3 0 (eL ([] : List T_impl_Value)) true, B ({ ((T_impl_Change.mk 0 [] false)) with fIn := a0.fIn }.fCome)]⟩] ?_
  refine srvM [1, 2, 3] 2 15 [(1, .ptr 0 0 0), (2, .ptr 1 1 0), (3, .ptr 2 1 0), (8, A a0.fRow)] [some ⟨0, Enc.cells a0⟩, some ⟨1, [I ((T_impl_Change.mk 0 [] false).fIn), .arr 3 0 (eL ([] : List T_impl_Value)) true, B ((T_impl_Change.mk 0 [] false).fCome)]⟩, some ⟨1, [I ({ ((T_impl_Change.mk 0 [] false)) with fIn := a0.fIn }.fIn), .arr 3 0 (eL ([] : List T_impl_Value)) true, B ({ ((T_impl_Change.mk 0 [] false)) with fIn := a0.fIn }.fCome)]⟩] ?_
  obtain ⟨v1, hv2, h⟩ := bindS h
  refine opsP_callO τ 9 (ok_laws_toValueS hv2) rfl (by kernel_rfl) ?_
  refine veM [1, 2, 3] 2 15 [(1, .ptr 0 0 0), (2, .ptr 1 1 0), (3, .ptr 2 1 0)] [some ⟨0, Enc.cells a0⟩, some ⟨1, [I ((T_impl_Change.mk 0 [] false).fIn), .arr 3 0 (eL ([] : List T_impl_Value)) true, B ((T_impl_Change.mk 0 [] false).fCome)]⟩, some ⟨1, [I ({ ((T_impl_Change.mk 0 [] false)) with fIn := a0.fIn }.fIn), .ref 3 0 0 3 v1.length false, B ({ ((T_impl_Change.mk 0 [] false)) with fIn := a0.fIn }.fCome)]⟩, some ⟨0, eL v1⟩] ?_
  refine srveM [1, 2, 3] 15 [(2, .ptr 1 1 0), (3, .ptr 2 1 0)] [some ⟨0, Enc.cells a0⟩, some ⟨1, [I ((T_impl_Change.mk 0 [] false).fIn), .arr 3 0 (eL ([] : List T_impl_Value)) true, B ((T_impl_Change.mk 0 [] false).fCome)]⟩, some ⟨1, [I ({ (({ ((T_impl_Change.mk 0 [] false)) with fIn := a0.fIn }) : T_impl_Change) with fCome := a0.fCome }.fIn), .ref 3 0 0 3 v1.length false, B ({ (({ ((T_impl_Change.mk 0 [] false)) with fIn := a0.fIn }) : T_impl_Change) with fCome := a0.fCome }.fCome)]⟩, some ⟨0, eL v1⟩] ?_
  refine srveM [1, 2, 3] 15 [(2, .ptr 1 1 0)] [some ⟨0, Enc.cells a0⟩, some ⟨1, [I ({ (({ ((T_impl_Change.mk 0 [] false)) with fIn := a0.fIn }) : T_impl_Change) with fCome := a0.fCome }.fIn), .ref 3 0 0 3 v1.length false, B ({ (({ ((T_impl_Change.mk 0 [] false)) with fIn := a0.fIn }) : T_impl_Change) with fCome := a0.fCome }.fCome)]⟩, some ⟨1, [I ({ (({ ((T_impl_Change.mk 0 [] false)) with fIn := a0.fIn }) : T_impl_Change) with fCome := a0.fCome }.fIn), .ref 3 0 0 3 v1.length false, B ({ (({ ((T_impl_Change.mk 0 [] false)) with fIn := a0.fIn }) : T_impl_Change) with fCome := a0.fCome }.fCome)]⟩, some ⟨0, eL v1⟩] ?_
  have h := si h
  subst h
  exact pwp_ret (rt (.agg [I ({ (({ ((T_impl_Change.mk 0 [] false)) with fIn := a0.fIn }) : T_impl_Change) with fCome := a0.fCome }.fIn), .ref 3 0 0 3 v1.length false, B ({ (({ ((T_impl_Change.mk 0 [] false)) with fIn := a0.fIn }) : T_impl_Change) with fCome := a0.fCome }.fCome)]) (OutP.agg (OutL.cons (OutP.frz rfl) (OutL.cons (OutP.listn (v := 0) (xs := v1) rfl (by kernel_rfl)) (OutL.cons (OutP.frz rfl) (OutL.nil _))))))
def slices_Clip_int_int_R (a0 : List Int) : Option (List Int) := (slI a0 none (some ((a0.length : Int))) (some ((a0.length : Int)))).bind fun v1 => some v1
theorem ok_slices_Clip_int_int_R {a0 : List Int} {y : List Int} (h : slices_Clip_int_int_R a0 = some y) : OKm Tryz.prog 118 [O a0] (O y) := by
  refine OKm_of_pwp (sl := [.ref 0 0 0 1 a0.length false]) (bs := [⟨0, eL a0⟩]) τ_ok Tryz.func118 rfl (by kernel_rfl) rfl (by kernel_rfl) fun Γ hX => ?_
  refine pwp_imp (Imp.to (st' := ⟨9, [(0, .ref 0 0 0 1 a0.length false)], [some ⟨0, eL a0⟩]⟩) [0] (by kernel_rfl)) ?_
  unfold slices_Clip_int_int_R at h
  refine srve 9 [(0, .ref 0 0 0 1 a0.length false)] [some ⟨0, eL a0⟩] ?_
  refine srv 5 9 [(3, .ref 0 0 0 1 a0.length false), (5, I ((a0.length : Int))), (7, I ((a0.length : Int)))] [some ⟨0, eL a0⟩] ?_
  obtain ⟨v1, hv2, h⟩ := bindS h
  refine opsP_slr τ_ok 8 0 0 a0.length hv2 rfl (by kernel_rfl) ?_
  refine ve 1 9 [(2, .ref 0 0 0 1 v1.length false)] [some ⟨0, eL a0⟩] ?_
  refine pwp_imp (Imp.to (st' := ⟨9, [(2, .ref 0 0 0 1 v1.length false)], [some ⟨0, eL a0⟩]⟩) [2] (by kernel_rfl)) ?_
  refine pwp_imp (Imp.cut (st' := ⟨9, [(2, .ref 0 0 0 1 v1.length false)], [some ⟨0, eL v1⟩]⟩) 0 0 a0 v1 (by kernel_rfl) (slI_view hv2) (by kernel_rfl)) ?_
  have h := si h
  subst h
  exact pwp_ret (rt (.ref 0 0 0 1 v1.length false) (OutP.list (v := 0) (by kernel_rfl)))
def impl_clone_int_R (a0 : List Int) : Option (List Int) := bif (((a0.length : Int)) == 0) then some (([] : List Int)) else (app [] a0).bind fun v2 => (slices_Clip_int_int_R v2).bind fun v4 => some v4
theorem ok_impl_clone_int_R {a0 : List Int} {y : List Int} (h : impl_clone_int_R a0 = some y) : OK Tryz.prog 67 [A a0] (O y) := by
  refine OK_of_pwp τ_ok Tryz.func67 rfl (by kernel_rfl) rfl fun Γ hX => ?_
  unfold impl_clone_int_R at h
  refine srve 9 [(0, A a0)] [] ?_
  refine pwp_seq ?_
  refine srve 9 [(0, A a0), (5, B ((((a0.length : Int)) == 0)))] [] ?_
  refine pc h (fun h => ?_) (fun h => ?_)
  refine srve 9 [(2, .arr 1 0 (eL ([] : List Int)) true)] [] ?_
  refine pwp_imp (Imp.to (st' := ⟨9, [(2, .arr 1 0 (eL ([] : List Int)) true)], []⟩) [2] (by kernel_rfl)) ?_
  refine pwp_imp (Imp.thawS (st' := ⟨9, [(2, .ref 0 0 0 1 (([] : List Int)).length false)], [some ⟨0, eL (([] : List Int))⟩]⟩) 2 [2] (by kernel_rfl)) ?_
  have h := si h
  subst h
  exact pwp_ret (rt (.ref 0 0 0 1 (([] : List Int)).length false) (OutP.list (v := 0) (by kernel_rfl)))
  refine pwp_skip ?_
  refine srv 1 9 [(6, A a0)] [] ?_
  obtain ⟨v2, hv3, h⟩ := bindS h
  refine opsP_apn τ_ok 7 0 (fun b hb => absurd hb (hX b)) hv3 (by kernel_rfl) ?_
  obtain ⟨v4, hv5, h⟩ := bindS h
  refine opsP_callM (xs := [.ref 0 1 0 1 v2.length false]) (x := .ref 1 0 0 1 v4.length false) (bs := [⟨0, eL v4⟩]) τ 8 [0] (fun b hb => absurd hb (hX b)) (ok_slices_Clip_int_int_R hv5) (by kernel_rfl) (OutL.cons (OutP.list (v := 1) (by kernel_rfl)) (OutL.nil _)) (by decide) (by kernel_rfl) ?_
  refine ve 1 9 [(2, .ref 1 0 0 1 v4.length false)] [none, some ⟨0, eL v4⟩] ?_
  have h := si h
  subst h
  exact pwp_ret (rt (.ref 1 0 0 1 v4.length false) (OutP.list (v := 0) (by kernel_rfl)))
def impl_BondsAsked_R_j2 (x4 : Int) (x5 : List Int) (K7 : Int → (List Int) → Option (List Int)) (x11 : Bool) : Option (List Int) := bif x11 then (app x5 (([x4] : List Int))).bind fun v13 => K7 ((w64 (x4 + 1))) v13 else K7 ((w64 (x4 + 1))) x5
def impl_BondsAsked_R_l1 (a1 : List T_impl_Bond) (a2 : T_impl_Change) : Nat → Int → (List Int) → Option (List Int)
  | 0, _, _ => none
  | f6 + 1, x4, x5 => bif (decide (x4 < ((a1.length : Int)))) then (getI a1 x4).bind fun v9 => bif a2.fCome then bif (v9.fIn == a2.fIn) then impl_BondsAsked_R_j2 x4 x5 (impl_BondsAsked_R_l1 a1 a2 f6) true else bif (!a2.fCome) then bif (v9.fKind == 2) then impl_BondsAsked_R_j2 x4 x5 (impl_BondsAsked_R_l1 a1 a2 f6) ((v9.fOf == a2.fIn)) else impl_BondsAsked_R_j2 x4 x5 (impl_BondsAsked_R_l1 a1 a2 f6) false else impl_BondsAsked_R_j2 x4 x5 (impl_BondsAsked_R_l1 a1 a2 f6) false else bif (!a2.fCome) then bif (v9.fKind == 2) then impl_BondsAsked_R_j2 x4 x5 (impl_BondsAsked_R_l1 a1 a2 f6) ((v9.fOf == a2.fIn)) else impl_BondsAsked_R_j2 x4 x5 (impl_BondsAsked_R_l1 a1 a2 f6) false else impl_BondsAsked_R_j2 x4 x5 (impl_BondsAsked_R_l1 a1 a2 f6) false else (impl_clone_int_R x5).bind fun v21 => some v21
def impl_BondsAsked_R_j0 (a1 : List T_impl_Bond) (a2 : T_impl_Change) (x1 : Bool) : Option (List Int) := bif x1 then some (([] : List Int)) else impl_BondsAsked_R_l1 a1 a2 FUEL 0 (([] : List Int))
def impl_BondsAsked_R (a0 : List T_impl_Table) (a1 : List T_impl_Bond) (a2 : T_impl_Change) : Option (List Int) := (impl_bondsOk a0 a1).bind fun v23 => bif (!v23) then impl_BondsAsked_R_j0 a1 a2 true else (impl_ChangeOk a0 a2).bind fun v25 => impl_BondsAsked_R_j0 a1 a2 ((!v25))
theorem ok_impl_BondsAsked_R {a0 : List T_impl_Table} {a1 : List T_impl_Bond} {a2 : T_impl_Change} {y : List Int} (h : impl_BondsAsked_R a0 a1 a2 = some y) : OK Tryz.prog 16 [A a0, A a1, E a2] (O y) := by
  refine OK_of_pwp τ_ok Tryz.func16 rfl (by kernel_rfl) rfl fun Γ hX => ?_
  unfold impl_BondsAsked_R at h
  refine srveM [9] 60 [(0, A a0), (1, A a1), (5, .fptr (Enc.cells a2) 0)] [] ?_
  refine pwp_seq ?_
  refine pwp_seq ?_
  refine pwp_join (σ := Bool) (fun x1 => (⟨60, [(1, A a1), (5, .fptr (Enc.cells a2) 0), (19, B x1)], []⟩ : St)) (fun x1 => impl_BondsAsked_R_j0 a1 a2 x1 = some y) ?_ ?_
  refine rvM [9] 2 60 [(0, A a0), (1, A a1), (5, .fptr (Enc.cells a2) 0), (10, A a0), (11, A a1)] [] ?_
  obtain ⟨v23, hv24, h⟩ := bindS h
  refine opsP_callF τ 12 (ok_impl_bondsOk hv24) (FzTo.frz rfl) rfl (by kernel_rfl) ?_
  refine vM [9] 2 60 [(0, A a0), (1, A a1), (5, .fptr (Enc.cells a2) 0), (14, B ((!v23)))] [] ?_
  rcases fk ((!v23)) with hc27 | hc27
  replace h := bT hc27 h
  rw [hc27]
  refine veM [9] 5 60 [(1, A a1), (5, .fptr (Enc.cells a2) 0), (19, B true)] [] ?_
  exact ⟨true, h, (Imp.to (st' := ⟨60, [(1, A a1), (5, .fptr (Enc.cells a2) 0), (19, B true)], []⟩) [1, 5, 19] (by kernel_rfl)).trans (Imp.to [1, 5, 19] (by kernel_rfl))⟩
  replace h := bF hc27 h
  rw [hc27]
  refine vM [9] 2 60 [(1, A a1), (5, .fptr (Enc.cells a2) 0), (14, B false), (15, A a0), (16, E a2)] [] ?_
  obtain ⟨v25, hv26, h⟩ := bindS h
  refine opsP_callF τ 17 (ok_impl_ChangeOk hv26) (FzTo.frz rfl) rfl (by kernel_rfl) ?_
  refine veM [9] 2 60 [(1, A a1), (5, .fptr (Enc.cells a2) 0), (19, B ((!v25)))] [] ?_
  exact ⟨(!v25), h, (Imp.to (st' := ⟨60, [(1, A a1), (5, .fptr (Enc.cells a2) 0), (19, B ((!v25)))], []⟩) [1, 5, 19] (by kernel_rfl)).trans (Imp.to [1, 5, 19] (by kernel_rfl))⟩
  rintro x1 h
  unfold impl_BondsAsked_R_j0 at h
  refine pc h (fun h => ?_) (fun h => ?_)
  refine srveM [9] 60 [(6, .arr 1 0 (eL ([] : List Int)) true)] [] ?_
  refine pwp_imp (Imp.to (st' := ⟨60, [(6, .arr 1 0 (eL ([] : List Int)) true)], []⟩) [6] (by kernel_rfl)) ?_
  refine pwp_imp (Imp.thawS (st' := ⟨60, [(6, .ref 0 0 0 1 (([] : List Int)).length false)], [some ⟨0, eL (([] : List Int))⟩]⟩) 6 [6] (by kernel_rfl)) ?_
  have h := si h
  subst h
  exact pwp_ret (rt (.ref 0 0 0 1 (([] : List Int)).length false) (OutP.list (v := 0) (by kernel_rfl)))
  refine pwp_skip ?_
  refine srveM [9] 60 [(1, A a1), (5, .fptr (Enc.cells a2) 0), (7, .arr 1 0 (eL ([] : List Int)) true)] [] ?_
  refine pwp_seq ?_
  refine srveM [9] 60 [(5, .fptr (Enc.cells a2) 0), (7, .arr 1 0 (eL ([] : List Int)) true), (20, A a1), (21, I ((a1.length : Int))), (22, I 0)] [] ?_
  refine pwp_block ?_
  refine pwp_loop (ι := Nat × Int × (List Int)) (fun (f6, x4, x5) => (⟨60, [(5, .fptr (Enc.cells a2) 0), (7, .ref 0 0 0 1 x5.length false), (20, A a1), (21, I ((a1.length : Int))), (22, I x4)], [some ⟨0, eL x5⟩]⟩ : St)) (fun (f6, x4, x5) => impl_BondsAsked_R_l1 a1 a2 f6 x4 x5 = some y) (fun (f6, x4, x5) => f6) (FUEL, 0, ([] : List Int)) h ((Imp.to (st' := ⟨60, [(5, .fptr (Enc.cells a2) 0), (7, .arr 1 0 (eL ([] : List Int)) true), (20, A a1), (21, I ((a1.length : Int))), (22, I 0)], []⟩) [5, 7, 20, 21, 22] (by kernel_rfl)).trans ((Imp.thawS (st' := ⟨60, [(5, .fptr (Enc.cells a2) 0), (7, .ref 0 0 0 1 (([] : List Int)).length false), (20, A a1), (21, I ((a1.length : Int))), (22, I 0)], [some ⟨0, eL (([] : List Int))⟩]⟩) 7 [5, 7, 20, 21, 22] (by kernel_rfl)).trans (Imp.to [5, 7, 20, 21, 22] (by kernel_rfl)))) ?_
  rintro ⟨f6, x4, x5⟩ h
  dsimp only at h ⊢
  rcases f6 with _ | f6
  cases h
  rw [impl_BondsAsked_R_l1] at h
  refine srveM [9] 60 [(5, .fptr (Enc.cells a2) 0), (7, .ref 0 0 0 1 x5.length false), (20, A a1), (21, I ((a1.length : Int))), (22, I x4), (23, B ((decide (x4 < ((a1.length : Int))))))] [some ⟨0, eL x5⟩] ?_
  refine pwp_seq ?_
  refine pc h (fun h => ?_) (fun h => ?_)
  refine pwp_skip ?_
  refine pwp_seq ?_
  refine pwp_block ?_
  refine srvM [9] 1 60 [(5, .fptr (Enc.cells a2) 0), (7, .ref 0 0 0 1 x5.length false), (20, A a1), (21, I ((a1.length : Int))), (22, I x4), (24, I x4)] [some ⟨0, eL x5⟩] ?_
  obtain ⟨v9, hv10, h⟩ := bindS h
  refine opsP_idx τ_ok 25 hv10 (by kernel_rfl) ?_
  refine veM [9] 4 60 [(5, .fptr (Enc.cells a2) 0), (7, .ref 0 0 0 1 x5.length false), (8, I x4), (9, .ptr 1 0 0), (20, A a1), (21, I ((a1.length : Int))), (22, I x4)] [some ⟨0, eL x5⟩, some ⟨0, Enc.cells v9⟩] ?_
  refine pwp_seq ?_
  refine pwp_join (σ := Bool) (fun x11 => (⟨60, [(5, .fptr (Enc.cells a2) 0), (7, .ref 0 0 0 1 x5.length false), (8, I x4), (20, A a1), (21, I ((a1.length : Int))), (22, I x4), (52, B x11)], [some ⟨0, eL x5⟩, some ⟨0, Enc.cells v9⟩]⟩ : St)) (fun x11 => impl_BondsAsked_R_j2 x4 x5 (impl_BondsAsked_R_l1 a1 a2 f6) x11 = some y) ?_ ?_
  refine rvM [9] 3 60 [(5, .fptr (Enc.cells a2) 0), (7, .ref 0 0 0 1 x5.length false), (8, I x4), (9, .ptr 1 0 0), (20, A a1), (21, I ((a1.length : Int))), (22, I x4), (29, B a2.fCome)] [some ⟨0, eL x5⟩, some ⟨0, Enc.cells v9⟩] ?_
  rcases Bool.eq_false_or_eq_true a2.fCome with hc20 | hc20
  replace h := bT hc20 h
  rw [hc20]
  refine vM [9] 7 60 [(5, .fptr (Enc.cells a2) 0), (7, .ref 0 0 0 1 x5.length false), (8, I x4), (9, .ptr 1 0 0), (20, A a1), (21, I ((a1.length : Int))), (22, I x4), (30, .ptr 1 0 1), (31, I v9.fIn), (32, .fptr (Enc.cells a2) 0), (33, I a2.fIn), (34, B ((v9.fIn == a2.fIn))), (36, B ((v9.fIn == a2.fIn)))] [some ⟨0, eL x5⟩, some ⟨0, Enc.cells v9⟩] ?_
  rcases fk ((v9.fIn == a2.fIn)) with hc17 | hc17
  replace h := bT hc17 h
  rw [hc17]
  refine veM [9] 16 60 [(5, .fptr (Enc.cells a2) 0), (7, .ref 0 0 0 1 x5.length false), (8, I x4), (20, A a1), (21, I ((a1.length : Int))), (22, I x4), (30, .ptr 1 0 1), (31, I v9.fIn), (32, .fptr (Enc.cells a2) 0), (33, I a2.fIn), (34, B true), (37, .lit undef), (38, .lit undef), (39, .lit undef), (40, .lit undef), (41, .lit undef), (42, .lit undef), (43, .lit undef), (44, .lit undef), (45, .lit undef), (46, .lit undef), (47, .lit undef), (48, .lit undef), (49, .lit undef), (50, .lit undef), (51, .lit undef), (52, B true)] [some ⟨0, eL x5⟩, some ⟨0, Enc.cells v9⟩] ?_
  exact ⟨true, h, (Imp.to (st' := ⟨60, [(5, .fptr (Enc.cells a2) 0), (7, .ref 0 0 0 1 x5.length false), (8, I x4), (20, A a1), (21, I ((a1.length : Int))), (22, I x4), (52, B true)], [some ⟨0, eL x5⟩, some ⟨0, Enc.cells v9⟩]⟩) [5, 7, 8, 20, 21, 22, 52] (by kernel_rfl)).trans (Imp.to [5, 7, 8, 20, 21, 22, 52] (by kernel_rfl))⟩
  replace h := bF hc17 h
  rw [hc17]
  refine vM [9] 4 60 [(5, .fptr (Enc.cells a2) 0), (7, .ref 0 0 0 1 x5.length false), (8, I x4), (9, .ptr 1 0 0), (20, A a1), (21, I ((a1.length : Int))), (22, I x4), (30, .ptr 1 0 1), (31, I v9.fIn), (32, .fptr (Enc.cells a2) 0), (33, I a2.fIn), (34, B false), (36, B false), (37, .fptr (Enc.cells a2) 2), (38, B a2.fCome), (39, B ((!a2.fCome))), (40, B ((!a2.fCome)))] [some ⟨0, eL x5⟩, some ⟨0, Enc.cells v9⟩] ?_
  rcases fk ((!a2.fCome)) with hc16 | hc16
  replace h := bT hc16 h
  rw [hc16]
  refine vM [9] 5 60 [(5, .fptr (Enc.cells a2) 0), (7, .ref 0 0 0 1 x5.length false), (8, I x4), (9, .ptr 1 0 0), (20, A a1), (21, I ((a1.length : Int))), (22, I x4), (30, .ptr 1 0 1), (31, I v9.fIn), (32, .fptr (Enc.cells a2) 0), (33, I a2.fIn), (34, B false), (36, B false), (37, .fptr (Enc.cells a2) 2), (38, B a2.fCome), (39, B true), (40, B true), (41, .ptr 1 0 0), (42, I v9.fKind), (43, B ((v9.fKind == 2))), (44, B ((v9.fKind == 2))), (45, B ((v9.fKind == 2)))] [some ⟨0, eL x5⟩, some ⟨0, Enc.cells v9⟩] ?_
  rcases fk ((v9.fKind == 2)) with hc15 | hc15
  replace h := bT hc15 h
  rw [hc15]
  refine veM [9] 7 60 [(5, .fptr (Enc.cells a2) 0), (7, .ref 0 0 0 1 x5.length false), (8, I x4), (20, A a1), (21, I ((a1.length : Int))), (22, I x4), (30, .ptr 1 0 1), (31, I v9.fIn), (32, .fptr (Enc.cells a2) 0), (33, I a2.fIn), (34, B false), (37, .fptr (Enc.cells a2) 2), (38, B a2.fCome), (39, B true), (40, B true), (41, .ptr 1 0 0), (42, I v9.fKind), (43, B true), (44, B true), (45, B true), (46, .ptr 1 0 3), (47, I v9.fOf), (48, .fptr (Enc.cells a2) 0), (49, I a2.fIn), (50, B ((v9.fOf == a2.fIn))), (51, B ((v9.fOf == a2.fIn))), (52, B ((v9.fOf == a2.fIn)))] [some ⟨0, eL x5⟩, some ⟨0, Enc.cells v9⟩] ?_
  exact ⟨(v9.fOf == a2.fIn), h, (Imp.to (st' := ⟨60, [(5, .fptr (Enc.cells a2) 0), (7, .ref 0 0 0 1 x5.length false), (8, I x4), (20, A a1), (21, I ((a1.length : Int))), (22, I x4), (52, B ((v9.fOf == a2.fIn)))], [some ⟨0, eL x5⟩, some ⟨0, Enc.cells v9⟩]⟩) [5, 7, 8, 20, 21, 22, 52] (by kernel_rfl)).trans (Imp.to [5, 7, 8, 20, 21, 22, 52] (by kernel_rfl))⟩
  replace h := bF hc15 h
  rw [hc15]
  refine veM [9] 7 60 [(5, .fptr (Enc.cells a2) 0), (7, .ref 0 0 0 1 x5.length false), (8, I x4), (20, A a1), (21, I ((a1.length : Int))), (22, I x4), (30, .ptr 1 0 1), (31, I v9.fIn), (32, .fptr (Enc.cells a2) 0), (33, I a2.fIn), (34, B false), (37, .fptr (Enc.cells a2) 2), (38, B a2.fCome), (39, B true), (40, B true), (41, .ptr 1 0 0), (42, I v9.fKind), (43, B false), (44, B false), (45, B false), (46, .lit undef), (47, .lit undef), (48, .lit undef), (49, .lit undef), (50, .lit undef), (51, B false), (52, B false)] [some ⟨0, eL x5⟩, some ⟨0, Enc.cells v9⟩] ?_
  exact ⟨false, h, (Imp.to (st' := ⟨60, [(5, .fptr (Enc.cells a2) 0), (7, .ref 0 0 0 1 x5.length false), (8, I x4), (20, A a1), (21, I ((a1.length : Int))), (22, I x4), (52, B false)], [some ⟨0, eL x5⟩, some ⟨0, Enc.cells v9⟩]⟩) [5, 7, 8, 20, 21, 22, 52] (by kernel_rfl)).trans (Imp.to [5, 7, 8, 20, 21, 22, 52] (by kernel_rfl))⟩
  replace h := bF hc16 h
  rw [hc16]
  refine veM [9] 12 60 [(5, .fptr (Enc.cells a2) 0), (7, .ref 0 0 0 1 x5.length false), (8, I x4), (20, A a1), (21, I ((a1.length : Int))), (22, I x4), (30, .ptr 1 0 1), (31, I v9.fIn), (32, .fptr (Enc.cells a2) 0), (33, I a2.fIn), (34, B false), (37, .fptr (Enc.cells a2) 2), (38, B a2.fCome), (39, B false), (40, B false), (41, .lit undef), (42, .lit undef), (43, .lit undef), (44, B false), (45, B false), (46, .lit undef), (47, .lit undef), (48, .lit undef), (49, .lit undef), (50, .lit undef), (51, B false), (52, B false)] [some ⟨0, eL x5⟩, some ⟨0, Enc.cells v9⟩] ?_
  exact ⟨false, h, (Imp.to (st' := ⟨60, [(5, .fptr (Enc.cells a2) 0), (7, .ref 0 0 0 1 x5.length false), (8, I x4), (20, A a1), (21, I ((a1.length : Int))), (22, I x4), (52, B false)], [some ⟨0, eL x5⟩, some ⟨0, Enc.cells v9⟩]⟩) [5, 7, 8, 20, 21, 22, 52] (by kernel_rfl)).trans (Imp.to [5, 7, 8, 20, 21, 22, 52] (by kernel_rfl))⟩
  replace h := bF hc20 h
  rw [hc20]
  refine vM [9] 11 60 [(5, .fptr (Enc.cells a2) 0), (7, .ref 0 0 0 1 x5.length false), (8, I x4), (9, .ptr 1 0 0), (20, A a1), (21, I ((a1.length : Int))), (22, I x4), (30, .lit undef), (31, .lit undef), (32, .lit undef), (33, .lit undef), (34, .lit undef), (36, B false), (37, .fptr (Enc.cells a2) 2), (38, B a2.fCome), (39, B ((!a2.fCome))), (40, B ((!a2.fCome)))] [some ⟨0, eL x5⟩, some ⟨0, Enc.cells v9⟩] ?_
  rcases fk ((!a2.fCome)) with hc19 | hc19
  replace h := bT hc19 h
  rw [hc19]
  refine vM [9] 5 60 [(5, .fptr (Enc.cells a2) 0), (7, .ref 0 0 0 1 x5.length false), (8, I x4), (9, .ptr 1 0 0), (20, A a1), (21, I ((a1.length : Int))), (22, I x4), (30, .lit undef), (31, .lit undef), (32, .lit undef), (33, .lit undef), (34, .lit undef), (36, B false), (37, .fptr (Enc.cells a2) 2), (38, B a2.fCome), (39, B true), (40, B true), (41, .ptr 1 0 0), (42, I v9.fKind), (43, B ((v9.fKind == 2))), (44, B ((v9.fKind == 2))), (45, B ((v9.fKind == 2)))] [some ⟨0, eL x5⟩, some ⟨0, Enc.cells v9⟩] ?_
  rcases fk ((v9.fKind == 2)) with hc18 | hc18
  replace h := bT hc18 h
  rw [hc18]
  refine veM [9] 7 60 [(5, .fptr (Enc.cells a2) 0), (7, .ref 0 0 0 1 x5.length false), (8, I x4), (20, A a1), (21, I ((a1.length : Int))), (22, I x4), (30, .lit undef), (31, .lit undef), (32, .lit undef), (33, .lit undef), (34, .lit undef), (37, .fptr (Enc.cells a2) 2), (38, B a2.fCome), (39, B true), (40, B true), (41, .ptr 1 0 0), (42, I v9.fKind), (43, B true), (44, B true), (45, B true), (46, .ptr 1 0 3), (47, I v9.fOf), (48, .fptr (Enc.cells a2) 0), (49, I a2.fIn), (50, B ((v9.fOf == a2.fIn))), (51, B ((v9.fOf == a2.fIn))), (52, B ((v9.fOf == a2.fIn)))] [some ⟨0, eL x5⟩, some ⟨0, Enc.cells v9⟩] ?_
  exact ⟨(v9.fOf == a2.fIn), h, (Imp.to (st' := ⟨60, [(5, .fptr (Enc.cells a2) 0), (7, .ref 0 0 0 1 x5.length false), (8, I x4), (20, A a1), (21, I ((a1.length : Int))), (22, I x4), (52, B ((v9.fOf == a2.fIn)))], [some ⟨0, eL x5⟩, some ⟨0, Enc.cells v9⟩]⟩) [5, 7, 8, 20, 21, 22, 52] (by kernel_rfl)).trans (Imp.to [5, 7, 8, 20, 21, 22, 52] (by kernel_rfl))⟩
  replace h := bF hc18 h
  rw [hc18]
  refine veM [9] 7 60 [(5, .fptr (Enc.cells a2) 0), (7, .ref 0 0 0 1 x5.length false), (8, I x4), (20, A a1), (21, I ((a1.length : Int))), (22, I x4), (30, .lit undef), (31, .lit undef), (32, .lit undef), (33, .lit undef), (34, .lit undef), (37, .fptr (Enc.cells a2) 2), (38, B a2.fCome), (39, B true), (40, B true), (41, .ptr 1 0 0), (42, I v9.fKind), (43, B false), (44, B false), (45, B false), (46, .lit undef), (47, .lit undef), (48, .lit undef), (49, .lit undef), (50, .lit undef), (51, B false), (52, B false)] [some ⟨0, eL x5⟩, some ⟨0, Enc.cells v9⟩] ?_
  exact ⟨false, h, (Imp.to (st' := ⟨60, [(5, .fptr (Enc.cells a2) 0), (7, .ref 0 0 0 1 x5.length false), (8, I x4), (20, A a1), (21, I ((a1.length : Int))), (22, I x4), (52, B false)], [some ⟨0, eL x5⟩, some ⟨0, Enc.cells v9⟩]⟩) [5, 7, 8, 20, 21, 22, 52] (by kernel_rfl)).trans (Imp.to [5, 7, 8, 20, 21, 22, 52] (by kernel_rfl))⟩
  replace h := bF hc19 h
  rw [hc19]
  refine veM [9] 12 60 [(5, .fptr (Enc.cells a2) 0), (7, .ref 0 0 0 1 x5.length false), (8, I x4), (20, A a1), (21, I ((a1.length : Int))), (22, I x4), (30, .lit undef), (31, .lit undef), (32, .lit undef), (33, .lit undef), (34, .lit undef), (37, .fptr (Enc.cells a2) 2), (38, B a2.fCome), (39, B false), (40, B false), (41, .lit undef), (42, .lit undef), (43, .lit undef), (44, B false), (45, B false), (46, .lit undef), (47, .lit undef), (48, .lit undef), (49, .lit undef), (50, .lit undef), (51, B false), (52, B false)] [some ⟨0, eL x5⟩, some ⟨0, Enc.cells v9⟩] ?_
  exact ⟨false, h, (Imp.to (st' := ⟨60, [(5, .fptr (Enc.cells a2) 0), (7, .ref 0 0 0 1 x5.length false), (8, I x4), (20, A a1), (21, I ((a1.length : Int))), (22, I x4), (52, B false)], [some ⟨0, eL x5⟩, some ⟨0, Enc.cells v9⟩]⟩) [5, 7, 8, 20, 21, 22, 52] (by kernel_rfl)).trans (Imp.to [5, 7, 8, 20, 21, 22, 52] (by kernel_rfl))⟩
  rintro x11 h
  unfold impl_BondsAsked_R_j2 at h
  refine pc h (fun h => ?_) (fun h => ?_)
  refine rvM [9] 3 60 [(5, .fptr (Enc.cells a2) 0), (20, A a1), (21, I ((a1.length : Int))), (22, I x4), (53, .ref 0 0 0 1 x5.length false), (55, .arr 1 (([x4] : List Int)).length (eL ([x4] : List Int)) true)] [some ⟨0, eL x5⟩, some ⟨0, Enc.cells v9⟩] ?_
  obtain ⟨v13, hv14, h⟩ := bindS h
  refine opsP_app τ_ok 56 0 0 (fun b hb => absurd hb (hX b)) hv14 (by kernel_rfl) ?_
  refine veM [9] 1 60 [(5, .fptr (Enc.cells a2) 0), (7, .ref 0 1 0 1 v13.length false), (20, A a1), (21, I ((a1.length : Int))), (22, I x4)] [some ⟨1, eL v13⟩, some ⟨0, Enc.cells v9⟩] ?_
  refine rveM [9] 60 [(5, .fptr (Enc.cells a2) 0), (7, .ref 0 1 0 1 v13.length false), (20, A a1), (21, I ((a1.length : Int))), (22, I ((w64 (x4 + 1))))] [some ⟨1, eL v13⟩, some ⟨0, Enc.cells v9⟩] ?_
  exact ⟨(f6, (w64 (x4 + 1)), v13), h, Nat.lt_succ_self _, (Imp.to (st' := ⟨60, [(5, .fptr (Enc.cells a2) 0), (7, .ref 0 1 0 1 v13.length false), (20, A a1), (21, I ((a1.length : Int))), (22, I ((w64 (x4 + 1))))], [some ⟨1, eL v13⟩, some ⟨0, Enc.cells v9⟩]⟩) [5, 7, 20, 21, 22] (by kernel_rfl)).trans ((Imp.truncS (st' := ⟨60, [(5, .fptr (Enc.cells a2) 0), (7, .ref 0 1 0 1 v13.length false), (20, A a1), (21, I ((a1.length : Int))), (22, I ((w64 (x4 + 1))))], [some ⟨1, eL v13⟩]⟩) 1 (fun b hb => absurd hb (hX b)) (by kernel_rfl) (allBelow_mem (by exact (And.intro rfl (And.intro rfl (And.intro rfl (And.intro rfl (And.intro rfl trivial))))))) (by exact (And.intro (frz_below (eL_frz _)) trivial)) (by kernel_rfl)).trans ((Imp.reverS (st' := ⟨60, [(5, .fptr (Enc.cells a2) 0), (7, .ref 0 0 0 1 v13.length false), (20, A a1), (21, I ((a1.length : Int))), (22, I ((w64 (x4 + 1))))], [some ⟨0, eL v13⟩]⟩) 0 1 (eL v13) [5, 7, 20, 21, 22] (by kernel_rfl) (by exact (And.intro (eL_frz _) trivial)) (by kernel_rfl)).trans (Imp.to [5, 7, 20, 21, 22] (by kernel_rfl))))⟩
  refine pwp_skip ?_
  refine rveM [9] 60 [(5, .fptr (Enc.cells a2) 0), (7, .ref 0 0 0 1 x5.length false), (20, A a1), (21, I ((a1.length : Int))), (22, I ((w64 (x4 + 1))))] [some ⟨0, eL x5⟩, some ⟨0, Enc.cells v9⟩] ?_
  exact ⟨(f6, (w64 (x4 + 1)), x5), h, Nat.lt_succ_self _, (Imp.to (st' := ⟨60, [(5, .fptr (Enc.cells a2) 0), (7, .ref 0 0 0 1 x5.length false), (20, A a1), (21, I ((a1.length : Int))), (22, I ((w64 (x4 + 1))))], [some ⟨0, eL x5⟩, some ⟨0, Enc.cells v9⟩]⟩) [5, 7, 20, 21, 22] (by kernel_rfl)).trans ((Imp.truncS (st' := ⟨60, [(5, .fptr (Enc.cells a2) 0), (7, .ref 0 0 0 1 x5.length false), (20, A a1), (21, I ((a1.length : Int))), (22, I ((w64 (x4 + 1))))], [some ⟨0, eL x5⟩]⟩) 1 (fun b hb => absurd hb (hX b)) (by kernel_rfl) (allBelow_mem (by exact (And.intro rfl (And.intro rfl (And.intro rfl (And.intro rfl (And.intro rfl trivial))))))) (by exact (And.intro (frz_below (eL_frz _)) trivial)) (by kernel_rfl)).trans (Imp.to [5, 7, 20, 21, 22] (by kernel_rfl)))⟩
  refine pwp_exit ?_
  refine srvM [9] 1 60 [(58, .ref 0 0 0 1 x5.length false)] [some ⟨0, eL x5⟩] ?_
  obtain ⟨v21, hv22, h⟩ := bindS h
  refine opsP_E (dd := some 59) (x := .ref 1 0 0 1 v21.length false) (callVN_E (xs := [.ref 0 0 0 1 x5.length false]) τ 59 1 (fun b hb => absurd hb (hX b)) (by kernel_rfl) (ok_impl_clone_int_R hv22) (Blind.O (fun _ => rfl) _) (by kernel_rfl) (ViewL.cons (View.whole (v := 0) x5 (by kernel_rfl) rfl) (ViewL.nil _))) ?_
  refine veM [9] 1 60 [(6, .ref 1 0 0 1 v21.length false)] [some ⟨0, eL x5⟩, some ⟨0, eL v21⟩] ?_
  have h := si h
  subst h
  exact pwp_ret (rt (.ref 1 0 0 1 v21.length false) (OutP.list (v := 0) (by kernel_rfl)))
def laws_FnExactBondsAsked_j0 (a0 : List T_laws_Table) (a1 : List T_laws_Bond) (a2 : T_laws_Change) (v16 : List Int) (v24 : List Int) (x50 : Bool) : Option Bool := bif x50 then some false else (laws_markIntS v24 1).bind fun v52 => (laws_heldIntS v52.2 1).bind fun v54 => bif (decide (v54 < 0)) then some false else bif (!(v54 == v52.1)) then some false else (laws_toTableS_D a0).bind fun v58 => (laws_toBondS_D a1).bind fun v60 => (laws_toChange_D a2).bind fun v62 => (impl_BondsAsked_R v58 v60 v62).bind fun v64 => (laws_eqIntS v64 v16).bind fun v66 => bif (!v66) then some false else (laws_heldIntS v52.2 1).bind fun v69 => bif (decide (v69 < 0)) then some false else bif (!(v69 == v52.1)) then some false else some true
def laws_FnExactBondsAsked (a0 : List T_laws_Table) (a1 : List T_laws_Bond) (a2 : T_laws_Change) : Option Bool := (laws_szTableS a0 1048576).bind fun v1 => bif (decide (v1 < 0)) then some true else (laws_szBondS a1 v1).bind fun v4 => bif (decide (v4 < 0)) then some true else (laws_szChange a2 v4).bind fun v7 => bif (decide (v7 < 0)) then some true else (laws_toTableS_D a0).bind fun v10 => (laws_toBondS_D a1).bind fun v12 => (laws_toChange_D a2).bind fun v14 => (spec_BondsAsked v10 v12 v14).bind fun v16 => (laws_toTableS_D a0).bind fun v18 => (laws_toBondS_D a1).bind fun v20 => (laws_toChange_D a2).bind fun v22 => (impl_BondsAsked_R v18 v20 ({ v22 with fRow := v22.fRow })).bind fun v24 => (laws_eqIntS v24 v16).bind fun v26 => bif (!v26) then some false else (laws_toTableS_D a0).bind fun v29 => (laws_eqTableS v18 v29).bind fun v31 => bif (!v31) then some false else (laws_toBondS_D a1).bind fun v34 => (laws_eqBondS v20 v34).bind fun v36 => bif (!v36) then some false else (laws_toChange_D a2).bind fun v39 => (laws_eqChange ({ v22 with fRow := v22.fRow }) v39).bind fun v41 => bif (!v41) then some false else (laws_markTableS v18 1).bind fun v44 => (laws_markBondS v20 v44.1).bind fun v46 => (laws_markChange ({ v22 with fRow := v22.fRow }) v46.1).bind fun v48 => bif (decide (v48 < 0)) then laws_FnExactBondsAsked_j0 a0 a1 a2 v16 v24 true else (laws_eqIntS v24 v16).bind fun v73 => laws_FnExactBondsAsked_j0 a0 a1 a2 v16 v24 ((!v73))
theorem ok_laws_FnExactBondsAsked {a0 : List T_laws_Table} {a1 : List T_laws_Bond} {a2 : T_laws_Change} {y : Bool} (h : laws_FnExactBondsAsked a0 a1 a2 = some y) : OK Tryz.prog 3 [A a0, A a1, E a2] (B y) := by
  refine OK_of_pwp τ_ok Tryz.func3 rfl (by kernel_rfl) rfl fun Γ hX => ?_
  unfold laws_FnExactBondsAsked at h
  refine srveM [11] 115 [(0, A a0), (1, A a1), (5, .fptr (Enc.cells a2) 0)] [] ?_
  refine srveM [11] 115 [(0, A a0), (1, A a1), (5, .fptr (Enc.cells a2) 0), (7, I 1048576)] [] ?_
  refine srvM [11] 2 115 [(0, A a0), (1, A a1), (5, .fptr (Enc.cells a2) 0), (17, A a0), (18, I 1048576)] [] ?_
  obtain ⟨v1, hv2, h⟩ := bindS h
  refine opsP_callF τ 19 (ok_laws_szTableS hv2) (FzTo.frz rfl) rfl (by kernel_rfl) ?_
  refine veM [11] 1 115 [(0, A a0), (1, A a1), (5, .fptr (Enc.cells a2) 0), (7, I v1)] [] ?_
  refine pwp_seq ?_
  refine srveM [11] 115 [(0, A a0), (1, A a1), (5, .fptr (Enc.cells a2) 0), (7, I v1), (21, B ((decide (v1 < 0))))] [] ?_
  refine pc h (fun h => ?_) (fun h => ?_)
  refine srveM [11] 115 [(6, B true)] [] ?_
  cases h
  exact pwp_ret rz
  refine pwp_skip ?_
  refine srvM [11] 2 115 [(0, A a0), (1, A a1), (5, .fptr (Enc.cells a2) 0), (22, A a1), (23, I v1)] [] ?_
  obtain ⟨v4, hv5, h⟩ := bindS h
  refine opsP_callF τ 24 (ok_laws_szBondS hv5) (FzTo.frz rfl) rfl (by kernel_rfl) ?_
  refine veM [11] 1 115 [(0, A a0), (1, A a1), (5, .fptr (Enc.cells a2) 0), (7, I v4)] [] ?_
  refine pwp_seq ?_
  refine srveM [11] 115 [(0, A a0), (1, A a1), (5, .fptr (Enc.cells a2) 0), (7, I v4), (26, B ((decide (v4 < 0))))] [] ?_
  refine pc h (fun h => ?_) (fun h => ?_)
  refine srveM [11] 115 [(6, B true)] [] ?_
  cases h
  exact pwp_ret rz
  refine pwp_skip ?_
  refine srvM [11] 2 115 [(0, A a0), (1, A a1), (5, .fptr (Enc.cells a2) 0), (27, E a2), (28, I v4)] [] ?_
  obtain ⟨v7, hv8, h⟩ := bindS h
  refine opsP_callF τ 29 (ok_laws_szChange hv8) (FzTo.frz rfl) rfl (by kernel_rfl) ?_
  refine veM [11] 1 115 [(0, A a0), (1, A a1), (5, .fptr (Enc.cells a2) 0), (7, I v7)] [] ?_
  refine pwp_seq ?_
  refine srveM [11] 115 [(0, A a0), (1, A a1), (5, .fptr (Enc.cells a2) 0), (31, B ((decide (v7 < 0))))] [] ?_
  refine pc h (fun h => ?_) (fun h => ?_)
  refine srveM [11] 115 [(6, B true)] [] ?_
  cases h
  exact pwp_ret rz
  refine pwp_skip ?_
  refine pwp_seq ?_
  refine pwp_imp (Imp.to (st' := ⟨115, [(0, A a0), (1, A a1), (5, .fptr (Enc.cells a2) 0)], []⟩) [0, 1, 5] (by kernel_rfl)) ?_
  refine pwp_any ([[], [], [], [], [], [], [], []]) ([[], [], [], [], [], [], [], []]) rfl (by kernel_rfl) ?_
  refine qA_ev (st' := ⟨115, [(32, A a0), (0, A a0), (1, A a1), (5, .fptr (Enc.cells a2) 0)], []⟩) τ_ok [11] [] 1 (by exact trivial) (by kernel_rfl) ?_
  obtain ⟨v10, hv11, h⟩ := bindS h
  refine qA_E (dd := some 33) (x := A v10) ([]) (⟨115, [(33, A v10), (32, A a0), (0, A a0), (1, A a1), (5, .fptr (Enc.cells a2) 0)], []⟩) (fun Γ' hΓ => CoreE.of_g (callV_sound (τ := τ) (by kernel_rfl) rfl (ok_laws_toTableS_D hv11) (FzTo.OD _))) (by kernel_rfl) (by kernel_rfl) (by exact trivial) (.inr (.inr rfl)) (by kernel_rfl) ?_
  refine qA_ev (st' := ⟨115, [(34, A a1), (33, A v10), (32, A a0), (0, A a0), (1, A a1), (5, .fptr (Enc.cells a2) 0)], []⟩) τ_ok [11] [] 1 (by exact trivial) (by kernel_rfl) ?_
  obtain ⟨v12, hv13, h⟩ := bindS h
  refine qA_E (dd := some 35) (x := A v12) ([]) (⟨115, [(35, A v12), (34, A a1), (33, A v10), (32, A a0), (0, A a0), (1, A a1), (5, .fptr (Enc.cells a2) 0)], []⟩) (fun Γ' hΓ => CoreE.of_g (callV_sound (τ := τ) (by kernel_rfl) rfl (ok_laws_toBondS_D hv13) (FzTo.OD _))) (by kernel_rfl) (by kernel_rfl) (by exact trivial) (.inr (.inr rfl)) (by kernel_rfl) ?_
  refine qA_ev (st' := ⟨115, [(36, E a2), (35, A v12), (34, A a1), (33, A v10), (32, A a0), (0, A a0), (1, A a1), (5, .fptr (Enc.cells a2) 0)], []⟩) τ_ok [11] [] 1 (by exact trivial) (by kernel_rfl) ?_
  obtain ⟨v14, hv15, h⟩ := bindS h
  refine qA_E (dd := some 37) (x := E v14) ([]) (⟨115, [(37, E v14), (36, E a2), (35, A v12), (34, A a1), (33, A v10), (32, A a0), (0, A a0), (1, A a1), (5, .fptr (Enc.cells a2) 0)], []⟩) (fun Γ' hΓ => CoreE.of_g (callV_sound (τ := τ) (by kernel_rfl) rfl (ok_laws_toChange_D hv15) (FzTo.agg (DEnc.fz _)))) (by kernel_rfl) (by kernel_rfl) (by exact trivial) (.inr (.inr rfl)) (by kernel_rfl) ?_
  obtain ⟨v16, hv17, h⟩ := bindS h
  refine qA_E (dd := some 38) (x := A v16) ([]) (⟨115, [(38, A v16), (37, E v14), (36, E a2), (35, A v12), (34, A a1), (33, A v10), (32, A a0), (0, A a0), (1, A a1), (5, .fptr (Enc.cells a2) 0)], []⟩) (fun Γ' hΓ => CoreE.of_g (callV_sound (τ := τ) (by kernel_rfl) rfl (ok_spec_BondsAsked hv17) (FzTo.O _))) (by kernel_rfl) (by kernel_rfl) (by exact trivial) (.inr (.inr rfl)) (by kernel_rfl) ?_
  refine qA_ev (st' := ⟨115, [(8, A v16), (38, A v16), (37, E v14), (36, E a2), (35, A v12), (34, A a1), (33, A v10), (32, A a0), (0, A a0), (1, A a1), (5, .fptr (Enc.cells a2) 0)], []⟩) τ_ok [11] [] 1 (by exact trivial) (by kernel_rfl) ?_
  refine qA_end ?_
  refine opsP_imp (Imp.to (st' := ⟨115, [(0, A a0), (1, A a1), (5, .fptr (Enc.cells a2) 0), (8, A v16)], []⟩) [0, 1, 5, 8] (by kernel_rfl)) ?_
  refine opsP_end rfl ?_
  refine srvM [11] 1 115 [(0, A a0), (1, A a1), (5, .fptr (Enc.cells a2) 0), (8, A v16), (39, A a0)] [] ?_
  obtain ⟨v18, hv19, h⟩ := bindS h
  refine opsP_callO τ 40 (ok_laws_toTableS_D hv19) rfl (by kernel_rfl) ?_
  refine veM [11] 1 115 [(0, A a0), (1, A a1), (5, .fptr (Enc.cells a2) 0), (8, A v16), (9, .ref 0 0 0 2 v18.length false)] [some ⟨0, dL v18⟩] ?_
  refine srvM [11] 1 115 [(0, A a0), (1, A a1), (5, .fptr (Enc.cells a2) 0), (8, A v16), (9, .ref 0 0 0 2 v18.length false), (41, A a1)] [some ⟨0, dL v18⟩] ?_
  obtain ⟨v20, hv21, h⟩ := bindS h
  refine opsP_callO τ 42 (ok_laws_toBondS_D hv21) rfl (by kernel_rfl) ?_
  refine veM [11] 1 115 [(0, A a0), (1, A a1), (5, .fptr (Enc.cells a2) 0), (8, A v16), (9, .ref 0 0 0 2 v18.length false), (10, .ref 1 0 0 7 v20.length false)] [some ⟨0, dL v18⟩, some ⟨0, dL v20⟩] ?_
  refine srvM [11] 1 115 [(0, A a0), (1, A a1), (5, .fptr (Enc.cells a2) 0), (8, A v16), (9, .ref 0 0 0 2 v18.length false), (10, .ref 1 0 0 7 v20.length false), (43, E a2)] [some ⟨0, dL v18⟩, some ⟨0, dL v20⟩] ?_
  obtain ⟨v22, hv23, h⟩ := bindS h
  refine opsP_callO τ 44 (ok_laws_toChange_D hv23) rfl (by kernel_rfl) ?_
  refine vM [11] 0 115 [(0, A a0), (1, A a1), (5, .fptr (Enc.cells a2) 0), (8, A v16), (9, .ref 0 0 0 2 v18.length false), (10, .ref 1 0 0 7 v20.length false), (44, .agg [I v22.fIn, .ref 2 0 0 3 v22.fRow.length false, B v22.fCome])] [some ⟨0, dL v18⟩, some ⟨0, dL v20⟩, some ⟨0, eL v22.fRow⟩] ?_
  refine opsP_imp (Imp.ghosts 1 (st' := ⟨115, [(0, A a0), (1, A a1), (5, .fptr (Enc.cells a2) 0), (8, A v16), (9, .ref 0 0 0 2 v18.length false), (10, .ref 1 0 0 7 v20.length false), (44, .agg [I v22.fIn, .ref 2 0 0 3 v22.fRow.length false, B v22.fCome])], [some ⟨0, dL v18⟩, some ⟨0, dL v20⟩, some ⟨0, eL v22.fRow⟩, some ⟨0, []⟩]⟩) (by kernel_rfl)) ?_
  refine opsP_E (dd := some 11) (x := .ptr 3 1 0) (alz_E (blk := ⟨0, []⟩) (zs := [.lit (.int .i64 0), .arr 3 0 [] true, .lit (.bool false)]) 11 38 3 0 (fun b hb => absurd hb (hX b)) zi_ok38 (by kernel_rfl) (by kernel_rfl)) ?_
  refine veM [11] 1 115 [(0, A a0), (1, A a1), (5, .fptr (Enc.cells a2) 0), (8, A v16), (9, .ref 0 0 0 2 v18.length false), (10, .ref 1 0 0 7 v20.length false), (11, .ptr 3 1 0)] [some ⟨0, dL v18⟩, some ⟨0, dL v20⟩, some ⟨0, eL v22.fRow⟩, some ⟨1, [I v22.fIn, .ref 2 0 0 3 v22.fRow.length false, B v22.fCome]⟩] ?_
  refine srvM [11] 3 115 [(0, A a0), (1, A a1), (5, .fptr (Enc.cells a2) 0), (8, A v16), (9, .ref 0 0 0 2 v18.length false), (10, .ref 1 0 0 7 v20.length false), (11, .ptr 3 1 0), (45, .ref 0 0 0 2 v18.length false), (46, .ref 1 0 0 7 v20.length false), (47, .agg [I v22.fIn, .ref 2 0 0 3 v22.fRow.length false, B v22.fCome])] [some ⟨0, dL v18⟩, some ⟨0, dL v20⟩, some ⟨0, eL v22.fRow⟩, some ⟨1, [I v22.fIn, .ref 2 0 0 3 v22.fRow.length false, B v22.fCome]⟩] ?_
  obtain ⟨v24, hv25, h⟩ := bindS h
  refine opsP_E (dd := some 48) (x := .ref 4 0 0 1 v24.length false) (callVN_E (xs := [.ref 0 0 0 2 v18.length false, .ref 1 0 0 7 v20.length false, .agg [I v22.fIn, .ref 2 0 0 3 v22.fRow.length false, B v22.fCome]]) τ 48 4 (fun b hb => absurd hb (hX b)) (by kernel_rfl) (ok_impl_BondsAsked_R hv25) (Blind.O (fun _ => rfl) _) (by kernel_rfl) (ViewL.cons (View.deep (v := 0) v18 (by kernel_rfl) rfl) (ViewL.cons (View.deep (v := 0) v20 (by kernel_rfl) rfl) (ViewL.cons (View.agg (ViewL.cons (View.frz rfl) (ViewL.cons (View.whole (v := 0) v22.fRow (by kernel_rfl) rfl) (ViewL.cons (View.frz rfl) (ViewL.nil _))))) (ViewL.nil _))))) ?_
  refine veM [11] 1 115 [(0, A a0), (1, A a1), (5, .fptr (Enc.cells a2) 0), (8, A v16), (9, .ref 0 0 0 2 v18.length false), (10, .ref 1 0 0 7 v20.length false), (11, .ptr 3 1 0), (12, .ref 4 0 0 1 v24.length false)] [some ⟨0, dL v18⟩, some ⟨0, dL v20⟩, some ⟨0, eL v22.fRow⟩, some ⟨1, [I v22.fIn, .ref 2 0 0 3 v22.fRow.length false, B v22.fCome]⟩, some ⟨0, eL v24⟩] ?_
  refine pwp_seq ?_
  refine srvM [11] 2 115 [(0, A a0), (1, A a1), (5, .fptr (Enc.cells a2) 0), (8, A v16), (9, .ref 0 0 0 2 v18.length false), (10, .ref 1 0 0 7 v20.length false), (11, .ptr 3 1 0), (12, .ref 4 0 0 1 v24.length false), (49, .ref 4 0 0 1 v24.length false), (50, A v16)] [some ⟨0, dL v18⟩, some ⟨0, dL v20⟩, some ⟨0, eL v22.fRow⟩, some ⟨1, [I v22.fIn, .ref 2 0 0 3 v22.fRow.length false, B v22.fCome]⟩, some ⟨0, eL v24⟩] ?_
  obtain ⟨v26, hv27, h⟩ := bindS h
  refine opsP_callV (xs := [.ref 4 0 0 1 v24.length false, A v16]) τ 51 (ok_laws_eqIntS hv27) (Blind.lit _) (FzTo.frz rfl) (by kernel_rfl) (ViewL.cons (View.whole (v := 0) v24 (by kernel_rfl) rfl) (ViewL.cons (View.frz rfl) (ViewL.nil _))) ?_
  refine veM [11] 1 115 [(0, A a0), (1, A a1), (5, .fptr (Enc.cells a2) 0), (8, A v16), (9, .ref 0 0 0 2 v18.length false), (10, .ref 1 0 0 7 v20.length false), (11, .ptr 3 1 0), (12, .ref 4 0 0 1 v24.length false), (52, B ((!v26)))] [some ⟨0, dL v18⟩, some ⟨0, dL v20⟩, some ⟨0, eL v22.fRow⟩, some ⟨1, [I v22.fIn, .ref 2 0 0 3 v22.fRow.length false, B v22.fCome]⟩, some ⟨0, eL v24⟩] ?_
  refine pc h (fun h => ?_) (fun h => ?_)
  refine srveM [11] 115 [(6, B false)] [some ⟨0, dL v18⟩, some ⟨0, dL v20⟩, some ⟨0, eL v22.fRow⟩, some ⟨1, [I v22.fIn, .ref 2 0 0 3 v22.fRow.length false, B v22.fCome]⟩, some ⟨0, eL v24⟩] ?_
  cases h
  exact pwp_ret rz
  refine pwp_skip ?_
  refine pwp_seq ?_
  refine srvM [11] 2 115 [(0, A a0), (1, A a1), (5, .fptr (Enc.cells a2) 0), (8, A v16), (9, .ref 0 0 0 2 v18.length false), (10, .ref 1 0 0 7 v20.length false), (11, .ptr 3 1 0), (12, .ref 4 0 0 1 v24.length false), (53, .ref 0 0 0 2 v18.length false), (54, A a0)] [some ⟨0, dL v18⟩, some ⟨0, dL v20⟩, some ⟨0, eL v22.fRow⟩, some ⟨1, [I v22.fIn, .ref 2 0 0 3 v22.fRow.length false, B v22.fCome]⟩, some ⟨0, eL v24⟩] ?_
  obtain ⟨v29, hv30, h⟩ := bindS h
  refine opsP_callF τ 55 (ok_laws_toTableS_D hv30) (FzTo.OD _) rfl (by kernel_rfl) ?_
  obtain ⟨v31, hv32, h⟩ := bindS h
  refine opsP_callV (xs := [.ref 0 0 0 2 v18.length false, A v29]) τ 56 (ok_laws_eqTableS hv32) (Blind.lit _) (FzTo.frz rfl) (by kernel_rfl) (ViewL.cons (View.deep (v := 0) v18 (by kernel_rfl) rfl) (ViewL.cons (View.frz rfl) (ViewL.nil _))) ?_
  refine veM [11] 1 115 [(0, A a0), (1, A a1), (5, .fptr (Enc.cells a2) 0), (8, A v16), (9, .ref 0 0 0 2 v18.length false), (10, .ref 1 0 0 7 v20.length false), (11, .ptr 3 1 0), (12, .ref 4 0 0 1 v24.length false), (57, B ((!v31)))] [some ⟨0, dL v18⟩, some ⟨0, dL v20⟩, some ⟨0, eL v22.fRow⟩, some ⟨1, [I v22.fIn, .ref 2 0 0 3 v22.fRow.length false, B v22.fCome]⟩, some ⟨0, eL v24⟩] ?_
  refine pc h (fun h => ?_) (fun h => ?_)
  refine srveM [11] 115 [(6, B false)] [some ⟨0, dL v18⟩, some ⟨0, dL v20⟩, some ⟨0, eL v22.fRow⟩, some ⟨1, [I v22.fIn, .ref 2 0 0 3 v22.fRow.length false, B v22.fCome]⟩, some ⟨0, eL v24⟩] ?_
  cases h
  exact pwp_ret rz
  refine pwp_skip ?_
  refine pwp_seq ?_
  refine srvM [11] 2 115 [(0, A a0), (1, A a1), (5, .fptr (Enc.cells a2) 0), (8, A v16), (9, .ref 0 0 0 2 v18.length false), (10, .ref 1 0 0 7 v20.length false), (11, .ptr 3 1 0), (12, .ref 4 0 0 1 v24.length false), (58, .ref 1 0 0 7 v20.length false), (59, A a1)] [some ⟨0, dL v18⟩, some ⟨0, dL v20⟩, some ⟨0, eL v22.fRow⟩, some ⟨1, [I v22.fIn, .ref 2 0 0 3 v22.fRow.length false, B v22.fCome]⟩, some ⟨0, eL v24⟩] ?_
  obtain ⟨v34, hv35, h⟩ := bindS h
  refine opsP_callF τ 60 (ok_laws_toBondS_D hv35) (FzTo.OD _) rfl (by kernel_rfl) ?_
  obtain ⟨v36, hv37, h⟩ := bindS h
  refine opsP_callV (xs := [.ref 1 0 0 7 v20.length false, A v34]) τ 61 (ok_laws_eqBondS hv37) (Blind.lit _) (FzTo.frz rfl) (by kernel_rfl) (ViewL.cons (View.deep (v := 0) v20 (by kernel_rfl) rfl) (ViewL.cons (View.frz rfl) (ViewL.nil _))) ?_
  refine veM [11] 1 115 [(0, A a0), (1, A a1), (5, .fptr (Enc.cells a2) 0), (8, A v16), (9, .ref 0 0 0 2 v18.length false), (10, .ref 1 0 0 7 v20.length false), (11, .ptr 3 1 0), (12, .ref 4 0 0 1 v24.length false), (62, B ((!v36)))] [some ⟨0, dL v18⟩, some ⟨0, dL v20⟩, some ⟨0, eL v22.fRow⟩, some ⟨1, [I v22.fIn, .ref 2 0 0 3 v22.fRow.length false, B v22.fCome]⟩, some ⟨0, eL v24⟩] ?_
  refine pc h (fun h => ?_) (fun h => ?_)
  refine srveM [11] 115 [(6, B false)] [some ⟨0, dL v18⟩, some ⟨0, dL v20⟩, some ⟨0, eL v22.fRow⟩, some ⟨1, [I v22.fIn, .ref 2 0 0 3 v22.fRow.length false, B v22.fCome]⟩, some ⟨0, eL v24⟩] ?_
  cases h
  exact pwp_ret rz
  refine pwp_skip ?_
  refine pwp_seq ?_
  refine pwp_seq ?_
  refine pwp_imp (Imp.to (st' := ⟨115, [(0, A a0), (1, A a1), (5, .fptr (Enc.cells a2) 0), (8, A v16), (9, .ref 0 0 0 2 v18.length false), (10, .ref 1 0 0 7 v20.length false), (11, .ptr 3 1 0), (12, .ref 4 0 0 1 v24.length false)], [some ⟨0, dL v18⟩, some ⟨0, dL v20⟩, some ⟨0, eL v22.fRow⟩, some ⟨1, [I v22.fIn, .ref 2 0 0 3 v22.fRow.length false, B v22.fCome]⟩, some ⟨0, eL v24⟩]⟩) [0, 1, 5, 8, 9, 10, 11, 12] (by kernel_rfl)) ?_
  refine pwp_any ([[2, 3], [], [], [2], []]) ([[], [], [], [], []]) rfl (by kernel_rfl) ?_
  refine qA_ev (st' := ⟨115, [(63, .agg [I v22.fIn, .ref 2 0 0 3 v22.fRow.length false, B v22.fCome]), (0, A a0), (1, A a1), (5, .fptr (Enc.cells a2) 0), (8, A v16), (9, .ref 0 0 0 2 v18.length false), (10, .ref 1 0 0 7 v20.length false), (11, .ptr 3 1 0), (12, .ref 4 0 0 1 v24.length false)], [some ⟨0, dL v18⟩, some ⟨0, dL v20⟩, some ⟨0, eL v22.fRow⟩, some ⟨1, [I v22.fIn, .ref 2 0 0 3 v22.fRow.length false, B v22.fCome]⟩, some ⟨0, eL v24⟩]⟩) τ_ok [11] [2, 3] 1 (by exact (And.intro (.inl (eL_frz _)) (And.intro (.inr rfl) trivial))) (by kernel_rfl) ?_
  refine qA_ev (st' := ⟨115, [(64, E a2), (63, .agg [I v22.fIn, .ref 2 0 0 3 v22.fRow.length false, B v22.fCome]), (0, A a0), (1, A a1), (5, .fptr (Enc.cells a2) 0), (8, A v16), (9, .ref 0 0 0 2 v18.length false), (10, .ref 1 0 0 7 v20.length false), (11, .ptr 3 1 0), (12, .ref 4 0 0 1 v24.length false)], [some ⟨0, dL v18⟩, some ⟨0, dL v20⟩, some ⟨0, eL v22.fRow⟩, some ⟨1, [I v22.fIn, .ref 2 0 0 3 v22.fRow.length false, B v22.fCome]⟩, some ⟨0, eL v24⟩]⟩) τ_ok [11] [] 1 (by exact trivial) (by kernel_rfl) ?_
  obtain ⟨v39, hv40, h⟩ := bindS h
  refine qA_E (dd := some 65) (x := E v39) ([none, none, none, none, none]) (⟨115, [(65, E v39), (64, E a2), (63, .agg [I v22.fIn, .ref 2 0 0 3 v22.fRow.length false, B v22.fCome]), (0, A a0), (1, A a1), (5, .fptr (Enc.cells a2) 0), (8, A v16), (9, .ref 0 0 0 2 v18.length false), (10, .ref 1 0 0 7 v20.length false), (11, .ptr 3 1 0), (12, .ref 4 0 0 1 v24.length false)], [some ⟨0, dL v18⟩, some ⟨0, dL v20⟩, some ⟨0, eL v22.fRow⟩, some ⟨1, [I v22.fIn, .ref 2 0 0 3 v22.fRow.length false, B v22.fCome]⟩, some ⟨0, eL v24⟩]⟩) (fun Γ' hΓ => CoreE.of_g (callV_sound (τ := τ) (by kernel_rfl) rfl (ok_laws_toChange_D hv40) (FzTo.agg (DEnc.fz _)))) (by kernel_rfl) (by kernel_rfl) (by exact trivial) (.inr (.inr rfl)) (by kernel_rfl) ?_
  obtain ⟨v41, hv42, h⟩ := bindS h
  refine qA_E (dd := some 66) (x := B v41) ([none, none, some ⟨0, eL v22.fRow⟩, none, none]) (⟨115, [(66, B v41), (65, E v39), (64, E a2), (63, .agg [I v22.fIn, .ref 2 0 0 3 v22.fRow.length false, B v22.fCome]), (0, A a0), (1, A a1), (5, .fptr (Enc.cells a2) 0), (8, A v16), (9, .ref 0 0 0 2 v18.length false), (10, .ref 1 0 0 7 v20.length false), (11, .ptr 3 1 0), (12, .ref 4 0 0 1 v24.length false)], [some ⟨0, dL v18⟩, some ⟨0, dL v20⟩, some ⟨0, eL v22.fRow⟩, some ⟨1, [I v22.fIn, .ref 2 0 0 3 v22.fRow.length false, B v22.fCome]⟩, some ⟨0, eL v24⟩]⟩) (fun Γ' hΓ => CoreE.of_g (callVV_sound (xs := [.agg [I v22.fIn, .ref 2 0 0 3 v22.fRow.length false, B v22.fCome], E v39]) (τ := τ) (by kernel_rfl) (ViewL.cons (View.agg (ViewL.cons (View.frz rfl) (ViewL.cons (View.whole (v := 0) v22.fRow (by kernel_rfl) rfl) (ViewL.cons (View.frz rfl) (ViewL.nil _))))) (ViewL.cons (View.frz rfl) (ViewL.nil _))) (ok_laws_eqChange hv42) (Blind.lit _) (FzTo.frz rfl))) (by kernel_rfl) (by kernel_rfl) (by exact (And.intro (.inl (eL_frz _)) trivial)) (.inr (.inr rfl)) (by kernel_rfl) ?_
  refine qA_ev (st' := ⟨115, [(67, B ((!v41))), (66, B v41), (65, E v39), (64, E a2), (63, .agg [I v22.fIn, .ref 2 0 0 3 v22.fRow.length false, B v22.fCome]), (0, A a0), (1, A a1), (5, .fptr (Enc.cells a2) 0), (8, A v16), (9, .ref 0 0 0 2 v18.length false), (10, .ref 1 0 0 7 v20.length false), (11, .ptr 3 1 0), (12, .ref 4 0 0 1 v24.length false)], [some ⟨0, dL v18⟩, some ⟨0, dL v20⟩, some ⟨0, eL v22.fRow⟩, some ⟨1, [I v22.fIn, .ref 2 0 0 3 v22.fRow.length false, B v22.fCome]⟩, some ⟨0, eL v24⟩]⟩) τ_ok [11] [] 1 (by exact trivial) (by kernel_rfl) ?_
  refine qA_end ?_
  refine opsP_imp (Imp.to (st' := ⟨115, [(0, A a0), (1, A a1), (5, .fptr (Enc.cells a2) 0), (8, A v16), (9, .ref 0 0 0 2 v18.length false), (10, .ref 1 0 0 7 v20.length false), (11, .ptr 3 1 0), (12, .ref 4 0 0 1 v24.length false), (67, B ((!v41)))], [some ⟨0, dL v18⟩, some ⟨0, dL v20⟩, some ⟨0, eL v22.fRow⟩, some ⟨1, [I v22.fIn, .ref 2 0 0 3 v22.fRow.length false, B v22.fCome]⟩, some ⟨0, eL v24⟩]⟩) [0, 1, 5, 8, 9, 10, 11, 12, 67] (by kernel_rfl)) ?_
  refine opsP_end rfl ?_
  refine pc h (fun h => ?_) (fun h => ?_)
  refine srveM [11] 115 [(6, B false)] [some ⟨0, dL v18⟩, some ⟨0, dL v20⟩, some ⟨0, eL v22.fRow⟩, some ⟨1, [I v22.fIn, .ref 2 0 0 3 v22.fRow.length false, B v22.fCome]⟩, some ⟨0, eL v24⟩] ?_
  cases h
  exact pwp_ret rz
  refine pwp_skip ?_
  refine srveM [11] 115 [(0, A a0), (1, A a1), (5, .fptr (Enc.cells a2) 0), (8, A v16), (9, .ref 0 0 0 2 v18.length false), (10, .ref 1 0 0 7 v20.length false), (11, .ptr 3 1 0), (12, .ref 4 0 0 1 v24.length false), (13, I 1)] [some ⟨0, dL v18⟩, some ⟨0, dL v20⟩, some ⟨0, eL v22.fRow⟩, some ⟨1, [I v22.fIn, .ref 2 0 0 3 v22.fRow.length false, B v22.fCome]⟩, some ⟨0, eL v24⟩] ?_
  refine srvM [11] 2 115 [(0, A a0), (1, A a1), (5, .fptr (Enc.cells a2) 0), (8, A v16), (10, .ref 1 0 0 7 v20.length false), (11, .ptr 3 1 0), (12, .ref 4 0 0 1 v24.length false), (68, .ref 0 0 0 2 v18.length false), (69, I 1)] [some ⟨0, dL v18⟩, some ⟨0, dL v20⟩, some ⟨0, eL v22.fRow⟩, some ⟨1, [I v22.fIn, .ref 2 0 0 3 v22.fRow.length false, B v22.fCome]⟩, some ⟨0, eL v24⟩] ?_
  obtain ⟨v44, hv45, h⟩ := bindS h
  refine opsP_E (dd := some 70) (x := I v44.1) (callD_E τ 70 0 0 (ok_laws_markTableS hv45) (by kernel_rfl)) ?_
  refine opsP_imp (Imp.to (st' := ⟨115, [(0, A a0), (1, A a1), (5, .fptr (Enc.cells a2) 0), (8, A v16), (10, .ref 1 0 0 7 v20.length false), (11, .ptr 3 1 0), (12, .ref 4 0 0 1 v24.length false), (68, .ref 0 0 0 2 v18.length false), (69, I 1), (70, I v44.1)], [some ⟨0, dL v44.2⟩, some ⟨0, dL v20⟩, some ⟨0, eL v22.fRow⟩, some ⟨1, [I v22.fIn, .ref 2 0 0 3 v22.fRow.length false, B v22.fCome]⟩, some ⟨0, eL v24⟩]⟩) [0, 1, 5, 8, 10, 11, 12, 68, 69, 70] (by kernel_rfl)) ?_
  refine opsP_ren (st' := ⟨115, [(0, A a0), (1, A a1), (5, .fptr (Enc.cells a2) 0), (8, A v16), (10, .ref 1 0 0 7 v20.length false), (11, .ptr 3 1 0), (12, .ref 4 0 0 1 v24.length false), (68, .ref 0 0 0 2 v44.2.length false), (69, I 1), (70, I v44.1)], [some ⟨0, dL v44.2⟩, some ⟨0, dL v20⟩, some ⟨0, eL v22.fRow⟩, some ⟨1, [I v22.fIn, .ref 2 0 0 3 v22.fRow.length false, B v22.fCome]⟩, some ⟨0, eL v24⟩]⟩) 0 v44.2.length (renC trivial (renC trivial (renC trivial (renC trivial (renC (ren_ne rfl) (renC trivial (renC (ren_ne rfl) (renC (ren_ref (len_laws_markTableS hv45).symm) (renC trivial (renC trivial renC0)))))))))) (by kernel_rfl) ?_
  refine veM [11] 1 115 [(0, A a0), (1, A a1), (5, .fptr (Enc.cells a2) 0), (8, A v16), (10, .ref 1 0 0 7 v20.length false), (11, .ptr 3 1 0), (12, .ref 4 0 0 1 v24.length false), (13, I v44.1)] [some ⟨0, dL v44.2⟩, some ⟨0, dL v20⟩, some ⟨0, eL v22.fRow⟩, some ⟨1, [I v22.fIn, .ref 2 0 0 3 v22.fRow.length false, B v22.fCome]⟩, some ⟨0, eL v24⟩] ?_
  refine srvM [11] 2 115 [(0, A a0), (1, A a1), (5, .fptr (Enc.cells a2) 0), (8, A v16), (11, .ptr 3 1 0), (12, .ref 4 0 0 1 v24.length false), (71, .ref 1 0 0 7 v20.length false), (72, I v44.1)] [some ⟨0, dL v44.2⟩, some ⟨0, dL v20⟩, some ⟨0, eL v22.fRow⟩, some ⟨1, [I v22.fIn, .ref 2 0 0 3 v22.fRow.length false, B v22.fCome]⟩, some ⟨0, eL v24⟩] ?_
  obtain ⟨v46, hv47, h⟩ := bindS h
  refine opsP_E (dd := some 73) (x := I v46.1) (callD_E τ 73 1 0 (ok_laws_markBondS hv47) (by kernel_rfl)) ?_
  refine opsP_imp (Imp.to (st' := ⟨115, [(0, A a0), (1, A a1), (5, .fptr (Enc.cells a2) 0), (8, A v16), (11, .ptr 3 1 0), (12, .ref 4 0 0 1 v24.length false), (71, .ref 1 0 0 7 v20.length false), (72, I v44.1), (73, I v46.1)], [some ⟨0, dL v44.2⟩, some ⟨0, dL v46.2⟩, some ⟨0, eL v22.fRow⟩, some ⟨1, [I v22.fIn, .ref 2 0 0 3 v22.fRow.length false, B v22.fCome]⟩, some ⟨0, eL v24⟩]⟩) [0, 1, 5, 8, 11, 12, 71, 72, 73] (by kernel_rfl)) ?_
  refine opsP_ren (st' := ⟨115, [(0, A a0), (1, A a1), (5, .fptr (Enc.cells a2) 0), (8, A v16), (11, .ptr 3 1 0), (12, .ref 4 0 0 1 v24.length false), (71, .ref 1 0 0 7 v46.2.length false), (72, I v44.1), (73, I v46.1)], [some ⟨0, dL v44.2⟩, some ⟨0, dL v46.2⟩, some ⟨0, eL v22.fRow⟩, some ⟨1, [I v22.fIn, .ref 2 0 0 3 v22.fRow.length false, B v22.fCome]⟩, some ⟨0, eL v24⟩]⟩) 1 v46.2.length (renC trivial (renC trivial (renC trivial (renC trivial (renC trivial (renC (ren_ne rfl) (renC (ren_ref (len_laws_markBondS hv47).symm) (renC trivial (renC trivial renC0))))))))) (by kernel_rfl) ?_
  refine veM [11] 1 115 [(0, A a0), (1, A a1), (5, .fptr (Enc.cells a2) 0), (8, A v16), (11, .ptr 3 1 0), (12, .ref 4 0 0 1 v24.length false), (13, I v46.1)] [some ⟨0, dL v44.2⟩, some ⟨0, dL v46.2⟩, some ⟨0, eL v22.fRow⟩, some ⟨1, [I v22.fIn, .ref 2 0 0 3 v22.fRow.length false, B v22.fCome]⟩, some ⟨0, eL v24⟩] ?_
  refine srvM [11] 2 115 [(0, A a0), (1, A a1), (5, .fptr (Enc.cells a2) 0), (8, A v16), (12, .ref 4 0 0 1 v24.length false), (74, .agg [I v22.fIn, .ref 2 0 0 3 v22.fRow.length false, B v22.fCome]), (75, I v46.1)] [some ⟨0, dL v44.2⟩, some ⟨0, dL v46.2⟩, some ⟨0, eL v22.fRow⟩, some ⟨1, [I v22.fIn, .ref 2 0 0 3 v22.fRow.length false, B v22.fCome]⟩, some ⟨0, eL v24⟩] ?_
  obtain ⟨v48, hv49, h⟩ := bindS h
  refine opsP_callM (xs := [.agg [I v22.fIn, .ref 2 0 0 3 v22.fRow.length false, B v22.fCome], I v46.1]) (x := I v48) (bs := []) τ 76 [2] (fun b hb => absurd hb (hX b)) (ok_laws_markChange hv49) (by kernel_rfl) (OutL.cons (OutP.agg (OutL.cons (OutP.frz rfl) (OutL.cons (OutP.listn (v := 0) (xs := v22.fRow) rfl (by kernel_rfl)) (OutL.cons (OutP.frz rfl) (OutL.nil _))))) (OutL.cons (OutP.frz rfl) (OutL.nil _))) (by decide) (by kernel_rfl) ?_
  refine veM [11] 1 115 [(0, A a0), (1, A a1), (5, .fptr (Enc.cells a2) 0), (8, A v16), (12, .ref 4 0 0 1 v24.length false), (13, I v48)] [some ⟨0, dL v44.2⟩, some ⟨0, dL v46.2⟩, none, some ⟨1, [I v22.fIn, .ref 2 0 0 3 v22.fRow.length false, B v22.fCome]⟩, some ⟨0, eL v24⟩] ?_
  refine pwp_seq ?_
  refine pwp_seq ?_
  refine pwp_join (σ := Bool) (fun x50 => (⟨115, [(0, A a0), (1, A a1), (5, .fptr (Enc.cells a2) 0), (8, A v16), (12, .ref 4 0 0 1 v24.length false), (84, B x50)], [some ⟨0, dL v44.2⟩, some ⟨0, dL v46.2⟩, none, some ⟨1, [I v22.fIn, .ref 2 0 0 3 v22.fRow.length false, B v22.fCome]⟩, some ⟨0, eL v24⟩]⟩ : St)) (fun x50 => laws_FnExactBondsAsked_j0 a0 a1 a2 v16 v24 x50 = some y) ?_ ?_
  refine rvM [11] 3 115 [(0, A a0), (1, A a1), (5, .fptr (Enc.cells a2) 0), (8, A v16), (12, .ref 4 0 0 1 v24.length false), (79, B ((decide (v48 < 0))))] [some ⟨0, dL v44.2⟩, some ⟨0, dL v46.2⟩, none, some ⟨1, [I v22.fIn, .ref 2 0 0 3 v22.fRow.length false, B v22.fCome]⟩, some ⟨0, eL v24⟩] ?_
  rcases fk ((decide (v48 < 0))) with hc75 | hc75
  replace h := bT hc75 h
  rw [hc75]
  refine veM [11] 5 115 [(0, A a0), (1, A a1), (5, .fptr (Enc.cells a2) 0), (8, A v16), (12, .ref 4 0 0 1 v24.length false), (84, B true)] [some ⟨0, dL v44.2⟩, some ⟨0, dL v46.2⟩, none, some ⟨1, [I v22.fIn, .ref 2 0 0 3 v22.fRow.length false, B v22.fCome]⟩, some ⟨0, eL v24⟩] ?_
  exact ⟨true, h, (Imp.to (st' := ⟨115, [(0, A a0), (1, A a1), (5, .fptr (Enc.cells a2) 0), (8, A v16), (12, .ref 4 0 0 1 v24.length false), (84, B true)], [some ⟨0, dL v44.2⟩, some ⟨0, dL v46.2⟩, none, some ⟨1, [I v22.fIn, .ref 2 0 0 3 v22.fRow.length false, B v22.fCome]⟩, some ⟨0, eL v24⟩]⟩) [0, 1, 5, 8, 12, 84] (by kernel_rfl)).trans (Imp.to [0, 1, 5, 8, 12, 84] (by kernel_rfl))⟩
  replace h := bF hc75 h
  rw [hc75]
  refine vM [11] 2 115 [(0, A a0), (1, A a1), (5, .fptr (Enc.cells a2) 0), (8, A v16), (12, .ref 4 0 0 1 v24.length false), (79, B false), (80, .ref 4 0 0 1 v24.length false), (81, A v16)] [some ⟨0, dL v44.2⟩, some ⟨0, dL v46.2⟩, none, some ⟨1, [I v22.fIn, .ref 2 0 0 3 v22.fRow.length false, B v22.fCome]⟩, some ⟨0, eL v24⟩] ?_
  obtain ⟨v73, hv74, h⟩ := bindS h
  refine opsP_callV (xs := [.ref 4 0 0 1 v24.length false, A v16]) τ 82 (ok_laws_eqIntS hv74) (Blind.lit _) (FzTo.frz rfl) (by kernel_rfl) (ViewL.cons (View.whole (v := 0) v24 (by kernel_rfl) rfl) (ViewL.cons (View.frz rfl) (ViewL.nil _))) ?_
  refine veM [11] 2 115 [(0, A a0), (1, A a1), (5, .fptr (Enc.cells a2) 0), (8, A v16), (12, .ref 4 0 0 1 v24.length false), (84, B ((!v73)))] [some ⟨0, dL v44.2⟩, some ⟨0, dL v46.2⟩, none, some ⟨1, [I v22.fIn, .ref 2 0 0 3 v22.fRow.length false, B v22.fCome]⟩, some ⟨0, eL v24⟩] ?_
  exact ⟨(!v73), h, (Imp.to (st' := ⟨115, [(0, A a0), (1, A a1), (5, .fptr (Enc.cells a2) 0), (8, A v16), (12, .ref 4 0 0 1 v24.length false), (84, B ((!v73)))], [some ⟨0, dL v44.2⟩, some ⟨0, dL v46.2⟩, none, some ⟨1, [I v22.fIn, .ref 2 0 0 3 v22.fRow.length false, B v22.fCome]⟩, some ⟨0, eL v24⟩]⟩) [0, 1, 5, 8, 12, 84] (by kernel_rfl)).trans (Imp.to [0, 1, 5, 8, 12, 84] (by kernel_rfl))⟩
  rintro x50 h
  unfold laws_FnExactBondsAsked_j0 at h
  refine pc h (fun h => ?_) (fun h => ?_)
  refine srveM [11] 115 [(6, B false)] [some ⟨0, dL v44.2⟩, some ⟨0, dL v46.2⟩, none, some ⟨1, [I v22.fIn, .ref 2 0 0 3 v22.fRow.length false, B v22.fCome]⟩, some ⟨0, eL v24⟩] ?_
  cases h
  exact pwp_ret rz
  refine pwp_skip ?_
  refine srveM [11] 115 [(0, A a0), (1, A a1), (5, .fptr (Enc.cells a2) 0), (8, A v16), (12, .ref 4 0 0 1 v24.length false), (14, I 1)] [some ⟨0, dL v44.2⟩, some ⟨0, dL v46.2⟩, none, some ⟨1, [I v22.fIn, .ref 2 0 0 3 v22.fRow.length false, B v22.fCome]⟩, some ⟨0, eL v24⟩] ?_
  refine srvM [11] 2 115 [(0, A a0), (1, A a1), (5, .fptr (Enc.cells a2) 0), (8, A v16), (12, .ref 4 0 0 1 v24.length false), (85, .ref 4 0 0 1 v24.length false), (86, I 1)] [some ⟨0, dL v44.2⟩, some ⟨0, dL v46.2⟩, none, some ⟨1, [I v22.fIn, .ref 2 0 0 3 v22.fRow.length false, B v22.fCome]⟩, some ⟨0, eL v24⟩] ?_
  obtain ⟨v52, hv53, h⟩ := bindS h
  refine opsP_E (dd := some 87) (x := I v52.1) (callD_E τ 87 4 0 (ok_laws_markIntS hv53) (by kernel_rfl)) ?_
  refine opsP_imp (Imp.to (st' := ⟨115, [(0, A a0), (1, A a1), (5, .fptr (Enc.cells a2) 0), (8, A v16), (12, .ref 4 0 0 1 v24.length false), (85, .ref 4 0 0 1 v24.length false), (86, I 1), (87, I v52.1)], [some ⟨0, dL v44.2⟩, some ⟨0, dL v46.2⟩, none, some ⟨1, [I v22.fIn, .ref 2 0 0 3 v22.fRow.length false, B v22.fCome]⟩, some ⟨0, eL v52.2⟩]⟩) [0, 1, 5, 8, 12, 85, 86, 87] (by kernel_rfl)) ?_
  refine opsP_ren (st' := ⟨115, [(0, A a0), (1, A a1), (5, .fptr (Enc.cells a2) 0), (8, A v16), (12, .ref 4 0 0 1 v52.2.length false), (85, .ref 4 0 0 1 v52.2.length false), (86, I 1), (87, I v52.1)], [some ⟨0, dL v44.2⟩, some ⟨0, dL v46.2⟩, none, some ⟨1, [I v22.fIn, .ref 2 0 0 3 v22.fRow.length false, B v22.fCome]⟩, some ⟨0, eL v52.2⟩]⟩) 4 v52.2.length (renC trivial (renC trivial (renC trivial (renC trivial (renC (ren_ref (len_laws_markIntS hv53).symm) (renC (ren_ref (len_laws_markIntS hv53).symm) (renC trivial (renC trivial renC0)))))))) (by kernel_rfl) ?_
  refine veM [11] 1 115 [(0, A a0), (1, A a1), (5, .fptr (Enc.cells a2) 0), (8, A v16), (12, .ref 4 0 0 1 v52.2.length false), (14, I v52.1)] [some ⟨0, dL v44.2⟩, some ⟨0, dL v46.2⟩, none, some ⟨1, [I v22.fIn, .ref 2 0 0 3 v22.fRow.length false, B v22.fCome]⟩, some ⟨0, eL v52.2⟩] ?_
  refine srveM [11] 115 [(0, A a0), (1, A a1), (5, .fptr (Enc.cells a2) 0), (8, A v16), (12, .ref 4 0 0 1 v52.2.length false), (14, I v52.1), (15, I 1)] [some ⟨0, dL v44.2⟩, some ⟨0, dL v46.2⟩, none, some ⟨1, [I v22.fIn, .ref 2 0 0 3 v22.fRow.length false, B v22.fCome]⟩, some ⟨0, eL v52.2⟩] ?_
  refine srvM [11] 2 115 [(0, A a0), (1, A a1), (5, .fptr (Enc.cells a2) 0), (8, A v16), (12, .ref 4 0 0 1 v52.2.length false), (14, I v52.1), (88, .ref 4 0 0 1 v52.2.length false), (89, I 1)] [some ⟨0, dL v44.2⟩, some ⟨0, dL v46.2⟩, none, some ⟨1, [I v22.fIn, .ref 2 0 0 3 v22.fRow.length false, B v22.fCome]⟩, some ⟨0, eL v52.2⟩] ?_
  obtain ⟨v54, hv55, h⟩ := bindS h
  refine opsP_callV (xs := [.ref 4 0 0 1 v52.2.length false, I 1]) τ 90 (ok_laws_heldIntS hv55) (Blind.lit _) (FzTo.frz rfl) (by kernel_rfl) (ViewL.cons (View.whole (v := 0) v52.2 (by kernel_rfl) rfl) (ViewL.cons (View.frz rfl) (ViewL.nil _))) ?_
  refine veM [11] 1 115 [(0, A a0), (1, A a1), (5, .fptr (Enc.cells a2) 0), (8, A v16), (12, .ref 4 0 0 1 v52.2.length false), (14, I v52.1), (15, I v54)] [some ⟨0, dL v44.2⟩, some ⟨0, dL v46.2⟩, none, some ⟨1, [I v22.fIn, .ref 2 0 0 3 v22.fRow.length false, B v22.fCome]⟩, some ⟨0, eL v52.2⟩] ?_
  refine pwp_seq ?_
  refine srveM [11] 115 [(0, A a0), (1, A a1), (5, .fptr (Enc.cells a2) 0), (8, A v16), (12, .ref 4 0 0 1 v52.2.length false), (14, I v52.1), (15, I v54), (92, B ((decide (v54 < 0))))] [some ⟨0, dL v44.2⟩, some ⟨0, dL v46.2⟩, none, some ⟨1, [I v22.fIn, .ref 2 0 0 3 v22.fRow.length false, B v22.fCome]⟩, some ⟨0, eL v52.2⟩] ?_
  refine pc h (fun h => ?_) (fun h => ?_)
  refine srveM [11] 115 [(6, B false)] [some ⟨0, dL v44.2⟩, some ⟨0, dL v46.2⟩, none, some ⟨1, [I v22.fIn, .ref 2 0 0 3 v22.fRow.length false, B v22.fCome]⟩, some ⟨0, eL v52.2⟩] ?_
  cases h
  exact pwp_ret rz
  refine pwp_skip ?_
  refine pwp_seq ?_
  refine srveM [11] 115 [(0, A a0), (1, A a1), (5, .fptr (Enc.cells a2) 0), (8, A v16), (12, .ref 4 0 0 1 v52.2.length false), (14, I v52.1), (95, B ((!(v54 == v52.1))))] [some ⟨0, dL v44.2⟩, some ⟨0, dL v46.2⟩, none, some ⟨1, [I v22.fIn, .ref 2 0 0 3 v22.fRow.length false, B v22.fCome]⟩, some ⟨0, eL v52.2⟩] ?_
  refine pc h (fun h => ?_) (fun h => ?_)
  refine srveM [11] 115 [(6, B false)] [some ⟨0, dL v44.2⟩, some ⟨0, dL v46.2⟩, none, some ⟨1, [I v22.fIn, .ref 2 0 0 3 v22.fRow.length false, B v22.fCome]⟩, some ⟨0, eL v52.2⟩] ?_
  cases h
  exact pwp_ret rz
  refine pwp_skip ?_
  refine pwp_seq ?_
  refine pwp_imp (Imp.to (st' := ⟨115, [(0, A a0), (1, A a1), (5, .fptr (Enc.cells a2) 0), (8, A v16), (12, .ref 4 0 0 1 v52.2.length false), (14, I v52.1)], [some ⟨0, dL v44.2⟩, some ⟨0, dL v46.2⟩, none, some ⟨1, [I v22.fIn, .ref 2 0 0 3 v22.fRow.length false, B v22.fCome]⟩, some ⟨0, eL v52.2⟩]⟩) [0, 1, 5, 8, 12, 14] (by kernel_rfl)) ?_
  refine pwp_any ([[], [], [], [], [], [], [], []]) ([[], [], [], [], [], [], [], []]) rfl (by kernel_rfl) ?_
  refine qA_ev (st' := ⟨115, [(96, A a0), (0, A a0), (1, A a1), (5, .fptr (Enc.cells a2) 0), (8, A v16), (12, .ref 4 0 0 1 v52.2.length false), (14, I v52.1)], [some ⟨0, dL v44.2⟩, some ⟨0, dL v46.2⟩, none, some ⟨1, [I v22.fIn, .ref 2 0 0 3 v22.fRow.length false, B v22.fCome]⟩, some ⟨0, eL v52.2⟩]⟩) τ_ok [11] [] 1 (by exact trivial) (by kernel_rfl) ?_
  obtain ⟨v58, hv59, h⟩ := bindS h
  refine qA_E (dd := some 97) (x := A v58) ([none, none, none, none, none]) (⟨115, [(97, A v58), (96, A a0), (0, A a0), (1, A a1), (5, .fptr (Enc.cells a2) 0), (8, A v16), (12, .ref 4 0 0 1 v52.2.length false), (14, I v52.1)], [some ⟨0, dL v44.2⟩, some ⟨0, dL v46.2⟩, none, some ⟨1, [I v22.fIn, .ref 2 0 0 3 v22.fRow.length false, B v22.fCome]⟩, some ⟨0, eL v52.2⟩]⟩) (fun Γ' hΓ => CoreE.of_g (callV_sound (τ := τ) (by kernel_rfl) rfl (ok_laws_toTableS_D hv59) (FzTo.OD _))) (by kernel_rfl) (by kernel_rfl) (by exact trivial) (.inr (.inr rfl)) (by kernel_rfl) ?_
  refine qA_ev (st' := ⟨115, [(98, A a1), (97, A v58), (96, A a0), (0, A a0), (1, A a1), (5, .fptr (Enc.cells a2) 0), (8, A v16), (12, .ref 4 0 0 1 v52.2.length false), (14, I v52.1)], [some ⟨0, dL v44.2⟩, some ⟨0, dL v46.2⟩, none, some ⟨1, [I v22.fIn, .ref 2 0 0 3 v22.fRow.length false, B v22.fCome]⟩, some ⟨0, eL v52.2⟩]⟩) τ_ok [11] [] 1 (by exact trivial) (by kernel_rfl) ?_
  obtain ⟨v60, hv61, h⟩ := bindS h
  refine qA_E (dd := some 99) (x := A v60) ([none, none, none, none, none]) (⟨115, [(99, A v60), (98, A a1), (97, A v58), (96, A a0), (0, A a0), (1, A a1), (5, .fptr (Enc.cells a2) 0), (8, A v16), (12, .ref 4 0 0 1 v52.2.length false), (14, I v52.1)], [some ⟨0, dL v44.2⟩, some ⟨0, dL v46.2⟩, none, some ⟨1, [I v22.fIn, .ref 2 0 0 3 v22.fRow.length false, B v22.fCome]⟩, some ⟨0, eL v52.2⟩]⟩) (fun Γ' hΓ => CoreE.of_g (callV_sound (τ := τ) (by kernel_rfl) rfl (ok_laws_toBondS_D hv61) (FzTo.OD _))) (by kernel_rfl) (by kernel_rfl) (by exact trivial) (.inr (.inr rfl)) (by kernel_rfl) ?_
  refine qA_ev (st' := ⟨115, [(100, E a2), (99, A v60), (98, A a1), (97, A v58), (96, A a0), (0, A a0), (1, A a1), (5, .fptr (Enc.cells a2) 0), (8, A v16), (12, .ref 4 0 0 1 v52.2.length false), (14, I v52.1)], [some ⟨0, dL v44.2⟩, some ⟨0, dL v46.2⟩, none, some ⟨1, [I v22.fIn, .ref 2 0 0 3 v22.fRow.length false, B v22.fCome]⟩, some ⟨0, eL v52.2⟩]⟩) τ_ok [11] [] 1 (by exact trivial) (by kernel_rfl) ?_
  obtain ⟨v62, hv63, h⟩ := bindS h
  refine qA_E (dd := some 101) (x := E v62) ([none, none, none, none, none]) (⟨115, [(101, E v62), (100, E a2), (99, A v60), (98, A a1), (97, A v58), (96, A a0), (0, A a0), (1, A a1), (5, .fptr (Enc.cells a2) 0), (8, A v16), (12, .ref 4 0 0 1 v52.2.length false), (14, I v52.1)], [some ⟨0, dL v44.2⟩, some ⟨0, dL v46.2⟩, none, some ⟨1, [I v22.fIn, .ref 2 0 0 3 v22.fRow.length false, B v22.fCome]⟩, some ⟨0, eL v52.2⟩]⟩) (fun Γ' hΓ => CoreE.of_g (callV_sound (τ := τ) (by kernel_rfl) rfl (ok_laws_toChange_D hv63) (FzTo.agg (DEnc.fz _)))) (by kernel_rfl) (by kernel_rfl) (by exact trivial) (.inr (.inr rfl)) (by kernel_rfl) ?_
  obtain ⟨v64, hv65, h⟩ := bindS h
  refine qA_E (dd := some 102) (x := A v64) ([none, none, none, none, none]) (⟨115, [(102, A v64), (101, E v62), (100, E a2), (99, A v60), (98, A a1), (97, A v58), (96, A a0), (0, A a0), (1, A a1), (5, .fptr (Enc.cells a2) 0), (8, A v16), (12, .ref 4 0 0 1 v52.2.length false), (14, I v52.1)], [some ⟨0, dL v44.2⟩, some ⟨0, dL v46.2⟩, none, some ⟨1, [I v22.fIn, .ref 2 0 0 3 v22.fRow.length false, B v22.fCome]⟩, some ⟨0, eL v52.2⟩]⟩) (fun Γ' hΓ => CoreE.of_g (callV_sound (τ := τ) (by kernel_rfl) rfl (ok_impl_BondsAsked_R hv65) (FzTo.O _))) (by kernel_rfl) (by kernel_rfl) (by exact trivial) (.inr (.inr rfl)) (by kernel_rfl) ?_
  refine qA_ev (st' := ⟨115, [(16, A v64), (102, A v64), (101, E v62), (100, E a2), (99, A v60), (98, A a1), (97, A v58), (96, A a0), (0, A a0), (1, A a1), (5, .fptr (Enc.cells a2) 0), (8, A v16), (12, .ref 4 0 0 1 v52.2.length false), (14, I v52.1)], [some ⟨0, dL v44.2⟩, some ⟨0, dL v46.2⟩, none, some ⟨1, [I v22.fIn, .ref 2 0 0 3 v22.fRow.length false, B v22.fCome]⟩, some ⟨0, eL v52.2⟩]⟩) τ_ok [11] [] 1 (by exact trivial) (by kernel_rfl) ?_
  refine qA_end ?_
  refine opsP_imp (Imp.to (st' := ⟨115, [(8, A v16), (12, .ref 4 0 0 1 v52.2.length false), (14, I v52.1), (16, A v64)], [some ⟨0, dL v44.2⟩, some ⟨0, dL v46.2⟩, none, some ⟨1, [I v22.fIn, .ref 2 0 0 3 v22.fRow.length false, B v22.fCome]⟩, some ⟨0, eL v52.2⟩]⟩) [8, 12, 14, 16] (by kernel_rfl)) ?_
  refine opsP_end rfl ?_
  refine pwp_seq ?_
  refine srvM [11] 2 115 [(12, .ref 4 0 0 1 v52.2.length false), (14, I v52.1), (103, A v64), (104, A v16)] [some ⟨0, dL v44.2⟩, some ⟨0, dL v46.2⟩, none, some ⟨1, [I v22.fIn, .ref 2 0 0 3 v22.fRow.length false, B v22.fCome]⟩, some ⟨0, eL v52.2⟩] ?_
  obtain ⟨v66, hv67, h⟩ := bindS h
  refine opsP_callF τ 105 (ok_laws_eqIntS hv67) (FzTo.frz rfl) rfl (by kernel_rfl) ?_
  refine veM [11] 1 115 [(12, .ref 4 0 0 1 v52.2.length false), (14, I v52.1), (106, B ((!v66)))] [some ⟨0, dL v44.2⟩, some ⟨0, dL v46.2⟩, none, some ⟨1, [I v22.fIn, .ref 2 0 0 3 v22.fRow.length false, B v22.fCome]⟩, some ⟨0, eL v52.2⟩] ?_
  refine pc h (fun h => ?_) (fun h => ?_)
  refine srveM [11] 115 [(6, B false)] [some ⟨0, dL v44.2⟩, some ⟨0, dL v46.2⟩, none, some ⟨1, [I v22.fIn, .ref 2 0 0 3 v22.fRow.length false, B v22.fCome]⟩, some ⟨0, eL v52.2⟩] ?_
  cases h
  exact pwp_ret rz
  refine pwp_skip ?_
  refine srveM [11] 115 [(12, .ref 4 0 0 1 v52.2.length false), (14, I v52.1), (15, I 1)] [some ⟨0, dL v44.2⟩, some ⟨0, dL v46.2⟩, none, some ⟨1, [I v22.fIn, .ref 2 0 0 3 v22.fRow.length false, B v22.fCome]⟩, some ⟨0, eL v52.2⟩] ?_
  refine srvM [11] 2 115 [(14, I v52.1), (107, .ref 4 0 0 1 v52.2.length false), (108, I 1)] [some ⟨0, dL v44.2⟩, some ⟨0, dL v46.2⟩, none, some ⟨1, [I v22.fIn, .ref 2 0 0 3 v22.fRow.length false, B v22.fCome]⟩, some ⟨0, eL v52.2⟩] ?_
  obtain ⟨v69, hv70, h⟩ := bindS h
  refine opsP_callV (xs := [.ref 4 0 0 1 v52.2.length false, I 1]) τ 109 (ok_laws_heldIntS hv70) (Blind.lit _) (FzTo.frz rfl) (by kernel_rfl) (ViewL.cons (View.whole (v := 0) v52.2 (by kernel_rfl) rfl) (ViewL.cons (View.frz rfl) (ViewL.nil _))) ?_
  refine veM [11] 1 115 [(14, I v52.1), (15, I v69)] [some ⟨0, dL v44.2⟩, some ⟨0, dL v46.2⟩, none, some ⟨1, [I v22.fIn, .ref 2 0 0 3 v22.fRow.length false, B v22.fCome]⟩, some ⟨0, eL v52.2⟩] ?_
  refine pwp_seq ?_
  refine srveM [11] 115 [(14, I v52.1), (15, I v69), (111, B ((decide (v69 < 0))))] [some ⟨0, dL v44.2⟩, some ⟨0, dL v46.2⟩, none, some ⟨1, [I v22.fIn, .ref 2 0 0 3 v22.fRow.length false, B v22.fCome]⟩, some ⟨0, eL v52.2⟩] ?_
  refine pc h (fun h => ?_) (fun h => ?_)
  refine srveM [11] 115 [(6, B false)] [some ⟨0, dL v44.2⟩, some ⟨0, dL v46.2⟩, none, some ⟨1, [I v22.fIn, .ref 2 0 0 3 v22.fRow.length false, B v22.fCome]⟩, some ⟨0, eL v52.2⟩] ?_
  cases h
  exact pwp_ret rz
  refine pwp_skip ?_
  refine pwp_seq ?_
  refine srveM [11] 115 [(114, B ((!(v69 == v52.1))))] [some ⟨0, dL v44.2⟩, some ⟨0, dL v46.2⟩, none, some ⟨1, [I v22.fIn, .ref 2 0 0 3 v22.fRow.length false, B v22.fCome]⟩, some ⟨0, eL v52.2⟩] ?_
  refine pc h (fun h => ?_) (fun h => ?_)
  refine srveM [11] 115 [(6, B false)] [some ⟨0, dL v44.2⟩, some ⟨0, dL v46.2⟩, none, some ⟨1, [I v22.fIn, .ref 2 0 0 3 v22.fRow.length false, B v22.fCome]⟩, some ⟨0, eL v52.2⟩] ?_
  cases h
  exact pwp_ret rz
  refine pwp_skip ?_
  refine srveM [11] 115 [(6, B true)] [some ⟨0, dL v44.2⟩, some ⟨0, dL v46.2⟩, none, some ⟨1, [I v22.fIn, .ref 2 0 0 3 v22.fRow.length false, B v22.fCome]⟩, some ⟨0, eL v52.2⟩] ?_
  cases h
  exact pwp_ret rz
end Go.D
