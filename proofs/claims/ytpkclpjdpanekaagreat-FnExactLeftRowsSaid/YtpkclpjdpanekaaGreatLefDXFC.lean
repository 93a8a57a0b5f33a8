import Derived.Test.YtpkclpjdpanekaaGreatLefDXFB
import Derived.KernelRfl
set_option linter.unusedVariables false
set_option linter.unusedSimpArgs false
namespace Go.D
open Go.Proofs
theorem ok_impl_LeftRows_D {a0 : List T_impl_Column} {a1 : List T_impl_Column} {a2 : List (List T_impl_Value)} {a3 : List (List T_impl_Value)} {a4 : List T_impl_Part} {y : List (List T_impl_Value)} (h : impl_LeftRows_D a0 a1 a2 a3 a4 = some y) : OK Tryz.prog 56 [A a0, A a1, A a2, A a3, A a4] (OD y) := by
  refine OK_of_pwp τ_ok Tryz.func56 rfl (by kernel_rfl) rfl fun Γ hX => ?_
  unfold impl_LeftRows_D at h
  refine srve 47 [(0, A a0), (1, A a1), (2, A a2), (3, A a3), (4, A a4)] [] ?_
  refine pwp_seq ?_
  refine srv 5 47 [(1, A a1), (2, A a2), (3, A a3), (4, A a4), (15, A a0), (16, A a1), (17, A a2), (18, A a3), (19, A a4)] [] ?_
  obtain ⟨v1, hv2, h⟩ := bindS h
  refine opsP_callF τ 20 (ok_impl_testOk hv2) (FzTo.frz rfl) rfl (by kernel_rfl) ?_
  refine ve 1 47 [(1, A a1), (2, A a2), (3, A a3), (4, A a4), (21, B ((!v1)))] [] ?_
  refine pc h (fun h => ?_) (fun h => ?_)
  refine srve 47 [(10, .arr 1 0 (eL ([] : List (List T_impl_Value))) true)] [] ?_
  refine pwp_imp (Imp.to (st' := ⟨47, [(10, .arr 1 0 (eL ([] : List (List T_impl_Value))) true)], []⟩) [10] (by kernel_rfl)) ?_
  refine pwp_imp (Imp.thawS (st' := ⟨47, [(10, .ref 0 0 0 1 (([] : List (List T_impl_Value))).length false)], [some ⟨0, dL (([] : List (List T_impl_Value)))⟩]⟩) 10 [10] (by kernel_rfl)) ?_
  have h := si h
  subst h
  exact pwp_ret (rt (.ref 0 0 0 1 (([] : List (List T_impl_Value))).length false) (OutP.listD (v := 0) (by kernel_rfl)))
  refine pwp_skip ?_
  refine srve 47 [(1, A a1), (2, A a2), (3, A a3), (4, A a4), (11, .arr 1 0 (eL ([] : List (List T_impl_Value))) true)] [] ?_
  refine pwp_seq ?_
  refine srve 47 [(1, A a1), (3, A a3), (4, A a4), (11, .arr 1 0 (eL ([] : List (List T_impl_Value))) true), (22, A a2), (23, I ((a2.length : Int))), (24, I 0)] [] ?_
  refine pwp_block ?_
  refine pwp_loop (ι := Nat × Int × (List (List T_impl_Value))) (fun (f7, x5, x6) => (⟨47, [(1, A a1), (3, A a3), (4, A a4), (11, .ref 0 0 0 1 x6.length false), (22, A a2), (23, I ((a2.length : Int))), (24, I x5)], [some ⟨0, dL x6⟩]⟩ : St)) (fun (f7, x5, x6) => impl_LeftRows_D_l0 a1 a2 a3 a4 f7 x5 x6 = some y) (fun (f7, x5, x6) => f7) (FUEL, 0, ([] : List (List T_impl_Value))) h ((Imp.to (st' := ⟨47, [(1, A a1), (3, A a3), (4, A a4), (11, .arr 1 0 (eL ([] : List (List T_impl_Value))) true), (22, A a2), (23, I ((a2.length : Int))), (24, I 0)], []⟩) [1, 3, 4, 11, 22, 23, 24] (by kernel_rfl)).trans ((Imp.thawS (st' := ⟨47, [(1, A a1), (3, A a3), (4, A a4), (11, .ref 0 0 0 1 (([] : List (List T_impl_Value))).length false), (22, A a2), (23, I ((a2.length : Int))), (24, I 0)], [some ⟨0, dL (([] : List (List T_impl_Value)))⟩]⟩) 11 [1, 3, 4, 11, 22, 23, 24] (by kernel_rfl)).trans (Imp.to [1, 3, 4, 11, 22, 23, 24] (by kernel_rfl)))) ?_
  rintro ⟨f7, x5, x6⟩ h
  dsimp only at h ⊢
  rcases f7 with _ | f7
  cases h
  rw [impl_LeftRows_D_l0] at h
  refine srve 47 [(1, A a1), (3, A a3), (4, A a4), (11, .ref 0 0 0 1 x6.length false), (22, A a2), (23, I ((a2.length : Int))), (24, I x5), (25, B ((decide (x5 < ((a2.length : Int))))))] [some ⟨0, dL x6⟩] ?_
  refine pwp_seq ?_
  refine pc h (fun h => ?_) (fun h => ?_)
  refine pwp_skip ?_
  refine pwp_seq ?_
  refine pwp_block ?_
  refine pwp_seq ?_
  refine pwp_region ?_
  obtain ⟨v10, hv11, h⟩ := bindS h
  refine opsP_idx τ_ok 26 hv11 (by kernel_rfl) ?_
  refine ve 2 47 [(1, A a1), (3, A a3), (4, A a4), (11, .ref 0 0 0 1 x6.length false), (13, A v10), (22, A a2), (23, I ((a2.length : Int))), (24, I x5)] [some ⟨0, dL x6⟩] ?_
  refine srv 3 47 [(1, A a1), (3, A a3), (4, A a4), (11, .ref 0 0 0 1 x6.length false), (13, A v10), (22, A a2), (23, I ((a2.length : Int))), (24, I x5), (28, A v10), (29, A a3), (30, A a4)] [some ⟨0, dL x6⟩] ?_
  obtain ⟨v12, hv13, h⟩ := bindS h
  refine opsP_callO τ 31 (ok_impl_partners_D hv13) rfl (by kernel_rfl) ?_
  refine ve 1 47 [(1, A a1), (3, A a3), (4, A a4), (11, .ref 0 0 0 1 x6.length false), (13, A v10), (14, .ref 1 0 0 1 v12.length false), (22, A a2), (23, I ((a2.length : Int))), (24, I x5)] [some ⟨0, dL x6⟩, some ⟨0, dL v12⟩] ?_
  refine pwp_seq ?_
  refine pwp_join (σ := (List (List T_impl_Value))) (fun x14 => (⟨47, [(1, A a1), (3, A a3), (4, A a4), (11, .ref 0 0 0 1 x6.length false), (14, .ref 1 0 0 1 x14.length false), (22, A a2), (23, I ((a2.length : Int))), (24, I x5)], [some ⟨0, dL x6⟩, some ⟨0, dL x14⟩]⟩ : St)) (fun x14 => impl_LeftRows_D_j1 x5 x6 (impl_LeftRows_D_l0 a1 a2 a3 a4 f7) x14 = some y) ?_ ?_
  refine srve 47 [(1, A a1), (3, A a3), (4, A a4), (11, .ref 0 0 0 1 x6.length false), (13, A v10), (14, .ref 1 0 0 1 v12.length false), (22, A a2), (23, I ((a2.length : Int))), (24, I x5), (34, B ((((v12.length : Int)) == 0)))] [some ⟨0, dL x6⟩, some ⟨0, dL v12⟩] ?_
  refine pc h (fun h => ?_) (fun h => ?_)
  refine rv 3 47 [(1, A a1), (3, A a3), (4, A a4), (11, .ref 0 0 0 1 x6.length false), (22, A a2), (23, I ((a2.length : Int))), (24, I x5), (35, A v10), (37, I ((a1.length : Int)))] [some ⟨0, dL x6⟩, some ⟨0, dL v12⟩] ?_
  obtain ⟨v18, hv19, h⟩ := bindS h
  refine opsP_mk τ_ok 38 2 _ hv19 (by kernel_rfl) (by kernel_rfl) ?_
  obtain ⟨v20, hv21, h⟩ := bindS h
  refine opsP_E (dd := some 39) (x := .ref 3 0 0 3 v20.length false) (callVN_E (xs := [A v10, .ref 2 0 0 3 v18.length false]) τ 39 3 (fun b hb => absurd hb (hX b)) (by kernel_rfl) (ok_impl_beside_R hv21) (Blind.O (fun _ => rfl) _) (by kernel_rfl) (ViewL.cons (View.frz rfl) (ViewL.cons (View.whole (v := 0) v18 (by kernel_rfl) rfl) (ViewL.nil _)))) ?_
  refine opsP_E (dd := some 40) (x := .ref 4 0 0 1 (([v20] : List (List T_impl_Value))).length false) ((bslW_N (cells := [.ref 3 0 0 3 v20.length false]) τ_ok 40 4 (fun b hb => absurd hb (hX b)) (by kernel_rfl) (by kernel_rfl)).then (H2 := [some ⟨0, dL x6⟩, some ⟨0, dL v12⟩, some ⟨0, eL v18⟩, some ⟨1, []⟩, some ⟨0, dL (([v20] : List (List T_impl_Value)))⟩]) (HStep.nest0 (vs := [.ref 3 0 0 3 v20.length false]) 4 0 (by kernel_rfl) (OutL.cons (OutP.listn (v := 0) (xs := v20) rfl (by kernel_rfl)) (OutL.nil _)) (by decide) (by decide) (fun b hb => absurd hb (hX b)) (by kernel_rfl) (by kernel_rfl))) ?_
  refine ve 1 47 [(1, A a1), (3, A a3), (4, A a4), (11, .ref 0 0 0 1 x6.length false), (14, .ref 4 0 0 1 (([v20] : List (List T_impl_Value))).length false), (22, A a2), (23, I ((a2.length : Int))), (24, I x5)] [some ⟨0, dL x6⟩, some ⟨0, dL v12⟩, some ⟨0, eL v18⟩, some ⟨1, []⟩, some ⟨0, dL (([v20] : List (List T_impl_Value)))⟩] ?_
  exact ⟨([v20] : List (List T_impl_Value)), h, (Imp.to (st' := ⟨47, [(1, A a1), (3, A a3), (4, A a4), (11, .ref 0 0 0 1 x6.length false), (14, .ref 4 0 0 1 (([v20] : List (List T_impl_Value))).length false), (22, A a2), (23, I ((a2.length : Int))), (24, I x5)], [some ⟨0, dL x6⟩, some ⟨0, dL v12⟩, some ⟨0, eL v18⟩, some ⟨1, []⟩, some ⟨0, dL (([v20] : List (List T_impl_Value)))⟩]⟩) [1, 3, 4, 11, 14, 22, 23, 24] (by kernel_rfl)).trans ((Imp.hideS (st' := ⟨47, [(1, A a1), (3, A a3), (4, A a4), (11, .ref 0 0 0 1 x6.length false), (14, .ref 4 0 0 1 (([v20] : List (List T_impl_Value))).length false), (22, A a2), (23, I ((a2.length : Int))), (24, I x5)], [some ⟨0, dL x6⟩, none, some ⟨0, eL v18⟩, some ⟨1, []⟩, some ⟨0, dL (([v20] : List (List T_impl_Value)))⟩]⟩) 1 (fun b hb => absurd hb (hX b)) (by kernel_rfl)).trans ((Imp.mvB (cs := dL (([v20] : List (List T_impl_Value)))) (st' := ⟨47, [(1, A a1), (3, A a3), (4, A a4), (11, .ref 0 0 0 1 x6.length false), (14, .ref 1 0 0 1 (([v20] : List (List T_impl_Value))).length false), (22, A a2), (23, I ((a2.length : Int))), (24, I x5)], [some ⟨0, dL x6⟩, some ⟨0, dL (([v20] : List (List T_impl_Value)))⟩, some ⟨0, eL v18⟩, some ⟨1, []⟩, none]⟩) 4 1 0 (fun b hb => absurd hb (hX b)) (by kernel_rfl) (dL_qu _) (by kernel_rfl) (by kernel_rfl) (by kernel_rfl) (HpRel.qu rfl (dL_qu _) (HpRel.none rfl (HpRel.frz rfl (eL_frz _) (HpRel.frz rfl rfl (HpRel.key HpRel.nil))))) (by kernel_rfl) (by kernel_rfl) (by rfl) (fun b hb => absurd hb (hX b))).trans ((Imp.to (st' := ⟨47, [(1, A a1), (3, A a3), (4, A a4), (11, .ref 0 0 0 1 x6.length false), (14, .ref 1 0 0 1 (([v20] : List (List T_impl_Value))).length false), (22, A a2), (23, I ((a2.length : Int))), (24, I x5)], [some ⟨0, dL x6⟩, some ⟨0, dL (([v20] : List (List T_impl_Value)))⟩, some ⟨0, eL v18⟩, some ⟨1, []⟩, none]⟩) [1, 3, 4, 11, 14, 22, 23, 24] (by kernel_rfl)).trans ((Imp.truncS (st' := ⟨47, [(1, A a1), (3, A a3), (4, A a4), (11, .ref 0 0 0 1 x6.length false), (14, .ref 1 0 0 1 (([v20] : List (List T_impl_Value))).length false), (22, A a2), (23, I ((a2.length : Int))), (24, I x5)], [some ⟨0, dL x6⟩, some ⟨0, dL (([v20] : List (List T_impl_Value)))⟩]⟩) 2 (fun b hb => absurd hb (hX b)) (by kernel_rfl) (allBelow_mem (by exact (And.intro rfl (And.intro rfl (And.intro rfl (And.intro rfl (And.intro rfl (And.intro rfl (And.intro rfl (And.intro rfl trivial)))))))))) (by exact (And.intro (dL_below _ _) (And.intro (dL_below _ _) trivial))) (by kernel_rfl)).trans (Imp.to [1, 3, 4, 11, 14, 22, 23, 24] (by kernel_rfl))))))⟩
  refine pwp_skip ?_
  exact ⟨v12, h, (Imp.to (st' := ⟨47, [(1, A a1), (3, A a3), (4, A a4), (11, .ref 0 0 0 1 x6.length false), (14, .ref 1 0 0 1 v12.length false), (22, A a2), (23, I ((a2.length : Int))), (24, I x5)], [some ⟨0, dL x6⟩, some ⟨0, dL v12⟩]⟩) [1, 3, 4, 11, 14, 22, 23, 24] (by kernel_rfl)).trans (Imp.to [1, 3, 4, 11, 14, 22, 23, 24] (by kernel_rfl))⟩
  rintro x14 h
  unfold impl_LeftRows_D_j1 at h
  refine rv 2 47 [(1, A a1), (3, A a3), (4, A a4), (22, A a2), (23, I ((a2.length : Int))), (24, I x5), (41, .ref 0 0 0 1 x6.length false), (42, .ref 1 0 0 1 x14.length false)] [some ⟨0, dL x6⟩, some ⟨0, dL x14⟩] ?_
  obtain ⟨v15, hv16, h⟩ := bindS h
  refine opsP_E (dd := some 43) (x := .ref 0 1 0 1 v15.length false) (appD_E τ_ok 43 0 0 1 0 (fun b hb => absurd hb (hX b)) (by decide) hv16 (by kernel_rfl) (by kernel_rfl) (by kernel_rfl)) ?_
  refine ve 1 47 [(1, A a1), (3, A a3), (4, A a4), (11, .ref 0 1 0 1 v15.length false), (22, A a2), (23, I ((a2.length : Int))), (24, I x5)] [some ⟨1, dL v15⟩, some ⟨1, []⟩] ?_
  refine rve 47 [(1, A a1), (3, A a3), (4, A a4), (11, .ref 0 1 0 1 v15.length false), (22, A a2), (23, I ((a2.length : Int))), (24, I ((w64 (x5 + 1))))] [some ⟨1, dL v15⟩, some ⟨1, []⟩] ?_
  exact ⟨(f7, (w64 (x5 + 1)), v15), h, Nat.lt_succ_self _, (Imp.to (st' := ⟨47, [(1, A a1), (3, A a3), (4, A a4), (11, .ref 0 1 0 1 v15.length false), (22, A a2), (23, I ((a2.length : Int))), (24, I ((w64 (x5 + 1))))], [some ⟨1, dL v15⟩, some ⟨1, []⟩]⟩) [1, 3, 4, 11, 22, 23, 24] (by kernel_rfl)).trans ((Imp.truncS (st' := ⟨47, [(1, A a1), (3, A a3), (4, A a4), (11, .ref 0 1 0 1 v15.length false), (22, A a2), (23, I ((a2.length : Int))), (24, I ((w64 (x5 + 1))))], [some ⟨1, dL v15⟩]⟩) 1 (fun b hb => absurd hb (hX b)) (by kernel_rfl) (allBelow_mem (by exact (And.intro rfl (And.intro rfl (And.intro rfl (And.intro rfl (And.intro rfl (And.intro rfl (And.intro rfl trivial))))))))) (by exact (And.intro (dL_below _ _) trivial)) (by kernel_rfl)).trans ((Imp.reverB (cs := dL v15) (st' := ⟨47, [(1, A a1), (3, A a3), (4, A a4), (11, .ref 0 0 0 1 v15.length false), (22, A a2), (23, I ((a2.length : Int))), (24, I ((w64 (x5 + 1))))], [some ⟨0, dL v15⟩]⟩) 0 1 (by kernel_rfl) (dL_qu _) (HpRel.key HpRel.nil) (by kernel_rfl) (by rfl) (fun b hb => absurd hb (hX b))).trans (Imp.to [1, 3, 4, 11, 22, 23, 24] (by kernel_rfl))))⟩
  refine pwp_exit ?_
  refine srv 1 47 [(45, .ref 0 0 0 1 x6.length false)] [some ⟨0, dL x6⟩] ?_
  obtain ⟨v22, hv23, h⟩ := bindS h
  refine opsP_callM (xs := [.ref 0 0 0 1 x6.length false]) (x := .ref 1 0 0 1 v22.length false) (bs := [⟨0, dL v22⟩]) τ 46 [0] (fun b hb => absurd hb (hX b)) (ok_slices_Clip_impl_Value_impl_Value_s3_D hv23) (by kernel_rfl) (OutL.cons (OutP.listD (v := 0) (by kernel_rfl)) (OutL.nil _)) (by decide) (by kernel_rfl) ?_
  refine ve 1 47 [(10, .ref 1 0 0 1 v22.length false)] [none, some ⟨0, dL v22⟩] ?_
  have h := si h
  subst h
  exact pwp_ret (rt (.ref 1 0 0 1 v22.length false) (OutP.listD (v := 0) (by kernel_rfl)))
def laws_FnExactLeftRows_j0 (a0 : List T_laws_Column) (a1 : List T_laws_Column) (a2 : List (List T_laws_Value)) (a3 : List (List T_laws_Value)) (a4 : List T_laws_Part) (v26 : List (List T_impl_Value)) (v38 : List (List T_impl_Value)) (x78 : Bool) : Option Bool := bif x78 then some false else (laws_markValueSS v38 1).bind fun v80 => (laws_heldValueSS v80.2 1).bind fun v82 => bif (decide (v82 < 0)) then some false else bif (!(v82 == v80.1)) then some false else (laws_toColumnS a0).bind fun v86 => (laws_toColumnS a1).bind fun v88 => (laws_toValueSS_D a2).bind fun v90 => (laws_toValueSS_D a3).bind fun v92 => (laws_toPartS a4).bind fun v94 => (impl_LeftRows_D v86 v88 v90 v92 v94).bind fun v96 => (laws_eqValueSS v96 v26).bind fun v98 => bif (!v98) then some false else (laws_heldValueSS v80.2 1).bind fun v101 => bif (decide (v101 < 0)) then some false else bif (!(v101 == v80.1)) then some false else some true
def laws_FnExactLeftRows (a0 : List T_laws_Column) (a1 : List T_laws_Column) (a2 : List (List T_laws_Value)) (a3 : List (List T_laws_Value)) (a4 : List T_laws_Part) : Option Bool := (laws_szColumnS a0 1048576).bind fun v1 => bif (decide (v1 < 0)) then some true else (laws_szColumnS a1 v1).bind fun v4 => bif (decide (v4 < 0)) then some true else (laws_szValueSS a2 v4).bind fun v7 => bif (decide (v7 < 0)) then some true else (laws_szValueSS a3 v7).bind fun v10 => bif (decide (v10 < 0)) then some true else (laws_szPartS a4 v10).bind fun v13 => bif (decide (v13 < 0)) then some true else (laws_toColumnS a0).bind fun v16 => (laws_toColumnS a1).bind fun v18 => (laws_toValueSS_D a2).bind fun v20 => (laws_toValueSS_D a3).bind fun v22 => (laws_toPartS a4).bind fun v24 => (spec_LeftRows v16 v18 v20 v22 v24).bind fun v26 => (laws_toColumnS a0).bind fun v28 => (laws_toColumnS a1).bind fun v30 => (laws_toValueSS_D a2).bind fun v32 => (laws_toValueSS_D a3).bind fun v34 => (laws_toPartS a4).bind fun v36 => (impl_LeftRows_D v28 v30 v32 v34 v36).bind fun v38 => (laws_eqValueSS v38 v26).bind fun v40 => bif (!v40) then some false else (laws_toColumnS a0).bind fun v43 => (laws_eqColumnS v28 v43).bind fun v45 => bif (!v45) then some false else (laws_toColumnS a1).bind fun v48 => (laws_eqColumnS v30 v48).bind fun v50 => bif (!v50) then some false else (laws_toValueSS_D a2).bind fun v53 => (laws_eqValueSS v32 v53).bind fun v55 => bif (!v55) then some false else (laws_toValueSS_D a3).bind fun v58 => (laws_eqValueSS v34 v58).bind fun v60 => bif (!v60) then some false else (laws_toPartS a4).bind fun v63 => (laws_eqPartS v36 v63).bind fun v65 => bif (!v65) then some false else (laws_markColumnS v28 1).bind fun v68 => (laws_markColumnS v30 v68.1).bind fun v70 => (laws_markValueSS v32 v70.1).bind fun v72 => (laws_markValueSS v34 v72.1).bind fun v74 => (laws_markPartS v36 v74.1).bind fun v76 => bif (decide (v76.1 < 0)) then laws_FnExactLeftRows_j0 a0 a1 a2 a3 a4 v26 v38 true else (laws_eqValueSS v38 v26).bind fun v105 => laws_FnExactLeftRows_j0 a0 a1 a2 a3 a4 v26 v38 ((!v105))
theorem ok_laws_FnExactLeftRows {a0 : List T_laws_Column} {a1 : List T_laws_Column} {a2 : List (List T_laws_Value)} {a3 : List (List T_laws_Value)} {a4 : List T_laws_Part} {y : Bool} (h : laws_FnExactLeftRows a0 a1 a2 a3 a4 = some y) : OK Tryz.prog 8 [A a0, A a1, A a2, A a3, A a4] (B y) := by
  refine OK_of_pwp τ_ok Tryz.func8 rfl (by kernel_rfl) rfl fun Γ hX => ?_
  unfold laws_FnExactLeftRows at h
  refine srve 161 [(0, A a0), (1, A a1), (2, A a2), (3, A a3), (4, A a4)] [] ?_
  refine srve 161 [(0, A a0), (1, A a1), (2, A a2), (3, A a3), (4, A a4), (11, I 1048576)] [] ?_
  refine srv 2 161 [(0, A a0), (1, A a1), (2, A a2), (3, A a3), (4, A a4), (23, A a0), (24, I 1048576)] [] ?_
  obtain ⟨v1, hv2, h⟩ := bindS h
  refine opsP_callF τ 25 (ok_laws_szColumnS hv2) (FzTo.frz rfl) rfl (by kernel_rfl) ?_
  refine ve 1 161 [(0, A a0), (1, A a1), (2, A a2), (3, A a3), (4, A a4), (11, I v1)] [] ?_
  refine pwp_seq ?_
  refine srve 161 [(0, A a0), (1, A a1), (2, A a2), (3, A a3), (4, A a4), (11, I v1), (27, B ((decide (v1 < 0))))] [] ?_
  refine pc h (fun h => ?_) (fun h => ?_)
  refine srve 161 [(10, B true)] [] ?_
  cases h
  exact pwp_ret rz
  refine pwp_skip ?_
  refine srv 2 161 [(0, A a0), (1, A a1), (2, A a2), (3, A a3), (4, A a4), (28, A a1), (29, I v1)] [] ?_
  obtain ⟨v4, hv5, h⟩ := bindS h
  refine opsP_callF τ 30 (ok_laws_szColumnS hv5) (FzTo.frz rfl) rfl (by kernel_rfl) ?_
  refine ve 1 161 [(0, A a0), (1, A a1), (2, A a2), (3, A a3), (4, A a4), (11, I v4)] [] ?_
  refine pwp_seq ?_
  refine srve 161 [(0, A a0), (1, A a1), (2, A a2), (3, A a3), (4, A a4), (11, I v4), (32, B ((decide (v4 < 0))))] [] ?_
  refine pc h (fun h => ?_) (fun h => ?_)
  refine srve 161 [(10, B true)] [] ?_
  cases h
  exact pwp_ret rz
  refine pwp_skip ?_
  refine srv 2 161 [(0, A a0), (1, A a1), (2, A a2), (3, A a3), (4, A a4), (33, A a2), (34, I v4)] [] ?_
  obtain ⟨v7, hv8, h⟩ := bindS h
  refine opsP_callF τ 35 (ok_laws_szValueSS hv8) (FzTo.frz rfl) rfl (by kernel_rfl) ?_
  refine ve 1 161 [(0, A a0), (1, A a1), (2, A a2), (3, A a3), (4, A a4), (11, I v7)] [] ?_
  refine pwp_seq ?_
  refine srve 161 [(0, A a0), (1, A a1), (2, A a2), (3, A a3), (4, A a4), (11, I v7), (37, B ((decide (v7 < 0))))] [] ?_
  refine pc h (fun h => ?_) (fun h => ?_)
  refine srve 161 [(10, B true)] [] ?_
  cases h
  exact pwp_ret rz
  refine pwp_skip ?_
  refine srv 2 161 [(0, A a0), (1, A a1), (2, A a2), (3, A a3), (4, A a4), (38, A a3), (39, I v7)] [] ?_
  obtain ⟨v10, hv11, h⟩ := bindS h
  refine opsP_callF τ 40 (ok_laws_szValueSS hv11) (FzTo.frz rfl) rfl (by kernel_rfl) ?_
  refine ve 1 161 [(0, A a0), (1, A a1), (2, A a2), (3, A a3), (4, A a4), (11, I v10)] [] ?_
  refine pwp_seq ?_
  refine srve 161 [(0, A a0), (1, A a1), (2, A a2), (3, A a3), (4, A a4), (11, I v10), (42, B ((decide (v10 < 0))))] [] ?_
  refine pc h (fun h => ?_) (fun h => ?_)
  refine srve 161 [(10, B true)] [] ?_
  cases h
  exact pwp_ret rz
  refine pwp_skip ?_
  refine srv 2 161 [(0, A a0), (1, A a1), (2, A a2), (3, A a3), (4, A a4), (43, A a4), (44, I v10)] [] ?_
  obtain ⟨v13, hv14, h⟩ := bindS h
  refine opsP_callF τ 45 (ok_laws_szPartS hv14) (FzTo.frz rfl) rfl (by kernel_rfl) ?_
  refine ve 1 161 [(0, A a0), (1, A a1), (2, A a2), (3, A a3), (4, A a4), (11, I v13)] [] ?_
  refine pwp_seq ?_
  refine srve 161 [(0, A a0), (1, A a1), (2, A a2), (3, A a3), (4, A a4), (47, B ((decide (v13 < 0))))] [] ?_
  refine pc h (fun h => ?_) (fun h => ?_)
  refine srve 161 [(10, B true)] [] ?_
  cases h
  exact pwp_ret rz
  refine pwp_skip ?_
  refine srv 1 161 [(0, A a0), (1, A a1), (2, A a2), (3, A a3), (4, A a4), (48, A a0)] [] ?_
  obtain ⟨v16, hv17, h⟩ := bindS h
  refine opsP_callF τ 49 (ok_laws_toColumnS hv17) (FzTo.O _) rfl (by kernel_rfl) ?_
  refine v 1 161 [(0, A a0), (1, A a1), (2, A a2), (3, A a3), (4, A a4), (49, A v16), (50, A a1)] [] ?_
  obtain ⟨v18, hv19, h⟩ := bindS h
  refine opsP_callF τ 51 (ok_laws_toColumnS hv19) (FzTo.O _) rfl (by kernel_rfl) ?_
  refine v 1 161 [(0, A a0), (1, A a1), (2, A a2), (3, A a3), (4, A a4), (49, A v16), (51, A v18), (52, A a2)] [] ?_
  obtain ⟨v20, hv21, h⟩ := bindS h
  refine opsP_callF τ 53 (ok_laws_toValueSS_D hv21) (FzTo.OD _) rfl (by kernel_rfl) ?_
  refine v 1 161 [(0, A a0), (1, A a1), (2, A a2), (3, A a3), (4, A a4), (49, A v16), (51, A v18), (53, A v20), (54, A a3)] [] ?_
  obtain ⟨v22, hv23, h⟩ := bindS h
  refine opsP_callF τ 55 (ok_laws_toValueSS_D hv23) (FzTo.OD _) rfl (by kernel_rfl) ?_
  refine v 1 161 [(0, A a0), (1, A a1), (2, A a2), (3, A a3), (4, A a4), (49, A v16), (51, A v18), (53, A v20), (55, A v22), (56, A a4)] [] ?_
  obtain ⟨v24, hv25, h⟩ := bindS h
  refine opsP_callF τ 57 (ok_laws_toPartS hv25) (FzTo.O _) rfl (by kernel_rfl) ?_
  obtain ⟨v26, hv27, h⟩ := bindS h
  refine opsP_callF τ 58 (ok_spec_LeftRows hv27) (FzTo.O _) rfl (by kernel_rfl) ?_
  refine ve 1 161 [(0, A a0), (1, A a1), (2, A a2), (3, A a3), (4, A a4), (12, A v26)] [] ?_
  refine srv 1 161 [(0, A a0), (1, A a1), (2, A a2), (3, A a3), (4, A a4), (12, A v26), (59, A a0)] [] ?_
  obtain ⟨v28, hv29, h⟩ := bindS h
  refine opsP_callO τ 60 (ok_laws_toColumnS hv29) rfl (by kernel_rfl) ?_
  refine ve 1 161 [(0, A a0), (1, A a1), (2, A a2), (3, A a3), (4, A a4), (12, A v26), (13, .ref 0 0 0 2 v28.length false)] [some ⟨0, eL v28⟩] ?_
  refine srv 1 161 [(0, A a0), (1, A a1), (2, A a2), (3, A a3), (4, A a4), (12, A v26), (13, .ref 0 0 0 2 v28.length false), (61, A a1)] [some ⟨0, eL v28⟩] ?_
  obtain ⟨v30, hv31, h⟩ := bindS h
  refine opsP_callO τ 62 (ok_laws_toColumnS hv31) rfl (by kernel_rfl) ?_
  refine ve 1 161 [(0, A a0), (1, A a1), (2, A a2), (3, A a3), (4, A a4), (12, A v26), (13, .ref 0 0 0 2 v28.length false), (14, .ref 1 0 0 2 v30.length false)] [some ⟨0, eL v28⟩, some ⟨0, eL v30⟩] ?_
  refine srv 1 161 [(0, A a0), (1, A a1), (2, A a2), (3, A a3), (4, A a4), (12, A v26), (13, .ref 0 0 0 2 v28.length false), (14, .ref 1 0 0 2 v30.length false), (63, A a2)] [some ⟨0, eL v28⟩, some ⟨0, eL v30⟩] ?_
  obtain ⟨v32, hv33, h⟩ := bindS h
  refine opsP_callO τ 64 (ok_laws_toValueSS_D hv33) rfl (by kernel_rfl) ?_
  refine ve 1 161 [(0, A a0), (1, A a1), (2, A a2), (3, A a3), (4, A a4), (12, A v26), (13, .ref 0 0 0 2 v28.length false), (14, .ref 1 0 0 2 v30.length false), (15, .ref 2 0 0 1 v32.length false)] [some ⟨0, eL v28⟩, some ⟨0, eL v30⟩, some ⟨0, dL v32⟩] ?_
  refine srv 1 161 [(0, A a0), (1, A a1), (2, A a2), (3, A a3), (4, A a4), (12, A v26), (13, .ref 0 0 0 2 v28.length false), (14, .ref 1 0 0 2 v30.length false), (15, .ref 2 0 0 1 v32.length false), (65, A a3)] [some ⟨0, eL v28⟩, some ⟨0, eL v30⟩, some ⟨0, dL v32⟩] ?_
  obtain ⟨v34, hv35, h⟩ := bindS h
  refine opsP_callO τ 66 (ok_laws_toValueSS_D hv35) rfl (by kernel_rfl) ?_
  refine ve 1 161 [(0, A a0), (1, A a1), (2, A a2), (3, A a3), (4, A a4), (12, A v26), (13, .ref 0 0 0 2 v28.length false), (14, .ref 1 0 0 2 v30.length false), (15, .ref 2 0 0 1 v32.length false), (16, .ref 3 0 0 1 v34.length false)] [some ⟨0, eL v28⟩, some ⟨0, eL v30⟩, some ⟨0, dL v32⟩, some ⟨0, dL v34⟩] ?_
  refine srv 1 161 [(0, A a0), (1, A a1), (2, A a2), (3, A a3), (4, A a4), (12, A v26), (13, .ref 0 0 0 2 v28.length false), (14, .ref 1 0 0 2 v30.length false), (15, .ref 2 0 0 1 v32.length false), (16, .ref 3 0 0 1 v34.length false), (67, A a4)] [some ⟨0, eL v28⟩, some ⟨0, eL v30⟩, some ⟨0, dL v32⟩, some ⟨0, dL v34⟩] ?_
  obtain ⟨v36, hv37, h⟩ := bindS h
  refine opsP_callO τ 68 (ok_laws_toPartS hv37) rfl (by kernel_rfl) ?_
  refine ve 1 161 [(0, A a0), (1, A a1), (2, A a2), (3, A a3), (4, A a4), (12, A v26), (13, .ref 0 0 0 2 v28.length false), (14, .ref 1 0 0 2 v30.length false), (15, .ref 2 0 0 1 v32.length false), (16, .ref 3 0 0 1 v34.length false), (17, .ref 4 0 0 5 v36.length false)] [some ⟨0, eL v28⟩, some ⟨0, eL v30⟩, some ⟨0, dL v32⟩, some ⟨0, dL v34⟩, some ⟨0, eL v36⟩] ?_
  refine srv 5 161 [(0, A a0), (1, A a1), (2, A a2), (3, A a3), (4, A a4), (12, A v26), (13, .ref 0 0 0 2 v28.length false), (14, .ref 1 0 0 2 v30.length false), (15, .ref 2 0 0 1 v32.length false), (16, .ref 3 0 0 1 v34.length false), (17, .ref 4 0 0 5 v36.length false), (69, .ref 0 0 0 2 v28.length false), (70, .ref 1 0 0 2 v30.length false), (71, .ref 2 0 0 1 v32.length false), (72, .ref 3 0 0 1 v34.length false), (73, .ref 4 0 0 5 v36.length false)] [some ⟨0, eL v28⟩, some ⟨0, eL v30⟩, some ⟨0, dL v32⟩, some ⟨0, dL v34⟩, some ⟨0, eL v36⟩] ?_
  obtain ⟨v38, hv39, h⟩ := bindS h
  refine opsP_E (dd := some 74) (x := .ref 5 0 0 1 v38.length false) (callVN_E (xs := [.ref 0 0 0 2 v28.length false, .ref 1 0 0 2 v30.length false, .ref 2 0 0 1 v32.length false, .ref 3 0 0 1 v34.length false, .ref 4 0 0 5 v36.length false]) τ 74 5 (fun b hb => absurd hb (hX b)) (by kernel_rfl) (ok_impl_LeftRows_D hv39) (Blind.OD _) (by kernel_rfl) (ViewL.cons (View.whole (v := 0) v28 (by kernel_rfl) rfl) (ViewL.cons (View.whole (v := 0) v30 (by kernel_rfl) rfl) (ViewL.cons (View.deep (v := 0) v32 (by kernel_rfl) rfl) (ViewL.cons (View.deep (v := 0) v34 (by kernel_rfl) rfl) (ViewL.cons (View.whole (v := 0) v36 (by kernel_rfl) rfl) (ViewL.nil _))))))) ?_
  refine ve 1 161 [(0, A a0), (1, A a1), (2, A a2), (3, A a3), (4, A a4), (12, A v26), (13, .ref 0 0 0 2 v28.length false), (14, .ref 1 0 0 2 v30.length false), (15, .ref 2 0 0 1 v32.length false), (16, .ref 3 0 0 1 v34.length false), (17, .ref 4 0 0 5 v36.length false), (18, .ref 5 0 0 1 v38.length false)] [some ⟨0, eL v28⟩, some ⟨0, eL v30⟩, some ⟨0, dL v32⟩, some ⟨0, dL v34⟩, some ⟨0, eL v36⟩, some ⟨0, dL v38⟩] ?_
  refine pwp_seq ?_
  refine srv 2 161 [(0, A a0), (1, A a1), (2, A a2), (3, A a3), (4, A a4), (12, A v26), (13, .ref 0 0 0 2 v28.length false), (14, .ref 1 0 0 2 v30.length false), (15, .ref 2 0 0 1 v32.length false), (16, .ref 3 0 0 1 v34.length false), (17, .ref 4 0 0 5 v36.length false), (18, .ref 5 0 0 1 v38.length false), (75, .ref 5 0 0 1 v38.length false), (76, A v26)] [some ⟨0, eL v28⟩, some ⟨0, eL v30⟩, some ⟨0, dL v32⟩, some ⟨0, dL v34⟩, some ⟨0, eL v36⟩, some ⟨0, dL v38⟩] ?_
  obtain ⟨v40, hv41, h⟩ := bindS h
  refine opsP_callV (xs := [.ref 5 0 0 1 v38.length false, A v26]) τ 77 (ok_laws_eqValueSS hv41) (Blind.lit _) (FzTo.frz rfl) (by kernel_rfl) (ViewL.cons (View.deep (v := 0) v38 (by kernel_rfl) rfl) (ViewL.cons (View.frz rfl) (ViewL.nil _))) ?_
  refine ve 1 161 [(0, A a0), (1, A a1), (2, A a2), (3, A a3), (4, A a4), (12, A v26), (13, .ref 0 0 0 2 v28.length false), (14, .ref 1 0 0 2 v30.length false), (15, .ref 2 0 0 1 v32.length false), (16, .ref 3 0 0 1 v34.length false), (17, .ref 4 0 0 5 v36.length false), (18, .ref 5 0 0 1 v38.length false), (78, B ((!v40)))] [some ⟨0, eL v28⟩, some ⟨0, eL v30⟩, some ⟨0, dL v32⟩, some ⟨0, dL v34⟩, some ⟨0, eL v36⟩, some ⟨0, dL v38⟩] ?_
  refine pc h (fun h => ?_) (fun h => ?_)
  refine srve 161 [(10, B false)] [some ⟨0, eL v28⟩, some ⟨0, eL v30⟩, some ⟨0, dL v32⟩, some ⟨0, dL v34⟩, some ⟨0, eL v36⟩, some ⟨0, dL v38⟩] ?_
  cases h
  exact pwp_ret rz
  refine pwp_skip ?_
  refine pwp_seq ?_
  refine srv 2 161 [(0, A a0), (1, A a1), (2, A a2), (3, A a3), (4, A a4), (12, A v26), (13, .ref 0 0 0 2 v28.length false), (14, .ref 1 0 0 2 v30.length false), (15, .ref 2 0 0 1 v32.length false), (16, .ref 3 0 0 1 v34.length false), (17, .ref 4 0 0 5 v36.length false), (18, .ref 5 0 0 1 v38.length false), (79, .ref 0 0 0 2 v28.length false), (80, A a0)] [some ⟨0, eL v28⟩, some ⟨0, eL v30⟩, some ⟨0, dL v32⟩, some ⟨0, dL v34⟩, some ⟨0, eL v36⟩, some ⟨0, dL v38⟩] ?_
  obtain ⟨v43, hv44, h⟩ := bindS h
  refine opsP_callF τ 81 (ok_laws_toColumnS hv44) (FzTo.O _) rfl (by kernel_rfl) ?_
  obtain ⟨v45, hv46, h⟩ := bindS h
  refine opsP_callV (xs := [.ref 0 0 0 2 v28.length false, A v43]) τ 82 (ok_laws_eqColumnS hv46) (Blind.lit _) (FzTo.frz rfl) (by kernel_rfl) (ViewL.cons (View.whole (v := 0) v28 (by kernel_rfl) rfl) (ViewL.cons (View.frz rfl) (ViewL.nil _))) ?_
  refine ve 1 161 [(0, A a0), (1, A a1), (2, A a2), (3, A a3), (4, A a4), (12, A v26), (13, .ref 0 0 0 2 v28.length false), (14, .ref 1 0 0 2 v30.length false), (15, .ref 2 0 0 1 v32.length false), (16, .ref 3 0 0 1 v34.length false), (17, .ref 4 0 0 5 v36.length false), (18, .ref 5 0 0 1 v38.length false), (83, B ((!v45)))] [some ⟨0, eL v28⟩, some ⟨0, eL v30⟩, some ⟨0, dL v32⟩, some ⟨0, dL v34⟩, some ⟨0, eL v36⟩, some ⟨0, dL v38⟩] ?_
  refine pc h (fun h => ?_) (fun h => ?_)
  refine srve 161 [(10, B false)] [some ⟨0, eL v28⟩, some ⟨0, eL v30⟩, some ⟨0, dL v32⟩, some ⟨0, dL v34⟩, some ⟨0, eL v36⟩, some ⟨0, dL v38⟩] ?_
  cases h
  exact pwp_ret rz
  refine pwp_skip ?_
  refine pwp_seq ?_
  refine srv 2 161 [(0, A a0), (1, A a1), (2, A a2), (3, A a3), (4, A a4), (12, A v26), (13, .ref 0 0 0 2 v28.length false), (14, .ref 1 0 0 2 v30.length false), (15, .ref 2 0 0 1 v32.length false), (16, .ref 3 0 0 1 v34.length false), (17, .ref 4 0 0 5 v36.length false), (18, .ref 5 0 0 1 v38.length false), (84, .ref 1 0 0 2 v30.length false), (85, A a1)] [some ⟨0, eL v28⟩, some ⟨0, eL v30⟩, some ⟨0, dL v32⟩, some ⟨0, dL v34⟩, some ⟨0, eL v36⟩, some ⟨0, dL v38⟩] ?_
  obtain ⟨v48, hv49, h⟩ := bindS h
  refine opsP_callF τ 86 (ok_laws_toColumnS hv49) (FzTo.O _) rfl (by kernel_rfl) ?_
  obtain ⟨v50, hv51, h⟩ := bindS h
  refine opsP_callV (xs := [.ref 1 0 0 2 v30.length false, A v48]) τ 87 (ok_laws_eqColumnS hv51) (Blind.lit _) (FzTo.frz rfl) (by kernel_rfl) (ViewL.cons (View.whole (v := 0) v30 (by kernel_rfl) rfl) (ViewL.cons (View.frz rfl) (ViewL.nil _))) ?_
  refine ve 1 161 [(0, A a0), (1, A a1), (2, A a2), (3, A a3), (4, A a4), (12, A v26), (13, .ref 0 0 0 2 v28.length false), (14, .ref 1 0 0 2 v30.length false), (15, .ref 2 0 0 1 v32.length false), (16, .ref 3 0 0 1 v34.length false), (17, .ref 4 0 0 5 v36.length false), (18, .ref 5 0 0 1 v38.length false), (88, B ((!v50)))] [some ⟨0, eL v28⟩, some ⟨0, eL v30⟩, some ⟨0, dL v32⟩, some ⟨0, dL v34⟩, some ⟨0, eL v36⟩, some ⟨0, dL v38⟩] ?_
  refine pc h (fun h => ?_) (fun h => ?_)
  refine srve 161 [(10, B false)] [some ⟨0, eL v28⟩, some ⟨0, eL v30⟩, some ⟨0, dL v32⟩, some ⟨0, dL v34⟩, some ⟨0, eL v36⟩, some ⟨0, dL v38⟩] ?_
  cases h
  exact pwp_ret rz
  refine pwp_skip ?_
  refine pwp_seq ?_
  refine srv 2 161 [(0, A a0), (1, A a1), (2, A a2), (3, A a3), (4, A a4), (12, A v26), (13, .ref 0 0 0 2 v28.length false), (14, .ref 1 0 0 2 v30.length false), (15, .ref 2 0 0 1 v32.length false), (16, .ref 3 0 0 1 v34.length false), (17, .ref 4 0 0 5 v36.length false), (18, .ref 5 0 0 1 v38.length false), (89, .ref 2 0 0 1 v32.length false), (90, A a2)] [some ⟨0, eL v28⟩, some ⟨0, eL v30⟩, some ⟨0, dL v32⟩, some ⟨0, dL v34⟩, some ⟨0, eL v36⟩, some ⟨0, dL v38⟩] ?_
  obtain ⟨v53, hv54, h⟩ := bindS h
  refine opsP_callF τ 91 (ok_laws_toValueSS_D hv54) (FzTo.OD _) rfl (by kernel_rfl) ?_
  obtain ⟨v55, hv56, h⟩ := bindS h
  refine opsP_callV (xs := [.ref 2 0 0 1 v32.length false, A v53]) τ 92 (ok_laws_eqValueSS hv56) (Blind.lit _) (FzTo.frz rfl) (by kernel_rfl) (ViewL.cons (View.deep (v := 0) v32 (by kernel_rfl) rfl) (ViewL.cons (View.frz rfl) (ViewL.nil _))) ?_
  refine ve 1 161 [(0, A a0), (1, A a1), (2, A a2), (3, A a3), (4, A a4), (12, A v26), (13, .ref 0 0 0 2 v28.length false), (14, .ref 1 0 0 2 v30.length false), (15, .ref 2 0 0 1 v32.length false), (16, .ref 3 0 0 1 v34.length false), (17, .ref 4 0 0 5 v36.length false), (18, .ref 5 0 0 1 v38.length false), (93, B ((!v55)))] [some ⟨0, eL v28⟩, some ⟨0, eL v30⟩, some ⟨0, dL v32⟩, some ⟨0, dL v34⟩, some ⟨0, eL v36⟩, some ⟨0, dL v38⟩] ?_
  refine pc h (fun h => ?_) (fun h => ?_)
  refine srve 161 [(10, B false)] [some ⟨0, eL v28⟩, some ⟨0, eL v30⟩, some ⟨0, dL v32⟩, some ⟨0, dL v34⟩, some ⟨0, eL v36⟩, some ⟨0, dL v38⟩] ?_
  cases h
  exact pwp_ret rz
  refine pwp_skip ?_
  refine pwp_seq ?_
  refine srv 2 161 [(0, A a0), (1, A a1), (2, A a2), (3, A a3), (4, A a4), (12, A v26), (13, .ref 0 0 0 2 v28.length false), (14, .ref 1 0 0 2 v30.length false), (15, .ref 2 0 0 1 v32.length false), (16, .ref 3 0 0 1 v34.length false), (17, .ref 4 0 0 5 v36.length false), (18, .ref 5 0 0 1 v38.length false), (94, .ref 3 0 0 1 v34.length false), (95, A a3)] [some ⟨0, eL v28⟩, some ⟨0, eL v30⟩, some ⟨0, dL v32⟩, some ⟨0, dL v34⟩, some ⟨0, eL v36⟩, some ⟨0, dL v38⟩] ?_
  obtain ⟨v58, hv59, h⟩ := bindS h
  refine opsP_callF τ 96 (ok_laws_toValueSS_D hv59) (FzTo.OD _) rfl (by kernel_rfl) ?_
  obtain ⟨v60, hv61, h⟩ := bindS h
  refine opsP_callV (xs := [.ref 3 0 0 1 v34.length false, A v58]) τ 97 (ok_laws_eqValueSS hv61) (Blind.lit _) (FzTo.frz rfl) (by kernel_rfl) (ViewL.cons (View.deep (v := 0) v34 (by kernel_rfl) rfl) (ViewL.cons (View.frz rfl) (ViewL.nil _))) ?_
  refine ve 1 161 [(0, A a0), (1, A a1), (2, A a2), (3, A a3), (4, A a4), (12, A v26), (13, .ref 0 0 0 2 v28.length false), (14, .ref 1 0 0 2 v30.length false), (15, .ref 2 0 0 1 v32.length false), (16, .ref 3 0 0 1 v34.length false), (17, .ref 4 0 0 5 v36.length false), (18, .ref 5 0 0 1 v38.length false), (98, B ((!v60)))] [some ⟨0, eL v28⟩, some ⟨0, eL v30⟩, some ⟨0, dL v32⟩, some ⟨0, dL v34⟩, some ⟨0, eL v36⟩, some ⟨0, dL v38⟩] ?_
  refine pc h (fun h => ?_) (fun h => ?_)
  refine srve 161 [(10, B false)] [some ⟨0, eL v28⟩, some ⟨0, eL v30⟩, some ⟨0, dL v32⟩, some ⟨0, dL v34⟩, some ⟨0, eL v36⟩, some ⟨0, dL v38⟩] ?_
  cases h
  exact pwp_ret rz
  refine pwp_skip ?_
  refine pwp_seq ?_
  refine srv 2 161 [(0, A a0), (1, A a1), (2, A a2), (3, A a3), (4, A a4), (12, A v26), (13, .ref 0 0 0 2 v28.length false), (14, .ref 1 0 0 2 v30.length false), (15, .ref 2 0 0 1 v32.length false), (16, .ref 3 0 0 1 v34.length false), (17, .ref 4 0 0 5 v36.length false), (18, .ref 5 0 0 1 v38.length false), (99, .ref 4 0 0 5 v36.length false), (100, A a4)] [some ⟨0, eL v28⟩, some ⟨0, eL v30⟩, some ⟨0, dL v32⟩, some ⟨0, dL v34⟩, some ⟨0, eL v36⟩, some ⟨0, dL v38⟩] ?_
  obtain ⟨v63, hv64, h⟩ := bindS h
  refine opsP_callF τ 101 (ok_laws_toPartS hv64) (FzTo.O _) rfl (by kernel_rfl) ?_
  obtain ⟨v65, hv66, h⟩ := bindS h
  refine opsP_callV (xs := [.ref 4 0 0 5 v36.length false, A v63]) τ 102 (ok_laws_eqPartS hv66) (Blind.lit _) (FzTo.frz rfl) (by kernel_rfl) (ViewL.cons (View.whole (v := 0) v36 (by kernel_rfl) rfl) (ViewL.cons (View.frz rfl) (ViewL.nil _))) ?_
  refine ve 1 161 [(0, A a0), (1, A a1), (2, A a2), (3, A a3), (4, A a4), (12, A v26), (13, .ref 0 0 0 2 v28.length false), (14, .ref 1 0 0 2 v30.length false), (15, .ref 2 0 0 1 v32.length false), (16, .ref 3 0 0 1 v34.length false), (17, .ref 4 0 0 5 v36.length false), (18, .ref 5 0 0 1 v38.length false), (103, B ((!v65)))] [some ⟨0, eL v28⟩, some ⟨0, eL v30⟩, some ⟨0, dL v32⟩, some ⟨0, dL v34⟩, some ⟨0, eL v36⟩, some ⟨0, dL v38⟩] ?_
  refine pc h (fun h => ?_) (fun h => ?_)
  refine srve 161 [(10, B false)] [some ⟨0, eL v28⟩, some ⟨0, eL v30⟩, some ⟨0, dL v32⟩, some ⟨0, dL v34⟩, some ⟨0, eL v36⟩, some ⟨0, dL v38⟩] ?_
  cases h
  exact pwp_ret rz
  refine pwp_skip ?_
  refine srve 161 [(0, A a0), (1, A a1), (2, A a2), (3, A a3), (4, A a4), (12, A v26), (13, .ref 0 0 0 2 v28.length false), (14, .ref 1 0 0 2 v30.length false), (15, .ref 2 0 0 1 v32.length false), (16, .ref 3 0 0 1 v34.length false), (17, .ref 4 0 0 5 v36.length false), (18, .ref 5 0 0 1 v38.length false), (19, I 1)] [some ⟨0, eL v28⟩, some ⟨0, eL v30⟩, some ⟨0, dL v32⟩, some ⟨0, dL v34⟩, some ⟨0, eL v36⟩, some ⟨0, dL v38⟩] ?_
  refine srv 2 161 [(0, A a0), (1, A a1), (2, A a2), (3, A a3), (4, A a4), (12, A v26), (14, .ref 1 0 0 2 v30.length false), (15, .ref 2 0 0 1 v32.length false), (16, .ref 3 0 0 1 v34.length false), (17, .ref 4 0 0 5 v36.length false), (18, .ref 5 0 0 1 v38.length false), (104, .ref 0 0 0 2 v28.length false), (105, I 1)] [some ⟨0, eL v28⟩, some ⟨0, eL v30⟩, some ⟨0, dL v32⟩, some ⟨0, dL v34⟩, some ⟨0, eL v36⟩, some ⟨0, dL v38⟩] ?_
  obtain ⟨v68, hv69, h⟩ := bindS h
  refine opsP_E (dd := some 106) (x := I v68.1) (callD_E τ 106 0 0 (ok_laws_markColumnS hv69) (by kernel_rfl)) ?_
  refine opsP_imp (Imp.to (st' := ⟨161, [(0, A a0), (1, A a1), (2, A a2), (3, A a3), (4, A a4), (12, A v26), (14, .ref 1 0 0 2 v30.length false), (15, .ref 2 0 0 1 v32.length false), (16, .ref 3 0 0 1 v34.length false), (17, .ref 4 0 0 5 v36.length false), (18, .ref 5 0 0 1 v38.length false), (104, .ref 0 0 0 2 v28.length false), (105, I 1), (106, I v68.1)], [some ⟨0, eL v68.2⟩, some ⟨0, eL v30⟩, some ⟨0, dL v32⟩, some ⟨0, dL v34⟩, some ⟨0, eL v36⟩, some ⟨0, dL v38⟩]⟩) [0, 1, 2, 3, 4, 12, 14, 15, 16, 17, 18, 104, 105, 106] (by kernel_rfl)) ?_
  refine opsP_ren (st' := ⟨161, [(0, A a0), (1, A a1), (2, A a2), (3, A a3), (4, A a4), (12, A v26), (14, .ref 1 0 0 2 v30.length false), (15, .ref 2 0 0 1 v32.length false), (16, .ref 3 0 0 1 v34.length false), (17, .ref 4 0 0 5 v36.length false), (18, .ref 5 0 0 1 v38.length false), (104, .ref 0 0 0 2 v68.2.length false), (105, I 1), (106, I v68.1)], [some ⟨0, eL v68.2⟩, some ⟨0, eL v30⟩, some ⟨0, dL v32⟩, some ⟨0, dL v34⟩, some ⟨0, eL v36⟩, some ⟨0, dL v38⟩]⟩) 0 v68.2.length (renC trivial (renC trivial (renC trivial (renC trivial (renC trivial (renC trivial (renC (ren_ne rfl) (renC (ren_ne rfl) (renC (ren_ne rfl) (renC (ren_ne rfl) (renC (ren_ne rfl) (renC (ren_ref (len_laws_markColumnS hv69).symm) (renC trivial (renC trivial renC0)))))))))))))) (by kernel_rfl) ?_
  refine ve 1 161 [(0, A a0), (1, A a1), (2, A a2), (3, A a3), (4, A a4), (12, A v26), (14, .ref 1 0 0 2 v30.length false), (15, .ref 2 0 0 1 v32.length false), (16, .ref 3 0 0 1 v34.length false), (17, .ref 4 0 0 5 v36.length false), (18, .ref 5 0 0 1 v38.length false), (19, I v68.1)] [some ⟨0, eL v68.2⟩, some ⟨0, eL v30⟩, some ⟨0, dL v32⟩, some ⟨0, dL v34⟩, some ⟨0, eL v36⟩, some ⟨0, dL v38⟩] ?_
  refine srv 2 161 [(0, A a0), (1, A a1), (2, A a2), (3, A a3), (4, A a4), (12, A v26), (15, .ref 2 0 0 1 v32.length false), (16, .ref 3 0 0 1 v34.length false), (17, .ref 4 0 0 5 v36.length false), (18, .ref 5 0 0 1 v38.length false), (107, .ref 1 0 0 2 v30.length false), (108, I v68.1)] [some ⟨0, eL v68.2⟩, some ⟨0, eL v30⟩, some ⟨0, dL v32⟩, some ⟨0, dL v34⟩, some ⟨0, eL v36⟩, some ⟨0, dL v38⟩] ?_
  obtain ⟨v70, hv71, h⟩ := bindS h
  refine opsP_E (dd := some 109) (x := I v70.1) (callD_E τ 109 1 0 (ok_laws_markColumnS hv71) (by kernel_rfl)) ?_
  refine opsP_imp (Imp.to (st' := ⟨161, [(0, A a0), (1, A a1), (2, A a2), (3, A a3), (4, A a4), (12, A v26), (15, .ref 2 0 0 1 v32.length false), (16, .ref 3 0 0 1 v34.length false), (17, .ref 4 0 0 5 v36.length false), (18, .ref 5 0 0 1 v38.length false), (107, .ref 1 0 0 2 v30.length false), (108, I v68.1), (109, I v70.1)], [some ⟨0, eL v68.2⟩, some ⟨0, eL v70.2⟩, some ⟨0, dL v32⟩, some ⟨0, dL v34⟩, some ⟨0, eL v36⟩, some ⟨0, dL v38⟩]⟩) [0, 1, 2, 3, 4, 12, 15, 16, 17, 18, 107, 108, 109] (by kernel_rfl)) ?_
  refine opsP_ren (st' := ⟨161, [(0, A a0), (1, A a1), (2, A a2), (3, A a3), (4, A a4), (12, A v26), (15, .ref 2 0 0 1 v32.length false), (16, .ref 3 0 0 1 v34.length false), (17, .ref 4 0 0 5 v36.length false), (18, .ref 5 0 0 1 v38.length false), (107, .ref 1 0 0 2 v70.2.length false), (108, I v68.1), (109, I v70.1)], [some ⟨0, eL v68.2⟩, some ⟨0, eL v70.2⟩, some ⟨0, dL v32⟩, some ⟨0, dL v34⟩, some ⟨0, eL v36⟩, some ⟨0, dL v38⟩]⟩) 1 v70.2.length (renC trivial (renC trivial (renC trivial (renC trivial (renC trivial (renC trivial (renC (ren_ne rfl) (renC (ren_ne rfl) (renC (ren_ne rfl) (renC (ren_ne rfl) (renC (ren_ref (len_laws_markColumnS hv71).symm) (renC trivial (renC trivial renC0))))))))))))) (by kernel_rfl) ?_
  refine ve 1 161 [(0, A a0), (1, A a1), (2, A a2), (3, A a3), (4, A a4), (12, A v26), (15, .ref 2 0 0 1 v32.length false), (16, .ref 3 0 0 1 v34.length false), (17, .ref 4 0 0 5 v36.length false), (18, .ref 5 0 0 1 v38.length false), (19, I v70.1)] [some ⟨0, eL v68.2⟩, some ⟨0, eL v70.2⟩, some ⟨0, dL v32⟩, some ⟨0, dL v34⟩, some ⟨0, eL v36⟩, some ⟨0, dL v38⟩] ?_
  refine srv 2 161 [(0, A a0), (1, A a1), (2, A a2), (3, A a3), (4, A a4), (12, A v26), (16, .ref 3 0 0 1 v34.length false), (17, .ref 4 0 0 5 v36.length false), (18, .ref 5 0 0 1 v38.length false), (110, .ref 2 0 0 1 v32.length false), (111, I v70.1)] [some ⟨0, eL v68.2⟩, some ⟨0, eL v70.2⟩, some ⟨0, dL v32⟩, some ⟨0, dL v34⟩, some ⟨0, eL v36⟩, some ⟨0, dL v38⟩] ?_
  obtain ⟨v72, hv73, h⟩ := bindS h
  refine opsP_E (dd := some 112) (x := I v72.1) (callD_E τ 112 2 0 (ok_laws_markValueSS hv73) (by kernel_rfl)) ?_
  refine opsP_imp (Imp.to (st' := ⟨161, [(0, A a0), (1, A a1), (2, A a2), (3, A a3), (4, A a4), (12, A v26), (16, .ref 3 0 0 1 v34.length false), (17, .ref 4 0 0 5 v36.length false), (18, .ref 5 0 0 1 v38.length false), (110, .ref 2 0 0 1 v32.length false), (111, I v70.1), (112, I v72.1)], [some ⟨0, eL v68.2⟩, some ⟨0, eL v70.2⟩, some ⟨0, dL v72.2⟩, some ⟨0, dL v34⟩, some ⟨0, eL v36⟩, some ⟨0, dL v38⟩]⟩) [0, 1, 2, 3, 4, 12, 16, 17, 18, 110, 111, 112] (by kernel_rfl)) ?_
  refine opsP_ren (st' := ⟨161, [(0, A a0), (1, A a1), (2, A a2), (3, A a3), (4, A a4), (12, A v26), (16, .ref 3 0 0 1 v34.length false), (17, .ref 4 0 0 5 v36.length false), (18, .ref 5 0 0 1 v38.length false), (110, .ref 2 0 0 1 v72.2.length false), (111, I v70.1), (112, I v72.1)], [some ⟨0, eL v68.2⟩, some ⟨0, eL v70.2⟩, some ⟨0, dL v72.2⟩, some ⟨0, dL v34⟩, some ⟨0, eL v36⟩, some ⟨0, dL v38⟩]⟩) 2 v72.2.length (renC trivial (renC trivial (renC trivial (renC trivial (renC trivial (renC trivial (renC (ren_ne rfl) (renC (ren_ne rfl) (renC (ren_ne rfl) (renC (ren_ref (len_laws_markValueSS hv73).symm) (renC trivial (renC trivial renC0)))))))))))) (by kernel_rfl) ?_
  refine ve 1 161 [(0, A a0), (1, A a1), (2, A a2), (3, A a3), (4, A a4), (12, A v26), (16, .ref 3 0 0 1 v34.length false), (17, .ref 4 0 0 5 v36.length false), (18, .ref 5 0 0 1 v38.length false), (19, I v72.1)] [some ⟨0, eL v68.2⟩, some ⟨0, eL v70.2⟩, some ⟨0, dL v72.2⟩, some ⟨0, dL v34⟩, some ⟨0, eL v36⟩, some ⟨0, dL v38⟩] ?_
  refine srv 2 161 [(0, A a0), (1, A a1), (2, A a2), (3, A a3), (4, A a4), (12, A v26), (17, .ref 4 0 0 5 v36.length false), (18, .ref 5 0 0 1 v38.length false), (113, .ref 3 0 0 1 v34.length false), (114, I v72.1)] [some ⟨0, eL v68.2⟩, some ⟨0, eL v70.2⟩, some ⟨0, dL v72.2⟩, some ⟨0, dL v34⟩, some ⟨0, eL v36⟩, some ⟨0, dL v38⟩] ?_
  obtain ⟨v74, hv75, h⟩ := bindS h
  refine opsP_E (dd := some 115) (x := I v74.1) (callD_E τ 115 3 0 (ok_laws_markValueSS hv75) (by kernel_rfl)) ?_
  refine opsP_imp (Imp.to (st' := ⟨161, [(0, A a0), (1, A a1), (2, A a2), (3, A a3), (4, A a4), (12, A v26), (17, .ref 4 0 0 5 v36.length false), (18, .ref 5 0 0 1 v38.length false), (113, .ref 3 0 0 1 v34.length false), (114, I v72.1), (115, I v74.1)], [some ⟨0, eL v68.2⟩, some ⟨0, eL v70.2⟩, some ⟨0, dL v72.2⟩, some ⟨0, dL v74.2⟩, some ⟨0, eL v36⟩, some ⟨0, dL v38⟩]⟩) [0, 1, 2, 3, 4, 12, 17, 18, 113, 114, 115] (by kernel_rfl)) ?_
  refine opsP_ren (st' := ⟨161, [(0, A a0), (1, A a1), (2, A a2), (3, A a3), (4, A a4), (12, A v26), (17, .ref 4 0 0 5 v36.length false), (18, .ref 5 0 0 1 v38.length false), (113, .ref 3 0 0 1 v74.2.length false), (114, I v72.1), (115, I v74.1)], [some ⟨0, eL v68.2⟩, some ⟨0, eL v70.2⟩, some ⟨0, dL v72.2⟩, some ⟨0, dL v74.2⟩, some ⟨0, eL v36⟩, some ⟨0, dL v38⟩]⟩) 3 v74.2.length (renC trivial (renC trivial (renC trivial (renC trivial (renC trivial (renC trivial (renC (ren_ne rfl) (renC (ren_ne rfl) (renC (ren_ref (len_laws_markValueSS hv75).symm) (renC trivial (renC trivial renC0))))))))))) (by kernel_rfl) ?_
  refine ve 1 161 [(0, A a0), (1, A a1), (2, A a2), (3, A a3), (4, A a4), (12, A v26), (17, .ref 4 0 0 5 v36.length false), (18, .ref 5 0 0 1 v38.length false), (19, I v74.1)] [some ⟨0, eL v68.2⟩, some ⟨0, eL v70.2⟩, some ⟨0, dL v72.2⟩, some ⟨0, dL v74.2⟩, some ⟨0, eL v36⟩, some ⟨0, dL v38⟩] ?_
  refine srv 2 161 [(0, A a0), (1, A a1), (2, A a2), (3, A a3), (4, A a4), (12, A v26), (18, .ref 5 0 0 1 v38.length false), (116, .ref 4 0 0 5 v36.length false), (117, I v74.1)] [some ⟨0, eL v68.2⟩, some ⟨0, eL v70.2⟩, some ⟨0, dL v72.2⟩, some ⟨0, dL v74.2⟩, some ⟨0, eL v36⟩, some ⟨0, dL v38⟩] ?_
  obtain ⟨v76, hv77, h⟩ := bindS h
  refine opsP_E (dd := some 118) (x := I v76.1) (callD_E τ 118 4 0 (ok_laws_markPartS hv77) (by kernel_rfl)) ?_
  refine opsP_imp (Imp.to (st' := ⟨161, [(0, A a0), (1, A a1), (2, A a2), (3, A a3), (4, A a4), (12, A v26), (18, .ref 5 0 0 1 v38.length false), (116, .ref 4 0 0 5 v36.length false), (117, I v74.1), (118, I v76.1)], [some ⟨0, eL v68.2⟩, some ⟨0, eL v70.2⟩, some ⟨0, dL v72.2⟩, some ⟨0, dL v74.2⟩, some ⟨0, eL v76.2⟩, some ⟨0, dL v38⟩]⟩) [0, 1, 2, 3, 4, 12, 18, 116, 117, 118] (by kernel_rfl)) ?_
  refine opsP_ren (st' := ⟨161, [(0, A a0), (1, A a1), (2, A a2), (3, A a3), (4, A a4), (12, A v26), (18, .ref 5 0 0 1 v38.length false), (116, .ref 4 0 0 5 v76.2.length false), (117, I v74.1), (118, I v76.1)], [some ⟨0, eL v68.2⟩, some ⟨0, eL v70.2⟩, some ⟨0, dL v72.2⟩, some ⟨0, dL v74.2⟩, some ⟨0, eL v76.2⟩, some ⟨0, dL v38⟩]⟩) 4 v76.2.length (renC trivial (renC trivial (renC trivial (renC trivial (renC trivial (renC trivial (renC (ren_ne rfl) (renC (ren_ref (len_laws_markPartS hv77).symm) (renC trivial (renC trivial renC0)))))))))) (by kernel_rfl) ?_
  refine ve 1 161 [(0, A a0), (1, A a1), (2, A a2), (3, A a3), (4, A a4), (12, A v26), (18, .ref 5 0 0 1 v38.length false), (19, I v76.1)] [some ⟨0, eL v68.2⟩, some ⟨0, eL v70.2⟩, some ⟨0, dL v72.2⟩, some ⟨0, dL v74.2⟩, some ⟨0, eL v76.2⟩, some ⟨0, dL v38⟩] ?_
  refine pwp_seq ?_
  refine pwp_seq ?_
  refine pwp_join (σ := Bool) (fun x78 => (⟨161, [(0, A a0), (1, A a1), (2, A a2), (3, A a3), (4, A a4), (12, A v26), (18, .ref 5 0 0 1 v38.length false), (126, B x78)], [some ⟨0, eL v68.2⟩, some ⟨0, eL v70.2⟩, some ⟨0, dL v72.2⟩, some ⟨0, dL v74.2⟩, some ⟨0, eL v76.2⟩, some ⟨0, dL v38⟩]⟩ : St)) (fun x78 => laws_FnExactLeftRows_j0 a0 a1 a2 a3 a4 v26 v38 x78 = some y) ?_ ?_
  refine rv 3 161 [(0, A a0), (1, A a1), (2, A a2), (3, A a3), (4, A a4), (12, A v26), (18, .ref 5 0 0 1 v38.length false), (121, B ((decide (v76.1 < 0))))] [some ⟨0, eL v68.2⟩, some ⟨0, eL v70.2⟩, some ⟨0, dL v72.2⟩, some ⟨0, dL v74.2⟩, some ⟨0, eL v76.2⟩, some ⟨0, dL v38⟩] ?_
  rcases fk ((decide (v76.1 < 0))) with hc107 | hc107
  replace h := bT hc107 h
  rw [hc107]
  refine ve 5 161 [(0, A a0), (1, A a1), (2, A a2), (3, A a3), (4, A a4), (12, A v26), (18, .ref 5 0 0 1 v38.length false), (126, B true)] [some ⟨0, eL v68.2⟩, some ⟨0, eL v70.2⟩, some ⟨0, dL v72.2⟩, some ⟨0, dL v74.2⟩, some ⟨0, eL v76.2⟩, some ⟨0, dL v38⟩] ?_
  exact ⟨true, h, (Imp.to (st' := ⟨161, [(0, A a0), (1, A a1), (2, A a2), (3, A a3), (4, A a4), (12, A v26), (18, .ref 5 0 0 1 v38.length false), (126, B true)], [some ⟨0, eL v68.2⟩, some ⟨0, eL v70.2⟩, some ⟨0, dL v72.2⟩, some ⟨0, dL v74.2⟩, some ⟨0, eL v76.2⟩, some ⟨0, dL v38⟩]⟩) [0, 1, 2, 3, 4, 12, 18, 126] (by kernel_rfl)).trans (Imp.to [0, 1, 2, 3, 4, 12, 18, 126] (by kernel_rfl))⟩
  replace h := bF hc107 h
  rw [hc107]
  refine v 2 161 [(0, A a0), (1, A a1), (2, A a2), (3, A a3), (4, A a4), (12, A v26), (18, .ref 5 0 0 1 v38.length false), (121, B false), (122, .ref 5 0 0 1 v38.length false), (123, A v26)] [some ⟨0, eL v68.2⟩, some ⟨0, eL v70.2⟩, some ⟨0, dL v72.2⟩, some ⟨0, dL v74.2⟩, some ⟨0, eL v76.2⟩, some ⟨0, dL v38⟩] ?_
  obtain ⟨v105, hv106, h⟩ := bindS h
  refine opsP_callV (xs := [.ref 5 0 0 1 v38.length false, A v26]) τ 124 (ok_laws_eqValueSS hv106) (Blind.lit _) (FzTo.frz rfl) (by kernel_rfl) (ViewL.cons (View.deep (v := 0) v38 (by kernel_rfl) rfl) (ViewL.cons (View.frz rfl) (ViewL.nil _))) ?_
  refine ve 2 161 [(0, A a0), (1, A a1), (2, A a2), (3, A a3), (4, A a4), (12, A v26), (18, .ref 5 0 0 1 v38.length false), (126, B ((!v105)))] [some ⟨0, eL v68.2⟩, some ⟨0, eL v70.2⟩, some ⟨0, dL v72.2⟩, some ⟨0, dL v74.2⟩, some ⟨0, eL v76.2⟩, some ⟨0, dL v38⟩] ?_
  exact ⟨(!v105), h, (Imp.to (st' := ⟨161, [(0, A a0), (1, A a1), (2, A a2), (3, A a3), (4, A a4), (12, A v26), (18, .ref 5 0 0 1 v38.length false), (126, B ((!v105)))], [some ⟨0, eL v68.2⟩, some ⟨0, eL v70.2⟩, some ⟨0, dL v72.2⟩, some ⟨0, dL v74.2⟩, some ⟨0, eL v76.2⟩, some ⟨0, dL v38⟩]⟩) [0, 1, 2, 3, 4, 12, 18, 126] (by kernel_rfl)).trans (Imp.to [0, 1, 2, 3, 4, 12, 18, 126] (by kernel_rfl))⟩
  rintro x78 h
  unfold laws_FnExactLeftRows_j0 at h
  refine pc h (fun h => ?_) (fun h => ?_)
  refine srve 161 [(10, B false)] [some ⟨0, eL v68.2⟩, some ⟨0, eL v70.2⟩, some ⟨0, dL v72.2⟩, some ⟨0, dL v74.2⟩, some ⟨0, eL v76.2⟩, some ⟨0, dL v38⟩] ?_
  cases h
  exact pwp_ret rz
  refine pwp_skip ?_
  refine srve 161 [(0, A a0), (1, A a1), (2, A a2), (3, A a3), (4, A a4), (12, A v26), (18, .ref 5 0 0 1 v38.length false), (20, I 1)] [some ⟨0, eL v68.2⟩, some ⟨0, eL v70.2⟩, some ⟨0, dL v72.2⟩, some ⟨0, dL v74.2⟩, some ⟨0, eL v76.2⟩, some ⟨0, dL v38⟩] ?_
  refine srv 2 161 [(0, A a0), (1, A a1), (2, A a2), (3, A a3), (4, A a4), (12, A v26), (18, .ref 5 0 0 1 v38.length false), (127, .ref 5 0 0 1 v38.length false), (128, I 1)] [some ⟨0, eL v68.2⟩, some ⟨0, eL v70.2⟩, some ⟨0, dL v72.2⟩, some ⟨0, dL v74.2⟩, some ⟨0, eL v76.2⟩, some ⟨0, dL v38⟩] ?_
  obtain ⟨v80, hv81, h⟩ := bindS h
  refine opsP_E (dd := some 129) (x := I v80.1) (callD_E τ 129 5 0 (ok_laws_markValueSS hv81) (by kernel_rfl)) ?_
  refine opsP_imp (Imp.to (st' := ⟨161, [(0, A a0), (1, A a1), (2, A a2), (3, A a3), (4, A a4), (12, A v26), (18, .ref 5 0 0 1 v38.length false), (127, .ref 5 0 0 1 v38.length false), (128, I 1), (129, I v80.1)], [some ⟨0, eL v68.2⟩, some ⟨0, eL v70.2⟩, some ⟨0, dL v72.2⟩, some ⟨0, dL v74.2⟩, some ⟨0, eL v76.2⟩, some ⟨0, dL v80.2⟩]⟩) [0, 1, 2, 3, 4, 12, 18, 127, 128, 129] (by kernel_rfl)) ?_
  refine opsP_ren (st' := ⟨161, [(0, A a0), (1, A a1), (2, A a2), (3, A a3), (4, A a4), (12, A v26), (18, .ref 5 0 0 1 v80.2.length false), (127, .ref 5 0 0 1 v80.2.length false), (128, I 1), (129, I v80.1)], [some ⟨0, eL v68.2⟩, some ⟨0, eL v70.2⟩, some ⟨0, dL v72.2⟩, some ⟨0, dL v74.2⟩, some ⟨0, eL v76.2⟩, some ⟨0, dL v80.2⟩]⟩) 5 v80.2.length (renC trivial (renC trivial (renC trivial (renC trivial (renC trivial (renC trivial (renC (ren_ref (len_laws_markValueSS hv81).symm) (renC (ren_ref (len_laws_markValueSS hv81).symm) (renC trivial (renC trivial renC0)))))))))) (by kernel_rfl) ?_
  refine ve 1 161 [(0, A a0), (1, A a1), (2, A a2), (3, A a3), (4, A a4), (12, A v26), (18, .ref 5 0 0 1 v80.2.length false), (20, I v80.1)] [some ⟨0, eL v68.2⟩, some ⟨0, eL v70.2⟩, some ⟨0, dL v72.2⟩, some ⟨0, dL v74.2⟩, some ⟨0, eL v76.2⟩, some ⟨0, dL v80.2⟩] ?_
  refine srve 161 [(0, A a0), (1, A a1), (2, A a2), (3, A a3), (4, A a4), (12, A v26), (18, .ref 5 0 0 1 v80.2.length false), (20, I v80.1), (21, I 1)] [some ⟨0, eL v68.2⟩, some ⟨0, eL v70.2⟩, some ⟨0, dL v72.2⟩, some ⟨0, dL v74.2⟩, some ⟨0, eL v76.2⟩, some ⟨0, dL v80.2⟩] ?_
  refine srv 2 161 [(0, A a0), (1, A a1), (2, A a2), (3, A a3), (4, A a4), (12, A v26), (18, .ref 5 0 0 1 v80.2.length false), (20, I v80.1), (130, .ref 5 0 0 1 v80.2.length false), (131, I 1)] [some ⟨0, eL v68.2⟩, some ⟨0, eL v70.2⟩, some ⟨0, dL v72.2⟩, some ⟨0, dL v74.2⟩, some ⟨0, eL v76.2⟩, some ⟨0, dL v80.2⟩] ?_
  obtain ⟨v82, hv83, h⟩ := bindS h
  refine opsP_callV (xs := [.ref 5 0 0 1 v80.2.length false, I 1]) τ 132 (ok_laws_heldValueSS hv83) (Blind.lit _) (FzTo.frz rfl) (by kernel_rfl) (ViewL.cons (View.deep (v := 0) v80.2 (by kernel_rfl) rfl) (ViewL.cons (View.frz rfl) (ViewL.nil _))) ?_
  refine ve 1 161 [(0, A a0), (1, A a1), (2, A a2), (3, A a3), (4, A a4), (12, A v26), (18, .ref 5 0 0 1 v80.2.length false), (20, I v80.1), (21, I v82)] [some ⟨0, eL v68.2⟩, some ⟨0, eL v70.2⟩, some ⟨0, dL v72.2⟩, some ⟨0, dL v74.2⟩, some ⟨0, eL v76.2⟩, some ⟨0, dL v80.2⟩] ?_
  refine pwp_seq ?_
  refine srve 161 [(0, A a0), (1, A a1), (2, A a2), (3, A a3), (4, A a4), (12, A v26), (18, .ref 5 0 0 1 v80.2.length false), (20, I v80.1), (21, I v82), (134, B ((decide (v82 < 0))))] [some ⟨0, eL v68.2⟩, some ⟨0, eL v70.2⟩, some ⟨0, dL v72.2⟩, some ⟨0, dL v74.2⟩, some ⟨0, eL v76.2⟩, some ⟨0, dL v80.2⟩] ?_
  refine pc h (fun h => ?_) (fun h => ?_)
  refine srve 161 [(10, B false)] [some ⟨0, eL v68.2⟩, some ⟨0, eL v70.2⟩, some ⟨0, dL v72.2⟩, some ⟨0, dL v74.2⟩, some ⟨0, eL v76.2⟩, some ⟨0, dL v80.2⟩] ?_
  cases h
  exact pwp_ret rz
  refine pwp_skip ?_
  refine pwp_seq ?_
  refine srve 161 [(0, A a0), (1, A a1), (2, A a2), (3, A a3), (4, A a4), (12, A v26), (18, .ref 5 0 0 1 v80.2.length false), (20, I v80.1), (137, B ((!(v82 == v80.1))))] [some ⟨0, eL v68.2⟩, some ⟨0, eL v70.2⟩, some ⟨0, dL v72.2⟩, some ⟨0, dL v74.2⟩, some ⟨0, eL v76.2⟩, some ⟨0, dL v80.2⟩] ?_
  refine pc h (fun h => ?_) (fun h => ?_)
  refine srve 161 [(10, B false)] [some ⟨0, eL v68.2⟩, some ⟨0, eL v70.2⟩, some ⟨0, dL v72.2⟩, some ⟨0, dL v74.2⟩, some ⟨0, eL v76.2⟩, some ⟨0, dL v80.2⟩] ?_
  cases h
  exact pwp_ret rz
  refine pwp_skip ?_
  refine srv 1 161 [(1, A a1), (2, A a2), (3, A a3), (4, A a4), (12, A v26), (18, .ref 5 0 0 1 v80.2.length false), (20, I v80.1), (138, A a0)] [some ⟨0, eL v68.2⟩, some ⟨0, eL v70.2⟩, some ⟨0, dL v72.2⟩, some ⟨0, dL v74.2⟩, some ⟨0, eL v76.2⟩, some ⟨0, dL v80.2⟩] ?_
  obtain ⟨v86, hv87, h⟩ := bindS h
  refine opsP_callF τ 139 (ok_laws_toColumnS hv87) (FzTo.O _) rfl (by kernel_rfl) ?_
  refine v 1 161 [(2, A a2), (3, A a3), (4, A a4), (12, A v26), (18, .ref 5 0 0 1 v80.2.length false), (20, I v80.1), (139, A v86), (140, A a1)] [some ⟨0, eL v68.2⟩, some ⟨0, eL v70.2⟩, some ⟨0, dL v72.2⟩, some ⟨0, dL v74.2⟩, some ⟨0, eL v76.2⟩, some ⟨0, dL v80.2⟩] ?_
  obtain ⟨v88, hv89, h⟩ := bindS h
  refine opsP_callF τ 141 (ok_laws_toColumnS hv89) (FzTo.O _) rfl (by kernel_rfl) ?_
  refine v 1 161 [(3, A a3), (4, A a4), (12, A v26), (18, .ref 5 0 0 1 v80.2.length false), (20, I v80.1), (139, A v86), (141, A v88), (142, A a2)] [some ⟨0, eL v68.2⟩, some ⟨0, eL v70.2⟩, some ⟨0, dL v72.2⟩, some ⟨0, dL v74.2⟩, some ⟨0, eL v76.2⟩, some ⟨0, dL v80.2⟩] ?_
  obtain ⟨v90, hv91, h⟩ := bindS h
  refine opsP_callF τ 143 (ok_laws_toValueSS_D hv91) (FzTo.OD _) rfl (by kernel_rfl) ?_
  refine v 1 161 [(4, A a4), (12, A v26), (18, .ref 5 0 0 1 v80.2.length false), (20, I v80.1), (139, A v86), (141, A v88), (143, A v90), (144, A a3)] [some ⟨0, eL v68.2⟩, some ⟨0, eL v70.2⟩, some ⟨0, dL v72.2⟩, some ⟨0, dL v74.2⟩, some ⟨0, eL v76.2⟩, some ⟨0, dL v80.2⟩] ?_
  obtain ⟨v92, hv93, h⟩ := bindS h
  refine opsP_callF τ 145 (ok_laws_toValueSS_D hv93) (FzTo.OD _) rfl (by kernel_rfl) ?_
  refine v 1 161 [(12, A v26), (18, .ref 5 0 0 1 v80.2.length false), (20, I v80.1), (139, A v86), (141, A v88), (143, A v90), (145, A v92), (146, A a4)] [some ⟨0, eL v68.2⟩, some ⟨0, eL v70.2⟩, some ⟨0, dL v72.2⟩, some ⟨0, dL v74.2⟩, some ⟨0, eL v76.2⟩, some ⟨0, dL v80.2⟩] ?_
  obtain ⟨v94, hv95, h⟩ := bindS h
  refine opsP_callF τ 147 (ok_laws_toPartS hv95) (FzTo.O _) rfl (by kernel_rfl) ?_
  obtain ⟨v96, hv97, h⟩ := bindS h
  refine opsP_callF τ 148 (ok_impl_LeftRows_D hv97) (FzTo.OD _) rfl (by kernel_rfl) ?_
  refine ve 1 161 [(12, A v26), (18, .ref 5 0 0 1 v80.2.length false), (20, I v80.1), (22, A v96)] [some ⟨0, eL v68.2⟩, some ⟨0, eL v70.2⟩, some ⟨0, dL v72.2⟩, some ⟨0, dL v74.2⟩, some ⟨0, eL v76.2⟩, some ⟨0, dL v80.2⟩] ?_
  refine pwp_seq ?_
  refine srv 2 161 [(18, .ref 5 0 0 1 v80.2.length false), (20, I v80.1), (149, A v96), (150, A v26)] [some ⟨0, eL v68.2⟩, some ⟨0, eL v70.2⟩, some ⟨0, dL v72.2⟩, some ⟨0, dL v74.2⟩, some ⟨0, eL v76.2⟩, some ⟨0, dL v80.2⟩] ?_
  obtain ⟨v98, hv99, h⟩ := bindS h
  refine opsP_callF τ 151 (ok_laws_eqValueSS hv99) (FzTo.frz rfl) rfl (by kernel_rfl) ?_
  refine ve 1 161 [(18, .ref 5 0 0 1 v80.2.length false), (20, I v80.1), (152, B ((!v98)))] [some ⟨0, eL v68.2⟩, some ⟨0, eL v70.2⟩, some ⟨0, dL v72.2⟩, some ⟨0, dL v74.2⟩, some ⟨0, eL v76.2⟩, some ⟨0, dL v80.2⟩] ?_
  refine pc h (fun h => ?_) (fun h => ?_)
  refine srve 161 [(10, B false)] [some ⟨0, eL v68.2⟩, some ⟨0, eL v70.2⟩, some ⟨0, dL v72.2⟩, some ⟨0, dL v74.2⟩, some ⟨0, eL v76.2⟩, some ⟨0, dL v80.2⟩] ?_
  cases h
  exact pwp_ret rz
  refine pwp_skip ?_
  refine srve 161 [(18, .ref 5 0 0 1 v80.2.length false), (20, I v80.1), (21, I 1)] [some ⟨0, eL v68.2⟩, some ⟨0, eL v70.2⟩, some ⟨0, dL v72.2⟩, some ⟨0, dL v74.2⟩, some ⟨0, eL v76.2⟩, some ⟨0, dL v80.2⟩] ?_
  refine srv 2 161 [(20, I v80.1), (153, .ref 5 0 0 1 v80.2.length false), (154, I 1)] [some ⟨0, eL v68.2⟩, some ⟨0, eL v70.2⟩, some ⟨0, dL v72.2⟩, some ⟨0, dL v74.2⟩, some ⟨0, eL v76.2⟩, some ⟨0, dL v80.2⟩] ?_
  obtain ⟨v101, hv102, h⟩ := bindS h
  refine opsP_callV (xs := [.ref 5 0 0 1 v80.2.length false, I 1]) τ 155 (ok_laws_heldValueSS hv102) (Blind.lit _) (FzTo.frz rfl) (by kernel_rfl) (ViewL.cons (View.deep (v := 0) v80.2 (by kernel_rfl) rfl) (ViewL.cons (View.frz rfl) (ViewL.nil _))) ?_
  refine ve 1 161 [(20, I v80.1), (21, I v101)] [some ⟨0, eL v68.2⟩, some ⟨0, eL v70.2⟩, some ⟨0, dL v72.2⟩, some ⟨0, dL v74.2⟩, some ⟨0, eL v76.2⟩, some ⟨0, dL v80.2⟩] ?_
  refine pwp_seq ?_
  refine srve 161 [(20, I v80.1), (21, I v101), (157, B ((decide (v101 < 0))))] [some ⟨0, eL v68.2⟩, some ⟨0, eL v70.2⟩, some ⟨0, dL v72.2⟩, some ⟨0, dL v74.2⟩, some ⟨0, eL v76.2⟩, some ⟨0, dL v80.2⟩] ?_
  refine pc h (fun h => ?_) (fun h => ?_)
  refine srve 161 [(10, B false)] [some ⟨0, eL v68.2⟩, some ⟨0, eL v70.2⟩, some ⟨0, dL v72.2⟩, some ⟨0, dL v74.2⟩, some ⟨0, eL v76.2⟩, some ⟨0, dL v80.2⟩] ?_
  cases h
  exact pwp_ret rz
  refine pwp_skip ?_
  refine pwp_seq ?_
  refine srve 161 [(160, B ((!(v101 == v80.1))))] [some ⟨0, eL v68.2⟩, some ⟨0, eL v70.2⟩, some ⟨0, dL v72.2⟩, some ⟨0, dL v74.2⟩, some ⟨0, eL v76.2⟩, some ⟨0, dL v80.2⟩] ?_
  refine pc h (fun h => ?_) (fun h => ?_)
  refine srve 161 [(10, B false)] [some ⟨0, eL v68.2⟩, some ⟨0, eL v70.2⟩, some ⟨0, dL v72.2⟩, some ⟨0, dL v74.2⟩, some ⟨0, eL v76.2⟩, some ⟨0, dL v80.2⟩] ?_
  cases h
  exact pwp_ret rz
  refine pwp_skip ?_
  refine srve 161 [(10, B true)] [some ⟨0, eL v68.2⟩, some ⟨0, eL v70.2⟩, some ⟨0, dL v72.2⟩, some ⟨0, dL v74.2⟩, some ⟨0, eL v76.2⟩, some ⟨0, dL v80.2⟩] ?_
  cases h
  exact pwp_ret rz
end Go.D
