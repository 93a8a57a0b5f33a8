import Derived.Test.YtpkaieniomkofaaGreatPkDXFA
import Derived.KernelRfl
set_option linter.unusedVariables false
set_option linter.unusedSimpArgs false
namespace Go.D
open Go.Proofs
theorem ok_spec_l4Do {a0 : List T_impl_Value} {a1 : List T_impl_Value} {a2 : T_impl_Part} {y : List T_impl_Value} (h : spec_l4Do a0 a1 a2 = some y) : OKm Tryz.prog 141 [A a0, O a1, E a2] (O y) := by
 refine OKm_of_pwp (sl := [A a0, rf 0 0 3 a1, E a2]) (bs := [⟨0, eL a1⟩]) τ_ok Tryz.func141 rfl (by kernel_rfl) rfl (by kernel_rfl) fun Γ hX => ?_
 refine pwp_imp (Imp.to (st' := ⟨145, [(0, A a0), (1, rf 0 0 3 a1), (2, E a2)], [sl 0 a1]⟩) [0, 1, 2] (by kernel_rfl)) ?_
 unfold spec_l4Do at h
 refine srve 145 [(0, A a0), (1, rf 0 0 3 a1), (5, pf a2 0)] [sl 0 a1] ?_
 refine srve 145 [(0, A a0), (1, rf 0 0 3 a1), (5, pf a2 0), (7, I (a1.length : Int))] [sl 0 a1] ?_
 refine pwp_seq ?_
 refine srve 145 [(0, A a0), (1, rf 0 0 3 a1), (5, pf a2 0), (7, I (a1.length : Int)), (11, I a2.fKind)] [sl 0 a1] ?_
 refine pwp_block ?_
 refine srve 145 [(0, A a0), (1, rf 0 0 3 a1), (5, pf a2 0), (7, I (a1.length : Int)), (11, I a2.fKind), (12, B (a2.fKind == 1))] [sl 0 a1] ?_
 refine pc h (fun h => ?_) (fun h => ?_)
 refine srv 4 145 [(14, rf 0 0 3 a1), (17, .arr 3 ([a2.fV] : List T_impl_Value).length (eL ([a2.fV] : List T_impl_Value)) true)] [sl 0 a1] ?_
 obtain ⟨v2, hv3, h⟩ := bindS h
 refine opsP_app τ_ok 18 0 0 (nx hX) hv3 (by kernel_rfl) ?_
 refine ve 1 145 [(6, rf 0 1 3 v2)] [sl 1 v2] ?_
 have h := si h
 subst h
 exact pwp_ret (rt (rf 0 1 3 v2) (OutP.list (v := 1) (by kernel_rfl)))
 refine srve 145 [(0, A a0), (1, rf 0 0 3 a1), (5, pf a2 0), (7, I (a1.length : Int)), (11, I a2.fKind), (19, B (a2.fKind == 2))] [sl 0 a1] ?_
 refine pc h (fun h => ?_) (fun h => ?_)
 refine srv 4 145 [(21, rf 0 0 3 a1), (22, A a0), (24, I a2.fN)] [sl 0 a1] ?_
 obtain ⟨v5, hv6, h⟩ := bindS h
 refine opsP_idx τ_ok 25 hv6 (by kernel_rfl) ?_
 refine v 2 145 [(21, rf 0 0 3 a1), (27, .arr 3 ([v5] : List T_impl_Value).length (eL ([v5] : List T_impl_Value)) true)] [sl 0 a1] ?_
 obtain ⟨v7, hv8, h⟩ := bindS h
 refine opsP_app τ_ok 28 0 0 (nx hX) hv8 (by kernel_rfl) ?_
 refine ve 1 145 [(6, rf 0 1 3 v7)] [sl 1 v7] ?_
 have h := si h
 subst h
 exact pwp_ret (rt (rf 0 1 3 v7) (OutP.list (v := 1) (by kernel_rfl)))
 refine srve 145 [(1, rf 0 0 3 a1), (5, pf a2 0), (7, I (a1.length : Int)), (11, I a2.fKind), (29, B (a2.fKind == 3))] [sl 0 a1] ?_
 refine pc h (fun h => ?_) (fun h => ?_)
 refine pwp_seq ?_
 refine ip 145 [(1, rf 0 0 3 a1), (7, I (a1.length : Int))] [sl 0 a1] ?_
 refine pwp_any ([[0], [], [], [0], [0], [], [], [0], [0], [0], [], [], [0], [0], [], [], [0], [0]]) ([[], [], [], [], [], [], [], [], [], [], [], [], [], [], [], [], [0], []]) rfl (by kernel_rfl) ?_
 refine qv [0] (hL trivial) 1 145 [(31, rf 0 0 3 a1), (1, rf 0 0 3 a1), (7, I (a1.length : Int))] [sl 0 a1] ?_
 refine qv [] trivial 2 145 [(33, I (w64 ((a1.length : Int) - 2))), (31, rf 0 0 3 a1), (1, rf 0 0 3 a1), (7, I (a1.length : Int))] [sl 0 a1] ?_
 obtain ⟨v10, hv11, h⟩ := bindS h
 refine qX (some 34) (rf 0 0 3 v10) 145 [(34, rf 0 0 3 v10), (1, rf 0 0 3 a1), (7, I (a1.length : Int))] [sl 0 a1] (fun Γ' hΓ => CoreE.of_y (slrV_sound (n := a1.length) τ_ok (by kernel_rfl) rfl hv11)) (hL trivial) ?_
 refine qv [0] (hL trivial) 1 145 [(35, rf 0 0 3 a1), (34, rf 0 0 3 v10), (1, rf 0 0 3 a1), (7, I (a1.length : Int))] [sl 0 a1] ?_
 refine qv [] trivial 2 145 [(37, I (w64 ((a1.length : Int) - 2))), (35, rf 0 0 3 a1), (34, rf 0 0 3 v10), (1, rf 0 0 3 a1), (7, I (a1.length : Int))] [sl 0 a1] ?_
 obtain ⟨v12, hv13, h⟩ := bindS h
 refine qX (some 38) (.ptr 0 0 ((w64 ((a1.length : Int) - 2)).toNat * 3)) 145 [(38, .ptr 0 0 ((w64 ((a1.length : Int) - 2)).toNat * 3)), (34, rf 0 0 3 v10), (1, rf 0 0 3 a1), (7, I (a1.length : Int))] [sl 0 a1] (fun Γ' hΓ => CoreE.of_y (idrV_sound (n := a1.length) τ_ok (by kernel_rfl) hv13 rfl)) (hL trivial) ?_
 refine qX (some 39) (E v12) 145 [(39, E v12), (34, rf 0 0 3 v10), (1, rf 0 0 3 a1), (7, I (a1.length : Int))] [sl 0 a1] (fun Γ' hΓ => CoreE.of_y (ldeV_sound (t := 90) (o' := 0) (r := E v12) τ_ok hv13 (by kernel_rfl) (by kernel_rfl))) (hL trivial) ?_
 refine qv [0] (hL trivial) 1 145 [(40, rf 0 0 3 a1), (39, E v12), (34, rf 0 0 3 v10), (7, I (a1.length : Int))] [sl 0 a1] ?_
 refine qv [] trivial 2 145 [(42, I (w64 ((a1.length : Int) - 1))), (40, rf 0 0 3 a1), (39, E v12), (34, rf 0 0 3 v10)] [sl 0 a1] ?_
 obtain ⟨v14, hv15, h⟩ := bindS h
 refine qX (some 43) (.ptr 0 0 ((w64 ((a1.length : Int) - 1)).toNat * 3)) 145 [(43, .ptr 0 0 ((w64 ((a1.length : Int) - 1)).toNat * 3)), (39, E v12), (34, rf 0 0 3 v10)] [sl 0 a1] (fun Γ' hΓ => CoreE.of_y (idrV_sound (n := a1.length) τ_ok (by kernel_rfl) hv15 rfl)) (hL trivial) ?_
 refine qX (some 44) (E v14) 145 [(44, E v14), (39, E v12), (34, rf 0 0 3 v10)] [sl 0 a1] (fun Γ' hΓ => CoreE.of_y (ldeV_sound (t := 90) (o' := 0) (r := E v14) τ_ok hv15 (by kernel_rfl) (by kernel_rfl))) (hL trivial) ?_
 obtain ⟨v16, hv17, h⟩ := bindS h
 refine qX (some 45) (E v16) 145 [(45, E v16), (34, rf 0 0 3 v10)] [sl 0 a1] (fun Γ' hΓ => CoreE.of_g (callV_sound (τ := τ) (by kernel_rfl) rfl (ok_spec_l4Sum hv17) (FzTo.frz rfl))) trivial ?_
 refine qv [] trivial 1 145 [(46, .arr 3 ([v16] : List T_impl_Value).length (eL ([v16] : List T_impl_Value)) true), (34, rf 0 0 3 v10)] [sl 0 a1] ?_
 obtain ⟨v18, hv19, h⟩ := bindS h
 refine qX (some 47) (rf 0 1 3 v18) 145 [(47, rf 0 1 3 v18)] [sl 1 v18] (fun Γ' hΓ => app_E τ_ok 47 0 0 v10.length (ny hΓ hX) hv19 (slI_le hv11) (by kernel_rfl)) (hL trivial) ?_
 refine qvn [0] (hL trivial) 1 145 [(6, rf 0 1 3 v18)] [sl 1 v18] ?_
 have h := si h
 subst h
 exact pwp_ret (rt (rf 0 1 3 v18) (OutP.list (v := 1) (by kernel_rfl)))
 refine srve 145 [(1, rf 0 0 3 a1), (5, pf a2 0), (7, I (a1.length : Int)), (11, I a2.fKind), (48, B (a2.fKind == 4))] [sl 0 a1] ?_
 refine pc h (fun h => ?_) (fun h => ?_)
 refine pwp_seq ?_
 refine ip 145 [(1, rf 0 0 3 a1), (5, pf a2 0), (7, I (a1.length : Int))] [sl 0 a1] ?_
 refine pwp_any ([[0], [], [], [0], [], [], [0], [], [], [0], [0], [0], [], [], [0], [0], [], [], [], [0], [0]]) ([[], [], [], [], [], [], [], [], [], [], [], [], [], [], [], [], [], [], [], [0], []]) rfl (by kernel_rfl) ?_
 refine qv [0] (hL trivial) 1 145 [(50, rf 0 0 3 a1), (1, rf 0 0 3 a1), (5, pf a2 0), (7, I (a1.length : Int))] [sl 0 a1] ?_
 refine qv [] trivial 2 145 [(52, I (w64 ((a1.length : Int) - 2))), (50, rf 0 0 3 a1), (1, rf 0 0 3 a1), (5, pf a2 0), (7, I (a1.length : Int))] [sl 0 a1] ?_
 obtain ⟨v21, hv22, h⟩ := bindS h
 refine qX (some 53) (rf 0 0 3 v21) 145 [(53, rf 0 0 3 v21), (1, rf 0 0 3 a1), (5, pf a2 0), (7, I (a1.length : Int))] [sl 0 a1] (fun Γ' hΓ => CoreE.of_y (slrV_sound (n := a1.length) τ_ok (by kernel_rfl) rfl hv22)) (hL trivial) ?_
 refine qv [] trivial 2 145 [(55, I a2.fN), (53, rf 0 0 3 v21), (1, rf 0 0 3 a1), (7, I (a1.length : Int))] [sl 0 a1] ?_
 refine qv [0] (hL trivial) 1 145 [(56, rf 0 0 3 a1), (55, I a2.fN), (53, rf 0 0 3 v21), (1, rf 0 0 3 a1), (7, I (a1.length : Int))] [sl 0 a1] ?_
 refine qv [] trivial 2 145 [(58, I (w64 ((a1.length : Int) - 2))), (56, rf 0 0 3 a1), (55, I a2.fN), (53, rf 0 0 3 v21), (1, rf 0 0 3 a1), (7, I (a1.length : Int))] [sl 0 a1] ?_
 obtain ⟨v23, hv24, h⟩ := bindS h
 refine qX (some 59) (.ptr 0 0 ((w64 ((a1.length : Int) - 2)).toNat * 3)) 145 [(59, .ptr 0 0 ((w64 ((a1.length : Int) - 2)).toNat * 3)), (55, I a2.fN), (53, rf 0 0 3 v21), (1, rf 0 0 3 a1), (7, I (a1.length : Int))] [sl 0 a1] (fun Γ' hΓ => CoreE.of_y (idrV_sound (n := a1.length) τ_ok (by kernel_rfl) hv24 rfl)) (hL trivial) ?_
 refine qX (some 60) (E v23) 145 [(60, E v23), (55, I a2.fN), (53, rf 0 0 3 v21), (1, rf 0 0 3 a1), (7, I (a1.length : Int))] [sl 0 a1] (fun Γ' hΓ => CoreE.of_y (ldeV_sound (t := 90) (o' := 0) (r := E v23) τ_ok hv24 (by kernel_rfl) (by kernel_rfl))) (hL trivial) ?_
 refine qv [0] (hL trivial) 1 145 [(61, rf 0 0 3 a1), (60, E v23), (55, I a2.fN), (53, rf 0 0 3 v21), (7, I (a1.length : Int))] [sl 0 a1] ?_
 refine qv [] trivial 2 145 [(63, I (w64 ((a1.length : Int) - 1))), (61, rf 0 0 3 a1), (60, E v23), (55, I a2.fN), (53, rf 0 0 3 v21)] [sl 0 a1] ?_
 obtain ⟨v25, hv26, h⟩ := bindS h
 refine qX (some 64) (.ptr 0 0 ((w64 ((a1.length : Int) - 1)).toNat * 3)) 145 [(64, .ptr 0 0 ((w64 ((a1.length : Int) - 1)).toNat * 3)), (60, E v23), (55, I a2.fN), (53, rf 0 0 3 v21)] [sl 0 a1] (fun Γ' hΓ => CoreE.of_y (idrV_sound (n := a1.length) τ_ok (by kernel_rfl) hv26 rfl)) (hL trivial) ?_
 refine qX (some 65) (E v25) 145 [(65, E v25), (60, E v23), (55, I a2.fN), (53, rf 0 0 3 v21)] [sl 0 a1] (fun Γ' hΓ => CoreE.of_y (ldeV_sound (t := 90) (o' := 0) (r := E v25) τ_ok hv26 (by kernel_rfl) (by kernel_rfl))) (hL trivial) ?_
 obtain ⟨v27, hv28, h⟩ := bindS h
 refine qX (some 66) (I v27) 145 [(66, I v27), (53, rf 0 0 3 v21)] [sl 0 a1] (fun Γ' hΓ => CoreE.of_g (callV_sound (τ := τ) (by kernel_rfl) rfl (ok_spec_Compare hv28) (FzTo.frz rfl))) trivial ?_
 obtain ⟨v29, hv30, h⟩ := bindS h
 refine qX (some 67) (E v29) 145 [(67, E v29), (53, rf 0 0 3 v21)] [sl 0 a1] (fun Γ' hΓ => CoreE.of_g (callV_sound (τ := τ) (by kernel_rfl) rfl (ok_spec_ValueOf hv30) (FzTo.frz rfl))) trivial ?_
 refine qv [] trivial 1 145 [(68, .arr 3 ([v29] : List T_impl_Value).length (eL ([v29] : List T_impl_Value)) true), (53, rf 0 0 3 v21)] [sl 0 a1] ?_
 obtain ⟨v31, hv32, h⟩ := bindS h
 refine qX (some 69) (rf 0 1 3 v31) 145 [(69, rf 0 1 3 v31)] [sl 1 v31] (fun Γ' hΓ => app_E τ_ok 69 0 0 v21.length (ny hΓ hX) hv32 (slI_le hv22) (by kernel_rfl)) (hL trivial) ?_
 refine qvn [0] (hL trivial) 1 145 [(6, rf 0 1 3 v31)] [sl 1 v31] ?_
 have h := si h
 subst h
 exact pwp_ret (rt (rf 0 1 3 v31) (OutP.list (v := 1) (by kernel_rfl)))
 refine srve 145 [(1, rf 0 0 3 a1), (7, I (a1.length : Int)), (11, I a2.fKind), (70, B (a2.fKind == 5))] [sl 0 a1] ?_
 refine pc h (fun h => ?_) (fun h => ?_)
 refine pwp_seq ?_
 refine ip 145 [(1, rf 0 0 3 a1), (7, I (a1.length : Int))] [sl 0 a1] ?_
 refine pwp_any ([[0], [], [], [0], [0], [], [], [0], [0], [], [0], [], [], [0], [0], [], [], [], [], [0], [0]]) ([[], [], [], [], [], [], [], [], [], [], [], [], [], [], [], [], [], [], [], [0], []]) rfl (by kernel_rfl) ?_
 refine qv [0] (hL trivial) 1 145 [(72, rf 0 0 3 a1), (1, rf 0 0 3 a1), (7, I (a1.length : Int))] [sl 0 a1] ?_
 refine qv [] trivial 2 145 [(74, I (w64 ((a1.length : Int) - 2))), (72, rf 0 0 3 a1), (1, rf 0 0 3 a1), (7, I (a1.length : Int))] [sl 0 a1] ?_
 obtain ⟨v34, hv35, h⟩ := bindS h
 refine qX (some 75) (rf 0 0 3 v34) 145 [(75, rf 0 0 3 v34), (1, rf 0 0 3 a1), (7, I (a1.length : Int))] [sl 0 a1] (fun Γ' hΓ => CoreE.of_y (slrV_sound (n := a1.length) τ_ok (by kernel_rfl) rfl hv35)) (hL trivial) ?_
 refine qv [0] (hL trivial) 1 145 [(76, rf 0 0 3 a1), (75, rf 0 0 3 v34), (1, rf 0 0 3 a1), (7, I (a1.length : Int))] [sl 0 a1] ?_
 refine qv [] trivial 2 145 [(78, I (w64 ((a1.length : Int) - 2))), (76, rf 0 0 3 a1), (75, rf 0 0 3 v34), (1, rf 0 0 3 a1), (7, I (a1.length : Int))] [sl 0 a1] ?_
 obtain ⟨v36, hv37, h⟩ := bindS h
 refine qX (some 79) (.ptr 0 0 ((w64 ((a1.length : Int) - 2)).toNat * 3)) 145 [(79, .ptr 0 0 ((w64 ((a1.length : Int) - 2)).toNat * 3)), (75, rf 0 0 3 v34), (1, rf 0 0 3 a1), (7, I (a1.length : Int))] [sl 0 a1] (fun Γ' hΓ => CoreE.of_y (idrV_sound (n := a1.length) τ_ok (by kernel_rfl) hv37 rfl)) (hL trivial) ?_
 refine qX (some 80) (E v36) 145 [(80, E v36), (75, rf 0 0 3 v34), (1, rf 0 0 3 a1), (7, I (a1.length : Int))] [sl 0 a1] (fun Γ' hΓ => CoreE.of_y (ldeV_sound (t := 90) (o' := 0) (r := E v36) τ_ok hv37 (by kernel_rfl) (by kernel_rfl))) (hL trivial) ?_
 obtain ⟨v38, hv39, h⟩ := bindS h
 refine qX (some 81) (I v38) 145 [(81, I v38), (75, rf 0 0 3 v34), (1, rf 0 0 3 a1), (7, I (a1.length : Int))] [sl 0 a1] (fun Γ' hΓ => CoreE.of_g (callV_sound (τ := τ) (by kernel_rfl) rfl (ok_spec_TruthOf hv39) (FzTo.frz rfl))) trivial ?_
 refine qv [0] (hL trivial) 1 145 [(82, rf 0 0 3 a1), (81, I v38), (75, rf 0 0 3 v34), (7, I (a1.length : Int))] [sl 0 a1] ?_
 refine qv [] trivial 2 145 [(84, I (w64 ((a1.length : Int) - 1))), (82, rf 0 0 3 a1), (81, I v38), (75, rf 0 0 3 v34)] [sl 0 a1] ?_
 obtain ⟨v40, hv41, h⟩ := bindS h
 refine qX (some 85) (.ptr 0 0 ((w64 ((a1.length : Int) - 1)).toNat * 3)) 145 [(85, .ptr 0 0 ((w64 ((a1.length : Int) - 1)).toNat * 3)), (81, I v38), (75, rf 0 0 3 v34)] [sl 0 a1] (fun Γ' hΓ => CoreE.of_y (idrV_sound (n := a1.length) τ_ok (by kernel_rfl) hv41 rfl)) (hL trivial) ?_
 refine qX (some 86) (E v40) 145 [(86, E v40), (81, I v38), (75, rf 0 0 3 v34)] [sl 0 a1] (fun Γ' hΓ => CoreE.of_y (ldeV_sound (t := 90) (o' := 0) (r := E v40) τ_ok hv41 (by kernel_rfl) (by kernel_rfl))) (hL trivial) ?_
 obtain ⟨v42, hv43, h⟩ := bindS h
 refine qX (some 87) (I v42) 145 [(87, I v42), (81, I v38), (75, rf 0 0 3 v34)] [sl 0 a1] (fun Γ' hΓ => CoreE.of_g (callV_sound (τ := τ) (by kernel_rfl) rfl (ok_spec_TruthOf hv43) (FzTo.frz rfl))) trivial ?_
 obtain ⟨v44, hv45, h⟩ := bindS h
 refine qX (some 88) (I v44) 145 [(88, I v44), (75, rf 0 0 3 v34)] [sl 0 a1] (fun Γ' hΓ => CoreE.of_g (callV_sound (τ := τ) (by kernel_rfl) rfl (ok_spec_AndOf hv45) (FzTo.frz rfl))) trivial ?_
 obtain ⟨v46, hv47, h⟩ := bindS h
 refine qX (some 89) (E v46) 145 [(89, E v46), (75, rf 0 0 3 v34)] [sl 0 a1] (fun Γ' hΓ => CoreE.of_g (callV_sound (τ := τ) (by kernel_rfl) rfl (ok_spec_ValueOf hv47) (FzTo.frz rfl))) trivial ?_
 refine qv [] trivial 1 145 [(90, .arr 3 ([v46] : List T_impl_Value).length (eL ([v46] : List T_impl_Value)) true), (75, rf 0 0 3 v34)] [sl 0 a1] ?_
 obtain ⟨v48, hv49, h⟩ := bindS h
 refine qX (some 91) (rf 0 1 3 v48) 145 [(91, rf 0 1 3 v48)] [sl 1 v48] (fun Γ' hΓ => app_E τ_ok 91 0 0 v34.length (ny hΓ hX) hv49 (slI_le hv35) (by kernel_rfl)) (hL trivial) ?_
 refine qvn [0] (hL trivial) 1 145 [(6, rf 0 1 3 v48)] [sl 1 v48] ?_
 have h := si h
 subst h
 exact pwp_ret (rt (rf 0 1 3 v48) (OutP.list (v := 1) (by kernel_rfl)))
 refine srve 145 [(1, rf 0 0 3 a1), (7, I (a1.length : Int)), (11, I a2.fKind), (92, B (a2.fKind == 6))] [sl 0 a1] ?_
 refine pc h (fun h => ?_) (fun h => ?_)
 refine pwp_seq ?_
 refine ip 145 [(1, rf 0 0 3 a1), (7, I (a1.length : Int))] [sl 0 a1] ?_
 refine pwp_any ([[0], [], [], [0], [0], [], [], [0], [0], [], [0], [], [], [0], [0], [], [], [], [], [0], [0]]) ([[], [], [], [], [], [], [], [], [], [], [], [], [], [], [], [], [], [], [], [0], []]) rfl (by kernel_rfl) ?_
 refine qv [0] (hL trivial) 1 145 [(94, rf 0 0 3 a1), (1, rf 0 0 3 a1), (7, I (a1.length : Int))] [sl 0 a1] ?_
 refine qv [] trivial 2 145 [(96, I (w64 ((a1.length : Int) - 2))), (94, rf 0 0 3 a1), (1, rf 0 0 3 a1), (7, I (a1.length : Int))] [sl 0 a1] ?_
 obtain ⟨v51, hv52, h⟩ := bindS h
 refine qX (some 97) (rf 0 0 3 v51) 145 [(97, rf 0 0 3 v51), (1, rf 0 0 3 a1), (7, I (a1.length : Int))] [sl 0 a1] (fun Γ' hΓ => CoreE.of_y (slrV_sound (n := a1.length) τ_ok (by kernel_rfl) rfl hv52)) (hL trivial) ?_
 refine qv [0] (hL trivial) 1 145 [(98, rf 0 0 3 a1), (97, rf 0 0 3 v51), (1, rf 0 0 3 a1), (7, I (a1.length : Int))] [sl 0 a1] ?_
 refine qv [] trivial 2 145 [(100, I (w64 ((a1.length : Int) - 2))), (98, rf 0 0 3 a1), (97, rf 0 0 3 v51), (1, rf 0 0 3 a1), (7, I (a1.length : Int))] [sl 0 a1] ?_
 obtain ⟨v53, hv54, h⟩ := bindS h
 refine qX (some 101) (.ptr 0 0 ((w64 ((a1.length : Int) - 2)).toNat * 3)) 145 [(101, .ptr 0 0 ((w64 ((a1.length : Int) - 2)).toNat * 3)), (97, rf 0 0 3 v51), (1, rf 0 0 3 a1), (7, I (a1.length : Int))] [sl 0 a1] (fun Γ' hΓ => CoreE.of_y (idrV_sound (n := a1.length) τ_ok (by kernel_rfl) hv54 rfl)) (hL trivial) ?_
 refine qX (some 102) (E v53) 145 [(102, E v53), (97, rf 0 0 3 v51), (1, rf 0 0 3 a1), (7, I (a1.length : Int))] [sl 0 a1] (fun Γ' hΓ => CoreE.of_y (ldeV_sound (t := 90) (o' := 0) (r := E v53) τ_ok hv54 (by kernel_rfl) (by kernel_rfl))) (hL trivial) ?_
 obtain ⟨v55, hv56, h⟩ := bindS h
 refine qX (some 103) (I v55) 145 [(103, I v55), (97, rf 0 0 3 v51), (1, rf 0 0 3 a1), (7, I (a1.length : Int))] [sl 0 a1] (fun Γ' hΓ => CoreE.of_g (callV_sound (τ := τ) (by kernel_rfl) rfl (ok_spec_TruthOf hv56) (FzTo.frz rfl))) trivial ?_
 refine qv [0] (hL trivial) 1 145 [(104, rf 0 0 3 a1), (103, I v55), (97, rf 0 0 3 v51), (7, I (a1.length : Int))] [sl 0 a1] ?_
 refine qv [] trivial 2 145 [(106, I (w64 ((a1.length : Int) - 1))), (104, rf 0 0 3 a1), (103, I v55), (97, rf 0 0 3 v51)] [sl 0 a1] ?_
 obtain ⟨v57, hv58, h⟩ := bindS h
 refine qX (some 107) (.ptr 0 0 ((w64 ((a1.length : Int) - 1)).toNat * 3)) 145 [(107, .ptr 0 0 ((w64 ((a1.length : Int) - 1)).toNat * 3)), (103, I v55), (97, rf 0 0 3 v51)] [sl 0 a1] (fun Γ' hΓ => CoreE.of_y (idrV_sound (n := a1.length) τ_ok (by kernel_rfl) hv58 rfl)) (hL trivial) ?_
 refine qX (some 108) (E v57) 145 [(108, E v57), (103, I v55), (97, rf 0 0 3 v51)] [sl 0 a1] (fun Γ' hΓ => CoreE.of_y (ldeV_sound (t := 90) (o' := 0) (r := E v57) τ_ok hv58 (by kernel_rfl) (by kernel_rfl))) (hL trivial) ?_
 obtain ⟨v59, hv60, h⟩ := bindS h
 refine qX (some 109) (I v59) 145 [(109, I v59), (103, I v55), (97, rf 0 0 3 v51)] [sl 0 a1] (fun Γ' hΓ => CoreE.of_g (callV_sound (τ := τ) (by kernel_rfl) rfl (ok_spec_TruthOf hv60) (FzTo.frz rfl))) trivial ?_
 obtain ⟨v61, hv62, h⟩ := bindS h
 refine qX (some 110) (I v61) 145 [(110, I v61), (97, rf 0 0 3 v51)] [sl 0 a1] (fun Γ' hΓ => CoreE.of_g (callV_sound (τ := τ) (by kernel_rfl) rfl (ok_spec_OrOf hv62) (FzTo.frz rfl))) trivial ?_
 obtain ⟨v63, hv64, h⟩ := bindS h
 refine qX (some 111) (E v63) 145 [(111, E v63), (97, rf 0 0 3 v51)] [sl 0 a1] (fun Γ' hΓ => CoreE.of_g (callV_sound (τ := τ) (by kernel_rfl) rfl (ok_spec_ValueOf hv64) (FzTo.frz rfl))) trivial ?_
 refine qv [] trivial 1 145 [(112, .arr 3 ([v63] : List T_impl_Value).length (eL ([v63] : List T_impl_Value)) true), (97, rf 0 0 3 v51)] [sl 0 a1] ?_
 obtain ⟨v65, hv66, h⟩ := bindS h
 refine qX (some 113) (rf 0 1 3 v65) 145 [(113, rf 0 1 3 v65)] [sl 1 v65] (fun Γ' hΓ => app_E τ_ok 113 0 0 v51.length (ny hΓ hX) hv66 (slI_le hv52) (by kernel_rfl)) (hL trivial) ?_
 refine qvn [0] (hL trivial) 1 145 [(6, rf 0 1 3 v65)] [sl 1 v65] ?_
 have h := si h
 subst h
 exact pwp_ret (rt (rf 0 1 3 v65) (OutP.list (v := 1) (by kernel_rfl)))
 refine srve 145 [(1, rf 0 0 3 a1), (7, I (a1.length : Int)), (114, B (a2.fKind == 7))] [sl 0 a1] ?_
 refine pc h (fun h => ?_) (fun h => ?_)
 refine pwp_seq ?_
 refine ip 145 [(1, rf 0 0 3 a1), (7, I (a1.length : Int))] [sl 0 a1] ?_
 refine pwp_any ([[0], [], [], [0], [0], [], [], [0], [0], [], [], [], [], [0], [0]]) ([[], [], [], [], [], [], [], [], [], [], [], [], [], [0], []]) rfl (by kernel_rfl) ?_
 refine qv [0] (hL trivial) 1 145 [(116, rf 0 0 3 a1), (1, rf 0 0 3 a1), (7, I (a1.length : Int))] [sl 0 a1] ?_
 refine qv [] trivial 2 145 [(118, I (w64 ((a1.length : Int) - 1))), (116, rf 0 0 3 a1), (1, rf 0 0 3 a1), (7, I (a1.length : Int))] [sl 0 a1] ?_
 obtain ⟨v68, hv69, h⟩ := bindS h
 refine qX (some 119) (rf 0 0 3 v68) 145 [(119, rf 0 0 3 v68), (1, rf 0 0 3 a1), (7, I (a1.length : Int))] [sl 0 a1] (fun Γ' hΓ => CoreE.of_y (slrV_sound (n := a1.length) τ_ok (by kernel_rfl) rfl hv69)) (hL trivial) ?_
 refine qv [0] (hL trivial) 1 145 [(120, rf 0 0 3 a1), (119, rf 0 0 3 v68), (7, I (a1.length : Int))] [sl 0 a1] ?_
 refine qv [] trivial 2 145 [(122, I (w64 ((a1.length : Int) - 1))), (120, rf 0 0 3 a1), (119, rf 0 0 3 v68)] [sl 0 a1] ?_
 obtain ⟨v70, hv71, h⟩ := bindS h
 refine qX (some 123) (.ptr 0 0 ((w64 ((a1.length : Int) - 1)).toNat * 3)) 145 [(123, .ptr 0 0 ((w64 ((a1.length : Int) - 1)).toNat * 3)), (119, rf 0 0 3 v68)] [sl 0 a1] (fun Γ' hΓ => CoreE.of_y (idrV_sound (n := a1.length) τ_ok (by kernel_rfl) hv71 rfl)) (hL trivial) ?_
 refine qX (some 124) (E v70) 145 [(124, E v70), (119, rf 0 0 3 v68)] [sl 0 a1] (fun Γ' hΓ => CoreE.of_y (ldeV_sound (t := 90) (o' := 0) (r := E v70) τ_ok hv71 (by kernel_rfl) (by kernel_rfl))) (hL trivial) ?_
 obtain ⟨v72, hv73, h⟩ := bindS h
 refine qX (some 125) (I v72) 145 [(125, I v72), (119, rf 0 0 3 v68)] [sl 0 a1] (fun Γ' hΓ => CoreE.of_g (callV_sound (τ := τ) (by kernel_rfl) rfl (ok_spec_TruthOf hv73) (FzTo.frz rfl))) trivial ?_
 obtain ⟨v74, hv75, h⟩ := bindS h
 refine qX (some 126) (I v74) 145 [(126, I v74), (119, rf 0 0 3 v68)] [sl 0 a1] (fun Γ' hΓ => CoreE.of_g (callV_sound (τ := τ) (by kernel_rfl) rfl (ok_spec_NotOf hv75) (FzTo.frz rfl))) trivial ?_
 obtain ⟨v76, hv77, h⟩ := bindS h
 refine qX (some 127) (E v76) 145 [(127, E v76), (119, rf 0 0 3 v68)] [sl 0 a1] (fun Γ' hΓ => CoreE.of_g (callV_sound (τ := τ) (by kernel_rfl) rfl (ok_spec_ValueOf hv77) (FzTo.frz rfl))) trivial ?_
 refine qv [] trivial 1 145 [(128, .arr 3 ([v76] : List T_impl_Value).length (eL ([v76] : List T_impl_Value)) true), (119, rf 0 0 3 v68)] [sl 0 a1] ?_
 obtain ⟨v78, hv79, h⟩ := bindS h
 refine qX (some 129) (rf 0 1 3 v78) 145 [(129, rf 0 1 3 v78)] [sl 1 v78] (fun Γ' hΓ => app_E τ_ok 129 0 0 v68.length (ny hΓ hX) hv79 (slI_le hv69) (by kernel_rfl)) (hL trivial) ?_
 refine qvn [0] (hL trivial) 1 145 [(6, rf 0 1 3 v78)] [sl 1 v78] ?_
 have h := si h
 subst h
 exact pwp_ret (rt (rf 0 1 3 v78) (OutP.list (v := 1) (by kernel_rfl)))
 refine pwp_skip ?_
 refine pwp_seq ?_
 refine ip 145 [(1, rf 0 0 3 a1), (7, I (a1.length : Int))] [sl 0 a1] ?_
 refine pwp_any ([[0], [], [], [0], [0], [], [], [0], [0], [0], [], [], [], [], [0], [0]]) ([[], [], [], [], [], [], [], [], [], [], [], [], [], [], [0], []]) rfl (by kernel_rfl) ?_
 refine qv [0] (hL trivial) 1 145 [(130, rf 0 0 3 a1), (1, rf 0 0 3 a1), (7, I (a1.length : Int))] [sl 0 a1] ?_
 refine qv [] trivial 2 145 [(132, I (w64 ((a1.length : Int) - 1))), (130, rf 0 0 3 a1), (1, rf 0 0 3 a1), (7, I (a1.length : Int))] [sl 0 a1] ?_
 obtain ⟨v80, hv81, h⟩ := bindS h
 refine qX (some 133) (rf 0 0 3 v80) 145 [(133, rf 0 0 3 v80), (1, rf 0 0 3 a1), (7, I (a1.length : Int))] [sl 0 a1] (fun Γ' hΓ => CoreE.of_y (slrV_sound (n := a1.length) τ_ok (by kernel_rfl) rfl hv81)) (hL trivial) ?_
 refine qv [0] (hL trivial) 1 145 [(134, rf 0 0 3 a1), (133, rf 0 0 3 v80), (7, I (a1.length : Int))] [sl 0 a1] ?_
 refine qv [] trivial 2 145 [(136, I (w64 ((a1.length : Int) - 1))), (134, rf 0 0 3 a1), (133, rf 0 0 3 v80)] [sl 0 a1] ?_
 obtain ⟨v82, hv83, h⟩ := bindS h
 refine qX (some 137) (.ptr 0 0 ((w64 ((a1.length : Int) - 1)).toNat * 3)) 145 [(137, .ptr 0 0 ((w64 ((a1.length : Int) - 1)).toNat * 3)), (133, rf 0 0 3 v80)] [sl 0 a1] (fun Γ' hΓ => CoreE.of_y (idrV_sound (n := a1.length) τ_ok (by kernel_rfl) hv83 rfl)) (hL trivial) ?_
 refine qv [0] (hL trivial) 1 145 [(138, .ptr 0 0 ((w64 ((a1.length : Int) - 1)).toNat * 3)), (133, rf 0 0 3 v80)] [sl 0 a1] ?_
 refine qX (some 139) (I v82.fKind) 145 [(139, I v82.fKind), (133, rf 0 0 3 v80)] [sl 0 a1] (fun Γ' hΓ => CoreE.of_y (ldeV_sound (t := 3) (o' := 0) (r := I v82.fKind) τ_ok hv83 (by kernel_rfl) (by kernel_rfl))) (hL trivial) ?_
 refine qv [] trivial 1 145 [(140, B (v82.fKind == 0)), (133, rf 0 0 3 v80)] [sl 0 a1] ?_
 obtain ⟨v84, hv85, h⟩ := bindS h
 refine qX (some 141) (I v84) 145 [(141, I v84), (133, rf 0 0 3 v80)] [sl 0 a1] (fun Γ' hΓ => CoreE.of_g (callV_sound (τ := τ) (by kernel_rfl) rfl (ok_spec_l2Bool hv85) (FzTo.frz rfl))) trivial ?_
 obtain ⟨v86, hv87, h⟩ := bindS h
 refine qX (some 142) (E v86) 145 [(142, E v86), (133, rf 0 0 3 v80)] [sl 0 a1] (fun Γ' hΓ => CoreE.of_g (callV_sound (τ := τ) (by kernel_rfl) rfl (ok_spec_ValueOf hv87) (FzTo.frz rfl))) trivial ?_
 refine qv [] trivial 1 145 [(143, .arr 3 ([v86] : List T_impl_Value).length (eL ([v86] : List T_impl_Value)) true), (133, rf 0 0 3 v80)] [sl 0 a1] ?_
 obtain ⟨v88, hv89, h⟩ := bindS h
 refine qX (some 144) (rf 0 1 3 v88) 145 [(144, rf 0 1 3 v88)] [sl 1 v88] (fun Γ' hΓ => app_E τ_ok 144 0 0 v80.length (ny hΓ hX) hv89 (slI_le hv81) (by kernel_rfl)) (hL trivial) ?_
 refine qvn [0] (hL trivial) 1 145 [(6, rf 0 1 3 v88)] [sl 1 v88] ?_
 have h := si h
 subst h
 exact pwp_ret (rt (rf 0 1 3 v88) (OutP.list (v := 1) (by kernel_rfl)))
def impl_Compare_j1 (a0 : Int) (a1 : T_impl_Value) (a2 : T_impl_Value) (x3 : Bool) : Option Int := bif x3 then some 2 else bif (!(a1.fKind == a2.fKind)) then some (-1) else (impl_Value_order a1 a2).bind fun v6 => bif (a0 == 1) then bif (v6 == 0) then (impl_truthIf true).bind fun v8 => some v8 else bif (a0 == 2) then bif (!(v6 == 0)) then (impl_truthIf true).bind fun v10 => some v10 else bif (a0 == 3) then bif (decide (v6 < 0)) then (impl_truthIf true).bind fun v12 => some v12 else bif (a0 == 4) then (impl_truthIf (decide (v6 ≤ 0))).bind fun v14 => some v14 else (impl_truthIf false).bind fun v16 => some v16 else bif (a0 == 4) then (impl_truthIf (decide (v6 ≤ 0))).bind fun v20 => some v20 else (impl_truthIf false).bind fun v22 => some v22 else bif (a0 == 3) then bif (decide (v6 < 0)) then (impl_truthIf true).bind fun v27 => some v27 else bif (a0 == 4) then (impl_truthIf (decide (v6 ≤ 0))).bind fun v29 => some v29 else (impl_truthIf false).bind fun v31 => some v31 else bif (a0 == 4) then (impl_truthIf (decide (v6 ≤ 0))).bind fun v35 => some v35 else (impl_truthIf false).bind fun v37 => some v37 else bif (a0 == 2) then bif (!(v6 == 0)) then (impl_truthIf true).bind fun v43 => some v43 else bif (a0 == 3) then bif (decide (v6 < 0)) then (impl_truthIf true).bind fun v45 => some v45 else bif (a0 == 4) then (impl_truthIf (decide (v6 ≤ 0))).bind fun v47 => some v47 else (impl_truthIf false).bind fun v49 => some v49 else bif (a0 == 4) then (impl_truthIf (decide (v6 ≤ 0))).bind fun v53 => some v53 else (impl_truthIf false).bind fun v55 => some v55 else bif (a0 == 3) then bif (decide (v6 < 0)) then (impl_truthIf true).bind fun v60 => some v60 else bif (a0 == 4) then (impl_truthIf (decide (v6 ≤ 0))).bind fun v62 => some v62 else (impl_truthIf false).bind fun v64 => some v64 else bif (a0 == 4) then (impl_truthIf (decide (v6 ≤ 0))).bind fun v68 => some v68 else (impl_truthIf false).bind fun v70 => some v70
def impl_Compare_j0 (a0 : Int) (a1 : T_impl_Value) (a2 : T_impl_Value) (x1 : Bool) : Option Int := bif x1 then some (-1) else bif (a1.fKind == 0) then impl_Compare_j1 a0 a1 a2 true else impl_Compare_j1 a0 a1 a2 (a2.fKind == 0)
def impl_Compare (a0 : Int) (a1 : T_impl_Value) (a2 : T_impl_Value) : Option Int := (impl_between a0 1 4).bind fun v77 => bif (!v77) then impl_Compare_j0 a0 a1 a2 true else (impl_Value_ok a1).bind fun v79 => bif (!v79) then impl_Compare_j0 a0 a1 a2 true else (impl_Value_ok a2).bind fun v81 => impl_Compare_j0 a0 a1 a2 (!v81)
theorem ok_impl_Compare {a0 : Int} {a1 : T_impl_Value} {a2 : T_impl_Value} {y : Int} (h : impl_Compare a0 a1 a2 = some y) : OK Tryz.prog 180 [I a0, E a1, E a2] (I y) := by
 refine ow Tryz.func180 fun Γ hX => ?_
 unfold impl_Compare at h
 refine srve 71 [(0, I a0), (4, pf a1 0), (5, pf a2 0)] [] ?_
 refine pwp_seq ?_
 refine pwp_block ?_
 refine pwp_seq ?_
 refine pwp_join (σ := Bool) (fun x1 => (⟨71, [(0, I a0), (4, pf a1 0), (5, pf a2 0), (8, B x1)], []⟩ : St)) (fun x1 => impl_Compare_j0 a0 a1 a2 x1 = some y) ?_ ?_
 refine rv 1 71 [(0, I a0), (4, pf a1 0), (5, pf a2 0), (9, I a0)] [] ?_
 obtain ⟨v77, hv78, h⟩ := bindS h
 refine cF 10 (ok_impl_between hv78) ?_
 refine v 2 71 [(0, I a0), (4, pf a1 0), (5, pf a2 0), (12, B (!v77))] [] ?_
 rcases fk (!v77) with hc84 | hc84
 replace h := bT hc84 h
 rw [hc84]
 refine ve 10 71 [(0, I a0), (4, pf a1 0), (5, pf a2 0), (8, B true)] [] ?_
 exact ⟨true, h, it [0, 4, 5, 8]⟩
 replace h := bF hc84 h
 rw [hc84]
 refine v 1 71 [(0, I a0), (4, pf a1 0), (5, pf a2 0), (12, B false), (13, E a1)] [] ?_
 obtain ⟨v79, hv80, h⟩ := bindS h
 refine cF 14 (ok_impl_Value_ok hv80) ?_
 refine v 3 71 [(0, I a0), (4, pf a1 0), (5, pf a2 0), (17, B (!v79))] [] ?_
 rcases fk (!v79) with hc83 | hc83
 replace h := bT hc83 h
 rw [hc83]
 refine ve 5 71 [(0, I a0), (4, pf a1 0), (5, pf a2 0), (8, B true)] [] ?_
 exact ⟨true, h, it [0, 4, 5, 8]⟩
 replace h := bF hc83 h
 rw [hc83]
 refine v 1 71 [(0, I a0), (4, pf a1 0), (5, pf a2 0), (17, B false), (18, E a2)] [] ?_
 obtain ⟨v81, hv82, h⟩ := bindS h
 refine cF 19 (ok_impl_Value_ok hv82) ?_
 refine ve 3 71 [(0, I a0), (4, pf a1 0), (5, pf a2 0), (8, B (!v81))] [] ?_
 exact ⟨(!v81), h, it [0, 4, 5, 8]⟩
 rintro x1 h
 unfold impl_Compare_j0 at h
 refine pc h (fun h => ?_) (fun h => ?_)
 refine srve 71 [(6, I (-1))] [] ?_
 cases h
 exact pwp_ret rz
 refine pwp_seq ?_
 refine pwp_join (σ := Bool) (fun x3 => (⟨71, [(0, I a0), (4, pf a1 0), (5, pf a2 0), (22, B x3)], []⟩ : St)) (fun x3 => impl_Compare_j1 a0 a1 a2 x3 = some y) ?_ ?_
 refine rv 4 71 [(0, I a0), (4, pf a1 0), (5, pf a2 0), (26, B (a1.fKind == 0))] [] ?_
 rcases fk (a1.fKind == 0) with hc76 | hc76
 replace h := bT hc76 h
 rw [hc76]
 refine ve 5 71 [(0, I a0), (4, pf a1 0), (5, pf a2 0), (22, B true)] [] ?_
 exact ⟨true, h, it [0, 4, 5, 22]⟩
 replace h := bF hc76 h
 rw [hc76]
 refine ve 5 71 [(0, I a0), (4, pf a1 0), (5, pf a2 0), (22, B (a2.fKind == 0))] [] ?_
 exact ⟨(a2.fKind == 0), h, it [0, 4, 5, 22]⟩
 rintro x3 h
 unfold impl_Compare_j1 at h
 refine pc h (fun h => ?_) (fun h => ?_)
 refine srve 71 [(6, I 2)] [] ?_
 cases h
 exact pwp_ret rz
 refine srve 71 [(0, I a0), (4, pf a1 0), (5, pf a2 0), (31, B (!(a1.fKind == a2.fKind)))] [] ?_
 refine pc h (fun h => ?_) (fun h => ?_)
 refine srve 71 [(6, I (-1))] [] ?_
 cases h
 exact pwp_ret rz
 refine pwp_skip ?_
 refine srv 2 71 [(0, I a0), (37, E a1), (38, E a2)] [] ?_
 obtain ⟨v6, hv7, h⟩ := bindS h
 refine cF 39 (ok_impl_Value_order hv7) ?_
 refine ve 1 71 [(0, I a0), (7, I v6)] [] ?_
 refine srv 3 71 [(0, I a0), (7, I v6), (42, B (a0 == 1))] [] ?_
 rcases fk (a0 == 1) with hc75 | hc75
 replace h := bT hc75 h
 rw [hc75]
 refine v 4 71 [(0, I a0), (7, I v6), (46, B (v6 == 0))] [] ?_
 rcases fk (v6 == 0) with hc42 | hc42
 replace h := bT hc42 h
 rw [hc42]
 refine v 23 71 [(69, B true)] [] ?_
 obtain ⟨v8, hv9, h⟩ := bindS h
 refine cF 70 (ok_impl_truthIf hv9) ?_
 refine ve 1 71 [(6, I v8)] [] ?_
 cases h
 exact pwp_ret rz
 replace h := bF hc42 h
 rw [hc42]
 refine v 3 71 [(0, I a0), (7, I v6), (46, B false), (49, B (a0 == 2))] [] ?_
 rcases fk (a0 == 2) with hc41 | hc41
 replace h := bT hc41 h
 rw [hc41]
 refine v 5 71 [(0, I a0), (7, I v6), (54, B (!(v6 == 0)))] [] ?_
 rcases fk (!(v6 == 0)) with hc26 | hc26
 replace h := bT hc26 h
 rw [hc26]
 refine v 15 71 [(69, B true)] [] ?_
 obtain ⟨v10, hv11, h⟩ := bindS h
 refine cF 70 (ok_impl_truthIf hv11) ?_
 refine ve 1 71 [(6, I v10)] [] ?_
 cases h
 exact pwp_ret rz
 replace h := bF hc26 h
 rw [hc26]
 refine v 3 71 [(0, I a0), (7, I v6), (54, B false), (57, B (a0 == 3))] [] ?_
 rcases fk (a0 == 3) with hc25 | hc25
 replace h := bT hc25 h
 rw [hc25]
 refine v 5 71 [(0, I a0), (7, I v6), (62, B (decide (v6 < 0)))] [] ?_
 rcases fk (decide (v6 < 0)) with hc19 | hc19
 replace h := bT hc19 h
 rw [hc19]
 refine v 7 71 [(69, B true)] [] ?_
 obtain ⟨v12, hv13, h⟩ := bindS h
 refine cF 70 (ok_impl_truthIf hv13) ?_
 refine ve 1 71 [(6, I v12)] [] ?_
 cases h
 exact pwp_ret rz
 replace h := bF hc19 h
 rw [hc19]
 refine v 3 71 [(7, I v6), (62, B false), (65, B (a0 == 4))] [] ?_
 rcases fk (a0 == 4) with hc18 | hc18
 replace h := bT hc18 h
 rw [hc18]
 refine v 4 71 [(69, B (decide (v6 ≤ 0)))] [] ?_
 obtain ⟨v14, hv15, h⟩ := bindS h
 refine cF 70 (ok_impl_truthIf hv15) ?_
 refine ve 1 71 [(6, I v14)] [] ?_
 cases h
 exact pwp_ret rz
 replace h := bF hc18 h
 rw [hc18]
 refine v 4 71 [(69, B false)] [] ?_
 obtain ⟨v16, hv17, h⟩ := bindS h
 refine cF 70 (ok_impl_truthIf hv17) ?_
 refine ve 1 71 [(6, I v16)] [] ?_
 cases h
 exact pwp_ret rz
 replace h := bF hc25 h
 rw [hc25]
 refine v 8 71 [(7, I v6), (62, B false), (65, B (a0 == 4))] [] ?_
 rcases fk (a0 == 4) with hc24 | hc24
 replace h := bT hc24 h
 rw [hc24]
 refine v 4 71 [(69, B (decide (v6 ≤ 0)))] [] ?_
 obtain ⟨v20, hv21, h⟩ := bindS h
 refine cF 70 (ok_impl_truthIf hv21) ?_
 refine ve 1 71 [(6, I v20)] [] ?_
 cases h
 exact pwp_ret rz
 replace h := bF hc24 h
 rw [hc24]
 refine v 4 71 [(69, B false)] [] ?_
 obtain ⟨v22, hv23, h⟩ := bindS h
 refine cF 70 (ok_impl_truthIf hv23) ?_
 refine ve 1 71 [(6, I v22)] [] ?_
 cases h
 exact pwp_ret rz
 replace h := bF hc41 h
 rw [hc41]
 refine v 8 71 [(0, I a0), (7, I v6), (54, B false), (57, B (a0 == 3))] [] ?_
 rcases fk (a0 == 3) with hc40 | hc40
 replace h := bT hc40 h
 rw [hc40]
 refine v 5 71 [(0, I a0), (7, I v6), (62, B (decide (v6 < 0)))] [] ?_
 rcases fk (decide (v6 < 0)) with hc34 | hc34
 replace h := bT hc34 h
 rw [hc34]
 refine v 7 71 [(69, B true)] [] ?_
 obtain ⟨v27, hv28, h⟩ := bindS h
 refine cF 70 (ok_impl_truthIf hv28) ?_
 refine ve 1 71 [(6, I v27)] [] ?_
 cases h
 exact pwp_ret rz
 replace h := bF hc34 h
 rw [hc34]
 refine v 3 71 [(7, I v6), (62, B false), (65, B (a0 == 4))] [] ?_
 rcases fk (a0 == 4) with hc33 | hc33
 replace h := bT hc33 h
 rw [hc33]
 refine v 4 71 [(69, B (decide (v6 ≤ 0)))] [] ?_
 obtain ⟨v29, hv30, h⟩ := bindS h
 refine cF 70 (ok_impl_truthIf hv30) ?_
 refine ve 1 71 [(6, I v29)] [] ?_
 cases h
 exact pwp_ret rz
 replace h := bF hc33 h
 rw [hc33]
 refine v 4 71 [(69, B false)] [] ?_
 obtain ⟨v31, hv32, h⟩ := bindS h
 refine cF 70 (ok_impl_truthIf hv32) ?_
 refine ve 1 71 [(6, I v31)] [] ?_
 cases h
 exact pwp_ret rz
 replace h := bF hc40 h
 rw [hc40]
 refine v 8 71 [(7, I v6), (62, B false), (65, B (a0 == 4))] [] ?_
 rcases fk (a0 == 4) with hc39 | hc39
 replace h := bT hc39 h
 rw [hc39]
 refine v 4 71 [(69, B (decide (v6 ≤ 0)))] [] ?_
 obtain ⟨v35, hv36, h⟩ := bindS h
 refine cF 70 (ok_impl_truthIf hv36) ?_
 refine ve 1 71 [(6, I v35)] [] ?_
 cases h
 exact pwp_ret rz
 replace h := bF hc39 h
 rw [hc39]
 refine v 4 71 [(69, B false)] [] ?_
 obtain ⟨v37, hv38, h⟩ := bindS h
 refine cF 70 (ok_impl_truthIf hv38) ?_
 refine ve 1 71 [(6, I v37)] [] ?_
 cases h
 exact pwp_ret rz
 replace h := bF hc75 h
 rw [hc75]
 refine v 7 71 [(0, I a0), (7, I v6), (46, B false), (49, B (a0 == 2))] [] ?_
 rcases fk (a0 == 2) with hc74 | hc74
 replace h := bT hc74 h
 rw [hc74]
 refine v 5 71 [(0, I a0), (7, I v6), (54, B (!(v6 == 0)))] [] ?_
 rcases fk (!(v6 == 0)) with hc59 | hc59
 replace h := bT hc59 h
 rw [hc59]
 refine v 15 71 [(69, B true)] [] ?_
 obtain ⟨v43, hv44, h⟩ := bindS h
 refine cF 70 (ok_impl_truthIf hv44) ?_
 refine ve 1 71 [(6, I v43)] [] ?_
 cases h
 exact pwp_ret rz
 replace h := bF hc59 h
 rw [hc59]
 refine v 3 71 [(0, I a0), (7, I v6), (54, B false), (57, B (a0 == 3))] [] ?_
 rcases fk (a0 == 3) with hc58 | hc58
 replace h := bT hc58 h
 rw [hc58]
 refine v 5 71 [(0, I a0), (7, I v6), (62, B (decide (v6 < 0)))] [] ?_
 rcases fk (decide (v6 < 0)) with hc52 | hc52
 replace h := bT hc52 h
 rw [hc52]
 refine v 7 71 [(69, B true)] [] ?_
 obtain ⟨v45, hv46, h⟩ := bindS h
 refine cF 70 (ok_impl_truthIf hv46) ?_
 refine ve 1 71 [(6, I v45)] [] ?_
 cases h
 exact pwp_ret rz
 replace h := bF hc52 h
 rw [hc52]
 refine v 3 71 [(7, I v6), (62, B false), (65, B (a0 == 4))] [] ?_
 rcases fk (a0 == 4) with hc51 | hc51
 replace h := bT hc51 h
 rw [hc51]
 refine v 4 71 [(69, B (decide (v6 ≤ 0)))] [] ?_
 obtain ⟨v47, hv48, h⟩ := bindS h
 refine cF 70 (ok_impl_truthIf hv48) ?_
 refine ve 1 71 [(6, I v47)] [] ?_
 cases h
 exact pwp_ret rz
 replace h := bF hc51 h
 rw [hc51]
 refine v 4 71 [(69, B false)] [] ?_
 obtain ⟨v49, hv50, h⟩ := bindS h
 refine cF 70 (ok_impl_truthIf hv50) ?_
 refine ve 1 71 [(6, I v49)] [] ?_
 cases h
 exact pwp_ret rz
 replace h := bF hc58 h
 rw [hc58]
 refine v 8 71 [(7, I v6), (62, B false), (65, B (a0 == 4))] [] ?_
 rcases fk (a0 == 4) with hc57 | hc57
 replace h := bT hc57 h
 rw [hc57]
 refine v 4 71 [(69, B (decide (v6 ≤ 0)))] [] ?_
 obtain ⟨v53, hv54, h⟩ := bindS h
 refine cF 70 (ok_impl_truthIf hv54) ?_
 refine ve 1 71 [(6, I v53)] [] ?_
 cases h
 exact pwp_ret rz
 replace h := bF hc57 h
 rw [hc57]
 refine v 4 71 [(69, B false)] [] ?_
 obtain ⟨v55, hv56, h⟩ := bindS h
 refine cF 70 (ok_impl_truthIf hv56) ?_
 refine ve 1 71 [(6, I v55)] [] ?_
 cases h
 exact pwp_ret rz
 replace h := bF hc74 h
 rw [hc74]
 refine v 8 71 [(0, I a0), (7, I v6), (54, B false), (57, B (a0 == 3))] [] ?_
 rcases fk (a0 == 3) with hc73 | hc73
 replace h := bT hc73 h
 rw [hc73]
 refine v 5 71 [(0, I a0), (7, I v6), (62, B (decide (v6 < 0)))] [] ?_
 rcases fk (decide (v6 < 0)) with hc67 | hc67
 replace h := bT hc67 h
 rw [hc67]
 refine v 7 71 [(69, B true)] [] ?_
 obtain ⟨v60, hv61, h⟩ := bindS h
 refine cF 70 (ok_impl_truthIf hv61) ?_
 refine ve 1 71 [(6, I v60)] [] ?_
 cases h
 exact pwp_ret rz
 replace h := bF hc67 h
 rw [hc67]
 refine v 3 71 [(7, I v6), (62, B false), (65, B (a0 == 4))] [] ?_
 rcases fk (a0 == 4) with hc66 | hc66
 replace h := bT hc66 h
 rw [hc66]
 refine v 4 71 [(69, B (decide (v6 ≤ 0)))] [] ?_
 obtain ⟨v62, hv63, h⟩ := bindS h
 refine cF 70 (ok_impl_truthIf hv63) ?_
 refine ve 1 71 [(6, I v62)] [] ?_
 cases h
 exact pwp_ret rz
 replace h := bF hc66 h
 rw [hc66]
 refine v 4 71 [(69, B false)] [] ?_
 obtain ⟨v64, hv65, h⟩ := bindS h
 refine cF 70 (ok_impl_truthIf hv65) ?_
 refine ve 1 71 [(6, I v64)] [] ?_
 cases h
 exact pwp_ret rz
 replace h := bF hc73 h
 rw [hc73]
 refine v 8 71 [(7, I v6), (62, B false), (65, B (a0 == 4))] [] ?_
 rcases fk (a0 == 4) with hc72 | hc72
 replace h := bT hc72 h
 rw [hc72]
 refine v 4 71 [(69, B (decide (v6 ≤ 0)))] [] ?_
 obtain ⟨v68, hv69, h⟩ := bindS h
 refine cF 70 (ok_impl_truthIf hv69) ?_
 refine ve 1 71 [(6, I v68)] [] ?_
 cases h
 exact pwp_ret rz
 replace h := bF hc72 h
 rw [hc72]
 refine v 4 71 [(69, B false)] [] ?_
 obtain ⟨v70, hv71, h⟩ := bindS h
 refine cF 70 (ok_impl_truthIf hv71) ?_
 refine ve 1 71 [(6, I v70)] [] ?_
 cases h
 exact pwp_ret rz
def slices_Clip_impl_Value_impl_Value_s3_R (a0 : List (List T_impl_Value)) : Option (List (List T_impl_Value)) := (slI a0 none (some (a0.length : Int)) (some (a0.length : Int))).bind fun v1 => some v1
theorem ok_slices_Clip_impl_Value_impl_Value_s3_R {a0 : List (List T_impl_Value)} {y : List (List T_impl_Value)} (h : slices_Clip_impl_Value_impl_Value_s3_R a0 = some y) : OKm Tryz.prog 110 [O a0] (O y) := by
 refine OKm_of_pwp (sl := [rf 0 0 1 a0]) (bs := [⟨0, eL a0⟩]) τ_ok Tryz.func110 rfl (by kernel_rfl) rfl (by kernel_rfl) fun Γ hX => ?_
 refine pwp_imp (Imp.to (st' := ⟨9, [(0, rf 0 0 1 a0)], [sl 0 a0]⟩) [0] (by kernel_rfl)) ?_
 unfold slices_Clip_impl_Value_impl_Value_s3_R at h
 refine srve 9 [(0, rf 0 0 1 a0)] [sl 0 a0] ?_
 refine srv 5 9 [(3, rf 0 0 1 a0), (5, I (a0.length : Int)), (7, I (a0.length : Int))] [sl 0 a0] ?_
 obtain ⟨v1, hv2, h⟩ := bindS h
 refine opsP_slr τ_ok 8 0 0 a0.length hv2 rfl (by kernel_rfl) ?_
 refine ve 1 9 [(2, rf 0 0 1 v1)] [sl 0 a0] ?_
 refine ip 9 [(2, rf 0 0 1 v1)] [sl 0 a0] ?_
 refine pwp_imp (Imp.cut (st' := ⟨9, [(2, rf 0 0 1 v1)], [sl 0 v1]⟩) 0 0 a0 v1 (by kernel_rfl) (slI_view hv2) (by kernel_rfl)) ?_
 have h := si h
 subst h
 exact pwp_ret (rt (rf 0 0 1 v1) (OutP.list (v := 0) (by kernel_rfl)))
def spec_l9Batch_D_l1 (a1 : List (List T_impl_Value)) (x4 : Int) (x5 : List (List T_impl_Value)) (K7 : Int → (List (List T_impl_Value)) → Option T_impl_Batch) : Nat → Int → (List T_impl_Value) → Option T_impl_Batch
 | 0, _, _ => none
 | f15 + 1, x13, x14 => bif (decide (x13 < (a1.length : Int))) then (getI a1 x13).bind fun v18 => (getI v18 x4).bind fun v20 => (app x14 ([v20] : List T_impl_Value)).bind fun v22 => (spec_l9Batch_D_l1 a1 x4 x5 K7 f15) (w64 (x13 + 1)) v22 else (app x5 ([x14] : List (List T_impl_Value))).bind fun v24 => K7 (w64 (x4 + 1)) v24
def spec_l9Batch_D_l2 (a1 : List (List T_impl_Value)) (x5 : List (List T_impl_Value)) : Nat → Int → (List Bool) → Option T_impl_Batch
 | 0, _, _ => none
 | f32 + 1, x30, x31 => bif (decide (x30 < (a1.length : Int))) then (app x31 ([true] : List Bool)).bind fun v35 => (spec_l9Batch_D_l2 a1 x5 f32) (w64 (x30 + 1)) v35 else some (T_impl_Batch.mk x5 x31)
def spec_l9Batch_D_l0 (a0 : Int) (a1 : List (List T_impl_Value)) : Nat → Int → (List (List T_impl_Value)) → Option T_impl_Batch
 | 0, _, _ => none
 | f6 + 1, x4, x5 => bif (decide (x4 < a0)) then spec_l9Batch_D_l1 a1 x4 x5 (spec_l9Batch_D_l0 a0 a1 f6) FUEL 0 ([] : List T_impl_Value) else spec_l9Batch_D_l2 a1 x5 FUEL 0 ([] : List Bool)
def spec_l9Batch_D (a0 : Int) (a1 : List (List T_impl_Value)) : Option T_impl_Batch := spec_l9Batch_D_l0 a0 a1 FUEL 0 ([] : List (List T_impl_Value))
theorem ok_spec_l9Batch_D {a0 : Int} {a1 : List (List T_impl_Value)} {y : T_impl_Batch} (h : spec_l9Batch_D a0 a1 = some y) : OK Tryz.prog 130 [I a0, A a1] (.agg (DEnc.cells y)) := by
 refine ow Tryz.func130 fun Γ hX => ?_
 unfold spec_l9Batch_D at h
 refine srvM [4, 5] 0 51 [(0, I a0), (1, A a1)] [] ?_
 refine opsP_imp (Imp.ghosts 1 (st' := ⟨51, [(0, I a0), (1, A a1)], [some ⟨0, []⟩]⟩) (by kernel_rfl)) ?_
 refine opsP_E (dd := some 4) (x := .ptr 0 1 0) (alz_E (blk := ⟨0, []⟩) (zs := [.arr 1 0 [] true, .arr 1 0 [] true]) 4 61 0 0 (nx hX) zi_ok61 (by kernel_rfl) (by kernel_rfl)) ?_
 refine veM [4, 5] 0 51 [(0, I a0), (1, A a1), (4, .ptr 0 1 0)] [some ⟨1, [.arr 1 0 (eL ([] : List (List T_impl_Value))) true, .arr 1 0 (eL ([] : List Bool)) true]⟩] ?_
 refine pwp_seq ?_
 refine pwp_region ?_
 refine opsP_E (dd := some 10) (x := .agg [.arr 1 0 (eL ([] : List (List T_impl_Value))) true, .arr 1 0 (eL ([] : List Bool)) true]) (CoreE.of_y (bldV_sound (zs := [.arr 1 0 [] true, .arr 1 0 [] true]) (cells := [.arr 1 0 (eL ([] : List (List T_impl_Value))) true, .arr 1 0 (eL ([] : List Bool)) true]) τ_ok zi_ok61 (by kernel_rfl))) ?_
 refine vM [4, 5] 0 51 [(0, I a0), (1, A a1), (4, .ptr 0 1 0), (10, .agg [.arr 1 0 (eL ([] : List (List T_impl_Value))) true, .arr 1 0 (eL ([] : List Bool)) true])] [some ⟨1, [.arr 1 0 (eL ([] : List (List T_impl_Value))) true, .arr 1 0 (eL ([] : List Bool)) true]⟩] ?_
 refine opsP_imp (Imp.ghosts 1 (st' := ⟨51, [(0, I a0), (1, A a1), (4, .ptr 0 1 0), (10, .agg [.arr 1 0 (eL ([] : List (List T_impl_Value))) true, .arr 1 0 (eL ([] : List Bool)) true])], [some ⟨1, [.arr 1 0 (eL ([] : List (List T_impl_Value))) true, .arr 1 0 (eL ([] : List Bool)) true]⟩, some ⟨0, []⟩]⟩) (by kernel_rfl)) ?_
 refine opsP_E (dd := some 5) (x := .ptr 1 1 0) (alz_E (blk := ⟨0, []⟩) (zs := [.arr 1 0 [] true, .arr 1 0 [] true]) 5 61 1 0 (nx hX) zi_ok61 (by kernel_rfl) (by kernel_rfl)) ?_
 refine veM [4, 5] 1 51 [(0, I a0), (1, A a1), (4, .ptr 0 1 0), (5, .ptr 1 1 0)] [some ⟨1, [.arr 1 0 (eL ([] : List (List T_impl_Value))) true, .arr 1 0 (eL ([] : List Bool)) true]⟩, some ⟨1, [.arr 1 0 (eL ([] : List (List T_impl_Value))) true, .arr 1 0 (eL ([] : List Bool)) true]⟩] ?_
 refine pwp_seq ?_
 refine srveM [4, 5] 51 [(0, I a0), (1, A a1), (4, .ptr 0 1 0), (5, .ptr 1 1 0), (6, I 0)] [some ⟨1, [.arr 1 0 (eL ([] : List (List T_impl_Value))) true, .arr 1 0 (eL ([] : List Bool)) true]⟩, some ⟨1, [.arr 1 0 (eL ([] : List (List T_impl_Value))) true, .arr 1 0 (eL ([] : List Bool)) true]⟩] ?_
 refine pwp_block ?_
 refine ip 51 [(0, I a0), (1, A a1), (4, .ptr 0 1 0), (5, .ptr 1 1 0), (6, I 0)] [some ⟨1, [.arr 1 0 (eL ([] : List (List T_impl_Value))) true, .arr 1 0 (eL ([] : List Bool)) true]⟩, some ⟨1, [.arr 1 0 (eL ([] : List (List T_impl_Value))) true, .arr 1 0 (eL ([] : List Bool)) true]⟩] ?_
 refine pwp_imp (Imp.thawB (st' := ⟨51, [(0, I a0), (1, A a1), (4, .ptr 0 1 0), (5, .ptr 1 1 0), (6, I 0)], [some ⟨1, [.arr 1 0 (eL ([] : List (List T_impl_Value))) true, .arr 1 0 (eL ([] : List Bool)) true]⟩, some ⟨1, [.ref 2 0 0 1 ([] : List (List T_impl_Value)).length false, .arr 1 0 (eL ([] : List Bool)) true]⟩, some ⟨0, dL ([] : List (List T_impl_Value))⟩]⟩) 2 (by kernel_rfl) (HpRel.box rfl (CellRel.cons (.inl ⟨rfl, rfl⟩) (CellRel.cons (.inl ⟨rfl, rfl⟩) CellRel.nil)) (HpRel.box rfl (CellRel.cons (.inr ⟨_, rfl, rfl⟩) (CellRel.cons (.inl ⟨rfl, rfl⟩) CellRel.nil)) (HpRel.key HpRel.nil))) (by rfl) (by rfl) (nx hX)) ?_
 refine pwp_loop (ι := Nat × Int × (List (List T_impl_Value))) (fun (f6, x4, x5) => (⟨51, [(0, I a0), (1, A a1), (4, .ptr 0 1 0), (5, .ptr 1 1 0), (6, I x4)], [some ⟨1, [.arr 1 0 (eL ([] : List (List T_impl_Value))) true, .arr 1 0 (eL ([] : List Bool)) true]⟩, some ⟨1, [rf 2 0 1 x5, .arr 1 0 (eL ([] : List Bool)) true]⟩, some ⟨0, dL x5⟩]⟩ : St)) (fun (f6, x4, x5) => spec_l9Batch_D_l0 a0 a1 f6 x4 x5 = some y) Prod.fst (FUEL, 0, ([] : List (List T_impl_Value))) h (it [0, 1, 4, 5, 6]) ?_
 rintro ⟨f6, x4, x5⟩ h
 dsimp only at h ⊢
 rcases f6 with _ | f6
 cases h
 rw [spec_l9Batch_D_l0] at h
 refine pwp_seq ?_
 refine srveM [4, 5] 51 [(0, I a0), (1, A a1), (4, .ptr 0 1 0), (5, .ptr 1 1 0), (6, I x4), (13, B (decide (x4 < a0)))] [some ⟨1, [.arr 1 0 (eL ([] : List (List T_impl_Value))) true, .arr 1 0 (eL ([] : List Bool)) true]⟩, some ⟨1, [rf 2 0 1 x5, .arr 1 0 (eL ([] : List Bool)) true]⟩, some ⟨0, dL x5⟩] ?_
 refine pc h (fun h => ?_) (fun h => ?_)
 refine pwp_skip ?_
 refine pwp_seq ?_
 refine pwp_block ?_
 refine srveM [4, 5] 51 [(0, I a0), (1, A a1), (4, .ptr 0 1 0), (5, .ptr 1 1 0), (6, I x4), (7, .arr 3 0 (eL ([] : List T_impl_Value)) true)] [some ⟨1, [.arr 1 0 (eL ([] : List (List T_impl_Value))) true, .arr 1 0 (eL ([] : List Bool)) true]⟩, some ⟨1, [rf 2 0 1 x5, .arr 1 0 (eL ([] : List Bool)) true]⟩, some ⟨0, dL x5⟩] ?_
 refine pwp_seq ?_
 refine srveM [4, 5] 51 [(0, I a0), (1, A a1), (4, .ptr 0 1 0), (5, .ptr 1 1 0), (6, I x4), (7, .arr 3 0 (eL ([] : List T_impl_Value)) true), (8, I 0)] [some ⟨1, [.arr 1 0 (eL ([] : List (List T_impl_Value))) true, .arr 1 0 (eL ([] : List Bool)) true]⟩, some ⟨1, [rf 2 0 1 x5, .arr 1 0 (eL ([] : List Bool)) true]⟩, some ⟨0, dL x5⟩] ?_
 refine pwp_block ?_
 refine pwp_loop (ι := Nat × Int × (List T_impl_Value)) (fun (f15, x13, x14) => (⟨51, [(0, I a0), (1, A a1), (4, .ptr 0 1 0), (5, .ptr 1 1 0), (6, I x4), (7, rf 3 0 3 x14), (8, I x13)], [some ⟨1, [.arr 1 0 (eL ([] : List (List T_impl_Value))) true, .arr 1 0 (eL ([] : List Bool)) true]⟩, some ⟨1, [rf 2 0 1 x5, .arr 1 0 (eL ([] : List Bool)) true]⟩, some ⟨0, dL x5⟩, sl 0 x14]⟩ : St)) (fun (f15, x13, x14) => spec_l9Batch_D_l1 a1 x4 x5 (spec_l9Batch_D_l0 a0 a1 f6) f15 x13 x14 = some y) Prod.fst (FUEL, 0, ([] : List T_impl_Value)) h (Imp.thawS 7 [0, 1, 4, 5, 6, 7, 8] (by kernel_rfl)) ?_
 rintro ⟨f15, x13, x14⟩ h
 dsimp only at h ⊢
 rcases f15 with _ | f15
 cases h
 rw [spec_l9Batch_D_l1] at h
 refine pwp_seq ?_
 refine srveM [4, 5] 51 [(0, I a0), (1, A a1), (4, .ptr 0 1 0), (5, .ptr 1 1 0), (6, I x4), (7, rf 3 0 3 x14), (8, I x13), (20, B (decide (x13 < (a1.length : Int))))] [some ⟨1, [.arr 1 0 (eL ([] : List (List T_impl_Value))) true, .arr 1 0 (eL ([] : List Bool)) true]⟩, some ⟨1, [rf 2 0 1 x5, .arr 1 0 (eL ([] : List Bool)) true]⟩, some ⟨0, dL x5⟩, sl 0 x14] ?_
 refine pc h (fun h => ?_) (fun h => ?_)
 refine pwp_skip ?_
 refine pwp_seq ?_
 refine pwp_block ?_
 refine rvM [4, 5] 3 51 [(0, I a0), (1, A a1), (4, .ptr 0 1 0), (5, .ptr 1 1 0), (6, I x4), (8, I x13), (23, rf 3 0 3 x14), (24, A a1), (25, I x13)] [some ⟨1, [.arr 1 0 (eL ([] : List (List T_impl_Value))) true, .arr 1 0 (eL ([] : List Bool)) true]⟩, some ⟨1, [rf 2 0 1 x5, .arr 1 0 (eL ([] : List Bool)) true]⟩, some ⟨0, dL x5⟩, sl 0 x14] ?_
 obtain ⟨v18, hv19, h⟩ := bindS h
 refine opsP_idx τ_ok 26 hv19 (by kernel_rfl) ?_
 refine vM [4, 5] 2 51 [(0, I a0), (1, A a1), (4, .ptr 0 1 0), (5, .ptr 1 1 0), (6, I x4), (8, I x13), (23, rf 3 0 3 x14), (27, A v18), (28, I x4)] [some ⟨1, [.arr 1 0 (eL ([] : List (List T_impl_Value))) true, .arr 1 0 (eL ([] : List Bool)) true]⟩, some ⟨1, [rf 2 0 1 x5, .arr 1 0 (eL ([] : List Bool)) true]⟩, some ⟨0, dL x5⟩, sl 0 x14] ?_
 obtain ⟨v20, hv21, h⟩ := bindS h
 refine opsP_idx τ_ok 29 hv21 (by kernel_rfl) ?_
 refine vM [4, 5] 1 51 [(0, I a0), (1, A a1), (4, .ptr 0 1 0), (5, .ptr 1 1 0), (6, I x4), (8, I x13), (23, rf 3 0 3 x14), (30, E v20)] [some ⟨1, [.arr 1 0 (eL ([] : List (List T_impl_Value))) true, .arr 1 0 (eL ([] : List Bool)) true]⟩, some ⟨1, [rf 2 0 1 x5, .arr 1 0 (eL ([] : List Bool)) true]⟩, some ⟨0, dL x5⟩, sl 0 x14] ?_
 refine opsP_E (dd := some 31) (x := .ref 4 0 0 3 ([v20] : List T_impl_Value).length false) (bsl_N (cells := eL ([v20] : List T_impl_Value)) τ_ok 31 4 (nx hX) (by kernel_rfl) (by kernel_rfl)) ?_
 refine vM [4, 5] 0 51 [(0, I a0), (1, A a1), (4, .ptr 0 1 0), (5, .ptr 1 1 0), (6, I x4), (8, I x13), (23, rf 3 0 3 x14), (31, .ref 4 0 0 3 ([v20] : List T_impl_Value).length false)] [some ⟨1, [.arr 1 0 (eL ([] : List (List T_impl_Value))) true, .arr 1 0 (eL ([] : List Bool)) true]⟩, some ⟨1, [rf 2 0 1 x5, .arr 1 0 (eL ([] : List Bool)) true]⟩, some ⟨0, dL x5⟩, sl 0 x14, some ⟨0, eL ([v20] : List T_impl_Value)⟩] ?_
 refine opsP_imp (Imp.freezeB (v := 0) (cs := eL ([v20] : List T_impl_Value)) (st' := ⟨51, [(0, I a0), (1, A a1), (4, .ptr 0 1 0), (5, .ptr 1 1 0), (6, I x4), (8, I x13), (23, rf 3 0 3 x14), (31, A ([v20] : List T_impl_Value))], [some ⟨1, [.arr 1 0 (eL ([] : List (List T_impl_Value))) true, .arr 1 0 (eL ([] : List Bool)) true]⟩, some ⟨1, [rf 2 0 1 x5, .arr 1 0 (eL ([] : List Bool)) true]⟩, some ⟨0, dL x5⟩, sl 0 x14, none]⟩) 4 0 (nx hX) (by kernel_rfl) (eL_frz _) (wholeC (whole_noRef (by kernel_rfl)) (wholeC (whole_noRef (by kernel_rfl)) (wholeC (whole_noRef (by kernel_rfl)) (wholeC (whole_noRef (by kernel_rfl)) (wholeC (whole_noRef (by kernel_rfl)) (wholeC (whole_noRef (by kernel_rfl)) (wholeC (whole_ne rfl) (wholeC (whole_is (eL_len ([v20] : List T_impl_Value)).symm) wholeC0)))))))) (HpRel.frz rfl rfl (HpRel.box rfl (CellRel.cons ⟨rfl, (whole_ne rfl), rfl⟩ (CellRel.cons ⟨rfl, trivial, rfl⟩ CellRel.nil)) (HpRel.qu rfl (dL_qu _) (HpRel.frz rfl (eL_frz _) (HpRel.key HpRel.nil))))) (by kernel_rfl) rfl (nx hX)) ?_
 obtain ⟨v22, hv23, h⟩ := bindS h
 refine opsP_app τ_ok 32 3 0 (nx hX) hv23 (by kernel_rfl) ?_
 refine veM [4, 5] 1 51 [(0, I a0), (1, A a1), (4, .ptr 0 1 0), (5, .ptr 1 1 0), (6, I x4), (7, rf 3 1 3 v22), (8, I x13)] [some ⟨1, [.arr 1 0 (eL ([] : List (List T_impl_Value))) true, .arr 1 0 (eL ([] : List Bool)) true]⟩, some ⟨1, [rf 2 0 1 x5, .arr 1 0 (eL ([] : List Bool)) true]⟩, some ⟨0, dL x5⟩, sl 1 v22, none] ?_
 refine rveM [4, 5] 51 [(0, I a0), (1, A a1), (4, .ptr 0 1 0), (5, .ptr 1 1 0), (6, I x4), (7, rf 3 1 3 v22), (8, I (w64 (x13 + 1)))] [some ⟨1, [.arr 1 0 (eL ([] : List (List T_impl_Value))) true, .arr 1 0 (eL ([] : List Bool)) true]⟩, some ⟨1, [rf 2 0 1 x5, .arr 1 0 (eL ([] : List Bool)) true]⟩, some ⟨0, dL x5⟩, sl 1 v22, none] ?_
 exact ⟨(f15, (w64 (x13 + 1)), v22), h, Nat.lt_succ_self _, qt (it (st' := ⟨51, [(0, I a0), (1, A a1), (4, .ptr 0 1 0), (5, .ptr 1 1 0), (6, I x4), (7, rf 3 1 3 v22), (8, I (w64 (x13 + 1)))], [some ⟨1, [.arr 1 0 (eL ([] : List (List T_impl_Value))) true, .arr 1 0 (eL ([] : List Bool)) true]⟩, some ⟨1, [rf 2 0 1 x5, .arr 1 0 (eL ([] : List Bool)) true]⟩, some ⟨0, dL x5⟩, sl 1 v22, none]⟩) [0, 1, 4, 5, 6, 7, 8]) (qt (Imp.truncS (st' := ⟨51, [(0, I a0), (1, A a1), (4, .ptr 0 1 0), (5, .ptr 1 1 0), (6, I x4), (7, rf 3 1 3 v22), (8, I (w64 (x13 + 1)))], [some ⟨1, [.arr 1 0 (eL ([] : List (List T_impl_Value))) true, .arr 1 0 (eL ([] : List Bool)) true]⟩, some ⟨1, [rf 2 0 1 x5, .arr 1 0 (eL ([] : List Bool)) true]⟩, some ⟨0, dL x5⟩, sl 1 v22]⟩) 4 (nx hX) (by kernel_rfl) (allBelow_mem (by exact (And.intro rfl (And.intro rfl (And.intro rfl (And.intro rfl (And.intro rfl (And.intro rfl (And.intro rfl trivial))))))))) (by exact (And.intro (rfl) (And.intro (rfl) (And.intro (dL_below _ _) (And.intro (frz_below (eL_frz _)) trivial))))) (by kernel_rfl)) (qt (Imp.reverB (cs := eL v22) (st' := ⟨51, [(0, I a0), (1, A a1), (4, .ptr 0 1 0), (5, .ptr 1 1 0), (6, I x4), (7, rf 3 0 3 v22), (8, I (w64 (x13 + 1)))], [some ⟨1, [.arr 1 0 (eL ([] : List (List T_impl_Value))) true, .arr 1 0 (eL ([] : List Bool)) true]⟩, some ⟨1, [rf 2 0 1 x5, .arr 1 0 (eL ([] : List Bool)) true]⟩, some ⟨0, dL x5⟩, sl 0 v22]⟩) 3 1 (by kernel_rfl) (qu_of_frzL (eL_frz _)) (HpRel.frz rfl rfl (HpRel.box rfl (CellRel.cons ⟨rfl, rfl⟩ (CellRel.cons ⟨rfl, rfl⟩ CellRel.nil)) (HpRel.qu rfl (dL_qu _) (HpRel.key HpRel.nil)))) (by kernel_rfl) (by rfl) (nx hX)) (it [0, 1, 4, 5, 6, 7, 8])))⟩
 refine pwp_exit ?_
 refine rvM [4, 5] 3 51 [(0, I a0), (1, A a1), (4, .ptr 0 1 0), (5, .ptr 1 1 0), (6, I x4), (34, rf 2 0 1 x5), (35, rf 3 0 3 x14)] [some ⟨1, [.arr 1 0 (eL ([] : List (List T_impl_Value))) true, .arr 1 0 (eL ([] : List Bool)) true]⟩, some ⟨1, [rf 2 0 1 x5, .arr 1 0 (eL ([] : List Bool)) true]⟩, some ⟨0, dL x5⟩, sl 0 x14] ?_
 refine opsP_E (dd := some 36) (x := .ref 4 0 0 1 ([x14] : List (List T_impl_Value)).length false) ((bslW_N (cells := [rf 3 0 3 x14]) τ_ok 36 4 (nx hX) (by kernel_rfl) (by kernel_rfl)).then (H2 := [some ⟨1, [.arr 1 0 (eL ([] : List (List T_impl_Value))) true, .arr 1 0 (eL ([] : List Bool)) true]⟩, some ⟨1, [rf 2 0 1 x5, .arr 1 0 (eL ([] : List Bool)) true]⟩, some ⟨0, dL x5⟩, some ⟨1, []⟩, some ⟨0, dL ([x14] : List (List T_impl_Value))⟩]) (HStep.nest0 (vs := [rf 3 0 3 x14]) 4 0 (by kernel_rfl) (OutL.cons (OutP.listn (v := 0) (xs := x14) rfl (by kernel_rfl)) (OutL.nil _)) (by decide) (by decide) (nx hX) (by kernel_rfl) (by kernel_rfl))) ?_
 obtain ⟨v24, hv25, h⟩ := bindS h
 refine opsP_E (dd := some 37) (x := rf 2 1 1 v24) (appD_E τ_ok 37 2 0 4 0 (nx hX) (by decide) hv25 (by kernel_rfl) (by kernel_rfl) (by kernel_rfl)) ?_
 refine veM [4, 5] 2 51 [(0, I a0), (1, A a1), (4, .ptr 0 1 0), (5, .ptr 1 1 0), (6, I x4)] [some ⟨1, [.arr 1 0 (eL ([] : List (List T_impl_Value))) true, .arr 1 0 (eL ([] : List Bool)) true]⟩, some ⟨1, [rf 2 1 1 v24, .arr 1 0 (eL ([] : List Bool)) true]⟩, some ⟨1, dL v24⟩, some ⟨1, []⟩, some ⟨1, []⟩] ?_
 refine rveM [4, 5] 51 [(0, I a0), (1, A a1), (4, .ptr 0 1 0), (5, .ptr 1 1 0), (6, I (w64 (x4 + 1)))] [some ⟨1, [.arr 1 0 (eL ([] : List (List T_impl_Value))) true, .arr 1 0 (eL ([] : List Bool)) true]⟩, some ⟨1, [rf 2 1 1 v24, .arr 1 0 (eL ([] : List Bool)) true]⟩, some ⟨1, dL v24⟩, some ⟨1, []⟩, some ⟨1, []⟩] ?_
 exact ⟨(f6, (w64 (x4 + 1)), v24), h, Nat.lt_succ_self _, qt (it (st' := ⟨51, [(0, I a0), (1, A a1), (4, .ptr 0 1 0), (5, .ptr 1 1 0), (6, I (w64 (x4 + 1)))], [some ⟨1, [.arr 1 0 (eL ([] : List (List T_impl_Value))) true, .arr 1 0 (eL ([] : List Bool)) true]⟩, some ⟨1, [rf 2 1 1 v24, .arr 1 0 (eL ([] : List Bool)) true]⟩, some ⟨1, dL v24⟩, some ⟨1, []⟩, some ⟨1, []⟩]⟩) [0, 1, 4, 5, 6]) (qt (Imp.truncS (st' := ⟨51, [(0, I a0), (1, A a1), (4, .ptr 0 1 0), (5, .ptr 1 1 0), (6, I (w64 (x4 + 1)))], [some ⟨1, [.arr 1 0 (eL ([] : List (List T_impl_Value))) true, .arr 1 0 (eL ([] : List Bool)) true]⟩, some ⟨1, [rf 2 1 1 v24, .arr 1 0 (eL ([] : List Bool)) true]⟩, some ⟨1, dL v24⟩]⟩) 3 (nx hX) (by kernel_rfl) (allBelow_mem (by exact (And.intro rfl (And.intro rfl (And.intro rfl (And.intro rfl (And.intro rfl trivial))))))) (by exact (And.intro (rfl) (And.intro (rfl) (And.intro (dL_below _ _) trivial)))) (by kernel_rfl)) (qt (Imp.reverB (cs := dL v24) (st' := ⟨51, [(0, I a0), (1, A a1), (4, .ptr 0 1 0), (5, .ptr 1 1 0), (6, I (w64 (x4 + 1)))], [some ⟨1, [.arr 1 0 (eL ([] : List (List T_impl_Value))) true, .arr 1 0 (eL ([] : List Bool)) true]⟩, some ⟨1, [rf 2 0 1 v24, .arr 1 0 (eL ([] : List Bool)) true]⟩, some ⟨0, dL v24⟩]⟩) 2 1 (by kernel_rfl) (dL_qu _) (HpRel.frz rfl rfl (HpRel.box rfl (CellRel.cons ⟨rfl, rfl⟩ (CellRel.cons ⟨rfl, rfl⟩ CellRel.nil)) (HpRel.key HpRel.nil))) (by kernel_rfl) (by rfl) (nx hX)) (it [0, 1, 4, 5, 6])))⟩
 refine pwp_exit ?_
 refine pwp_seq ?_
 refine srveM [4, 5] 51 [(1, A a1), (4, .ptr 0 1 0), (5, .ptr 1 1 0), (9, I 0)] [some ⟨1, [.arr 1 0 (eL ([] : List (List T_impl_Value))) true, .arr 1 0 (eL ([] : List Bool)) true]⟩, some ⟨1, [rf 2 0 1 x5, .arr 1 0 (eL ([] : List Bool)) true]⟩, some ⟨0, dL x5⟩] ?_
 refine pwp_block ?_
 refine ip 51 [(1, A a1), (4, .ptr 0 1 0), (5, .ptr 1 1 0), (9, I 0)] [some ⟨1, [.arr 1 0 (eL ([] : List (List T_impl_Value))) true, .arr 1 0 (eL ([] : List Bool)) true]⟩, some ⟨1, [rf 2 0 1 x5, .arr 1 0 (eL ([] : List Bool)) true]⟩, some ⟨0, dL x5⟩] ?_
 refine pwp_imp (Imp.thawB (st' := ⟨51, [(1, A a1), (4, .ptr 0 1 0), (5, .ptr 1 1 0), (9, I 0)], [some ⟨1, [.arr 1 0 (eL ([] : List (List T_impl_Value))) true, .arr 1 0 (eL ([] : List Bool)) true]⟩, some ⟨1, [rf 2 0 1 x5, .ref 3 0 0 1 ([] : List Bool).length false]⟩, some ⟨0, dL x5⟩, some ⟨0, eL ([] : List Bool)⟩]⟩) 3 (by kernel_rfl) (HpRel.box rfl (CellRel.cons (.inl ⟨rfl, rfl⟩) (CellRel.cons (.inl ⟨rfl, rfl⟩) CellRel.nil)) (HpRel.box rfl (CellRel.cons (.inl ⟨rfl, rfl⟩) (CellRel.cons (.inr ⟨_, rfl, rfl⟩) CellRel.nil)) (HpRel.qu rfl (dL_qu _) (HpRel.key HpRel.nil)))) (by rfl) (by rfl) (nx hX)) ?_
 refine pwp_loop (ι := Nat × Int × (List Bool)) (fun (f32, x30, x31) => (⟨51, [(1, A a1), (4, .ptr 0 1 0), (5, .ptr 1 1 0), (9, I x30)], [some ⟨1, [.arr 1 0 (eL ([] : List (List T_impl_Value))) true, .arr 1 0 (eL ([] : List Bool)) true]⟩, some ⟨1, [rf 2 0 1 x5, rf 3 0 1 x31]⟩, some ⟨0, dL x5⟩, sl 0 x31]⟩ : St)) (fun (f32, x30, x31) => spec_l9Batch_D_l2 a1 x5 f32 x30 x31 = some y) Prod.fst (FUEL, 0, ([] : List Bool)) h (it [1, 4, 5, 9]) ?_
 rintro ⟨f32, x30, x31⟩ h
 dsimp only at h ⊢
 rcases f32 with _ | f32
 cases h
 rw [spec_l9Batch_D_l2] at h
 refine pwp_seq ?_
 refine srveM [4, 5] 51 [(1, A a1), (4, .ptr 0 1 0), (5, .ptr 1 1 0), (9, I x30), (42, B (decide (x30 < (a1.length : Int))))] [some ⟨1, [.arr 1 0 (eL ([] : List (List T_impl_Value))) true, .arr 1 0 (eL ([] : List Bool)) true]⟩, some ⟨1, [rf 2 0 1 x5, rf 3 0 1 x31]⟩, some ⟨0, dL x5⟩, sl 0 x31] ?_
 refine pc h (fun h => ?_) (fun h => ?_)
 refine pwp_skip ?_
 refine pwp_seq ?_
 refine pwp_block ?_
 refine rvM [4, 5] 2 51 [(1, A a1), (4, .ptr 0 1 0), (5, .ptr 1 1 0), (9, I x30), (46, rf 3 0 1 x31)] [some ⟨1, [.arr 1 0 (eL ([] : List (List T_impl_Value))) true, .arr 1 0 (eL ([] : List Bool)) true]⟩, some ⟨1, [rf 2 0 1 x5, rf 3 0 1 x31]⟩, some ⟨0, dL x5⟩, sl 0 x31] ?_
 refine opsP_E (dd := some 47) (x := .ref 4 0 0 1 ([true] : List Bool).length false) (bsl_N (cells := eL ([true] : List Bool)) τ_ok 47 4 (nx hX) (by kernel_rfl) (by kernel_rfl)) ?_
 refine vM [4, 5] 0 51 [(1, A a1), (4, .ptr 0 1 0), (5, .ptr 1 1 0), (9, I x30), (46, rf 3 0 1 x31), (47, .ref 4 0 0 1 ([true] : List Bool).length false)] [some ⟨1, [.arr 1 0 (eL ([] : List (List T_impl_Value))) true, .arr 1 0 (eL ([] : List Bool)) true]⟩, some ⟨1, [rf 2 0 1 x5, rf 3 0 1 x31]⟩, some ⟨0, dL x5⟩, sl 0 x31, some ⟨0, eL ([true] : List Bool)⟩] ?_
 refine opsP_imp (Imp.freezeB (v := 0) (cs := eL ([true] : List Bool)) (st' := ⟨51, [(1, A a1), (4, .ptr 0 1 0), (5, .ptr 1 1 0), (9, I x30), (46, rf 3 0 1 x31), (47, A ([true] : List Bool))], [some ⟨1, [.arr 1 0 (eL ([] : List (List T_impl_Value))) true, .arr 1 0 (eL ([] : List Bool)) true]⟩, some ⟨1, [rf 2 0 1 x5, rf 3 0 1 x31]⟩, some ⟨0, dL x5⟩, sl 0 x31, none]⟩) 4 0 (nx hX) (by kernel_rfl) (eL_frz _) (wholeC (whole_noRef (by kernel_rfl)) (wholeC (whole_noRef (by kernel_rfl)) (wholeC (whole_noRef (by kernel_rfl)) (wholeC (whole_noRef (by kernel_rfl)) (wholeC (whole_ne rfl) (wholeC (whole_is (eL_len ([true] : List Bool)).symm) wholeC0)))))) (HpRel.frz rfl rfl (HpRel.box rfl (CellRel.cons ⟨rfl, (whole_ne rfl), rfl⟩ (CellRel.cons ⟨rfl, (whole_ne rfl), rfl⟩ CellRel.nil)) (HpRel.qu rfl (dL_qu _) (HpRel.frz rfl (eL_frz _) (HpRel.key HpRel.nil))))) (by kernel_rfl) rfl (nx hX)) ?_
 obtain ⟨v35, hv36, h⟩ := bindS h
 refine opsP_app τ_ok 48 3 0 (nx hX) hv36 (by kernel_rfl) ?_
 refine veM [4, 5] 2 51 [(1, A a1), (4, .ptr 0 1 0), (5, .ptr 1 1 0), (9, I x30)] [some ⟨1, [.arr 1 0 (eL ([] : List (List T_impl_Value))) true, .arr 1 0 (eL ([] : List Bool)) true]⟩, some ⟨1, [rf 2 0 1 x5, rf 3 1 1 v35]⟩, some ⟨0, dL x5⟩, sl 1 v35, none] ?_
 refine rveM [4, 5] 51 [(1, A a1), (4, .ptr 0 1 0), (5, .ptr 1 1 0), (9, I (w64 (x30 + 1)))] [some ⟨1, [.arr 1 0 (eL ([] : List (List T_impl_Value))) true, .arr 1 0 (eL ([] : List Bool)) true]⟩, some ⟨1, [rf 2 0 1 x5, rf 3 1 1 v35]⟩, some ⟨0, dL x5⟩, sl 1 v35, none] ?_
 exact ⟨(f32, (w64 (x30 + 1)), v35), h, Nat.lt_succ_self _, qt (it (st' := ⟨51, [(1, A a1), (4, .ptr 0 1 0), (5, .ptr 1 1 0), (9, I (w64 (x30 + 1)))], [some ⟨1, [.arr 1 0 (eL ([] : List (List T_impl_Value))) true, .arr 1 0 (eL ([] : List Bool)) true]⟩, some ⟨1, [rf 2 0 1 x5, rf 3 1 1 v35]⟩, some ⟨0, dL x5⟩, sl 1 v35, none]⟩) [1, 4, 5, 9]) (qt (Imp.truncS (st' := ⟨51, [(1, A a1), (4, .ptr 0 1 0), (5, .ptr 1 1 0), (9, I (w64 (x30 + 1)))], [some ⟨1, [.arr 1 0 (eL ([] : List (List T_impl_Value))) true, .arr 1 0 (eL ([] : List Bool)) true]⟩, some ⟨1, [rf 2 0 1 x5, rf 3 1 1 v35]⟩, some ⟨0, dL x5⟩, sl 1 v35]⟩) 4 (nx hX) (by kernel_rfl) (allBelow_mem (by exact (And.intro rfl (And.intro rfl (And.intro rfl (And.intro rfl trivial)))))) (by exact (And.intro (rfl) (And.intro (rfl) (And.intro (dL_below _ _) (And.intro (frz_below (eL_frz _)) trivial))))) (by kernel_rfl)) (qt (Imp.reverB (cs := eL v35) (st' := ⟨51, [(1, A a1), (4, .ptr 0 1 0), (5, .ptr 1 1 0), (9, I (w64 (x30 + 1)))], [some ⟨1, [.arr 1 0 (eL ([] : List (List T_impl_Value))) true, .arr 1 0 (eL ([] : List Bool)) true]⟩, some ⟨1, [rf 2 0 1 x5, rf 3 0 1 v35]⟩, some ⟨0, dL x5⟩, sl 0 v35]⟩) 3 1 (by kernel_rfl) (qu_of_frzL (eL_frz _)) (HpRel.frz rfl rfl (HpRel.box rfl (CellRel.cons ⟨rfl, rfl⟩ (CellRel.cons ⟨rfl, rfl⟩ CellRel.nil)) (HpRel.qu rfl (dL_qu _) (HpRel.key HpRel.nil)))) (by kernel_rfl) (by rfl) (nx hX)) (it [1, 4, 5, 9])))⟩
 refine pwp_exit ?_
 refine srveM [4, 5] 51 [(4, .ptr 0 1 0)] [some ⟨1, [rf 2 0 1 x5, rf 3 0 1 x31]⟩, some ⟨1, [rf 2 0 1 x5, rf 3 0 1 x31]⟩, some ⟨0, dL x5⟩, sl 0 x31] ?_
 have h := si h
 subst h
 exact pwp_ret (rt (.agg [rf 2 0 1 x5, rf 3 0 1 x31]) (OutP.agg (OutL.cons (OutP.listDn (v := 0) (xs := x5) rfl (by kernel_rfl)) (OutL.cons (OutP.listn (v := 0) (xs := x31) rfl (by kernel_rfl)) (OutL.nil _)))))
def impl_clone_bool_R (a0 : List Bool) : Option (List Bool) := bif ((a0.length : Int) == 0) then some ([] : List Bool) else (app [] a0).bind fun v2 => (slices_Clip_bool_bool_R v2).bind fun v4 => some v4
theorem ok_impl_clone_bool_R {a0 : List Bool} {y : List Bool} (h : impl_clone_bool_R a0 = some y) : OK Tryz.prog 134 [A a0] (O y) := by
 refine ow Tryz.func134 fun Γ hX => ?_
 unfold impl_clone_bool_R at h
 refine srve 9 [(0, A a0)] [] ?_
 refine pwp_seq ?_
 refine srve 9 [(0, A a0), (5, B ((a0.length : Int) == 0))] [] ?_
 refine pc h (fun h => ?_) (fun h => ?_)
 refine srve 9 [(2, .arr 1 0 (eL ([] : List Bool)) true)] [] ?_
 refine ip 9 [(2, .arr 1 0 (eL ([] : List Bool)) true)] [] ?_
 refine pwp_imp (Imp.thawS (st' := ⟨9, [(2, .ref 0 0 0 1 ([] : List Bool).length false)], [some ⟨0, eL ([] : List Bool)⟩]⟩) 2 [2] (by kernel_rfl)) ?_
 have h := si h
 subst h
 exact pwp_ret (rt (.ref 0 0 0 1 ([] : List Bool).length false) (OutP.list (v := 0) (by kernel_rfl)))
 refine pwp_skip ?_
 refine srv 1 9 [(6, A a0)] [] ?_
 obtain ⟨v2, hv3, h⟩ := bindS h
 refine opsP_apn τ_ok 7 0 (nx hX) hv3 (by kernel_rfl) ?_
 obtain ⟨v4, hv5, h⟩ := bindS h
 refine opsP_callM (xs := [rf 0 1 1 v2]) (x := rf 1 0 1 v4) (bs := [⟨0, eL v4⟩]) τ 8 [0] (nx hX) (ok_slices_Clip_bool_bool_R hv5) (by kernel_rfl) (OutL.cons (OutP.list (v := 1) (by kernel_rfl)) (OutL.nil _)) (by decide) (by kernel_rfl) ?_
 refine ve 1 9 [(2, rf 1 0 1 v4)] [none, sl 0 v4] ?_
 have h := si h
 subst h
 exact pwp_ret (rt (rf 1 0 1 v4) (OutP.list (v := 0) (by kernel_rfl)))
def impl_BatchRows (a0 : T_impl_Batch) : Option (List (List T_impl_Value)) := (impl_BatchOk a0).bind fun v1 => bif (!v1) then some ([] : List (List T_impl_Value)) else (impl_Batch_rows a0).bind fun v4 => some v4
theorem ok_impl_BatchRows {a0 : T_impl_Batch} {y : List (List T_impl_Value)} (h : impl_BatchRows a0 = some y) : OK Tryz.prog 34 [E a0] (A y) := by
 refine ow Tryz.func34 fun Γ hX => ?_
 unfold impl_BatchRows at h
 refine srve 8 [(1, pf a0 0)] [] ?_
 refine pwp_seq ?_
 refine srv 1 8 [(1, pf a0 0), (3, E a0)] [] ?_
 obtain ⟨v1, hv2, h⟩ := bindS h
 refine cF 4 (ok_impl_BatchOk hv2) ?_
 refine ve 1 8 [(1, pf a0 0), (5, B (!v1))] [] ?_
 refine pc h (fun h => ?_) (fun h => ?_)
 refine srve 8 [(2, .arr 1 0 (eL ([] : List (List T_impl_Value))) true)] [] ?_
 refine ip 8 [(2, .arr 1 0 (eL ([] : List (List T_impl_Value))) true)] [] ?_
 refine pwp_imp (Imp.unfS (st' := ⟨8, [(2, A ([] : List (List T_impl_Value)))], []⟩) 2 [2] (by kernel_rfl)) ?_
 cases h
 exact pwp_ret rz
 refine pwp_skip ?_
 refine srv 1 8 [(6, E a0)] [] ?_
 obtain ⟨v4, hv5, h⟩ := bindS h
 refine cF 7 (ok_impl_Batch_rows hv5) ?_
 refine ve 1 8 [(2, A v4)] [] ?_
 cases h
 exact pwp_ret rz
def impl_ExprKind_j2 (a0 : List T_impl_Column) (x4 : Int) (x5 : List Int) (K7 : Int → (List Int) → Option Int) (v9 : T_impl_Part) (v11 : Int) (x13 : Bool) : Option Int := bif x13 then some (-1) else (slI x5 (some (w64 ((x5.length : Int) - v11))) none none).bind fun v15 => (impl_Part_kind v9 a0 v15).bind fun v17 => bif (!v17.2) then some (-1) else (slI x5 none (some (w64 ((x5.length : Int) - v11))) none).bind fun v20 => (appT x5 ([v17.1] : List Int) v20.length).bind fun v22 => K7 (w64 (x4 + 1)) v22
def impl_ExprKind_l1 (a0 : List T_impl_Column) (a1 : List T_impl_Part) : Nat → Int → (List Int) → Option Int
 | 0, _, _ => none
 | f6 + 1, x4, x5 => bif (decide (x4 < (a1.length : Int))) then (getI a1 x4).bind fun v9 => (impl_Part_takes v9).bind fun v11 => (impl_Part_tells v9 a0).bind fun v24 => bif (!v24) then impl_ExprKind_j2 a0 x4 x5 (impl_ExprKind_l1 a0 a1 f6) v9 v11 true else impl_ExprKind_j2 a0 x4 x5 (impl_ExprKind_l1 a0 a1 f6) v9 v11 (decide ((x5.length : Int) < v11)) else bif (!((x5.length : Int) == 1)) then some (-1) else (getI x5 (0 : Int)).bind fun v28 => some v28
def impl_ExprKind_j0 (a0 : List T_impl_Column) (a1 : List T_impl_Part) (x1 : Bool) : Option Int := bif x1 then some (-1) else impl_ExprKind_l1 a0 a1 FUEL 0 ([] : List Int)
def impl_ExprKind (a0 : List T_impl_Column) (a1 : List T_impl_Part) : Option Int := (impl_ColumnsOk a0).bind fun v30 => bif (!v30) then impl_ExprKind_j0 a0 a1 true else impl_ExprKind_j0 a0 a1 (decide ((a1.length : Int) > 12))
theorem ok_impl_ExprKind {a0 : List T_impl_Column} {a1 : List T_impl_Part} {y : Int} (h : impl_ExprKind a0 a1 = some y) : OK Tryz.prog 50 [A a0, A a1] (I y) := by
 refine ow Tryz.func50 fun Γ hX => ?_
 unfold impl_ExprKind at h
 refine srveM [7] 67 [(0, A a0), (1, A a1)] [] ?_
 refine pwp_seq ?_
 refine pwp_seq ?_
 refine pwp_join (σ := Bool) (fun x1 => (⟨67, [(0, A a0), (1, A a1), (18, B x1)], []⟩ : St)) (fun x1 => impl_ExprKind_j0 a0 a1 x1 = some y) ?_ ?_
 refine rvM [7] 1 67 [(0, A a0), (1, A a1), (11, A a0)] [] ?_
 obtain ⟨v30, hv31, h⟩ := bindS h
 refine cF 12 (ok_impl_ColumnsOk hv31) ?_
 refine vM [7] 2 67 [(0, A a0), (1, A a1), (14, B (!v30))] [] ?_
 rcases fk (!v30) with hc32 | hc32
 replace h := bT hc32 h
 rw [hc32]
 refine veM [7] 4 67 [(0, A a0), (1, A a1), (18, B true)] [] ?_
 exact ⟨true, h, it [0, 1, 18]⟩
 replace h := bF hc32 h
 rw [hc32]
 refine veM [7] 4 67 [(0, A a0), (1, A a1), (18, B (decide ((a1.length : Int) > 12)))] [] ?_
 exact ⟨(decide ((a1.length : Int) > 12)), h, it [0, 1, 18]⟩
 rintro x1 h
 unfold impl_ExprKind_j0 at h
 refine pc h (fun h => ?_) (fun h => ?_)
 refine srveM [7] 67 [(4, I (-1))] [] ?_
 cases h
 exact pwp_ret rz
 refine pwp_skip ?_
 refine srveM [7] 67 [(0, A a0), (1, A a1), (5, .arr 1 0 (eL ([] : List Int)) true)] [] ?_
 refine pwp_seq ?_
 refine srveM [7] 67 [(0, A a0), (5, .arr 1 0 (eL ([] : List Int)) true), (19, A a1), (20, I (a1.length : Int)), (21, I 0)] [] ?_
 refine pwp_block ?_
 refine pwp_loop (ι := Nat × Int × (List Int)) (fun (f6, x4, x5) => (⟨67, [(0, A a0), (5, rf 0 0 1 x5), (19, A a1), (20, I (a1.length : Int)), (21, I x4)], [sl 0 x5]⟩ : St)) (fun (f6, x4, x5) => impl_ExprKind_l1 a0 a1 f6 x4 x5 = some y) Prod.fst (FUEL, 0, ([] : List Int)) h (Imp.thawS 5 [0, 5, 19, 20, 21] (by kernel_rfl)) ?_
 rintro ⟨f6, x4, x5⟩ h
 dsimp only at h ⊢
 rcases f6 with _ | f6
 cases h
 rw [impl_ExprKind_l1] at h
 refine srveM [7] 67 [(0, A a0), (5, rf 0 0 1 x5), (19, A a1), (20, I (a1.length : Int)), (21, I x4), (22, B (decide (x4 < (a1.length : Int))))] [sl 0 x5] ?_
 refine pwp_seq ?_
 refine pc h (fun h => ?_) (fun h => ?_)
 refine pwp_skip ?_
 refine pwp_seq ?_
 refine pwp_block ?_
 refine pwp_seq ?_
 refine pwp_region ?_
 obtain ⟨v9, hv10, h⟩ := bindS h
 refine opsP_idx τ_ok 23 hv10 (by kernel_rfl) ?_
 refine veM [7] 3 67 [(0, A a0), (5, rf 0 0 1 x5), (7, .ptr 1 0 0), (19, A a1), (20, I (a1.length : Int)), (21, I x4)] [sl 0 x5, sc 0 v9] ?_
 refine srvM [7] 1 67 [(0, A a0), (5, rf 0 0 1 x5), (7, .ptr 1 0 0), (19, A a1), (20, I (a1.length : Int)), (21, I x4), (25, E v9)] [sl 0 x5, sc 0 v9] ?_
 obtain ⟨v11, hv12, h⟩ := bindS h
 refine cF 26 (ok_impl_Part_takes hv12) ?_
 refine veM [7] 1 67 [(0, A a0), (5, rf 0 0 1 x5), (7, .ptr 1 0 0), (8, I v11), (19, A a1), (20, I (a1.length : Int)), (21, I x4)] [sl 0 x5, sc 0 v9] ?_
 refine pwp_seq ?_
 refine pwp_seq ?_
 refine pwp_join (σ := Bool) (fun x13 => (⟨67, [(0, A a0), (5, rf 0 0 1 x5), (7, .ptr 1 0 0), (8, I v11), (19, A a1), (20, I (a1.length : Int)), (21, I x4), (36, B x13)], [sl 0 x5, sc 0 v9]⟩ : St)) (fun x13 => impl_ExprKind_j2 a0 x4 x5 (impl_ExprKind_l1 a0 a1 f6) v9 v11 x13 = some y) ?_ ?_
 refine rvM [7] 2 67 [(0, A a0), (5, rf 0 0 1 x5), (7, .ptr 1 0 0), (8, I v11), (19, A a1), (20, I (a1.length : Int)), (21, I x4), (27, E v9), (28, A a0)] [sl 0 x5, sc 0 v9] ?_
 obtain ⟨v24, hv25, h⟩ := bindS h
 refine cF 29 (ok_impl_Part_tells hv25) ?_
 refine vM [7] 2 67 [(0, A a0), (5, rf 0 0 1 x5), (7, .ptr 1 0 0), (8, I v11), (19, A a1), (20, I (a1.length : Int)), (21, I x4), (31, B (!v24))] [sl 0 x5, sc 0 v9] ?_
 rcases fk (!v24) with hc26 | hc26
 replace h := bT hc26 h
 rw [hc26]
 refine veM [7] 5 67 [(0, A a0), (5, rf 0 0 1 x5), (7, .ptr 1 0 0), (8, I v11), (19, A a1), (20, I (a1.length : Int)), (21, I x4), (32, .lit undef), (33, .lit undef), (34, .lit undef), (35, .lit undef), (36, B true)] [sl 0 x5, sc 0 v9] ?_
 exact ⟨true, h, it [0, 5, 7, 8, 19, 20, 21, 36]⟩
 replace h := bF hc26 h
 rw [hc26]
 refine veM [7] 5 67 [(0, A a0), (5, rf 0 0 1 x5), (7, .ptr 1 0 0), (8, I v11), (19, A a1), (20, I (a1.length : Int)), (21, I x4), (32, rf 0 0 1 x5), (33, I (x5.length : Int)), (34, I v11), (35, B (decide ((x5.length : Int) < v11))), (36, B (decide ((x5.length : Int) < v11)))] [sl 0 x5, sc 0 v9] ?_
 exact ⟨(decide ((x5.length : Int) < v11)), h, it [0, 5, 7, 8, 19, 20, 21, 36]⟩
 rintro x13 h
 unfold impl_ExprKind_j2 at h
 refine pc h (fun h => ?_) (fun h => ?_)
 refine srveM [7] 67 [(4, I (-1))] [sl 0 x5, sc 0 v9] ?_
 cases h
 exact pwp_ret rz
 refine pwp_skip ?_
 refine pwp_seq ?_
 refine ip 67 [(0, A a0), (5, rf 0 0 1 x5), (7, .ptr 1 0 0), (8, I v11), (19, A a1), (20, I (a1.length : Int)), (21, I x4)] [sl 0 x5, sc 0 v9] ?_
 refine pwp_any ([[1], [], [0], [0], [0], [], [], [0], [0], [], [], [], [], []]) ([[], [], [], [], [], [], [], [], [], [], [], [], [], []]) rfl (by kernel_rfl) ?_
 refine qvM [7] [1] (hB trivial) 1 67 [(38, E v9), (0, A a0), (5, rf 0 0 1 x5), (8, I v11), (19, A a1), (20, I (a1.length : Int)), (21, I x4)] [sl 0 x5, sc 0 v9] ?_
 refine qvM [7] [] trivial 1 67 [(39, A a0), (38, E v9), (0, A a0), (5, rf 0 0 1 x5), (8, I v11), (19, A a1), (20, I (a1.length : Int)), (21, I x4)] [sl 0 x5, sc 0 v9] ?_
 refine qvM [7] [0] (hL trivial) 3 67 [(42, I (x5.length : Int)), (40, rf 0 0 1 x5), (39, A a0), (38, E v9), (0, A a0), (5, rf 0 0 1 x5), (8, I v11), (19, A a1), (20, I (a1.length : Int)), (21, I x4)] [sl 0 x5, sc 0 v9] ?_
 refine qvM [7] [] trivial 2 67 [(44, I (w64 ((x5.length : Int) - v11))), (40, rf 0 0 1 x5), (39, A a0), (38, E v9), (0, A a0), (5, rf 0 0 1 x5), (8, I v11), (19, A a1), (20, I (a1.length : Int)), (21, I x4)] [sl 0 x5, sc 0 v9] ?_
 obtain ⟨v15, hv16, h⟩ := bindS h
 refine qX (some 45) (.ref 0 0 ((w64 ((x5.length : Int) - v11)).toNat * 1) 1 v15.length false) 67 [(45, .ref 0 0 ((w64 ((x5.length : Int) - v11)).toNat * 1) 1 v15.length false), (39, A a0), (38, E v9), (0, A a0), (5, rf 0 0 1 x5), (8, I v11), (19, A a1), (20, I (a1.length : Int)), (21, I x4)] [sl 0 x5, sc 0 v9] (fun Γ' hΓ => CoreE.of_y (slrV_sound (n := x5.length) τ_ok (by kernel_rfl) rfl hv16)) (hL trivial) ?_
 obtain ⟨v17, hv18, h⟩ := bindS h
 refine qX (some 46) (.tup [I v17.1, B v17.2]) 67 [(46, .tup [I v17.1, B v17.2]), (0, A a0), (5, rf 0 0 1 x5), (8, I v11), (19, A a1), (20, I (a1.length : Int)), (21, I x4)] [sl 0 x5, sc 0 v9] (fun Γ' hΓ => CoreE.of_g (callVV_sound (xs := [E v9, A a0, .ref 0 0 ((w64 ((x5.length : Int) - v11)).toNat * 1) 1 v15.length false]) (τ := τ) (by kernel_rfl) (ViewL.cons (View.frz rfl) (ViewL.cons (View.frz rfl) (ViewL.cons (View.ref (v := 0) (lo := (w64 ((x5.length : Int) - v11)).toNat) x5 v15 (by kernel_rfl) (slI_view hv16) rfl) (ViewL.nil _)))) (ok_impl_Part_kind hv18) (Blind.tup (BlindL.cons (Blind.lit _) (BlindL.cons (Blind.lit _) BlindL.nil))) (FzTo.tup (FzToL.cons (FzTo.frz rfl) (FzToL.cons (FzTo.frz rfl) FzToL.nil))))) (hL trivial) ?_
 refine qvnM [7] [] trivial 5 67 [(0, A a0), (5, rf 0 0 1 x5), (8, I v11), (9, I v17.1), (10, B v17.2), (19, A a1), (20, I (a1.length : Int)), (21, I x4)] [sl 0 x5, sc 0 v9] ?_
 refine pwp_seq ?_
 refine srveM [7] 67 [(0, A a0), (5, rf 0 0 1 x5), (8, I v11), (9, I v17.1), (19, A a1), (20, I (a1.length : Int)), (21, I x4), (50, B (!v17.2))] [sl 0 x5, sc 0 v9] ?_
 refine pc h (fun h => ?_) (fun h => ?_)
 refine srveM [7] 67 [(4, I (-1))] [sl 0 x5, sc 0 v9] ?_
 cases h
 exact pwp_ret rz
 refine pwp_skip ?_
 refine rvM [7] 5 67 [(0, A a0), (9, I v17.1), (19, A a1), (20, I (a1.length : Int)), (21, I x4), (51, rf 0 0 1 x5), (55, I (w64 ((x5.length : Int) - v11)))] [sl 0 x5, sc 0 v9] ?_
 obtain ⟨v20, hv21, h⟩ := bindS h
 refine opsP_slr τ_ok 56 0 0 x5.length hv21 rfl (by kernel_rfl) ?_
 refine vM [7] 2 67 [(0, A a0), (19, A a1), (20, I (a1.length : Int)), (21, I x4), (56, rf 0 0 1 v20), (58, .arr 1 ([v17.1] : List Int).length (eL ([v17.1] : List Int)) true)] [sl 0 x5, sc 0 v9] ?_
 obtain ⟨v22, hv23, h⟩ := bindS h
 refine opsP_apt τ_ok 59 0 0 v20.length (nx hX) hv23 (slI_le hv21) (by kernel_rfl) ?_
 refine veM [7] 1 67 [(0, A a0), (5, rf 0 1 1 v22), (19, A a1), (20, I (a1.length : Int)), (21, I x4)] [sl 1 v22, sc 0 v9] ?_
 refine rveM [7] 67 [(0, A a0), (5, rf 0 1 1 v22), (19, A a1), (20, I (a1.length : Int)), (21, I (w64 (x4 + 1)))] [sl 1 v22, sc 0 v9] ?_
 exact ⟨(f6, (w64 (x4 + 1)), v22), h, Nat.lt_succ_self _, qt (it (st' := ⟨67, [(0, A a0), (5, rf 0 1 1 v22), (19, A a1), (20, I (a1.length : Int)), (21, I (w64 (x4 + 1)))], [sl 1 v22, sc 0 v9]⟩) [0, 5, 19, 20, 21]) (qt (Imp.truncS (st' := ⟨67, [(0, A a0), (5, rf 0 1 1 v22), (19, A a1), (20, I (a1.length : Int)), (21, I (w64 (x4 + 1)))], [sl 1 v22]⟩) 1 (nx hX) (by kernel_rfl) (allBelow_mem (by exact (And.intro rfl (And.intro rfl (And.intro rfl (And.intro rfl (And.intro rfl trivial))))))) (by exact (And.intro (frz_below (eL_frz _)) trivial)) (by kernel_rfl)) (Imp.reverS 0 1 (eL v22) [0, 5, 19, 20, 21] (by kernel_rfl) (by exact (And.intro (eL_frz _) trivial)) (by kernel_rfl)))⟩
 refine pwp_exit ?_
 refine pwp_seq ?_
 refine srveM [7] 67 [(5, rf 0 0 1 x5), (63, B (!((x5.length : Int) == 1)))] [sl 0 x5] ?_
 refine pc h (fun h => ?_) (fun h => ?_)
 refine srveM [7] 67 [(4, I (-1))] [sl 0 x5] ?_
 cases h
 exact pwp_ret rz
 refine pwp_skip ?_
 refine srvM [7] 1 67 [(64, rf 0 0 1 x5)] [sl 0 x5] ?_
 obtain ⟨v28, hv29, h⟩ := bindS h
 refine opsP_idr τ_ok 65 0 0 x5.length hv29 rfl (by kernel_rfl) ?_
 refine opsP_lde (r := I v28) τ_ok 66 3 0 hv29 (by kernel_rfl) (by kernel_rfl) ?_
 refine veM [7] 1 67 [(4, I v28)] [sl 0 x5] ?_
 cases h
 exact pwp_ret rz
def spec_l20Batch_j2 (v1 : (List T_impl_Column) × T_spec_l20Rd) (v18 : T_impl_Batch) (x36 : T_spec_l20Rd) (x37 : List (List T_impl_Value)) (x38 : List Bool) : Option (((List T_impl_Column) × T_impl_Batch) × T_spec_l20Rd) := some ((v1.1, ({ (({ v18 with fColumns := x37 } : T_impl_Batch) : T_impl_Batch) with fPicked := x38 } : T_impl_Batch)), x36)
def spec_l20Batch_l1 (a1 : Int) (v1 : (List T_impl_Column) × T_spec_l20Rd) (v18 : T_impl_Batch) : Nat → Int → T_spec_l20Rd → (List Bool) → Option (((List T_impl_Column) × T_impl_Batch) × T_spec_l20Rd)
 | 0, _, _, _ => none
 | f29 + 1, x26, x27, x28 => bif (decide (x26 < (x28.length : Int))) then (spec_l20Rd_pick x27 3).bind fun v32 => (getI x28 x26).bind fun v34 => (spec_l20Batch_l1 a1 v1 v18 f29) (w64 (x26 + 1)) v32.2 (x28.set x26.toNat (decide (v32.1 > 0))) else (spec_l20Rd_odd x27 a1).bind fun v39 => bif v39.1 then (spec_l20Rd_pick v39.2 4).bind fun v42 => bif (v42.1 == 0) then (app x28 ([true] : List Bool)).bind fun v45 => spec_l20Batch_j2 v1 v18 v42.2 v18.fColumns v45 else bif (v42.1 == 1) then (app v18.fColumns ([([(T_impl_Value.mk 0 0 (ByteArray.mk #[]))] : List T_impl_Value)] : List (List T_impl_Value))).bind fun v48 => spec_l20Batch_j2 v1 v18 v42.2 v48 x28 else bif (v42.1 == 2) then bif (decide ((x28.length : Int) > 0)) then (getI v18.fColumns (0 : Int)).bind fun v52 => (spec_l20Value v42.2 2).bind fun v54 => (getI v52 (0 : Int)).bind fun v56 => spec_l20Batch_j2 v1 v18 v54.2 (v18.fColumns.set (0 : Int).toNat (v52.set (0 : Int).toNat v54.1)) x28 else spec_l20Batch_j2 v1 v18 v42.2 v18.fColumns x28 else (appT v18.fColumns v18.fColumns v18.fColumns.length).bind fun v58 => spec_l20Batch_j2 v1 v18 v42.2 v58 x28 else spec_l20Batch_j2 v1 v18 v39.2 v18.fColumns x28
def spec_l20Batch_l0 (a1 : Int) (v1 : (List T_impl_Column) × T_spec_l20Rd) : Nat → Int → T_spec_l20Rd → (List (List T_impl_Value)) → Option (((List T_impl_Column) × T_impl_Batch) × T_spec_l20Rd)
 | 0, _, _, _ => none
 | f11 + 1, x8, x9, x10 => bif (decide (x8 > 0)) then (spec_l20Fit x9 v1.1 0).bind fun v14 => (app x10 ([v14.1] : List (List T_impl_Value))).bind fun v16 => (spec_l20Batch_l0 a1 v1 f11) (w64 (x8 - 1)) v14.2 v16 else (spec_l9Batch_D (v1.1.length : Int) x10).bind fun v18 => spec_l20Batch_l1 a1 v1 v18 FUEL 0 x9 v18.fPicked
def spec_l20Batch (a0 : T_spec_l20Rd) (a1 : Int) : Option (((List T_impl_Column) × T_impl_Batch) × T_spec_l20Rd) := (spec_l20Columns a0 0).bind fun v1 => (spec_l20Rd_pick v1.2 5).bind fun v3 => spec_l20Batch_l0 a1 v1 FUEL v3.1 v3.2 ([] : List (List T_impl_Value))
theorem ok_spec_l20Batch {a0 : T_spec_l20Rd} {a1 : Int} {y : ((List T_impl_Column) × T_impl_Batch) × T_spec_l20Rd} (h : spec_l20Batch a0 a1 = some y) : OKb Tryz.prog 78 (Enc.cells a0) [I a1] (.tup [A y.1.1, E y.1.2]) (Enc.cells y.2) := by
 refine OKb_of_pwp τ_ok Tryz.func78 rfl (by kernel_rfl) rfl (Enc.frz _) (Enc.frz _) fun Γ hQ => ?_
 unfold spec_l20Batch at h
 refine srveM [5, 9] 86 [(0, .ptr 0 0 0), (1, I a1), (5, .ptr 1 0 0)] [sc 0 a0, some ⟨0, Enc.cells (T_impl_Batch.mk [] [])⟩] ?_
 refine srvM [5, 9] 1 86 [(0, .ptr 0 0 0), (1, I a1), (5, .ptr 1 0 0), (11, .ptr 0 0 0)] [sc 0 a0, some ⟨0, Enc.cells (T_impl_Batch.mk [] [])⟩] ?_
 obtain ⟨v1, hv2, h⟩ := bindS h
 refine cBo 12 0 0 (ok_spec_l20Columns hv2) ?_
 refine veM [5, 9] 1 86 [(0, .ptr 0 0 0), (1, I a1), (5, .ptr 1 0 0), (6, A v1.1)] [sc 0 v1.2, some ⟨0, Enc.cells (T_impl_Batch.mk [] [])⟩] ?_
 refine srveM [5, 9] 86 [(0, .ptr 0 0 0), (1, I a1), (5, .ptr 1 0 0), (6, A v1.1), (7, .arr 1 0 (eL ([] : List (List T_impl_Value))) true)] [sc 0 v1.2, some ⟨0, Enc.cells (T_impl_Batch.mk [] [])⟩] ?_
 refine pwp_seq ?_
 refine srvM [5, 9] 1 86 [(0, .ptr 0 0 0), (1, I a1), (5, .ptr 1 0 0), (6, A v1.1), (7, .arr 1 0 (eL ([] : List (List T_impl_Value))) true), (14, .ptr 0 0 0)] [sc 0 v1.2, some ⟨0, Enc.cells (T_impl_Batch.mk [] [])⟩] ?_
 obtain ⟨v3, hv4, h⟩ := bindS h
 refine cB 15 0 0 (ok_spec_l20Rd_pick hv4) ?_
 refine veM [5, 9] 1 86 [(0, .ptr 0 0 0), (1, I a1), (5, .ptr 1 0 0), (6, A v1.1), (7, .arr 1 0 (eL ([] : List (List T_impl_Value))) true), (8, I v3.1)] [sc 0 v3.2, some ⟨0, Enc.cells (T_impl_Batch.mk [] [])⟩] ?_
 refine pwp_block ?_
 refine pwp_loop (ι := Nat × Int × T_spec_l20Rd × (List (List T_impl_Value))) (fun (f11, x8, x9, x10) => (⟨86, [(0, .ptr 0 0 0), (1, I a1), (5, .ptr 1 0 0), (6, A v1.1), (7, rf 2 0 1 x10), (8, I x8)], [sc 0 x9, some ⟨0, Enc.cells (T_impl_Batch.mk [] [])⟩, sl 0 x10]⟩ : St)) (fun (f11, x8, x9, x10) => spec_l20Batch_l0 a1 v1 f11 x8 x9 x10 = some y) Prod.fst (FUEL, v3.1, v3.2, ([] : List (List T_impl_Value))) h (Imp.thawS 7 [0, 1, 5, 6, 7, 8] (by kernel_rfl)) ?_
 rintro ⟨f11, x8, x9, x10⟩ h
 dsimp only at h ⊢
 rcases f11 with _ | f11
 cases h
 rw [spec_l20Batch_l0] at h
 refine pwp_seq ?_
 refine srveM [5, 9] 86 [(0, .ptr 0 0 0), (1, I a1), (5, .ptr 1 0 0), (6, A v1.1), (7, rf 2 0 1 x10), (8, I x8), (17, B (decide (x8 > 0)))] [sc 0 x9, some ⟨0, Enc.cells (T_impl_Batch.mk [] [])⟩, sl 0 x10] ?_
 refine pc h (fun h => ?_) (fun h => ?_)
 refine pwp_skip ?_
 refine pwp_seq ?_
 refine pwp_block ?_
 refine rvM [5, 9] 3 86 [(0, .ptr 0 0 0), (1, I a1), (5, .ptr 1 0 0), (6, A v1.1), (8, I x8), (20, rf 2 0 1 x10), (21, .ptr 0 0 0), (22, A v1.1)] [sc 0 x9, some ⟨0, Enc.cells (T_impl_Batch.mk [] [])⟩, sl 0 x10] ?_
 obtain ⟨v14, hv15, h⟩ := bindS h
 refine cBo 23 0 0 (ok_spec_l20Fit hv15) ?_
 refine vM [5, 9] 1 86 [(0, .ptr 0 0 0), (1, I a1), (5, .ptr 1 0 0), (6, A v1.1), (8, I x8), (20, rf 2 0 1 x10), (24, .arr 1 ([v14.1] : List (List T_impl_Value)).length (eL ([v14.1] : List (List T_impl_Value))) true)] [sc 0 v14.2, some ⟨0, Enc.cells (T_impl_Batch.mk [] [])⟩, sl 0 x10] ?_
 obtain ⟨v16, hv17, h⟩ := bindS h
 refine opsP_app τ_ok 25 2 0 (pn hQ) hv17 (by kernel_rfl) ?_
 refine veM [5, 9] 1 86 [(0, .ptr 0 0 0), (1, I a1), (5, .ptr 1 0 0), (6, A v1.1), (7, rf 2 1 1 v16), (8, I x8)] [sc 0 v14.2, some ⟨0, Enc.cells (T_impl_Batch.mk [] [])⟩, sl 1 v16] ?_
 refine rveM [5, 9] 86 [(0, .ptr 0 0 0), (1, I a1), (5, .ptr 1 0 0), (6, A v1.1), (7, rf 2 1 1 v16), (8, I (w64 (x8 - 1)))] [sc 0 v14.2, some ⟨0, Enc.cells (T_impl_Batch.mk [] [])⟩, sl 1 v16] ?_
 exact ⟨(f11, (w64 (x8 - 1)), v14.2, v16), h, Nat.lt_succ_self _, (it (st' := ⟨86, [(0, .ptr 0 0 0), (1, I a1), (5, .ptr 1 0 0), (6, A v1.1), (7, rf 2 1 1 v16), (8, I (w64 (x8 - 1)))], [sc 0 v14.2, some ⟨0, Enc.cells (T_impl_Batch.mk [] [])⟩, sl 1 v16]⟩) [0, 1, 5, 6, 7, 8]).trans (Imp.reverS 2 1 (eL v16) [0, 1, 5, 6, 7, 8] (by kernel_rfl) (by exact (And.intro (rfl) (And.intro (rfl) (And.intro (eL_frz _) trivial)))) (by kernel_rfl))⟩
 refine pwp_exit ?_
 refine srvM [5, 9] 3 86 [(0, .ptr 0 0 0), (1, I a1), (5, .ptr 1 0 0), (6, A v1.1), (27, I (v1.1.length : Int)), (28, rf 2 0 1 x10)] [sc 0 x9, some ⟨0, Enc.cells (T_impl_Batch.mk [] [])⟩, sl 0 x10] ?_
 obtain ⟨v18, hv19, h⟩ := bindS h
 refine opsP_callVO (xs := [I (v1.1.length : Int), rf 2 0 1 x10]) τ 29 (ok_spec_l9Batch_D hv19) (Blind.agg (DEnc.bl _)) (by kernel_rfl) (ViewL.cons (View.frz rfl) (ViewL.cons (View.whole (v := 0) x10 (by kernel_rfl) rfl) (ViewL.nil _))) ?_
 refine vM [5, 9] 0 86 [(0, .ptr 0 0 0), (1, I a1), (5, .ptr 1 0 0), (6, A v1.1), (29, .agg [rf 3 0 1 v18.fColumns, rf 4 0 1 v18.fPicked])] [sc 0 x9, some ⟨0, Enc.cells (T_impl_Batch.mk [] [])⟩, sl 0 x10, some ⟨0, dL v18.fColumns⟩, sl 0 v18.fPicked] ?_
 refine opsP_imp (Imp.ghosts 1 (st' := ⟨86, [(0, .ptr 0 0 0), (1, I a1), (5, .ptr 1 0 0), (6, A v1.1), (29, .agg [rf 3 0 1 v18.fColumns, rf 4 0 1 v18.fPicked])], [sc 0 x9, some ⟨0, Enc.cells (T_impl_Batch.mk [] [])⟩, sl 0 x10, some ⟨0, dL v18.fColumns⟩, sl 0 v18.fPicked, some ⟨0, []⟩]⟩) (by kernel_rfl)) ?_
 refine opsP_E (dd := some 9) (x := .ptr 5 1 0) (alz_E (blk := ⟨0, []⟩) (zs := [.arr 1 0 [] true, .arr 1 0 [] true]) 9 61 5 0 (pn hQ) zi_ok61 (by kernel_rfl) (by kernel_rfl)) ?_
 refine veM [5, 9] 1 86 [(0, .ptr 0 0 0), (1, I a1), (5, .ptr 1 0 0), (6, A v1.1), (9, .ptr 5 1 0)] [sc 0 x9, some ⟨0, Enc.cells (T_impl_Batch.mk [] [])⟩, sl 0 x10, some ⟨0, dL v18.fColumns⟩, sl 0 v18.fPicked, some ⟨1, [rf 3 0 1 v18.fColumns, rf 4 0 1 v18.fPicked]⟩] ?_
 refine pwp_seq ?_
 refine srveM [5, 9] 86 [(0, .ptr 0 0 0), (1, I a1), (5, .ptr 1 0 0), (6, A v1.1), (9, .ptr 5 1 0), (10, I 0)] [sc 0 x9, some ⟨0, Enc.cells (T_impl_Batch.mk [] [])⟩, sl 0 x10, some ⟨0, dL v18.fColumns⟩, sl 0 v18.fPicked, some ⟨1, [rf 3 0 1 v18.fColumns, rf 4 0 1 v18.fPicked]⟩] ?_
 refine pwp_block ?_
 refine pwp_loop (ι := Nat × Int × T_spec_l20Rd × (List Bool)) (fun (f29, x26, x27, x28) => (⟨86, [(0, .ptr 0 0 0), (1, I a1), (5, .ptr 1 0 0), (6, A v1.1), (9, .ptr 5 1 0), (10, I x26)], [sc 0 x27, some ⟨0, Enc.cells (T_impl_Batch.mk [] [])⟩, sl 0 x10, some ⟨0, dL v18.fColumns⟩, sl 0 x28, some ⟨1, [rf 3 0 1 v18.fColumns, rf 4 0 1 x28]⟩]⟩ : St)) (fun (f29, x26, x27, x28) => spec_l20Batch_l1 a1 v1 v18 f29 x26 x27 x28 = some y) Prod.fst (FUEL, 0, x9, v18.fPicked) h (it [0, 1, 5, 6, 9, 10]) ?_
 rintro ⟨f29, x26, x27, x28⟩ h
 dsimp only at h ⊢
 rcases f29 with _ | f29
 cases h
 rw [spec_l20Batch_l1] at h
 refine pwp_seq ?_
 refine srveM [5, 9] 86 [(0, .ptr 0 0 0), (1, I a1), (5, .ptr 1 0 0), (6, A v1.1), (9, .ptr 5 1 0), (10, I x26), (34, B (decide (x26 < (x28.length : Int))))] [sc 0 x27, some ⟨0, Enc.cells (T_impl_Batch.mk [] [])⟩, sl 0 x10, some ⟨0, dL v18.fColumns⟩, sl 0 x28, some ⟨1, [rf 3 0 1 v18.fColumns, rf 4 0 1 x28]⟩] ?_
 refine pc h (fun h => ?_) (fun h => ?_)
 refine pwp_skip ?_
 refine pwp_seq ?_
 refine pwp_block ?_
 refine ip 86 [(0, .ptr 0 0 0), (1, I a1), (5, .ptr 1 0 0), (6, A v1.1), (9, .ptr 5 1 0), (10, I x26)] [sc 0 x27, some ⟨0, Enc.cells (T_impl_Batch.mk [] [])⟩, sl 0 x10, some ⟨0, dL v18.fColumns⟩, sl 0 x28, some ⟨1, [rf 3 0 1 v18.fColumns, rf 4 0 1 x28]⟩] ?_
 refine pwp_any ([[3, 4, 5], [3, 4, 5], [], [0], [0], [], [4], [4]]) ([[], [], [], [], [0], [], [], [4]]) rfl (by kernel_rfl) ?_
 refine qvM [5, 9] [3, 4, 5] (hD (hL (hR trivial))) 2 86 [(38, rf 4 0 1 x28), (0, .ptr 0 0 0), (1, I a1), (5, .ptr 1 0 0), (6, A v1.1), (9, .ptr 5 1 0), (10, I x26)] [sc 0 x27, some ⟨0, Enc.cells (T_impl_Batch.mk [] [])⟩, sl 0 x10, some ⟨0, dL v18.fColumns⟩, sl 0 x28, some ⟨1, [rf 3 0 1 v18.fColumns, rf 4 0 1 x28]⟩] ?_
 refine qvM [5, 9] [] trivial 1 86 [(39, I x26), (38, rf 4 0 1 x28), (0, .ptr 0 0 0), (1, I a1), (5, .ptr 1 0 0), (6, A v1.1), (9, .ptr 5 1 0), (10, I x26)] [sc 0 x27, some ⟨0, Enc.cells (T_impl_Batch.mk [] [])⟩, sl 0 x10, some ⟨0, dL v18.fColumns⟩, sl 0 x28, some ⟨1, [rf 3 0 1 v18.fColumns, rf 4 0 1 x28]⟩] ?_
 refine qvM [5, 9] [0] (hB trivial) 1 86 [(40, .ptr 0 0 0), (39, I x26), (38, rf 4 0 1 x28), (0, .ptr 0 0 0), (1, I a1), (5, .ptr 1 0 0), (6, A v1.1), (9, .ptr 5 1 0), (10, I x26)] [sc 0 x27, some ⟨0, Enc.cells (T_impl_Batch.mk [] [])⟩, sl 0 x10, some ⟨0, dL v18.fColumns⟩, sl 0 x28, some ⟨1, [rf 3 0 1 v18.fColumns, rf 4 0 1 x28]⟩] ?_
 obtain ⟨v32, hv33, h⟩ := bindS h
 refine qX (some 41) (I v32.1) 86 [(41, I v32.1), (39, I x26), (38, rf 4 0 1 x28), (0, .ptr 0 0 0), (1, I a1), (5, .ptr 1 0 0), (6, A v1.1), (9, .ptr 5 1 0), (10, I x26)] [sc 0 v32.2, some ⟨0, Enc.cells (T_impl_Batch.mk [] [])⟩, sl 0 x10, some ⟨0, dL v18.fColumns⟩, sl 0 x28, some ⟨1, [rf 3 0 1 v18.fColumns, rf 4 0 1 x28]⟩] (fun Γ' hΓ => callB_E τ 41 0 0 (ok_spec_l20Rd_pick hv33) (FzTo.frz rfl) rfl (by kernel_rfl)) (hB trivial) ?_
 refine qvM [5, 9] [] trivial 1 86 [(42, B (decide (v32.1 > 0))), (39, I x26), (38, rf 4 0 1 x28), (0, .ptr 0 0 0), (1, I a1), (5, .ptr 1 0 0), (6, A v1.1), (9, .ptr 5 1 0), (10, I x26)] [sc 0 v32.2, some ⟨0, Enc.cells (T_impl_Batch.mk [] [])⟩, sl 0 x10, some ⟨0, dL v18.fColumns⟩, sl 0 x28, some ⟨1, [rf 3 0 1 v18.fColumns, rf 4 0 1 x28]⟩] ?_
 obtain ⟨v34, hv35, h⟩ := bindS h
 refine qX (some 43) (.ptr 4 0 (x26.toNat * 1)) 86 [(43, .ptr 4 0 (x26.toNat * 1)), (42, B (decide (v32.1 > 0))), (0, .ptr 0 0 0), (1, I a1), (5, .ptr 1 0 0), (6, A v1.1), (9, .ptr 5 1 0), (10, I x26)] [sc 0 v32.2, some ⟨0, Enc.cells (T_impl_Batch.mk [] [])⟩, sl 0 x10, some ⟨0, dL v18.fColumns⟩, sl 0 x28, some ⟨1, [rf 3 0 1 v18.fColumns, rf 4 0 1 x28]⟩] (fun Γ' hΓ => CoreE.of_y (idrV_sound (n := x28.length) τ_ok (by kernel_rfl) hv35 rfl)) (hL trivial) ?_
 refine qX none (.any) 86 [(0, .ptr 0 0 0), (1, I a1), (5, .ptr 1 0 0), (6, A v1.1), (9, .ptr 5 1 0), (10, I x26)] [sc 0 v32.2, some ⟨0, Enc.cells (T_impl_Batch.mk [] [])⟩, sl 0 x10, some ⟨0, dL v18.fColumns⟩, some ⟨0, eL (x28.set x26.toNat (decide (v32.1 > 0)))⟩, some ⟨1, [rf 3 0 1 v18.fColumns, rf 4 0 1 x28]⟩] (fun Γ' hΓ => ste_E (vs := [B (decide (v32.1 > 0))]) τ_ok 4 4 0 0 (decide (v32.1 > 0)) hv35 (by kernel_rfl) (by kernel_rfl) (by kernel_rfl)) (hL trivial) ?_
 refine qA_ren (st' := ⟨86, [(0, .ptr 0 0 0), (1, I a1), (5, .ptr 1 0 0), (6, A v1.1), (9, .ptr 5 1 0), (10, I x26)], [sc 0 v32.2, some ⟨0, Enc.cells (T_impl_Batch.mk [] [])⟩, sl 0 x10, some ⟨0, dL v18.fColumns⟩, some ⟨0, eL (x28.set x26.toNat (decide (v32.1 > 0)))⟩, some ⟨1, [rf 3 0 1 v18.fColumns, rf 4 0 1 x28]⟩]⟩) 4 (x28.set x26.toNat (decide (v32.1 > 0))).length (renC trivial (renC trivial (renC trivial (renC trivial (renC trivial (renC trivial renC0)))))) (by kernel_rfl) ?_
 refine qA_of_eq (st' := ⟨86, [(0, .ptr 0 0 0), (1, I a1), (5, .ptr 1 0 0), (6, A v1.1), (9, .ptr 5 1 0), (10, I x26)], [sc 0 v32.2, some ⟨0, Enc.cells (T_impl_Batch.mk [] [])⟩, sl 0 x10, some ⟨0, dL v18.fColumns⟩, some ⟨0, eL (x28.set x26.toNat (decide (v32.1 > 0)))⟩, some ⟨1, [rf 3 0 1 v18.fColumns, .ref 4 0 0 1 (x28.set x26.toNat (decide (v32.1 > 0))).length false]⟩]⟩) (by simp only [List.length_set]) ?_
 refine qn 86 [(0, .ptr 0 0 0), (1, I a1), (5, .ptr 1 0 0), (6, A v1.1), (9, .ptr 5 1 0), (10, I x26)] [sc 0 v32.2, some ⟨0, Enc.cells (T_impl_Batch.mk [] [])⟩, sl 0 x10, some ⟨0, dL v18.fColumns⟩, some ⟨0, eL (x28.set x26.toNat (decide (v32.1 > 0)))⟩, some ⟨1, [rf 3 0 1 v18.fColumns, .ref 4 0 0 1 (x28.set x26.toNat (decide (v32.1 > 0))).length false]⟩] ?_
 refine rveM [5, 9] 86 [(0, .ptr 0 0 0), (1, I a1), (5, .ptr 1 0 0), (6, A v1.1), (9, .ptr 5 1 0), (10, I (w64 (x26 + 1)))] [sc 0 v32.2, some ⟨0, Enc.cells (T_impl_Batch.mk [] [])⟩, sl 0 x10, some ⟨0, dL v18.fColumns⟩, some ⟨0, eL (x28.set x26.toNat (decide (v32.1 > 0)))⟩, some ⟨1, [rf 3 0 1 v18.fColumns, .ref 4 0 0 1 (x28.set x26.toNat (decide (v32.1 > 0))).length false]⟩] ?_
 exact ⟨(f29, (w64 (x26 + 1)), v32.2, (x28.set x26.toNat (decide (v32.1 > 0)))), h, Nat.lt_succ_self _, it [0, 1, 5, 6, 9, 10]⟩
 refine pwp_exit ?_
 refine pwp_seq ?_
 refine pwp_join (σ := T_spec_l20Rd × (List (List T_impl_Value)) × (List Bool)) (fun (x36, x37, x38) => (⟨86, [(5, .ptr 1 0 0), (6, A v1.1), (9, .ptr 5 1 0)], [sc 0 x36, some ⟨0, Enc.cells (T_impl_Batch.mk [] [])⟩, sl 0 x10, sl 0 x37, sl 0 x38, some ⟨1, [rf 3 0 1 x37, rf 4 0 1 x38]⟩]⟩ : St)) (fun (x36, x37, x38) => spec_l20Batch_j2 v1 v18 x36 x37 x38 = some y) ?_ ?_
 refine srvM [5, 9] 2 86 [(0, .ptr 0 0 0), (5, .ptr 1 0 0), (6, A v1.1), (9, .ptr 5 1 0), (44, .ptr 0 0 0), (45, I a1)] [sc 0 x27, some ⟨0, Enc.cells (T_impl_Batch.mk [] [])⟩, sl 0 x10, some ⟨0, dL v18.fColumns⟩, sl 0 x28, some ⟨1, [rf 3 0 1 v18.fColumns, rf 4 0 1 x28]⟩] ?_
 obtain ⟨v39, hv40, h⟩ := bindS h
 refine cB 46 0 0 (ok_spec_l20Rd_odd hv40) ?_
 refine veM [5, 9] 0 86 [(0, .ptr 0 0 0), (5, .ptr 1 0 0), (6, A v1.1), (9, .ptr 5 1 0), (46, B v39.1)] [sc 0 v39.2, some ⟨0, Enc.cells (T_impl_Batch.mk [] [])⟩, sl 0 x10, some ⟨0, dL v18.fColumns⟩, sl 0 x28, some ⟨1, [rf 3 0 1 v18.fColumns, rf 4 0 1 x28]⟩] ?_
 refine pc h (fun h => ?_) (fun h => ?_)
 refine srvM [5, 9] 1 86 [(0, .ptr 0 0 0), (5, .ptr 1 0 0), (6, A v1.1), (9, .ptr 5 1 0), (47, .ptr 0 0 0)] [sc 0 v39.2, some ⟨0, Enc.cells (T_impl_Batch.mk [] [])⟩, sl 0 x10, some ⟨0, dL v18.fColumns⟩, sl 0 x28, some ⟨1, [rf 3 0 1 v18.fColumns, rf 4 0 1 x28]⟩] ?_
 obtain ⟨v42, hv43, h⟩ := bindS h
 refine cB 48 0 0 (ok_spec_l20Rd_pick hv43) ?_
 refine veM [5, 9] 0 86 [(0, .ptr 0 0 0), (5, .ptr 1 0 0), (6, A v1.1), (9, .ptr 5 1 0), (48, I v42.1)] [sc 0 v42.2, some ⟨0, Enc.cells (T_impl_Batch.mk [] [])⟩, sl 0 x10, some ⟨0, dL v18.fColumns⟩, sl 0 x28, some ⟨1, [rf 3 0 1 v18.fColumns, rf 4 0 1 x28]⟩] ?_
 refine pwp_block ?_
 refine srveM [5, 9] 86 [(0, .ptr 0 0 0), (5, .ptr 1 0 0), (6, A v1.1), (9, .ptr 5 1 0), (48, I v42.1), (55, B (v42.1 == 0))] [sc 0 v42.2, some ⟨0, Enc.cells (T_impl_Batch.mk [] [])⟩, sl 0 x10, some ⟨0, dL v18.fColumns⟩, sl 0 x28, some ⟨1, [rf 3 0 1 v18.fColumns, rf 4 0 1 x28]⟩] ?_
 refine pc h (fun h => ?_) (fun h => ?_)
 refine rvM [5, 9] 2 86 [(5, .ptr 1 0 0), (6, A v1.1), (9, .ptr 5 1 0), (58, rf 4 0 1 x28)] [sc 0 v42.2, some ⟨0, Enc.cells (T_impl_Batch.mk [] [])⟩, sl 0 x10, some ⟨0, dL v18.fColumns⟩, sl 0 x28, some ⟨1, [rf 3 0 1 v18.fColumns, rf 4 0 1 x28]⟩] ?_
 refine opsP_E (dd := some 59) (x := .ref 6 0 0 1 ([true] : List Bool).length false) (bsl_N (cells := eL ([true] : List Bool)) τ_ok 59 6 (by first | exact pn hQ | exact pk hQ) (by kernel_rfl) (by kernel_rfl)) ?_
 refine vM [5, 9] 0 86 [(5, .ptr 1 0 0), (6, A v1.1), (9, .ptr 5 1 0), (58, rf 4 0 1 x28), (59, .ref 6 0 0 1 ([true] : List Bool).length false)] [sc 0 v42.2, some ⟨0, Enc.cells (T_impl_Batch.mk [] [])⟩, sl 0 x10, some ⟨0, dL v18.fColumns⟩, sl 0 x28, some ⟨1, [rf 3 0 1 v18.fColumns, rf 4 0 1 x28]⟩, some ⟨0, eL ([true] : List Bool)⟩] ?_
 refine opsP_imp (Imp.freezeB (v := 0) (cs := eL ([true] : List Bool)) (st' := ⟨86, [(5, .ptr 1 0 0), (6, A v1.1), (9, .ptr 5 1 0), (58, rf 4 0 1 x28), (59, A ([true] : List Bool))], [sc 0 v42.2, some ⟨0, Enc.cells (T_impl_Batch.mk [] [])⟩, sl 0 x10, some ⟨0, dL v18.fColumns⟩, sl 0 x28, some ⟨1, [rf 3 0 1 v18.fColumns, rf 4 0 1 x28]⟩, none]⟩) 6 0 (pn hQ) (by kernel_rfl) (eL_frz _) (wholeC (whole_noRef (by kernel_rfl)) (wholeC (whole_noRef (by kernel_rfl)) (wholeC (whole_noRef (by kernel_rfl)) (wholeC (whole_ne rfl) (wholeC (whole_is (eL_len ([true] : List Bool)).symm) wholeC0))))) (HpRel.frz rfl (Enc.frz _) (HpRel.frz rfl (Enc.frz _) (HpRel.frz rfl (eL_frz _) (HpRel.qu rfl (dL_qu _) (HpRel.frz rfl (eL_frz _) (HpRel.box rfl (CellRel.cons ⟨rfl, (whole_ne rfl), rfl⟩ (CellRel.cons ⟨rfl, (whole_ne rfl), rfl⟩ CellRel.nil)) (HpRel.key HpRel.nil))))))) (by kernel_rfl) rfl (p01 hQ)) ?_
 obtain ⟨v45, hv46, h⟩ := bindS h
 refine opsP_app τ_ok 60 4 0 (pn hQ) hv46 (by kernel_rfl) ?_
 refine veM [5, 9] 2 86 [(5, .ptr 1 0 0), (6, A v1.1), (9, .ptr 5 1 0)] [sc 0 v42.2, some ⟨0, Enc.cells (T_impl_Batch.mk [] [])⟩, sl 0 x10, some ⟨0, dL v18.fColumns⟩, sl 1 v45, some ⟨1, [rf 3 0 1 v18.fColumns, rf 4 1 1 v45]⟩, none] ?_
 exact ⟨(v42.2, v18.fColumns, v45), h, qt (it (st' := ⟨86, [(5, .ptr 1 0 0), (6, A v1.1), (9, .ptr 5 1 0)], [sc 0 v42.2, some ⟨0, Enc.cells (T_impl_Batch.mk [] [])⟩, sl 0 x10, some ⟨0, dL v18.fColumns⟩, sl 1 v45, some ⟨1, [rf 3 0 1 v18.fColumns, rf 4 1 1 v45]⟩, none]⟩) [5, 6, 9]) (qt (Imp.truncS (st' := ⟨86, [(5, .ptr 1 0 0), (6, A v1.1), (9, .ptr 5 1 0)], [sc 0 v42.2, some ⟨0, Enc.cells (T_impl_Batch.mk [] [])⟩, sl 0 x10, some ⟨0, dL v18.fColumns⟩, sl 1 v45, some ⟨1, [rf 3 0 1 v18.fColumns, rf 4 1 1 v45]⟩]⟩) 6 (pl hQ) (by kernel_rfl) (allBelow_mem (by exact (And.intro rfl (And.intro rfl (And.intro rfl trivial))))) (by exact (And.intro (rfl) (And.intro (rfl) (And.intro (frz_below (eL_frz _)) (And.intro (dL_below _ _) (And.intro (frz_below (eL_frz _)) (And.intro (rfl) trivial))))))) (by kernel_rfl)) (qt (Imp.reverB (cs := eL v45) (st' := ⟨86, [(5, .ptr 1 0 0), (6, A v1.1), (9, .ptr 5 1 0)], [sc 0 v42.2, some ⟨0, Enc.cells (T_impl_Batch.mk [] [])⟩, sl 0 x10, some ⟨0, dL v18.fColumns⟩, sl 0 v45, some ⟨1, [rf 3 0 1 v18.fColumns, rf 4 0 1 v45]⟩]⟩) 4 1 (by kernel_rfl) (qu_of_frzL (eL_frz _)) (HpRel.frz rfl (Enc.frz _) (HpRel.frz rfl (Enc.frz _) (HpRel.frz rfl (eL_frz _) (HpRel.qu rfl (dL_qu _) (HpRel.key (HpRel.box rfl (CellRel.cons ⟨rfl, rfl⟩ (CellRel.cons ⟨rfl, rfl⟩ CellRel.nil)) HpRel.nil)))))) (by kernel_rfl) (by rfl) (p01 hQ)) (qt (Imp.flat (xs := v18.fColumns) (st' := ⟨86, [(5, .ptr 1 0 0), (6, A v1.1), (9, .ptr 5 1 0)], [sc 0 v42.2, some ⟨0, Enc.cells (T_impl_Batch.mk [] [])⟩, sl 0 x10, sl 0 v18.fColumns, sl 0 v45, some ⟨1, [rf 3 0 1 v18.fColumns, rf 4 0 1 v45]⟩]⟩) 3 0 (by kernel_rfl) (by kernel_rfl)) (qt (Imp.to (st' := ⟨86, [(5, .ptr 1 0 0), (6, A v1.1), (9, .ptr 5 1 0)], [sc 0 v42.2, some ⟨0, Enc.cells (T_impl_Batch.mk [] [])⟩, sl 0 x10, sl 0 v18.fColumns, sl 0 v45, some ⟨1, [rf 3 0 1 v18.fColumns, rf 4 0 1 v45]⟩]⟩) [5, 6, 9] (by kernel_rfl)) (it [5, 6, 9])))))⟩
 refine srveM [5, 9] 86 [(0, .ptr 0 0 0), (5, .ptr 1 0 0), (6, A v1.1), (9, .ptr 5 1 0), (48, I v42.1), (62, B (v42.1 == 1))] [sc 0 v42.2, some ⟨0, Enc.cells (T_impl_Batch.mk [] [])⟩, sl 0 x10, some ⟨0, dL v18.fColumns⟩, sl 0 x28, some ⟨1, [rf 3 0 1 v18.fColumns, rf 4 0 1 x28]⟩] ?_
 refine pc h (fun h => ?_) (fun h => ?_)
 refine rvM [5, 9] 3 86 [(5, .ptr 1 0 0), (6, A v1.1), (9, .ptr 5 1 0), (65, rf 3 0 1 v18.fColumns), (66, E (T_impl_Value.mk 0 0 (ByteArray.mk #[])))] [sc 0 v42.2, some ⟨0, Enc.cells (T_impl_Batch.mk [] [])⟩, sl 0 x10, some ⟨0, dL v18.fColumns⟩, sl 0 x28, some ⟨1, [rf 3 0 1 v18.fColumns, rf 4 0 1 x28]⟩] ?_
 refine opsP_E (dd := some 67) (x := .ref 6 0 0 3 ([(T_impl_Value.mk 0 0 (ByteArray.mk #[]))] : List T_impl_Value).length false) (bsl_N (cells := eL ([(T_impl_Value.mk 0 0 (ByteArray.mk #[]))] : List T_impl_Value)) τ_ok 67 6 (by first | exact pn hQ | exact pk hQ) (by kernel_rfl) (by kernel_rfl)) ?_
 refine opsP_E (dd := some 68) (x := .ref 7 0 0 1 ([([(T_impl_Value.mk 0 0 (ByteArray.mk #[]))] : List T_impl_Value)] : List (List T_impl_Value)).length false) ((bslW_N (cells := [.ref 6 0 0 3 ([(T_impl_Value.mk 0 0 (ByteArray.mk #[]))] : List T_impl_Value).length false]) τ_ok 68 7 (by first | exact pn hQ | exact pk hQ) (by kernel_rfl) (by kernel_rfl)).then (H2 := [sc 0 v42.2, some ⟨0, Enc.cells (T_impl_Batch.mk [] [])⟩, sl 0 x10, some ⟨0, dL v18.fColumns⟩, sl 0 x28, some ⟨1, [rf 3 0 1 v18.fColumns, rf 4 0 1 x28]⟩, some ⟨1, []⟩, some ⟨0, dL ([([(T_impl_Value.mk 0 0 (ByteArray.mk #[]))] : List T_impl_Value)] : List (List T_impl_Value))⟩]) (HStep.nest0 (vs := [.ref 6 0 0 3 ([(T_impl_Value.mk 0 0 (ByteArray.mk #[]))] : List T_impl_Value).length false]) 7 0 (by kernel_rfl) (OutL.cons (OutP.listn (v := 0) (xs := ([(T_impl_Value.mk 0 0 (ByteArray.mk #[]))] : List T_impl_Value)) rfl (by kernel_rfl)) (OutL.nil _)) (by decide) (by decide) (by first | exact pn hQ | exact pk hQ) (by kernel_rfl) (by kernel_rfl))) ?_
 obtain ⟨v48, hv49, h⟩ := bindS h
 refine opsP_E (dd := some 69) (x := rf 3 1 1 v48) (appD_E τ_ok 69 3 0 7 0 (pn2 hQ) (by decide) hv49 (by kernel_rfl) (by kernel_rfl) (by kernel_rfl)) ?_
 refine veM [5, 9] 2 86 [(5, .ptr 1 0 0), (6, A v1.1), (9, .ptr 5 1 0)] [sc 0 v42.2, some ⟨0, Enc.cells (T_impl_Batch.mk [] [])⟩, sl 0 x10, some ⟨1, dL v48⟩, sl 0 x28, some ⟨1, [rf 3 1 1 v48, rf 4 0 1 x28]⟩, some ⟨1, []⟩, some ⟨1, []⟩] ?_
 exact ⟨(v42.2, v48, x28), h, qt (it (st' := ⟨86, [(5, .ptr 1 0 0), (6, A v1.1), (9, .ptr 5 1 0)], [sc 0 v42.2, some ⟨0, Enc.cells (T_impl_Batch.mk [] [])⟩, sl 0 x10, some ⟨1, dL v48⟩, sl 0 x28, some ⟨1, [rf 3 1 1 v48, rf 4 0 1 x28]⟩, some ⟨1, []⟩, some ⟨1, []⟩]⟩) [5, 6, 9]) (qt (Imp.truncS (st' := ⟨86, [(5, .ptr 1 0 0), (6, A v1.1), (9, .ptr 5 1 0)], [sc 0 v42.2, some ⟨0, Enc.cells (T_impl_Batch.mk [] [])⟩, sl 0 x10, some ⟨1, dL v48⟩, sl 0 x28, some ⟨1, [rf 3 1 1 v48, rf 4 0 1 x28]⟩]⟩) 6 (pl hQ) (by kernel_rfl) (allBelow_mem (by exact (And.intro rfl (And.intro rfl (And.intro rfl trivial))))) (by exact (And.intro (rfl) (And.intro (rfl) (And.intro (frz_below (eL_frz _)) (And.intro (dL_below _ _) (And.intro (frz_below (eL_frz _)) (And.intro (rfl) trivial))))))) (by kernel_rfl)) (qt (Imp.reverB (cs := dL v48) (st' := ⟨86, [(5, .ptr 1 0 0), (6, A v1.1), (9, .ptr 5 1 0)], [sc 0 v42.2, some ⟨0, Enc.cells (T_impl_Batch.mk [] [])⟩, sl 0 x10, some ⟨0, dL v48⟩, sl 0 x28, some ⟨1, [rf 3 0 1 v48, rf 4 0 1 x28]⟩]⟩) 3 1 (by kernel_rfl) (dL_qu _) (HpRel.frz rfl (Enc.frz _) (HpRel.frz rfl (Enc.frz _) (HpRel.frz rfl (eL_frz _) (HpRel.key (HpRel.frz rfl (eL_frz _) (HpRel.box rfl (CellRel.cons ⟨rfl, rfl⟩ (CellRel.cons ⟨rfl, rfl⟩ CellRel.nil)) HpRel.nil)))))) (by kernel_rfl) (by rfl) (p01 hQ)) (qt (Imp.flat (xs := v48) (st' := ⟨86, [(5, .ptr 1 0 0), (6, A v1.1), (9, .ptr 5 1 0)], [sc 0 v42.2, some ⟨0, Enc.cells (T_impl_Batch.mk [] [])⟩, sl 0 x10, sl 0 v48, sl 0 x28, some ⟨1, [rf 3 0 1 v48, rf 4 0 1 x28]⟩]⟩) 3 0 (by kernel_rfl) (by kernel_rfl)) (qt (Imp.to (st' := ⟨86, [(5, .ptr 1 0 0), (6, A v1.1), (9, .ptr 5 1 0)], [sc 0 v42.2, some ⟨0, Enc.cells (T_impl_Batch.mk [] [])⟩, sl 0 x10, sl 0 v48, sl 0 x28, some ⟨1, [rf 3 0 1 v48, rf 4 0 1 x28]⟩]⟩) [5, 6, 9] (by kernel_rfl)) (it [5, 6, 9])))))⟩
 refine srveM [5, 9] 86 [(0, .ptr 0 0 0), (5, .ptr 1 0 0), (6, A v1.1), (9, .ptr 5 1 0), (71, B (v42.1 == 2))] [sc 0 v42.2, some ⟨0, Enc.cells (T_impl_Batch.mk [] [])⟩, sl 0 x10, some ⟨0, dL v18.fColumns⟩, sl 0 x28, some ⟨1, [rf 3 0 1 v18.fColumns, rf 4 0 1 x28]⟩] ?_
 refine pc h (fun h => ?_) (fun h => ?_)
 refine srveM [5, 9] 86 [(0, .ptr 0 0 0), (5, .ptr 1 0 0), (6, A v1.1), (9, .ptr 5 1 0), (76, B (decide ((x28.length : Int) > 0)))] [sc 0 v42.2, some ⟨0, Enc.cells (T_impl_Batch.mk [] [])⟩, sl 0 x10, some ⟨0, dL v18.fColumns⟩, sl 0 x28, some ⟨1, [rf 3 0 1 v18.fColumns, rf 4 0 1 x28]⟩] ?_
 refine pc h (fun h => ?_) (fun h => ?_)
 refine ip 86 [(0, .ptr 0 0 0), (5, .ptr 1 0 0), (6, A v1.1), (9, .ptr 5 1 0)] [sc 0 v42.2, some ⟨0, Enc.cells (T_impl_Batch.mk [] [])⟩, sl 0 x10, some ⟨0, dL v18.fColumns⟩, sl 0 x28, some ⟨1, [rf 3 0 1 v18.fColumns, rf 4 0 1 x28]⟩] ?_
 refine pwp_imp (Imp.ghosts 1 (st' := ⟨86, [(0, .ptr 0 0 0), (5, .ptr 1 0 0), (6, A v1.1), (9, .ptr 5 1 0)], [sc 0 v42.2, some ⟨0, Enc.cells (T_impl_Batch.mk [] [])⟩, sl 0 x10, some ⟨0, dL v18.fColumns⟩, sl 0 x28, some ⟨1, [rf 3 0 1 v18.fColumns, rf 4 0 1 x28]⟩, some ⟨0, []⟩]⟩) (by kernel_rfl)) ?_
 refine pwp_any ([[3, 4, 5], [3, 4, 5], [3], [3, 6], [0], [0], [6], [6]]) ([[], [], [], [3, 6], [], [0], [], [6]]) rfl (by kernel_rfl) ?_
 refine qvM [5, 9] [3, 4, 5] (hD (hL (hR trivial))) 2 86 [(78, rf 3 0 1 v18.fColumns), (0, .ptr 0 0 0), (5, .ptr 1 0 0), (6, A v1.1), (9, .ptr 5 1 0)] [sc 0 v42.2, some ⟨0, Enc.cells (T_impl_Batch.mk [] [])⟩, sl 0 x10, some ⟨0, dL v18.fColumns⟩, sl 0 x28, some ⟨1, [rf 3 0 1 v18.fColumns, rf 4 0 1 x28]⟩, some ⟨0, []⟩] ?_
 obtain ⟨v52, hv53, h⟩ := bindS h
 refine qX (some 79) (.ptr 3 0 ((0 : Int).toNat * 1)) 86 [(79, .ptr 3 0 ((0 : Int).toNat * 1)), (0, .ptr 0 0 0), (5, .ptr 1 0 0), (6, A v1.1), (9, .ptr 5 1 0)] [sc 0 v42.2, some ⟨0, Enc.cells (T_impl_Batch.mk [] [])⟩, sl 0 x10, some ⟨0, dL v18.fColumns⟩, sl 0 x28, some ⟨1, [rf 3 0 1 v18.fColumns, rf 4 0 1 x28]⟩, some ⟨0, []⟩] (fun Γ' hΓ => CoreE.of_y (idrV_sound (n := v18.fColumns.length) τ_ok (by kernel_rfl) hv53 rfl)) (hD trivial) ?_
 refine qX (Hm' := [none, none, none, some ⟨0, setL (dL v18.fColumns) ((0 : Int).toNat * 1 + 0) [rf 6 1 3 v52]⟩, none, none, sl 1 v52]) (some 80) (rf 6 1 3 v52) 86 [(80, rf 6 1 3 v52), (0, .ptr 0 0 0), (5, .ptr 1 0 0), (6, A v1.1), (9, .ptr 5 1 0)] [sc 0 v42.2, some ⟨0, Enc.cells (T_impl_Batch.mk [] [])⟩, sl 0 x10, some ⟨0, setL (dL v18.fColumns) ((0 : Int).toNat * 1 + 0) [rf 6 1 3 v52]⟩, sl 0 x28, some ⟨1, [rf 3 0 1 v18.fColumns, rf 4 0 1 x28]⟩, sl 1 v52] (fun Γ' hΓ => CoreE.pre (H1 := [none, none, none, some ⟨0, setL (dL v18.fColumns) ((0 : Int).toNat * 1 + 0) [rf 6 1 3 v52]⟩, none, none, sl 1 v52]) (HStep.openL (cs0 := []) (xs := v18.fColumns) (s := 3) (n := v52.length) (f := false) (cs := eL v52) 3 0 6 0 0 hv53 (by kernel_rfl) (by kernel_rfl) (by kernel_rfl) (by kernel_rfl) (by decide) (by first | exact py hΓ hQ | exact pky hΓ hQ) (by kernel_rfl)) (ldo_E (xs := v18.fColumns) τ_ok 80 68 0 hv53 (by kernel_rfl) (by kernel_rfl) (by kernel_rfl))) (hO (hL trivial)) ?_
 refine qvM [5, 9] [0] (hB trivial) 1 86 [(81, .ptr 0 0 0), (80, rf 6 1 3 v52), (5, .ptr 1 0 0), (6, A v1.1), (9, .ptr 5 1 0)] [sc 0 v42.2, some ⟨0, Enc.cells (T_impl_Batch.mk [] [])⟩, sl 0 x10, some ⟨0, setL (dL v18.fColumns) ((0 : Int).toNat * 1 + 0) [rf 6 1 3 v52]⟩, sl 0 x28, some ⟨1, [rf 3 0 1 v18.fColumns, rf 4 0 1 x28]⟩, sl 1 v52] ?_
 obtain ⟨v54, hv55, h⟩ := bindS h
 refine qX (some 82) (E v54.1) 86 [(82, E v54.1), (80, rf 6 1 3 v52), (5, .ptr 1 0 0), (6, A v1.1), (9, .ptr 5 1 0)] [sc 0 v54.2, some ⟨0, Enc.cells (T_impl_Batch.mk [] [])⟩, sl 0 x10, some ⟨0, setL (dL v18.fColumns) ((0 : Int).toNat * 1 + 0) [rf 6 1 3 v52]⟩, sl 0 x28, some ⟨1, [rf 3 0 1 v18.fColumns, rf 4 0 1 x28]⟩, sl 1 v52] (fun Γ' hΓ => callB_E τ 82 0 0 (ok_spec_l20Value hv55) (FzTo.frz rfl) rfl (by kernel_rfl)) (hB trivial) ?_
 obtain ⟨v56, hv57, h⟩ := bindS h
 refine qX (some 83) (.ptr 6 1 ((0 : Int).toNat * 3)) 86 [(83, .ptr 6 1 ((0 : Int).toNat * 3)), (82, E v54.1), (5, .ptr 1 0 0), (6, A v1.1), (9, .ptr 5 1 0)] [sc 0 v54.2, some ⟨0, Enc.cells (T_impl_Batch.mk [] [])⟩, sl 0 x10, some ⟨0, setL (dL v18.fColumns) ((0 : Int).toNat * 1 + 0) [rf 6 1 3 v52]⟩, sl 0 x28, some ⟨1, [rf 3 0 1 v18.fColumns, rf 4 0 1 x28]⟩, sl 1 v52] (fun Γ' hΓ => CoreE.of_y (idrV_sound (n := v52.length) τ_ok (by kernel_rfl) hv57 rfl)) (hL trivial) ?_
 refine qX none (.any) 86 [(5, .ptr 1 0 0), (6, A v1.1), (9, .ptr 5 1 0)] [sc 0 v54.2, some ⟨0, Enc.cells (T_impl_Batch.mk [] [])⟩, sl 0 x10, some ⟨0, setL (dL v18.fColumns) ((0 : Int).toNat * 1 + 0) [rf 6 1 3 v52]⟩, sl 0 x28, some ⟨1, [rf 3 0 1 v18.fColumns, rf 4 0 1 x28]⟩, some ⟨1, eL (v52.set (0 : Int).toNat v54.1)⟩] (fun Γ' hΓ => ste_E (vs := [I v54.1.fKind, I v54.1.fN, S v54.1.fS]) τ_ok 90 6 1 0 v54.1 hv57 (by kernel_rfl) (by kernel_rfl) (by kernel_rfl)) (hL trivial) ?_
 refine qA_ren (st' := ⟨86, [(5, .ptr 1 0 0), (6, A v1.1), (9, .ptr 5 1 0)], [sc 0 v54.2, some ⟨0, Enc.cells (T_impl_Batch.mk [] [])⟩, sl 0 x10, some ⟨0, setL (dL v18.fColumns) ((0 : Int).toNat * 1 + 0) [rf 6 1 3 v52]⟩, sl 0 x28, some ⟨1, [rf 3 0 1 v18.fColumns, rf 4 0 1 x28]⟩, some ⟨1, eL (v52.set (0 : Int).toNat v54.1)⟩]⟩) 6 (v52.set (0 : Int).toNat v54.1).length (renC trivial (renC trivial (renC trivial renC0))) (by kernel_rfl) ?_
 refine qA_end ?_
 refine io 86 [(5, .ptr 1 0 0), (6, A v1.1), (9, .ptr 5 1 0)] [sc 0 v54.2, some ⟨0, Enc.cells (T_impl_Batch.mk [] [])⟩, sl 0 x10, some ⟨0, setL (dL v18.fColumns) ((0 : Int).toNat * 1 + 0) [rf 6 1 3 v52]⟩, sl 0 x28, some ⟨1, [rf 3 0 1 v18.fColumns, rf 4 0 1 x28]⟩, some ⟨1, eL (v52.set (0 : Int).toNat v54.1)⟩] ?_
 refine opsP_imp (Imp.ofH (HStep.nestL (xs := v18.fColumns) (vs := [rf 6 1 3 v52]) (H' := [sc 0 v54.2, some ⟨0, Enc.cells (T_impl_Batch.mk [] [])⟩, sl 0 x10, some ⟨0, dL (v18.fColumns.set (0 : Int).toNat (v52.set (0 : Int).toNat v54.1))⟩, sl 0 x28, some ⟨1, [rf 3 0 1 v18.fColumns, rf 4 0 1 x28]⟩, some ⟨2, []⟩]) 3 0 0 (v52.set (0 : Int).toNat v54.1) hv53 (by kernel_rfl) (OutL.cons (OutP.listn (v := 1) (xs := (v52.set (0 : Int).toNat v54.1)) (by simp only [List.length_set]) (by kernel_rfl)) (OutL.nil _)) (by decide) (by decide) (by first | exact pn hQ | exact pk hQ) (by kernel_rfl) (by kernel_rfl) (by kernel_rfl) (by kernel_rfl))) ?_
 refine io 86 [(5, .ptr 1 0 0), (6, A v1.1), (9, .ptr 5 1 0)] [sc 0 v54.2, some ⟨0, Enc.cells (T_impl_Batch.mk [] [])⟩, sl 0 x10, some ⟨0, dL (v18.fColumns.set (0 : Int).toNat (v52.set (0 : Int).toNat v54.1))⟩, sl 0 x28, some ⟨1, [rf 3 0 1 v18.fColumns, rf 4 0 1 x28]⟩, some ⟨2, []⟩] ?_
 refine opsP_imp (Imp.of_eq (st' := ⟨86, [(5, .ptr 1 0 0), (6, A v1.1), (9, .ptr 5 1 0)], [sc 0 v54.2, some ⟨0, Enc.cells (T_impl_Batch.mk [] [])⟩, sl 0 x10, some ⟨0, dL (v18.fColumns.set (0 : Int).toNat (v52.set (0 : Int).toNat v54.1))⟩, sl 0 x28, some ⟨1, [.ref 3 0 0 1 (v18.fColumns.set (0 : Int).toNat (v52.set (0 : Int).toNat v54.1)).length false, rf 4 0 1 x28]⟩, some ⟨2, []⟩]⟩) (by simp only [List.length_set])) ?_
 refine opsP_end rfl ?_
 exact ⟨(v54.2, (v18.fColumns.set (0 : Int).toNat (v52.set (0 : Int).toNat v54.1)), x28), h, qt (it (st' := ⟨86, [(5, .ptr 1 0 0), (6, A v1.1), (9, .ptr 5 1 0)], [sc 0 v54.2, some ⟨0, Enc.cells (T_impl_Batch.mk [] [])⟩, sl 0 x10, some ⟨0, dL (v18.fColumns.set (0 : Int).toNat (v52.set (0 : Int).toNat v54.1))⟩, sl 0 x28, some ⟨1, [.ref 3 0 0 1 (v18.fColumns.set (0 : Int).toNat (v52.set (0 : Int).toNat v54.1)).length false, rf 4 0 1 x28]⟩, some ⟨2, []⟩]⟩) [5, 6, 9]) (qt (Imp.truncS (st' := ⟨86, [(5, .ptr 1 0 0), (6, A v1.1), (9, .ptr 5 1 0)], [sc 0 v54.2, some ⟨0, Enc.cells (T_impl_Batch.mk [] [])⟩, sl 0 x10, some ⟨0, dL (v18.fColumns.set (0 : Int).toNat (v52.set (0 : Int).toNat v54.1))⟩, sl 0 x28, some ⟨1, [.ref 3 0 0 1 (v18.fColumns.set (0 : Int).toNat (v52.set (0 : Int).toNat v54.1)).length false, rf 4 0 1 x28]⟩]⟩) 6 (pl hQ) (by kernel_rfl) (allBelow_mem (by exact (And.intro rfl (And.intro rfl (And.intro rfl trivial))))) (by exact (And.intro (rfl) (And.intro (rfl) (And.intro (frz_below (eL_frz _)) (And.intro (dL_below _ _) (And.intro (frz_below (eL_frz _)) (And.intro (rfl) trivial))))))) (by kernel_rfl)) (qt (Imp.flat (xs := (v18.fColumns.set (0 : Int).toNat (v52.set (0 : Int).toNat v54.1))) (st' := ⟨86, [(5, .ptr 1 0 0), (6, A v1.1), (9, .ptr 5 1 0)], [sc 0 v54.2, some ⟨0, Enc.cells (T_impl_Batch.mk [] [])⟩, sl 0 x10, some ⟨0, eL (v18.fColumns.set (0 : Int).toNat (v52.set (0 : Int).toNat v54.1))⟩, sl 0 x28, some ⟨1, [.ref 3 0 0 1 (v18.fColumns.set (0 : Int).toNat (v52.set (0 : Int).toNat v54.1)).length false, rf 4 0 1 x28]⟩]⟩) 3 0 (by kernel_rfl) (by kernel_rfl)) (qt (Imp.to (st' := ⟨86, [(5, .ptr 1 0 0), (6, A v1.1), (9, .ptr 5 1 0)], [sc 0 v54.2, some ⟨0, Enc.cells (T_impl_Batch.mk [] [])⟩, sl 0 x10, some ⟨0, eL (v18.fColumns.set (0 : Int).toNat (v52.set (0 : Int).toNat v54.1))⟩, sl 0 x28, some ⟨1, [.ref 3 0 0 1 (v18.fColumns.set (0 : Int).toNat (v52.set (0 : Int).toNat v54.1)).length false, rf 4 0 1 x28]⟩]⟩) [5, 6, 9] (by kernel_rfl)) (it [5, 6, 9]))))⟩
 refine pwp_skip ?_
 exact ⟨(v42.2, v18.fColumns, x28), h, qt (it (st' := ⟨86, [(5, .ptr 1 0 0), (6, A v1.1), (9, .ptr 5 1 0)], [sc 0 v42.2, some ⟨0, Enc.cells (T_impl_Batch.mk [] [])⟩, sl 0 x10, some ⟨0, dL v18.fColumns⟩, sl 0 x28, some ⟨1, [rf 3 0 1 v18.fColumns, rf 4 0 1 x28]⟩]⟩) [5, 6, 9]) (qt (Imp.flat (xs := v18.fColumns) (st' := ⟨86, [(5, .ptr 1 0 0), (6, A v1.1), (9, .ptr 5 1 0)], [sc 0 v42.2, some ⟨0, Enc.cells (T_impl_Batch.mk [] [])⟩, sl 0 x10, sl 0 v18.fColumns, sl 0 x28, some ⟨1, [rf 3 0 1 v18.fColumns, rf 4 0 1 x28]⟩]⟩) 3 0 (by kernel_rfl) (by kernel_rfl)) (qt (Imp.to (st' := ⟨86, [(5, .ptr 1 0 0), (6, A v1.1), (9, .ptr 5 1 0)], [sc 0 v42.2, some ⟨0, Enc.cells (T_impl_Batch.mk [] [])⟩, sl 0 x10, sl 0 v18.fColumns, sl 0 x28, some ⟨1, [rf 3 0 1 v18.fColumns, rf 4 0 1 x28]⟩]⟩) [5, 6, 9] (by kernel_rfl)) (it [5, 6, 9])))⟩
 refine rvM [5, 9] 4 86 [(5, .ptr 1 0 0), (6, A v1.1), (9, .ptr 5 1 0), (50, rf 3 0 1 v18.fColumns), (52, rf 3 0 1 v18.fColumns)] [sc 0 v42.2, some ⟨0, Enc.cells (T_impl_Batch.mk [] [])⟩, sl 0 x10, some ⟨0, dL v18.fColumns⟩, sl 0 x28, some ⟨1, [rf 3 0 1 v18.fColumns, rf 4 0 1 x28]⟩] ?_
 refine opsP_imp (Imp.flat (xs := v18.fColumns) (st' := ⟨86, [(5, .ptr 1 0 0), (6, A v1.1), (9, .ptr 5 1 0), (50, rf 3 0 1 v18.fColumns), (52, rf 3 0 1 v18.fColumns)], [sc 0 v42.2, some ⟨0, Enc.cells (T_impl_Batch.mk [] [])⟩, sl 0 x10, sl 0 v18.fColumns, sl 0 x28, some ⟨1, [rf 3 0 1 v18.fColumns, rf 4 0 1 x28]⟩]⟩) 3 0 (by kernel_rfl) (by kernel_rfl)) ?_
 obtain ⟨v58, hv59, h⟩ := bindS h
 refine opsP_E (dd := some 53) (x := rf 3 1 1 v58) (apR_E τ_ok 53 3 0 v18.fColumns.length (pn hQ) hv59 (Nat.le_refl _) (by kernel_rfl)) ?_
 refine veM [5, 9] 2 86 [(5, .ptr 1 0 0), (6, A v1.1), (9, .ptr 5 1 0)] [sc 0 v42.2, some ⟨0, Enc.cells (T_impl_Batch.mk [] [])⟩, sl 0 x10, sl 1 v58, sl 0 x28, some ⟨1, [rf 3 1 1 v58, rf 4 0 1 x28]⟩] ?_
 exact ⟨(v42.2, v58, x28), h, qt (it (st' := ⟨86, [(5, .ptr 1 0 0), (6, A v1.1), (9, .ptr 5 1 0)], [sc 0 v42.2, some ⟨0, Enc.cells (T_impl_Batch.mk [] [])⟩, sl 0 x10, sl 1 v58, sl 0 x28, some ⟨1, [rf 3 1 1 v58, rf 4 0 1 x28]⟩]⟩) [5, 6, 9]) (qt (Imp.reverB (cs := eL v58) (st' := ⟨86, [(5, .ptr 1 0 0), (6, A v1.1), (9, .ptr 5 1 0)], [sc 0 v42.2, some ⟨0, Enc.cells (T_impl_Batch.mk [] [])⟩, sl 0 x10, sl 0 v58, sl 0 x28, some ⟨1, [rf 3 0 1 v58, rf 4 0 1 x28]⟩]⟩) 3 1 (by kernel_rfl) (qu_of_frzL (eL_frz _)) (HpRel.frz rfl (Enc.frz _) (HpRel.frz rfl (Enc.frz _) (HpRel.frz rfl (eL_frz _) (HpRel.key (HpRel.frz rfl (eL_frz _) (HpRel.box rfl (CellRel.cons ⟨rfl, rfl⟩ (CellRel.cons ⟨rfl, rfl⟩ CellRel.nil)) HpRel.nil)))))) (by kernel_rfl) (by rfl) (p01 hQ)) (it [5, 6, 9]))⟩
 refine pwp_skip ?_
 exact ⟨(v39.2, v18.fColumns, x28), h, qt (it (st' := ⟨86, [(5, .ptr 1 0 0), (6, A v1.1), (9, .ptr 5 1 0)], [sc 0 v39.2, some ⟨0, Enc.cells (T_impl_Batch.mk [] [])⟩, sl 0 x10, some ⟨0, dL v18.fColumns⟩, sl 0 x28, some ⟨1, [rf 3 0 1 v18.fColumns, rf 4 0 1 x28]⟩]⟩) [5, 6, 9]) (qt (Imp.flat (xs := v18.fColumns) (st' := ⟨86, [(5, .ptr 1 0 0), (6, A v1.1), (9, .ptr 5 1 0)], [sc 0 v39.2, some ⟨0, Enc.cells (T_impl_Batch.mk [] [])⟩, sl 0 x10, sl 0 v18.fColumns, sl 0 x28, some ⟨1, [rf 3 0 1 v18.fColumns, rf 4 0 1 x28]⟩]⟩) 3 0 (by kernel_rfl) (by kernel_rfl)) (qt (Imp.to (st' := ⟨86, [(5, .ptr 1 0 0), (6, A v1.1), (9, .ptr 5 1 0)], [sc 0 v39.2, some ⟨0, Enc.cells (T_impl_Batch.mk [] [])⟩, sl 0 x10, sl 0 v18.fColumns, sl 0 x28, some ⟨1, [rf 3 0 1 v18.fColumns, rf 4 0 1 x28]⟩]⟩) [5, 6, 9] (by kernel_rfl)) (it [5, 6, 9])))⟩
 rintro ⟨x36, x37, x38⟩ h
 dsimp only at h ⊢
 unfold spec_l20Batch_j2 at h
 refine pwp_seq ?_
 refine ip 86 [(5, .ptr 1 0 0), (6, A v1.1), (9, .ptr 5 1 0)] [sc 0 x36, some ⟨0, Enc.cells (T_impl_Batch.mk [] [])⟩, sl 0 x10, sl 0 x37, sl 0 x38, some ⟨1, [rf 3 0 1 x37, rf 4 0 1 x38]⟩] ?_
 refine pwp_imp (Imp.freezeB (v := 0) (cs := eL x37) (st' := ⟨86, [(5, .ptr 1 0 0), (6, A v1.1), (9, .ptr 5 1 0)], [sc 0 x36, some ⟨0, Enc.cells (T_impl_Batch.mk [] [])⟩, sl 0 x10, none, sl 0 x38, some ⟨1, [A (({ v18 with fColumns := x37 } : T_impl_Batch).fColumns), rf 4 0 1 x38]⟩]⟩) 3 0 (pn hQ) (by kernel_rfl) (eL_frz _) (wholeC (whole_noRef (by kernel_rfl)) (wholeC (whole_noRef (by kernel_rfl)) (wholeC (whole_noRef (by kernel_rfl)) wholeC0))) (HpRel.frz rfl (Enc.frz _) (HpRel.frz rfl (Enc.frz _) (HpRel.frz rfl (eL_frz _) (HpRel.key (HpRel.frz rfl (eL_frz _) (HpRel.box rfl (CellRel.cons ⟨rfl, (whole_is (eL_len x37).symm), rfl⟩ (CellRel.cons ⟨rfl, (whole_ne rfl), rfl⟩ CellRel.nil)) HpRel.nil)))))) (by kernel_rfl) rfl (p01 hQ)) ?_
 refine ip 86 [(5, .ptr 1 0 0), (6, A v1.1), (9, .ptr 5 1 0)] [sc 0 x36, some ⟨0, Enc.cells (T_impl_Batch.mk [] [])⟩, sl 0 x10, none, sl 0 x38, some ⟨1, [A (({ v18 with fColumns := x37 } : T_impl_Batch).fColumns), rf 4 0 1 x38]⟩] ?_
 refine pwp_imp (Imp.freezeB (v := 0) (cs := eL x38) (st' := ⟨86, [(5, .ptr 1 0 0), (6, A v1.1), (9, .ptr 5 1 0)], [sc 0 x36, some ⟨0, Enc.cells (T_impl_Batch.mk [] [])⟩, sl 0 x10, none, none, some ⟨1, Enc.cells ({ (({ v18 with fColumns := x37 } : T_impl_Batch) : T_impl_Batch) with fPicked := x38 } : T_impl_Batch)⟩]⟩) 4 0 (pn hQ) (by kernel_rfl) (eL_frz _) (wholeC (whole_noRef (by kernel_rfl)) (wholeC (whole_noRef (by kernel_rfl)) (wholeC (whole_noRef (by kernel_rfl)) wholeC0))) (HpRel.frz rfl (Enc.frz _) (HpRel.frz rfl (Enc.frz _) (HpRel.frz rfl (eL_frz _) (HpRel.none rfl (HpRel.key (HpRel.box rfl (CellRel.cons ⟨rfl, trivial, rfl⟩ (CellRel.cons ⟨rfl, (whole_is (eL_len x38).symm), rfl⟩ CellRel.nil)) HpRel.nil)))))) (by kernel_rfl) rfl (p01 hQ)) ?_
 refine ip 86 [(5, .ptr 1 0 0), (6, A v1.1), (9, .ptr 5 1 0)] [sc 0 x36, some ⟨0, Enc.cells (T_impl_Batch.mk [] [])⟩, sl 0 x10, none, none, some ⟨1, Enc.cells ({ (({ v18 with fColumns := x37 } : T_impl_Batch) : T_impl_Batch) with fPicked := x38 } : T_impl_Batch)⟩] ?_
 refine pwp_any ([[], [5], [], [1]]) ([[], [], [], [1]]) rfl (by kernel_rfl) ?_
 refine qvM [5, 9] [] trivial 1 86 [(84, A v1.1), (5, .ptr 1 0 0), (9, .ptr 5 1 0)] [sc 0 x36, some ⟨0, Enc.cells (T_impl_Batch.mk [] [])⟩, sl 0 x10, none, none, some ⟨1, Enc.cells ({ (({ v18 with fColumns := x37 } : T_impl_Batch) : T_impl_Batch) with fPicked := x38 } : T_impl_Batch)⟩] ?_
 refine qvM [5, 9] [5] (hB trivial) 1 86 [(85, E ({ (({ v18 with fColumns := x37 } : T_impl_Batch) : T_impl_Batch) with fPicked := x38 } : T_impl_Batch)), (84, A v1.1), (5, .ptr 1 0 0)] [sc 0 x36, some ⟨0, Enc.cells (T_impl_Batch.mk [] [])⟩, sl 0 x10, none, none, some ⟨1, Enc.cells ({ (({ v18 with fColumns := x37 } : T_impl_Batch) : T_impl_Batch) with fPicked := x38 } : T_impl_Batch)⟩] ?_
 refine qvM [5, 9] [] trivial 1 86 [(4, A v1.1), (85, E ({ (({ v18 with fColumns := x37 } : T_impl_Batch) : T_impl_Batch) with fPicked := x38 } : T_impl_Batch)), (5, .ptr 1 0 0)] [sc 0 x36, some ⟨0, Enc.cells (T_impl_Batch.mk [] [])⟩, sl 0 x10, none, none, some ⟨1, Enc.cells ({ (({ v18 with fColumns := x37 } : T_impl_Batch) : T_impl_Batch) with fPicked := x38 } : T_impl_Batch)⟩] ?_
 refine qX (Hm' := [none, some ⟨0, Enc.cells ({ (({ v18 with fColumns := x37 } : T_impl_Batch) : T_impl_Batch) with fPicked := x38 } : T_impl_Batch)⟩, none, none, none, none]) none (.any) 86 [(4, A v1.1), (5, .ptr 1 0 0)] [sc 0 x36, some ⟨0, Enc.cells ({ (({ v18 with fColumns := x37 } : T_impl_Batch) : T_impl_Batch) with fPicked := x38 } : T_impl_Batch)⟩, sl 0 x10, none, none, some ⟨1, Enc.cells ({ (({ v18 with fColumns := x37 } : T_impl_Batch) : T_impl_Batch) with fPicked := x38 } : T_impl_Batch)⟩] (fun Γ' hΓ => sto_E τ_ok 1 0 (by kernel_rfl)) (hB trivial) ?_
 refine qn 86 [(4, A v1.1), (5, .ptr 1 0 0)] [sc 0 x36, some ⟨0, Enc.cells ({ (({ v18 with fColumns := x37 } : T_impl_Batch) : T_impl_Batch) with fPicked := x38 } : T_impl_Batch)⟩, sl 0 x10, none, none, some ⟨1, Enc.cells ({ (({ v18 with fColumns := x37 } : T_impl_Batch) : T_impl_Batch) with fPicked := x38 } : T_impl_Batch)⟩] ?_
 have h := si h
 subst h
 exact pwp_ret ⟨.inr rfl, .tup [A v1.1, E ({ (({ v18 with fColumns := x37 } : T_impl_Batch) : T_impl_Batch) with fPicked := x38 } : T_impl_Batch)], _, 0, by kernel_rfl, (OutP.tup (OutL.cons (OutP.frz (by kernel_rfl)) (OutL.cons (OutP.frz (by kernel_rfl)) (OutL.nil _)))), by decide, by decide, by kernel_rfl⟩
def impl_Batch_fits_l1 (a0 : T_impl_Batch) (a1 : List T_impl_Column) : Nat → Int → Option Bool
 | 0, _ => none
 | f4 + 1, x3 => bif (decide (x3 < (a0.fPicked.length : Int))) then (impl_Batch_row a0 x3).bind fun v7 => (impl_RowFits a1 v7).bind fun v9 => bif (!v9) then some false else (impl_Batch_fits_l1 a0 a1 f4) (w64 (x3 + 1)) else some true
def impl_Batch_fits_j0 (a0 : T_impl_Batch) (a1 : List T_impl_Column) (x1 : Bool) : Option Bool := bif x1 then some false else impl_Batch_fits_l1 a0 a1 FUEL 0
def impl_Batch_fits (a0 : T_impl_Batch) (a1 : List T_impl_Column) : Option Bool := (impl_BatchOk a0).bind fun v12 => bif (!v12) then impl_Batch_fits_j0 a0 a1 true else (impl_ColumnsOk a1).bind fun v14 => impl_Batch_fits_j0 a0 a1 (!v14)
theorem ok_impl_Batch_fits {a0 : T_impl_Batch} {a1 : List T_impl_Column} {y : Bool} (h : impl_Batch_fits a0 a1 = some y) : OK Tryz.prog 80 [E a0, A a1] (B y) := by
 refine ow Tryz.func80 fun Γ hX => ?_
 unfold impl_Batch_fits at h
 refine srve 27 [(1, A a1), (2, pf a0 0)] [] ?_
 refine pwp_seq ?_
 refine pwp_seq ?_
 refine pwp_join (σ := Bool) (fun x1 => (⟨27, [(1, A a1), (2, pf a0 0), (13, B x1)], []⟩ : St)) (fun x1 => impl_Batch_fits_j0 a0 a1 x1 = some y) ?_ ?_
 refine rv 1 27 [(1, A a1), (2, pf a0 0), (6, E a0)] [] ?_
 obtain ⟨v12, hv13, h⟩ := bindS h
 refine cF 7 (ok_impl_BatchOk hv13) ?_
 refine v 2 27 [(1, A a1), (2, pf a0 0), (9, B (!v12))] [] ?_
 rcases fk (!v12) with hc16 | hc16
 replace h := bT hc16 h
 rw [hc16]
 refine ve 4 27 [(1, A a1), (2, pf a0 0), (13, B true)] [] ?_
 exact ⟨true, h, it [1, 2, 13]⟩
 replace h := bF hc16 h
 rw [hc16]
 refine v 1 27 [(1, A a1), (2, pf a0 0), (9, B false), (10, A a1)] [] ?_
 obtain ⟨v14, hv15, h⟩ := bindS h
 refine cF 11 (ok_impl_ColumnsOk hv15) ?_
 refine ve 2 27 [(1, A a1), (2, pf a0 0), (13, B (!v14))] [] ?_
 exact ⟨(!v14), h, it [1, 2, 13]⟩
 rintro x1 h
 unfold impl_Batch_fits_j0 at h
 refine pc h (fun h => ?_) (fun h => ?_)
 refine srve 27 [(4, B false)] [] ?_
 cases h
 exact pwp_ret rz
 refine pwp_skip ?_
 refine pwp_seq ?_
 refine srve 27 [(1, A a1), (2, pf a0 0), (16, I (a0.fPicked.length : Int)), (17, I 0)] [] ?_
 refine pwp_block ?_
 refine pwp_loop (ι := Nat × Int) (fun (f4, x3) => (⟨27, [(1, A a1), (2, pf a0 0), (16, I (a0.fPicked.length : Int)), (17, I x3)], []⟩ : St)) (fun (f4, x3) => impl_Batch_fits_l1 a0 a1 f4 x3 = some y) Prod.fst (FUEL, 0) h (it [1, 2, 16, 17]) ?_
 rintro ⟨f4, x3⟩ h
 dsimp only at h ⊢
 rcases f4 with _ | f4
 cases h
 rw [impl_Batch_fits_l1] at h
 refine srve 27 [(1, A a1), (2, pf a0 0), (16, I (a0.fPicked.length : Int)), (17, I x3), (18, B (decide (x3 < (a0.fPicked.length : Int))))] [] ?_
 refine pwp_seq ?_
 refine pc h (fun h => ?_) (fun h => ?_)
 refine pwp_skip ?_
 refine pwp_seq ?_
 refine pwp_block ?_
 refine srve 27 [(1, A a1), (2, pf a0 0), (5, I x3), (16, I (a0.fPicked.length : Int)), (17, I x3)] [] ?_
 refine srv 3 27 [(1, A a1), (2, pf a0 0), (16, I (a0.fPicked.length : Int)), (17, I x3), (20, A a1), (21, E a0), (22, I x3)] [] ?_
 obtain ⟨v7, hv8, h⟩ := bindS h
 refine cFo 23 (ok_impl_Batch_row hv8) ?_
 obtain ⟨v9, hv10, h⟩ := bindS h
 refine cF 24 (ok_impl_RowFits hv10) ?_
 refine ve 1 27 [(1, A a1), (2, pf a0 0), (16, I (a0.fPicked.length : Int)), (17, I x3), (25, B (!v9))] [] ?_
 refine pc h (fun h => ?_) (fun h => ?_)
 refine srve 27 [(4, B false)] [] ?_
 cases h
 exact pwp_ret rz
 refine pwp_skip ?_
 refine rve 27 [(1, A a1), (2, pf a0 0), (16, I (a0.fPicked.length : Int)), (17, I (w64 (x3 + 1)))] [] ?_
 exact ⟨(f4, (w64 (x3 + 1))), h, Nat.lt_succ_self _, it [1, 2, 16, 17]⟩
 refine pwp_exit ?_
 refine srve 27 [(4, B true)] [] ?_
 cases h
 exact pwp_ret rz
def spec_l9Values_l3 (a0 : T_impl_Batch) (x3 : List (List T_impl_Value)) (v7 : T_impl_Part) (x13 : Int) (x14 : List T_impl_Value) (K16 : Int → (List T_impl_Value) → Option (List T_impl_Value)) : Nat → Int → (List T_impl_Value) → Option (List T_impl_Value)
 | 0, _, _ => none
 | f24 + 1, x22, x23 => bif (decide (x22 < (x3.length : Int))) then (getI x3 x22).bind fun v27 => (getI v27 x13).bind fun v29 => (app x23 ([v29] : List T_impl_Value)).bind fun v31 => (spec_l9Values_l3 a0 x3 v7 x13 x14 K16 f24) (w64 (x22 + 1)) v31 else (spec_l9Row a0 x13).bind fun v33 => (spec_l4Do v33 x23 v7).bind fun v35 => (getI v35 (w64 ((v35.length : Int) - 1))).bind fun v37 => (app x14 ([v37] : List T_impl_Value)).bind fun v39 => K16 (w64 (x13 + 1)) v39
def spec_l9Values_l2 (a0 : T_impl_Batch) (x2 : Int) (x3 : List (List T_impl_Value)) (K5 : Int → (List (List T_impl_Value)) → Option (List T_impl_Value)) (v7 : T_impl_Part) (x9 : Int) : Nat → Int → (List T_impl_Value) → Option (List T_impl_Value)
 | 0, _, _ => none
 | f15 + 1, x13, x14 => bif (decide (x13 < (a0.fPicked.length : Int))) then spec_l9Values_l3 a0 x3 v7 x13 x14 (spec_l9Values_l2 a0 x2 x3 K5 v7 x9 f15) FUEL (w64 ((x3.length : Int) - x9)) ([] : List T_impl_Value) else (slI x3 none (some (w64 ((x3.length : Int) - x9))) none).bind fun v41 => (appT x3 ([x14] : List (List T_impl_Value)) v41.length).bind fun v43 => K5 (w64 (x2 + 1)) v43
def spec_l9Values_j1 (a0 : T_impl_Batch) (x2 : Int) (x3 : List (List T_impl_Value)) (K5 : Int → (List (List T_impl_Value)) → Option (List T_impl_Value)) (v7 : T_impl_Part) (x9 : Int) : Option (List T_impl_Value) := spec_l9Values_l2 a0 x2 x3 K5 v7 x9 FUEL 0 ([] : List T_impl_Value)
def spec_l9Values_j5 (a0 : T_impl_Batch) (x2 : Int) (x3 : List (List T_impl_Value)) (K5 : Int → (List (List T_impl_Value)) → Option (List T_impl_Value)) (v7 : T_impl_Part) (x47 : Bool) : Option (List T_impl_Value) := bif x47 then spec_l9Values_j1 a0 x2 x3 K5 v7 1 else spec_l9Values_j1 a0 x2 x3 K5 v7 0
def spec_l9Values_j4 (a0 : T_impl_Batch) (x2 : Int) (x3 : List (List T_impl_Value)) (K5 : Int → (List (List T_impl_Value)) → Option (List T_impl_Value)) (v7 : T_impl_Part) (x45 : Bool) : Option (List T_impl_Value) := bif x45 then spec_l9Values_j1 a0 x2 x3 K5 v7 2 else bif (v7.fKind == 7) then spec_l9Values_j5 a0 x2 x3 K5 v7 (v7.fKind == 7) else spec_l9Values_j5 a0 x2 x3 K5 v7 (v7.fKind == 8)
def spec_l9Values_l0 (a0 : T_impl_Batch) (a1 : List T_impl_Part) : Nat → Int → (List (List T_impl_Value)) → Option (List T_impl_Value)
 | 0, _, _ => none
 | f4 + 1, x2, x3 => bif (decide (x2 < (a1.length : Int))) then (getI a1 x2).bind fun v7 => bif (v7.fKind == 3) then spec_l9Values_j4 a0 x2 x3 (spec_l9Values_l0 a0 a1 f4) v7 (v7.fKind == 3) else bif (v7.fKind == 4) then spec_l9Values_j4 a0 x2 x3 (spec_l9Values_l0 a0 a1 f4) v7 (v7.fKind == 4) else bif (v7.fKind == 5) then spec_l9Values_j4 a0 x2 x3 (spec_l9Values_l0 a0 a1 f4) v7 (v7.fKind == 5) else spec_l9Values_j4 a0 x2 x3 (spec_l9Values_l0 a0 a1 f4) v7 (v7.fKind == 6) else (getI x3 (0 : Int)).bind fun v53 => some v53
def spec_l9Values (a0 : T_impl_Batch) (a1 : List T_impl_Part) : Option (List T_impl_Value) := spec_l9Values_l0 a0 a1 FUEL 0 ([] : List (List T_impl_Value))
theorem ok_spec_l9Values {a0 : T_impl_Batch} {a1 : List T_impl_Part} {y : List T_impl_Value} (h : spec_l9Values a0 a1 = some y) : OK Tryz.prog 85 [E a0, A a1] (A y) := by
 refine ow Tryz.func85 fun Γ hX => ?_
 unfold spec_l9Values at h
 refine srveM [7] 91 [(1, A a1), (2, pf a0 0)] [] ?_
 refine srveM [7] 91 [(1, A a1), (2, pf a0 0), (5, .arr 1 0 (eL ([] : List (List T_impl_Value))) true)] [] ?_
 refine pwp_seq ?_
 refine srveM [7] 91 [(1, A a1), (2, pf a0 0), (5, .arr 1 0 (eL ([] : List (List T_impl_Value))) true), (6, I 0)] [] ?_
 refine pwp_block ?_
 refine pwp_loop (ι := Nat × Int × (List (List T_impl_Value))) (fun (f4, x2, x3) => (⟨91, [(1, A a1), (2, pf a0 0), (5, rf 0 0 1 x3), (6, I x2)], [sl 0 x3]⟩ : St)) (fun (f4, x2, x3) => spec_l9Values_l0 a0 a1 f4 x2 x3 = some y) Prod.fst (FUEL, 0, ([] : List (List T_impl_Value))) h (Imp.thawS 5 [1, 2, 5, 6] (by kernel_rfl)) ?_
 rintro ⟨f4, x2, x3⟩ h
 dsimp only at h ⊢
 rcases f4 with _ | f4
 cases h
 rw [spec_l9Values_l0] at h
 refine pwp_seq ?_
 refine srveM [7] 91 [(1, A a1), (2, pf a0 0), (5, rf 0 0 1 x3), (6, I x2), (19, B (decide (x2 < (a1.length : Int))))] [sl 0 x3] ?_
 refine pc h (fun h => ?_) (fun h => ?_)
 refine pwp_skip ?_
 refine pwp_seq ?_
 refine pwp_block ?_
 refine srvM [7] 2 91 [(1, A a1), (2, pf a0 0), (5, rf 0 0 1 x3), (6, I x2), (22, A a1), (23, I x2)] [sl 0 x3] ?_
 obtain ⟨v7, hv8, h⟩ := bindS h
 refine opsP_idx τ_ok 24 hv8 (by kernel_rfl) ?_
 refine veM [7] 3 91 [(1, A a1), (2, pf a0 0), (5, rf 0 0 1 x3), (6, I x2), (7, .ptr 1 0 0)] [sl 0 x3, sc 0 v7] ?_
 refine srveM [7] 91 [(1, A a1), (2, pf a0 0), (5, rf 0 0 1 x3), (6, I x2), (7, .ptr 1 0 0), (8, I (x3.length : Int))] [sl 0 x3, sc 0 v7] ?_
 refine srveM [7] 91 [(1, A a1), (2, pf a0 0), (5, rf 0 0 1 x3), (6, I x2), (7, .ptr 1 0 0), (8, I (x3.length : Int)), (9, .arr 3 0 (eL ([] : List T_impl_Value)) true)] [sl 0 x3, sc 0 v7] ?_
 refine srveM [7] 91 [(1, A a1), (2, pf a0 0), (5, rf 0 0 1 x3), (6, I x2), (7, .ptr 1 0 0), (8, I (x3.length : Int)), (9, .arr 3 0 (eL ([] : List T_impl_Value)) true), (10, I 0)] [sl 0 x3, sc 0 v7] ?_
 refine pwp_seq ?_
 refine pwp_join (σ := Int) (fun x9 => (⟨91, [(1, A a1), (2, pf a0 0), (5, rf 0 0 1 x3), (6, I x2), (7, .ptr 1 0 0), (8, I (x3.length : Int)), (9, .arr 3 0 (eL ([] : List T_impl_Value)) true), (10, I x9)], [sl 0 x3, sc 0 v7]⟩ : St)) (fun x9 => spec_l9Values_j1 a0 x2 x3 (spec_l9Values_l0 a0 a1 f4) v7 x9 = some y) ?_ ?_
 refine srveM [7] 91 [(1, A a1), (2, pf a0 0), (5, rf 0 0 1 x3), (6, I x2), (7, .ptr 1 0 0), (8, I (x3.length : Int)), (9, .arr 3 0 (eL ([] : List T_impl_Value)) true), (10, I 0), (30, I v7.fKind)] [sl 0 x3, sc 0 v7] ?_
 refine pwp_block ?_
 refine pwp_seq ?_
 refine pwp_join (σ := Bool) (fun x45 => (⟨91, [(1, A a1), (2, pf a0 0), (5, rf 0 0 1 x3), (6, I x2), (7, .ptr 1 0 0), (8, I (x3.length : Int)), (9, .arr 3 0 (eL ([] : List T_impl_Value)) true), (10, I 0), (30, I v7.fKind), (31, B x45)], [sl 0 x3, sc 0 v7]⟩ : St)) (fun x45 => spec_l9Values_j4 a0 x2 x3 (spec_l9Values_l0 a0 a1 f4) v7 x45 = some y) ?_ ?_
 refine srveM [7] 91 [(1, A a1), (2, pf a0 0), (5, rf 0 0 1 x3), (6, I x2), (7, .ptr 1 0 0), (8, I (x3.length : Int)), (9, .arr 3 0 (eL ([] : List T_impl_Value)) true), (10, I 0), (30, I v7.fKind), (31, B (v7.fKind == 3))] [sl 0 x3, sc 0 v7] ?_
 refine pc h (fun h => ?_) (fun h => ?_)
 refine pwp_skip ?_
 exact ⟨(v7.fKind == 3), h, it [1, 2, 5, 6, 7, 8, 9, 10, 30, 31]⟩
 refine srveM [7] 91 [(1, A a1), (2, pf a0 0), (5, rf 0 0 1 x3), (6, I x2), (7, .ptr 1 0 0), (8, I (x3.length : Int)), (9, .arr 3 0 (eL ([] : List T_impl_Value)) true), (10, I 0), (30, I v7.fKind), (31, B (v7.fKind == 4))] [sl 0 x3, sc 0 v7] ?_
 refine pc h (fun h => ?_) (fun h => ?_)
 refine pwp_skip ?_
 exact ⟨(v7.fKind == 4), h, it [1, 2, 5, 6, 7, 8, 9, 10, 30, 31]⟩
 refine srveM [7] 91 [(1, A a1), (2, pf a0 0), (5, rf 0 0 1 x3), (6, I x2), (7, .ptr 1 0 0), (8, I (x3.length : Int)), (9, .arr 3 0 (eL ([] : List T_impl_Value)) true), (10, I 0), (30, I v7.fKind), (31, B (v7.fKind == 5))] [sl 0 x3, sc 0 v7] ?_
 refine pc h (fun h => ?_) (fun h => ?_)
 refine pwp_skip ?_
 exact ⟨(v7.fKind == 5), h, it [1, 2, 5, 6, 7, 8, 9, 10, 30, 31]⟩
 refine rveM [7] 91 [(1, A a1), (2, pf a0 0), (5, rf 0 0 1 x3), (6, I x2), (7, .ptr 1 0 0), (8, I (x3.length : Int)), (9, .arr 3 0 (eL ([] : List T_impl_Value)) true), (10, I 0), (30, I v7.fKind), (31, B (v7.fKind == 6))] [sl 0 x3, sc 0 v7] ?_
 exact ⟨(v7.fKind == 6), h, it [1, 2, 5, 6, 7, 8, 9, 10, 30, 31]⟩
 rintro x45 h
 unfold spec_l9Values_j4 at h
 refine pc h (fun h => ?_) (fun h => ?_)
 refine rveM [7] 91 [(1, A a1), (2, pf a0 0), (5, rf 0 0 1 x3), (6, I x2), (7, .ptr 1 0 0), (8, I (x3.length : Int)), (9, .arr 3 0 (eL ([] : List T_impl_Value)) true), (10, I 2)] [sl 0 x3, sc 0 v7] ?_
 exact ⟨2, h, it [1, 2, 5, 6, 7, 8, 9, 10]⟩
 refine pwp_seq ?_
 refine pwp_join (σ := Bool) (fun x47 => (⟨91, [(1, A a1), (2, pf a0 0), (5, rf 0 0 1 x3), (6, I x2), (7, .ptr 1 0 0), (8, I (x3.length : Int)), (9, .arr 3 0 (eL ([] : List T_impl_Value)) true), (10, I 0), (36, B x47)], [sl 0 x3, sc 0 v7]⟩ : St)) (fun x47 => spec_l9Values_j5 a0 x2 x3 (spec_l9Values_l0 a0 a1 f4) v7 x47 = some y) ?_ ?_
 refine srveM [7] 91 [(1, A a1), (2, pf a0 0), (5, rf 0 0 1 x3), (6, I x2), (7, .ptr 1 0 0), (8, I (x3.length : Int)), (9, .arr 3 0 (eL ([] : List T_impl_Value)) true), (10, I 0), (30, I v7.fKind), (36, B (v7.fKind == 7))] [sl 0 x3, sc 0 v7] ?_
 refine pc h (fun h => ?_) (fun h => ?_)
 refine pwp_skip ?_
 exact ⟨(v7.fKind == 7), h, it [1, 2, 5, 6, 7, 8, 9, 10, 36]⟩
 refine rveM [7] 91 [(1, A a1), (2, pf a0 0), (5, rf 0 0 1 x3), (6, I x2), (7, .ptr 1 0 0), (8, I (x3.length : Int)), (9, .arr 3 0 (eL ([] : List T_impl_Value)) true), (10, I 0), (36, B (v7.fKind == 8))] [sl 0 x3, sc 0 v7] ?_
 exact ⟨(v7.fKind == 8), h, it [1, 2, 5, 6, 7, 8, 9, 10, 36]⟩
 rintro x47 h
 unfold spec_l9Values_j5 at h
 refine pc h (fun h => ?_) (fun h => ?_)
 refine rveM [7] 91 [(1, A a1), (2, pf a0 0), (5, rf 0 0 1 x3), (6, I x2), (7, .ptr 1 0 0), (8, I (x3.length : Int)), (9, .arr 3 0 (eL ([] : List T_impl_Value)) true), (10, I 1)] [sl 0 x3, sc 0 v7] ?_
 exact ⟨1, h, it [1, 2, 5, 6, 7, 8, 9, 10]⟩
 refine pwp_skip ?_
 exact ⟨0, h, it [1, 2, 5, 6, 7, 8, 9, 10]⟩
 rintro x9 h
 unfold spec_l9Values_j1 at h
 refine pwp_seq ?_
 refine srveM [7] 91 [(1, A a1), (2, pf a0 0), (5, rf 0 0 1 x3), (6, I x2), (7, .ptr 1 0 0), (8, I (x3.length : Int)), (9, .arr 3 0 (eL ([] : List T_impl_Value)) true), (10, I x9), (11, I 0)] [sl 0 x3, sc 0 v7] ?_
 refine pwp_block ?_
 refine pwp_loop (ι := Nat × Int × (List T_impl_Value)) (fun (f15, x13, x14) => (⟨91, [(1, A a1), (2, pf a0 0), (5, rf 0 0 1 x3), (6, I x2), (7, .ptr 1 0 0), (8, I (x3.length : Int)), (9, rf 2 0 3 x14), (10, I x9), (11, I x13)], [sl 0 x3, sc 0 v7, sl 0 x14]⟩ : St)) (fun (f15, x13, x14) => spec_l9Values_l2 a0 x2 x3 (spec_l9Values_l0 a0 a1 f4) v7 x9 f15 x13 x14 = some y) Prod.fst (FUEL, 0, ([] : List T_impl_Value)) h (Imp.thawS 9 [1, 2, 5, 6, 7, 8, 9, 10, 11] (by kernel_rfl)) ?_
 rintro ⟨f15, x13, x14⟩ h
 dsimp only at h ⊢
 rcases f15 with _ | f15
 cases h
 rw [spec_l9Values_l2] at h
 refine pwp_seq ?_
 refine srveM [7] 91 [(1, A a1), (2, pf a0 0), (5, rf 0 0 1 x3), (6, I x2), (7, .ptr 1 0 0), (8, I (x3.length : Int)), (9, rf 2 0 3 x14), (10, I x9), (11, I x13), (43, B (decide (x13 < (a0.fPicked.length : Int))))] [sl 0 x3, sc 0 v7, sl 0 x14] ?_
 refine pc h (fun h => ?_) (fun h => ?_)
 refine pwp_skip ?_
 refine pwp_seq ?_
 refine pwp_block ?_
 refine srveM [7] 91 [(1, A a1), (2, pf a0 0), (5, rf 0 0 1 x3), (6, I x2), (7, .ptr 1 0 0), (8, I (x3.length : Int)), (9, rf 2 0 3 x14), (10, I x9), (11, I x13), (12, .arr 3 0 (eL ([] : List T_impl_Value)) true)] [sl 0 x3, sc 0 v7, sl 0 x14] ?_
 refine pwp_seq ?_
 refine srveM [7] 91 [(1, A a1), (2, pf a0 0), (5, rf 0 0 1 x3), (6, I x2), (7, .ptr 1 0 0), (8, I (x3.length : Int)), (9, rf 2 0 3 x14), (10, I x9), (11, I x13), (12, .arr 3 0 (eL ([] : List T_impl_Value)) true), (13, I (w64 ((x3.length : Int) - x9)))] [sl 0 x3, sc 0 v7, sl 0 x14] ?_
 refine pwp_block ?_
 refine pwp_loop (ι := Nat × Int × (List T_impl_Value)) (fun (f24, x22, x23) => (⟨91, [(1, A a1), (2, pf a0 0), (5, rf 0 0 1 x3), (6, I x2), (7, .ptr 1 0 0), (8, I (x3.length : Int)), (9, rf 2 0 3 x14), (10, I x9), (11, I x13), (12, rf 3 0 3 x23), (13, I x22)], [sl 0 x3, sc 0 v7, sl 0 x14, sl 0 x23]⟩ : St)) (fun (f24, x22, x23) => spec_l9Values_l3 a0 x3 v7 x13 x14 (spec_l9Values_l2 a0 x2 x3 (spec_l9Values_l0 a0 a1 f4) v7 x9 f15) f24 x22 x23 = some y) Prod.fst (FUEL, (w64 ((x3.length : Int) - x9)), ([] : List T_impl_Value)) h (Imp.thawS 12 [1, 2, 5, 6, 7, 8, 9, 10, 11, 12, 13] (by kernel_rfl)) ?_
 rintro ⟨f24, x22, x23⟩ h
 dsimp only at h ⊢
 rcases f24 with _ | f24
 cases h
 rw [spec_l9Values_l3] at h
 refine pwp_seq ?_
 refine srveM [7] 91 [(1, A a1), (2, pf a0 0), (5, rf 0 0 1 x3), (6, I x2), (7, .ptr 1 0 0), (8, I (x3.length : Int)), (9, rf 2 0 3 x14), (10, I x9), (11, I x13), (12, rf 3 0 3 x23), (13, I x22), (52, B (decide (x22 < (x3.length : Int))))] [sl 0 x3, sc 0 v7, sl 0 x14, sl 0 x23] ?_
 refine pc h (fun h => ?_) (fun h => ?_)
 refine pwp_skip ?_
 refine pwp_seq ?_
 refine pwp_block ?_
 refine rvM [7] 3 91 [(1, A a1), (2, pf a0 0), (5, rf 0 0 1 x3), (6, I x2), (7, .ptr 1 0 0), (8, I (x3.length : Int)), (9, rf 2 0 3 x14), (10, I x9), (11, I x13), (13, I x22), (55, rf 3 0 3 x23), (56, rf 0 0 1 x3), (57, I x22)] [sl 0 x3, sc 0 v7, sl 0 x14, sl 0 x23] ?_
 obtain ⟨v27, hv28, h⟩ := bindS h
 refine opsP_idr τ_ok 58 0 0 x3.length hv28 rfl (by kernel_rfl) ?_
 refine opsP_lde (r := A v27) τ_ok 59 68 0 hv28 (by kernel_rfl) (by kernel_rfl) ?_
 refine vM [7] 1 91 [(1, A a1), (2, pf a0 0), (5, rf 0 0 1 x3), (6, I x2), (7, .ptr 1 0 0), (8, I (x3.length : Int)), (9, rf 2 0 3 x14), (10, I x9), (11, I x13), (13, I x22), (55, rf 3 0 3 x23), (59, A v27), (60, I x13)] [sl 0 x3, sc 0 v7, sl 0 x14, sl 0 x23] ?_
 obtain ⟨v29, hv30, h⟩ := bindS h
 refine opsP_idx τ_ok 61 hv30 (by kernel_rfl) ?_
 refine vM [7] 2 91 [(1, A a1), (2, pf a0 0), (5, rf 0 0 1 x3), (6, I x2), (7, .ptr 1 0 0), (8, I (x3.length : Int)), (9, rf 2 0 3 x14), (10, I x9), (11, I x13), (13, I x22), (55, rf 3 0 3 x23), (63, .arr 3 ([v29] : List T_impl_Value).length (eL ([v29] : List T_impl_Value)) true)] [sl 0 x3, sc 0 v7, sl 0 x14, sl 0 x23] ?_
 obtain ⟨v31, hv32, h⟩ := bindS h
 refine opsP_app τ_ok 64 3 0 (nx hX) hv32 (by kernel_rfl) ?_
 refine veM [7] 1 91 [(1, A a1), (2, pf a0 0), (5, rf 0 0 1 x3), (6, I x2), (7, .ptr 1 0 0), (8, I (x3.length : Int)), (9, rf 2 0 3 x14), (10, I x9), (11, I x13), (12, rf 3 1 3 v31), (13, I x22)] [sl 0 x3, sc 0 v7, sl 0 x14, sl 1 v31] ?_
 refine rveM [7] 91 [(1, A a1), (2, pf a0 0), (5, rf 0 0 1 x3), (6, I x2), (7, .ptr 1 0 0), (8, I (x3.length : Int)), (9, rf 2 0 3 x14), (10, I x9), (11, I x13), (12, rf 3 1 3 v31), (13, I (w64 (x22 + 1)))] [sl 0 x3, sc 0 v7, sl 0 x14, sl 1 v31] ?_
 exact ⟨(f24, (w64 (x22 + 1)), v31), h, Nat.lt_succ_self _, (it (st' := ⟨91, [(1, A a1), (2, pf a0 0), (5, rf 0 0 1 x3), (6, I x2), (7, .ptr 1 0 0), (8, I (x3.length : Int)), (9, rf 2 0 3 x14), (10, I x9), (11, I x13), (12, rf 3 1 3 v31), (13, I (w64 (x22 + 1)))], [sl 0 x3, sc 0 v7, sl 0 x14, sl 1 v31]⟩) [1, 2, 5, 6, 7, 8, 9, 10, 11, 12, 13]).trans (Imp.reverS 3 1 (eL v31) [1, 2, 5, 6, 7, 8, 9, 10, 11, 12, 13] (by kernel_rfl) (by exact (And.intro (eL_frz _) (And.intro (rfl) (And.intro (eL_frz _) (And.intro (eL_frz _) trivial))))) (by kernel_rfl))⟩
 refine pwp_exit ?_
 refine pwp_seq ?_
 refine ip 91 [(1, A a1), (2, pf a0 0), (5, rf 0 0 1 x3), (6, I x2), (7, .ptr 1 0 0), (8, I (x3.length : Int)), (9, rf 2 0 3 x14), (10, I x9), (11, I x13), (12, rf 3 0 3 x23)] [sl 0 x3, sc 0 v7, sl 0 x14, sl 0 x23] ?_
 refine pwp_any ([[], [], [], [3], [1], [3], []]) ([[], [], [], [], [], [3], []]) rfl (by kernel_rfl) ?_
 refine qvM [7] [] trivial 2 91 [(66, I x13), (65, E a0), (1, A a1), (2, pf a0 0), (5, rf 0 0 1 x3), (6, I x2), (7, .ptr 1 0 0), (8, I (x3.length : Int)), (9, rf 2 0 3 x14), (10, I x9), (11, I x13), (12, rf 3 0 3 x23)] [sl 0 x3, sc 0 v7, sl 0 x14, sl 0 x23] ?_
 obtain ⟨v33, hv34, h⟩ := bindS h
 refine qX (some 67) (A v33) 91 [(67, A v33), (1, A a1), (2, pf a0 0), (5, rf 0 0 1 x3), (6, I x2), (7, .ptr 1 0 0), (8, I (x3.length : Int)), (9, rf 2 0 3 x14), (10, I x9), (11, I x13), (12, rf 3 0 3 x23)] [sl 0 x3, sc 0 v7, sl 0 x14, sl 0 x23] (fun Γ' hΓ => CoreE.of_g (callV_sound (τ := τ) (by kernel_rfl) rfl (ok_spec_l9Row hv34) (FzTo.O _))) trivial ?_
 refine qvM [7] [3] (hL trivial) 1 91 [(68, rf 3 0 3 x23), (67, A v33), (1, A a1), (2, pf a0 0), (5, rf 0 0 1 x3), (6, I x2), (7, .ptr 1 0 0), (8, I (x3.length : Int)), (9, rf 2 0 3 x14), (10, I x9), (11, I x13)] [sl 0 x3, sc 0 v7, sl 0 x14, sl 0 x23] ?_
 refine qvM [7] [1] (hB trivial) 1 91 [(69, E v7), (68, rf 3 0 3 x23), (67, A v33), (1, A a1), (2, pf a0 0), (5, rf 0 0 1 x3), (6, I x2), (7, .ptr 1 0 0), (8, I (x3.length : Int)), (9, rf 2 0 3 x14), (10, I x9), (11, I x13)] [sl 0 x3, sc 0 v7, sl 0 x14, sl 0 x23] ?_
 obtain ⟨v35, hv36, h⟩ := bindS h
 refine qX (some 70) (A v35) 91 [(70, A v35), (1, A a1), (2, pf a0 0), (5, rf 0 0 1 x3), (6, I x2), (7, .ptr 1 0 0), (8, I (x3.length : Int)), (9, rf 2 0 3 x14), (10, I x9), (11, I x13)] [sl 0 x3, sc 0 v7, sl 0 x14, none] (fun Γ' hΓ => callMF_E (xs := [A v33, rf 3 0 3 x23, E v7]) τ 70 [3] (ny hΓ hX) (ok_spec_l4Do hv36) (FzTo.O _) (by kernel_rfl) (OutL.cons (OutP.frz rfl) (OutL.cons (OutP.list (v := 0) (by kernel_rfl)) (OutL.cons (OutP.frz rfl) (OutL.nil _)))) (by decide)) trivial ?_
 refine qvnM [7] [] trivial 1 91 [(1, A a1), (2, pf a0 0), (5, rf 0 0 1 x3), (6, I x2), (7, .ptr 1 0 0), (8, I (x3.length : Int)), (9, rf 2 0 3 x14), (10, I x9), (11, I x13), (14, A v35)] [sl 0 x3, sc 0 v7, sl 0 x14, none] ?_
 refine rvM [7] 5 91 [(1, A a1), (2, pf a0 0), (5, rf 0 0 1 x3), (6, I x2), (7, .ptr 1 0 0), (8, I (x3.length : Int)), (10, I x9), (11, I x13), (71, rf 2 0 3 x14), (72, A v35), (75, I (w64 ((v35.length : Int) - 1)))] [sl 0 x3, sc 0 v7, sl 0 x14, none] ?_
 obtain ⟨v37, hv38, h⟩ := bindS h
 refine opsP_idx τ_ok 76 hv38 (by kernel_rfl) ?_
 refine vM [7] 2 91 [(1, A a1), (2, pf a0 0), (5, rf 0 0 1 x3), (6, I x2), (7, .ptr 1 0 0), (8, I (x3.length : Int)), (10, I x9), (11, I x13), (71, rf 2 0 3 x14), (78, .arr 3 ([v37] : List T_impl_Value).length (eL ([v37] : List T_impl_Value)) true)] [sl 0 x3, sc 0 v7, sl 0 x14, none] ?_
 obtain ⟨v39, hv40, h⟩ := bindS h
 refine opsP_app τ_ok 79 2 0 (nx hX) hv40 (by kernel_rfl) ?_
 refine veM [7] 1 91 [(1, A a1), (2, pf a0 0), (5, rf 0 0 1 x3), (6, I x2), (7, .ptr 1 0 0), (8, I (x3.length : Int)), (9, rf 2 1 3 v39), (10, I x9), (11, I x13)] [sl 0 x3, sc 0 v7, sl 1 v39, none] ?_
 refine rveM [7] 91 [(1, A a1), (2, pf a0 0), (5, rf 0 0 1 x3), (6, I x2), (7, .ptr 1 0 0), (8, I (x3.length : Int)), (9, rf 2 1 3 v39), (10, I x9), (11, I (w64 (x13 + 1)))] [sl 0 x3, sc 0 v7, sl 1 v39, none] ?_
 exact ⟨(f15, (w64 (x13 + 1)), v39), h, Nat.lt_succ_self _, qt (it (st' := ⟨91, [(1, A a1), (2, pf a0 0), (5, rf 0 0 1 x3), (6, I x2), (7, .ptr 1 0 0), (8, I (x3.length : Int)), (9, rf 2 1 3 v39), (10, I x9), (11, I (w64 (x13 + 1)))], [sl 0 x3, sc 0 v7, sl 1 v39, none]⟩) [1, 2, 5, 6, 7, 8, 9, 10, 11]) (qt (Imp.truncS (st' := ⟨91, [(1, A a1), (2, pf a0 0), (5, rf 0 0 1 x3), (6, I x2), (7, .ptr 1 0 0), (8, I (x3.length : Int)), (9, rf 2 1 3 v39), (10, I x9), (11, I (w64 (x13 + 1)))], [sl 0 x3, sc 0 v7, sl 1 v39]⟩) 3 (nx hX) (by kernel_rfl) (allBelow_mem (by exact (And.intro rfl (And.intro rfl (And.intro rfl (And.intro rfl (And.intro rfl (And.intro rfl (And.intro rfl (And.intro rfl (And.intro rfl trivial))))))))))) (by exact (And.intro (frz_below (eL_frz _)) (And.intro (rfl) (And.intro (frz_below (eL_frz _)) trivial)))) (by kernel_rfl)) (Imp.reverS 2 1 (eL v39) [1, 2, 5, 6, 7, 8, 9, 10, 11] (by kernel_rfl) (by exact (And.intro (eL_frz _) (And.intro (rfl) (And.intro (eL_frz _) trivial)))) (by kernel_rfl)))⟩
 refine pwp_exit ?_
 refine rvM [7] 4 91 [(1, A a1), (2, pf a0 0), (6, I x2), (9, rf 2 0 3 x14), (80, rf 0 0 1 x3), (83, I (w64 ((x3.length : Int) - x9)))] [sl 0 x3, sc 0 v7, sl 0 x14] ?_
 obtain ⟨v41, hv42, h⟩ := bindS h
 refine opsP_slr τ_ok 84 0 0 x3.length hv42 rfl (by kernel_rfl) ?_
 refine vM [7] 1 91 [(1, A a1), (2, pf a0 0), (6, I x2), (84, rf 0 0 1 v41), (85, rf 2 0 3 x14)] [sl 0 x3, sc 0 v7, sl 0 x14] ?_
 refine opsP_imp (Imp.freezeB (v := 0) (cs := eL x14) (st' := ⟨91, [(1, A a1), (2, pf a0 0), (6, I x2), (84, rf 0 0 1 v41), (85, A x14)], [sl 0 x3, sc 0 v7, none]⟩) 2 0 (nx hX) (by kernel_rfl) (eL_frz _) (wholeC (whole_noRef (by kernel_rfl)) (wholeC (whole_noRef (by kernel_rfl)) (wholeC (whole_noRef (by kernel_rfl)) (wholeC (whole_ne rfl) (wholeC (whole_is (eL_len x14).symm) wholeC0))))) (HpRel.frz rfl (eL_frz _) (HpRel.frz rfl (Enc.frz _) (HpRel.key HpRel.nil))) (by kernel_rfl) rfl (nx hX)) ?_
 refine vM [7] 1 91 [(1, A a1), (2, pf a0 0), (6, I x2), (84, rf 0 0 1 v41), (86, .arr 1 ([x14] : List (List T_impl_Value)).length (eL ([x14] : List (List T_impl_Value))) true)] [sl 0 x3, sc 0 v7, none] ?_
 obtain ⟨v43, hv44, h⟩ := bindS h
 refine opsP_apt τ_ok 87 0 0 v41.length (nx hX) hv44 (slI_le hv42) (by kernel_rfl) ?_
 refine veM [7] 1 91 [(1, A a1), (2, pf a0 0), (5, rf 0 1 1 v43), (6, I x2)] [sl 1 v43, sc 0 v7, none] ?_
 refine rveM [7] 91 [(1, A a1), (2, pf a0 0), (5, rf 0 1 1 v43), (6, I (w64 (x2 + 1)))] [sl 1 v43, sc 0 v7, none] ?_
 exact ⟨(f4, (w64 (x2 + 1)), v43), h, Nat.lt_succ_self _, qt (it (st' := ⟨91, [(1, A a1), (2, pf a0 0), (5, rf 0 1 1 v43), (6, I (w64 (x2 + 1)))], [sl 1 v43, sc 0 v7, none]⟩) [1, 2, 5, 6]) (qt (Imp.truncS (st' := ⟨91, [(1, A a1), (2, pf a0 0), (5, rf 0 1 1 v43), (6, I (w64 (x2 + 1)))], [sl 1 v43]⟩) 1 (nx hX) (by kernel_rfl) (allBelow_mem (by exact (And.intro rfl (And.intro rfl (And.intro rfl (And.intro rfl trivial)))))) (by exact (And.intro (frz_below (eL_frz _)) trivial)) (by kernel_rfl)) (Imp.reverS 0 1 (eL v43) [1, 2, 5, 6] (by kernel_rfl) (by exact (And.intro (eL_frz _) trivial)) (by kernel_rfl)))⟩
 refine pwp_exit ?_
 refine srvM [7] 1 91 [(88, rf 0 0 1 x3)] [sl 0 x3] ?_
 obtain ⟨v53, hv54, h⟩ := bindS h
 refine opsP_idr τ_ok 89 0 0 x3.length hv54 rfl (by kernel_rfl) ?_
 refine opsP_lde (r := A v53) τ_ok 90 68 0 hv54 (by kernel_rfl) (by kernel_rfl) ?_
 refine veM [7] 1 91 [(4, A v53)] [sl 0 x3] ?_
 cases h
 exact pwp_ret rz
def impl_Part_value_j0 (v6 : T_impl_Value) (v8 : T_impl_Value) (x10 : Bool) : Option T_impl_Value := bif x10 then some (T_impl_Value.mk 0 0 (ByteArray.mk #[])) else some (T_impl_Value.mk 1 (w64 (v6.fN + v8.fN)) (ByteArray.mk #[]))
def impl_Part_value (a0 : T_impl_Part) (a1 : List T_impl_Value) (a2 : List T_impl_Value) : Option T_impl_Value := bif (a0.fKind == 1) then some a0.fV else bif (a0.fKind == 2) then (getI a1 a0.fN).bind fun v3 => some v3 else bif (a0.fKind == 3) then (getI a2 0).bind fun v6 => (getI a2 1).bind fun v8 => (getI a2 0).bind fun v12 => bif (v12.fKind == 0) then impl_Part_value_j0 v6 v8 true else (getI a2 1).bind fun v14 => bif (v14.fKind == 0) then impl_Part_value_j0 v6 v8 true else (impl_Value_ok (T_impl_Value.mk 1 (w64 (v6.fN + v8.fN)) (ByteArray.mk #[]))).bind fun v16 => impl_Part_value_j0 v6 v8 (!v16) else bif (a0.fKind == 4) then (getI a2 0).bind fun v21 => (getI a2 1).bind fun v23 => (impl_Compare a0.fN v21 v23).bind fun v25 => (impl_ValueOf v25).bind fun v27 => some v27 else bif (a0.fKind == 5) then (getI a2 0).bind fun v30 => (impl_TruthOf v30).bind fun v32 => (getI a2 1).bind fun v34 => (impl_TruthOf v34).bind fun v36 => (impl_AndOf v32 v36).bind fun v38 => (impl_ValueOf v38).bind fun v40 => some v40 else bif (a0.fKind == 6) then (getI a2 0).bind fun v43 => (impl_TruthOf v43).bind fun v45 => (getI a2 1).bind fun v47 => (impl_TruthOf v47).bind fun v49 => (impl_OrOf v45 v49).bind fun v51 => (impl_ValueOf v51).bind fun v53 => some v53 else bif (a0.fKind == 7) then (getI a2 0).bind fun v56 => (impl_TruthOf v56).bind fun v58 => (impl_NotOf v58).bind fun v60 => (impl_ValueOf v60).bind fun v62 => some v62 else (getI a2 0).bind fun v64 => (impl_truthIf (v64.fKind == 0)).bind fun v66 => (impl_ValueOf v66).bind fun v68 => some v68
theorem ok_impl_Part_value {a0 : T_impl_Part} {a1 : List T_impl_Value} {a2 : List T_impl_Value} {y : T_impl_Value} (h : impl_Part_value a0 a1 a2 = some y) : OK Tryz.prog 147 [E a0, A a1, A a2] (E y) := by
 refine ow Tryz.func147 fun Γ hX => ?_
 unfold impl_Part_value at h
 refine srveM [6, 7] 103 [(1, A a1), (2, A a2), (3, pf a0 0), (6, .ptr 0 0 0)] [some ⟨0, Enc.cells (T_impl_Value.mk 0 0 (ByteArray.mk #[]))⟩] ?_
 refine pwp_seq ?_
 refine srveM [6, 7] 103 [(1, A a1), (2, A a2), (3, pf a0 0), (6, .ptr 0 0 0), (9, I a0.fKind)] [some ⟨0, Enc.cells (T_impl_Value.mk 0 0 (ByteArray.mk #[]))⟩] ?_
 refine pwp_block ?_
 refine srveM [6, 7] 103 [(1, A a1), (2, A a2), (3, pf a0 0), (6, .ptr 0 0 0), (9, I a0.fKind), (10, B (a0.fKind == 1))] [some ⟨0, Enc.cells (T_impl_Value.mk 0 0 (ByteArray.mk #[]))⟩] ?_
 refine pc h (fun h => ?_) (fun h => ?_)
 refine srveM [6, 7] 103 [(6, .ptr 0 0 0)] [sc 0 a0.fV] ?_
 cases h
 exact pwp_ret rz
 refine srveM [6, 7] 103 [(1, A a1), (2, A a2), (3, pf a0 0), (6, .ptr 0 0 0), (9, I a0.fKind), (14, B (a0.fKind == 2))] [some ⟨0, Enc.cells (T_impl_Value.mk 0 0 (ByteArray.mk #[]))⟩] ?_
 refine pc h (fun h => ?_) (fun h => ?_)
 refine srvM [6, 7] 3 103 [(6, .ptr 0 0 0), (16, A a1), (18, I a0.fN)] [some ⟨0, Enc.cells (T_impl_Value.mk 0 0 (ByteArray.mk #[]))⟩] ?_
 obtain ⟨v3, hv4, h⟩ := bindS h
 refine opsP_idx τ_ok 19 hv4 (by kernel_rfl) ?_
 refine veM [6, 7] 2 103 [(6, .ptr 0 0 0)] [sc 0 v3] ?_
 cases h
 exact pwp_ret rz
 refine srveM [6, 7] 103 [(2, A a2), (3, pf a0 0), (6, .ptr 0 0 0), (9, I a0.fKind), (21, B (a0.fKind == 3))] [some ⟨0, Enc.cells (T_impl_Value.mk 0 0 (ByteArray.mk #[]))⟩] ?_
 refine pc h (fun h => ?_) (fun h => ?_)
 refine pwp_seq ?_
 refine ip 103 [(2, A a2), (6, .ptr 0 0 0)] [some ⟨0, Enc.cells (T_impl_Value.mk 0 0 (ByteArray.mk #[]))⟩] ?_
 refine pwp_imp (Imp.ghosts 1 (st' := ⟨103, [(2, A a2), (6, .ptr 0 0 0)], [some ⟨0, Enc.cells (T_impl_Value.mk 0 0 (ByteArray.mk #[]))⟩, some ⟨0, []⟩]⟩) (by kernel_rfl)) ?_
 refine pwp_any ([[], [], [], [], [], [], [], [], [], [], [1], [1]]) ([[], [], [], [], [], [], [], [], [], [], [1], [1]]) rfl (by kernel_rfl) ?_
 refine qvM [6, 7] [] trivial 1 103 [(23, A a2), (2, A a2), (6, .ptr 0 0 0)] [some ⟨0, Enc.cells (T_impl_Value.mk 0 0 (ByteArray.mk #[]))⟩, some ⟨0, []⟩] ?_
 obtain ⟨v6, hv7, h⟩ := bindS h
 refine qX (some 24) (pf v6 0) 103 [(24, pf v6 0), (2, A a2), (6, .ptr 0 0 0)] [some ⟨0, Enc.cells (T_impl_Value.mk 0 0 (ByteArray.mk #[]))⟩, some ⟨0, []⟩] (fun Γ' hΓ => CoreE.of_y (idxV_sound τ_ok (by kernel_rfl) hv7)) trivial ?_
 refine qvM [6, 7] [] trivial 3 103 [(27, A a2), (26, I v6.fN), (2, A a2), (6, .ptr 0 0 0)] [some ⟨0, Enc.cells (T_impl_Value.mk 0 0 (ByteArray.mk #[]))⟩, some ⟨0, []⟩] ?_
 obtain ⟨v8, hv9, h⟩ := bindS h
 refine qX (some 28) (pf v8 0) 103 [(28, pf v8 0), (26, I v6.fN), (2, A a2), (6, .ptr 0 0 0)] [some ⟨0, Enc.cells (T_impl_Value.mk 0 0 (ByteArray.mk #[]))⟩, some ⟨0, []⟩] (fun Γ' hΓ => CoreE.of_y (idxV_sound τ_ok (by kernel_rfl) hv9)) trivial ?_
 refine qvM [6, 7] [] trivial 4 103 [(32, E (T_impl_Value.mk 1 (w64 (v6.fN + v8.fN)) (ByteArray.mk #[]))), (2, A a2), (6, .ptr 0 0 0)] [some ⟨0, Enc.cells (T_impl_Value.mk 0 0 (ByteArray.mk #[]))⟩, some ⟨0, []⟩] ?_
 refine qX (Hm' := [none, some ⟨1, Enc.cells (T_impl_Value.mk 0 0 (ByteArray.mk #[]))⟩]) (some 7) (.ptr 1 1 0) 103 [(7, .ptr 1 1 0), (32, E (T_impl_Value.mk 1 (w64 (v6.fN + v8.fN)) (ByteArray.mk #[]))), (2, A a2), (6, .ptr 0 0 0)] [some ⟨0, Enc.cells (T_impl_Value.mk 0 0 (ByteArray.mk #[]))⟩, some ⟨1, Enc.cells (T_impl_Value.mk 0 0 (ByteArray.mk #[]))⟩] (fun Γ' hΓ => alc_E (blk := ⟨0, []⟩) τ_ok [6, 7] 7 1 0 (ny hΓ hX) (by kernel_rfl) (by kernel_rfl)) (hB trivial) ?_
 refine qX (Hm' := [none, some ⟨1, Enc.cells (T_impl_Value.mk 1 (w64 (v6.fN + v8.fN)) (ByteArray.mk #[]))⟩]) none (.any) 103 [(7, .ptr 1 1 0), (2, A a2), (6, .ptr 0 0 0)] [some ⟨0, Enc.cells (T_impl_Value.mk 0 0 (ByteArray.mk #[]))⟩, some ⟨1, Enc.cells (T_impl_Value.mk 1 (w64 (v6.fN + v8.fN)) (ByteArray.mk #[]))⟩] (fun Γ' hΓ => sto_E τ_ok 1 1 (by kernel_rfl)) (hB trivial) ?_
 refine qn 103 [(2, A a2), (6, .ptr 0 0 0), (7, .ptr 1 1 0)] [some ⟨0, Enc.cells (T_impl_Value.mk 0 0 (ByteArray.mk #[]))⟩, some ⟨1, Enc.cells (T_impl_Value.mk 1 (w64 (v6.fN + v8.fN)) (ByteArray.mk #[]))⟩] ?_
 refine pwp_seq ?_
 refine pwp_seq ?_
 refine pwp_join (σ := Bool) (fun x10 => (⟨103, [(6, .ptr 0 0 0), (7, .ptr 1 1 0), (49, B x10)], [some ⟨0, Enc.cells (T_impl_Value.mk 0 0 (ByteArray.mk #[]))⟩, some ⟨1, Enc.cells (T_impl_Value.mk 1 (w64 (v6.fN + v8.fN)) (ByteArray.mk #[]))⟩]⟩ : St)) (fun x10 => impl_Part_value_j0 v6 v8 x10 = some y) ?_ ?_
 refine rvM [6, 7] 1 103 [(2, A a2), (6, .ptr 0 0 0), (7, .ptr 1 1 0), (33, A a2)] [some ⟨0, Enc.cells (T_impl_Value.mk 0 0 (ByteArray.mk #[]))⟩, some ⟨1, Enc.cells (T_impl_Value.mk 1 (w64 (v6.fN + v8.fN)) (ByteArray.mk #[]))⟩] ?_
 obtain ⟨v12, hv13, h⟩ := bindS h
 refine opsP_idx τ_ok 34 hv13 (by kernel_rfl) ?_
 refine vM [6, 7] 4 103 [(2, A a2), (6, .ptr 0 0 0), (7, .ptr 1 1 0), (38, B (v12.fKind == 0))] [some ⟨0, Enc.cells (T_impl_Value.mk 0 0 (ByteArray.mk #[]))⟩, some ⟨1, Enc.cells (T_impl_Value.mk 1 (w64 (v6.fN + v8.fN)) (ByteArray.mk #[]))⟩] ?_
 rcases fk (v12.fKind == 0) with hc19 | hc19
 replace h := bT hc19 h
 rw [hc19]
 refine veM [6, 7] 11 103 [(6, .ptr 0 0 0), (7, .ptr 1 1 0), (49, B true)] [some ⟨0, Enc.cells (T_impl_Value.mk 0 0 (ByteArray.mk #[]))⟩, some ⟨1, Enc.cells (T_impl_Value.mk 1 (w64 (v6.fN + v8.fN)) (ByteArray.mk #[]))⟩] ?_
 exact ⟨true, h, it [6, 7, 49]⟩
 replace h := bF hc19 h
 rw [hc19]
 refine vM [6, 7] 1 103 [(6, .ptr 0 0 0), (7, .ptr 1 1 0), (38, B false), (39, A a2)] [some ⟨0, Enc.cells (T_impl_Value.mk 0 0 (ByteArray.mk #[]))⟩, some ⟨1, Enc.cells (T_impl_Value.mk 1 (w64 (v6.fN + v8.fN)) (ByteArray.mk #[]))⟩] ?_
 obtain ⟨v14, hv15, h⟩ := bindS h
 refine opsP_idx τ_ok 40 hv15 (by kernel_rfl) ?_
 refine vM [6, 7] 5 103 [(6, .ptr 0 0 0), (7, .ptr 1 1 0), (45, B (v14.fKind == 0))] [some ⟨0, Enc.cells (T_impl_Value.mk 0 0 (ByteArray.mk #[]))⟩, some ⟨1, Enc.cells (T_impl_Value.mk 1 (w64 (v6.fN + v8.fN)) (ByteArray.mk #[]))⟩] ?_
 rcases fk (v14.fKind == 0) with hc18 | hc18
 replace h := bT hc18 h
 rw [hc18]
 refine veM [6, 7] 4 103 [(6, .ptr 0 0 0), (7, .ptr 1 1 0), (49, B true)] [some ⟨0, Enc.cells (T_impl_Value.mk 0 0 (ByteArray.mk #[]))⟩, some ⟨1, Enc.cells (T_impl_Value.mk 1 (w64 (v6.fN + v8.fN)) (ByteArray.mk #[]))⟩] ?_
 exact ⟨true, h, it [6, 7, 49]⟩
 replace h := bF hc18 h
 rw [hc18]
 refine vM [6, 7] 1 103 [(6, .ptr 0 0 0), (7, .ptr 1 1 0), (45, B false), (46, E (T_impl_Value.mk 1 (w64 (v6.fN + v8.fN)) (ByteArray.mk #[])))] [some ⟨0, Enc.cells (T_impl_Value.mk 0 0 (ByteArray.mk #[]))⟩, some ⟨1, Enc.cells (T_impl_Value.mk 1 (w64 (v6.fN + v8.fN)) (ByteArray.mk #[]))⟩] ?_
 obtain ⟨v16, hv17, h⟩ := bindS h
 refine cF 47 (ok_impl_Value_ok hv17) ?_
 refine veM [6, 7] 2 103 [(6, .ptr 0 0 0), (7, .ptr 1 1 0), (49, B (!v16))] [some ⟨0, Enc.cells (T_impl_Value.mk 0 0 (ByteArray.mk #[]))⟩, some ⟨1, Enc.cells (T_impl_Value.mk 1 (w64 (v6.fN + v8.fN)) (ByteArray.mk #[]))⟩] ?_
 exact ⟨(!v16), h, it [6, 7, 49]⟩
 rintro x10 h
 unfold impl_Part_value_j0 at h
 refine pc h (fun h => ?_) (fun h => ?_)
 refine srveM [6, 7] 103 [(6, .ptr 0 0 0)] [some ⟨0, Enc.cells (T_impl_Value.mk 0 0 (ByteArray.mk #[]))⟩, some ⟨1, Enc.cells (T_impl_Value.mk 1 (w64 (v6.fN + v8.fN)) (ByteArray.mk #[]))⟩] ?_
 cases h
 exact pwp_ret rz
 refine pwp_skip ?_
 refine srveM [6, 7] 103 [(6, .ptr 0 0 0)] [some ⟨0, Enc.cells (T_impl_Value.mk 1 (w64 (v6.fN + v8.fN)) (ByteArray.mk #[]))⟩, some ⟨1, Enc.cells (T_impl_Value.mk 1 (w64 (v6.fN + v8.fN)) (ByteArray.mk #[]))⟩] ?_
 cases h
 exact pwp_ret rz
 refine srveM [6, 7] 103 [(2, A a2), (3, pf a0 0), (6, .ptr 0 0 0), (9, I a0.fKind), (52, B (a0.fKind == 4))] [some ⟨0, Enc.cells (T_impl_Value.mk 0 0 (ByteArray.mk #[]))⟩] ?_
 refine pc h (fun h => ?_) (fun h => ?_)
 refine pwp_seq ?_
 refine ip 103 [(2, A a2), (3, pf a0 0), (6, .ptr 0 0 0)] [some ⟨0, Enc.cells (T_impl_Value.mk 0 0 (ByteArray.mk #[]))⟩] ?_
 refine pwp_any ([[], [], [], [], [], [], [], [], [], [], [0]]) ([[], [], [], [], [], [], [], [], [], [], [0]]) rfl (by kernel_rfl) ?_
 refine qvM [6, 7] [] trivial 3 103 [(56, A a2), (55, I a0.fN), (2, A a2), (6, .ptr 0 0 0)] [some ⟨0, Enc.cells (T_impl_Value.mk 0 0 (ByteArray.mk #[]))⟩] ?_
 obtain ⟨v21, hv22, h⟩ := bindS h
 refine qX (some 57) (pf v21 0) 103 [(57, pf v21 0), (55, I a0.fN), (2, A a2), (6, .ptr 0 0 0)] [some ⟨0, Enc.cells (T_impl_Value.mk 0 0 (ByteArray.mk #[]))⟩] (fun Γ' hΓ => CoreE.of_y (idxV_sound τ_ok (by kernel_rfl) hv22)) trivial ?_
 refine qvM [6, 7] [] trivial 2 103 [(59, A a2), (58, E v21), (55, I a0.fN), (6, .ptr 0 0 0)] [some ⟨0, Enc.cells (T_impl_Value.mk 0 0 (ByteArray.mk #[]))⟩] ?_
 obtain ⟨v23, hv24, h⟩ := bindS h
 refine qX (some 60) (pf v23 0) 103 [(60, pf v23 0), (58, E v21), (55, I a0.fN), (6, .ptr 0 0 0)] [some ⟨0, Enc.cells (T_impl_Value.mk 0 0 (ByteArray.mk #[]))⟩] (fun Γ' hΓ => CoreE.of_y (idxV_sound τ_ok (by kernel_rfl) hv24)) trivial ?_
 refine qvM [6, 7] [] trivial 1 103 [(61, E v23), (58, E v21), (55, I a0.fN), (6, .ptr 0 0 0)] [some ⟨0, Enc.cells (T_impl_Value.mk 0 0 (ByteArray.mk #[]))⟩] ?_
 obtain ⟨v25, hv26, h⟩ := bindS h
 refine qX (some 62) (I v25) 103 [(62, I v25), (6, .ptr 0 0 0)] [some ⟨0, Enc.cells (T_impl_Value.mk 0 0 (ByteArray.mk #[]))⟩] (fun Γ' hΓ => CoreE.of_g (callV_sound (τ := τ) (by kernel_rfl) rfl (ok_impl_Compare hv26) (FzTo.frz rfl))) trivial ?_
 obtain ⟨v27, hv28, h⟩ := bindS h
 refine qX (some 63) (E v27) 103 [(63, E v27), (6, .ptr 0 0 0)] [some ⟨0, Enc.cells (T_impl_Value.mk 0 0 (ByteArray.mk #[]))⟩] (fun Γ' hΓ => CoreE.of_g (callV_sound (τ := τ) (by kernel_rfl) rfl (ok_impl_ValueOf hv28) (FzTo.frz rfl))) trivial ?_
 refine qX (Hm' := [sc 0 v27]) none (.any) 103 [(6, .ptr 0 0 0)] [sc 0 v27] (fun Γ' hΓ => sto_E τ_ok 0 0 (by kernel_rfl)) (hB trivial) ?_
 refine qn 103 [(6, .ptr 0 0 0)] [sc 0 v27] ?_
 cases h
 exact pwp_ret rz
 refine srveM [6, 7] 103 [(2, A a2), (6, .ptr 0 0 0), (9, I a0.fKind), (64, B (a0.fKind == 5))] [some ⟨0, Enc.cells (T_impl_Value.mk 0 0 (ByteArray.mk #[]))⟩] ?_
 refine pc h (fun h => ?_) (fun h => ?_)
 refine pwp_seq ?_
 refine ip 103 [(2, A a2), (6, .ptr 0 0 0)] [some ⟨0, Enc.cells (T_impl_Value.mk 0 0 (ByteArray.mk #[]))⟩] ?_
 refine pwp_any ([[], [], [], [], [], [], [], [], [], [], [0]]) ([[], [], [], [], [], [], [], [], [], [], [0]]) rfl (by kernel_rfl) ?_
 refine qvM [6, 7] [] trivial 1 103 [(66, A a2), (2, A a2), (6, .ptr 0 0 0)] [some ⟨0, Enc.cells (T_impl_Value.mk 0 0 (ByteArray.mk #[]))⟩] ?_
 obtain ⟨v30, hv31, h⟩ := bindS h
 refine qX (some 67) (pf v30 0) 103 [(67, pf v30 0), (2, A a2), (6, .ptr 0 0 0)] [some ⟨0, Enc.cells (T_impl_Value.mk 0 0 (ByteArray.mk #[]))⟩] (fun Γ' hΓ => CoreE.of_y (idxV_sound τ_ok (by kernel_rfl) hv31)) trivial ?_
 refine qvM [6, 7] [] trivial 1 103 [(68, E v30), (2, A a2), (6, .ptr 0 0 0)] [some ⟨0, Enc.cells (T_impl_Value.mk 0 0 (ByteArray.mk #[]))⟩] ?_
 obtain ⟨v32, hv33, h⟩ := bindS h
 refine qX (some 69) (I v32) 103 [(69, I v32), (2, A a2), (6, .ptr 0 0 0)] [some ⟨0, Enc.cells (T_impl_Value.mk 0 0 (ByteArray.mk #[]))⟩] (fun Γ' hΓ => CoreE.of_g (callV_sound (τ := τ) (by kernel_rfl) rfl (ok_impl_TruthOf hv33) (FzTo.frz rfl))) trivial ?_
 refine qvM [6, 7] [] trivial 1 103 [(70, A a2), (69, I v32), (6, .ptr 0 0 0)] [some ⟨0, Enc.cells (T_impl_Value.mk 0 0 (ByteArray.mk #[]))⟩] ?_
 obtain ⟨v34, hv35, h⟩ := bindS h
 refine qX (some 71) (pf v34 0) 103 [(71, pf v34 0), (69, I v32), (6, .ptr 0 0 0)] [some ⟨0, Enc.cells (T_impl_Value.mk 0 0 (ByteArray.mk #[]))⟩] (fun Γ' hΓ => CoreE.of_y (idxV_sound τ_ok (by kernel_rfl) hv35)) trivial ?_
 refine qvM [6, 7] [] trivial 1 103 [(72, E v34), (69, I v32), (6, .ptr 0 0 0)] [some ⟨0, Enc.cells (T_impl_Value.mk 0 0 (ByteArray.mk #[]))⟩] ?_
 obtain ⟨v36, hv37, h⟩ := bindS h
 refine qX (some 73) (I v36) 103 [(73, I v36), (69, I v32), (6, .ptr 0 0 0)] [some ⟨0, Enc.cells (T_impl_Value.mk 0 0 (ByteArray.mk #[]))⟩] (fun Γ' hΓ => CoreE.of_g (callV_sound (τ := τ) (by kernel_rfl) rfl (ok_impl_TruthOf hv37) (FzTo.frz rfl))) trivial ?_
 obtain ⟨v38, hv39, h⟩ := bindS h
 refine qX (some 74) (I v38) 103 [(74, I v38), (6, .ptr 0 0 0)] [some ⟨0, Enc.cells (T_impl_Value.mk 0 0 (ByteArray.mk #[]))⟩] (fun Γ' hΓ => CoreE.of_g (callV_sound (τ := τ) (by kernel_rfl) rfl (ok_impl_AndOf hv39) (FzTo.frz rfl))) trivial ?_
 obtain ⟨v40, hv41, h⟩ := bindS h
 refine qX (some 75) (E v40) 103 [(75, E v40), (6, .ptr 0 0 0)] [some ⟨0, Enc.cells (T_impl_Value.mk 0 0 (ByteArray.mk #[]))⟩] (fun Γ' hΓ => CoreE.of_g (callV_sound (τ := τ) (by kernel_rfl) rfl (ok_impl_ValueOf hv41) (FzTo.frz rfl))) trivial ?_
 refine qX (Hm' := [sc 0 v40]) none (.any) 103 [(6, .ptr 0 0 0)] [sc 0 v40] (fun Γ' hΓ => sto_E τ_ok 0 0 (by kernel_rfl)) (hB trivial) ?_
 refine qn 103 [(6, .ptr 0 0 0)] [sc 0 v40] ?_
 cases h
 exact pwp_ret rz
 refine srveM [6, 7] 103 [(2, A a2), (6, .ptr 0 0 0), (9, I a0.fKind), (76, B (a0.fKind == 6))] [some ⟨0, Enc.cells (T_impl_Value.mk 0 0 (ByteArray.mk #[]))⟩] ?_
 refine pc h (fun h => ?_) (fun h => ?_)
 refine pwp_seq ?_
 refine ip 103 [(2, A a2), (6, .ptr 0 0 0)] [some ⟨0, Enc.cells (T_impl_Value.mk 0 0 (ByteArray.mk #[]))⟩] ?_
 refine pwp_any ([[], [], [], [], [], [], [], [], [], [], [0]]) ([[], [], [], [], [], [], [], [], [], [], [0]]) rfl (by kernel_rfl) ?_
 refine qvM [6, 7] [] trivial 1 103 [(78, A a2), (2, A a2), (6, .ptr 0 0 0)] [some ⟨0, Enc.cells (T_impl_Value.mk 0 0 (ByteArray.mk #[]))⟩] ?_
 obtain ⟨v43, hv44, h⟩ := bindS h
 refine qX (some 79) (pf v43 0) 103 [(79, pf v43 0), (2, A a2), (6, .ptr 0 0 0)] [some ⟨0, Enc.cells (T_impl_Value.mk 0 0 (ByteArray.mk #[]))⟩] (fun Γ' hΓ => CoreE.of_y (idxV_sound τ_ok (by kernel_rfl) hv44)) trivial ?_
 refine qvM [6, 7] [] trivial 1 103 [(80, E v43), (2, A a2), (6, .ptr 0 0 0)] [some ⟨0, Enc.cells (T_impl_Value.mk 0 0 (ByteArray.mk #[]))⟩] ?_
 obtain ⟨v45, hv46, h⟩ := bindS h
 refine qX (some 81) (I v45) 103 [(81, I v45), (2, A a2), (6, .ptr 0 0 0)] [some ⟨0, Enc.cells (T_impl_Value.mk 0 0 (ByteArray.mk #[]))⟩] (fun Γ' hΓ => CoreE.of_g (callV_sound (τ := τ) (by kernel_rfl) rfl (ok_impl_TruthOf hv46) (FzTo.frz rfl))) trivial ?_
 refine qvM [6, 7] [] trivial 1 103 [(82, A a2), (81, I v45), (6, .ptr 0 0 0)] [some ⟨0, Enc.cells (T_impl_Value.mk 0 0 (ByteArray.mk #[]))⟩] ?_
 obtain ⟨v47, hv48, h⟩ := bindS h
 refine qX (some 83) (pf v47 0) 103 [(83, pf v47 0), (81, I v45), (6, .ptr 0 0 0)] [some ⟨0, Enc.cells (T_impl_Value.mk 0 0 (ByteArray.mk #[]))⟩] (fun Γ' hΓ => CoreE.of_y (idxV_sound τ_ok (by kernel_rfl) hv48)) trivial ?_
 refine qvM [6, 7] [] trivial 1 103 [(84, E v47), (81, I v45), (6, .ptr 0 0 0)] [some ⟨0, Enc.cells (T_impl_Value.mk 0 0 (ByteArray.mk #[]))⟩] ?_
 obtain ⟨v49, hv50, h⟩ := bindS h
 refine qX (some 85) (I v49) 103 [(85, I v49), (81, I v45), (6, .ptr 0 0 0)] [some ⟨0, Enc.cells (T_impl_Value.mk 0 0 (ByteArray.mk #[]))⟩] (fun Γ' hΓ => CoreE.of_g (callV_sound (τ := τ) (by kernel_rfl) rfl (ok_impl_TruthOf hv50) (FzTo.frz rfl))) trivial ?_
 obtain ⟨v51, hv52, h⟩ := bindS h
 refine qX (some 86) (I v51) 103 [(86, I v51), (6, .ptr 0 0 0)] [some ⟨0, Enc.cells (T_impl_Value.mk 0 0 (ByteArray.mk #[]))⟩] (fun Γ' hΓ => CoreE.of_g (callV_sound (τ := τ) (by kernel_rfl) rfl (ok_impl_OrOf hv52) (FzTo.frz rfl))) trivial ?_
 obtain ⟨v53, hv54, h⟩ := bindS h
 refine qX (some 87) (E v53) 103 [(87, E v53), (6, .ptr 0 0 0)] [some ⟨0, Enc.cells (T_impl_Value.mk 0 0 (ByteArray.mk #[]))⟩] (fun Γ' hΓ => CoreE.of_g (callV_sound (τ := τ) (by kernel_rfl) rfl (ok_impl_ValueOf hv54) (FzTo.frz rfl))) trivial ?_
 refine qX (Hm' := [sc 0 v53]) none (.any) 103 [(6, .ptr 0 0 0)] [sc 0 v53] (fun Γ' hΓ => sto_E τ_ok 0 0 (by kernel_rfl)) (hB trivial) ?_
 refine qn 103 [(6, .ptr 0 0 0)] [sc 0 v53] ?_
 cases h
 exact pwp_ret rz
 refine srveM [6, 7] 103 [(2, A a2), (6, .ptr 0 0 0), (88, B (a0.fKind == 7))] [some ⟨0, Enc.cells (T_impl_Value.mk 0 0 (ByteArray.mk #[]))⟩] ?_
 refine pc h (fun h => ?_) (fun h => ?_)
 refine srvM [6, 7] 1 103 [(6, .ptr 0 0 0), (90, A a2)] [some ⟨0, Enc.cells (T_impl_Value.mk 0 0 (ByteArray.mk #[]))⟩] ?_
 obtain ⟨v56, hv57, h⟩ := bindS h
 refine opsP_idx τ_ok 91 hv57 (by kernel_rfl) ?_
 refine vM [6, 7] 1 103 [(6, .ptr 0 0 0), (92, E v56)] [some ⟨0, Enc.cells (T_impl_Value.mk 0 0 (ByteArray.mk #[]))⟩] ?_
 obtain ⟨v58, hv59, h⟩ := bindS h
 refine cF 93 (ok_impl_TruthOf hv59) ?_
 obtain ⟨v60, hv61, h⟩ := bindS h
 refine cF 94 (ok_impl_NotOf hv61) ?_
 obtain ⟨v62, hv63, h⟩ := bindS h
 refine cF 95 (ok_impl_ValueOf hv63) ?_
 refine veM [6, 7] 1 103 [(6, .ptr 0 0 0)] [sc 0 v62] ?_
 cases h
 exact pwp_ret rz
 refine pwp_skip ?_
 refine srvM [6, 7] 1 103 [(6, .ptr 0 0 0), (96, A a2)] [some ⟨0, Enc.cells (T_impl_Value.mk 0 0 (ByteArray.mk #[]))⟩] ?_
 obtain ⟨v64, hv65, h⟩ := bindS h
 refine opsP_idx τ_ok 97 hv65 (by kernel_rfl) ?_
 refine vM [6, 7] 3 103 [(6, .ptr 0 0 0), (100, B (v64.fKind == 0))] [some ⟨0, Enc.cells (T_impl_Value.mk 0 0 (ByteArray.mk #[]))⟩] ?_
 obtain ⟨v66, hv67, h⟩ := bindS h
 refine cF 101 (ok_impl_truthIf hv67) ?_
 obtain ⟨v68, hv69, h⟩ := bindS h
 refine cF 102 (ok_impl_ValueOf hv69) ?_
 refine veM [6, 7] 1 103 [(6, .ptr 0 0 0)] [sc 0 v68] ?_
 cases h
 exact pwp_ret rz
def spec_DrawBatchPicked (a0 : List UInt8) : Option ((List T_impl_Column) × T_impl_Batch × (List T_impl_Part)) := (spec_l20Open a0).bind fun v1 => (spec_l20Batch v1 15).bind fun v3 => (spec_l20Rd_pick v3.2 4).bind fun v5 => (getI ([3, 3, 3, 1] : List Int) v5.1).bind fun v7 => (spec_l20Expr v5.2 v3.1.1 v7 3).bind fun v9 => some (v3.1.1, v3.1.2, v9.1)
theorem ok_spec_DrawBatchPicked {a0 : List UInt8} {y : (List T_impl_Column) × T_impl_Batch × (List T_impl_Part)} (h : spec_DrawBatchPicked a0 = some y) : OK Tryz.prog 30 [A a0] (.tup [A y.1, E y.2.1, A y.2.2]) := by
 refine ow Tryz.func30 fun Γ hX => ?_
 unfold spec_DrawBatchPicked at h
 refine srveM [3, 7] 25 [(0, A a0), (3, .ptr 0 0 0)] [some ⟨0, Enc.cells (T_impl_Batch.mk [] [])⟩] ?_
 refine srvM [3, 7] 1 25 [(3, .ptr 0 0 0), (8, A a0)] [some ⟨0, Enc.cells (T_impl_Batch.mk [] [])⟩] ?_
 obtain ⟨v1, hv2, h⟩ := bindS h
 refine opsP_callO τ 9 (ok_spec_l20Open hv2) rfl (by kernel_rfl) ?_
 refine veM [3, 7] 1 25 [(3, .ptr 0 0 0), (5, .ptr 1 0 0)] [some ⟨0, Enc.cells (T_impl_Batch.mk [] [])⟩, sc 0 v1] ?_
 refine srvM [3, 7] 1 25 [(3, .ptr 0 0 0), (5, .ptr 1 0 0), (11, .ptr 1 0 0)] [some ⟨0, Enc.cells (T_impl_Batch.mk [] [])⟩, sc 0 v1] ?_
 obtain ⟨v3, hv4, h⟩ := bindS h
 refine opsP_callB τ 12 1 0 (ok_spec_l20Batch hv4) (FzTo.tup (FzToL.cons (FzTo.frz rfl) (FzToL.cons (FzTo.frz rfl) FzToL.nil))) rfl (by kernel_rfl) ?_
 refine veM [3, 7] 6 25 [(3, .ptr 0 0 0), (5, .ptr 1 0 0), (6, A v3.1.1), (7, .ptr 2 0 0)] [some ⟨0, Enc.cells (T_impl_Batch.mk [] [])⟩, sc 0 v3.2, sc 0 v3.1.2] ?_
 refine pwp_seq ?_
 refine ip 25 [(3, .ptr 0 0 0), (5, .ptr 1 0 0), (6, A v3.1.1), (7, .ptr 2 0 0)] [some ⟨0, Enc.cells (T_impl_Batch.mk [] [])⟩, sc 0 v3.2, sc 0 v3.1.2] ?_
 refine pwp_any ([[], [2], [], [], [], [], [1], [], [], [1], [], [0], []]) ([[], [], [], [], [], [], [1], [], [], [1], [], [0], []]) rfl (by kernel_rfl) ?_
 refine qvM [3, 7] [] trivial 1 25 [(15, A v3.1.1), (3, .ptr 0 0 0), (5, .ptr 1 0 0), (6, A v3.1.1), (7, .ptr 2 0 0)] [some ⟨0, Enc.cells (T_impl_Batch.mk [] [])⟩, sc 0 v3.2, sc 0 v3.1.2] ?_
 refine qvM [3, 7] [2] (hB trivial) 1 25 [(16, E v3.1.2), (15, A v3.1.1), (3, .ptr 0 0 0), (5, .ptr 1 0 0), (6, A v3.1.1)] [some ⟨0, Enc.cells (T_impl_Batch.mk [] [])⟩, sc 0 v3.2, sc 0 v3.1.2] ?_
 refine qA_mv (⟨25, [(17, .ptr 1 0 0), (16, E v3.1.2), (15, A v3.1.1), (3, .ptr 0 0 0), (5, .ptr 1 0 0), (6, A v3.1.1)], [some ⟨0, Enc.cells (T_impl_Batch.mk [] [])⟩, sc 0 v3.2, sc 0 v3.1.2]⟩) (by kernel_rfl) rfl ?_
 refine qvM [3, 7] [] trivial 2 25 [(19, .arr 1 ([3, 3, 3, 1] : List Int).length (eL ([3, 3, 3, 1] : List Int)) true), (18, A v3.1.1), (17, .ptr 1 0 0), (16, E v3.1.2), (15, A v3.1.1), (3, .ptr 0 0 0), (5, .ptr 1 0 0)] [some ⟨0, Enc.cells (T_impl_Batch.mk [] [])⟩, sc 0 v3.2, sc 0 v3.1.2] ?_
 refine qA_mv (⟨25, [(20, .ptr 1 0 0), (19, .arr 1 ([3, 3, 3, 1] : List Int).length (eL ([3, 3, 3, 1] : List Int)) true), (18, A v3.1.1), (17, .ptr 1 0 0), (16, E v3.1.2), (15, A v3.1.1), (3, .ptr 0 0 0), (5, .ptr 1 0 0)], [some ⟨0, Enc.cells (T_impl_Batch.mk [] [])⟩, sc 0 v3.2, sc 0 v3.1.2]⟩) (by kernel_rfl) rfl ?_
 obtain ⟨v5, hv6, h⟩ := bindS h
 refine qX (some 21) (I v5.1) 25 [(21, I v5.1), (19, .arr 1 ([3, 3, 3, 1] : List Int).length (eL ([3, 3, 3, 1] : List Int)) true), (18, A v3.1.1), (17, .ptr 1 0 0), (16, E v3.1.2), (15, A v3.1.1), (3, .ptr 0 0 0)] [some ⟨0, Enc.cells (T_impl_Batch.mk [] [])⟩, sc 0 v5.2, sc 0 v3.1.2] (fun Γ' hΓ => callB_E τ 21 1 0 (ok_spec_l20Rd_pick hv6) (FzTo.frz rfl) rfl (by kernel_rfl)) (hB trivial) ?_
 obtain ⟨v7, hv8, h⟩ := bindS h
 refine qX (some 22) (pf v7 0) 25 [(22, pf v7 0), (18, A v3.1.1), (17, .ptr 1 0 0), (16, E v3.1.2), (15, A v3.1.1), (3, .ptr 0 0 0)] [some ⟨0, Enc.cells (T_impl_Batch.mk [] [])⟩, sc 0 v5.2, sc 0 v3.1.2] (fun Γ' hΓ => CoreE.of_y (idxV_sound τ_ok (by kernel_rfl) hv8)) trivial ?_
 refine qvM [3, 7] [] trivial 1 25 [(23, I v7), (18, A v3.1.1), (17, .ptr 1 0 0), (16, E v3.1.2), (15, A v3.1.1), (3, .ptr 0 0 0)] [some ⟨0, Enc.cells (T_impl_Batch.mk [] [])⟩, sc 0 v5.2, sc 0 v3.1.2] ?_
 obtain ⟨v9, hv10, h⟩ := bindS h
 refine qX (some 24) (A v9.1) 25 [(24, A v9.1), (16, E v3.1.2), (15, A v3.1.1), (3, .ptr 0 0 0)] [some ⟨0, Enc.cells (T_impl_Batch.mk [] [])⟩, sc 0 v9.2, sc 0 v3.1.2] (fun Γ' hΓ => callB_E τ 24 1 0 (ok_spec_l20Expr hv10) (FzTo.O _) rfl (by kernel_rfl)) (hB trivial) ?_
 refine qvM [3, 7] [] trivial 1 25 [(2, A v3.1.1), (24, A v9.1), (16, E v3.1.2), (3, .ptr 0 0 0)] [some ⟨0, Enc.cells (T_impl_Batch.mk [] [])⟩, sc 0 v9.2, sc 0 v3.1.2] ?_
 refine qX (Hm' := [sc 0 v3.1.2, none, none]) none (.any) 25 [(2, A v3.1.1), (24, A v9.1), (3, .ptr 0 0 0)] [sc 0 v3.1.2, sc 0 v9.2, sc 0 v3.1.2] (fun Γ' hΓ => sto_E τ_ok 0 0 (by kernel_rfl)) (hB trivial) ?_
 refine qvnM [3, 7] [] trivial 1 25 [(2, A v3.1.1), (3, .ptr 0 0 0), (4, A v9.1)] [sc 0 v3.1.2, sc 0 v9.2, sc 0 v3.1.2] ?_
 have h := si h
 subst h
 exact pwp_ret (rt (.tup [A v3.1.1, E v3.1.2, A v9.1]) (OutP.tup (OutL.cons (OutP.frz (by kernel_rfl)) (OutL.cons (OutP.frz (by kernel_rfl)) (OutL.cons (OutP.frz (by kernel_rfl)) (OutL.nil _))))))
def spec_BatchPicked_j3 (x23 : Int) (K26 : Int → (List Bool) → Option T_impl_Batch) (x28 : List Bool) : Option T_impl_Batch := K26 (w64 (x23 + 1)) x28
def spec_BatchPicked_l2 (a1 : T_impl_Batch) (x7 : List (List T_impl_Value)) (v17 : List T_impl_Value) : Nat → Int → (List Bool) → Option T_impl_Batch
 | 0, _, _ => none
 | f25 + 1, x23, x24 => bif (decide (x23 < (a1.fPicked.length : Int))) then (getI a1.fPicked x23).bind fun v29 => bif v29 then (getI v17 x23).bind fun v31 => (spec_ValueOf 1).bind fun v33 => (app x24 ([(eq_T_impl_Value v31 v33)] : List Bool)).bind fun v35 => spec_BatchPicked_j3 x23 (spec_BatchPicked_l2 a1 x7 v17 f25) v35 else (app x24 ([false] : List Bool)).bind fun v37 => spec_BatchPicked_j3 x23 (spec_BatchPicked_l2 a1 x7 v17 f25) v37 else some (T_impl_Batch.mk x7 x24)
def spec_BatchPicked_l1 (a1 : T_impl_Batch) (a2 : List T_impl_Part) : Nat → Int → (List (List T_impl_Value)) → Option T_impl_Batch
 | 0, _, _ => none
 | f8 + 1, x6, x7 => bif (decide (x6 < (a1.fColumns.length : Int))) then (getI a1.fColumns x6).bind fun v11 => (spec_l3Own v11).bind fun v13 => (app x7 ([v13] : List (List T_impl_Value))).bind fun v15 => (spec_BatchPicked_l1 a1 a2 f8) (w64 (x6 + 1)) v15 else (spec_l9Values a1 a2).bind fun v17 => spec_BatchPicked_l2 a1 x7 v17 FUEL 0 ([] : List Bool)
def spec_BatchPicked_j0 (a1 : T_impl_Batch) (a2 : List T_impl_Part) (x1 : Bool) : Option T_impl_Batch := bif x1 then some (T_impl_Batch.mk [] []) else spec_BatchPicked_l1 a1 a2 FUEL 0 ([] : List (List T_impl_Value))
def spec_BatchPicked (a0 : List T_impl_Column) (a1 : T_impl_Batch) (a2 : List T_impl_Part) : Option T_impl_Batch := (spec_ExprKind a0 a2).bind fun v40 => bif (!(v40 == 3)) then spec_BatchPicked_j0 a1 a2 true else (spec_l9Ready a0 a1).bind fun v42 => spec_BatchPicked_j0 a1 a2 (!v42)
theorem ok_spec_BatchPicked {a0 : List T_impl_Column} {a1 : T_impl_Batch} {a2 : List T_impl_Part} {y : T_impl_Batch} (h : spec_BatchPicked a0 a1 a2 = some y) : OK Tryz.prog 33 [A a0, E a1, A a2] (E y) := by
 refine ow Tryz.func33 fun Γ hX => ?_
 unfold spec_BatchPicked at h
 refine srveM [6, 7] 70 [(0, A a0), (2, A a2), (4, pf a1 0), (6, .ptr 0 0 0)] [some ⟨0, Enc.cells (T_impl_Batch.mk [] [])⟩] ?_
 refine pwp_seq ?_
 refine pwp_seq ?_
 refine pwp_join (σ := Bool) (fun x1 => (⟨70, [(2, A a2), (4, pf a1 0), (6, .ptr 0 0 0), (20, B x1)], [some ⟨0, Enc.cells (T_impl_Batch.mk [] [])⟩]⟩ : St)) (fun x1 => spec_BatchPicked_j0 a1 a2 x1 = some y) ?_ ?_
 refine rvM [6, 7] 2 70 [(0, A a0), (2, A a2), (4, pf a1 0), (6, .ptr 0 0 0), (11, A a0), (12, A a2)] [some ⟨0, Enc.cells (T_impl_Batch.mk [] [])⟩] ?_
 obtain ⟨v40, hv41, h⟩ := bindS h
 refine cF 13 (ok_spec_ExprKind hv41) ?_
 refine vM [6, 7] 2 70 [(0, A a0), (2, A a2), (4, pf a1 0), (6, .ptr 0 0 0), (15, B (!(v40 == 3)))] [some ⟨0, Enc.cells (T_impl_Batch.mk [] [])⟩] ?_
 rcases fk (!(v40 == 3)) with hc44 | hc44
 replace h := bT hc44 h
 rw [hc44]
 refine veM [6, 7] 5 70 [(2, A a2), (4, pf a1 0), (6, .ptr 0 0 0), (20, B true)] [some ⟨0, Enc.cells (T_impl_Batch.mk [] [])⟩] ?_
 exact ⟨true, h, it [2, 4, 6, 20]⟩
 replace h := bF hc44 h
 rw [hc44]
 refine vM [6, 7] 2 70 [(2, A a2), (4, pf a1 0), (6, .ptr 0 0 0), (15, B false), (16, A a0), (17, E a1)] [some ⟨0, Enc.cells (T_impl_Batch.mk [] [])⟩] ?_
 obtain ⟨v42, hv43, h⟩ := bindS h
 refine cF 18 (ok_spec_l9Ready hv43) ?_
 refine veM [6, 7] 2 70 [(2, A a2), (4, pf a1 0), (6, .ptr 0 0 0), (20, B (!v42))] [some ⟨0, Enc.cells (T_impl_Batch.mk [] [])⟩] ?_
 exact ⟨(!v42), h, it [2, 4, 6, 20]⟩
 rintro x1 h
 unfold spec_BatchPicked_j0 at h
 refine pc h (fun h => ?_) (fun h => ?_)
 refine srveM [6, 7] 70 [(6, .ptr 0 0 0)] [some ⟨0, Enc.cells (T_impl_Batch.mk [] [])⟩] ?_
 cases h
 exact pwp_ret rz
 refine pwp_skip ?_
 refine pwp_seq ?_
 refine pwp_region ?_
 refine opsP_E (dd := some 22) (x := .agg [.arr 1 0 (eL ([] : List (List T_impl_Value))) true, .arr 1 0 (eL ([] : List Bool)) true]) (CoreE.of_y (bldV_sound (zs := [.arr 1 0 [] true, .arr 1 0 [] true]) (cells := [.arr 1 0 (eL ([] : List (List T_impl_Value))) true, .arr 1 0 (eL ([] : List Bool)) true]) τ_ok zi_ok61 (by kernel_rfl))) ?_
 refine vM [6, 7] 0 70 [(2, A a2), (4, pf a1 0), (6, .ptr 0 0 0), (22, .agg [.arr 1 0 (eL ([] : List (List T_impl_Value))) true, .arr 1 0 (eL ([] : List Bool)) true])] [some ⟨0, Enc.cells (T_impl_Batch.mk [] [])⟩] ?_
 refine opsP_imp (Imp.ghosts 1 (st' := ⟨70, [(2, A a2), (4, pf a1 0), (6, .ptr 0 0 0), (22, .agg [.arr 1 0 (eL ([] : List (List T_impl_Value))) true, .arr 1 0 (eL ([] : List Bool)) true])], [some ⟨0, Enc.cells (T_impl_Batch.mk [] [])⟩, some ⟨0, []⟩]⟩) (by kernel_rfl)) ?_
 refine opsP_E (dd := some 7) (x := .ptr 1 1 0) (alz_E (blk := ⟨0, []⟩) (zs := [.arr 1 0 [] true, .arr 1 0 [] true]) 7 61 1 0 (nx hX) zi_ok61 (by kernel_rfl) (by kernel_rfl)) ?_
 refine veM [6, 7] 1 70 [(2, A a2), (4, pf a1 0), (6, .ptr 0 0 0), (7, .ptr 1 1 0)] [some ⟨0, Enc.cells (T_impl_Batch.mk [] [])⟩, some ⟨1, [.arr 1 0 (eL ([] : List (List T_impl_Value))) true, .arr 1 0 (eL ([] : List Bool)) true]⟩] ?_
 refine pwp_seq ?_
 refine srveM [6, 7] 70 [(2, A a2), (4, pf a1 0), (6, .ptr 0 0 0), (7, .ptr 1 1 0), (8, I 0)] [some ⟨0, Enc.cells (T_impl_Batch.mk [] [])⟩, some ⟨1, [.arr 1 0 (eL ([] : List (List T_impl_Value))) true, .arr 1 0 (eL ([] : List Bool)) true]⟩] ?_
 refine pwp_block ?_
 refine ip 70 [(2, A a2), (4, pf a1 0), (6, .ptr 0 0 0), (7, .ptr 1 1 0), (8, I 0)] [some ⟨0, Enc.cells (T_impl_Batch.mk [] [])⟩, some ⟨1, [.arr 1 0 (eL ([] : List (List T_impl_Value))) true, .arr 1 0 (eL ([] : List Bool)) true]⟩] ?_
 refine pwp_imp (Imp.thawB (st' := ⟨70, [(2, A a2), (4, pf a1 0), (6, .ptr 0 0 0), (7, .ptr 1 1 0), (8, I 0)], [some ⟨0, Enc.cells (T_impl_Batch.mk [] [])⟩, some ⟨1, [.ref 2 0 0 1 ([] : List (List T_impl_Value)).length false, .arr 1 0 (eL ([] : List Bool)) true]⟩, some ⟨0, eL ([] : List (List T_impl_Value))⟩]⟩) 2 (by kernel_rfl) (HpRel.frz rfl (Enc.frz _) (HpRel.box rfl (CellRel.cons (.inr ⟨_, rfl, rfl⟩) (CellRel.cons (.inl ⟨rfl, rfl⟩) CellRel.nil)) (HpRel.key HpRel.nil))) (by rfl) (by rfl) (nx hX)) ?_
 refine pwp_loop (ι := Nat × Int × (List (List T_impl_Value))) (fun (f8, x6, x7) => (⟨70, [(2, A a2), (4, pf a1 0), (6, .ptr 0 0 0), (7, .ptr 1 1 0), (8, I x6)], [some ⟨0, Enc.cells (T_impl_Batch.mk [] [])⟩, some ⟨1, [rf 2 0 1 x7, .arr 1 0 (eL ([] : List Bool)) true]⟩, sl 0 x7]⟩ : St)) (fun (f8, x6, x7) => spec_BatchPicked_l1 a1 a2 f8 x6 x7 = some y) Prod.fst (FUEL, 0, ([] : List (List T_impl_Value))) h (it [2, 4, 6, 7, 8]) ?_
 rintro ⟨f8, x6, x7⟩ h
 dsimp only at h ⊢
 rcases f8 with _ | f8
 cases h
 rw [spec_BatchPicked_l1] at h
 refine pwp_seq ?_
 refine srveM [6, 7] 70 [(2, A a2), (4, pf a1 0), (6, .ptr 0 0 0), (7, .ptr 1 1 0), (8, I x6), (27, B (decide (x6 < (a1.fColumns.length : Int))))] [some ⟨0, Enc.cells (T_impl_Batch.mk [] [])⟩, some ⟨1, [rf 2 0 1 x7, .arr 1 0 (eL ([] : List Bool)) true]⟩, sl 0 x7] ?_
 refine pc h (fun h => ?_) (fun h => ?_)
 refine pwp_skip ?_
 refine pwp_seq ?_
 refine pwp_block ?_
 refine ip 70 [(2, A a2), (4, pf a1 0), (6, .ptr 0 0 0), (7, .ptr 1 1 0), (8, I x6)] [some ⟨0, Enc.cells (T_impl_Batch.mk [] [])⟩, some ⟨1, [rf 2 0 1 x7, .arr 1 0 (eL ([] : List Bool)) true]⟩, sl 0 x7] ?_
 refine pwp_any ([[1, 2], [1, 2], [], [], [], [], [], [], [], [2], [1, 2], [1, 2]]) ([[], [], [], [], [], [], [], [], [], [2], [], [1]]) rfl (by kernel_rfl) ?_
 refine qvM [6, 7] [1, 2] (hR (hL trivial)) 2 70 [(31, rf 2 0 1 x7), (2, A a2), (4, pf a1 0), (6, .ptr 0 0 0), (7, .ptr 1 1 0), (8, I x6)] [some ⟨0, Enc.cells (T_impl_Batch.mk [] [])⟩, some ⟨1, [rf 2 0 1 x7, .arr 1 0 (eL ([] : List Bool)) true]⟩, sl 0 x7] ?_
 refine qvM [6, 7] [] trivial 3 70 [(34, I x6), (33, A a1.fColumns), (31, rf 2 0 1 x7), (2, A a2), (4, pf a1 0), (6, .ptr 0 0 0), (7, .ptr 1 1 0), (8, I x6)] [some ⟨0, Enc.cells (T_impl_Batch.mk [] [])⟩, some ⟨1, [rf 2 0 1 x7, .arr 1 0 (eL ([] : List Bool)) true]⟩, sl 0 x7] ?_
 obtain ⟨v11, hv12, h⟩ := bindS h
 refine qX (some 35) (pf v11 0) 70 [(35, pf v11 0), (31, rf 2 0 1 x7), (2, A a2), (4, pf a1 0), (6, .ptr 0 0 0), (7, .ptr 1 1 0), (8, I x6)] [some ⟨0, Enc.cells (T_impl_Batch.mk [] [])⟩, some ⟨1, [rf 2 0 1 x7, .arr 1 0 (eL ([] : List Bool)) true]⟩, sl 0 x7] (fun Γ' hΓ => CoreE.of_y (idxV_sound τ_ok (by kernel_rfl) hv12)) trivial ?_
 refine qvM [6, 7] [] trivial 1 70 [(36, A v11), (31, rf 2 0 1 x7), (2, A a2), (4, pf a1 0), (6, .ptr 0 0 0), (7, .ptr 1 1 0), (8, I x6)] [some ⟨0, Enc.cells (T_impl_Batch.mk [] [])⟩, some ⟨1, [rf 2 0 1 x7, .arr 1 0 (eL ([] : List Bool)) true]⟩, sl 0 x7] ?_
 obtain ⟨v13, hv14, h⟩ := bindS h
 refine qX (some 37) (A v13) 70 [(37, A v13), (31, rf 2 0 1 x7), (2, A a2), (4, pf a1 0), (6, .ptr 0 0 0), (7, .ptr 1 1 0), (8, I x6)] [some ⟨0, Enc.cells (T_impl_Batch.mk [] [])⟩, some ⟨1, [rf 2 0 1 x7, .arr 1 0 (eL ([] : List Bool)) true]⟩, sl 0 x7] (fun Γ' hΓ => CoreE.of_g (callV_sound (τ := τ) (by kernel_rfl) rfl (ok_spec_l3Own hv14) (FzTo.O _))) trivial ?_
 refine qvM [6, 7] [] trivial 1 70 [(38, .arr 1 ([v13] : List (List T_impl_Value)).length (eL ([v13] : List (List T_impl_Value))) true), (31, rf 2 0 1 x7), (2, A a2), (4, pf a1 0), (6, .ptr 0 0 0), (7, .ptr 1 1 0), (8, I x6)] [some ⟨0, Enc.cells (T_impl_Batch.mk [] [])⟩, some ⟨1, [rf 2 0 1 x7, .arr 1 0 (eL ([] : List Bool)) true]⟩, sl 0 x7] ?_
 obtain ⟨v15, hv16, h⟩ := bindS h
 refine qX (some 39) (rf 2 1 1 v15) 70 [(39, rf 2 1 1 v15), (2, A a2), (4, pf a1 0), (6, .ptr 0 0 0), (7, .ptr 1 1 0), (8, I x6)] [some ⟨0, Enc.cells (T_impl_Batch.mk [] [])⟩, some ⟨1, [rf 2 0 1 x7, .arr 1 0 (eL ([] : List Bool)) true]⟩, sl 1 v15] (fun Γ' hΓ => app_Ew τ_ok 39 2 0 (ny hΓ hX) hv16 (by kernel_rfl)) (hL trivial) ?_
 refine qvM [6, 7] [1, 2] (hR (hL trivial)) 1 70 [(40, .ptr 1 1 0), (39, rf 2 1 1 v15), (2, A a2), (4, pf a1 0), (6, .ptr 0 0 0), (7, .ptr 1 1 0), (8, I x6)] [some ⟨0, Enc.cells (T_impl_Batch.mk [] [])⟩, some ⟨1, [rf 2 0 1 x7, .arr 1 0 (eL ([] : List Bool)) true]⟩, sl 1 v15] ?_
 refine qX (Hm' := [none, some ⟨1, [rf 2 1 1 v15, .arr 1 0 (eL ([] : List Bool)) true]⟩, sl 1 v15]) none (.any) 70 [(2, A a2), (4, pf a1 0), (6, .ptr 0 0 0), (7, .ptr 1 1 0), (8, I x6)] [some ⟨0, Enc.cells (T_impl_Batch.mk [] [])⟩, some ⟨1, [rf 2 1 1 v15, .arr 1 0 (eL ([] : List Bool)) true]⟩, sl 1 v15] (fun Γ' hΓ => sto_E τ_ok 1 1 (by kernel_rfl)) (hR (hL trivial)) ?_
 refine qn 70 [(2, A a2), (4, pf a1 0), (6, .ptr 0 0 0), (7, .ptr 1 1 0), (8, I x6)] [some ⟨0, Enc.cells (T_impl_Batch.mk [] [])⟩, some ⟨1, [rf 2 1 1 v15, .arr 1 0 (eL ([] : List Bool)) true]⟩, sl 1 v15] ?_
 refine rveM [6, 7] 70 [(2, A a2), (4, pf a1 0), (6, .ptr 0 0 0), (7, .ptr 1 1 0), (8, I (w64 (x6 + 1)))] [some ⟨0, Enc.cells (T_impl_Batch.mk [] [])⟩, some ⟨1, [rf 2 1 1 v15, .arr 1 0 (eL ([] : List Bool)) true]⟩, sl 1 v15] ?_
 exact ⟨(f8, (w64 (x6 + 1)), v15), h, Nat.lt_succ_self _, qt (it (st' := ⟨70, [(2, A a2), (4, pf a1 0), (6, .ptr 0 0 0), (7, .ptr 1 1 0), (8, I (w64 (x6 + 1)))], [some ⟨0, Enc.cells (T_impl_Batch.mk [] [])⟩, some ⟨1, [rf 2 1 1 v15, .arr 1 0 (eL ([] : List Bool)) true]⟩, sl 1 v15]⟩) [2, 4, 6, 7, 8]) (qt (Imp.reverB (cs := eL v15) (st' := ⟨70, [(2, A a2), (4, pf a1 0), (6, .ptr 0 0 0), (7, .ptr 1 1 0), (8, I (w64 (x6 + 1)))], [some ⟨0, Enc.cells (T_impl_Batch.mk [] [])⟩, some ⟨1, [rf 2 0 1 v15, .arr 1 0 (eL ([] : List Bool)) true]⟩, sl 0 v15]⟩) 2 1 (by kernel_rfl) (qu_of_frzL (eL_frz _)) (HpRel.frz rfl (Enc.frz _) (HpRel.box rfl (CellRel.cons ⟨rfl, rfl⟩ (CellRel.cons ⟨rfl, rfl⟩ CellRel.nil)) (HpRel.key HpRel.nil))) (by kernel_rfl) (by rfl) (nx hX)) (it [2, 4, 6, 7, 8]))⟩
 refine pwp_exit ?_
 refine srvM [6, 7] 2 70 [(4, pf a1 0), (6, .ptr 0 0 0), (7, .ptr 1 1 0), (41, E a1), (42, A a2)] [some ⟨0, Enc.cells (T_impl_Batch.mk [] [])⟩, some ⟨1, [rf 2 0 1 x7, .arr 1 0 (eL ([] : List Bool)) true]⟩, sl 0 x7] ?_
 obtain ⟨v17, hv18, h⟩ := bindS h
 refine cF 43 (ok_spec_l9Values hv18) ?_
 refine veM [6, 7] 1 70 [(4, pf a1 0), (6, .ptr 0 0 0), (7, .ptr 1 1 0), (9, A v17)] [some ⟨0, Enc.cells (T_impl_Batch.mk [] [])⟩, some ⟨1, [rf 2 0 1 x7, .arr 1 0 (eL ([] : List Bool)) true]⟩, sl 0 x7] ?_
 refine pwp_seq ?_
 refine srveM [6, 7] 70 [(4, pf a1 0), (6, .ptr 0 0 0), (7, .ptr 1 1 0), (9, A v17), (10, I 0)] [some ⟨0, Enc.cells (T_impl_Batch.mk [] [])⟩, some ⟨1, [rf 2 0 1 x7, .arr 1 0 (eL ([] : List Bool)) true]⟩, sl 0 x7] ?_
 refine pwp_block ?_
 refine ip 70 [(4, pf a1 0), (6, .ptr 0 0 0), (7, .ptr 1 1 0), (9, A v17), (10, I 0)] [some ⟨0, Enc.cells (T_impl_Batch.mk [] [])⟩, some ⟨1, [rf 2 0 1 x7, .arr 1 0 (eL ([] : List Bool)) true]⟩, sl 0 x7] ?_
 refine pwp_imp (Imp.thawB (st' := ⟨70, [(4, pf a1 0), (6, .ptr 0 0 0), (7, .ptr 1 1 0), (9, A v17), (10, I 0)], [some ⟨0, Enc.cells (T_impl_Batch.mk [] [])⟩, some ⟨1, [rf 2 0 1 x7, .ref 3 0 0 1 ([] : List Bool).length false]⟩, sl 0 x7, some ⟨0, eL ([] : List Bool)⟩]⟩) 3 (by kernel_rfl) (HpRel.frz rfl (Enc.frz _) (HpRel.box rfl (CellRel.cons (.inl ⟨rfl, rfl⟩) (CellRel.cons (.inr ⟨_, rfl, rfl⟩) CellRel.nil)) (HpRel.frz rfl (eL_frz _) (HpRel.key HpRel.nil)))) (by rfl) (by rfl) (nx hX)) ?_
 refine pwp_loop (ι := Nat × Int × (List Bool)) (fun (f25, x23, x24) => (⟨70, [(4, pf a1 0), (6, .ptr 0 0 0), (7, .ptr 1 1 0), (9, A v17), (10, I x23)], [some ⟨0, Enc.cells (T_impl_Batch.mk [] [])⟩, some ⟨1, [rf 2 0 1 x7, rf 3 0 1 x24]⟩, sl 0 x7, sl 0 x24]⟩ : St)) (fun (f25, x23, x24) => spec_BatchPicked_l2 a1 x7 v17 f25 x23 x24 = some y) Prod.fst (FUEL, 0, ([] : List Bool)) h (it [4, 6, 7, 9, 10]) ?_
 rintro ⟨f25, x23, x24⟩ h
 dsimp only at h ⊢
 rcases f25 with _ | f25
 cases h
 rw [spec_BatchPicked_l2] at h
 refine pwp_seq ?_
 refine srveM [6, 7] 70 [(4, pf a1 0), (6, .ptr 0 0 0), (7, .ptr 1 1 0), (9, A v17), (10, I x23), (48, B (decide (x23 < (a1.fPicked.length : Int))))] [some ⟨0, Enc.cells (T_impl_Batch.mk [] [])⟩, some ⟨1, [rf 2 0 1 x7, rf 3 0 1 x24]⟩, sl 0 x7, sl 0 x24] ?_
 refine pc h (fun h => ?_) (fun h => ?_)
 refine pwp_skip ?_
 refine pwp_seq ?_
 refine pwp_join (σ := (List Bool)) (fun x28 => (⟨70, [(4, pf a1 0), (6, .ptr 0 0 0), (7, .ptr 1 1 0), (9, A v17), (10, I x23)], [some ⟨0, Enc.cells (T_impl_Batch.mk [] [])⟩, some ⟨1, [rf 2 0 1 x7, rf 3 0 1 x28]⟩, sl 0 x7, sl 0 x28]⟩ : St)) (fun x28 => spec_BatchPicked_j3 x23 (spec_BatchPicked_l2 a1 x7 v17 f25) x28 = some y) ?_ ?_
 refine pwp_block ?_
 refine ip 70 [(4, pf a1 0), (6, .ptr 0 0 0), (7, .ptr 1 1 0), (9, A v17), (10, I x23)] [some ⟨0, Enc.cells (T_impl_Batch.mk [] [])⟩, some ⟨1, [rf 2 0 1 x7, rf 3 0 1 x24]⟩, sl 0 x7, sl 0 x24] ?_
 refine pwp_any ([[1, 2, 3], [1, 2, 3], [], [], [], [], [], [], [], [], [], [], [], [], [], [], [3], [1, 2, 3], [1, 2, 3]]) ([[], [], [], [], [], [], [], [], [], [], [], [], [], [], [], [], [3], [], [1]]) rfl (by kernel_rfl) ?_
 refine qvM [6, 7] [1, 2, 3] (hR (hL (hL trivial))) 2 70 [(52, rf 3 0 1 x24), (4, pf a1 0), (6, .ptr 0 0 0), (7, .ptr 1 1 0), (9, A v17), (10, I x23)] [some ⟨0, Enc.cells (T_impl_Batch.mk [] [])⟩, some ⟨1, [rf 2 0 1 x7, rf 3 0 1 x24]⟩, sl 0 x7, sl 0 x24] ?_
 refine qvM [6, 7] [] trivial 3 70 [(55, I x23), (54, A a1.fPicked), (52, rf 3 0 1 x24), (4, pf a1 0), (6, .ptr 0 0 0), (7, .ptr 1 1 0), (9, A v17), (10, I x23)] [some ⟨0, Enc.cells (T_impl_Batch.mk [] [])⟩, some ⟨1, [rf 2 0 1 x7, rf 3 0 1 x24]⟩, sl 0 x7, sl 0 x24] ?_
 obtain ⟨v29, hv30, h⟩ := bindS h
 refine qX (some 56) (pf v29 0) 70 [(56, pf v29 0), (52, rf 3 0 1 x24), (4, pf a1 0), (6, .ptr 0 0 0), (7, .ptr 1 1 0), (9, A v17), (10, I x23)] [some ⟨0, Enc.cells (T_impl_Batch.mk [] [])⟩, some ⟨1, [rf 2 0 1 x7, rf 3 0 1 x24]⟩, sl 0 x7, sl 0 x24] (fun Γ' hΓ => CoreE.of_y (idxV_sound τ_ok (by kernel_rfl) hv30)) trivial ?_
 refine qvM [6, 7] [] trivial 2 70 [(58, B v29), (52, rf 3 0 1 x24), (4, pf a1 0), (6, .ptr 0 0 0), (7, .ptr 1 1 0), (9, A v17), (10, I x23)] [some ⟨0, Enc.cells (T_impl_Batch.mk [] [])⟩, some ⟨1, [rf 2 0 1 x7, rf 3 0 1 x24]⟩, sl 0 x7, sl 0 x24] ?_
 rcases Bool.eq_false_or_eq_true v29 with hc39 | hc39
 replace h := bT hc39 h
 rw [hc39]
 refine qvM [6, 7] [] trivial 2 70 [(60, I x23), (59, A v17), (58, B true), (52, rf 3 0 1 x24), (4, pf a1 0), (6, .ptr 0 0 0), (7, .ptr 1 1 0), (9, A v17), (10, I x23)] [some ⟨0, Enc.cells (T_impl_Batch.mk [] [])⟩, some ⟨1, [rf 2 0 1 x7, rf 3 0 1 x24]⟩, sl 0 x7, sl 0 x24] ?_
 obtain ⟨v31, hv32, h⟩ := bindS h
 refine qX (some 61) (pf v31 0) 70 [(61, pf v31 0), (60, I x23), (59, A v17), (58, B true), (52, rf 3 0 1 x24), (4, pf a1 0), (6, .ptr 0 0 0), (7, .ptr 1 1 0), (9, A v17), (10, I x23)] [some ⟨0, Enc.cells (T_impl_Batch.mk [] [])⟩, some ⟨1, [rf 2 0 1 x7, rf 3 0 1 x24]⟩, sl 0 x7, sl 0 x24] (fun Γ' hΓ => CoreE.of_y (idxV_sound τ_ok (by kernel_rfl) hv32)) trivial ?_
 refine qvM [6, 7] [] trivial 1 70 [(62, E v31), (61, pf v31 0), (60, I x23), (59, A v17), (58, B true), (52, rf 3 0 1 x24), (4, pf a1 0), (6, .ptr 0 0 0), (7, .ptr 1 1 0), (9, A v17), (10, I x23)] [some ⟨0, Enc.cells (T_impl_Batch.mk [] [])⟩, some ⟨1, [rf 2 0 1 x7, rf 3 0 1 x24]⟩, sl 0 x7, sl 0 x24] ?_
 obtain ⟨v33, hv34, h⟩ := bindS h
 refine qX (some 63) (E v33) 70 [(63, E v33), (62, E v31), (61, pf v31 0), (60, I x23), (59, A v17), (58, B true), (52, rf 3 0 1 x24), (4, pf a1 0), (6, .ptr 0 0 0), (7, .ptr 1 1 0), (9, A v17), (10, I x23)] [some ⟨0, Enc.cells (T_impl_Batch.mk [] [])⟩, some ⟨1, [rf 2 0 1 x7, rf 3 0 1 x24]⟩, sl 0 x7, sl 0 x24] (fun Γ' hΓ => CoreE.of_g (callV_sound (τ := τ) (by kernel_rfl) rfl (ok_spec_ValueOf hv34) (FzTo.frz rfl))) trivial ?_
 refine qvM [6, 7] [] trivial 3 70 [(66, .arr 1 ([(eq_T_impl_Value v31 v33)] : List Bool).length (eL ([(eq_T_impl_Value v31 v33)] : List Bool)) true), (64, B (eq_T_impl_Value v31 v33)), (63, E v33), (62, E v31), (61, pf v31 0), (60, I x23), (59, A v17), (52, rf 3 0 1 x24), (4, pf a1 0), (6, .ptr 0 0 0), (7, .ptr 1 1 0), (9, A v17), (10, I x23)] [some ⟨0, Enc.cells (T_impl_Batch.mk [] [])⟩, some ⟨1, [rf 2 0 1 x7, rf 3 0 1 x24]⟩, sl 0 x7, sl 0 x24] ?_
 obtain ⟨v35, hv36, h⟩ := bindS h
 refine qX (some 67) (rf 3 1 1 v35) 70 [(67, rf 3 1 1 v35), (64, B (eq_T_impl_Value v31 v33)), (63, E v33), (62, E v31), (61, pf v31 0), (60, I x23), (59, A v17), (4, pf a1 0), (6, .ptr 0 0 0), (7, .ptr 1 1 0), (9, A v17), (10, I x23)] [some ⟨0, Enc.cells (T_impl_Batch.mk [] [])⟩, some ⟨1, [rf 2 0 1 x7, rf 3 0 1 x24]⟩, sl 0 x7, sl 1 v35] (fun Γ' hΓ => app_Ew τ_ok 67 3 0 (ny hΓ hX) hv36 (by kernel_rfl)) (hL trivial) ?_
 refine qvM [6, 7] [1, 2, 3] (hR (hL (hL trivial))) 1 70 [(68, .ptr 1 1 1), (67, rf 3 1 1 v35), (64, B (eq_T_impl_Value v31 v33)), (63, E v33), (62, E v31), (61, pf v31 0), (60, I x23), (59, A v17), (4, pf a1 0), (6, .ptr 0 0 0), (7, .ptr 1 1 0), (9, A v17), (10, I x23)] [some ⟨0, Enc.cells (T_impl_Batch.mk [] [])⟩, some ⟨1, [rf 2 0 1 x7, rf 3 0 1 x24]⟩, sl 0 x7, sl 1 v35] ?_
 refine qX (Hm' := [none, some ⟨1, [rf 2 0 1 x7, rf 3 1 1 v35]⟩, sl 0 x7, sl 1 v35]) none (.any) 70 [(64, B (eq_T_impl_Value v31 v33)), (63, E v33), (62, E v31), (61, pf v31 0), (60, I x23), (59, A v17), (4, pf a1 0), (6, .ptr 0 0 0), (7, .ptr 1 1 0), (9, A v17), (10, I x23)] [some ⟨0, Enc.cells (T_impl_Batch.mk [] [])⟩, some ⟨1, [rf 2 0 1 x7, rf 3 1 1 v35]⟩, sl 0 x7, sl 1 v35] (fun Γ' hΓ => sto_E τ_ok 1 1 (by kernel_rfl)) (hR (hL (hL trivial))) ?_
 refine qn 70 [(4, pf a1 0), (6, .ptr 0 0 0), (7, .ptr 1 1 0), (9, A v17), (10, I x23), (59, A v17), (60, I x23), (61, pf v31 0), (62, E v31), (63, E v33), (64, B (eq_T_impl_Value v31 v33))] [some ⟨0, Enc.cells (T_impl_Batch.mk [] [])⟩, some ⟨1, [rf 2 0 1 x7, rf 3 1 1 v35]⟩, sl 0 x7, sl 1 v35] ?_
 exact ⟨v35, h, qt (it (st' := ⟨70, [(4, pf a1 0), (6, .ptr 0 0 0), (7, .ptr 1 1 0), (9, A v17), (10, I x23)], [some ⟨0, Enc.cells (T_impl_Batch.mk [] [])⟩, some ⟨1, [rf 2 0 1 x7, rf 3 1 1 v35]⟩, sl 0 x7, sl 1 v35]⟩) [4, 6, 7, 9, 10]) (qt (Imp.reverB (cs := eL v35) (st' := ⟨70, [(4, pf a1 0), (6, .ptr 0 0 0), (7, .ptr 1 1 0), (9, A v17), (10, I x23)], [some ⟨0, Enc.cells (T_impl_Batch.mk [] [])⟩, some ⟨1, [rf 2 0 1 x7, rf 3 0 1 v35]⟩, sl 0 x7, sl 0 v35]⟩) 3 1 (by kernel_rfl) (qu_of_frzL (eL_frz _)) (HpRel.frz rfl (Enc.frz _) (HpRel.box rfl (CellRel.cons ⟨rfl, rfl⟩ (CellRel.cons ⟨rfl, rfl⟩ CellRel.nil)) (HpRel.frz rfl (eL_frz _) (HpRel.key HpRel.nil)))) (by kernel_rfl) (by rfl) (nx hX)) (it [4, 6, 7, 9, 10]))⟩
 replace h := bF hc39 h
 rw [hc39]
 refine qvM [6, 7] [] trivial 8 70 [(66, .arr 1 ([false] : List Bool).length (eL ([false] : List Bool)) true), (64, .lit undef), (63, .lit undef), (62, .lit undef), (61, .lit undef), (60, .lit undef), (59, .lit undef), (52, rf 3 0 1 x24), (4, pf a1 0), (6, .ptr 0 0 0), (7, .ptr 1 1 0), (9, A v17), (10, I x23)] [some ⟨0, Enc.cells (T_impl_Batch.mk [] [])⟩, some ⟨1, [rf 2 0 1 x7, rf 3 0 1 x24]⟩, sl 0 x7, sl 0 x24] ?_
 obtain ⟨v37, hv38, h⟩ := bindS h
 refine qX (some 67) (rf 3 1 1 v37) 70 [(67, rf 3 1 1 v37), (64, .lit undef), (63, .lit undef), (62, .lit undef), (61, .lit undef), (60, .lit undef), (59, .lit undef), (4, pf a1 0), (6, .ptr 0 0 0), (7, .ptr 1 1 0), (9, A v17), (10, I x23)] [some ⟨0, Enc.cells (T_impl_Batch.mk [] [])⟩, some ⟨1, [rf 2 0 1 x7, rf 3 0 1 x24]⟩, sl 0 x7, sl 1 v37] (fun Γ' hΓ => app_Ew τ_ok 67 3 0 (ny hΓ hX) hv38 (by kernel_rfl)) (hL trivial) ?_
 refine qvM [6, 7] [1, 2, 3] (hR (hL (hL trivial))) 1 70 [(68, .ptr 1 1 1), (67, rf 3 1 1 v37), (64, .lit undef), (63, .lit undef), (62, .lit undef), (61, .lit undef), (60, .lit undef), (59, .lit undef), (4, pf a1 0), (6, .ptr 0 0 0), (7, .ptr 1 1 0), (9, A v17), (10, I x23)] [some ⟨0, Enc.cells (T_impl_Batch.mk [] [])⟩, some ⟨1, [rf 2 0 1 x7, rf 3 0 1 x24]⟩, sl 0 x7, sl 1 v37] ?_
 refine qX (Hm' := [none, some ⟨1, [rf 2 0 1 x7, rf 3 1 1 v37]⟩, sl 0 x7, sl 1 v37]) none (.any) 70 [(64, .lit undef), (63, .lit undef), (62, .lit undef), (61, .lit undef), (60, .lit undef), (59, .lit undef), (4, pf a1 0), (6, .ptr 0 0 0), (7, .ptr 1 1 0), (9, A v17), (10, I x23)] [some ⟨0, Enc.cells (T_impl_Batch.mk [] [])⟩, some ⟨1, [rf 2 0 1 x7, rf 3 1 1 v37]⟩, sl 0 x7, sl 1 v37] (fun Γ' hΓ => sto_E τ_ok 1 1 (by kernel_rfl)) (hR (hL (hL trivial))) ?_
 refine qn 70 [(4, pf a1 0), (6, .ptr 0 0 0), (7, .ptr 1 1 0), (9, A v17), (10, I x23), (59, .lit undef), (60, .lit undef), (61, .lit undef), (62, .lit undef), (63, .lit undef), (64, .lit undef)] [some ⟨0, Enc.cells (T_impl_Batch.mk [] [])⟩, some ⟨1, [rf 2 0 1 x7, rf 3 1 1 v37]⟩, sl 0 x7, sl 1 v37] ?_
 exact ⟨v37, h, qt (it (st' := ⟨70, [(4, pf a1 0), (6, .ptr 0 0 0), (7, .ptr 1 1 0), (9, A v17), (10, I x23)], [some ⟨0, Enc.cells (T_impl_Batch.mk [] [])⟩, some ⟨1, [rf 2 0 1 x7, rf 3 1 1 v37]⟩, sl 0 x7, sl 1 v37]⟩) [4, 6, 7, 9, 10]) (qt (Imp.reverB (cs := eL v37) (st' := ⟨70, [(4, pf a1 0), (6, .ptr 0 0 0), (7, .ptr 1 1 0), (9, A v17), (10, I x23)], [some ⟨0, Enc.cells (T_impl_Batch.mk [] [])⟩, some ⟨1, [rf 2 0 1 x7, rf 3 0 1 v37]⟩, sl 0 x7, sl 0 v37]⟩) 3 1 (by kernel_rfl) (qu_of_frzL (eL_frz _)) (HpRel.frz rfl (Enc.frz _) (HpRel.box rfl (CellRel.cons ⟨rfl, rfl⟩ (CellRel.cons ⟨rfl, rfl⟩ CellRel.nil)) (HpRel.frz rfl (eL_frz _) (HpRel.key HpRel.nil)))) (by kernel_rfl) (by rfl) (nx hX)) (it [4, 6, 7, 9, 10]))⟩
 rintro x28 h
 unfold spec_BatchPicked_j3 at h
 refine rveM [6, 7] 70 [(4, pf a1 0), (6, .ptr 0 0 0), (7, .ptr 1 1 0), (9, A v17), (10, I (w64 (x23 + 1)))] [some ⟨0, Enc.cells (T_impl_Batch.mk [] [])⟩, some ⟨1, [rf 2 0 1 x7, rf 3 0 1 x28]⟩, sl 0 x7, sl 0 x28] ?_
 exact ⟨(f25, (w64 (x23 + 1)), x28), h, Nat.lt_succ_self _, it [4, 6, 7, 9, 10]⟩
 refine pwp_exit ?_
 refine srvM [6, 7] 1 70 [(6, .ptr 0 0 0), (69, .agg [rf 2 0 1 x7, rf 3 0 1 x24])] [some ⟨0, Enc.cells (T_impl_Batch.mk [] [])⟩, some ⟨1, [rf 2 0 1 x7, rf 3 0 1 x24]⟩, sl 0 x7, sl 0 x24] ?_
 refine opsP_imp (Imp.freezeB (v := 0) (cs := eL x7) (st' := ⟨70, [(6, .ptr 0 0 0), (69, .agg [A x7, rf 3 0 1 x24])], [some ⟨0, Enc.cells (T_impl_Batch.mk [] [])⟩, some ⟨1, [A x7, rf 3 0 1 x24]⟩, none, sl 0 x24]⟩) 2 0 (nx hX) (by kernel_rfl) (eL_frz _) (wholeC (whole_noRef (by kernel_rfl)) (wholeC (whole_agg (wholeL (whole_is (eL_len x7).symm) (wholeL (whole_ne rfl) wholeL0))) wholeC0)) (HpRel.frz rfl (Enc.frz _) (HpRel.box rfl (CellRel.cons ⟨rfl, (whole_is (eL_len x7).symm), rfl⟩ (CellRel.cons ⟨rfl, (whole_ne rfl), rfl⟩ CellRel.nil)) (HpRel.key (HpRel.frz rfl (eL_frz _) HpRel.nil)))) (by kernel_rfl) rfl (nx hX)) ?_
 refine vM [6, 7] 0 70 [(6, .ptr 0 0 0), (69, .agg [A x7, rf 3 0 1 x24])] [some ⟨0, Enc.cells (T_impl_Batch.mk [] [])⟩, some ⟨1, [A x7, rf 3 0 1 x24]⟩, none, sl 0 x24] ?_
 refine opsP_imp (Imp.freezeB (v := 0) (cs := eL x24) (st' := ⟨70, [(6, .ptr 0 0 0), (69, E (T_impl_Batch.mk x7 x24))], [some ⟨0, Enc.cells (T_impl_Batch.mk [] [])⟩, some ⟨1, Enc.cells (T_impl_Batch.mk x7 x24)⟩, none, none]⟩) 3 0 (nx hX) (by kernel_rfl) (eL_frz _) (wholeC (whole_noRef (by kernel_rfl)) (wholeC (whole_agg (wholeL (whole_noRef (by kernel_rfl)) (wholeL (whole_is (eL_len x24).symm) wholeL0))) wholeC0)) (HpRel.frz rfl (Enc.frz _) (HpRel.box rfl (CellRel.cons ⟨rfl, trivial, rfl⟩ (CellRel.cons ⟨rfl, (whole_is (eL_len x24).symm), rfl⟩ CellRel.nil)) (HpRel.none rfl (HpRel.key HpRel.nil)))) (by kernel_rfl) rfl (nx hX)) ?_
 refine veM [6, 7] 1 70 [(6, .ptr 0 0 0)] [some ⟨0, Enc.cells (T_impl_Batch.mk x7 x24)⟩, some ⟨1, Enc.cells (T_impl_Batch.mk x7 x24)⟩, none, none] ?_
 cases h
 exact pwp_ret rz
def impl_exprValue_l0 (a0 : List T_impl_Value) (a1 : List T_impl_Part) : Nat → Int → (List T_impl_Value) → Option T_impl_Value
 | 0, _, _ => none
 | f5 + 1, x3, x4 => bif (decide (x3 < (a1.length : Int))) then (getI a1 x3).bind fun v8 => (impl_Part_takes v8).bind fun v10 => (slI x4 (some (w64 ((x4.length : Int) - v10))) none none).bind fun v12 => (impl_Part_value v8 a0 v12).bind fun v14 => (slI x4 none (some (w64 ((x4.length : Int) - v10))) none).bind fun v16 => (appT x4 ([v14] : List T_impl_Value) v16.length).bind fun v18 => (impl_exprValue_l0 a0 a1 f5) (w64 (x3 + 1)) v18 else (getI x4 (0 : Int)).bind fun v20 => some v20
def impl_exprValue (a0 : List T_impl_Value) (a1 : List T_impl_Part) : Option T_impl_Value := impl_exprValue_l0 a0 a1 FUEL 0 ([] : List T_impl_Value)
theorem ok_impl_exprValue {a0 : List T_impl_Value} {a1 : List T_impl_Part} {y : T_impl_Value} (h : impl_exprValue a0 a1 = some y) : OK Tryz.prog 99 [A a0, A a1] (E y) := by
 refine ow Tryz.func99 fun Γ hX => ?_
 unfold impl_exprValue at h
 refine srveM [4, 7, 9] 37 [(0, A a0), (1, A a1), (4, .ptr 0 0 0)] [some ⟨0, Enc.cells (T_impl_Value.mk 0 0 (ByteArray.mk #[]))⟩] ?_
 refine srveM [4, 7, 9] 37 [(0, A a0), (1, A a1), (4, .ptr 0 0 0), (5, .arr 3 0 (eL ([] : List T_impl_Value)) true)] [some ⟨0, Enc.cells (T_impl_Value.mk 0 0 (ByteArray.mk #[]))⟩] ?_
 refine pwp_seq ?_
 refine srveM [4, 7, 9] 37 [(0, A a0), (4, .ptr 0 0 0), (5, .arr 3 0 (eL ([] : List T_impl_Value)) true), (10, A a1), (11, I (a1.length : Int)), (12, I 0)] [some ⟨0, Enc.cells (T_impl_Value.mk 0 0 (ByteArray.mk #[]))⟩] ?_
 refine pwp_block ?_
 refine pwp_loop (ι := Nat × Int × (List T_impl_Value)) (fun (f5, x3, x4) => (⟨37, [(0, A a0), (4, .ptr 0 0 0), (5, rf 1 0 3 x4), (10, A a1), (11, I (a1.length : Int)), (12, I x3)], [some ⟨0, Enc.cells (T_impl_Value.mk 0 0 (ByteArray.mk #[]))⟩, sl 0 x4]⟩ : St)) (fun (f5, x3, x4) => impl_exprValue_l0 a0 a1 f5 x3 x4 = some y) Prod.fst (FUEL, 0, ([] : List T_impl_Value)) h (Imp.thawS 5 [0, 4, 5, 10, 11, 12] (by kernel_rfl)) ?_
 rintro ⟨f5, x3, x4⟩ h
 dsimp only at h ⊢
 rcases f5 with _ | f5
 cases h
 rw [impl_exprValue_l0] at h
 refine srveM [4, 7, 9] 37 [(0, A a0), (4, .ptr 0 0 0), (5, rf 1 0 3 x4), (10, A a1), (11, I (a1.length : Int)), (12, I x3), (13, B (decide (x3 < (a1.length : Int))))] [some ⟨0, Enc.cells (T_impl_Value.mk 0 0 (ByteArray.mk #[]))⟩, sl 0 x4] ?_
 refine pwp_seq ?_
 refine pc h (fun h => ?_) (fun h => ?_)
 refine pwp_skip ?_
 refine pwp_seq ?_
 refine pwp_block ?_
 refine pwp_seq ?_
 refine pwp_region ?_
 obtain ⟨v8, hv9, h⟩ := bindS h
 refine opsP_idx τ_ok 14 hv9 (by kernel_rfl) ?_
 refine veM [4, 7, 9] 3 37 [(0, A a0), (4, .ptr 0 0 0), (5, rf 1 0 3 x4), (7, .ptr 2 0 0), (10, A a1), (11, I (a1.length : Int)), (12, I x3)] [some ⟨0, Enc.cells (T_impl_Value.mk 0 0 (ByteArray.mk #[]))⟩, sl 0 x4, sc 0 v8] ?_
 refine srvM [4, 7, 9] 3 37 [(0, A a0), (4, .ptr 0 0 0), (5, rf 1 0 3 x4), (7, .ptr 2 0 0), (10, A a1), (11, I (a1.length : Int)), (12, I x3), (17, I (x4.length : Int)), (18, E v8)] [some ⟨0, Enc.cells (T_impl_Value.mk 0 0 (ByteArray.mk #[]))⟩, sl 0 x4, sc 0 v8] ?_
 obtain ⟨v10, hv11, h⟩ := bindS h
 refine cF 19 (ok_impl_Part_takes hv11) ?_
 refine veM [4, 7, 9] 2 37 [(0, A a0), (4, .ptr 0 0 0), (5, rf 1 0 3 x4), (7, .ptr 2 0 0), (8, I (w64 ((x4.length : Int) - v10))), (10, A a1), (11, I (a1.length : Int)), (12, I x3)] [some ⟨0, Enc.cells (T_impl_Value.mk 0 0 (ByteArray.mk #[]))⟩, sl 0 x4, sc 0 v8] ?_
 refine pwp_seq ?_
 refine ip 37 [(0, A a0), (4, .ptr 0 0 0), (5, rf 1 0 3 x4), (7, .ptr 2 0 0), (8, I (w64 ((x4.length : Int) - v10))), (10, A a1), (11, I (a1.length : Int)), (12, I x3)] [some ⟨0, Enc.cells (T_impl_Value.mk 0 0 (ByteArray.mk #[]))⟩, sl 0 x4, sc 0 v8] ?_
 refine pwp_imp (Imp.ghosts 1 (st' := ⟨37, [(0, A a0), (4, .ptr 0 0 0), (5, rf 1 0 3 x4), (7, .ptr 2 0 0), (8, I (w64 ((x4.length : Int) - v10))), (10, A a1), (11, I (a1.length : Int)), (12, I x3)], [some ⟨0, Enc.cells (T_impl_Value.mk 0 0 (ByteArray.mk #[]))⟩, sl 0 x4, sc 0 v8, some ⟨0, []⟩]⟩) (by kernel_rfl)) ?_
 refine pwp_any ([[2], [], [1], [], [1], [1], [3], [3]]) ([[], [], [], [], [], [], [3], [3]]) rfl (by kernel_rfl) ?_
 refine qvM [4, 7, 9] [2] (hB trivial) 1 37 [(21, E v8), (0, A a0), (4, .ptr 0 0 0), (5, rf 1 0 3 x4), (8, I (w64 ((x4.length : Int) - v10))), (10, A a1), (11, I (a1.length : Int)), (12, I x3)] [some ⟨0, Enc.cells (T_impl_Value.mk 0 0 (ByteArray.mk #[]))⟩, sl 0 x4, sc 0 v8, some ⟨0, []⟩] ?_
 refine qvM [4, 7, 9] [] trivial 1 37 [(22, A a0), (21, E v8), (0, A a0), (4, .ptr 0 0 0), (5, rf 1 0 3 x4), (8, I (w64 ((x4.length : Int) - v10))), (10, A a1), (11, I (a1.length : Int)), (12, I x3)] [some ⟨0, Enc.cells (T_impl_Value.mk 0 0 (ByteArray.mk #[]))⟩, sl 0 x4, sc 0 v8, some ⟨0, []⟩] ?_
 refine qvM [4, 7, 9] [1] (hL trivial) 1 37 [(23, rf 1 0 3 x4), (22, A a0), (21, E v8), (0, A a0), (4, .ptr 0 0 0), (5, rf 1 0 3 x4), (8, I (w64 ((x4.length : Int) - v10))), (10, A a1), (11, I (a1.length : Int)), (12, I x3)] [some ⟨0, Enc.cells (T_impl_Value.mk 0 0 (ByteArray.mk #[]))⟩, sl 0 x4, sc 0 v8, some ⟨0, []⟩] ?_
 refine qvM [4, 7, 9] [] trivial 1 37 [(24, I (w64 ((x4.length : Int) - v10))), (23, rf 1 0 3 x4), (22, A a0), (21, E v8), (0, A a0), (4, .ptr 0 0 0), (5, rf 1 0 3 x4), (8, I (w64 ((x4.length : Int) - v10))), (10, A a1), (11, I (a1.length : Int)), (12, I x3)] [some ⟨0, Enc.cells (T_impl_Value.mk 0 0 (ByteArray.mk #[]))⟩, sl 0 x4, sc 0 v8, some ⟨0, []⟩] ?_
 obtain ⟨v12, hv13, h⟩ := bindS h
 refine qX (some 25) (.ref 1 0 ((w64 ((x4.length : Int) - v10)).toNat * 3) 3 v12.length false) 37 [(25, .ref 1 0 ((w64 ((x4.length : Int) - v10)).toNat * 3) 3 v12.length false), (22, A a0), (21, E v8), (0, A a0), (4, .ptr 0 0 0), (5, rf 1 0 3 x4), (8, I (w64 ((x4.length : Int) - v10))), (10, A a1), (11, I (a1.length : Int)), (12, I x3)] [some ⟨0, Enc.cells (T_impl_Value.mk 0 0 (ByteArray.mk #[]))⟩, sl 0 x4, sc 0 v8, some ⟨0, []⟩] (fun Γ' hΓ => CoreE.of_y (slrV_sound (n := x4.length) τ_ok (by kernel_rfl) rfl hv13)) (hL trivial) ?_
 obtain ⟨v14, hv15, h⟩ := bindS h
 refine qX (some 26) (E v14) 37 [(26, E v14), (0, A a0), (4, .ptr 0 0 0), (5, rf 1 0 3 x4), (8, I (w64 ((x4.length : Int) - v10))), (10, A a1), (11, I (a1.length : Int)), (12, I x3)] [some ⟨0, Enc.cells (T_impl_Value.mk 0 0 (ByteArray.mk #[]))⟩, sl 0 x4, sc 0 v8, some ⟨0, []⟩] (fun Γ' hΓ => CoreE.of_g (callVV_sound (xs := [E v8, A a0, .ref 1 0 ((w64 ((x4.length : Int) - v10)).toNat * 3) 3 v12.length false]) (τ := τ) (by kernel_rfl) (ViewL.cons (View.frz rfl) (ViewL.cons (View.frz rfl) (ViewL.cons (View.ref (v := 0) (lo := (w64 ((x4.length : Int) - v10)).toNat) x4 v12 (by kernel_rfl) (slI_view hv13) rfl) (ViewL.nil _)))) (ok_impl_Part_value hv15) (Blind.E _ rfl rfl) (FzTo.frz rfl))) (hL trivial) ?_
 refine qX (Hm' := [none, none, none, some ⟨1, Enc.cells (T_impl_Value.mk 0 0 (ByteArray.mk #[]))⟩]) (some 9) (.ptr 3 1 0) 37 [(9, .ptr 3 1 0), (26, E v14), (0, A a0), (4, .ptr 0 0 0), (5, rf 1 0 3 x4), (8, I (w64 ((x4.length : Int) - v10))), (10, A a1), (11, I (a1.length : Int)), (12, I x3)] [some ⟨0, Enc.cells (T_impl_Value.mk 0 0 (ByteArray.mk #[]))⟩, sl 0 x4, sc 0 v8, some ⟨1, Enc.cells (T_impl_Value.mk 0 0 (ByteArray.mk #[]))⟩] (fun Γ' hΓ => alc_E (blk := ⟨0, []⟩) τ_ok [4, 7, 9] 9 3 0 (ny hΓ hX) (by kernel_rfl) (by kernel_rfl)) (hB trivial) ?_
 refine qX (Hm' := [none, none, none, sc 1 v14]) none (.any) 37 [(9, .ptr 3 1 0), (0, A a0), (4, .ptr 0 0 0), (5, rf 1 0 3 x4), (8, I (w64 ((x4.length : Int) - v10))), (10, A a1), (11, I (a1.length : Int)), (12, I x3)] [some ⟨0, Enc.cells (T_impl_Value.mk 0 0 (ByteArray.mk #[]))⟩, sl 0 x4, sc 0 v8, sc 1 v14] (fun Γ' hΓ => sto_E τ_ok 3 1 (by kernel_rfl)) (hB trivial) ?_
 refine qn 37 [(0, A a0), (4, .ptr 0 0 0), (5, rf 1 0 3 x4), (8, I (w64 ((x4.length : Int) - v10))), (9, .ptr 3 1 0), (10, A a1), (11, I (a1.length : Int)), (12, I x3)] [some ⟨0, Enc.cells (T_impl_Value.mk 0 0 (ByteArray.mk #[]))⟩, sl 0 x4, sc 0 v8, sc 1 v14] ?_
 refine ip 37 [(0, A a0), (4, .ptr 0 0 0), (5, rf 1 0 3 x4), (8, I (w64 ((x4.length : Int) - v10))), (9, .ptr 3 1 0), (10, A a1), (11, I (a1.length : Int)), (12, I x3)] [some ⟨0, Enc.cells (T_impl_Value.mk 0 0 (ByteArray.mk #[]))⟩, sl 0 x4, sc 0 v8, sc 1 v14] ?_
 refine pwp_any ([[1], [], [1], [3], [], [1], [1]]) ([[], [], [], [], [], [1], []]) rfl (by kernel_rfl) ?_
 refine qvM [4, 7, 9] [1] (hL trivial) 1 37 [(27, rf 1 0 3 x4), (0, A a0), (4, .ptr 0 0 0), (5, rf 1 0 3 x4), (8, I (w64 ((x4.length : Int) - v10))), (9, .ptr 3 1 0), (10, A a1), (11, I (a1.length : Int)), (12, I x3)] [some ⟨0, Enc.cells (T_impl_Value.mk 0 0 (ByteArray.mk #[]))⟩, sl 0 x4, sc 0 v8, sc 1 v14] ?_
 refine qvM [4, 7, 9] [] trivial 1 37 [(28, I (w64 ((x4.length : Int) - v10))), (27, rf 1 0 3 x4), (0, A a0), (4, .ptr 0 0 0), (5, rf 1 0 3 x4), (9, .ptr 3 1 0), (10, A a1), (11, I (a1.length : Int)), (12, I x3)] [some ⟨0, Enc.cells (T_impl_Value.mk 0 0 (ByteArray.mk #[]))⟩, sl 0 x4, sc 0 v8, sc 1 v14] ?_
 obtain ⟨v16, hv17, h⟩ := bindS h
 refine qX (some 29) (rf 1 0 3 v16) 37 [(29, rf 1 0 3 v16), (0, A a0), (4, .ptr 0 0 0), (5, rf 1 0 3 x4), (9, .ptr 3 1 0), (10, A a1), (11, I (a1.length : Int)), (12, I x3)] [some ⟨0, Enc.cells (T_impl_Value.mk 0 0 (ByteArray.mk #[]))⟩, sl 0 x4, sc 0 v8, sc 1 v14] (fun Γ' hΓ => CoreE.of_y (slrV_sound (n := x4.length) τ_ok (by kernel_rfl) rfl hv17)) (hL trivial) ?_
 refine qvM [4, 7, 9] [3] (hB trivial) 1 37 [(30, E v14), (29, rf 1 0 3 v16), (0, A a0), (4, .ptr 0 0 0), (5, rf 1 0 3 x4), (10, A a1), (11, I (a1.length : Int)), (12, I x3)] [some ⟨0, Enc.cells (T_impl_Value.mk 0 0 (ByteArray.mk #[]))⟩, sl 0 x4, sc 0 v8, sc 1 v14] ?_
 refine qvM [4, 7, 9] [] trivial 1 37 [(31, .arr 3 ([v14] : List T_impl_Value).length (eL ([v14] : List T_impl_Value)) true), (29, rf 1 0 3 v16), (0, A a0), (4, .ptr 0 0 0), (5, rf 1 0 3 x4), (10, A a1), (11, I (a1.length : Int)), (12, I x3)] [some ⟨0, Enc.cells (T_impl_Value.mk 0 0 (ByteArray.mk #[]))⟩, sl 0 x4, sc 0 v8, sc 1 v14] ?_
 obtain ⟨v18, hv19, h⟩ := bindS h
 refine qX (some 32) (rf 1 1 3 v18) 37 [(32, rf 1 1 3 v18), (0, A a0), (4, .ptr 0 0 0), (5, rf 1 0 3 x4), (10, A a1), (11, I (a1.length : Int)), (12, I x3)] [some ⟨0, Enc.cells (T_impl_Value.mk 0 0 (ByteArray.mk #[]))⟩, sl 1 v18, sc 0 v8, sc 1 v14] (fun Γ' hΓ => app_E τ_ok 32 1 0 v16.length (ny hΓ hX) hv19 (slI_le hv17) (by kernel_rfl)) (hL trivial) ?_
 refine qvnM [4, 7, 9] [1] (hL trivial) 1 37 [(0, A a0), (4, .ptr 0 0 0), (5, rf 1 1 3 v18), (10, A a1), (11, I (a1.length : Int)), (12, I x3)] [some ⟨0, Enc.cells (T_impl_Value.mk 0 0 (ByteArray.mk #[]))⟩, sl 1 v18, sc 0 v8, sc 1 v14] ?_
 refine rveM [4, 7, 9] 37 [(0, A a0), (4, .ptr 0 0 0), (5, rf 1 1 3 v18), (10, A a1), (11, I (a1.length : Int)), (12, I (w64 (x3 + 1)))] [some ⟨0, Enc.cells (T_impl_Value.mk 0 0 (ByteArray.mk #[]))⟩, sl 1 v18, sc 0 v8, sc 1 v14] ?_
 exact ⟨(f5, (w64 (x3 + 1)), v18), h, Nat.lt_succ_self _, qt (it (st' := ⟨37, [(0, A a0), (4, .ptr 0 0 0), (5, rf 1 1 3 v18), (10, A a1), (11, I (a1.length : Int)), (12, I (w64 (x3 + 1)))], [some ⟨0, Enc.cells (T_impl_Value.mk 0 0 (ByteArray.mk #[]))⟩, sl 1 v18, sc 0 v8, sc 1 v14]⟩) [0, 4, 5, 10, 11, 12]) (qt (Imp.truncS (st' := ⟨37, [(0, A a0), (4, .ptr 0 0 0), (5, rf 1 1 3 v18), (10, A a1), (11, I (a1.length : Int)), (12, I (w64 (x3 + 1)))], [some ⟨0, Enc.cells (T_impl_Value.mk 0 0 (ByteArray.mk #[]))⟩, sl 1 v18]⟩) 2 (nx hX) (by kernel_rfl) (allBelow_mem (by exact (And.intro rfl (And.intro rfl (And.intro rfl (And.intro rfl (And.intro rfl (And.intro rfl trivial)))))))) (by exact (And.intro (rfl) (And.intro (frz_below (eL_frz _)) trivial))) (by kernel_rfl)) (Imp.reverS 1 1 (eL v18) [0, 4, 5, 10, 11, 12] (by kernel_rfl) (by exact (And.intro (rfl) (And.intro (eL_frz _) trivial))) (by kernel_rfl)))⟩
 refine pwp_exit ?_
 refine srvM [4, 7, 9] 1 37 [(4, .ptr 0 0 0), (34, rf 1 0 3 x4)] [some ⟨0, Enc.cells (T_impl_Value.mk 0 0 (ByteArray.mk #[]))⟩, sl 0 x4] ?_
 obtain ⟨v20, hv21, h⟩ := bindS h
 refine opsP_idr τ_ok 35 1 0 x4.length hv21 rfl (by kernel_rfl) ?_
 refine opsP_lde (r := E v20) τ_ok 36 90 0 hv21 (by kernel_rfl) (by kernel_rfl) ?_
 refine veM [4, 7, 9] 1 37 [(4, .ptr 0 0 0)] [sc 0 v20, sl 0 x4] ?_
 cases h
 exact pwp_ret rz
def impl_Batch_values_j3 (v7 : T_impl_Part) (x16 : Int) (x17 : List T_impl_Value) (K19 : Int → (List T_impl_Value) → Option (List T_impl_Value)) (x27 : List T_impl_Value) (x37 : List T_impl_Value) : Option (List T_impl_Value) := (impl_Part_value v7 x37 x27).bind fun v38 => (getI x17 x16).bind fun v40 => K19 (w64 (x16 + 1)) (x17.set x16.toNat v38)
def impl_Batch_values_l2 (a0 : T_impl_Batch) (v7 : T_impl_Part) (x16 : Int) (x17 : List T_impl_Value) (K19 : Int → (List T_impl_Value) → Option (List T_impl_Value)) (v21 : List (List T_impl_Value)) : Nat → Int → (List T_impl_Value) → Option (List T_impl_Value)
 | 0, _, _ => none
 | f28 + 1, x26, x27 => bif (decide (x26 < (v21.length : Int))) then (getI v21 x26).bind fun v31 => (getI v31 x16).bind fun v33 => (app x27 ([v33] : List T_impl_Value)).bind fun v35 => (impl_Batch_values_l2 a0 v7 x16 x17 K19 v21 f28) (w64 (x26 + 1)) v35 else bif (v7.fKind == 2) then (impl_Batch_row a0 x16).bind fun v43 => impl_Batch_values_j3 v7 x16 x17 K19 x27 v43 else impl_Batch_values_j3 v7 x16 x17 K19 x27 ([] : List T_impl_Value)
def impl_Batch_values_l1 (a0 : T_impl_Batch) (x2 : Int) (x3 : List (List T_impl_Value)) (K5 : Int → (List (List T_impl_Value)) → Option (List T_impl_Value)) (v7 : T_impl_Part) (v9 : Int) : Nat → Int → (List T_impl_Value) → Option (List T_impl_Value)
 | 0, _, _ => none
 | f18 + 1, x16, x17 => bif (decide (x16 < (a0.fPicked.length : Int))) then (slI x3 (some (w64 ((x3.length : Int) - v9))) none none).bind fun v21 => impl_Batch_values_l2 a0 v7 x16 x17 (impl_Batch_values_l1 a0 x2 x3 K5 v7 v9 f18) v21 FUEL 0 ([] : List T_impl_Value) else (slI x3 none (some (w64 ((x3.length : Int) - v9))) none).bind fun v45 => (appT x3 ([x17] : List (List T_impl_Value)) v45.length).bind fun v47 => K5 (w64 (x2 + 1)) v47
def impl_Batch_values_l0 (a0 : T_impl_Batch) (a1 : List T_impl_Part) : Nat → Int → (List (List T_impl_Value)) → Option (List T_impl_Value)
 | 0, _, _ => none
 | f4 + 1, x2, x3 => bif (decide (x2 < (a1.length : Int))) then (getI a1 x2).bind fun v7 => (impl_Part_takes v7).bind fun v9 => (mkI (a0.fPicked.length : Int) (T_impl_Value.mk 0 0 (ByteArray.mk #[]))).bind fun v11 => impl_Batch_values_l1 a0 x2 x3 (impl_Batch_values_l0 a0 a1 f4) v7 v9 FUEL 0 v11 else (getI x3 (0 : Int)).bind fun v49 => (impl_clone_impl_Value v49).bind fun v51 => some v51
def impl_Batch_values (a0 : T_impl_Batch) (a1 : List T_impl_Part) : Option (List T_impl_Value) := impl_Batch_values_l0 a0 a1 FUEL 0 ([] : List (List T_impl_Value))
theorem ok_impl_Batch_values {a0 : T_impl_Batch} {a1 : List T_impl_Part} {y : List T_impl_Value} (h : impl_Batch_values a0 a1 = some y) : OK Tryz.prog 135 [E a0, A a1] (A y) := by
 refine ow Tryz.func135 fun Γ hX => ?_
 unfold impl_Batch_values at h
 refine srveM [8] 77 [(1, A a1), (2, pf a0 0)] [] ?_
 refine srveM [8] 77 [(1, A a1), (2, pf a0 0), (5, I (a0.fPicked.length : Int))] [] ?_
 refine srveM [8] 77 [(1, A a1), (2, pf a0 0), (5, I (a0.fPicked.length : Int)), (6, .arr 1 0 (eL ([] : List (List T_impl_Value))) true)] [] ?_
 refine pwp_seq ?_
 refine srveM [8] 77 [(2, pf a0 0), (5, I (a0.fPicked.length : Int)), (6, .arr 1 0 (eL ([] : List (List T_impl_Value))) true), (19, A a1), (20, I (a1.length : Int)), (21, I 0)] [] ?_
 refine pwp_block ?_
 refine pwp_loop (ι := Nat × Int × (List (List T_impl_Value))) (fun (f4, x2, x3) => (⟨77, [(2, pf a0 0), (5, I (a0.fPicked.length : Int)), (6, rf 0 0 1 x3), (19, A a1), (20, I (a1.length : Int)), (21, I x2)], [sl 0 x3]⟩ : St)) (fun (f4, x2, x3) => impl_Batch_values_l0 a0 a1 f4 x2 x3 = some y) Prod.fst (FUEL, 0, ([] : List (List T_impl_Value))) h (Imp.thawS 6 [2, 5, 6, 19, 20, 21] (by kernel_rfl)) ?_
 rintro ⟨f4, x2, x3⟩ h
 dsimp only at h ⊢
 rcases f4 with _ | f4
 cases h
 rw [impl_Batch_values_l0] at h
 refine srveM [8] 77 [(2, pf a0 0), (5, I (a0.fPicked.length : Int)), (6, rf 0 0 1 x3), (19, A a1), (20, I (a1.length : Int)), (21, I x2), (22, B (decide (x2 < (a1.length : Int))))] [sl 0 x3] ?_
 refine pwp_seq ?_
 refine pc h (fun h => ?_) (fun h => ?_)
 refine pwp_skip ?_
 refine pwp_seq ?_
 refine pwp_block ?_
 refine pwp_seq ?_
 refine pwp_region ?_
 obtain ⟨v7, hv8, h⟩ := bindS h
 refine opsP_idx τ_ok 23 hv8 (by kernel_rfl) ?_
 refine veM [8] 3 77 [(2, pf a0 0), (5, I (a0.fPicked.length : Int)), (6, rf 0 0 1 x3), (8, .ptr 1 0 0), (19, A a1), (20, I (a1.length : Int)), (21, I x2)] [sl 0 x3, sc 0 v7] ?_
 refine srvM [8] 3 77 [(2, pf a0 0), (5, I (a0.fPicked.length : Int)), (6, rf 0 0 1 x3), (8, .ptr 1 0 0), (19, A a1), (20, I (a1.length : Int)), (21, I x2), (26, I (x3.length : Int)), (27, E v7)] [sl 0 x3, sc 0 v7] ?_
 obtain ⟨v9, hv10, h⟩ := bindS h
 refine cF 28 (ok_impl_Part_takes hv10) ?_
 refine veM [8] 2 77 [(2, pf a0 0), (5, I (a0.fPicked.length : Int)), (6, rf 0 0 1 x3), (8, .ptr 1 0 0), (9, I (w64 ((x3.length : Int) - v9))), (19, A a1), (20, I (a1.length : Int)), (21, I x2)] [sl 0 x3, sc 0 v7] ?_
 refine srvM [8] 1 77 [(2, pf a0 0), (5, I (a0.fPicked.length : Int)), (6, rf 0 0 1 x3), (8, .ptr 1 0 0), (9, I (w64 ((x3.length : Int) - v9))), (19, A a1), (20, I (a1.length : Int)), (21, I x2), (30, I (a0.fPicked.length : Int))] [sl 0 x3, sc 0 v7] ?_
 obtain ⟨v11, hv12, h⟩ := bindS h
 refine opsP_mk τ_ok 31 2 _ hv12 (by kernel_rfl) (by kernel_rfl) ?_
 refine veM [8] 1 77 [(2, pf a0 0), (5, I (a0.fPicked.length : Int)), (6, rf 0 0 1 x3), (8, .ptr 1 0 0), (9, I (w64 ((x3.length : Int) - v9))), (10, rf 2 0 3 v11), (19, A a1), (20, I (a1.length : Int)), (21, I x2)] [sl 0 x3, sc 0 v7, sl 0 v11] ?_
 refine pwp_seq ?_
 refine srveM [8] 77 [(2, pf a0 0), (5, I (a0.fPicked.length : Int)), (6, rf 0 0 1 x3), (8, .ptr 1 0 0), (9, I (w64 ((x3.length : Int) - v9))), (10, rf 2 0 3 v11), (19, A a1), (20, I (a1.length : Int)), (21, I x2), (32, I (a0.fPicked.length : Int)), (33, I 0)] [sl 0 x3, sc 0 v7, sl 0 v11] ?_
 refine pwp_block ?_
 refine pwp_loop (ι := Nat × Int × (List T_impl_Value)) (fun (f18, x16, x17) => (⟨77, [(2, pf a0 0), (5, I (a0.fPicked.length : Int)), (6, rf 0 0 1 x3), (8, .ptr 1 0 0), (9, I (w64 ((x3.length : Int) - v9))), (10, rf 2 0 3 x17), (19, A a1), (20, I (a1.length : Int)), (21, I x2), (32, I (a0.fPicked.length : Int)), (33, I x16)], [sl 0 x3, sc 0 v7, sl 0 x17]⟩ : St)) (fun (f18, x16, x17) => impl_Batch_values_l1 a0 x2 x3 (impl_Batch_values_l0 a0 a1 f4) v7 v9 f18 x16 x17 = some y) Prod.fst (FUEL, 0, v11) h (it [2, 5, 6, 8, 9, 10, 19, 20, 21, 32, 33]) ?_
 rintro ⟨f18, x16, x17⟩ h
 dsimp only at h ⊢
 rcases f18 with _ | f18
 cases h
 rw [impl_Batch_values_l1] at h
 refine srveM [8] 77 [(2, pf a0 0), (5, I (a0.fPicked.length : Int)), (6, rf 0 0 1 x3), (8, .ptr 1 0 0), (9, I (w64 ((x3.length : Int) - v9))), (10, rf 2 0 3 x17), (19, A a1), (20, I (a1.length : Int)), (21, I x2), (32, I (a0.fPicked.length : Int)), (33, I x16), (34, B (decide (x16 < (a0.fPicked.length : Int))))] [sl 0 x3, sc 0 v7, sl 0 x17] ?_
 refine pwp_seq ?_
 refine pc h (fun h => ?_) (fun h => ?_)
 refine pwp_skip ?_
 refine pwp_seq ?_
 refine pwp_block ?_
 refine srveM [8] 77 [(2, pf a0 0), (5, I (a0.fPicked.length : Int)), (6, rf 0 0 1 x3), (8, .ptr 1 0 0), (9, I (w64 ((x3.length : Int) - v9))), (10, rf 2 0 3 x17), (11, I x16), (19, A a1), (20, I (a1.length : Int)), (21, I x2), (32, I (a0.fPicked.length : Int)), (33, I x16)] [sl 0 x3, sc 0 v7, sl 0 x17] ?_
 refine srveM [8] 77 [(2, pf a0 0), (5, I (a0.fPicked.length : Int)), (6, rf 0 0 1 x3), (8, .ptr 1 0 0), (9, I (w64 ((x3.length : Int) - v9))), (10, rf 2 0 3 x17), (11, I x16), (12, .arr 3 0 (eL ([] : List T_impl_Value)) true), (13, .arr 3 0 (eL ([] : List T_impl_Value)) true), (19, A a1), (20, I (a1.length : Int)), (21, I x2), (32, I (a0.fPicked.length : Int)), (33, I x16)] [sl 0 x3, sc 0 v7, sl 0 x17] ?_
 refine pwp_seq ?_
 refine srvM [8] 2 77 [(2, pf a0 0), (5, I (a0.fPicked.length : Int)), (6, rf 0 0 1 x3), (8, .ptr 1 0 0), (9, I (w64 ((x3.length : Int) - v9))), (10, rf 2 0 3 x17), (11, I x16), (12, .arr 3 0 (eL ([] : List T_impl_Value)) true), (13, .arr 3 0 (eL ([] : List T_impl_Value)) true), (19, A a1), (20, I (a1.length : Int)), (21, I x2), (32, I (a0.fPicked.length : Int)), (33, I x16), (36, rf 0 0 1 x3), (37, I (w64 ((x3.length : Int) - v9)))] [sl 0 x3, sc 0 v7, sl 0 x17] ?_
 obtain ⟨v21, hv22, h⟩ := bindS h
 refine opsP_slr τ_ok 38 0 0 x3.length hv22 rfl (by kernel_rfl) ?_
 refine veM [8] 2 77 [(2, pf a0 0), (5, I (a0.fPicked.length : Int)), (6, rf 0 0 1 x3), (8, .ptr 1 0 0), (9, I (w64 ((x3.length : Int) - v9))), (10, rf 2 0 3 x17), (11, I x16), (12, .arr 3 0 (eL ([] : List T_impl_Value)) true), (13, .arr 3 0 (eL ([] : List T_impl_Value)) true), (19, A a1), (20, I (a1.length : Int)), (21, I x2), (32, I (a0.fPicked.length : Int)), (33, I x16), (38, .ref 0 0 ((w64 ((x3.length : Int) - v9)).toNat * 1) 1 v21.length false), (39, I (v21.length : Int)), (40, I 0)] [sl 0 x3, sc 0 v7, sl 0 x17] ?_
 refine pwp_block ?_
 refine pwp_loop (ι := Nat × Int × (List T_impl_Value)) (fun (f28, x26, x27) => (⟨77, [(2, pf a0 0), (5, I (a0.fPicked.length : Int)), (6, rf 0 0 1 x3), (8, .ptr 1 0 0), (9, I (w64 ((x3.length : Int) - v9))), (10, rf 2 0 3 x17), (11, I x16), (12, rf 3 0 3 x27), (13, .arr 3 0 (eL ([] : List T_impl_Value)) true), (19, A a1), (20, I (a1.length : Int)), (21, I x2), (32, I (a0.fPicked.length : Int)), (33, I x16), (38, .ref 0 0 ((w64 ((x3.length : Int) - v9)).toNat * 1) 1 v21.length false), (39, I (v21.length : Int)), (40, I x26)], [sl 0 x3, sc 0 v7, sl 0 x17, sl 0 x27]⟩ : St)) (fun (f28, x26, x27) => impl_Batch_values_l2 a0 v7 x16 x17 (impl_Batch_values_l1 a0 x2 x3 (impl_Batch_values_l0 a0 a1 f4) v7 v9 f18) v21 f28 x26 x27 = some y) Prod.fst (FUEL, 0, ([] : List T_impl_Value)) h (Imp.thawS 12 [2, 5, 6, 8, 9, 10, 11, 12, 13, 19, 20, 21, 32, 33, 38, 39, 40] (by kernel_rfl)) ?_
 rintro ⟨f28, x26, x27⟩ h
 dsimp only at h ⊢
 rcases f28 with _ | f28
 cases h
 rw [impl_Batch_values_l2] at h
 refine srveM [8] 77 [(2, pf a0 0), (5, I (a0.fPicked.length : Int)), (6, rf 0 0 1 x3), (8, .ptr 1 0 0), (9, I (w64 ((x3.length : Int) - v9))), (10, rf 2 0 3 x17), (11, I x16), (12, rf 3 0 3 x27), (13, .arr 3 0 (eL ([] : List T_impl_Value)) true), (19, A a1), (20, I (a1.length : Int)), (21, I x2), (32, I (a0.fPicked.length : Int)), (33, I x16), (38, .ref 0 0 ((w64 ((x3.length : Int) - v9)).toNat * 1) 1 v21.length false), (39, I (v21.length : Int)), (40, I x26), (41, B (decide (x26 < (v21.length : Int))))] [sl 0 x3, sc 0 v7, sl 0 x17, sl 0 x27] ?_
 refine pwp_seq ?_
 refine pc h (fun h => ?_) (fun h => ?_)
 refine pwp_skip ?_
 refine pwp_seq ?_
 refine pwp_block ?_
 refine pwp_seq ?_
 refine pwp_region ?_
 obtain ⟨v31, hv32, h⟩ := bindS h
 refine opsP_idp τ_ok 42 0 0 v21.length (w64 ((x3.length : Int) - v9)) hv32 rfl (by kernel_rfl) ?_
 refine opsP_lde (r := A v31) τ_ok 43 68 0 (getI_part hv22 hv32) (by kernel_rfl) (by kernel_rfl) ?_
 refine veM [8] 1 77 [(2, pf a0 0), (5, I (a0.fPicked.length : Int)), (6, rf 0 0 1 x3), (8, .ptr 1 0 0), (9, I (w64 ((x3.length : Int) - v9))), (10, rf 2 0 3 x17), (11, I x16), (12, rf 3 0 3 x27), (13, .arr 3 0 (eL ([] : List T_impl_Value)) true), (15, A v31), (19, A a1), (20, I (a1.length : Int)), (21, I x2), (32, I (a0.fPicked.length : Int)), (33, I x16), (38, .ref 0 0 ((w64 ((x3.length : Int) - v9)).toNat * 1) 1 v21.length false), (39, I (v21.length : Int)), (40, I x26)] [sl 0 x3, sc 0 v7, sl 0 x17, sl 0 x27] ?_
 refine rvM [8] 3 77 [(2, pf a0 0), (5, I (a0.fPicked.length : Int)), (6, rf 0 0 1 x3), (8, .ptr 1 0 0), (9, I (w64 ((x3.length : Int) - v9))), (10, rf 2 0 3 x17), (11, I x16), (13, .arr 3 0 (eL ([] : List T_impl_Value)) true), (19, A a1), (20, I (a1.length : Int)), (21, I x2), (32, I (a0.fPicked.length : Int)), (33, I x16), (38, .ref 0 0 ((w64 ((x3.length : Int) - v9)).toNat * 1) 1 v21.length false), (39, I (v21.length : Int)), (40, I x26), (44, rf 3 0 3 x27), (45, A v31), (46, I x16)] [sl 0 x3, sc 0 v7, sl 0 x17, sl 0 x27] ?_
 obtain ⟨v33, hv34, h⟩ := bindS h
 refine opsP_idx τ_ok 47 hv34 (by kernel_rfl) ?_
 refine vM [8] 2 77 [(2, pf a0 0), (5, I (a0.fPicked.length : Int)), (6, rf 0 0 1 x3), (8, .ptr 1 0 0), (9, I (w64 ((x3.length : Int) - v9))), (10, rf 2 0 3 x17), (11, I x16), (13, .arr 3 0 (eL ([] : List T_impl_Value)) true), (19, A a1), (20, I (a1.length : Int)), (21, I x2), (32, I (a0.fPicked.length : Int)), (33, I x16), (38, .ref 0 0 ((w64 ((x3.length : Int) - v9)).toNat * 1) 1 v21.length false), (39, I (v21.length : Int)), (40, I x26), (44, rf 3 0 3 x27), (49, .arr 3 ([v33] : List T_impl_Value).length (eL ([v33] : List T_impl_Value)) true)] [sl 0 x3, sc 0 v7, sl 0 x17, sl 0 x27] ?_
 obtain ⟨v35, hv36, h⟩ := bindS h
 refine opsP_app τ_ok 50 3 0 (nx hX) hv36 (by kernel_rfl) ?_
 refine veM [8] 1 77 [(2, pf a0 0), (5, I (a0.fPicked.length : Int)), (6, rf 0 0 1 x3), (8, .ptr 1 0 0), (9, I (w64 ((x3.length : Int) - v9))), (10, rf 2 0 3 x17), (11, I x16), (12, rf 3 1 3 v35), (13, .arr 3 0 (eL ([] : List T_impl_Value)) true), (19, A a1), (20, I (a1.length : Int)), (21, I x2), (32, I (a0.fPicked.length : Int)), (33, I x16), (38, .ref 0 0 ((w64 ((x3.length : Int) - v9)).toNat * 1) 1 v21.length false), (39, I (v21.length : Int)), (40, I x26)] [sl 0 x3, sc 0 v7, sl 0 x17, sl 1 v35] ?_
 refine rveM [8] 77 [(2, pf a0 0), (5, I (a0.fPicked.length : Int)), (6, rf 0 0 1 x3), (8, .ptr 1 0 0), (9, I (w64 ((x3.length : Int) - v9))), (10, rf 2 0 3 x17), (11, I x16), (12, rf 3 1 3 v35), (13, .arr 3 0 (eL ([] : List T_impl_Value)) true), (19, A a1), (20, I (a1.length : Int)), (21, I x2), (32, I (a0.fPicked.length : Int)), (33, I x16), (38, .ref 0 0 ((w64 ((x3.length : Int) - v9)).toNat * 1) 1 v21.length false), (39, I (v21.length : Int)), (40, I (w64 (x26 + 1)))] [sl 0 x3, sc 0 v7, sl 0 x17, sl 1 v35] ?_
 exact ⟨(f28, (w64 (x26 + 1)), v35), h, Nat.lt_succ_self _, (it (st' := ⟨77, [(2, pf a0 0), (5, I (a0.fPicked.length : Int)), (6, rf 0 0 1 x3), (8, .ptr 1 0 0), (9, I (w64 ((x3.length : Int) - v9))), (10, rf 2 0 3 x17), (11, I x16), (12, rf 3 1 3 v35), (13, .arr 3 0 (eL ([] : List T_impl_Value)) true), (19, A a1), (20, I (a1.length : Int)), (21, I x2), (32, I (a0.fPicked.length : Int)), (33, I x16), (38, .ref 0 0 ((w64 ((x3.length : Int) - v9)).toNat * 1) 1 v21.length false), (39, I (v21.length : Int)), (40, I (w64 (x26 + 1)))], [sl 0 x3, sc 0 v7, sl 0 x17, sl 1 v35]⟩) [2, 5, 6, 8, 9, 10, 11, 12, 13, 19, 20, 21, 32, 33, 38, 39, 40]).trans (Imp.reverS 3 1 (eL v35) [2, 5, 6, 8, 9, 10, 11, 12, 13, 19, 20, 21, 32, 33, 38, 39, 40] (by kernel_rfl) (by exact (And.intro (eL_frz _) (And.intro (rfl) (And.intro (eL_frz _) (And.intro (eL_frz _) trivial))))) (by kernel_rfl))⟩
 refine pwp_exit ?_
 refine pwp_seq ?_
 refine pwp_join (σ := (List T_impl_Value)) (fun x37 => (⟨77, [(2, pf a0 0), (5, I (a0.fPicked.length : Int)), (6, rf 0 0 1 x3), (8, .ptr 1 0 0), (9, I (w64 ((x3.length : Int) - v9))), (10, rf 2 0 3 x17), (11, I x16), (12, rf 3 0 3 x27), (13, A x37), (19, A a1), (20, I (a1.length : Int)), (21, I x2), (32, I (a0.fPicked.length : Int)), (33, I x16)], [sl 0 x3, sc 0 v7, sl 0 x17, sl 0 x27]⟩ : St)) (fun x37 => impl_Batch_values_j3 v7 x16 x17 (impl_Batch_values_l1 a0 x2 x3 (impl_Batch_values_l0 a0 a1 f4) v7 v9 f18) x27 x37 = some y) ?_ ?_
 refine srveM [8] 77 [(2, pf a0 0), (5, I (a0.fPicked.length : Int)), (6, rf 0 0 1 x3), (8, .ptr 1 0 0), (9, I (w64 ((x3.length : Int) - v9))), (10, rf 2 0 3 x17), (11, I x16), (12, rf 3 0 3 x27), (13, .arr 3 0 (eL ([] : List T_impl_Value)) true), (19, A a1), (20, I (a1.length : Int)), (21, I x2), (32, I (a0.fPicked.length : Int)), (33, I x16), (54, B (v7.fKind == 2))] [sl 0 x3, sc 0 v7, sl 0 x17, sl 0 x27] ?_
 refine pc h (fun h => ?_) (fun h => ?_)
 refine rvM [8] 2 77 [(2, pf a0 0), (5, I (a0.fPicked.length : Int)), (6, rf 0 0 1 x3), (8, .ptr 1 0 0), (9, I (w64 ((x3.length : Int) - v9))), (10, rf 2 0 3 x17), (11, I x16), (12, rf 3 0 3 x27), (19, A a1), (20, I (a1.length : Int)), (21, I x2), (32, I (a0.fPicked.length : Int)), (33, I x16), (55, E a0), (56, I x16)] [sl 0 x3, sc 0 v7, sl 0 x17, sl 0 x27] ?_
 obtain ⟨v43, hv44, h⟩ := bindS h
 refine cFo 57 (ok_impl_Batch_row hv44) ?_
 refine veM [8] 1 77 [(2, pf a0 0), (5, I (a0.fPicked.length : Int)), (6, rf 0 0 1 x3), (8, .ptr 1 0 0), (9, I (w64 ((x3.length : Int) - v9))), (10, rf 2 0 3 x17), (11, I x16), (12, rf 3 0 3 x27), (13, A v43), (19, A a1), (20, I (a1.length : Int)), (21, I x2), (32, I (a0.fPicked.length : Int)), (33, I x16)] [sl 0 x3, sc 0 v7, sl 0 x17, sl 0 x27] ?_
 exact ⟨v43, h, it [2, 5, 6, 8, 9, 10, 11, 12, 13, 19, 20, 21, 32, 33]⟩
 refine pwp_skip ?_
 exact ⟨([] : List T_impl_Value), h, Imp.unfS 13 [2, 5, 6, 8, 9, 10, 11, 12, 13, 19, 20, 21, 32, 33] (by kernel_rfl)⟩
 rintro x37 h
 unfold impl_Batch_values_j3 at h
 refine rvM [8] 5 77 [(2, pf a0 0), (5, I (a0.fPicked.length : Int)), (6, rf 0 0 1 x3), (8, .ptr 1 0 0), (9, I (w64 ((x3.length : Int) - v9))), (10, rf 2 0 3 x17), (19, A a1), (20, I (a1.length : Int)), (21, I x2), (32, I (a0.fPicked.length : Int)), (33, I x16), (58, rf 2 0 3 x17), (59, I x16), (60, E v7), (61, A x37), (62, rf 3 0 3 x27)] [sl 0 x3, sc 0 v7, sl 0 x17, sl 0 x27] ?_
 obtain ⟨v38, hv39, h⟩ := bindS h
 refine opsP_callV (xs := [E v7, A x37, rf 3 0 3 x27]) τ 63 (ok_impl_Part_value hv39) (Blind.E _ rfl rfl) (FzTo.frz rfl) (by kernel_rfl) (ViewL.cons (View.frz rfl) (ViewL.cons (View.frz rfl) (ViewL.cons (View.whole (v := 0) x27 (by kernel_rfl) rfl) (ViewL.nil _)))) ?_
 obtain ⟨v40, hv41, h⟩ := bindS h
 refine opsP_idr τ_ok 64 2 0 x17.length hv41 rfl (by kernel_rfl) ?_
 refine vM [8] 0 77 [(2, pf a0 0), (5, I (a0.fPicked.length : Int)), (6, rf 0 0 1 x3), (8, .ptr 1 0 0), (9, I (w64 ((x3.length : Int) - v9))), (10, rf 2 0 3 x17), (19, A a1), (20, I (a1.length : Int)), (21, I x2), (32, I (a0.fPicked.length : Int)), (33, I x16), (63, E v38), (64, .ptr 2 0 (x16.toNat * 3))] [sl 0 x3, sc 0 v7, sl 0 x17, sl 0 x27] ?_
 refine opsP_ste (vs := [I v38.fKind, I v38.fN, S v38.fS]) τ_ok 90 2 0 0 v38 hv41 (by kernel_rfl) (by kernel_rfl) (by kernel_rfl) (renC trivial (renC trivial (renC (ren_ne rfl) (renC trivial (renC trivial (renC (ren_ref (List.length_set ..).symm) (renC trivial (renC trivial (renC trivial (renC trivial (renC trivial (renC trivial (renC trivial renC0))))))))))))) ?_
 refine veM [8] 0 77 [(2, pf a0 0), (5, I (a0.fPicked.length : Int)), (6, rf 0 0 1 x3), (8, .ptr 1 0 0), (9, I (w64 ((x3.length : Int) - v9))), (10, .ref 2 0 0 3 (x17.set x16.toNat v38).length false), (19, A a1), (20, I (a1.length : Int)), (21, I x2), (32, I (a0.fPicked.length : Int)), (33, I x16)] [sl 0 x3, sc 0 v7, some ⟨0, eL (x17.set x16.toNat v38)⟩, sl 0 x27] ?_
 refine rveM [8] 77 [(2, pf a0 0), (5, I (a0.fPicked.length : Int)), (6, rf 0 0 1 x3), (8, .ptr 1 0 0), (9, I (w64 ((x3.length : Int) - v9))), (10, .ref 2 0 0 3 (x17.set x16.toNat v38).length false), (19, A a1), (20, I (a1.length : Int)), (21, I x2), (32, I (a0.fPicked.length : Int)), (33, I (w64 (x16 + 1)))] [sl 0 x3, sc 0 v7, some ⟨0, eL (x17.set x16.toNat v38)⟩, sl 0 x27] ?_
 exact ⟨(f18, (w64 (x16 + 1)), (x17.set x16.toNat v38)), h, Nat.lt_succ_self _, (it (st' := ⟨77, [(2, pf a0 0), (5, I (a0.fPicked.length : Int)), (6, rf 0 0 1 x3), (8, .ptr 1 0 0), (9, I (w64 ((x3.length : Int) - v9))), (10, .ref 2 0 0 3 (x17.set x16.toNat v38).length false), (19, A a1), (20, I (a1.length : Int)), (21, I x2), (32, I (a0.fPicked.length : Int)), (33, I (w64 (x16 + 1)))], [sl 0 x3, sc 0 v7, some ⟨0, eL (x17.set x16.toNat v38)⟩, sl 0 x27]⟩) [2, 5, 6, 8, 9, 10, 19, 20, 21, 32, 33]).trans (Imp.truncS 3 (nx hX) (by kernel_rfl) (allBelow_mem (by exact (And.intro rfl (And.intro rfl (And.intro rfl (And.intro rfl (And.intro rfl (And.intro rfl (And.intro rfl (And.intro rfl (And.intro rfl (And.intro rfl (And.intro rfl trivial))))))))))))) (by exact (And.intro (frz_below (eL_frz _)) (And.intro (rfl) (And.intro (frz_below (eL_frz _)) trivial)))) (by kernel_rfl))⟩
 refine pwp_exit ?_
 refine rvM [8] 2 77 [(2, pf a0 0), (5, I (a0.fPicked.length : Int)), (10, rf 2 0 3 x17), (19, A a1), (20, I (a1.length : Int)), (21, I x2), (66, rf 0 0 1 x3), (67, I (w64 ((x3.length : Int) - v9)))] [sl 0 x3, sc 0 v7, sl 0 x17] ?_
 obtain ⟨v45, hv46, h⟩ := bindS h
 refine opsP_slr τ_ok 68 0 0 x3.length hv46 rfl (by kernel_rfl) ?_
 refine vM [8] 1 77 [(2, pf a0 0), (5, I (a0.fPicked.length : Int)), (19, A a1), (20, I (a1.length : Int)), (21, I x2), (68, rf 0 0 1 v45), (69, rf 2 0 3 x17)] [sl 0 x3, sc 0 v7, sl 0 x17] ?_
 refine opsP_imp (Imp.freezeB (v := 0) (cs := eL x17) (st' := ⟨77, [(2, pf a0 0), (5, I (a0.fPicked.length : Int)), (19, A a1), (20, I (a1.length : Int)), (21, I x2), (68, rf 0 0 1 v45), (69, A x17)], [sl 0 x3, sc 0 v7, none]⟩) 2 0 (nx hX) (by kernel_rfl) (eL_frz _) (wholeC (whole_noRef (by kernel_rfl)) (wholeC (whole_noRef (by kernel_rfl)) (wholeC (whole_noRef (by kernel_rfl)) (wholeC (whole_noRef (by kernel_rfl)) (wholeC (whole_noRef (by kernel_rfl)) (wholeC (whole_ne rfl) (wholeC (whole_is (eL_len x17).symm) wholeC0))))))) (HpRel.frz rfl (eL_frz _) (HpRel.frz rfl (Enc.frz _) (HpRel.key HpRel.nil))) (by kernel_rfl) rfl (nx hX)) ?_
 refine vM [8] 1 77 [(2, pf a0 0), (5, I (a0.fPicked.length : Int)), (19, A a1), (20, I (a1.length : Int)), (21, I x2), (68, rf 0 0 1 v45), (70, .arr 1 ([x17] : List (List T_impl_Value)).length (eL ([x17] : List (List T_impl_Value))) true)] [sl 0 x3, sc 0 v7, none] ?_
 obtain ⟨v47, hv48, h⟩ := bindS h
 refine opsP_apt τ_ok 71 0 0 v45.length (nx hX) hv48 (slI_le hv46) (by kernel_rfl) ?_
 refine veM [8] 1 77 [(2, pf a0 0), (5, I (a0.fPicked.length : Int)), (6, rf 0 1 1 v47), (19, A a1), (20, I (a1.length : Int)), (21, I x2)] [sl 1 v47, sc 0 v7, none] ?_
 refine rveM [8] 77 [(2, pf a0 0), (5, I (a0.fPicked.length : Int)), (6, rf 0 1 1 v47), (19, A a1), (20, I (a1.length : Int)), (21, I (w64 (x2 + 1)))] [sl 1 v47, sc 0 v7, none] ?_
 exact ⟨(f4, (w64 (x2 + 1)), v47), h, Nat.lt_succ_self _, qt (it (st' := ⟨77, [(2, pf a0 0), (5, I (a0.fPicked.length : Int)), (6, rf 0 1 1 v47), (19, A a1), (20, I (a1.length : Int)), (21, I (w64 (x2 + 1)))], [sl 1 v47, sc 0 v7, none]⟩) [2, 5, 6, 19, 20, 21]) (qt (Imp.truncS (st' := ⟨77, [(2, pf a0 0), (5, I (a0.fPicked.length : Int)), (6, rf 0 1 1 v47), (19, A a1), (20, I (a1.length : Int)), (21, I (w64 (x2 + 1)))], [sl 1 v47]⟩) 1 (nx hX) (by kernel_rfl) (allBelow_mem (by exact (And.intro rfl (And.intro rfl (And.intro rfl (And.intro rfl (And.intro rfl (And.intro rfl trivial)))))))) (by exact (And.intro (frz_below (eL_frz _)) trivial)) (by kernel_rfl)) (Imp.reverS 0 1 (eL v47) [2, 5, 6, 19, 20, 21] (by kernel_rfl) (by exact (And.intro (eL_frz _) trivial)) (by kernel_rfl)))⟩
 refine pwp_exit ?_
 refine srvM [8] 1 77 [(73, rf 0 0 1 x3)] [sl 0 x3] ?_
 obtain ⟨v49, hv50, h⟩ := bindS h
 refine opsP_idr τ_ok 74 0 0 x3.length hv50 rfl (by kernel_rfl) ?_
 refine opsP_lde (r := A v49) τ_ok 75 68 0 hv50 (by kernel_rfl) (by kernel_rfl) ?_
 obtain ⟨v51, hv52, h⟩ := bindS h
 refine cF 76 (ok_impl_clone_impl_Value hv52) ?_
 refine veM [8] 1 77 [(4, A v51)] [sl 0 x3] ?_
 cases h
 exact pwp_ret rz
def impl_exprHolds (a0 : List T_impl_Value) (a1 : List T_impl_Part) : Option Bool := (impl_exprValue a0 a1).bind fun v1 => (impl_ValueOf 1).bind fun v3 => some (eq_T_impl_Value v1 v3)
theorem ok_impl_exprHolds {a0 : List T_impl_Value} {a1 : List T_impl_Part} {y : Bool} (h : impl_exprHolds a0 a1 = some y) : OK Tryz.prog 45 [A a0, A a1] (B y) := by
 refine ow Tryz.func45 fun Γ hX => ?_
 unfold impl_exprHolds at h
 refine srve 10 [(0, A a0), (1, A a1)] [] ?_
 refine srv 2 10 [(5, A a0), (6, A a1)] [] ?_
 obtain ⟨v1, hv2, h⟩ := bindS h
 refine cF 7 (ok_impl_exprValue hv2) ?_
 obtain ⟨v3, hv4, h⟩ := bindS h
 refine cF 8 (ok_impl_ValueOf hv4) ?_
 refine ve 2 10 [(4, B (eq_T_impl_Value v1 v3))] [] ?_
 cases h
 exact pwp_ret rz
def impl_Batch_pick_l1 (v18 : List (List T_impl_Value)) (v20 : List T_impl_Value) : Nat → Int → (List Bool) → Option T_impl_Batch
 | 0, _, _ => none
 | f28 + 1, x26, x27 => bif (decide (x26 < (v20.length : Int))) then (getI v20 x26).bind fun v31 => (getI x27 x26).bind fun v33 => bif v33 then (impl_ValueOf 1).bind fun v35 => (getI x27 x26).bind fun v37 => (impl_Batch_pick_l1 v18 v20 f28) (w64 (x26 + 1)) (x27.set x26.toNat (eq_T_impl_Value v31 v35)) else (getI x27 x26).bind fun v39 => (impl_Batch_pick_l1 v18 v20 f28) (w64 (x26 + 1)) (x27.set x26.toNat false) else some (T_impl_Batch.mk v18 x27)
def impl_Batch_pick_l0 (a0 : T_impl_Batch) (a1 : List T_impl_Part) (v1 : List Bool) : Nat → Int → (List (List T_impl_Value)) → Option T_impl_Batch
 | 0, _, _ => none
 | f9 + 1, x7, x8 => bif (decide (x7 < (a0.fColumns.length : Int))) then (getI a0.fColumns x7).bind fun v12 => (impl_clone_impl_Value v12).bind fun v14 => (app x8 ([v14] : List (List T_impl_Value))).bind fun v16 => (impl_Batch_pick_l0 a0 a1 v1 f9) (w64 (x7 + 1)) v16 else (slices_Clip_impl_Value_impl_Value_s3_R x8).bind fun v18 => (impl_Batch_values a0 a1).bind fun v20 => impl_Batch_pick_l1 v18 v20 FUEL 0 v1
def impl_Batch_pick (a0 : T_impl_Batch) (a1 : List T_impl_Part) : Option T_impl_Batch := (impl_clone_bool_R a0.fPicked).bind fun v1 => impl_Batch_pick_l0 a0 a1 v1 FUEL 0 ([] : List (List T_impl_Value))
theorem ok_impl_Batch_pick {a0 : T_impl_Batch} {a1 : List T_impl_Part} {y : T_impl_Batch} (h : impl_Batch_pick a0 a1 = some y) : OK Tryz.prog 81 [E a0, A a1] (E y) := by
 refine ow Tryz.func81 fun Γ hX => ?_
 unfold impl_Batch_pick at h
 refine srveM [4, 5, 9] 58 [(1, A a1), (2, pf a0 0), (4, .ptr 0 0 0)] [some ⟨0, Enc.cells (T_impl_Batch.mk [] [])⟩] ?_
 refine srvM [4, 5, 9] 2 58 [(1, A a1), (2, pf a0 0), (4, .ptr 0 0 0), (11, A a0.fPicked)] [some ⟨0, Enc.cells (T_impl_Batch.mk [] [])⟩] ?_
 obtain ⟨v1, hv2, h⟩ := bindS h
 refine opsP_callO τ 12 (ok_impl_clone_bool_R hv2) rfl (by kernel_rfl) ?_
 refine opsP_E (dd := some 13) (x := .agg [.arr 1 0 (eL ([] : List (List T_impl_Value))) true, rf 1 0 1 v1]) (CoreE.of_y (bldV_sound (zs := [.arr 1 0 [] true, .arr 1 0 [] true]) (cells := [.arr 1 0 (eL ([] : List (List T_impl_Value))) true, rf 1 0 1 v1]) τ_ok zi_ok61 (by kernel_rfl))) ?_
 refine vM [4, 5, 9] 0 58 [(1, A a1), (2, pf a0 0), (4, .ptr 0 0 0), (13, .agg [.arr 1 0 (eL ([] : List (List T_impl_Value))) true, rf 1 0 1 v1])] [some ⟨0, Enc.cells (T_impl_Batch.mk [] [])⟩, sl 0 v1] ?_
 refine opsP_imp (Imp.ghosts 1 (st' := ⟨58, [(1, A a1), (2, pf a0 0), (4, .ptr 0 0 0), (13, .agg [.arr 1 0 (eL ([] : List (List T_impl_Value))) true, rf 1 0 1 v1])], [some ⟨0, Enc.cells (T_impl_Batch.mk [] [])⟩, sl 0 v1, some ⟨0, []⟩]⟩) (by kernel_rfl)) ?_
 refine opsP_E (dd := some 5) (x := .ptr 2 1 0) (alz_E (blk := ⟨0, []⟩) (zs := [.arr 1 0 [] true, .arr 1 0 [] true]) 5 61 2 0 (nx hX) zi_ok61 (by kernel_rfl) (by kernel_rfl)) ?_
 refine veM [4, 5, 9] 1 58 [(1, A a1), (2, pf a0 0), (4, .ptr 0 0 0), (5, .ptr 2 1 0)] [some ⟨0, Enc.cells (T_impl_Batch.mk [] [])⟩, sl 0 v1, some ⟨1, [.arr 1 0 (eL ([] : List (List T_impl_Value))) true, rf 1 0 1 v1]⟩] ?_
 refine pwp_seq ?_
 refine srveM [4, 5, 9] 58 [(1, A a1), (2, pf a0 0), (4, .ptr 0 0 0), (5, .ptr 2 1 0), (15, A a0.fColumns), (16, I (a0.fColumns.length : Int)), (17, I 0)] [some ⟨0, Enc.cells (T_impl_Batch.mk [] [])⟩, sl 0 v1, some ⟨1, [.arr 1 0 (eL ([] : List (List T_impl_Value))) true, rf 1 0 1 v1]⟩] ?_
 refine pwp_block ?_
 refine ip 58 [(1, A a1), (2, pf a0 0), (4, .ptr 0 0 0), (5, .ptr 2 1 0), (15, A a0.fColumns), (16, I (a0.fColumns.length : Int)), (17, I 0)] [some ⟨0, Enc.cells (T_impl_Batch.mk [] [])⟩, sl 0 v1, some ⟨1, [.arr 1 0 (eL ([] : List (List T_impl_Value))) true, rf 1 0 1 v1]⟩] ?_
 refine pwp_imp (Imp.thawB (st' := ⟨58, [(1, A a1), (2, pf a0 0), (4, .ptr 0 0 0), (5, .ptr 2 1 0), (15, A a0.fColumns), (16, I (a0.fColumns.length : Int)), (17, I 0)], [some ⟨0, Enc.cells (T_impl_Batch.mk [] [])⟩, sl 0 v1, some ⟨1, [.ref 3 0 0 1 ([] : List (List T_impl_Value)).length false, rf 1 0 1 v1]⟩, some ⟨0, eL ([] : List (List T_impl_Value))⟩]⟩) 3 (by kernel_rfl) (HpRel.frz rfl (Enc.frz _) (HpRel.frz rfl (eL_frz _) (HpRel.box rfl (CellRel.cons (.inr ⟨_, rfl, rfl⟩) (CellRel.cons (.inl ⟨rfl, rfl⟩) CellRel.nil)) (HpRel.key HpRel.nil)))) (by rfl) (by rfl) (nx hX)) ?_
 refine pwp_loop (ι := Nat × Int × (List (List T_impl_Value))) (fun (f9, x7, x8) => (⟨58, [(1, A a1), (2, pf a0 0), (4, .ptr 0 0 0), (5, .ptr 2 1 0), (15, A a0.fColumns), (16, I (a0.fColumns.length : Int)), (17, I x7)], [some ⟨0, Enc.cells (T_impl_Batch.mk [] [])⟩, sl 0 v1, some ⟨1, [rf 3 0 1 x8, rf 1 0 1 v1]⟩, sl 0 x8]⟩ : St)) (fun (f9, x7, x8) => impl_Batch_pick_l0 a0 a1 v1 f9 x7 x8 = some y) Prod.fst (FUEL, 0, ([] : List (List T_impl_Value))) h (it [1, 2, 4, 5, 15, 16, 17]) ?_
 rintro ⟨f9, x7, x8⟩ h
 dsimp only at h ⊢
 rcases f9 with _ | f9
 cases h
 rw [impl_Batch_pick_l0] at h
 refine srveM [4, 5, 9] 58 [(1, A a1), (2, pf a0 0), (4, .ptr 0 0 0), (5, .ptr 2 1 0), (15, A a0.fColumns), (16, I (a0.fColumns.length : Int)), (17, I x7), (18, B (decide (x7 < (a0.fColumns.length : Int))))] [some ⟨0, Enc.cells (T_impl_Batch.mk [] [])⟩, sl 0 v1, some ⟨1, [rf 3 0 1 x8, rf 1 0 1 v1]⟩, sl 0 x8] ?_
 refine pwp_seq ?_
 refine pc h (fun h => ?_) (fun h => ?_)
 refine pwp_skip ?_
 refine pwp_seq ?_
 refine pwp_block ?_
 refine pwp_seq ?_
 refine pwp_region ?_
 obtain ⟨v12, hv13, h⟩ := bindS h
 refine opsP_idx τ_ok 19 hv13 (by kernel_rfl) ?_
 refine veM [4, 5, 9] 2 58 [(1, A a1), (2, pf a0 0), (4, .ptr 0 0 0), (5, .ptr 2 1 0), (7, A v12), (15, A a0.fColumns), (16, I (a0.fColumns.length : Int)), (17, I x7)] [some ⟨0, Enc.cells (T_impl_Batch.mk [] [])⟩, sl 0 v1, some ⟨1, [rf 3 0 1 x8, rf 1 0 1 v1]⟩, sl 0 x8] ?_
 refine ip 58 [(1, A a1), (2, pf a0 0), (4, .ptr 0 0 0), (5, .ptr 2 1 0), (7, A v12), (15, A a0.fColumns), (16, I (a0.fColumns.length : Int)), (17, I x7)] [some ⟨0, Enc.cells (T_impl_Batch.mk [] [])⟩, sl 0 v1, some ⟨1, [rf 3 0 1 x8, rf 1 0 1 v1]⟩, sl 0 x8] ?_
 refine pwp_any ([[1, 2, 3], [1, 2, 3], [], [], [], [3], [1, 2, 3], [1, 2, 3]]) ([[], [], [], [], [], [3], [], [2]]) rfl (by kernel_rfl) ?_
 refine qvM [4, 5, 9] [1, 2, 3] (hL (hR (hL trivial))) 2 58 [(22, rf 3 0 1 x8), (1, A a1), (2, pf a0 0), (4, .ptr 0 0 0), (5, .ptr 2 1 0), (7, A v12), (15, A a0.fColumns), (16, I (a0.fColumns.length : Int)), (17, I x7)] [some ⟨0, Enc.cells (T_impl_Batch.mk [] [])⟩, sl 0 v1, some ⟨1, [rf 3 0 1 x8, rf 1 0 1 v1]⟩, sl 0 x8] ?_
 refine qvM [4, 5, 9] [] trivial 1 58 [(23, A v12), (22, rf 3 0 1 x8), (1, A a1), (2, pf a0 0), (4, .ptr 0 0 0), (5, .ptr 2 1 0), (15, A a0.fColumns), (16, I (a0.fColumns.length : Int)), (17, I x7)] [some ⟨0, Enc.cells (T_impl_Batch.mk [] [])⟩, sl 0 v1, some ⟨1, [rf 3 0 1 x8, rf 1 0 1 v1]⟩, sl 0 x8] ?_
 obtain ⟨v14, hv15, h⟩ := bindS h
 refine qX (some 24) (A v14) 58 [(24, A v14), (22, rf 3 0 1 x8), (1, A a1), (2, pf a0 0), (4, .ptr 0 0 0), (5, .ptr 2 1 0), (15, A a0.fColumns), (16, I (a0.fColumns.length : Int)), (17, I x7)] [some ⟨0, Enc.cells (T_impl_Batch.mk [] [])⟩, sl 0 v1, some ⟨1, [rf 3 0 1 x8, rf 1 0 1 v1]⟩, sl 0 x8] (fun Γ' hΓ => CoreE.of_g (callV_sound (τ := τ) (by kernel_rfl) rfl (ok_impl_clone_impl_Value hv15) (FzTo.frz rfl))) trivial ?_
 refine qvM [4, 5, 9] [] trivial 1 58 [(25, .arr 1 ([v14] : List (List T_impl_Value)).length (eL ([v14] : List (List T_impl_Value))) true), (22, rf 3 0 1 x8), (1, A a1), (2, pf a0 0), (4, .ptr 0 0 0), (5, .ptr 2 1 0), (15, A a0.fColumns), (16, I (a0.fColumns.length : Int)), (17, I x7)] [some ⟨0, Enc.cells (T_impl_Batch.mk [] [])⟩, sl 0 v1, some ⟨1, [rf 3 0 1 x8, rf 1 0 1 v1]⟩, sl 0 x8] ?_
 obtain ⟨v16, hv17, h⟩ := bindS h
 refine qX (some 26) (rf 3 1 1 v16) 58 [(26, rf 3 1 1 v16), (1, A a1), (2, pf a0 0), (4, .ptr 0 0 0), (5, .ptr 2 1 0), (15, A a0.fColumns), (16, I (a0.fColumns.length : Int)), (17, I x7)] [some ⟨0, Enc.cells (T_impl_Batch.mk [] [])⟩, sl 0 v1, some ⟨1, [rf 3 0 1 x8, rf 1 0 1 v1]⟩, sl 1 v16] (fun Γ' hΓ => app_Ew τ_ok 26 3 0 (ny hΓ hX) hv17 (by kernel_rfl)) (hL trivial) ?_
 refine qvM [4, 5, 9] [1, 2, 3] (hL (hR (hL trivial))) 1 58 [(27, .ptr 2 1 0), (26, rf 3 1 1 v16), (1, A a1), (2, pf a0 0), (4, .ptr 0 0 0), (5, .ptr 2 1 0), (15, A a0.fColumns), (16, I (a0.fColumns.length : Int)), (17, I x7)] [some ⟨0, Enc.cells (T_impl_Batch.mk [] [])⟩, sl 0 v1, some ⟨1, [rf 3 0 1 x8, rf 1 0 1 v1]⟩, sl 1 v16] ?_
 refine qX (Hm' := [none, sl 0 v1, some ⟨1, [rf 3 1 1 v16, rf 1 0 1 v1]⟩, sl 1 v16]) none (.any) 58 [(1, A a1), (2, pf a0 0), (4, .ptr 0 0 0), (5, .ptr 2 1 0), (15, A a0.fColumns), (16, I (a0.fColumns.length : Int)), (17, I x7)] [some ⟨0, Enc.cells (T_impl_Batch.mk [] [])⟩, sl 0 v1, some ⟨1, [rf 3 1 1 v16, rf 1 0 1 v1]⟩, sl 1 v16] (fun Γ' hΓ => sto_E τ_ok 2 1 (by kernel_rfl)) (hL (hR (hL trivial))) ?_
 refine qn 58 [(1, A a1), (2, pf a0 0), (4, .ptr 0 0 0), (5, .ptr 2 1 0), (15, A a0.fColumns), (16, I (a0.fColumns.length : Int)), (17, I x7)] [some ⟨0, Enc.cells (T_impl_Batch.mk [] [])⟩, sl 0 v1, some ⟨1, [rf 3 1 1 v16, rf 1 0 1 v1]⟩, sl 1 v16] ?_
 refine rveM [4, 5, 9] 58 [(1, A a1), (2, pf a0 0), (4, .ptr 0 0 0), (5, .ptr 2 1 0), (15, A a0.fColumns), (16, I (a0.fColumns.length : Int)), (17, I (w64 (x7 + 1)))] [some ⟨0, Enc.cells (T_impl_Batch.mk [] [])⟩, sl 0 v1, some ⟨1, [rf 3 1 1 v16, rf 1 0 1 v1]⟩, sl 1 v16] ?_
 exact ⟨(f9, (w64 (x7 + 1)), v16), h, Nat.lt_succ_self _, qt (it (st' := ⟨58, [(1, A a1), (2, pf a0 0), (4, .ptr 0 0 0), (5, .ptr 2 1 0), (15, A a0.fColumns), (16, I (a0.fColumns.length : Int)), (17, I (w64 (x7 + 1)))], [some ⟨0, Enc.cells (T_impl_Batch.mk [] [])⟩, sl 0 v1, some ⟨1, [rf 3 1 1 v16, rf 1 0 1 v1]⟩, sl 1 v16]⟩) [1, 2, 4, 5, 15, 16, 17]) (qt (Imp.reverB (cs := eL v16) (st' := ⟨58, [(1, A a1), (2, pf a0 0), (4, .ptr 0 0 0), (5, .ptr 2 1 0), (15, A a0.fColumns), (16, I (a0.fColumns.length : Int)), (17, I (w64 (x7 + 1)))], [some ⟨0, Enc.cells (T_impl_Batch.mk [] [])⟩, sl 0 v1, some ⟨1, [rf 3 0 1 v16, rf 1 0 1 v1]⟩, sl 0 v16]⟩) 3 1 (by kernel_rfl) (qu_of_frzL (eL_frz _)) (HpRel.frz rfl (Enc.frz _) (HpRel.frz rfl (eL_frz _) (HpRel.box rfl (CellRel.cons ⟨rfl, rfl⟩ (CellRel.cons ⟨rfl, rfl⟩ CellRel.nil)) (HpRel.key HpRel.nil)))) (by kernel_rfl) (by rfl) (nx hX)) (it [1, 2, 4, 5, 15, 16, 17]))⟩
 refine pwp_exit ?_
 refine srvM [4, 5, 9] 2 58 [(1, A a1), (2, pf a0 0), (4, .ptr 0 0 0), (5, .ptr 2 1 0), (30, rf 3 0 1 x8)] [some ⟨0, Enc.cells (T_impl_Batch.mk [] [])⟩, sl 0 v1, some ⟨1, [rf 3 0 1 x8, rf 1 0 1 v1]⟩, sl 0 x8] ?_
 obtain ⟨v18, hv19, h⟩ := bindS h
 refine opsP_callM (xs := [rf 3 0 1 x8]) (x := rf 4 0 1 v18) (bs := [⟨0, eL v18⟩]) τ 31 [3] (nx hX) (ok_slices_Clip_impl_Value_impl_Value_s3_R hv19) (by kernel_rfl) (OutL.cons (OutP.list (v := 0) (by kernel_rfl)) (OutL.nil _)) (by decide) (by kernel_rfl) ?_
 refine veM [4, 5, 9] 2 58 [(1, A a1), (2, pf a0 0), (4, .ptr 0 0 0), (5, .ptr 2 1 0)] [some ⟨0, Enc.cells (T_impl_Batch.mk [] [])⟩, sl 0 v1, some ⟨1, [rf 4 0 1 v18, rf 1 0 1 v1]⟩, none, sl 0 v18] ?_
 refine pwp_seq ?_
 refine srvM [4, 5, 9] 2 58 [(4, .ptr 0 0 0), (5, .ptr 2 1 0), (33, E a0), (34, A a1)] [some ⟨0, Enc.cells (T_impl_Batch.mk [] [])⟩, sl 0 v1, some ⟨1, [rf 4 0 1 v18, rf 1 0 1 v1]⟩, none, sl 0 v18] ?_
 obtain ⟨v20, hv21, h⟩ := bindS h
 refine cF 35 (ok_impl_Batch_values hv21) ?_
 refine veM [4, 5, 9] 2 58 [(4, .ptr 0 0 0), (5, .ptr 2 1 0), (35, A v20), (36, I (v20.length : Int)), (37, I 0)] [some ⟨0, Enc.cells (T_impl_Batch.mk [] [])⟩, sl 0 v1, some ⟨1, [rf 4 0 1 v18, rf 1 0 1 v1]⟩, none, sl 0 v18] ?_
 refine pwp_block ?_
 refine pwp_loop (ι := Nat × Int × (List Bool)) (fun (f28, x26, x27) => (⟨58, [(4, .ptr 0 0 0), (5, .ptr 2 1 0), (35, A v20), (36, I (v20.length : Int)), (37, I x26)], [some ⟨0, Enc.cells (T_impl_Batch.mk [] [])⟩, sl 0 x27, some ⟨1, [rf 4 0 1 v18, rf 1 0 1 x27]⟩, none, sl 0 v18]⟩ : St)) (fun (f28, x26, x27) => impl_Batch_pick_l1 v18 v20 f28 x26 x27 = some y) Prod.fst (FUEL, 0, v1) h (it [4, 5, 35, 36, 37]) ?_
 rintro ⟨f28, x26, x27⟩ h
 dsimp only at h ⊢
 rcases f28 with _ | f28
 cases h
 rw [impl_Batch_pick_l1] at h
 refine srveM [4, 5, 9] 58 [(4, .ptr 0 0 0), (5, .ptr 2 1 0), (35, A v20), (36, I (v20.length : Int)), (37, I x26), (38, B (decide (x26 < (v20.length : Int))))] [some ⟨0, Enc.cells (T_impl_Batch.mk [] [])⟩, sl 0 x27, some ⟨1, [rf 4 0 1 v18, rf 1 0 1 x27]⟩, none, sl 0 v18] ?_
 refine pwp_seq ?_
 refine pc h (fun h => ?_) (fun h => ?_)
 refine pwp_skip ?_
 refine pwp_seq ?_
 refine pwp_block ?_
 refine srvM [4, 5, 9] 1 58 [(4, .ptr 0 0 0), (5, .ptr 2 1 0), (35, A v20), (36, I (v20.length : Int)), (37, I x26), (39, I x26)] [some ⟨0, Enc.cells (T_impl_Batch.mk [] [])⟩, sl 0 x27, some ⟨1, [rf 4 0 1 v18, rf 1 0 1 x27]⟩, none, sl 0 v18] ?_
 obtain ⟨v31, hv32, h⟩ := bindS h
 refine opsP_idx τ_ok 40 hv32 (by kernel_rfl) ?_
 refine veM [4, 5, 9] 4 58 [(4, .ptr 0 0 0), (5, .ptr 2 1 0), (8, I x26), (9, .ptr 5 0 0), (35, A v20), (36, I (v20.length : Int)), (37, I x26)] [some ⟨0, Enc.cells (T_impl_Batch.mk [] [])⟩, sl 0 x27, some ⟨1, [rf 4 0 1 v18, rf 1 0 1 x27]⟩, none, sl 0 v18, sc 0 v31] ?_
 refine ip 58 [(4, .ptr 0 0 0), (5, .ptr 2 1 0), (8, I x26), (9, .ptr 5 0 0), (35, A v20), (36, I (v20.length : Int)), (37, I x26)] [some ⟨0, Enc.cells (T_impl_Batch.mk [] [])⟩, sl 0 x27, some ⟨1, [rf 4 0 1 v18, rf 1 0 1 x27]⟩, none, sl 0 v18, sc 0 v31] ?_
 refine pwp_any ([[1, 2, 4], [1, 2, 4], [], [1, 2, 4], [1, 2, 4], [], [1], [1], [], [5], [], [], [], [1], [1]]) ([[], [], [], [], [], [], [], [], [], [], [], [], [], [], [1]]) rfl (by kernel_rfl) ?_
 refine qvM [4, 5, 9] [1, 2, 4] (hL (hR (hL trivial))) 2 58 [(43, rf 1 0 1 x27), (4, .ptr 0 0 0), (5, .ptr 2 1 0), (8, I x26), (9, .ptr 5 0 0), (35, A v20), (36, I (v20.length : Int)), (37, I x26)] [some ⟨0, Enc.cells (T_impl_Batch.mk [] [])⟩, sl 0 x27, some ⟨1, [rf 4 0 1 v18, rf 1 0 1 x27]⟩, none, sl 0 v18, sc 0 v31] ?_
 refine qvM [4, 5, 9] [] trivial 1 58 [(44, I x26), (43, rf 1 0 1 x27), (4, .ptr 0 0 0), (5, .ptr 2 1 0), (8, I x26), (9, .ptr 5 0 0), (35, A v20), (36, I (v20.length : Int)), (37, I x26)] [some ⟨0, Enc.cells (T_impl_Batch.mk [] [])⟩, sl 0 x27, some ⟨1, [rf 4 0 1 v18, rf 1 0 1 x27]⟩, none, sl 0 v18, sc 0 v31] ?_
 refine qvM [4, 5, 9] [1, 2, 4] (hL (hR (hL trivial))) 2 58 [(46, rf 1 0 1 x27), (44, I x26), (43, rf 1 0 1 x27), (4, .ptr 0 0 0), (5, .ptr 2 1 0), (8, I x26), (9, .ptr 5 0 0), (35, A v20), (36, I (v20.length : Int)), (37, I x26)] [some ⟨0, Enc.cells (T_impl_Batch.mk [] [])⟩, sl 0 x27, some ⟨1, [rf 4 0 1 v18, rf 1 0 1 x27]⟩, none, sl 0 v18, sc 0 v31] ?_
 refine qvM [4, 5, 9] [] trivial 1 58 [(47, I x26), (46, rf 1 0 1 x27), (44, I x26), (43, rf 1 0 1 x27), (4, .ptr 0 0 0), (5, .ptr 2 1 0), (9, .ptr 5 0 0), (35, A v20), (36, I (v20.length : Int)), (37, I x26)] [some ⟨0, Enc.cells (T_impl_Batch.mk [] [])⟩, sl 0 x27, some ⟨1, [rf 4 0 1 v18, rf 1 0 1 x27]⟩, none, sl 0 v18, sc 0 v31] ?_
 obtain ⟨v33, hv34, h⟩ := bindS h
 refine qX (some 48) (.ptr 1 0 (x26.toNat * 1)) 58 [(48, .ptr 1 0 (x26.toNat * 1)), (44, I x26), (43, rf 1 0 1 x27), (4, .ptr 0 0 0), (5, .ptr 2 1 0), (9, .ptr 5 0 0), (35, A v20), (36, I (v20.length : Int)), (37, I x26)] [some ⟨0, Enc.cells (T_impl_Batch.mk [] [])⟩, sl 0 x27, some ⟨1, [rf 4 0 1 v18, rf 1 0 1 x27]⟩, none, sl 0 v18, sc 0 v31] (fun Γ' hΓ => CoreE.of_y (idrV_sound (n := x27.length) τ_ok (by kernel_rfl) hv34 rfl)) (hL trivial) ?_
 refine qX (some 49) (B v33) 58 [(49, B v33), (44, I x26), (43, rf 1 0 1 x27), (4, .ptr 0 0 0), (5, .ptr 2 1 0), (9, .ptr 5 0 0), (35, A v20), (36, I (v20.length : Int)), (37, I x26)] [some ⟨0, Enc.cells (T_impl_Batch.mk [] [])⟩, sl 0 x27, some ⟨1, [rf 4 0 1 v18, rf 1 0 1 x27]⟩, none, sl 0 v18, sc 0 v31] (fun Γ' hΓ => CoreE.of_y (ldeV_sound (t := 4) (o' := 0) (r := B v33) τ_ok hv34 (by kernel_rfl) (by kernel_rfl))) (hL trivial) ?_
 refine qvM [4, 5, 9] [] trivial 1 58 [(50, B v33), (44, I x26), (43, rf 1 0 1 x27), (4, .ptr 0 0 0), (5, .ptr 2 1 0), (9, .ptr 5 0 0), (35, A v20), (36, I (v20.length : Int)), (37, I x26)] [some ⟨0, Enc.cells (T_impl_Batch.mk [] [])⟩, sl 0 x27, some ⟨1, [rf 4 0 1 v18, rf 1 0 1 x27]⟩, none, sl 0 v18, sc 0 v31] ?_
 rcases Bool.eq_false_or_eq_true v33 with hc41 | hc41
 replace h := bT hc41 h
 rw [hc41]
 refine qvM [4, 5, 9] [5] (hB trivial) 1 58 [(51, E v31), (50, B true), (44, I x26), (43, rf 1 0 1 x27), (4, .ptr 0 0 0), (5, .ptr 2 1 0), (35, A v20), (36, I (v20.length : Int)), (37, I x26)] [some ⟨0, Enc.cells (T_impl_Batch.mk [] [])⟩, sl 0 x27, some ⟨1, [rf 4 0 1 v18, rf 1 0 1 x27]⟩, none, sl 0 v18, sc 0 v31] ?_
 obtain ⟨v35, hv36, h⟩ := bindS h
 refine qX (some 52) (E v35) 58 [(52, E v35), (51, E v31), (50, B true), (44, I x26), (43, rf 1 0 1 x27), (4, .ptr 0 0 0), (5, .ptr 2 1 0), (35, A v20), (36, I (v20.length : Int)), (37, I x26)] [some ⟨0, Enc.cells (T_impl_Batch.mk [] [])⟩, sl 0 x27, some ⟨1, [rf 4 0 1 v18, rf 1 0 1 x27]⟩, none, sl 0 v18, sc 0 v31] (fun Γ' hΓ => CoreE.of_g (callV_sound (τ := τ) (by kernel_rfl) rfl (ok_impl_ValueOf hv36) (FzTo.frz rfl))) trivial ?_
 refine qvM [4, 5, 9] [] trivial 2 58 [(54, B (eq_T_impl_Value v31 v35)), (53, B (eq_T_impl_Value v31 v35)), (52, E v35), (51, E v31), (44, I x26), (43, rf 1 0 1 x27), (4, .ptr 0 0 0), (5, .ptr 2 1 0), (35, A v20), (36, I (v20.length : Int)), (37, I x26)] [some ⟨0, Enc.cells (T_impl_Batch.mk [] [])⟩, sl 0 x27, some ⟨1, [rf 4 0 1 v18, rf 1 0 1 x27]⟩, none, sl 0 v18, sc 0 v31] ?_
 obtain ⟨v37, hv38, h⟩ := bindS h
 refine qX (some 55) (.ptr 1 0 (x26.toNat * 1)) 58 [(55, .ptr 1 0 (x26.toNat * 1)), (54, B (eq_T_impl_Value v31 v35)), (53, B (eq_T_impl_Value v31 v35)), (52, E v35), (51, E v31), (4, .ptr 0 0 0), (5, .ptr 2 1 0), (35, A v20), (36, I (v20.length : Int)), (37, I x26)] [some ⟨0, Enc.cells (T_impl_Batch.mk [] [])⟩, sl 0 x27, some ⟨1, [rf 4 0 1 v18, rf 1 0 1 x27]⟩, none, sl 0 v18, sc 0 v31] (fun Γ' hΓ => CoreE.of_y (idrV_sound (n := x27.length) τ_ok (by kernel_rfl) hv38 rfl)) (hL trivial) ?_
 refine qX none (.any) 58 [(53, B (eq_T_impl_Value v31 v35)), (52, E v35), (51, E v31), (4, .ptr 0 0 0), (5, .ptr 2 1 0), (35, A v20), (36, I (v20.length : Int)), (37, I x26)] [some ⟨0, Enc.cells (T_impl_Batch.mk [] [])⟩, some ⟨0, eL (x27.set x26.toNat (eq_T_impl_Value v31 v35))⟩, some ⟨1, [rf 4 0 1 v18, rf 1 0 1 x27]⟩, none, sl 0 v18, sc 0 v31] (fun Γ' hΓ => ste_E (vs := [B (eq_T_impl_Value v31 v35)]) τ_ok 4 1 0 0 (eq_T_impl_Value v31 v35) hv38 (by kernel_rfl) (by kernel_rfl) (by kernel_rfl)) (hL trivial) ?_
 refine qA_ren (st' := ⟨58, [(53, B (eq_T_impl_Value v31 v35)), (52, E v35), (51, E v31), (4, .ptr 0 0 0), (5, .ptr 2 1 0), (35, A v20), (36, I (v20.length : Int)), (37, I x26)], [some ⟨0, Enc.cells (T_impl_Batch.mk [] [])⟩, some ⟨0, eL (x27.set x26.toNat (eq_T_impl_Value v31 v35))⟩, some ⟨1, [rf 4 0 1 v18, rf 1 0 1 x27]⟩, none, sl 0 v18, sc 0 v31]⟩) 1 (x27.set x26.toNat (eq_T_impl_Value v31 v35)).length (renC trivial (renC trivial (renC trivial (renC trivial (renC trivial (renC trivial (renC trivial (renC trivial renC0)))))))) (by kernel_rfl) ?_
 refine qA_of_eq (st' := ⟨58, [(53, B (eq_T_impl_Value v31 v35)), (52, E v35), (51, E v31), (4, .ptr 0 0 0), (5, .ptr 2 1 0), (35, A v20), (36, I (v20.length : Int)), (37, I x26)], [some ⟨0, Enc.cells (T_impl_Batch.mk [] [])⟩, some ⟨0, eL (x27.set x26.toNat (eq_T_impl_Value v31 v35))⟩, some ⟨1, [rf 4 0 1 v18, .ref 1 0 0 1 (x27.set x26.toNat (eq_T_impl_Value v31 v35)).length false]⟩, none, sl 0 v18, sc 0 v31]⟩) (by simp only [List.length_set]) ?_
 refine qn 58 [(4, .ptr 0 0 0), (5, .ptr 2 1 0), (35, A v20), (36, I (v20.length : Int)), (37, I x26), (51, E v31), (52, E v35), (53, B (eq_T_impl_Value v31 v35))] [some ⟨0, Enc.cells (T_impl_Batch.mk [] [])⟩, some ⟨0, eL (x27.set x26.toNat (eq_T_impl_Value v31 v35))⟩, some ⟨1, [rf 4 0 1 v18, .ref 1 0 0 1 (x27.set x26.toNat (eq_T_impl_Value v31 v35)).length false]⟩, none, sl 0 v18, sc 0 v31] ?_
 refine rveM [4, 5, 9] 58 [(4, .ptr 0 0 0), (5, .ptr 2 1 0), (35, A v20), (36, I (v20.length : Int)), (37, I (w64 (x26 + 1))), (51, E v31), (52, E v35), (53, B (eq_T_impl_Value v31 v35))] [some ⟨0, Enc.cells (T_impl_Batch.mk [] [])⟩, some ⟨0, eL (x27.set x26.toNat (eq_T_impl_Value v31 v35))⟩, some ⟨1, [rf 4 0 1 v18, .ref 1 0 0 1 (x27.set x26.toNat (eq_T_impl_Value v31 v35)).length false]⟩, none, sl 0 v18, sc 0 v31] ?_
 exact ⟨(f28, (w64 (x26 + 1)), (x27.set x26.toNat (eq_T_impl_Value v31 v35))), h, Nat.lt_succ_self _, (it (st' := ⟨58, [(4, .ptr 0 0 0), (5, .ptr 2 1 0), (35, A v20), (36, I (v20.length : Int)), (37, I (w64 (x26 + 1)))], [some ⟨0, Enc.cells (T_impl_Batch.mk [] [])⟩, some ⟨0, eL (x27.set x26.toNat (eq_T_impl_Value v31 v35))⟩, some ⟨1, [rf 4 0 1 v18, .ref 1 0 0 1 (x27.set x26.toNat (eq_T_impl_Value v31 v35)).length false]⟩, none, sl 0 v18, sc 0 v31]⟩) [4, 5, 35, 36, 37]).trans (Imp.truncS 5 (nx hX) (by kernel_rfl) (allBelow_mem (by exact (And.intro rfl (And.intro rfl (And.intro rfl (And.intro rfl (And.intro rfl trivial))))))) (by exact (And.intro (rfl) (And.intro (frz_below (eL_frz _)) (And.intro (rfl) (And.intro (frz_below (eL_frz _)) trivial))))) (by kernel_rfl))⟩
 replace h := bF hc41 h
 rw [hc41]
 refine qvM [4, 5, 9] [5] (hB trivial) 1 58 [(51, .lit undef), (50, B false), (44, I x26), (43, rf 1 0 1 x27), (4, .ptr 0 0 0), (5, .ptr 2 1 0), (35, A v20), (36, I (v20.length : Int)), (37, I x26)] [some ⟨0, Enc.cells (T_impl_Batch.mk [] [])⟩, sl 0 x27, some ⟨1, [rf 4 0 1 v18, rf 1 0 1 x27]⟩, none, sl 0 v18, sc 0 v31] ?_
 refine qvM [4, 5, 9] [] trivial 3 58 [(54, B false), (53, .lit undef), (52, .lit undef), (51, .lit undef), (44, I x26), (43, rf 1 0 1 x27), (4, .ptr 0 0 0), (5, .ptr 2 1 0), (35, A v20), (36, I (v20.length : Int)), (37, I x26)] [some ⟨0, Enc.cells (T_impl_Batch.mk [] [])⟩, sl 0 x27, some ⟨1, [rf 4 0 1 v18, rf 1 0 1 x27]⟩, none, sl 0 v18, sc 0 v31] ?_
 obtain ⟨v39, hv40, h⟩ := bindS h
 refine qX (some 55) (.ptr 1 0 (x26.toNat * 1)) 58 [(55, .ptr 1 0 (x26.toNat * 1)), (54, B false), (53, .lit undef), (52, .lit undef), (51, .lit undef), (4, .ptr 0 0 0), (5, .ptr 2 1 0), (35, A v20), (36, I (v20.length : Int)), (37, I x26)] [some ⟨0, Enc.cells (T_impl_Batch.mk [] [])⟩, sl 0 x27, some ⟨1, [rf 4 0 1 v18, rf 1 0 1 x27]⟩, none, sl 0 v18, sc 0 v31] (fun Γ' hΓ => CoreE.of_y (idrV_sound (n := x27.length) τ_ok (by kernel_rfl) hv40 rfl)) (hL trivial) ?_
 refine qX none (.any) 58 [(53, .lit undef), (52, .lit undef), (51, .lit undef), (4, .ptr 0 0 0), (5, .ptr 2 1 0), (35, A v20), (36, I (v20.length : Int)), (37, I x26)] [some ⟨0, Enc.cells (T_impl_Batch.mk [] [])⟩, some ⟨0, eL (x27.set x26.toNat false)⟩, some ⟨1, [rf 4 0 1 v18, rf 1 0 1 x27]⟩, none, sl 0 v18, sc 0 v31] (fun Γ' hΓ => ste_E (vs := [B false]) τ_ok 4 1 0 0 false hv40 (by kernel_rfl) (by kernel_rfl) (by kernel_rfl)) (hL trivial) ?_
 refine qA_ren (st' := ⟨58, [(53, .lit undef), (52, .lit undef), (51, .lit undef), (4, .ptr 0 0 0), (5, .ptr 2 1 0), (35, A v20), (36, I (v20.length : Int)), (37, I x26)], [some ⟨0, Enc.cells (T_impl_Batch.mk [] [])⟩, some ⟨0, eL (x27.set x26.toNat false)⟩, some ⟨1, [rf 4 0 1 v18, rf 1 0 1 x27]⟩, none, sl 0 v18, sc 0 v31]⟩) 1 (x27.set x26.toNat false).length (renC trivial (renC trivial (renC trivial (renC trivial (renC trivial (renC trivial (renC trivial (renC trivial renC0)))))))) (by kernel_rfl) ?_
 refine qA_of_eq (st' := ⟨58, [(53, .lit undef), (52, .lit undef), (51, .lit undef), (4, .ptr 0 0 0), (5, .ptr 2 1 0), (35, A v20), (36, I (v20.length : Int)), (37, I x26)], [some ⟨0, Enc.cells (T_impl_Batch.mk [] [])⟩, some ⟨0, eL (x27.set x26.toNat false)⟩, some ⟨1, [rf 4 0 1 v18, .ref 1 0 0 1 (x27.set x26.toNat false).length false]⟩, none, sl 0 v18, sc 0 v31]⟩) (by simp only [List.length_set]) ?_
 refine qn 58 [(4, .ptr 0 0 0), (5, .ptr 2 1 0), (35, A v20), (36, I (v20.length : Int)), (37, I x26), (51, .lit undef), (52, .lit undef), (53, .lit undef)] [some ⟨0, Enc.cells (T_impl_Batch.mk [] [])⟩, some ⟨0, eL (x27.set x26.toNat false)⟩, some ⟨1, [rf 4 0 1 v18, .ref 1 0 0 1 (x27.set x26.toNat false).length false]⟩, none, sl 0 v18, sc 0 v31] ?_
 refine rveM [4, 5, 9] 58 [(4, .ptr 0 0 0), (5, .ptr 2 1 0), (35, A v20), (36, I (v20.length : Int)), (37, I (w64 (x26 + 1))), (51, .lit undef), (52, .lit undef), (53, .lit undef)] [some ⟨0, Enc.cells (T_impl_Batch.mk [] [])⟩, some ⟨0, eL (x27.set x26.toNat false)⟩, some ⟨1, [rf 4 0 1 v18, .ref 1 0 0 1 (x27.set x26.toNat false).length false]⟩, none, sl 0 v18, sc 0 v31] ?_
 exact ⟨(f28, (w64 (x26 + 1)), (x27.set x26.toNat false)), h, Nat.lt_succ_self _, (it (st' := ⟨58, [(4, .ptr 0 0 0), (5, .ptr 2 1 0), (35, A v20), (36, I (v20.length : Int)), (37, I (w64 (x26 + 1)))], [some ⟨0, Enc.cells (T_impl_Batch.mk [] [])⟩, some ⟨0, eL (x27.set x26.toNat false)⟩, some ⟨1, [rf 4 0 1 v18, .ref 1 0 0 1 (x27.set x26.toNat false).length false]⟩, none, sl 0 v18, sc 0 v31]⟩) [4, 5, 35, 36, 37]).trans (Imp.truncS 5 (nx hX) (by kernel_rfl) (allBelow_mem (by exact (And.intro rfl (And.intro rfl (And.intro rfl (And.intro rfl (And.intro rfl trivial))))))) (by exact (And.intro (rfl) (And.intro (frz_below (eL_frz _)) (And.intro (rfl) (And.intro (frz_below (eL_frz _)) trivial))))) (by kernel_rfl))⟩
 refine pwp_exit ?_
 refine srvM [4, 5, 9] 1 58 [(4, .ptr 0 0 0), (57, .agg [rf 4 0 1 v18, rf 1 0 1 x27])] [some ⟨0, Enc.cells (T_impl_Batch.mk [] [])⟩, sl 0 x27, some ⟨1, [rf 4 0 1 v18, rf 1 0 1 x27]⟩, none, sl 0 v18] ?_
 refine opsP_imp (Imp.freezeB (v := 0) (cs := eL x27) (st' := ⟨58, [(4, .ptr 0 0 0), (57, .agg [rf 4 0 1 v18, A x27])], [some ⟨0, Enc.cells (T_impl_Batch.mk [] [])⟩, none, some ⟨1, [rf 4 0 1 v18, A x27]⟩, none, sl 0 v18]⟩) 1 0 (nx hX) (by kernel_rfl) (eL_frz _) (wholeC (whole_noRef (by kernel_rfl)) (wholeC (whole_agg (wholeL (whole_ne rfl) (wholeL (whole_is (eL_len x27).symm) wholeL0))) wholeC0)) (HpRel.frz rfl (Enc.frz _) (HpRel.key (HpRel.box rfl (CellRel.cons ⟨rfl, (whole_ne rfl), rfl⟩ (CellRel.cons ⟨rfl, (whole_is (eL_len x27).symm), rfl⟩ CellRel.nil)) (HpRel.none rfl (HpRel.frz rfl (eL_frz _) HpRel.nil))))) (by kernel_rfl) rfl (nx hX)) ?_
 refine vM [4, 5, 9] 0 58 [(4, .ptr 0 0 0), (57, .agg [rf 4 0 1 v18, A x27])] [some ⟨0, Enc.cells (T_impl_Batch.mk [] [])⟩, none, some ⟨1, [rf 4 0 1 v18, A x27]⟩, none, sl 0 v18] ?_
 refine opsP_imp (Imp.freezeB (v := 0) (cs := eL v18) (st' := ⟨58, [(4, .ptr 0 0 0), (57, E (T_impl_Batch.mk v18 x27))], [some ⟨0, Enc.cells (T_impl_Batch.mk [] [])⟩, none, some ⟨1, Enc.cells (T_impl_Batch.mk v18 x27)⟩, none, none]⟩) 4 0 (nx hX) (by kernel_rfl) (eL_frz _) (wholeC (whole_noRef (by kernel_rfl)) (wholeC (whole_agg (wholeL (whole_is (eL_len v18).symm) (wholeL (whole_noRef (by kernel_rfl)) wholeL0))) wholeC0)) (HpRel.frz rfl (Enc.frz _) (HpRel.none rfl (HpRel.box rfl (CellRel.cons ⟨rfl, (whole_is (eL_len v18).symm), rfl⟩ (CellRel.cons ⟨rfl, trivial, rfl⟩ CellRel.nil)) (HpRel.none rfl (HpRel.key HpRel.nil))))) (by kernel_rfl) rfl (nx hX)) ?_
 refine veM [4, 5, 9] 1 58 [(4, .ptr 0 0 0)] [some ⟨0, Enc.cells (T_impl_Batch.mk v18 x27)⟩, none, some ⟨1, Enc.cells (T_impl_Batch.mk v18 x27)⟩, none, none] ?_
 cases h
 exact pwp_ret rz
def impl_BatchPicked_j0 (a1 : T_impl_Batch) (a2 : List T_impl_Part) (x1 : Bool) : Option T_impl_Batch := bif x1 then some (T_impl_Batch.mk [] []) else (impl_Batch_pick a1 a2).bind fun v3 => some v3
def impl_BatchPicked (a0 : List T_impl_Column) (a1 : T_impl_Batch) (a2 : List T_impl_Part) : Option T_impl_Batch := (impl_ExprKind a0 a2).bind fun v5 => bif (!(v5 == 3)) then impl_BatchPicked_j0 a1 a2 true else bif (!((a1.fColumns.length : Int) == (a0.length : Int))) then impl_BatchPicked_j0 a1 a2 true else (impl_Batch_fits a1 a0).bind fun v7 => impl_BatchPicked_j0 a1 a2 (!v7)
theorem ok_impl_BatchPicked {a0 : List T_impl_Column} {a1 : T_impl_Batch} {a2 : List T_impl_Part} {y : T_impl_Batch} (h : impl_BatchPicked a0 a1 a2 = some y) : OK Tryz.prog 31 [A a0, E a1, A a2] (E y) := by
 refine ow Tryz.func31 fun Γ hX => ?_
 unfold impl_BatchPicked at h
 refine srveM [6] 29 [(0, A a0), (2, A a2), (4, pf a1 0), (6, .ptr 0 0 0)] [some ⟨0, Enc.cells (T_impl_Batch.mk [] [])⟩] ?_
 refine pwp_seq ?_
 refine pwp_seq ?_
 refine pwp_join (σ := Bool) (fun x1 => (⟨29, [(2, A a2), (4, pf a1 0), (6, .ptr 0 0 0), (24, B x1)], [some ⟨0, Enc.cells (T_impl_Batch.mk [] [])⟩]⟩ : St)) (fun x1 => impl_BatchPicked_j0 a1 a2 x1 = some y) ?_ ?_
 refine rvM [6] 2 29 [(0, A a0), (2, A a2), (4, pf a1 0), (6, .ptr 0 0 0), (7, A a0), (8, A a2)] [some ⟨0, Enc.cells (T_impl_Batch.mk [] [])⟩] ?_
 obtain ⟨v5, hv6, h⟩ := bindS h
 refine cF 9 (ok_impl_ExprKind hv6) ?_
 refine vM [6] 2 29 [(0, A a0), (2, A a2), (4, pf a1 0), (6, .ptr 0 0 0), (11, B (!(v5 == 3)))] [some ⟨0, Enc.cells (T_impl_Batch.mk [] [])⟩] ?_
 rcases fk (!(v5 == 3)) with hc10 | hc10
 replace h := bT hc10 h
 rw [hc10]
 refine veM [6] 13 29 [(2, A a2), (4, pf a1 0), (6, .ptr 0 0 0), (24, B true)] [some ⟨0, Enc.cells (T_impl_Batch.mk [] [])⟩] ?_
 exact ⟨true, h, it [2, 4, 6, 24]⟩
 replace h := bF hc10 h
 rw [hc10]
 refine vM [6] 8 29 [(0, A a0), (2, A a2), (4, pf a1 0), (6, .ptr 0 0 0), (19, B (!((a1.fColumns.length : Int) == (a0.length : Int))))] [some ⟨0, Enc.cells (T_impl_Batch.mk [] [])⟩] ?_
 rcases fk (!((a1.fColumns.length : Int) == (a0.length : Int))) with hc9 | hc9
 replace h := bT hc9 h
 rw [hc9]
 refine veM [6] 5 29 [(2, A a2), (4, pf a1 0), (6, .ptr 0 0 0), (24, B true)] [some ⟨0, Enc.cells (T_impl_Batch.mk [] [])⟩] ?_
 exact ⟨true, h, it [2, 4, 6, 24]⟩
 replace h := bF hc9 h
 rw [hc9]
 refine vM [6] 2 29 [(2, A a2), (4, pf a1 0), (6, .ptr 0 0 0), (19, B false), (20, E a1), (21, A a0)] [some ⟨0, Enc.cells (T_impl_Batch.mk [] [])⟩] ?_
 obtain ⟨v7, hv8, h⟩ := bindS h
 refine cF 22 (ok_impl_Batch_fits hv8) ?_
 refine veM [6] 2 29 [(2, A a2), (4, pf a1 0), (6, .ptr 0 0 0), (24, B (!v7))] [some ⟨0, Enc.cells (T_impl_Batch.mk [] [])⟩] ?_
 exact ⟨(!v7), h, it [2, 4, 6, 24]⟩
 rintro x1 h
 unfold impl_BatchPicked_j0 at h
 refine pc h (fun h => ?_) (fun h => ?_)
 refine srveM [6] 29 [(6, .ptr 0 0 0)] [some ⟨0, Enc.cells (T_impl_Batch.mk [] [])⟩] ?_
 cases h
 exact pwp_ret rz
 refine pwp_skip ?_
 refine srvM [6] 2 29 [(6, .ptr 0 0 0), (26, E a1), (27, A a2)] [some ⟨0, Enc.cells (T_impl_Batch.mk [] [])⟩] ?_
 obtain ⟨v3, hv4, h⟩ := bindS h
 refine cF 28 (ok_impl_Batch_pick hv4) ?_
 refine veM [6] 1 29 [(6, .ptr 0 0 0)] [sc 0 v3] ?_
 cases h
 exact pwp_ret rz
def impl_ExprHolds (a0 : List T_impl_Column) (a1 : List T_impl_Value) (a2 : List T_impl_Part) : Option Bool := (impl_ExprKind a0 a2).bind fun v1 => bif (v1 == 3) then (impl_RowFits a0 a1).bind fun v3 => bif v3 then (impl_exprHolds a1 a2).bind fun v5 => some v5 else some false else some false
theorem ok_impl_ExprHolds {a0 : List T_impl_Column} {a1 : List T_impl_Value} {a2 : List T_impl_Part} {y : Bool} (h : impl_ExprHolds a0 a1 a2 = some y) : OK Tryz.prog 35 [A a0, A a1, A a2] (B y) := by
 refine ow Tryz.func35 fun Γ hX => ?_
 unfold impl_ExprHolds at h
 refine srve 21 [(0, A a0), (1, A a1), (2, A a2)] [] ?_
 refine srv 2 21 [(0, A a0), (1, A a1), (2, A a2), (7, A a0), (8, A a2)] [] ?_
 obtain ⟨v1, hv2, h⟩ := bindS h
 refine cF 9 (ok_impl_ExprKind hv2) ?_
 refine v 2 21 [(0, A a0), (1, A a1), (2, A a2), (11, B (v1 == 3))] [] ?_
 rcases fk (v1 == 3) with hc8 | hc8
 replace h := bT hc8 h
 rw [hc8]
 refine v 2 21 [(1, A a1), (2, A a2), (11, B true), (12, A a0), (13, A a1)] [] ?_
 obtain ⟨v3, hv4, h⟩ := bindS h
 refine cF 14 (ok_impl_RowFits hv4) ?_
 refine v 2 21 [(1, A a1), (2, A a2), (16, B v3)] [] ?_
 rcases Bool.eq_false_or_eq_true v3 with hc7 | hc7
 replace h := bT hc7 h
 rw [hc7]
 refine v 2 21 [(16, B true), (17, A a1), (18, A a2)] [] ?_
 obtain ⟨v5, hv6, h⟩ := bindS h
 refine cF 19 (ok_impl_exprHolds hv6) ?_
 refine ve 2 21 [(6, B v5)] [] ?_
 cases h
 exact pwp_ret rz
 replace h := bF hc7 h
 rw [hc7]
 refine ve 5 21 [(6, B false)] [] ?_
 cases h
 exact pwp_ret rz
 replace h := bF hc8 h
 rw [hc8]
 refine ve 10 21 [(6, B false)] [] ?_
 cases h
 exact pwp_ret rz
def laws_FnBatchPicked_j1 (x19 : Int) (K22 : Int → (List (List T_impl_Value)) → Option Bool) (x24 : List (List T_impl_Value)) : Option Bool := K22 (w64 (x19 + 1)) x24
def laws_FnBatchPicked_l0 (v2 : (List T_impl_Column) × T_impl_Batch × (List T_impl_Part)) (v4 : T_impl_Batch) (v14 : List (List T_impl_Value)) : Nat → Int → (List (List T_impl_Value)) → Option Bool
 | 0, _, _ => none
 | f21 + 1, x19, x20 => bif (decide (x19 < (v14.length : Int))) then (getI v14 x19).bind fun v25 => (impl_ExprHolds v2.1 v25 v2.2.2).bind fun v27 => bif v27 then (getI v14 x19).bind fun v30 => (app x20 ([v30] : List (List T_impl_Value))).bind fun v32 => laws_FnBatchPicked_j1 x19 (laws_FnBatchPicked_l0 v2 v4 v14 f21) v32 else laws_FnBatchPicked_j1 x19 (laws_FnBatchPicked_l0 v2 v4 v14 f21) x20 else (laws_sameRows v4.fColumns v2.2.1.fColumns).bind fun v34 => bif v34 then (impl_BatchRows v4).bind fun v36 => (laws_sameRows v36 x20).bind fun v38 => some v38 else some false
def laws_FnBatchPicked (a0 : List UInt8) : Option Bool := bif (decide ((a0.length : Int) > 1048576)) then some true else (spec_DrawBatchPicked a0).bind fun v2 => (impl_BatchPicked v2.1 v2.2.1 v2.2.2).bind fun v4 => (spec_BatchPicked v2.1 v2.2.1 v2.2.2).bind fun v6 => (laws_sameBatch v4 v6).bind fun v8 => bif (!v8) then some false else bif ((v4.fPicked.length : Int) == 0) then (laws_alive).bind fun v12 => some v12 else (impl_BatchRows v2.2.1).bind fun v14 => laws_FnBatchPicked_l0 v2 v4 v14 FUEL 0 ([] : List (List T_impl_Value))
theorem ok_laws_FnBatchPicked {a0 : List UInt8} {y : Bool} (h : laws_FnBatchPicked a0 = some y) : OK Tryz.prog 7 [A a0] (B y) := by
 refine ow Tryz.func7 fun Γ hX => ?_
 unfold laws_FnBatchPicked at h
 refine srveM [4, 6] 69 [(0, A a0)] [] ?_
 refine pwp_seq ?_
 refine srveM [4, 6] 69 [(0, A a0), (12, B (decide ((a0.length : Int) > 1048576)))] [] ?_
 refine pc h (fun h => ?_) (fun h => ?_)
 refine srveM [4, 6] 69 [(2, B true)] [] ?_
 cases h
 exact pwp_ret rz
 refine pwp_skip ?_
 refine srvM [4, 6] 1 69 [(14, A a0)] [] ?_
 obtain ⟨v2, hv3, h⟩ := bindS h
 refine opsP_callF τ 15 (ok_spec_DrawBatchPicked hv3) (FzTo.tup (FzToL.cons (FzTo.frz rfl) (FzToL.cons (FzTo.frz rfl) (FzToL.cons (FzTo.frz rfl) FzToL.nil)))) rfl (by kernel_rfl) ?_
 refine veM [4, 6] 8 69 [(3, A v2.1), (4, .ptr 0 0 0), (5, A v2.2.2)] [sc 0 v2.2.1] ?_
 refine srvM [4, 6] 3 69 [(3, A v2.1), (4, .ptr 0 0 0), (5, A v2.2.2), (19, A v2.1), (20, E v2.2.1), (21, A v2.2.2)] [sc 0 v2.2.1] ?_
 obtain ⟨v4, hv5, h⟩ := bindS h
 refine cF 22 (ok_impl_BatchPicked hv5) ?_
 refine veM [4, 6] 2 69 [(3, A v2.1), (4, .ptr 0 0 0), (5, A v2.2.2), (6, .ptr 1 0 0)] [sc 0 v2.2.1, sc 0 v4] ?_
 refine pwp_seq ?_
 refine pwp_seq ?_
 refine ip 69 [(3, A v2.1), (4, .ptr 0 0 0), (5, A v2.2.2), (6, .ptr 1 0 0)] [sc 0 v2.2.1, sc 0 v4] ?_
 refine pwp_any ([[1], [], [0], [], [], [], []]) ([[], [], [], [], [], [], []]) rfl (by kernel_rfl) ?_
 refine qvM [4, 6] [1] (hB trivial) 1 69 [(23, E v4), (3, A v2.1), (4, .ptr 0 0 0), (5, A v2.2.2), (6, .ptr 1 0 0)] [sc 0 v2.2.1, sc 0 v4] ?_
 refine qvM [4, 6] [] trivial 1 69 [(24, A v2.1), (23, E v4), (3, A v2.1), (4, .ptr 0 0 0), (5, A v2.2.2), (6, .ptr 1 0 0)] [sc 0 v2.2.1, sc 0 v4] ?_
 refine qvM [4, 6] [0] (hB trivial) 1 69 [(25, E v2.2.1), (24, A v2.1), (23, E v4), (3, A v2.1), (4, .ptr 0 0 0), (5, A v2.2.2), (6, .ptr 1 0 0)] [sc 0 v2.2.1, sc 0 v4] ?_
 refine qvM [4, 6] [] trivial 1 69 [(26, A v2.2.2), (25, E v2.2.1), (24, A v2.1), (23, E v4), (3, A v2.1), (4, .ptr 0 0 0), (5, A v2.2.2), (6, .ptr 1 0 0)] [sc 0 v2.2.1, sc 0 v4] ?_
 obtain ⟨v6, hv7, h⟩ := bindS h
 refine qX (some 27) (E v6) 69 [(27, E v6), (23, E v4), (3, A v2.1), (4, .ptr 0 0 0), (5, A v2.2.2), (6, .ptr 1 0 0)] [sc 0 v2.2.1, sc 0 v4] (fun Γ' hΓ => CoreE.of_g (callV_sound (τ := τ) (by kernel_rfl) rfl (ok_spec_BatchPicked hv7) (FzTo.frz rfl))) trivial ?_
 obtain ⟨v8, hv9, h⟩ := bindS h
 refine qX (some 28) (B v8) 69 [(28, B v8), (3, A v2.1), (4, .ptr 0 0 0), (5, A v2.2.2), (6, .ptr 1 0 0)] [sc 0 v2.2.1, sc 0 v4] (fun Γ' hΓ => CoreE.of_g (callV_sound (τ := τ) (by kernel_rfl) rfl (ok_laws_sameBatch hv9) (FzTo.frz rfl))) trivial ?_
 refine qvnM [4, 6] [] trivial 1 69 [(3, A v2.1), (4, .ptr 0 0 0), (5, A v2.2.2), (6, .ptr 1 0 0), (29, B (!v8))] [sc 0 v2.2.1, sc 0 v4] ?_
 refine pc h (fun h => ?_) (fun h => ?_)
 refine srveM [4, 6] 69 [(2, B false)] [sc 0 v2.2.1, sc 0 v4] ?_
 cases h
 exact pwp_ret rz
 refine pwp_skip ?_
 refine pwp_seq ?_
 refine srveM [4, 6] 69 [(3, A v2.1), (4, .ptr 0 0 0), (5, A v2.2.2), (6, .ptr 1 0 0), (33, B ((v4.fPicked.length : Int) == 0))] [sc 0 v2.2.1, sc 0 v4] ?_
 refine pc h (fun h => ?_) (fun h => ?_)
 refine pwp_seq ?_
 refine pwp_region ?_
 obtain ⟨v12, hv13, h⟩ := bindS h
 refine cF 34 (ok_laws_alive hv13) ?_
 refine veM [4, 6] 1 69 [(2, B v12)] [sc 0 v2.2.1, sc 0 v4] ?_
 cases h
 exact pwp_ret rz
 refine pwp_skip ?_
 refine srveM [4, 6] 69 [(3, A v2.1), (4, .ptr 0 0 0), (5, A v2.2.2), (6, .ptr 1 0 0), (7, .arr 1 0 (eL ([] : List (List T_impl_Value))) true)] [sc 0 v2.2.1, sc 0 v4] ?_
 refine srvM [4, 6] 1 69 [(3, A v2.1), (4, .ptr 0 0 0), (5, A v2.2.2), (6, .ptr 1 0 0), (7, .arr 1 0 (eL ([] : List (List T_impl_Value))) true), (36, E v2.2.1)] [sc 0 v2.2.1, sc 0 v4] ?_
 obtain ⟨v14, hv15, h⟩ := bindS h
 refine cF 37 (ok_impl_BatchRows hv15) ?_
 refine veM [4, 6] 1 69 [(3, A v2.1), (4, .ptr 0 0 0), (5, A v2.2.2), (6, .ptr 1 0 0), (7, .arr 1 0 (eL ([] : List (List T_impl_Value))) true), (8, A v14)] [sc 0 v2.2.1, sc 0 v4] ?_
 refine pwp_seq ?_
 refine srveM [4, 6] 69 [(3, A v2.1), (4, .ptr 0 0 0), (5, A v2.2.2), (6, .ptr 1 0 0), (7, .arr 1 0 (eL ([] : List (List T_impl_Value))) true), (8, A v14), (9, I 0)] [sc 0 v2.2.1, sc 0 v4] ?_
 refine pwp_block ?_
 refine pwp_loop (ι := Nat × Int × (List (List T_impl_Value))) (fun (f21, x19, x20) => (⟨69, [(3, A v2.1), (4, .ptr 0 0 0), (5, A v2.2.2), (6, .ptr 1 0 0), (7, rf 2 0 1 x20), (8, A v14), (9, I x19)], [sc 0 v2.2.1, sc 0 v4, sl 0 x20]⟩ : St)) (fun (f21, x19, x20) => laws_FnBatchPicked_l0 v2 v4 v14 f21 x19 x20 = some y) Prod.fst (FUEL, 0, ([] : List (List T_impl_Value))) h (Imp.thawS 7 [3, 4, 5, 6, 7, 8, 9] (by kernel_rfl)) ?_
 rintro ⟨f21, x19, x20⟩ h
 dsimp only at h ⊢
 rcases f21 with _ | f21
 cases h
 rw [laws_FnBatchPicked_l0] at h
 refine pwp_seq ?_
 refine srveM [4, 6] 69 [(3, A v2.1), (4, .ptr 0 0 0), (5, A v2.2.2), (6, .ptr 1 0 0), (7, rf 2 0 1 x20), (8, A v14), (9, I x19), (41, B (decide (x19 < (v14.length : Int))))] [sc 0 v2.2.1, sc 0 v4, sl 0 x20] ?_
 refine pc h (fun h => ?_) (fun h => ?_)
 refine pwp_skip ?_
 refine pwp_seq ?_
 refine pwp_join (σ := (List (List T_impl_Value))) (fun x24 => (⟨69, [(3, A v2.1), (4, .ptr 0 0 0), (5, A v2.2.2), (6, .ptr 1 0 0), (7, rf 2 0 1 x24), (8, A v14), (9, I x19)], [sc 0 v2.2.1, sc 0 v4, sl 0 x24]⟩ : St)) (fun x24 => laws_FnBatchPicked_j1 x19 (laws_FnBatchPicked_l0 v2 v4 v14 f21) x24 = some y) ?_ ?_
 refine pwp_block ?_
 refine srvM [4, 6] 3 69 [(3, A v2.1), (4, .ptr 0 0 0), (5, A v2.2.2), (6, .ptr 1 0 0), (7, rf 2 0 1 x20), (8, A v14), (9, I x19), (44, A v2.1), (45, A v14), (46, I x19)] [sc 0 v2.2.1, sc 0 v4, sl 0 x20] ?_
 obtain ⟨v25, hv26, h⟩ := bindS h
 refine opsP_idx τ_ok 47 hv26 (by kernel_rfl) ?_
 refine vM [4, 6] 2 69 [(3, A v2.1), (4, .ptr 0 0 0), (5, A v2.2.2), (6, .ptr 1 0 0), (7, rf 2 0 1 x20), (8, A v14), (9, I x19), (44, A v2.1), (48, A v25), (49, A v2.2.2)] [sc 0 v2.2.1, sc 0 v4, sl 0 x20] ?_
 obtain ⟨v27, hv28, h⟩ := bindS h
 refine cF 50 (ok_impl_ExprHolds hv28) ?_
 refine veM [4, 6] 0 69 [(3, A v2.1), (4, .ptr 0 0 0), (5, A v2.2.2), (6, .ptr 1 0 0), (7, rf 2 0 1 x20), (8, A v14), (9, I x19), (50, B v27)] [sc 0 v2.2.1, sc 0 v4, sl 0 x20] ?_
 refine pc h (fun h => ?_) (fun h => ?_)
 refine rvM [4, 6] 3 69 [(3, A v2.1), (4, .ptr 0 0 0), (5, A v2.2.2), (6, .ptr 1 0 0), (8, A v14), (9, I x19), (51, rf 2 0 1 x20), (52, A v14), (53, I x19)] [sc 0 v2.2.1, sc 0 v4, sl 0 x20] ?_
 obtain ⟨v30, hv31, h⟩ := bindS h
 refine opsP_idx τ_ok 54 hv31 (by kernel_rfl) ?_
 refine vM [4, 6] 2 69 [(3, A v2.1), (4, .ptr 0 0 0), (5, A v2.2.2), (6, .ptr 1 0 0), (8, A v14), (9, I x19), (51, rf 2 0 1 x20), (56, .arr 1 ([v30] : List (List T_impl_Value)).length (eL ([v30] : List (List T_impl_Value))) true)] [sc 0 v2.2.1, sc 0 v4, sl 0 x20] ?_
 obtain ⟨v32, hv33, h⟩ := bindS h
 refine opsP_app τ_ok 57 2 0 (nx hX) hv33 (by kernel_rfl) ?_
 refine veM [4, 6] 1 69 [(3, A v2.1), (4, .ptr 0 0 0), (5, A v2.2.2), (6, .ptr 1 0 0), (7, rf 2 1 1 v32), (8, A v14), (9, I x19)] [sc 0 v2.2.1, sc 0 v4, sl 1 v32] ?_
 exact ⟨v32, h, (it (st' := ⟨69, [(3, A v2.1), (4, .ptr 0 0 0), (5, A v2.2.2), (6, .ptr 1 0 0), (7, rf 2 1 1 v32), (8, A v14), (9, I x19)], [sc 0 v2.2.1, sc 0 v4, sl 1 v32]⟩) [3, 4, 5, 6, 7, 8, 9]).trans (Imp.reverS 2 1 (eL v32) [3, 4, 5, 6, 7, 8, 9] (by kernel_rfl) (by exact (And.intro (rfl) (And.intro (rfl) (And.intro (eL_frz _) trivial)))) (by kernel_rfl))⟩
 refine pwp_skip ?_
 exact ⟨x20, h, it [3, 4, 5, 6, 7, 8, 9]⟩
 rintro x24 h
 unfold laws_FnBatchPicked_j1 at h
 refine rveM [4, 6] 69 [(3, A v2.1), (4, .ptr 0 0 0), (5, A v2.2.2), (6, .ptr 1 0 0), (7, rf 2 0 1 x24), (8, A v14), (9, I (w64 (x19 + 1)))] [sc 0 v2.2.1, sc 0 v4, sl 0 x24] ?_
 exact ⟨(f21, (w64 (x19 + 1)), x24), h, Nat.lt_succ_self _, it [3, 4, 5, 6, 7, 8, 9]⟩
 refine pwp_exit ?_
 refine srvM [4, 6] 4 69 [(6, .ptr 1 0 0), (7, rf 2 0 1 x20), (59, A v4.fColumns), (61, A v2.2.1.fColumns)] [sc 0 v2.2.1, sc 0 v4, sl 0 x20] ?_
 obtain ⟨v34, hv35, h⟩ := bindS h
 refine cF 62 (ok_laws_sameRows hv35) ?_
 refine vM [4, 6] 1 69 [(6, .ptr 1 0 0), (7, rf 2 0 1 x20), (63, B v34)] [sc 0 v2.2.1, sc 0 v4, sl 0 x20] ?_
 rcases Bool.eq_false_or_eq_true v34 with hc40 | hc40
 replace h := bT hc40 h
 rw [hc40]
 refine vM [4, 6] 1 69 [(7, rf 2 0 1 x20), (63, B true), (64, E v4)] [sc 0 v2.2.1, sc 0 v4, sl 0 x20] ?_
 obtain ⟨v36, hv37, h⟩ := bindS h
 refine cF 65 (ok_impl_BatchRows hv37) ?_
 refine vM [4, 6] 1 69 [(63, B true), (65, A v36), (66, rf 2 0 1 x20)] [sc 0 v2.2.1, sc 0 v4, sl 0 x20] ?_
 obtain ⟨v38, hv39, h⟩ := bindS h
 refine opsP_callV (xs := [A v36, rf 2 0 1 x20]) τ 67 (ok_laws_sameRows hv39) (Blind.lit _) (FzTo.frz rfl) (by kernel_rfl) (ViewL.cons (View.frz rfl) (ViewL.cons (View.whole (v := 0) x20 (by kernel_rfl) rfl) (ViewL.nil _))) ?_
 refine veM [4, 6] 2 69 [(2, B v38)] [sc 0 v2.2.1, sc 0 v4, sl 0 x20] ?_
 cases h
 exact pwp_ret rz
 replace h := bF hc40 h
 rw [hc40]
 refine veM [4, 6] 6 69 [(2, B false)] [sc 0 v2.2.1, sc 0 v4, sl 0 x20] ?_
 cases h
 exact pwp_ret rz
end Go.D
