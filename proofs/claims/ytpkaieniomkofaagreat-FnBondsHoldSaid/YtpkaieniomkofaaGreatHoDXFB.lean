import Derived.Test.YtpkaieniomkofaaGreatHoDXFA
import Derived.KernelRfl
set_option linter.unusedVariables false
set_option linter.unusedSimpArgs false
namespace Go.D
open Go.Proofs
def spec_l4Do (a0 : List Za) (a1 : List Za) (a2 : Zc) : Option (List Za) := bif (a2.fKind == 1) then (app a1 ([a2.fV] : List Za)).bind fun v2 => some v2 else bif (a2.fKind == 2) then (getI a0 a2.fN).bind fun v5 => (app a1 ([v5] : List Za)).bind fun v7 => some v7 else bif (a2.fKind == 3) then (slI a1 none (some (w64 ((a1.length : Int) - 2))) none).bind fun v10 => (getI a1 (w64 ((a1.length : Int) - 2))).bind fun v12 => (getI a1 (w64 ((a1.length : Int) - 1))).bind fun v14 => (spec_l4Sum v12 v14).bind fun v16 => (appT a1 ([v16] : List Za) v10.length).bind fun v18 => some v18 else bif (a2.fKind == 4) then (slI a1 none (some (w64 ((a1.length : Int) - 2))) none).bind fun v21 => (getI a1 (w64 ((a1.length : Int) - 2))).bind fun v23 => (getI a1 (w64 ((a1.length : Int) - 1))).bind fun v25 => (spec_Compare a2.fN v23 v25).bind fun v27 => (spec_ValueOf v27).bind fun v29 => (appT a1 ([v29] : List Za) v21.length).bind fun v31 => some v31 else bif (a2.fKind == 5) then (slI a1 none (some (w64 ((a1.length : Int) - 2))) none).bind fun v34 => (getI a1 (w64 ((a1.length : Int) - 2))).bind fun v36 => (spec_TruthOf v36).bind fun v38 => (getI a1 (w64 ((a1.length : Int) - 1))).bind fun v40 => (spec_TruthOf v40).bind fun v42 => (spec_AndOf v38 v42).bind fun v44 => (spec_ValueOf v44).bind fun v46 => (appT a1 ([v46] : List Za) v34.length).bind fun v48 => some v48 else bif (a2.fKind == 6) then (slI a1 none (some (w64 ((a1.length : Int) - 2))) none).bind fun v51 => (getI a1 (w64 ((a1.length : Int) - 2))).bind fun v53 => (spec_TruthOf v53).bind fun v55 => (getI a1 (w64 ((a1.length : Int) - 1))).bind fun v57 => (spec_TruthOf v57).bind fun v59 => (spec_OrOf v55 v59).bind fun v61 => (spec_ValueOf v61).bind fun v63 => (appT a1 ([v63] : List Za) v51.length).bind fun v65 => some v65 else bif (a2.fKind == 7) then (slI a1 none (some (w64 ((a1.length : Int) - 1))) none).bind fun v68 => (getI a1 (w64 ((a1.length : Int) - 1))).bind fun v70 => (spec_TruthOf v70).bind fun v72 => (spec_NotOf v72).bind fun v74 => (spec_ValueOf v74).bind fun v76 => (appT a1 ([v76] : List Za) v68.length).bind fun v78 => some v78 else (slI a1 none (some (w64 ((a1.length : Int) - 1))) none).bind fun v80 => (getI a1 (w64 ((a1.length : Int) - 1))).bind fun v82 => (spec_l2Bool (v82.fKind == 0)).bind fun v84 => (spec_ValueOf v84).bind fun v86 => (appT a1 ([v86] : List Za) v80.length).bind fun v88 => some v88
theorem ok_spec_l4Do {a0 : List Za} {a1 : List Za} {a2 : Zc} {y : List Za} (h : spec_l4Do a0 a1 a2 = some y) : OKm Tryz.prog 141 [A a0, O a1, E a2] (O y) := by
 refine OKm_of_pwp (sl := [A a0, rf 0 0 3 a1, E a2]) (bs := [⟨0, eL a1⟩]) τ_ok Tryz.func141 rfl (by kernel_rfl) rfl (by kernel_rfl) fun Γ hX => ?_
 refine pwp_imp (Imp.to (st' := ⟨145, [(0, A a0), (1, rf 0 0 3 a1), (2, E a2)], [sl 0 a1]⟩) [0, 1, 2] (by kernel_rfl)) ?_
 unfold spec_l4Do at h
 refine srve 145 [(0, A a0), (1, rf 0 0 3 a1), (5, pf a2 0)] [sl 0 a1] ?_
 refine srve 145 [(0, A a0), (1, rf 0 0 3 a1), (5, pf a2 0), (7, I (a1.length : Int))] [sl 0 a1] ?_
 refine Zj ?_
 refine srve 145 [(0, A a0), (1, rf 0 0 3 a1), (5, pf a2 0), (7, I (a1.length : Int)), (11, I a2.fKind)] [sl 0 a1] ?_
 refine Zm ?_
 refine srve 145 [(0, A a0), (1, rf 0 0 3 a1), (5, pf a2 0), (7, I (a1.length : Int)), (11, I a2.fKind), (12, B (a2.fKind == 1))] [sl 0 a1] ?_
 refine pc h (fun h => ?_) (fun h => ?_)
 refine srv 4 145 [(14, rf 0 0 3 a1), (17, .arr 3 ([a2.fV] : List Za).length (eL ([a2.fV] : List Za)) true)] [sl 0 a1] ?_
 obtain ⟨v2, hv3, h⟩ := bindS h
 refine opsP_app τ_ok 18 0 0 (nx hX) hv3 (by kernel_rfl) ?_
 refine ve 1 145 [(6, rf 0 1 3 v2)] [sl 1 v2] ?_
 have h := si h
 subst h
 exact Zg (rt (rf 0 1 3 v2) (OutP.list (v := 1) (by kernel_rfl)))
 refine srve 145 [(0, A a0), (1, rf 0 0 3 a1), (5, pf a2 0), (7, I (a1.length : Int)), (11, I a2.fKind), (19, B (a2.fKind == 2))] [sl 0 a1] ?_
 refine pc h (fun h => ?_) (fun h => ?_)
 refine srv 4 145 [(21, rf 0 0 3 a1), (22, A a0), (24, I a2.fN)] [sl 0 a1] ?_
 obtain ⟨v5, hv6, h⟩ := bindS h
 refine Zah τ_ok 25 hv6 (by kernel_rfl) ?_
 refine v 2 145 [(21, rf 0 0 3 a1), (27, .arr 3 ([v5] : List Za).length (eL ([v5] : List Za)) true)] [sl 0 a1] ?_
 obtain ⟨v7, hv8, h⟩ := bindS h
 refine opsP_app τ_ok 28 0 0 (nx hX) hv8 (by kernel_rfl) ?_
 refine ve 1 145 [(6, rf 0 1 3 v7)] [sl 1 v7] ?_
 have h := si h
 subst h
 exact Zg (rt (rf 0 1 3 v7) (OutP.list (v := 1) (by kernel_rfl)))
 refine srve 145 [(1, rf 0 0 3 a1), (5, pf a2 0), (7, I (a1.length : Int)), (11, I a2.fKind), (29, B (a2.fKind == 3))] [sl 0 a1] ?_
 refine pc h (fun h => ?_) (fun h => ?_)
 refine Zj ?_
 refine ip 145 [(1, rf 0 0 3 a1), (7, I (a1.length : Int))] [sl 0 a1] ?_
 refine pwp_any ([[0], [], [], [0], [0], [], [], [0], [0], [0], [], [], [0], [0], [], [], [0], [0]]) ([[], [], [], [], [], [], [], [], [], [], [], [], [], [], [], [], [0], []]) rfl (by kernel_rfl) ?_
 refine qv [0] (hL trivial) 1 145 [(31, rf 0 0 3 a1), (1, rf 0 0 3 a1), (7, I (a1.length : Int))] [sl 0 a1] ?_
 refine qv [] trivial 2 145 [(33, I (w64 ((a1.length : Int) - 2))), (31, rf 0 0 3 a1), (1, rf 0 0 3 a1), (7, I (a1.length : Int))] [sl 0 a1] ?_
 obtain ⟨v10, hv11, h⟩ := bindS h
 refine qX (some 34) (rf 0 0 3 v10) 145 [(34, rf 0 0 3 v10), (1, rf 0 0 3 a1), (7, I (a1.length : Int))] [sl 0 a1] (fun Γ' hΓ => CoreE.of_y (slrV_sound (n := a1.length) τ_ok (by kernel_rfl) rfl hv11)) (hL trivial) ?_
 refine qv [0] (hL trivial) 1 145 [(35, rf 0 0 3 a1), (34, rf 0 0 3 v10), (1, rf 0 0 3 a1), (7, I (a1.length : Int))] [sl 0 a1] ?_
 refine qv [] trivial 2 145 [(37, I (w64 ((a1.length : Int) - 2))), (35, rf 0 0 3 a1), (34, rf 0 0 3 v10), (1, rf 0 0 3 a1), (7, I (a1.length : Int))] [sl 0 a1] ?_
 obtain ⟨v12, hv13, h⟩ := bindS h
 refine qX (some 38) (.ptr 0 0 ((w64 ((a1.length : Int) - 2)).toNat * 3)) 145 [(38, .ptr 0 0 ((w64 ((a1.length : Int) - 2)).toNat * 3)), (34, rf 0 0 3 v10), (1, rf 0 0 3 a1), (7, I (a1.length : Int))] [sl 0 a1] (fun Γ' hΓ => CoreE.of_y (Zbh (n := a1.length) τ_ok (by kernel_rfl) hv13 rfl)) (hL trivial) ?_
 refine qX (some 39) (E v12) 145 [(39, E v12), (34, rf 0 0 3 v10), (1, rf 0 0 3 a1), (7, I (a1.length : Int))] [sl 0 a1] (fun Γ' hΓ => CoreE.of_y (ldeV_sound (t := 90) (o' := 0) (r := E v12) τ_ok hv13 (by kernel_rfl) (by kernel_rfl))) (hL trivial) ?_
 refine qv [0] (hL trivial) 1 145 [(40, rf 0 0 3 a1), (39, E v12), (34, rf 0 0 3 v10), (7, I (a1.length : Int))] [sl 0 a1] ?_
 refine qv [] trivial 2 145 [(42, I (w64 ((a1.length : Int) - 1))), (40, rf 0 0 3 a1), (39, E v12), (34, rf 0 0 3 v10)] [sl 0 a1] ?_
 obtain ⟨v14, hv15, h⟩ := bindS h
 refine qX (some 43) (.ptr 0 0 ((w64 ((a1.length : Int) - 1)).toNat * 3)) 145 [(43, .ptr 0 0 ((w64 ((a1.length : Int) - 1)).toNat * 3)), (39, E v12), (34, rf 0 0 3 v10)] [sl 0 a1] (fun Γ' hΓ => CoreE.of_y (Zbh (n := a1.length) τ_ok (by kernel_rfl) hv15 rfl)) (hL trivial) ?_
 refine qX (some 44) (E v14) 145 [(44, E v14), (39, E v12), (34, rf 0 0 3 v10)] [sl 0 a1] (fun Γ' hΓ => CoreE.of_y (ldeV_sound (t := 90) (o' := 0) (r := E v14) τ_ok hv15 (by kernel_rfl) (by kernel_rfl))) (hL trivial) ?_
 obtain ⟨v16, hv17, h⟩ := bindS h
 refine qX (some 45) (E v16) 145 [(45, E v16), (34, rf 0 0 3 v10)] [sl 0 a1] (fun Γ' hΓ => CoreE.of_g (Zr (τ := τ) (by kernel_rfl) rfl (ok_spec_l4Sum hv17) (FzTo.frz rfl))) trivial ?_
 refine qv [] trivial 1 145 [(46, .arr 3 ([v16] : List Za).length (eL ([v16] : List Za)) true), (34, rf 0 0 3 v10)] [sl 0 a1] ?_
 obtain ⟨v18, hv19, h⟩ := bindS h
 refine qX (some 47) (rf 0 1 3 v18) 145 [(47, rf 0 1 3 v18)] [sl 1 v18] (fun Γ' hΓ => app_E τ_ok 47 0 0 v10.length (ny hΓ hX) hv19 (slI_le hv11) (by kernel_rfl)) (hL trivial) ?_
 refine qvn [0] (hL trivial) 1 145 [(6, rf 0 1 3 v18)] [sl 1 v18] ?_
 have h := si h
 subst h
 exact Zg (rt (rf 0 1 3 v18) (OutP.list (v := 1) (by kernel_rfl)))
 refine srve 145 [(1, rf 0 0 3 a1), (5, pf a2 0), (7, I (a1.length : Int)), (11, I a2.fKind), (48, B (a2.fKind == 4))] [sl 0 a1] ?_
 refine pc h (fun h => ?_) (fun h => ?_)
 refine Zj ?_
 refine ip 145 [(1, rf 0 0 3 a1), (5, pf a2 0), (7, I (a1.length : Int))] [sl 0 a1] ?_
 refine pwp_any ([[0], [], [], [0], [], [], [0], [], [], [0], [0], [0], [], [], [0], [0], [], [], [], [0], [0]]) ([[], [], [], [], [], [], [], [], [], [], [], [], [], [], [], [], [], [], [], [0], []]) rfl (by kernel_rfl) ?_
 refine qv [0] (hL trivial) 1 145 [(50, rf 0 0 3 a1), (1, rf 0 0 3 a1), (5, pf a2 0), (7, I (a1.length : Int))] [sl 0 a1] ?_
 refine qv [] trivial 2 145 [(52, I (w64 ((a1.length : Int) - 2))), (50, rf 0 0 3 a1), (1, rf 0 0 3 a1), (5, pf a2 0), (7, I (a1.length : Int))] [sl 0 a1] ?_
 obtain ⟨v21, hv22, h⟩ := bindS h
 refine qX (some 53) (rf 0 0 3 v21) 145 [(53, rf 0 0 3 v21), (1, rf 0 0 3 a1), (5, pf a2 0), (7, I (a1.length : Int))] [sl 0 a1] (fun Γ' hΓ => CoreE.of_y (slrV_sound (n := a1.length) τ_ok (by kernel_rfl) rfl hv22)) (hL trivial) ?_
 refine qv [] trivial 2 145 [(55, I a2.fN), (53, rf 0 0 3 v21), (1, rf 0 0 3 a1), (7, I (a1.length : Int))] [sl 0 a1] ?_
 refine qv [0] (hL trivial) 1 145 [(56, rf 0 0 3 a1), (55, I a2.fN), (53, rf 0 0 3 v21), (1, rf 0 0 3 a1), (7, I (a1.length : Int))] [sl 0 a1] ?_
 refine qv [] trivial 2 145 [(58, I (w64 ((a1.length : Int) - 2))), (56, rf 0 0 3 a1), (55, I a2.fN), (53, rf 0 0 3 v21), (1, rf 0 0 3 a1), (7, I (a1.length : Int))] [sl 0 a1] ?_
 obtain ⟨v23, hv24, h⟩ := bindS h
 refine qX (some 59) (.ptr 0 0 ((w64 ((a1.length : Int) - 2)).toNat * 3)) 145 [(59, .ptr 0 0 ((w64 ((a1.length : Int) - 2)).toNat * 3)), (55, I a2.fN), (53, rf 0 0 3 v21), (1, rf 0 0 3 a1), (7, I (a1.length : Int))] [sl 0 a1] (fun Γ' hΓ => CoreE.of_y (Zbh (n := a1.length) τ_ok (by kernel_rfl) hv24 rfl)) (hL trivial) ?_
 refine qX (some 60) (E v23) 145 [(60, E v23), (55, I a2.fN), (53, rf 0 0 3 v21), (1, rf 0 0 3 a1), (7, I (a1.length : Int))] [sl 0 a1] (fun Γ' hΓ => CoreE.of_y (ldeV_sound (t := 90) (o' := 0) (r := E v23) τ_ok hv24 (by kernel_rfl) (by kernel_rfl))) (hL trivial) ?_
 refine qv [0] (hL trivial) 1 145 [(61, rf 0 0 3 a1), (60, E v23), (55, I a2.fN), (53, rf 0 0 3 v21), (7, I (a1.length : Int))] [sl 0 a1] ?_
 refine qv [] trivial 2 145 [(63, I (w64 ((a1.length : Int) - 1))), (61, rf 0 0 3 a1), (60, E v23), (55, I a2.fN), (53, rf 0 0 3 v21)] [sl 0 a1] ?_
 obtain ⟨v25, hv26, h⟩ := bindS h
 refine qX (some 64) (.ptr 0 0 ((w64 ((a1.length : Int) - 1)).toNat * 3)) 145 [(64, .ptr 0 0 ((w64 ((a1.length : Int) - 1)).toNat * 3)), (60, E v23), (55, I a2.fN), (53, rf 0 0 3 v21)] [sl 0 a1] (fun Γ' hΓ => CoreE.of_y (Zbh (n := a1.length) τ_ok (by kernel_rfl) hv26 rfl)) (hL trivial) ?_
 refine qX (some 65) (E v25) 145 [(65, E v25), (60, E v23), (55, I a2.fN), (53, rf 0 0 3 v21)] [sl 0 a1] (fun Γ' hΓ => CoreE.of_y (ldeV_sound (t := 90) (o' := 0) (r := E v25) τ_ok hv26 (by kernel_rfl) (by kernel_rfl))) (hL trivial) ?_
 obtain ⟨v27, hv28, h⟩ := bindS h
 refine qX (some 66) (I v27) 145 [(66, I v27), (53, rf 0 0 3 v21)] [sl 0 a1] (fun Γ' hΓ => CoreE.of_g (Zr (τ := τ) (by kernel_rfl) rfl (ok_spec_Compare hv28) (FzTo.frz rfl))) trivial ?_
 obtain ⟨v29, hv30, h⟩ := bindS h
 refine qX (some 67) (E v29) 145 [(67, E v29), (53, rf 0 0 3 v21)] [sl 0 a1] (fun Γ' hΓ => CoreE.of_g (Zr (τ := τ) (by kernel_rfl) rfl (ok_spec_ValueOf hv30) (FzTo.frz rfl))) trivial ?_
 refine qv [] trivial 1 145 [(68, .arr 3 ([v29] : List Za).length (eL ([v29] : List Za)) true), (53, rf 0 0 3 v21)] [sl 0 a1] ?_
 obtain ⟨v31, hv32, h⟩ := bindS h
 refine qX (some 69) (rf 0 1 3 v31) 145 [(69, rf 0 1 3 v31)] [sl 1 v31] (fun Γ' hΓ => app_E τ_ok 69 0 0 v21.length (ny hΓ hX) hv32 (slI_le hv22) (by kernel_rfl)) (hL trivial) ?_
 refine qvn [0] (hL trivial) 1 145 [(6, rf 0 1 3 v31)] [sl 1 v31] ?_
 have h := si h
 subst h
 exact Zg (rt (rf 0 1 3 v31) (OutP.list (v := 1) (by kernel_rfl)))
 refine srve 145 [(1, rf 0 0 3 a1), (7, I (a1.length : Int)), (11, I a2.fKind), (70, B (a2.fKind == 5))] [sl 0 a1] ?_
 refine pc h (fun h => ?_) (fun h => ?_)
 refine Zj ?_
 refine ip 145 [(1, rf 0 0 3 a1), (7, I (a1.length : Int))] [sl 0 a1] ?_
 refine pwp_any ([[0], [], [], [0], [0], [], [], [0], [0], [], [0], [], [], [0], [0], [], [], [], [], [0], [0]]) ([[], [], [], [], [], [], [], [], [], [], [], [], [], [], [], [], [], [], [], [0], []]) rfl (by kernel_rfl) ?_
 refine qv [0] (hL trivial) 1 145 [(72, rf 0 0 3 a1), (1, rf 0 0 3 a1), (7, I (a1.length : Int))] [sl 0 a1] ?_
 refine qv [] trivial 2 145 [(74, I (w64 ((a1.length : Int) - 2))), (72, rf 0 0 3 a1), (1, rf 0 0 3 a1), (7, I (a1.length : Int))] [sl 0 a1] ?_
 obtain ⟨v34, hv35, h⟩ := bindS h
 refine qX (some 75) (rf 0 0 3 v34) 145 [(75, rf 0 0 3 v34), (1, rf 0 0 3 a1), (7, I (a1.length : Int))] [sl 0 a1] (fun Γ' hΓ => CoreE.of_y (slrV_sound (n := a1.length) τ_ok (by kernel_rfl) rfl hv35)) (hL trivial) ?_
 refine qv [0] (hL trivial) 1 145 [(76, rf 0 0 3 a1), (75, rf 0 0 3 v34), (1, rf 0 0 3 a1), (7, I (a1.length : Int))] [sl 0 a1] ?_
 refine qv [] trivial 2 145 [(78, I (w64 ((a1.length : Int) - 2))), (76, rf 0 0 3 a1), (75, rf 0 0 3 v34), (1, rf 0 0 3 a1), (7, I (a1.length : Int))] [sl 0 a1] ?_
 obtain ⟨v36, hv37, h⟩ := bindS h
 refine qX (some 79) (.ptr 0 0 ((w64 ((a1.length : Int) - 2)).toNat * 3)) 145 [(79, .ptr 0 0 ((w64 ((a1.length : Int) - 2)).toNat * 3)), (75, rf 0 0 3 v34), (1, rf 0 0 3 a1), (7, I (a1.length : Int))] [sl 0 a1] (fun Γ' hΓ => CoreE.of_y (Zbh (n := a1.length) τ_ok (by kernel_rfl) hv37 rfl)) (hL trivial) ?_
 refine qX (some 80) (E v36) 145 [(80, E v36), (75, rf 0 0 3 v34), (1, rf 0 0 3 a1), (7, I (a1.length : Int))] [sl 0 a1] (fun Γ' hΓ => CoreE.of_y (ldeV_sound (t := 90) (o' := 0) (r := E v36) τ_ok hv37 (by kernel_rfl) (by kernel_rfl))) (hL trivial) ?_
 obtain ⟨v38, hv39, h⟩ := bindS h
 refine qX (some 81) (I v38) 145 [(81, I v38), (75, rf 0 0 3 v34), (1, rf 0 0 3 a1), (7, I (a1.length : Int))] [sl 0 a1] (fun Γ' hΓ => CoreE.of_g (Zr (τ := τ) (by kernel_rfl) rfl (ok_spec_TruthOf hv39) (FzTo.frz rfl))) trivial ?_
 refine qv [0] (hL trivial) 1 145 [(82, rf 0 0 3 a1), (81, I v38), (75, rf 0 0 3 v34), (7, I (a1.length : Int))] [sl 0 a1] ?_
 refine qv [] trivial 2 145 [(84, I (w64 ((a1.length : Int) - 1))), (82, rf 0 0 3 a1), (81, I v38), (75, rf 0 0 3 v34)] [sl 0 a1] ?_
 obtain ⟨v40, hv41, h⟩ := bindS h
 refine qX (some 85) (.ptr 0 0 ((w64 ((a1.length : Int) - 1)).toNat * 3)) 145 [(85, .ptr 0 0 ((w64 ((a1.length : Int) - 1)).toNat * 3)), (81, I v38), (75, rf 0 0 3 v34)] [sl 0 a1] (fun Γ' hΓ => CoreE.of_y (Zbh (n := a1.length) τ_ok (by kernel_rfl) hv41 rfl)) (hL trivial) ?_
 refine qX (some 86) (E v40) 145 [(86, E v40), (81, I v38), (75, rf 0 0 3 v34)] [sl 0 a1] (fun Γ' hΓ => CoreE.of_y (ldeV_sound (t := 90) (o' := 0) (r := E v40) τ_ok hv41 (by kernel_rfl) (by kernel_rfl))) (hL trivial) ?_
 obtain ⟨v42, hv43, h⟩ := bindS h
 refine qX (some 87) (I v42) 145 [(87, I v42), (81, I v38), (75, rf 0 0 3 v34)] [sl 0 a1] (fun Γ' hΓ => CoreE.of_g (Zr (τ := τ) (by kernel_rfl) rfl (ok_spec_TruthOf hv43) (FzTo.frz rfl))) trivial ?_
 obtain ⟨v44, hv45, h⟩ := bindS h
 refine qX (some 88) (I v44) 145 [(88, I v44), (75, rf 0 0 3 v34)] [sl 0 a1] (fun Γ' hΓ => CoreE.of_g (Zr (τ := τ) (by kernel_rfl) rfl (ok_spec_AndOf hv45) (FzTo.frz rfl))) trivial ?_
 obtain ⟨v46, hv47, h⟩ := bindS h
 refine qX (some 89) (E v46) 145 [(89, E v46), (75, rf 0 0 3 v34)] [sl 0 a1] (fun Γ' hΓ => CoreE.of_g (Zr (τ := τ) (by kernel_rfl) rfl (ok_spec_ValueOf hv47) (FzTo.frz rfl))) trivial ?_
 refine qv [] trivial 1 145 [(90, .arr 3 ([v46] : List Za).length (eL ([v46] : List Za)) true), (75, rf 0 0 3 v34)] [sl 0 a1] ?_
 obtain ⟨v48, hv49, h⟩ := bindS h
 refine qX (some 91) (rf 0 1 3 v48) 145 [(91, rf 0 1 3 v48)] [sl 1 v48] (fun Γ' hΓ => app_E τ_ok 91 0 0 v34.length (ny hΓ hX) hv49 (slI_le hv35) (by kernel_rfl)) (hL trivial) ?_
 refine qvn [0] (hL trivial) 1 145 [(6, rf 0 1 3 v48)] [sl 1 v48] ?_
 have h := si h
 subst h
 exact Zg (rt (rf 0 1 3 v48) (OutP.list (v := 1) (by kernel_rfl)))
 refine srve 145 [(1, rf 0 0 3 a1), (7, I (a1.length : Int)), (11, I a2.fKind), (92, B (a2.fKind == 6))] [sl 0 a1] ?_
 refine pc h (fun h => ?_) (fun h => ?_)
 refine Zj ?_
 refine ip 145 [(1, rf 0 0 3 a1), (7, I (a1.length : Int))] [sl 0 a1] ?_
 refine pwp_any ([[0], [], [], [0], [0], [], [], [0], [0], [], [0], [], [], [0], [0], [], [], [], [], [0], [0]]) ([[], [], [], [], [], [], [], [], [], [], [], [], [], [], [], [], [], [], [], [0], []]) rfl (by kernel_rfl) ?_
 refine qv [0] (hL trivial) 1 145 [(94, rf 0 0 3 a1), (1, rf 0 0 3 a1), (7, I (a1.length : Int))] [sl 0 a1] ?_
 refine qv [] trivial 2 145 [(96, I (w64 ((a1.length : Int) - 2))), (94, rf 0 0 3 a1), (1, rf 0 0 3 a1), (7, I (a1.length : Int))] [sl 0 a1] ?_
 obtain ⟨v51, hv52, h⟩ := bindS h
 refine qX (some 97) (rf 0 0 3 v51) 145 [(97, rf 0 0 3 v51), (1, rf 0 0 3 a1), (7, I (a1.length : Int))] [sl 0 a1] (fun Γ' hΓ => CoreE.of_y (slrV_sound (n := a1.length) τ_ok (by kernel_rfl) rfl hv52)) (hL trivial) ?_
 refine qv [0] (hL trivial) 1 145 [(98, rf 0 0 3 a1), (97, rf 0 0 3 v51), (1, rf 0 0 3 a1), (7, I (a1.length : Int))] [sl 0 a1] ?_
 refine qv [] trivial 2 145 [(100, I (w64 ((a1.length : Int) - 2))), (98, rf 0 0 3 a1), (97, rf 0 0 3 v51), (1, rf 0 0 3 a1), (7, I (a1.length : Int))] [sl 0 a1] ?_
 obtain ⟨v53, hv54, h⟩ := bindS h
 refine qX (some 101) (.ptr 0 0 ((w64 ((a1.length : Int) - 2)).toNat * 3)) 145 [(101, .ptr 0 0 ((w64 ((a1.length : Int) - 2)).toNat * 3)), (97, rf 0 0 3 v51), (1, rf 0 0 3 a1), (7, I (a1.length : Int))] [sl 0 a1] (fun Γ' hΓ => CoreE.of_y (Zbh (n := a1.length) τ_ok (by kernel_rfl) hv54 rfl)) (hL trivial) ?_
 refine qX (some 102) (E v53) 145 [(102, E v53), (97, rf 0 0 3 v51), (1, rf 0 0 3 a1), (7, I (a1.length : Int))] [sl 0 a1] (fun Γ' hΓ => CoreE.of_y (ldeV_sound (t := 90) (o' := 0) (r := E v53) τ_ok hv54 (by kernel_rfl) (by kernel_rfl))) (hL trivial) ?_
 obtain ⟨v55, hv56, h⟩ := bindS h
 refine qX (some 103) (I v55) 145 [(103, I v55), (97, rf 0 0 3 v51), (1, rf 0 0 3 a1), (7, I (a1.length : Int))] [sl 0 a1] (fun Γ' hΓ => CoreE.of_g (Zr (τ := τ) (by kernel_rfl) rfl (ok_spec_TruthOf hv56) (FzTo.frz rfl))) trivial ?_
 refine qv [0] (hL trivial) 1 145 [(104, rf 0 0 3 a1), (103, I v55), (97, rf 0 0 3 v51), (7, I (a1.length : Int))] [sl 0 a1] ?_
 refine qv [] trivial 2 145 [(106, I (w64 ((a1.length : Int) - 1))), (104, rf 0 0 3 a1), (103, I v55), (97, rf 0 0 3 v51)] [sl 0 a1] ?_
 obtain ⟨v57, hv58, h⟩ := bindS h
 refine qX (some 107) (.ptr 0 0 ((w64 ((a1.length : Int) - 1)).toNat * 3)) 145 [(107, .ptr 0 0 ((w64 ((a1.length : Int) - 1)).toNat * 3)), (103, I v55), (97, rf 0 0 3 v51)] [sl 0 a1] (fun Γ' hΓ => CoreE.of_y (Zbh (n := a1.length) τ_ok (by kernel_rfl) hv58 rfl)) (hL trivial) ?_
 refine qX (some 108) (E v57) 145 [(108, E v57), (103, I v55), (97, rf 0 0 3 v51)] [sl 0 a1] (fun Γ' hΓ => CoreE.of_y (ldeV_sound (t := 90) (o' := 0) (r := E v57) τ_ok hv58 (by kernel_rfl) (by kernel_rfl))) (hL trivial) ?_
 obtain ⟨v59, hv60, h⟩ := bindS h
 refine qX (some 109) (I v59) 145 [(109, I v59), (103, I v55), (97, rf 0 0 3 v51)] [sl 0 a1] (fun Γ' hΓ => CoreE.of_g (Zr (τ := τ) (by kernel_rfl) rfl (ok_spec_TruthOf hv60) (FzTo.frz rfl))) trivial ?_
 obtain ⟨v61, hv62, h⟩ := bindS h
 refine qX (some 110) (I v61) 145 [(110, I v61), (97, rf 0 0 3 v51)] [sl 0 a1] (fun Γ' hΓ => CoreE.of_g (Zr (τ := τ) (by kernel_rfl) rfl (ok_spec_OrOf hv62) (FzTo.frz rfl))) trivial ?_
 obtain ⟨v63, hv64, h⟩ := bindS h
 refine qX (some 111) (E v63) 145 [(111, E v63), (97, rf 0 0 3 v51)] [sl 0 a1] (fun Γ' hΓ => CoreE.of_g (Zr (τ := τ) (by kernel_rfl) rfl (ok_spec_ValueOf hv64) (FzTo.frz rfl))) trivial ?_
 refine qv [] trivial 1 145 [(112, .arr 3 ([v63] : List Za).length (eL ([v63] : List Za)) true), (97, rf 0 0 3 v51)] [sl 0 a1] ?_
 obtain ⟨v65, hv66, h⟩ := bindS h
 refine qX (some 113) (rf 0 1 3 v65) 145 [(113, rf 0 1 3 v65)] [sl 1 v65] (fun Γ' hΓ => app_E τ_ok 113 0 0 v51.length (ny hΓ hX) hv66 (slI_le hv52) (by kernel_rfl)) (hL trivial) ?_
 refine qvn [0] (hL trivial) 1 145 [(6, rf 0 1 3 v65)] [sl 1 v65] ?_
 have h := si h
 subst h
 exact Zg (rt (rf 0 1 3 v65) (OutP.list (v := 1) (by kernel_rfl)))
 refine srve 145 [(1, rf 0 0 3 a1), (7, I (a1.length : Int)), (114, B (a2.fKind == 7))] [sl 0 a1] ?_
 refine pc h (fun h => ?_) (fun h => ?_)
 refine Zj ?_
 refine ip 145 [(1, rf 0 0 3 a1), (7, I (a1.length : Int))] [sl 0 a1] ?_
 refine pwp_any ([[0], [], [], [0], [0], [], [], [0], [0], [], [], [], [], [0], [0]]) ([[], [], [], [], [], [], [], [], [], [], [], [], [], [0], []]) rfl (by kernel_rfl) ?_
 refine qv [0] (hL trivial) 1 145 [(116, rf 0 0 3 a1), (1, rf 0 0 3 a1), (7, I (a1.length : Int))] [sl 0 a1] ?_
 refine qv [] trivial 2 145 [(118, I (w64 ((a1.length : Int) - 1))), (116, rf 0 0 3 a1), (1, rf 0 0 3 a1), (7, I (a1.length : Int))] [sl 0 a1] ?_
 obtain ⟨v68, hv69, h⟩ := bindS h
 refine qX (some 119) (rf 0 0 3 v68) 145 [(119, rf 0 0 3 v68), (1, rf 0 0 3 a1), (7, I (a1.length : Int))] [sl 0 a1] (fun Γ' hΓ => CoreE.of_y (slrV_sound (n := a1.length) τ_ok (by kernel_rfl) rfl hv69)) (hL trivial) ?_
 refine qv [0] (hL trivial) 1 145 [(120, rf 0 0 3 a1), (119, rf 0 0 3 v68), (7, I (a1.length : Int))] [sl 0 a1] ?_
 refine qv [] trivial 2 145 [(122, I (w64 ((a1.length : Int) - 1))), (120, rf 0 0 3 a1), (119, rf 0 0 3 v68)] [sl 0 a1] ?_
 obtain ⟨v70, hv71, h⟩ := bindS h
 refine qX (some 123) (.ptr 0 0 ((w64 ((a1.length : Int) - 1)).toNat * 3)) 145 [(123, .ptr 0 0 ((w64 ((a1.length : Int) - 1)).toNat * 3)), (119, rf 0 0 3 v68)] [sl 0 a1] (fun Γ' hΓ => CoreE.of_y (Zbh (n := a1.length) τ_ok (by kernel_rfl) hv71 rfl)) (hL trivial) ?_
 refine qX (some 124) (E v70) 145 [(124, E v70), (119, rf 0 0 3 v68)] [sl 0 a1] (fun Γ' hΓ => CoreE.of_y (ldeV_sound (t := 90) (o' := 0) (r := E v70) τ_ok hv71 (by kernel_rfl) (by kernel_rfl))) (hL trivial) ?_
 obtain ⟨v72, hv73, h⟩ := bindS h
 refine qX (some 125) (I v72) 145 [(125, I v72), (119, rf 0 0 3 v68)] [sl 0 a1] (fun Γ' hΓ => CoreE.of_g (Zr (τ := τ) (by kernel_rfl) rfl (ok_spec_TruthOf hv73) (FzTo.frz rfl))) trivial ?_
 obtain ⟨v74, hv75, h⟩ := bindS h
 refine qX (some 126) (I v74) 145 [(126, I v74), (119, rf 0 0 3 v68)] [sl 0 a1] (fun Γ' hΓ => CoreE.of_g (Zr (τ := τ) (by kernel_rfl) rfl (ok_spec_NotOf hv75) (FzTo.frz rfl))) trivial ?_
 obtain ⟨v76, hv77, h⟩ := bindS h
 refine qX (some 127) (E v76) 145 [(127, E v76), (119, rf 0 0 3 v68)] [sl 0 a1] (fun Γ' hΓ => CoreE.of_g (Zr (τ := τ) (by kernel_rfl) rfl (ok_spec_ValueOf hv77) (FzTo.frz rfl))) trivial ?_
 refine qv [] trivial 1 145 [(128, .arr 3 ([v76] : List Za).length (eL ([v76] : List Za)) true), (119, rf 0 0 3 v68)] [sl 0 a1] ?_
 obtain ⟨v78, hv79, h⟩ := bindS h
 refine qX (some 129) (rf 0 1 3 v78) 145 [(129, rf 0 1 3 v78)] [sl 1 v78] (fun Γ' hΓ => app_E τ_ok 129 0 0 v68.length (ny hΓ hX) hv79 (slI_le hv69) (by kernel_rfl)) (hL trivial) ?_
 refine qvn [0] (hL trivial) 1 145 [(6, rf 0 1 3 v78)] [sl 1 v78] ?_
 have h := si h
 subst h
 exact Zg (rt (rf 0 1 3 v78) (OutP.list (v := 1) (by kernel_rfl)))
 refine Zl ?_
 refine Zj ?_
 refine ip 145 [(1, rf 0 0 3 a1), (7, I (a1.length : Int))] [sl 0 a1] ?_
 refine pwp_any ([[0], [], [], [0], [0], [], [], [0], [0], [0], [], [], [], [], [0], [0]]) ([[], [], [], [], [], [], [], [], [], [], [], [], [], [], [0], []]) rfl (by kernel_rfl) ?_
 refine qv [0] (hL trivial) 1 145 [(130, rf 0 0 3 a1), (1, rf 0 0 3 a1), (7, I (a1.length : Int))] [sl 0 a1] ?_
 refine qv [] trivial 2 145 [(132, I (w64 ((a1.length : Int) - 1))), (130, rf 0 0 3 a1), (1, rf 0 0 3 a1), (7, I (a1.length : Int))] [sl 0 a1] ?_
 obtain ⟨v80, hv81, h⟩ := bindS h
 refine qX (some 133) (rf 0 0 3 v80) 145 [(133, rf 0 0 3 v80), (1, rf 0 0 3 a1), (7, I (a1.length : Int))] [sl 0 a1] (fun Γ' hΓ => CoreE.of_y (slrV_sound (n := a1.length) τ_ok (by kernel_rfl) rfl hv81)) (hL trivial) ?_
 refine qv [0] (hL trivial) 1 145 [(134, rf 0 0 3 a1), (133, rf 0 0 3 v80), (7, I (a1.length : Int))] [sl 0 a1] ?_
 refine qv [] trivial 2 145 [(136, I (w64 ((a1.length : Int) - 1))), (134, rf 0 0 3 a1), (133, rf 0 0 3 v80)] [sl 0 a1] ?_
 obtain ⟨v82, hv83, h⟩ := bindS h
 refine qX (some 137) (.ptr 0 0 ((w64 ((a1.length : Int) - 1)).toNat * 3)) 145 [(137, .ptr 0 0 ((w64 ((a1.length : Int) - 1)).toNat * 3)), (133, rf 0 0 3 v80)] [sl 0 a1] (fun Γ' hΓ => CoreE.of_y (Zbh (n := a1.length) τ_ok (by kernel_rfl) hv83 rfl)) (hL trivial) ?_
 refine qv [0] (hL trivial) 1 145 [(138, .ptr 0 0 ((w64 ((a1.length : Int) - 1)).toNat * 3)), (133, rf 0 0 3 v80)] [sl 0 a1] ?_
 refine qX (some 139) (I v82.fKind) 145 [(139, I v82.fKind), (133, rf 0 0 3 v80)] [sl 0 a1] (fun Γ' hΓ => CoreE.of_y (ldeV_sound (t := 3) (o' := 0) (r := I v82.fKind) τ_ok hv83 (by kernel_rfl) (by kernel_rfl))) (hL trivial) ?_
 refine qv [] trivial 1 145 [(140, B (v82.fKind == 0)), (133, rf 0 0 3 v80)] [sl 0 a1] ?_
 obtain ⟨v84, hv85, h⟩ := bindS h
 refine qX (some 141) (I v84) 145 [(141, I v84), (133, rf 0 0 3 v80)] [sl 0 a1] (fun Γ' hΓ => CoreE.of_g (Zr (τ := τ) (by kernel_rfl) rfl (ok_spec_l2Bool hv85) (FzTo.frz rfl))) trivial ?_
 obtain ⟨v86, hv87, h⟩ := bindS h
 refine qX (some 142) (E v86) 145 [(142, E v86), (133, rf 0 0 3 v80)] [sl 0 a1] (fun Γ' hΓ => CoreE.of_g (Zr (τ := τ) (by kernel_rfl) rfl (ok_spec_ValueOf hv87) (FzTo.frz rfl))) trivial ?_
 refine qv [] trivial 1 145 [(143, .arr 3 ([v86] : List Za).length (eL ([v86] : List Za)) true), (133, rf 0 0 3 v80)] [sl 0 a1] ?_
 obtain ⟨v88, hv89, h⟩ := bindS h
 refine qX (some 144) (rf 0 1 3 v88) 145 [(144, rf 0 1 3 v88)] [sl 1 v88] (fun Γ' hΓ => app_E τ_ok 144 0 0 v80.length (ny hΓ hX) hv89 (slI_le hv81) (by kernel_rfl)) (hL trivial) ?_
 refine qvn [0] (hL trivial) 1 145 [(6, rf 0 1 3 v88)] [sl 1 v88] ?_
 have h := si h
 subst h
 exact Zg (rt (rf 0 1 3 v88) (OutP.list (v := 1) (by kernel_rfl)))
def impl_Compare_j1 (a0 : Int) (a1 : Za) (a2 : Za) (x3 : Bool) : Option Int := bif x3 then some 2 else bif (!(a1.fKind == a2.fKind)) then some (-1) else (impl_Value_order a1 a2).bind fun v6 => bif (a0 == 1) then bif (v6 == 0) then (Zad true).bind fun v8 => some v8 else bif (a0 == 2) then bif (!(v6 == 0)) then (Zad true).bind fun v10 => some v10 else bif (a0 == 3) then bif (decide (v6 < 0)) then (Zad true).bind fun v12 => some v12 else bif (a0 == 4) then (Zad (decide (v6 ≤ 0))).bind fun v14 => some v14 else (Zad false).bind fun v16 => some v16 else bif (a0 == 4) then (Zad (decide (v6 ≤ 0))).bind fun v20 => some v20 else (Zad false).bind fun v22 => some v22 else bif (a0 == 3) then bif (decide (v6 < 0)) then (Zad true).bind fun v27 => some v27 else bif (a0 == 4) then (Zad (decide (v6 ≤ 0))).bind fun v29 => some v29 else (Zad false).bind fun v31 => some v31 else bif (a0 == 4) then (Zad (decide (v6 ≤ 0))).bind fun v35 => some v35 else (Zad false).bind fun v37 => some v37 else bif (a0 == 2) then bif (!(v6 == 0)) then (Zad true).bind fun v43 => some v43 else bif (a0 == 3) then bif (decide (v6 < 0)) then (Zad true).bind fun v45 => some v45 else bif (a0 == 4) then (Zad (decide (v6 ≤ 0))).bind fun v47 => some v47 else (Zad false).bind fun v49 => some v49 else bif (a0 == 4) then (Zad (decide (v6 ≤ 0))).bind fun v53 => some v53 else (Zad false).bind fun v55 => some v55 else bif (a0 == 3) then bif (decide (v6 < 0)) then (Zad true).bind fun v60 => some v60 else bif (a0 == 4) then (Zad (decide (v6 ≤ 0))).bind fun v62 => some v62 else (Zad false).bind fun v64 => some v64 else bif (a0 == 4) then (Zad (decide (v6 ≤ 0))).bind fun v68 => some v68 else (Zad false).bind fun v70 => some v70
def impl_Compare_j0 (a0 : Int) (a1 : Za) (a2 : Za) (x1 : Bool) : Option Int := bif x1 then some (-1) else bif (a1.fKind == 0) then impl_Compare_j1 a0 a1 a2 true else impl_Compare_j1 a0 a1 a2 (a2.fKind == 0)
def impl_Compare (a0 : Int) (a1 : Za) (a2 : Za) : Option Int := (Za6 a0 1 4).bind fun v77 => bif (!v77) then impl_Compare_j0 a0 a1 a2 true else (Zbf a1).bind fun v79 => bif (!v79) then impl_Compare_j0 a0 a1 a2 true else (Zbf a2).bind fun v81 => impl_Compare_j0 a0 a1 a2 (!v81)
theorem ok_impl_Compare {a0 : Int} {a1 : Za} {a2 : Za} {y : Int} (h : impl_Compare a0 a1 a2 = some y) : OK Tryz.prog 180 [I a0, E a1, E a2] (I y) := by
 refine ow Tryz.func180 fun Γ hX => ?_
 unfold impl_Compare at h
 refine srve 71 [(0, I a0), (4, pf a1 0), (5, pf a2 0)] [] ?_
 refine Zj ?_
 refine Zm ?_
 refine Zj ?_
 refine Z5 (σ := Bool) (fun x1 => (⟨71, [(0, I a0), (4, pf a1 0), (5, pf a2 0), (8, B x1)], []⟩ : St)) (fun x1 => impl_Compare_j0 a0 a1 a2 x1 = some y) ?_ ?_
 refine rv 1 71 [(0, I a0), (4, pf a1 0), (5, pf a2 0), (9, I a0)] [] ?_
 obtain ⟨v77, hv78, h⟩ := bindS h
 refine cF 10 (Za5 hv78) ?_
 refine v 2 71 [(0, I a0), (4, pf a1 0), (5, pf a2 0), (12, B (!v77))] [] ?_
 rcases fk (!v77) with hc84 | hc84
 replace h := bT hc84 h
 rw [hc84]
 refine ve 10 71 [(0, I a0), (4, pf a1 0), (5, pf a2 0), (8, B true)] [] ?_
 exact ⟨true, h, it [0, 4, 5, 8]⟩
 replace h := bF hc84 h
 rw [hc84]
 refine v 1 71 [(0, I a0), (4, pf a1 0), (5, pf a2 0), (12, B false), (13, E a1)] [] ?_
 obtain ⟨v79, hv80, h⟩ := bindS h
 refine cF 14 (ok_impl_Value_ok hv80) ?_
 refine v 3 71 [(0, I a0), (4, pf a1 0), (5, pf a2 0), (17, B (!v79))] [] ?_
 rcases fk (!v79) with hc83 | hc83
 replace h := bT hc83 h
 rw [hc83]
 refine ve 5 71 [(0, I a0), (4, pf a1 0), (5, pf a2 0), (8, B true)] [] ?_
 exact ⟨true, h, it [0, 4, 5, 8]⟩
 replace h := bF hc83 h
 rw [hc83]
 refine v 1 71 [(0, I a0), (4, pf a1 0), (5, pf a2 0), (17, B false), (18, E a2)] [] ?_
 obtain ⟨v81, hv82, h⟩ := bindS h
 refine cF 19 (ok_impl_Value_ok hv82) ?_
 refine ve 3 71 [(0, I a0), (4, pf a1 0), (5, pf a2 0), (8, B (!v81))] [] ?_
 exact ⟨(!v81), h, it [0, 4, 5, 8]⟩
 rintro x1 h
 unfold impl_Compare_j0 at h
 refine pc h (fun h => ?_) (fun h => ?_)
 refine srve 71 [(6, I (-1))] [] ?_
 cases h
 exact Zg rz
 refine Zj ?_
 refine Z5 (σ := Bool) (fun x3 => (⟨71, [(0, I a0), (4, pf a1 0), (5, pf a2 0), (22, B x3)], []⟩ : St)) (fun x3 => impl_Compare_j1 a0 a1 a2 x3 = some y) ?_ ?_
 refine rv 4 71 [(0, I a0), (4, pf a1 0), (5, pf a2 0), (26, B (a1.fKind == 0))] [] ?_
 rcases fk (a1.fKind == 0) with hc76 | hc76
 replace h := bT hc76 h
 rw [hc76]
 refine ve 5 71 [(0, I a0), (4, pf a1 0), (5, pf a2 0), (22, B true)] [] ?_
 exact ⟨true, h, it [0, 4, 5, 22]⟩
 replace h := bF hc76 h
 rw [hc76]
 refine ve 5 71 [(0, I a0), (4, pf a1 0), (5, pf a2 0), (22, B (a2.fKind == 0))] [] ?_
 exact ⟨(a2.fKind == 0), h, it [0, 4, 5, 22]⟩
 rintro x3 h
 unfold impl_Compare_j1 at h
 refine pc h (fun h => ?_) (fun h => ?_)
 refine srve 71 [(6, I 2)] [] ?_
 cases h
 exact Zg rz
 refine srve 71 [(0, I a0), (4, pf a1 0), (5, pf a2 0), (31, B (!(a1.fKind == a2.fKind)))] [] ?_
 refine pc h (fun h => ?_) (fun h => ?_)
 refine srve 71 [(6, I (-1))] [] ?_
 cases h
 exact Zg rz
 refine Zl ?_
 refine srv 2 71 [(0, I a0), (37, E a1), (38, E a2)] [] ?_
 obtain ⟨v6, hv7, h⟩ := bindS h
 refine cF 39 (ok_impl_Value_order hv7) ?_
 refine ve 1 71 [(0, I a0), (7, I v6)] [] ?_
 refine srv 3 71 [(0, I a0), (7, I v6), (42, B (a0 == 1))] [] ?_
 rcases fk (a0 == 1) with hc75 | hc75
 replace h := bT hc75 h
 rw [hc75]
 refine v 4 71 [(0, I a0), (7, I v6), (46, B (v6 == 0))] [] ?_
 rcases fk (v6 == 0) with hc42 | hc42
 replace h := bT hc42 h
 rw [hc42]
 refine v 23 71 [(69, B true)] [] ?_
 obtain ⟨v8, hv9, h⟩ := bindS h
 refine cF 70 (Z7 hv9) ?_
 refine ve 1 71 [(6, I v8)] [] ?_
 cases h
 exact Zg rz
 replace h := bF hc42 h
 rw [hc42]
 refine v 3 71 [(0, I a0), (7, I v6), (46, B false), (49, B (a0 == 2))] [] ?_
 rcases fk (a0 == 2) with hc41 | hc41
 replace h := bT hc41 h
 rw [hc41]
 refine v 5 71 [(0, I a0), (7, I v6), (54, B (!(v6 == 0)))] [] ?_
 rcases fk (!(v6 == 0)) with hc26 | hc26
 replace h := bT hc26 h
 rw [hc26]
 refine v 15 71 [(69, B true)] [] ?_
 obtain ⟨v10, hv11, h⟩ := bindS h
 refine cF 70 (Z7 hv11) ?_
 refine ve 1 71 [(6, I v10)] [] ?_
 cases h
 exact Zg rz
 replace h := bF hc26 h
 rw [hc26]
 refine v 3 71 [(0, I a0), (7, I v6), (54, B false), (57, B (a0 == 3))] [] ?_
 rcases fk (a0 == 3) with hc25 | hc25
 replace h := bT hc25 h
 rw [hc25]
 refine v 5 71 [(0, I a0), (7, I v6), (62, B (decide (v6 < 0)))] [] ?_
 rcases fk (decide (v6 < 0)) with hc19 | hc19
 replace h := bT hc19 h
 rw [hc19]
 refine v 7 71 [(69, B true)] [] ?_
 obtain ⟨v12, hv13, h⟩ := bindS h
 refine cF 70 (Z7 hv13) ?_
 refine ve 1 71 [(6, I v12)] [] ?_
 cases h
 exact Zg rz
 replace h := bF hc19 h
 rw [hc19]
 refine v 3 71 [(7, I v6), (62, B false), (65, B (a0 == 4))] [] ?_
 rcases fk (a0 == 4) with hc18 | hc18
 replace h := bT hc18 h
 rw [hc18]
 refine v 4 71 [(69, B (decide (v6 ≤ 0)))] [] ?_
 obtain ⟨v14, hv15, h⟩ := bindS h
 refine cF 70 (Z7 hv15) ?_
 refine ve 1 71 [(6, I v14)] [] ?_
 cases h
 exact Zg rz
 replace h := bF hc18 h
 rw [hc18]
 refine v 4 71 [(69, B false)] [] ?_
 obtain ⟨v16, hv17, h⟩ := bindS h
 refine cF 70 (Z7 hv17) ?_
 refine ve 1 71 [(6, I v16)] [] ?_
 cases h
 exact Zg rz
 replace h := bF hc25 h
 rw [hc25]
 refine v 8 71 [(7, I v6), (62, B false), (65, B (a0 == 4))] [] ?_
 rcases fk (a0 == 4) with hc24 | hc24
 replace h := bT hc24 h
 rw [hc24]
 refine v 4 71 [(69, B (decide (v6 ≤ 0)))] [] ?_
 obtain ⟨v20, hv21, h⟩ := bindS h
 refine cF 70 (Z7 hv21) ?_
 refine ve 1 71 [(6, I v20)] [] ?_
 cases h
 exact Zg rz
 replace h := bF hc24 h
 rw [hc24]
 refine v 4 71 [(69, B false)] [] ?_
 obtain ⟨v22, hv23, h⟩ := bindS h
 refine cF 70 (Z7 hv23) ?_
 refine ve 1 71 [(6, I v22)] [] ?_
 cases h
 exact Zg rz
 replace h := bF hc41 h
 rw [hc41]
 refine v 8 71 [(0, I a0), (7, I v6), (54, B false), (57, B (a0 == 3))] [] ?_
 rcases fk (a0 == 3) with hc40 | hc40
 replace h := bT hc40 h
 rw [hc40]
 refine v 5 71 [(0, I a0), (7, I v6), (62, B (decide (v6 < 0)))] [] ?_
 rcases fk (decide (v6 < 0)) with hc34 | hc34
 replace h := bT hc34 h
 rw [hc34]
 refine v 7 71 [(69, B true)] [] ?_
 obtain ⟨v27, hv28, h⟩ := bindS h
 refine cF 70 (Z7 hv28) ?_
 refine ve 1 71 [(6, I v27)] [] ?_
 cases h
 exact Zg rz
 replace h := bF hc34 h
 rw [hc34]
 refine v 3 71 [(7, I v6), (62, B false), (65, B (a0 == 4))] [] ?_
 rcases fk (a0 == 4) with hc33 | hc33
 replace h := bT hc33 h
 rw [hc33]
 refine v 4 71 [(69, B (decide (v6 ≤ 0)))] [] ?_
 obtain ⟨v29, hv30, h⟩ := bindS h
 refine cF 70 (Z7 hv30) ?_
 refine ve 1 71 [(6, I v29)] [] ?_
 cases h
 exact Zg rz
 replace h := bF hc33 h
 rw [hc33]
 refine v 4 71 [(69, B false)] [] ?_
 obtain ⟨v31, hv32, h⟩ := bindS h
 refine cF 70 (Z7 hv32) ?_
 refine ve 1 71 [(6, I v31)] [] ?_
 cases h
 exact Zg rz
 replace h := bF hc40 h
 rw [hc40]
 refine v 8 71 [(7, I v6), (62, B false), (65, B (a0 == 4))] [] ?_
 rcases fk (a0 == 4) with hc39 | hc39
 replace h := bT hc39 h
 rw [hc39]
 refine v 4 71 [(69, B (decide (v6 ≤ 0)))] [] ?_
 obtain ⟨v35, hv36, h⟩ := bindS h
 refine cF 70 (Z7 hv36) ?_
 refine ve 1 71 [(6, I v35)] [] ?_
 cases h
 exact Zg rz
 replace h := bF hc39 h
 rw [hc39]
 refine v 4 71 [(69, B false)] [] ?_
 obtain ⟨v37, hv38, h⟩ := bindS h
 refine cF 70 (Z7 hv38) ?_
 refine ve 1 71 [(6, I v37)] [] ?_
 cases h
 exact Zg rz
 replace h := bF hc75 h
 rw [hc75]
 refine v 7 71 [(0, I a0), (7, I v6), (46, B false), (49, B (a0 == 2))] [] ?_
 rcases fk (a0 == 2) with hc74 | hc74
 replace h := bT hc74 h
 rw [hc74]
 refine v 5 71 [(0, I a0), (7, I v6), (54, B (!(v6 == 0)))] [] ?_
 rcases fk (!(v6 == 0)) with hc59 | hc59
 replace h := bT hc59 h
 rw [hc59]
 refine v 15 71 [(69, B true)] [] ?_
 obtain ⟨v43, hv44, h⟩ := bindS h
 refine cF 70 (Z7 hv44) ?_
 refine ve 1 71 [(6, I v43)] [] ?_
 cases h
 exact Zg rz
 replace h := bF hc59 h
 rw [hc59]
 refine v 3 71 [(0, I a0), (7, I v6), (54, B false), (57, B (a0 == 3))] [] ?_
 rcases fk (a0 == 3) with hc58 | hc58
 replace h := bT hc58 h
 rw [hc58]
 refine v 5 71 [(0, I a0), (7, I v6), (62, B (decide (v6 < 0)))] [] ?_
 rcases fk (decide (v6 < 0)) with hc52 | hc52
 replace h := bT hc52 h
 rw [hc52]
 refine v 7 71 [(69, B true)] [] ?_
 obtain ⟨v45, hv46, h⟩ := bindS h
 refine cF 70 (Z7 hv46) ?_
 refine ve 1 71 [(6, I v45)] [] ?_
 cases h
 exact Zg rz
 replace h := bF hc52 h
 rw [hc52]
 refine v 3 71 [(7, I v6), (62, B false), (65, B (a0 == 4))] [] ?_
 rcases fk (a0 == 4) with hc51 | hc51
 replace h := bT hc51 h
 rw [hc51]
 refine v 4 71 [(69, B (decide (v6 ≤ 0)))] [] ?_
 obtain ⟨v47, hv48, h⟩ := bindS h
 refine cF 70 (Z7 hv48) ?_
 refine ve 1 71 [(6, I v47)] [] ?_
 cases h
 exact Zg rz
 replace h := bF hc51 h
 rw [hc51]
 refine v 4 71 [(69, B false)] [] ?_
 obtain ⟨v49, hv50, h⟩ := bindS h
 refine cF 70 (Z7 hv50) ?_
 refine ve 1 71 [(6, I v49)] [] ?_
 cases h
 exact Zg rz
 replace h := bF hc58 h
 rw [hc58]
 refine v 8 71 [(7, I v6), (62, B false), (65, B (a0 == 4))] [] ?_
 rcases fk (a0 == 4) with hc57 | hc57
 replace h := bT hc57 h
 rw [hc57]
 refine v 4 71 [(69, B (decide (v6 ≤ 0)))] [] ?_
 obtain ⟨v53, hv54, h⟩ := bindS h
 refine cF 70 (Z7 hv54) ?_
 refine ve 1 71 [(6, I v53)] [] ?_
 cases h
 exact Zg rz
 replace h := bF hc57 h
 rw [hc57]
 refine v 4 71 [(69, B false)] [] ?_
 obtain ⟨v55, hv56, h⟩ := bindS h
 refine cF 70 (Z7 hv56) ?_
 refine ve 1 71 [(6, I v55)] [] ?_
 cases h
 exact Zg rz
 replace h := bF hc74 h
 rw [hc74]
 refine v 8 71 [(0, I a0), (7, I v6), (54, B false), (57, B (a0 == 3))] [] ?_
 rcases fk (a0 == 3) with hc73 | hc73
 replace h := bT hc73 h
 rw [hc73]
 refine v 5 71 [(0, I a0), (7, I v6), (62, B (decide (v6 < 0)))] [] ?_
 rcases fk (decide (v6 < 0)) with hc67 | hc67
 replace h := bT hc67 h
 rw [hc67]
 refine v 7 71 [(69, B true)] [] ?_
 obtain ⟨v60, hv61, h⟩ := bindS h
 refine cF 70 (Z7 hv61) ?_
 refine ve 1 71 [(6, I v60)] [] ?_
 cases h
 exact Zg rz
 replace h := bF hc67 h
 rw [hc67]
 refine v 3 71 [(7, I v6), (62, B false), (65, B (a0 == 4))] [] ?_
 rcases fk (a0 == 4) with hc66 | hc66
 replace h := bT hc66 h
 rw [hc66]
 refine v 4 71 [(69, B (decide (v6 ≤ 0)))] [] ?_
 obtain ⟨v62, hv63, h⟩ := bindS h
 refine cF 70 (Z7 hv63) ?_
 refine ve 1 71 [(6, I v62)] [] ?_
 cases h
 exact Zg rz
 replace h := bF hc66 h
 rw [hc66]
 refine v 4 71 [(69, B false)] [] ?_
 obtain ⟨v64, hv65, h⟩ := bindS h
 refine cF 70 (Z7 hv65) ?_
 refine ve 1 71 [(6, I v64)] [] ?_
 cases h
 exact Zg rz
 replace h := bF hc73 h
 rw [hc73]
 refine v 8 71 [(7, I v6), (62, B false), (65, B (a0 == 4))] [] ?_
 rcases fk (a0 == 4) with hc72 | hc72
 replace h := bT hc72 h
 rw [hc72]
 refine v 4 71 [(69, B (decide (v6 ≤ 0)))] [] ?_
 obtain ⟨v68, hv69, h⟩ := bindS h
 refine cF 70 (Z7 hv69) ?_
 refine ve 1 71 [(6, I v68)] [] ?_
 cases h
 exact Zg rz
 replace h := bF hc72 h
 rw [hc72]
 refine v 4 71 [(69, B false)] [] ?_
 obtain ⟨v70, hv71, h⟩ := bindS h
 refine cF 70 (Z7 hv71) ?_
 refine ve 1 71 [(6, I v70)] [] ?_
 cases h
 exact Zg rz
def Z2 (a0 : List Zf) (x4 : Int) (x5 : List Int) (K7 : Int → (List Int) → Option Int) (v9 : Zc) (v11 : Int) (x13 : Bool) : Option Int := bif x13 then some (-1) else (slI x5 (some (w64 ((x5.length : Int) - v11))) none none).bind fun v15 => (Zac v9 a0 v15).bind fun v17 => bif (!v17.2) then some (-1) else (slI x5 none (some (w64 ((x5.length : Int) - v11))) none).bind fun v20 => (appT x5 ([v17.1] : List Int) v20.length).bind fun v22 => K7 (w64 (x4 + 1)) v22
def Za3 (a0 : List Zf) (a1 : List Zc) : Nat → Int → (List Int) → Option Int
 | 0, _, _ => none
 | f6 + 1, x4, x5 => bif (decide (x4 < (a1.length : Int))) then (getI a1 x4).bind fun v9 => (Zv v9).bind fun v11 => (Z8 v9 a0).bind fun v24 => bif (!v24) then Z2 a0 x4 x5 (Za3 a0 a1 f6) v9 v11 true else Z2 a0 x4 x5 (Za3 a0 a1 f6) v9 v11 (decide ((x5.length : Int) < v11)) else bif (!((x5.length : Int) == 1)) then some (-1) else (getI x5 (0 : Int)).bind fun v28 => some v28
def impl_ExprKind_j0 (a0 : List Zf) (a1 : List Zc) (x1 : Bool) : Option Int := bif x1 then some (-1) else Za3 a0 a1 FUEL 0 ([] : List Int)
def impl_ExprKind (a0 : List Zf) (a1 : List Zc) : Option Int := (impl_ColumnsOk a0).bind fun v30 => bif (!v30) then impl_ExprKind_j0 a0 a1 true else impl_ExprKind_j0 a0 a1 (decide ((a1.length : Int) > 12))
theorem ok_impl_ExprKind {a0 : List Zf} {a1 : List Zc} {y : Int} (h : impl_ExprKind a0 a1 = some y) : OK Tryz.prog 50 [A a0, A a1] (I y) := by
 refine ow Tryz.func50 fun Γ hX => ?_
 unfold impl_ExprKind at h
 refine srveM [7] 67 [(0, A a0), (1, A a1)] [] ?_
 refine Zj ?_
 refine Zj ?_
 refine Z5 (σ := Bool) (fun x1 => (⟨67, [(0, A a0), (1, A a1), (18, B x1)], []⟩ : St)) (fun x1 => impl_ExprKind_j0 a0 a1 x1 = some y) ?_ ?_
 refine rvM [7] 1 67 [(0, A a0), (1, A a1), (11, A a0)] [] ?_
 obtain ⟨v30, hv31, h⟩ := bindS h
 refine cF 12 (ok_impl_ColumnsOk hv31) ?_
 refine vM [7] 2 67 [(0, A a0), (1, A a1), (14, B (!v30))] [] ?_
 rcases fk (!v30) with hc32 | hc32
 replace h := bT hc32 h
 rw [hc32]
 refine veM [7] 4 67 [(0, A a0), (1, A a1), (18, B true)] [] ?_
 exact ⟨true, h, it [0, 1, 18]⟩
 replace h := bF hc32 h
 rw [hc32]
 refine veM [7] 4 67 [(0, A a0), (1, A a1), (18, B (decide ((a1.length : Int) > 12)))] [] ?_
 exact ⟨(decide ((a1.length : Int) > 12)), h, it [0, 1, 18]⟩
 rintro x1 h
 unfold impl_ExprKind_j0 at h
 refine pc h (fun h => ?_) (fun h => ?_)
 refine srveM [7] 67 [(4, I (-1))] [] ?_
 cases h
 exact Zg rz
 refine Zl ?_
 refine srveM [7] 67 [(0, A a0), (1, A a1), (5, .arr 1 0 (eL ([] : List Int)) true)] [] ?_
 refine Zj ?_
 refine srveM [7] 67 [(0, A a0), (5, .arr 1 0 (eL ([] : List Int)) true), (19, A a1), (20, I (a1.length : Int)), (21, I 0)] [] ?_
 refine Zm ?_
 refine Zan (ι := Nat × Int × (List Int)) (fun (f6, x4, x5) => (⟨67, [(0, A a0), (5, rf 0 0 1 x5), (19, A a1), (20, I (a1.length : Int)), (21, I x4)], [sl 0 x5]⟩ : St)) (fun (f6, x4, x5) => Za3 a0 a1 f6 x4 x5 = some y) Prod.fst (FUEL, 0, ([] : List Int)) h (Imp.thawS 5 [0, 5, 19, 20, 21] (by kernel_rfl)) ?_
 rintro ⟨f6, x4, x5⟩ h
 dsimp only at h ⊢
 rcases f6 with _ | f6
 cases h
 rw [Za3] at h
 refine srveM [7] 67 [(0, A a0), (5, rf 0 0 1 x5), (19, A a1), (20, I (a1.length : Int)), (21, I x4), (22, B (decide (x4 < (a1.length : Int))))] [sl 0 x5] ?_
 refine Zj ?_
 refine pc h (fun h => ?_) (fun h => ?_)
 refine Zl ?_
 refine Zj ?_
 refine Zm ?_
 refine Zj ?_
 refine pwp_region ?_
 obtain ⟨v9, hv10, h⟩ := bindS h
 refine Zah τ_ok 23 hv10 (by kernel_rfl) ?_
 refine veM [7] 3 67 [(0, A a0), (5, rf 0 0 1 x5), (7, .ptr 1 0 0), (19, A a1), (20, I (a1.length : Int)), (21, I x4)] [sl 0 x5, sc 0 v9] ?_
 refine srvM [7] 1 67 [(0, A a0), (5, rf 0 0 1 x5), (7, .ptr 1 0 0), (19, A a1), (20, I (a1.length : Int)), (21, I x4), (25, E v9)] [sl 0 x5, sc 0 v9] ?_
 obtain ⟨v11, hv12, h⟩ := bindS h
 refine cF 26 (ok_impl_Part_takes hv12) ?_
 refine veM [7] 1 67 [(0, A a0), (5, rf 0 0 1 x5), (7, .ptr 1 0 0), (8, I v11), (19, A a1), (20, I (a1.length : Int)), (21, I x4)] [sl 0 x5, sc 0 v9] ?_
 refine Zj ?_
 refine Zj ?_
 refine Z5 (σ := Bool) (fun x13 => (⟨67, [(0, A a0), (5, rf 0 0 1 x5), (7, .ptr 1 0 0), (8, I v11), (19, A a1), (20, I (a1.length : Int)), (21, I x4), (36, B x13)], [sl 0 x5, sc 0 v9]⟩ : St)) (fun x13 => Z2 a0 x4 x5 (Za3 a0 a1 f6) v9 v11 x13 = some y) ?_ ?_
 refine rvM [7] 2 67 [(0, A a0), (5, rf 0 0 1 x5), (7, .ptr 1 0 0), (8, I v11), (19, A a1), (20, I (a1.length : Int)), (21, I x4), (27, E v9), (28, A a0)] [sl 0 x5, sc 0 v9] ?_
 obtain ⟨v24, hv25, h⟩ := bindS h
 refine cF 29 (ok_impl_Part_tells hv25) ?_
 refine vM [7] 2 67 [(0, A a0), (5, rf 0 0 1 x5), (7, .ptr 1 0 0), (8, I v11), (19, A a1), (20, I (a1.length : Int)), (21, I x4), (31, B (!v24))] [sl 0 x5, sc 0 v9] ?_
 rcases fk (!v24) with hc26 | hc26
 replace h := bT hc26 h
 rw [hc26]
 refine veM [7] 5 67 [(0, A a0), (5, rf 0 0 1 x5), (7, .ptr 1 0 0), (8, I v11), (19, A a1), (20, I (a1.length : Int)), (21, I x4), (32, .lit undef), (33, .lit undef), (34, .lit undef), (35, .lit undef), (36, B true)] [sl 0 x5, sc 0 v9] ?_
 exact ⟨true, h, it [0, 5, 7, 8, 19, 20, 21, 36]⟩
 replace h := bF hc26 h
 rw [hc26]
 refine veM [7] 5 67 [(0, A a0), (5, rf 0 0 1 x5), (7, .ptr 1 0 0), (8, I v11), (19, A a1), (20, I (a1.length : Int)), (21, I x4), (32, rf 0 0 1 x5), (33, I (x5.length : Int)), (34, I v11), (35, B (decide ((x5.length : Int) < v11))), (36, B (decide ((x5.length : Int) < v11)))] [sl 0 x5, sc 0 v9] ?_
 exact ⟨(decide ((x5.length : Int) < v11)), h, it [0, 5, 7, 8, 19, 20, 21, 36]⟩
 rintro x13 h
 unfold Z2 at h
 refine pc h (fun h => ?_) (fun h => ?_)
 refine srveM [7] 67 [(4, I (-1))] [sl 0 x5, sc 0 v9] ?_
 cases h
 exact Zg rz
 refine Zl ?_
 refine Zj ?_
 refine ip 67 [(0, A a0), (5, rf 0 0 1 x5), (7, .ptr 1 0 0), (8, I v11), (19, A a1), (20, I (a1.length : Int)), (21, I x4)] [sl 0 x5, sc 0 v9] ?_
 refine pwp_any ([[1], [], [0], [0], [0], [], [], [0], [0], [], [], [], [], []]) ([[], [], [], [], [], [], [], [], [], [], [], [], [], []]) rfl (by kernel_rfl) ?_
 refine qvM [7] [1] (hB trivial) 1 67 [(38, E v9), (0, A a0), (5, rf 0 0 1 x5), (8, I v11), (19, A a1), (20, I (a1.length : Int)), (21, I x4)] [sl 0 x5, sc 0 v9] ?_
 refine qvM [7] [] trivial 1 67 [(39, A a0), (38, E v9), (0, A a0), (5, rf 0 0 1 x5), (8, I v11), (19, A a1), (20, I (a1.length : Int)), (21, I x4)] [sl 0 x5, sc 0 v9] ?_
 refine qvM [7] [0] (hL trivial) 3 67 [(42, I (x5.length : Int)), (40, rf 0 0 1 x5), (39, A a0), (38, E v9), (0, A a0), (5, rf 0 0 1 x5), (8, I v11), (19, A a1), (20, I (a1.length : Int)), (21, I x4)] [sl 0 x5, sc 0 v9] ?_
 refine qvM [7] [] trivial 2 67 [(44, I (w64 ((x5.length : Int) - v11))), (40, rf 0 0 1 x5), (39, A a0), (38, E v9), (0, A a0), (5, rf 0 0 1 x5), (8, I v11), (19, A a1), (20, I (a1.length : Int)), (21, I x4)] [sl 0 x5, sc 0 v9] ?_
 obtain ⟨v15, hv16, h⟩ := bindS h
 refine qX (some 45) (.ref 0 0 ((w64 ((x5.length : Int) - v11)).toNat * 1) 1 v15.length false) 67 [(45, .ref 0 0 ((w64 ((x5.length : Int) - v11)).toNat * 1) 1 v15.length false), (39, A a0), (38, E v9), (0, A a0), (5, rf 0 0 1 x5), (8, I v11), (19, A a1), (20, I (a1.length : Int)), (21, I x4)] [sl 0 x5, sc 0 v9] (fun Γ' hΓ => CoreE.of_y (slrV_sound (n := x5.length) τ_ok (by kernel_rfl) rfl hv16)) (hL trivial) ?_
 obtain ⟨v17, hv18, h⟩ := bindS h
 refine qX (some 46) (.tup [I v17.1, B v17.2]) 67 [(46, .tup [I v17.1, B v17.2]), (0, A a0), (5, rf 0 0 1 x5), (8, I v11), (19, A a1), (20, I (a1.length : Int)), (21, I x4)] [sl 0 x5, sc 0 v9] (fun Γ' hΓ => CoreE.of_g (callVV_sound (xs := [E v9, A a0, .ref 0 0 ((w64 ((x5.length : Int) - v11)).toNat * 1) 1 v15.length false]) (τ := τ) (by kernel_rfl) (ViewL.cons (View.frz rfl) (ViewL.cons (View.frz rfl) (ViewL.cons (View.ref (v := 0) (lo := (w64 ((x5.length : Int) - v11)).toNat) x5 v15 (by kernel_rfl) (slI_view hv16) rfl) (ViewL.nil _)))) (ok_impl_Part_kind hv18) (Blind.tup (BlindL.cons (Blind.lit _) (BlindL.cons (Blind.lit _) BlindL.nil))) (FzTo.tup (FzToL.cons (FzTo.frz rfl) (FzToL.cons (FzTo.frz rfl) FzToL.nil))))) (hL trivial) ?_
 refine qvnM [7] [] trivial 5 67 [(0, A a0), (5, rf 0 0 1 x5), (8, I v11), (9, I v17.1), (10, B v17.2), (19, A a1), (20, I (a1.length : Int)), (21, I x4)] [sl 0 x5, sc 0 v9] ?_
 refine Zj ?_
 refine srveM [7] 67 [(0, A a0), (5, rf 0 0 1 x5), (8, I v11), (9, I v17.1), (19, A a1), (20, I (a1.length : Int)), (21, I x4), (50, B (!v17.2))] [sl 0 x5, sc 0 v9] ?_
 refine pc h (fun h => ?_) (fun h => ?_)
 refine srveM [7] 67 [(4, I (-1))] [sl 0 x5, sc 0 v9] ?_
 cases h
 exact Zg rz
 refine Zl ?_
 refine rvM [7] 5 67 [(0, A a0), (9, I v17.1), (19, A a1), (20, I (a1.length : Int)), (21, I x4), (51, rf 0 0 1 x5), (55, I (w64 ((x5.length : Int) - v11)))] [sl 0 x5, sc 0 v9] ?_
 obtain ⟨v20, hv21, h⟩ := bindS h
 refine opsP_slr τ_ok 56 0 0 x5.length hv21 rfl (by kernel_rfl) ?_
 refine vM [7] 2 67 [(0, A a0), (19, A a1), (20, I (a1.length : Int)), (21, I x4), (56, rf 0 0 1 v20), (58, .arr 1 ([v17.1] : List Int).length (eL ([v17.1] : List Int)) true)] [sl 0 x5, sc 0 v9] ?_
 obtain ⟨v22, hv23, h⟩ := bindS h
 refine opsP_apt τ_ok 59 0 0 v20.length (nx hX) hv23 (slI_le hv21) (by kernel_rfl) ?_
 refine veM [7] 1 67 [(0, A a0), (5, rf 0 1 1 v22), (19, A a1), (20, I (a1.length : Int)), (21, I x4)] [sl 1 v22, sc 0 v9] ?_
 refine rveM [7] 67 [(0, A a0), (5, rf 0 1 1 v22), (19, A a1), (20, I (a1.length : Int)), (21, I (w64 (x4 + 1)))] [sl 1 v22, sc 0 v9] ?_
 exact ⟨(f6, (w64 (x4 + 1)), v22), h, Nat.lt_succ_self _, qt (it (st' := ⟨67, [(0, A a0), (5, rf 0 1 1 v22), (19, A a1), (20, I (a1.length : Int)), (21, I (w64 (x4 + 1)))], [sl 1 v22, sc 0 v9]⟩) [0, 5, 19, 20, 21]) (qt (Imp.truncS (st' := ⟨67, [(0, A a0), (5, rf 0 1 1 v22), (19, A a1), (20, I (a1.length : Int)), (21, I (w64 (x4 + 1)))], [sl 1 v22]⟩) 1 (nx hX) (by kernel_rfl) (allBelow_mem (by exact (And.intro rfl (And.intro rfl (And.intro rfl (And.intro rfl (And.intro rfl trivial))))))) (by exact (And.intro (frz_below (eL_frz _)) trivial)) (by kernel_rfl)) (Imp.reverS 0 1 (eL v22) [0, 5, 19, 20, 21] (by kernel_rfl) (by exact (And.intro (eL_frz _) trivial)) (by kernel_rfl)))⟩
 refine Zam ?_
 refine Zj ?_
 refine srveM [7] 67 [(5, rf 0 0 1 x5), (63, B (!((x5.length : Int) == 1)))] [sl 0 x5] ?_
 refine pc h (fun h => ?_) (fun h => ?_)
 refine srveM [7] 67 [(4, I (-1))] [sl 0 x5] ?_
 cases h
 exact Zg rz
 refine Zl ?_
 refine srvM [7] 1 67 [(64, rf 0 0 1 x5)] [sl 0 x5] ?_
 obtain ⟨v28, hv29, h⟩ := bindS h
 refine opsP_idr τ_ok 65 0 0 x5.length hv29 rfl (by kernel_rfl) ?_
 refine opsP_lde (r := I v28) τ_ok 66 3 0 hv29 (by kernel_rfl) (by kernel_rfl) ?_
 refine veM [7] 1 67 [(4, I v28)] [sl 0 x5] ?_
 cases h
 exact Zg rz
def spec_BondOk_l2 (a0 : List Ze) (a1 : Zb) (v3 : Ze) : Nat → Int → Option Bool
 | 0, _ => none
 | f23 + 1, x22 => bif (decide (x22 < (a1.fList.length : Int))) then (getI a1.fList x22).bind fun v26 => (getI v3.fColumns v26).bind fun v28 => (getI a0 a1.fOf).bind fun v30 => (getI a1.fTo x22).bind fun v32 => (getI v30.fColumns v32).bind fun v34 => bif (!(v28.fKind == v34.fKind)) then some false else (spec_BondOk_l2 a0 a1 v3 f23) (w64 (x22 + 1)) else some true
def spec_BondOk_j1 (a0 : List Ze) (a1 : Zb) (v3 : Ze) (x20 : Bool) : Option Bool := bif x20 then some false else spec_BondOk_l2 a0 a1 v3 FUEL 0
def spec_BondOk_j0 (a0 : List Ze) (a1 : Zb) (x1 : Bool) : Option Bool := bif x1 then some false else (getI a0 a1.fIn).bind fun v3 => bif (a1.fKind == 1) then (spec_l12Columns v3.fColumns a1.fList).bind fun v6 => bif v6 then bif (a1.fOf == 0) then bif ((a1.fTo.length : Int) == 0) then bif (!a1.fFollow) then some ((a1.fE.length : Int) == 0) else some false else some false else some false else some false else bif (a1.fKind == 3) then (spec_ExprKind v3.fColumns a1.fE).bind fun v13 => bif (v13 == 3) then bif ((a1.fList.length : Int) == 0) then bif (a1.fOf == 0) then bif ((a1.fTo.length : Int) == 0) then some (!a1.fFollow) else some false else some false else some false else some false else bif (a1.fKind == 2) then (spec_l1In a1.fOf 0 (w64 ((a0.length : Int) - 1))).bind fun v37 => bif (!v37) then spec_BondOk_j1 a0 a1 v3 true else (spec_l12Columns v3.fColumns a1.fList).bind fun v39 => bif (!v39) then spec_BondOk_j1 a0 a1 v3 true else (getI a0 a1.fOf).bind fun v41 => (spec_l12Columns v41.fColumns a1.fTo).bind fun v43 => bif (!v43) then spec_BondOk_j1 a0 a1 v3 true else bif (!((a1.fList.length : Int) == (a1.fTo.length : Int))) then spec_BondOk_j1 a0 a1 v3 true else spec_BondOk_j1 a0 a1 v3 (decide ((a1.fE.length : Int) > 0)) else some false
def spec_BondOk (a0 : List Ze) (a1 : Zb) : Option Bool := (spec_TablesOk a0).bind fun v49 => bif (!v49) then spec_BondOk_j0 a0 a1 true else (spec_l1In a1.fIn 0 (w64 ((a0.length : Int) - 1))).bind fun v51 => spec_BondOk_j0 a0 a1 (!v51)
theorem ok_spec_BondOk {a0 : List Ze} {a1 : Zb} {y : Bool} (h : spec_BondOk a0 a1 = some y) : OK Tryz.prog 58 [A a0, E a1] (B y) := by
 refine ow Tryz.func58 fun Γ hX => ?_
 unfold spec_BondOk at h
 refine srve 158 [(0, A a0), (3, pf a1 0)] [] ?_
 refine Zj ?_
 refine Zj ?_
 refine Z5 (σ := Bool) (fun x1 => (⟨158, [(0, A a0), (3, pf a1 0), (18, B x1)], []⟩ : St)) (fun x1 => spec_BondOk_j0 a0 a1 x1 = some y) ?_ ?_
 refine rv 1 158 [(0, A a0), (3, pf a1 0), (7, A a0)] [] ?_
 obtain ⟨v49, hv50, h⟩ := bindS h
 refine cF 8 (ok_spec_TablesOk hv50) ?_
 refine v 2 158 [(0, A a0), (3, pf a1 0), (10, B (!v49))] [] ?_
 rcases fk (!v49) with hc53 | hc53
 replace h := bT hc53 h
 rw [hc53]
 refine ve 8 158 [(0, A a0), (3, pf a1 0), (18, B true)] [] ?_
 exact ⟨true, h, it [0, 3, 18]⟩
 replace h := bF hc53 h
 rw [hc53]
 refine v 5 158 [(0, A a0), (3, pf a1 0), (10, B false), (12, I a1.fIn), (15, I (w64 ((a0.length : Int) - 1)))] [] ?_
 obtain ⟨v51, hv52, h⟩ := bindS h
 refine cF 16 (ok_spec_l1In hv52) ?_
 refine ve 2 158 [(0, A a0), (3, pf a1 0), (18, B (!v51))] [] ?_
 exact ⟨(!v51), h, it [0, 3, 18]⟩
 rintro x1 h
 unfold spec_BondOk_j0 at h
 refine pc h (fun h => ?_) (fun h => ?_)
 refine srve 158 [(4, B false)] [] ?_
 cases h
 exact Zg rz
 refine Zl ?_
 refine srv 3 158 [(0, A a0), (3, pf a1 0), (19, A a0), (21, I a1.fIn)] [] ?_
 obtain ⟨v3, hv4, h⟩ := bindS h
 refine Zah τ_ok 22 hv4 (by kernel_rfl) ?_
 refine ve 3 158 [(0, A a0), (3, pf a1 0), (5, A v3.fColumns)] [] ?_
 refine Zj ?_
 refine srve 158 [(0, A a0), (3, pf a1 0), (5, A v3.fColumns), (26, I a1.fKind)] [] ?_
 refine Zm ?_
 refine srve 158 [(0, A a0), (3, pf a1 0), (5, A v3.fColumns), (26, I a1.fKind), (27, B (a1.fKind == 1))] [] ?_
 refine pc h (fun h => ?_) (fun h => ?_)
 refine srv 3 158 [(3, pf a1 0), (29, A v3.fColumns), (31, A a1.fList)] [] ?_
 obtain ⟨v6, hv7, h⟩ := bindS h
 refine cF 32 (ok_spec_l12Columns hv7) ?_
 refine v 1 158 [(3, pf a1 0), (33, B v6)] [] ?_
 rcases Bool.eq_false_or_eq_true v6 with hc11 | hc11
 replace h := bT hc11 h
 rw [hc11]
 refine v 5 158 [(3, pf a1 0), (38, B (a1.fOf == 0))] [] ?_
 rcases fk (a1.fOf == 0) with hc10 | hc10
 replace h := bT hc10 h
 rw [hc10]
 refine v 6 158 [(3, pf a1 0), (44, B ((a1.fTo.length : Int) == 0))] [] ?_
 rcases fk ((a1.fTo.length : Int) == 0) with hc9 | hc9
 replace h := bT hc9 h
 rw [hc9]
 refine v 5 158 [(3, pf a1 0), (49, B (!a1.fFollow))] [] ?_
 rcases fk (!a1.fFollow) with hc8 | hc8
 replace h := bT hc8 h
 rw [hc8]
 refine ve 6 158 [(4, B ((a1.fE.length : Int) == 0))] [] ?_
 cases h
 exact Zg rz
 replace h := bF hc8 h
 rw [hc8]
 refine ve 6 158 [(4, B false)] [] ?_
 cases h
 exact Zg rz
 replace h := bF hc9 h
 rw [hc9]
 refine ve 11 158 [(4, B false)] [] ?_
 cases h
 exact Zg rz
 replace h := bF hc10 h
 rw [hc10]
 refine ve 17 158 [(4, B false)] [] ?_
 cases h
 exact Zg rz
 replace h := bF hc11 h
 rw [hc11]
 refine ve 22 158 [(4, B false)] [] ?_
 cases h
 exact Zg rz
 refine srve 158 [(0, A a0), (3, pf a1 0), (5, A v3.fColumns), (26, I a1.fKind), (55, B (a1.fKind == 3))] [] ?_
 refine pc h (fun h => ?_) (fun h => ?_)
 refine srv 3 158 [(3, pf a1 0), (57, A v3.fColumns), (59, A a1.fE)] [] ?_
 obtain ⟨v13, hv14, h⟩ := bindS h
 refine cF 60 (ok_spec_ExprKind hv14) ?_
 refine v 2 158 [(3, pf a1 0), (62, B (v13 == 3))] [] ?_
 rcases fk (v13 == 3) with hc18 | hc18
 replace h := bT hc18 h
 rw [hc18]
 refine v 6 158 [(3, pf a1 0), (68, B ((a1.fList.length : Int) == 0))] [] ?_
 rcases fk ((a1.fList.length : Int) == 0) with hc17 | hc17
 replace h := bT hc17 h
 rw [hc17]
 refine v 5 158 [(3, pf a1 0), (73, B (a1.fOf == 0))] [] ?_
 rcases fk (a1.fOf == 0) with hc16 | hc16
 replace h := bT hc16 h
 rw [hc16]
 refine v 6 158 [(3, pf a1 0), (79, B ((a1.fTo.length : Int) == 0))] [] ?_
 rcases fk ((a1.fTo.length : Int) == 0) with hc15 | hc15
 replace h := bT hc15 h
 rw [hc15]
 refine ve 5 158 [(4, B (!a1.fFollow))] [] ?_
 cases h
 exact Zg rz
 replace h := bF hc15 h
 rw [hc15]
 refine ve 5 158 [(4, B false)] [] ?_
 cases h
 exact Zg rz
 replace h := bF hc16 h
 rw [hc16]
 refine ve 11 158 [(4, B false)] [] ?_
 cases h
 exact Zg rz
 replace h := bF hc17 h
 rw [hc17]
 refine ve 16 158 [(4, B false)] [] ?_
 cases h
 exact Zg rz
 replace h := bF hc18 h
 rw [hc18]
 refine ve 22 158 [(4, B false)] [] ?_
 cases h
 exact Zg rz
 refine srve 158 [(0, A a0), (3, pf a1 0), (5, A v3.fColumns), (84, B (a1.fKind == 2))] [] ?_
 refine pc h (fun h => ?_) (fun h => ?_)
 refine Zj ?_
 refine Zj ?_
 refine Z5 (σ := Bool) (fun x20 => (⟨158, [(0, A a0), (3, pf a1 0), (5, A v3.fColumns), (126, B x20)], []⟩ : St)) (fun x20 => spec_BondOk_j1 a0 a1 v3 x20 = some y) ?_ ?_
 refine ip 158 [(0, A a0), (3, pf a1 0), (5, A v3.fColumns)] [] ?_
 refine pN 41 ?_
 refine qv [] trivial 5 158 [(90, I (w64 ((a0.length : Int) - 1))), (87, I a1.fOf), (0, A a0), (3, pf a1 0), (5, A v3.fColumns)] [] ?_
 obtain ⟨v37, hv38, h⟩ := bindS h
 refine qX (some 91) (B v37) 158 [(91, B v37), (0, A a0), (3, pf a1 0), (5, A v3.fColumns)] [] (fun Γ' hΓ => CoreE.of_g (Zr (τ := τ) (by kernel_rfl) rfl (ok_spec_l1In hv38) (FzTo.frz rfl))) trivial ?_
 refine qv [] trivial 2 158 [(93, B (!v37)), (0, A a0), (3, pf a1 0), (5, A v3.fColumns)] [] ?_
 rcases fk (!v37) with hc48 | hc48
 replace h := bT hc48 h
 rw [hc48]
 refine qvn [] trivial 33 158 [(0, A a0), (3, pf a1 0), (5, A v3.fColumns), (126, B true)] [] ?_
 exact ⟨true, h, it [0, 3, 5, 126]⟩
 replace h := bF hc48 h
 rw [hc48]
 refine qv [] trivial 3 158 [(96, A a1.fList), (94, A v3.fColumns), (93, B false), (0, A a0), (3, pf a1 0), (5, A v3.fColumns)] [] ?_
 obtain ⟨v39, hv40, h⟩ := bindS h
 refine qX (some 97) (B v39) 158 [(97, B v39), (93, B false), (0, A a0), (3, pf a1 0), (5, A v3.fColumns)] [] (fun Γ' hΓ => CoreE.of_g (Zr (τ := τ) (by kernel_rfl) rfl (ok_spec_l12Columns hv40) (FzTo.frz rfl))) trivial ?_
 refine qv [] trivial 3 158 [(100, B (!v39)), (0, A a0), (3, pf a1 0), (5, A v3.fColumns)] [] ?_
 rcases fk (!v39) with hc47 | hc47
 replace h := bT hc47 h
 rw [hc47]
 refine qvn [] trivial 26 158 [(0, A a0), (3, pf a1 0), (5, A v3.fColumns), (126, B true)] [] ?_
 exact ⟨true, h, it [0, 3, 5, 126]⟩
 replace h := bF hc47 h
 rw [hc47]
 refine qv [] trivial 3 158 [(103, I a1.fOf), (101, A a0), (100, B false), (0, A a0), (3, pf a1 0), (5, A v3.fColumns)] [] ?_
 obtain ⟨v41, hv42, h⟩ := bindS h
 refine qX (some 104) (pf v41 0) 158 [(104, pf v41 0), (100, B false), (0, A a0), (3, pf a1 0), (5, A v3.fColumns)] [] (fun Γ' hΓ => CoreE.of_y (Z0 τ_ok (by kernel_rfl) hv42)) trivial ?_
 refine qv [] trivial 4 158 [(108, A a1.fTo), (106, A v41.fColumns), (100, B false), (0, A a0), (3, pf a1 0), (5, A v3.fColumns)] [] ?_
 obtain ⟨v43, hv44, h⟩ := bindS h
 refine qX (some 109) (B v43) 158 [(109, B v43), (100, B false), (0, A a0), (3, pf a1 0), (5, A v3.fColumns)] [] (fun Γ' hΓ => CoreE.of_g (Zr (τ := τ) (by kernel_rfl) rfl (ok_spec_l12Columns hv44) (FzTo.frz rfl))) trivial ?_
 refine qv [] trivial 3 158 [(112, B (!v43)), (0, A a0), (3, pf a1 0), (5, A v3.fColumns)] [] ?_
 rcases fk (!v43) with hc46 | hc46
 replace h := bT hc46 h
 rw [hc46]
 refine qvn [] trivial 14 158 [(0, A a0), (3, pf a1 0), (5, A v3.fColumns), (126, B true)] [] ?_
 exact ⟨true, h, it [0, 3, 5, 126]⟩
 replace h := bF hc46 h
 rw [hc46]
 refine qv [] trivial 9 158 [(121, B (!((a1.fList.length : Int) == (a1.fTo.length : Int)))), (0, A a0), (3, pf a1 0), (5, A v3.fColumns)] [] ?_
 rcases fk (!((a1.fList.length : Int) == (a1.fTo.length : Int))) with hc45 | hc45
 replace h := bT hc45 h
 rw [hc45]
 refine qvn [] trivial 5 158 [(0, A a0), (3, pf a1 0), (5, A v3.fColumns), (126, B true)] [] ?_
 exact ⟨true, h, it [0, 3, 5, 126]⟩
 replace h := bF hc45 h
 rw [hc45]
 refine qvn [] trivial 5 158 [(0, A a0), (3, pf a1 0), (5, A v3.fColumns), (126, B (decide ((a1.fE.length : Int) > 0)))] [] ?_
 exact ⟨(decide ((a1.fE.length : Int) > 0)), h, it [0, 3, 5, 126]⟩
 rintro x20 h
 unfold spec_BondOk_j1 at h
 refine pc h (fun h => ?_) (fun h => ?_)
 refine srve 158 [(4, B false)] [] ?_
 cases h
 exact Zg rz
 refine Zl ?_
 refine Zj ?_
 refine srve 158 [(0, A a0), (3, pf a1 0), (5, A v3.fColumns), (6, I 0)] [] ?_
 refine Zm ?_
 refine Zan (ι := Nat × Int) (fun (f23, x22) => (⟨158, [(0, A a0), (3, pf a1 0), (5, A v3.fColumns), (6, I x22)], []⟩ : St)) (fun (f23, x22) => spec_BondOk_l2 a0 a1 v3 f23 x22 = some y) Prod.fst (FUEL, 0) h (it [0, 3, 5, 6]) ?_
 rintro ⟨f23, x22⟩ h
 dsimp only at h ⊢
 rcases f23 with _ | f23
 cases h
 rw [spec_BondOk_l2] at h
 refine Zj ?_
 refine srve 158 [(0, A a0), (3, pf a1 0), (5, A v3.fColumns), (6, I x22), (131, B (decide (x22 < (a1.fList.length : Int))))] [] ?_
 refine pc h (fun h => ?_) (fun h => ?_)
 refine Zl ?_
 refine Zj ?_
 refine Zm ?_
 refine Zj ?_
 refine ip 158 [(0, A a0), (3, pf a1 0), (5, A v3.fColumns), (6, I x22)] [] ?_
 refine pN 24 ?_
 refine qv [] trivial 4 158 [(137, I x22), (136, A a1.fList), (134, A v3.fColumns), (0, A a0), (3, pf a1 0), (5, A v3.fColumns), (6, I x22)] [] ?_
 obtain ⟨v26, hv27, h⟩ := bindS h
 refine qX (some 138) (pf v26 0) 158 [(138, pf v26 0), (134, A v3.fColumns), (0, A a0), (3, pf a1 0), (5, A v3.fColumns), (6, I x22)] [] (fun Γ' hΓ => CoreE.of_y (Z0 τ_ok (by kernel_rfl) hv27)) trivial ?_
 refine qv [] trivial 1 158 [(139, I v26), (134, A v3.fColumns), (0, A a0), (3, pf a1 0), (5, A v3.fColumns), (6, I x22)] [] ?_
 obtain ⟨v28, hv29, h⟩ := bindS h
 refine qX (some 140) (pf v28 0) 158 [(140, pf v28 0), (0, A a0), (3, pf a1 0), (5, A v3.fColumns), (6, I x22)] [] (fun Γ' hΓ => CoreE.of_y (Z0 τ_ok (by kernel_rfl) hv29)) trivial ?_
 refine qv [] trivial 5 158 [(145, I a1.fOf), (143, A a0), (142, I v28.fKind), (0, A a0), (3, pf a1 0), (5, A v3.fColumns), (6, I x22)] [] ?_
 obtain ⟨v30, hv31, h⟩ := bindS h
 refine qX (some 146) (pf v30 0) 158 [(146, pf v30 0), (142, I v28.fKind), (0, A a0), (3, pf a1 0), (5, A v3.fColumns), (6, I x22)] [] (fun Γ' hΓ => CoreE.of_y (Z0 τ_ok (by kernel_rfl) hv31)) trivial ?_
 refine qv [] trivial 5 158 [(151, I x22), (150, A a1.fTo), (148, A v30.fColumns), (142, I v28.fKind), (0, A a0), (3, pf a1 0), (5, A v3.fColumns), (6, I x22)] [] ?_
 obtain ⟨v32, hv33, h⟩ := bindS h
 refine qX (some 152) (pf v32 0) 158 [(152, pf v32 0), (148, A v30.fColumns), (142, I v28.fKind), (0, A a0), (3, pf a1 0), (5, A v3.fColumns), (6, I x22)] [] (fun Γ' hΓ => CoreE.of_y (Z0 τ_ok (by kernel_rfl) hv33)) trivial ?_
 refine qv [] trivial 1 158 [(153, I v32), (148, A v30.fColumns), (142, I v28.fKind), (0, A a0), (3, pf a1 0), (5, A v3.fColumns), (6, I x22)] [] ?_
 obtain ⟨v34, hv35, h⟩ := bindS h
 refine qX (some 154) (pf v34 0) 158 [(154, pf v34 0), (142, I v28.fKind), (0, A a0), (3, pf a1 0), (5, A v3.fColumns), (6, I x22)] [] (fun Γ' hΓ => CoreE.of_y (Z0 τ_ok (by kernel_rfl) hv35)) trivial ?_
 refine qvn [] trivial 3 158 [(0, A a0), (3, pf a1 0), (5, A v3.fColumns), (6, I x22), (157, B (!(v28.fKind == v34.fKind)))] [] ?_
 refine pc h (fun h => ?_) (fun h => ?_)
 refine srve 158 [(4, B false)] [] ?_
 cases h
 exact Zg rz
 refine Zl ?_
 refine rve 158 [(0, A a0), (3, pf a1 0), (5, A v3.fColumns), (6, I (w64 (x22 + 1)))] [] ?_
 exact ⟨(f23, (w64 (x22 + 1))), h, Nat.lt_succ_self _, it [0, 3, 5, 6]⟩
 refine Zam ?_
 refine srve 158 [(4, B true)] [] ?_
 cases h
 exact Zg rz
 refine Zl ?_
 refine srve 158 [(4, B false)] [] ?_
 cases h
 exact Zg rz
def impl_bondOk_l2 (a0 : List Ze) (a1 : Zb) (v4 : Ze) : Nat → Int → Option Bool
 | 0, _ => none
 | f22 + 1, x21 => bif (decide (x21 < (a1.fList.length : Int))) then (getI a1.fList x21).bind fun v25 => (getI v4.fColumns v25).bind fun v27 => (getI a0 a1.fOf).bind fun v29 => (getI a1.fTo x21).bind fun v31 => (getI v29.fColumns v31).bind fun v33 => bif (!(v27.fKind == v33.fKind)) then some false else (impl_bondOk_l2 a0 a1 v4 f22) (w64 (x21 + 1)) else some true
def impl_bondOk_j1 (a0 : List Ze) (a1 : Zb) (v4 : Ze) (x18 : Bool) : Option Bool := bif x18 then some false else impl_bondOk_l2 a0 a1 v4 FUEL 0
def impl_bondOk_j0 (a0 : List Ze) (a1 : Zb) (v4 : Ze) (x6 : Bool) : Option Bool := bif (a1.fKind == 1) then (impl_listOk v4 a1.fList).bind fun v8 => bif v8 then bif x6 then some ((a1.fE.length : Int) == 0) else some false else some false else bif (a1.fKind == 3) then (impl_ExprKind v4.fColumns a1.fE).bind fun v13 => bif (v13 == 3) then bif x6 then some ((a1.fList.length : Int) == 0) else some false else some false else bif (a1.fKind == 2) then (Za6 a1.fOf 0 (w64 ((a0.length : Int) - 1))).bind fun v36 => bif (!v36) then impl_bondOk_j1 a0 a1 v4 true else bif (decide ((a1.fE.length : Int) > 0)) then impl_bondOk_j1 a0 a1 v4 true else (impl_listOk v4 a1.fList).bind fun v38 => bif (!v38) then impl_bondOk_j1 a0 a1 v4 true else (getI a0 a1.fOf).bind fun v40 => (impl_listOk v40 a1.fTo).bind fun v42 => bif (!v42) then impl_bondOk_j1 a0 a1 v4 true else impl_bondOk_j1 a0 a1 v4 (!((a1.fTo.length : Int) == (a1.fList.length : Int))) else some false
def impl_bondOk (a0 : List Ze) (a1 : Zb) : Option Bool := (Za6 a1.fIn 0 (w64 ((a0.length : Int) - 1))).bind fun v1 => bif (!v1) then some false else (getI a0 a1.fIn).bind fun v4 => bif (a1.fOf == 0) then bif ((a1.fTo.length : Int) == 0) then impl_bondOk_j0 a0 a1 v4 (!a1.fFollow) else impl_bondOk_j0 a0 a1 v4 false else impl_bondOk_j0 a0 a1 v4 false
theorem ok_impl_bondOk {a0 : List Ze} {a1 : Zb} {y : Bool} (h : impl_bondOk a0 a1 = some y) : OK Tryz.prog 60 [A a0, E a1] (B y) := by
 refine ow Tryz.func60 fun Γ hX => ?_
 unfold impl_bondOk at h
 refine srveM [5] 141 [(0, A a0), (3, pf a1 0)] [] ?_
 refine Zj ?_
 refine srvM [5] 5 141 [(0, A a0), (3, pf a1 0), (10, I a1.fIn), (13, I (w64 ((a0.length : Int) - 1)))] [] ?_
 obtain ⟨v1, hv2, h⟩ := bindS h
 refine cF 14 (Za5 hv2) ?_
 refine veM [5] 1 141 [(0, A a0), (3, pf a1 0), (15, B (!v1))] [] ?_
 refine pc h (fun h => ?_) (fun h => ?_)
 refine srveM [5] 141 [(4, B false)] [] ?_
 cases h
 exact Zg rz
 refine Zl ?_
 refine srvM [5] 3 141 [(0, A a0), (3, pf a1 0), (16, A a0), (18, I a1.fIn)] [] ?_
 obtain ⟨v4, hv5, h⟩ := bindS h
 refine Zah τ_ok 19 hv5 (by kernel_rfl) ?_
 refine veM [5] 3 141 [(0, A a0), (3, pf a1 0), (5, .ptr 0 0 0)] [sc 0 v4] ?_
 refine Zj ?_
 refine Z5 (σ := Bool) (fun x6 => (⟨141, [(0, A a0), (3, pf a1 0), (5, .ptr 0 0 0), (6, B x6)], [sc 0 v4]⟩ : St)) (fun x6 => impl_bondOk_j0 a0 a1 v4 x6 = some y) ?_ ?_
 refine rvM [5] 4 141 [(0, A a0), (3, pf a1 0), (5, .ptr 0 0 0), (24, B (a1.fOf == 0))] [sc 0 v4] ?_
 rcases fk (a1.fOf == 0) with hc49 | hc49
 replace h := bT hc49 h
 rw [hc49]
 refine vM [5] 6 141 [(0, A a0), (3, pf a1 0), (5, .ptr 0 0 0), (30, B ((a1.fTo.length : Int) == 0))] [sc 0 v4] ?_
 rcases fk ((a1.fTo.length : Int) == 0) with hc48 | hc48
 replace h := bT hc48 h
 rw [hc48]
 refine veM [5] 5 141 [(0, A a0), (3, pf a1 0), (5, .ptr 0 0 0), (6, B (!a1.fFollow))] [sc 0 v4] ?_
 exact ⟨(!a1.fFollow), h, it [0, 3, 5, 6]⟩
 replace h := bF hc48 h
 rw [hc48]
 refine veM [5] 5 141 [(0, A a0), (3, pf a1 0), (5, .ptr 0 0 0), (6, B false)] [sc 0 v4] ?_
 exact ⟨false, h, it [0, 3, 5, 6]⟩
 replace h := bF hc49 h
 rw [hc49]
 refine veM [5] 11 141 [(0, A a0), (3, pf a1 0), (5, .ptr 0 0 0), (6, B false)] [sc 0 v4] ?_
 exact ⟨false, h, it [0, 3, 5, 6]⟩
 rintro x6 h
 unfold impl_bondOk_j0 at h
 refine Zj ?_
 refine srveM [5] 141 [(0, A a0), (3, pf a1 0), (5, .ptr 0 0 0), (6, B x6), (36, I a1.fKind)] [sc 0 v4] ?_
 refine Zm ?_
 refine srveM [5] 141 [(0, A a0), (3, pf a1 0), (5, .ptr 0 0 0), (6, B x6), (36, I a1.fKind), (37, B (a1.fKind == 1))] [sc 0 v4] ?_
 refine pc h (fun h => ?_) (fun h => ?_)
 refine srvM [5] 3 141 [(3, pf a1 0), (6, B x6), (39, E v4), (41, A a1.fList)] [sc 0 v4] ?_
 obtain ⟨v8, hv9, h⟩ := bindS h
 refine cF 42 (ok_impl_listOk hv9) ?_
 refine vM [5] 1 141 [(3, pf a1 0), (6, B x6), (43, B v8)] [sc 0 v4] ?_
 rcases Bool.eq_false_or_eq_true v8 with hc11 | hc11
 replace h := bT hc11 h
 rw [hc11]
 refine vM [5] 3 141 [(3, pf a1 0), (46, B x6)] [sc 0 v4] ?_
 rcases Bool.eq_false_or_eq_true x6 with hc10 | hc10
 replace h := bT hc10 h
 rw [hc10]
 refine veM [5] 6 141 [(4, B ((a1.fE.length : Int) == 0))] [sc 0 v4] ?_
 cases h
 exact Zg rz
 replace h := bF hc10 h
 rw [hc10]
 refine veM [5] 6 141 [(4, B false)] [sc 0 v4] ?_
 cases h
 exact Zg rz
 replace h := bF hc11 h
 rw [hc11]
 refine veM [5] 9 141 [(4, B false)] [sc 0 v4] ?_
 cases h
 exact Zg rz
 refine srveM [5] 141 [(0, A a0), (3, pf a1 0), (5, .ptr 0 0 0), (6, B x6), (36, I a1.fKind), (52, B (a1.fKind == 3))] [sc 0 v4] ?_
 refine pc h (fun h => ?_) (fun h => ?_)
 refine srvM [5] 4 141 [(3, pf a1 0), (6, B x6), (55, A v4.fColumns), (57, A a1.fE)] [sc 0 v4] ?_
 obtain ⟨v13, hv14, h⟩ := bindS h
 refine cF 58 (ok_impl_ExprKind hv14) ?_
 refine vM [5] 2 141 [(3, pf a1 0), (6, B x6), (60, B (v13 == 3))] [sc 0 v4] ?_
 rcases fk (v13 == 3) with hc16 | hc16
 replace h := bT hc16 h
 rw [hc16]
 refine vM [5] 3 141 [(3, pf a1 0), (63, B x6)] [sc 0 v4] ?_
 rcases Bool.eq_false_or_eq_true x6 with hc15 | hc15
 replace h := bT hc15 h
 rw [hc15]
 refine veM [5] 6 141 [(4, B ((a1.fList.length : Int) == 0))] [sc 0 v4] ?_
 cases h
 exact Zg rz
 replace h := bF hc15 h
 rw [hc15]
 refine veM [5] 6 141 [(4, B false)] [sc 0 v4] ?_
 cases h
 exact Zg rz
 replace h := bF hc16 h
 rw [hc16]
 refine veM [5] 9 141 [(4, B false)] [sc 0 v4] ?_
 cases h
 exact Zg rz
 refine srveM [5] 141 [(0, A a0), (3, pf a1 0), (5, .ptr 0 0 0), (69, B (a1.fKind == 2))] [sc 0 v4] ?_
 refine pc h (fun h => ?_) (fun h => ?_)
 refine Zj ?_
 refine Zj ?_
 refine Z5 (σ := Bool) (fun x18 => (⟨141, [(0, A a0), (3, pf a1 0), (5, .ptr 0 0 0), (110, B x18)], [sc 0 v4]⟩ : St)) (fun x18 => impl_bondOk_j1 a0 a1 v4 x18 = some y) ?_ ?_
 refine ip 141 [(0, A a0), (3, pf a1 0), (5, .ptr 0 0 0)] [sc 0 v4] ?_
 refine pwp_any ([[], [], [], [], [], [], [], [], [], [], [], [], [], [], [0], [], [], [], [], [], [], [], [], [], [], [], [], [], [], [], [], [], [], [], [], [], [], [], [], []]) ([[], [], [], [], [], [], [], [], [], [], [], [], [], [], [], [], [], [], [], [], [], [], [], [], [], [], [], [], [], [], [], [], [], [], [], [], [], [], [], []]) rfl (by kernel_rfl) ?_
 refine qvM [5] [] trivial 5 141 [(75, I (w64 ((a0.length : Int) - 1))), (72, I a1.fOf), (0, A a0), (3, pf a1 0), (5, .ptr 0 0 0)] [sc 0 v4] ?_
 obtain ⟨v36, hv37, h⟩ := bindS h
 refine qX (some 76) (B v36) 141 [(76, B v36), (0, A a0), (3, pf a1 0), (5, .ptr 0 0 0)] [sc 0 v4] (fun Γ' hΓ => CoreE.of_g (Zr (τ := τ) (by kernel_rfl) rfl (Za5 hv37) (FzTo.frz rfl))) trivial ?_
 refine qvM [5] [] trivial 2 141 [(78, B (!v36)), (0, A a0), (3, pf a1 0), (5, .ptr 0 0 0)] [sc 0 v4] ?_
 rcases fk (!v36) with hc47 | hc47
 replace h := bT hc47 h
 rw [hc47]
 refine qvM [5] [] trivial 6 141 [(84, B true), (0, A a0), (3, pf a1 0), (5, .ptr 0 0 0)] [sc 0 v4] ?_
 refine qvM [5] [0] (hB trivial) 1 141 [(85, .lit undef), (84, B true), (0, A a0), (3, pf a1 0), (5, .ptr 0 0 0)] [sc 0 v4] ?_
 refine qvM [5] [] trivial 25 141 [(110, B true), (0, A a0), (3, pf a1 0), (5, .ptr 0 0 0)] [sc 0 v4] ?_
 refine qn 141 [(0, A a0), (3, pf a1 0), (5, .ptr 0 0 0), (110, B true)] [sc 0 v4] ?_
 exact ⟨true, h, it [0, 3, 5, 110]⟩
 replace h := bF hc47 h
 rw [hc47]
 refine qvM [5] [] trivial 6 141 [(84, B (decide ((a1.fE.length : Int) > 0))), (0, A a0), (3, pf a1 0), (5, .ptr 0 0 0)] [sc 0 v4] ?_
 rcases fk (decide ((a1.fE.length : Int) > 0)) with hc46 | hc46
 replace h := bT hc46 h
 rw [hc46]
 refine qvM [5] [0] (hB trivial) 1 141 [(85, .lit undef), (84, B true), (0, A a0), (3, pf a1 0), (5, .ptr 0 0 0)] [sc 0 v4] ?_
 refine qvM [5] [] trivial 25 141 [(110, B true), (0, A a0), (3, pf a1 0), (5, .ptr 0 0 0)] [sc 0 v4] ?_
 refine qn 141 [(0, A a0), (3, pf a1 0), (5, .ptr 0 0 0), (110, B true)] [sc 0 v4] ?_
 exact ⟨true, h, it [0, 3, 5, 110]⟩
 replace h := bF hc46 h
 rw [hc46]
 refine qvM [5] [0] (hB trivial) 1 141 [(85, E v4), (84, B false), (0, A a0), (3, pf a1 0), (5, .ptr 0 0 0)] [sc 0 v4] ?_
 refine qvM [5] [] trivial 2 141 [(87, A a1.fList), (85, E v4), (84, B false), (0, A a0), (3, pf a1 0), (5, .ptr 0 0 0)] [sc 0 v4] ?_
 obtain ⟨v38, hv39, h⟩ := bindS h
 refine qX (some 88) (B v38) 141 [(88, B v38), (84, B false), (0, A a0), (3, pf a1 0), (5, .ptr 0 0 0)] [sc 0 v4] (fun Γ' hΓ => CoreE.of_g (Zr (τ := τ) (by kernel_rfl) rfl (ok_impl_listOk hv39) (FzTo.frz rfl))) trivial ?_
 refine qvM [5] [] trivial 3 141 [(91, B (!v38)), (0, A a0), (3, pf a1 0), (5, .ptr 0 0 0)] [sc 0 v4] ?_
 rcases fk (!v38) with hc45 | hc45
 replace h := bT hc45 h
 rw [hc45]
 refine qvnM [5] [] trivial 19 141 [(0, A a0), (3, pf a1 0), (5, .ptr 0 0 0), (110, B true)] [sc 0 v4] ?_
 exact ⟨true, h, it [0, 3, 5, 110]⟩
 replace h := bF hc45 h
 rw [hc45]
 refine qvM [5] [] trivial 3 141 [(94, I a1.fOf), (92, A a0), (91, B false), (0, A a0), (3, pf a1 0), (5, .ptr 0 0 0)] [sc 0 v4] ?_
 obtain ⟨v40, hv41, h⟩ := bindS h
 refine qX (some 95) (pf v40 0) 141 [(95, pf v40 0), (91, B false), (0, A a0), (3, pf a1 0), (5, .ptr 0 0 0)] [sc 0 v4] (fun Γ' hΓ => CoreE.of_y (Z0 τ_ok (by kernel_rfl) hv41)) trivial ?_
 refine qvM [5] [] trivial 3 141 [(98, A a1.fTo), (96, E v40), (91, B false), (0, A a0), (3, pf a1 0), (5, .ptr 0 0 0)] [sc 0 v4] ?_
 obtain ⟨v42, hv43, h⟩ := bindS h
 refine qX (some 99) (B v42) 141 [(99, B v42), (91, B false), (0, A a0), (3, pf a1 0), (5, .ptr 0 0 0)] [sc 0 v4] (fun Γ' hΓ => CoreE.of_g (Zr (τ := τ) (by kernel_rfl) rfl (ok_impl_listOk hv43) (FzTo.frz rfl))) trivial ?_
 refine qvM [5] [] trivial 3 141 [(102, B (!v42)), (0, A a0), (3, pf a1 0), (5, .ptr 0 0 0)] [sc 0 v4] ?_
 rcases fk (!v42) with hc44 | hc44
 replace h := bT hc44 h
 rw [hc44]
 refine qvnM [5] [] trivial 8 141 [(0, A a0), (3, pf a1 0), (5, .ptr 0 0 0), (110, B true)] [sc 0 v4] ?_
 exact ⟨true, h, it [0, 3, 5, 110]⟩
 replace h := bF hc44 h
 rw [hc44]
 refine qvnM [5] [] trivial 8 141 [(0, A a0), (3, pf a1 0), (5, .ptr 0 0 0), (110, B (!((a1.fTo.length : Int) == (a1.fList.length : Int))))] [sc 0 v4] ?_
 exact ⟨(!((a1.fTo.length : Int) == (a1.fList.length : Int))), h, it [0, 3, 5, 110]⟩
 rintro x18 h
 unfold impl_bondOk_j1 at h
 refine pc h (fun h => ?_) (fun h => ?_)
 refine srveM [5] 141 [(4, B false)] [sc 0 v4] ?_
 cases h
 exact Zg rz
 refine Zl ?_
 refine Zj ?_
 refine srveM [5] 141 [(0, A a0), (3, pf a1 0), (5, .ptr 0 0 0), (112, A a1.fList), (113, I (a1.fList.length : Int)), (114, I 0)] [sc 0 v4] ?_
 refine Zm ?_
 refine Zan (ι := Nat × Int) (fun (f22, x21) => (⟨141, [(0, A a0), (3, pf a1 0), (5, .ptr 0 0 0), (112, A a1.fList), (113, I (a1.fList.length : Int)), (114, I x21)], [sc 0 v4]⟩ : St)) (fun (f22, x21) => impl_bondOk_l2 a0 a1 v4 f22 x21 = some y) Prod.fst (FUEL, 0) h (it [0, 3, 5, 112, 113, 114]) ?_
 rintro ⟨f22, x21⟩ h
 dsimp only at h ⊢
 rcases f22 with _ | f22
 cases h
 rw [impl_bondOk_l2] at h
 refine srveM [5] 141 [(0, A a0), (3, pf a1 0), (5, .ptr 0 0 0), (112, A a1.fList), (113, I (a1.fList.length : Int)), (114, I x21), (115, B (decide (x21 < (a1.fList.length : Int))))] [sc 0 v4] ?_
 refine Zj ?_
 refine pc h (fun h => ?_) (fun h => ?_)
 refine Zl ?_
 refine Zj ?_
 refine Zm ?_
 refine srvM [5] 1 141 [(0, A a0), (3, pf a1 0), (5, .ptr 0 0 0), (112, A a1.fList), (113, I (a1.fList.length : Int)), (114, I x21), (116, I x21)] [sc 0 v4] ?_
 obtain ⟨v25, hv26, h⟩ := bindS h
 refine Zah τ_ok 117 hv26 (by kernel_rfl) ?_
 refine veM [5] 3 141 [(0, A a0), (3, pf a1 0), (5, .ptr 0 0 0), (7, I x21), (8, I v25), (112, A a1.fList), (113, I (a1.fList.length : Int)), (114, I x21)] [sc 0 v4] ?_
 refine Zj ?_
 refine ip 141 [(0, A a0), (3, pf a1 0), (5, .ptr 0 0 0), (7, I x21), (8, I v25), (112, A a1.fList), (113, I (a1.fList.length : Int)), (114, I x21)] [sc 0 v4] ?_
 refine pwp_any ([[0], [0], [], [], [], [], [], [], [], [], [], [], [], [], [], [], [], [], [], [], []]) ([[], [], [], [], [], [], [], [], [], [], [], [], [], [], [], [], [], [], [], [], []]) rfl (by kernel_rfl) ?_
 refine qvM [5] [0] (hB trivial) 2 141 [(120, A v4.fColumns), (0, A a0), (3, pf a1 0), (5, .ptr 0 0 0), (7, I x21), (8, I v25), (112, A a1.fList), (113, I (a1.fList.length : Int)), (114, I x21)] [sc 0 v4] ?_
 refine qvM [5] [] trivial 1 141 [(121, I v25), (120, A v4.fColumns), (0, A a0), (3, pf a1 0), (5, .ptr 0 0 0), (7, I x21), (112, A a1.fList), (113, I (a1.fList.length : Int)), (114, I x21)] [sc 0 v4] ?_
 obtain ⟨v27, hv28, h⟩ := bindS h
 refine qX (some 122) (pf v27 0) 141 [(122, pf v27 0), (0, A a0), (3, pf a1 0), (5, .ptr 0 0 0), (7, I x21), (112, A a1.fList), (113, I (a1.fList.length : Int)), (114, I x21)] [sc 0 v4] (fun Γ' hΓ => CoreE.of_y (Z0 τ_ok (by kernel_rfl) hv28)) trivial ?_
 refine qvM [5] [] trivial 5 141 [(127, I a1.fOf), (125, A a0), (124, I v27.fKind), (0, A a0), (3, pf a1 0), (5, .ptr 0 0 0), (7, I x21), (112, A a1.fList), (113, I (a1.fList.length : Int)), (114, I x21)] [sc 0 v4] ?_
 obtain ⟨v29, hv30, h⟩ := bindS h
 refine qX (some 128) (pf v29 0) 141 [(128, pf v29 0), (124, I v27.fKind), (0, A a0), (3, pf a1 0), (5, .ptr 0 0 0), (7, I x21), (112, A a1.fList), (113, I (a1.fList.length : Int)), (114, I x21)] [sc 0 v4] (fun Γ' hΓ => CoreE.of_y (Z0 τ_ok (by kernel_rfl) hv30)) trivial ?_
 refine qvM [5] [] trivial 5 141 [(133, I x21), (132, A a1.fTo), (130, A v29.fColumns), (124, I v27.fKind), (0, A a0), (3, pf a1 0), (5, .ptr 0 0 0), (112, A a1.fList), (113, I (a1.fList.length : Int)), (114, I x21)] [sc 0 v4] ?_
 obtain ⟨v31, hv32, h⟩ := bindS h
 refine qX (some 134) (pf v31 0) 141 [(134, pf v31 0), (130, A v29.fColumns), (124, I v27.fKind), (0, A a0), (3, pf a1 0), (5, .ptr 0 0 0), (112, A a1.fList), (113, I (a1.fList.length : Int)), (114, I x21)] [sc 0 v4] (fun Γ' hΓ => CoreE.of_y (Z0 τ_ok (by kernel_rfl) hv32)) trivial ?_
 refine qvM [5] [] trivial 1 141 [(135, I v31), (130, A v29.fColumns), (124, I v27.fKind), (0, A a0), (3, pf a1 0), (5, .ptr 0 0 0), (112, A a1.fList), (113, I (a1.fList.length : Int)), (114, I x21)] [sc 0 v4] ?_
 obtain ⟨v33, hv34, h⟩ := bindS h
 refine qX (some 136) (pf v33 0) 141 [(136, pf v33 0), (124, I v27.fKind), (0, A a0), (3, pf a1 0), (5, .ptr 0 0 0), (112, A a1.fList), (113, I (a1.fList.length : Int)), (114, I x21)] [sc 0 v4] (fun Γ' hΓ => CoreE.of_y (Z0 τ_ok (by kernel_rfl) hv34)) trivial ?_
 refine qvnM [5] [] trivial 3 141 [(0, A a0), (3, pf a1 0), (5, .ptr 0 0 0), (112, A a1.fList), (113, I (a1.fList.length : Int)), (114, I x21), (139, B (!(v27.fKind == v33.fKind)))] [sc 0 v4] ?_
 refine pc h (fun h => ?_) (fun h => ?_)
 refine srveM [5] 141 [(4, B false)] [sc 0 v4] ?_
 cases h
 exact Zg rz
 refine Zl ?_
 refine rveM [5] 141 [(0, A a0), (3, pf a1 0), (5, .ptr 0 0 0), (112, A a1.fList), (113, I (a1.fList.length : Int)), (114, I (w64 (x21 + 1)))] [sc 0 v4] ?_
 exact ⟨(f22, (w64 (x21 + 1))), h, Nat.lt_succ_self _, it [0, 3, 5, 112, 113, 114]⟩
 refine Zam ?_
 refine srveM [5] 141 [(4, B true)] [sc 0 v4] ?_
 cases h
 exact Zg rz
 refine Zl ?_
 refine srveM [5] 141 [(4, B false)] [sc 0 v4] ?_
 cases h
 exact Zg rz
def impl_RowsOk_1 (a0 : List Za) (b0 : List Zf) : Option Bool := (impl_RowFits b0 a0).bind fun v1 => some (!v1)
theorem ok_impl_RowsOk_1 {a0 : List Za} {b0 : List Zf} {y : Bool} (h : impl_RowsOk_1 a0 b0 = some y) : OK Tryz.prog 74 [A a0, pf b0 0] (B y) := by
 refine ow Tryz.func74 fun Γ hX => ?_
 unfold impl_RowsOk_1 at h
 refine srve 8 [(0, A a0), (1, pf b0 0)] [] ?_
 refine srv 2 8 [(4, A b0), (5, A a0)] [] ?_
 obtain ⟨v1, hv2, h⟩ := bindS h
 refine cF 6 (ok_impl_RowFits hv2) ?_
 refine ve 2 8 [(3, B (!v1))] [] ?_
 cases h
 exact Zg rz
def spec_l4Value_l0 (a0 : List Za) (a1 : List Zc) : Nat → Int → (List Za) → Option Za
 | 0, _, _ => none
 | f5 + 1, x3, x4 => bif (decide (x3 < (a1.length : Int))) then (getI a1 x3).bind fun v8 => (spec_l4Do a0 x4 v8).bind fun v10 => (spec_l4Value_l0 a0 a1 f5) (w64 (x3 + 1)) v10 else (getI x4 (0 : Int)).bind fun v12 => some v12
def spec_l4Value (a0 : List Za) (a1 : List Zc) : Option Za := spec_l4Value_l0 a0 a1 FUEL 0 ([] : List Za)
theorem ok_spec_l4Value {a0 : List Za} {a1 : List Zc} {y : Za} (h : spec_l4Value a0 a1 = some y) : OK Tryz.prog 103 [A a0, A a1] (E y) := by
 refine ow Tryz.func103 fun Γ hX => ?_
 unfold spec_l4Value at h
 refine srveM [4] 24 [(0, A a0), (1, A a1), (4, .ptr 0 0 0)] [some ⟨0, Enc.cells (Za.mk 0 0 (ByteArray.mk #[]))⟩] ?_
 refine srveM [4] 24 [(0, A a0), (1, A a1), (4, .ptr 0 0 0), (5, .arr 3 0 (eL ([] : List Za)) true)] [some ⟨0, Enc.cells (Za.mk 0 0 (ByteArray.mk #[]))⟩] ?_
 refine Zj ?_
 refine srveM [4] 24 [(0, A a0), (1, A a1), (4, .ptr 0 0 0), (5, .arr 3 0 (eL ([] : List Za)) true), (6, I 0)] [some ⟨0, Enc.cells (Za.mk 0 0 (ByteArray.mk #[]))⟩] ?_
 refine Zm ?_
 refine Zan (ι := Nat × Int × (List Za)) (fun (f5, x3, x4) => (⟨24, [(0, A a0), (1, A a1), (4, .ptr 0 0 0), (5, rf 1 0 3 x4), (6, I x3)], [some ⟨0, Enc.cells (Za.mk 0 0 (ByteArray.mk #[]))⟩, sl 0 x4]⟩ : St)) (fun (f5, x3, x4) => spec_l4Value_l0 a0 a1 f5 x3 x4 = some y) Prod.fst (FUEL, 0, ([] : List Za)) h (Imp.thawS 5 [0, 1, 4, 5, 6] (by kernel_rfl)) ?_
 rintro ⟨f5, x3, x4⟩ h
 dsimp only at h ⊢
 rcases f5 with _ | f5
 cases h
 rw [spec_l4Value_l0] at h
 refine Zj ?_
 refine srveM [4] 24 [(0, A a0), (1, A a1), (4, .ptr 0 0 0), (5, rf 1 0 3 x4), (6, I x3), (11, B (decide (x3 < (a1.length : Int))))] [some ⟨0, Enc.cells (Za.mk 0 0 (ByteArray.mk #[]))⟩, sl 0 x4] ?_
 refine pc h (fun h => ?_) (fun h => ?_)
 refine Zl ?_
 refine Zj ?_
 refine Zm ?_
 refine rvM [4] 4 24 [(0, A a0), (1, A a1), (4, .ptr 0 0 0), (6, I x3), (14, A a0), (15, rf 1 0 3 x4), (16, A a1), (17, I x3)] [some ⟨0, Enc.cells (Za.mk 0 0 (ByteArray.mk #[]))⟩, sl 0 x4] ?_
 obtain ⟨v8, hv9, h⟩ := bindS h
 refine Zah τ_ok 18 hv9 (by kernel_rfl) ?_
 refine vM [4] 1 24 [(0, A a0), (1, A a1), (4, .ptr 0 0 0), (6, I x3), (14, A a0), (15, rf 1 0 3 x4), (19, E v8)] [some ⟨0, Enc.cells (Za.mk 0 0 (ByteArray.mk #[]))⟩, sl 0 x4] ?_
 obtain ⟨v10, hv11, h⟩ := bindS h
 refine opsP_callM (xs := [A a0, rf 1 0 3 x4, E v8]) (x := rf 2 0 3 v10) (bs := [⟨0, eL v10⟩]) τ 20 [1] (nx hX) (ok_spec_l4Do hv11) (by kernel_rfl) (OutL.cons (OutP.frz rfl) (OutL.cons (OutP.list (v := 0) (by kernel_rfl)) (OutL.cons (OutP.frz rfl) (OutL.nil _)))) (by decide) (by kernel_rfl) ?_
 refine veM [4] 1 24 [(0, A a0), (1, A a1), (4, .ptr 0 0 0), (5, rf 2 0 3 v10), (6, I x3)] [some ⟨0, Enc.cells (Za.mk 0 0 (ByteArray.mk #[]))⟩, none, sl 0 v10] ?_
 refine rveM [4] 24 [(0, A a0), (1, A a1), (4, .ptr 0 0 0), (5, rf 2 0 3 v10), (6, I (w64 (x3 + 1)))] [some ⟨0, Enc.cells (Za.mk 0 0 (ByteArray.mk #[]))⟩, none, sl 0 v10] ?_
 exact ⟨(f5, (w64 (x3 + 1)), v10), h, Nat.lt_succ_self _, qt (it (st' := ⟨24, [(0, A a0), (1, A a1), (4, .ptr 0 0 0), (5, rf 2 0 3 v10), (6, I (w64 (x3 + 1)))], [some ⟨0, Enc.cells (Za.mk 0 0 (ByteArray.mk #[]))⟩, none, sl 0 v10]⟩) [0, 1, 4, 5, 6]) (qt (Imp.mvS (st' := ⟨24, [(0, A a0), (1, A a1), (4, .ptr 0 0 0), (5, rf 1 0 3 v10), (6, I (w64 (x3 + 1)))], [some ⟨0, Enc.cells (Za.mk 0 0 (ByteArray.mk #[]))⟩, sl 0 v10, none]⟩) 2 1 [0, 1, 4, 5, 6] (nx hX) (v := 0) (cs := eL v10) (by kernel_rfl) (by kernel_rfl) (by exact (And.intro (rfl) (And.intro (eL_frz _) trivial))) (by kernel_rfl) (by kernel_rfl)) (Imp.truncS 2 (nx hX) (by kernel_rfl) (allBelow_mem (by exact (And.intro rfl (And.intro rfl (And.intro rfl (And.intro rfl (And.intro rfl trivial))))))) (by exact (And.intro (rfl) (And.intro (frz_below (eL_frz _)) trivial))) (by kernel_rfl)))⟩
 refine Zam ?_
 refine srvM [4] 1 24 [(4, .ptr 0 0 0), (21, rf 1 0 3 x4)] [some ⟨0, Enc.cells (Za.mk 0 0 (ByteArray.mk #[]))⟩, sl 0 x4] ?_
 obtain ⟨v12, hv13, h⟩ := bindS h
 refine opsP_idr τ_ok 22 1 0 x4.length hv13 rfl (by kernel_rfl) ?_
 refine opsP_lde (r := E v12) τ_ok 23 90 0 hv13 (by kernel_rfl) (by kernel_rfl) ?_
 refine veM [4] 1 24 [(4, .ptr 0 0 0)] [sc 0 v12, sl 0 x4] ?_
 cases h
 exact Zg rz
def impl_bondsOk_1 (a0 : Zb) (b0 : List Ze) : Option Bool := (impl_bondOk b0 a0).bind fun v1 => some (!v1)
theorem ok_impl_bondsOk_1 {a0 : Zb} {b0 : List Ze} {y : Bool} (h : impl_bondsOk_1 a0 b0 = some y) : OK Tryz.prog 119 [E a0, pf b0 0] (B y) := by
 refine ow Tryz.func119 fun Γ hX => ?_
 unfold impl_bondsOk_1 at h
 refine srve 8 [(1, pf b0 0), (2, pf a0 0)] [] ?_
 refine srv 2 8 [(4, A b0), (5, E a0)] [] ?_
 obtain ⟨v1, hv2, h⟩ := bindS h
 refine cF 6 (ok_impl_bondOk hv2) ?_
 refine ve 2 8 [(3, B (!v1))] [] ?_
 cases h
 exact Zg rz
def Zbc (v6 : Za) (v8 : Za) (x10 : Bool) : Option Za := bif x10 then some (Za.mk 0 0 (ByteArray.mk #[])) else some (Za.mk 1 (w64 (v6.fN + v8.fN)) (ByteArray.mk #[]))
def Za7 (a0 : Zc) (a1 : List Za) (a2 : List Za) : Option Za := bif (a0.fKind == 1) then some a0.fV else bif (a0.fKind == 2) then (getI a1 a0.fN).bind fun v3 => some v3 else bif (a0.fKind == 3) then (getI a2 0).bind fun v6 => (getI a2 1).bind fun v8 => (getI a2 0).bind fun v12 => bif (v12.fKind == 0) then Zbc v6 v8 true else (getI a2 1).bind fun v14 => bif (v14.fKind == 0) then Zbc v6 v8 true else (Zbf (Za.mk 1 (w64 (v6.fN + v8.fN)) (ByteArray.mk #[]))).bind fun v16 => Zbc v6 v8 (!v16) else bif (a0.fKind == 4) then (getI a2 0).bind fun v21 => (getI a2 1).bind fun v23 => (impl_Compare a0.fN v21 v23).bind fun v25 => (impl_ValueOf v25).bind fun v27 => some v27 else bif (a0.fKind == 5) then (getI a2 0).bind fun v30 => (impl_TruthOf v30).bind fun v32 => (getI a2 1).bind fun v34 => (impl_TruthOf v34).bind fun v36 => (impl_AndOf v32 v36).bind fun v38 => (impl_ValueOf v38).bind fun v40 => some v40 else bif (a0.fKind == 6) then (getI a2 0).bind fun v43 => (impl_TruthOf v43).bind fun v45 => (getI a2 1).bind fun v47 => (impl_TruthOf v47).bind fun v49 => (impl_OrOf v45 v49).bind fun v51 => (impl_ValueOf v51).bind fun v53 => some v53 else bif (a0.fKind == 7) then (getI a2 0).bind fun v56 => (impl_TruthOf v56).bind fun v58 => (impl_NotOf v58).bind fun v60 => (impl_ValueOf v60).bind fun v62 => some v62 else (getI a2 0).bind fun v64 => (Zad (v64.fKind == 0)).bind fun v66 => (impl_ValueOf v66).bind fun v68 => some v68
theorem ok_impl_Part_value {a0 : Zc} {a1 : List Za} {a2 : List Za} {y : Za} (h : Za7 a0 a1 a2 = some y) : OK Tryz.prog 147 [E a0, A a1, A a2] (E y) := by
 refine ow Tryz.func147 fun Γ hX => ?_
 unfold Za7 at h
 refine srveM [6, 7] 103 [(1, A a1), (2, A a2), (3, pf a0 0), (6, .ptr 0 0 0)] [some ⟨0, Enc.cells (Za.mk 0 0 (ByteArray.mk #[]))⟩] ?_
 refine Zj ?_
 refine srveM [6, 7] 103 [(1, A a1), (2, A a2), (3, pf a0 0), (6, .ptr 0 0 0), (9, I a0.fKind)] [some ⟨0, Enc.cells (Za.mk 0 0 (ByteArray.mk #[]))⟩] ?_
 refine Zm ?_
 refine srveM [6, 7] 103 [(1, A a1), (2, A a2), (3, pf a0 0), (6, .ptr 0 0 0), (9, I a0.fKind), (10, B (a0.fKind == 1))] [some ⟨0, Enc.cells (Za.mk 0 0 (ByteArray.mk #[]))⟩] ?_
 refine pc h (fun h => ?_) (fun h => ?_)
 refine srveM [6, 7] 103 [(6, .ptr 0 0 0)] [sc 0 a0.fV] ?_
 cases h
 exact Zg rz
 refine srveM [6, 7] 103 [(1, A a1), (2, A a2), (3, pf a0 0), (6, .ptr 0 0 0), (9, I a0.fKind), (14, B (a0.fKind == 2))] [some ⟨0, Enc.cells (Za.mk 0 0 (ByteArray.mk #[]))⟩] ?_
 refine pc h (fun h => ?_) (fun h => ?_)
 refine srvM [6, 7] 3 103 [(6, .ptr 0 0 0), (16, A a1), (18, I a0.fN)] [some ⟨0, Enc.cells (Za.mk 0 0 (ByteArray.mk #[]))⟩] ?_
 obtain ⟨v3, hv4, h⟩ := bindS h
 refine Zah τ_ok 19 hv4 (by kernel_rfl) ?_
 refine veM [6, 7] 2 103 [(6, .ptr 0 0 0)] [sc 0 v3] ?_
 cases h
 exact Zg rz
 refine srveM [6, 7] 103 [(2, A a2), (3, pf a0 0), (6, .ptr 0 0 0), (9, I a0.fKind), (21, B (a0.fKind == 3))] [some ⟨0, Enc.cells (Za.mk 0 0 (ByteArray.mk #[]))⟩] ?_
 refine pc h (fun h => ?_) (fun h => ?_)
 refine Zj ?_
 refine ip 103 [(2, A a2), (6, .ptr 0 0 0)] [some ⟨0, Enc.cells (Za.mk 0 0 (ByteArray.mk #[]))⟩] ?_
 refine pwp_imp (Imp.ghosts 1 (st' := ⟨103, [(2, A a2), (6, .ptr 0 0 0)], [some ⟨0, Enc.cells (Za.mk 0 0 (ByteArray.mk #[]))⟩, some ⟨0, []⟩]⟩) (by kernel_rfl)) ?_
 refine pwp_any ([[], [], [], [], [], [], [], [], [], [], [1], [1]]) ([[], [], [], [], [], [], [], [], [], [], [1], [1]]) rfl (by kernel_rfl) ?_
 refine qvM [6, 7] [] trivial 1 103 [(23, A a2), (2, A a2), (6, .ptr 0 0 0)] [some ⟨0, Enc.cells (Za.mk 0 0 (ByteArray.mk #[]))⟩, some ⟨0, []⟩] ?_
 obtain ⟨v6, hv7, h⟩ := bindS h
 refine qX (some 24) (pf v6 0) 103 [(24, pf v6 0), (2, A a2), (6, .ptr 0 0 0)] [some ⟨0, Enc.cells (Za.mk 0 0 (ByteArray.mk #[]))⟩, some ⟨0, []⟩] (fun Γ' hΓ => CoreE.of_y (Z0 τ_ok (by kernel_rfl) hv7)) trivial ?_
 refine qvM [6, 7] [] trivial 3 103 [(27, A a2), (26, I v6.fN), (2, A a2), (6, .ptr 0 0 0)] [some ⟨0, Enc.cells (Za.mk 0 0 (ByteArray.mk #[]))⟩, some ⟨0, []⟩] ?_
 obtain ⟨v8, hv9, h⟩ := bindS h
 refine qX (some 28) (pf v8 0) 103 [(28, pf v8 0), (26, I v6.fN), (2, A a2), (6, .ptr 0 0 0)] [some ⟨0, Enc.cells (Za.mk 0 0 (ByteArray.mk #[]))⟩, some ⟨0, []⟩] (fun Γ' hΓ => CoreE.of_y (Z0 τ_ok (by kernel_rfl) hv9)) trivial ?_
 refine qvM [6, 7] [] trivial 4 103 [(32, E (Za.mk 1 (w64 (v6.fN + v8.fN)) (ByteArray.mk #[]))), (2, A a2), (6, .ptr 0 0 0)] [some ⟨0, Enc.cells (Za.mk 0 0 (ByteArray.mk #[]))⟩, some ⟨0, []⟩] ?_
 refine qX (Hm' := [none, some ⟨1, Enc.cells (Za.mk 0 0 (ByteArray.mk #[]))⟩]) (some 7) (.ptr 1 1 0) 103 [(7, .ptr 1 1 0), (32, E (Za.mk 1 (w64 (v6.fN + v8.fN)) (ByteArray.mk #[]))), (2, A a2), (6, .ptr 0 0 0)] [some ⟨0, Enc.cells (Za.mk 0 0 (ByteArray.mk #[]))⟩, some ⟨1, Enc.cells (Za.mk 0 0 (ByteArray.mk #[]))⟩] (fun Γ' hΓ => alc_E (blk := ⟨0, []⟩) τ_ok [6, 7] 7 1 0 (ny hΓ hX) (by kernel_rfl) (by kernel_rfl)) (hB trivial) ?_
 refine qX (Hm' := [none, some ⟨1, Enc.cells (Za.mk 1 (w64 (v6.fN + v8.fN)) (ByteArray.mk #[]))⟩]) none (.any) 103 [(7, .ptr 1 1 0), (2, A a2), (6, .ptr 0 0 0)] [some ⟨0, Enc.cells (Za.mk 0 0 (ByteArray.mk #[]))⟩, some ⟨1, Enc.cells (Za.mk 1 (w64 (v6.fN + v8.fN)) (ByteArray.mk #[]))⟩] (fun Γ' hΓ => sto_E τ_ok 1 1 (by kernel_rfl)) (hB trivial) ?_
 refine qn 103 [(2, A a2), (6, .ptr 0 0 0), (7, .ptr 1 1 0)] [some ⟨0, Enc.cells (Za.mk 0 0 (ByteArray.mk #[]))⟩, some ⟨1, Enc.cells (Za.mk 1 (w64 (v6.fN + v8.fN)) (ByteArray.mk #[]))⟩] ?_
 refine Zj ?_
 refine Zj ?_
 refine Z5 (σ := Bool) (fun x10 => (⟨103, [(6, .ptr 0 0 0), (7, .ptr 1 1 0), (49, B x10)], [some ⟨0, Enc.cells (Za.mk 0 0 (ByteArray.mk #[]))⟩, some ⟨1, Enc.cells (Za.mk 1 (w64 (v6.fN + v8.fN)) (ByteArray.mk #[]))⟩]⟩ : St)) (fun x10 => Zbc v6 v8 x10 = some y) ?_ ?_
 refine rvM [6, 7] 1 103 [(2, A a2), (6, .ptr 0 0 0), (7, .ptr 1 1 0), (33, A a2)] [some ⟨0, Enc.cells (Za.mk 0 0 (ByteArray.mk #[]))⟩, some ⟨1, Enc.cells (Za.mk 1 (w64 (v6.fN + v8.fN)) (ByteArray.mk #[]))⟩] ?_
 obtain ⟨v12, hv13, h⟩ := bindS h
 refine Zah τ_ok 34 hv13 (by kernel_rfl) ?_
 refine vM [6, 7] 4 103 [(2, A a2), (6, .ptr 0 0 0), (7, .ptr 1 1 0), (38, B (v12.fKind == 0))] [some ⟨0, Enc.cells (Za.mk 0 0 (ByteArray.mk #[]))⟩, some ⟨1, Enc.cells (Za.mk 1 (w64 (v6.fN + v8.fN)) (ByteArray.mk #[]))⟩] ?_
 rcases fk (v12.fKind == 0) with hc19 | hc19
 replace h := bT hc19 h
 rw [hc19]
 refine veM [6, 7] 11 103 [(6, .ptr 0 0 0), (7, .ptr 1 1 0), (49, B true)] [some ⟨0, Enc.cells (Za.mk 0 0 (ByteArray.mk #[]))⟩, some ⟨1, Enc.cells (Za.mk 1 (w64 (v6.fN + v8.fN)) (ByteArray.mk #[]))⟩] ?_
 exact ⟨true, h, it [6, 7, 49]⟩
 replace h := bF hc19 h
 rw [hc19]
 refine vM [6, 7] 1 103 [(6, .ptr 0 0 0), (7, .ptr 1 1 0), (38, B false), (39, A a2)] [some ⟨0, Enc.cells (Za.mk 0 0 (ByteArray.mk #[]))⟩, some ⟨1, Enc.cells (Za.mk 1 (w64 (v6.fN + v8.fN)) (ByteArray.mk #[]))⟩] ?_
 obtain ⟨v14, hv15, h⟩ := bindS h
 refine Zah τ_ok 40 hv15 (by kernel_rfl) ?_
 refine vM [6, 7] 5 103 [(6, .ptr 0 0 0), (7, .ptr 1 1 0), (45, B (v14.fKind == 0))] [some ⟨0, Enc.cells (Za.mk 0 0 (ByteArray.mk #[]))⟩, some ⟨1, Enc.cells (Za.mk 1 (w64 (v6.fN + v8.fN)) (ByteArray.mk #[]))⟩] ?_
 rcases fk (v14.fKind == 0) with hc18 | hc18
 replace h := bT hc18 h
 rw [hc18]
 refine veM [6, 7] 4 103 [(6, .ptr 0 0 0), (7, .ptr 1 1 0), (49, B true)] [some ⟨0, Enc.cells (Za.mk 0 0 (ByteArray.mk #[]))⟩, some ⟨1, Enc.cells (Za.mk 1 (w64 (v6.fN + v8.fN)) (ByteArray.mk #[]))⟩] ?_
 exact ⟨true, h, it [6, 7, 49]⟩
 replace h := bF hc18 h
 rw [hc18]
 refine vM [6, 7] 1 103 [(6, .ptr 0 0 0), (7, .ptr 1 1 0), (45, B false), (46, E (Za.mk 1 (w64 (v6.fN + v8.fN)) (ByteArray.mk #[])))] [some ⟨0, Enc.cells (Za.mk 0 0 (ByteArray.mk #[]))⟩, some ⟨1, Enc.cells (Za.mk 1 (w64 (v6.fN + v8.fN)) (ByteArray.mk #[]))⟩] ?_
 obtain ⟨v16, hv17, h⟩ := bindS h
 refine cF 47 (ok_impl_Value_ok hv17) ?_
 refine veM [6, 7] 2 103 [(6, .ptr 0 0 0), (7, .ptr 1 1 0), (49, B (!v16))] [some ⟨0, Enc.cells (Za.mk 0 0 (ByteArray.mk #[]))⟩, some ⟨1, Enc.cells (Za.mk 1 (w64 (v6.fN + v8.fN)) (ByteArray.mk #[]))⟩] ?_
 exact ⟨(!v16), h, it [6, 7, 49]⟩
 rintro x10 h
 unfold Zbc at h
 refine pc h (fun h => ?_) (fun h => ?_)
 refine srveM [6, 7] 103 [(6, .ptr 0 0 0)] [some ⟨0, Enc.cells (Za.mk 0 0 (ByteArray.mk #[]))⟩, some ⟨1, Enc.cells (Za.mk 1 (w64 (v6.fN + v8.fN)) (ByteArray.mk #[]))⟩] ?_
 cases h
 exact Zg rz
 refine Zl ?_
 refine srveM [6, 7] 103 [(6, .ptr 0 0 0)] [some ⟨0, Enc.cells (Za.mk 1 (w64 (v6.fN + v8.fN)) (ByteArray.mk #[]))⟩, some ⟨1, Enc.cells (Za.mk 1 (w64 (v6.fN + v8.fN)) (ByteArray.mk #[]))⟩] ?_
 cases h
 exact Zg rz
 refine srveM [6, 7] 103 [(2, A a2), (3, pf a0 0), (6, .ptr 0 0 0), (9, I a0.fKind), (52, B (a0.fKind == 4))] [some ⟨0, Enc.cells (Za.mk 0 0 (ByteArray.mk #[]))⟩] ?_
 refine pc h (fun h => ?_) (fun h => ?_)
 refine Zj ?_
 refine ip 103 [(2, A a2), (3, pf a0 0), (6, .ptr 0 0 0)] [some ⟨0, Enc.cells (Za.mk 0 0 (ByteArray.mk #[]))⟩] ?_
 refine pwp_any ([[], [], [], [], [], [], [], [], [], [], [0]]) ([[], [], [], [], [], [], [], [], [], [], [0]]) rfl (by kernel_rfl) ?_
 refine qvM [6, 7] [] trivial 3 103 [(56, A a2), (55, I a0.fN), (2, A a2), (6, .ptr 0 0 0)] [some ⟨0, Enc.cells (Za.mk 0 0 (ByteArray.mk #[]))⟩] ?_
 obtain ⟨v21, hv22, h⟩ := bindS h
 refine qX (some 57) (pf v21 0) 103 [(57, pf v21 0), (55, I a0.fN), (2, A a2), (6, .ptr 0 0 0)] [some ⟨0, Enc.cells (Za.mk 0 0 (ByteArray.mk #[]))⟩] (fun Γ' hΓ => CoreE.of_y (Z0 τ_ok (by kernel_rfl) hv22)) trivial ?_
 refine qvM [6, 7] [] trivial 2 103 [(59, A a2), (58, E v21), (55, I a0.fN), (6, .ptr 0 0 0)] [some ⟨0, Enc.cells (Za.mk 0 0 (ByteArray.mk #[]))⟩] ?_
 obtain ⟨v23, hv24, h⟩ := bindS h
 refine qX (some 60) (pf v23 0) 103 [(60, pf v23 0), (58, E v21), (55, I a0.fN), (6, .ptr 0 0 0)] [some ⟨0, Enc.cells (Za.mk 0 0 (ByteArray.mk #[]))⟩] (fun Γ' hΓ => CoreE.of_y (Z0 τ_ok (by kernel_rfl) hv24)) trivial ?_
 refine qvM [6, 7] [] trivial 1 103 [(61, E v23), (58, E v21), (55, I a0.fN), (6, .ptr 0 0 0)] [some ⟨0, Enc.cells (Za.mk 0 0 (ByteArray.mk #[]))⟩] ?_
 obtain ⟨v25, hv26, h⟩ := bindS h
 refine qX (some 62) (I v25) 103 [(62, I v25), (6, .ptr 0 0 0)] [some ⟨0, Enc.cells (Za.mk 0 0 (ByteArray.mk #[]))⟩] (fun Γ' hΓ => CoreE.of_g (Zr (τ := τ) (by kernel_rfl) rfl (ok_impl_Compare hv26) (FzTo.frz rfl))) trivial ?_
 obtain ⟨v27, hv28, h⟩ := bindS h
 refine qX (some 63) (E v27) 103 [(63, E v27), (6, .ptr 0 0 0)] [some ⟨0, Enc.cells (Za.mk 0 0 (ByteArray.mk #[]))⟩] (fun Γ' hΓ => CoreE.of_g (Zr (τ := τ) (by kernel_rfl) rfl (ok_impl_ValueOf hv28) (FzTo.frz rfl))) trivial ?_
 refine qX (Hm' := [sc 0 v27]) none (.any) 103 [(6, .ptr 0 0 0)] [sc 0 v27] (fun Γ' hΓ => sto_E τ_ok 0 0 (by kernel_rfl)) (hB trivial) ?_
 refine qn 103 [(6, .ptr 0 0 0)] [sc 0 v27] ?_
 cases h
 exact Zg rz
 refine srveM [6, 7] 103 [(2, A a2), (6, .ptr 0 0 0), (9, I a0.fKind), (64, B (a0.fKind == 5))] [some ⟨0, Enc.cells (Za.mk 0 0 (ByteArray.mk #[]))⟩] ?_
 refine pc h (fun h => ?_) (fun h => ?_)
 refine Zj ?_
 refine ip 103 [(2, A a2), (6, .ptr 0 0 0)] [some ⟨0, Enc.cells (Za.mk 0 0 (ByteArray.mk #[]))⟩] ?_
 refine pwp_any ([[], [], [], [], [], [], [], [], [], [], [0]]) ([[], [], [], [], [], [], [], [], [], [], [0]]) rfl (by kernel_rfl) ?_
 refine qvM [6, 7] [] trivial 1 103 [(66, A a2), (2, A a2), (6, .ptr 0 0 0)] [some ⟨0, Enc.cells (Za.mk 0 0 (ByteArray.mk #[]))⟩] ?_
 obtain ⟨v30, hv31, h⟩ := bindS h
 refine qX (some 67) (pf v30 0) 103 [(67, pf v30 0), (2, A a2), (6, .ptr 0 0 0)] [some ⟨0, Enc.cells (Za.mk 0 0 (ByteArray.mk #[]))⟩] (fun Γ' hΓ => CoreE.of_y (Z0 τ_ok (by kernel_rfl) hv31)) trivial ?_
 refine qvM [6, 7] [] trivial 1 103 [(68, E v30), (2, A a2), (6, .ptr 0 0 0)] [some ⟨0, Enc.cells (Za.mk 0 0 (ByteArray.mk #[]))⟩] ?_
 obtain ⟨v32, hv33, h⟩ := bindS h
 refine qX (some 69) (I v32) 103 [(69, I v32), (2, A a2), (6, .ptr 0 0 0)] [some ⟨0, Enc.cells (Za.mk 0 0 (ByteArray.mk #[]))⟩] (fun Γ' hΓ => CoreE.of_g (Zr (τ := τ) (by kernel_rfl) rfl (ok_impl_TruthOf hv33) (FzTo.frz rfl))) trivial ?_
 refine qvM [6, 7] [] trivial 1 103 [(70, A a2), (69, I v32), (6, .ptr 0 0 0)] [some ⟨0, Enc.cells (Za.mk 0 0 (ByteArray.mk #[]))⟩] ?_
 obtain ⟨v34, hv35, h⟩ := bindS h
 refine qX (some 71) (pf v34 0) 103 [(71, pf v34 0), (69, I v32), (6, .ptr 0 0 0)] [some ⟨0, Enc.cells (Za.mk 0 0 (ByteArray.mk #[]))⟩] (fun Γ' hΓ => CoreE.of_y (Z0 τ_ok (by kernel_rfl) hv35)) trivial ?_
 refine qvM [6, 7] [] trivial 1 103 [(72, E v34), (69, I v32), (6, .ptr 0 0 0)] [some ⟨0, Enc.cells (Za.mk 0 0 (ByteArray.mk #[]))⟩] ?_
 obtain ⟨v36, hv37, h⟩ := bindS h
 refine qX (some 73) (I v36) 103 [(73, I v36), (69, I v32), (6, .ptr 0 0 0)] [some ⟨0, Enc.cells (Za.mk 0 0 (ByteArray.mk #[]))⟩] (fun Γ' hΓ => CoreE.of_g (Zr (τ := τ) (by kernel_rfl) rfl (ok_impl_TruthOf hv37) (FzTo.frz rfl))) trivial ?_
 obtain ⟨v38, hv39, h⟩ := bindS h
 refine qX (some 74) (I v38) 103 [(74, I v38), (6, .ptr 0 0 0)] [some ⟨0, Enc.cells (Za.mk 0 0 (ByteArray.mk #[]))⟩] (fun Γ' hΓ => CoreE.of_g (Zr (τ := τ) (by kernel_rfl) rfl (ok_impl_AndOf hv39) (FzTo.frz rfl))) trivial ?_
 obtain ⟨v40, hv41, h⟩ := bindS h
 refine qX (some 75) (E v40) 103 [(75, E v40), (6, .ptr 0 0 0)] [some ⟨0, Enc.cells (Za.mk 0 0 (ByteArray.mk #[]))⟩] (fun Γ' hΓ => CoreE.of_g (Zr (τ := τ) (by kernel_rfl) rfl (ok_impl_ValueOf hv41) (FzTo.frz rfl))) trivial ?_
 refine qX (Hm' := [sc 0 v40]) none (.any) 103 [(6, .ptr 0 0 0)] [sc 0 v40] (fun Γ' hΓ => sto_E τ_ok 0 0 (by kernel_rfl)) (hB trivial) ?_
 refine qn 103 [(6, .ptr 0 0 0)] [sc 0 v40] ?_
 cases h
 exact Zg rz
 refine srveM [6, 7] 103 [(2, A a2), (6, .ptr 0 0 0), (9, I a0.fKind), (76, B (a0.fKind == 6))] [some ⟨0, Enc.cells (Za.mk 0 0 (ByteArray.mk #[]))⟩] ?_
 refine pc h (fun h => ?_) (fun h => ?_)
 refine Zj ?_
 refine ip 103 [(2, A a2), (6, .ptr 0 0 0)] [some ⟨0, Enc.cells (Za.mk 0 0 (ByteArray.mk #[]))⟩] ?_
 refine pwp_any ([[], [], [], [], [], [], [], [], [], [], [0]]) ([[], [], [], [], [], [], [], [], [], [], [0]]) rfl (by kernel_rfl) ?_
 refine qvM [6, 7] [] trivial 1 103 [(78, A a2), (2, A a2), (6, .ptr 0 0 0)] [some ⟨0, Enc.cells (Za.mk 0 0 (ByteArray.mk #[]))⟩] ?_
 obtain ⟨v43, hv44, h⟩ := bindS h
 refine qX (some 79) (pf v43 0) 103 [(79, pf v43 0), (2, A a2), (6, .ptr 0 0 0)] [some ⟨0, Enc.cells (Za.mk 0 0 (ByteArray.mk #[]))⟩] (fun Γ' hΓ => CoreE.of_y (Z0 τ_ok (by kernel_rfl) hv44)) trivial ?_
 refine qvM [6, 7] [] trivial 1 103 [(80, E v43), (2, A a2), (6, .ptr 0 0 0)] [some ⟨0, Enc.cells (Za.mk 0 0 (ByteArray.mk #[]))⟩] ?_
 obtain ⟨v45, hv46, h⟩ := bindS h
 refine qX (some 81) (I v45) 103 [(81, I v45), (2, A a2), (6, .ptr 0 0 0)] [some ⟨0, Enc.cells (Za.mk 0 0 (ByteArray.mk #[]))⟩] (fun Γ' hΓ => CoreE.of_g (Zr (τ := τ) (by kernel_rfl) rfl (ok_impl_TruthOf hv46) (FzTo.frz rfl))) trivial ?_
 refine qvM [6, 7] [] trivial 1 103 [(82, A a2), (81, I v45), (6, .ptr 0 0 0)] [some ⟨0, Enc.cells (Za.mk 0 0 (ByteArray.mk #[]))⟩] ?_
 obtain ⟨v47, hv48, h⟩ := bindS h
 refine qX (some 83) (pf v47 0) 103 [(83, pf v47 0), (81, I v45), (6, .ptr 0 0 0)] [some ⟨0, Enc.cells (Za.mk 0 0 (ByteArray.mk #[]))⟩] (fun Γ' hΓ => CoreE.of_y (Z0 τ_ok (by kernel_rfl) hv48)) trivial ?_
 refine qvM [6, 7] [] trivial 1 103 [(84, E v47), (81, I v45), (6, .ptr 0 0 0)] [some ⟨0, Enc.cells (Za.mk 0 0 (ByteArray.mk #[]))⟩] ?_
 obtain ⟨v49, hv50, h⟩ := bindS h
 refine qX (some 85) (I v49) 103 [(85, I v49), (81, I v45), (6, .ptr 0 0 0)] [some ⟨0, Enc.cells (Za.mk 0 0 (ByteArray.mk #[]))⟩] (fun Γ' hΓ => CoreE.of_g (Zr (τ := τ) (by kernel_rfl) rfl (ok_impl_TruthOf hv50) (FzTo.frz rfl))) trivial ?_
 obtain ⟨v51, hv52, h⟩ := bindS h
 refine qX (some 86) (I v51) 103 [(86, I v51), (6, .ptr 0 0 0)] [some ⟨0, Enc.cells (Za.mk 0 0 (ByteArray.mk #[]))⟩] (fun Γ' hΓ => CoreE.of_g (Zr (τ := τ) (by kernel_rfl) rfl (ok_impl_OrOf hv52) (FzTo.frz rfl))) trivial ?_
 obtain ⟨v53, hv54, h⟩ := bindS h
 refine qX (some 87) (E v53) 103 [(87, E v53), (6, .ptr 0 0 0)] [some ⟨0, Enc.cells (Za.mk 0 0 (ByteArray.mk #[]))⟩] (fun Γ' hΓ => CoreE.of_g (Zr (τ := τ) (by kernel_rfl) rfl (ok_impl_ValueOf hv54) (FzTo.frz rfl))) trivial ?_
 refine qX (Hm' := [sc 0 v53]) none (.any) 103 [(6, .ptr 0 0 0)] [sc 0 v53] (fun Γ' hΓ => sto_E τ_ok 0 0 (by kernel_rfl)) (hB trivial) ?_
 refine qn 103 [(6, .ptr 0 0 0)] [sc 0 v53] ?_
 cases h
 exact Zg rz
 refine srveM [6, 7] 103 [(2, A a2), (6, .ptr 0 0 0), (88, B (a0.fKind == 7))] [some ⟨0, Enc.cells (Za.mk 0 0 (ByteArray.mk #[]))⟩] ?_
 refine pc h (fun h => ?_) (fun h => ?_)
 refine srvM [6, 7] 1 103 [(6, .ptr 0 0 0), (90, A a2)] [some ⟨0, Enc.cells (Za.mk 0 0 (ByteArray.mk #[]))⟩] ?_
 obtain ⟨v56, hv57, h⟩ := bindS h
 refine Zah τ_ok 91 hv57 (by kernel_rfl) ?_
 refine vM [6, 7] 1 103 [(6, .ptr 0 0 0), (92, E v56)] [some ⟨0, Enc.cells (Za.mk 0 0 (ByteArray.mk #[]))⟩] ?_
 obtain ⟨v58, hv59, h⟩ := bindS h
 refine cF 93 (ok_impl_TruthOf hv59) ?_
 obtain ⟨v60, hv61, h⟩ := bindS h
 refine cF 94 (ok_impl_NotOf hv61) ?_
 obtain ⟨v62, hv63, h⟩ := bindS h
 refine cF 95 (ok_impl_ValueOf hv63) ?_
 refine veM [6, 7] 1 103 [(6, .ptr 0 0 0)] [sc 0 v62] ?_
 cases h
 exact Zg rz
 refine Zl ?_
 refine srvM [6, 7] 1 103 [(6, .ptr 0 0 0), (96, A a2)] [some ⟨0, Enc.cells (Za.mk 0 0 (ByteArray.mk #[]))⟩] ?_
 obtain ⟨v64, hv65, h⟩ := bindS h
 refine Zah τ_ok 97 hv65 (by kernel_rfl) ?_
 refine vM [6, 7] 3 103 [(6, .ptr 0 0 0), (100, B (v64.fKind == 0))] [some ⟨0, Enc.cells (Za.mk 0 0 (ByteArray.mk #[]))⟩] ?_
 obtain ⟨v66, hv67, h⟩ := bindS h
 refine cF 101 (Z7 hv67) ?_
 obtain ⟨v68, hv69, h⟩ := bindS h
 refine cF 102 (ok_impl_ValueOf hv69) ?_
 refine veM [6, 7] 1 103 [(6, .ptr 0 0 0)] [sc 0 v68] ?_
 cases h
 exact Zg rz
def impl_RowsOk (a0 : List Zf) (a1 : List (List Za)) : Option Bool := (impl_ColumnsOk a0).bind fun v1 => bif v1 then (Zq a1 (fun z0 => impl_RowsOk_1 z0 a0)).bind fun v3 => some (!v3) else some false
theorem ok_impl_RowsOk {a0 : List Zf} {a1 : List (List Za)} {y : Bool} (h : impl_RowsOk a0 a1 = some y) : OK Tryz.prog 28 [A a0, A a1] (B y) := by
 refine ow Tryz.func28 fun Γ hX => ?_
 unfold impl_RowsOk at h
 refine srve 13 [(1, A a1), (2, pf a0 0)] [] ?_
 refine srv 1 13 [(1, A a1), (2, pf a0 0), (5, A a0)] [] ?_
 obtain ⟨v1, hv2, h⟩ := bindS h
 refine cF 6 (ok_impl_ColumnsOk hv2) ?_
 refine v 1 13 [(1, A a1), (2, pf a0 0), (7, B v1)] [] ?_
 rcases Bool.eq_false_or_eq_true v1 with hc5 | hc5
 replace h := bT hc5 h
 rw [hc5]
 refine v 2 13 [(7, B true), (8, A a1), (9, .fn 74 [pf a0 0])] [] ?_
 obtain ⟨v3, hv4, h⟩ := bindS h
 refine cF 10 (Za0 (rfl) (fun _ w hw => ok_impl_RowsOk_1 hw) hv4) ?_
 refine ve 3 13 [(4, B (!v3))] [] ?_
 cases h
 exact Zg rz
 replace h := bF hc5 h
 rw [hc5]
 refine ve 6 13 [(4, B false)] [] ?_
 cases h
 exact Zg rz
def impl_TablesOk_1 (a0 : Ze) : Option Bool := (impl_ColumnsOk a0.fColumns).bind fun v1 => bif (!v1) then some true else bif (decide ((a0.fRows.length : Int) > 6)) then some true else (impl_RowsOk a0.fColumns a0.fRows).bind fun v3 => some (!v3)
theorem ok_impl_TablesOk_1 {a0 : Ze} {y : Bool} (h : impl_TablesOk_1 a0 = some y) : OK Tryz.prog 55 [E a0] (B y) := by
 refine ow Tryz.func55 fun Γ hX => ?_
 unfold impl_TablesOk_1 at h
 refine srve 21 [(1, pf a0 0)] [] ?_
 refine srv 2 21 [(1, pf a0 0), (4, A a0.fColumns)] [] ?_
 obtain ⟨v1, hv2, h⟩ := bindS h
 refine cF 5 (ok_impl_ColumnsOk hv2) ?_
 refine v 2 21 [(1, pf a0 0), (7, B (!v1))] [] ?_
 rcases fk (!v1) with hc6 | hc6
 replace h := bT hc6 h
 rw [hc6]
 refine ve 14 21 [(2, B true)] [] ?_
 cases h
 exact Zg rz
 replace h := bF hc6 h
 rw [hc6]
 refine v 6 21 [(1, pf a0 0), (13, B (decide ((a0.fRows.length : Int) > 6)))] [] ?_
 rcases fk (decide ((a0.fRows.length : Int) > 6)) with hc5 | hc5
 replace h := bT hc5 h
 rw [hc5]
 refine ve 8 21 [(2, B true)] [] ?_
 cases h
 exact Zg rz
 replace h := bF hc5 h
 rw [hc5]
 refine v 4 21 [(13, B false), (15, A a0.fColumns), (17, A a0.fRows)] [] ?_
 obtain ⟨v3, hv4, h⟩ := bindS h
 refine cF 18 (ok_impl_RowsOk hv4) ?_
 refine ve 3 21 [(2, B (!v3))] [] ?_
 cases h
 exact Zg rz
def spec_l12Broken_j1 (x3 : Int) (K5 : Int → Option Int) : Option Int := K5 (w64 (x3 + 1))
def spec_l12Broken_j3 (a1 : Zb) (v1 : Ze) (x3 : Int) (K5 : Int → Option Int) (v18 : List Za) (x20 : Int) (K22 : Int → Option Int) (x23 : Bool) : Option Int := bif x23 then (getI v1.fRows x20).bind fun v25 => (spec_l6Taken v25 a1.fList).bind fun v27 => (spec_l3Same v27 v18).bind fun v29 => bif v29 then some x3 else K22 (w64 (x20 + 1)) else spec_l12Broken_j1 x3 K5
def Zat (a1 : Zb) (v1 : Ze) (x3 : Int) (K5 : Int → Option Int) (v18 : List Za) : Nat → Int → Option Int
 | 0, _ => none
 | f21 + 1, x20 => bif (decide (x20 < x3)) then (spec_l12None v18).bind fun v32 => spec_l12Broken_j3 a1 v1 x3 K5 v18 x20 (Zat a1 v1 x3 K5 v18 f21) (!v32) else spec_l12Broken_j3 a1 v1 x3 K5 v18 x20 (Zat a1 v1 x3 K5 v18 f21) false
def spec_l12Broken_j5 (a0 : List Ze) (a1 : Zb) (x3 : Int) (K5 : Int → Option Int) (v38 : List Za) (x42 : Bool) (x43 : Int) (K45 : Bool → Int → Option Int) (x46 : Bool) : Option Int := bif x46 then (getI a0 a1.fOf).bind fun v48 => (getI v48.fRows x43).bind fun v50 => (spec_l6Taken v50 a1.fTo).bind fun v52 => (spec_l3Same v52 v38).bind fun v54 => K45 v54 (w64 (x43 + 1)) else bif (!x42) then some x3 else spec_l12Broken_j1 x3 K5
def Zba (a0 : List Ze) (a1 : Zb) (x3 : Int) (K5 : Int → Option Int) (v38 : List Za) : Nat → Bool → Int → Option Int
 | 0, _, _ => none
 | f44 + 1, x42, x43 => (getI a0 a1.fOf).bind fun v57 => bif (decide (x43 < (v57.fRows.length : Int))) then spec_l12Broken_j5 a0 a1 x3 K5 v38 x42 x43 (Zba a0 a1 x3 K5 v38 f44) (!x42) else spec_l12Broken_j5 a0 a1 x3 K5 v38 x42 x43 (Zba a0 a1 x3 K5 v38 f44) false
def Zy (a0 : List Ze) (a1 : Zb) (v1 : Ze) : Nat → Int → Option Int
 | 0, _ => none
 | f4 + 1, x3 => bif (decide (x3 < (v1.fRows.length : Int))) then bif (a1.fKind == 3) then (getI v1.fRows x3).bind fun v8 => (spec_l4Value v8 a1.fE).bind fun v10 => (spec_ValueOf 0).bind fun v12 => bif (Zz v10 v12) then some x3 else spec_l12Broken_j1 x3 (Zy a0 a1 v1 f4) else bif (a1.fKind == 1) then (getI v1.fRows x3).bind fun v16 => (spec_l6Taken v16 a1.fList).bind fun v18 => Zat a1 v1 x3 (Zy a0 a1 v1 f4) v18 FUEL 0 else bif (a1.fKind == 2) then (getI v1.fRows x3).bind fun v36 => (spec_l6Taken v36 a1.fList).bind fun v38 => (spec_l12None v38).bind fun v40 => Zba a0 a1 x3 (Zy a0 a1 v1 f4) v38 FUEL v40 0 else spec_l12Broken_j1 x3 (Zy a0 a1 v1 f4) else some (-1)
def spec_l12Broken (a0 : List Ze) (a1 : Zb) : Option Int := (getI a0 a1.fIn).bind fun v1 => Zy a0 a1 v1 FUEL 0
theorem ok_spec_l12Broken {a0 : List Ze} {a1 : Zb} {y : Int} (h : spec_l12Broken a0 a1 = some y) : OK Tryz.prog 59 [A a0, E a1] (I y) := by
 refine ow Tryz.func59 fun Γ hX => ?_
 unfold spec_l12Broken at h
 refine srve 110 [(0, A a0), (3, pf a1 0)] [] ?_
 refine srv 3 110 [(0, A a0), (3, pf a1 0), (12, A a0), (14, I a1.fIn)] [] ?_
 obtain ⟨v1, hv2, h⟩ := bindS h
 refine Zah τ_ok 15 hv2 (by kernel_rfl) ?_
 refine ve 3 110 [(0, A a0), (3, pf a1 0), (5, A v1.fRows)] [] ?_
 refine Zj ?_
 refine srve 110 [(0, A a0), (3, pf a1 0), (5, A v1.fRows), (6, I 0)] [] ?_
 refine Zm ?_
 refine Zan (ι := Nat × Int) (fun (f4, x3) => (⟨110, [(0, A a0), (3, pf a1 0), (5, A v1.fRows), (6, I x3)], []⟩ : St)) (fun (f4, x3) => Zy a0 a1 v1 f4 x3 = some y) Prod.fst (FUEL, 0) h (it [0, 3, 5, 6]) ?_
 rintro ⟨f4, x3⟩ h
 dsimp only at h ⊢
 rcases f4 with _ | f4
 cases h
 rw [Zy] at h
 refine Zj ?_
 refine srve 110 [(0, A a0), (3, pf a1 0), (5, A v1.fRows), (6, I x3), (21, B (decide (x3 < (v1.fRows.length : Int))))] [] ?_
 refine pc h (fun h => ?_) (fun h => ?_)
 refine Zl ?_
 refine Zj ?_
 refine Z5 (σ := Unit) (fun _ => (⟨110, [(0, A a0), (3, pf a1 0), (5, A v1.fRows), (6, I x3)], []⟩ : St)) (fun _ => spec_l12Broken_j1 x3 (Zy a0 a1 v1 f4) = some y) ?_ ?_
 refine Zm ?_
 refine srve 110 [(0, A a0), (3, pf a1 0), (5, A v1.fRows), (6, I x3), (25, I a1.fKind)] [] ?_
 refine Zm ?_
 refine srve 110 [(0, A a0), (3, pf a1 0), (5, A v1.fRows), (6, I x3), (25, I a1.fKind), (26, B (a1.fKind == 3))] [] ?_
 refine pc h (fun h => ?_) (fun h => ?_)
 refine Zj ?_
 refine ip 110 [(0, A a0), (3, pf a1 0), (5, A v1.fRows), (6, I x3)] [] ?_
 refine pN 9 ?_
 refine qv [] trivial 2 110 [(29, I x3), (28, A v1.fRows), (0, A a0), (3, pf a1 0), (5, A v1.fRows), (6, I x3)] [] ?_
 obtain ⟨v8, hv9, h⟩ := bindS h
 refine qX (some 30) (pf v8 0) 110 [(30, pf v8 0), (0, A a0), (3, pf a1 0), (5, A v1.fRows), (6, I x3)] [] (fun Γ' hΓ => CoreE.of_y (Z0 τ_ok (by kernel_rfl) hv9)) trivial ?_
 refine qv [] trivial 3 110 [(33, A a1.fE), (31, A v8), (0, A a0), (3, pf a1 0), (5, A v1.fRows), (6, I x3)] [] ?_
 obtain ⟨v10, hv11, h⟩ := bindS h
 refine qX (some 34) (E v10) 110 [(34, E v10), (0, A a0), (3, pf a1 0), (5, A v1.fRows), (6, I x3)] [] (fun Γ' hΓ => CoreE.of_g (Zr (τ := τ) (by kernel_rfl) rfl (ok_spec_l4Value hv11) (FzTo.frz rfl))) trivial ?_
 obtain ⟨v12, hv13, h⟩ := bindS h
 refine qX (some 35) (E v12) 110 [(35, E v12), (34, E v10), (0, A a0), (3, pf a1 0), (5, A v1.fRows), (6, I x3)] [] (fun Γ' hΓ => CoreE.of_g (Zr (τ := τ) (by kernel_rfl) rfl (ok_spec_ValueOf hv13) (FzTo.frz rfl))) trivial ?_
 refine qvn [] trivial 1 110 [(0, A a0), (3, pf a1 0), (5, A v1.fRows), (6, I x3), (36, B (Zz v10 v12))] [] ?_
 refine pc h (fun h => ?_) (fun h => ?_)
 refine srve 110 [(4, I x3)] [] ?_
 cases h
 exact Zg rz
 refine Zl ?_
 exact ⟨(), h, it [0, 3, 5, 6]⟩
 refine srve 110 [(0, A a0), (3, pf a1 0), (5, A v1.fRows), (6, I x3), (25, I a1.fKind), (38, B (a1.fKind == 1))] [] ?_
 refine pc h (fun h => ?_) (fun h => ?_)
 refine Zj ?_
 refine ip 110 [(0, A a0), (3, pf a1 0), (5, A v1.fRows), (6, I x3)] [] ?_
 refine pN 8 ?_
 refine qv [] trivial 2 110 [(41, I x3), (40, A v1.fRows), (0, A a0), (3, pf a1 0), (5, A v1.fRows), (6, I x3)] [] ?_
 obtain ⟨v16, hv17, h⟩ := bindS h
 refine qX (some 42) (pf v16 0) 110 [(42, pf v16 0), (0, A a0), (3, pf a1 0), (5, A v1.fRows), (6, I x3)] [] (fun Γ' hΓ => CoreE.of_y (Z0 τ_ok (by kernel_rfl) hv17)) trivial ?_
 refine qv [] trivial 3 110 [(45, A a1.fList), (43, A v16), (0, A a0), (3, pf a1 0), (5, A v1.fRows), (6, I x3)] [] ?_
 obtain ⟨v18, hv19, h⟩ := bindS h
 refine qX (some 46) (A v18) 110 [(46, A v18), (0, A a0), (3, pf a1 0), (5, A v1.fRows), (6, I x3)] [] (fun Γ' hΓ => CoreE.of_g (Zr (τ := τ) (by kernel_rfl) rfl (ok_spec_l6Taken hv19) (FzTo.O _))) trivial ?_
 refine qvn [] trivial 1 110 [(0, A a0), (3, pf a1 0), (5, A v1.fRows), (6, I x3), (7, A v18)] [] ?_
 refine srve 110 [(0, A a0), (3, pf a1 0), (5, A v1.fRows), (6, I x3), (7, A v18), (8, I 0)] [] ?_
 refine Zm ?_
 refine Zan (ι := Nat × Int) (fun (f21, x20) => (⟨110, [(0, A a0), (3, pf a1 0), (5, A v1.fRows), (6, I x3), (7, A v18), (8, I x20)], []⟩ : St)) (fun (f21, x20) => Zat a1 v1 x3 (Zy a0 a1 v1 f4) v18 f21 x20 = some y) Prod.fst (FUEL, 0) h (it [0, 3, 5, 6, 7, 8]) ?_
 rintro ⟨f21, x20⟩ h
 dsimp only at h ⊢
 rcases f21 with _ | f21
 cases h
 rw [Zat] at h
 refine Zj ?_
 refine Zj ?_
 refine Z5 (σ := Bool) (fun x23 => (⟨110, [(0, A a0), (3, pf a1 0), (5, A v1.fRows), (6, I x3), (7, A v18), (8, I x20), (54, B x23)], []⟩ : St)) (fun x23 => spec_l12Broken_j3 a1 v1 x3 (Zy a0 a1 v1 f4) v18 x20 (Zat a1 v1 x3 (Zy a0 a1 v1 f4) v18 f21) x23 = some y) ?_ ?_
 refine rv 4 110 [(0, A a0), (3, pf a1 0), (5, A v1.fRows), (6, I x3), (7, A v18), (8, I x20), (50, B (decide (x20 < x3)))] [] ?_
 rcases fk (decide (x20 < x3)) with hc34 | hc34
 replace h := bT hc34 h
 rw [hc34]
 refine v 1 110 [(0, A a0), (3, pf a1 0), (5, A v1.fRows), (6, I x3), (7, A v18), (8, I x20), (50, B true), (51, A v18)] [] ?_
 obtain ⟨v32, hv33, h⟩ := bindS h
 refine cF 52 (ok_spec_l12None hv33) ?_
 refine ve 2 110 [(0, A a0), (3, pf a1 0), (5, A v1.fRows), (6, I x3), (7, A v18), (8, I x20), (51, A v18), (52, B v32), (53, B (!v32)), (54, B (!v32))] [] ?_
 exact ⟨(!v32), h, it [0, 3, 5, 6, 7, 8, 54]⟩
 replace h := bF hc34 h
 rw [hc34]
 refine ve 4 110 [(0, A a0), (3, pf a1 0), (5, A v1.fRows), (6, I x3), (7, A v18), (8, I x20), (51, .lit undef), (52, .lit undef), (53, .lit undef), (54, B false)] [] ?_
 exact ⟨false, h, it [0, 3, 5, 6, 7, 8, 54]⟩
 rintro x23 h
 unfold spec_l12Broken_j3 at h
 refine pc h (fun h => ?_) (fun h => ?_)
 refine Zl ?_
 refine Zj ?_
 refine Zm ?_
 refine Zj ?_
 refine ip 110 [(0, A a0), (3, pf a1 0), (5, A v1.fRows), (6, I x3), (7, A v18), (8, I x20)] [] ?_
 refine pN 9 ?_
 refine qv [] trivial 2 110 [(58, I x20), (57, A v1.fRows), (0, A a0), (3, pf a1 0), (5, A v1.fRows), (6, I x3), (7, A v18), (8, I x20)] [] ?_
 obtain ⟨v25, hv26, h⟩ := bindS h
 refine qX (some 59) (pf v25 0) 110 [(59, pf v25 0), (0, A a0), (3, pf a1 0), (5, A v1.fRows), (6, I x3), (7, A v18), (8, I x20)] [] (fun Γ' hΓ => CoreE.of_y (Z0 τ_ok (by kernel_rfl) hv26)) trivial ?_
 refine qv [] trivial 3 110 [(62, A a1.fList), (60, A v25), (0, A a0), (3, pf a1 0), (5, A v1.fRows), (6, I x3), (7, A v18), (8, I x20)] [] ?_
 obtain ⟨v27, hv28, h⟩ := bindS h
 refine qX (some 63) (A v27) 110 [(63, A v27), (0, A a0), (3, pf a1 0), (5, A v1.fRows), (6, I x3), (7, A v18), (8, I x20)] [] (fun Γ' hΓ => CoreE.of_g (Zr (τ := τ) (by kernel_rfl) rfl (ok_spec_l6Taken hv28) (FzTo.O _))) trivial ?_
 refine qv [] trivial 1 110 [(64, A v18), (63, A v27), (0, A a0), (3, pf a1 0), (5, A v1.fRows), (6, I x3), (7, A v18), (8, I x20)] [] ?_
 obtain ⟨v29, hv30, h⟩ := bindS h
 refine qX (some 65) (B v29) 110 [(65, B v29), (0, A a0), (3, pf a1 0), (5, A v1.fRows), (6, I x3), (7, A v18), (8, I x20)] [] (fun Γ' hΓ => CoreE.of_g (Zr (τ := τ) (by kernel_rfl) rfl (ok_spec_l3Same hv30) (FzTo.frz rfl))) trivial ?_
 refine qn 110 [(0, A a0), (3, pf a1 0), (5, A v1.fRows), (6, I x3), (7, A v18), (8, I x20), (65, B v29)] [] ?_
 refine pc h (fun h => ?_) (fun h => ?_)
 refine srve 110 [(4, I x3)] [] ?_
 cases h
 exact Zg rz
 refine Zl ?_
 refine rve 110 [(0, A a0), (3, pf a1 0), (5, A v1.fRows), (6, I x3), (7, A v18), (8, I (w64 (x20 + 1)))] [] ?_
 exact ⟨(f21, (w64 (x20 + 1))), h, Nat.lt_succ_self _, it [0, 3, 5, 6, 7, 8]⟩
 refine Zam ?_
 exact ⟨(), h, it [0, 3, 5, 6]⟩
 refine srve 110 [(0, A a0), (3, pf a1 0), (5, A v1.fRows), (6, I x3), (67, B (a1.fKind == 2))] [] ?_
 refine pc h (fun h => ?_) (fun h => ?_)
 refine Zj ?_
 refine ip 110 [(0, A a0), (3, pf a1 0), (5, A v1.fRows), (6, I x3)] [] ?_
 refine pN 8 ?_
 refine qv [] trivial 2 110 [(70, I x3), (69, A v1.fRows), (0, A a0), (3, pf a1 0), (5, A v1.fRows), (6, I x3)] [] ?_
 obtain ⟨v36, hv37, h⟩ := bindS h
 refine qX (some 71) (pf v36 0) 110 [(71, pf v36 0), (0, A a0), (3, pf a1 0), (5, A v1.fRows), (6, I x3)] [] (fun Γ' hΓ => CoreE.of_y (Z0 τ_ok (by kernel_rfl) hv37)) trivial ?_
 refine qv [] trivial 3 110 [(74, A a1.fList), (72, A v36), (0, A a0), (3, pf a1 0), (5, A v1.fRows), (6, I x3)] [] ?_
 obtain ⟨v38, hv39, h⟩ := bindS h
 refine qX (some 75) (A v38) 110 [(75, A v38), (0, A a0), (3, pf a1 0), (5, A v1.fRows), (6, I x3)] [] (fun Γ' hΓ => CoreE.of_g (Zr (τ := τ) (by kernel_rfl) rfl (ok_spec_l6Taken hv39) (FzTo.O _))) trivial ?_
 refine qvn [] trivial 1 110 [(0, A a0), (3, pf a1 0), (5, A v1.fRows), (6, I x3), (9, A v38)] [] ?_
 refine srv 1 110 [(0, A a0), (3, pf a1 0), (5, A v1.fRows), (6, I x3), (9, A v38), (76, A v38)] [] ?_
 obtain ⟨v40, hv41, h⟩ := bindS h
 refine cF 77 (ok_spec_l12None hv41) ?_
 refine ve 1 110 [(0, A a0), (3, pf a1 0), (5, A v1.fRows), (6, I x3), (9, A v38), (10, B v40)] [] ?_
 refine Zj ?_
 refine srve 110 [(0, A a0), (3, pf a1 0), (5, A v1.fRows), (6, I x3), (9, A v38), (10, B v40), (11, I 0)] [] ?_
 refine Zm ?_
 refine Zan (ι := Nat × Bool × Int) (fun (f44, x42, x43) => (⟨110, [(0, A a0), (3, pf a1 0), (5, A v1.fRows), (6, I x3), (9, A v38), (10, B x42), (11, I x43)], []⟩ : St)) (fun (f44, x42, x43) => Zba a0 a1 x3 (Zy a0 a1 v1 f4) v38 f44 x42 x43 = some y) Prod.fst (FUEL, v40, 0) h (it [0, 3, 5, 6, 9, 10, 11]) ?_
 rintro ⟨f44, x42, x43⟩ h
 dsimp only at h ⊢
 rcases f44 with _ | f44
 cases h
 rw [Zba] at h
 refine Zj ?_
 refine Zj ?_
 refine Z5 (σ := Bool) (fun x46 => (⟨110, [(0, A a0), (3, pf a1 0), (5, A v1.fRows), (6, I x3), (9, A v38), (10, B x42), (11, I x43), (90, B x46)], []⟩ : St)) (fun x46 => spec_l12Broken_j5 a0 a1 x3 (Zy a0 a1 v1 f4) v38 x42 x43 (Zba a0 a1 x3 (Zy a0 a1 v1 f4) v38 f44) x46 = some y) ?_ ?_
 refine rv 4 110 [(0, A a0), (3, pf a1 0), (5, A v1.fRows), (6, I x3), (9, A v38), (10, B x42), (11, I x43), (78, I x43), (79, A a0), (81, I a1.fOf)] [] ?_
 obtain ⟨v57, hv58, h⟩ := bindS h
 refine Zah τ_ok 82 hv58 (by kernel_rfl) ?_
 refine v 5 110 [(0, A a0), (3, pf a1 0), (5, A v1.fRows), (6, I x3), (9, A v38), (10, B x42), (11, I x43), (87, B (decide (x43 < (v57.fRows.length : Int))))] [] ?_
 rcases fk (decide (x43 < (v57.fRows.length : Int))) with hc59 | hc59
 replace h := bT hc59 h
 rw [hc59]
 refine ve 3 110 [(0, A a0), (3, pf a1 0), (5, A v1.fRows), (6, I x3), (9, A v38), (10, B x42), (11, I x43), (88, B x42), (89, B (!x42)), (90, B (!x42))] [] ?_
 exact ⟨(!x42), h, it [0, 3, 5, 6, 9, 10, 11, 90]⟩
 replace h := bF hc59 h
 rw [hc59]
 refine ve 3 110 [(0, A a0), (3, pf a1 0), (5, A v1.fRows), (6, I x3), (9, A v38), (10, B x42), (11, I x43), (88, .lit undef), (89, .lit undef), (90, B false)] [] ?_
 exact ⟨false, h, it [0, 3, 5, 6, 9, 10, 11, 90]⟩
 rintro x46 h
 unfold spec_l12Broken_j5 at h
 refine pc h (fun h => ?_) (fun h => ?_)
 refine Zl ?_
 refine Zj ?_
 refine Zm ?_
 refine ip 110 [(0, A a0), (3, pf a1 0), (5, A v1.fRows), (6, I x3), (9, A v38), (11, I x43)] [] ?_
 refine pN 15 ?_
 refine qv [] trivial 3 110 [(95, I a1.fOf), (93, A a0), (0, A a0), (3, pf a1 0), (5, A v1.fRows), (6, I x3), (9, A v38), (11, I x43)] [] ?_
 obtain ⟨v48, hv49, h⟩ := bindS h
 refine qX (some 96) (pf v48 0) 110 [(96, pf v48 0), (0, A a0), (3, pf a1 0), (5, A v1.fRows), (6, I x3), (9, A v38), (11, I x43)] [] (fun Γ' hΓ => CoreE.of_y (Z0 τ_ok (by kernel_rfl) hv49)) trivial ?_
 refine qv [] trivial 3 110 [(99, I x43), (98, A v48.fRows), (0, A a0), (3, pf a1 0), (5, A v1.fRows), (6, I x3), (9, A v38), (11, I x43)] [] ?_
 obtain ⟨v50, hv51, h⟩ := bindS h
 refine qX (some 100) (pf v50 0) 110 [(100, pf v50 0), (0, A a0), (3, pf a1 0), (5, A v1.fRows), (6, I x3), (9, A v38), (11, I x43)] [] (fun Γ' hΓ => CoreE.of_y (Z0 τ_ok (by kernel_rfl) hv51)) trivial ?_
 refine qv [] trivial 3 110 [(103, A a1.fTo), (101, A v50), (0, A a0), (3, pf a1 0), (5, A v1.fRows), (6, I x3), (9, A v38), (11, I x43)] [] ?_
 obtain ⟨v52, hv53, h⟩ := bindS h
 refine qX (some 104) (A v52) 110 [(104, A v52), (0, A a0), (3, pf a1 0), (5, A v1.fRows), (6, I x3), (9, A v38), (11, I x43)] [] (fun Γ' hΓ => CoreE.of_g (Zr (τ := τ) (by kernel_rfl) rfl (ok_spec_l6Taken hv53) (FzTo.O _))) trivial ?_
 refine qv [] trivial 1 110 [(105, A v38), (104, A v52), (0, A a0), (3, pf a1 0), (5, A v1.fRows), (6, I x3), (9, A v38), (11, I x43)] [] ?_
 obtain ⟨v54, hv55, h⟩ := bindS h
 refine qX (some 106) (B v54) 110 [(106, B v54), (0, A a0), (3, pf a1 0), (5, A v1.fRows), (6, I x3), (9, A v38), (11, I x43)] [] (fun Γ' hΓ => CoreE.of_g (Zr (τ := τ) (by kernel_rfl) rfl (ok_spec_l3Same hv55) (FzTo.frz rfl))) trivial ?_
 refine qvn [] trivial 1 110 [(0, A a0), (3, pf a1 0), (5, A v1.fRows), (6, I x3), (9, A v38), (10, B v54), (11, I x43)] [] ?_
 refine rve 110 [(0, A a0), (3, pf a1 0), (5, A v1.fRows), (6, I x3), (9, A v38), (10, B v54), (11, I (w64 (x43 + 1)))] [] ?_
 exact ⟨(f44, v54, (w64 (x43 + 1))), h, Nat.lt_succ_self _, it [0, 3, 5, 6, 9, 10, 11]⟩
 refine Zam ?_
 refine srve 110 [(0, A a0), (3, pf a1 0), (5, A v1.fRows), (6, I x3), (108, B (!x42))] [] ?_
 refine pc h (fun h => ?_) (fun h => ?_)
 refine srve 110 [(4, I x3)] [] ?_
 cases h
 exact Zg rz
 refine Zl ?_
 exact ⟨(), h, it [0, 3, 5, 6]⟩
 refine Zl ?_
 exact ⟨(), h, it [0, 3, 5, 6]⟩
 rintro _ h
 unfold spec_l12Broken_j1 at h
 refine rve 110 [(0, A a0), (3, pf a1 0), (5, A v1.fRows), (6, I (w64 (x3 + 1)))] [] ?_
 exact ⟨(f4, (w64 (x3 + 1))), h, Nat.lt_succ_self _, it [0, 3, 5, 6]⟩
 refine Zam ?_
 refine srve 110 [(4, I (-1))] [] ?_
 cases h
 exact Zg rz
def impl_exprValue_l0 (a0 : List Za) (a1 : List Zc) : Nat → Int → (List Za) → Option Za
 | 0, _, _ => none
 | f5 + 1, x3, x4 => bif (decide (x3 < (a1.length : Int))) then (getI a1 x3).bind fun v8 => (Zv v8).bind fun v10 => (slI x4 (some (w64 ((x4.length : Int) - v10))) none none).bind fun v12 => (Za7 v8 a0 v12).bind fun v14 => (slI x4 none (some (w64 ((x4.length : Int) - v10))) none).bind fun v16 => (appT x4 ([v14] : List Za) v16.length).bind fun v18 => (impl_exprValue_l0 a0 a1 f5) (w64 (x3 + 1)) v18 else (getI x4 (0 : Int)).bind fun v20 => some v20
def impl_exprValue (a0 : List Za) (a1 : List Zc) : Option Za := impl_exprValue_l0 a0 a1 FUEL 0 ([] : List Za)
theorem ok_impl_exprValue {a0 : List Za} {a1 : List Zc} {y : Za} (h : impl_exprValue a0 a1 = some y) : OK Tryz.prog 99 [A a0, A a1] (E y) := by
 refine ow Tryz.func99 fun Γ hX => ?_
 unfold impl_exprValue at h
 refine srveM [4, 7, 9] 37 [(0, A a0), (1, A a1), (4, .ptr 0 0 0)] [some ⟨0, Enc.cells (Za.mk 0 0 (ByteArray.mk #[]))⟩] ?_
 refine srveM [4, 7, 9] 37 [(0, A a0), (1, A a1), (4, .ptr 0 0 0), (5, .arr 3 0 (eL ([] : List Za)) true)] [some ⟨0, Enc.cells (Za.mk 0 0 (ByteArray.mk #[]))⟩] ?_
 refine Zj ?_
 refine srveM [4, 7, 9] 37 [(0, A a0), (4, .ptr 0 0 0), (5, .arr 3 0 (eL ([] : List Za)) true), (10, A a1), (11, I (a1.length : Int)), (12, I 0)] [some ⟨0, Enc.cells (Za.mk 0 0 (ByteArray.mk #[]))⟩] ?_
 refine Zm ?_
 refine Zan (ι := Nat × Int × (List Za)) (fun (f5, x3, x4) => (⟨37, [(0, A a0), (4, .ptr 0 0 0), (5, rf 1 0 3 x4), (10, A a1), (11, I (a1.length : Int)), (12, I x3)], [some ⟨0, Enc.cells (Za.mk 0 0 (ByteArray.mk #[]))⟩, sl 0 x4]⟩ : St)) (fun (f5, x3, x4) => impl_exprValue_l0 a0 a1 f5 x3 x4 = some y) Prod.fst (FUEL, 0, ([] : List Za)) h (Imp.thawS 5 [0, 4, 5, 10, 11, 12] (by kernel_rfl)) ?_
 rintro ⟨f5, x3, x4⟩ h
 dsimp only at h ⊢
 rcases f5 with _ | f5
 cases h
 rw [impl_exprValue_l0] at h
 refine srveM [4, 7, 9] 37 [(0, A a0), (4, .ptr 0 0 0), (5, rf 1 0 3 x4), (10, A a1), (11, I (a1.length : Int)), (12, I x3), (13, B (decide (x3 < (a1.length : Int))))] [some ⟨0, Enc.cells (Za.mk 0 0 (ByteArray.mk #[]))⟩, sl 0 x4] ?_
 refine Zj ?_
 refine pc h (fun h => ?_) (fun h => ?_)
 refine Zl ?_
 refine Zj ?_
 refine Zm ?_
 refine Zj ?_
 refine pwp_region ?_
 obtain ⟨v8, hv9, h⟩ := bindS h
 refine Zah τ_ok 14 hv9 (by kernel_rfl) ?_
 refine veM [4, 7, 9] 3 37 [(0, A a0), (4, .ptr 0 0 0), (5, rf 1 0 3 x4), (7, .ptr 2 0 0), (10, A a1), (11, I (a1.length : Int)), (12, I x3)] [some ⟨0, Enc.cells (Za.mk 0 0 (ByteArray.mk #[]))⟩, sl 0 x4, sc 0 v8] ?_
 refine srvM [4, 7, 9] 3 37 [(0, A a0), (4, .ptr 0 0 0), (5, rf 1 0 3 x4), (7, .ptr 2 0 0), (10, A a1), (11, I (a1.length : Int)), (12, I x3), (17, I (x4.length : Int)), (18, E v8)] [some ⟨0, Enc.cells (Za.mk 0 0 (ByteArray.mk #[]))⟩, sl 0 x4, sc 0 v8] ?_
 obtain ⟨v10, hv11, h⟩ := bindS h
 refine cF 19 (ok_impl_Part_takes hv11) ?_
 refine veM [4, 7, 9] 2 37 [(0, A a0), (4, .ptr 0 0 0), (5, rf 1 0 3 x4), (7, .ptr 2 0 0), (8, I (w64 ((x4.length : Int) - v10))), (10, A a1), (11, I (a1.length : Int)), (12, I x3)] [some ⟨0, Enc.cells (Za.mk 0 0 (ByteArray.mk #[]))⟩, sl 0 x4, sc 0 v8] ?_
 refine Zj ?_
 refine ip 37 [(0, A a0), (4, .ptr 0 0 0), (5, rf 1 0 3 x4), (7, .ptr 2 0 0), (8, I (w64 ((x4.length : Int) - v10))), (10, A a1), (11, I (a1.length : Int)), (12, I x3)] [some ⟨0, Enc.cells (Za.mk 0 0 (ByteArray.mk #[]))⟩, sl 0 x4, sc 0 v8] ?_
 refine pwp_imp (Imp.ghosts 1 (st' := ⟨37, [(0, A a0), (4, .ptr 0 0 0), (5, rf 1 0 3 x4), (7, .ptr 2 0 0), (8, I (w64 ((x4.length : Int) - v10))), (10, A a1), (11, I (a1.length : Int)), (12, I x3)], [some ⟨0, Enc.cells (Za.mk 0 0 (ByteArray.mk #[]))⟩, sl 0 x4, sc 0 v8, some ⟨0, []⟩]⟩) (by kernel_rfl)) ?_
 refine pwp_any ([[2], [], [1], [], [1], [1], [3], [3]]) ([[], [], [], [], [], [], [3], [3]]) rfl (by kernel_rfl) ?_
 refine qvM [4, 7, 9] [2] (hB trivial) 1 37 [(21, E v8), (0, A a0), (4, .ptr 0 0 0), (5, rf 1 0 3 x4), (8, I (w64 ((x4.length : Int) - v10))), (10, A a1), (11, I (a1.length : Int)), (12, I x3)] [some ⟨0, Enc.cells (Za.mk 0 0 (ByteArray.mk #[]))⟩, sl 0 x4, sc 0 v8, some ⟨0, []⟩] ?_
 refine qvM [4, 7, 9] [] trivial 1 37 [(22, A a0), (21, E v8), (0, A a0), (4, .ptr 0 0 0), (5, rf 1 0 3 x4), (8, I (w64 ((x4.length : Int) - v10))), (10, A a1), (11, I (a1.length : Int)), (12, I x3)] [some ⟨0, Enc.cells (Za.mk 0 0 (ByteArray.mk #[]))⟩, sl 0 x4, sc 0 v8, some ⟨0, []⟩] ?_
 refine qvM [4, 7, 9] [1] (hL trivial) 1 37 [(23, rf 1 0 3 x4), (22, A a0), (21, E v8), (0, A a0), (4, .ptr 0 0 0), (5, rf 1 0 3 x4), (8, I (w64 ((x4.length : Int) - v10))), (10, A a1), (11, I (a1.length : Int)), (12, I x3)] [some ⟨0, Enc.cells (Za.mk 0 0 (ByteArray.mk #[]))⟩, sl 0 x4, sc 0 v8, some ⟨0, []⟩] ?_
 refine qvM [4, 7, 9] [] trivial 1 37 [(24, I (w64 ((x4.length : Int) - v10))), (23, rf 1 0 3 x4), (22, A a0), (21, E v8), (0, A a0), (4, .ptr 0 0 0), (5, rf 1 0 3 x4), (8, I (w64 ((x4.length : Int) - v10))), (10, A a1), (11, I (a1.length : Int)), (12, I x3)] [some ⟨0, Enc.cells (Za.mk 0 0 (ByteArray.mk #[]))⟩, sl 0 x4, sc 0 v8, some ⟨0, []⟩] ?_
 obtain ⟨v12, hv13, h⟩ := bindS h
 refine qX (some 25) (.ref 1 0 ((w64 ((x4.length : Int) - v10)).toNat * 3) 3 v12.length false) 37 [(25, .ref 1 0 ((w64 ((x4.length : Int) - v10)).toNat * 3) 3 v12.length false), (22, A a0), (21, E v8), (0, A a0), (4, .ptr 0 0 0), (5, rf 1 0 3 x4), (8, I (w64 ((x4.length : Int) - v10))), (10, A a1), (11, I (a1.length : Int)), (12, I x3)] [some ⟨0, Enc.cells (Za.mk 0 0 (ByteArray.mk #[]))⟩, sl 0 x4, sc 0 v8, some ⟨0, []⟩] (fun Γ' hΓ => CoreE.of_y (slrV_sound (n := x4.length) τ_ok (by kernel_rfl) rfl hv13)) (hL trivial) ?_
 obtain ⟨v14, hv15, h⟩ := bindS h
 refine qX (some 26) (E v14) 37 [(26, E v14), (0, A a0), (4, .ptr 0 0 0), (5, rf 1 0 3 x4), (8, I (w64 ((x4.length : Int) - v10))), (10, A a1), (11, I (a1.length : Int)), (12, I x3)] [some ⟨0, Enc.cells (Za.mk 0 0 (ByteArray.mk #[]))⟩, sl 0 x4, sc 0 v8, some ⟨0, []⟩] (fun Γ' hΓ => CoreE.of_g (callVV_sound (xs := [E v8, A a0, .ref 1 0 ((w64 ((x4.length : Int) - v10)).toNat * 3) 3 v12.length false]) (τ := τ) (by kernel_rfl) (ViewL.cons (View.frz rfl) (ViewL.cons (View.frz rfl) (ViewL.cons (View.ref (v := 0) (lo := (w64 ((x4.length : Int) - v10)).toNat) x4 v12 (by kernel_rfl) (slI_view hv13) rfl) (ViewL.nil _)))) (ok_impl_Part_value hv15) (Blind.E _ rfl rfl) (FzTo.frz rfl))) (hL trivial) ?_
 refine qX (Hm' := [none, none, none, some ⟨1, Enc.cells (Za.mk 0 0 (ByteArray.mk #[]))⟩]) (some 9) (.ptr 3 1 0) 37 [(9, .ptr 3 1 0), (26, E v14), (0, A a0), (4, .ptr 0 0 0), (5, rf 1 0 3 x4), (8, I (w64 ((x4.length : Int) - v10))), (10, A a1), (11, I (a1.length : Int)), (12, I x3)] [some ⟨0, Enc.cells (Za.mk 0 0 (ByteArray.mk #[]))⟩, sl 0 x4, sc 0 v8, some ⟨1, Enc.cells (Za.mk 0 0 (ByteArray.mk #[]))⟩] (fun Γ' hΓ => alc_E (blk := ⟨0, []⟩) τ_ok [4, 7, 9] 9 3 0 (ny hΓ hX) (by kernel_rfl) (by kernel_rfl)) (hB trivial) ?_
 refine qX (Hm' := [none, none, none, sc 1 v14]) none (.any) 37 [(9, .ptr 3 1 0), (0, A a0), (4, .ptr 0 0 0), (5, rf 1 0 3 x4), (8, I (w64 ((x4.length : Int) - v10))), (10, A a1), (11, I (a1.length : Int)), (12, I x3)] [some ⟨0, Enc.cells (Za.mk 0 0 (ByteArray.mk #[]))⟩, sl 0 x4, sc 0 v8, sc 1 v14] (fun Γ' hΓ => sto_E τ_ok 3 1 (by kernel_rfl)) (hB trivial) ?_
 refine qn 37 [(0, A a0), (4, .ptr 0 0 0), (5, rf 1 0 3 x4), (8, I (w64 ((x4.length : Int) - v10))), (9, .ptr 3 1 0), (10, A a1), (11, I (a1.length : Int)), (12, I x3)] [some ⟨0, Enc.cells (Za.mk 0 0 (ByteArray.mk #[]))⟩, sl 0 x4, sc 0 v8, sc 1 v14] ?_
 refine ip 37 [(0, A a0), (4, .ptr 0 0 0), (5, rf 1 0 3 x4), (8, I (w64 ((x4.length : Int) - v10))), (9, .ptr 3 1 0), (10, A a1), (11, I (a1.length : Int)), (12, I x3)] [some ⟨0, Enc.cells (Za.mk 0 0 (ByteArray.mk #[]))⟩, sl 0 x4, sc 0 v8, sc 1 v14] ?_
 refine pwp_any ([[1], [], [1], [3], [], [1], [1]]) ([[], [], [], [], [], [1], []]) rfl (by kernel_rfl) ?_
 refine qvM [4, 7, 9] [1] (hL trivial) 1 37 [(27, rf 1 0 3 x4), (0, A a0), (4, .ptr 0 0 0), (5, rf 1 0 3 x4), (8, I (w64 ((x4.length : Int) - v10))), (9, .ptr 3 1 0), (10, A a1), (11, I (a1.length : Int)), (12, I x3)] [some ⟨0, Enc.cells (Za.mk 0 0 (ByteArray.mk #[]))⟩, sl 0 x4, sc 0 v8, sc 1 v14] ?_
 refine qvM [4, 7, 9] [] trivial 1 37 [(28, I (w64 ((x4.length : Int) - v10))), (27, rf 1 0 3 x4), (0, A a0), (4, .ptr 0 0 0), (5, rf 1 0 3 x4), (9, .ptr 3 1 0), (10, A a1), (11, I (a1.length : Int)), (12, I x3)] [some ⟨0, Enc.cells (Za.mk 0 0 (ByteArray.mk #[]))⟩, sl 0 x4, sc 0 v8, sc 1 v14] ?_
 obtain ⟨v16, hv17, h⟩ := bindS h
 refine qX (some 29) (rf 1 0 3 v16) 37 [(29, rf 1 0 3 v16), (0, A a0), (4, .ptr 0 0 0), (5, rf 1 0 3 x4), (9, .ptr 3 1 0), (10, A a1), (11, I (a1.length : Int)), (12, I x3)] [some ⟨0, Enc.cells (Za.mk 0 0 (ByteArray.mk #[]))⟩, sl 0 x4, sc 0 v8, sc 1 v14] (fun Γ' hΓ => CoreE.of_y (slrV_sound (n := x4.length) τ_ok (by kernel_rfl) rfl hv17)) (hL trivial) ?_
 refine qvM [4, 7, 9] [3] (hB trivial) 1 37 [(30, E v14), (29, rf 1 0 3 v16), (0, A a0), (4, .ptr 0 0 0), (5, rf 1 0 3 x4), (10, A a1), (11, I (a1.length : Int)), (12, I x3)] [some ⟨0, Enc.cells (Za.mk 0 0 (ByteArray.mk #[]))⟩, sl 0 x4, sc 0 v8, sc 1 v14] ?_
 refine qvM [4, 7, 9] [] trivial 1 37 [(31, .arr 3 ([v14] : List Za).length (eL ([v14] : List Za)) true), (29, rf 1 0 3 v16), (0, A a0), (4, .ptr 0 0 0), (5, rf 1 0 3 x4), (10, A a1), (11, I (a1.length : Int)), (12, I x3)] [some ⟨0, Enc.cells (Za.mk 0 0 (ByteArray.mk #[]))⟩, sl 0 x4, sc 0 v8, sc 1 v14] ?_
 obtain ⟨v18, hv19, h⟩ := bindS h
 refine qX (some 32) (rf 1 1 3 v18) 37 [(32, rf 1 1 3 v18), (0, A a0), (4, .ptr 0 0 0), (5, rf 1 0 3 x4), (10, A a1), (11, I (a1.length : Int)), (12, I x3)] [some ⟨0, Enc.cells (Za.mk 0 0 (ByteArray.mk #[]))⟩, sl 1 v18, sc 0 v8, sc 1 v14] (fun Γ' hΓ => app_E τ_ok 32 1 0 v16.length (ny hΓ hX) hv19 (slI_le hv17) (by kernel_rfl)) (hL trivial) ?_
 refine qvnM [4, 7, 9] [1] (hL trivial) 1 37 [(0, A a0), (4, .ptr 0 0 0), (5, rf 1 1 3 v18), (10, A a1), (11, I (a1.length : Int)), (12, I x3)] [some ⟨0, Enc.cells (Za.mk 0 0 (ByteArray.mk #[]))⟩, sl 1 v18, sc 0 v8, sc 1 v14] ?_
 refine rveM [4, 7, 9] 37 [(0, A a0), (4, .ptr 0 0 0), (5, rf 1 1 3 v18), (10, A a1), (11, I (a1.length : Int)), (12, I (w64 (x3 + 1)))] [some ⟨0, Enc.cells (Za.mk 0 0 (ByteArray.mk #[]))⟩, sl 1 v18, sc 0 v8, sc 1 v14] ?_
 exact ⟨(f5, (w64 (x3 + 1)), v18), h, Nat.lt_succ_self _, qt (it (st' := ⟨37, [(0, A a0), (4, .ptr 0 0 0), (5, rf 1 1 3 v18), (10, A a1), (11, I (a1.length : Int)), (12, I (w64 (x3 + 1)))], [some ⟨0, Enc.cells (Za.mk 0 0 (ByteArray.mk #[]))⟩, sl 1 v18, sc 0 v8, sc 1 v14]⟩) [0, 4, 5, 10, 11, 12]) (qt (Imp.truncS (st' := ⟨37, [(0, A a0), (4, .ptr 0 0 0), (5, rf 1 1 3 v18), (10, A a1), (11, I (a1.length : Int)), (12, I (w64 (x3 + 1)))], [some ⟨0, Enc.cells (Za.mk 0 0 (ByteArray.mk #[]))⟩, sl 1 v18]⟩) 2 (nx hX) (by kernel_rfl) (allBelow_mem (by exact (And.intro rfl (And.intro rfl (And.intro rfl (And.intro rfl (And.intro rfl (And.intro rfl trivial)))))))) (by exact (And.intro (rfl) (And.intro (frz_below (eL_frz _)) trivial))) (by kernel_rfl)) (Imp.reverS 1 1 (eL v18) [0, 4, 5, 10, 11, 12] (by kernel_rfl) (by exact (And.intro (rfl) (And.intro (eL_frz _) trivial))) (by kernel_rfl)))⟩
 refine Zam ?_
 refine srvM [4, 7, 9] 1 37 [(4, .ptr 0 0 0), (34, rf 1 0 3 x4)] [some ⟨0, Enc.cells (Za.mk 0 0 (ByteArray.mk #[]))⟩, sl 0 x4] ?_
 obtain ⟨v20, hv21, h⟩ := bindS h
 refine opsP_idr τ_ok 35 1 0 x4.length hv21 rfl (by kernel_rfl) ?_
 refine opsP_lde (r := E v20) τ_ok 36 90 0 hv21 (by kernel_rfl) (by kernel_rfl) ?_
 refine veM [4, 7, 9] 1 37 [(4, .ptr 0 0 0)] [sc 0 v20, sl 0 x4] ?_
 cases h
 exact Zg rz
def impl_Bond_breaks (a0 : Zb) (a1 : List Ze) (a2 : Int) : Option Bool := (getI a1 a0.fIn).bind fun v1 => (getI v1.fRows a2).bind fun v3 => bif (a0.fKind == 3) then (impl_exprValue v3 a0.fE).bind fun v6 => (impl_ValueOf 0).bind fun v8 => some (Zz v6 v8) else (impl_taken v3 a0.fList).bind fun v10 => (Z1 v10 impl_Bond_breaks_1).bind fun v12 => bif v12 then some false else bif (a0.fKind == 1) then (getI a1 a0.fIn).bind fun v16 => (slI v16.fRows none (some a2) none).bind fun v18 => (impl_Bond_breaks_2 a0.fList v10).bind fun v20 => (Zq v18 (fun z0 => impl_Bond_breaks_2_1 z0 a0.fList v10)).bind fun v22 => some v22 else (getI a1 a0.fOf).bind fun v24 => (impl_Bond_breaks_2 a0.fTo v10).bind fun v26 => (Zq v24.fRows (fun z0 => impl_Bond_breaks_2_1 z0 a0.fTo v10)).bind fun v28 => some (!v28)
theorem ok_impl_Bond_breaks {a0 : Zb} {a1 : List Ze} {a2 : Int} {y : Bool} (h : impl_Bond_breaks a0 a1 a2 = some y) : OK Tryz.prog 112 [E a0, A a1, I a2] (B y) := by
 refine ow Tryz.func112 fun Γ hX => ?_
 unfold impl_Bond_breaks at h
 refine srveM [8] 63 [(1, A a1), (2, I a2), (3, pf a0 0)] [] ?_
 refine srvM [8] 3 63 [(1, A a1), (2, I a2), (3, pf a0 0), (10, A a1), (12, I a0.fIn)] [] ?_
 obtain ⟨v1, hv2, h⟩ := bindS h
 refine Zah τ_ok 13 hv2 (by kernel_rfl) ?_
 refine vM [8] 3 63 [(1, A a1), (2, I a2), (3, pf a0 0), (15, A v1.fRows), (16, I a2)] [] ?_
 obtain ⟨v3, hv4, h⟩ := bindS h
 refine Zah τ_ok 17 hv4 (by kernel_rfl) ?_
 refine veM [8] 2 63 [(1, A a1), (2, I a2), (3, pf a0 0), (7, A v3)] [] ?_
 refine Zj ?_
 refine srveM [8] 63 [(1, A a1), (2, I a2), (3, pf a0 0), (7, A v3), (21, B (a0.fKind == 3))] [] ?_
 refine pc h (fun h => ?_) (fun h => ?_)
 refine srvM [8] 3 63 [(22, A v3), (24, A a0.fE)] [] ?_
 obtain ⟨v6, hv7, h⟩ := bindS h
 refine cF 25 (ok_impl_exprValue hv7) ?_
 obtain ⟨v8, hv9, h⟩ := bindS h
 refine cF 26 (ok_impl_ValueOf hv9) ?_
 refine veM [8] 2 63 [(6, B (Zz v6 v8))] [] ?_
 cases h
 exact Zg rz
 refine Zl ?_
 refine srvM [8] 3 63 [(1, A a1), (2, I a2), (3, pf a0 0), (28, A v3), (30, A a0.fList)] [] ?_
 obtain ⟨v10, hv11, h⟩ := bindS h
 refine cF 31 (ok_impl_taken hv11) ?_
 refine veM [8] 2 63 [(1, A a1), (2, I a2), (3, pf a0 0), (8, .ptr 0 0 0)] [sc 0 v10] ?_
 refine Zj ?_
 refine srvM [8] 1 63 [(1, A a1), (2, I a2), (3, pf a0 0), (8, .ptr 0 0 0), (32, A v10)] [sc 0 v10] ?_
 obtain ⟨v12, hv13, h⟩ := bindS h
 refine cF 33 (ok_slices_ContainsFunc_impl_Value_impl_Value (rfl) (fun _ w hw => ok_impl_Bond_breaks_1 hw) hv13) ?_
 refine veM [8] 0 63 [(1, A a1), (2, I a2), (3, pf a0 0), (8, .ptr 0 0 0), (33, B v12)] [sc 0 v10] ?_
 refine pc h (fun h => ?_) (fun h => ?_)
 refine srveM [8] 63 [(6, B false)] [sc 0 v10] ?_
 cases h
 exact Zg rz
 refine Zl ?_
 refine srvM [8] 0 63 [(1, A a1), (2, I a2), (3, pf a0 0), (8, .ptr 0 0 0)] [sc 0 v10] ?_
 refine Zaz (Imp.freezeB (v := 0) (cs := Enc.cells v10) (st' := ⟨63, [(1, A a1), (2, I a2), (3, pf a0 0), (8, pf v10 0)], [none]⟩) 0 0 (nx hX) (by kernel_rfl) (Enc.frz _) (wholeC (Zn (by kernel_rfl)) (wholeC (Zn (by kernel_rfl)) (wholeC (Zn (by kernel_rfl)) (wholeC (Zn (by kernel_rfl)) wholeC0)))) (HpRel.key HpRel.nil) (by kernel_rfl) rfl (nx hX)) ?_
 refine veM [8] 2 63 [(1, A a1), (2, I a2), (3, pf a0 0), (9, .fn 156 [pf v10 0])] [none] ?_
 refine Zj ?_
 refine srveM [8] 63 [(1, A a1), (2, I a2), (3, pf a0 0), (9, .fn 156 [pf v10 0]), (37, B (a0.fKind == 1))] [none] ?_
 refine pc h (fun h => ?_) (fun h => ?_)
 refine Zj ?_
 refine ip 63 [(1, A a1), (2, I a2), (3, pf a0 0), (9, .fn 156 [pf v10 0])] [none] ?_
 refine pN 14 ?_
 refine qvM [8] [] trivial 3 63 [(40, I a0.fIn), (38, A a1), (2, I a2), (3, pf a0 0), (9, .fn 156 [pf v10 0])] [none] ?_
 obtain ⟨v16, hv17, h⟩ := bindS h
 refine qX (some 41) (pf v16 0) 63 [(41, pf v16 0), (2, I a2), (3, pf a0 0), (9, .fn 156 [pf v10 0])] [none] (fun Γ' hΓ => CoreE.of_y (Z0 τ_ok (by kernel_rfl) hv17)) trivial ?_
 refine qvM [8] [] trivial 3 63 [(44, I a2), (43, A v16.fRows), (3, pf a0 0), (9, .fn 156 [pf v10 0])] [none] ?_
 obtain ⟨v18, hv19, h⟩ := bindS h
 refine qX (some 45) (A v18) 63 [(45, A v18), (3, pf a0 0), (9, .fn 156 [pf v10 0])] [none] (fun Γ' hΓ => CoreE.of_y (slcV_sound τ_ok (by kernel_rfl) hv19)) trivial ?_
 refine qvM [8] [] trivial 3 63 [(48, A a0.fList), (46, .fn 156 [pf v10 0]), (45, A v18)] [none] ?_
 obtain ⟨v20, hv21, h⟩ := bindS h
 refine qX (some 49) (.fn 157 [pf a0.fList 0, pf v10 0]) 63 [(49, .fn 157 [pf a0.fList 0, pf v10 0]), (45, A v18)] [none] (fun Γ' hΓ => CoreE.of_g (Zr (τ := τ) (by kernel_rfl) rfl (ok_impl_Bond_breaks_2 hv21) (FzTo.frz rfl))) trivial ?_
 obtain ⟨v22, hv23, h⟩ := bindS h
 refine qX (some 50) (B v22) 63 [(50, B v22)] [none] (fun Γ' hΓ => CoreE.of_g (Zr (τ := τ) (by kernel_rfl) rfl (Za0 (rfl) (fun _ w hw => ok_impl_Bond_breaks_2_1 hw) hv23) (FzTo.frz rfl))) trivial ?_
 refine qvnM [8] [] trivial 1 63 [(6, B v22)] [none] ?_
 cases h
 exact Zg rz
 refine Zl ?_
 refine Zj ?_
 refine ip 63 [(1, A a1), (3, pf a0 0), (9, .fn 156 [pf v10 0])] [none] ?_
 refine pN 13 ?_
 refine qvM [8] [] trivial 3 63 [(53, I a0.fOf), (51, A a1), (3, pf a0 0), (9, .fn 156 [pf v10 0])] [none] ?_
 obtain ⟨v24, hv25, h⟩ := bindS h
 refine qX (some 54) (pf v24 0) 63 [(54, pf v24 0), (3, pf a0 0), (9, .fn 156 [pf v10 0])] [none] (fun Γ' hΓ => CoreE.of_y (Z0 τ_ok (by kernel_rfl) hv25)) trivial ?_
 refine qvM [8] [] trivial 5 63 [(59, A a0.fTo), (57, .fn 156 [pf v10 0]), (56, A v24.fRows)] [none] ?_
 obtain ⟨v26, hv27, h⟩ := bindS h
 refine qX (some 60) (.fn 157 [pf a0.fTo 0, pf v10 0]) 63 [(60, .fn 157 [pf a0.fTo 0, pf v10 0]), (56, A v24.fRows)] [none] (fun Γ' hΓ => CoreE.of_g (Zr (τ := τ) (by kernel_rfl) rfl (ok_impl_Bond_breaks_2 hv27) (FzTo.frz rfl))) trivial ?_
 obtain ⟨v28, hv29, h⟩ := bindS h
 refine qX (some 61) (B v28) 63 [(61, B v28)] [none] (fun Γ' hΓ => CoreE.of_g (Zr (τ := τ) (by kernel_rfl) rfl (Za0 (rfl) (fun _ w hw => ok_impl_Bond_breaks_2_1 hw) hv29) (FzTo.frz rfl))) trivial ?_
 refine qvnM [8] [] trivial 2 63 [(6, B (!v28))] [none] ?_
 cases h
 exact Zg rz
def impl_TablesOk (a0 : List Ze) : Option Bool := bif (decide ((a0.length : Int) ≤ 3)) then (Zal a0 impl_TablesOk_1).bind fun v1 => some (!v1) else some false
theorem ok_impl_TablesOk {a0 : List Ze} {y : Bool} (h : impl_TablesOk a0 = some y) : OK Tryz.prog 16 [A a0] (B y) := by
 refine ow Tryz.func16 fun Γ hX => ?_
 unfold impl_TablesOk at h
 refine srve 11 [(0, A a0)] [] ?_
 refine srv 4 11 [(0, A a0), (6, B (decide ((a0.length : Int) ≤ 3)))] [] ?_
 rcases fk (decide ((a0.length : Int) ≤ 3)) with hc3 | hc3
 replace h := bT hc3 h
 rw [hc3]
 refine v 1 11 [(6, B true), (7, A a0)] [] ?_
 obtain ⟨v1, hv2, h⟩ := bindS h
 refine cF 8 (ok_slices_ContainsFunc_impl_Table_impl_Table (rfl) (fun _ w hw => ok_impl_TablesOk_1 hw) hv2) ?_
 refine ve 3 11 [(2, B (!v1))] [] ?_
 cases h
 exact Zg rz
 replace h := bF hc3 h
 rw [hc3]
 refine ve 5 11 [(2, B false)] [] ?_
 cases h
 exact Zg rz
def spec_BondBroken (a0 : List Ze) (a1 : Zb) : Option Int := (spec_BondOk a0 a1).bind fun v1 => bif (!v1) then some (-2) else (spec_l12Broken a0 a1).bind fun v4 => some v4
theorem ok_spec_BondBroken {a0 : List Ze} {a1 : Zb} {y : Int} (h : spec_BondBroken a0 a1 = some y) : OK Tryz.prog 19 [A a0, E a1] (I y) := by
 refine ow Tryz.func19 fun Γ hX => ?_
 unfold spec_BondBroken at h
 refine srve 12 [(0, A a0), (3, pf a1 0)] [] ?_
 refine Zj ?_
 refine srv 2 12 [(0, A a0), (3, pf a1 0), (5, A a0), (6, E a1)] [] ?_
 obtain ⟨v1, hv2, h⟩ := bindS h
 refine cF 7 (ok_spec_BondOk hv2) ?_
 refine ve 1 12 [(0, A a0), (3, pf a1 0), (8, B (!v1))] [] ?_
 refine pc h (fun h => ?_) (fun h => ?_)
 refine srve 12 [(4, I (-2))] [] ?_
 cases h
 exact Zg rz
 refine Zl ?_
 refine srv 2 12 [(9, A a0), (10, E a1)] [] ?_
 obtain ⟨v4, hv5, h⟩ := bindS h
 refine cF 11 (ok_spec_l12Broken hv5) ?_
 refine ve 1 12 [(4, I v4)] [] ?_
 cases h
 exact Zg rz
def spec_BondsHold_l0 (a0 : List Ze) (a1 : List Zb) : Nat → Int → Option Bool
 | 0, _ => none
 | f2 + 1, x1 => bif (decide (x1 < (a1.length : Int))) then (getI a1 x1).bind fun v5 => (spec_BondBroken a0 v5).bind fun v7 => bif (!(v7 == (-1))) then some false else (spec_BondsHold_l0 a0 a1 f2) (w64 (x1 + 1)) else some (decide ((a1.length : Int) ≤ 4))
def spec_BondsHold (a0 : List Ze) (a1 : List Zb) : Option Bool := spec_BondsHold_l0 a0 a1 FUEL 0
theorem ok_spec_BondsHold {a0 : List Ze} {a1 : List Zb} {y : Bool} (h : spec_BondsHold a0 a1 = some y) : OK Tryz.prog 23 [A a0, A a1] (B y) := by
 refine ow Tryz.func23 fun Γ hX => ?_
 unfold spec_BondsHold at h
 refine srve 22 [(0, A a0), (1, A a1)] [] ?_
 refine Zj ?_
 refine srve 22 [(0, A a0), (1, A a1), (5, I 0)] [] ?_
 refine Zm ?_
 refine Zan (ι := Nat × Int) (fun (f2, x1) => (⟨22, [(0, A a0), (1, A a1), (5, I x1)], []⟩ : St)) (fun (f2, x1) => spec_BondsHold_l0 a0 a1 f2 x1 = some y) Prod.fst (FUEL, 0) h (it [0, 1, 5]) ?_
 rintro ⟨f2, x1⟩ h
 dsimp only at h ⊢
 rcases f2 with _ | f2
 cases h
 rw [spec_BondsHold_l0] at h
 refine Zj ?_
 refine srve 22 [(0, A a0), (1, A a1), (5, I x1), (9, B (decide (x1 < (a1.length : Int))))] [] ?_
 refine pc h (fun h => ?_) (fun h => ?_)
 refine Zl ?_
 refine Zj ?_
 refine Zm ?_
 refine srv 3 22 [(0, A a0), (1, A a1), (5, I x1), (12, A a0), (13, A a1), (14, I x1)] [] ?_
 obtain ⟨v5, hv6, h⟩ := bindS h
 refine Zah τ_ok 15 hv6 (by kernel_rfl) ?_
 refine v 1 22 [(0, A a0), (1, A a1), (5, I x1), (12, A a0), (16, E v5)] [] ?_
 obtain ⟨v7, hv8, h⟩ := bindS h
 refine cF 17 (ok_spec_BondBroken hv8) ?_
 refine ve 1 22 [(0, A a0), (1, A a1), (5, I x1), (18, B (!(v7 == (-1))))] [] ?_
 refine pc h (fun h => ?_) (fun h => ?_)
 refine srve 22 [(4, B false)] [] ?_
 cases h
 exact Zg rz
 refine Zl ?_
 refine rve 22 [(0, A a0), (1, A a1), (5, I (w64 (x1 + 1)))] [] ?_
 exact ⟨(f2, (w64 (x1 + 1))), h, Nat.lt_succ_self _, it [0, 1, 5]⟩
 refine Zam ?_
 refine srve 22 [(4, B (decide ((a1.length : Int) ≤ 4)))] [] ?_
 cases h
 exact Zg rz
def impl_Bond_broken_l0 (a0 : Zb) (a1 : List Ze) (v1 : Ze) : Nat → Int → Option Int
 | 0, _ => none
 | f4 + 1, x3 => bif (decide (x3 < (v1.fRows.length : Int))) then (impl_Bond_breaks a0 a1 x3).bind fun v7 => bif v7 then some x3 else (impl_Bond_broken_l0 a0 a1 v1 f4) (w64 (x3 + 1)) else some (-1)
def impl_Bond_broken (a0 : Zb) (a1 : List Ze) : Option Int := (getI a1 a0.fIn).bind fun v1 => impl_Bond_broken_l0 a0 a1 v1 FUEL 0
theorem ok_impl_Bond_broken {a0 : Zb} {a1 : List Ze} {y : Int} (h : impl_Bond_broken a0 a1 = some y) : OK Tryz.prog 57 [E a0, A a1] (I y) := by
 refine ow Tryz.func57 fun Γ hX => ?_
 unfold impl_Bond_broken at h
 refine srve 22 [(1, A a1), (2, pf a0 0)] [] ?_
 refine Zj ?_
 refine srv 3 22 [(1, A a1), (2, pf a0 0), (6, A a1), (8, I a0.fIn)] [] ?_
 obtain ⟨v1, hv2, h⟩ := bindS h
 refine Zah τ_ok 9 hv2 (by kernel_rfl) ?_
 refine ve 4 22 [(1, A a1), (2, pf a0 0), (12, I (v1.fRows.length : Int)), (13, I 0)] [] ?_
 refine Zm ?_
 refine Zan (ι := Nat × Int) (fun (f4, x3) => (⟨22, [(1, A a1), (2, pf a0 0), (12, I (v1.fRows.length : Int)), (13, I x3)], []⟩ : St)) (fun (f4, x3) => impl_Bond_broken_l0 a0 a1 v1 f4 x3 = some y) Prod.fst (FUEL, 0) h (it [1, 2, 12, 13]) ?_
 rintro ⟨f4, x3⟩ h
 dsimp only at h ⊢
 rcases f4 with _ | f4
 cases h
 rw [impl_Bond_broken_l0] at h
 refine srve 22 [(1, A a1), (2, pf a0 0), (12, I (v1.fRows.length : Int)), (13, I x3), (14, B (decide (x3 < (v1.fRows.length : Int))))] [] ?_
 refine Zj ?_
 refine pc h (fun h => ?_) (fun h => ?_)
 refine Zl ?_
 refine Zj ?_
 refine Zm ?_
 refine srve 22 [(1, A a1), (2, pf a0 0), (5, I x3), (12, I (v1.fRows.length : Int)), (13, I x3)] [] ?_
 refine srv 3 22 [(1, A a1), (2, pf a0 0), (5, I x3), (12, I (v1.fRows.length : Int)), (13, I x3), (16, E a0), (17, A a1), (18, I x3)] [] ?_
 obtain ⟨v7, hv8, h⟩ := bindS h
 refine cF 19 (ok_impl_Bond_breaks hv8) ?_
 refine ve 0 22 [(1, A a1), (2, pf a0 0), (5, I x3), (12, I (v1.fRows.length : Int)), (13, I x3), (19, B v7)] [] ?_
 refine pc h (fun h => ?_) (fun h => ?_)
 refine srve 22 [(4, I x3)] [] ?_
 cases h
 exact Zg rz
 refine Zl ?_
 refine rve 22 [(1, A a1), (2, pf a0 0), (12, I (v1.fRows.length : Int)), (13, I (w64 (x3 + 1)))] [] ?_
 exact ⟨(f4, (w64 (x3 + 1))), h, Nat.lt_succ_self _, it [1, 2, 12, 13]⟩
 refine Zam ?_
 refine srve 22 [(4, I (-1))] [] ?_
 cases h
 exact Zg rz
def impl_bondsOk (a0 : List Ze) (a1 : List Zb) : Option Bool := (impl_TablesOk a0).bind fun v1 => bif v1 then (Zae a1 (fun z0 => impl_bondsOk_1 z0 a0)).bind fun v3 => some (!v3) else some false
theorem ok_impl_bondsOk {a0 : List Ze} {a1 : List Zb} {y : Bool} (h : impl_bondsOk a0 a1 = some y) : OK Tryz.prog 64 [A a0, A a1] (B y) := by
 refine ow Tryz.func64 fun Γ hX => ?_
 unfold impl_bondsOk at h
 refine srve 13 [(1, A a1), (2, pf a0 0)] [] ?_
 refine srv 1 13 [(1, A a1), (2, pf a0 0), (5, A a0)] [] ?_
 obtain ⟨v1, hv2, h⟩ := bindS h
 refine cF 6 (ok_impl_TablesOk hv2) ?_
 refine v 1 13 [(1, A a1), (2, pf a0 0), (7, B v1)] [] ?_
 rcases Bool.eq_false_or_eq_true v1 with hc5 | hc5
 replace h := bT hc5 h
 rw [hc5]
 refine v 2 13 [(7, B true), (8, A a1), (9, .fn 119 [pf a0 0])] [] ?_
 obtain ⟨v3, hv4, h⟩ := bindS h
 refine cF 10 (ok_slices_ContainsFunc_impl_Bond_impl_Bond (rfl) (fun _ w hw => ok_impl_bondsOk_1 hw) hv4) ?_
 refine ve 3 13 [(4, B (!v3))] [] ?_
 cases h
 exact Zg rz
 replace h := bF hc5 h
 rw [hc5]
 refine ve 6 13 [(4, B false)] [] ?_
 cases h
 exact Zg rz
def impl_hold_1 (a0 : Zb) (b0 : List Ze) : Option Bool := (impl_Bond_broken a0 b0).bind fun v1 => some (decide (v1 ≥ 0))
theorem ok_impl_hold_1 {a0 : Zb} {b0 : List Ze} {y : Bool} (h : impl_hold_1 a0 b0 = some y) : OK Tryz.prog 120 [E a0, pf b0 0] (B y) := by
 refine ow Tryz.func120 fun Γ hX => ?_
 unfold impl_hold_1 at h
 refine srve 8 [(1, pf b0 0), (2, pf a0 0)] [] ?_
 refine srv 2 8 [(4, E a0), (5, A b0)] [] ?_
 obtain ⟨v1, hv2, h⟩ := bindS h
 refine cF 6 (ok_impl_Bond_broken hv2) ?_
 refine ve 2 8 [(3, B (decide (v1 ≥ 0)))] [] ?_
 cases h
 exact Zg rz
def spec_l20Bond_L1_j0 (x17 : Zd) (x18 : Zb) (x19 : List Int) : Option (Zb × Zd) := some (({ ({ ({ x18 with fList := x19 } : Zb) with fTo := [] } : Zb) with fE := [] } : Zb), x17)
def spec_l20Bond_L1_j1 (x36 : Zd) (x37 : Zb) (x38 : List Int) : Option (Zb × Zd) := some (({ ({ ({ x37 with fList := x38 } : Zb) with fTo := [] } : Zb) with fE := [] } : Zb), x36)
def spec_l20Bond_L1_j4 (x85 : List Int) (x107 : Zd) (x108 : Zb) (x109 : List Int) : Option (Zb × Zd) := some (({ ({ (({ x108 with fList := x109 }) : Zb) with fTo := x85 } : Zb) with fE := [] } : Zb), x107)
def spec_l20Bond_L1_j3 (a1 : List Ze) (a2 : Int) (v5 : Ze) (x81 : Int) (x82 : Zd) (x83 : Zb) (x84 : List Int) (x85 : List Int) (K87 : Int → Zd → Zb → (List Int) → (List Int) → Option (Zb × Zd)) (x88 : Bool) : Option (Zb × Zd) := bif x88 then (Zi x82 (a1.length : Int)).bind fun v90 => (Zi v90.2 (v5.fColumns.length : Int)).bind fun v92 => (getI a1 (({ x83 with fOf := v90.1 } : Zb).fOf)).bind fun v94 => (Zi v92.2 (v94.fColumns.length : Int)).bind fun v96 => (getI v5.fColumns v92.1).bind fun v98 => (getI a1 (({ x83 with fOf := v90.1 } : Zb).fOf)).bind fun v100 => (getI v100.fColumns v96.1).bind fun v102 => bif (v98.fKind == v102.fKind) then K87 (w64 (x81 + 1)) v96.2 ({ x83 with fOf := v90.1 }) ([v92.1] : List Int) ([v96.1] : List Int) else K87 (w64 (x81 + 1)) v96.2 ({ x83 with fOf := v90.1 }) x84 x85 else (Zi x82 2).bind fun v105 => (Zaj v105.2 a2).bind fun v110 => bif v110.1 then (Zi v110.2 4).bind fun v113 => bif (v113.1 == 0) then (Zi v113.2 6).bind fun v116 => spec_l20Bond_L1_j4 x85 v116.2 ({ (({ x83 with fFollow := (v105.1 == 0) }) : Zb) with fIn := (w64 (v116.1 - 1)) }) x84 else bif (v113.1 == 1) then (Zi v113.2 6).bind fun v119 => spec_l20Bond_L1_j4 x85 v119.2 ({ (({ x83 with fFollow := (v105.1 == 0) }) : Zb) with fKind := v119.1 }) x84 else bif (v113.1 == 2) then (Zi v113.2 7).bind fun v122 => (app x84 ([(w64 (v122.1 - 1))] : List Int)).bind fun v124 => spec_l20Bond_L1_j4 x85 v122.2 ({ x83 with fFollow := (v105.1 == 0) }) v124 else spec_l20Bond_L1_j4 x85 v113.2 ({ (({ x83 with fFollow := (v105.1 == 0) }) : Zb) with fFollow := (!(({ x83 with fFollow := (v105.1 == 0) } : Zb).fFollow)) }) x84 else spec_l20Bond_L1_j4 x85 v110.2 ({ x83 with fFollow := (v105.1 == 0) }) x84
def spec_l20Bond_L1_l2 (a1 : List Ze) (a2 : Int) (v5 : Ze) : Nat → Int → Zd → Zb → (List Int) → (List Int) → Option (Zb × Zd)
 | 0, _, _, _, _, _ => none
 | f86 + 1, x81, x82, x83, x84, x85 => bif (decide (x81 < 12)) then spec_l20Bond_L1_j3 a1 a2 v5 x81 x82 x83 x84 x85 (spec_l20Bond_L1_l2 a1 a2 v5 f86) ((x84.length : Int) == 0) else spec_l20Bond_L1_j3 a1 a2 v5 x81 x82 x83 x84 x85 (spec_l20Bond_L1_l2 a1 a2 v5 f86) false
def spec_l20Bond_L1 (a0 : Zd) (a1 : List Ze) (a2 : Int) : Option (Zb × Zd) := (Zi a0 3).bind fun v1 => (Zi v1.2 (a1.length : Int)).bind fun v3 => (getI a1 v3.1).bind fun v5 => bif ((w64 (1 + v1.1)) == 1) then (Zi v3.2 (v5.fColumns.length : Int)).bind fun v8 => (Zi v8.2 3).bind fun v10 => bif (v10.1 == 0) then (Zi v10.2 (v5.fColumns.length : Int)).bind fun v13 => (app ([v8.1] : List Int) ([v13.1] : List Int)).bind fun v15 => (Zaj v13.2 a2).bind fun v20 => bif v20.1 then (Zi v20.2 4).bind fun v23 => bif (v23.1 == 0) then (Zi v23.2 6).bind fun v26 => spec_l20Bond_L1_j0 v26.2 (Zb.mk (w64 (1 + v1.1)) (w64 (v26.1 - 1)) [] 0 [] false []) v15 else bif (v23.1 == 1) then (Zi v23.2 6).bind fun v29 => spec_l20Bond_L1_j0 v29.2 (Zb.mk v29.1 v3.1 [] 0 [] false []) v15 else bif (v23.1 == 2) then (Zi v23.2 7).bind fun v32 => (app v15 ([(w64 (v32.1 - 1))] : List Int)).bind fun v34 => spec_l20Bond_L1_j0 v32.2 (Zb.mk (w64 (1 + v1.1)) v3.1 [] 0 [] false []) v34 else spec_l20Bond_L1_j0 v23.2 (Zb.mk (w64 (1 + v1.1)) v3.1 [] 0 [] true []) v15 else spec_l20Bond_L1_j0 v20.2 (Zb.mk (w64 (1 + v1.1)) v3.1 [] 0 [] false []) v15 else (Zaj v10.2 a2).bind fun v39 => bif v39.1 then (Zi v39.2 4).bind fun v42 => bif (v42.1 == 0) then (Zi v42.2 6).bind fun v45 => spec_l20Bond_L1_j1 v45.2 (Zb.mk (w64 (1 + v1.1)) (w64 (v45.1 - 1)) [] 0 [] false []) ([v8.1] : List Int) else bif (v42.1 == 1) then (Zi v42.2 6).bind fun v48 => spec_l20Bond_L1_j1 v48.2 (Zb.mk v48.1 v3.1 [] 0 [] false []) ([v8.1] : List Int) else bif (v42.1 == 2) then (Zi v42.2 7).bind fun v51 => (app ([v8.1] : List Int) ([(w64 (v51.1 - 1))] : List Int)).bind fun v53 => spec_l20Bond_L1_j1 v51.2 (Zb.mk (w64 (1 + v1.1)) v3.1 [] 0 [] false []) v53 else spec_l20Bond_L1_j1 v42.2 (Zb.mk (w64 (1 + v1.1)) v3.1 [] 0 [] true []) ([v8.1] : List Int) else spec_l20Bond_L1_j1 v39.2 (Zb.mk (w64 (1 + v1.1)) v3.1 [] 0 [] false []) ([v8.1] : List Int) else bif ((w64 (1 + v1.1)) == 3) then (spec_l20Expr v3.2 v5.fColumns 3 2).bind fun v56 => (Zaj v56.2 a2).bind fun v58 => bif v58.1 then (Zi v58.2 4).bind fun v61 => bif (v61.1 == 0) then (Zi v61.2 6).bind fun v64 => some ((Zb.mk (w64 (1 + v1.1)) (w64 (v64.1 - 1)) [] 0 [] false v56.1), v64.2) else bif (v61.1 == 1) then (Zi v61.2 6).bind fun v67 => some ((Zb.mk v67.1 v3.1 [] 0 [] false v56.1), v67.2) else bif (v61.1 == 2) then (Zi v61.2 7).bind fun v70 => (app ([] : List Int) ([(w64 (v70.1 - 1))] : List Int)).bind fun v72 => some ((Zb.mk (w64 (1 + v1.1)) v3.1 v72 0 [] false v56.1), v70.2) else some ((Zb.mk (w64 (1 + v1.1)) v3.1 [] 0 [] true v56.1), v61.2) else some ((Zb.mk (w64 (1 + v1.1)) v3.1 [] 0 [] false v56.1), v58.2) else bif ((w64 (1 + v1.1)) == 2) then spec_l20Bond_L1_l2 a1 a2 v5 FUEL 0 v3.2 (Zb.mk (w64 (1 + v1.1)) v3.1 [] 0 [] false []) ([] : List Int) ([] : List Int) else (Zaj v3.2 a2).bind fun v127 => bif v127.1 then (Zi v127.2 4).bind fun v130 => bif (v130.1 == 0) then (Zi v130.2 6).bind fun v133 => some ((Zb.mk (w64 (1 + v1.1)) (w64 (v133.1 - 1)) [] 0 [] false []), v133.2) else bif (v130.1 == 1) then (Zi v130.2 6).bind fun v136 => some ((Zb.mk v136.1 v3.1 [] 0 [] false []), v136.2) else bif (v130.1 == 2) then (Zi v130.2 7).bind fun v139 => (app ([] : List Int) ([(w64 (v139.1 - 1))] : List Int)).bind fun v141 => some ((Zb.mk (w64 (1 + v1.1)) v3.1 v141 0 [] false []), v139.2) else some ((Zb.mk (w64 (1 + v1.1)) v3.1 [] 0 [] true []), v130.2) else some ((Zb.mk (w64 (1 + v1.1)) v3.1 [] 0 [] false []), v127.2)
end Go.D
