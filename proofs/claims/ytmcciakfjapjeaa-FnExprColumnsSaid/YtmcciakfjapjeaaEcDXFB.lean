import Derived.Test.YtmcciakfjapjeaaEcDXFA
import Derived.KernelRfl
set_option linter.unusedVariables false
set_option linter.unusedSimpArgs false
namespace Go.D
open Go.Proofs
theorem ok_impl_ExprValue {a0 : List T_impl_Column} {a1 : List T_impl_Value} {a2 : List T_impl_Part} {y : T_impl_Value} (h : impl_ExprValue a0 a1 a2 = some y) : OK Try.prog 10 [A a0, A a1, A a2] (E y) := by
 refine ow Try.func10 fun Γ hX => ?_
 unfold impl_ExprValue at h
 refine srveM [6] 21 [(0, A a0), (1, A a1), (2, A a2), (6, .ptr 0 0 0)] [some ⟨0, Enc.cells (T_impl_Value.mk 0 0 (ByteArray.mk #[]))⟩] ?_
 refine pwp_seq ?_
 refine pwp_seq ?_
 refine pwp_join (σ := Bool) (fun x1 => (⟨21, [(1, A a1), (2, A a2), (6, .ptr 0 0 0), (16, B x1)], [some ⟨0, Enc.cells (T_impl_Value.mk 0 0 (ByteArray.mk #[]))⟩]⟩ : St)) (fun x1 => impl_ExprValue_j0 a1 a2 x1 = some y) ?_ ?_
 refine rvM [6] 2 21 [(0, A a0), (1, A a1), (2, A a2), (6, .ptr 0 0 0), (7, A a0), (8, A a2)] [some ⟨0, Enc.cells (T_impl_Value.mk 0 0 (ByteArray.mk #[]))⟩] ?_
 obtain ⟨v5, hv6, h⟩ := bindS h
 refine cF 9 (ok_impl_ExprKind hv6) ?_
 refine vM [6] 2 21 [(0, A a0), (1, A a1), (2, A a2), (6, .ptr 0 0 0), (11, B (decide (v5 < 0)))] [some ⟨0, Enc.cells (T_impl_Value.mk 0 0 (ByteArray.mk #[]))⟩] ?_
 rcases fk (decide (v5 < 0)) with hc9 | hc9
 replace h := bT hc9 h
 rw [hc9]
 refine veM [6] 5 21 [(1, A a1), (2, A a2), (6, .ptr 0 0 0), (16, B true)] [some ⟨0, Enc.cells (T_impl_Value.mk 0 0 (ByteArray.mk #[]))⟩] ?_
 exact ⟨true, h, it [1, 2, 6, 16]⟩
 replace h := bF hc9 h
 rw [hc9]
 refine vM [6] 2 21 [(1, A a1), (2, A a2), (6, .ptr 0 0 0), (11, B false), (12, A a0), (13, A a1)] [some ⟨0, Enc.cells (T_impl_Value.mk 0 0 (ByteArray.mk #[]))⟩] ?_
 obtain ⟨v7, hv8, h⟩ := bindS h
 refine cF 14 (ok_impl_RowFits hv8) ?_
 refine veM [6] 2 21 [(1, A a1), (2, A a2), (6, .ptr 0 0 0), (16, B (!v7))] [some ⟨0, Enc.cells (T_impl_Value.mk 0 0 (ByteArray.mk #[]))⟩] ?_
 exact ⟨(!v7), h, it [1, 2, 6, 16]⟩
 rintro x1 h
 unfold impl_ExprValue_j0 at h
 refine pc h (fun h => ?_) (fun h => ?_)
 refine srveM [6] 21 [(6, .ptr 0 0 0)] [some ⟨0, Enc.cells (T_impl_Value.mk 0 0 (ByteArray.mk #[]))⟩] ?_
 cases h
 exact pwp_ret rz
 refine pwp_skip ?_
 refine srvM [6] 2 21 [(6, .ptr 0 0 0), (18, A a1), (19, A a2)] [some ⟨0, Enc.cells (T_impl_Value.mk 0 0 (ByteArray.mk #[]))⟩] ?_
 obtain ⟨v3, hv4, h⟩ := bindS h
 refine cF 20 (ok_impl_exprValue hv4) ?_
 refine veM [6] 1 21 [(6, .ptr 0 0 0)] [sc 0 v3] ?_
 cases h
 exact pwp_ret rz
def laws_FnExprColumns_j1 (x11 : Int) (K13 : Int → Option Bool) (x15 : Bool) : Option Bool := bif x15 then some false else K13 (w64 (x11 + 1))
def laws_FnExprColumns_j4 (x30 : Int) (x32 : List T_impl_Value) (K34 : Int → (List T_impl_Value) → (List T_impl_Value) → Option Bool) (v39 : List T_impl_Value) (x41 : T_impl_Value) : Option Bool := (app x32 ([x41] : List T_impl_Value)).bind fun v42 => K34 (w64 (x30 + 1)) v39 v42
def laws_FnExprColumns_j3 (v4 : List Int) (x30 : Int) (x31 : List T_impl_Value) (x32 : List T_impl_Value) (K34 : Int → (List T_impl_Value) → (List T_impl_Value) → Option Bool) (x38 : T_impl_Value) : Option Bool := (app x31 ([x38] : List T_impl_Value)).bind fun v39 => (laws_hasInt v4 x30).bind fun v44 => bif (!v44) then laws_FnExprColumns_j4 x30 x32 K34 v39 ({ x38 with fN := 0 }) else laws_FnExprColumns_j4 x30 x32 K34 v39 x38
def laws_FnExprColumns_l2 (v2 : (List T_impl_Column) × (List T_impl_Part)) (v4 : List Int) : Nat → Int → (List T_impl_Value) → (List T_impl_Value) → Option Bool
 | 0, _, _, _ => none
 | f33 + 1, x30, x31, x32 => bif (decide (x30 < (v2.1.length : Int))) then (getI v2.1 x30).bind fun v36 => (getI v2.1 x30).bind fun v47 => bif (v47.fKind == 2) then laws_FnExprColumns_j3 v4 x30 x31 x32 (laws_FnExprColumns_l2 v2 v4 f33) (T_impl_Value.mk v36.fKind 0 (ByteArray.mk #[])) else laws_FnExprColumns_j3 v4 x30 x31 x32 (laws_FnExprColumns_l2 v2 v4 f33) (T_impl_Value.mk v36.fKind 1 (ByteArray.mk #[])) else (impl_ExprValue v2.1 x31 v2.2).bind fun v50 => (impl_ExprValue v2.1 x32 v2.2).bind fun v52 => bif (eq_T_impl_Value v50 v52) then (laws_alive).bind fun v54 => some v54 else some false
def laws_FnExprColumns_l0 (v2 : (List T_impl_Column) × (List T_impl_Part)) (v4 : List Int) : Nat → Int → Option Bool
 | 0, _ => none
 | f12 + 1, x11 => bif (decide (x11 < (v4.length : Int))) then (getI v4 x11).bind fun v17 => bif (decide (v17 < 0)) then laws_FnExprColumns_j1 x11 (laws_FnExprColumns_l0 v2 v4 f12) true else (getI v4 x11).bind fun v19 => bif (decide (v19 ≥ (v2.1.length : Int))) then laws_FnExprColumns_j1 x11 (laws_FnExprColumns_l0 v2 v4 f12) true else bif (decide (x11 > 0)) then (getI v4 (w64 (x11 - 1))).bind fun v21 => (getI v4 x11).bind fun v23 => laws_FnExprColumns_j1 x11 (laws_FnExprColumns_l0 v2 v4 f12) (decide (v21 ≥ v23)) else laws_FnExprColumns_j1 x11 (laws_FnExprColumns_l0 v2 v4 f12) false else laws_FnExprColumns_l2 v2 v4 FUEL 0 ([] : List T_impl_Value) ([] : List T_impl_Value)
def laws_FnExprColumns (a0 : List UInt8) : Option Bool := bif (decide ((a0.length : Int) > 1048576)) then some true else (spec_DrawExprColumns a0).bind fun v2 => (impl_ExprColumns v2.1 v2.2).bind fun v4 => (spec_ExprColumns v2.1 v2.2).bind fun v6 => (laws_sameInts v4 v6).bind fun v8 => bif (!v8) then some false else laws_FnExprColumns_l0 v2 v4 FUEL 0
theorem ok_laws_FnExprColumns {a0 : List UInt8} {y : Bool} (h : laws_FnExprColumns a0 = some y) : OK Try.prog 3 [A a0] (B y) := by
 refine ow Try.func3 fun Γ hX => ?_
 unfold laws_FnExprColumns at h
 refine srveM [10] 110 [(0, A a0)] [] ?_
 refine pwp_seq ?_
 refine srveM [10] 110 [(0, A a0), (13, B (decide ((a0.length : Int) > 1048576)))] [] ?_
 refine pc h (fun h => ?_) (fun h => ?_)
 refine srveM [10] 110 [(2, B true)] [] ?_
 cases h
 exact pwp_ret rz
 refine pwp_skip ?_
 refine srvM [10] 1 110 [(15, A a0)] [] ?_
 obtain ⟨v2, hv3, h⟩ := bindS h
 refine opsP_callF τ 16 (ok_spec_DrawExprColumns hv3) (FzTo.tup (FzToL.cons (FzTo.frz rfl) (FzToL.cons (FzTo.frz rfl) FzToL.nil))) rfl (by kernel_rfl) ?_
 refine veM [10] 5 110 [(3, A v2.1), (4, A v2.2)] [] ?_
 refine srvM [10] 2 110 [(3, A v2.1), (4, A v2.2), (19, A v2.1), (20, A v2.2)] [] ?_
 obtain ⟨v4, hv5, h⟩ := bindS h
 refine cF 21 (ok_impl_ExprColumns hv5) ?_
 refine veM [10] 1 110 [(3, A v2.1), (4, A v2.2), (5, A v4)] [] ?_
 refine pwp_seq ?_
 refine srvM [10] 3 110 [(3, A v2.1), (4, A v2.2), (5, A v4), (22, A v4), (23, A v2.1), (24, A v2.2)] [] ?_
 obtain ⟨v6, hv7, h⟩ := bindS h
 refine cFo 25 (ok_spec_ExprColumns hv7) ?_
 obtain ⟨v8, hv9, h⟩ := bindS h
 refine cF 26 (ok_laws_sameInts hv9) ?_
 refine veM [10] 1 110 [(3, A v2.1), (4, A v2.2), (5, A v4), (27, B (!v8))] [] ?_
 refine pc h (fun h => ?_) (fun h => ?_)
 refine srveM [10] 110 [(2, B false)] [] ?_
 cases h
 exact pwp_ret rz
 refine pwp_skip ?_
 refine pwp_seq ?_
 refine srveM [10] 110 [(3, A v2.1), (4, A v2.2), (5, A v4), (6, I 0)] [] ?_
 refine pwp_block ?_
 refine pwp_loop (ι := Nat × Int) (fun (f12, x11) => (⟨110, [(3, A v2.1), (4, A v2.2), (5, A v4), (6, I x11)], []⟩ : St)) (fun (f12, x11) => laws_FnExprColumns_l0 v2 v4 f12 x11 = some y) Prod.fst (FUEL, 0) h (it [3, 4, 5, 6]) ?_
 rintro ⟨f12, x11⟩ h
 dsimp only at h ⊢
 rcases f12 with _ | f12
 cases h
 rw [laws_FnExprColumns_l0] at h
 refine pwp_seq ?_
 refine srveM [10] 110 [(3, A v2.1), (4, A v2.2), (5, A v4), (6, I x11), (31, B (decide (x11 < (v4.length : Int))))] [] ?_
 refine pc h (fun h => ?_) (fun h => ?_)
 refine pwp_skip ?_
 refine pwp_seq ?_
 refine pwp_block ?_
 refine pwp_seq ?_
 refine pwp_join (σ := Bool) (fun x15 => (⟨110, [(3, A v2.1), (4, A v2.2), (5, A v4), (6, I x11), (63, B x15)], []⟩ : St)) (fun x15 => laws_FnExprColumns_j1 x11 (laws_FnExprColumns_l0 v2 v4 f12) x15 = some y) ?_ ?_
 refine ip 110 [(3, A v2.1), (4, A v2.2), (5, A v4), (6, I x11)] [] ?_
 refine pN 30 ?_
 refine qvM [10] [] trivial 2 110 [(35, I x11), (34, A v4), (3, A v2.1), (4, A v2.2), (5, A v4), (6, I x11)] [] ?_
 obtain ⟨v17, hv18, h⟩ := bindS h
 refine qX (some 36) (pf v17 0) 110 [(36, pf v17 0), (3, A v2.1), (4, A v2.2), (5, A v4), (6, I x11)] [] (fun Γ' hΓ => CoreE.of_y (idxV_sound τ_ok (by kernel_rfl) hv18)) trivial ?_
 refine qvM [10] [] trivial 3 110 [(39, B (decide (v17 < 0))), (3, A v2.1), (4, A v2.2), (5, A v4), (6, I x11)] [] ?_
 rcases fk (decide (v17 < 0)) with hc27 | hc27
 replace h := bT hc27 h
 rw [hc27]
 refine qvnM [10] [] trivial 24 110 [(3, A v2.1), (4, A v2.2), (5, A v4), (6, I x11), (40, .lit undef), (41, .lit undef), (42, .lit undef), (43, .lit undef), (44, .lit undef), (45, .lit undef), (46, .lit undef), (49, .lit undef), (50, .lit undef), (51, .lit undef), (52, .lit undef), (53, .lit undef), (54, .lit undef), (55, .lit undef), (56, .lit undef), (57, .lit undef), (58, .lit undef), (59, .lit undef), (60, .lit undef), (61, .lit undef), (62, .lit undef), (63, B true)] [] ?_
 exact ⟨true, h, it [3, 4, 5, 6, 63]⟩
 replace h := bF hc27 h
 rw [hc27]
 refine qvM [10] [] trivial 2 110 [(41, I x11), (40, A v4), (39, B false), (3, A v2.1), (4, A v2.2), (5, A v4), (6, I x11)] [] ?_
 obtain ⟨v19, hv20, h⟩ := bindS h
 refine qX (some 42) (pf v19 0) 110 [(42, pf v19 0), (41, I x11), (40, A v4), (39, B false), (3, A v2.1), (4, A v2.2), (5, A v4), (6, I x11)] [] (fun Γ' hΓ => CoreE.of_y (idxV_sound τ_ok (by kernel_rfl) hv20)) trivial ?_
 refine qvM [10] [] trivial 6 110 [(48, B (decide (v19 ≥ (v2.1.length : Int)))), (46, B (decide (v19 ≥ (v2.1.length : Int)))), (45, I (v2.1.length : Int)), (44, A v2.1), (43, I v19), (42, pf v19 0), (41, I x11), (40, A v4), (3, A v2.1), (4, A v2.2), (5, A v4), (6, I x11)] [] ?_
 rcases fk (decide (v19 ≥ (v2.1.length : Int))) with hc26 | hc26
 replace h := bT hc26 h
 rw [hc26]
 refine qvnM [10] [] trivial 15 110 [(3, A v2.1), (4, A v2.2), (5, A v4), (6, I x11), (40, A v4), (41, I x11), (42, pf v19 0), (43, I v19), (44, A v2.1), (45, I (v2.1.length : Int)), (46, B true), (49, .lit undef), (50, .lit undef), (51, .lit undef), (52, .lit undef), (53, .lit undef), (54, .lit undef), (55, .lit undef), (56, .lit undef), (57, .lit undef), (58, .lit undef), (59, .lit undef), (60, .lit undef), (61, .lit undef), (62, .lit undef), (63, B true)] [] ?_
 exact ⟨true, h, it [3, 4, 5, 6, 63]⟩
 replace h := bF hc26 h
 rw [hc26]
 refine qvM [10] [] trivial 3 110 [(51, B (decide (x11 > 0))), (50, B (decide (x11 > 0))), (49, I x11), (48, B false), (46, B false), (45, I (v2.1.length : Int)), (44, A v2.1), (43, I v19), (42, pf v19 0), (41, I x11), (40, A v4), (3, A v2.1), (4, A v2.2), (5, A v4), (6, I x11)] [] ?_
 rcases fk (decide (x11 > 0)) with hc25 | hc25
 replace h := bT hc25 h
 rw [hc25]
 refine qvM [10] [] trivial 3 110 [(54, I (w64 (x11 - 1))), (53, I x11), (52, A v4), (51, B true), (50, B true), (49, I x11), (48, B false), (46, B false), (45, I (v2.1.length : Int)), (44, A v2.1), (43, I v19), (42, pf v19 0), (41, I x11), (40, A v4), (3, A v2.1), (4, A v2.2), (5, A v4), (6, I x11)] [] ?_
 obtain ⟨v21, hv22, h⟩ := bindS h
 refine qX (some 55) (pf v21 0) 110 [(55, pf v21 0), (54, I (w64 (x11 - 1))), (53, I x11), (52, A v4), (51, B true), (50, B true), (49, I x11), (48, B false), (46, B false), (45, I (v2.1.length : Int)), (44, A v2.1), (43, I v19), (42, pf v19 0), (41, I x11), (40, A v4), (3, A v2.1), (4, A v2.2), (5, A v4), (6, I x11)] [] (fun Γ' hΓ => CoreE.of_y (idxV_sound τ_ok (by kernel_rfl) hv22)) trivial ?_
 refine qvM [10] [] trivial 3 110 [(58, I x11), (57, A v4), (56, I v21), (55, pf v21 0), (54, I (w64 (x11 - 1))), (53, I x11), (52, A v4), (51, B true), (50, B true), (49, I x11), (48, B false), (46, B false), (45, I (v2.1.length : Int)), (44, A v2.1), (43, I v19), (42, pf v19 0), (41, I x11), (40, A v4), (3, A v2.1), (4, A v2.2), (5, A v4), (6, I x11)] [] ?_
 obtain ⟨v23, hv24, h⟩ := bindS h
 refine qX (some 59) (pf v23 0) 110 [(59, pf v23 0), (58, I x11), (57, A v4), (56, I v21), (55, pf v21 0), (54, I (w64 (x11 - 1))), (53, I x11), (52, A v4), (51, B true), (50, B true), (49, I x11), (48, B false), (46, B false), (45, I (v2.1.length : Int)), (44, A v2.1), (43, I v19), (42, pf v19 0), (41, I x11), (40, A v4), (3, A v2.1), (4, A v2.2), (5, A v4), (6, I x11)] [] (fun Γ' hΓ => CoreE.of_y (idxV_sound τ_ok (by kernel_rfl) hv24)) trivial ?_
 refine qvnM [10] [] trivial 4 110 [(3, A v2.1), (4, A v2.2), (5, A v4), (6, I x11), (40, A v4), (41, I x11), (42, pf v19 0), (43, I v19), (44, A v2.1), (45, I (v2.1.length : Int)), (46, B false), (49, I x11), (50, B true), (51, B true), (52, A v4), (53, I x11), (54, I (w64 (x11 - 1))), (55, pf v21 0), (56, I v21), (57, A v4), (58, I x11), (59, pf v23 0), (60, I v23), (61, B (decide (v21 ≥ v23))), (62, B (decide (v21 ≥ v23))), (63, B (decide (v21 ≥ v23)))] [] ?_
 exact ⟨(decide (v21 ≥ v23)), h, it [3, 4, 5, 6, 63]⟩
 replace h := bF hc25 h
 rw [hc25]
 refine qvnM [10] [] trivial 12 110 [(3, A v2.1), (4, A v2.2), (5, A v4), (6, I x11), (40, A v4), (41, I x11), (42, pf v19 0), (43, I v19), (44, A v2.1), (45, I (v2.1.length : Int)), (46, B false), (49, I x11), (50, B false), (51, B false), (52, .lit undef), (53, .lit undef), (54, .lit undef), (55, .lit undef), (56, .lit undef), (57, .lit undef), (58, .lit undef), (59, .lit undef), (60, .lit undef), (61, .lit undef), (62, B false), (63, B false)] [] ?_
 exact ⟨false, h, it [3, 4, 5, 6, 63]⟩
 rintro x15 h
 unfold laws_FnExprColumns_j1 at h
 refine pc h (fun h => ?_) (fun h => ?_)
 refine srveM [10] 110 [(2, B false)] [] ?_
 cases h
 exact pwp_ret rz
 refine pwp_skip ?_
 refine rveM [10] 110 [(3, A v2.1), (4, A v2.2), (5, A v4), (6, I (w64 (x11 + 1)))] [] ?_
 exact ⟨(f12, (w64 (x11 + 1))), h, Nat.lt_succ_self _, it [3, 4, 5, 6]⟩
 refine pwp_exit ?_
 refine srveM [10] 110 [(3, A v2.1), (4, A v2.2), (5, A v4), (7, .arr 3 0 (eL ([] : List T_impl_Value)) true)] [] ?_
 refine srveM [10] 110 [(3, A v2.1), (4, A v2.2), (5, A v4), (7, .arr 3 0 (eL ([] : List T_impl_Value)) true), (8, .arr 3 0 (eL ([] : List T_impl_Value)) true)] [] ?_
 refine pwp_seq ?_
 refine srveM [10] 110 [(3, A v2.1), (4, A v2.2), (5, A v4), (7, .arr 3 0 (eL ([] : List T_impl_Value)) true), (8, .arr 3 0 (eL ([] : List T_impl_Value)) true), (9, I 0)] [] ?_
 refine pwp_block ?_
 refine pwp_loop (ι := Nat × Int × (List T_impl_Value) × (List T_impl_Value)) (fun (f33, x30, x31, x32) => (⟨110, [(3, A v2.1), (4, A v2.2), (5, A v4), (7, rf 0 0 3 x31), (8, rf 1 0 3 x32), (9, I x30)], [sl 0 x31, sl 0 x32]⟩ : St)) (fun (f33, x30, x31, x32) => laws_FnExprColumns_l2 v2 v4 f33 x30 x31 x32 = some y) Prod.fst (FUEL, 0, ([] : List T_impl_Value), ([] : List T_impl_Value)) h ((Imp.thawS (st' := ⟨110, [(3, A v2.1), (4, A v2.2), (5, A v4), (7, .ref 0 0 0 3 ([] : List T_impl_Value).length false), (8, .arr 3 0 (eL ([] : List T_impl_Value)) true), (9, I 0)], [some ⟨0, eL ([] : List T_impl_Value)⟩]⟩) 7 [3, 4, 5, 7, 8, 9] (by kernel_rfl)).trans (Imp.thawS 8 [3, 4, 5, 7, 8, 9] (by kernel_rfl))) ?_
 rintro ⟨f33, x30, x31, x32⟩ h
 dsimp only at h ⊢
 rcases f33 with _ | f33
 cases h
 rw [laws_FnExprColumns_l2] at h
 refine pwp_seq ?_
 refine srveM [10] 110 [(3, A v2.1), (4, A v2.2), (5, A v4), (7, rf 0 0 3 x31), (8, rf 1 0 3 x32), (9, I x30), (69, B (decide (x30 < (v2.1.length : Int))))] [sl 0 x31, sl 0 x32] ?_
 refine pc h (fun h => ?_) (fun h => ?_)
 refine pwp_skip ?_
 refine pwp_seq ?_
 refine pwp_block ?_
 refine srvM [10] 2 110 [(3, A v2.1), (4, A v2.2), (5, A v4), (7, rf 0 0 3 x31), (8, rf 1 0 3 x32), (9, I x30), (72, A v2.1), (73, I x30)] [sl 0 x31, sl 0 x32] ?_
 obtain ⟨v36, hv37, h⟩ := bindS h
 refine opsP_idx τ_ok 74 hv37 (by kernel_rfl) ?_
 refine veM [10] 5 110 [(3, A v2.1), (4, A v2.2), (5, A v4), (7, rf 0 0 3 x31), (8, rf 1 0 3 x32), (9, I x30), (10, .ptr 2 0 0)] [sl 0 x31, sl 0 x32, some ⟨0, Enc.cells (T_impl_Value.mk v36.fKind 1 (ByteArray.mk #[]))⟩] ?_
 refine pwp_seq ?_
 refine pwp_join (σ := T_impl_Value) (fun x38 => (⟨110, [(3, A v2.1), (4, A v2.2), (5, A v4), (7, rf 0 0 3 x31), (8, rf 1 0 3 x32), (9, I x30), (10, .ptr 2 0 0)], [sl 0 x31, sl 0 x32, sc 0 x38]⟩ : St)) (fun x38 => laws_FnExprColumns_j3 v4 x30 x31 x32 (laws_FnExprColumns_l2 v2 v4 f33) x38 = some y) ?_ ?_
 refine srvM [10] 2 110 [(3, A v2.1), (4, A v2.2), (5, A v4), (7, rf 0 0 3 x31), (8, rf 1 0 3 x32), (9, I x30), (10, .ptr 2 0 0), (78, A v2.1), (79, I x30)] [sl 0 x31, sl 0 x32, some ⟨0, Enc.cells (T_impl_Value.mk v36.fKind 1 (ByteArray.mk #[]))⟩] ?_
 obtain ⟨v47, hv48, h⟩ := bindS h
 refine opsP_idx τ_ok 80 hv48 (by kernel_rfl) ?_
 refine veM [10] 3 110 [(3, A v2.1), (4, A v2.2), (5, A v4), (7, rf 0 0 3 x31), (8, rf 1 0 3 x32), (9, I x30), (10, .ptr 2 0 0), (83, B (v47.fKind == 2))] [sl 0 x31, sl 0 x32, some ⟨0, Enc.cells (T_impl_Value.mk v36.fKind 1 (ByteArray.mk #[]))⟩] ?_
 refine pc h (fun h => ?_) (fun h => ?_)
 refine rveM [10] 110 [(3, A v2.1), (4, A v2.2), (5, A v4), (7, rf 0 0 3 x31), (8, rf 1 0 3 x32), (9, I x30), (10, .ptr 2 0 0)] [sl 0 x31, sl 0 x32, some ⟨0, Enc.cells (T_impl_Value.mk v36.fKind 0 (ByteArray.mk #[]))⟩] ?_
 exact ⟨(T_impl_Value.mk v36.fKind 0 (ByteArray.mk #[])), h, it [3, 4, 5, 7, 8, 9, 10]⟩
 refine pwp_skip ?_
 exact ⟨(T_impl_Value.mk v36.fKind 1 (ByteArray.mk #[])), h, it [3, 4, 5, 7, 8, 9, 10]⟩
 rintro x38 h
 unfold laws_FnExprColumns_j3 at h
 refine srvM [10] 3 110 [(3, A v2.1), (4, A v2.2), (5, A v4), (8, rf 1 0 3 x32), (9, I x30), (10, .ptr 2 0 0), (85, rf 0 0 3 x31), (87, .arr 3 ([x38] : List T_impl_Value).length (eL ([x38] : List T_impl_Value)) true)] [sl 0 x31, sl 0 x32, sc 0 x38] ?_
 obtain ⟨v39, hv40, h⟩ := bindS h
 refine opsP_app τ_ok 88 0 0 (nx hX) hv40 (by kernel_rfl) ?_
 refine veM [10] 1 110 [(3, A v2.1), (4, A v2.2), (5, A v4), (7, rf 0 1 3 v39), (8, rf 1 0 3 x32), (9, I x30), (10, .ptr 2 0 0)] [sl 1 v39, sl 0 x32, sc 0 x38] ?_
 refine pwp_seq ?_
 refine pwp_join (σ := T_impl_Value) (fun x41 => (⟨110, [(3, A v2.1), (4, A v2.2), (5, A v4), (7, rf 0 0 3 v39), (8, rf 1 0 3 x32), (9, I x30), (10, .ptr 2 0 0)], [sl 0 v39, sl 0 x32, sc 0 x41]⟩ : St)) (fun x41 => laws_FnExprColumns_j4 x30 x32 (laws_FnExprColumns_l2 v2 v4 f33) v39 x41 = some y) ?_ ?_
 refine srvM [10] 2 110 [(3, A v2.1), (4, A v2.2), (5, A v4), (7, rf 0 1 3 v39), (8, rf 1 0 3 x32), (9, I x30), (10, .ptr 2 0 0), (89, A v4), (90, I x30)] [sl 1 v39, sl 0 x32, sc 0 x38] ?_
 obtain ⟨v44, hv45, h⟩ := bindS h
 refine cF 91 (ok_laws_hasInt hv45) ?_
 refine veM [10] 1 110 [(3, A v2.1), (4, A v2.2), (5, A v4), (7, rf 0 1 3 v39), (8, rf 1 0 3 x32), (9, I x30), (10, .ptr 2 0 0), (92, B (!v44))] [sl 1 v39, sl 0 x32, sc 0 x38] ?_
 refine pc h (fun h => ?_) (fun h => ?_)
 refine rveM [10] 110 [(3, A v2.1), (4, A v2.2), (5, A v4), (7, rf 0 1 3 v39), (8, rf 1 0 3 x32), (9, I x30), (10, .ptr 2 0 0)] [sl 1 v39, sl 0 x32, some ⟨0, Enc.cells ({ x38 with fN := 0 })⟩] ?_
 exact ⟨{ x38 with fN := 0 }, h, (it (st' := ⟨110, [(3, A v2.1), (4, A v2.2), (5, A v4), (7, rf 0 1 3 v39), (8, rf 1 0 3 x32), (9, I x30), (10, .ptr 2 0 0)], [sl 1 v39, sl 0 x32, some ⟨0, Enc.cells ({ x38 with fN := 0 })⟩]⟩) [3, 4, 5, 7, 8, 9, 10]).trans (Imp.reverS 0 1 (eL v39) [3, 4, 5, 7, 8, 9, 10] (by kernel_rfl) (by exact (And.intro (eL_frz _) (And.intro (eL_frz _) (And.intro (rfl) trivial)))) (by kernel_rfl))⟩
 refine pwp_skip ?_
 exact ⟨x38, h, (it (st' := ⟨110, [(3, A v2.1), (4, A v2.2), (5, A v4), (7, rf 0 1 3 v39), (8, rf 1 0 3 x32), (9, I x30), (10, .ptr 2 0 0)], [sl 1 v39, sl 0 x32, sc 0 x38]⟩) [3, 4, 5, 7, 8, 9, 10]).trans (Imp.reverS 0 1 (eL v39) [3, 4, 5, 7, 8, 9, 10] (by kernel_rfl) (by exact (And.intro (eL_frz _) (And.intro (eL_frz _) (And.intro (rfl) trivial)))) (by kernel_rfl))⟩
 rintro x41 h
 unfold laws_FnExprColumns_j4 at h
 refine rvM [10] 3 110 [(3, A v2.1), (4, A v2.2), (5, A v4), (7, rf 0 0 3 v39), (9, I x30), (94, rf 1 0 3 x32), (96, .arr 3 ([x41] : List T_impl_Value).length (eL ([x41] : List T_impl_Value)) true)] [sl 0 v39, sl 0 x32, sc 0 x41] ?_
 obtain ⟨v42, hv43, h⟩ := bindS h
 refine opsP_app τ_ok 97 1 0 (nx hX) hv43 (by kernel_rfl) ?_
 refine veM [10] 1 110 [(3, A v2.1), (4, A v2.2), (5, A v4), (7, rf 0 0 3 v39), (8, rf 1 1 3 v42), (9, I x30)] [sl 0 v39, sl 1 v42, sc 0 x41] ?_
 refine rveM [10] 110 [(3, A v2.1), (4, A v2.2), (5, A v4), (7, rf 0 0 3 v39), (8, rf 1 1 3 v42), (9, I (w64 (x30 + 1)))] [sl 0 v39, sl 1 v42, sc 0 x41] ?_
 exact ⟨(f33, (w64 (x30 + 1)), v39, v42), h, Nat.lt_succ_self _, qt (it (st' := ⟨110, [(3, A v2.1), (4, A v2.2), (5, A v4), (7, rf 0 0 3 v39), (8, rf 1 1 3 v42), (9, I (w64 (x30 + 1)))], [sl 0 v39, sl 1 v42, sc 0 x41]⟩) [3, 4, 5, 7, 8, 9]) (qt (Imp.truncS (st' := ⟨110, [(3, A v2.1), (4, A v2.2), (5, A v4), (7, rf 0 0 3 v39), (8, rf 1 1 3 v42), (9, I (w64 (x30 + 1)))], [sl 0 v39, sl 1 v42]⟩) 2 (nx hX) (by kernel_rfl) (allBelow_mem (by exact (And.intro rfl (And.intro rfl (And.intro rfl (And.intro rfl (And.intro rfl (And.intro rfl trivial)))))))) (by exact (And.intro (frz_below (eL_frz _)) (And.intro (frz_below (eL_frz _)) trivial))) (by kernel_rfl)) (Imp.reverS 1 1 (eL v42) [3, 4, 5, 7, 8, 9] (by kernel_rfl) (by exact (And.intro (eL_frz _) (And.intro (eL_frz _) trivial))) (by kernel_rfl)))⟩
 refine pwp_exit ?_
 refine srvM [10] 3 110 [(3, A v2.1), (4, A v2.2), (8, rf 1 0 3 x32), (98, A v2.1), (99, rf 0 0 3 x31), (100, A v2.2)] [sl 0 x31, sl 0 x32] ?_
 obtain ⟨v50, hv51, h⟩ := bindS h
 refine opsP_callV (xs := [A v2.1, rf 0 0 3 x31, A v2.2]) τ 101 (ok_impl_ExprValue hv51) (Blind.E _ rfl rfl) (FzTo.frz rfl) (by kernel_rfl) (ViewL.cons (View.frz rfl) (ViewL.cons (View.whole (v := 0) x31 (by kernel_rfl) rfl) (ViewL.cons (View.frz rfl) (ViewL.nil _)))) ?_
 refine vM [10] 3 110 [(101, E v50), (102, A v2.1), (103, rf 1 0 3 x32), (104, A v2.2)] [sl 0 x31, sl 0 x32] ?_
 obtain ⟨v52, hv53, h⟩ := bindS h
 refine opsP_callV (xs := [A v2.1, rf 1 0 3 x32, A v2.2]) τ 105 (ok_impl_ExprValue hv53) (Blind.E _ rfl rfl) (FzTo.frz rfl) (by kernel_rfl) (ViewL.cons (View.frz rfl) (ViewL.cons (View.whole (v := 0) x32 (by kernel_rfl) rfl) (ViewL.cons (View.frz rfl) (ViewL.nil _)))) ?_
 refine vM [10] 2 110 [(107, B (eq_T_impl_Value v50 v52))] [sl 0 x31, sl 0 x32] ?_
 rcases fk (eq_T_impl_Value v50 v52) with hc56 | hc56
 replace h := bT hc56 h
 rw [hc56]
 obtain ⟨v54, hv55, h⟩ := bindS h
 refine cF 108 (ok_laws_alive hv55) ?_
 refine veM [10] 2 110 [(2, B v54)] [sl 0 x31, sl 0 x32] ?_
 cases h
 exact pwp_ret rz
 replace h := bF hc56 h
 rw [hc56]
 refine veM [10] 3 110 [(2, B false)] [sl 0 x31, sl 0 x32] ?_
 cases h
 exact pwp_ret rz
end Go.D
