import Derived.Test.YtpkaieniomkofaaGreatBrDXFA
import Derived.KernelRfl
set_option linter.unusedVariables false
set_option linter.unusedSimpArgs false
namespace Go.D
open Go.Proofs
theorem ok_spec_l20Bond {a0 : T_spec_l20Rd} {a1 : List T_impl_Table} {a2 : Int} {y : T_impl_Bond × T_spec_l20Rd} (h : spec_l20Bond a0 a1 a2 = some y) : OKb Tryz.prog 56 (Enc.cells a0) [A a1, I a2] (E y.1) (Enc.cells y.2) := by
 refine OKb_of_pwp τ_ok Tryz.func56 rfl (by kernel_rfl) rfl (Enc.frz _) (Enc.frz _) fun Γ hQ => ?_
 unfold spec_l20Bond at h
 refine srveM [6, 7] 141 [(0, .ptr 0 0 0), (1, A a1), (2, I a2), (6, .ptr 1 0 0)] [sc 0 a0, some ⟨0, Enc.cells (T_impl_Bond.mk 0 0 [] 0 [] false [])⟩] ?_
 refine srvM [6, 7] 1 141 [(0, .ptr 0 0 0), (1, A a1), (2, I a2), (6, .ptr 1 0 0), (12, .ptr 0 0 0)] [sc 0 a0, some ⟨0, Enc.cells (T_impl_Bond.mk 0 0 [] 0 [] false [])⟩] ?_
 obtain ⟨v1, hv2, h⟩ := bindS h
 refine cB 13 0 0 (ok_spec_l20Rd_pick hv2) ?_
 refine vM [6, 7] 4 141 [(0, .ptr 0 0 0), (1, A a1), (2, I a2), (6, .ptr 1 0 0), (14, I (w64 (1 + v1.1))), (15, .ptr 0 0 0), (17, I (a1.length : Int))] [sc 0 v1.2, some ⟨0, Enc.cells (T_impl_Bond.mk 0 0 [] 0 [] false [])⟩] ?_
 obtain ⟨v3, hv4, h⟩ := bindS h
 refine cB 18 0 0 (ok_spec_l20Rd_pick hv4) ?_
 refine opsP_E (dd := some 19) (x := .agg [I (w64 (1 + v1.1)), I v3.1, .arr 1 0 (eL ([] : List Int)) true, I 0, .arr 1 0 (eL ([] : List Int)) true, B false, .arr 5 0 (eL ([] : List T_impl_Part)) true]) (CoreE.of_y (bldV_sound (zs := [.lit (.int .i64 0), .lit (.int .i64 0), .arr 1 0 [] true, .lit (.int .i64 0), .arr 1 0 [] true, .lit (.bool false), .arr 5 0 [] true]) (cells := [I (w64 (1 + v1.1)), I v3.1, .arr 1 0 (eL ([] : List Int)) true, I 0, .arr 1 0 (eL ([] : List Int)) true, B false, .arr 5 0 (eL ([] : List T_impl_Part)) true]) τ_ok zi_ok41 (by kernel_rfl))) ?_
 refine vM [6, 7] 0 141 [(0, .ptr 0 0 0), (1, A a1), (2, I a2), (6, .ptr 1 0 0), (19, .agg [I (w64 (1 + v1.1)), I v3.1, .arr 1 0 (eL ([] : List Int)) true, I 0, .arr 1 0 (eL ([] : List Int)) true, B false, .arr 5 0 (eL ([] : List T_impl_Part)) true])] [sc 0 v3.2, some ⟨0, Enc.cells (T_impl_Bond.mk 0 0 [] 0 [] false [])⟩] ?_
 refine opsP_imp (Imp.ghosts 1 (st' := ⟨141, [(0, .ptr 0 0 0), (1, A a1), (2, I a2), (6, .ptr 1 0 0), (19, .agg [I (w64 (1 + v1.1)), I v3.1, .arr 1 0 (eL ([] : List Int)) true, I 0, .arr 1 0 (eL ([] : List Int)) true, B false, .arr 5 0 (eL ([] : List T_impl_Part)) true])], [sc 0 v3.2, some ⟨0, Enc.cells (T_impl_Bond.mk 0 0 [] 0 [] false [])⟩, some ⟨0, []⟩]⟩) (by kernel_rfl)) ?_
 refine opsP_E (dd := some 7) (x := .ptr 2 1 0) (alz_E (blk := ⟨0, []⟩) (zs := [.lit (.int .i64 0), .lit (.int .i64 0), .arr 1 0 [] true, .lit (.int .i64 0), .arr 1 0 [] true, .lit (.bool false), .arr 5 0 [] true]) 7 41 2 0 (pn hQ) zi_ok41 (by kernel_rfl) (by kernel_rfl)) ?_
 refine veM [6, 7] 1 141 [(0, .ptr 0 0 0), (1, A a1), (2, I a2), (6, .ptr 1 0 0), (7, .ptr 2 1 0)] [sc 0 v3.2, some ⟨0, Enc.cells (T_impl_Bond.mk 0 0 [] 0 [] false [])⟩, some ⟨1, [I (w64 (1 + v1.1)), I v3.1, .arr 1 0 (eL ([] : List Int)) true, I 0, .arr 1 0 (eL ([] : List Int)) true, B false, .arr 5 0 (eL ([] : List T_impl_Part)) true]⟩] ?_
 refine srvM [6, 7] 3 141 [(0, .ptr 0 0 0), (1, A a1), (2, I a2), (6, .ptr 1 0 0), (7, .ptr 2 1 0), (20, A a1), (22, I v3.1)] [sc 0 v3.2, some ⟨0, Enc.cells (T_impl_Bond.mk 0 0 [] 0 [] false [])⟩, some ⟨1, [I (w64 (1 + v1.1)), I v3.1, .arr 1 0 (eL ([] : List Int)) true, I 0, .arr 1 0 (eL ([] : List Int)) true, B false, .arr 5 0 (eL ([] : List T_impl_Part)) true]⟩] ?_
 obtain ⟨v5, hv6, h⟩ := bindS h
 refine opsP_idx τ_ok 23 hv6 (by kernel_rfl) ?_
 refine veM [6, 7] 3 141 [(0, .ptr 0 0 0), (1, A a1), (2, I a2), (6, .ptr 1 0 0), (7, .ptr 2 1 0), (8, A v5.fColumns)] [sc 0 v3.2, some ⟨0, Enc.cells (T_impl_Bond.mk 0 0 [] 0 [] false [])⟩, some ⟨1, [I (w64 (1 + v1.1)), I v3.1, .arr 1 0 (eL ([] : List Int)) true, I 0, .arr 1 0 (eL ([] : List Int)) true, B false, .arr 5 0 (eL ([] : List T_impl_Part)) true]⟩] ?_
 refine pwp_seq ?_
 refine srveM [6, 7] 141 [(0, .ptr 0 0 0), (1, A a1), (2, I a2), (6, .ptr 1 0 0), (7, .ptr 2 1 0), (8, A v5.fColumns), (27, I (w64 (1 + v1.1)))] [sc 0 v3.2, some ⟨0, Enc.cells (T_impl_Bond.mk 0 0 [] 0 [] false [])⟩, some ⟨1, [I (w64 (1 + v1.1)), I v3.1, .arr 1 0 (eL ([] : List Int)) true, I 0, .arr 1 0 (eL ([] : List Int)) true, B false, .arr 5 0 (eL ([] : List T_impl_Part)) true]⟩] ?_
 refine pwp_block ?_
 refine srveM [6, 7] 141 [(0, .ptr 0 0 0), (1, A a1), (2, I a2), (6, .ptr 1 0 0), (7, .ptr 2 1 0), (8, A v5.fColumns), (27, I (w64 (1 + v1.1))), (28, B ((w64 (1 + v1.1)) == 1))] [sc 0 v3.2, some ⟨0, Enc.cells (T_impl_Bond.mk 0 0 [] 0 [] false [])⟩, some ⟨1, [I (w64 (1 + v1.1)), I v3.1, .arr 1 0 (eL ([] : List Int)) true, I 0, .arr 1 0 (eL ([] : List Int)) true, B false, .arr 5 0 (eL ([] : List T_impl_Part)) true]⟩] ?_
 refine pc h (fun h => ?_) (fun h => ?_)
 refine srvM [6, 7] 3 141 [(0, .ptr 0 0 0), (2, I a2), (6, .ptr 1 0 0), (7, .ptr 2 1 0), (8, A v5.fColumns), (30, .ptr 0 0 0), (32, I (v5.fColumns.length : Int))] [sc 0 v3.2, some ⟨0, Enc.cells (T_impl_Bond.mk 0 0 [] 0 [] false [])⟩, some ⟨1, [I (w64 (1 + v1.1)), I v3.1, .arr 1 0 (eL ([] : List Int)) true, I 0, .arr 1 0 (eL ([] : List Int)) true, B false, .arr 5 0 (eL ([] : List T_impl_Part)) true]⟩] ?_
 obtain ⟨v8, hv9, h⟩ := bindS h
 refine cB 33 0 0 (ok_spec_l20Rd_pick hv9) ?_
 refine opsP_E (dd := some 34) (x := .ref 3 0 0 1 ([v8.1] : List Int).length false) (bsl_N (cells := eL ([v8.1] : List Int)) τ_ok 34 3 (by first | exact pn hQ | exact pk hQ) (by kernel_rfl) (by kernel_rfl)) ?_
 refine veM [6, 7] 2 141 [(0, .ptr 0 0 0), (2, I a2), (6, .ptr 1 0 0), (7, .ptr 2 1 0), (8, A v5.fColumns)] [sc 0 v8.2, some ⟨0, Enc.cells (T_impl_Bond.mk 0 0 [] 0 [] false [])⟩, some ⟨1, [I (w64 (1 + v1.1)), I v3.1, .ref 3 0 0 1 ([v8.1] : List Int).length false, I 0, .arr 1 0 (eL ([] : List Int)) true, B false, .arr 5 0 (eL ([] : List T_impl_Part)) true]⟩, some ⟨0, eL ([v8.1] : List Int)⟩] ?_
 refine srvM [6, 7] 1 141 [(0, .ptr 0 0 0), (2, I a2), (6, .ptr 1 0 0), (7, .ptr 2 1 0), (8, A v5.fColumns), (36, .ptr 0 0 0)] [sc 0 v8.2, some ⟨0, Enc.cells (T_impl_Bond.mk 0 0 [] 0 [] false [])⟩, some ⟨1, [I (w64 (1 + v1.1)), I v3.1, .ref 3 0 0 1 ([v8.1] : List Int).length false, I 0, .arr 1 0 (eL ([] : List Int)) true, B false, .arr 5 0 (eL ([] : List T_impl_Part)) true]⟩, some ⟨0, eL ([v8.1] : List Int)⟩] ?_
 obtain ⟨v10, hv11, h⟩ := bindS h
 refine cB 37 0 0 (ok_spec_l20Rd_pick hv11) ?_
 refine veM [6, 7] 1 141 [(0, .ptr 0 0 0), (2, I a2), (6, .ptr 1 0 0), (7, .ptr 2 1 0), (8, A v5.fColumns), (38, B (v10.1 == 0))] [sc 0 v10.2, some ⟨0, Enc.cells (T_impl_Bond.mk 0 0 [] 0 [] false [])⟩, some ⟨1, [I (w64 (1 + v1.1)), I v3.1, .ref 3 0 0 1 ([v8.1] : List Int).length false, I 0, .arr 1 0 (eL ([] : List Int)) true, B false, .arr 5 0 (eL ([] : List T_impl_Part)) true]⟩, some ⟨0, eL ([v8.1] : List Int)⟩] ?_
 refine pc h (fun h => ?_) (fun h => ?_)
 refine ip 141 [(0, .ptr 0 0 0), (2, I a2), (6, .ptr 1 0 0), (7, .ptr 2 1 0), (8, A v5.fColumns)] [sc 0 v10.2, some ⟨0, Enc.cells (T_impl_Bond.mk 0 0 [] 0 [] false [])⟩, some ⟨1, [I (w64 (1 + v1.1)), I v3.1, .ref 3 0 0 1 ([v8.1] : List Int).length false, I 0, .arr 1 0 (eL ([] : List Int)) true, B false, .arr 5 0 (eL ([] : List T_impl_Part)) true]⟩, some ⟨0, eL ([v8.1] : List Int)⟩] ?_
 refine pwp_any ([[2, 3], [2, 3], [0], [], [], [0], [], [3], [2, 3], [2, 3]]) ([[], [], [], [], [], [0], [], [3], [], [2]]) rfl (by kernel_rfl) ?_
 refine qvM [6, 7] [2, 3] (hR (hL trivial)) 2 141 [(40, .ref 3 0 0 1 ([v8.1] : List Int).length false), (0, .ptr 0 0 0), (2, I a2), (6, .ptr 1 0 0), (7, .ptr 2 1 0), (8, A v5.fColumns)] [sc 0 v10.2, some ⟨0, Enc.cells (T_impl_Bond.mk 0 0 [] 0 [] false [])⟩, some ⟨1, [I (w64 (1 + v1.1)), I v3.1, .ref 3 0 0 1 ([v8.1] : List Int).length false, I 0, .arr 1 0 (eL ([] : List Int)) true, B false, .arr 5 0 (eL ([] : List T_impl_Part)) true]⟩, some ⟨0, eL ([v8.1] : List Int)⟩] ?_
 refine qvM [6, 7] [0] (hB trivial) 1 141 [(41, .ptr 0 0 0), (40, .ref 3 0 0 1 ([v8.1] : List Int).length false), (0, .ptr 0 0 0), (2, I a2), (6, .ptr 1 0 0), (7, .ptr 2 1 0), (8, A v5.fColumns)] [sc 0 v10.2, some ⟨0, Enc.cells (T_impl_Bond.mk 0 0 [] 0 [] false [])⟩, some ⟨1, [I (w64 (1 + v1.1)), I v3.1, .ref 3 0 0 1 ([v8.1] : List Int).length false, I 0, .arr 1 0 (eL ([] : List Int)) true, B false, .arr 5 0 (eL ([] : List T_impl_Part)) true]⟩, some ⟨0, eL ([v8.1] : List Int)⟩] ?_
 refine qvM [6, 7] [] trivial 2 141 [(43, I (v5.fColumns.length : Int)), (41, .ptr 0 0 0), (40, .ref 3 0 0 1 ([v8.1] : List Int).length false), (0, .ptr 0 0 0), (2, I a2), (6, .ptr 1 0 0), (7, .ptr 2 1 0)] [sc 0 v10.2, some ⟨0, Enc.cells (T_impl_Bond.mk 0 0 [] 0 [] false [])⟩, some ⟨1, [I (w64 (1 + v1.1)), I v3.1, .ref 3 0 0 1 ([v8.1] : List Int).length false, I 0, .arr 1 0 (eL ([] : List Int)) true, B false, .arr 5 0 (eL ([] : List T_impl_Part)) true]⟩, some ⟨0, eL ([v8.1] : List Int)⟩] ?_
 obtain ⟨v13, hv14, h⟩ := bindS h
 refine qX (some 44) (I v13.1) 141 [(44, I v13.1), (40, .ref 3 0 0 1 ([v8.1] : List Int).length false), (0, .ptr 0 0 0), (2, I a2), (6, .ptr 1 0 0), (7, .ptr 2 1 0)] [sc 0 v13.2, some ⟨0, Enc.cells (T_impl_Bond.mk 0 0 [] 0 [] false [])⟩, some ⟨1, [I (w64 (1 + v1.1)), I v3.1, .ref 3 0 0 1 ([v8.1] : List Int).length false, I 0, .arr 1 0 (eL ([] : List Int)) true, B false, .arr 5 0 (eL ([] : List T_impl_Part)) true]⟩, some ⟨0, eL ([v8.1] : List Int)⟩] (fun Γ' hΓ => callB_E τ 44 0 0 (ok_spec_l20Rd_pick hv14) (FzTo.frz rfl) rfl (by kernel_rfl)) (hB trivial) ?_
 refine qvM [6, 7] [] trivial 1 141 [(45, .arr 1 ([v13.1] : List Int).length (eL ([v13.1] : List Int)) true), (40, .ref 3 0 0 1 ([v8.1] : List Int).length false), (0, .ptr 0 0 0), (2, I a2), (6, .ptr 1 0 0), (7, .ptr 2 1 0)] [sc 0 v13.2, some ⟨0, Enc.cells (T_impl_Bond.mk 0 0 [] 0 [] false [])⟩, some ⟨1, [I (w64 (1 + v1.1)), I v3.1, .ref 3 0 0 1 ([v8.1] : List Int).length false, I 0, .arr 1 0 (eL ([] : List Int)) true, B false, .arr 5 0 (eL ([] : List T_impl_Part)) true]⟩, some ⟨0, eL ([v8.1] : List Int)⟩] ?_
 obtain ⟨v15, hv16, h⟩ := bindS h
 refine qX (some 46) (rf 3 1 1 v15) 141 [(46, rf 3 1 1 v15), (0, .ptr 0 0 0), (2, I a2), (6, .ptr 1 0 0), (7, .ptr 2 1 0)] [sc 0 v13.2, some ⟨0, Enc.cells (T_impl_Bond.mk 0 0 [] 0 [] false [])⟩, some ⟨1, [I (w64 (1 + v1.1)), I v3.1, .ref 3 0 0 1 ([v8.1] : List Int).length false, I 0, .arr 1 0 (eL ([] : List Int)) true, B false, .arr 5 0 (eL ([] : List T_impl_Part)) true]⟩, sl 1 v15] (fun Γ' hΓ => app_Ew τ_ok 46 3 0 (by first | exact py hΓ hQ | exact pky hΓ hQ) hv16 (by kernel_rfl)) (hL trivial) ?_
 refine qvM [6, 7] [2, 3] (hR (hL trivial)) 1 141 [(47, .ptr 2 1 2), (46, rf 3 1 1 v15), (0, .ptr 0 0 0), (2, I a2), (6, .ptr 1 0 0), (7, .ptr 2 1 0)] [sc 0 v13.2, some ⟨0, Enc.cells (T_impl_Bond.mk 0 0 [] 0 [] false [])⟩, some ⟨1, [I (w64 (1 + v1.1)), I v3.1, .ref 3 0 0 1 ([v8.1] : List Int).length false, I 0, .arr 1 0 (eL ([] : List Int)) true, B false, .arr 5 0 (eL ([] : List T_impl_Part)) true]⟩, sl 1 v15] ?_
 refine qX (Hm' := [none, none, some ⟨1, [I (w64 (1 + v1.1)), I v3.1, rf 3 1 1 v15, I 0, .arr 1 0 (eL ([] : List Int)) true, B false, .arr 5 0 (eL ([] : List T_impl_Part)) true]⟩, sl 1 v15]) none (.any) 141 [(0, .ptr 0 0 0), (2, I a2), (6, .ptr 1 0 0), (7, .ptr 2 1 0)] [sc 0 v13.2, some ⟨0, Enc.cells (T_impl_Bond.mk 0 0 [] 0 [] false [])⟩, some ⟨1, [I (w64 (1 + v1.1)), I v3.1, rf 3 1 1 v15, I 0, .arr 1 0 (eL ([] : List Int)) true, B false, .arr 5 0 (eL ([] : List T_impl_Part)) true]⟩, sl 1 v15] (fun Γ' hΓ => sto_E τ_ok 2 1 (by kernel_rfl)) (hR (hL trivial)) ?_
 refine qn 141 [(0, .ptr 0 0 0), (2, I a2), (6, .ptr 1 0 0), (7, .ptr 2 1 0)] [sc 0 v13.2, some ⟨0, Enc.cells (T_impl_Bond.mk 0 0 [] 0 [] false [])⟩, some ⟨1, [I (w64 (1 + v1.1)), I v3.1, rf 3 1 1 v15, I 0, .arr 1 0 (eL ([] : List Int)) true, B false, .arr 5 0 (eL ([] : List T_impl_Part)) true]⟩, sl 1 v15] ?_
 refine pwp_seq ?_
 refine pwp_join (σ := T_spec_l20Rd × T_impl_Bond × (List Int)) (fun (x17, x18, x19) => (⟨141, [(6, .ptr 1 0 0), (7, .ptr 2 1 0)], [sc 0 x17, some ⟨0, Enc.cells (T_impl_Bond.mk 0 0 [] 0 [] false [])⟩, some ⟨1, [I x18.fKind, I x18.fIn, rf 3 0 1 x19, I x18.fOf, .arr 1 0 (eL ([] : List Int)) true, B x18.fFollow, .arr 5 0 (eL ([] : List T_impl_Part)) true]⟩, sl 0 x19]⟩ : St)) (fun (x17, x18, x19) => spec_l20Bond_j0 x17 x18 x19 = some y) ?_ ?_
 refine srvM [6, 7] 2 141 [(0, .ptr 0 0 0), (6, .ptr 1 0 0), (7, .ptr 2 1 0), (110, .ptr 0 0 0), (111, I a2)] [sc 0 v13.2, some ⟨0, Enc.cells (T_impl_Bond.mk 0 0 [] 0 [] false [])⟩, some ⟨1, [I (w64 (1 + v1.1)), I v3.1, rf 3 1 1 v15, I 0, .arr 1 0 (eL ([] : List Int)) true, B false, .arr 5 0 (eL ([] : List T_impl_Part)) true]⟩, sl 1 v15] ?_
 obtain ⟨v20, hv21, h⟩ := bindS h
 refine cB 112 0 0 (ok_spec_l20Rd_odd hv21) ?_
 refine veM [6, 7] 0 141 [(0, .ptr 0 0 0), (6, .ptr 1 0 0), (7, .ptr 2 1 0), (112, B v20.1)] [sc 0 v20.2, some ⟨0, Enc.cells (T_impl_Bond.mk 0 0 [] 0 [] false [])⟩, some ⟨1, [I (w64 (1 + v1.1)), I v3.1, rf 3 1 1 v15, I 0, .arr 1 0 (eL ([] : List Int)) true, B false, .arr 5 0 (eL ([] : List T_impl_Part)) true]⟩, sl 1 v15] ?_
 refine pc h (fun h => ?_) (fun h => ?_)
 refine srvM [6, 7] 1 141 [(0, .ptr 0 0 0), (6, .ptr 1 0 0), (7, .ptr 2 1 0), (113, .ptr 0 0 0)] [sc 0 v20.2, some ⟨0, Enc.cells (T_impl_Bond.mk 0 0 [] 0 [] false [])⟩, some ⟨1, [I (w64 (1 + v1.1)), I v3.1, rf 3 1 1 v15, I 0, .arr 1 0 (eL ([] : List Int)) true, B false, .arr 5 0 (eL ([] : List T_impl_Part)) true]⟩, sl 1 v15] ?_
 obtain ⟨v23, hv24, h⟩ := bindS h
 refine cB 114 0 0 (ok_spec_l20Rd_pick hv24) ?_
 refine veM [6, 7] 0 141 [(0, .ptr 0 0 0), (6, .ptr 1 0 0), (7, .ptr 2 1 0), (114, I v23.1)] [sc 0 v23.2, some ⟨0, Enc.cells (T_impl_Bond.mk 0 0 [] 0 [] false [])⟩, some ⟨1, [I (w64 (1 + v1.1)), I v3.1, rf 3 1 1 v15, I 0, .arr 1 0 (eL ([] : List Int)) true, B false, .arr 5 0 (eL ([] : List T_impl_Part)) true]⟩, sl 1 v15] ?_
 refine pwp_block ?_
 refine srveM [6, 7] 141 [(0, .ptr 0 0 0), (6, .ptr 1 0 0), (7, .ptr 2 1 0), (114, I v23.1), (119, B (v23.1 == 0))] [sc 0 v23.2, some ⟨0, Enc.cells (T_impl_Bond.mk 0 0 [] 0 [] false [])⟩, some ⟨1, [I (w64 (1 + v1.1)), I v3.1, rf 3 1 1 v15, I 0, .arr 1 0 (eL ([] : List Int)) true, B false, .arr 5 0 (eL ([] : List T_impl_Part)) true]⟩, sl 1 v15] ?_
 refine pc h (fun h => ?_) (fun h => ?_)
 refine rvM [6, 7] 1 141 [(6, .ptr 1 0 0), (7, .ptr 2 1 0), (121, .ptr 0 0 0)] [sc 0 v23.2, some ⟨0, Enc.cells (T_impl_Bond.mk 0 0 [] 0 [] false [])⟩, some ⟨1, [I (w64 (1 + v1.1)), I v3.1, rf 3 1 1 v15, I 0, .arr 1 0 (eL ([] : List Int)) true, B false, .arr 5 0 (eL ([] : List T_impl_Part)) true]⟩, sl 1 v15] ?_
 obtain ⟨v26, hv27, h⟩ := bindS h
 refine cB 122 0 0 (ok_spec_l20Rd_pick hv27) ?_
 refine veM [6, 7] 3 141 [(6, .ptr 1 0 0), (7, .ptr 2 1 0)] [sc 0 v26.2, some ⟨0, Enc.cells (T_impl_Bond.mk 0 0 [] 0 [] false [])⟩, some ⟨1, [I (w64 (1 + v1.1)), I (w64 (v26.1 - 1)), rf 3 1 1 v15, I 0, .arr 1 0 (eL ([] : List Int)) true, B false, .arr 5 0 (eL ([] : List T_impl_Part)) true]⟩, sl 1 v15] ?_
 exact ⟨(v26.2, (T_impl_Bond.mk (w64 (1 + v1.1)) (w64 (v26.1 - 1)) [] 0 [] false []), v15), h, qt (it (st' := ⟨141, [(6, .ptr 1 0 0), (7, .ptr 2 1 0)], [sc 0 v26.2, some ⟨0, Enc.cells (T_impl_Bond.mk 0 0 [] 0 [] false [])⟩, some ⟨1, [I (w64 (1 + v1.1)), I (w64 (v26.1 - 1)), rf 3 1 1 v15, I 0, .arr 1 0 (eL ([] : List Int)) true, B false, .arr 5 0 (eL ([] : List T_impl_Part)) true]⟩, sl 1 v15]⟩) [6, 7]) (qt (Imp.reverB (cs := eL v15) (st' := ⟨141, [(6, .ptr 1 0 0), (7, .ptr 2 1 0)], [sc 0 v26.2, some ⟨0, Enc.cells (T_impl_Bond.mk 0 0 [] 0 [] false [])⟩, some ⟨1, [I (w64 (1 + v1.1)), I (w64 (v26.1 - 1)), rf 3 0 1 v15, I 0, .arr 1 0 (eL ([] : List Int)) true, B false, .arr 5 0 (eL ([] : List T_impl_Part)) true]⟩, sl 0 v15]⟩) 3 1 (by kernel_rfl) (qu_of_frzL (eL_frz _)) (HpRel.frz rfl (Enc.frz _) (HpRel.frz rfl (Enc.frz _) (HpRel.box rfl (CellRel.cons ⟨rfl, rfl⟩ (CellRel.cons ⟨rfl, rfl⟩ (CellRel.cons ⟨rfl, rfl⟩ (CellRel.cons ⟨rfl, rfl⟩ (CellRel.cons ⟨rfl, rfl⟩ (CellRel.cons ⟨rfl, rfl⟩ (CellRel.cons ⟨rfl, rfl⟩ CellRel.nil))))))) (HpRel.key HpRel.nil)))) (by kernel_rfl) (by rfl) (p01 hQ)) (it [6, 7]))⟩
 refine srveM [6, 7] 141 [(0, .ptr 0 0 0), (6, .ptr 1 0 0), (7, .ptr 2 1 0), (114, I v23.1), (125, B (v23.1 == 1))] [sc 0 v23.2, some ⟨0, Enc.cells (T_impl_Bond.mk 0 0 [] 0 [] false [])⟩, some ⟨1, [I (w64 (1 + v1.1)), I v3.1, rf 3 1 1 v15, I 0, .arr 1 0 (eL ([] : List Int)) true, B false, .arr 5 0 (eL ([] : List T_impl_Part)) true]⟩, sl 1 v15] ?_
 refine pc h (fun h => ?_) (fun h => ?_)
 refine rvM [6, 7] 1 141 [(6, .ptr 1 0 0), (7, .ptr 2 1 0), (127, .ptr 0 0 0)] [sc 0 v23.2, some ⟨0, Enc.cells (T_impl_Bond.mk 0 0 [] 0 [] false [])⟩, some ⟨1, [I (w64 (1 + v1.1)), I v3.1, rf 3 1 1 v15, I 0, .arr 1 0 (eL ([] : List Int)) true, B false, .arr 5 0 (eL ([] : List T_impl_Part)) true]⟩, sl 1 v15] ?_
 obtain ⟨v29, hv30, h⟩ := bindS h
 refine cB 128 0 0 (ok_spec_l20Rd_pick hv30) ?_
 refine veM [6, 7] 2 141 [(6, .ptr 1 0 0), (7, .ptr 2 1 0)] [sc 0 v29.2, some ⟨0, Enc.cells (T_impl_Bond.mk 0 0 [] 0 [] false [])⟩, some ⟨1, [I v29.1, I v3.1, rf 3 1 1 v15, I 0, .arr 1 0 (eL ([] : List Int)) true, B false, .arr 5 0 (eL ([] : List T_impl_Part)) true]⟩, sl 1 v15] ?_
 exact ⟨(v29.2, (T_impl_Bond.mk v29.1 v3.1 [] 0 [] false []), v15), h, qt (it (st' := ⟨141, [(6, .ptr 1 0 0), (7, .ptr 2 1 0)], [sc 0 v29.2, some ⟨0, Enc.cells (T_impl_Bond.mk 0 0 [] 0 [] false [])⟩, some ⟨1, [I v29.1, I v3.1, rf 3 1 1 v15, I 0, .arr 1 0 (eL ([] : List Int)) true, B false, .arr 5 0 (eL ([] : List T_impl_Part)) true]⟩, sl 1 v15]⟩) [6, 7]) (qt (Imp.reverB (cs := eL v15) (st' := ⟨141, [(6, .ptr 1 0 0), (7, .ptr 2 1 0)], [sc 0 v29.2, some ⟨0, Enc.cells (T_impl_Bond.mk 0 0 [] 0 [] false [])⟩, some ⟨1, [I v29.1, I v3.1, rf 3 0 1 v15, I 0, .arr 1 0 (eL ([] : List Int)) true, B false, .arr 5 0 (eL ([] : List T_impl_Part)) true]⟩, sl 0 v15]⟩) 3 1 (by kernel_rfl) (qu_of_frzL (eL_frz _)) (HpRel.frz rfl (Enc.frz _) (HpRel.frz rfl (Enc.frz _) (HpRel.box rfl (CellRel.cons ⟨rfl, rfl⟩ (CellRel.cons ⟨rfl, rfl⟩ (CellRel.cons ⟨rfl, rfl⟩ (CellRel.cons ⟨rfl, rfl⟩ (CellRel.cons ⟨rfl, rfl⟩ (CellRel.cons ⟨rfl, rfl⟩ (CellRel.cons ⟨rfl, rfl⟩ CellRel.nil))))))) (HpRel.key HpRel.nil)))) (by kernel_rfl) (by rfl) (p01 hQ)) (it [6, 7]))⟩
 refine srveM [6, 7] 141 [(0, .ptr 0 0 0), (6, .ptr 1 0 0), (7, .ptr 2 1 0), (130, B (v23.1 == 2))] [sc 0 v23.2, some ⟨0, Enc.cells (T_impl_Bond.mk 0 0 [] 0 [] false [])⟩, some ⟨1, [I (w64 (1 + v1.1)), I v3.1, rf 3 1 1 v15, I 0, .arr 1 0 (eL ([] : List Int)) true, B false, .arr 5 0 (eL ([] : List T_impl_Part)) true]⟩, sl 1 v15] ?_
 refine pc h (fun h => ?_) (fun h => ?_)
 refine ip 141 [(0, .ptr 0 0 0), (6, .ptr 1 0 0), (7, .ptr 2 1 0)] [sc 0 v23.2, some ⟨0, Enc.cells (T_impl_Bond.mk 0 0 [] 0 [] false [])⟩, some ⟨1, [I (w64 (1 + v1.1)), I v3.1, rf 3 1 1 v15, I 0, .arr 1 0 (eL ([] : List Int)) true, B false, .arr 5 0 (eL ([] : List T_impl_Part)) true]⟩, sl 1 v15] ?_
 refine pwp_any ([[2, 3], [2, 3], [0], [0], [], [], [3], [2, 3], [2, 3]]) ([[], [], [], [0], [], [], [3], [], [2]]) rfl (by kernel_rfl) ?_
 refine qvM [6, 7] [2, 3] (hR (hL trivial)) 2 141 [(133, rf 3 1 1 v15), (0, .ptr 0 0 0), (6, .ptr 1 0 0), (7, .ptr 2 1 0)] [sc 0 v23.2, some ⟨0, Enc.cells (T_impl_Bond.mk 0 0 [] 0 [] false [])⟩, some ⟨1, [I (w64 (1 + v1.1)), I v3.1, rf 3 1 1 v15, I 0, .arr 1 0 (eL ([] : List Int)) true, B false, .arr 5 0 (eL ([] : List T_impl_Part)) true]⟩, sl 1 v15] ?_
 refine qvM [6, 7] [0] (hB trivial) 1 141 [(134, .ptr 0 0 0), (133, rf 3 1 1 v15), (6, .ptr 1 0 0), (7, .ptr 2 1 0)] [sc 0 v23.2, some ⟨0, Enc.cells (T_impl_Bond.mk 0 0 [] 0 [] false [])⟩, some ⟨1, [I (w64 (1 + v1.1)), I v3.1, rf 3 1 1 v15, I 0, .arr 1 0 (eL ([] : List Int)) true, B false, .arr 5 0 (eL ([] : List T_impl_Part)) true]⟩, sl 1 v15] ?_
 obtain ⟨v32, hv33, h⟩ := bindS h
 refine qX (some 135) (I v32.1) 141 [(135, I v32.1), (133, rf 3 1 1 v15), (6, .ptr 1 0 0), (7, .ptr 2 1 0)] [sc 0 v32.2, some ⟨0, Enc.cells (T_impl_Bond.mk 0 0 [] 0 [] false [])⟩, some ⟨1, [I (w64 (1 + v1.1)), I v3.1, rf 3 1 1 v15, I 0, .arr 1 0 (eL ([] : List Int)) true, B false, .arr 5 0 (eL ([] : List T_impl_Part)) true]⟩, sl 1 v15] (fun Γ' hΓ => callB_E τ 135 0 0 (ok_spec_l20Rd_pick hv33) (FzTo.frz rfl) rfl (by kernel_rfl)) (hB trivial) ?_
 refine qvM [6, 7] [] trivial 2 141 [(137, .arr 1 ([(w64 (v32.1 - 1))] : List Int).length (eL ([(w64 (v32.1 - 1))] : List Int)) true), (133, rf 3 1 1 v15), (6, .ptr 1 0 0), (7, .ptr 2 1 0)] [sc 0 v32.2, some ⟨0, Enc.cells (T_impl_Bond.mk 0 0 [] 0 [] false [])⟩, some ⟨1, [I (w64 (1 + v1.1)), I v3.1, rf 3 1 1 v15, I 0, .arr 1 0 (eL ([] : List Int)) true, B false, .arr 5 0 (eL ([] : List T_impl_Part)) true]⟩, sl 1 v15] ?_
 obtain ⟨v34, hv35, h⟩ := bindS h
 refine qX (some 138) (rf 3 2 1 v34) 141 [(138, rf 3 2 1 v34), (6, .ptr 1 0 0), (7, .ptr 2 1 0)] [sc 0 v32.2, some ⟨0, Enc.cells (T_impl_Bond.mk 0 0 [] 0 [] false [])⟩, some ⟨1, [I (w64 (1 + v1.1)), I v3.1, rf 3 1 1 v15, I 0, .arr 1 0 (eL ([] : List Int)) true, B false, .arr 5 0 (eL ([] : List T_impl_Part)) true]⟩, sl 2 v34] (fun Γ' hΓ => app_Ew τ_ok 138 3 1 (by first | exact py hΓ hQ | exact pky hΓ hQ) hv35 (by kernel_rfl)) (hL trivial) ?_
 refine qvM [6, 7] [2, 3] (hR (hL trivial)) 1 141 [(139, .ptr 2 1 2), (138, rf 3 2 1 v34), (6, .ptr 1 0 0), (7, .ptr 2 1 0)] [sc 0 v32.2, some ⟨0, Enc.cells (T_impl_Bond.mk 0 0 [] 0 [] false [])⟩, some ⟨1, [I (w64 (1 + v1.1)), I v3.1, rf 3 1 1 v15, I 0, .arr 1 0 (eL ([] : List Int)) true, B false, .arr 5 0 (eL ([] : List T_impl_Part)) true]⟩, sl 2 v34] ?_
 refine qX (Hm' := [none, none, some ⟨1, [I (w64 (1 + v1.1)), I v3.1, rf 3 2 1 v34, I 0, .arr 1 0 (eL ([] : List Int)) true, B false, .arr 5 0 (eL ([] : List T_impl_Part)) true]⟩, sl 2 v34]) none (.any) 141 [(6, .ptr 1 0 0), (7, .ptr 2 1 0)] [sc 0 v32.2, some ⟨0, Enc.cells (T_impl_Bond.mk 0 0 [] 0 [] false [])⟩, some ⟨1, [I (w64 (1 + v1.1)), I v3.1, rf 3 2 1 v34, I 0, .arr 1 0 (eL ([] : List Int)) true, B false, .arr 5 0 (eL ([] : List T_impl_Part)) true]⟩, sl 2 v34] (fun Γ' hΓ => sto_E τ_ok 2 1 (by kernel_rfl)) (hR (hL trivial)) ?_
 refine qn 141 [(6, .ptr 1 0 0), (7, .ptr 2 1 0)] [sc 0 v32.2, some ⟨0, Enc.cells (T_impl_Bond.mk 0 0 [] 0 [] false [])⟩, some ⟨1, [I (w64 (1 + v1.1)), I v3.1, rf 3 2 1 v34, I 0, .arr 1 0 (eL ([] : List Int)) true, B false, .arr 5 0 (eL ([] : List T_impl_Part)) true]⟩, sl 2 v34] ?_
 exact ⟨(v32.2, (T_impl_Bond.mk (w64 (1 + v1.1)) v3.1 [] 0 [] false []), v34), h, qt (it (st' := ⟨141, [(6, .ptr 1 0 0), (7, .ptr 2 1 0)], [sc 0 v32.2, some ⟨0, Enc.cells (T_impl_Bond.mk 0 0 [] 0 [] false [])⟩, some ⟨1, [I (w64 (1 + v1.1)), I v3.1, rf 3 2 1 v34, I 0, .arr 1 0 (eL ([] : List Int)) true, B false, .arr 5 0 (eL ([] : List T_impl_Part)) true]⟩, sl 2 v34]⟩) [6, 7]) (qt (Imp.reverB (cs := eL v34) (st' := ⟨141, [(6, .ptr 1 0 0), (7, .ptr 2 1 0)], [sc 0 v32.2, some ⟨0, Enc.cells (T_impl_Bond.mk 0 0 [] 0 [] false [])⟩, some ⟨1, [I (w64 (1 + v1.1)), I v3.1, rf 3 0 1 v34, I 0, .arr 1 0 (eL ([] : List Int)) true, B false, .arr 5 0 (eL ([] : List T_impl_Part)) true]⟩, sl 0 v34]⟩) 3 2 (by kernel_rfl) (qu_of_frzL (eL_frz _)) (HpRel.frz rfl (Enc.frz _) (HpRel.frz rfl (Enc.frz _) (HpRel.box rfl (CellRel.cons ⟨rfl, rfl⟩ (CellRel.cons ⟨rfl, rfl⟩ (CellRel.cons ⟨rfl, rfl⟩ (CellRel.cons ⟨rfl, rfl⟩ (CellRel.cons ⟨rfl, rfl⟩ (CellRel.cons ⟨rfl, rfl⟩ (CellRel.cons ⟨rfl, rfl⟩ CellRel.nil))))))) (HpRel.key HpRel.nil)))) (by kernel_rfl) (by rfl) (p01 hQ)) (it [6, 7]))⟩
 refine rveM [6, 7] 141 [(6, .ptr 1 0 0), (7, .ptr 2 1 0)] [sc 0 v23.2, some ⟨0, Enc.cells (T_impl_Bond.mk 0 0 [] 0 [] false [])⟩, some ⟨1, [I (w64 (1 + v1.1)), I v3.1, rf 3 1 1 v15, I 0, .arr 1 0 (eL ([] : List Int)) true, B true, .arr 5 0 (eL ([] : List T_impl_Part)) true]⟩, sl 1 v15] ?_
 exact ⟨(v23.2, (T_impl_Bond.mk (w64 (1 + v1.1)) v3.1 [] 0 [] true []), v15), h, qt (it (st' := ⟨141, [(6, .ptr 1 0 0), (7, .ptr 2 1 0)], [sc 0 v23.2, some ⟨0, Enc.cells (T_impl_Bond.mk 0 0 [] 0 [] false [])⟩, some ⟨1, [I (w64 (1 + v1.1)), I v3.1, rf 3 1 1 v15, I 0, .arr 1 0 (eL ([] : List Int)) true, B true, .arr 5 0 (eL ([] : List T_impl_Part)) true]⟩, sl 1 v15]⟩) [6, 7]) (qt (Imp.reverB (cs := eL v15) (st' := ⟨141, [(6, .ptr 1 0 0), (7, .ptr 2 1 0)], [sc 0 v23.2, some ⟨0, Enc.cells (T_impl_Bond.mk 0 0 [] 0 [] false [])⟩, some ⟨1, [I (w64 (1 + v1.1)), I v3.1, rf 3 0 1 v15, I 0, .arr 1 0 (eL ([] : List Int)) true, B true, .arr 5 0 (eL ([] : List T_impl_Part)) true]⟩, sl 0 v15]⟩) 3 1 (by kernel_rfl) (qu_of_frzL (eL_frz _)) (HpRel.frz rfl (Enc.frz _) (HpRel.frz rfl (Enc.frz _) (HpRel.box rfl (CellRel.cons ⟨rfl, rfl⟩ (CellRel.cons ⟨rfl, rfl⟩ (CellRel.cons ⟨rfl, rfl⟩ (CellRel.cons ⟨rfl, rfl⟩ (CellRel.cons ⟨rfl, rfl⟩ (CellRel.cons ⟨rfl, rfl⟩ (CellRel.cons ⟨rfl, rfl⟩ CellRel.nil))))))) (HpRel.key HpRel.nil)))) (by kernel_rfl) (by rfl) (p01 hQ)) (it [6, 7]))⟩
 refine pwp_skip ?_
 exact ⟨(v20.2, (T_impl_Bond.mk (w64 (1 + v1.1)) v3.1 [] 0 [] false []), v15), h, qt (it (st' := ⟨141, [(6, .ptr 1 0 0), (7, .ptr 2 1 0)], [sc 0 v20.2, some ⟨0, Enc.cells (T_impl_Bond.mk 0 0 [] 0 [] false [])⟩, some ⟨1, [I (w64 (1 + v1.1)), I v3.1, rf 3 1 1 v15, I 0, .arr 1 0 (eL ([] : List Int)) true, B false, .arr 5 0 (eL ([] : List T_impl_Part)) true]⟩, sl 1 v15]⟩) [6, 7]) (qt (Imp.reverB (cs := eL v15) (st' := ⟨141, [(6, .ptr 1 0 0), (7, .ptr 2 1 0)], [sc 0 v20.2, some ⟨0, Enc.cells (T_impl_Bond.mk 0 0 [] 0 [] false [])⟩, some ⟨1, [I (w64 (1 + v1.1)), I v3.1, rf 3 0 1 v15, I 0, .arr 1 0 (eL ([] : List Int)) true, B false, .arr 5 0 (eL ([] : List T_impl_Part)) true]⟩, sl 0 v15]⟩) 3 1 (by kernel_rfl) (qu_of_frzL (eL_frz _)) (HpRel.frz rfl (Enc.frz _) (HpRel.frz rfl (Enc.frz _) (HpRel.box rfl (CellRel.cons ⟨rfl, rfl⟩ (CellRel.cons ⟨rfl, rfl⟩ (CellRel.cons ⟨rfl, rfl⟩ (CellRel.cons ⟨rfl, rfl⟩ (CellRel.cons ⟨rfl, rfl⟩ (CellRel.cons ⟨rfl, rfl⟩ (CellRel.cons ⟨rfl, rfl⟩ CellRel.nil))))))) (HpRel.key HpRel.nil)))) (by kernel_rfl) (by rfl) (p01 hQ)) (it [6, 7]))⟩
 rintro ⟨x17, x18, x19⟩ h
 dsimp only at h ⊢
 unfold spec_l20Bond_j0 at h
 refine srvM [6, 7] 1 141 [(6, .ptr 1 0 0), (140, .agg [I x18.fKind, I x18.fIn, rf 3 0 1 x19, I x18.fOf, .arr 1 0 (eL ([] : List Int)) true, B x18.fFollow, .arr 5 0 (eL ([] : List T_impl_Part)) true])] [sc 0 x17, some ⟨0, Enc.cells (T_impl_Bond.mk 0 0 [] 0 [] false [])⟩, some ⟨1, [I x18.fKind, I x18.fIn, rf 3 0 1 x19, I x18.fOf, .arr 1 0 (eL ([] : List Int)) true, B x18.fFollow, .arr 5 0 (eL ([] : List T_impl_Part)) true]⟩, sl 0 x19] ?_
 refine opsP_imp (Imp.freezeB (v := 0) (cs := eL x19) (st' := ⟨141, [(6, .ptr 1 0 0), (140, .agg [I ({ x18 with fList := x19 }.fKind), I ({ x18 with fList := x19 }.fIn), A ({ x18 with fList := x19 }.fList), I ({ x18 with fList := x19 }.fOf), .arr 1 0 (eL ([] : List Int)) true, B ({ x18 with fList := x19 }.fFollow), .arr 5 0 (eL ([] : List T_impl_Part)) true])], [sc 0 x17, some ⟨0, Enc.cells (T_impl_Bond.mk 0 0 [] 0 [] false [])⟩, some ⟨1, [I (({ x18 with fList := x19 } : T_impl_Bond).fKind), I (({ x18 with fList := x19 } : T_impl_Bond).fIn), A (({ x18 with fList := x19 } : T_impl_Bond).fList), I (({ x18 with fList := x19 } : T_impl_Bond).fOf), .arr 1 0 (eL ([] : List Int)) true, B (({ x18 with fList := x19 } : T_impl_Bond).fFollow), .arr 5 0 (eL ([] : List T_impl_Part)) true]⟩, none]⟩) 3 0 (pn hQ) (by kernel_rfl) (eL_frz _) (wholeC (whole_noRef (by kernel_rfl)) (wholeC (whole_agg (wholeL (whole_noRef (by kernel_rfl)) (wholeL (whole_noRef (by kernel_rfl)) (wholeL (whole_is (eL_len x19).symm) (wholeL (whole_noRef (by kernel_rfl)) (wholeL (whole_noRef (by kernel_rfl)) (wholeL (whole_noRef (by kernel_rfl)) (wholeL (whole_noRef (by kernel_rfl)) wholeL0)))))))) wholeC0)) (HpRel.frz rfl (Enc.frz _) (HpRel.frz rfl (Enc.frz _) (HpRel.box rfl (CellRel.cons ⟨rfl, trivial, rfl⟩ (CellRel.cons ⟨rfl, trivial, rfl⟩ (CellRel.cons ⟨rfl, (whole_is (eL_len x19).symm), rfl⟩ (CellRel.cons ⟨rfl, trivial, rfl⟩ (CellRel.cons ⟨rfl, trivial, rfl⟩ (CellRel.cons ⟨rfl, trivial, rfl⟩ (CellRel.cons ⟨rfl, trivial, rfl⟩ CellRel.nil))))))) (HpRel.key HpRel.nil)))) (by kernel_rfl) rfl (p01 hQ)) ?_
 refine vM [6, 7] 0 141 [(6, .ptr 1 0 0), (140, .agg [I ({ x18 with fList := x19 }.fKind), I ({ x18 with fList := x19 }.fIn), A ({ x18 with fList := x19 }.fList), I ({ x18 with fList := x19 }.fOf), .arr 1 0 (eL ([] : List Int)) true, B ({ x18 with fList := x19 }.fFollow), .arr 5 0 (eL ([] : List T_impl_Part)) true])] [sc 0 x17, some ⟨0, Enc.cells (T_impl_Bond.mk 0 0 [] 0 [] false [])⟩, some ⟨1, [I (({ x18 with fList := x19 } : T_impl_Bond).fKind), I (({ x18 with fList := x19 } : T_impl_Bond).fIn), A (({ x18 with fList := x19 } : T_impl_Bond).fList), I (({ x18 with fList := x19 } : T_impl_Bond).fOf), .arr 1 0 (eL ([] : List Int)) true, B (({ x18 with fList := x19 } : T_impl_Bond).fFollow), .arr 5 0 (eL ([] : List T_impl_Part)) true]⟩, none] ?_
 refine opsP_imp (Imp.softB (st' := ⟨141, [(6, .ptr 1 0 0), (140, E ({ ({ ({ x18 with fList := x19 } : T_impl_Bond) with fTo := [] } : T_impl_Bond) with fE := [] } : T_impl_Bond))], [sc 0 x17, some ⟨0, Enc.cells (T_impl_Bond.mk 0 0 [] 0 [] false [])⟩, some ⟨1, Enc.cells ({ ({ ({ x18 with fList := x19 } : T_impl_Bond) with fTo := [] } : T_impl_Bond) with fE := [] } : T_impl_Bond)⟩, none]⟩) 4 (by kernel_rfl) (HpRel.frz rfl (Enc.frz _) (HpRel.frz rfl (Enc.frz _) (HpRel.box rfl (CellRel.cons rfl (CellRel.cons rfl (CellRel.cons rfl (CellRel.cons rfl (CellRel.cons rfl (CellRel.cons rfl (CellRel.cons rfl CellRel.nil))))))) (HpRel.none rfl HpRel.nil)))) (by kernel_rfl) (by rfl) (p01 hQ)) ?_
 refine veM [6, 7] 1 141 [(6, .ptr 1 0 0)] [sc 0 x17, some ⟨0, Enc.cells ({ ({ ({ x18 with fList := x19 } : T_impl_Bond) with fTo := [] } : T_impl_Bond) with fE := [] } : T_impl_Bond)⟩, some ⟨1, Enc.cells ({ ({ ({ x18 with fList := x19 } : T_impl_Bond) with fTo := [] } : T_impl_Bond) with fE := [] } : T_impl_Bond)⟩, none] ?_
 have h := si h
 subst h
 exact pwp_ret ⟨.inr rfl, E ({ ({ ({ x18 with fList := x19 } : T_impl_Bond) with fTo := [] } : T_impl_Bond) with fE := [] } : T_impl_Bond), _, 0, by kernel_rfl, (OutP.frz (by kernel_rfl)), by decide, by decide, by kernel_rfl⟩
 refine pwp_skip ?_
 refine pwp_seq ?_
 refine pwp_join (σ := T_spec_l20Rd × T_impl_Bond × (List Int)) (fun (x36, x37, x38) => (⟨141, [(6, .ptr 1 0 0), (7, .ptr 2 1 0)], [sc 0 x36, some ⟨0, Enc.cells (T_impl_Bond.mk 0 0 [] 0 [] false [])⟩, some ⟨1, [I x37.fKind, I x37.fIn, rf 3 0 1 x38, I x37.fOf, .arr 1 0 (eL ([] : List Int)) true, B x37.fFollow, .arr 5 0 (eL ([] : List T_impl_Part)) true]⟩, sl 0 x38]⟩ : St)) (fun (x36, x37, x38) => spec_l20Bond_j1 x36 x37 x38 = some y) ?_ ?_
 refine srvM [6, 7] 2 141 [(0, .ptr 0 0 0), (6, .ptr 1 0 0), (7, .ptr 2 1 0), (110, .ptr 0 0 0), (111, I a2)] [sc 0 v10.2, some ⟨0, Enc.cells (T_impl_Bond.mk 0 0 [] 0 [] false [])⟩, some ⟨1, [I (w64 (1 + v1.1)), I v3.1, .ref 3 0 0 1 ([v8.1] : List Int).length false, I 0, .arr 1 0 (eL ([] : List Int)) true, B false, .arr 5 0 (eL ([] : List T_impl_Part)) true]⟩, some ⟨0, eL ([v8.1] : List Int)⟩] ?_
 obtain ⟨v39, hv40, h⟩ := bindS h
 refine cB 112 0 0 (ok_spec_l20Rd_odd hv40) ?_
 refine veM [6, 7] 0 141 [(0, .ptr 0 0 0), (6, .ptr 1 0 0), (7, .ptr 2 1 0), (112, B v39.1)] [sc 0 v39.2, some ⟨0, Enc.cells (T_impl_Bond.mk 0 0 [] 0 [] false [])⟩, some ⟨1, [I (w64 (1 + v1.1)), I v3.1, .ref 3 0 0 1 ([v8.1] : List Int).length false, I 0, .arr 1 0 (eL ([] : List Int)) true, B false, .arr 5 0 (eL ([] : List T_impl_Part)) true]⟩, some ⟨0, eL ([v8.1] : List Int)⟩] ?_
 refine pc h (fun h => ?_) (fun h => ?_)
 refine srvM [6, 7] 1 141 [(0, .ptr 0 0 0), (6, .ptr 1 0 0), (7, .ptr 2 1 0), (113, .ptr 0 0 0)] [sc 0 v39.2, some ⟨0, Enc.cells (T_impl_Bond.mk 0 0 [] 0 [] false [])⟩, some ⟨1, [I (w64 (1 + v1.1)), I v3.1, .ref 3 0 0 1 ([v8.1] : List Int).length false, I 0, .arr 1 0 (eL ([] : List Int)) true, B false, .arr 5 0 (eL ([] : List T_impl_Part)) true]⟩, some ⟨0, eL ([v8.1] : List Int)⟩] ?_
 obtain ⟨v42, hv43, h⟩ := bindS h
 refine cB 114 0 0 (ok_spec_l20Rd_pick hv43) ?_
 refine veM [6, 7] 0 141 [(0, .ptr 0 0 0), (6, .ptr 1 0 0), (7, .ptr 2 1 0), (114, I v42.1)] [sc 0 v42.2, some ⟨0, Enc.cells (T_impl_Bond.mk 0 0 [] 0 [] false [])⟩, some ⟨1, [I (w64 (1 + v1.1)), I v3.1, .ref 3 0 0 1 ([v8.1] : List Int).length false, I 0, .arr 1 0 (eL ([] : List Int)) true, B false, .arr 5 0 (eL ([] : List T_impl_Part)) true]⟩, some ⟨0, eL ([v8.1] : List Int)⟩] ?_
 refine pwp_block ?_
 refine srveM [6, 7] 141 [(0, .ptr 0 0 0), (6, .ptr 1 0 0), (7, .ptr 2 1 0), (114, I v42.1), (119, B (v42.1 == 0))] [sc 0 v42.2, some ⟨0, Enc.cells (T_impl_Bond.mk 0 0 [] 0 [] false [])⟩, some ⟨1, [I (w64 (1 + v1.1)), I v3.1, .ref 3 0 0 1 ([v8.1] : List Int).length false, I 0, .arr 1 0 (eL ([] : List Int)) true, B false, .arr 5 0 (eL ([] : List T_impl_Part)) true]⟩, some ⟨0, eL ([v8.1] : List Int)⟩] ?_
 refine pc h (fun h => ?_) (fun h => ?_)
 refine rvM [6, 7] 1 141 [(6, .ptr 1 0 0), (7, .ptr 2 1 0), (121, .ptr 0 0 0)] [sc 0 v42.2, some ⟨0, Enc.cells (T_impl_Bond.mk 0 0 [] 0 [] false [])⟩, some ⟨1, [I (w64 (1 + v1.1)), I v3.1, .ref 3 0 0 1 ([v8.1] : List Int).length false, I 0, .arr 1 0 (eL ([] : List Int)) true, B false, .arr 5 0 (eL ([] : List T_impl_Part)) true]⟩, some ⟨0, eL ([v8.1] : List Int)⟩] ?_
 obtain ⟨v45, hv46, h⟩ := bindS h
 refine cB 122 0 0 (ok_spec_l20Rd_pick hv46) ?_
 refine veM [6, 7] 3 141 [(6, .ptr 1 0 0), (7, .ptr 2 1 0)] [sc 0 v45.2, some ⟨0, Enc.cells (T_impl_Bond.mk 0 0 [] 0 [] false [])⟩, some ⟨1, [I (w64 (1 + v1.1)), I (w64 (v45.1 - 1)), .ref 3 0 0 1 ([v8.1] : List Int).length false, I 0, .arr 1 0 (eL ([] : List Int)) true, B false, .arr 5 0 (eL ([] : List T_impl_Part)) true]⟩, some ⟨0, eL ([v8.1] : List Int)⟩] ?_
 exact ⟨(v45.2, (T_impl_Bond.mk (w64 (1 + v1.1)) (w64 (v45.1 - 1)) [] 0 [] false []), ([v8.1] : List Int)), h, it [6, 7]⟩
 refine srveM [6, 7] 141 [(0, .ptr 0 0 0), (6, .ptr 1 0 0), (7, .ptr 2 1 0), (114, I v42.1), (125, B (v42.1 == 1))] [sc 0 v42.2, some ⟨0, Enc.cells (T_impl_Bond.mk 0 0 [] 0 [] false [])⟩, some ⟨1, [I (w64 (1 + v1.1)), I v3.1, .ref 3 0 0 1 ([v8.1] : List Int).length false, I 0, .arr 1 0 (eL ([] : List Int)) true, B false, .arr 5 0 (eL ([] : List T_impl_Part)) true]⟩, some ⟨0, eL ([v8.1] : List Int)⟩] ?_
 refine pc h (fun h => ?_) (fun h => ?_)
 refine rvM [6, 7] 1 141 [(6, .ptr 1 0 0), (7, .ptr 2 1 0), (127, .ptr 0 0 0)] [sc 0 v42.2, some ⟨0, Enc.cells (T_impl_Bond.mk 0 0 [] 0 [] false [])⟩, some ⟨1, [I (w64 (1 + v1.1)), I v3.1, .ref 3 0 0 1 ([v8.1] : List Int).length false, I 0, .arr 1 0 (eL ([] : List Int)) true, B false, .arr 5 0 (eL ([] : List T_impl_Part)) true]⟩, some ⟨0, eL ([v8.1] : List Int)⟩] ?_
 obtain ⟨v48, hv49, h⟩ := bindS h
 refine cB 128 0 0 (ok_spec_l20Rd_pick hv49) ?_
 refine veM [6, 7] 2 141 [(6, .ptr 1 0 0), (7, .ptr 2 1 0)] [sc 0 v48.2, some ⟨0, Enc.cells (T_impl_Bond.mk 0 0 [] 0 [] false [])⟩, some ⟨1, [I v48.1, I v3.1, .ref 3 0 0 1 ([v8.1] : List Int).length false, I 0, .arr 1 0 (eL ([] : List Int)) true, B false, .arr 5 0 (eL ([] : List T_impl_Part)) true]⟩, some ⟨0, eL ([v8.1] : List Int)⟩] ?_
 exact ⟨(v48.2, (T_impl_Bond.mk v48.1 v3.1 [] 0 [] false []), ([v8.1] : List Int)), h, it [6, 7]⟩
 refine srveM [6, 7] 141 [(0, .ptr 0 0 0), (6, .ptr 1 0 0), (7, .ptr 2 1 0), (130, B (v42.1 == 2))] [sc 0 v42.2, some ⟨0, Enc.cells (T_impl_Bond.mk 0 0 [] 0 [] false [])⟩, some ⟨1, [I (w64 (1 + v1.1)), I v3.1, .ref 3 0 0 1 ([v8.1] : List Int).length false, I 0, .arr 1 0 (eL ([] : List Int)) true, B false, .arr 5 0 (eL ([] : List T_impl_Part)) true]⟩, some ⟨0, eL ([v8.1] : List Int)⟩] ?_
 refine pc h (fun h => ?_) (fun h => ?_)
 refine ip 141 [(0, .ptr 0 0 0), (6, .ptr 1 0 0), (7, .ptr 2 1 0)] [sc 0 v42.2, some ⟨0, Enc.cells (T_impl_Bond.mk 0 0 [] 0 [] false [])⟩, some ⟨1, [I (w64 (1 + v1.1)), I v3.1, .ref 3 0 0 1 ([v8.1] : List Int).length false, I 0, .arr 1 0 (eL ([] : List Int)) true, B false, .arr 5 0 (eL ([] : List T_impl_Part)) true]⟩, some ⟨0, eL ([v8.1] : List Int)⟩] ?_
 refine pwp_any ([[2, 3], [2, 3], [0], [0], [], [], [3], [2, 3], [2, 3]]) ([[], [], [], [0], [], [], [3], [], [2]]) rfl (by kernel_rfl) ?_
 refine qvM [6, 7] [2, 3] (hR (hL trivial)) 2 141 [(133, .ref 3 0 0 1 ([v8.1] : List Int).length false), (0, .ptr 0 0 0), (6, .ptr 1 0 0), (7, .ptr 2 1 0)] [sc 0 v42.2, some ⟨0, Enc.cells (T_impl_Bond.mk 0 0 [] 0 [] false [])⟩, some ⟨1, [I (w64 (1 + v1.1)), I v3.1, .ref 3 0 0 1 ([v8.1] : List Int).length false, I 0, .arr 1 0 (eL ([] : List Int)) true, B false, .arr 5 0 (eL ([] : List T_impl_Part)) true]⟩, some ⟨0, eL ([v8.1] : List Int)⟩] ?_
 refine qvM [6, 7] [0] (hB trivial) 1 141 [(134, .ptr 0 0 0), (133, .ref 3 0 0 1 ([v8.1] : List Int).length false), (6, .ptr 1 0 0), (7, .ptr 2 1 0)] [sc 0 v42.2, some ⟨0, Enc.cells (T_impl_Bond.mk 0 0 [] 0 [] false [])⟩, some ⟨1, [I (w64 (1 + v1.1)), I v3.1, .ref 3 0 0 1 ([v8.1] : List Int).length false, I 0, .arr 1 0 (eL ([] : List Int)) true, B false, .arr 5 0 (eL ([] : List T_impl_Part)) true]⟩, some ⟨0, eL ([v8.1] : List Int)⟩] ?_
 obtain ⟨v51, hv52, h⟩ := bindS h
 refine qX (some 135) (I v51.1) 141 [(135, I v51.1), (133, .ref 3 0 0 1 ([v8.1] : List Int).length false), (6, .ptr 1 0 0), (7, .ptr 2 1 0)] [sc 0 v51.2, some ⟨0, Enc.cells (T_impl_Bond.mk 0 0 [] 0 [] false [])⟩, some ⟨1, [I (w64 (1 + v1.1)), I v3.1, .ref 3 0 0 1 ([v8.1] : List Int).length false, I 0, .arr 1 0 (eL ([] : List Int)) true, B false, .arr 5 0 (eL ([] : List T_impl_Part)) true]⟩, some ⟨0, eL ([v8.1] : List Int)⟩] (fun Γ' hΓ => callB_E τ 135 0 0 (ok_spec_l20Rd_pick hv52) (FzTo.frz rfl) rfl (by kernel_rfl)) (hB trivial) ?_
 refine qvM [6, 7] [] trivial 2 141 [(137, .arr 1 ([(w64 (v51.1 - 1))] : List Int).length (eL ([(w64 (v51.1 - 1))] : List Int)) true), (133, .ref 3 0 0 1 ([v8.1] : List Int).length false), (6, .ptr 1 0 0), (7, .ptr 2 1 0)] [sc 0 v51.2, some ⟨0, Enc.cells (T_impl_Bond.mk 0 0 [] 0 [] false [])⟩, some ⟨1, [I (w64 (1 + v1.1)), I v3.1, .ref 3 0 0 1 ([v8.1] : List Int).length false, I 0, .arr 1 0 (eL ([] : List Int)) true, B false, .arr 5 0 (eL ([] : List T_impl_Part)) true]⟩, some ⟨0, eL ([v8.1] : List Int)⟩] ?_
 obtain ⟨v53, hv54, h⟩ := bindS h
 refine qX (some 138) (rf 3 1 1 v53) 141 [(138, rf 3 1 1 v53), (6, .ptr 1 0 0), (7, .ptr 2 1 0)] [sc 0 v51.2, some ⟨0, Enc.cells (T_impl_Bond.mk 0 0 [] 0 [] false [])⟩, some ⟨1, [I (w64 (1 + v1.1)), I v3.1, .ref 3 0 0 1 ([v8.1] : List Int).length false, I 0, .arr 1 0 (eL ([] : List Int)) true, B false, .arr 5 0 (eL ([] : List T_impl_Part)) true]⟩, sl 1 v53] (fun Γ' hΓ => app_Ew τ_ok 138 3 0 (by first | exact py hΓ hQ | exact pky hΓ hQ) hv54 (by kernel_rfl)) (hL trivial) ?_
 refine qvM [6, 7] [2, 3] (hR (hL trivial)) 1 141 [(139, .ptr 2 1 2), (138, rf 3 1 1 v53), (6, .ptr 1 0 0), (7, .ptr 2 1 0)] [sc 0 v51.2, some ⟨0, Enc.cells (T_impl_Bond.mk 0 0 [] 0 [] false [])⟩, some ⟨1, [I (w64 (1 + v1.1)), I v3.1, .ref 3 0 0 1 ([v8.1] : List Int).length false, I 0, .arr 1 0 (eL ([] : List Int)) true, B false, .arr 5 0 (eL ([] : List T_impl_Part)) true]⟩, sl 1 v53] ?_
 refine qX (Hm' := [none, none, some ⟨1, [I (w64 (1 + v1.1)), I v3.1, rf 3 1 1 v53, I 0, .arr 1 0 (eL ([] : List Int)) true, B false, .arr 5 0 (eL ([] : List T_impl_Part)) true]⟩, sl 1 v53]) none (.any) 141 [(6, .ptr 1 0 0), (7, .ptr 2 1 0)] [sc 0 v51.2, some ⟨0, Enc.cells (T_impl_Bond.mk 0 0 [] 0 [] false [])⟩, some ⟨1, [I (w64 (1 + v1.1)), I v3.1, rf 3 1 1 v53, I 0, .arr 1 0 (eL ([] : List Int)) true, B false, .arr 5 0 (eL ([] : List T_impl_Part)) true]⟩, sl 1 v53] (fun Γ' hΓ => sto_E τ_ok 2 1 (by kernel_rfl)) (hR (hL trivial)) ?_
 refine qn 141 [(6, .ptr 1 0 0), (7, .ptr 2 1 0)] [sc 0 v51.2, some ⟨0, Enc.cells (T_impl_Bond.mk 0 0 [] 0 [] false [])⟩, some ⟨1, [I (w64 (1 + v1.1)), I v3.1, rf 3 1 1 v53, I 0, .arr 1 0 (eL ([] : List Int)) true, B false, .arr 5 0 (eL ([] : List T_impl_Part)) true]⟩, sl 1 v53] ?_
 exact ⟨(v51.2, (T_impl_Bond.mk (w64 (1 + v1.1)) v3.1 [] 0 [] false []), v53), h, qt (it (st' := ⟨141, [(6, .ptr 1 0 0), (7, .ptr 2 1 0)], [sc 0 v51.2, some ⟨0, Enc.cells (T_impl_Bond.mk 0 0 [] 0 [] false [])⟩, some ⟨1, [I (w64 (1 + v1.1)), I v3.1, rf 3 1 1 v53, I 0, .arr 1 0 (eL ([] : List Int)) true, B false, .arr 5 0 (eL ([] : List T_impl_Part)) true]⟩, sl 1 v53]⟩) [6, 7]) (qt (Imp.reverB (cs := eL v53) (st' := ⟨141, [(6, .ptr 1 0 0), (7, .ptr 2 1 0)], [sc 0 v51.2, some ⟨0, Enc.cells (T_impl_Bond.mk 0 0 [] 0 [] false [])⟩, some ⟨1, [I (w64 (1 + v1.1)), I v3.1, rf 3 0 1 v53, I 0, .arr 1 0 (eL ([] : List Int)) true, B false, .arr 5 0 (eL ([] : List T_impl_Part)) true]⟩, sl 0 v53]⟩) 3 1 (by kernel_rfl) (qu_of_frzL (eL_frz _)) (HpRel.frz rfl (Enc.frz _) (HpRel.frz rfl (Enc.frz _) (HpRel.box rfl (CellRel.cons ⟨rfl, rfl⟩ (CellRel.cons ⟨rfl, rfl⟩ (CellRel.cons ⟨rfl, rfl⟩ (CellRel.cons ⟨rfl, rfl⟩ (CellRel.cons ⟨rfl, rfl⟩ (CellRel.cons ⟨rfl, rfl⟩ (CellRel.cons ⟨rfl, rfl⟩ CellRel.nil))))))) (HpRel.key HpRel.nil)))) (by kernel_rfl) (by rfl) (p01 hQ)) (it [6, 7]))⟩
 refine rveM [6, 7] 141 [(6, .ptr 1 0 0), (7, .ptr 2 1 0)] [sc 0 v42.2, some ⟨0, Enc.cells (T_impl_Bond.mk 0 0 [] 0 [] false [])⟩, some ⟨1, [I (w64 (1 + v1.1)), I v3.1, .ref 3 0 0 1 ([v8.1] : List Int).length false, I 0, .arr 1 0 (eL ([] : List Int)) true, B true, .arr 5 0 (eL ([] : List T_impl_Part)) true]⟩, some ⟨0, eL ([v8.1] : List Int)⟩] ?_
 exact ⟨(v42.2, (T_impl_Bond.mk (w64 (1 + v1.1)) v3.1 [] 0 [] true []), ([v8.1] : List Int)), h, it [6, 7]⟩
 refine pwp_skip ?_
 exact ⟨(v39.2, (T_impl_Bond.mk (w64 (1 + v1.1)) v3.1 [] 0 [] false []), ([v8.1] : List Int)), h, it [6, 7]⟩
 rintro ⟨x36, x37, x38⟩ h
 dsimp only at h ⊢
 unfold spec_l20Bond_j1 at h
 refine srvM [6, 7] 1 141 [(6, .ptr 1 0 0), (140, .agg [I x37.fKind, I x37.fIn, rf 3 0 1 x38, I x37.fOf, .arr 1 0 (eL ([] : List Int)) true, B x37.fFollow, .arr 5 0 (eL ([] : List T_impl_Part)) true])] [sc 0 x36, some ⟨0, Enc.cells (T_impl_Bond.mk 0 0 [] 0 [] false [])⟩, some ⟨1, [I x37.fKind, I x37.fIn, rf 3 0 1 x38, I x37.fOf, .arr 1 0 (eL ([] : List Int)) true, B x37.fFollow, .arr 5 0 (eL ([] : List T_impl_Part)) true]⟩, sl 0 x38] ?_
 refine opsP_imp (Imp.freezeB (v := 0) (cs := eL x38) (st' := ⟨141, [(6, .ptr 1 0 0), (140, .agg [I ({ x37 with fList := x38 }.fKind), I ({ x37 with fList := x38 }.fIn), A ({ x37 with fList := x38 }.fList), I ({ x37 with fList := x38 }.fOf), .arr 1 0 (eL ([] : List Int)) true, B ({ x37 with fList := x38 }.fFollow), .arr 5 0 (eL ([] : List T_impl_Part)) true])], [sc 0 x36, some ⟨0, Enc.cells (T_impl_Bond.mk 0 0 [] 0 [] false [])⟩, some ⟨1, [I (({ x37 with fList := x38 } : T_impl_Bond).fKind), I (({ x37 with fList := x38 } : T_impl_Bond).fIn), A (({ x37 with fList := x38 } : T_impl_Bond).fList), I (({ x37 with fList := x38 } : T_impl_Bond).fOf), .arr 1 0 (eL ([] : List Int)) true, B (({ x37 with fList := x38 } : T_impl_Bond).fFollow), .arr 5 0 (eL ([] : List T_impl_Part)) true]⟩, none]⟩) 3 0 (pn hQ) (by kernel_rfl) (eL_frz _) (wholeC (whole_noRef (by kernel_rfl)) (wholeC (whole_agg (wholeL (whole_noRef (by kernel_rfl)) (wholeL (whole_noRef (by kernel_rfl)) (wholeL (whole_is (eL_len x38).symm) (wholeL (whole_noRef (by kernel_rfl)) (wholeL (whole_noRef (by kernel_rfl)) (wholeL (whole_noRef (by kernel_rfl)) (wholeL (whole_noRef (by kernel_rfl)) wholeL0)))))))) wholeC0)) (HpRel.frz rfl (Enc.frz _) (HpRel.frz rfl (Enc.frz _) (HpRel.box rfl (CellRel.cons ⟨rfl, trivial, rfl⟩ (CellRel.cons ⟨rfl, trivial, rfl⟩ (CellRel.cons ⟨rfl, (whole_is (eL_len x38).symm), rfl⟩ (CellRel.cons ⟨rfl, trivial, rfl⟩ (CellRel.cons ⟨rfl, trivial, rfl⟩ (CellRel.cons ⟨rfl, trivial, rfl⟩ (CellRel.cons ⟨rfl, trivial, rfl⟩ CellRel.nil))))))) (HpRel.key HpRel.nil)))) (by kernel_rfl) rfl (p01 hQ)) ?_
 refine vM [6, 7] 0 141 [(6, .ptr 1 0 0), (140, .agg [I ({ x37 with fList := x38 }.fKind), I ({ x37 with fList := x38 }.fIn), A ({ x37 with fList := x38 }.fList), I ({ x37 with fList := x38 }.fOf), .arr 1 0 (eL ([] : List Int)) true, B ({ x37 with fList := x38 }.fFollow), .arr 5 0 (eL ([] : List T_impl_Part)) true])] [sc 0 x36, some ⟨0, Enc.cells (T_impl_Bond.mk 0 0 [] 0 [] false [])⟩, some ⟨1, [I (({ x37 with fList := x38 } : T_impl_Bond).fKind), I (({ x37 with fList := x38 } : T_impl_Bond).fIn), A (({ x37 with fList := x38 } : T_impl_Bond).fList), I (({ x37 with fList := x38 } : T_impl_Bond).fOf), .arr 1 0 (eL ([] : List Int)) true, B (({ x37 with fList := x38 } : T_impl_Bond).fFollow), .arr 5 0 (eL ([] : List T_impl_Part)) true]⟩, none] ?_
 refine opsP_imp (Imp.softB (st' := ⟨141, [(6, .ptr 1 0 0), (140, E ({ ({ ({ x37 with fList := x38 } : T_impl_Bond) with fTo := [] } : T_impl_Bond) with fE := [] } : T_impl_Bond))], [sc 0 x36, some ⟨0, Enc.cells (T_impl_Bond.mk 0 0 [] 0 [] false [])⟩, some ⟨1, Enc.cells ({ ({ ({ x37 with fList := x38 } : T_impl_Bond) with fTo := [] } : T_impl_Bond) with fE := [] } : T_impl_Bond)⟩, none]⟩) 4 (by kernel_rfl) (HpRel.frz rfl (Enc.frz _) (HpRel.frz rfl (Enc.frz _) (HpRel.box rfl (CellRel.cons rfl (CellRel.cons rfl (CellRel.cons rfl (CellRel.cons rfl (CellRel.cons rfl (CellRel.cons rfl (CellRel.cons rfl CellRel.nil))))))) (HpRel.none rfl HpRel.nil)))) (by kernel_rfl) (by rfl) (p01 hQ)) ?_
 refine veM [6, 7] 1 141 [(6, .ptr 1 0 0)] [sc 0 x36, some ⟨0, Enc.cells ({ ({ ({ x37 with fList := x38 } : T_impl_Bond) with fTo := [] } : T_impl_Bond) with fE := [] } : T_impl_Bond)⟩, some ⟨1, Enc.cells ({ ({ ({ x37 with fList := x38 } : T_impl_Bond) with fTo := [] } : T_impl_Bond) with fE := [] } : T_impl_Bond)⟩, none] ?_
 have h := si h
 subst h
 exact pwp_ret ⟨.inr rfl, E ({ ({ ({ x37 with fList := x38 } : T_impl_Bond) with fTo := [] } : T_impl_Bond) with fE := [] } : T_impl_Bond), _, 0, by kernel_rfl, (OutP.frz (by kernel_rfl)), by decide, by decide, by kernel_rfl⟩
 refine srveM [6, 7] 141 [(0, .ptr 0 0 0), (1, A a1), (2, I a2), (6, .ptr 1 0 0), (7, .ptr 2 1 0), (8, A v5.fColumns), (27, I (w64 (1 + v1.1))), (48, B ((w64 (1 + v1.1)) == 3))] [sc 0 v3.2, some ⟨0, Enc.cells (T_impl_Bond.mk 0 0 [] 0 [] false [])⟩, some ⟨1, [I (w64 (1 + v1.1)), I v3.1, .arr 1 0 (eL ([] : List Int)) true, I 0, .arr 1 0 (eL ([] : List Int)) true, B false, .arr 5 0 (eL ([] : List T_impl_Part)) true]⟩] ?_
 refine pc h (fun h => ?_) (fun h => ?_)
 refine rvM [6, 7] 2 141 [(0, .ptr 0 0 0), (2, I a2), (6, .ptr 1 0 0), (7, .ptr 2 1 0), (50, .ptr 0 0 0), (51, A v5.fColumns)] [sc 0 v3.2, some ⟨0, Enc.cells (T_impl_Bond.mk 0 0 [] 0 [] false [])⟩, some ⟨1, [I (w64 (1 + v1.1)), I v3.1, .arr 1 0 (eL ([] : List Int)) true, I 0, .arr 1 0 (eL ([] : List Int)) true, B false, .arr 5 0 (eL ([] : List T_impl_Part)) true]⟩] ?_
 obtain ⟨v56, hv57, h⟩ := bindS h
 refine opsP_E (dd := some 52) (x := rf 3 0 5 v56.1) (callBN_E τ 52 0 0 3 (by first | exact pn hQ | exact pk hQ) (by decide) (ok_spec_l20Expr hv57) rfl (by kernel_rfl) (by kernel_rfl)) ?_
 refine veM [6, 7] 2 141 [(0, .ptr 0 0 0), (2, I a2), (6, .ptr 1 0 0), (7, .ptr 2 1 0)] [sc 0 v56.2, some ⟨0, Enc.cells (T_impl_Bond.mk 0 0 [] 0 [] false [])⟩, some ⟨1, [I (w64 (1 + v1.1)), I v3.1, .arr 1 0 (eL ([] : List Int)) true, I 0, .arr 1 0 (eL ([] : List Int)) true, B false, rf 3 0 5 v56.1]⟩, sl 0 v56.1] ?_
 refine pwp_seq ?_
 refine srvM [6, 7] 2 141 [(0, .ptr 0 0 0), (6, .ptr 1 0 0), (7, .ptr 2 1 0), (110, .ptr 0 0 0), (111, I a2)] [sc 0 v56.2, some ⟨0, Enc.cells (T_impl_Bond.mk 0 0 [] 0 [] false [])⟩, some ⟨1, [I (w64 (1 + v1.1)), I v3.1, .arr 1 0 (eL ([] : List Int)) true, I 0, .arr 1 0 (eL ([] : List Int)) true, B false, rf 3 0 5 v56.1]⟩, sl 0 v56.1] ?_
 obtain ⟨v58, hv59, h⟩ := bindS h
 refine cB 112 0 0 (ok_spec_l20Rd_odd hv59) ?_
 refine veM [6, 7] 0 141 [(0, .ptr 0 0 0), (6, .ptr 1 0 0), (7, .ptr 2 1 0), (112, B v58.1)] [sc 0 v58.2, some ⟨0, Enc.cells (T_impl_Bond.mk 0 0 [] 0 [] false [])⟩, some ⟨1, [I (w64 (1 + v1.1)), I v3.1, .arr 1 0 (eL ([] : List Int)) true, I 0, .arr 1 0 (eL ([] : List Int)) true, B false, rf 3 0 5 v56.1]⟩, sl 0 v56.1] ?_
 refine pc h (fun h => ?_) (fun h => ?_)
 refine srvM [6, 7] 1 141 [(0, .ptr 0 0 0), (6, .ptr 1 0 0), (7, .ptr 2 1 0), (113, .ptr 0 0 0)] [sc 0 v58.2, some ⟨0, Enc.cells (T_impl_Bond.mk 0 0 [] 0 [] false [])⟩, some ⟨1, [I (w64 (1 + v1.1)), I v3.1, .arr 1 0 (eL ([] : List Int)) true, I 0, .arr 1 0 (eL ([] : List Int)) true, B false, rf 3 0 5 v56.1]⟩, sl 0 v56.1] ?_
 obtain ⟨v61, hv62, h⟩ := bindS h
 refine cB 114 0 0 (ok_spec_l20Rd_pick hv62) ?_
 refine veM [6, 7] 0 141 [(0, .ptr 0 0 0), (6, .ptr 1 0 0), (7, .ptr 2 1 0), (114, I v61.1)] [sc 0 v61.2, some ⟨0, Enc.cells (T_impl_Bond.mk 0 0 [] 0 [] false [])⟩, some ⟨1, [I (w64 (1 + v1.1)), I v3.1, .arr 1 0 (eL ([] : List Int)) true, I 0, .arr 1 0 (eL ([] : List Int)) true, B false, rf 3 0 5 v56.1]⟩, sl 0 v56.1] ?_
 refine pwp_block ?_
 refine srveM [6, 7] 141 [(0, .ptr 0 0 0), (6, .ptr 1 0 0), (7, .ptr 2 1 0), (114, I v61.1), (119, B (v61.1 == 0))] [sc 0 v61.2, some ⟨0, Enc.cells (T_impl_Bond.mk 0 0 [] 0 [] false [])⟩, some ⟨1, [I (w64 (1 + v1.1)), I v3.1, .arr 1 0 (eL ([] : List Int)) true, I 0, .arr 1 0 (eL ([] : List Int)) true, B false, rf 3 0 5 v56.1]⟩, sl 0 v56.1] ?_
 refine pc h (fun h => ?_) (fun h => ?_)
 refine rvM [6, 7] 1 141 [(6, .ptr 1 0 0), (7, .ptr 2 1 0), (121, .ptr 0 0 0)] [sc 0 v61.2, some ⟨0, Enc.cells (T_impl_Bond.mk 0 0 [] 0 [] false [])⟩, some ⟨1, [I (w64 (1 + v1.1)), I v3.1, .arr 1 0 (eL ([] : List Int)) true, I 0, .arr 1 0 (eL ([] : List Int)) true, B false, rf 3 0 5 v56.1]⟩, sl 0 v56.1] ?_
 obtain ⟨v64, hv65, h⟩ := bindS h
 refine cB 122 0 0 (ok_spec_l20Rd_pick hv65) ?_
 refine veM [6, 7] 3 141 [(6, .ptr 1 0 0), (7, .ptr 2 1 0)] [sc 0 v64.2, some ⟨0, Enc.cells (T_impl_Bond.mk 0 0 [] 0 [] false [])⟩, some ⟨1, [I (w64 (1 + v1.1)), I (w64 (v64.1 - 1)), .arr 1 0 (eL ([] : List Int)) true, I 0, .arr 1 0 (eL ([] : List Int)) true, B false, rf 3 0 5 v56.1]⟩, sl 0 v56.1] ?_
 refine srvM [6, 7] 1 141 [(6, .ptr 1 0 0), (140, .agg [I (w64 (1 + v1.1)), I (w64 (v64.1 - 1)), .arr 1 0 (eL ([] : List Int)) true, I 0, .arr 1 0 (eL ([] : List Int)) true, B false, rf 3 0 5 v56.1])] [sc 0 v64.2, some ⟨0, Enc.cells (T_impl_Bond.mk 0 0 [] 0 [] false [])⟩, some ⟨1, [I (w64 (1 + v1.1)), I (w64 (v64.1 - 1)), .arr 1 0 (eL ([] : List Int)) true, I 0, .arr 1 0 (eL ([] : List Int)) true, B false, rf 3 0 5 v56.1]⟩, sl 0 v56.1] ?_
 refine opsP_imp (Imp.freezeB (v := 0) (cs := eL v56.1) (st' := ⟨141, [(6, .ptr 1 0 0), (140, .agg [I (w64 (1 + v1.1)), I (w64 (v64.1 - 1)), .arr 1 0 (eL ([] : List Int)) true, I 0, .arr 1 0 (eL ([] : List Int)) true, B false, A v56.1])], [sc 0 v64.2, some ⟨0, Enc.cells (T_impl_Bond.mk 0 0 [] 0 [] false [])⟩, some ⟨1, [I (w64 (1 + v1.1)), I (w64 (v64.1 - 1)), .arr 1 0 (eL ([] : List Int)) true, I 0, .arr 1 0 (eL ([] : List Int)) true, B false, A v56.1]⟩, none]⟩) 3 0 (pn hQ) (by kernel_rfl) (eL_frz _) (wholeC (whole_noRef (by kernel_rfl)) (wholeC (whole_agg (wholeL (whole_noRef (by kernel_rfl)) (wholeL (whole_noRef (by kernel_rfl)) (wholeL (whole_noRef (by kernel_rfl)) (wholeL (whole_noRef (by kernel_rfl)) (wholeL (whole_noRef (by kernel_rfl)) (wholeL (whole_noRef (by kernel_rfl)) (wholeL (whole_is (eL_len v56.1).symm) wholeL0)))))))) wholeC0)) (HpRel.frz rfl (Enc.frz _) (HpRel.frz rfl (Enc.frz _) (HpRel.box rfl (CellRel.cons ⟨rfl, trivial, rfl⟩ (CellRel.cons ⟨rfl, trivial, rfl⟩ (CellRel.cons ⟨rfl, trivial, rfl⟩ (CellRel.cons ⟨rfl, trivial, rfl⟩ (CellRel.cons ⟨rfl, trivial, rfl⟩ (CellRel.cons ⟨rfl, trivial, rfl⟩ (CellRel.cons ⟨rfl, (whole_is (eL_len v56.1).symm), rfl⟩ CellRel.nil))))))) (HpRel.key HpRel.nil)))) (by kernel_rfl) rfl (p01 hQ)) ?_
 refine vM [6, 7] 0 141 [(6, .ptr 1 0 0), (140, .agg [I (w64 (1 + v1.1)), I (w64 (v64.1 - 1)), .arr 1 0 (eL ([] : List Int)) true, I 0, .arr 1 0 (eL ([] : List Int)) true, B false, A v56.1])] [sc 0 v64.2, some ⟨0, Enc.cells (T_impl_Bond.mk 0 0 [] 0 [] false [])⟩, some ⟨1, [I (w64 (1 + v1.1)), I (w64 (v64.1 - 1)), .arr 1 0 (eL ([] : List Int)) true, I 0, .arr 1 0 (eL ([] : List Int)) true, B false, A v56.1]⟩, none] ?_
 refine opsP_imp (Imp.softB (st' := ⟨141, [(6, .ptr 1 0 0), (140, E (T_impl_Bond.mk (w64 (1 + v1.1)) (w64 (v64.1 - 1)) [] 0 [] false v56.1))], [sc 0 v64.2, some ⟨0, Enc.cells (T_impl_Bond.mk 0 0 [] 0 [] false [])⟩, some ⟨1, Enc.cells (T_impl_Bond.mk (w64 (1 + v1.1)) (w64 (v64.1 - 1)) [] 0 [] false v56.1)⟩, none]⟩) 4 (by kernel_rfl) (HpRel.frz rfl (Enc.frz _) (HpRel.frz rfl (Enc.frz _) (HpRel.box rfl (CellRel.cons rfl (CellRel.cons rfl (CellRel.cons rfl (CellRel.cons rfl (CellRel.cons rfl (CellRel.cons rfl (CellRel.cons rfl CellRel.nil))))))) (HpRel.none rfl HpRel.nil)))) (by kernel_rfl) (by rfl) (p01 hQ)) ?_
 refine veM [6, 7] 1 141 [(6, .ptr 1 0 0)] [sc 0 v64.2, some ⟨0, Enc.cells (T_impl_Bond.mk (w64 (1 + v1.1)) (w64 (v64.1 - 1)) [] 0 [] false v56.1)⟩, some ⟨1, Enc.cells (T_impl_Bond.mk (w64 (1 + v1.1)) (w64 (v64.1 - 1)) [] 0 [] false v56.1)⟩, none] ?_
 have h := si h
 subst h
 exact pwp_ret ⟨.inr rfl, E (T_impl_Bond.mk (w64 (1 + v1.1)) (w64 (v64.1 - 1)) [] 0 [] false v56.1), _, 0, by kernel_rfl, (OutP.frz (by kernel_rfl)), by decide, by decide, by kernel_rfl⟩
 refine srveM [6, 7] 141 [(0, .ptr 0 0 0), (6, .ptr 1 0 0), (7, .ptr 2 1 0), (114, I v61.1), (125, B (v61.1 == 1))] [sc 0 v61.2, some ⟨0, Enc.cells (T_impl_Bond.mk 0 0 [] 0 [] false [])⟩, some ⟨1, [I (w64 (1 + v1.1)), I v3.1, .arr 1 0 (eL ([] : List Int)) true, I 0, .arr 1 0 (eL ([] : List Int)) true, B false, rf 3 0 5 v56.1]⟩, sl 0 v56.1] ?_
 refine pc h (fun h => ?_) (fun h => ?_)
 refine rvM [6, 7] 1 141 [(6, .ptr 1 0 0), (7, .ptr 2 1 0), (127, .ptr 0 0 0)] [sc 0 v61.2, some ⟨0, Enc.cells (T_impl_Bond.mk 0 0 [] 0 [] false [])⟩, some ⟨1, [I (w64 (1 + v1.1)), I v3.1, .arr 1 0 (eL ([] : List Int)) true, I 0, .arr 1 0 (eL ([] : List Int)) true, B false, rf 3 0 5 v56.1]⟩, sl 0 v56.1] ?_
 obtain ⟨v67, hv68, h⟩ := bindS h
 refine cB 128 0 0 (ok_spec_l20Rd_pick hv68) ?_
 refine veM [6, 7] 2 141 [(6, .ptr 1 0 0), (7, .ptr 2 1 0)] [sc 0 v67.2, some ⟨0, Enc.cells (T_impl_Bond.mk 0 0 [] 0 [] false [])⟩, some ⟨1, [I v67.1, I v3.1, .arr 1 0 (eL ([] : List Int)) true, I 0, .arr 1 0 (eL ([] : List Int)) true, B false, rf 3 0 5 v56.1]⟩, sl 0 v56.1] ?_
 refine srvM [6, 7] 1 141 [(6, .ptr 1 0 0), (140, .agg [I v67.1, I v3.1, .arr 1 0 (eL ([] : List Int)) true, I 0, .arr 1 0 (eL ([] : List Int)) true, B false, rf 3 0 5 v56.1])] [sc 0 v67.2, some ⟨0, Enc.cells (T_impl_Bond.mk 0 0 [] 0 [] false [])⟩, some ⟨1, [I v67.1, I v3.1, .arr 1 0 (eL ([] : List Int)) true, I 0, .arr 1 0 (eL ([] : List Int)) true, B false, rf 3 0 5 v56.1]⟩, sl 0 v56.1] ?_
 refine opsP_imp (Imp.freezeB (v := 0) (cs := eL v56.1) (st' := ⟨141, [(6, .ptr 1 0 0), (140, .agg [I v67.1, I v3.1, .arr 1 0 (eL ([] : List Int)) true, I 0, .arr 1 0 (eL ([] : List Int)) true, B false, A v56.1])], [sc 0 v67.2, some ⟨0, Enc.cells (T_impl_Bond.mk 0 0 [] 0 [] false [])⟩, some ⟨1, [I v67.1, I v3.1, .arr 1 0 (eL ([] : List Int)) true, I 0, .arr 1 0 (eL ([] : List Int)) true, B false, A v56.1]⟩, none]⟩) 3 0 (pn hQ) (by kernel_rfl) (eL_frz _) (wholeC (whole_noRef (by kernel_rfl)) (wholeC (whole_agg (wholeL (whole_noRef (by kernel_rfl)) (wholeL (whole_noRef (by kernel_rfl)) (wholeL (whole_noRef (by kernel_rfl)) (wholeL (whole_noRef (by kernel_rfl)) (wholeL (whole_noRef (by kernel_rfl)) (wholeL (whole_noRef (by kernel_rfl)) (wholeL (whole_is (eL_len v56.1).symm) wholeL0)))))))) wholeC0)) (HpRel.frz rfl (Enc.frz _) (HpRel.frz rfl (Enc.frz _) (HpRel.box rfl (CellRel.cons ⟨rfl, trivial, rfl⟩ (CellRel.cons ⟨rfl, trivial, rfl⟩ (CellRel.cons ⟨rfl, trivial, rfl⟩ (CellRel.cons ⟨rfl, trivial, rfl⟩ (CellRel.cons ⟨rfl, trivial, rfl⟩ (CellRel.cons ⟨rfl, trivial, rfl⟩ (CellRel.cons ⟨rfl, (whole_is (eL_len v56.1).symm), rfl⟩ CellRel.nil))))))) (HpRel.key HpRel.nil)))) (by kernel_rfl) rfl (p01 hQ)) ?_
 refine vM [6, 7] 0 141 [(6, .ptr 1 0 0), (140, .agg [I v67.1, I v3.1, .arr 1 0 (eL ([] : List Int)) true, I 0, .arr 1 0 (eL ([] : List Int)) true, B false, A v56.1])] [sc 0 v67.2, some ⟨0, Enc.cells (T_impl_Bond.mk 0 0 [] 0 [] false [])⟩, some ⟨1, [I v67.1, I v3.1, .arr 1 0 (eL ([] : List Int)) true, I 0, .arr 1 0 (eL ([] : List Int)) true, B false, A v56.1]⟩, none] ?_
 refine opsP_imp (Imp.softB (st' := ⟨141, [(6, .ptr 1 0 0), (140, E (T_impl_Bond.mk v67.1 v3.1 [] 0 [] false v56.1))], [sc 0 v67.2, some ⟨0, Enc.cells (T_impl_Bond.mk 0 0 [] 0 [] false [])⟩, some ⟨1, Enc.cells (T_impl_Bond.mk v67.1 v3.1 [] 0 [] false v56.1)⟩, none]⟩) 4 (by kernel_rfl) (HpRel.frz rfl (Enc.frz _) (HpRel.frz rfl (Enc.frz _) (HpRel.box rfl (CellRel.cons rfl (CellRel.cons rfl (CellRel.cons rfl (CellRel.cons rfl (CellRel.cons rfl (CellRel.cons rfl (CellRel.cons rfl CellRel.nil))))))) (HpRel.none rfl HpRel.nil)))) (by kernel_rfl) (by rfl) (p01 hQ)) ?_
 refine veM [6, 7] 1 141 [(6, .ptr 1 0 0)] [sc 0 v67.2, some ⟨0, Enc.cells (T_impl_Bond.mk v67.1 v3.1 [] 0 [] false v56.1)⟩, some ⟨1, Enc.cells (T_impl_Bond.mk v67.1 v3.1 [] 0 [] false v56.1)⟩, none] ?_
 have h := si h
 subst h
 exact pwp_ret ⟨.inr rfl, E (T_impl_Bond.mk v67.1 v3.1 [] 0 [] false v56.1), _, 0, by kernel_rfl, (OutP.frz (by kernel_rfl)), by decide, by decide, by kernel_rfl⟩
 refine srveM [6, 7] 141 [(0, .ptr 0 0 0), (6, .ptr 1 0 0), (7, .ptr 2 1 0), (130, B (v61.1 == 2))] [sc 0 v61.2, some ⟨0, Enc.cells (T_impl_Bond.mk 0 0 [] 0 [] false [])⟩, some ⟨1, [I (w64 (1 + v1.1)), I v3.1, .arr 1 0 (eL ([] : List Int)) true, I 0, .arr 1 0 (eL ([] : List Int)) true, B false, rf 3 0 5 v56.1]⟩, sl 0 v56.1] ?_
 refine pc h (fun h => ?_) (fun h => ?_)
 refine ip 141 [(0, .ptr 0 0 0), (6, .ptr 1 0 0), (7, .ptr 2 1 0)] [sc 0 v61.2, some ⟨0, Enc.cells (T_impl_Bond.mk 0 0 [] 0 [] false [])⟩, some ⟨1, [I (w64 (1 + v1.1)), I v3.1, .arr 1 0 (eL ([] : List Int)) true, I 0, .arr 1 0 (eL ([] : List Int)) true, B false, rf 3 0 5 v56.1]⟩, sl 0 v56.1] ?_
 refine pwp_imp (Imp.thawB (st' := ⟨141, [(0, .ptr 0 0 0), (6, .ptr 1 0 0), (7, .ptr 2 1 0)], [sc 0 v61.2, some ⟨0, Enc.cells (T_impl_Bond.mk 0 0 [] 0 [] false [])⟩, some ⟨1, [I (w64 (1 + v1.1)), I v3.1, .ref 4 0 0 1 ([] : List Int).length false, I 0, .arr 1 0 (eL ([] : List Int)) true, B false, rf 3 0 5 v56.1]⟩, sl 0 v56.1, some ⟨0, eL ([] : List Int)⟩]⟩) 4 (by kernel_rfl) (HpRel.frz rfl (Enc.frz _) (HpRel.frz rfl (Enc.frz _) (HpRel.box rfl (CellRel.cons (.inl ⟨rfl, rfl⟩) (CellRel.cons (.inl ⟨rfl, rfl⟩) (CellRel.cons (.inr ⟨_, rfl, rfl⟩) (CellRel.cons (.inl ⟨rfl, rfl⟩) (CellRel.cons (.inl ⟨rfl, rfl⟩) (CellRel.cons (.inl ⟨rfl, rfl⟩) (CellRel.cons (.inl ⟨rfl, rfl⟩) CellRel.nil))))))) (HpRel.frz rfl (eL_frz _) (HpRel.key HpRel.nil))))) (by rfl) (by rfl) (p01 hQ)) ?_
 refine ip 141 [(0, .ptr 0 0 0), (6, .ptr 1 0 0), (7, .ptr 2 1 0)] [sc 0 v61.2, some ⟨0, Enc.cells (T_impl_Bond.mk 0 0 [] 0 [] false [])⟩, some ⟨1, [I (w64 (1 + v1.1)), I v3.1, .ref 4 0 0 1 ([] : List Int).length false, I 0, .arr 1 0 (eL ([] : List Int)) true, B false, rf 3 0 5 v56.1]⟩, sl 0 v56.1, some ⟨0, eL ([] : List Int)⟩] ?_
 refine pwp_any ([[2, 3, 4], [2, 3, 4], [0], [0], [], [], [4], [2, 3, 4], [2, 3, 4]]) ([[], [], [], [0], [], [], [4], [], [2]]) rfl (by kernel_rfl) ?_
 refine qvM [6, 7] [2, 3, 4] (hR (hL (hL trivial))) 2 141 [(133, .ref 4 0 0 1 ([] : List Int).length false), (0, .ptr 0 0 0), (6, .ptr 1 0 0), (7, .ptr 2 1 0)] [sc 0 v61.2, some ⟨0, Enc.cells (T_impl_Bond.mk 0 0 [] 0 [] false [])⟩, some ⟨1, [I (w64 (1 + v1.1)), I v3.1, .ref 4 0 0 1 ([] : List Int).length false, I 0, .arr 1 0 (eL ([] : List Int)) true, B false, rf 3 0 5 v56.1]⟩, sl 0 v56.1, some ⟨0, eL ([] : List Int)⟩] ?_
 refine qvM [6, 7] [0] (hB trivial) 1 141 [(134, .ptr 0 0 0), (133, .ref 4 0 0 1 ([] : List Int).length false), (6, .ptr 1 0 0), (7, .ptr 2 1 0)] [sc 0 v61.2, some ⟨0, Enc.cells (T_impl_Bond.mk 0 0 [] 0 [] false [])⟩, some ⟨1, [I (w64 (1 + v1.1)), I v3.1, .ref 4 0 0 1 ([] : List Int).length false, I 0, .arr 1 0 (eL ([] : List Int)) true, B false, rf 3 0 5 v56.1]⟩, sl 0 v56.1, some ⟨0, eL ([] : List Int)⟩] ?_
 obtain ⟨v70, hv71, h⟩ := bindS h
 refine qX (some 135) (I v70.1) 141 [(135, I v70.1), (133, .ref 4 0 0 1 ([] : List Int).length false), (6, .ptr 1 0 0), (7, .ptr 2 1 0)] [sc 0 v70.2, some ⟨0, Enc.cells (T_impl_Bond.mk 0 0 [] 0 [] false [])⟩, some ⟨1, [I (w64 (1 + v1.1)), I v3.1, .ref 4 0 0 1 ([] : List Int).length false, I 0, .arr 1 0 (eL ([] : List Int)) true, B false, rf 3 0 5 v56.1]⟩, sl 0 v56.1, some ⟨0, eL ([] : List Int)⟩] (fun Γ' hΓ => callB_E τ 135 0 0 (ok_spec_l20Rd_pick hv71) (FzTo.frz rfl) rfl (by kernel_rfl)) (hB trivial) ?_
 refine qvM [6, 7] [] trivial 2 141 [(137, .arr 1 ([(w64 (v70.1 - 1))] : List Int).length (eL ([(w64 (v70.1 - 1))] : List Int)) true), (133, .ref 4 0 0 1 ([] : List Int).length false), (6, .ptr 1 0 0), (7, .ptr 2 1 0)] [sc 0 v70.2, some ⟨0, Enc.cells (T_impl_Bond.mk 0 0 [] 0 [] false [])⟩, some ⟨1, [I (w64 (1 + v1.1)), I v3.1, .ref 4 0 0 1 ([] : List Int).length false, I 0, .arr 1 0 (eL ([] : List Int)) true, B false, rf 3 0 5 v56.1]⟩, sl 0 v56.1, some ⟨0, eL ([] : List Int)⟩] ?_
 obtain ⟨v72, hv73, h⟩ := bindS h
 refine qX (some 138) (rf 4 1 1 v72) 141 [(138, rf 4 1 1 v72), (6, .ptr 1 0 0), (7, .ptr 2 1 0)] [sc 0 v70.2, some ⟨0, Enc.cells (T_impl_Bond.mk 0 0 [] 0 [] false [])⟩, some ⟨1, [I (w64 (1 + v1.1)), I v3.1, .ref 4 0 0 1 ([] : List Int).length false, I 0, .arr 1 0 (eL ([] : List Int)) true, B false, rf 3 0 5 v56.1]⟩, sl 0 v56.1, sl 1 v72] (fun Γ' hΓ => app_Ew τ_ok 138 4 0 (by first | exact py hΓ hQ | exact pky hΓ hQ) hv73 (by kernel_rfl)) (hL trivial) ?_
 refine qvM [6, 7] [2, 3, 4] (hR (hL (hL trivial))) 1 141 [(139, .ptr 2 1 2), (138, rf 4 1 1 v72), (6, .ptr 1 0 0), (7, .ptr 2 1 0)] [sc 0 v70.2, some ⟨0, Enc.cells (T_impl_Bond.mk 0 0 [] 0 [] false [])⟩, some ⟨1, [I (w64 (1 + v1.1)), I v3.1, .ref 4 0 0 1 ([] : List Int).length false, I 0, .arr 1 0 (eL ([] : List Int)) true, B false, rf 3 0 5 v56.1]⟩, sl 0 v56.1, sl 1 v72] ?_
 refine qX (Hm' := [none, none, some ⟨1, [I (w64 (1 + v1.1)), I v3.1, rf 4 1 1 v72, I 0, .arr 1 0 (eL ([] : List Int)) true, B false, rf 3 0 5 v56.1]⟩, sl 0 v56.1, sl 1 v72]) none (.any) 141 [(6, .ptr 1 0 0), (7, .ptr 2 1 0)] [sc 0 v70.2, some ⟨0, Enc.cells (T_impl_Bond.mk 0 0 [] 0 [] false [])⟩, some ⟨1, [I (w64 (1 + v1.1)), I v3.1, rf 4 1 1 v72, I 0, .arr 1 0 (eL ([] : List Int)) true, B false, rf 3 0 5 v56.1]⟩, sl 0 v56.1, sl 1 v72] (fun Γ' hΓ => sto_E τ_ok 2 1 (by kernel_rfl)) (hR (hL (hL trivial))) ?_
 refine qn 141 [(6, .ptr 1 0 0), (7, .ptr 2 1 0)] [sc 0 v70.2, some ⟨0, Enc.cells (T_impl_Bond.mk 0 0 [] 0 [] false [])⟩, some ⟨1, [I (w64 (1 + v1.1)), I v3.1, rf 4 1 1 v72, I 0, .arr 1 0 (eL ([] : List Int)) true, B false, rf 3 0 5 v56.1]⟩, sl 0 v56.1, sl 1 v72] ?_
 refine srvM [6, 7] 1 141 [(6, .ptr 1 0 0), (140, .agg [I (w64 (1 + v1.1)), I v3.1, rf 4 1 1 v72, I 0, .arr 1 0 (eL ([] : List Int)) true, B false, rf 3 0 5 v56.1])] [sc 0 v70.2, some ⟨0, Enc.cells (T_impl_Bond.mk 0 0 [] 0 [] false [])⟩, some ⟨1, [I (w64 (1 + v1.1)), I v3.1, rf 4 1 1 v72, I 0, .arr 1 0 (eL ([] : List Int)) true, B false, rf 3 0 5 v56.1]⟩, sl 0 v56.1, sl 1 v72] ?_
 refine opsP_imp (Imp.freezeB (v := 0) (cs := eL v56.1) (st' := ⟨141, [(6, .ptr 1 0 0), (140, .agg [I (w64 (1 + v1.1)), I v3.1, rf 4 1 1 v72, I 0, .arr 1 0 (eL ([] : List Int)) true, B false, A v56.1])], [sc 0 v70.2, some ⟨0, Enc.cells (T_impl_Bond.mk 0 0 [] 0 [] false [])⟩, some ⟨1, [I (w64 (1 + v1.1)), I v3.1, rf 4 1 1 v72, I 0, .arr 1 0 (eL ([] : List Int)) true, B false, A v56.1]⟩, none, sl 1 v72]⟩) 3 0 (pn hQ) (by kernel_rfl) (eL_frz _) (wholeC (whole_noRef (by kernel_rfl)) (wholeC (whole_agg (wholeL (whole_noRef (by kernel_rfl)) (wholeL (whole_noRef (by kernel_rfl)) (wholeL (whole_ne rfl) (wholeL (whole_noRef (by kernel_rfl)) (wholeL (whole_noRef (by kernel_rfl)) (wholeL (whole_noRef (by kernel_rfl)) (wholeL (whole_is (eL_len v56.1).symm) wholeL0)))))))) wholeC0)) (HpRel.frz rfl (Enc.frz _) (HpRel.frz rfl (Enc.frz _) (HpRel.box rfl (CellRel.cons ⟨rfl, trivial, rfl⟩ (CellRel.cons ⟨rfl, trivial, rfl⟩ (CellRel.cons ⟨rfl, (whole_ne rfl), rfl⟩ (CellRel.cons ⟨rfl, trivial, rfl⟩ (CellRel.cons ⟨rfl, trivial, rfl⟩ (CellRel.cons ⟨rfl, trivial, rfl⟩ (CellRel.cons ⟨rfl, (whole_is (eL_len v56.1).symm), rfl⟩ CellRel.nil))))))) (HpRel.key (HpRel.frz rfl (eL_frz _) HpRel.nil))))) (by kernel_rfl) rfl (p01 hQ)) ?_
 refine vM [6, 7] 0 141 [(6, .ptr 1 0 0), (140, .agg [I (w64 (1 + v1.1)), I v3.1, rf 4 1 1 v72, I 0, .arr 1 0 (eL ([] : List Int)) true, B false, A v56.1])] [sc 0 v70.2, some ⟨0, Enc.cells (T_impl_Bond.mk 0 0 [] 0 [] false [])⟩, some ⟨1, [I (w64 (1 + v1.1)), I v3.1, rf 4 1 1 v72, I 0, .arr 1 0 (eL ([] : List Int)) true, B false, A v56.1]⟩, none, sl 1 v72] ?_
 refine opsP_imp (Imp.freezeB (v := 1) (cs := eL v72) (st' := ⟨141, [(6, .ptr 1 0 0), (140, .agg [I (w64 (1 + v1.1)), I v3.1, A v72, I 0, .arr 1 0 (eL ([] : List Int)) true, B false, A v56.1])], [sc 0 v70.2, some ⟨0, Enc.cells (T_impl_Bond.mk 0 0 [] 0 [] false [])⟩, some ⟨1, [I (w64 (1 + v1.1)), I v3.1, A v72, I 0, .arr 1 0 (eL ([] : List Int)) true, B false, A v56.1]⟩, none, none]⟩) 4 1 (pn hQ) (by kernel_rfl) (eL_frz _) (wholeC (whole_noRef (by kernel_rfl)) (wholeC (whole_agg (wholeL (whole_noRef (by kernel_rfl)) (wholeL (whole_noRef (by kernel_rfl)) (wholeL (whole_is (eL_len v72).symm) (wholeL (whole_noRef (by kernel_rfl)) (wholeL (whole_noRef (by kernel_rfl)) (wholeL (whole_noRef (by kernel_rfl)) (wholeL (whole_noRef (by kernel_rfl)) wholeL0)))))))) wholeC0)) (HpRel.frz rfl (Enc.frz _) (HpRel.frz rfl (Enc.frz _) (HpRel.box rfl (CellRel.cons ⟨rfl, trivial, rfl⟩ (CellRel.cons ⟨rfl, trivial, rfl⟩ (CellRel.cons ⟨rfl, (whole_is (eL_len v72).symm), rfl⟩ (CellRel.cons ⟨rfl, trivial, rfl⟩ (CellRel.cons ⟨rfl, trivial, rfl⟩ (CellRel.cons ⟨rfl, trivial, rfl⟩ (CellRel.cons ⟨rfl, trivial, rfl⟩ CellRel.nil))))))) (HpRel.none rfl (HpRel.key HpRel.nil))))) (by kernel_rfl) rfl (p01 hQ)) ?_
 refine vM [6, 7] 0 141 [(6, .ptr 1 0 0), (140, .agg [I (w64 (1 + v1.1)), I v3.1, A v72, I 0, .arr 1 0 (eL ([] : List Int)) true, B false, A v56.1])] [sc 0 v70.2, some ⟨0, Enc.cells (T_impl_Bond.mk 0 0 [] 0 [] false [])⟩, some ⟨1, [I (w64 (1 + v1.1)), I v3.1, A v72, I 0, .arr 1 0 (eL ([] : List Int)) true, B false, A v56.1]⟩, none, none] ?_
 refine opsP_imp (Imp.softB (st' := ⟨141, [(6, .ptr 1 0 0), (140, E (T_impl_Bond.mk (w64 (1 + v1.1)) v3.1 v72 0 [] false v56.1))], [sc 0 v70.2, some ⟨0, Enc.cells (T_impl_Bond.mk 0 0 [] 0 [] false [])⟩, some ⟨1, Enc.cells (T_impl_Bond.mk (w64 (1 + v1.1)) v3.1 v72 0 [] false v56.1)⟩, none, none]⟩) 5 (by kernel_rfl) (HpRel.frz rfl (Enc.frz _) (HpRel.frz rfl (Enc.frz _) (HpRel.box rfl (CellRel.cons rfl (CellRel.cons rfl (CellRel.cons rfl (CellRel.cons rfl (CellRel.cons rfl (CellRel.cons rfl (CellRel.cons rfl CellRel.nil))))))) (HpRel.none rfl (HpRel.none rfl HpRel.nil))))) (by kernel_rfl) (by rfl) (p01 hQ)) ?_
 refine veM [6, 7] 1 141 [(6, .ptr 1 0 0)] [sc 0 v70.2, some ⟨0, Enc.cells (T_impl_Bond.mk (w64 (1 + v1.1)) v3.1 v72 0 [] false v56.1)⟩, some ⟨1, Enc.cells (T_impl_Bond.mk (w64 (1 + v1.1)) v3.1 v72 0 [] false v56.1)⟩, none, none] ?_
 have h := si h
 subst h
 exact pwp_ret ⟨.inr rfl, E (T_impl_Bond.mk (w64 (1 + v1.1)) v3.1 v72 0 [] false v56.1), _, 0, by kernel_rfl, (OutP.frz (by kernel_rfl)), by decide, by decide, by kernel_rfl⟩
 refine rveM [6, 7] 141 [(6, .ptr 1 0 0), (7, .ptr 2 1 0)] [sc 0 v61.2, some ⟨0, Enc.cells (T_impl_Bond.mk 0 0 [] 0 [] false [])⟩, some ⟨1, [I (w64 (1 + v1.1)), I v3.1, .arr 1 0 (eL ([] : List Int)) true, I 0, .arr 1 0 (eL ([] : List Int)) true, B true, rf 3 0 5 v56.1]⟩, sl 0 v56.1] ?_
 refine srvM [6, 7] 1 141 [(6, .ptr 1 0 0), (140, .agg [I (w64 (1 + v1.1)), I v3.1, .arr 1 0 (eL ([] : List Int)) true, I 0, .arr 1 0 (eL ([] : List Int)) true, B true, rf 3 0 5 v56.1])] [sc 0 v61.2, some ⟨0, Enc.cells (T_impl_Bond.mk 0 0 [] 0 [] false [])⟩, some ⟨1, [I (w64 (1 + v1.1)), I v3.1, .arr 1 0 (eL ([] : List Int)) true, I 0, .arr 1 0 (eL ([] : List Int)) true, B true, rf 3 0 5 v56.1]⟩, sl 0 v56.1] ?_
 refine opsP_imp (Imp.freezeB (v := 0) (cs := eL v56.1) (st' := ⟨141, [(6, .ptr 1 0 0), (140, .agg [I (w64 (1 + v1.1)), I v3.1, .arr 1 0 (eL ([] : List Int)) true, I 0, .arr 1 0 (eL ([] : List Int)) true, B true, A v56.1])], [sc 0 v61.2, some ⟨0, Enc.cells (T_impl_Bond.mk 0 0 [] 0 [] false [])⟩, some ⟨1, [I (w64 (1 + v1.1)), I v3.1, .arr 1 0 (eL ([] : List Int)) true, I 0, .arr 1 0 (eL ([] : List Int)) true, B true, A v56.1]⟩, none]⟩) 3 0 (pn hQ) (by kernel_rfl) (eL_frz _) (wholeC (whole_noRef (by kernel_rfl)) (wholeC (whole_agg (wholeL (whole_noRef (by kernel_rfl)) (wholeL (whole_noRef (by kernel_rfl)) (wholeL (whole_noRef (by kernel_rfl)) (wholeL (whole_noRef (by kernel_rfl)) (wholeL (whole_noRef (by kernel_rfl)) (wholeL (whole_noRef (by kernel_rfl)) (wholeL (whole_is (eL_len v56.1).symm) wholeL0)))))))) wholeC0)) (HpRel.frz rfl (Enc.frz _) (HpRel.frz rfl (Enc.frz _) (HpRel.box rfl (CellRel.cons ⟨rfl, trivial, rfl⟩ (CellRel.cons ⟨rfl, trivial, rfl⟩ (CellRel.cons ⟨rfl, trivial, rfl⟩ (CellRel.cons ⟨rfl, trivial, rfl⟩ (CellRel.cons ⟨rfl, trivial, rfl⟩ (CellRel.cons ⟨rfl, trivial, rfl⟩ (CellRel.cons ⟨rfl, (whole_is (eL_len v56.1).symm), rfl⟩ CellRel.nil))))))) (HpRel.key HpRel.nil)))) (by kernel_rfl) rfl (p01 hQ)) ?_
 refine vM [6, 7] 0 141 [(6, .ptr 1 0 0), (140, .agg [I (w64 (1 + v1.1)), I v3.1, .arr 1 0 (eL ([] : List Int)) true, I 0, .arr 1 0 (eL ([] : List Int)) true, B true, A v56.1])] [sc 0 v61.2, some ⟨0, Enc.cells (T_impl_Bond.mk 0 0 [] 0 [] false [])⟩, some ⟨1, [I (w64 (1 + v1.1)), I v3.1, .arr 1 0 (eL ([] : List Int)) true, I 0, .arr 1 0 (eL ([] : List Int)) true, B true, A v56.1]⟩, none] ?_
 refine opsP_imp (Imp.softB (st' := ⟨141, [(6, .ptr 1 0 0), (140, E (T_impl_Bond.mk (w64 (1 + v1.1)) v3.1 [] 0 [] true v56.1))], [sc 0 v61.2, some ⟨0, Enc.cells (T_impl_Bond.mk 0 0 [] 0 [] false [])⟩, some ⟨1, Enc.cells (T_impl_Bond.mk (w64 (1 + v1.1)) v3.1 [] 0 [] true v56.1)⟩, none]⟩) 4 (by kernel_rfl) (HpRel.frz rfl (Enc.frz _) (HpRel.frz rfl (Enc.frz _) (HpRel.box rfl (CellRel.cons rfl (CellRel.cons rfl (CellRel.cons rfl (CellRel.cons rfl (CellRel.cons rfl (CellRel.cons rfl (CellRel.cons rfl CellRel.nil))))))) (HpRel.none rfl HpRel.nil)))) (by kernel_rfl) (by rfl) (p01 hQ)) ?_
 refine veM [6, 7] 1 141 [(6, .ptr 1 0 0)] [sc 0 v61.2, some ⟨0, Enc.cells (T_impl_Bond.mk (w64 (1 + v1.1)) v3.1 [] 0 [] true v56.1)⟩, some ⟨1, Enc.cells (T_impl_Bond.mk (w64 (1 + v1.1)) v3.1 [] 0 [] true v56.1)⟩, none] ?_
 have h := si h
 subst h
 exact pwp_ret ⟨.inr rfl, E (T_impl_Bond.mk (w64 (1 + v1.1)) v3.1 [] 0 [] true v56.1), _, 0, by kernel_rfl, (OutP.frz (by kernel_rfl)), by decide, by decide, by kernel_rfl⟩
 refine pwp_skip ?_
 refine srvM [6, 7] 1 141 [(6, .ptr 1 0 0), (140, .agg [I (w64 (1 + v1.1)), I v3.1, .arr 1 0 (eL ([] : List Int)) true, I 0, .arr 1 0 (eL ([] : List Int)) true, B false, rf 3 0 5 v56.1])] [sc 0 v58.2, some ⟨0, Enc.cells (T_impl_Bond.mk 0 0 [] 0 [] false [])⟩, some ⟨1, [I (w64 (1 + v1.1)), I v3.1, .arr 1 0 (eL ([] : List Int)) true, I 0, .arr 1 0 (eL ([] : List Int)) true, B false, rf 3 0 5 v56.1]⟩, sl 0 v56.1] ?_
 refine opsP_imp (Imp.freezeB (v := 0) (cs := eL v56.1) (st' := ⟨141, [(6, .ptr 1 0 0), (140, .agg [I (w64 (1 + v1.1)), I v3.1, .arr 1 0 (eL ([] : List Int)) true, I 0, .arr 1 0 (eL ([] : List Int)) true, B false, A v56.1])], [sc 0 v58.2, some ⟨0, Enc.cells (T_impl_Bond.mk 0 0 [] 0 [] false [])⟩, some ⟨1, [I (w64 (1 + v1.1)), I v3.1, .arr 1 0 (eL ([] : List Int)) true, I 0, .arr 1 0 (eL ([] : List Int)) true, B false, A v56.1]⟩, none]⟩) 3 0 (pn hQ) (by kernel_rfl) (eL_frz _) (wholeC (whole_noRef (by kernel_rfl)) (wholeC (whole_agg (wholeL (whole_noRef (by kernel_rfl)) (wholeL (whole_noRef (by kernel_rfl)) (wholeL (whole_noRef (by kernel_rfl)) (wholeL (whole_noRef (by kernel_rfl)) (wholeL (whole_noRef (by kernel_rfl)) (wholeL (whole_noRef (by kernel_rfl)) (wholeL (whole_is (eL_len v56.1).symm) wholeL0)))))))) wholeC0)) (HpRel.frz rfl (Enc.frz _) (HpRel.frz rfl (Enc.frz _) (HpRel.box rfl (CellRel.cons ⟨rfl, trivial, rfl⟩ (CellRel.cons ⟨rfl, trivial, rfl⟩ (CellRel.cons ⟨rfl, trivial, rfl⟩ (CellRel.cons ⟨rfl, trivial, rfl⟩ (CellRel.cons ⟨rfl, trivial, rfl⟩ (CellRel.cons ⟨rfl, trivial, rfl⟩ (CellRel.cons ⟨rfl, (whole_is (eL_len v56.1).symm), rfl⟩ CellRel.nil))))))) (HpRel.key HpRel.nil)))) (by kernel_rfl) rfl (p01 hQ)) ?_
 refine vM [6, 7] 0 141 [(6, .ptr 1 0 0), (140, .agg [I (w64 (1 + v1.1)), I v3.1, .arr 1 0 (eL ([] : List Int)) true, I 0, .arr 1 0 (eL ([] : List Int)) true, B false, A v56.1])] [sc 0 v58.2, some ⟨0, Enc.cells (T_impl_Bond.mk 0 0 [] 0 [] false [])⟩, some ⟨1, [I (w64 (1 + v1.1)), I v3.1, .arr 1 0 (eL ([] : List Int)) true, I 0, .arr 1 0 (eL ([] : List Int)) true, B false, A v56.1]⟩, none] ?_
 refine opsP_imp (Imp.softB (st' := ⟨141, [(6, .ptr 1 0 0), (140, E (T_impl_Bond.mk (w64 (1 + v1.1)) v3.1 [] 0 [] false v56.1))], [sc 0 v58.2, some ⟨0, Enc.cells (T_impl_Bond.mk 0 0 [] 0 [] false [])⟩, some ⟨1, Enc.cells (T_impl_Bond.mk (w64 (1 + v1.1)) v3.1 [] 0 [] false v56.1)⟩, none]⟩) 4 (by kernel_rfl) (HpRel.frz rfl (Enc.frz _) (HpRel.frz rfl (Enc.frz _) (HpRel.box rfl (CellRel.cons rfl (CellRel.cons rfl (CellRel.cons rfl (CellRel.cons rfl (CellRel.cons rfl (CellRel.cons rfl (CellRel.cons rfl CellRel.nil))))))) (HpRel.none rfl HpRel.nil)))) (by kernel_rfl) (by rfl) (p01 hQ)) ?_
 refine veM [6, 7] 1 141 [(6, .ptr 1 0 0)] [sc 0 v58.2, some ⟨0, Enc.cells (T_impl_Bond.mk (w64 (1 + v1.1)) v3.1 [] 0 [] false v56.1)⟩, some ⟨1, Enc.cells (T_impl_Bond.mk (w64 (1 + v1.1)) v3.1 [] 0 [] false v56.1)⟩, none] ?_
 have h := si h
 subst h
 exact pwp_ret ⟨.inr rfl, E (T_impl_Bond.mk (w64 (1 + v1.1)) v3.1 [] 0 [] false v56.1), _, 0, by kernel_rfl, (OutP.frz (by kernel_rfl)), by decide, by decide, by kernel_rfl⟩
 refine srveM [6, 7] 141 [(0, .ptr 0 0 0), (1, A a1), (2, I a2), (6, .ptr 1 0 0), (7, .ptr 2 1 0), (8, A v5.fColumns), (54, B ((w64 (1 + v1.1)) == 2))] [sc 0 v3.2, some ⟨0, Enc.cells (T_impl_Bond.mk 0 0 [] 0 [] false [])⟩, some ⟨1, [I (w64 (1 + v1.1)), I v3.1, .arr 1 0 (eL ([] : List Int)) true, I 0, .arr 1 0 (eL ([] : List Int)) true, B false, .arr 5 0 (eL ([] : List T_impl_Part)) true]⟩] ?_
 refine pc h (fun h => ?_) (fun h => ?_)
 refine pwp_seq ?_
 refine srveM [6, 7] 141 [(0, .ptr 0 0 0), (1, A a1), (2, I a2), (6, .ptr 1 0 0), (7, .ptr 2 1 0), (8, A v5.fColumns), (9, I 0)] [sc 0 v3.2, some ⟨0, Enc.cells (T_impl_Bond.mk 0 0 [] 0 [] false [])⟩, some ⟨1, [I (w64 (1 + v1.1)), I v3.1, .arr 1 0 (eL ([] : List Int)) true, I 0, .arr 1 0 (eL ([] : List Int)) true, B false, .arr 5 0 (eL ([] : List T_impl_Part)) true]⟩] ?_
 refine pwp_block ?_
 refine ip 141 [(0, .ptr 0 0 0), (1, A a1), (2, I a2), (6, .ptr 1 0 0), (7, .ptr 2 1 0), (8, A v5.fColumns), (9, I 0)] [sc 0 v3.2, some ⟨0, Enc.cells (T_impl_Bond.mk 0 0 [] 0 [] false [])⟩, some ⟨1, [I (w64 (1 + v1.1)), I v3.1, .arr 1 0 (eL ([] : List Int)) true, I 0, .arr 1 0 (eL ([] : List Int)) true, B false, .arr 5 0 (eL ([] : List T_impl_Part)) true]⟩] ?_
 refine pwp_imp (Imp.thawB (st' := ⟨141, [(0, .ptr 0 0 0), (1, A a1), (2, I a2), (6, .ptr 1 0 0), (7, .ptr 2 1 0), (8, A v5.fColumns), (9, I 0)], [sc 0 v3.2, some ⟨0, Enc.cells (T_impl_Bond.mk 0 0 [] 0 [] false [])⟩, some ⟨1, [I (w64 (1 + v1.1)), I v3.1, .ref 3 0 0 1 ([] : List Int).length false, I 0, .arr 1 0 (eL ([] : List Int)) true, B false, .arr 5 0 (eL ([] : List T_impl_Part)) true]⟩, some ⟨0, eL ([] : List Int)⟩]⟩) 3 (by kernel_rfl) (HpRel.frz rfl (Enc.frz _) (HpRel.frz rfl (Enc.frz _) (HpRel.box rfl (CellRel.cons (.inl ⟨rfl, rfl⟩) (CellRel.cons (.inl ⟨rfl, rfl⟩) (CellRel.cons (.inr ⟨_, rfl, rfl⟩) (CellRel.cons (.inl ⟨rfl, rfl⟩) (CellRel.cons (.inl ⟨rfl, rfl⟩) (CellRel.cons (.inl ⟨rfl, rfl⟩) (CellRel.cons (.inl ⟨rfl, rfl⟩) CellRel.nil))))))) (HpRel.key HpRel.nil)))) (by rfl) (by rfl) (p01 hQ)) ?_
 refine ip 141 [(0, .ptr 0 0 0), (1, A a1), (2, I a2), (6, .ptr 1 0 0), (7, .ptr 2 1 0), (8, A v5.fColumns), (9, I 0)] [sc 0 v3.2, some ⟨0, Enc.cells (T_impl_Bond.mk 0 0 [] 0 [] false [])⟩, some ⟨1, [I (w64 (1 + v1.1)), I v3.1, .ref 3 0 0 1 ([] : List Int).length false, I 0, .arr 1 0 (eL ([] : List Int)) true, B false, .arr 5 0 (eL ([] : List T_impl_Part)) true]⟩, some ⟨0, eL ([] : List Int)⟩] ?_
 refine pwp_imp (Imp.thawB (st' := ⟨141, [(0, .ptr 0 0 0), (1, A a1), (2, I a2), (6, .ptr 1 0 0), (7, .ptr 2 1 0), (8, A v5.fColumns), (9, I 0)], [sc 0 v3.2, some ⟨0, Enc.cells (T_impl_Bond.mk 0 0 [] 0 [] false [])⟩, some ⟨1, [I (w64 (1 + v1.1)), I v3.1, .ref 3 0 0 1 ([] : List Int).length false, I 0, .ref 4 0 0 1 ([] : List Int).length false, B false, .arr 5 0 (eL ([] : List T_impl_Part)) true]⟩, some ⟨0, eL ([] : List Int)⟩, some ⟨0, eL ([] : List Int)⟩]⟩) 4 (by kernel_rfl) (HpRel.frz rfl (Enc.frz _) (HpRel.frz rfl (Enc.frz _) (HpRel.box rfl (CellRel.cons (.inl ⟨rfl, rfl⟩) (CellRel.cons (.inl ⟨rfl, rfl⟩) (CellRel.cons (.inl ⟨rfl, rfl⟩) (CellRel.cons (.inl ⟨rfl, rfl⟩) (CellRel.cons (.inr ⟨_, rfl, rfl⟩) (CellRel.cons (.inl ⟨rfl, rfl⟩) (CellRel.cons (.inl ⟨rfl, rfl⟩) CellRel.nil))))))) (HpRel.frz rfl (eL_frz _) (HpRel.key HpRel.nil))))) (by rfl) (by rfl) (p01 hQ)) ?_
 refine pwp_loop (ι := Nat × Int × T_spec_l20Rd × T_impl_Bond × (List Int) × (List Int)) (fun (f85, x80, x81, x82, x83, x84) => (⟨141, [(0, .ptr 0 0 0), (1, A a1), (2, I a2), (6, .ptr 1 0 0), (7, .ptr 2 1 0), (8, A v5.fColumns), (9, I x80)], [sc 0 x81, some ⟨0, Enc.cells (T_impl_Bond.mk 0 0 [] 0 [] false [])⟩, some ⟨1, [I x82.fKind, I x82.fIn, rf 3 0 1 x83, I x82.fOf, rf 4 0 1 x84, B x82.fFollow, .arr 5 0 (eL ([] : List T_impl_Part)) true]⟩, sl 0 x83, sl 0 x84]⟩ : St)) (fun (f85, x80, x81, x82, x83, x84) => spec_l20Bond_l2 a1 a2 v5 f85 x80 x81 x82 x83 x84 = some y) Prod.fst (FUEL, 0, v3.2, (T_impl_Bond.mk (w64 (1 + v1.1)) v3.1 [] 0 [] false []), ([] : List Int), ([] : List Int)) h (it [0, 1, 2, 6, 7, 8, 9]) ?_
 rintro ⟨f85, x80, x81, x82, x83, x84⟩ h
 dsimp only at h ⊢
 rcases f85 with _ | f85
 cases h
 rw [spec_l20Bond_l2] at h
 refine pwp_seq ?_
 refine pwp_seq ?_
 refine pwp_join (σ := Bool) (fun x87 => (⟨141, [(0, .ptr 0 0 0), (1, A a1), (2, I a2), (6, .ptr 1 0 0), (7, .ptr 2 1 0), (8, A v5.fColumns), (9, I x80), (63, B x87)], [sc 0 x81, some ⟨0, Enc.cells (T_impl_Bond.mk 0 0 [] 0 [] false [])⟩, some ⟨1, [I x82.fKind, I x82.fIn, rf 3 0 1 x83, I x82.fOf, rf 4 0 1 x84, B x82.fFollow, .arr 5 0 (eL ([] : List T_impl_Part)) true]⟩, sl 0 x83, sl 0 x84]⟩ : St)) (fun x87 => spec_l20Bond_j3 a1 a2 v5 x80 x81 x82 x83 x84 (spec_l20Bond_l2 a1 a2 v5 f85) x87 = some y) ?_ ?_
 refine rvM [6, 7] 3 141 [(0, .ptr 0 0 0), (1, A a1), (2, I a2), (6, .ptr 1 0 0), (7, .ptr 2 1 0), (8, A v5.fColumns), (9, I x80), (58, B (decide (x80 < 12)))] [sc 0 x81, some ⟨0, Enc.cells (T_impl_Bond.mk 0 0 [] 0 [] false [])⟩, some ⟨1, [I x82.fKind, I x82.fIn, rf 3 0 1 x83, I x82.fOf, rf 4 0 1 x84, B x82.fFollow, .arr 5 0 (eL ([] : List T_impl_Part)) true]⟩, sl 0 x83, sl 0 x84] ?_
 rcases fk (decide (x80 < 12)) with hc125 | hc125
 replace h := bT hc125 h
 rw [hc125]
 refine veM [6, 7] 5 141 [(0, .ptr 0 0 0), (1, A a1), (2, I a2), (6, .ptr 1 0 0), (7, .ptr 2 1 0), (8, A v5.fColumns), (9, I x80), (59, .ptr 2 1 2), (60, rf 3 0 1 x83), (61, I (x83.length : Int)), (62, B ((x83.length : Int) == 0)), (63, B ((x83.length : Int) == 0))] [sc 0 x81, some ⟨0, Enc.cells (T_impl_Bond.mk 0 0 [] 0 [] false [])⟩, some ⟨1, [I x82.fKind, I x82.fIn, rf 3 0 1 x83, I x82.fOf, rf 4 0 1 x84, B x82.fFollow, .arr 5 0 (eL ([] : List T_impl_Part)) true]⟩, sl 0 x83, sl 0 x84] ?_
 exact ⟨((x83.length : Int) == 0), h, it [0, 1, 2, 6, 7, 8, 9, 63]⟩
 replace h := bF hc125 h
 rw [hc125]
 refine veM [6, 7] 5 141 [(0, .ptr 0 0 0), (1, A a1), (2, I a2), (6, .ptr 1 0 0), (7, .ptr 2 1 0), (8, A v5.fColumns), (9, I x80), (59, .lit undef), (60, .lit undef), (61, .lit undef), (62, .lit undef), (63, B false)] [sc 0 x81, some ⟨0, Enc.cells (T_impl_Bond.mk 0 0 [] 0 [] false [])⟩, some ⟨1, [I x82.fKind, I x82.fIn, rf 3 0 1 x83, I x82.fOf, rf 4 0 1 x84, B x82.fFollow, .arr 5 0 (eL ([] : List T_impl_Part)) true]⟩, sl 0 x83, sl 0 x84] ?_
 exact ⟨false, h, it [0, 1, 2, 6, 7, 8, 9, 63]⟩
 rintro x87 h
 unfold spec_l20Bond_j3 at h
 refine pc h (fun h => ?_) (fun h => ?_)
 refine pwp_skip ?_
 refine pwp_seq ?_
 refine pwp_block ?_
 refine srvM [6, 7] 3 141 [(0, .ptr 0 0 0), (1, A a1), (2, I a2), (6, .ptr 1 0 0), (7, .ptr 2 1 0), (8, A v5.fColumns), (9, I x80), (66, .ptr 0 0 0), (68, I (a1.length : Int))] [sc 0 x81, some ⟨0, Enc.cells (T_impl_Bond.mk 0 0 [] 0 [] false [])⟩, some ⟨1, [I x82.fKind, I x82.fIn, rf 3 0 1 x83, I x82.fOf, rf 4 0 1 x84, B x82.fFollow, .arr 5 0 (eL ([] : List T_impl_Part)) true]⟩, sl 0 x83, sl 0 x84] ?_
 obtain ⟨v89, hv90, h⟩ := bindS h
 refine cB 69 0 0 (ok_spec_l20Rd_pick hv90) ?_
 refine veM [6, 7] 2 141 [(0, .ptr 0 0 0), (1, A a1), (2, I a2), (6, .ptr 1 0 0), (7, .ptr 2 1 0), (8, A v5.fColumns), (9, I x80)] [sc 0 v89.2, some ⟨0, Enc.cells (T_impl_Bond.mk 0 0 [] 0 [] false [])⟩, some ⟨1, [I ({ x82 with fOf := v89.1 }.fKind), I ({ x82 with fOf := v89.1 }.fIn), rf 3 0 1 x83, I ({ x82 with fOf := v89.1 }.fOf), rf 4 0 1 x84, B ({ x82 with fOf := v89.1 }.fFollow), .arr 5 0 (eL ([] : List T_impl_Part)) true]⟩, sl 0 x83, sl 0 x84] ?_
 refine srvM [6, 7] 3 141 [(0, .ptr 0 0 0), (1, A a1), (2, I a2), (6, .ptr 1 0 0), (7, .ptr 2 1 0), (8, A v5.fColumns), (9, I x80), (71, .ptr 0 0 0), (73, I (v5.fColumns.length : Int))] [sc 0 v89.2, some ⟨0, Enc.cells (T_impl_Bond.mk 0 0 [] 0 [] false [])⟩, some ⟨1, [I ({ x82 with fOf := v89.1 }.fKind), I ({ x82 with fOf := v89.1 }.fIn), rf 3 0 1 x83, I ({ x82 with fOf := v89.1 }.fOf), rf 4 0 1 x84, B ({ x82 with fOf := v89.1 }.fFollow), .arr 5 0 (eL ([] : List T_impl_Part)) true]⟩, sl 0 x83, sl 0 x84] ?_
 obtain ⟨v91, hv92, h⟩ := bindS h
 refine cB 74 0 0 (ok_spec_l20Rd_pick hv92) ?_
 refine veM [6, 7] 1 141 [(0, .ptr 0 0 0), (1, A a1), (2, I a2), (6, .ptr 1 0 0), (7, .ptr 2 1 0), (8, A v5.fColumns), (9, I x80), (10, I v91.1)] [sc 0 v91.2, some ⟨0, Enc.cells (T_impl_Bond.mk 0 0 [] 0 [] false [])⟩, some ⟨1, [I ({ x82 with fOf := v89.1 }.fKind), I ({ x82 with fOf := v89.1 }.fIn), rf 3 0 1 x83, I ({ x82 with fOf := v89.1 }.fOf), rf 4 0 1 x84, B ({ x82 with fOf := v89.1 }.fFollow), .arr 5 0 (eL ([] : List T_impl_Part)) true]⟩, sl 0 x83, sl 0 x84] ?_
 refine srvM [6, 7] 4 141 [(0, .ptr 0 0 0), (1, A a1), (2, I a2), (6, .ptr 1 0 0), (7, .ptr 2 1 0), (8, A v5.fColumns), (9, I x80), (10, I v91.1), (75, .ptr 0 0 0), (76, A a1), (78, I (({ x82 with fOf := v89.1 } : T_impl_Bond).fOf))] [sc 0 v91.2, some ⟨0, Enc.cells (T_impl_Bond.mk 0 0 [] 0 [] false [])⟩, some ⟨1, [I ({ x82 with fOf := v89.1 }.fKind), I ({ x82 with fOf := v89.1 }.fIn), rf 3 0 1 x83, I ({ x82 with fOf := v89.1 }.fOf), rf 4 0 1 x84, B ({ x82 with fOf := v89.1 }.fFollow), .arr 5 0 (eL ([] : List T_impl_Part)) true]⟩, sl 0 x83, sl 0 x84] ?_
 obtain ⟨v93, hv94, h⟩ := bindS h
 refine opsP_idx τ_ok 79 hv94 (by kernel_rfl) ?_
 refine vM [6, 7] 3 141 [(0, .ptr 0 0 0), (1, A a1), (2, I a2), (6, .ptr 1 0 0), (7, .ptr 2 1 0), (8, A v5.fColumns), (9, I x80), (10, I v91.1), (75, .ptr 0 0 0), (82, I (v93.fColumns.length : Int))] [sc 0 v91.2, some ⟨0, Enc.cells (T_impl_Bond.mk 0 0 [] 0 [] false [])⟩, some ⟨1, [I ({ x82 with fOf := v89.1 }.fKind), I ({ x82 with fOf := v89.1 }.fIn), rf 3 0 1 x83, I ({ x82 with fOf := v89.1 }.fOf), rf 4 0 1 x84, B ({ x82 with fOf := v89.1 }.fFollow), .arr 5 0 (eL ([] : List T_impl_Part)) true]⟩, sl 0 x83, sl 0 x84] ?_
 obtain ⟨v95, hv96, h⟩ := bindS h
 refine cB 83 0 0 (ok_spec_l20Rd_pick hv96) ?_
 refine veM [6, 7] 1 141 [(0, .ptr 0 0 0), (1, A a1), (2, I a2), (6, .ptr 1 0 0), (7, .ptr 2 1 0), (8, A v5.fColumns), (9, I x80), (10, I v91.1), (11, I v95.1)] [sc 0 v95.2, some ⟨0, Enc.cells (T_impl_Bond.mk 0 0 [] 0 [] false [])⟩, some ⟨1, [I ({ x82 with fOf := v89.1 }.fKind), I ({ x82 with fOf := v89.1 }.fIn), rf 3 0 1 x83, I ({ x82 with fOf := v89.1 }.fOf), rf 4 0 1 x84, B ({ x82 with fOf := v89.1 }.fFollow), .arr 5 0 (eL ([] : List T_impl_Part)) true]⟩, sl 0 x83, sl 0 x84] ?_
 refine pwp_seq ?_
 refine ip 141 [(0, .ptr 0 0 0), (1, A a1), (2, I a2), (6, .ptr 1 0 0), (7, .ptr 2 1 0), (8, A v5.fColumns), (9, I x80), (10, I v91.1), (11, I v95.1)] [sc 0 v95.2, some ⟨0, Enc.cells (T_impl_Bond.mk 0 0 [] 0 [] false [])⟩, some ⟨1, [I ({ x82 with fOf := v89.1 }.fKind), I ({ x82 with fOf := v89.1 }.fIn), rf 3 0 1 x83, I ({ x82 with fOf := v89.1 }.fOf), rf 4 0 1 x84, B ({ x82 with fOf := v89.1 }.fFollow), .arr 5 0 (eL ([] : List T_impl_Part)) true]⟩, sl 0 x83, sl 0 x84] ?_
 refine pwp_any ([[], [], [], [], [], [], [2, 3, 4], [2, 3, 4], [], [], [], [], [], [], [], []]) ([[], [], [], [], [], [], [], [], [], [], [], [], [], [], [], []]) rfl (by kernel_rfl) ?_
 refine qvM [6, 7] [] trivial 2 141 [(85, I v91.1), (84, A v5.fColumns), (0, .ptr 0 0 0), (1, A a1), (2, I a2), (6, .ptr 1 0 0), (7, .ptr 2 1 0), (8, A v5.fColumns), (9, I x80), (10, I v91.1), (11, I v95.1)] [sc 0 v95.2, some ⟨0, Enc.cells (T_impl_Bond.mk 0 0 [] 0 [] false [])⟩, some ⟨1, [I ({ x82 with fOf := v89.1 }.fKind), I ({ x82 with fOf := v89.1 }.fIn), rf 3 0 1 x83, I ({ x82 with fOf := v89.1 }.fOf), rf 4 0 1 x84, B ({ x82 with fOf := v89.1 }.fFollow), .arr 5 0 (eL ([] : List T_impl_Part)) true]⟩, sl 0 x83, sl 0 x84] ?_
 obtain ⟨v97, hv98, h⟩ := bindS h
 refine qX (some 86) (pf v97 0) 141 [(86, pf v97 0), (0, .ptr 0 0 0), (1, A a1), (2, I a2), (6, .ptr 1 0 0), (7, .ptr 2 1 0), (8, A v5.fColumns), (9, I x80), (10, I v91.1), (11, I v95.1)] [sc 0 v95.2, some ⟨0, Enc.cells (T_impl_Bond.mk 0 0 [] 0 [] false [])⟩, some ⟨1, [I ({ x82 with fOf := v89.1 }.fKind), I ({ x82 with fOf := v89.1 }.fIn), rf 3 0 1 x83, I ({ x82 with fOf := v89.1 }.fOf), rf 4 0 1 x84, B ({ x82 with fOf := v89.1 }.fFollow), .arr 5 0 (eL ([] : List T_impl_Part)) true]⟩, sl 0 x83, sl 0 x84] (fun Γ' hΓ => CoreE.of_y (idxV_sound τ_ok (by kernel_rfl) hv98)) trivial ?_
 refine qvM [6, 7] [] trivial 3 141 [(89, A a1), (88, I v97.fKind), (0, .ptr 0 0 0), (1, A a1), (2, I a2), (6, .ptr 1 0 0), (7, .ptr 2 1 0), (8, A v5.fColumns), (9, I x80), (10, I v91.1), (11, I v95.1)] [sc 0 v95.2, some ⟨0, Enc.cells (T_impl_Bond.mk 0 0 [] 0 [] false [])⟩, some ⟨1, [I ({ x82 with fOf := v89.1 }.fKind), I ({ x82 with fOf := v89.1 }.fIn), rf 3 0 1 x83, I ({ x82 with fOf := v89.1 }.fOf), rf 4 0 1 x84, B ({ x82 with fOf := v89.1 }.fFollow), .arr 5 0 (eL ([] : List T_impl_Part)) true]⟩, sl 0 x83, sl 0 x84] ?_
 refine qvM [6, 7] [2, 3, 4] (hR (hL (hL trivial))) 2 141 [(91, I (({ x82 with fOf := v89.1 } : T_impl_Bond).fOf)), (89, A a1), (88, I v97.fKind), (0, .ptr 0 0 0), (1, A a1), (2, I a2), (6, .ptr 1 0 0), (7, .ptr 2 1 0), (8, A v5.fColumns), (9, I x80), (10, I v91.1), (11, I v95.1)] [sc 0 v95.2, some ⟨0, Enc.cells (T_impl_Bond.mk 0 0 [] 0 [] false [])⟩, some ⟨1, [I ({ x82 with fOf := v89.1 }.fKind), I ({ x82 with fOf := v89.1 }.fIn), rf 3 0 1 x83, I ({ x82 with fOf := v89.1 }.fOf), rf 4 0 1 x84, B ({ x82 with fOf := v89.1 }.fFollow), .arr 5 0 (eL ([] : List T_impl_Part)) true]⟩, sl 0 x83, sl 0 x84] ?_
 obtain ⟨v99, hv100, h⟩ := bindS h
 refine qX (some 92) (pf v99 0) 141 [(92, pf v99 0), (88, I v97.fKind), (0, .ptr 0 0 0), (1, A a1), (2, I a2), (6, .ptr 1 0 0), (7, .ptr 2 1 0), (8, A v5.fColumns), (9, I x80), (10, I v91.1), (11, I v95.1)] [sc 0 v95.2, some ⟨0, Enc.cells (T_impl_Bond.mk 0 0 [] 0 [] false [])⟩, some ⟨1, [I ({ x82 with fOf := v89.1 }.fKind), I ({ x82 with fOf := v89.1 }.fIn), rf 3 0 1 x83, I ({ x82 with fOf := v89.1 }.fOf), rf 4 0 1 x84, B ({ x82 with fOf := v89.1 }.fFollow), .arr 5 0 (eL ([] : List T_impl_Part)) true]⟩, sl 0 x83, sl 0 x84] (fun Γ' hΓ => CoreE.of_y (idxV_sound τ_ok (by kernel_rfl) hv100)) trivial ?_
 refine qvM [6, 7] [] trivial 3 141 [(95, I v95.1), (94, A v99.fColumns), (88, I v97.fKind), (0, .ptr 0 0 0), (1, A a1), (2, I a2), (6, .ptr 1 0 0), (7, .ptr 2 1 0), (8, A v5.fColumns), (9, I x80), (10, I v91.1), (11, I v95.1)] [sc 0 v95.2, some ⟨0, Enc.cells (T_impl_Bond.mk 0 0 [] 0 [] false [])⟩, some ⟨1, [I ({ x82 with fOf := v89.1 }.fKind), I ({ x82 with fOf := v89.1 }.fIn), rf 3 0 1 x83, I ({ x82 with fOf := v89.1 }.fOf), rf 4 0 1 x84, B ({ x82 with fOf := v89.1 }.fFollow), .arr 5 0 (eL ([] : List T_impl_Part)) true]⟩, sl 0 x83, sl 0 x84] ?_
 obtain ⟨v101, hv102, h⟩ := bindS h
 refine qX (some 96) (pf v101 0) 141 [(96, pf v101 0), (88, I v97.fKind), (0, .ptr 0 0 0), (1, A a1), (2, I a2), (6, .ptr 1 0 0), (7, .ptr 2 1 0), (8, A v5.fColumns), (9, I x80), (10, I v91.1), (11, I v95.1)] [sc 0 v95.2, some ⟨0, Enc.cells (T_impl_Bond.mk 0 0 [] 0 [] false [])⟩, some ⟨1, [I ({ x82 with fOf := v89.1 }.fKind), I ({ x82 with fOf := v89.1 }.fIn), rf 3 0 1 x83, I ({ x82 with fOf := v89.1 }.fOf), rf 4 0 1 x84, B ({ x82 with fOf := v89.1 }.fFollow), .arr 5 0 (eL ([] : List T_impl_Part)) true]⟩, sl 0 x83, sl 0 x84] (fun Γ' hΓ => CoreE.of_y (idxV_sound τ_ok (by kernel_rfl) hv102)) trivial ?_
 refine qvnM [6, 7] [] trivial 3 141 [(0, .ptr 0 0 0), (1, A a1), (2, I a2), (6, .ptr 1 0 0), (7, .ptr 2 1 0), (8, A v5.fColumns), (9, I x80), (10, I v91.1), (11, I v95.1), (99, B (v97.fKind == v101.fKind))] [sc 0 v95.2, some ⟨0, Enc.cells (T_impl_Bond.mk 0 0 [] 0 [] false [])⟩, some ⟨1, [I ({ x82 with fOf := v89.1 }.fKind), I ({ x82 with fOf := v89.1 }.fIn), rf 3 0 1 x83, I ({ x82 with fOf := v89.1 }.fOf), rf 4 0 1 x84, B ({ x82 with fOf := v89.1 }.fFollow), .arr 5 0 (eL ([] : List T_impl_Part)) true]⟩, sl 0 x83, sl 0 x84] ?_
 refine pc h (fun h => ?_) (fun h => ?_)
 refine srvM [6, 7] 1 141 [(0, .ptr 0 0 0), (1, A a1), (2, I a2), (6, .ptr 1 0 0), (7, .ptr 2 1 0), (8, A v5.fColumns), (9, I x80), (11, I v95.1), (100, I v91.1)] [sc 0 v95.2, some ⟨0, Enc.cells (T_impl_Bond.mk 0 0 [] 0 [] false [])⟩, some ⟨1, [I ({ x82 with fOf := v89.1 }.fKind), I ({ x82 with fOf := v89.1 }.fIn), rf 3 0 1 x83, I ({ x82 with fOf := v89.1 }.fOf), rf 4 0 1 x84, B ({ x82 with fOf := v89.1 }.fFollow), .arr 5 0 (eL ([] : List T_impl_Part)) true]⟩, sl 0 x83, sl 0 x84] ?_
 refine opsP_E (dd := some 101) (x := .ref 5 0 0 1 ([v91.1] : List Int).length false) (bsl_N (cells := eL ([v91.1] : List Int)) τ_ok 101 5 (by first | exact pn hQ | exact pk hQ) (by kernel_rfl) (by kernel_rfl)) ?_
 refine veM [6, 7] 2 141 [(0, .ptr 0 0 0), (1, A a1), (2, I a2), (6, .ptr 1 0 0), (7, .ptr 2 1 0), (8, A v5.fColumns), (9, I x80), (11, I v95.1)] [sc 0 v95.2, some ⟨0, Enc.cells (T_impl_Bond.mk 0 0 [] 0 [] false [])⟩, some ⟨1, [I ({ x82 with fOf := v89.1 }.fKind), I ({ x82 with fOf := v89.1 }.fIn), .ref 5 0 0 1 ([v91.1] : List Int).length false, I ({ x82 with fOf := v89.1 }.fOf), rf 4 0 1 x84, B ({ x82 with fOf := v89.1 }.fFollow), .arr 5 0 (eL ([] : List T_impl_Part)) true]⟩, sl 0 x83, sl 0 x84, some ⟨0, eL ([v91.1] : List Int)⟩] ?_
 refine rvM [6, 7] 1 141 [(0, .ptr 0 0 0), (1, A a1), (2, I a2), (6, .ptr 1 0 0), (7, .ptr 2 1 0), (8, A v5.fColumns), (9, I x80), (103, I v95.1)] [sc 0 v95.2, some ⟨0, Enc.cells (T_impl_Bond.mk 0 0 [] 0 [] false [])⟩, some ⟨1, [I ({ x82 with fOf := v89.1 }.fKind), I ({ x82 with fOf := v89.1 }.fIn), .ref 5 0 0 1 ([v91.1] : List Int).length false, I ({ x82 with fOf := v89.1 }.fOf), rf 4 0 1 x84, B ({ x82 with fOf := v89.1 }.fFollow), .arr 5 0 (eL ([] : List T_impl_Part)) true]⟩, sl 0 x83, sl 0 x84, some ⟨0, eL ([v91.1] : List Int)⟩] ?_
 refine opsP_E (dd := some 104) (x := .ref 6 0 0 1 ([v95.1] : List Int).length false) (bsl_N (cells := eL ([v95.1] : List Int)) τ_ok 104 6 (by first | exact pn hQ | exact pk hQ) (by kernel_rfl) (by kernel_rfl)) ?_
 refine veM [6, 7] 2 141 [(0, .ptr 0 0 0), (1, A a1), (2, I a2), (6, .ptr 1 0 0), (7, .ptr 2 1 0), (8, A v5.fColumns), (9, I x80)] [sc 0 v95.2, some ⟨0, Enc.cells (T_impl_Bond.mk 0 0 [] 0 [] false [])⟩, some ⟨1, [I ({ x82 with fOf := v89.1 }.fKind), I ({ x82 with fOf := v89.1 }.fIn), .ref 5 0 0 1 ([v91.1] : List Int).length false, I ({ x82 with fOf := v89.1 }.fOf), .ref 6 0 0 1 ([v95.1] : List Int).length false, B ({ x82 with fOf := v89.1 }.fFollow), .arr 5 0 (eL ([] : List T_impl_Part)) true]⟩, sl 0 x83, sl 0 x84, some ⟨0, eL ([v91.1] : List Int)⟩, some ⟨0, eL ([v95.1] : List Int)⟩] ?_
 refine rveM [6, 7] 141 [(0, .ptr 0 0 0), (1, A a1), (2, I a2), (6, .ptr 1 0 0), (7, .ptr 2 1 0), (8, A v5.fColumns), (9, I (w64 (x80 + 1)))] [sc 0 v95.2, some ⟨0, Enc.cells (T_impl_Bond.mk 0 0 [] 0 [] false [])⟩, some ⟨1, [I ({ x82 with fOf := v89.1 }.fKind), I ({ x82 with fOf := v89.1 }.fIn), .ref 5 0 0 1 ([v91.1] : List Int).length false, I ({ x82 with fOf := v89.1 }.fOf), .ref 6 0 0 1 ([v95.1] : List Int).length false, B ({ x82 with fOf := v89.1 }.fFollow), .arr 5 0 (eL ([] : List T_impl_Part)) true]⟩, sl 0 x83, sl 0 x84, some ⟨0, eL ([v91.1] : List Int)⟩, some ⟨0, eL ([v95.1] : List Int)⟩] ?_
 exact ⟨(f85, (w64 (x80 + 1)), v95.2, { x82 with fOf := v89.1 }, ([v91.1] : List Int), ([v95.1] : List Int)), h, Nat.lt_succ_self _, qt (it (st' := ⟨141, [(0, .ptr 0 0 0), (1, A a1), (2, I a2), (6, .ptr 1 0 0), (7, .ptr 2 1 0), (8, A v5.fColumns), (9, I (w64 (x80 + 1)))], [sc 0 v95.2, some ⟨0, Enc.cells (T_impl_Bond.mk 0 0 [] 0 [] false [])⟩, some ⟨1, [I ({ x82 with fOf := v89.1 }.fKind), I ({ x82 with fOf := v89.1 }.fIn), .ref 5 0 0 1 ([v91.1] : List Int).length false, I ({ x82 with fOf := v89.1 }.fOf), .ref 6 0 0 1 ([v95.1] : List Int).length false, B ({ x82 with fOf := v89.1 }.fFollow), .arr 5 0 (eL ([] : List T_impl_Part)) true]⟩, sl 0 x83, sl 0 x84, some ⟨0, eL ([v91.1] : List Int)⟩, some ⟨0, eL ([v95.1] : List Int)⟩]⟩) [0, 1, 2, 6, 7, 8, 9]) (qt (Imp.hideS (st' := ⟨141, [(0, .ptr 0 0 0), (1, A a1), (2, I a2), (6, .ptr 1 0 0), (7, .ptr 2 1 0), (8, A v5.fColumns), (9, I (w64 (x80 + 1)))], [sc 0 v95.2, some ⟨0, Enc.cells (T_impl_Bond.mk 0 0 [] 0 [] false [])⟩, some ⟨1, [I ({ x82 with fOf := v89.1 }.fKind), I ({ x82 with fOf := v89.1 }.fIn), .ref 5 0 0 1 ([v91.1] : List Int).length false, I ({ x82 with fOf := v89.1 }.fOf), .ref 6 0 0 1 ([v95.1] : List Int).length false, B ({ x82 with fOf := v89.1 }.fFollow), .arr 5 0 (eL ([] : List T_impl_Part)) true]⟩, none, sl 0 x84, some ⟨0, eL ([v91.1] : List Int)⟩, some ⟨0, eL ([v95.1] : List Int)⟩]⟩) 3 (pn hQ) (by kernel_rfl)) (qt (Imp.mvB (cs := eL ([v91.1] : List Int)) (st' := ⟨141, [(0, .ptr 0 0 0), (1, A a1), (2, I a2), (6, .ptr 1 0 0), (7, .ptr 2 1 0), (8, A v5.fColumns), (9, I (w64 (x80 + 1)))], [sc 0 v95.2, some ⟨0, Enc.cells (T_impl_Bond.mk 0 0 [] 0 [] false [])⟩, some ⟨1, [I ({ x82 with fOf := v89.1 }.fKind), I ({ x82 with fOf := v89.1 }.fIn), .ref 3 0 0 1 ([v91.1] : List Int).length false, I ({ x82 with fOf := v89.1 }.fOf), .ref 6 0 0 1 ([v95.1] : List Int).length false, B ({ x82 with fOf := v89.1 }.fFollow), .arr 5 0 (eL ([] : List T_impl_Part)) true]⟩, some ⟨0, eL ([v91.1] : List Int)⟩, sl 0 x84, none, some ⟨0, eL ([v95.1] : List Int)⟩]⟩) 5 3 0 (pn2 hQ) (by kernel_rfl) (qu_of_frzL (eL_frz _)) (by kernel_rfl) (by kernel_rfl) (by kernel_rfl) (HpRel.frz rfl (Enc.frz _) (HpRel.frz rfl (Enc.frz _) (HpRel.box rfl (CellRel.cons ⟨rfl, rfl, rfl⟩ (CellRel.cons ⟨rfl, rfl, rfl⟩ (CellRel.cons ⟨rfl, rfl, rfl⟩ (CellRel.cons ⟨rfl, rfl, rfl⟩ (CellRel.cons ⟨rfl, rfl, rfl⟩ (CellRel.cons ⟨rfl, rfl, rfl⟩ (CellRel.cons ⟨rfl, rfl, rfl⟩ CellRel.nil))))))) (HpRel.none rfl (HpRel.frz rfl (eL_frz _) (HpRel.key (HpRel.frz rfl (eL_frz _) HpRel.nil))))))) (by kernel_rfl) (by kernel_rfl) (by rfl) (p01 hQ)) (qt (Imp.hideS (st' := ⟨141, [(0, .ptr 0 0 0), (1, A a1), (2, I a2), (6, .ptr 1 0 0), (7, .ptr 2 1 0), (8, A v5.fColumns), (9, I (w64 (x80 + 1)))], [sc 0 v95.2, some ⟨0, Enc.cells (T_impl_Bond.mk 0 0 [] 0 [] false [])⟩, some ⟨1, [I ({ x82 with fOf := v89.1 }.fKind), I ({ x82 with fOf := v89.1 }.fIn), .ref 3 0 0 1 ([v91.1] : List Int).length false, I ({ x82 with fOf := v89.1 }.fOf), .ref 6 0 0 1 ([v95.1] : List Int).length false, B ({ x82 with fOf := v89.1 }.fFollow), .arr 5 0 (eL ([] : List T_impl_Part)) true]⟩, some ⟨0, eL ([v91.1] : List Int)⟩, none, none, some ⟨0, eL ([v95.1] : List Int)⟩]⟩) 4 (pn hQ) (by kernel_rfl)) (qt (Imp.mvB (cs := eL ([v95.1] : List Int)) (st' := ⟨141, [(0, .ptr 0 0 0), (1, A a1), (2, I a2), (6, .ptr 1 0 0), (7, .ptr 2 1 0), (8, A v5.fColumns), (9, I (w64 (x80 + 1)))], [sc 0 v95.2, some ⟨0, Enc.cells (T_impl_Bond.mk 0 0 [] 0 [] false [])⟩, some ⟨1, [I ({ x82 with fOf := v89.1 }.fKind), I ({ x82 with fOf := v89.1 }.fIn), .ref 3 0 0 1 ([v91.1] : List Int).length false, I ({ x82 with fOf := v89.1 }.fOf), .ref 4 0 0 1 ([v95.1] : List Int).length false, B ({ x82 with fOf := v89.1 }.fFollow), .arr 5 0 (eL ([] : List T_impl_Part)) true]⟩, some ⟨0, eL ([v91.1] : List Int)⟩, some ⟨0, eL ([v95.1] : List Int)⟩, none, none]⟩) 6 4 0 (pn2 hQ) (by kernel_rfl) (qu_of_frzL (eL_frz _)) (by kernel_rfl) (by kernel_rfl) (by kernel_rfl) (HpRel.frz rfl (Enc.frz _) (HpRel.frz rfl (Enc.frz _) (HpRel.box rfl (CellRel.cons ⟨rfl, rfl, rfl⟩ (CellRel.cons ⟨rfl, rfl, rfl⟩ (CellRel.cons ⟨rfl, rfl, rfl⟩ (CellRel.cons ⟨rfl, rfl, rfl⟩ (CellRel.cons ⟨rfl, rfl, rfl⟩ (CellRel.cons ⟨rfl, rfl, rfl⟩ (CellRel.cons ⟨rfl, rfl, rfl⟩ CellRel.nil))))))) (HpRel.frz rfl (eL_frz _) (HpRel.none rfl (HpRel.none rfl (HpRel.key HpRel.nil))))))) (by kernel_rfl) (by kernel_rfl) (by rfl) (p01 hQ)) (Imp.truncS 5 (pl hQ) (by kernel_rfl) (allBelow_mem (by exact (And.intro rfl (And.intro rfl (And.intro rfl (And.intro rfl (And.intro rfl (And.intro rfl (And.intro rfl trivial))))))))) (by exact (And.intro (rfl) (And.intro (rfl) (And.intro (rfl) (And.intro (frz_below (eL_frz _)) (And.intro (frz_below (eL_frz _)) trivial)))))) (by kernel_rfl))))))⟩
 refine pwp_skip ?_
 refine rveM [6, 7] 141 [(0, .ptr 0 0 0), (1, A a1), (2, I a2), (6, .ptr 1 0 0), (7, .ptr 2 1 0), (8, A v5.fColumns), (9, I (w64 (x80 + 1)))] [sc 0 v95.2, some ⟨0, Enc.cells (T_impl_Bond.mk 0 0 [] 0 [] false [])⟩, some ⟨1, [I ({ x82 with fOf := v89.1 }.fKind), I ({ x82 with fOf := v89.1 }.fIn), rf 3 0 1 x83, I ({ x82 with fOf := v89.1 }.fOf), rf 4 0 1 x84, B ({ x82 with fOf := v89.1 }.fFollow), .arr 5 0 (eL ([] : List T_impl_Part)) true]⟩, sl 0 x83, sl 0 x84] ?_
 exact ⟨(f85, (w64 (x80 + 1)), v95.2, { x82 with fOf := v89.1 }, x83, x84), h, Nat.lt_succ_self _, it [0, 1, 2, 6, 7, 8, 9]⟩
 refine pwp_exit ?_
 refine rvM [6, 7] 1 141 [(0, .ptr 0 0 0), (2, I a2), (6, .ptr 1 0 0), (7, .ptr 2 1 0), (106, .ptr 0 0 0)] [sc 0 x81, some ⟨0, Enc.cells (T_impl_Bond.mk 0 0 [] 0 [] false [])⟩, some ⟨1, [I x82.fKind, I x82.fIn, rf 3 0 1 x83, I x82.fOf, rf 4 0 1 x84, B x82.fFollow, .arr 5 0 (eL ([] : List T_impl_Part)) true]⟩, sl 0 x83, sl 0 x84] ?_
 obtain ⟨v104, hv105, h⟩ := bindS h
 refine cB 107 0 0 (ok_spec_l20Rd_pick hv105) ?_
 refine veM [6, 7] 3 141 [(0, .ptr 0 0 0), (2, I a2), (6, .ptr 1 0 0), (7, .ptr 2 1 0)] [sc 0 v104.2, some ⟨0, Enc.cells (T_impl_Bond.mk 0 0 [] 0 [] false [])⟩, some ⟨1, [I ({ x82 with fFollow := (v104.1 == 0) }.fKind), I ({ x82 with fFollow := (v104.1 == 0) }.fIn), rf 3 0 1 x83, I ({ x82 with fFollow := (v104.1 == 0) }.fOf), rf 4 0 1 x84, B ({ x82 with fFollow := (v104.1 == 0) }.fFollow), .arr 5 0 (eL ([] : List T_impl_Part)) true]⟩, sl 0 x83, sl 0 x84] ?_
 refine pwp_seq ?_
 refine pwp_join (σ := T_spec_l20Rd × T_impl_Bond × (List Int)) (fun (x106, x107, x108) => (⟨141, [(6, .ptr 1 0 0), (7, .ptr 2 1 0)], [sc 0 x106, some ⟨0, Enc.cells (T_impl_Bond.mk 0 0 [] 0 [] false [])⟩, some ⟨1, [I x107.fKind, I x107.fIn, rf 3 0 1 x108, I x107.fOf, rf 4 0 1 x84, B x107.fFollow, .arr 5 0 (eL ([] : List T_impl_Part)) true]⟩, sl 0 x108, sl 0 x84]⟩ : St)) (fun (x106, x107, x108) => spec_l20Bond_j4 x84 x106 x107 x108 = some y) ?_ ?_
 refine srvM [6, 7] 2 141 [(0, .ptr 0 0 0), (6, .ptr 1 0 0), (7, .ptr 2 1 0), (110, .ptr 0 0 0), (111, I a2)] [sc 0 v104.2, some ⟨0, Enc.cells (T_impl_Bond.mk 0 0 [] 0 [] false [])⟩, some ⟨1, [I ({ x82 with fFollow := (v104.1 == 0) }.fKind), I ({ x82 with fFollow := (v104.1 == 0) }.fIn), rf 3 0 1 x83, I ({ x82 with fFollow := (v104.1 == 0) }.fOf), rf 4 0 1 x84, B ({ x82 with fFollow := (v104.1 == 0) }.fFollow), .arr 5 0 (eL ([] : List T_impl_Part)) true]⟩, sl 0 x83, sl 0 x84] ?_
 obtain ⟨v109, hv110, h⟩ := bindS h
 refine cB 112 0 0 (ok_spec_l20Rd_odd hv110) ?_
 refine veM [6, 7] 0 141 [(0, .ptr 0 0 0), (6, .ptr 1 0 0), (7, .ptr 2 1 0), (112, B v109.1)] [sc 0 v109.2, some ⟨0, Enc.cells (T_impl_Bond.mk 0 0 [] 0 [] false [])⟩, some ⟨1, [I ({ x82 with fFollow := (v104.1 == 0) }.fKind), I ({ x82 with fFollow := (v104.1 == 0) }.fIn), rf 3 0 1 x83, I ({ x82 with fFollow := (v104.1 == 0) }.fOf), rf 4 0 1 x84, B ({ x82 with fFollow := (v104.1 == 0) }.fFollow), .arr 5 0 (eL ([] : List T_impl_Part)) true]⟩, sl 0 x83, sl 0 x84] ?_
 refine pc h (fun h => ?_) (fun h => ?_)
 refine srvM [6, 7] 1 141 [(0, .ptr 0 0 0), (6, .ptr 1 0 0), (7, .ptr 2 1 0), (113, .ptr 0 0 0)] [sc 0 v109.2, some ⟨0, Enc.cells (T_impl_Bond.mk 0 0 [] 0 [] false [])⟩, some ⟨1, [I ({ x82 with fFollow := (v104.1 == 0) }.fKind), I ({ x82 with fFollow := (v104.1 == 0) }.fIn), rf 3 0 1 x83, I ({ x82 with fFollow := (v104.1 == 0) }.fOf), rf 4 0 1 x84, B ({ x82 with fFollow := (v104.1 == 0) }.fFollow), .arr 5 0 (eL ([] : List T_impl_Part)) true]⟩, sl 0 x83, sl 0 x84] ?_
 obtain ⟨v112, hv113, h⟩ := bindS h
 refine cB 114 0 0 (ok_spec_l20Rd_pick hv113) ?_
 refine veM [6, 7] 0 141 [(0, .ptr 0 0 0), (6, .ptr 1 0 0), (7, .ptr 2 1 0), (114, I v112.1)] [sc 0 v112.2, some ⟨0, Enc.cells (T_impl_Bond.mk 0 0 [] 0 [] false [])⟩, some ⟨1, [I ({ x82 with fFollow := (v104.1 == 0) }.fKind), I ({ x82 with fFollow := (v104.1 == 0) }.fIn), rf 3 0 1 x83, I ({ x82 with fFollow := (v104.1 == 0) }.fOf), rf 4 0 1 x84, B ({ x82 with fFollow := (v104.1 == 0) }.fFollow), .arr 5 0 (eL ([] : List T_impl_Part)) true]⟩, sl 0 x83, sl 0 x84] ?_
 refine pwp_block ?_
 refine srveM [6, 7] 141 [(0, .ptr 0 0 0), (6, .ptr 1 0 0), (7, .ptr 2 1 0), (114, I v112.1), (119, B (v112.1 == 0))] [sc 0 v112.2, some ⟨0, Enc.cells (T_impl_Bond.mk 0 0 [] 0 [] false [])⟩, some ⟨1, [I ({ x82 with fFollow := (v104.1 == 0) }.fKind), I ({ x82 with fFollow := (v104.1 == 0) }.fIn), rf 3 0 1 x83, I ({ x82 with fFollow := (v104.1 == 0) }.fOf), rf 4 0 1 x84, B ({ x82 with fFollow := (v104.1 == 0) }.fFollow), .arr 5 0 (eL ([] : List T_impl_Part)) true]⟩, sl 0 x83, sl 0 x84] ?_
 refine pc h (fun h => ?_) (fun h => ?_)
 refine rvM [6, 7] 1 141 [(6, .ptr 1 0 0), (7, .ptr 2 1 0), (121, .ptr 0 0 0)] [sc 0 v112.2, some ⟨0, Enc.cells (T_impl_Bond.mk 0 0 [] 0 [] false [])⟩, some ⟨1, [I ({ x82 with fFollow := (v104.1 == 0) }.fKind), I ({ x82 with fFollow := (v104.1 == 0) }.fIn), rf 3 0 1 x83, I ({ x82 with fFollow := (v104.1 == 0) }.fOf), rf 4 0 1 x84, B ({ x82 with fFollow := (v104.1 == 0) }.fFollow), .arr 5 0 (eL ([] : List T_impl_Part)) true]⟩, sl 0 x83, sl 0 x84] ?_
 obtain ⟨v115, hv116, h⟩ := bindS h
 refine cB 122 0 0 (ok_spec_l20Rd_pick hv116) ?_
 refine veM [6, 7] 3 141 [(6, .ptr 1 0 0), (7, .ptr 2 1 0)] [sc 0 v115.2, some ⟨0, Enc.cells (T_impl_Bond.mk 0 0 [] 0 [] false [])⟩, some ⟨1, [I ({ (({ x82 with fFollow := (v104.1 == 0) }) : T_impl_Bond) with fIn := (w64 (v115.1 - 1)) }.fKind), I ({ (({ x82 with fFollow := (v104.1 == 0) }) : T_impl_Bond) with fIn := (w64 (v115.1 - 1)) }.fIn), rf 3 0 1 x83, I ({ (({ x82 with fFollow := (v104.1 == 0) }) : T_impl_Bond) with fIn := (w64 (v115.1 - 1)) }.fOf), rf 4 0 1 x84, B ({ (({ x82 with fFollow := (v104.1 == 0) }) : T_impl_Bond) with fIn := (w64 (v115.1 - 1)) }.fFollow), .arr 5 0 (eL ([] : List T_impl_Part)) true]⟩, sl 0 x83, sl 0 x84] ?_
 exact ⟨(v115.2, { (({ x82 with fFollow := (v104.1 == 0) }) : T_impl_Bond) with fIn := (w64 (v115.1 - 1)) }, x83), h, it [6, 7]⟩
 refine srveM [6, 7] 141 [(0, .ptr 0 0 0), (6, .ptr 1 0 0), (7, .ptr 2 1 0), (114, I v112.1), (125, B (v112.1 == 1))] [sc 0 v112.2, some ⟨0, Enc.cells (T_impl_Bond.mk 0 0 [] 0 [] false [])⟩, some ⟨1, [I ({ x82 with fFollow := (v104.1 == 0) }.fKind), I ({ x82 with fFollow := (v104.1 == 0) }.fIn), rf 3 0 1 x83, I ({ x82 with fFollow := (v104.1 == 0) }.fOf), rf 4 0 1 x84, B ({ x82 with fFollow := (v104.1 == 0) }.fFollow), .arr 5 0 (eL ([] : List T_impl_Part)) true]⟩, sl 0 x83, sl 0 x84] ?_
 refine pc h (fun h => ?_) (fun h => ?_)
 refine rvM [6, 7] 1 141 [(6, .ptr 1 0 0), (7, .ptr 2 1 0), (127, .ptr 0 0 0)] [sc 0 v112.2, some ⟨0, Enc.cells (T_impl_Bond.mk 0 0 [] 0 [] false [])⟩, some ⟨1, [I ({ x82 with fFollow := (v104.1 == 0) }.fKind), I ({ x82 with fFollow := (v104.1 == 0) }.fIn), rf 3 0 1 x83, I ({ x82 with fFollow := (v104.1 == 0) }.fOf), rf 4 0 1 x84, B ({ x82 with fFollow := (v104.1 == 0) }.fFollow), .arr 5 0 (eL ([] : List T_impl_Part)) true]⟩, sl 0 x83, sl 0 x84] ?_
 obtain ⟨v118, hv119, h⟩ := bindS h
 refine cB 128 0 0 (ok_spec_l20Rd_pick hv119) ?_
 refine veM [6, 7] 2 141 [(6, .ptr 1 0 0), (7, .ptr 2 1 0)] [sc 0 v118.2, some ⟨0, Enc.cells (T_impl_Bond.mk 0 0 [] 0 [] false [])⟩, some ⟨1, [I ({ (({ x82 with fFollow := (v104.1 == 0) }) : T_impl_Bond) with fKind := v118.1 }.fKind), I ({ (({ x82 with fFollow := (v104.1 == 0) }) : T_impl_Bond) with fKind := v118.1 }.fIn), rf 3 0 1 x83, I ({ (({ x82 with fFollow := (v104.1 == 0) }) : T_impl_Bond) with fKind := v118.1 }.fOf), rf 4 0 1 x84, B ({ (({ x82 with fFollow := (v104.1 == 0) }) : T_impl_Bond) with fKind := v118.1 }.fFollow), .arr 5 0 (eL ([] : List T_impl_Part)) true]⟩, sl 0 x83, sl 0 x84] ?_
 exact ⟨(v118.2, { (({ x82 with fFollow := (v104.1 == 0) }) : T_impl_Bond) with fKind := v118.1 }, x83), h, it [6, 7]⟩
 refine srveM [6, 7] 141 [(0, .ptr 0 0 0), (6, .ptr 1 0 0), (7, .ptr 2 1 0), (130, B (v112.1 == 2))] [sc 0 v112.2, some ⟨0, Enc.cells (T_impl_Bond.mk 0 0 [] 0 [] false [])⟩, some ⟨1, [I ({ x82 with fFollow := (v104.1 == 0) }.fKind), I ({ x82 with fFollow := (v104.1 == 0) }.fIn), rf 3 0 1 x83, I ({ x82 with fFollow := (v104.1 == 0) }.fOf), rf 4 0 1 x84, B ({ x82 with fFollow := (v104.1 == 0) }.fFollow), .arr 5 0 (eL ([] : List T_impl_Part)) true]⟩, sl 0 x83, sl 0 x84] ?_
 refine pc h (fun h => ?_) (fun h => ?_)
 refine ip 141 [(0, .ptr 0 0 0), (6, .ptr 1 0 0), (7, .ptr 2 1 0)] [sc 0 v112.2, some ⟨0, Enc.cells (T_impl_Bond.mk 0 0 [] 0 [] false [])⟩, some ⟨1, [I ({ x82 with fFollow := (v104.1 == 0) }.fKind), I ({ x82 with fFollow := (v104.1 == 0) }.fIn), rf 3 0 1 x83, I ({ x82 with fFollow := (v104.1 == 0) }.fOf), rf 4 0 1 x84, B ({ x82 with fFollow := (v104.1 == 0) }.fFollow), .arr 5 0 (eL ([] : List T_impl_Part)) true]⟩, sl 0 x83, sl 0 x84] ?_
 refine pwp_any ([[2, 3, 4], [2, 3, 4], [0], [0], [], [], [3], [2, 3, 4], [2, 3, 4]]) ([[], [], [], [0], [], [], [3], [], [2]]) rfl (by kernel_rfl) ?_
 refine qvM [6, 7] [2, 3, 4] (hR (hL (hL trivial))) 2 141 [(133, rf 3 0 1 x83), (0, .ptr 0 0 0), (6, .ptr 1 0 0), (7, .ptr 2 1 0)] [sc 0 v112.2, some ⟨0, Enc.cells (T_impl_Bond.mk 0 0 [] 0 [] false [])⟩, some ⟨1, [I ({ x82 with fFollow := (v104.1 == 0) }.fKind), I ({ x82 with fFollow := (v104.1 == 0) }.fIn), rf 3 0 1 x83, I ({ x82 with fFollow := (v104.1 == 0) }.fOf), rf 4 0 1 x84, B ({ x82 with fFollow := (v104.1 == 0) }.fFollow), .arr 5 0 (eL ([] : List T_impl_Part)) true]⟩, sl 0 x83, sl 0 x84] ?_
 refine qvM [6, 7] [0] (hB trivial) 1 141 [(134, .ptr 0 0 0), (133, rf 3 0 1 x83), (6, .ptr 1 0 0), (7, .ptr 2 1 0)] [sc 0 v112.2, some ⟨0, Enc.cells (T_impl_Bond.mk 0 0 [] 0 [] false [])⟩, some ⟨1, [I ({ x82 with fFollow := (v104.1 == 0) }.fKind), I ({ x82 with fFollow := (v104.1 == 0) }.fIn), rf 3 0 1 x83, I ({ x82 with fFollow := (v104.1 == 0) }.fOf), rf 4 0 1 x84, B ({ x82 with fFollow := (v104.1 == 0) }.fFollow), .arr 5 0 (eL ([] : List T_impl_Part)) true]⟩, sl 0 x83, sl 0 x84] ?_
 obtain ⟨v121, hv122, h⟩ := bindS h
 refine qX (some 135) (I v121.1) 141 [(135, I v121.1), (133, rf 3 0 1 x83), (6, .ptr 1 0 0), (7, .ptr 2 1 0)] [sc 0 v121.2, some ⟨0, Enc.cells (T_impl_Bond.mk 0 0 [] 0 [] false [])⟩, some ⟨1, [I ({ x82 with fFollow := (v104.1 == 0) }.fKind), I ({ x82 with fFollow := (v104.1 == 0) }.fIn), rf 3 0 1 x83, I ({ x82 with fFollow := (v104.1 == 0) }.fOf), rf 4 0 1 x84, B ({ x82 with fFollow := (v104.1 == 0) }.fFollow), .arr 5 0 (eL ([] : List T_impl_Part)) true]⟩, sl 0 x83, sl 0 x84] (fun Γ' hΓ => callB_E τ 135 0 0 (ok_spec_l20Rd_pick hv122) (FzTo.frz rfl) rfl (by kernel_rfl)) (hB trivial) ?_
 refine qvM [6, 7] [] trivial 2 141 [(137, .arr 1 ([(w64 (v121.1 - 1))] : List Int).length (eL ([(w64 (v121.1 - 1))] : List Int)) true), (133, rf 3 0 1 x83), (6, .ptr 1 0 0), (7, .ptr 2 1 0)] [sc 0 v121.2, some ⟨0, Enc.cells (T_impl_Bond.mk 0 0 [] 0 [] false [])⟩, some ⟨1, [I ({ x82 with fFollow := (v104.1 == 0) }.fKind), I ({ x82 with fFollow := (v104.1 == 0) }.fIn), rf 3 0 1 x83, I ({ x82 with fFollow := (v104.1 == 0) }.fOf), rf 4 0 1 x84, B ({ x82 with fFollow := (v104.1 == 0) }.fFollow), .arr 5 0 (eL ([] : List T_impl_Part)) true]⟩, sl 0 x83, sl 0 x84] ?_
 obtain ⟨v123, hv124, h⟩ := bindS h
 refine qX (some 138) (rf 3 1 1 v123) 141 [(138, rf 3 1 1 v123), (6, .ptr 1 0 0), (7, .ptr 2 1 0)] [sc 0 v121.2, some ⟨0, Enc.cells (T_impl_Bond.mk 0 0 [] 0 [] false [])⟩, some ⟨1, [I ({ x82 with fFollow := (v104.1 == 0) }.fKind), I ({ x82 with fFollow := (v104.1 == 0) }.fIn), rf 3 0 1 x83, I ({ x82 with fFollow := (v104.1 == 0) }.fOf), rf 4 0 1 x84, B ({ x82 with fFollow := (v104.1 == 0) }.fFollow), .arr 5 0 (eL ([] : List T_impl_Part)) true]⟩, sl 1 v123, sl 0 x84] (fun Γ' hΓ => app_Ew τ_ok 138 3 0 (by first | exact py hΓ hQ | exact pky hΓ hQ) hv124 (by kernel_rfl)) (hL trivial) ?_
 refine qvM [6, 7] [2, 3, 4] (hR (hL (hL trivial))) 1 141 [(139, .ptr 2 1 2), (138, rf 3 1 1 v123), (6, .ptr 1 0 0), (7, .ptr 2 1 0)] [sc 0 v121.2, some ⟨0, Enc.cells (T_impl_Bond.mk 0 0 [] 0 [] false [])⟩, some ⟨1, [I ({ x82 with fFollow := (v104.1 == 0) }.fKind), I ({ x82 with fFollow := (v104.1 == 0) }.fIn), rf 3 0 1 x83, I ({ x82 with fFollow := (v104.1 == 0) }.fOf), rf 4 0 1 x84, B ({ x82 with fFollow := (v104.1 == 0) }.fFollow), .arr 5 0 (eL ([] : List T_impl_Part)) true]⟩, sl 1 v123, sl 0 x84] ?_
 refine qX (Hm' := [none, none, some ⟨1, [I ({ x82 with fFollow := (v104.1 == 0) }.fKind), I ({ x82 with fFollow := (v104.1 == 0) }.fIn), rf 3 1 1 v123, I ({ x82 with fFollow := (v104.1 == 0) }.fOf), rf 4 0 1 x84, B ({ x82 with fFollow := (v104.1 == 0) }.fFollow), .arr 5 0 (eL ([] : List T_impl_Part)) true]⟩, sl 1 v123, sl 0 x84]) none (.any) 141 [(6, .ptr 1 0 0), (7, .ptr 2 1 0)] [sc 0 v121.2, some ⟨0, Enc.cells (T_impl_Bond.mk 0 0 [] 0 [] false [])⟩, some ⟨1, [I ({ x82 with fFollow := (v104.1 == 0) }.fKind), I ({ x82 with fFollow := (v104.1 == 0) }.fIn), rf 3 1 1 v123, I ({ x82 with fFollow := (v104.1 == 0) }.fOf), rf 4 0 1 x84, B ({ x82 with fFollow := (v104.1 == 0) }.fFollow), .arr 5 0 (eL ([] : List T_impl_Part)) true]⟩, sl 1 v123, sl 0 x84] (fun Γ' hΓ => sto_E τ_ok 2 1 (by kernel_rfl)) (hR (hL (hL trivial))) ?_
 refine qn 141 [(6, .ptr 1 0 0), (7, .ptr 2 1 0)] [sc 0 v121.2, some ⟨0, Enc.cells (T_impl_Bond.mk 0 0 [] 0 [] false [])⟩, some ⟨1, [I ({ x82 with fFollow := (v104.1 == 0) }.fKind), I ({ x82 with fFollow := (v104.1 == 0) }.fIn), rf 3 1 1 v123, I ({ x82 with fFollow := (v104.1 == 0) }.fOf), rf 4 0 1 x84, B ({ x82 with fFollow := (v104.1 == 0) }.fFollow), .arr 5 0 (eL ([] : List T_impl_Part)) true]⟩, sl 1 v123, sl 0 x84] ?_
 exact ⟨(v121.2, { x82 with fFollow := (v104.1 == 0) }, v123), h, qt (it (st' := ⟨141, [(6, .ptr 1 0 0), (7, .ptr 2 1 0)], [sc 0 v121.2, some ⟨0, Enc.cells (T_impl_Bond.mk 0 0 [] 0 [] false [])⟩, some ⟨1, [I ({ x82 with fFollow := (v104.1 == 0) }.fKind), I ({ x82 with fFollow := (v104.1 == 0) }.fIn), rf 3 1 1 v123, I ({ x82 with fFollow := (v104.1 == 0) }.fOf), rf 4 0 1 x84, B ({ x82 with fFollow := (v104.1 == 0) }.fFollow), .arr 5 0 (eL ([] : List T_impl_Part)) true]⟩, sl 1 v123, sl 0 x84]⟩) [6, 7]) (qt (Imp.reverB (cs := eL v123) (st' := ⟨141, [(6, .ptr 1 0 0), (7, .ptr 2 1 0)], [sc 0 v121.2, some ⟨0, Enc.cells (T_impl_Bond.mk 0 0 [] 0 [] false [])⟩, some ⟨1, [I ({ x82 with fFollow := (v104.1 == 0) }.fKind), I ({ x82 with fFollow := (v104.1 == 0) }.fIn), rf 3 0 1 v123, I ({ x82 with fFollow := (v104.1 == 0) }.fOf), rf 4 0 1 x84, B ({ x82 with fFollow := (v104.1 == 0) }.fFollow), .arr 5 0 (eL ([] : List T_impl_Part)) true]⟩, sl 0 v123, sl 0 x84]⟩) 3 1 (by kernel_rfl) (qu_of_frzL (eL_frz _)) (HpRel.frz rfl (Enc.frz _) (HpRel.frz rfl (Enc.frz _) (HpRel.box rfl (CellRel.cons ⟨rfl, rfl⟩ (CellRel.cons ⟨rfl, rfl⟩ (CellRel.cons ⟨rfl, rfl⟩ (CellRel.cons ⟨rfl, rfl⟩ (CellRel.cons ⟨rfl, rfl⟩ (CellRel.cons ⟨rfl, rfl⟩ (CellRel.cons ⟨rfl, rfl⟩ CellRel.nil))))))) (HpRel.key (HpRel.frz rfl (eL_frz _) HpRel.nil))))) (by kernel_rfl) (by rfl) (p01 hQ)) (it [6, 7]))⟩
 refine rveM [6, 7] 141 [(6, .ptr 1 0 0), (7, .ptr 2 1 0)] [sc 0 v112.2, some ⟨0, Enc.cells (T_impl_Bond.mk 0 0 [] 0 [] false [])⟩, some ⟨1, [I ({ (({ x82 with fFollow := (v104.1 == 0) }) : T_impl_Bond) with fFollow := (!(({ x82 with fFollow := (v104.1 == 0) } : T_impl_Bond).fFollow)) }.fKind), I ({ (({ x82 with fFollow := (v104.1 == 0) }) : T_impl_Bond) with fFollow := (!(({ x82 with fFollow := (v104.1 == 0) } : T_impl_Bond).fFollow)) }.fIn), rf 3 0 1 x83, I ({ (({ x82 with fFollow := (v104.1 == 0) }) : T_impl_Bond) with fFollow := (!(({ x82 with fFollow := (v104.1 == 0) } : T_impl_Bond).fFollow)) }.fOf), rf 4 0 1 x84, B ({ (({ x82 with fFollow := (v104.1 == 0) }) : T_impl_Bond) with fFollow := (!(({ x82 with fFollow := (v104.1 == 0) } : T_impl_Bond).fFollow)) }.fFollow), .arr 5 0 (eL ([] : List T_impl_Part)) true]⟩, sl 0 x83, sl 0 x84] ?_
 exact ⟨(v112.2, { (({ x82 with fFollow := (v104.1 == 0) }) : T_impl_Bond) with fFollow := (!(({ x82 with fFollow := (v104.1 == 0) } : T_impl_Bond).fFollow)) }, x83), h, it [6, 7]⟩
 refine pwp_skip ?_
 exact ⟨(v109.2, { x82 with fFollow := (v104.1 == 0) }, x83), h, it [6, 7]⟩
 rintro ⟨x106, x107, x108⟩ h
 dsimp only at h ⊢
 unfold spec_l20Bond_j4 at h
 refine srvM [6, 7] 1 141 [(6, .ptr 1 0 0), (140, .agg [I x107.fKind, I x107.fIn, rf 3 0 1 x108, I x107.fOf, rf 4 0 1 x84, B x107.fFollow, .arr 5 0 (eL ([] : List T_impl_Part)) true])] [sc 0 x106, some ⟨0, Enc.cells (T_impl_Bond.mk 0 0 [] 0 [] false [])⟩, some ⟨1, [I x107.fKind, I x107.fIn, rf 3 0 1 x108, I x107.fOf, rf 4 0 1 x84, B x107.fFollow, .arr 5 0 (eL ([] : List T_impl_Part)) true]⟩, sl 0 x108, sl 0 x84] ?_
 refine opsP_imp (Imp.freezeB (v := 0) (cs := eL x108) (st' := ⟨141, [(6, .ptr 1 0 0), (140, .agg [I ({ x107 with fList := x108 }.fKind), I ({ x107 with fList := x108 }.fIn), A ({ x107 with fList := x108 }.fList), I ({ x107 with fList := x108 }.fOf), rf 4 0 1 x84, B ({ x107 with fList := x108 }.fFollow), .arr 5 0 (eL ([] : List T_impl_Part)) true])], [sc 0 x106, some ⟨0, Enc.cells (T_impl_Bond.mk 0 0 [] 0 [] false [])⟩, some ⟨1, [I (({ x107 with fList := x108 } : T_impl_Bond).fKind), I (({ x107 with fList := x108 } : T_impl_Bond).fIn), A (({ x107 with fList := x108 } : T_impl_Bond).fList), I (({ x107 with fList := x108 } : T_impl_Bond).fOf), rf 4 0 1 x84, B (({ x107 with fList := x108 } : T_impl_Bond).fFollow), .arr 5 0 (eL ([] : List T_impl_Part)) true]⟩, none, sl 0 x84]⟩) 3 0 (pn hQ) (by kernel_rfl) (eL_frz _) (wholeC (whole_noRef (by kernel_rfl)) (wholeC (whole_agg (wholeL (whole_noRef (by kernel_rfl)) (wholeL (whole_noRef (by kernel_rfl)) (wholeL (whole_is (eL_len x108).symm) (wholeL (whole_noRef (by kernel_rfl)) (wholeL (whole_ne rfl) (wholeL (whole_noRef (by kernel_rfl)) (wholeL (whole_noRef (by kernel_rfl)) wholeL0)))))))) wholeC0)) (HpRel.frz rfl (Enc.frz _) (HpRel.frz rfl (Enc.frz _) (HpRel.box rfl (CellRel.cons ⟨rfl, trivial, rfl⟩ (CellRel.cons ⟨rfl, trivial, rfl⟩ (CellRel.cons ⟨rfl, (whole_is (eL_len x108).symm), rfl⟩ (CellRel.cons ⟨rfl, trivial, rfl⟩ (CellRel.cons ⟨rfl, (whole_ne rfl), rfl⟩ (CellRel.cons ⟨rfl, trivial, rfl⟩ (CellRel.cons ⟨rfl, trivial, rfl⟩ CellRel.nil))))))) (HpRel.key (HpRel.frz rfl (eL_frz _) HpRel.nil))))) (by kernel_rfl) rfl (p01 hQ)) ?_
 refine vM [6, 7] 0 141 [(6, .ptr 1 0 0), (140, .agg [I ({ x107 with fList := x108 }.fKind), I ({ x107 with fList := x108 }.fIn), A ({ x107 with fList := x108 }.fList), I ({ x107 with fList := x108 }.fOf), rf 4 0 1 x84, B ({ x107 with fList := x108 }.fFollow), .arr 5 0 (eL ([] : List T_impl_Part)) true])] [sc 0 x106, some ⟨0, Enc.cells (T_impl_Bond.mk 0 0 [] 0 [] false [])⟩, some ⟨1, [I (({ x107 with fList := x108 } : T_impl_Bond).fKind), I (({ x107 with fList := x108 } : T_impl_Bond).fIn), A (({ x107 with fList := x108 } : T_impl_Bond).fList), I (({ x107 with fList := x108 } : T_impl_Bond).fOf), rf 4 0 1 x84, B (({ x107 with fList := x108 } : T_impl_Bond).fFollow), .arr 5 0 (eL ([] : List T_impl_Part)) true]⟩, none, sl 0 x84] ?_
 refine opsP_imp (Imp.freezeB (v := 0) (cs := eL x84) (st' := ⟨141, [(6, .ptr 1 0 0), (140, .agg [I ({ (({ x107 with fList := x108 }) : T_impl_Bond) with fTo := x84 }.fKind), I ({ (({ x107 with fList := x108 }) : T_impl_Bond) with fTo := x84 }.fIn), A ({ (({ x107 with fList := x108 }) : T_impl_Bond) with fTo := x84 }.fList), I ({ (({ x107 with fList := x108 }) : T_impl_Bond) with fTo := x84 }.fOf), A ({ (({ x107 with fList := x108 }) : T_impl_Bond) with fTo := x84 }.fTo), B ({ (({ x107 with fList := x108 }) : T_impl_Bond) with fTo := x84 }.fFollow), .arr 5 0 (eL ([] : List T_impl_Part)) true])], [sc 0 x106, some ⟨0, Enc.cells (T_impl_Bond.mk 0 0 [] 0 [] false [])⟩, some ⟨1, [I (({ (({ x107 with fList := x108 } : T_impl_Bond) : T_impl_Bond) with fTo := x84 } : T_impl_Bond).fKind), I (({ (({ x107 with fList := x108 } : T_impl_Bond) : T_impl_Bond) with fTo := x84 } : T_impl_Bond).fIn), A (({ (({ x107 with fList := x108 } : T_impl_Bond) : T_impl_Bond) with fTo := x84 } : T_impl_Bond).fList), I (({ (({ x107 with fList := x108 } : T_impl_Bond) : T_impl_Bond) with fTo := x84 } : T_impl_Bond).fOf), A (({ (({ x107 with fList := x108 } : T_impl_Bond) : T_impl_Bond) with fTo := x84 } : T_impl_Bond).fTo), B (({ (({ x107 with fList := x108 } : T_impl_Bond) : T_impl_Bond) with fTo := x84 } : T_impl_Bond).fFollow), .arr 5 0 (eL ([] : List T_impl_Part)) true]⟩, none, none]⟩) 4 0 (pn hQ) (by kernel_rfl) (eL_frz _) (wholeC (whole_noRef (by kernel_rfl)) (wholeC (whole_agg (wholeL (whole_noRef (by kernel_rfl)) (wholeL (whole_noRef (by kernel_rfl)) (wholeL (whole_noRef (by kernel_rfl)) (wholeL (whole_noRef (by kernel_rfl)) (wholeL (whole_is (eL_len x84).symm) (wholeL (whole_noRef (by kernel_rfl)) (wholeL (whole_noRef (by kernel_rfl)) wholeL0)))))))) wholeC0)) (HpRel.frz rfl (Enc.frz _) (HpRel.frz rfl (Enc.frz _) (HpRel.box rfl (CellRel.cons ⟨rfl, trivial, rfl⟩ (CellRel.cons ⟨rfl, trivial, rfl⟩ (CellRel.cons ⟨rfl, trivial, rfl⟩ (CellRel.cons ⟨rfl, trivial, rfl⟩ (CellRel.cons ⟨rfl, (whole_is (eL_len x84).symm), rfl⟩ (CellRel.cons ⟨rfl, trivial, rfl⟩ (CellRel.cons ⟨rfl, trivial, rfl⟩ CellRel.nil))))))) (HpRel.none rfl (HpRel.key HpRel.nil))))) (by kernel_rfl) rfl (p01 hQ)) ?_
 refine vM [6, 7] 0 141 [(6, .ptr 1 0 0), (140, .agg [I ({ (({ x107 with fList := x108 }) : T_impl_Bond) with fTo := x84 }.fKind), I ({ (({ x107 with fList := x108 }) : T_impl_Bond) with fTo := x84 }.fIn), A ({ (({ x107 with fList := x108 }) : T_impl_Bond) with fTo := x84 }.fList), I ({ (({ x107 with fList := x108 }) : T_impl_Bond) with fTo := x84 }.fOf), A ({ (({ x107 with fList := x108 }) : T_impl_Bond) with fTo := x84 }.fTo), B ({ (({ x107 with fList := x108 }) : T_impl_Bond) with fTo := x84 }.fFollow), .arr 5 0 (eL ([] : List T_impl_Part)) true])] [sc 0 x106, some ⟨0, Enc.cells (T_impl_Bond.mk 0 0 [] 0 [] false [])⟩, some ⟨1, [I (({ (({ x107 with fList := x108 } : T_impl_Bond) : T_impl_Bond) with fTo := x84 } : T_impl_Bond).fKind), I (({ (({ x107 with fList := x108 } : T_impl_Bond) : T_impl_Bond) with fTo := x84 } : T_impl_Bond).fIn), A (({ (({ x107 with fList := x108 } : T_impl_Bond) : T_impl_Bond) with fTo := x84 } : T_impl_Bond).fList), I (({ (({ x107 with fList := x108 } : T_impl_Bond) : T_impl_Bond) with fTo := x84 } : T_impl_Bond).fOf), A (({ (({ x107 with fList := x108 } : T_impl_Bond) : T_impl_Bond) with fTo := x84 } : T_impl_Bond).fTo), B (({ (({ x107 with fList := x108 } : T_impl_Bond) : T_impl_Bond) with fTo := x84 } : T_impl_Bond).fFollow), .arr 5 0 (eL ([] : List T_impl_Part)) true]⟩, none, none] ?_
 refine opsP_imp (Imp.softB (st' := ⟨141, [(6, .ptr 1 0 0), (140, E ({ ({ (({ x107 with fList := x108 }) : T_impl_Bond) with fTo := x84 } : T_impl_Bond) with fE := [] } : T_impl_Bond))], [sc 0 x106, some ⟨0, Enc.cells (T_impl_Bond.mk 0 0 [] 0 [] false [])⟩, some ⟨1, Enc.cells ({ ({ (({ x107 with fList := x108 } : T_impl_Bond) : T_impl_Bond) with fTo := x84 } : T_impl_Bond) with fE := [] } : T_impl_Bond)⟩, none, none]⟩) 5 (by kernel_rfl) (HpRel.frz rfl (Enc.frz _) (HpRel.frz rfl (Enc.frz _) (HpRel.box rfl (CellRel.cons rfl (CellRel.cons rfl (CellRel.cons rfl (CellRel.cons rfl (CellRel.cons rfl (CellRel.cons rfl (CellRel.cons rfl CellRel.nil))))))) (HpRel.none rfl (HpRel.none rfl HpRel.nil))))) (by kernel_rfl) (by rfl) (p01 hQ)) ?_
 refine veM [6, 7] 1 141 [(6, .ptr 1 0 0)] [sc 0 x106, some ⟨0, Enc.cells ({ ({ (({ x107 with fList := x108 }) : T_impl_Bond) with fTo := x84 } : T_impl_Bond) with fE := [] } : T_impl_Bond)⟩, some ⟨1, Enc.cells ({ ({ (({ x107 with fList := x108 } : T_impl_Bond) : T_impl_Bond) with fTo := x84 } : T_impl_Bond) with fE := [] } : T_impl_Bond)⟩, none, none] ?_
 have h := si h
 subst h
 exact pwp_ret ⟨.inr rfl, E ({ ({ (({ x107 with fList := x108 }) : T_impl_Bond) with fTo := x84 } : T_impl_Bond) with fE := [] } : T_impl_Bond), _, 0, by kernel_rfl, (OutP.frz (by kernel_rfl)), by decide, by decide, by kernel_rfl⟩
 refine pwp_skip ?_
 refine pwp_seq ?_
 refine srvM [6, 7] 2 141 [(0, .ptr 0 0 0), (6, .ptr 1 0 0), (7, .ptr 2 1 0), (110, .ptr 0 0 0), (111, I a2)] [sc 0 v3.2, some ⟨0, Enc.cells (T_impl_Bond.mk 0 0 [] 0 [] false [])⟩, some ⟨1, [I (w64 (1 + v1.1)), I v3.1, .arr 1 0 (eL ([] : List Int)) true, I 0, .arr 1 0 (eL ([] : List Int)) true, B false, .arr 5 0 (eL ([] : List T_impl_Part)) true]⟩] ?_
 obtain ⟨v126, hv127, h⟩ := bindS h
 refine cB 112 0 0 (ok_spec_l20Rd_odd hv127) ?_
 refine veM [6, 7] 0 141 [(0, .ptr 0 0 0), (6, .ptr 1 0 0), (7, .ptr 2 1 0), (112, B v126.1)] [sc 0 v126.2, some ⟨0, Enc.cells (T_impl_Bond.mk 0 0 [] 0 [] false [])⟩, some ⟨1, [I (w64 (1 + v1.1)), I v3.1, .arr 1 0 (eL ([] : List Int)) true, I 0, .arr 1 0 (eL ([] : List Int)) true, B false, .arr 5 0 (eL ([] : List T_impl_Part)) true]⟩] ?_
 refine pc h (fun h => ?_) (fun h => ?_)
 refine srvM [6, 7] 1 141 [(0, .ptr 0 0 0), (6, .ptr 1 0 0), (7, .ptr 2 1 0), (113, .ptr 0 0 0)] [sc 0 v126.2, some ⟨0, Enc.cells (T_impl_Bond.mk 0 0 [] 0 [] false [])⟩, some ⟨1, [I (w64 (1 + v1.1)), I v3.1, .arr 1 0 (eL ([] : List Int)) true, I 0, .arr 1 0 (eL ([] : List Int)) true, B false, .arr 5 0 (eL ([] : List T_impl_Part)) true]⟩] ?_
 obtain ⟨v129, hv130, h⟩ := bindS h
 refine cB 114 0 0 (ok_spec_l20Rd_pick hv130) ?_
 refine veM [6, 7] 0 141 [(0, .ptr 0 0 0), (6, .ptr 1 0 0), (7, .ptr 2 1 0), (114, I v129.1)] [sc 0 v129.2, some ⟨0, Enc.cells (T_impl_Bond.mk 0 0 [] 0 [] false [])⟩, some ⟨1, [I (w64 (1 + v1.1)), I v3.1, .arr 1 0 (eL ([] : List Int)) true, I 0, .arr 1 0 (eL ([] : List Int)) true, B false, .arr 5 0 (eL ([] : List T_impl_Part)) true]⟩] ?_
 refine pwp_block ?_
 refine srveM [6, 7] 141 [(0, .ptr 0 0 0), (6, .ptr 1 0 0), (7, .ptr 2 1 0), (114, I v129.1), (119, B (v129.1 == 0))] [sc 0 v129.2, some ⟨0, Enc.cells (T_impl_Bond.mk 0 0 [] 0 [] false [])⟩, some ⟨1, [I (w64 (1 + v1.1)), I v3.1, .arr 1 0 (eL ([] : List Int)) true, I 0, .arr 1 0 (eL ([] : List Int)) true, B false, .arr 5 0 (eL ([] : List T_impl_Part)) true]⟩] ?_
 refine pc h (fun h => ?_) (fun h => ?_)
 refine rvM [6, 7] 1 141 [(6, .ptr 1 0 0), (7, .ptr 2 1 0), (121, .ptr 0 0 0)] [sc 0 v129.2, some ⟨0, Enc.cells (T_impl_Bond.mk 0 0 [] 0 [] false [])⟩, some ⟨1, [I (w64 (1 + v1.1)), I v3.1, .arr 1 0 (eL ([] : List Int)) true, I 0, .arr 1 0 (eL ([] : List Int)) true, B false, .arr 5 0 (eL ([] : List T_impl_Part)) true]⟩] ?_
 obtain ⟨v132, hv133, h⟩ := bindS h
 refine cB 122 0 0 (ok_spec_l20Rd_pick hv133) ?_
 refine veM [6, 7] 3 141 [(6, .ptr 1 0 0), (7, .ptr 2 1 0)] [sc 0 v132.2, some ⟨0, Enc.cells (T_impl_Bond.mk 0 0 [] 0 [] false [])⟩, some ⟨1, [I (w64 (1 + v1.1)), I (w64 (v132.1 - 1)), .arr 1 0 (eL ([] : List Int)) true, I 0, .arr 1 0 (eL ([] : List Int)) true, B false, .arr 5 0 (eL ([] : List T_impl_Part)) true]⟩] ?_
 refine srvM [6, 7] 1 141 [(6, .ptr 1 0 0), (140, .agg [I (w64 (1 + v1.1)), I (w64 (v132.1 - 1)), .arr 1 0 (eL ([] : List Int)) true, I 0, .arr 1 0 (eL ([] : List Int)) true, B false, .arr 5 0 (eL ([] : List T_impl_Part)) true])] [sc 0 v132.2, some ⟨0, Enc.cells (T_impl_Bond.mk 0 0 [] 0 [] false [])⟩, some ⟨1, [I (w64 (1 + v1.1)), I (w64 (v132.1 - 1)), .arr 1 0 (eL ([] : List Int)) true, I 0, .arr 1 0 (eL ([] : List Int)) true, B false, .arr 5 0 (eL ([] : List T_impl_Part)) true]⟩] ?_
 refine opsP_imp (Imp.softB (st' := ⟨141, [(6, .ptr 1 0 0), (140, E (T_impl_Bond.mk (w64 (1 + v1.1)) (w64 (v132.1 - 1)) [] 0 [] false []))], [sc 0 v132.2, some ⟨0, Enc.cells (T_impl_Bond.mk 0 0 [] 0 [] false [])⟩, some ⟨1, Enc.cells (T_impl_Bond.mk (w64 (1 + v1.1)) (w64 (v132.1 - 1)) [] 0 [] false [])⟩]⟩) 3 (by kernel_rfl) (HpRel.frz rfl (Enc.frz _) (HpRel.frz rfl (Enc.frz _) (HpRel.box rfl (CellRel.cons rfl (CellRel.cons rfl (CellRel.cons rfl (CellRel.cons rfl (CellRel.cons rfl (CellRel.cons rfl (CellRel.cons rfl CellRel.nil))))))) HpRel.nil))) (by kernel_rfl) (by rfl) (p01 hQ)) ?_
 refine veM [6, 7] 1 141 [(6, .ptr 1 0 0)] [sc 0 v132.2, some ⟨0, Enc.cells (T_impl_Bond.mk (w64 (1 + v1.1)) (w64 (v132.1 - 1)) [] 0 [] false [])⟩, some ⟨1, Enc.cells (T_impl_Bond.mk (w64 (1 + v1.1)) (w64 (v132.1 - 1)) [] 0 [] false [])⟩] ?_
 have h := si h
 subst h
 exact pwp_ret ⟨.inr rfl, E (T_impl_Bond.mk (w64 (1 + v1.1)) (w64 (v132.1 - 1)) [] 0 [] false []), _, 0, by kernel_rfl, (OutP.frz (by kernel_rfl)), by decide, by decide, by kernel_rfl⟩
 refine srveM [6, 7] 141 [(0, .ptr 0 0 0), (6, .ptr 1 0 0), (7, .ptr 2 1 0), (114, I v129.1), (125, B (v129.1 == 1))] [sc 0 v129.2, some ⟨0, Enc.cells (T_impl_Bond.mk 0 0 [] 0 [] false [])⟩, some ⟨1, [I (w64 (1 + v1.1)), I v3.1, .arr 1 0 (eL ([] : List Int)) true, I 0, .arr 1 0 (eL ([] : List Int)) true, B false, .arr 5 0 (eL ([] : List T_impl_Part)) true]⟩] ?_
 refine pc h (fun h => ?_) (fun h => ?_)
 refine rvM [6, 7] 1 141 [(6, .ptr 1 0 0), (7, .ptr 2 1 0), (127, .ptr 0 0 0)] [sc 0 v129.2, some ⟨0, Enc.cells (T_impl_Bond.mk 0 0 [] 0 [] false [])⟩, some ⟨1, [I (w64 (1 + v1.1)), I v3.1, .arr 1 0 (eL ([] : List Int)) true, I 0, .arr 1 0 (eL ([] : List Int)) true, B false, .arr 5 0 (eL ([] : List T_impl_Part)) true]⟩] ?_
 obtain ⟨v135, hv136, h⟩ := bindS h
 refine cB 128 0 0 (ok_spec_l20Rd_pick hv136) ?_
 refine veM [6, 7] 2 141 [(6, .ptr 1 0 0), (7, .ptr 2 1 0)] [sc 0 v135.2, some ⟨0, Enc.cells (T_impl_Bond.mk 0 0 [] 0 [] false [])⟩, some ⟨1, [I v135.1, I v3.1, .arr 1 0 (eL ([] : List Int)) true, I 0, .arr 1 0 (eL ([] : List Int)) true, B false, .arr 5 0 (eL ([] : List T_impl_Part)) true]⟩] ?_
 refine srvM [6, 7] 1 141 [(6, .ptr 1 0 0), (140, .agg [I v135.1, I v3.1, .arr 1 0 (eL ([] : List Int)) true, I 0, .arr 1 0 (eL ([] : List Int)) true, B false, .arr 5 0 (eL ([] : List T_impl_Part)) true])] [sc 0 v135.2, some ⟨0, Enc.cells (T_impl_Bond.mk 0 0 [] 0 [] false [])⟩, some ⟨1, [I v135.1, I v3.1, .arr 1 0 (eL ([] : List Int)) true, I 0, .arr 1 0 (eL ([] : List Int)) true, B false, .arr 5 0 (eL ([] : List T_impl_Part)) true]⟩] ?_
 refine opsP_imp (Imp.softB (st' := ⟨141, [(6, .ptr 1 0 0), (140, E (T_impl_Bond.mk v135.1 v3.1 [] 0 [] false []))], [sc 0 v135.2, some ⟨0, Enc.cells (T_impl_Bond.mk 0 0 [] 0 [] false [])⟩, some ⟨1, Enc.cells (T_impl_Bond.mk v135.1 v3.1 [] 0 [] false [])⟩]⟩) 3 (by kernel_rfl) (HpRel.frz rfl (Enc.frz _) (HpRel.frz rfl (Enc.frz _) (HpRel.box rfl (CellRel.cons rfl (CellRel.cons rfl (CellRel.cons rfl (CellRel.cons rfl (CellRel.cons rfl (CellRel.cons rfl (CellRel.cons rfl CellRel.nil))))))) HpRel.nil))) (by kernel_rfl) (by rfl) (p01 hQ)) ?_
 refine veM [6, 7] 1 141 [(6, .ptr 1 0 0)] [sc 0 v135.2, some ⟨0, Enc.cells (T_impl_Bond.mk v135.1 v3.1 [] 0 [] false [])⟩, some ⟨1, Enc.cells (T_impl_Bond.mk v135.1 v3.1 [] 0 [] false [])⟩] ?_
 have h := si h
 subst h
 exact pwp_ret ⟨.inr rfl, E (T_impl_Bond.mk v135.1 v3.1 [] 0 [] false []), _, 0, by kernel_rfl, (OutP.frz (by kernel_rfl)), by decide, by decide, by kernel_rfl⟩
 refine srveM [6, 7] 141 [(0, .ptr 0 0 0), (6, .ptr 1 0 0), (7, .ptr 2 1 0), (130, B (v129.1 == 2))] [sc 0 v129.2, some ⟨0, Enc.cells (T_impl_Bond.mk 0 0 [] 0 [] false [])⟩, some ⟨1, [I (w64 (1 + v1.1)), I v3.1, .arr 1 0 (eL ([] : List Int)) true, I 0, .arr 1 0 (eL ([] : List Int)) true, B false, .arr 5 0 (eL ([] : List T_impl_Part)) true]⟩] ?_
 refine pc h (fun h => ?_) (fun h => ?_)
 refine ip 141 [(0, .ptr 0 0 0), (6, .ptr 1 0 0), (7, .ptr 2 1 0)] [sc 0 v129.2, some ⟨0, Enc.cells (T_impl_Bond.mk 0 0 [] 0 [] false [])⟩, some ⟨1, [I (w64 (1 + v1.1)), I v3.1, .arr 1 0 (eL ([] : List Int)) true, I 0, .arr 1 0 (eL ([] : List Int)) true, B false, .arr 5 0 (eL ([] : List T_impl_Part)) true]⟩] ?_
 refine pwp_imp (Imp.thawB (st' := ⟨141, [(0, .ptr 0 0 0), (6, .ptr 1 0 0), (7, .ptr 2 1 0)], [sc 0 v129.2, some ⟨0, Enc.cells (T_impl_Bond.mk 0 0 [] 0 [] false [])⟩, some ⟨1, [I (w64 (1 + v1.1)), I v3.1, .ref 3 0 0 1 ([] : List Int).length false, I 0, .arr 1 0 (eL ([] : List Int)) true, B false, .arr 5 0 (eL ([] : List T_impl_Part)) true]⟩, some ⟨0, eL ([] : List Int)⟩]⟩) 3 (by kernel_rfl) (HpRel.frz rfl (Enc.frz _) (HpRel.frz rfl (Enc.frz _) (HpRel.box rfl (CellRel.cons (.inl ⟨rfl, rfl⟩) (CellRel.cons (.inl ⟨rfl, rfl⟩) (CellRel.cons (.inr ⟨_, rfl, rfl⟩) (CellRel.cons (.inl ⟨rfl, rfl⟩) (CellRel.cons (.inl ⟨rfl, rfl⟩) (CellRel.cons (.inl ⟨rfl, rfl⟩) (CellRel.cons (.inl ⟨rfl, rfl⟩) CellRel.nil))))))) (HpRel.key HpRel.nil)))) (by rfl) (by rfl) (p01 hQ)) ?_
 refine ip 141 [(0, .ptr 0 0 0), (6, .ptr 1 0 0), (7, .ptr 2 1 0)] [sc 0 v129.2, some ⟨0, Enc.cells (T_impl_Bond.mk 0 0 [] 0 [] false [])⟩, some ⟨1, [I (w64 (1 + v1.1)), I v3.1, .ref 3 0 0 1 ([] : List Int).length false, I 0, .arr 1 0 (eL ([] : List Int)) true, B false, .arr 5 0 (eL ([] : List T_impl_Part)) true]⟩, some ⟨0, eL ([] : List Int)⟩] ?_
 refine pwp_any ([[2, 3], [2, 3], [0], [0], [], [], [3], [2, 3], [2, 3]]) ([[], [], [], [0], [], [], [3], [], [2]]) rfl (by kernel_rfl) ?_
 refine qvM [6, 7] [2, 3] (hR (hL trivial)) 2 141 [(133, .ref 3 0 0 1 ([] : List Int).length false), (0, .ptr 0 0 0), (6, .ptr 1 0 0), (7, .ptr 2 1 0)] [sc 0 v129.2, some ⟨0, Enc.cells (T_impl_Bond.mk 0 0 [] 0 [] false [])⟩, some ⟨1, [I (w64 (1 + v1.1)), I v3.1, .ref 3 0 0 1 ([] : List Int).length false, I 0, .arr 1 0 (eL ([] : List Int)) true, B false, .arr 5 0 (eL ([] : List T_impl_Part)) true]⟩, some ⟨0, eL ([] : List Int)⟩] ?_
 refine qvM [6, 7] [0] (hB trivial) 1 141 [(134, .ptr 0 0 0), (133, .ref 3 0 0 1 ([] : List Int).length false), (6, .ptr 1 0 0), (7, .ptr 2 1 0)] [sc 0 v129.2, some ⟨0, Enc.cells (T_impl_Bond.mk 0 0 [] 0 [] false [])⟩, some ⟨1, [I (w64 (1 + v1.1)), I v3.1, .ref 3 0 0 1 ([] : List Int).length false, I 0, .arr 1 0 (eL ([] : List Int)) true, B false, .arr 5 0 (eL ([] : List T_impl_Part)) true]⟩, some ⟨0, eL ([] : List Int)⟩] ?_
 obtain ⟨v138, hv139, h⟩ := bindS h
 refine qX (some 135) (I v138.1) 141 [(135, I v138.1), (133, .ref 3 0 0 1 ([] : List Int).length false), (6, .ptr 1 0 0), (7, .ptr 2 1 0)] [sc 0 v138.2, some ⟨0, Enc.cells (T_impl_Bond.mk 0 0 [] 0 [] false [])⟩, some ⟨1, [I (w64 (1 + v1.1)), I v3.1, .ref 3 0 0 1 ([] : List Int).length false, I 0, .arr 1 0 (eL ([] : List Int)) true, B false, .arr 5 0 (eL ([] : List T_impl_Part)) true]⟩, some ⟨0, eL ([] : List Int)⟩] (fun Γ' hΓ => callB_E τ 135 0 0 (ok_spec_l20Rd_pick hv139) (FzTo.frz rfl) rfl (by kernel_rfl)) (hB trivial) ?_
 refine qvM [6, 7] [] trivial 2 141 [(137, .arr 1 ([(w64 (v138.1 - 1))] : List Int).length (eL ([(w64 (v138.1 - 1))] : List Int)) true), (133, .ref 3 0 0 1 ([] : List Int).length false), (6, .ptr 1 0 0), (7, .ptr 2 1 0)] [sc 0 v138.2, some ⟨0, Enc.cells (T_impl_Bond.mk 0 0 [] 0 [] false [])⟩, some ⟨1, [I (w64 (1 + v1.1)), I v3.1, .ref 3 0 0 1 ([] : List Int).length false, I 0, .arr 1 0 (eL ([] : List Int)) true, B false, .arr 5 0 (eL ([] : List T_impl_Part)) true]⟩, some ⟨0, eL ([] : List Int)⟩] ?_
 obtain ⟨v140, hv141, h⟩ := bindS h
 refine qX (some 138) (rf 3 1 1 v140) 141 [(138, rf 3 1 1 v140), (6, .ptr 1 0 0), (7, .ptr 2 1 0)] [sc 0 v138.2, some ⟨0, Enc.cells (T_impl_Bond.mk 0 0 [] 0 [] false [])⟩, some ⟨1, [I (w64 (1 + v1.1)), I v3.1, .ref 3 0 0 1 ([] : List Int).length false, I 0, .arr 1 0 (eL ([] : List Int)) true, B false, .arr 5 0 (eL ([] : List T_impl_Part)) true]⟩, sl 1 v140] (fun Γ' hΓ => app_Ew τ_ok 138 3 0 (by first | exact py hΓ hQ | exact pky hΓ hQ) hv141 (by kernel_rfl)) (hL trivial) ?_
 refine qvM [6, 7] [2, 3] (hR (hL trivial)) 1 141 [(139, .ptr 2 1 2), (138, rf 3 1 1 v140), (6, .ptr 1 0 0), (7, .ptr 2 1 0)] [sc 0 v138.2, some ⟨0, Enc.cells (T_impl_Bond.mk 0 0 [] 0 [] false [])⟩, some ⟨1, [I (w64 (1 + v1.1)), I v3.1, .ref 3 0 0 1 ([] : List Int).length false, I 0, .arr 1 0 (eL ([] : List Int)) true, B false, .arr 5 0 (eL ([] : List T_impl_Part)) true]⟩, sl 1 v140] ?_
 refine qX (Hm' := [none, none, some ⟨1, [I (w64 (1 + v1.1)), I v3.1, rf 3 1 1 v140, I 0, .arr 1 0 (eL ([] : List Int)) true, B false, .arr 5 0 (eL ([] : List T_impl_Part)) true]⟩, sl 1 v140]) none (.any) 141 [(6, .ptr 1 0 0), (7, .ptr 2 1 0)] [sc 0 v138.2, some ⟨0, Enc.cells (T_impl_Bond.mk 0 0 [] 0 [] false [])⟩, some ⟨1, [I (w64 (1 + v1.1)), I v3.1, rf 3 1 1 v140, I 0, .arr 1 0 (eL ([] : List Int)) true, B false, .arr 5 0 (eL ([] : List T_impl_Part)) true]⟩, sl 1 v140] (fun Γ' hΓ => sto_E τ_ok 2 1 (by kernel_rfl)) (hR (hL trivial)) ?_
 refine qn 141 [(6, .ptr 1 0 0), (7, .ptr 2 1 0)] [sc 0 v138.2, some ⟨0, Enc.cells (T_impl_Bond.mk 0 0 [] 0 [] false [])⟩, some ⟨1, [I (w64 (1 + v1.1)), I v3.1, rf 3 1 1 v140, I 0, .arr 1 0 (eL ([] : List Int)) true, B false, .arr 5 0 (eL ([] : List T_impl_Part)) true]⟩, sl 1 v140] ?_
 refine srvM [6, 7] 1 141 [(6, .ptr 1 0 0), (140, .agg [I (w64 (1 + v1.1)), I v3.1, rf 3 1 1 v140, I 0, .arr 1 0 (eL ([] : List Int)) true, B false, .arr 5 0 (eL ([] : List T_impl_Part)) true])] [sc 0 v138.2, some ⟨0, Enc.cells (T_impl_Bond.mk 0 0 [] 0 [] false [])⟩, some ⟨1, [I (w64 (1 + v1.1)), I v3.1, rf 3 1 1 v140, I 0, .arr 1 0 (eL ([] : List Int)) true, B false, .arr 5 0 (eL ([] : List T_impl_Part)) true]⟩, sl 1 v140] ?_
 refine opsP_imp (Imp.freezeB (v := 1) (cs := eL v140) (st' := ⟨141, [(6, .ptr 1 0 0), (140, .agg [I (w64 (1 + v1.1)), I v3.1, A v140, I 0, .arr 1 0 (eL ([] : List Int)) true, B false, .arr 5 0 (eL ([] : List T_impl_Part)) true])], [sc 0 v138.2, some ⟨0, Enc.cells (T_impl_Bond.mk 0 0 [] 0 [] false [])⟩, some ⟨1, [I (w64 (1 + v1.1)), I v3.1, A v140, I 0, .arr 1 0 (eL ([] : List Int)) true, B false, .arr 5 0 (eL ([] : List T_impl_Part)) true]⟩, none]⟩) 3 1 (pn hQ) (by kernel_rfl) (eL_frz _) (wholeC (whole_noRef (by kernel_rfl)) (wholeC (whole_agg (wholeL (whole_noRef (by kernel_rfl)) (wholeL (whole_noRef (by kernel_rfl)) (wholeL (whole_is (eL_len v140).symm) (wholeL (whole_noRef (by kernel_rfl)) (wholeL (whole_noRef (by kernel_rfl)) (wholeL (whole_noRef (by kernel_rfl)) (wholeL (whole_noRef (by kernel_rfl)) wholeL0)))))))) wholeC0)) (HpRel.frz rfl (Enc.frz _) (HpRel.frz rfl (Enc.frz _) (HpRel.box rfl (CellRel.cons ⟨rfl, trivial, rfl⟩ (CellRel.cons ⟨rfl, trivial, rfl⟩ (CellRel.cons ⟨rfl, (whole_is (eL_len v140).symm), rfl⟩ (CellRel.cons ⟨rfl, trivial, rfl⟩ (CellRel.cons ⟨rfl, trivial, rfl⟩ (CellRel.cons ⟨rfl, trivial, rfl⟩ (CellRel.cons ⟨rfl, trivial, rfl⟩ CellRel.nil))))))) (HpRel.key HpRel.nil)))) (by kernel_rfl) rfl (p01 hQ)) ?_
 refine vM [6, 7] 0 141 [(6, .ptr 1 0 0), (140, .agg [I (w64 (1 + v1.1)), I v3.1, A v140, I 0, .arr 1 0 (eL ([] : List Int)) true, B false, .arr 5 0 (eL ([] : List T_impl_Part)) true])] [sc 0 v138.2, some ⟨0, Enc.cells (T_impl_Bond.mk 0 0 [] 0 [] false [])⟩, some ⟨1, [I (w64 (1 + v1.1)), I v3.1, A v140, I 0, .arr 1 0 (eL ([] : List Int)) true, B false, .arr 5 0 (eL ([] : List T_impl_Part)) true]⟩, none] ?_
 refine opsP_imp (Imp.softB (st' := ⟨141, [(6, .ptr 1 0 0), (140, E (T_impl_Bond.mk (w64 (1 + v1.1)) v3.1 v140 0 [] false []))], [sc 0 v138.2, some ⟨0, Enc.cells (T_impl_Bond.mk 0 0 [] 0 [] false [])⟩, some ⟨1, Enc.cells (T_impl_Bond.mk (w64 (1 + v1.1)) v3.1 v140 0 [] false [])⟩, none]⟩) 4 (by kernel_rfl) (HpRel.frz rfl (Enc.frz _) (HpRel.frz rfl (Enc.frz _) (HpRel.box rfl (CellRel.cons rfl (CellRel.cons rfl (CellRel.cons rfl (CellRel.cons rfl (CellRel.cons rfl (CellRel.cons rfl (CellRel.cons rfl CellRel.nil))))))) (HpRel.none rfl HpRel.nil)))) (by kernel_rfl) (by rfl) (p01 hQ)) ?_
 refine veM [6, 7] 1 141 [(6, .ptr 1 0 0)] [sc 0 v138.2, some ⟨0, Enc.cells (T_impl_Bond.mk (w64 (1 + v1.1)) v3.1 v140 0 [] false [])⟩, some ⟨1, Enc.cells (T_impl_Bond.mk (w64 (1 + v1.1)) v3.1 v140 0 [] false [])⟩, none] ?_
 have h := si h
 subst h
 exact pwp_ret ⟨.inr rfl, E (T_impl_Bond.mk (w64 (1 + v1.1)) v3.1 v140 0 [] false []), _, 0, by kernel_rfl, (OutP.frz (by kernel_rfl)), by decide, by decide, by kernel_rfl⟩
 refine rveM [6, 7] 141 [(6, .ptr 1 0 0), (7, .ptr 2 1 0)] [sc 0 v129.2, some ⟨0, Enc.cells (T_impl_Bond.mk 0 0 [] 0 [] false [])⟩, some ⟨1, [I (w64 (1 + v1.1)), I v3.1, .arr 1 0 (eL ([] : List Int)) true, I 0, .arr 1 0 (eL ([] : List Int)) true, B true, .arr 5 0 (eL ([] : List T_impl_Part)) true]⟩] ?_
 refine srvM [6, 7] 1 141 [(6, .ptr 1 0 0), (140, .agg [I (w64 (1 + v1.1)), I v3.1, .arr 1 0 (eL ([] : List Int)) true, I 0, .arr 1 0 (eL ([] : List Int)) true, B true, .arr 5 0 (eL ([] : List T_impl_Part)) true])] [sc 0 v129.2, some ⟨0, Enc.cells (T_impl_Bond.mk 0 0 [] 0 [] false [])⟩, some ⟨1, [I (w64 (1 + v1.1)), I v3.1, .arr 1 0 (eL ([] : List Int)) true, I 0, .arr 1 0 (eL ([] : List Int)) true, B true, .arr 5 0 (eL ([] : List T_impl_Part)) true]⟩] ?_
 refine opsP_imp (Imp.softB (st' := ⟨141, [(6, .ptr 1 0 0), (140, E (T_impl_Bond.mk (w64 (1 + v1.1)) v3.1 [] 0 [] true []))], [sc 0 v129.2, some ⟨0, Enc.cells (T_impl_Bond.mk 0 0 [] 0 [] false [])⟩, some ⟨1, Enc.cells (T_impl_Bond.mk (w64 (1 + v1.1)) v3.1 [] 0 [] true [])⟩]⟩) 3 (by kernel_rfl) (HpRel.frz rfl (Enc.frz _) (HpRel.frz rfl (Enc.frz _) (HpRel.box rfl (CellRel.cons rfl (CellRel.cons rfl (CellRel.cons rfl (CellRel.cons rfl (CellRel.cons rfl (CellRel.cons rfl (CellRel.cons rfl CellRel.nil))))))) HpRel.nil))) (by kernel_rfl) (by rfl) (p01 hQ)) ?_
 refine veM [6, 7] 1 141 [(6, .ptr 1 0 0)] [sc 0 v129.2, some ⟨0, Enc.cells (T_impl_Bond.mk (w64 (1 + v1.1)) v3.1 [] 0 [] true [])⟩, some ⟨1, Enc.cells (T_impl_Bond.mk (w64 (1 + v1.1)) v3.1 [] 0 [] true [])⟩] ?_
 have h := si h
 subst h
 exact pwp_ret ⟨.inr rfl, E (T_impl_Bond.mk (w64 (1 + v1.1)) v3.1 [] 0 [] true []), _, 0, by kernel_rfl, (OutP.frz (by kernel_rfl)), by decide, by decide, by kernel_rfl⟩
 refine pwp_skip ?_
 refine srvM [6, 7] 1 141 [(6, .ptr 1 0 0), (140, .agg [I (w64 (1 + v1.1)), I v3.1, .arr 1 0 (eL ([] : List Int)) true, I 0, .arr 1 0 (eL ([] : List Int)) true, B false, .arr 5 0 (eL ([] : List T_impl_Part)) true])] [sc 0 v126.2, some ⟨0, Enc.cells (T_impl_Bond.mk 0 0 [] 0 [] false [])⟩, some ⟨1, [I (w64 (1 + v1.1)), I v3.1, .arr 1 0 (eL ([] : List Int)) true, I 0, .arr 1 0 (eL ([] : List Int)) true, B false, .arr 5 0 (eL ([] : List T_impl_Part)) true]⟩] ?_
 refine opsP_imp (Imp.softB (st' := ⟨141, [(6, .ptr 1 0 0), (140, E (T_impl_Bond.mk (w64 (1 + v1.1)) v3.1 [] 0 [] false []))], [sc 0 v126.2, some ⟨0, Enc.cells (T_impl_Bond.mk 0 0 [] 0 [] false [])⟩, some ⟨1, Enc.cells (T_impl_Bond.mk (w64 (1 + v1.1)) v3.1 [] 0 [] false [])⟩]⟩) 3 (by kernel_rfl) (HpRel.frz rfl (Enc.frz _) (HpRel.frz rfl (Enc.frz _) (HpRel.box rfl (CellRel.cons rfl (CellRel.cons rfl (CellRel.cons rfl (CellRel.cons rfl (CellRel.cons rfl (CellRel.cons rfl (CellRel.cons rfl CellRel.nil))))))) HpRel.nil))) (by kernel_rfl) (by rfl) (p01 hQ)) ?_
 refine veM [6, 7] 1 141 [(6, .ptr 1 0 0)] [sc 0 v126.2, some ⟨0, Enc.cells (T_impl_Bond.mk (w64 (1 + v1.1)) v3.1 [] 0 [] false [])⟩, some ⟨1, Enc.cells (T_impl_Bond.mk (w64 (1 + v1.1)) v3.1 [] 0 [] false [])⟩] ?_
 have h := si h
 subst h
 exact pwp_ret ⟨.inr rfl, E (T_impl_Bond.mk (w64 (1 + v1.1)) v3.1 [] 0 [] false []), _, 0, by kernel_rfl, (OutP.frz (by kernel_rfl)), by decide, by decide, by kernel_rfl⟩
def impl_RowFits_j2 (x3 : Int) (K5 : Int → Option Bool) (x9 : Bool) : Option Bool := bif x9 then some false else K5 (w64 (x3 + 1))
def impl_RowFits_l1 (a0 : List T_impl_Column) (a1 : List T_impl_Value) : Nat → Int → Option Bool
 | 0, _ => none
 | f4 + 1, x3 => bif (decide (x3 < (a1.length : Int))) then (getI a1 x3).bind fun v7 => (getI a0 x3).bind fun v11 => bif (!(v7.fKind == v11.fKind)) then bif (!(v7.fKind == 0)) then impl_RowFits_j2 x3 (impl_RowFits_l1 a0 a1 f4) true else (getI a0 x3).bind fun v13 => impl_RowFits_j2 x3 (impl_RowFits_l1 a0 a1 f4) (!v13.fEmpty) else impl_RowFits_j2 x3 (impl_RowFits_l1 a0 a1 f4) false else some true
def impl_RowFits_j0 (a0 : List T_impl_Column) (a1 : List T_impl_Value) (x1 : Bool) : Option Bool := bif x1 then some false else impl_RowFits_l1 a0 a1 FUEL 0
def impl_RowFits (a0 : List T_impl_Column) (a1 : List T_impl_Value) : Option Bool := (impl_ColumnsOk a0).bind fun v17 => bif (!v17) then impl_RowFits_j0 a0 a1 true else (impl_RowOk a1).bind fun v19 => bif (!v19) then impl_RowFits_j0 a0 a1 true else impl_RowFits_j0 a0 a1 (!((a1.length : Int) == (a0.length : Int)))
theorem ok_impl_RowFits {a0 : List T_impl_Column} {a1 : List T_impl_Value} {y : Bool} (h : impl_RowFits a0 a1 = some y) : OK Tryz.prog 75 [A a0, A a1] (B y) := by
 refine ow Tryz.func75 fun Γ hX => ?_
 unfold impl_RowFits at h
 refine srveM [6] 51 [(0, A a0), (1, A a1)] [] ?_
 refine pwp_seq ?_
 refine pwp_seq ?_
 refine pwp_join (σ := Bool) (fun x1 => (⟨51, [(0, A a0), (1, A a1), (21, B x1)], []⟩ : St)) (fun x1 => impl_RowFits_j0 a0 a1 x1 = some y) ?_ ?_
 refine rvM [6] 1 51 [(0, A a0), (1, A a1), (7, A a0)] [] ?_
 obtain ⟨v17, hv18, h⟩ := bindS h
 refine cF 8 (ok_impl_ColumnsOk hv18) ?_
 refine vM [6] 2 51 [(0, A a0), (1, A a1), (10, B (!v17))] [] ?_
 rcases fk (!v17) with hc22 | hc22
 replace h := bT hc22 h
 rw [hc22]
 refine veM [6] 11 51 [(0, A a0), (1, A a1), (21, B true)] [] ?_
 exact ⟨true, h, it [0, 1, 21]⟩
 replace h := bF hc22 h
 rw [hc22]
 refine vM [6] 1 51 [(0, A a0), (1, A a1), (10, B false), (11, A a1)] [] ?_
 obtain ⟨v19, hv20, h⟩ := bindS h
 refine cF 12 (ok_impl_RowOk hv20) ?_
 refine vM [6] 3 51 [(0, A a0), (1, A a1), (15, B (!v19))] [] ?_
 rcases fk (!v19) with hc21 | hc21
 replace h := bT hc21 h
 rw [hc21]
 refine veM [6] 6 51 [(0, A a0), (1, A a1), (21, B true)] [] ?_
 exact ⟨true, h, it [0, 1, 21]⟩
 replace h := bF hc21 h
 rw [hc21]
 refine veM [6] 6 51 [(0, A a0), (1, A a1), (21, B (!((a1.length : Int) == (a0.length : Int))))] [] ?_
 exact ⟨(!((a1.length : Int) == (a0.length : Int))), h, it [0, 1, 21]⟩
 rintro x1 h
 unfold impl_RowFits_j0 at h
 refine pc h (fun h => ?_) (fun h => ?_)
 refine srveM [6] 51 [(4, B false)] [] ?_
 cases h
 exact pwp_ret rz
 refine pwp_skip ?_
 refine pwp_seq ?_
 refine srveM [6] 51 [(0, A a0), (22, A a1), (23, I (a1.length : Int)), (24, I 0)] [] ?_
 refine pwp_block ?_
 refine pwp_loop (ι := Nat × Int) (fun (f4, x3) => (⟨51, [(0, A a0), (22, A a1), (23, I (a1.length : Int)), (24, I x3)], []⟩ : St)) (fun (f4, x3) => impl_RowFits_l1 a0 a1 f4 x3 = some y) Prod.fst (FUEL, 0) h (it [0, 22, 23, 24]) ?_
 rintro ⟨f4, x3⟩ h
 dsimp only at h ⊢
 rcases f4 with _ | f4
 cases h
 rw [impl_RowFits_l1] at h
 refine srveM [6] 51 [(0, A a0), (22, A a1), (23, I (a1.length : Int)), (24, I x3), (25, B (decide (x3 < (a1.length : Int))))] [] ?_
 refine pwp_seq ?_
 refine pc h (fun h => ?_) (fun h => ?_)
 refine pwp_skip ?_
 refine pwp_seq ?_
 refine pwp_block ?_
 refine srvM [6] 1 51 [(0, A a0), (22, A a1), (23, I (a1.length : Int)), (24, I x3), (26, I x3)] [] ?_
 obtain ⟨v7, hv8, h⟩ := bindS h
 refine opsP_idx τ_ok 27 hv8 (by kernel_rfl) ?_
 refine veM [6] 4 51 [(0, A a0), (5, I x3), (6, .ptr 0 0 0), (22, A a1), (23, I (a1.length : Int)), (24, I x3)] [sc 0 v7] ?_
 refine pwp_seq ?_
 refine pwp_join (σ := Bool) (fun x9 => (⟨51, [(0, A a0), (22, A a1), (23, I (a1.length : Int)), (24, I x3), (49, B x9)], [sc 0 v7]⟩ : St)) (fun x9 => impl_RowFits_j2 x3 (impl_RowFits_l1 a0 a1 f4) x9 = some y) ?_ ?_
 refine ip 51 [(0, A a0), (5, I x3), (6, .ptr 0 0 0), (22, A a1), (23, I (a1.length : Int)), (24, I x3)] [sc 0 v7] ?_
 refine pwp_any ([[0], [0], [], [], [], [], [], [], [], [0], [0], [], [], [], [], [], [], [], [], [], []]) ([[], [], [], [], [], [], [], [], [], [], [], [], [], [], [], [], [], [], [], [], []]) rfl (by kernel_rfl) ?_
 refine qvM [6] [0] (hB trivial) 2 51 [(30, I v7.fKind), (0, A a0), (5, I x3), (6, .ptr 0 0 0), (22, A a1), (23, I (a1.length : Int)), (24, I x3)] [sc 0 v7] ?_
 refine qvM [6] [] trivial 2 51 [(32, I x3), (31, A a0), (30, I v7.fKind), (0, A a0), (5, I x3), (6, .ptr 0 0 0), (22, A a1), (23, I (a1.length : Int)), (24, I x3)] [sc 0 v7] ?_
 obtain ⟨v11, hv12, h⟩ := bindS h
 refine qX (some 33) (pf v11 0) 51 [(33, pf v11 0), (30, I v7.fKind), (0, A a0), (5, I x3), (6, .ptr 0 0 0), (22, A a1), (23, I (a1.length : Int)), (24, I x3)] [sc 0 v7] (fun Γ' hΓ => CoreE.of_y (idxV_sound τ_ok (by kernel_rfl) hv12)) trivial ?_
 refine qvM [6] [] trivial 4 51 [(37, B (!(v7.fKind == v11.fKind))), (0, A a0), (5, I x3), (6, .ptr 0 0 0), (22, A a1), (23, I (a1.length : Int)), (24, I x3)] [sc 0 v7] ?_
 rcases fk (!(v7.fKind == v11.fKind)) with hc16 | hc16
 replace h := bT hc16 h
 rw [hc16]
 refine qvM [6] [0] (hB trivial) 2 51 [(39, I v7.fKind), (38, .ptr 0 0 0), (37, B true), (0, A a0), (5, I x3), (22, A a1), (23, I (a1.length : Int)), (24, I x3)] [sc 0 v7] ?_
 refine qvM [6] [] trivial 2 51 [(41, B (!(v7.fKind == 0))), (40, B (!(v7.fKind == 0))), (39, I v7.fKind), (38, .ptr 0 0 0), (37, B true), (0, A a0), (5, I x3), (22, A a1), (23, I (a1.length : Int)), (24, I x3)] [sc 0 v7] ?_
 rcases fk (!(v7.fKind == 0)) with hc15 | hc15
 replace h := bT hc15 h
 rw [hc15]
 refine qvnM [6] [] trivial 8 51 [(0, A a0), (22, A a1), (23, I (a1.length : Int)), (24, I x3), (38, .ptr 0 0 0), (39, I v7.fKind), (40, B true), (41, B true), (42, .lit undef), (43, .lit undef), (44, .lit undef), (45, .lit undef), (46, .lit undef), (47, .lit undef), (48, B true), (49, B true)] [sc 0 v7] ?_
 exact ⟨true, h, it [0, 22, 23, 24, 49]⟩
 replace h := bF hc15 h
 rw [hc15]
 refine qvM [6] [] trivial 2 51 [(43, I x3), (42, A a0), (41, B false), (40, B false), (39, I v7.fKind), (38, .ptr 0 0 0), (37, B true), (0, A a0), (22, A a1), (23, I (a1.length : Int)), (24, I x3)] [sc 0 v7] ?_
 obtain ⟨v13, hv14, h⟩ := bindS h
 refine qX (some 44) (pf v13 0) 51 [(44, pf v13 0), (43, I x3), (42, A a0), (41, B false), (40, B false), (39, I v7.fKind), (38, .ptr 0 0 0), (37, B true), (0, A a0), (22, A a1), (23, I (a1.length : Int)), (24, I x3)] [sc 0 v7] (fun Γ' hΓ => CoreE.of_y (idxV_sound τ_ok (by kernel_rfl) hv14)) trivial ?_
 refine qvnM [6] [] trivial 5 51 [(0, A a0), (22, A a1), (23, I (a1.length : Int)), (24, I x3), (38, .ptr 0 0 0), (39, I v7.fKind), (40, B false), (41, B false), (42, A a0), (43, I x3), (44, pf v13 0), (45, pf v13 1), (46, B v13.fEmpty), (47, B (!v13.fEmpty)), (48, B (!v13.fEmpty)), (49, B (!v13.fEmpty))] [sc 0 v7] ?_
 exact ⟨(!v13.fEmpty), h, it [0, 22, 23, 24, 49]⟩
 replace h := bF hc16 h
 rw [hc16]
 refine qvM [6] [0] (hB trivial) 2 51 [(39, .lit undef), (38, .lit undef), (37, B false), (0, A a0), (5, I x3), (22, A a1), (23, I (a1.length : Int)), (24, I x3)] [sc 0 v7] ?_
 refine qvM [6] [] trivial 10 51 [(49, B false), (48, .lit undef), (47, .lit undef), (46, .lit undef), (45, .lit undef), (44, .lit undef), (43, .lit undef), (42, .lit undef), (41, .lit undef), (40, .lit undef), (39, .lit undef), (38, .lit undef), (0, A a0), (22, A a1), (23, I (a1.length : Int)), (24, I x3)] [sc 0 v7] ?_
 refine qn 51 [(0, A a0), (22, A a1), (23, I (a1.length : Int)), (24, I x3), (38, .lit undef), (39, .lit undef), (40, .lit undef), (41, .lit undef), (42, .lit undef), (43, .lit undef), (44, .lit undef), (45, .lit undef), (46, .lit undef), (47, .lit undef), (48, .lit undef), (49, B false)] [sc 0 v7] ?_
 exact ⟨false, h, it [0, 22, 23, 24, 49]⟩
 rintro x9 h
 unfold impl_RowFits_j2 at h
 refine pc h (fun h => ?_) (fun h => ?_)
 refine srveM [6] 51 [(4, B false)] [sc 0 v7] ?_
 cases h
 exact pwp_ret rz
 refine pwp_skip ?_
 refine rveM [6] 51 [(0, A a0), (22, A a1), (23, I (a1.length : Int)), (24, I (w64 (x3 + 1)))] [sc 0 v7] ?_
 exact ⟨(f4, (w64 (x3 + 1))), h, Nat.lt_succ_self _, (it (st' := ⟨51, [(0, A a0), (22, A a1), (23, I (a1.length : Int)), (24, I (w64 (x3 + 1)))], [sc 0 v7]⟩) [0, 22, 23, 24]).trans (Imp.truncS 0 (nx hX) (by kernel_rfl) (allBelow_mem (by exact (And.intro rfl (And.intro rfl (And.intro rfl (And.intro rfl trivial)))))) (by exact trivial) (by kernel_rfl))⟩
 refine pwp_exit ?_
 refine srveM [6] 51 [(4, B true)] [] ?_
 cases h
 exact pwp_ret rz
def spec_ExprKind_j3 (x6 : List Int) (x15 : Bool) : Option Int := bif x15 then some (-1) else (getI x6 (0 : Int)).bind fun v17 => some v17
def spec_ExprKind_j2 (a0 : List T_impl_Column) (a1 : List T_impl_Part) (x4 : Bool) (x5 : Int) (x6 : List Int) (K8 : Bool → Int → (List Int) → Option Int) (x9 : Bool) : Option Int := bif x9 then (getI a1 x5).bind fun v11 => (spec_l4Step a0 x6 v11).bind fun v13 => K8 v13.2 (w64 (x5 + 1)) v13.1 else bif (!x4) then spec_ExprKind_j3 x6 true else spec_ExprKind_j3 x6 (!((x6.length : Int) == 1))
def spec_ExprKind_l1 (a0 : List T_impl_Column) (a1 : List T_impl_Part) : Nat → Bool → Int → (List Int) → Option Int
 | 0, _, _, _ => none
 | f7 + 1, x4, x5, x6 => bif (decide (x5 < (a1.length : Int))) then spec_ExprKind_j2 a0 a1 x4 x5 x6 (spec_ExprKind_l1 a0 a1 f7) x4 else spec_ExprKind_j2 a0 a1 x4 x5 x6 (spec_ExprKind_l1 a0 a1 f7) false
def spec_ExprKind_j0 (a0 : List T_impl_Column) (a1 : List T_impl_Part) (x1 : Bool) : Option Int := bif x1 then some (-1) else spec_ExprKind_l1 a0 a1 FUEL true 0 ([] : List Int)
def spec_ExprKind (a0 : List T_impl_Column) (a1 : List T_impl_Part) : Option Int := (spec_ColumnsOk a0).bind fun v21 => bif (!v21) then spec_ExprKind_j0 a0 a1 true else spec_ExprKind_j0 a0 a1 (decide ((a1.length : Int) > 12))
theorem ok_spec_ExprKind {a0 : List T_impl_Column} {a1 : List T_impl_Part} {y : Int} (h : spec_ExprKind a0 a1 = some y) : OK Tryz.prog 82 [A a0, A a1] (I y) := by
 refine ow Tryz.func82 fun Γ hX => ?_
 unfold spec_ExprKind at h
 refine srve 46 [(0, A a0), (1, A a1)] [] ?_
 refine pwp_seq ?_
 refine pwp_seq ?_
 refine pwp_join (σ := Bool) (fun x1 => (⟨46, [(0, A a0), (1, A a1), (15, B x1)], []⟩ : St)) (fun x1 => spec_ExprKind_j0 a0 a1 x1 = some y) ?_ ?_
 refine rv 1 46 [(0, A a0), (1, A a1), (8, A a0)] [] ?_
 obtain ⟨v21, hv22, h⟩ := bindS h
 refine cF 9 (ok_spec_ColumnsOk hv22) ?_
 refine v 2 46 [(0, A a0), (1, A a1), (11, B (!v21))] [] ?_
 rcases fk (!v21) with hc23 | hc23
 replace h := bT hc23 h
 rw [hc23]
 refine ve 4 46 [(0, A a0), (1, A a1), (15, B true)] [] ?_
 exact ⟨true, h, it [0, 1, 15]⟩
 replace h := bF hc23 h
 rw [hc23]
 refine ve 4 46 [(0, A a0), (1, A a1), (15, B (decide ((a1.length : Int) > 12)))] [] ?_
 exact ⟨(decide ((a1.length : Int) > 12)), h, it [0, 1, 15]⟩
 rintro x1 h
 unfold spec_ExprKind_j0 at h
 refine pc h (fun h => ?_) (fun h => ?_)
 refine srve 46 [(4, I (-1))] [] ?_
 cases h
 exact pwp_ret rz
 refine pwp_skip ?_
 refine srve 46 [(0, A a0), (1, A a1), (5, .arr 1 0 (eL ([] : List Int)) true)] [] ?_
 refine srve 46 [(0, A a0), (1, A a1), (5, .arr 1 0 (eL ([] : List Int)) true), (6, B true)] [] ?_
 refine pwp_seq ?_
 refine srve 46 [(0, A a0), (1, A a1), (5, .arr 1 0 (eL ([] : List Int)) true), (6, B true), (7, I 0)] [] ?_
 refine pwp_block ?_
 refine pwp_loop (ι := Nat × Bool × Int × (List Int)) (fun (f7, x4, x5, x6) => (⟨46, [(0, A a0), (1, A a1), (5, rf 0 0 1 x6), (6, B x4), (7, I x5)], [sl 0 x6]⟩ : St)) (fun (f7, x4, x5, x6) => spec_ExprKind_l1 a0 a1 f7 x4 x5 x6 = some y) Prod.fst (FUEL, true, 0, ([] : List Int)) h (Imp.thawS 5 [0, 1, 5, 6, 7] (by kernel_rfl)) ?_
 rintro ⟨f7, x4, x5, x6⟩ h
 dsimp only at h ⊢
 rcases f7 with _ | f7
 cases h
 rw [spec_ExprKind_l1] at h
 refine pwp_seq ?_
 refine pwp_seq ?_
 refine pwp_join (σ := Bool) (fun x9 => (⟨46, [(0, A a0), (1, A a1), (5, rf 0 0 1 x6), (6, B x4), (7, I x5), (23, B x9)], [sl 0 x6]⟩ : St)) (fun x9 => spec_ExprKind_j2 a0 a1 x4 x5 x6 (spec_ExprKind_l1 a0 a1 f7) x9 = some y) ?_ ?_
 refine rv 5 46 [(0, A a0), (1, A a1), (5, rf 0 0 1 x6), (6, B x4), (7, I x5), (21, B (decide (x5 < (a1.length : Int))))] [sl 0 x6] ?_
 rcases fk (decide (x5 < (a1.length : Int))) with hc20 | hc20
 replace h := bT hc20 h
 rw [hc20]
 refine ve 2 46 [(0, A a0), (1, A a1), (5, rf 0 0 1 x6), (6, B x4), (7, I x5), (22, B x4), (23, B x4)] [sl 0 x6] ?_
 exact ⟨x4, h, it [0, 1, 5, 6, 7, 23]⟩
 replace h := bF hc20 h
 rw [hc20]
 refine ve 2 46 [(0, A a0), (1, A a1), (5, rf 0 0 1 x6), (6, B x4), (7, I x5), (22, .lit undef), (23, B false)] [sl 0 x6] ?_
 exact ⟨false, h, it [0, 1, 5, 6, 7, 23]⟩
 rintro x9 h
 unfold spec_ExprKind_j2 at h
 refine pc h (fun h => ?_) (fun h => ?_)
 refine pwp_skip ?_
 refine pwp_seq ?_
 refine pwp_block ?_
 refine rv 4 46 [(0, A a0), (1, A a1), (7, I x5), (27, A a0), (28, rf 0 0 1 x6), (29, A a1), (30, I x5)] [sl 0 x6] ?_
 obtain ⟨v11, hv12, h⟩ := bindS h
 refine opsP_idx τ_ok 31 hv12 (by kernel_rfl) ?_
 refine v 1 46 [(0, A a0), (1, A a1), (7, I x5), (27, A a0), (28, rf 0 0 1 x6), (32, E v11)] [sl 0 x6] ?_
 obtain ⟨v13, hv14, h⟩ := bindS h
 refine opsP_callM (xs := [A a0, rf 0 0 1 x6, E v11]) (x := .tup [rf 1 0 1 v13.1, B v13.2]) (bs := [⟨0, eL v13.1⟩]) τ 33 [0] (nx hX) (ok_spec_l4Step hv14) (by kernel_rfl) (OutL.cons (OutP.frz rfl) (OutL.cons (OutP.list (v := 0) (by kernel_rfl)) (OutL.cons (OutP.frz rfl) (OutL.nil _)))) (by decide) (by kernel_rfl) ?_
 refine ve 5 46 [(0, A a0), (1, A a1), (5, rf 1 0 1 v13.1), (6, B v13.2), (7, I x5)] [none, sl 0 v13.1] ?_
 refine rve 46 [(0, A a0), (1, A a1), (5, rf 1 0 1 v13.1), (6, B v13.2), (7, I (w64 (x5 + 1)))] [none, sl 0 v13.1] ?_
 exact ⟨(f7, v13.2, (w64 (x5 + 1)), v13.1), h, Nat.lt_succ_self _, qt (it (st' := ⟨46, [(0, A a0), (1, A a1), (5, rf 1 0 1 v13.1), (6, B v13.2), (7, I (w64 (x5 + 1)))], [none, sl 0 v13.1]⟩) [0, 1, 5, 6, 7]) (qt (Imp.mvS (st' := ⟨46, [(0, A a0), (1, A a1), (5, rf 0 0 1 v13.1), (6, B v13.2), (7, I (w64 (x5 + 1)))], [sl 0 v13.1, none]⟩) 1 0 [0, 1, 5, 6, 7] (nx hX) (v := 0) (cs := eL v13.1) (by kernel_rfl) (by kernel_rfl) (by exact (And.intro (eL_frz _) trivial)) (by kernel_rfl) (by kernel_rfl)) (Imp.truncS 1 (nx hX) (by kernel_rfl) (allBelow_mem (by exact (And.intro rfl (And.intro rfl (And.intro rfl (And.intro rfl (And.intro rfl trivial))))))) (by exact (And.intro (frz_below (eL_frz _)) trivial)) (by kernel_rfl)))⟩
 refine pwp_exit ?_
 refine pwp_seq ?_
 refine pwp_seq ?_
 refine pwp_join (σ := Bool) (fun x15 => (⟨46, [(5, rf 0 0 1 x6), (42, B x15)], [sl 0 x6]⟩ : St)) (fun x15 => spec_ExprKind_j3 x6 x15 = some y) ?_ ?_
 refine rv 3 46 [(5, rf 0 0 1 x6), (38, B (!x4))] [sl 0 x6] ?_
 rcases fk (!x4) with hc19 | hc19
 replace h := bT hc19 h
 rw [hc19]
 refine ve 4 46 [(5, rf 0 0 1 x6), (42, B true)] [sl 0 x6] ?_
 exact ⟨true, h, it [5, 42]⟩
 replace h := bF hc19 h
 rw [hc19]
 refine ve 4 46 [(5, rf 0 0 1 x6), (42, B (!((x6.length : Int) == 1)))] [sl 0 x6] ?_
 exact ⟨(!((x6.length : Int) == 1)), h, it [5, 42]⟩
 rintro x15 h
 unfold spec_ExprKind_j3 at h
 refine pc h (fun h => ?_) (fun h => ?_)
 refine srve 46 [(4, I (-1))] [sl 0 x6] ?_
 cases h
 exact pwp_ret rz
 refine pwp_skip ?_
 refine srv 1 46 [(43, rf 0 0 1 x6)] [sl 0 x6] ?_
 obtain ⟨v17, hv18, h⟩ := bindS h
 refine opsP_idr τ_ok 44 0 0 x6.length hv18 rfl (by kernel_rfl) ?_
 refine opsP_lde (r := I v17) τ_ok 45 3 0 hv18 (by kernel_rfl) (by kernel_rfl) ?_
 refine ve 1 46 [(4, I v17)] [sl 0 x6] ?_
 cases h
 exact pwp_ret rz
def spec_TablesOk_j1 (x1 : Int) (K3 : Int → Option Bool) (x5 : Bool) : Option Bool := bif x5 then some false else K3 (w64 (x1 + 1))
def spec_TablesOk_l0 (a0 : List T_impl_Table) : Nat → Int → Option Bool
 | 0, _ => none
 | f2 + 1, x1 => bif (decide (x1 < (a0.length : Int))) then (getI a0 x1).bind fun v7 => bif (decide ((v7.fRows.length : Int) > 6)) then spec_TablesOk_j1 x1 (spec_TablesOk_l0 a0 f2) true else (getI a0 x1).bind fun v9 => (getI a0 x1).bind fun v11 => (spec_RowsOk v9.fColumns v11.fRows).bind fun v13 => spec_TablesOk_j1 x1 (spec_TablesOk_l0 a0 f2) (!v13) else some (decide ((a0.length : Int) ≤ 3))
def spec_TablesOk (a0 : List T_impl_Table) : Option Bool := spec_TablesOk_l0 a0 FUEL 0
theorem ok_spec_TablesOk {a0 : List T_impl_Table} {y : Bool} (h : spec_TablesOk a0 = some y) : OK Tryz.prog 102 [A a0] (B y) := by
 refine ow Tryz.func102 fun Γ hX => ?_
 unfold spec_TablesOk at h
 refine srve 34 [(0, A a0)] [] ?_
 refine pwp_seq ?_
 refine srve 34 [(0, A a0), (3, I 0)] [] ?_
 refine pwp_block ?_
 refine pwp_loop (ι := Nat × Int) (fun (f2, x1) => (⟨34, [(0, A a0), (3, I x1)], []⟩ : St)) (fun (f2, x1) => spec_TablesOk_l0 a0 f2 x1 = some y) Prod.fst (FUEL, 0) h (it [0, 3]) ?_
 rintro ⟨f2, x1⟩ h
 dsimp only at h ⊢
 rcases f2 with _ | f2
 cases h
 rw [spec_TablesOk_l0] at h
 refine pwp_seq ?_
 refine srve 34 [(0, A a0), (3, I x1), (7, B (decide (x1 < (a0.length : Int))))] [] ?_
 refine pc h (fun h => ?_) (fun h => ?_)
 refine pwp_skip ?_
 refine pwp_seq ?_
 refine pwp_block ?_
 refine pwp_seq ?_
 refine pwp_join (σ := Bool) (fun x5 => (⟨34, [(0, A a0), (3, I x1), (30, B x5)], []⟩ : St)) (fun x5 => spec_TablesOk_j1 x1 (spec_TablesOk_l0 a0 f2) x5 = some y) ?_ ?_
 refine ip 34 [(0, A a0), (3, I x1)] [] ?_
 refine pN 21 ?_
 refine qv [] trivial 2 34 [(11, I x1), (10, A a0), (0, A a0), (3, I x1)] [] ?_
 obtain ⟨v7, hv8, h⟩ := bindS h
 refine qX (some 12) (pf v7 0) 34 [(12, pf v7 0), (0, A a0), (3, I x1)] [] (fun Γ' hΓ => CoreE.of_y (idxV_sound τ_ok (by kernel_rfl) hv8)) trivial ?_
 refine qv [] trivial 5 34 [(17, B (decide ((v7.fRows.length : Int) > 6))), (0, A a0), (3, I x1)] [] ?_
 rcases fk (decide ((v7.fRows.length : Int) > 6)) with hc15 | hc15
 replace h := bT hc15 h
 rw [hc15]
 refine qvn [] trivial 13 34 [(0, A a0), (3, I x1), (18, .lit undef), (19, .lit undef), (20, .lit undef), (21, .lit undef), (22, .lit undef), (23, .lit undef), (24, .lit undef), (25, .lit undef), (26, .lit undef), (27, .lit undef), (28, .lit undef), (29, .lit undef), (30, B true)] [] ?_
 exact ⟨true, h, it [0, 3, 30]⟩
 replace h := bF hc15 h
 rw [hc15]
 refine qv [] trivial 2 34 [(19, I x1), (18, A a0), (17, B false), (0, A a0), (3, I x1)] [] ?_
 obtain ⟨v9, hv10, h⟩ := bindS h
 refine qX (some 20) (pf v9 0) 34 [(20, pf v9 0), (19, I x1), (18, A a0), (17, B false), (0, A a0), (3, I x1)] [] (fun Γ' hΓ => CoreE.of_y (idxV_sound τ_ok (by kernel_rfl) hv10)) trivial ?_
 refine qv [] trivial 4 34 [(24, I x1), (23, A a0), (22, A v9.fColumns), (21, pf v9 0), (20, pf v9 0), (19, I x1), (18, A a0), (17, B false), (0, A a0), (3, I x1)] [] ?_
 obtain ⟨v11, hv12, h⟩ := bindS h
 refine qX (some 25) (pf v11 0) 34 [(25, pf v11 0), (24, I x1), (23, A a0), (22, A v9.fColumns), (21, pf v9 0), (20, pf v9 0), (19, I x1), (18, A a0), (17, B false), (0, A a0), (3, I x1)] [] (fun Γ' hΓ => CoreE.of_y (idxV_sound τ_ok (by kernel_rfl) hv12)) trivial ?_
 refine qv [] trivial 2 34 [(27, A v11.fRows), (26, pf v11 1), (25, pf v11 0), (24, I x1), (23, A a0), (22, A v9.fColumns), (21, pf v9 0), (20, pf v9 0), (19, I x1), (18, A a0), (17, B false), (0, A a0), (3, I x1)] [] ?_
 obtain ⟨v13, hv14, h⟩ := bindS h
 refine qX (some 28) (B v13) 34 [(28, B v13), (27, A v11.fRows), (26, pf v11 1), (25, pf v11 0), (24, I x1), (23, A a0), (22, A v9.fColumns), (21, pf v9 0), (20, pf v9 0), (19, I x1), (18, A a0), (17, B false), (0, A a0), (3, I x1)] [] (fun Γ' hΓ => CoreE.of_g (callV_sound (τ := τ) (by kernel_rfl) rfl (ok_spec_RowsOk hv14) (FzTo.frz rfl))) trivial ?_
 refine qvn [] trivial 2 34 [(0, A a0), (3, I x1), (18, A a0), (19, I x1), (20, pf v9 0), (21, pf v9 0), (22, A v9.fColumns), (23, A a0), (24, I x1), (25, pf v11 0), (26, pf v11 1), (27, A v11.fRows), (28, B v13), (29, B (!v13)), (30, B (!v13))] [] ?_
 exact ⟨(!v13), h, it [0, 3, 30]⟩
 rintro x5 h
 unfold spec_TablesOk_j1 at h
 refine pc h (fun h => ?_) (fun h => ?_)
 refine srve 34 [(2, B false)] [] ?_
 cases h
 exact pwp_ret rz
 refine pwp_skip ?_
 refine rve 34 [(0, A a0), (3, I (w64 (x1 + 1)))] [] ?_
 exact ⟨(f2, (w64 (x1 + 1))), h, Nat.lt_succ_self _, it [0, 3]⟩
 refine pwp_exit ?_
 refine srve 34 [(2, B (decide ((a0.length : Int) ≤ 3)))] [] ?_
 cases h
 exact pwp_ret rz
def impl_Part_kind (a0 : T_impl_Part) (a1 : List T_impl_Column) (a2 : List Int) : Option (Int × Bool) := bif (a0.fKind == 1) then some (a0.fV.fKind, true) else bif (a0.fKind == 2) then (getI a1 a0.fN).bind fun v3 => some (v3.fKind, true) else bif (a0.fKind == 3) then (impl_Part_kind_1 1 a2).bind fun v6 => some (1, v6) else bif (a0.fKind == 4) then (getI a2 0).bind fun v9 => (getI a2 1).bind fun v11 => some (3, (v9 == v11)) else bif (a0.fKind == 8) then some (3, true) else (impl_Part_kind_1 3 a2).bind fun v14 => some (3, v14)
theorem ok_impl_Part_kind {a0 : T_impl_Part} {a1 : List T_impl_Column} {a2 : List Int} {y : Int × Bool} (h : impl_Part_kind a0 a1 a2 = some y) : OK Tryz.prog 106 [E a0, A a1, A a2] (.tup [I y.1, B y.2]) := by
 refine ow Tryz.func106 fun Γ hX => ?_
 unfold impl_Part_kind at h
 refine srve 42 [(1, A a1), (3, pf a0 0), (5, pf a2 0)] [] ?_
 refine srve 42 [(1, A a1), (3, pf a0 0), (5, pf a2 0), (8, .fn 149 [pf a2 0])] [] ?_
 refine pwp_seq ?_
 refine srve 42 [(1, A a1), (3, pf a0 0), (5, pf a2 0), (8, .fn 149 [pf a2 0]), (11, I a0.fKind)] [] ?_
 refine pwp_block ?_
 refine srve 42 [(1, A a1), (3, pf a0 0), (5, pf a2 0), (8, .fn 149 [pf a2 0]), (11, I a0.fKind), (12, B (a0.fKind == 1))] [] ?_
 refine pc h (fun h => ?_) (fun h => ?_)
 refine srve 42 [(6, I a0.fV.fKind), (7, B true)] [] ?_
 have h := si h
 subst h
 exact pwp_ret (rt (.tup [I a0.fV.fKind, B true]) (OutP.tup (OutL.cons (OutP.frz (by kernel_rfl)) (OutL.cons (OutP.frz (by kernel_rfl)) (OutL.nil _)))))
 refine srve 42 [(1, A a1), (3, pf a0 0), (5, pf a2 0), (8, .fn 149 [pf a2 0]), (11, I a0.fKind), (17, B (a0.fKind == 2))] [] ?_
 refine pc h (fun h => ?_) (fun h => ?_)
 refine srv 3 42 [(19, A a1), (21, I a0.fN)] [] ?_
 obtain ⟨v3, hv4, h⟩ := bindS h
 refine opsP_idx τ_ok 22 hv4 (by kernel_rfl) ?_
 refine ve 4 42 [(6, I v3.fKind), (7, B true)] [] ?_
 have h := si h
 subst h
 exact pwp_ret (rt (.tup [I v3.fKind, B true]) (OutP.tup (OutL.cons (OutP.frz (by kernel_rfl)) (OutL.cons (OutP.frz (by kernel_rfl)) (OutL.nil _)))))
 refine srve 42 [(5, pf a2 0), (8, .fn 149 [pf a2 0]), (11, I a0.fKind), (25, B (a0.fKind == 3))] [] ?_
 refine pc h (fun h => ?_) (fun h => ?_)
 refine srv 1 42 [(27, .fn 149 [pf a2 0])] [] ?_
 obtain ⟨v6, hv7, h⟩ := bindS h
 refine cF 28 (ok_impl_Part_kind_1 hv7) ?_
 refine ve 2 42 [(6, I 1), (7, B v6)] [] ?_
 have h := si h
 subst h
 exact pwp_ret (rt (.tup [I 1, B v6]) (OutP.tup (OutL.cons (OutP.frz (by kernel_rfl)) (OutL.cons (OutP.frz (by kernel_rfl)) (OutL.nil _)))))
 refine srve 42 [(5, pf a2 0), (8, .fn 149 [pf a2 0]), (11, I a0.fKind), (29, B (a0.fKind == 4))] [] ?_
 refine pc h (fun h => ?_) (fun h => ?_)
 refine pwp_seq ?_
 refine ip 42 [(5, pf a2 0)] [] ?_
 refine pN 9 ?_
 refine qv [] trivial 1 42 [(31, A a2), (5, pf a2 0)] [] ?_
 obtain ⟨v9, hv10, h⟩ := bindS h
 refine qX (some 32) (pf v9 0) 42 [(32, pf v9 0), (5, pf a2 0)] [] (fun Γ' hΓ => CoreE.of_y (idxV_sound τ_ok (by kernel_rfl) hv10)) trivial ?_
 refine qv [] trivial 2 42 [(34, A a2), (33, I v9)] [] ?_
 obtain ⟨v11, hv12, h⟩ := bindS h
 refine qX (some 35) (pf v11 0) 42 [(35, pf v11 0), (33, I v9)] [] (fun Γ' hΓ => CoreE.of_y (idxV_sound τ_ok (by kernel_rfl) hv12)) trivial ?_
 refine qvn [] trivial 4 42 [(6, I 3), (7, B (v9 == v11))] [] ?_
 have h := si h
 subst h
 exact pwp_ret (rt (.tup [I 3, B (v9 == v11)]) (OutP.tup (OutL.cons (OutP.frz (by kernel_rfl)) (OutL.cons (OutP.frz (by kernel_rfl)) (OutL.nil _)))))
 refine srve 42 [(8, .fn 149 [pf a2 0]), (38, B (a0.fKind == 8))] [] ?_
 refine pc h (fun h => ?_) (fun h => ?_)
 refine srve 42 [(6, I 3), (7, B true)] [] ?_
 have h := si h
 subst h
 exact pwp_ret (rt (.tup [I 3, B true]) (OutP.tup (OutL.cons (OutP.frz (by kernel_rfl)) (OutL.cons (OutP.frz (by kernel_rfl)) (OutL.nil _)))))
 refine pwp_skip ?_
 refine srv 1 42 [(40, .fn 149 [pf a2 0])] [] ?_
 obtain ⟨v14, hv15, h⟩ := bindS h
 refine cF 41 (ok_impl_Part_kind_1 hv15) ?_
 refine ve 2 42 [(6, I 3), (7, B v14)] [] ?_
 have h := si h
 subst h
 exact pwp_ret (rt (.tup [I 3, B v14]) (OutP.tup (OutL.cons (OutP.frz (by kernel_rfl)) (OutL.cons (OutP.frz (by kernel_rfl)) (OutL.nil _)))))
def spec_l4Do (a0 : List T_impl_Value) (a1 : List T_impl_Value) (a2 : T_impl_Part) : Option (List T_impl_Value) := bif (a2.fKind == 1) then (app a1 ([a2.fV] : List T_impl_Value)).bind fun v2 => some v2 else bif (a2.fKind == 2) then (getI a0 a2.fN).bind fun v5 => (app a1 ([v5] : List T_impl_Value)).bind fun v7 => some v7 else bif (a2.fKind == 3) then (slI a1 none (some (w64 ((a1.length : Int) - 2))) none).bind fun v10 => (getI a1 (w64 ((a1.length : Int) - 2))).bind fun v12 => (getI a1 (w64 ((a1.length : Int) - 1))).bind fun v14 => (spec_l4Sum v12 v14).bind fun v16 => (appT a1 ([v16] : List T_impl_Value) v10.length).bind fun v18 => some v18 else bif (a2.fKind == 4) then (slI a1 none (some (w64 ((a1.length : Int) - 2))) none).bind fun v21 => (getI a1 (w64 ((a1.length : Int) - 2))).bind fun v23 => (getI a1 (w64 ((a1.length : Int) - 1))).bind fun v25 => (spec_Compare a2.fN v23 v25).bind fun v27 => (spec_ValueOf v27).bind fun v29 => (appT a1 ([v29] : List T_impl_Value) v21.length).bind fun v31 => some v31 else bif (a2.fKind == 5) then (slI a1 none (some (w64 ((a1.length : Int) - 2))) none).bind fun v34 => (getI a1 (w64 ((a1.length : Int) - 2))).bind fun v36 => (spec_TruthOf v36).bind fun v38 => (getI a1 (w64 ((a1.length : Int) - 1))).bind fun v40 => (spec_TruthOf v40).bind fun v42 => (spec_AndOf v38 v42).bind fun v44 => (spec_ValueOf v44).bind fun v46 => (appT a1 ([v46] : List T_impl_Value) v34.length).bind fun v48 => some v48 else bif (a2.fKind == 6) then (slI a1 none (some (w64 ((a1.length : Int) - 2))) none).bind fun v51 => (getI a1 (w64 ((a1.length : Int) - 2))).bind fun v53 => (spec_TruthOf v53).bind fun v55 => (getI a1 (w64 ((a1.length : Int) - 1))).bind fun v57 => (spec_TruthOf v57).bind fun v59 => (spec_OrOf v55 v59).bind fun v61 => (spec_ValueOf v61).bind fun v63 => (appT a1 ([v63] : List T_impl_Value) v51.length).bind fun v65 => some v65 else bif (a2.fKind == 7) then (slI a1 none (some (w64 ((a1.length : Int) - 1))) none).bind fun v68 => (getI a1 (w64 ((a1.length : Int) - 1))).bind fun v70 => (spec_TruthOf v70).bind fun v72 => (spec_NotOf v72).bind fun v74 => (spec_ValueOf v74).bind fun v76 => (appT a1 ([v76] : List T_impl_Value) v68.length).bind fun v78 => some v78 else (slI a1 none (some (w64 ((a1.length : Int) - 1))) none).bind fun v80 => (getI a1 (w64 ((a1.length : Int) - 1))).bind fun v82 => (spec_l2Bool (v82.fKind == 0)).bind fun v84 => (spec_ValueOf v84).bind fun v86 => (appT a1 ([v86] : List T_impl_Value) v80.length).bind fun v88 => some v88
theorem ok_spec_l4Do {a0 : List T_impl_Value} {a1 : List T_impl_Value} {a2 : T_impl_Part} {y : List T_impl_Value} (h : spec_l4Do a0 a1 a2 = some y) : OKm Tryz.prog 141 [A a0, O a1, E a2] (O y) := by
 refine OKm_of_pwp (sl := [A a0, rf 0 0 3 a1, E a2]) (bs := [⟨0, eL a1⟩]) τ_ok Tryz.func141 rfl (by kernel_rfl) rfl (by kernel_rfl) fun Γ hX => ?_
 refine pwp_imp (Imp.to (st' := ⟨145, [(0, A a0), (1, rf 0 0 3 a1), (2, E a2)], [sl 0 a1]⟩) [0, 1, 2] (by kernel_rfl)) ?_
 unfold spec_l4Do at h
 refine srve 145 [(0, A a0), (1, rf 0 0 3 a1), (5, pf a2 0)] [sl 0 a1] ?_
 refine srve 145 [(0, A a0), (1, rf 0 0 3 a1), (5, pf a2 0), (7, I (a1.length : Int))] [sl 0 a1] ?_
 refine pwp_seq ?_
 refine srve 145 [(0, A a0), (1, rf 0 0 3 a1), (5, pf a2 0), (7, I (a1.length : Int)), (11, I a2.fKind)] [sl 0 a1] ?_
 refine pwp_block ?_
 refine srve 145 [(0, A a0), (1, rf 0 0 3 a1), (5, pf a2 0), (7, I (a1.length : Int)), (11, I a2.fKind), (12, B (a2.fKind == 1))] [sl 0 a1] ?_
 refine pc h (fun h => ?_) (fun h => ?_)
 refine srv 4 145 [(14, rf 0 0 3 a1), (17, .arr 3 ([a2.fV] : List T_impl_Value).length (eL ([a2.fV] : List T_impl_Value)) true)] [sl 0 a1] ?_
 obtain ⟨v2, hv3, h⟩ := bindS h
 refine opsP_app τ_ok 18 0 0 (nx hX) hv3 (by kernel_rfl) ?_
 refine ve 1 145 [(6, rf 0 1 3 v2)] [sl 1 v2] ?_
 have h := si h
 subst h
 exact pwp_ret (rt (rf 0 1 3 v2) (OutP.list (v := 1) (by kernel_rfl)))
 refine srve 145 [(0, A a0), (1, rf 0 0 3 a1), (5, pf a2 0), (7, I (a1.length : Int)), (11, I a2.fKind), (19, B (a2.fKind == 2))] [sl 0 a1] ?_
 refine pc h (fun h => ?_) (fun h => ?_)
 refine srv 4 145 [(21, rf 0 0 3 a1), (22, A a0), (24, I a2.fN)] [sl 0 a1] ?_
 obtain ⟨v5, hv6, h⟩ := bindS h
 refine opsP_idx τ_ok 25 hv6 (by kernel_rfl) ?_
 refine v 2 145 [(21, rf 0 0 3 a1), (27, .arr 3 ([v5] : List T_impl_Value).length (eL ([v5] : List T_impl_Value)) true)] [sl 0 a1] ?_
 obtain ⟨v7, hv8, h⟩ := bindS h
 refine opsP_app τ_ok 28 0 0 (nx hX) hv8 (by kernel_rfl) ?_
 refine ve 1 145 [(6, rf 0 1 3 v7)] [sl 1 v7] ?_
 have h := si h
 subst h
 exact pwp_ret (rt (rf 0 1 3 v7) (OutP.list (v := 1) (by kernel_rfl)))
 refine srve 145 [(1, rf 0 0 3 a1), (5, pf a2 0), (7, I (a1.length : Int)), (11, I a2.fKind), (29, B (a2.fKind == 3))] [sl 0 a1] ?_
 refine pc h (fun h => ?_) (fun h => ?_)
 refine pwp_seq ?_
 refine ip 145 [(1, rf 0 0 3 a1), (7, I (a1.length : Int))] [sl 0 a1] ?_
 refine pwp_any ([[0], [], [], [0], [0], [], [], [0], [0], [0], [], [], [0], [0], [], [], [0], [0]]) ([[], [], [], [], [], [], [], [], [], [], [], [], [], [], [], [], [0], []]) rfl (by kernel_rfl) ?_
 refine qv [0] (hL trivial) 1 145 [(31, rf 0 0 3 a1), (1, rf 0 0 3 a1), (7, I (a1.length : Int))] [sl 0 a1] ?_
 refine qv [] trivial 2 145 [(33, I (w64 ((a1.length : Int) - 2))), (31, rf 0 0 3 a1), (1, rf 0 0 3 a1), (7, I (a1.length : Int))] [sl 0 a1] ?_
 obtain ⟨v10, hv11, h⟩ := bindS h
 refine qX (some 34) (rf 0 0 3 v10) 145 [(34, rf 0 0 3 v10), (1, rf 0 0 3 a1), (7, I (a1.length : Int))] [sl 0 a1] (fun Γ' hΓ => CoreE.of_y (slrV_sound (n := a1.length) τ_ok (by kernel_rfl) rfl hv11)) (hL trivial) ?_
 refine qv [0] (hL trivial) 1 145 [(35, rf 0 0 3 a1), (34, rf 0 0 3 v10), (1, rf 0 0 3 a1), (7, I (a1.length : Int))] [sl 0 a1] ?_
 refine qv [] trivial 2 145 [(37, I (w64 ((a1.length : Int) - 2))), (35, rf 0 0 3 a1), (34, rf 0 0 3 v10), (1, rf 0 0 3 a1), (7, I (a1.length : Int))] [sl 0 a1] ?_
 obtain ⟨v12, hv13, h⟩ := bindS h
 refine qX (some 38) (.ptr 0 0 ((w64 ((a1.length : Int) - 2)).toNat * 3)) 145 [(38, .ptr 0 0 ((w64 ((a1.length : Int) - 2)).toNat * 3)), (34, rf 0 0 3 v10), (1, rf 0 0 3 a1), (7, I (a1.length : Int))] [sl 0 a1] (fun Γ' hΓ => CoreE.of_y (idrV_sound (n := a1.length) τ_ok (by kernel_rfl) hv13 rfl)) (hL trivial) ?_
 refine qX (some 39) (E v12) 145 [(39, E v12), (34, rf 0 0 3 v10), (1, rf 0 0 3 a1), (7, I (a1.length : Int))] [sl 0 a1] (fun Γ' hΓ => CoreE.of_y (ldeV_sound (t := 90) (o' := 0) (r := E v12) τ_ok hv13 (by kernel_rfl) (by kernel_rfl))) (hL trivial) ?_
 refine qv [0] (hL trivial) 1 145 [(40, rf 0 0 3 a1), (39, E v12), (34, rf 0 0 3 v10), (7, I (a1.length : Int))] [sl 0 a1] ?_
 refine qv [] trivial 2 145 [(42, I (w64 ((a1.length : Int) - 1))), (40, rf 0 0 3 a1), (39, E v12), (34, rf 0 0 3 v10)] [sl 0 a1] ?_
 obtain ⟨v14, hv15, h⟩ := bindS h
 refine qX (some 43) (.ptr 0 0 ((w64 ((a1.length : Int) - 1)).toNat * 3)) 145 [(43, .ptr 0 0 ((w64 ((a1.length : Int) - 1)).toNat * 3)), (39, E v12), (34, rf 0 0 3 v10)] [sl 0 a1] (fun Γ' hΓ => CoreE.of_y (idrV_sound (n := a1.length) τ_ok (by kernel_rfl) hv15 rfl)) (hL trivial) ?_
 refine qX (some 44) (E v14) 145 [(44, E v14), (39, E v12), (34, rf 0 0 3 v10)] [sl 0 a1] (fun Γ' hΓ => CoreE.of_y (ldeV_sound (t := 90) (o' := 0) (r := E v14) τ_ok hv15 (by kernel_rfl) (by kernel_rfl))) (hL trivial) ?_
 obtain ⟨v16, hv17, h⟩ := bindS h
 refine qX (some 45) (E v16) 145 [(45, E v16), (34, rf 0 0 3 v10)] [sl 0 a1] (fun Γ' hΓ => CoreE.of_g (callV_sound (τ := τ) (by kernel_rfl) rfl (ok_spec_l4Sum hv17) (FzTo.frz rfl))) trivial ?_
 refine qv [] trivial 1 145 [(46, .arr 3 ([v16] : List T_impl_Value).length (eL ([v16] : List T_impl_Value)) true), (34, rf 0 0 3 v10)] [sl 0 a1] ?_
 obtain ⟨v18, hv19, h⟩ := bindS h
 refine qX (some 47) (rf 0 1 3 v18) 145 [(47, rf 0 1 3 v18)] [sl 1 v18] (fun Γ' hΓ => app_E τ_ok 47 0 0 v10.length (ny hΓ hX) hv19 (slI_le hv11) (by kernel_rfl)) (hL trivial) ?_
 refine qvn [0] (hL trivial) 1 145 [(6, rf 0 1 3 v18)] [sl 1 v18] ?_
 have h := si h
 subst h
 exact pwp_ret (rt (rf 0 1 3 v18) (OutP.list (v := 1) (by kernel_rfl)))
 refine srve 145 [(1, rf 0 0 3 a1), (5, pf a2 0), (7, I (a1.length : Int)), (11, I a2.fKind), (48, B (a2.fKind == 4))] [sl 0 a1] ?_
 refine pc h (fun h => ?_) (fun h => ?_)
 refine pwp_seq ?_
 refine ip 145 [(1, rf 0 0 3 a1), (5, pf a2 0), (7, I (a1.length : Int))] [sl 0 a1] ?_
 refine pwp_any ([[0], [], [], [0], [], [], [0], [], [], [0], [0], [0], [], [], [0], [0], [], [], [], [0], [0]]) ([[], [], [], [], [], [], [], [], [], [], [], [], [], [], [], [], [], [], [], [0], []]) rfl (by kernel_rfl) ?_
 refine qv [0] (hL trivial) 1 145 [(50, rf 0 0 3 a1), (1, rf 0 0 3 a1), (5, pf a2 0), (7, I (a1.length : Int))] [sl 0 a1] ?_
 refine qv [] trivial 2 145 [(52, I (w64 ((a1.length : Int) - 2))), (50, rf 0 0 3 a1), (1, rf 0 0 3 a1), (5, pf a2 0), (7, I (a1.length : Int))] [sl 0 a1] ?_
 obtain ⟨v21, hv22, h⟩ := bindS h
 refine qX (some 53) (rf 0 0 3 v21) 145 [(53, rf 0 0 3 v21), (1, rf 0 0 3 a1), (5, pf a2 0), (7, I (a1.length : Int))] [sl 0 a1] (fun Γ' hΓ => CoreE.of_y (slrV_sound (n := a1.length) τ_ok (by kernel_rfl) rfl hv22)) (hL trivial) ?_
 refine qv [] trivial 2 145 [(55, I a2.fN), (53, rf 0 0 3 v21), (1, rf 0 0 3 a1), (7, I (a1.length : Int))] [sl 0 a1] ?_
 refine qv [0] (hL trivial) 1 145 [(56, rf 0 0 3 a1), (55, I a2.fN), (53, rf 0 0 3 v21), (1, rf 0 0 3 a1), (7, I (a1.length : Int))] [sl 0 a1] ?_
 refine qv [] trivial 2 145 [(58, I (w64 ((a1.length : Int) - 2))), (56, rf 0 0 3 a1), (55, I a2.fN), (53, rf 0 0 3 v21), (1, rf 0 0 3 a1), (7, I (a1.length : Int))] [sl 0 a1] ?_
 obtain ⟨v23, hv24, h⟩ := bindS h
 refine qX (some 59) (.ptr 0 0 ((w64 ((a1.length : Int) - 2)).toNat * 3)) 145 [(59, .ptr 0 0 ((w64 ((a1.length : Int) - 2)).toNat * 3)), (55, I a2.fN), (53, rf 0 0 3 v21), (1, rf 0 0 3 a1), (7, I (a1.length : Int))] [sl 0 a1] (fun Γ' hΓ => CoreE.of_y (idrV_sound (n := a1.length) τ_ok (by kernel_rfl) hv24 rfl)) (hL trivial) ?_
 refine qX (some 60) (E v23) 145 [(60, E v23), (55, I a2.fN), (53, rf 0 0 3 v21), (1, rf 0 0 3 a1), (7, I (a1.length : Int))] [sl 0 a1] (fun Γ' hΓ => CoreE.of_y (ldeV_sound (t := 90) (o' := 0) (r := E v23) τ_ok hv24 (by kernel_rfl) (by kernel_rfl))) (hL trivial) ?_
 refine qv [0] (hL trivial) 1 145 [(61, rf 0 0 3 a1), (60, E v23), (55, I a2.fN), (53, rf 0 0 3 v21), (7, I (a1.length : Int))] [sl 0 a1] ?_
 refine qv [] trivial 2 145 [(63, I (w64 ((a1.length : Int) - 1))), (61, rf 0 0 3 a1), (60, E v23), (55, I a2.fN), (53, rf 0 0 3 v21)] [sl 0 a1] ?_
 obtain ⟨v25, hv26, h⟩ := bindS h
 refine qX (some 64) (.ptr 0 0 ((w64 ((a1.length : Int) - 1)).toNat * 3)) 145 [(64, .ptr 0 0 ((w64 ((a1.length : Int) - 1)).toNat * 3)), (60, E v23), (55, I a2.fN), (53, rf 0 0 3 v21)] [sl 0 a1] (fun Γ' hΓ => CoreE.of_y (idrV_sound (n := a1.length) τ_ok (by kernel_rfl) hv26 rfl)) (hL trivial) ?_
 refine qX (some 65) (E v25) 145 [(65, E v25), (60, E v23), (55, I a2.fN), (53, rf 0 0 3 v21)] [sl 0 a1] (fun Γ' hΓ => CoreE.of_y (ldeV_sound (t := 90) (o' := 0) (r := E v25) τ_ok hv26 (by kernel_rfl) (by kernel_rfl))) (hL trivial) ?_
 obtain ⟨v27, hv28, h⟩ := bindS h
 refine qX (some 66) (I v27) 145 [(66, I v27), (53, rf 0 0 3 v21)] [sl 0 a1] (fun Γ' hΓ => CoreE.of_g (callV_sound (τ := τ) (by kernel_rfl) rfl (ok_spec_Compare hv28) (FzTo.frz rfl))) trivial ?_
 obtain ⟨v29, hv30, h⟩ := bindS h
 refine qX (some 67) (E v29) 145 [(67, E v29), (53, rf 0 0 3 v21)] [sl 0 a1] (fun Γ' hΓ => CoreE.of_g (callV_sound (τ := τ) (by kernel_rfl) rfl (ok_spec_ValueOf hv30) (FzTo.frz rfl))) trivial ?_
 refine qv [] trivial 1 145 [(68, .arr 3 ([v29] : List T_impl_Value).length (eL ([v29] : List T_impl_Value)) true), (53, rf 0 0 3 v21)] [sl 0 a1] ?_
 obtain ⟨v31, hv32, h⟩ := bindS h
 refine qX (some 69) (rf 0 1 3 v31) 145 [(69, rf 0 1 3 v31)] [sl 1 v31] (fun Γ' hΓ => app_E τ_ok 69 0 0 v21.length (ny hΓ hX) hv32 (slI_le hv22) (by kernel_rfl)) (hL trivial) ?_
 refine qvn [0] (hL trivial) 1 145 [(6, rf 0 1 3 v31)] [sl 1 v31] ?_
 have h := si h
 subst h
 exact pwp_ret (rt (rf 0 1 3 v31) (OutP.list (v := 1) (by kernel_rfl)))
 refine srve 145 [(1, rf 0 0 3 a1), (7, I (a1.length : Int)), (11, I a2.fKind), (70, B (a2.fKind == 5))] [sl 0 a1] ?_
 refine pc h (fun h => ?_) (fun h => ?_)
 refine pwp_seq ?_
 refine ip 145 [(1, rf 0 0 3 a1), (7, I (a1.length : Int))] [sl 0 a1] ?_
 refine pwp_any ([[0], [], [], [0], [0], [], [], [0], [0], [], [0], [], [], [0], [0], [], [], [], [], [0], [0]]) ([[], [], [], [], [], [], [], [], [], [], [], [], [], [], [], [], [], [], [], [0], []]) rfl (by kernel_rfl) ?_
 refine qv [0] (hL trivial) 1 145 [(72, rf 0 0 3 a1), (1, rf 0 0 3 a1), (7, I (a1.length : Int))] [sl 0 a1] ?_
 refine qv [] trivial 2 145 [(74, I (w64 ((a1.length : Int) - 2))), (72, rf 0 0 3 a1), (1, rf 0 0 3 a1), (7, I (a1.length : Int))] [sl 0 a1] ?_
 obtain ⟨v34, hv35, h⟩ := bindS h
 refine qX (some 75) (rf 0 0 3 v34) 145 [(75, rf 0 0 3 v34), (1, rf 0 0 3 a1), (7, I (a1.length : Int))] [sl 0 a1] (fun Γ' hΓ => CoreE.of_y (slrV_sound (n := a1.length) τ_ok (by kernel_rfl) rfl hv35)) (hL trivial) ?_
 refine qv [0] (hL trivial) 1 145 [(76, rf 0 0 3 a1), (75, rf 0 0 3 v34), (1, rf 0 0 3 a1), (7, I (a1.length : Int))] [sl 0 a1] ?_
 refine qv [] trivial 2 145 [(78, I (w64 ((a1.length : Int) - 2))), (76, rf 0 0 3 a1), (75, rf 0 0 3 v34), (1, rf 0 0 3 a1), (7, I (a1.length : Int))] [sl 0 a1] ?_
 obtain ⟨v36, hv37, h⟩ := bindS h
 refine qX (some 79) (.ptr 0 0 ((w64 ((a1.length : Int) - 2)).toNat * 3)) 145 [(79, .ptr 0 0 ((w64 ((a1.length : Int) - 2)).toNat * 3)), (75, rf 0 0 3 v34), (1, rf 0 0 3 a1), (7, I (a1.length : Int))] [sl 0 a1] (fun Γ' hΓ => CoreE.of_y (idrV_sound (n := a1.length) τ_ok (by kernel_rfl) hv37 rfl)) (hL trivial) ?_
 refine qX (some 80) (E v36) 145 [(80, E v36), (75, rf 0 0 3 v34), (1, rf 0 0 3 a1), (7, I (a1.length : Int))] [sl 0 a1] (fun Γ' hΓ => CoreE.of_y (ldeV_sound (t := 90) (o' := 0) (r := E v36) τ_ok hv37 (by kernel_rfl) (by kernel_rfl))) (hL trivial) ?_
 obtain ⟨v38, hv39, h⟩ := bindS h
 refine qX (some 81) (I v38) 145 [(81, I v38), (75, rf 0 0 3 v34), (1, rf 0 0 3 a1), (7, I (a1.length : Int))] [sl 0 a1] (fun Γ' hΓ => CoreE.of_g (callV_sound (τ := τ) (by kernel_rfl) rfl (ok_spec_TruthOf hv39) (FzTo.frz rfl))) trivial ?_
 refine qv [0] (hL trivial) 1 145 [(82, rf 0 0 3 a1), (81, I v38), (75, rf 0 0 3 v34), (7, I (a1.length : Int))] [sl 0 a1] ?_
 refine qv [] trivial 2 145 [(84, I (w64 ((a1.length : Int) - 1))), (82, rf 0 0 3 a1), (81, I v38), (75, rf 0 0 3 v34)] [sl 0 a1] ?_
 obtain ⟨v40, hv41, h⟩ := bindS h
 refine qX (some 85) (.ptr 0 0 ((w64 ((a1.length : Int) - 1)).toNat * 3)) 145 [(85, .ptr 0 0 ((w64 ((a1.length : Int) - 1)).toNat * 3)), (81, I v38), (75, rf 0 0 3 v34)] [sl 0 a1] (fun Γ' hΓ => CoreE.of_y (idrV_sound (n := a1.length) τ_ok (by kernel_rfl) hv41 rfl)) (hL trivial) ?_
 refine qX (some 86) (E v40) 145 [(86, E v40), (81, I v38), (75, rf 0 0 3 v34)] [sl 0 a1] (fun Γ' hΓ => CoreE.of_y (ldeV_sound (t := 90) (o' := 0) (r := E v40) τ_ok hv41 (by kernel_rfl) (by kernel_rfl))) (hL trivial) ?_
 obtain ⟨v42, hv43, h⟩ := bindS h
 refine qX (some 87) (I v42) 145 [(87, I v42), (81, I v38), (75, rf 0 0 3 v34)] [sl 0 a1] (fun Γ' hΓ => CoreE.of_g (callV_sound (τ := τ) (by kernel_rfl) rfl (ok_spec_TruthOf hv43) (FzTo.frz rfl))) trivial ?_
 obtain ⟨v44, hv45, h⟩ := bindS h
 refine qX (some 88) (I v44) 145 [(88, I v44), (75, rf 0 0 3 v34)] [sl 0 a1] (fun Γ' hΓ => CoreE.of_g (callV_sound (τ := τ) (by kernel_rfl) rfl (ok_spec_AndOf hv45) (FzTo.frz rfl))) trivial ?_
 obtain ⟨v46, hv47, h⟩ := bindS h
 refine qX (some 89) (E v46) 145 [(89, E v46), (75, rf 0 0 3 v34)] [sl 0 a1] (fun Γ' hΓ => CoreE.of_g (callV_sound (τ := τ) (by kernel_rfl) rfl (ok_spec_ValueOf hv47) (FzTo.frz rfl))) trivial ?_
 refine qv [] trivial 1 145 [(90, .arr 3 ([v46] : List T_impl_Value).length (eL ([v46] : List T_impl_Value)) true), (75, rf 0 0 3 v34)] [sl 0 a1] ?_
 obtain ⟨v48, hv49, h⟩ := bindS h
 refine qX (some 91) (rf 0 1 3 v48) 145 [(91, rf 0 1 3 v48)] [sl 1 v48] (fun Γ' hΓ => app_E τ_ok 91 0 0 v34.length (ny hΓ hX) hv49 (slI_le hv35) (by kernel_rfl)) (hL trivial) ?_
 refine qvn [0] (hL trivial) 1 145 [(6, rf 0 1 3 v48)] [sl 1 v48] ?_
 have h := si h
 subst h
 exact pwp_ret (rt (rf 0 1 3 v48) (OutP.list (v := 1) (by kernel_rfl)))
 refine srve 145 [(1, rf 0 0 3 a1), (7, I (a1.length : Int)), (11, I a2.fKind), (92, B (a2.fKind == 6))] [sl 0 a1] ?_
 refine pc h (fun h => ?_) (fun h => ?_)
 refine pwp_seq ?_
 refine ip 145 [(1, rf 0 0 3 a1), (7, I (a1.length : Int))] [sl 0 a1] ?_
 refine pwp_any ([[0], [], [], [0], [0], [], [], [0], [0], [], [0], [], [], [0], [0], [], [], [], [], [0], [0]]) ([[], [], [], [], [], [], [], [], [], [], [], [], [], [], [], [], [], [], [], [0], []]) rfl (by kernel_rfl) ?_
 refine qv [0] (hL trivial) 1 145 [(94, rf 0 0 3 a1), (1, rf 0 0 3 a1), (7, I (a1.length : Int))] [sl 0 a1] ?_
 refine qv [] trivial 2 145 [(96, I (w64 ((a1.length : Int) - 2))), (94, rf 0 0 3 a1), (1, rf 0 0 3 a1), (7, I (a1.length : Int))] [sl 0 a1] ?_
 obtain ⟨v51, hv52, h⟩ := bindS h
 refine qX (some 97) (rf 0 0 3 v51) 145 [(97, rf 0 0 3 v51), (1, rf 0 0 3 a1), (7, I (a1.length : Int))] [sl 0 a1] (fun Γ' hΓ => CoreE.of_y (slrV_sound (n := a1.length) τ_ok (by kernel_rfl) rfl hv52)) (hL trivial) ?_
 refine qv [0] (hL trivial) 1 145 [(98, rf 0 0 3 a1), (97, rf 0 0 3 v51), (1, rf 0 0 3 a1), (7, I (a1.length : Int))] [sl 0 a1] ?_
 refine qv [] trivial 2 145 [(100, I (w64 ((a1.length : Int) - 2))), (98, rf 0 0 3 a1), (97, rf 0 0 3 v51), (1, rf 0 0 3 a1), (7, I (a1.length : Int))] [sl 0 a1] ?_
 obtain ⟨v53, hv54, h⟩ := bindS h
 refine qX (some 101) (.ptr 0 0 ((w64 ((a1.length : Int) - 2)).toNat * 3)) 145 [(101, .ptr 0 0 ((w64 ((a1.length : Int) - 2)).toNat * 3)), (97, rf 0 0 3 v51), (1, rf 0 0 3 a1), (7, I (a1.length : Int))] [sl 0 a1] (fun Γ' hΓ => CoreE.of_y (idrV_sound (n := a1.length) τ_ok (by kernel_rfl) hv54 rfl)) (hL trivial) ?_
 refine qX (some 102) (E v53) 145 [(102, E v53), (97, rf 0 0 3 v51), (1, rf 0 0 3 a1), (7, I (a1.length : Int))] [sl 0 a1] (fun Γ' hΓ => CoreE.of_y (ldeV_sound (t := 90) (o' := 0) (r := E v53) τ_ok hv54 (by kernel_rfl) (by kernel_rfl))) (hL trivial) ?_
 obtain ⟨v55, hv56, h⟩ := bindS h
 refine qX (some 103) (I v55) 145 [(103, I v55), (97, rf 0 0 3 v51), (1, rf 0 0 3 a1), (7, I (a1.length : Int))] [sl 0 a1] (fun Γ' hΓ => CoreE.of_g (callV_sound (τ := τ) (by kernel_rfl) rfl (ok_spec_TruthOf hv56) (FzTo.frz rfl))) trivial ?_
 refine qv [0] (hL trivial) 1 145 [(104, rf 0 0 3 a1), (103, I v55), (97, rf 0 0 3 v51), (7, I (a1.length : Int))] [sl 0 a1] ?_
 refine qv [] trivial 2 145 [(106, I (w64 ((a1.length : Int) - 1))), (104, rf 0 0 3 a1), (103, I v55), (97, rf 0 0 3 v51)] [sl 0 a1] ?_
 obtain ⟨v57, hv58, h⟩ := bindS h
 refine qX (some 107) (.ptr 0 0 ((w64 ((a1.length : Int) - 1)).toNat * 3)) 145 [(107, .ptr 0 0 ((w64 ((a1.length : Int) - 1)).toNat * 3)), (103, I v55), (97, rf 0 0 3 v51)] [sl 0 a1] (fun Γ' hΓ => CoreE.of_y (idrV_sound (n := a1.length) τ_ok (by kernel_rfl) hv58 rfl)) (hL trivial) ?_
 refine qX (some 108) (E v57) 145 [(108, E v57), (103, I v55), (97, rf 0 0 3 v51)] [sl 0 a1] (fun Γ' hΓ => CoreE.of_y (ldeV_sound (t := 90) (o' := 0) (r := E v57) τ_ok hv58 (by kernel_rfl) (by kernel_rfl))) (hL trivial) ?_
 obtain ⟨v59, hv60, h⟩ := bindS h
 refine qX (some 109) (I v59) 145 [(109, I v59), (103, I v55), (97, rf 0 0 3 v51)] [sl 0 a1] (fun Γ' hΓ => CoreE.of_g (callV_sound (τ := τ) (by kernel_rfl) rfl (ok_spec_TruthOf hv60) (FzTo.frz rfl))) trivial ?_
 obtain ⟨v61, hv62, h⟩ := bindS h
 refine qX (some 110) (I v61) 145 [(110, I v61), (97, rf 0 0 3 v51)] [sl 0 a1] (fun Γ' hΓ => CoreE.of_g (callV_sound (τ := τ) (by kernel_rfl) rfl (ok_spec_OrOf hv62) (FzTo.frz rfl))) trivial ?_
 obtain ⟨v63, hv64, h⟩ := bindS h
 refine qX (some 111) (E v63) 145 [(111, E v63), (97, rf 0 0 3 v51)] [sl 0 a1] (fun Γ' hΓ => CoreE.of_g (callV_sound (τ := τ) (by kernel_rfl) rfl (ok_spec_ValueOf hv64) (FzTo.frz rfl))) trivial ?_
 refine qv [] trivial 1 145 [(112, .arr 3 ([v63] : List T_impl_Value).length (eL ([v63] : List T_impl_Value)) true), (97, rf 0 0 3 v51)] [sl 0 a1] ?_
 obtain ⟨v65, hv66, h⟩ := bindS h
 refine qX (some 113) (rf 0 1 3 v65) 145 [(113, rf 0 1 3 v65)] [sl 1 v65] (fun Γ' hΓ => app_E τ_ok 113 0 0 v51.length (ny hΓ hX) hv66 (slI_le hv52) (by kernel_rfl)) (hL trivial) ?_
 refine qvn [0] (hL trivial) 1 145 [(6, rf 0 1 3 v65)] [sl 1 v65] ?_
 have h := si h
 subst h
 exact pwp_ret (rt (rf 0 1 3 v65) (OutP.list (v := 1) (by kernel_rfl)))
 refine srve 145 [(1, rf 0 0 3 a1), (7, I (a1.length : Int)), (114, B (a2.fKind == 7))] [sl 0 a1] ?_
 refine pc h (fun h => ?_) (fun h => ?_)
 refine pwp_seq ?_
 refine ip 145 [(1, rf 0 0 3 a1), (7, I (a1.length : Int))] [sl 0 a1] ?_
 refine pwp_any ([[0], [], [], [0], [0], [], [], [0], [0], [], [], [], [], [0], [0]]) ([[], [], [], [], [], [], [], [], [], [], [], [], [], [0], []]) rfl (by kernel_rfl) ?_
 refine qv [0] (hL trivial) 1 145 [(116, rf 0 0 3 a1), (1, rf 0 0 3 a1), (7, I (a1.length : Int))] [sl 0 a1] ?_
 refine qv [] trivial 2 145 [(118, I (w64 ((a1.length : Int) - 1))), (116, rf 0 0 3 a1), (1, rf 0 0 3 a1), (7, I (a1.length : Int))] [sl 0 a1] ?_
 obtain ⟨v68, hv69, h⟩ := bindS h
 refine qX (some 119) (rf 0 0 3 v68) 145 [(119, rf 0 0 3 v68), (1, rf 0 0 3 a1), (7, I (a1.length : Int))] [sl 0 a1] (fun Γ' hΓ => CoreE.of_y (slrV_sound (n := a1.length) τ_ok (by kernel_rfl) rfl hv69)) (hL trivial) ?_
 refine qv [0] (hL trivial) 1 145 [(120, rf 0 0 3 a1), (119, rf 0 0 3 v68), (7, I (a1.length : Int))] [sl 0 a1] ?_
 refine qv [] trivial 2 145 [(122, I (w64 ((a1.length : Int) - 1))), (120, rf 0 0 3 a1), (119, rf 0 0 3 v68)] [sl 0 a1] ?_
 obtain ⟨v70, hv71, h⟩ := bindS h
 refine qX (some 123) (.ptr 0 0 ((w64 ((a1.length : Int) - 1)).toNat * 3)) 145 [(123, .ptr 0 0 ((w64 ((a1.length : Int) - 1)).toNat * 3)), (119, rf 0 0 3 v68)] [sl 0 a1] (fun Γ' hΓ => CoreE.of_y (idrV_sound (n := a1.length) τ_ok (by kernel_rfl) hv71 rfl)) (hL trivial) ?_
 refine qX (some 124) (E v70) 145 [(124, E v70), (119, rf 0 0 3 v68)] [sl 0 a1] (fun Γ' hΓ => CoreE.of_y (ldeV_sound (t := 90) (o' := 0) (r := E v70) τ_ok hv71 (by kernel_rfl) (by kernel_rfl))) (hL trivial) ?_
 obtain ⟨v72, hv73, h⟩ := bindS h
 refine qX (some 125) (I v72) 145 [(125, I v72), (119, rf 0 0 3 v68)] [sl 0 a1] (fun Γ' hΓ => CoreE.of_g (callV_sound (τ := τ) (by kernel_rfl) rfl (ok_spec_TruthOf hv73) (FzTo.frz rfl))) trivial ?_
 obtain ⟨v74, hv75, h⟩ := bindS h
 refine qX (some 126) (I v74) 145 [(126, I v74), (119, rf 0 0 3 v68)] [sl 0 a1] (fun Γ' hΓ => CoreE.of_g (callV_sound (τ := τ) (by kernel_rfl) rfl (ok_spec_NotOf hv75) (FzTo.frz rfl))) trivial ?_
 obtain ⟨v76, hv77, h⟩ := bindS h
 refine qX (some 127) (E v76) 145 [(127, E v76), (119, rf 0 0 3 v68)] [sl 0 a1] (fun Γ' hΓ => CoreE.of_g (callV_sound (τ := τ) (by kernel_rfl) rfl (ok_spec_ValueOf hv77) (FzTo.frz rfl))) trivial ?_
 refine qv [] trivial 1 145 [(128, .arr 3 ([v76] : List T_impl_Value).length (eL ([v76] : List T_impl_Value)) true), (119, rf 0 0 3 v68)] [sl 0 a1] ?_
 obtain ⟨v78, hv79, h⟩ := bindS h
 refine qX (some 129) (rf 0 1 3 v78) 145 [(129, rf 0 1 3 v78)] [sl 1 v78] (fun Γ' hΓ => app_E τ_ok 129 0 0 v68.length (ny hΓ hX) hv79 (slI_le hv69) (by kernel_rfl)) (hL trivial) ?_
 refine qvn [0] (hL trivial) 1 145 [(6, rf 0 1 3 v78)] [sl 1 v78] ?_
 have h := si h
 subst h
 exact pwp_ret (rt (rf 0 1 3 v78) (OutP.list (v := 1) (by kernel_rfl)))
 refine pwp_skip ?_
 refine pwp_seq ?_
 refine ip 145 [(1, rf 0 0 3 a1), (7, I (a1.length : Int))] [sl 0 a1] ?_
 refine pwp_any ([[0], [], [], [0], [0], [], [], [0], [0], [0], [], [], [], [], [0], [0]]) ([[], [], [], [], [], [], [], [], [], [], [], [], [], [], [0], []]) rfl (by kernel_rfl) ?_
 refine qv [0] (hL trivial) 1 145 [(130, rf 0 0 3 a1), (1, rf 0 0 3 a1), (7, I (a1.length : Int))] [sl 0 a1] ?_
 refine qv [] trivial 2 145 [(132, I (w64 ((a1.length : Int) - 1))), (130, rf 0 0 3 a1), (1, rf 0 0 3 a1), (7, I (a1.length : Int))] [sl 0 a1] ?_
 obtain ⟨v80, hv81, h⟩ := bindS h
 refine qX (some 133) (rf 0 0 3 v80) 145 [(133, rf 0 0 3 v80), (1, rf 0 0 3 a1), (7, I (a1.length : Int))] [sl 0 a1] (fun Γ' hΓ => CoreE.of_y (slrV_sound (n := a1.length) τ_ok (by kernel_rfl) rfl hv81)) (hL trivial) ?_
 refine qv [0] (hL trivial) 1 145 [(134, rf 0 0 3 a1), (133, rf 0 0 3 v80), (7, I (a1.length : Int))] [sl 0 a1] ?_
 refine qv [] trivial 2 145 [(136, I (w64 ((a1.length : Int) - 1))), (134, rf 0 0 3 a1), (133, rf 0 0 3 v80)] [sl 0 a1] ?_
 obtain ⟨v82, hv83, h⟩ := bindS h
 refine qX (some 137) (.ptr 0 0 ((w64 ((a1.length : Int) - 1)).toNat * 3)) 145 [(137, .ptr 0 0 ((w64 ((a1.length : Int) - 1)).toNat * 3)), (133, rf 0 0 3 v80)] [sl 0 a1] (fun Γ' hΓ => CoreE.of_y (idrV_sound (n := a1.length) τ_ok (by kernel_rfl) hv83 rfl)) (hL trivial) ?_
 refine qv [0] (hL trivial) 1 145 [(138, .ptr 0 0 ((w64 ((a1.length : Int) - 1)).toNat * 3)), (133, rf 0 0 3 v80)] [sl 0 a1] ?_
 refine qX (some 139) (I v82.fKind) 145 [(139, I v82.fKind), (133, rf 0 0 3 v80)] [sl 0 a1] (fun Γ' hΓ => CoreE.of_y (ldeV_sound (t := 3) (o' := 0) (r := I v82.fKind) τ_ok hv83 (by kernel_rfl) (by kernel_rfl))) (hL trivial) ?_
 refine qv [] trivial 1 145 [(140, B (v82.fKind == 0)), (133, rf 0 0 3 v80)] [sl 0 a1] ?_
 obtain ⟨v84, hv85, h⟩ := bindS h
 refine qX (some 141) (I v84) 145 [(141, I v84), (133, rf 0 0 3 v80)] [sl 0 a1] (fun Γ' hΓ => CoreE.of_g (callV_sound (τ := τ) (by kernel_rfl) rfl (ok_spec_l2Bool hv85) (FzTo.frz rfl))) trivial ?_
 obtain ⟨v86, hv87, h⟩ := bindS h
 refine qX (some 142) (E v86) 145 [(142, E v86), (133, rf 0 0 3 v80)] [sl 0 a1] (fun Γ' hΓ => CoreE.of_g (callV_sound (τ := τ) (by kernel_rfl) rfl (ok_spec_ValueOf hv87) (FzTo.frz rfl))) trivial ?_
 refine qv [] trivial 1 145 [(143, .arr 3 ([v86] : List T_impl_Value).length (eL ([v86] : List T_impl_Value)) true), (133, rf 0 0 3 v80)] [sl 0 a1] ?_
 obtain ⟨v88, hv89, h⟩ := bindS h
 refine qX (some 144) (rf 0 1 3 v88) 145 [(144, rf 0 1 3 v88)] [sl 1 v88] (fun Γ' hΓ => app_E τ_ok 144 0 0 v80.length (ny hΓ hX) hv89 (slI_le hv81) (by kernel_rfl)) (hL trivial) ?_
 refine qvn [0] (hL trivial) 1 145 [(6, rf 0 1 3 v88)] [sl 1 v88] ?_
 have h := si h
 subst h
 exact pwp_ret (rt (rf 0 1 3 v88) (OutP.list (v := 1) (by kernel_rfl)))
def impl_Compare_j1 (a0 : Int) (a1 : T_impl_Value) (a2 : T_impl_Value) (x3 : Bool) : Option Int := bif x3 then some 2 else bif (!(a1.fKind == a2.fKind)) then some (-1) else (impl_Value_order a1 a2).bind fun v6 => bif (a0 == 1) then bif (v6 == 0) then (impl_truthIf true).bind fun v8 => some v8 else bif (a0 == 2) then bif (!(v6 == 0)) then (impl_truthIf true).bind fun v10 => some v10 else bif (a0 == 3) then bif (decide (v6 < 0)) then (impl_truthIf true).bind fun v12 => some v12 else bif (a0 == 4) then (impl_truthIf (decide (v6 ≤ 0))).bind fun v14 => some v14 else (impl_truthIf false).bind fun v16 => some v16 else bif (a0 == 4) then (impl_truthIf (decide (v6 ≤ 0))).bind fun v20 => some v20 else (impl_truthIf false).bind fun v22 => some v22 else bif (a0 == 3) then bif (decide (v6 < 0)) then (impl_truthIf true).bind fun v27 => some v27 else bif (a0 == 4) then (impl_truthIf (decide (v6 ≤ 0))).bind fun v29 => some v29 else (impl_truthIf false).bind fun v31 => some v31 else bif (a0 == 4) then (impl_truthIf (decide (v6 ≤ 0))).bind fun v35 => some v35 else (impl_truthIf false).bind fun v37 => some v37 else bif (a0 == 2) then bif (!(v6 == 0)) then (impl_truthIf true).bind fun v43 => some v43 else bif (a0 == 3) then bif (decide (v6 < 0)) then (impl_truthIf true).bind fun v45 => some v45 else bif (a0 == 4) then (impl_truthIf (decide (v6 ≤ 0))).bind fun v47 => some v47 else (impl_truthIf false).bind fun v49 => some v49 else bif (a0 == 4) then (impl_truthIf (decide (v6 ≤ 0))).bind fun v53 => some v53 else (impl_truthIf false).bind fun v55 => some v55 else bif (a0 == 3) then bif (decide (v6 < 0)) then (impl_truthIf true).bind fun v60 => some v60 else bif (a0 == 4) then (impl_truthIf (decide (v6 ≤ 0))).bind fun v62 => some v62 else (impl_truthIf false).bind fun v64 => some v64 else bif (a0 == 4) then (impl_truthIf (decide (v6 ≤ 0))).bind fun v68 => some v68 else (impl_truthIf false).bind fun v70 => some v70
def impl_Compare_j0 (a0 : Int) (a1 : T_impl_Value) (a2 : T_impl_Value) (x1 : Bool) : Option Int := bif x1 then some (-1) else bif (a1.fKind == 0) then impl_Compare_j1 a0 a1 a2 true else impl_Compare_j1 a0 a1 a2 (a2.fKind == 0)
def impl_Compare (a0 : Int) (a1 : T_impl_Value) (a2 : T_impl_Value) : Option Int := (impl_between a0 1 4).bind fun v77 => bif (!v77) then impl_Compare_j0 a0 a1 a2 true else (impl_Value_ok a1).bind fun v79 => bif (!v79) then impl_Compare_j0 a0 a1 a2 true else (impl_Value_ok a2).bind fun v81 => impl_Compare_j0 a0 a1 a2 (!v81)
theorem ok_impl_Compare {a0 : Int} {a1 : T_impl_Value} {a2 : T_impl_Value} {y : Int} (h : impl_Compare a0 a1 a2 = some y) : OK Tryz.prog 180 [I a0, E a1, E a2] (I y) := by
 refine ow Tryz.func180 fun Γ hX => ?_
 unfold impl_Compare at h
 refine srve 71 [(0, I a0), (4, pf a1 0), (5, pf a2 0)] [] ?_
 refine pwp_seq ?_
 refine pwp_block ?_
 refine pwp_seq ?_
 refine pwp_join (σ := Bool) (fun x1 => (⟨71, [(0, I a0), (4, pf a1 0), (5, pf a2 0), (8, B x1)], []⟩ : St)) (fun x1 => impl_Compare_j0 a0 a1 a2 x1 = some y) ?_ ?_
 refine rv 1 71 [(0, I a0), (4, pf a1 0), (5, pf a2 0), (9, I a0)] [] ?_
 obtain ⟨v77, hv78, h⟩ := bindS h
 refine cF 10 (ok_impl_between hv78) ?_
 refine v 2 71 [(0, I a0), (4, pf a1 0), (5, pf a2 0), (12, B (!v77))] [] ?_
 rcases fk (!v77) with hc84 | hc84
 replace h := bT hc84 h
 rw [hc84]
 refine ve 10 71 [(0, I a0), (4, pf a1 0), (5, pf a2 0), (8, B true)] [] ?_
 exact ⟨true, h, it [0, 4, 5, 8]⟩
 replace h := bF hc84 h
 rw [hc84]
 refine v 1 71 [(0, I a0), (4, pf a1 0), (5, pf a2 0), (12, B false), (13, E a1)] [] ?_
 obtain ⟨v79, hv80, h⟩ := bindS h
 refine cF 14 (ok_impl_Value_ok hv80) ?_
 refine v 3 71 [(0, I a0), (4, pf a1 0), (5, pf a2 0), (17, B (!v79))] [] ?_
 rcases fk (!v79) with hc83 | hc83
 replace h := bT hc83 h
 rw [hc83]
 refine ve 5 71 [(0, I a0), (4, pf a1 0), (5, pf a2 0), (8, B true)] [] ?_
 exact ⟨true, h, it [0, 4, 5, 8]⟩
 replace h := bF hc83 h
 rw [hc83]
 refine v 1 71 [(0, I a0), (4, pf a1 0), (5, pf a2 0), (17, B false), (18, E a2)] [] ?_
 obtain ⟨v81, hv82, h⟩ := bindS h
 refine cF 19 (ok_impl_Value_ok hv82) ?_
 refine ve 3 71 [(0, I a0), (4, pf a1 0), (5, pf a2 0), (8, B (!v81))] [] ?_
 exact ⟨(!v81), h, it [0, 4, 5, 8]⟩
 rintro x1 h
 unfold impl_Compare_j0 at h
 refine pc h (fun h => ?_) (fun h => ?_)
 refine srve 71 [(6, I (-1))] [] ?_
 cases h
 exact pwp_ret rz
 refine pwp_seq ?_
 refine pwp_join (σ := Bool) (fun x3 => (⟨71, [(0, I a0), (4, pf a1 0), (5, pf a2 0), (22, B x3)], []⟩ : St)) (fun x3 => impl_Compare_j1 a0 a1 a2 x3 = some y) ?_ ?_
 refine rv 4 71 [(0, I a0), (4, pf a1 0), (5, pf a2 0), (26, B (a1.fKind == 0))] [] ?_
 rcases fk (a1.fKind == 0) with hc76 | hc76
 replace h := bT hc76 h
 rw [hc76]
 refine ve 5 71 [(0, I a0), (4, pf a1 0), (5, pf a2 0), (22, B true)] [] ?_
 exact ⟨true, h, it [0, 4, 5, 22]⟩
 replace h := bF hc76 h
 rw [hc76]
 refine ve 5 71 [(0, I a0), (4, pf a1 0), (5, pf a2 0), (22, B (a2.fKind == 0))] [] ?_
 exact ⟨(a2.fKind == 0), h, it [0, 4, 5, 22]⟩
 rintro x3 h
 unfold impl_Compare_j1 at h
 refine pc h (fun h => ?_) (fun h => ?_)
 refine srve 71 [(6, I 2)] [] ?_
 cases h
 exact pwp_ret rz
 refine srve 71 [(0, I a0), (4, pf a1 0), (5, pf a2 0), (31, B (!(a1.fKind == a2.fKind)))] [] ?_
 refine pc h (fun h => ?_) (fun h => ?_)
 refine srve 71 [(6, I (-1))] [] ?_
 cases h
 exact pwp_ret rz
 refine pwp_skip ?_
 refine srv 2 71 [(0, I a0), (37, E a1), (38, E a2)] [] ?_
 obtain ⟨v6, hv7, h⟩ := bindS h
 refine cF 39 (ok_impl_Value_order hv7) ?_
 refine ve 1 71 [(0, I a0), (7, I v6)] [] ?_
 refine srv 3 71 [(0, I a0), (7, I v6), (42, B (a0 == 1))] [] ?_
 rcases fk (a0 == 1) with hc75 | hc75
 replace h := bT hc75 h
 rw [hc75]
 refine v 4 71 [(0, I a0), (7, I v6), (46, B (v6 == 0))] [] ?_
 rcases fk (v6 == 0) with hc42 | hc42
 replace h := bT hc42 h
 rw [hc42]
 refine v 23 71 [(69, B true)] [] ?_
 obtain ⟨v8, hv9, h⟩ := bindS h
 refine cF 70 (ok_impl_truthIf hv9) ?_
 refine ve 1 71 [(6, I v8)] [] ?_
 cases h
 exact pwp_ret rz
 replace h := bF hc42 h
 rw [hc42]
 refine v 3 71 [(0, I a0), (7, I v6), (46, B false), (49, B (a0 == 2))] [] ?_
 rcases fk (a0 == 2) with hc41 | hc41
 replace h := bT hc41 h
 rw [hc41]
 refine v 5 71 [(0, I a0), (7, I v6), (54, B (!(v6 == 0)))] [] ?_
 rcases fk (!(v6 == 0)) with hc26 | hc26
 replace h := bT hc26 h
 rw [hc26]
 refine v 15 71 [(69, B true)] [] ?_
 obtain ⟨v10, hv11, h⟩ := bindS h
 refine cF 70 (ok_impl_truthIf hv11) ?_
 refine ve 1 71 [(6, I v10)] [] ?_
 cases h
 exact pwp_ret rz
 replace h := bF hc26 h
 rw [hc26]
 refine v 3 71 [(0, I a0), (7, I v6), (54, B false), (57, B (a0 == 3))] [] ?_
 rcases fk (a0 == 3) with hc25 | hc25
 replace h := bT hc25 h
 rw [hc25]
 refine v 5 71 [(0, I a0), (7, I v6), (62, B (decide (v6 < 0)))] [] ?_
 rcases fk (decide (v6 < 0)) with hc19 | hc19
 replace h := bT hc19 h
 rw [hc19]
 refine v 7 71 [(69, B true)] [] ?_
 obtain ⟨v12, hv13, h⟩ := bindS h
 refine cF 70 (ok_impl_truthIf hv13) ?_
 refine ve 1 71 [(6, I v12)] [] ?_
 cases h
 exact pwp_ret rz
 replace h := bF hc19 h
 rw [hc19]
 refine v 3 71 [(7, I v6), (62, B false), (65, B (a0 == 4))] [] ?_
 rcases fk (a0 == 4) with hc18 | hc18
 replace h := bT hc18 h
 rw [hc18]
 refine v 4 71 [(69, B (decide (v6 ≤ 0)))] [] ?_
 obtain ⟨v14, hv15, h⟩ := bindS h
 refine cF 70 (ok_impl_truthIf hv15) ?_
 refine ve 1 71 [(6, I v14)] [] ?_
 cases h
 exact pwp_ret rz
 replace h := bF hc18 h
 rw [hc18]
 refine v 4 71 [(69, B false)] [] ?_
 obtain ⟨v16, hv17, h⟩ := bindS h
 refine cF 70 (ok_impl_truthIf hv17) ?_
 refine ve 1 71 [(6, I v16)] [] ?_
 cases h
 exact pwp_ret rz
 replace h := bF hc25 h
 rw [hc25]
 refine v 8 71 [(7, I v6), (62, B false), (65, B (a0 == 4))] [] ?_
 rcases fk (a0 == 4) with hc24 | hc24
 replace h := bT hc24 h
 rw [hc24]
 refine v 4 71 [(69, B (decide (v6 ≤ 0)))] [] ?_
 obtain ⟨v20, hv21, h⟩ := bindS h
 refine cF 70 (ok_impl_truthIf hv21) ?_
 refine ve 1 71 [(6, I v20)] [] ?_
 cases h
 exact pwp_ret rz
 replace h := bF hc24 h
 rw [hc24]
 refine v 4 71 [(69, B false)] [] ?_
 obtain ⟨v22, hv23, h⟩ := bindS h
 refine cF 70 (ok_impl_truthIf hv23) ?_
 refine ve 1 71 [(6, I v22)] [] ?_
 cases h
 exact pwp_ret rz
 replace h := bF hc41 h
 rw [hc41]
 refine v 8 71 [(0, I a0), (7, I v6), (54, B false), (57, B (a0 == 3))] [] ?_
 rcases fk (a0 == 3) with hc40 | hc40
 replace h := bT hc40 h
 rw [hc40]
 refine v 5 71 [(0, I a0), (7, I v6), (62, B (decide (v6 < 0)))] [] ?_
 rcases fk (decide (v6 < 0)) with hc34 | hc34
 replace h := bT hc34 h
 rw [hc34]
 refine v 7 71 [(69, B true)] [] ?_
 obtain ⟨v27, hv28, h⟩ := bindS h
 refine cF 70 (ok_impl_truthIf hv28) ?_
 refine ve 1 71 [(6, I v27)] [] ?_
 cases h
 exact pwp_ret rz
 replace h := bF hc34 h
 rw [hc34]
 refine v 3 71 [(7, I v6), (62, B false), (65, B (a0 == 4))] [] ?_
 rcases fk (a0 == 4) with hc33 | hc33
 replace h := bT hc33 h
 rw [hc33]
 refine v 4 71 [(69, B (decide (v6 ≤ 0)))] [] ?_
 obtain ⟨v29, hv30, h⟩ := bindS h
 refine cF 70 (ok_impl_truthIf hv30) ?_
 refine ve 1 71 [(6, I v29)] [] ?_
 cases h
 exact pwp_ret rz
 replace h := bF hc33 h
 rw [hc33]
 refine v 4 71 [(69, B false)] [] ?_
 obtain ⟨v31, hv32, h⟩ := bindS h
 refine cF 70 (ok_impl_truthIf hv32) ?_
 refine ve 1 71 [(6, I v31)] [] ?_
 cases h
 exact pwp_ret rz
 replace h := bF hc40 h
 rw [hc40]
 refine v 8 71 [(7, I v6), (62, B false), (65, B (a0 == 4))] [] ?_
 rcases fk (a0 == 4) with hc39 | hc39
 replace h := bT hc39 h
 rw [hc39]
 refine v 4 71 [(69, B (decide (v6 ≤ 0)))] [] ?_
 obtain ⟨v35, hv36, h⟩ := bindS h
 refine cF 70 (ok_impl_truthIf hv36) ?_
 refine ve 1 71 [(6, I v35)] [] ?_
 cases h
 exact pwp_ret rz
 replace h := bF hc39 h
 rw [hc39]
 refine v 4 71 [(69, B false)] [] ?_
 obtain ⟨v37, hv38, h⟩ := bindS h
 refine cF 70 (ok_impl_truthIf hv38) ?_
 refine ve 1 71 [(6, I v37)] [] ?_
 cases h
 exact pwp_ret rz
 replace h := bF hc75 h
 rw [hc75]
 refine v 7 71 [(0, I a0), (7, I v6), (46, B false), (49, B (a0 == 2))] [] ?_
 rcases fk (a0 == 2) with hc74 | hc74
 replace h := bT hc74 h
 rw [hc74]
 refine v 5 71 [(0, I a0), (7, I v6), (54, B (!(v6 == 0)))] [] ?_
 rcases fk (!(v6 == 0)) with hc59 | hc59
 replace h := bT hc59 h
 rw [hc59]
 refine v 15 71 [(69, B true)] [] ?_
 obtain ⟨v43, hv44, h⟩ := bindS h
 refine cF 70 (ok_impl_truthIf hv44) ?_
 refine ve 1 71 [(6, I v43)] [] ?_
 cases h
 exact pwp_ret rz
 replace h := bF hc59 h
 rw [hc59]
 refine v 3 71 [(0, I a0), (7, I v6), (54, B false), (57, B (a0 == 3))] [] ?_
 rcases fk (a0 == 3) with hc58 | hc58
 replace h := bT hc58 h
 rw [hc58]
 refine v 5 71 [(0, I a0), (7, I v6), (62, B (decide (v6 < 0)))] [] ?_
 rcases fk (decide (v6 < 0)) with hc52 | hc52
 replace h := bT hc52 h
 rw [hc52]
 refine v 7 71 [(69, B true)] [] ?_
 obtain ⟨v45, hv46, h⟩ := bindS h
 refine cF 70 (ok_impl_truthIf hv46) ?_
 refine ve 1 71 [(6, I v45)] [] ?_
 cases h
 exact pwp_ret rz
 replace h := bF hc52 h
 rw [hc52]
 refine v 3 71 [(7, I v6), (62, B false), (65, B (a0 == 4))] [] ?_
 rcases fk (a0 == 4) with hc51 | hc51
 replace h := bT hc51 h
 rw [hc51]
 refine v 4 71 [(69, B (decide (v6 ≤ 0)))] [] ?_
 obtain ⟨v47, hv48, h⟩ := bindS h
 refine cF 70 (ok_impl_truthIf hv48) ?_
 refine ve 1 71 [(6, I v47)] [] ?_
 cases h
 exact pwp_ret rz
 replace h := bF hc51 h
 rw [hc51]
 refine v 4 71 [(69, B false)] [] ?_
 obtain ⟨v49, hv50, h⟩ := bindS h
 refine cF 70 (ok_impl_truthIf hv50) ?_
 refine ve 1 71 [(6, I v49)] [] ?_
 cases h
 exact pwp_ret rz
 replace h := bF hc58 h
 rw [hc58]
 refine v 8 71 [(7, I v6), (62, B false), (65, B (a0 == 4))] [] ?_
 rcases fk (a0 == 4) with hc57 | hc57
 replace h := bT hc57 h
 rw [hc57]
 refine v 4 71 [(69, B (decide (v6 ≤ 0)))] [] ?_
 obtain ⟨v53, hv54, h⟩ := bindS h
 refine cF 70 (ok_impl_truthIf hv54) ?_
 refine ve 1 71 [(6, I v53)] [] ?_
 cases h
 exact pwp_ret rz
 replace h := bF hc57 h
 rw [hc57]
 refine v 4 71 [(69, B false)] [] ?_
 obtain ⟨v55, hv56, h⟩ := bindS h
 refine cF 70 (ok_impl_truthIf hv56) ?_
 refine ve 1 71 [(6, I v55)] [] ?_
 cases h
 exact pwp_ret rz
 replace h := bF hc74 h
 rw [hc74]
 refine v 8 71 [(0, I a0), (7, I v6), (54, B false), (57, B (a0 == 3))] [] ?_
 rcases fk (a0 == 3) with hc73 | hc73
 replace h := bT hc73 h
 rw [hc73]
 refine v 5 71 [(0, I a0), (7, I v6), (62, B (decide (v6 < 0)))] [] ?_
 rcases fk (decide (v6 < 0)) with hc67 | hc67
 replace h := bT hc67 h
 rw [hc67]
 refine v 7 71 [(69, B true)] [] ?_
 obtain ⟨v60, hv61, h⟩ := bindS h
 refine cF 70 (ok_impl_truthIf hv61) ?_
 refine ve 1 71 [(6, I v60)] [] ?_
 cases h
 exact pwp_ret rz
 replace h := bF hc67 h
 rw [hc67]
 refine v 3 71 [(7, I v6), (62, B false), (65, B (a0 == 4))] [] ?_
 rcases fk (a0 == 4) with hc66 | hc66
 replace h := bT hc66 h
 rw [hc66]
 refine v 4 71 [(69, B (decide (v6 ≤ 0)))] [] ?_
 obtain ⟨v62, hv63, h⟩ := bindS h
 refine cF 70 (ok_impl_truthIf hv63) ?_
 refine ve 1 71 [(6, I v62)] [] ?_
 cases h
 exact pwp_ret rz
 replace h := bF hc66 h
 rw [hc66]
 refine v 4 71 [(69, B false)] [] ?_
 obtain ⟨v64, hv65, h⟩ := bindS h
 refine cF 70 (ok_impl_truthIf hv65) ?_
 refine ve 1 71 [(6, I v64)] [] ?_
 cases h
 exact pwp_ret rz
 replace h := bF hc73 h
 rw [hc73]
 refine v 8 71 [(7, I v6), (62, B false), (65, B (a0 == 4))] [] ?_
 rcases fk (a0 == 4) with hc72 | hc72
 replace h := bT hc72 h
 rw [hc72]
 refine v 4 71 [(69, B (decide (v6 ≤ 0)))] [] ?_
 obtain ⟨v68, hv69, h⟩ := bindS h
 refine cF 70 (ok_impl_truthIf hv69) ?_
 refine ve 1 71 [(6, I v68)] [] ?_
 cases h
 exact pwp_ret rz
 replace h := bF hc72 h
 rw [hc72]
 refine v 4 71 [(69, B false)] [] ?_
 obtain ⟨v70, hv71, h⟩ := bindS h
 refine cF 70 (ok_impl_truthIf hv71) ?_
 refine ve 1 71 [(6, I v70)] [] ?_
 cases h
 exact pwp_ret rz
def spec_DrawBondBroken (a0 : List UInt8) : Option ((List T_impl_Table) × T_impl_Bond) := (spec_l20Open a0).bind fun v1 => (spec_l20Tables v1 0).bind fun v3 => (spec_l20Bond v3.2 v3.1 15).bind fun v5 => some (v3.1, v5.1)
theorem ok_spec_DrawBondBroken {a0 : List UInt8} {y : (List T_impl_Table) × T_impl_Bond} (h : spec_DrawBondBroken a0 = some y) : OK Tryz.prog 17 [A a0] (.tup [A y.1, E y.2]) := by
 refine ow Tryz.func17 fun Γ hX => ?_
 unfold spec_DrawBondBroken at h
 refine srveM [3] 14 [(0, A a0), (3, .ptr 0 0 0)] [some ⟨0, Enc.cells (T_impl_Bond.mk 0 0 [] 0 [] false [])⟩] ?_
 refine srvM [3] 1 14 [(3, .ptr 0 0 0), (6, A a0)] [some ⟨0, Enc.cells (T_impl_Bond.mk 0 0 [] 0 [] false [])⟩] ?_
 obtain ⟨v1, hv2, h⟩ := bindS h
 refine opsP_callO τ 7 (ok_spec_l20Open hv2) rfl (by kernel_rfl) ?_
 refine veM [3] 1 14 [(3, .ptr 0 0 0), (4, .ptr 1 0 0)] [some ⟨0, Enc.cells (T_impl_Bond.mk 0 0 [] 0 [] false [])⟩, sc 0 v1] ?_
 refine srvM [3] 1 14 [(3, .ptr 0 0 0), (4, .ptr 1 0 0), (8, .ptr 1 0 0)] [some ⟨0, Enc.cells (T_impl_Bond.mk 0 0 [] 0 [] false [])⟩, sc 0 v1] ?_
 obtain ⟨v3, hv4, h⟩ := bindS h
 refine cBo 9 1 0 (ok_spec_l20Tables hv4) ?_
 refine veM [3] 1 14 [(3, .ptr 0 0 0), (4, .ptr 1 0 0), (5, A v3.1)] [some ⟨0, Enc.cells (T_impl_Bond.mk 0 0 [] 0 [] false [])⟩, sc 0 v3.2] ?_
 refine srvM [3] 3 14 [(3, .ptr 0 0 0), (10, A v3.1), (11, .ptr 1 0 0), (12, A v3.1)] [some ⟨0, Enc.cells (T_impl_Bond.mk 0 0 [] 0 [] false [])⟩, sc 0 v3.2] ?_
 obtain ⟨v5, hv6, h⟩ := bindS h
 refine cB 13 1 0 (ok_spec_l20Bond hv6) ?_
 refine veM [3] 2 14 [(2, A v3.1), (3, .ptr 0 0 0)] [sc 0 v5.1, sc 0 v5.2] ?_
 have h := si h
 subst h
 exact pwp_ret (rt (.tup [A v3.1, E v5.1]) (OutP.tup (OutL.cons (OutP.frz (by kernel_rfl)) (OutL.cons (OutP.frz (by kernel_rfl)) (OutL.nil _)))))
def impl_ExprKind_j2 (a0 : List T_impl_Column) (x4 : Int) (x5 : List Int) (K7 : Int → (List Int) → Option Int) (v9 : T_impl_Part) (v11 : Int) (x13 : Bool) : Option Int := bif x13 then some (-1) else (slI x5 (some (w64 ((x5.length : Int) - v11))) none none).bind fun v15 => (impl_Part_kind v9 a0 v15).bind fun v17 => bif (!v17.2) then some (-1) else (slI x5 none (some (w64 ((x5.length : Int) - v11))) none).bind fun v20 => (appT x5 ([v17.1] : List Int) v20.length).bind fun v22 => K7 (w64 (x4 + 1)) v22
def impl_ExprKind_l1 (a0 : List T_impl_Column) (a1 : List T_impl_Part) : Nat → Int → (List Int) → Option Int
 | 0, _, _ => none
 | f6 + 1, x4, x5 => bif (decide (x4 < (a1.length : Int))) then (getI a1 x4).bind fun v9 => (impl_Part_takes v9).bind fun v11 => (impl_Part_tells v9 a0).bind fun v24 => bif (!v24) then impl_ExprKind_j2 a0 x4 x5 (impl_ExprKind_l1 a0 a1 f6) v9 v11 true else impl_ExprKind_j2 a0 x4 x5 (impl_ExprKind_l1 a0 a1 f6) v9 v11 (decide ((x5.length : Int) < v11)) else bif (!((x5.length : Int) == 1)) then some (-1) else (getI x5 (0 : Int)).bind fun v28 => some v28
def impl_ExprKind_j0 (a0 : List T_impl_Column) (a1 : List T_impl_Part) (x1 : Bool) : Option Int := bif x1 then some (-1) else impl_ExprKind_l1 a0 a1 FUEL 0 ([] : List Int)
def impl_ExprKind (a0 : List T_impl_Column) (a1 : List T_impl_Part) : Option Int := (impl_ColumnsOk a0).bind fun v30 => bif (!v30) then impl_ExprKind_j0 a0 a1 true else impl_ExprKind_j0 a0 a1 (decide ((a1.length : Int) > 12))
theorem ok_impl_ExprKind {a0 : List T_impl_Column} {a1 : List T_impl_Part} {y : Int} (h : impl_ExprKind a0 a1 = some y) : OK Tryz.prog 50 [A a0, A a1] (I y) := by
 refine ow Tryz.func50 fun Γ hX => ?_
 unfold impl_ExprKind at h
 refine srveM [7] 67 [(0, A a0), (1, A a1)] [] ?_
 refine pwp_seq ?_
 refine pwp_seq ?_
 refine pwp_join (σ := Bool) (fun x1 => (⟨67, [(0, A a0), (1, A a1), (18, B x1)], []⟩ : St)) (fun x1 => impl_ExprKind_j0 a0 a1 x1 = some y) ?_ ?_
 refine rvM [7] 1 67 [(0, A a0), (1, A a1), (11, A a0)] [] ?_
 obtain ⟨v30, hv31, h⟩ := bindS h
 refine cF 12 (ok_impl_ColumnsOk hv31) ?_
 refine vM [7] 2 67 [(0, A a0), (1, A a1), (14, B (!v30))] [] ?_
 rcases fk (!v30) with hc32 | hc32
 replace h := bT hc32 h
 rw [hc32]
 refine veM [7] 4 67 [(0, A a0), (1, A a1), (18, B true)] [] ?_
 exact ⟨true, h, it [0, 1, 18]⟩
 replace h := bF hc32 h
 rw [hc32]
 refine veM [7] 4 67 [(0, A a0), (1, A a1), (18, B (decide ((a1.length : Int) > 12)))] [] ?_
 exact ⟨(decide ((a1.length : Int) > 12)), h, it [0, 1, 18]⟩
 rintro x1 h
 unfold impl_ExprKind_j0 at h
 refine pc h (fun h => ?_) (fun h => ?_)
 refine srveM [7] 67 [(4, I (-1))] [] ?_
 cases h
 exact pwp_ret rz
 refine pwp_skip ?_
 refine srveM [7] 67 [(0, A a0), (1, A a1), (5, .arr 1 0 (eL ([] : List Int)) true)] [] ?_
 refine pwp_seq ?_
 refine srveM [7] 67 [(0, A a0), (5, .arr 1 0 (eL ([] : List Int)) true), (19, A a1), (20, I (a1.length : Int)), (21, I 0)] [] ?_
 refine pwp_block ?_
 refine pwp_loop (ι := Nat × Int × (List Int)) (fun (f6, x4, x5) => (⟨67, [(0, A a0), (5, rf 0 0 1 x5), (19, A a1), (20, I (a1.length : Int)), (21, I x4)], [sl 0 x5]⟩ : St)) (fun (f6, x4, x5) => impl_ExprKind_l1 a0 a1 f6 x4 x5 = some y) Prod.fst (FUEL, 0, ([] : List Int)) h (Imp.thawS 5 [0, 5, 19, 20, 21] (by kernel_rfl)) ?_
 rintro ⟨f6, x4, x5⟩ h
 dsimp only at h ⊢
 rcases f6 with _ | f6
 cases h
 rw [impl_ExprKind_l1] at h
 refine srveM [7] 67 [(0, A a0), (5, rf 0 0 1 x5), (19, A a1), (20, I (a1.length : Int)), (21, I x4), (22, B (decide (x4 < (a1.length : Int))))] [sl 0 x5] ?_
 refine pwp_seq ?_
 refine pc h (fun h => ?_) (fun h => ?_)
 refine pwp_skip ?_
 refine pwp_seq ?_
 refine pwp_block ?_
 refine pwp_seq ?_
 refine pwp_region ?_
 obtain ⟨v9, hv10, h⟩ := bindS h
 refine opsP_idx τ_ok 23 hv10 (by kernel_rfl) ?_
 refine veM [7] 3 67 [(0, A a0), (5, rf 0 0 1 x5), (7, .ptr 1 0 0), (19, A a1), (20, I (a1.length : Int)), (21, I x4)] [sl 0 x5, sc 0 v9] ?_
 refine srvM [7] 1 67 [(0, A a0), (5, rf 0 0 1 x5), (7, .ptr 1 0 0), (19, A a1), (20, I (a1.length : Int)), (21, I x4), (25, E v9)] [sl 0 x5, sc 0 v9] ?_
 obtain ⟨v11, hv12, h⟩ := bindS h
 refine cF 26 (ok_impl_Part_takes hv12) ?_
 refine veM [7] 1 67 [(0, A a0), (5, rf 0 0 1 x5), (7, .ptr 1 0 0), (8, I v11), (19, A a1), (20, I (a1.length : Int)), (21, I x4)] [sl 0 x5, sc 0 v9] ?_
 refine pwp_seq ?_
 refine pwp_seq ?_
 refine pwp_join (σ := Bool) (fun x13 => (⟨67, [(0, A a0), (5, rf 0 0 1 x5), (7, .ptr 1 0 0), (8, I v11), (19, A a1), (20, I (a1.length : Int)), (21, I x4), (36, B x13)], [sl 0 x5, sc 0 v9]⟩ : St)) (fun x13 => impl_ExprKind_j2 a0 x4 x5 (impl_ExprKind_l1 a0 a1 f6) v9 v11 x13 = some y) ?_ ?_
 refine rvM [7] 2 67 [(0, A a0), (5, rf 0 0 1 x5), (7, .ptr 1 0 0), (8, I v11), (19, A a1), (20, I (a1.length : Int)), (21, I x4), (27, E v9), (28, A a0)] [sl 0 x5, sc 0 v9] ?_
 obtain ⟨v24, hv25, h⟩ := bindS h
 refine cF 29 (ok_impl_Part_tells hv25) ?_
 refine vM [7] 2 67 [(0, A a0), (5, rf 0 0 1 x5), (7, .ptr 1 0 0), (8, I v11), (19, A a1), (20, I (a1.length : Int)), (21, I x4), (31, B (!v24))] [sl 0 x5, sc 0 v9] ?_
 rcases fk (!v24) with hc26 | hc26
 replace h := bT hc26 h
 rw [hc26]
 refine veM [7] 5 67 [(0, A a0), (5, rf 0 0 1 x5), (7, .ptr 1 0 0), (8, I v11), (19, A a1), (20, I (a1.length : Int)), (21, I x4), (32, .lit undef), (33, .lit undef), (34, .lit undef), (35, .lit undef), (36, B true)] [sl 0 x5, sc 0 v9] ?_
 exact ⟨true, h, it [0, 5, 7, 8, 19, 20, 21, 36]⟩
 replace h := bF hc26 h
 rw [hc26]
 refine veM [7] 5 67 [(0, A a0), (5, rf 0 0 1 x5), (7, .ptr 1 0 0), (8, I v11), (19, A a1), (20, I (a1.length : Int)), (21, I x4), (32, rf 0 0 1 x5), (33, I (x5.length : Int)), (34, I v11), (35, B (decide ((x5.length : Int) < v11))), (36, B (decide ((x5.length : Int) < v11)))] [sl 0 x5, sc 0 v9] ?_
 exact ⟨(decide ((x5.length : Int) < v11)), h, it [0, 5, 7, 8, 19, 20, 21, 36]⟩
 rintro x13 h
 unfold impl_ExprKind_j2 at h
 refine pc h (fun h => ?_) (fun h => ?_)
 refine srveM [7] 67 [(4, I (-1))] [sl 0 x5, sc 0 v9] ?_
 cases h
 exact pwp_ret rz
 refine pwp_skip ?_
 refine pwp_seq ?_
 refine ip 67 [(0, A a0), (5, rf 0 0 1 x5), (7, .ptr 1 0 0), (8, I v11), (19, A a1), (20, I (a1.length : Int)), (21, I x4)] [sl 0 x5, sc 0 v9] ?_
 refine pwp_any ([[1], [], [0], [0], [0], [], [], [0], [0], [], [], [], [], []]) ([[], [], [], [], [], [], [], [], [], [], [], [], [], []]) rfl (by kernel_rfl) ?_
 refine qvM [7] [1] (hB trivial) 1 67 [(38, E v9), (0, A a0), (5, rf 0 0 1 x5), (8, I v11), (19, A a1), (20, I (a1.length : Int)), (21, I x4)] [sl 0 x5, sc 0 v9] ?_
 refine qvM [7] [] trivial 1 67 [(39, A a0), (38, E v9), (0, A a0), (5, rf 0 0 1 x5), (8, I v11), (19, A a1), (20, I (a1.length : Int)), (21, I x4)] [sl 0 x5, sc 0 v9] ?_
 refine qvM [7] [0] (hL trivial) 3 67 [(42, I (x5.length : Int)), (40, rf 0 0 1 x5), (39, A a0), (38, E v9), (0, A a0), (5, rf 0 0 1 x5), (8, I v11), (19, A a1), (20, I (a1.length : Int)), (21, I x4)] [sl 0 x5, sc 0 v9] ?_
 refine qvM [7] [] trivial 2 67 [(44, I (w64 ((x5.length : Int) - v11))), (40, rf 0 0 1 x5), (39, A a0), (38, E v9), (0, A a0), (5, rf 0 0 1 x5), (8, I v11), (19, A a1), (20, I (a1.length : Int)), (21, I x4)] [sl 0 x5, sc 0 v9] ?_
 obtain ⟨v15, hv16, h⟩ := bindS h
 refine qX (some 45) (.ref 0 0 ((w64 ((x5.length : Int) - v11)).toNat * 1) 1 v15.length false) 67 [(45, .ref 0 0 ((w64 ((x5.length : Int) - v11)).toNat * 1) 1 v15.length false), (39, A a0), (38, E v9), (0, A a0), (5, rf 0 0 1 x5), (8, I v11), (19, A a1), (20, I (a1.length : Int)), (21, I x4)] [sl 0 x5, sc 0 v9] (fun Γ' hΓ => CoreE.of_y (slrV_sound (n := x5.length) τ_ok (by kernel_rfl) rfl hv16)) (hL trivial) ?_
 obtain ⟨v17, hv18, h⟩ := bindS h
 refine qX (some 46) (.tup [I v17.1, B v17.2]) 67 [(46, .tup [I v17.1, B v17.2]), (0, A a0), (5, rf 0 0 1 x5), (8, I v11), (19, A a1), (20, I (a1.length : Int)), (21, I x4)] [sl 0 x5, sc 0 v9] (fun Γ' hΓ => CoreE.of_g (callVV_sound (xs := [E v9, A a0, .ref 0 0 ((w64 ((x5.length : Int) - v11)).toNat * 1) 1 v15.length false]) (τ := τ) (by kernel_rfl) (ViewL.cons (View.frz rfl) (ViewL.cons (View.frz rfl) (ViewL.cons (View.ref (v := 0) (lo := (w64 ((x5.length : Int) - v11)).toNat) x5 v15 (by kernel_rfl) (slI_view hv16) rfl) (ViewL.nil _)))) (ok_impl_Part_kind hv18) (Blind.tup (BlindL.cons (Blind.lit _) (BlindL.cons (Blind.lit _) BlindL.nil))) (FzTo.tup (FzToL.cons (FzTo.frz rfl) (FzToL.cons (FzTo.frz rfl) FzToL.nil))))) (hL trivial) ?_
 refine qvnM [7] [] trivial 5 67 [(0, A a0), (5, rf 0 0 1 x5), (8, I v11), (9, I v17.1), (10, B v17.2), (19, A a1), (20, I (a1.length : Int)), (21, I x4)] [sl 0 x5, sc 0 v9] ?_
 refine pwp_seq ?_
 refine srveM [7] 67 [(0, A a0), (5, rf 0 0 1 x5), (8, I v11), (9, I v17.1), (19, A a1), (20, I (a1.length : Int)), (21, I x4), (50, B (!v17.2))] [sl 0 x5, sc 0 v9] ?_
 refine pc h (fun h => ?_) (fun h => ?_)
 refine srveM [7] 67 [(4, I (-1))] [sl 0 x5, sc 0 v9] ?_
 cases h
 exact pwp_ret rz
 refine pwp_skip ?_
 refine rvM [7] 5 67 [(0, A a0), (9, I v17.1), (19, A a1), (20, I (a1.length : Int)), (21, I x4), (51, rf 0 0 1 x5), (55, I (w64 ((x5.length : Int) - v11)))] [sl 0 x5, sc 0 v9] ?_
 obtain ⟨v20, hv21, h⟩ := bindS h
 refine opsP_slr τ_ok 56 0 0 x5.length hv21 rfl (by kernel_rfl) ?_
 refine vM [7] 2 67 [(0, A a0), (19, A a1), (20, I (a1.length : Int)), (21, I x4), (56, rf 0 0 1 v20), (58, .arr 1 ([v17.1] : List Int).length (eL ([v17.1] : List Int)) true)] [sl 0 x5, sc 0 v9] ?_
 obtain ⟨v22, hv23, h⟩ := bindS h
 refine opsP_apt τ_ok 59 0 0 v20.length (nx hX) hv23 (slI_le hv21) (by kernel_rfl) ?_
 refine veM [7] 1 67 [(0, A a0), (5, rf 0 1 1 v22), (19, A a1), (20, I (a1.length : Int)), (21, I x4)] [sl 1 v22, sc 0 v9] ?_
 refine rveM [7] 67 [(0, A a0), (5, rf 0 1 1 v22), (19, A a1), (20, I (a1.length : Int)), (21, I (w64 (x4 + 1)))] [sl 1 v22, sc 0 v9] ?_
 exact ⟨(f6, (w64 (x4 + 1)), v22), h, Nat.lt_succ_self _, qt (it (st' := ⟨67, [(0, A a0), (5, rf 0 1 1 v22), (19, A a1), (20, I (a1.length : Int)), (21, I (w64 (x4 + 1)))], [sl 1 v22, sc 0 v9]⟩) [0, 5, 19, 20, 21]) (qt (Imp.truncS (st' := ⟨67, [(0, A a0), (5, rf 0 1 1 v22), (19, A a1), (20, I (a1.length : Int)), (21, I (w64 (x4 + 1)))], [sl 1 v22]⟩) 1 (nx hX) (by kernel_rfl) (allBelow_mem (by exact (And.intro rfl (And.intro rfl (And.intro rfl (And.intro rfl (And.intro rfl trivial))))))) (by exact (And.intro (frz_below (eL_frz _)) trivial)) (by kernel_rfl)) (Imp.reverS 0 1 (eL v22) [0, 5, 19, 20, 21] (by kernel_rfl) (by exact (And.intro (eL_frz _) trivial)) (by kernel_rfl)))⟩
 refine pwp_exit ?_
 refine pwp_seq ?_
 refine srveM [7] 67 [(5, rf 0 0 1 x5), (63, B (!((x5.length : Int) == 1)))] [sl 0 x5] ?_
 refine pc h (fun h => ?_) (fun h => ?_)
 refine srveM [7] 67 [(4, I (-1))] [sl 0 x5] ?_
 cases h
 exact pwp_ret rz
 refine pwp_skip ?_
 refine srvM [7] 1 67 [(64, rf 0 0 1 x5)] [sl 0 x5] ?_
 obtain ⟨v28, hv29, h⟩ := bindS h
 refine opsP_idr τ_ok 65 0 0 x5.length hv29 rfl (by kernel_rfl) ?_
 refine opsP_lde (r := I v28) τ_ok 66 3 0 hv29 (by kernel_rfl) (by kernel_rfl) ?_
 refine veM [7] 1 67 [(4, I v28)] [sl 0 x5] ?_
 cases h
 exact pwp_ret rz
def spec_BondOk_l2 (a0 : List T_impl_Table) (a1 : T_impl_Bond) (v3 : T_impl_Table) : Nat → Int → Option Bool
 | 0, _ => none
 | f23 + 1, x22 => bif (decide (x22 < (a1.fList.length : Int))) then (getI a1.fList x22).bind fun v26 => (getI v3.fColumns v26).bind fun v28 => (getI a0 a1.fOf).bind fun v30 => (getI a1.fTo x22).bind fun v32 => (getI v30.fColumns v32).bind fun v34 => bif (!(v28.fKind == v34.fKind)) then some false else (spec_BondOk_l2 a0 a1 v3 f23) (w64 (x22 + 1)) else some true
def spec_BondOk_j1 (a0 : List T_impl_Table) (a1 : T_impl_Bond) (v3 : T_impl_Table) (x20 : Bool) : Option Bool := bif x20 then some false else spec_BondOk_l2 a0 a1 v3 FUEL 0
def spec_BondOk_j0 (a0 : List T_impl_Table) (a1 : T_impl_Bond) (x1 : Bool) : Option Bool := bif x1 then some false else (getI a0 a1.fIn).bind fun v3 => bif (a1.fKind == 1) then (spec_l12Columns v3.fColumns a1.fList).bind fun v6 => bif v6 then bif (a1.fOf == 0) then bif ((a1.fTo.length : Int) == 0) then bif (!a1.fFollow) then some ((a1.fE.length : Int) == 0) else some false else some false else some false else some false else bif (a1.fKind == 3) then (spec_ExprKind v3.fColumns a1.fE).bind fun v13 => bif (v13 == 3) then bif ((a1.fList.length : Int) == 0) then bif (a1.fOf == 0) then bif ((a1.fTo.length : Int) == 0) then some (!a1.fFollow) else some false else some false else some false else some false else bif (a1.fKind == 2) then (spec_l1In a1.fOf 0 (w64 ((a0.length : Int) - 1))).bind fun v37 => bif (!v37) then spec_BondOk_j1 a0 a1 v3 true else (spec_l12Columns v3.fColumns a1.fList).bind fun v39 => bif (!v39) then spec_BondOk_j1 a0 a1 v3 true else (getI a0 a1.fOf).bind fun v41 => (spec_l12Columns v41.fColumns a1.fTo).bind fun v43 => bif (!v43) then spec_BondOk_j1 a0 a1 v3 true else bif (!((a1.fList.length : Int) == (a1.fTo.length : Int))) then spec_BondOk_j1 a0 a1 v3 true else spec_BondOk_j1 a0 a1 v3 (decide ((a1.fE.length : Int) > 0)) else some false
def spec_BondOk (a0 : List T_impl_Table) (a1 : T_impl_Bond) : Option Bool := (spec_TablesOk a0).bind fun v49 => bif (!v49) then spec_BondOk_j0 a0 a1 true else (spec_l1In a1.fIn 0 (w64 ((a0.length : Int) - 1))).bind fun v51 => spec_BondOk_j0 a0 a1 (!v51)
theorem ok_spec_BondOk {a0 : List T_impl_Table} {a1 : T_impl_Bond} {y : Bool} (h : spec_BondOk a0 a1 = some y) : OK Tryz.prog 58 [A a0, E a1] (B y) := by
 refine ow Tryz.func58 fun Γ hX => ?_
 unfold spec_BondOk at h
 refine srve 158 [(0, A a0), (3, pf a1 0)] [] ?_
 refine pwp_seq ?_
 refine pwp_seq ?_
 refine pwp_join (σ := Bool) (fun x1 => (⟨158, [(0, A a0), (3, pf a1 0), (18, B x1)], []⟩ : St)) (fun x1 => spec_BondOk_j0 a0 a1 x1 = some y) ?_ ?_
 refine rv 1 158 [(0, A a0), (3, pf a1 0), (7, A a0)] [] ?_
 obtain ⟨v49, hv50, h⟩ := bindS h
 refine cF 8 (ok_spec_TablesOk hv50) ?_
 refine v 2 158 [(0, A a0), (3, pf a1 0), (10, B (!v49))] [] ?_
 rcases fk (!v49) with hc53 | hc53
 replace h := bT hc53 h
 rw [hc53]
 refine ve 8 158 [(0, A a0), (3, pf a1 0), (18, B true)] [] ?_
 exact ⟨true, h, it [0, 3, 18]⟩
 replace h := bF hc53 h
 rw [hc53]
 refine v 5 158 [(0, A a0), (3, pf a1 0), (10, B false), (12, I a1.fIn), (15, I (w64 ((a0.length : Int) - 1)))] [] ?_
 obtain ⟨v51, hv52, h⟩ := bindS h
 refine cF 16 (ok_spec_l1In hv52) ?_
 refine ve 2 158 [(0, A a0), (3, pf a1 0), (18, B (!v51))] [] ?_
 exact ⟨(!v51), h, it [0, 3, 18]⟩
 rintro x1 h
 unfold spec_BondOk_j0 at h
 refine pc h (fun h => ?_) (fun h => ?_)
 refine srve 158 [(4, B false)] [] ?_
 cases h
 exact pwp_ret rz
 refine pwp_skip ?_
 refine srv 3 158 [(0, A a0), (3, pf a1 0), (19, A a0), (21, I a1.fIn)] [] ?_
 obtain ⟨v3, hv4, h⟩ := bindS h
 refine opsP_idx τ_ok 22 hv4 (by kernel_rfl) ?_
 refine ve 3 158 [(0, A a0), (3, pf a1 0), (5, A v3.fColumns)] [] ?_
 refine pwp_seq ?_
 refine srve 158 [(0, A a0), (3, pf a1 0), (5, A v3.fColumns), (26, I a1.fKind)] [] ?_
 refine pwp_block ?_
 refine srve 158 [(0, A a0), (3, pf a1 0), (5, A v3.fColumns), (26, I a1.fKind), (27, B (a1.fKind == 1))] [] ?_
 refine pc h (fun h => ?_) (fun h => ?_)
 refine srv 3 158 [(3, pf a1 0), (29, A v3.fColumns), (31, A a1.fList)] [] ?_
 obtain ⟨v6, hv7, h⟩ := bindS h
 refine cF 32 (ok_spec_l12Columns hv7) ?_
 refine v 1 158 [(3, pf a1 0), (33, B v6)] [] ?_
 rcases Bool.eq_false_or_eq_true v6 with hc11 | hc11
 replace h := bT hc11 h
 rw [hc11]
 refine v 5 158 [(3, pf a1 0), (38, B (a1.fOf == 0))] [] ?_
 rcases fk (a1.fOf == 0) with hc10 | hc10
 replace h := bT hc10 h
 rw [hc10]
 refine v 6 158 [(3, pf a1 0), (44, B ((a1.fTo.length : Int) == 0))] [] ?_
 rcases fk ((a1.fTo.length : Int) == 0) with hc9 | hc9
 replace h := bT hc9 h
 rw [hc9]
 refine v 5 158 [(3, pf a1 0), (49, B (!a1.fFollow))] [] ?_
 rcases fk (!a1.fFollow) with hc8 | hc8
 replace h := bT hc8 h
 rw [hc8]
 refine ve 6 158 [(4, B ((a1.fE.length : Int) == 0))] [] ?_
 cases h
 exact pwp_ret rz
 replace h := bF hc8 h
 rw [hc8]
 refine ve 6 158 [(4, B false)] [] ?_
 cases h
 exact pwp_ret rz
 replace h := bF hc9 h
 rw [hc9]
 refine ve 11 158 [(4, B false)] [] ?_
 cases h
 exact pwp_ret rz
 replace h := bF hc10 h
 rw [hc10]
 refine ve 17 158 [(4, B false)] [] ?_
 cases h
 exact pwp_ret rz
 replace h := bF hc11 h
 rw [hc11]
 refine ve 22 158 [(4, B false)] [] ?_
 cases h
 exact pwp_ret rz
 refine srve 158 [(0, A a0), (3, pf a1 0), (5, A v3.fColumns), (26, I a1.fKind), (55, B (a1.fKind == 3))] [] ?_
 refine pc h (fun h => ?_) (fun h => ?_)
 refine srv 3 158 [(3, pf a1 0), (57, A v3.fColumns), (59, A a1.fE)] [] ?_
 obtain ⟨v13, hv14, h⟩ := bindS h
 refine cF 60 (ok_spec_ExprKind hv14) ?_
 refine v 2 158 [(3, pf a1 0), (62, B (v13 == 3))] [] ?_
 rcases fk (v13 == 3) with hc18 | hc18
 replace h := bT hc18 h
 rw [hc18]
 refine v 6 158 [(3, pf a1 0), (68, B ((a1.fList.length : Int) == 0))] [] ?_
 rcases fk ((a1.fList.length : Int) == 0) with hc17 | hc17
 replace h := bT hc17 h
 rw [hc17]
 refine v 5 158 [(3, pf a1 0), (73, B (a1.fOf == 0))] [] ?_
 rcases fk (a1.fOf == 0) with hc16 | hc16
 replace h := bT hc16 h
 rw [hc16]
 refine v 6 158 [(3, pf a1 0), (79, B ((a1.fTo.length : Int) == 0))] [] ?_
 rcases fk ((a1.fTo.length : Int) == 0) with hc15 | hc15
 replace h := bT hc15 h
 rw [hc15]
 refine ve 5 158 [(4, B (!a1.fFollow))] [] ?_
 cases h
 exact pwp_ret rz
 replace h := bF hc15 h
 rw [hc15]
 refine ve 5 158 [(4, B false)] [] ?_
 cases h
 exact pwp_ret rz
 replace h := bF hc16 h
 rw [hc16]
 refine ve 11 158 [(4, B false)] [] ?_
 cases h
 exact pwp_ret rz
 replace h := bF hc17 h
 rw [hc17]
 refine ve 16 158 [(4, B false)] [] ?_
 cases h
 exact pwp_ret rz
 replace h := bF hc18 h
 rw [hc18]
 refine ve 22 158 [(4, B false)] [] ?_
 cases h
 exact pwp_ret rz
 refine srve 158 [(0, A a0), (3, pf a1 0), (5, A v3.fColumns), (84, B (a1.fKind == 2))] [] ?_
 refine pc h (fun h => ?_) (fun h => ?_)
 refine pwp_seq ?_
 refine pwp_seq ?_
 refine pwp_join (σ := Bool) (fun x20 => (⟨158, [(0, A a0), (3, pf a1 0), (5, A v3.fColumns), (126, B x20)], []⟩ : St)) (fun x20 => spec_BondOk_j1 a0 a1 v3 x20 = some y) ?_ ?_
 refine ip 158 [(0, A a0), (3, pf a1 0), (5, A v3.fColumns)] [] ?_
 refine pN 41 ?_
 refine qv [] trivial 5 158 [(90, I (w64 ((a0.length : Int) - 1))), (87, I a1.fOf), (0, A a0), (3, pf a1 0), (5, A v3.fColumns)] [] ?_
 obtain ⟨v37, hv38, h⟩ := bindS h
 refine qX (some 91) (B v37) 158 [(91, B v37), (0, A a0), (3, pf a1 0), (5, A v3.fColumns)] [] (fun Γ' hΓ => CoreE.of_g (callV_sound (τ := τ) (by kernel_rfl) rfl (ok_spec_l1In hv38) (FzTo.frz rfl))) trivial ?_
 refine qv [] trivial 2 158 [(93, B (!v37)), (0, A a0), (3, pf a1 0), (5, A v3.fColumns)] [] ?_
 rcases fk (!v37) with hc48 | hc48
 replace h := bT hc48 h
 rw [hc48]
 refine qvn [] trivial 33 158 [(0, A a0), (3, pf a1 0), (5, A v3.fColumns), (126, B true)] [] ?_
 exact ⟨true, h, it [0, 3, 5, 126]⟩
 replace h := bF hc48 h
 rw [hc48]
 refine qv [] trivial 3 158 [(96, A a1.fList), (94, A v3.fColumns), (93, B false), (0, A a0), (3, pf a1 0), (5, A v3.fColumns)] [] ?_
 obtain ⟨v39, hv40, h⟩ := bindS h
 refine qX (some 97) (B v39) 158 [(97, B v39), (93, B false), (0, A a0), (3, pf a1 0), (5, A v3.fColumns)] [] (fun Γ' hΓ => CoreE.of_g (callV_sound (τ := τ) (by kernel_rfl) rfl (ok_spec_l12Columns hv40) (FzTo.frz rfl))) trivial ?_
 refine qv [] trivial 3 158 [(100, B (!v39)), (0, A a0), (3, pf a1 0), (5, A v3.fColumns)] [] ?_
 rcases fk (!v39) with hc47 | hc47
 replace h := bT hc47 h
 rw [hc47]
 refine qvn [] trivial 26 158 [(0, A a0), (3, pf a1 0), (5, A v3.fColumns), (126, B true)] [] ?_
 exact ⟨true, h, it [0, 3, 5, 126]⟩
 replace h := bF hc47 h
 rw [hc47]
 refine qv [] trivial 3 158 [(103, I a1.fOf), (101, A a0), (100, B false), (0, A a0), (3, pf a1 0), (5, A v3.fColumns)] [] ?_
 obtain ⟨v41, hv42, h⟩ := bindS h
 refine qX (some 104) (pf v41 0) 158 [(104, pf v41 0), (100, B false), (0, A a0), (3, pf a1 0), (5, A v3.fColumns)] [] (fun Γ' hΓ => CoreE.of_y (idxV_sound τ_ok (by kernel_rfl) hv42)) trivial ?_
 refine qv [] trivial 4 158 [(108, A a1.fTo), (106, A v41.fColumns), (100, B false), (0, A a0), (3, pf a1 0), (5, A v3.fColumns)] [] ?_
 obtain ⟨v43, hv44, h⟩ := bindS h
 refine qX (some 109) (B v43) 158 [(109, B v43), (100, B false), (0, A a0), (3, pf a1 0), (5, A v3.fColumns)] [] (fun Γ' hΓ => CoreE.of_g (callV_sound (τ := τ) (by kernel_rfl) rfl (ok_spec_l12Columns hv44) (FzTo.frz rfl))) trivial ?_
 refine qv [] trivial 3 158 [(112, B (!v43)), (0, A a0), (3, pf a1 0), (5, A v3.fColumns)] [] ?_
 rcases fk (!v43) with hc46 | hc46
 replace h := bT hc46 h
 rw [hc46]
 refine qvn [] trivial 14 158 [(0, A a0), (3, pf a1 0), (5, A v3.fColumns), (126, B true)] [] ?_
 exact ⟨true, h, it [0, 3, 5, 126]⟩
 replace h := bF hc46 h
 rw [hc46]
 refine qv [] trivial 9 158 [(121, B (!((a1.fList.length : Int) == (a1.fTo.length : Int)))), (0, A a0), (3, pf a1 0), (5, A v3.fColumns)] [] ?_
 rcases fk (!((a1.fList.length : Int) == (a1.fTo.length : Int))) with hc45 | hc45
 replace h := bT hc45 h
 rw [hc45]
 refine qvn [] trivial 5 158 [(0, A a0), (3, pf a1 0), (5, A v3.fColumns), (126, B true)] [] ?_
 exact ⟨true, h, it [0, 3, 5, 126]⟩
 replace h := bF hc45 h
 rw [hc45]
 refine qvn [] trivial 5 158 [(0, A a0), (3, pf a1 0), (5, A v3.fColumns), (126, B (decide ((a1.fE.length : Int) > 0)))] [] ?_
 exact ⟨(decide ((a1.fE.length : Int) > 0)), h, it [0, 3, 5, 126]⟩
 rintro x20 h
 unfold spec_BondOk_j1 at h
 refine pc h (fun h => ?_) (fun h => ?_)
 refine srve 158 [(4, B false)] [] ?_
 cases h
 exact pwp_ret rz
 refine pwp_skip ?_
 refine pwp_seq ?_
 refine srve 158 [(0, A a0), (3, pf a1 0), (5, A v3.fColumns), (6, I 0)] [] ?_
 refine pwp_block ?_
 refine pwp_loop (ι := Nat × Int) (fun (f23, x22) => (⟨158, [(0, A a0), (3, pf a1 0), (5, A v3.fColumns), (6, I x22)], []⟩ : St)) (fun (f23, x22) => spec_BondOk_l2 a0 a1 v3 f23 x22 = some y) Prod.fst (FUEL, 0) h (it [0, 3, 5, 6]) ?_
 rintro ⟨f23, x22⟩ h
 dsimp only at h ⊢
 rcases f23 with _ | f23
 cases h
 rw [spec_BondOk_l2] at h
 refine pwp_seq ?_
 refine srve 158 [(0, A a0), (3, pf a1 0), (5, A v3.fColumns), (6, I x22), (131, B (decide (x22 < (a1.fList.length : Int))))] [] ?_
 refine pc h (fun h => ?_) (fun h => ?_)
 refine pwp_skip ?_
 refine pwp_seq ?_
 refine pwp_block ?_
 refine pwp_seq ?_
 refine ip 158 [(0, A a0), (3, pf a1 0), (5, A v3.fColumns), (6, I x22)] [] ?_
 refine pN 24 ?_
 refine qv [] trivial 4 158 [(137, I x22), (136, A a1.fList), (134, A v3.fColumns), (0, A a0), (3, pf a1 0), (5, A v3.fColumns), (6, I x22)] [] ?_
 obtain ⟨v26, hv27, h⟩ := bindS h
 refine qX (some 138) (pf v26 0) 158 [(138, pf v26 0), (134, A v3.fColumns), (0, A a0), (3, pf a1 0), (5, A v3.fColumns), (6, I x22)] [] (fun Γ' hΓ => CoreE.of_y (idxV_sound τ_ok (by kernel_rfl) hv27)) trivial ?_
 refine qv [] trivial 1 158 [(139, I v26), (134, A v3.fColumns), (0, A a0), (3, pf a1 0), (5, A v3.fColumns), (6, I x22)] [] ?_
 obtain ⟨v28, hv29, h⟩ := bindS h
 refine qX (some 140) (pf v28 0) 158 [(140, pf v28 0), (0, A a0), (3, pf a1 0), (5, A v3.fColumns), (6, I x22)] [] (fun Γ' hΓ => CoreE.of_y (idxV_sound τ_ok (by kernel_rfl) hv29)) trivial ?_
 refine qv [] trivial 5 158 [(145, I a1.fOf), (143, A a0), (142, I v28.fKind), (0, A a0), (3, pf a1 0), (5, A v3.fColumns), (6, I x22)] [] ?_
 obtain ⟨v30, hv31, h⟩ := bindS h
 refine qX (some 146) (pf v30 0) 158 [(146, pf v30 0), (142, I v28.fKind), (0, A a0), (3, pf a1 0), (5, A v3.fColumns), (6, I x22)] [] (fun Γ' hΓ => CoreE.of_y (idxV_sound τ_ok (by kernel_rfl) hv31)) trivial ?_
 refine qv [] trivial 5 158 [(151, I x22), (150, A a1.fTo), (148, A v30.fColumns), (142, I v28.fKind), (0, A a0), (3, pf a1 0), (5, A v3.fColumns), (6, I x22)] [] ?_
 obtain ⟨v32, hv33, h⟩ := bindS h
 refine qX (some 152) (pf v32 0) 158 [(152, pf v32 0), (148, A v30.fColumns), (142, I v28.fKind), (0, A a0), (3, pf a1 0), (5, A v3.fColumns), (6, I x22)] [] (fun Γ' hΓ => CoreE.of_y (idxV_sound τ_ok (by kernel_rfl) hv33)) trivial ?_
 refine qv [] trivial 1 158 [(153, I v32), (148, A v30.fColumns), (142, I v28.fKind), (0, A a0), (3, pf a1 0), (5, A v3.fColumns), (6, I x22)] [] ?_
 obtain ⟨v34, hv35, h⟩ := bindS h
 refine qX (some 154) (pf v34 0) 158 [(154, pf v34 0), (142, I v28.fKind), (0, A a0), (3, pf a1 0), (5, A v3.fColumns), (6, I x22)] [] (fun Γ' hΓ => CoreE.of_y (idxV_sound τ_ok (by kernel_rfl) hv35)) trivial ?_
 refine qvn [] trivial 3 158 [(0, A a0), (3, pf a1 0), (5, A v3.fColumns), (6, I x22), (157, B (!(v28.fKind == v34.fKind)))] [] ?_
 refine pc h (fun h => ?_) (fun h => ?_)
 refine srve 158 [(4, B false)] [] ?_
 cases h
 exact pwp_ret rz
 refine pwp_skip ?_
 refine rve 158 [(0, A a0), (3, pf a1 0), (5, A v3.fColumns), (6, I (w64 (x22 + 1)))] [] ?_
 exact ⟨(f23, (w64 (x22 + 1))), h, Nat.lt_succ_self _, it [0, 3, 5, 6]⟩
 refine pwp_exit ?_
 refine srve 158 [(4, B true)] [] ?_
 cases h
 exact pwp_ret rz
 refine pwp_skip ?_
 refine srve 158 [(4, B false)] [] ?_
 cases h
 exact pwp_ret rz
def impl_bondOk_l2 (a0 : List T_impl_Table) (a1 : T_impl_Bond) (v4 : T_impl_Table) : Nat → Int → Option Bool
 | 0, _ => none
 | f22 + 1, x21 => bif (decide (x21 < (a1.fList.length : Int))) then (getI a1.fList x21).bind fun v25 => (getI v4.fColumns v25).bind fun v27 => (getI a0 a1.fOf).bind fun v29 => (getI a1.fTo x21).bind fun v31 => (getI v29.fColumns v31).bind fun v33 => bif (!(v27.fKind == v33.fKind)) then some false else (impl_bondOk_l2 a0 a1 v4 f22) (w64 (x21 + 1)) else some true
def impl_bondOk_j1 (a0 : List T_impl_Table) (a1 : T_impl_Bond) (v4 : T_impl_Table) (x18 : Bool) : Option Bool := bif x18 then some false else impl_bondOk_l2 a0 a1 v4 FUEL 0
def impl_bondOk_j0 (a0 : List T_impl_Table) (a1 : T_impl_Bond) (v4 : T_impl_Table) (x6 : Bool) : Option Bool := bif (a1.fKind == 1) then (impl_listOk v4 a1.fList).bind fun v8 => bif v8 then bif x6 then some ((a1.fE.length : Int) == 0) else some false else some false else bif (a1.fKind == 3) then (impl_ExprKind v4.fColumns a1.fE).bind fun v13 => bif (v13 == 3) then bif x6 then some ((a1.fList.length : Int) == 0) else some false else some false else bif (a1.fKind == 2) then (impl_between a1.fOf 0 (w64 ((a0.length : Int) - 1))).bind fun v36 => bif (!v36) then impl_bondOk_j1 a0 a1 v4 true else bif (decide ((a1.fE.length : Int) > 0)) then impl_bondOk_j1 a0 a1 v4 true else (impl_listOk v4 a1.fList).bind fun v38 => bif (!v38) then impl_bondOk_j1 a0 a1 v4 true else (getI a0 a1.fOf).bind fun v40 => (impl_listOk v40 a1.fTo).bind fun v42 => bif (!v42) then impl_bondOk_j1 a0 a1 v4 true else impl_bondOk_j1 a0 a1 v4 (!((a1.fTo.length : Int) == (a1.fList.length : Int))) else some false
def impl_bondOk (a0 : List T_impl_Table) (a1 : T_impl_Bond) : Option Bool := (impl_between a1.fIn 0 (w64 ((a0.length : Int) - 1))).bind fun v1 => bif (!v1) then some false else (getI a0 a1.fIn).bind fun v4 => bif (a1.fOf == 0) then bif ((a1.fTo.length : Int) == 0) then impl_bondOk_j0 a0 a1 v4 (!a1.fFollow) else impl_bondOk_j0 a0 a1 v4 false else impl_bondOk_j0 a0 a1 v4 false
theorem ok_impl_bondOk {a0 : List T_impl_Table} {a1 : T_impl_Bond} {y : Bool} (h : impl_bondOk a0 a1 = some y) : OK Tryz.prog 60 [A a0, E a1] (B y) := by
 refine ow Tryz.func60 fun Γ hX => ?_
 unfold impl_bondOk at h
 refine srveM [5] 141 [(0, A a0), (3, pf a1 0)] [] ?_
 refine pwp_seq ?_
 refine srvM [5] 5 141 [(0, A a0), (3, pf a1 0), (10, I a1.fIn), (13, I (w64 ((a0.length : Int) - 1)))] [] ?_
 obtain ⟨v1, hv2, h⟩ := bindS h
 refine cF 14 (ok_impl_between hv2) ?_
 refine veM [5] 1 141 [(0, A a0), (3, pf a1 0), (15, B (!v1))] [] ?_
 refine pc h (fun h => ?_) (fun h => ?_)
 refine srveM [5] 141 [(4, B false)] [] ?_
 cases h
 exact pwp_ret rz
 refine pwp_skip ?_
 refine srvM [5] 3 141 [(0, A a0), (3, pf a1 0), (16, A a0), (18, I a1.fIn)] [] ?_
 obtain ⟨v4, hv5, h⟩ := bindS h
 refine opsP_idx τ_ok 19 hv5 (by kernel_rfl) ?_
 refine veM [5] 3 141 [(0, A a0), (3, pf a1 0), (5, .ptr 0 0 0)] [sc 0 v4] ?_
 refine pwp_seq ?_
 refine pwp_join (σ := Bool) (fun x6 => (⟨141, [(0, A a0), (3, pf a1 0), (5, .ptr 0 0 0), (6, B x6)], [sc 0 v4]⟩ : St)) (fun x6 => impl_bondOk_j0 a0 a1 v4 x6 = some y) ?_ ?_
 refine rvM [5] 4 141 [(0, A a0), (3, pf a1 0), (5, .ptr 0 0 0), (24, B (a1.fOf == 0))] [sc 0 v4] ?_
 rcases fk (a1.fOf == 0) with hc49 | hc49
 replace h := bT hc49 h
 rw [hc49]
 refine vM [5] 6 141 [(0, A a0), (3, pf a1 0), (5, .ptr 0 0 0), (30, B ((a1.fTo.length : Int) == 0))] [sc 0 v4] ?_
 rcases fk ((a1.fTo.length : Int) == 0) with hc48 | hc48
 replace h := bT hc48 h
 rw [hc48]
 refine veM [5] 5 141 [(0, A a0), (3, pf a1 0), (5, .ptr 0 0 0), (6, B (!a1.fFollow))] [sc 0 v4] ?_
 exact ⟨(!a1.fFollow), h, it [0, 3, 5, 6]⟩
 replace h := bF hc48 h
 rw [hc48]
 refine veM [5] 5 141 [(0, A a0), (3, pf a1 0), (5, .ptr 0 0 0), (6, B false)] [sc 0 v4] ?_
 exact ⟨false, h, it [0, 3, 5, 6]⟩
 replace h := bF hc49 h
 rw [hc49]
 refine veM [5] 11 141 [(0, A a0), (3, pf a1 0), (5, .ptr 0 0 0), (6, B false)] [sc 0 v4] ?_
 exact ⟨false, h, it [0, 3, 5, 6]⟩
 rintro x6 h
 unfold impl_bondOk_j0 at h
 refine pwp_seq ?_
 refine srveM [5] 141 [(0, A a0), (3, pf a1 0), (5, .ptr 0 0 0), (6, B x6), (36, I a1.fKind)] [sc 0 v4] ?_
 refine pwp_block ?_
 refine srveM [5] 141 [(0, A a0), (3, pf a1 0), (5, .ptr 0 0 0), (6, B x6), (36, I a1.fKind), (37, B (a1.fKind == 1))] [sc 0 v4] ?_
 refine pc h (fun h => ?_) (fun h => ?_)
 refine srvM [5] 3 141 [(3, pf a1 0), (6, B x6), (39, E v4), (41, A a1.fList)] [sc 0 v4] ?_
 obtain ⟨v8, hv9, h⟩ := bindS h
 refine cF 42 (ok_impl_listOk hv9) ?_
 refine vM [5] 1 141 [(3, pf a1 0), (6, B x6), (43, B v8)] [sc 0 v4] ?_
 rcases Bool.eq_false_or_eq_true v8 with hc11 | hc11
 replace h := bT hc11 h
 rw [hc11]
 refine vM [5] 3 141 [(3, pf a1 0), (46, B x6)] [sc 0 v4] ?_
 rcases Bool.eq_false_or_eq_true x6 with hc10 | hc10
 replace h := bT hc10 h
 rw [hc10]
 refine veM [5] 6 141 [(4, B ((a1.fE.length : Int) == 0))] [sc 0 v4] ?_
 cases h
 exact pwp_ret rz
 replace h := bF hc10 h
 rw [hc10]
 refine veM [5] 6 141 [(4, B false)] [sc 0 v4] ?_
 cases h
 exact pwp_ret rz
 replace h := bF hc11 h
 rw [hc11]
 refine veM [5] 9 141 [(4, B false)] [sc 0 v4] ?_
 cases h
 exact pwp_ret rz
 refine srveM [5] 141 [(0, A a0), (3, pf a1 0), (5, .ptr 0 0 0), (6, B x6), (36, I a1.fKind), (52, B (a1.fKind == 3))] [sc 0 v4] ?_
 refine pc h (fun h => ?_) (fun h => ?_)
 refine srvM [5] 4 141 [(3, pf a1 0), (6, B x6), (55, A v4.fColumns), (57, A a1.fE)] [sc 0 v4] ?_
 obtain ⟨v13, hv14, h⟩ := bindS h
 refine cF 58 (ok_impl_ExprKind hv14) ?_
 refine vM [5] 2 141 [(3, pf a1 0), (6, B x6), (60, B (v13 == 3))] [sc 0 v4] ?_
 rcases fk (v13 == 3) with hc16 | hc16
 replace h := bT hc16 h
 rw [hc16]
 refine vM [5] 3 141 [(3, pf a1 0), (63, B x6)] [sc 0 v4] ?_
 rcases Bool.eq_false_or_eq_true x6 with hc15 | hc15
 replace h := bT hc15 h
 rw [hc15]
 refine veM [5] 6 141 [(4, B ((a1.fList.length : Int) == 0))] [sc 0 v4] ?_
 cases h
 exact pwp_ret rz
 replace h := bF hc15 h
 rw [hc15]
 refine veM [5] 6 141 [(4, B false)] [sc 0 v4] ?_
 cases h
 exact pwp_ret rz
 replace h := bF hc16 h
 rw [hc16]
 refine veM [5] 9 141 [(4, B false)] [sc 0 v4] ?_
 cases h
 exact pwp_ret rz
 refine srveM [5] 141 [(0, A a0), (3, pf a1 0), (5, .ptr 0 0 0), (69, B (a1.fKind == 2))] [sc 0 v4] ?_
 refine pc h (fun h => ?_) (fun h => ?_)
 refine pwp_seq ?_
 refine pwp_seq ?_
 refine pwp_join (σ := Bool) (fun x18 => (⟨141, [(0, A a0), (3, pf a1 0), (5, .ptr 0 0 0), (110, B x18)], [sc 0 v4]⟩ : St)) (fun x18 => impl_bondOk_j1 a0 a1 v4 x18 = some y) ?_ ?_
 refine ip 141 [(0, A a0), (3, pf a1 0), (5, .ptr 0 0 0)] [sc 0 v4] ?_
 refine pwp_any ([[], [], [], [], [], [], [], [], [], [], [], [], [], [], [0], [], [], [], [], [], [], [], [], [], [], [], [], [], [], [], [], [], [], [], [], [], [], [], [], []]) ([[], [], [], [], [], [], [], [], [], [], [], [], [], [], [], [], [], [], [], [], [], [], [], [], [], [], [], [], [], [], [], [], [], [], [], [], [], [], [], []]) rfl (by kernel_rfl) ?_
 refine qvM [5] [] trivial 5 141 [(75, I (w64 ((a0.length : Int) - 1))), (72, I a1.fOf), (0, A a0), (3, pf a1 0), (5, .ptr 0 0 0)] [sc 0 v4] ?_
 obtain ⟨v36, hv37, h⟩ := bindS h
 refine qX (some 76) (B v36) 141 [(76, B v36), (0, A a0), (3, pf a1 0), (5, .ptr 0 0 0)] [sc 0 v4] (fun Γ' hΓ => CoreE.of_g (callV_sound (τ := τ) (by kernel_rfl) rfl (ok_impl_between hv37) (FzTo.frz rfl))) trivial ?_
 refine qvM [5] [] trivial 2 141 [(78, B (!v36)), (0, A a0), (3, pf a1 0), (5, .ptr 0 0 0)] [sc 0 v4] ?_
 rcases fk (!v36) with hc47 | hc47
 replace h := bT hc47 h
 rw [hc47]
 refine qvM [5] [] trivial 6 141 [(84, B true), (0, A a0), (3, pf a1 0), (5, .ptr 0 0 0)] [sc 0 v4] ?_
 refine qvM [5] [0] (hB trivial) 1 141 [(85, .lit undef), (84, B true), (0, A a0), (3, pf a1 0), (5, .ptr 0 0 0)] [sc 0 v4] ?_
 refine qvM [5] [] trivial 25 141 [(110, B true), (0, A a0), (3, pf a1 0), (5, .ptr 0 0 0)] [sc 0 v4] ?_
 refine qn 141 [(0, A a0), (3, pf a1 0), (5, .ptr 0 0 0), (110, B true)] [sc 0 v4] ?_
 exact ⟨true, h, it [0, 3, 5, 110]⟩
 replace h := bF hc47 h
 rw [hc47]
 refine qvM [5] [] trivial 6 141 [(84, B (decide ((a1.fE.length : Int) > 0))), (0, A a0), (3, pf a1 0), (5, .ptr 0 0 0)] [sc 0 v4] ?_
 rcases fk (decide ((a1.fE.length : Int) > 0)) with hc46 | hc46
 replace h := bT hc46 h
 rw [hc46]
 refine qvM [5] [0] (hB trivial) 1 141 [(85, .lit undef), (84, B true), (0, A a0), (3, pf a1 0), (5, .ptr 0 0 0)] [sc 0 v4] ?_
 refine qvM [5] [] trivial 25 141 [(110, B true), (0, A a0), (3, pf a1 0), (5, .ptr 0 0 0)] [sc 0 v4] ?_
 refine qn 141 [(0, A a0), (3, pf a1 0), (5, .ptr 0 0 0), (110, B true)] [sc 0 v4] ?_
 exact ⟨true, h, it [0, 3, 5, 110]⟩
 replace h := bF hc46 h
 rw [hc46]
 refine qvM [5] [0] (hB trivial) 1 141 [(85, E v4), (84, B false), (0, A a0), (3, pf a1 0), (5, .ptr 0 0 0)] [sc 0 v4] ?_
 refine qvM [5] [] trivial 2 141 [(87, A a1.fList), (85, E v4), (84, B false), (0, A a0), (3, pf a1 0), (5, .ptr 0 0 0)] [sc 0 v4] ?_
 obtain ⟨v38, hv39, h⟩ := bindS h
 refine qX (some 88) (B v38) 141 [(88, B v38), (84, B false), (0, A a0), (3, pf a1 0), (5, .ptr 0 0 0)] [sc 0 v4] (fun Γ' hΓ => CoreE.of_g (callV_sound (τ := τ) (by kernel_rfl) rfl (ok_impl_listOk hv39) (FzTo.frz rfl))) trivial ?_
 refine qvM [5] [] trivial 3 141 [(91, B (!v38)), (0, A a0), (3, pf a1 0), (5, .ptr 0 0 0)] [sc 0 v4] ?_
 rcases fk (!v38) with hc45 | hc45
 replace h := bT hc45 h
 rw [hc45]
 refine qvnM [5] [] trivial 19 141 [(0, A a0), (3, pf a1 0), (5, .ptr 0 0 0), (110, B true)] [sc 0 v4] ?_
 exact ⟨true, h, it [0, 3, 5, 110]⟩
 replace h := bF hc45 h
 rw [hc45]
 refine qvM [5] [] trivial 3 141 [(94, I a1.fOf), (92, A a0), (91, B false), (0, A a0), (3, pf a1 0), (5, .ptr 0 0 0)] [sc 0 v4] ?_
 obtain ⟨v40, hv41, h⟩ := bindS h
 refine qX (some 95) (pf v40 0) 141 [(95, pf v40 0), (91, B false), (0, A a0), (3, pf a1 0), (5, .ptr 0 0 0)] [sc 0 v4] (fun Γ' hΓ => CoreE.of_y (idxV_sound τ_ok (by kernel_rfl) hv41)) trivial ?_
 refine qvM [5] [] trivial 3 141 [(98, A a1.fTo), (96, E v40), (91, B false), (0, A a0), (3, pf a1 0), (5, .ptr 0 0 0)] [sc 0 v4] ?_
 obtain ⟨v42, hv43, h⟩ := bindS h
 refine qX (some 99) (B v42) 141 [(99, B v42), (91, B false), (0, A a0), (3, pf a1 0), (5, .ptr 0 0 0)] [sc 0 v4] (fun Γ' hΓ => CoreE.of_g (callV_sound (τ := τ) (by kernel_rfl) rfl (ok_impl_listOk hv43) (FzTo.frz rfl))) trivial ?_
 refine qvM [5] [] trivial 3 141 [(102, B (!v42)), (0, A a0), (3, pf a1 0), (5, .ptr 0 0 0)] [sc 0 v4] ?_
 rcases fk (!v42) with hc44 | hc44
 replace h := bT hc44 h
 rw [hc44]
 refine qvnM [5] [] trivial 8 141 [(0, A a0), (3, pf a1 0), (5, .ptr 0 0 0), (110, B true)] [sc 0 v4] ?_
 exact ⟨true, h, it [0, 3, 5, 110]⟩
 replace h := bF hc44 h
 rw [hc44]
 refine qvnM [5] [] trivial 8 141 [(0, A a0), (3, pf a1 0), (5, .ptr 0 0 0), (110, B (!((a1.fTo.length : Int) == (a1.fList.length : Int))))] [sc 0 v4] ?_
 exact ⟨(!((a1.fTo.length : Int) == (a1.fList.length : Int))), h, it [0, 3, 5, 110]⟩
 rintro x18 h
 unfold impl_bondOk_j1 at h
 refine pc h (fun h => ?_) (fun h => ?_)
 refine srveM [5] 141 [(4, B false)] [sc 0 v4] ?_
 cases h
 exact pwp_ret rz
 refine pwp_skip ?_
 refine pwp_seq ?_
 refine srveM [5] 141 [(0, A a0), (3, pf a1 0), (5, .ptr 0 0 0), (112, A a1.fList), (113, I (a1.fList.length : Int)), (114, I 0)] [sc 0 v4] ?_
 refine pwp_block ?_
 refine pwp_loop (ι := Nat × Int) (fun (f22, x21) => (⟨141, [(0, A a0), (3, pf a1 0), (5, .ptr 0 0 0), (112, A a1.fList), (113, I (a1.fList.length : Int)), (114, I x21)], [sc 0 v4]⟩ : St)) (fun (f22, x21) => impl_bondOk_l2 a0 a1 v4 f22 x21 = some y) Prod.fst (FUEL, 0) h (it [0, 3, 5, 112, 113, 114]) ?_
 rintro ⟨f22, x21⟩ h
 dsimp only at h ⊢
 rcases f22 with _ | f22
 cases h
 rw [impl_bondOk_l2] at h
 refine srveM [5] 141 [(0, A a0), (3, pf a1 0), (5, .ptr 0 0 0), (112, A a1.fList), (113, I (a1.fList.length : Int)), (114, I x21), (115, B (decide (x21 < (a1.fList.length : Int))))] [sc 0 v4] ?_
 refine pwp_seq ?_
 refine pc h (fun h => ?_) (fun h => ?_)
 refine pwp_skip ?_
 refine pwp_seq ?_
 refine pwp_block ?_
 refine srvM [5] 1 141 [(0, A a0), (3, pf a1 0), (5, .ptr 0 0 0), (112, A a1.fList), (113, I (a1.fList.length : Int)), (114, I x21), (116, I x21)] [sc 0 v4] ?_
 obtain ⟨v25, hv26, h⟩ := bindS h
 refine opsP_idx τ_ok 117 hv26 (by kernel_rfl) ?_
 refine veM [5] 3 141 [(0, A a0), (3, pf a1 0), (5, .ptr 0 0 0), (7, I x21), (8, I v25), (112, A a1.fList), (113, I (a1.fList.length : Int)), (114, I x21)] [sc 0 v4] ?_
 refine pwp_seq ?_
 refine ip 141 [(0, A a0), (3, pf a1 0), (5, .ptr 0 0 0), (7, I x21), (8, I v25), (112, A a1.fList), (113, I (a1.fList.length : Int)), (114, I x21)] [sc 0 v4] ?_
 refine pwp_any ([[0], [0], [], [], [], [], [], [], [], [], [], [], [], [], [], [], [], [], [], [], []]) ([[], [], [], [], [], [], [], [], [], [], [], [], [], [], [], [], [], [], [], [], []]) rfl (by kernel_rfl) ?_
 refine qvM [5] [0] (hB trivial) 2 141 [(120, A v4.fColumns), (0, A a0), (3, pf a1 0), (5, .ptr 0 0 0), (7, I x21), (8, I v25), (112, A a1.fList), (113, I (a1.fList.length : Int)), (114, I x21)] [sc 0 v4] ?_
 refine qvM [5] [] trivial 1 141 [(121, I v25), (120, A v4.fColumns), (0, A a0), (3, pf a1 0), (5, .ptr 0 0 0), (7, I x21), (112, A a1.fList), (113, I (a1.fList.length : Int)), (114, I x21)] [sc 0 v4] ?_
 obtain ⟨v27, hv28, h⟩ := bindS h
 refine qX (some 122) (pf v27 0) 141 [(122, pf v27 0), (0, A a0), (3, pf a1 0), (5, .ptr 0 0 0), (7, I x21), (112, A a1.fList), (113, I (a1.fList.length : Int)), (114, I x21)] [sc 0 v4] (fun Γ' hΓ => CoreE.of_y (idxV_sound τ_ok (by kernel_rfl) hv28)) trivial ?_
 refine qvM [5] [] trivial 5 141 [(127, I a1.fOf), (125, A a0), (124, I v27.fKind), (0, A a0), (3, pf a1 0), (5, .ptr 0 0 0), (7, I x21), (112, A a1.fList), (113, I (a1.fList.length : Int)), (114, I x21)] [sc 0 v4] ?_
 obtain ⟨v29, hv30, h⟩ := bindS h
 refine qX (some 128) (pf v29 0) 141 [(128, pf v29 0), (124, I v27.fKind), (0, A a0), (3, pf a1 0), (5, .ptr 0 0 0), (7, I x21), (112, A a1.fList), (113, I (a1.fList.length : Int)), (114, I x21)] [sc 0 v4] (fun Γ' hΓ => CoreE.of_y (idxV_sound τ_ok (by kernel_rfl) hv30)) trivial ?_
 refine qvM [5] [] trivial 5 141 [(133, I x21), (132, A a1.fTo), (130, A v29.fColumns), (124, I v27.fKind), (0, A a0), (3, pf a1 0), (5, .ptr 0 0 0), (112, A a1.fList), (113, I (a1.fList.length : Int)), (114, I x21)] [sc 0 v4] ?_
 obtain ⟨v31, hv32, h⟩ := bindS h
 refine qX (some 134) (pf v31 0) 141 [(134, pf v31 0), (130, A v29.fColumns), (124, I v27.fKind), (0, A a0), (3, pf a1 0), (5, .ptr 0 0 0), (112, A a1.fList), (113, I (a1.fList.length : Int)), (114, I x21)] [sc 0 v4] (fun Γ' hΓ => CoreE.of_y (idxV_sound τ_ok (by kernel_rfl) hv32)) trivial ?_
 refine qvM [5] [] trivial 1 141 [(135, I v31), (130, A v29.fColumns), (124, I v27.fKind), (0, A a0), (3, pf a1 0), (5, .ptr 0 0 0), (112, A a1.fList), (113, I (a1.fList.length : Int)), (114, I x21)] [sc 0 v4] ?_
 obtain ⟨v33, hv34, h⟩ := bindS h
 refine qX (some 136) (pf v33 0) 141 [(136, pf v33 0), (124, I v27.fKind), (0, A a0), (3, pf a1 0), (5, .ptr 0 0 0), (112, A a1.fList), (113, I (a1.fList.length : Int)), (114, I x21)] [sc 0 v4] (fun Γ' hΓ => CoreE.of_y (idxV_sound τ_ok (by kernel_rfl) hv34)) trivial ?_
 refine qvnM [5] [] trivial 3 141 [(0, A a0), (3, pf a1 0), (5, .ptr 0 0 0), (112, A a1.fList), (113, I (a1.fList.length : Int)), (114, I x21), (139, B (!(v27.fKind == v33.fKind)))] [sc 0 v4] ?_
 refine pc h (fun h => ?_) (fun h => ?_)
 refine srveM [5] 141 [(4, B false)] [sc 0 v4] ?_
 cases h
 exact pwp_ret rz
 refine pwp_skip ?_
 refine rveM [5] 141 [(0, A a0), (3, pf a1 0), (5, .ptr 0 0 0), (112, A a1.fList), (113, I (a1.fList.length : Int)), (114, I (w64 (x21 + 1)))] [sc 0 v4] ?_
 exact ⟨(f22, (w64 (x21 + 1))), h, Nat.lt_succ_self _, it [0, 3, 5, 112, 113, 114]⟩
 refine pwp_exit ?_
 refine srveM [5] 141 [(4, B true)] [sc 0 v4] ?_
 cases h
 exact pwp_ret rz
 refine pwp_skip ?_
 refine srveM [5] 141 [(4, B false)] [sc 0 v4] ?_
 cases h
 exact pwp_ret rz
def impl_RowsOk_1 (a0 : List T_impl_Value) (b0 : List T_impl_Column) : Option Bool := (impl_RowFits b0 a0).bind fun v1 => some (!v1)
theorem ok_impl_RowsOk_1 {a0 : List T_impl_Value} {b0 : List T_impl_Column} {y : Bool} (h : impl_RowsOk_1 a0 b0 = some y) : OK Tryz.prog 74 [A a0, pf b0 0] (B y) := by
 refine ow Tryz.func74 fun Γ hX => ?_
 unfold impl_RowsOk_1 at h
 refine srve 8 [(0, A a0), (1, pf b0 0)] [] ?_
 refine srv 2 8 [(4, A b0), (5, A a0)] [] ?_
 obtain ⟨v1, hv2, h⟩ := bindS h
 refine cF 6 (ok_impl_RowFits hv2) ?_
 refine ve 2 8 [(3, B (!v1))] [] ?_
 cases h
 exact pwp_ret rz
def spec_l4Value_l0 (a0 : List T_impl_Value) (a1 : List T_impl_Part) : Nat → Int → (List T_impl_Value) → Option T_impl_Value
 | 0, _, _ => none
 | f5 + 1, x3, x4 => bif (decide (x3 < (a1.length : Int))) then (getI a1 x3).bind fun v8 => (spec_l4Do a0 x4 v8).bind fun v10 => (spec_l4Value_l0 a0 a1 f5) (w64 (x3 + 1)) v10 else (getI x4 (0 : Int)).bind fun v12 => some v12
def spec_l4Value (a0 : List T_impl_Value) (a1 : List T_impl_Part) : Option T_impl_Value := spec_l4Value_l0 a0 a1 FUEL 0 ([] : List T_impl_Value)
theorem ok_spec_l4Value {a0 : List T_impl_Value} {a1 : List T_impl_Part} {y : T_impl_Value} (h : spec_l4Value a0 a1 = some y) : OK Tryz.prog 103 [A a0, A a1] (E y) := by
 refine ow Tryz.func103 fun Γ hX => ?_
 unfold spec_l4Value at h
 refine srveM [4] 24 [(0, A a0), (1, A a1), (4, .ptr 0 0 0)] [some ⟨0, Enc.cells (T_impl_Value.mk 0 0 (ByteArray.mk #[]))⟩] ?_
 refine srveM [4] 24 [(0, A a0), (1, A a1), (4, .ptr 0 0 0), (5, .arr 3 0 (eL ([] : List T_impl_Value)) true)] [some ⟨0, Enc.cells (T_impl_Value.mk 0 0 (ByteArray.mk #[]))⟩] ?_
 refine pwp_seq ?_
 refine srveM [4] 24 [(0, A a0), (1, A a1), (4, .ptr 0 0 0), (5, .arr 3 0 (eL ([] : List T_impl_Value)) true), (6, I 0)] [some ⟨0, Enc.cells (T_impl_Value.mk 0 0 (ByteArray.mk #[]))⟩] ?_
 refine pwp_block ?_
 refine pwp_loop (ι := Nat × Int × (List T_impl_Value)) (fun (f5, x3, x4) => (⟨24, [(0, A a0), (1, A a1), (4, .ptr 0 0 0), (5, rf 1 0 3 x4), (6, I x3)], [some ⟨0, Enc.cells (T_impl_Value.mk 0 0 (ByteArray.mk #[]))⟩, sl 0 x4]⟩ : St)) (fun (f5, x3, x4) => spec_l4Value_l0 a0 a1 f5 x3 x4 = some y) Prod.fst (FUEL, 0, ([] : List T_impl_Value)) h (Imp.thawS 5 [0, 1, 4, 5, 6] (by kernel_rfl)) ?_
 rintro ⟨f5, x3, x4⟩ h
 dsimp only at h ⊢
 rcases f5 with _ | f5
 cases h
 rw [spec_l4Value_l0] at h
 refine pwp_seq ?_
 refine srveM [4] 24 [(0, A a0), (1, A a1), (4, .ptr 0 0 0), (5, rf 1 0 3 x4), (6, I x3), (11, B (decide (x3 < (a1.length : Int))))] [some ⟨0, Enc.cells (T_impl_Value.mk 0 0 (ByteArray.mk #[]))⟩, sl 0 x4] ?_
 refine pc h (fun h => ?_) (fun h => ?_)
 refine pwp_skip ?_
 refine pwp_seq ?_
 refine pwp_block ?_
 refine rvM [4] 4 24 [(0, A a0), (1, A a1), (4, .ptr 0 0 0), (6, I x3), (14, A a0), (15, rf 1 0 3 x4), (16, A a1), (17, I x3)] [some ⟨0, Enc.cells (T_impl_Value.mk 0 0 (ByteArray.mk #[]))⟩, sl 0 x4] ?_
 obtain ⟨v8, hv9, h⟩ := bindS h
 refine opsP_idx τ_ok 18 hv9 (by kernel_rfl) ?_
 refine vM [4] 1 24 [(0, A a0), (1, A a1), (4, .ptr 0 0 0), (6, I x3), (14, A a0), (15, rf 1 0 3 x4), (19, E v8)] [some ⟨0, Enc.cells (T_impl_Value.mk 0 0 (ByteArray.mk #[]))⟩, sl 0 x4] ?_
 obtain ⟨v10, hv11, h⟩ := bindS h
 refine opsP_callM (xs := [A a0, rf 1 0 3 x4, E v8]) (x := rf 2 0 3 v10) (bs := [⟨0, eL v10⟩]) τ 20 [1] (nx hX) (ok_spec_l4Do hv11) (by kernel_rfl) (OutL.cons (OutP.frz rfl) (OutL.cons (OutP.list (v := 0) (by kernel_rfl)) (OutL.cons (OutP.frz rfl) (OutL.nil _)))) (by decide) (by kernel_rfl) ?_
 refine veM [4] 1 24 [(0, A a0), (1, A a1), (4, .ptr 0 0 0), (5, rf 2 0 3 v10), (6, I x3)] [some ⟨0, Enc.cells (T_impl_Value.mk 0 0 (ByteArray.mk #[]))⟩, none, sl 0 v10] ?_
 refine rveM [4] 24 [(0, A a0), (1, A a1), (4, .ptr 0 0 0), (5, rf 2 0 3 v10), (6, I (w64 (x3 + 1)))] [some ⟨0, Enc.cells (T_impl_Value.mk 0 0 (ByteArray.mk #[]))⟩, none, sl 0 v10] ?_
 exact ⟨(f5, (w64 (x3 + 1)), v10), h, Nat.lt_succ_self _, qt (it (st' := ⟨24, [(0, A a0), (1, A a1), (4, .ptr 0 0 0), (5, rf 2 0 3 v10), (6, I (w64 (x3 + 1)))], [some ⟨0, Enc.cells (T_impl_Value.mk 0 0 (ByteArray.mk #[]))⟩, none, sl 0 v10]⟩) [0, 1, 4, 5, 6]) (qt (Imp.mvS (st' := ⟨24, [(0, A a0), (1, A a1), (4, .ptr 0 0 0), (5, rf 1 0 3 v10), (6, I (w64 (x3 + 1)))], [some ⟨0, Enc.cells (T_impl_Value.mk 0 0 (ByteArray.mk #[]))⟩, sl 0 v10, none]⟩) 2 1 [0, 1, 4, 5, 6] (nx hX) (v := 0) (cs := eL v10) (by kernel_rfl) (by kernel_rfl) (by exact (And.intro (rfl) (And.intro (eL_frz _) trivial))) (by kernel_rfl) (by kernel_rfl)) (Imp.truncS 2 (nx hX) (by kernel_rfl) (allBelow_mem (by exact (And.intro rfl (And.intro rfl (And.intro rfl (And.intro rfl (And.intro rfl trivial))))))) (by exact (And.intro (rfl) (And.intro (frz_below (eL_frz _)) trivial))) (by kernel_rfl)))⟩
 refine pwp_exit ?_
 refine srvM [4] 1 24 [(4, .ptr 0 0 0), (21, rf 1 0 3 x4)] [some ⟨0, Enc.cells (T_impl_Value.mk 0 0 (ByteArray.mk #[]))⟩, sl 0 x4] ?_
 obtain ⟨v12, hv13, h⟩ := bindS h
 refine opsP_idr τ_ok 22 1 0 x4.length hv13 rfl (by kernel_rfl) ?_
 refine opsP_lde (r := E v12) τ_ok 23 90 0 hv13 (by kernel_rfl) (by kernel_rfl) ?_
 refine veM [4] 1 24 [(4, .ptr 0 0 0)] [sc 0 v12, sl 0 x4] ?_
 cases h
 exact pwp_ret rz
def impl_Part_value_j0 (v6 : T_impl_Value) (v8 : T_impl_Value) (x10 : Bool) : Option T_impl_Value := bif x10 then some (T_impl_Value.mk 0 0 (ByteArray.mk #[])) else some (T_impl_Value.mk 1 (w64 (v6.fN + v8.fN)) (ByteArray.mk #[]))
def impl_Part_value (a0 : T_impl_Part) (a1 : List T_impl_Value) (a2 : List T_impl_Value) : Option T_impl_Value := bif (a0.fKind == 1) then some a0.fV else bif (a0.fKind == 2) then (getI a1 a0.fN).bind fun v3 => some v3 else bif (a0.fKind == 3) then (getI a2 0).bind fun v6 => (getI a2 1).bind fun v8 => (getI a2 0).bind fun v12 => bif (v12.fKind == 0) then impl_Part_value_j0 v6 v8 true else (getI a2 1).bind fun v14 => bif (v14.fKind == 0) then impl_Part_value_j0 v6 v8 true else (impl_Value_ok (T_impl_Value.mk 1 (w64 (v6.fN + v8.fN)) (ByteArray.mk #[]))).bind fun v16 => impl_Part_value_j0 v6 v8 (!v16) else bif (a0.fKind == 4) then (getI a2 0).bind fun v21 => (getI a2 1).bind fun v23 => (impl_Compare a0.fN v21 v23).bind fun v25 => (impl_ValueOf v25).bind fun v27 => some v27 else bif (a0.fKind == 5) then (getI a2 0).bind fun v30 => (impl_TruthOf v30).bind fun v32 => (getI a2 1).bind fun v34 => (impl_TruthOf v34).bind fun v36 => (impl_AndOf v32 v36).bind fun v38 => (impl_ValueOf v38).bind fun v40 => some v40 else bif (a0.fKind == 6) then (getI a2 0).bind fun v43 => (impl_TruthOf v43).bind fun v45 => (getI a2 1).bind fun v47 => (impl_TruthOf v47).bind fun v49 => (impl_OrOf v45 v49).bind fun v51 => (impl_ValueOf v51).bind fun v53 => some v53 else bif (a0.fKind == 7) then (getI a2 0).bind fun v56 => (impl_TruthOf v56).bind fun v58 => (impl_NotOf v58).bind fun v60 => (impl_ValueOf v60).bind fun v62 => some v62 else (getI a2 0).bind fun v64 => (impl_truthIf (v64.fKind == 0)).bind fun v66 => (impl_ValueOf v66).bind fun v68 => some v68
theorem ok_impl_Part_value {a0 : T_impl_Part} {a1 : List T_impl_Value} {a2 : List T_impl_Value} {y : T_impl_Value} (h : impl_Part_value a0 a1 a2 = some y) : OK Tryz.prog 147 [E a0, A a1, A a2] (E y) := by
 refine ow Tryz.func147 fun Γ hX => ?_
 unfold impl_Part_value at h
 refine srveM [6, 7] 103 [(1, A a1), (2, A a2), (3, pf a0 0), (6, .ptr 0 0 0)] [some ⟨0, Enc.cells (T_impl_Value.mk 0 0 (ByteArray.mk #[]))⟩] ?_
 refine pwp_seq ?_
 refine srveM [6, 7] 103 [(1, A a1), (2, A a2), (3, pf a0 0), (6, .ptr 0 0 0), (9, I a0.fKind)] [some ⟨0, Enc.cells (T_impl_Value.mk 0 0 (ByteArray.mk #[]))⟩] ?_
 refine pwp_block ?_
 refine srveM [6, 7] 103 [(1, A a1), (2, A a2), (3, pf a0 0), (6, .ptr 0 0 0), (9, I a0.fKind), (10, B (a0.fKind == 1))] [some ⟨0, Enc.cells (T_impl_Value.mk 0 0 (ByteArray.mk #[]))⟩] ?_
 refine pc h (fun h => ?_) (fun h => ?_)
 refine srveM [6, 7] 103 [(6, .ptr 0 0 0)] [sc 0 a0.fV] ?_
 cases h
 exact pwp_ret rz
 refine srveM [6, 7] 103 [(1, A a1), (2, A a2), (3, pf a0 0), (6, .ptr 0 0 0), (9, I a0.fKind), (14, B (a0.fKind == 2))] [some ⟨0, Enc.cells (T_impl_Value.mk 0 0 (ByteArray.mk #[]))⟩] ?_
 refine pc h (fun h => ?_) (fun h => ?_)
 refine srvM [6, 7] 3 103 [(6, .ptr 0 0 0), (16, A a1), (18, I a0.fN)] [some ⟨0, Enc.cells (T_impl_Value.mk 0 0 (ByteArray.mk #[]))⟩] ?_
 obtain ⟨v3, hv4, h⟩ := bindS h
 refine opsP_idx τ_ok 19 hv4 (by kernel_rfl) ?_
 refine veM [6, 7] 2 103 [(6, .ptr 0 0 0)] [sc 0 v3] ?_
 cases h
 exact pwp_ret rz
 refine srveM [6, 7] 103 [(2, A a2), (3, pf a0 0), (6, .ptr 0 0 0), (9, I a0.fKind), (21, B (a0.fKind == 3))] [some ⟨0, Enc.cells (T_impl_Value.mk 0 0 (ByteArray.mk #[]))⟩] ?_
 refine pc h (fun h => ?_) (fun h => ?_)
 refine pwp_seq ?_
 refine ip 103 [(2, A a2), (6, .ptr 0 0 0)] [some ⟨0, Enc.cells (T_impl_Value.mk 0 0 (ByteArray.mk #[]))⟩] ?_
 refine pwp_imp (Imp.ghosts 1 (st' := ⟨103, [(2, A a2), (6, .ptr 0 0 0)], [some ⟨0, Enc.cells (T_impl_Value.mk 0 0 (ByteArray.mk #[]))⟩, some ⟨0, []⟩]⟩) (by kernel_rfl)) ?_
 refine pwp_any ([[], [], [], [], [], [], [], [], [], [], [1], [1]]) ([[], [], [], [], [], [], [], [], [], [], [1], [1]]) rfl (by kernel_rfl) ?_
 refine qvM [6, 7] [] trivial 1 103 [(23, A a2), (2, A a2), (6, .ptr 0 0 0)] [some ⟨0, Enc.cells (T_impl_Value.mk 0 0 (ByteArray.mk #[]))⟩, some ⟨0, []⟩] ?_
 obtain ⟨v6, hv7, h⟩ := bindS h
 refine qX (some 24) (pf v6 0) 103 [(24, pf v6 0), (2, A a2), (6, .ptr 0 0 0)] [some ⟨0, Enc.cells (T_impl_Value.mk 0 0 (ByteArray.mk #[]))⟩, some ⟨0, []⟩] (fun Γ' hΓ => CoreE.of_y (idxV_sound τ_ok (by kernel_rfl) hv7)) trivial ?_
 refine qvM [6, 7] [] trivial 3 103 [(27, A a2), (26, I v6.fN), (2, A a2), (6, .ptr 0 0 0)] [some ⟨0, Enc.cells (T_impl_Value.mk 0 0 (ByteArray.mk #[]))⟩, some ⟨0, []⟩] ?_
 obtain ⟨v8, hv9, h⟩ := bindS h
 refine qX (some 28) (pf v8 0) 103 [(28, pf v8 0), (26, I v6.fN), (2, A a2), (6, .ptr 0 0 0)] [some ⟨0, Enc.cells (T_impl_Value.mk 0 0 (ByteArray.mk #[]))⟩, some ⟨0, []⟩] (fun Γ' hΓ => CoreE.of_y (idxV_sound τ_ok (by kernel_rfl) hv9)) trivial ?_
 refine qvM [6, 7] [] trivial 4 103 [(32, E (T_impl_Value.mk 1 (w64 (v6.fN + v8.fN)) (ByteArray.mk #[]))), (2, A a2), (6, .ptr 0 0 0)] [some ⟨0, Enc.cells (T_impl_Value.mk 0 0 (ByteArray.mk #[]))⟩, some ⟨0, []⟩] ?_
 refine qX (Hm' := [none, some ⟨1, Enc.cells (T_impl_Value.mk 0 0 (ByteArray.mk #[]))⟩]) (some 7) (.ptr 1 1 0) 103 [(7, .ptr 1 1 0), (32, E (T_impl_Value.mk 1 (w64 (v6.fN + v8.fN)) (ByteArray.mk #[]))), (2, A a2), (6, .ptr 0 0 0)] [some ⟨0, Enc.cells (T_impl_Value.mk 0 0 (ByteArray.mk #[]))⟩, some ⟨1, Enc.cells (T_impl_Value.mk 0 0 (ByteArray.mk #[]))⟩] (fun Γ' hΓ => alc_E (blk := ⟨0, []⟩) τ_ok [6, 7] 7 1 0 (ny hΓ hX) (by kernel_rfl) (by kernel_rfl)) (hB trivial) ?_
 refine qX (Hm' := [none, some ⟨1, Enc.cells (T_impl_Value.mk 1 (w64 (v6.fN + v8.fN)) (ByteArray.mk #[]))⟩]) none (.any) 103 [(7, .ptr 1 1 0), (2, A a2), (6, .ptr 0 0 0)] [some ⟨0, Enc.cells (T_impl_Value.mk 0 0 (ByteArray.mk #[]))⟩, some ⟨1, Enc.cells (T_impl_Value.mk 1 (w64 (v6.fN + v8.fN)) (ByteArray.mk #[]))⟩] (fun Γ' hΓ => sto_E τ_ok 1 1 (by kernel_rfl)) (hB trivial) ?_
 refine qn 103 [(2, A a2), (6, .ptr 0 0 0), (7, .ptr 1 1 0)] [some ⟨0, Enc.cells (T_impl_Value.mk 0 0 (ByteArray.mk #[]))⟩, some ⟨1, Enc.cells (T_impl_Value.mk 1 (w64 (v6.fN + v8.fN)) (ByteArray.mk #[]))⟩] ?_
 refine pwp_seq ?_
 refine pwp_seq ?_
 refine pwp_join (σ := Bool) (fun x10 => (⟨103, [(6, .ptr 0 0 0), (7, .ptr 1 1 0), (49, B x10)], [some ⟨0, Enc.cells (T_impl_Value.mk 0 0 (ByteArray.mk #[]))⟩, some ⟨1, Enc.cells (T_impl_Value.mk 1 (w64 (v6.fN + v8.fN)) (ByteArray.mk #[]))⟩]⟩ : St)) (fun x10 => impl_Part_value_j0 v6 v8 x10 = some y) ?_ ?_
 refine rvM [6, 7] 1 103 [(2, A a2), (6, .ptr 0 0 0), (7, .ptr 1 1 0), (33, A a2)] [some ⟨0, Enc.cells (T_impl_Value.mk 0 0 (ByteArray.mk #[]))⟩, some ⟨1, Enc.cells (T_impl_Value.mk 1 (w64 (v6.fN + v8.fN)) (ByteArray.mk #[]))⟩] ?_
 obtain ⟨v12, hv13, h⟩ := bindS h
 refine opsP_idx τ_ok 34 hv13 (by kernel_rfl) ?_
 refine vM [6, 7] 4 103 [(2, A a2), (6, .ptr 0 0 0), (7, .ptr 1 1 0), (38, B (v12.fKind == 0))] [some ⟨0, Enc.cells (T_impl_Value.mk 0 0 (ByteArray.mk #[]))⟩, some ⟨1, Enc.cells (T_impl_Value.mk 1 (w64 (v6.fN + v8.fN)) (ByteArray.mk #[]))⟩] ?_
 rcases fk (v12.fKind == 0) with hc19 | hc19
 replace h := bT hc19 h
 rw [hc19]
 refine veM [6, 7] 11 103 [(6, .ptr 0 0 0), (7, .ptr 1 1 0), (49, B true)] [some ⟨0, Enc.cells (T_impl_Value.mk 0 0 (ByteArray.mk #[]))⟩, some ⟨1, Enc.cells (T_impl_Value.mk 1 (w64 (v6.fN + v8.fN)) (ByteArray.mk #[]))⟩] ?_
 exact ⟨true, h, it [6, 7, 49]⟩
 replace h := bF hc19 h
 rw [hc19]
 refine vM [6, 7] 1 103 [(6, .ptr 0 0 0), (7, .ptr 1 1 0), (38, B false), (39, A a2)] [some ⟨0, Enc.cells (T_impl_Value.mk 0 0 (ByteArray.mk #[]))⟩, some ⟨1, Enc.cells (T_impl_Value.mk 1 (w64 (v6.fN + v8.fN)) (ByteArray.mk #[]))⟩] ?_
 obtain ⟨v14, hv15, h⟩ := bindS h
 refine opsP_idx τ_ok 40 hv15 (by kernel_rfl) ?_
 refine vM [6, 7] 5 103 [(6, .ptr 0 0 0), (7, .ptr 1 1 0), (45, B (v14.fKind == 0))] [some ⟨0, Enc.cells (T_impl_Value.mk 0 0 (ByteArray.mk #[]))⟩, some ⟨1, Enc.cells (T_impl_Value.mk 1 (w64 (v6.fN + v8.fN)) (ByteArray.mk #[]))⟩] ?_
 rcases fk (v14.fKind == 0) with hc18 | hc18
 replace h := bT hc18 h
 rw [hc18]
 refine veM [6, 7] 4 103 [(6, .ptr 0 0 0), (7, .ptr 1 1 0), (49, B true)] [some ⟨0, Enc.cells (T_impl_Value.mk 0 0 (ByteArray.mk #[]))⟩, some ⟨1, Enc.cells (T_impl_Value.mk 1 (w64 (v6.fN + v8.fN)) (ByteArray.mk #[]))⟩] ?_
 exact ⟨true, h, it [6, 7, 49]⟩
 replace h := bF hc18 h
 rw [hc18]
 refine vM [6, 7] 1 103 [(6, .ptr 0 0 0), (7, .ptr 1 1 0), (45, B false), (46, E (T_impl_Value.mk 1 (w64 (v6.fN + v8.fN)) (ByteArray.mk #[])))] [some ⟨0, Enc.cells (T_impl_Value.mk 0 0 (ByteArray.mk #[]))⟩, some ⟨1, Enc.cells (T_impl_Value.mk 1 (w64 (v6.fN + v8.fN)) (ByteArray.mk #[]))⟩] ?_
 obtain ⟨v16, hv17, h⟩ := bindS h
 refine cF 47 (ok_impl_Value_ok hv17) ?_
 refine veM [6, 7] 2 103 [(6, .ptr 0 0 0), (7, .ptr 1 1 0), (49, B (!v16))] [some ⟨0, Enc.cells (T_impl_Value.mk 0 0 (ByteArray.mk #[]))⟩, some ⟨1, Enc.cells (T_impl_Value.mk 1 (w64 (v6.fN + v8.fN)) (ByteArray.mk #[]))⟩] ?_
 exact ⟨(!v16), h, it [6, 7, 49]⟩
 rintro x10 h
 unfold impl_Part_value_j0 at h
 refine pc h (fun h => ?_) (fun h => ?_)
 refine srveM [6, 7] 103 [(6, .ptr 0 0 0)] [some ⟨0, Enc.cells (T_impl_Value.mk 0 0 (ByteArray.mk #[]))⟩, some ⟨1, Enc.cells (T_impl_Value.mk 1 (w64 (v6.fN + v8.fN)) (ByteArray.mk #[]))⟩] ?_
 cases h
 exact pwp_ret rz
 refine pwp_skip ?_
 refine srveM [6, 7] 103 [(6, .ptr 0 0 0)] [some ⟨0, Enc.cells (T_impl_Value.mk 1 (w64 (v6.fN + v8.fN)) (ByteArray.mk #[]))⟩, some ⟨1, Enc.cells (T_impl_Value.mk 1 (w64 (v6.fN + v8.fN)) (ByteArray.mk #[]))⟩] ?_
 cases h
 exact pwp_ret rz
 refine srveM [6, 7] 103 [(2, A a2), (3, pf a0 0), (6, .ptr 0 0 0), (9, I a0.fKind), (52, B (a0.fKind == 4))] [some ⟨0, Enc.cells (T_impl_Value.mk 0 0 (ByteArray.mk #[]))⟩] ?_
 refine pc h (fun h => ?_) (fun h => ?_)
 refine pwp_seq ?_
 refine ip 103 [(2, A a2), (3, pf a0 0), (6, .ptr 0 0 0)] [some ⟨0, Enc.cells (T_impl_Value.mk 0 0 (ByteArray.mk #[]))⟩] ?_
 refine pwp_any ([[], [], [], [], [], [], [], [], [], [], [0]]) ([[], [], [], [], [], [], [], [], [], [], [0]]) rfl (by kernel_rfl) ?_
 refine qvM [6, 7] [] trivial 3 103 [(56, A a2), (55, I a0.fN), (2, A a2), (6, .ptr 0 0 0)] [some ⟨0, Enc.cells (T_impl_Value.mk 0 0 (ByteArray.mk #[]))⟩] ?_
 obtain ⟨v21, hv22, h⟩ := bindS h
 refine qX (some 57) (pf v21 0) 103 [(57, pf v21 0), (55, I a0.fN), (2, A a2), (6, .ptr 0 0 0)] [some ⟨0, Enc.cells (T_impl_Value.mk 0 0 (ByteArray.mk #[]))⟩] (fun Γ' hΓ => CoreE.of_y (idxV_sound τ_ok (by kernel_rfl) hv22)) trivial ?_
 refine qvM [6, 7] [] trivial 2 103 [(59, A a2), (58, E v21), (55, I a0.fN), (6, .ptr 0 0 0)] [some ⟨0, Enc.cells (T_impl_Value.mk 0 0 (ByteArray.mk #[]))⟩] ?_
 obtain ⟨v23, hv24, h⟩ := bindS h
 refine qX (some 60) (pf v23 0) 103 [(60, pf v23 0), (58, E v21), (55, I a0.fN), (6, .ptr 0 0 0)] [some ⟨0, Enc.cells (T_impl_Value.mk 0 0 (ByteArray.mk #[]))⟩] (fun Γ' hΓ => CoreE.of_y (idxV_sound τ_ok (by kernel_rfl) hv24)) trivial ?_
 refine qvM [6, 7] [] trivial 1 103 [(61, E v23), (58, E v21), (55, I a0.fN), (6, .ptr 0 0 0)] [some ⟨0, Enc.cells (T_impl_Value.mk 0 0 (ByteArray.mk #[]))⟩] ?_
 obtain ⟨v25, hv26, h⟩ := bindS h
 refine qX (some 62) (I v25) 103 [(62, I v25), (6, .ptr 0 0 0)] [some ⟨0, Enc.cells (T_impl_Value.mk 0 0 (ByteArray.mk #[]))⟩] (fun Γ' hΓ => CoreE.of_g (callV_sound (τ := τ) (by kernel_rfl) rfl (ok_impl_Compare hv26) (FzTo.frz rfl))) trivial ?_
 obtain ⟨v27, hv28, h⟩ := bindS h
 refine qX (some 63) (E v27) 103 [(63, E v27), (6, .ptr 0 0 0)] [some ⟨0, Enc.cells (T_impl_Value.mk 0 0 (ByteArray.mk #[]))⟩] (fun Γ' hΓ => CoreE.of_g (callV_sound (τ := τ) (by kernel_rfl) rfl (ok_impl_ValueOf hv28) (FzTo.frz rfl))) trivial ?_
 refine qX (Hm' := [sc 0 v27]) none (.any) 103 [(6, .ptr 0 0 0)] [sc 0 v27] (fun Γ' hΓ => sto_E τ_ok 0 0 (by kernel_rfl)) (hB trivial) ?_
 refine qn 103 [(6, .ptr 0 0 0)] [sc 0 v27] ?_
 cases h
 exact pwp_ret rz
 refine srveM [6, 7] 103 [(2, A a2), (6, .ptr 0 0 0), (9, I a0.fKind), (64, B (a0.fKind == 5))] [some ⟨0, Enc.cells (T_impl_Value.mk 0 0 (ByteArray.mk #[]))⟩] ?_
 refine pc h (fun h => ?_) (fun h => ?_)
 refine pwp_seq ?_
 refine ip 103 [(2, A a2), (6, .ptr 0 0 0)] [some ⟨0, Enc.cells (T_impl_Value.mk 0 0 (ByteArray.mk #[]))⟩] ?_
 refine pwp_any ([[], [], [], [], [], [], [], [], [], [], [0]]) ([[], [], [], [], [], [], [], [], [], [], [0]]) rfl (by kernel_rfl) ?_
 refine qvM [6, 7] [] trivial 1 103 [(66, A a2), (2, A a2), (6, .ptr 0 0 0)] [some ⟨0, Enc.cells (T_impl_Value.mk 0 0 (ByteArray.mk #[]))⟩] ?_
 obtain ⟨v30, hv31, h⟩ := bindS h
 refine qX (some 67) (pf v30 0) 103 [(67, pf v30 0), (2, A a2), (6, .ptr 0 0 0)] [some ⟨0, Enc.cells (T_impl_Value.mk 0 0 (ByteArray.mk #[]))⟩] (fun Γ' hΓ => CoreE.of_y (idxV_sound τ_ok (by kernel_rfl) hv31)) trivial ?_
 refine qvM [6, 7] [] trivial 1 103 [(68, E v30), (2, A a2), (6, .ptr 0 0 0)] [some ⟨0, Enc.cells (T_impl_Value.mk 0 0 (ByteArray.mk #[]))⟩] ?_
 obtain ⟨v32, hv33, h⟩ := bindS h
 refine qX (some 69) (I v32) 103 [(69, I v32), (2, A a2), (6, .ptr 0 0 0)] [some ⟨0, Enc.cells (T_impl_Value.mk 0 0 (ByteArray.mk #[]))⟩] (fun Γ' hΓ => CoreE.of_g (callV_sound (τ := τ) (by kernel_rfl) rfl (ok_impl_TruthOf hv33) (FzTo.frz rfl))) trivial ?_
 refine qvM [6, 7] [] trivial 1 103 [(70, A a2), (69, I v32), (6, .ptr 0 0 0)] [some ⟨0, Enc.cells (T_impl_Value.mk 0 0 (ByteArray.mk #[]))⟩] ?_
 obtain ⟨v34, hv35, h⟩ := bindS h
 refine qX (some 71) (pf v34 0) 103 [(71, pf v34 0), (69, I v32), (6, .ptr 0 0 0)] [some ⟨0, Enc.cells (T_impl_Value.mk 0 0 (ByteArray.mk #[]))⟩] (fun Γ' hΓ => CoreE.of_y (idxV_sound τ_ok (by kernel_rfl) hv35)) trivial ?_
 refine qvM [6, 7] [] trivial 1 103 [(72, E v34), (69, I v32), (6, .ptr 0 0 0)] [some ⟨0, Enc.cells (T_impl_Value.mk 0 0 (ByteArray.mk #[]))⟩] ?_
 obtain ⟨v36, hv37, h⟩ := bindS h
 refine qX (some 73) (I v36) 103 [(73, I v36), (69, I v32), (6, .ptr 0 0 0)] [some ⟨0, Enc.cells (T_impl_Value.mk 0 0 (ByteArray.mk #[]))⟩] (fun Γ' hΓ => CoreE.of_g (callV_sound (τ := τ) (by kernel_rfl) rfl (ok_impl_TruthOf hv37) (FzTo.frz rfl))) trivial ?_
 obtain ⟨v38, hv39, h⟩ := bindS h
 refine qX (some 74) (I v38) 103 [(74, I v38), (6, .ptr 0 0 0)] [some ⟨0, Enc.cells (T_impl_Value.mk 0 0 (ByteArray.mk #[]))⟩] (fun Γ' hΓ => CoreE.of_g (callV_sound (τ := τ) (by kernel_rfl) rfl (ok_impl_AndOf hv39) (FzTo.frz rfl))) trivial ?_
 obtain ⟨v40, hv41, h⟩ := bindS h
 refine qX (some 75) (E v40) 103 [(75, E v40), (6, .ptr 0 0 0)] [some ⟨0, Enc.cells (T_impl_Value.mk 0 0 (ByteArray.mk #[]))⟩] (fun Γ' hΓ => CoreE.of_g (callV_sound (τ := τ) (by kernel_rfl) rfl (ok_impl_ValueOf hv41) (FzTo.frz rfl))) trivial ?_
 refine qX (Hm' := [sc 0 v40]) none (.any) 103 [(6, .ptr 0 0 0)] [sc 0 v40] (fun Γ' hΓ => sto_E τ_ok 0 0 (by kernel_rfl)) (hB trivial) ?_
 refine qn 103 [(6, .ptr 0 0 0)] [sc 0 v40] ?_
 cases h
 exact pwp_ret rz
 refine srveM [6, 7] 103 [(2, A a2), (6, .ptr 0 0 0), (9, I a0.fKind), (76, B (a0.fKind == 6))] [some ⟨0, Enc.cells (T_impl_Value.mk 0 0 (ByteArray.mk #[]))⟩] ?_
 refine pc h (fun h => ?_) (fun h => ?_)
 refine pwp_seq ?_
 refine ip 103 [(2, A a2), (6, .ptr 0 0 0)] [some ⟨0, Enc.cells (T_impl_Value.mk 0 0 (ByteArray.mk #[]))⟩] ?_
 refine pwp_any ([[], [], [], [], [], [], [], [], [], [], [0]]) ([[], [], [], [], [], [], [], [], [], [], [0]]) rfl (by kernel_rfl) ?_
 refine qvM [6, 7] [] trivial 1 103 [(78, A a2), (2, A a2), (6, .ptr 0 0 0)] [some ⟨0, Enc.cells (T_impl_Value.mk 0 0 (ByteArray.mk #[]))⟩] ?_
 obtain ⟨v43, hv44, h⟩ := bindS h
 refine qX (some 79) (pf v43 0) 103 [(79, pf v43 0), (2, A a2), (6, .ptr 0 0 0)] [some ⟨0, Enc.cells (T_impl_Value.mk 0 0 (ByteArray.mk #[]))⟩] (fun Γ' hΓ => CoreE.of_y (idxV_sound τ_ok (by kernel_rfl) hv44)) trivial ?_
 refine qvM [6, 7] [] trivial 1 103 [(80, E v43), (2, A a2), (6, .ptr 0 0 0)] [some ⟨0, Enc.cells (T_impl_Value.mk 0 0 (ByteArray.mk #[]))⟩] ?_
 obtain ⟨v45, hv46, h⟩ := bindS h
 refine qX (some 81) (I v45) 103 [(81, I v45), (2, A a2), (6, .ptr 0 0 0)] [some ⟨0, Enc.cells (T_impl_Value.mk 0 0 (ByteArray.mk #[]))⟩] (fun Γ' hΓ => CoreE.of_g (callV_sound (τ := τ) (by kernel_rfl) rfl (ok_impl_TruthOf hv46) (FzTo.frz rfl))) trivial ?_
 refine qvM [6, 7] [] trivial 1 103 [(82, A a2), (81, I v45), (6, .ptr 0 0 0)] [some ⟨0, Enc.cells (T_impl_Value.mk 0 0 (ByteArray.mk #[]))⟩] ?_
 obtain ⟨v47, hv48, h⟩ := bindS h
 refine qX (some 83) (pf v47 0) 103 [(83, pf v47 0), (81, I v45), (6, .ptr 0 0 0)] [some ⟨0, Enc.cells (T_impl_Value.mk 0 0 (ByteArray.mk #[]))⟩] (fun Γ' hΓ => CoreE.of_y (idxV_sound τ_ok (by kernel_rfl) hv48)) trivial ?_
 refine qvM [6, 7] [] trivial 1 103 [(84, E v47), (81, I v45), (6, .ptr 0 0 0)] [some ⟨0, Enc.cells (T_impl_Value.mk 0 0 (ByteArray.mk #[]))⟩] ?_
 obtain ⟨v49, hv50, h⟩ := bindS h
 refine qX (some 85) (I v49) 103 [(85, I v49), (81, I v45), (6, .ptr 0 0 0)] [some ⟨0, Enc.cells (T_impl_Value.mk 0 0 (ByteArray.mk #[]))⟩] (fun Γ' hΓ => CoreE.of_g (callV_sound (τ := τ) (by kernel_rfl) rfl (ok_impl_TruthOf hv50) (FzTo.frz rfl))) trivial ?_
 obtain ⟨v51, hv52, h⟩ := bindS h
 refine qX (some 86) (I v51) 103 [(86, I v51), (6, .ptr 0 0 0)] [some ⟨0, Enc.cells (T_impl_Value.mk 0 0 (ByteArray.mk #[]))⟩] (fun Γ' hΓ => CoreE.of_g (callV_sound (τ := τ) (by kernel_rfl) rfl (ok_impl_OrOf hv52) (FzTo.frz rfl))) trivial ?_
 obtain ⟨v53, hv54, h⟩ := bindS h
 refine qX (some 87) (E v53) 103 [(87, E v53), (6, .ptr 0 0 0)] [some ⟨0, Enc.cells (T_impl_Value.mk 0 0 (ByteArray.mk #[]))⟩] (fun Γ' hΓ => CoreE.of_g (callV_sound (τ := τ) (by kernel_rfl) rfl (ok_impl_ValueOf hv54) (FzTo.frz rfl))) trivial ?_
 refine qX (Hm' := [sc 0 v53]) none (.any) 103 [(6, .ptr 0 0 0)] [sc 0 v53] (fun Γ' hΓ => sto_E τ_ok 0 0 (by kernel_rfl)) (hB trivial) ?_
 refine qn 103 [(6, .ptr 0 0 0)] [sc 0 v53] ?_
 cases h
 exact pwp_ret rz
 refine srveM [6, 7] 103 [(2, A a2), (6, .ptr 0 0 0), (88, B (a0.fKind == 7))] [some ⟨0, Enc.cells (T_impl_Value.mk 0 0 (ByteArray.mk #[]))⟩] ?_
 refine pc h (fun h => ?_) (fun h => ?_)
 refine srvM [6, 7] 1 103 [(6, .ptr 0 0 0), (90, A a2)] [some ⟨0, Enc.cells (T_impl_Value.mk 0 0 (ByteArray.mk #[]))⟩] ?_
 obtain ⟨v56, hv57, h⟩ := bindS h
 refine opsP_idx τ_ok 91 hv57 (by kernel_rfl) ?_
 refine vM [6, 7] 1 103 [(6, .ptr 0 0 0), (92, E v56)] [some ⟨0, Enc.cells (T_impl_Value.mk 0 0 (ByteArray.mk #[]))⟩] ?_
 obtain ⟨v58, hv59, h⟩ := bindS h
 refine cF 93 (ok_impl_TruthOf hv59) ?_
 obtain ⟨v60, hv61, h⟩ := bindS h
 refine cF 94 (ok_impl_NotOf hv61) ?_
 obtain ⟨v62, hv63, h⟩ := bindS h
 refine cF 95 (ok_impl_ValueOf hv63) ?_
 refine veM [6, 7] 1 103 [(6, .ptr 0 0 0)] [sc 0 v62] ?_
 cases h
 exact pwp_ret rz
 refine pwp_skip ?_
 refine srvM [6, 7] 1 103 [(6, .ptr 0 0 0), (96, A a2)] [some ⟨0, Enc.cells (T_impl_Value.mk 0 0 (ByteArray.mk #[]))⟩] ?_
 obtain ⟨v64, hv65, h⟩ := bindS h
 refine opsP_idx τ_ok 97 hv65 (by kernel_rfl) ?_
 refine vM [6, 7] 3 103 [(6, .ptr 0 0 0), (100, B (v64.fKind == 0))] [some ⟨0, Enc.cells (T_impl_Value.mk 0 0 (ByteArray.mk #[]))⟩] ?_
 obtain ⟨v66, hv67, h⟩ := bindS h
 refine cF 101 (ok_impl_truthIf hv67) ?_
 obtain ⟨v68, hv69, h⟩ := bindS h
 refine cF 102 (ok_impl_ValueOf hv69) ?_
 refine veM [6, 7] 1 103 [(6, .ptr 0 0 0)] [sc 0 v68] ?_
 cases h
 exact pwp_ret rz
def impl_RowsOk (a0 : List T_impl_Column) (a1 : List (List T_impl_Value)) : Option Bool := (impl_ColumnsOk a0).bind fun v1 => bif v1 then (slices_ContainsFunc_impl_Value_impl_Value_s3 a1 (fun z0 => impl_RowsOk_1 z0 a0)).bind fun v3 => some (!v3) else some false
theorem ok_impl_RowsOk {a0 : List T_impl_Column} {a1 : List (List T_impl_Value)} {y : Bool} (h : impl_RowsOk a0 a1 = some y) : OK Tryz.prog 28 [A a0, A a1] (B y) := by
 refine ow Tryz.func28 fun Γ hX => ?_
 unfold impl_RowsOk at h
 refine srve 13 [(1, A a1), (2, pf a0 0)] [] ?_
 refine srv 1 13 [(1, A a1), (2, pf a0 0), (5, A a0)] [] ?_
 obtain ⟨v1, hv2, h⟩ := bindS h
 refine cF 6 (ok_impl_ColumnsOk hv2) ?_
 refine v 1 13 [(1, A a1), (2, pf a0 0), (7, B v1)] [] ?_
 rcases Bool.eq_false_or_eq_true v1 with hc5 | hc5
 replace h := bT hc5 h
 rw [hc5]
 refine v 2 13 [(7, B true), (8, A a1), (9, .fn 74 [pf a0 0])] [] ?_
 obtain ⟨v3, hv4, h⟩ := bindS h
 refine cF 10 (ok_slices_ContainsFunc_impl_Value_impl_Value_s3 (rfl) (fun _ w hw => ok_impl_RowsOk_1 hw) hv4) ?_
 refine ve 3 13 [(4, B (!v3))] [] ?_
 cases h
 exact pwp_ret rz
 replace h := bF hc5 h
 rw [hc5]
 refine ve 6 13 [(4, B false)] [] ?_
 cases h
 exact pwp_ret rz
def impl_TablesOk_1 (a0 : T_impl_Table) : Option Bool := (impl_ColumnsOk a0.fColumns).bind fun v1 => bif (!v1) then some true else bif (decide ((a0.fRows.length : Int) > 6)) then some true else (impl_RowsOk a0.fColumns a0.fRows).bind fun v3 => some (!v3)
theorem ok_impl_TablesOk_1 {a0 : T_impl_Table} {y : Bool} (h : impl_TablesOk_1 a0 = some y) : OK Tryz.prog 55 [E a0] (B y) := by
 refine ow Tryz.func55 fun Γ hX => ?_
 unfold impl_TablesOk_1 at h
 refine srve 21 [(1, pf a0 0)] [] ?_
 refine srv 2 21 [(1, pf a0 0), (4, A a0.fColumns)] [] ?_
 obtain ⟨v1, hv2, h⟩ := bindS h
 refine cF 5 (ok_impl_ColumnsOk hv2) ?_
 refine v 2 21 [(1, pf a0 0), (7, B (!v1))] [] ?_
 rcases fk (!v1) with hc6 | hc6
 replace h := bT hc6 h
 rw [hc6]
 refine ve 14 21 [(2, B true)] [] ?_
 cases h
 exact pwp_ret rz
 replace h := bF hc6 h
 rw [hc6]
 refine v 6 21 [(1, pf a0 0), (13, B (decide ((a0.fRows.length : Int) > 6)))] [] ?_
 rcases fk (decide ((a0.fRows.length : Int) > 6)) with hc5 | hc5
 replace h := bT hc5 h
 rw [hc5]
 refine ve 8 21 [(2, B true)] [] ?_
 cases h
 exact pwp_ret rz
 replace h := bF hc5 h
 rw [hc5]
 refine v 4 21 [(13, B false), (15, A a0.fColumns), (17, A a0.fRows)] [] ?_
 obtain ⟨v3, hv4, h⟩ := bindS h
 refine cF 18 (ok_impl_RowsOk hv4) ?_
 refine ve 3 21 [(2, B (!v3))] [] ?_
 cases h
 exact pwp_ret rz
def spec_l12Broken_j1 (x3 : Int) (K5 : Int → Option Int) : Option Int := K5 (w64 (x3 + 1))
def spec_l12Broken_j3 (a1 : T_impl_Bond) (v1 : T_impl_Table) (x3 : Int) (K5 : Int → Option Int) (v18 : List T_impl_Value) (x20 : Int) (K22 : Int → Option Int) (x23 : Bool) : Option Int := bif x23 then (getI v1.fRows x20).bind fun v25 => (spec_l6Taken v25 a1.fList).bind fun v27 => (spec_l3Same v27 v18).bind fun v29 => bif v29 then some x3 else K22 (w64 (x20 + 1)) else spec_l12Broken_j1 x3 K5
def spec_l12Broken_l2 (a1 : T_impl_Bond) (v1 : T_impl_Table) (x3 : Int) (K5 : Int → Option Int) (v18 : List T_impl_Value) : Nat → Int → Option Int
 | 0, _ => none
 | f21 + 1, x20 => bif (decide (x20 < x3)) then (spec_l12None v18).bind fun v32 => spec_l12Broken_j3 a1 v1 x3 K5 v18 x20 (spec_l12Broken_l2 a1 v1 x3 K5 v18 f21) (!v32) else spec_l12Broken_j3 a1 v1 x3 K5 v18 x20 (spec_l12Broken_l2 a1 v1 x3 K5 v18 f21) false
def spec_l12Broken_j5 (a0 : List T_impl_Table) (a1 : T_impl_Bond) (x3 : Int) (K5 : Int → Option Int) (v38 : List T_impl_Value) (x42 : Bool) (x43 : Int) (K45 : Bool → Int → Option Int) (x46 : Bool) : Option Int := bif x46 then (getI a0 a1.fOf).bind fun v48 => (getI v48.fRows x43).bind fun v50 => (spec_l6Taken v50 a1.fTo).bind fun v52 => (spec_l3Same v52 v38).bind fun v54 => K45 v54 (w64 (x43 + 1)) else bif (!x42) then some x3 else spec_l12Broken_j1 x3 K5
def spec_l12Broken_l4 (a0 : List T_impl_Table) (a1 : T_impl_Bond) (x3 : Int) (K5 : Int → Option Int) (v38 : List T_impl_Value) : Nat → Bool → Int → Option Int
 | 0, _, _ => none
 | f44 + 1, x42, x43 => (getI a0 a1.fOf).bind fun v57 => bif (decide (x43 < (v57.fRows.length : Int))) then spec_l12Broken_j5 a0 a1 x3 K5 v38 x42 x43 (spec_l12Broken_l4 a0 a1 x3 K5 v38 f44) (!x42) else spec_l12Broken_j5 a0 a1 x3 K5 v38 x42 x43 (spec_l12Broken_l4 a0 a1 x3 K5 v38 f44) false
def spec_l12Broken_l0 (a0 : List T_impl_Table) (a1 : T_impl_Bond) (v1 : T_impl_Table) : Nat → Int → Option Int
 | 0, _ => none
 | f4 + 1, x3 => bif (decide (x3 < (v1.fRows.length : Int))) then bif (a1.fKind == 3) then (getI v1.fRows x3).bind fun v8 => (spec_l4Value v8 a1.fE).bind fun v10 => (spec_ValueOf 0).bind fun v12 => bif (eq_T_impl_Value v10 v12) then some x3 else spec_l12Broken_j1 x3 (spec_l12Broken_l0 a0 a1 v1 f4) else bif (a1.fKind == 1) then (getI v1.fRows x3).bind fun v16 => (spec_l6Taken v16 a1.fList).bind fun v18 => spec_l12Broken_l2 a1 v1 x3 (spec_l12Broken_l0 a0 a1 v1 f4) v18 FUEL 0 else bif (a1.fKind == 2) then (getI v1.fRows x3).bind fun v36 => (spec_l6Taken v36 a1.fList).bind fun v38 => (spec_l12None v38).bind fun v40 => spec_l12Broken_l4 a0 a1 x3 (spec_l12Broken_l0 a0 a1 v1 f4) v38 FUEL v40 0 else spec_l12Broken_j1 x3 (spec_l12Broken_l0 a0 a1 v1 f4) else some (-1)
def spec_l12Broken (a0 : List T_impl_Table) (a1 : T_impl_Bond) : Option Int := (getI a0 a1.fIn).bind fun v1 => spec_l12Broken_l0 a0 a1 v1 FUEL 0
end Go.D
