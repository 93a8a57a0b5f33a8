import Derived.Test.YtlcjmombcnkfcaaGreatBdDXFA
import Derived.KernelRfl
set_option linter.unusedVariables false
set_option linter.unusedSimpArgs false
namespace Go.D
open Go.Proofs
theorem ok_impl_knownColumn {a0 : List (List T_impl_Value)} {a1 : Int} {y : T_impl_Known} (h : impl_knownColumn a0 a1 = some y) : OK Tryz.prog 59 [A a0, I a1] (E y) := by
 refine ow Tryz.func59 fun Γ hX => ?_
 unfold impl_knownColumn at h
 refine srveM [4, 5] 23 [(0, A a0), (1, I a1), (4, .ptr 0 0 0)] [some ⟨0, Enc.cells (T_impl_Known.mk 0 0 (T_impl_Value.mk 0 0 (ByteArray.mk #[])) (T_impl_Value.mk 0 0 (ByteArray.mk #[])))⟩] ?_
 refine srveM [4, 5] 23 [(0, A a0), (1, I a1), (4, .ptr 0 0 0), (5, .ptr 1 0 0)] [some ⟨0, Enc.cells (T_impl_Known.mk 0 0 (T_impl_Value.mk 0 0 (ByteArray.mk #[])) (T_impl_Value.mk 0 0 (ByteArray.mk #[])))⟩, some ⟨0, Enc.cells (T_impl_Known.mk 0 0 (T_impl_Value.mk 0 0 (ByteArray.mk #[])) (T_impl_Value.mk 0 0 (ByteArray.mk #[])))⟩] ?_
 refine pwp_seq ?_
 refine srveM [4, 5] 23 [(1, I a1), (4, .ptr 0 0 0), (5, .ptr 1 0 0), (8, A a0), (9, I (a0.length : Int)), (10, I 0)] [some ⟨0, Enc.cells (T_impl_Known.mk 0 0 (T_impl_Value.mk 0 0 (ByteArray.mk #[])) (T_impl_Value.mk 0 0 (ByteArray.mk #[])))⟩, some ⟨0, Enc.cells (T_impl_Known.mk 0 0 (T_impl_Value.mk 0 0 (ByteArray.mk #[])) (T_impl_Value.mk 0 0 (ByteArray.mk #[])))⟩] ?_
 refine pwp_block ?_
 refine pwp_loop (ι := Nat × Int × T_impl_Known) (fun (f5, x3, x4) => (⟨23, [(1, I a1), (4, .ptr 0 0 0), (5, .ptr 1 0 0), (8, A a0), (9, I (a0.length : Int)), (10, I x3)], [some ⟨0, Enc.cells (T_impl_Known.mk 0 0 (T_impl_Value.mk 0 0 (ByteArray.mk #[])) (T_impl_Value.mk 0 0 (ByteArray.mk #[])))⟩, sc 0 x4]⟩ : St)) (fun (f5, x3, x4) => impl_knownColumn_l0 a0 a1 f5 x3 x4 = some y) Prod.fst (FUEL, 0, (T_impl_Known.mk 0 0 (T_impl_Value.mk 0 0 (ByteArray.mk #[])) (T_impl_Value.mk 0 0 (ByteArray.mk #[])))) h (it [1, 4, 5, 8, 9, 10]) ?_
 rintro ⟨f5, x3, x4⟩ h
 dsimp only at h ⊢
 rcases f5 with _ | f5
 cases h
 rw [impl_knownColumn_l0] at h
 refine srveM [4, 5] 23 [(1, I a1), (4, .ptr 0 0 0), (5, .ptr 1 0 0), (8, A a0), (9, I (a0.length : Int)), (10, I x3), (11, B (decide (x3 < (a0.length : Int))))] [some ⟨0, Enc.cells (T_impl_Known.mk 0 0 (T_impl_Value.mk 0 0 (ByteArray.mk #[])) (T_impl_Value.mk 0 0 (ByteArray.mk #[])))⟩, sc 0 x4] ?_
 refine pwp_seq ?_
 refine pc h (fun h => ?_) (fun h => ?_)
 refine pwp_skip ?_
 refine pwp_seq ?_
 refine pwp_block ?_
 refine pwp_seq ?_
 refine pwp_region ?_
 obtain ⟨v8, hv9, h⟩ := bindS h
 refine opsP_idx τ_ok 12 hv9 (by kernel_rfl) ?_
 refine veM [4, 5] 2 23 [(1, I a1), (4, .ptr 0 0 0), (5, .ptr 1 0 0), (7, A v8), (8, A a0), (9, I (a0.length : Int)), (10, I x3)] [some ⟨0, Enc.cells (T_impl_Known.mk 0 0 (T_impl_Value.mk 0 0 (ByteArray.mk #[])) (T_impl_Value.mk 0 0 (ByteArray.mk #[])))⟩, sc 0 x4] ?_
 refine ip 23 [(1, I a1), (4, .ptr 0 0 0), (5, .ptr 1 0 0), (7, A v8), (8, A a0), (9, I (a0.length : Int)), (10, I x3)] [some ⟨0, Enc.cells (T_impl_Known.mk 0 0 (T_impl_Value.mk 0 0 (ByteArray.mk #[])) (T_impl_Value.mk 0 0 (ByteArray.mk #[])))⟩, sc 0 x4] ?_
 refine pwp_any ([[1], [], [], [], [], [], [], [1]]) ([[], [], [], [], [], [], [], [1]]) rfl (by kernel_rfl) ?_
 refine qvM [4, 5] [1] (hB trivial) 1 23 [(14, E x4), (1, I a1), (4, .ptr 0 0 0), (5, .ptr 1 0 0), (7, A v8), (8, A a0), (9, I (a0.length : Int)), (10, I x3)] [some ⟨0, Enc.cells (T_impl_Known.mk 0 0 (T_impl_Value.mk 0 0 (ByteArray.mk #[])) (T_impl_Value.mk 0 0 (ByteArray.mk #[])))⟩, sc 0 x4] ?_
 refine qvM [4, 5] [] trivial 2 23 [(16, I a1), (15, A v8), (14, E x4), (1, I a1), (4, .ptr 0 0 0), (5, .ptr 1 0 0), (8, A a0), (9, I (a0.length : Int)), (10, I x3)] [some ⟨0, Enc.cells (T_impl_Known.mk 0 0 (T_impl_Value.mk 0 0 (ByteArray.mk #[])) (T_impl_Value.mk 0 0 (ByteArray.mk #[])))⟩, sc 0 x4] ?_
 obtain ⟨v10, hv11, h⟩ := bindS h
 refine qX (some 17) (pf v10 0) 23 [(17, pf v10 0), (14, E x4), (1, I a1), (4, .ptr 0 0 0), (5, .ptr 1 0 0), (8, A a0), (9, I (a0.length : Int)), (10, I x3)] [some ⟨0, Enc.cells (T_impl_Known.mk 0 0 (T_impl_Value.mk 0 0 (ByteArray.mk #[])) (T_impl_Value.mk 0 0 (ByteArray.mk #[])))⟩, sc 0 x4] (fun Γ' hΓ => CoreE.of_y (idxV_sound τ_ok (by kernel_rfl) hv11)) trivial ?_
 refine qvM [4, 5] [] trivial 1 23 [(18, E v10), (14, E x4), (1, I a1), (4, .ptr 0 0 0), (5, .ptr 1 0 0), (8, A a0), (9, I (a0.length : Int)), (10, I x3)] [some ⟨0, Enc.cells (T_impl_Known.mk 0 0 (T_impl_Value.mk 0 0 (ByteArray.mk #[])) (T_impl_Value.mk 0 0 (ByteArray.mk #[])))⟩, sc 0 x4] ?_
 obtain ⟨v12, hv13, h⟩ := bindS h
 refine qX (some 19) (E v12) 23 [(19, E v12), (14, E x4), (1, I a1), (4, .ptr 0 0 0), (5, .ptr 1 0 0), (8, A a0), (9, I (a0.length : Int)), (10, I x3)] [some ⟨0, Enc.cells (T_impl_Known.mk 0 0 (T_impl_Value.mk 0 0 (ByteArray.mk #[])) (T_impl_Value.mk 0 0 (ByteArray.mk #[])))⟩, sc 0 x4] (fun Γ' hΓ => CoreE.of_g (callV_sound (τ := τ) (by kernel_rfl) rfl (ok_impl_KnownOf hv13) (FzTo.frz rfl))) trivial ?_
 obtain ⟨v14, hv15, h⟩ := bindS h
 refine qX (some 20) (E v14) 23 [(20, E v14), (1, I a1), (4, .ptr 0 0 0), (5, .ptr 1 0 0), (8, A a0), (9, I (a0.length : Int)), (10, I x3)] [some ⟨0, Enc.cells (T_impl_Known.mk 0 0 (T_impl_Value.mk 0 0 (ByteArray.mk #[])) (T_impl_Value.mk 0 0 (ByteArray.mk #[])))⟩, sc 0 x4] (fun Γ' hΓ => CoreE.of_g (callV_sound (τ := τ) (by kernel_rfl) rfl (ok_impl_KnownBoth hv15) (FzTo.frz rfl))) trivial ?_
 refine qX (Hm' := [none, sc 0 v14]) none (.any) 23 [(1, I a1), (4, .ptr 0 0 0), (5, .ptr 1 0 0), (8, A a0), (9, I (a0.length : Int)), (10, I x3)] [some ⟨0, Enc.cells (T_impl_Known.mk 0 0 (T_impl_Value.mk 0 0 (ByteArray.mk #[])) (T_impl_Value.mk 0 0 (ByteArray.mk #[])))⟩, sc 0 v14] (fun Γ' hΓ => sto_E τ_ok 1 0 (by kernel_rfl)) (hB trivial) ?_
 refine qn 23 [(1, I a1), (4, .ptr 0 0 0), (5, .ptr 1 0 0), (8, A a0), (9, I (a0.length : Int)), (10, I x3)] [some ⟨0, Enc.cells (T_impl_Known.mk 0 0 (T_impl_Value.mk 0 0 (ByteArray.mk #[])) (T_impl_Value.mk 0 0 (ByteArray.mk #[])))⟩, sc 0 v14] ?_
 refine rveM [4, 5] 23 [(1, I a1), (4, .ptr 0 0 0), (5, .ptr 1 0 0), (8, A a0), (9, I (a0.length : Int)), (10, I (w64 (x3 + 1)))] [some ⟨0, Enc.cells (T_impl_Known.mk 0 0 (T_impl_Value.mk 0 0 (ByteArray.mk #[])) (T_impl_Value.mk 0 0 (ByteArray.mk #[])))⟩, sc 0 v14] ?_
 exact ⟨(f5, (w64 (x3 + 1)), v14), h, Nat.lt_succ_self _, it [1, 4, 5, 8, 9, 10]⟩
 refine pwp_exit ?_
 refine srveM [4, 5] 23 [(4, .ptr 0 0 0)] [sc 0 x4, sc 0 x4] ?_
 cases h
 exact pwp_ret rz
def impl_IndexOk_j1 (a0 : List T_impl_Mark) (x1 : Int) (K3 : Int → Option Bool) (v5 : T_impl_Mark) (x7 : Bool) : Option Bool := bif x7 then some false else (slI a0 none (some x1) none).bind fun v9 => (slices_ContainsFunc_impl_Mark_impl_Mark v9 (fun z0 => impl_IndexOk_1 z0 v5)).bind fun v11 => bif v11 then some false else K3 (w64 (x1 + 1))
def impl_IndexOk_l0 (a0 : List T_impl_Mark) : Nat → Int → Option Bool
 | 0, _ => none
 | f2 + 1, x1 => bif (decide (x1 < (a0.length : Int))) then (getI a0 x1).bind fun v5 => (impl_Value_ok v5.fV).bind fun v14 => bif (!v14) then impl_IndexOk_j1 a0 x1 (impl_IndexOk_l0 a0 f2) v5 true else (impl_keyOk v5.fKey).bind fun v16 => bif (!v16) then impl_IndexOk_j1 a0 x1 (impl_IndexOk_l0 a0 f2) v5 true else (impl_between v5.fBorn 1 40).bind fun v18 => bif (!v18) then impl_IndexOk_j1 a0 x1 (impl_IndexOk_l0 a0 f2) v5 true else bif (!(v5.fDied == 0)) then (impl_between v5.fDied (w64 (v5.fBorn + 1)) 40).bind fun v20 => bif (!v20) then impl_IndexOk_j1 a0 x1 (impl_IndexOk_l0 a0 f2) v5 true else bif (decide (x1 > 0)) then (getI a0 (w64 (x1 - 1))).bind fun v22 => (impl_Mark_order v22 v5).bind fun v24 => impl_IndexOk_j1 a0 x1 (impl_IndexOk_l0 a0 f2) v5 (decide (v24 > 0)) else impl_IndexOk_j1 a0 x1 (impl_IndexOk_l0 a0 f2) v5 false else bif (decide (x1 > 0)) then (getI a0 (w64 (x1 - 1))).bind fun v28 => (impl_Mark_order v28 v5).bind fun v30 => impl_IndexOk_j1 a0 x1 (impl_IndexOk_l0 a0 f2) v5 (decide (v30 > 0)) else impl_IndexOk_j1 a0 x1 (impl_IndexOk_l0 a0 f2) v5 false else some (decide ((a0.length : Int) ≤ 60))
def impl_IndexOk (a0 : List T_impl_Mark) : Option Bool := impl_IndexOk_l0 a0 FUEL 0
theorem ok_impl_IndexOk {a0 : List T_impl_Mark} {y : Bool} (h : impl_IndexOk a0 = some y) : OK Tryz.prog 9 [A a0] (B y) := by
 refine ow Tryz.func9 fun Γ hX => ?_
 unfold impl_IndexOk at h
 refine srveM [4] 65 [(0, A a0)] [] ?_
 refine pwp_seq ?_
 refine srveM [4] 65 [(0, A a0), (5, A a0), (6, I (a0.length : Int)), (7, I 0)] [] ?_
 refine pwp_block ?_
 refine pwp_loop (ι := Nat × Int) (fun (f2, x1) => (⟨65, [(0, A a0), (5, A a0), (6, I (a0.length : Int)), (7, I x1)], []⟩ : St)) (fun (f2, x1) => impl_IndexOk_l0 a0 f2 x1 = some y) Prod.fst (FUEL, 0) h (it [0, 5, 6, 7]) ?_
 rintro ⟨f2, x1⟩ h
 dsimp only at h ⊢
 rcases f2 with _ | f2
 cases h
 rw [impl_IndexOk_l0] at h
 refine srveM [4] 65 [(0, A a0), (5, A a0), (6, I (a0.length : Int)), (7, I x1), (8, B (decide (x1 < (a0.length : Int))))] [] ?_
 refine pwp_seq ?_
 refine pc h (fun h => ?_) (fun h => ?_)
 refine pwp_skip ?_
 refine pwp_seq ?_
 refine pwp_block ?_
 refine srvM [4] 1 65 [(0, A a0), (5, A a0), (6, I (a0.length : Int)), (7, I x1), (9, I x1)] [] ?_
 obtain ⟨v5, hv6, h⟩ := bindS h
 refine opsP_idx τ_ok 10 hv6 (by kernel_rfl) ?_
 refine veM [4] 4 65 [(0, A a0), (3, I x1), (4, .ptr 0 0 0), (5, A a0), (6, I (a0.length : Int)), (7, I x1)] [sc 0 v5] ?_
 refine pwp_seq ?_
 refine pwp_seq ?_
 refine pwp_join (σ := Bool) (fun x7 => (⟨65, [(0, A a0), (3, I x1), (4, .ptr 0 0 0), (5, A a0), (6, I (a0.length : Int)), (7, I x1), (55, B x7)], [sc 0 v5]⟩ : St)) (fun x7 => impl_IndexOk_j1 a0 x1 (impl_IndexOk_l0 a0 f2) v5 x7 = some y) ?_ ?_
 refine ip 65 [(0, A a0), (3, I x1), (4, .ptr 0 0 0), (5, A a0), (6, I (a0.length : Int)), (7, I x1)] [sc 0 v5] ?_
 refine pwp_any ([[0], [0], [], [], [], [0], [0], [], [], [], [], [0], [0], [], [], [], [], [0], [0], [], [], [0], [0], [0], [0], [], [], [], [], [], [], [], [], [], [], [], [], [], [], [0], [], [], [], []]) ([[], [], [], [], [], [], [], [], [], [], [], [], [], [], [], [], [], [], [], [], [], [], [], [], [], [], [], [], [], [], [], [], [], [], [], [], [], [], [], [], [], [], [], []]) rfl (by kernel_rfl) ?_
 refine qvM [4] [0] (hB trivial) 2 65 [(13, E v5.fV), (0, A a0), (3, I x1), (4, .ptr 0 0 0), (5, A a0), (6, I (a0.length : Int)), (7, I x1)] [sc 0 v5] ?_
 obtain ⟨v14, hv15, h⟩ := bindS h
 refine qX (some 14) (B v14) 65 [(14, B v14), (0, A a0), (3, I x1), (4, .ptr 0 0 0), (5, A a0), (6, I (a0.length : Int)), (7, I x1)] [sc 0 v5] (fun Γ' hΓ => CoreE.of_g (callV_sound (τ := τ) (by kernel_rfl) rfl (ok_impl_Value_ok hv15) (FzTo.frz rfl))) trivial ?_
 refine qvM [4] [] trivial 2 65 [(16, B (!v14)), (0, A a0), (3, I x1), (4, .ptr 0 0 0), (5, A a0), (6, I (a0.length : Int)), (7, I x1)] [sc 0 v5] ?_
 rcases fk (!v14) with hc36 | hc36
 replace h := bT hc36 h
 rw [hc36]
 refine qvM [4] [0] (hB trivial) 2 65 [(18, .lit undef), (17, .lit undef), (16, B true), (0, A a0), (3, I x1), (4, .ptr 0 0 0), (5, A a0), (6, I (a0.length : Int)), (7, I x1)] [sc 0 v5] ?_
 refine qvM [4] [] trivial 4 65 [(22, B true), (20, .lit undef), (19, .lit undef), (18, .lit undef), (17, .lit undef), (0, A a0), (3, I x1), (4, .ptr 0 0 0), (5, A a0), (6, I (a0.length : Int)), (7, I x1)] [sc 0 v5] ?_
 refine qvM [4] [0] (hB trivial) 2 65 [(24, .lit undef), (23, .lit undef), (22, B true), (20, .lit undef), (19, .lit undef), (18, .lit undef), (17, .lit undef), (0, A a0), (3, I x1), (4, .ptr 0 0 0), (5, A a0), (6, I (a0.length : Int)), (7, I x1)] [sc 0 v5] ?_
 refine qvM [4] [] trivial 4 65 [(28, B true), (26, .lit undef), (25, .lit undef), (24, .lit undef), (23, .lit undef), (20, .lit undef), (19, .lit undef), (18, .lit undef), (17, .lit undef), (0, A a0), (3, I x1), (4, .ptr 0 0 0), (5, A a0), (6, I (a0.length : Int)), (7, I x1)] [sc 0 v5] ?_
 refine qvM [4] [0] (hB trivial) 2 65 [(30, .lit undef), (29, .lit undef), (28, B true), (26, .lit undef), (25, .lit undef), (24, .lit undef), (23, .lit undef), (20, .lit undef), (19, .lit undef), (18, .lit undef), (17, .lit undef), (0, A a0), (3, I x1), (4, .ptr 0 0 0), (5, A a0), (6, I (a0.length : Int)), (7, I x1)] [sc 0 v5] ?_
 refine qvM [4] [] trivial 2 65 [(32, .lit undef), (31, .lit undef), (30, .lit undef), (29, .lit undef), (28, B true), (26, .lit undef), (25, .lit undef), (24, .lit undef), (23, .lit undef), (20, .lit undef), (19, .lit undef), (18, .lit undef), (17, .lit undef), (0, A a0), (3, I x1), (4, .ptr 0 0 0), (5, A a0), (6, I (a0.length : Int)), (7, I x1)] [sc 0 v5] ?_
 refine qvM [4] [0] (hB trivial) 4 65 [(36, .lit undef), (35, .lit undef), (34, .lit undef), (33, .lit undef), (32, .lit undef), (31, .lit undef), (30, .lit undef), (29, .lit undef), (28, B true), (26, .lit undef), (25, .lit undef), (24, .lit undef), (23, .lit undef), (20, .lit undef), (19, .lit undef), (18, .lit undef), (17, .lit undef), (0, A a0), (3, I x1), (4, .ptr 0 0 0), (5, A a0), (6, I (a0.length : Int)), (7, I x1)] [sc 0 v5] ?_
 refine qvM [4] [] trivial 14 65 [(50, .lit undef), (49, .lit undef), (48, .lit undef), (47, .lit undef), (46, .lit undef), (45, .lit undef), (44, .lit undef), (43, .lit undef), (42, B true), (40, .lit undef), (39, .lit undef), (38, .lit undef), (37, .lit undef), (36, .lit undef), (35, .lit undef), (34, .lit undef), (33, .lit undef), (32, .lit undef), (31, .lit undef), (30, .lit undef), (29, .lit undef), (26, .lit undef), (25, .lit undef), (24, .lit undef), (23, .lit undef), (20, .lit undef), (19, .lit undef), (18, .lit undef), (17, .lit undef), (0, A a0), (3, I x1), (4, .ptr 0 0 0), (5, A a0), (6, I (a0.length : Int)), (7, I x1)] [sc 0 v5] ?_
 refine qvM [4] [0] (hB trivial) 1 65 [(51, .lit undef), (50, .lit undef), (49, .lit undef), (48, .lit undef), (47, .lit undef), (46, .lit undef), (45, .lit undef), (44, .lit undef), (43, .lit undef), (42, B true), (40, .lit undef), (39, .lit undef), (38, .lit undef), (37, .lit undef), (36, .lit undef), (35, .lit undef), (34, .lit undef), (33, .lit undef), (32, .lit undef), (31, .lit undef), (30, .lit undef), (29, .lit undef), (26, .lit undef), (25, .lit undef), (24, .lit undef), (23, .lit undef), (20, .lit undef), (19, .lit undef), (18, .lit undef), (17, .lit undef), (0, A a0), (3, I x1), (4, .ptr 0 0 0), (5, A a0), (6, I (a0.length : Int)), (7, I x1)] [sc 0 v5] ?_
 refine qvM [4] [] trivial 4 65 [(55, B true), (54, .lit undef), (53, .lit undef), (52, .lit undef), (51, .lit undef), (50, .lit undef), (49, .lit undef), (48, .lit undef), (47, .lit undef), (46, .lit undef), (45, .lit undef), (44, .lit undef), (43, .lit undef), (40, .lit undef), (39, .lit undef), (38, .lit undef), (37, .lit undef), (36, .lit undef), (35, .lit undef), (34, .lit undef), (33, .lit undef), (32, .lit undef), (31, .lit undef), (30, .lit undef), (29, .lit undef), (26, .lit undef), (25, .lit undef), (24, .lit undef), (23, .lit undef), (20, .lit undef), (19, .lit undef), (18, .lit undef), (17, .lit undef), (0, A a0), (3, I x1), (4, .ptr 0 0 0), (5, A a0), (6, I (a0.length : Int)), (7, I x1)] [sc 0 v5] ?_
 refine qn 65 [(0, A a0), (3, I x1), (4, .ptr 0 0 0), (5, A a0), (6, I (a0.length : Int)), (7, I x1), (17, .lit undef), (18, .lit undef), (19, .lit undef), (20, .lit undef), (23, .lit undef), (24, .lit undef), (25, .lit undef), (26, .lit undef), (29, .lit undef), (30, .lit undef), (31, .lit undef), (32, .lit undef), (33, .lit undef), (34, .lit undef), (35, .lit undef), (36, .lit undef), (37, .lit undef), (38, .lit undef), (39, .lit undef), (40, .lit undef), (43, .lit undef), (44, .lit undef), (45, .lit undef), (46, .lit undef), (47, .lit undef), (48, .lit undef), (49, .lit undef), (50, .lit undef), (51, .lit undef), (52, .lit undef), (53, .lit undef), (54, .lit undef), (55, B true)] [sc 0 v5] ?_
 exact ⟨true, h, it [0, 3, 4, 5, 6, 7, 55]⟩
 replace h := bF hc36 h
 rw [hc36]
 refine qvM [4] [0] (hB trivial) 2 65 [(18, I v5.fKey), (17, .ptr 0 0 3), (16, B false), (0, A a0), (3, I x1), (4, .ptr 0 0 0), (5, A a0), (6, I (a0.length : Int)), (7, I x1)] [sc 0 v5] ?_
 obtain ⟨v16, hv17, h⟩ := bindS h
 refine qX (some 19) (B v16) 65 [(19, B v16), (18, I v5.fKey), (17, .ptr 0 0 3), (16, B false), (0, A a0), (3, I x1), (4, .ptr 0 0 0), (5, A a0), (6, I (a0.length : Int)), (7, I x1)] [sc 0 v5] (fun Γ' hΓ => CoreE.of_g (callV_sound (τ := τ) (by kernel_rfl) rfl (ok_impl_keyOk hv17) (FzTo.frz rfl))) trivial ?_
 refine qvM [4] [] trivial 3 65 [(22, B (!v16)), (20, B (!v16)), (19, B v16), (18, I v5.fKey), (17, .ptr 0 0 3), (0, A a0), (3, I x1), (4, .ptr 0 0 0), (5, A a0), (6, I (a0.length : Int)), (7, I x1)] [sc 0 v5] ?_
 rcases fk (!v16) with hc35 | hc35
 replace h := bT hc35 h
 rw [hc35]
 refine qvM [4] [0] (hB trivial) 2 65 [(24, .lit undef), (23, .lit undef), (22, B true), (20, B true), (19, B v16), (18, I v5.fKey), (17, .ptr 0 0 3), (0, A a0), (3, I x1), (4, .ptr 0 0 0), (5, A a0), (6, I (a0.length : Int)), (7, I x1)] [sc 0 v5] ?_
 refine qvM [4] [] trivial 4 65 [(28, B true), (26, .lit undef), (25, .lit undef), (24, .lit undef), (23, .lit undef), (20, B true), (19, B v16), (18, I v5.fKey), (17, .ptr 0 0 3), (0, A a0), (3, I x1), (4, .ptr 0 0 0), (5, A a0), (6, I (a0.length : Int)), (7, I x1)] [sc 0 v5] ?_
 refine qvM [4] [0] (hB trivial) 2 65 [(30, .lit undef), (29, .lit undef), (28, B true), (26, .lit undef), (25, .lit undef), (24, .lit undef), (23, .lit undef), (20, B true), (19, B v16), (18, I v5.fKey), (17, .ptr 0 0 3), (0, A a0), (3, I x1), (4, .ptr 0 0 0), (5, A a0), (6, I (a0.length : Int)), (7, I x1)] [sc 0 v5] ?_
 refine qvM [4] [] trivial 2 65 [(32, .lit undef), (31, .lit undef), (30, .lit undef), (29, .lit undef), (28, B true), (26, .lit undef), (25, .lit undef), (24, .lit undef), (23, .lit undef), (20, B true), (19, B v16), (18, I v5.fKey), (17, .ptr 0 0 3), (0, A a0), (3, I x1), (4, .ptr 0 0 0), (5, A a0), (6, I (a0.length : Int)), (7, I x1)] [sc 0 v5] ?_
 refine qvM [4] [0] (hB trivial) 4 65 [(36, .lit undef), (35, .lit undef), (34, .lit undef), (33, .lit undef), (32, .lit undef), (31, .lit undef), (30, .lit undef), (29, .lit undef), (28, B true), (26, .lit undef), (25, .lit undef), (24, .lit undef), (23, .lit undef), (20, B true), (19, B v16), (18, I v5.fKey), (17, .ptr 0 0 3), (0, A a0), (3, I x1), (4, .ptr 0 0 0), (5, A a0), (6, I (a0.length : Int)), (7, I x1)] [sc 0 v5] ?_
 refine qvM [4] [] trivial 14 65 [(50, .lit undef), (49, .lit undef), (48, .lit undef), (47, .lit undef), (46, .lit undef), (45, .lit undef), (44, .lit undef), (43, .lit undef), (42, B true), (40, .lit undef), (39, .lit undef), (38, .lit undef), (37, .lit undef), (36, .lit undef), (35, .lit undef), (34, .lit undef), (33, .lit undef), (32, .lit undef), (31, .lit undef), (30, .lit undef), (29, .lit undef), (26, .lit undef), (25, .lit undef), (24, .lit undef), (23, .lit undef), (20, B true), (19, B v16), (18, I v5.fKey), (17, .ptr 0 0 3), (0, A a0), (3, I x1), (4, .ptr 0 0 0), (5, A a0), (6, I (a0.length : Int)), (7, I x1)] [sc 0 v5] ?_
 refine qvM [4] [0] (hB trivial) 1 65 [(51, .lit undef), (50, .lit undef), (49, .lit undef), (48, .lit undef), (47, .lit undef), (46, .lit undef), (45, .lit undef), (44, .lit undef), (43, .lit undef), (42, B true), (40, .lit undef), (39, .lit undef), (38, .lit undef), (37, .lit undef), (36, .lit undef), (35, .lit undef), (34, .lit undef), (33, .lit undef), (32, .lit undef), (31, .lit undef), (30, .lit undef), (29, .lit undef), (26, .lit undef), (25, .lit undef), (24, .lit undef), (23, .lit undef), (20, B true), (19, B v16), (18, I v5.fKey), (17, .ptr 0 0 3), (0, A a0), (3, I x1), (4, .ptr 0 0 0), (5, A a0), (6, I (a0.length : Int)), (7, I x1)] [sc 0 v5] ?_
 refine qvM [4] [] trivial 4 65 [(55, B true), (54, .lit undef), (53, .lit undef), (52, .lit undef), (51, .lit undef), (50, .lit undef), (49, .lit undef), (48, .lit undef), (47, .lit undef), (46, .lit undef), (45, .lit undef), (44, .lit undef), (43, .lit undef), (40, .lit undef), (39, .lit undef), (38, .lit undef), (37, .lit undef), (36, .lit undef), (35, .lit undef), (34, .lit undef), (33, .lit undef), (32, .lit undef), (31, .lit undef), (30, .lit undef), (29, .lit undef), (26, .lit undef), (25, .lit undef), (24, .lit undef), (23, .lit undef), (20, B true), (19, B v16), (18, I v5.fKey), (17, .ptr 0 0 3), (0, A a0), (3, I x1), (4, .ptr 0 0 0), (5, A a0), (6, I (a0.length : Int)), (7, I x1)] [sc 0 v5] ?_
 refine qn 65 [(0, A a0), (3, I x1), (4, .ptr 0 0 0), (5, A a0), (6, I (a0.length : Int)), (7, I x1), (17, .ptr 0 0 3), (18, I v5.fKey), (19, B v16), (20, B true), (23, .lit undef), (24, .lit undef), (25, .lit undef), (26, .lit undef), (29, .lit undef), (30, .lit undef), (31, .lit undef), (32, .lit undef), (33, .lit undef), (34, .lit undef), (35, .lit undef), (36, .lit undef), (37, .lit undef), (38, .lit undef), (39, .lit undef), (40, .lit undef), (43, .lit undef), (44, .lit undef), (45, .lit undef), (46, .lit undef), (47, .lit undef), (48, .lit undef), (49, .lit undef), (50, .lit undef), (51, .lit undef), (52, .lit undef), (53, .lit undef), (54, .lit undef), (55, B true)] [sc 0 v5] ?_
 exact ⟨true, h, it [0, 3, 4, 5, 6, 7, 55]⟩
 replace h := bF hc35 h
 rw [hc35]
 refine qvM [4] [0] (hB trivial) 2 65 [(24, I v5.fBorn), (23, .ptr 0 0 4), (22, B false), (20, B false), (19, B v16), (18, I v5.fKey), (17, .ptr 0 0 3), (0, A a0), (3, I x1), (4, .ptr 0 0 0), (5, A a0), (6, I (a0.length : Int)), (7, I x1)] [sc 0 v5] ?_
 obtain ⟨v18, hv19, h⟩ := bindS h
 refine qX (some 25) (B v18) 65 [(25, B v18), (24, I v5.fBorn), (23, .ptr 0 0 4), (22, B false), (20, B false), (19, B v16), (18, I v5.fKey), (17, .ptr 0 0 3), (0, A a0), (3, I x1), (4, .ptr 0 0 0), (5, A a0), (6, I (a0.length : Int)), (7, I x1)] [sc 0 v5] (fun Γ' hΓ => CoreE.of_g (callV_sound (τ := τ) (by kernel_rfl) rfl (ok_impl_between hv19) (FzTo.frz rfl))) trivial ?_
 refine qvM [4] [] trivial 3 65 [(28, B (!v18)), (26, B (!v18)), (25, B v18), (24, I v5.fBorn), (23, .ptr 0 0 4), (20, B false), (19, B v16), (18, I v5.fKey), (17, .ptr 0 0 3), (0, A a0), (3, I x1), (4, .ptr 0 0 0), (5, A a0), (6, I (a0.length : Int)), (7, I x1)] [sc 0 v5] ?_
 rcases fk (!v18) with hc34 | hc34
 replace h := bT hc34 h
 rw [hc34]
 refine qvM [4] [0] (hB trivial) 2 65 [(30, .lit undef), (29, .lit undef), (28, B true), (26, B true), (25, B v18), (24, I v5.fBorn), (23, .ptr 0 0 4), (20, B false), (19, B v16), (18, I v5.fKey), (17, .ptr 0 0 3), (0, A a0), (3, I x1), (4, .ptr 0 0 0), (5, A a0), (6, I (a0.length : Int)), (7, I x1)] [sc 0 v5] ?_
 refine qvM [4] [] trivial 2 65 [(32, .lit undef), (31, .lit undef), (30, .lit undef), (29, .lit undef), (28, B true), (26, B true), (25, B v18), (24, I v5.fBorn), (23, .ptr 0 0 4), (20, B false), (19, B v16), (18, I v5.fKey), (17, .ptr 0 0 3), (0, A a0), (3, I x1), (4, .ptr 0 0 0), (5, A a0), (6, I (a0.length : Int)), (7, I x1)] [sc 0 v5] ?_
 refine qvM [4] [0] (hB trivial) 4 65 [(36, .lit undef), (35, .lit undef), (34, .lit undef), (33, .lit undef), (32, .lit undef), (31, .lit undef), (30, .lit undef), (29, .lit undef), (28, B true), (26, B true), (25, B v18), (24, I v5.fBorn), (23, .ptr 0 0 4), (20, B false), (19, B v16), (18, I v5.fKey), (17, .ptr 0 0 3), (0, A a0), (3, I x1), (4, .ptr 0 0 0), (5, A a0), (6, I (a0.length : Int)), (7, I x1)] [sc 0 v5] ?_
 refine qvM [4] [] trivial 14 65 [(50, .lit undef), (49, .lit undef), (48, .lit undef), (47, .lit undef), (46, .lit undef), (45, .lit undef), (44, .lit undef), (43, .lit undef), (42, B true), (40, .lit undef), (39, .lit undef), (38, .lit undef), (37, .lit undef), (36, .lit undef), (35, .lit undef), (34, .lit undef), (33, .lit undef), (32, .lit undef), (31, .lit undef), (30, .lit undef), (29, .lit undef), (26, B true), (25, B v18), (24, I v5.fBorn), (23, .ptr 0 0 4), (20, B false), (19, B v16), (18, I v5.fKey), (17, .ptr 0 0 3), (0, A a0), (3, I x1), (4, .ptr 0 0 0), (5, A a0), (6, I (a0.length : Int)), (7, I x1)] [sc 0 v5] ?_
 refine qvM [4] [0] (hB trivial) 1 65 [(51, .lit undef), (50, .lit undef), (49, .lit undef), (48, .lit undef), (47, .lit undef), (46, .lit undef), (45, .lit undef), (44, .lit undef), (43, .lit undef), (42, B true), (40, .lit undef), (39, .lit undef), (38, .lit undef), (37, .lit undef), (36, .lit undef), (35, .lit undef), (34, .lit undef), (33, .lit undef), (32, .lit undef), (31, .lit undef), (30, .lit undef), (29, .lit undef), (26, B true), (25, B v18), (24, I v5.fBorn), (23, .ptr 0 0 4), (20, B false), (19, B v16), (18, I v5.fKey), (17, .ptr 0 0 3), (0, A a0), (3, I x1), (4, .ptr 0 0 0), (5, A a0), (6, I (a0.length : Int)), (7, I x1)] [sc 0 v5] ?_
 refine qvM [4] [] trivial 4 65 [(55, B true), (54, .lit undef), (53, .lit undef), (52, .lit undef), (51, .lit undef), (50, .lit undef), (49, .lit undef), (48, .lit undef), (47, .lit undef), (46, .lit undef), (45, .lit undef), (44, .lit undef), (43, .lit undef), (40, .lit undef), (39, .lit undef), (38, .lit undef), (37, .lit undef), (36, .lit undef), (35, .lit undef), (34, .lit undef), (33, .lit undef), (32, .lit undef), (31, .lit undef), (30, .lit undef), (29, .lit undef), (26, B true), (25, B v18), (24, I v5.fBorn), (23, .ptr 0 0 4), (20, B false), (19, B v16), (18, I v5.fKey), (17, .ptr 0 0 3), (0, A a0), (3, I x1), (4, .ptr 0 0 0), (5, A a0), (6, I (a0.length : Int)), (7, I x1)] [sc 0 v5] ?_
 refine qn 65 [(0, A a0), (3, I x1), (4, .ptr 0 0 0), (5, A a0), (6, I (a0.length : Int)), (7, I x1), (17, .ptr 0 0 3), (18, I v5.fKey), (19, B v16), (20, B false), (23, .ptr 0 0 4), (24, I v5.fBorn), (25, B v18), (26, B true), (29, .lit undef), (30, .lit undef), (31, .lit undef), (32, .lit undef), (33, .lit undef), (34, .lit undef), (35, .lit undef), (36, .lit undef), (37, .lit undef), (38, .lit undef), (39, .lit undef), (40, .lit undef), (43, .lit undef), (44, .lit undef), (45, .lit undef), (46, .lit undef), (47, .lit undef), (48, .lit undef), (49, .lit undef), (50, .lit undef), (51, .lit undef), (52, .lit undef), (53, .lit undef), (54, .lit undef), (55, B true)] [sc 0 v5] ?_
 exact ⟨true, h, it [0, 3, 4, 5, 6, 7, 55]⟩
 replace h := bF hc34 h
 rw [hc34]
 refine qvM [4] [0] (hB trivial) 2 65 [(30, I v5.fDied), (29, .ptr 0 0 5), (28, B false), (26, B false), (25, B v18), (24, I v5.fBorn), (23, .ptr 0 0 4), (20, B false), (19, B v16), (18, I v5.fKey), (17, .ptr 0 0 3), (0, A a0), (3, I x1), (4, .ptr 0 0 0), (5, A a0), (6, I (a0.length : Int)), (7, I x1)] [sc 0 v5] ?_
 refine qvM [4] [] trivial 2 65 [(32, B (!(v5.fDied == 0))), (31, B (!(v5.fDied == 0))), (30, I v5.fDied), (29, .ptr 0 0 5), (28, B false), (26, B false), (25, B v18), (24, I v5.fBorn), (23, .ptr 0 0 4), (20, B false), (19, B v16), (18, I v5.fKey), (17, .ptr 0 0 3), (0, A a0), (3, I x1), (4, .ptr 0 0 0), (5, A a0), (6, I (a0.length : Int)), (7, I x1)] [sc 0 v5] ?_
 rcases fk (!(v5.fDied == 0)) with hc33 | hc33
 replace h := bT hc33 h
 rw [hc33]
 refine qvM [4] [0] (hB trivial) 4 65 [(36, I v5.fBorn), (35, .ptr 0 0 4), (34, I v5.fDied), (33, .ptr 0 0 5), (32, B true), (31, B true), (30, I v5.fDied), (29, .ptr 0 0 5), (28, B false), (26, B false), (25, B v18), (24, I v5.fBorn), (23, .ptr 0 0 4), (20, B false), (19, B v16), (18, I v5.fKey), (17, .ptr 0 0 3), (0, A a0), (3, I x1), (4, .ptr 0 0 0), (5, A a0), (6, I (a0.length : Int)), (7, I x1)] [sc 0 v5] ?_
 refine qvM [4] [] trivial 1 65 [(37, I (w64 (v5.fBorn + 1))), (36, I v5.fBorn), (35, .ptr 0 0 4), (34, I v5.fDied), (33, .ptr 0 0 5), (32, B true), (31, B true), (30, I v5.fDied), (29, .ptr 0 0 5), (28, B false), (26, B false), (25, B v18), (24, I v5.fBorn), (23, .ptr 0 0 4), (20, B false), (19, B v16), (18, I v5.fKey), (17, .ptr 0 0 3), (0, A a0), (3, I x1), (4, .ptr 0 0 0), (5, A a0), (6, I (a0.length : Int)), (7, I x1)] [sc 0 v5] ?_
 obtain ⟨v20, hv21, h⟩ := bindS h
 refine qX (some 38) (B v20) 65 [(38, B v20), (37, I (w64 (v5.fBorn + 1))), (36, I v5.fBorn), (35, .ptr 0 0 4), (34, I v5.fDied), (33, .ptr 0 0 5), (32, B true), (31, B true), (30, I v5.fDied), (29, .ptr 0 0 5), (28, B false), (26, B false), (25, B v18), (24, I v5.fBorn), (23, .ptr 0 0 4), (20, B false), (19, B v16), (18, I v5.fKey), (17, .ptr 0 0 3), (0, A a0), (3, I x1), (4, .ptr 0 0 0), (5, A a0), (6, I (a0.length : Int)), (7, I x1)] [sc 0 v5] (fun Γ' hΓ => CoreE.of_g (callV_sound (τ := τ) (by kernel_rfl) rfl (ok_impl_between hv21) (FzTo.frz rfl))) trivial ?_
 refine qvM [4] [] trivial 4 65 [(42, B (!v20)), (40, B (!v20)), (39, B (!v20)), (38, B v20), (37, I (w64 (v5.fBorn + 1))), (36, I v5.fBorn), (35, .ptr 0 0 4), (34, I v5.fDied), (33, .ptr 0 0 5), (32, B true), (31, B true), (30, I v5.fDied), (29, .ptr 0 0 5), (26, B false), (25, B v18), (24, I v5.fBorn), (23, .ptr 0 0 4), (20, B false), (19, B v16), (18, I v5.fKey), (17, .ptr 0 0 3), (0, A a0), (3, I x1), (4, .ptr 0 0 0), (5, A a0), (6, I (a0.length : Int)), (7, I x1)] [sc 0 v5] ?_
 rcases fk (!v20) with hc27 | hc27
 replace h := bT hc27 h
 rw [hc27]
 refine qvM [4] [] trivial 8 65 [(50, .lit undef), (49, .lit undef), (48, .lit undef), (47, .lit undef), (46, .lit undef), (45, .lit undef), (44, .lit undef), (43, .lit undef), (42, B true), (40, B true), (39, B true), (38, B v20), (37, I (w64 (v5.fBorn + 1))), (36, I v5.fBorn), (35, .ptr 0 0 4), (34, I v5.fDied), (33, .ptr 0 0 5), (32, B true), (31, B true), (30, I v5.fDied), (29, .ptr 0 0 5), (26, B false), (25, B v18), (24, I v5.fBorn), (23, .ptr 0 0 4), (20, B false), (19, B v16), (18, I v5.fKey), (17, .ptr 0 0 3), (0, A a0), (3, I x1), (4, .ptr 0 0 0), (5, A a0), (6, I (a0.length : Int)), (7, I x1)] [sc 0 v5] ?_
 refine qvM [4] [0] (hB trivial) 1 65 [(51, .lit undef), (50, .lit undef), (49, .lit undef), (48, .lit undef), (47, .lit undef), (46, .lit undef), (45, .lit undef), (44, .lit undef), (43, .lit undef), (42, B true), (40, B true), (39, B true), (38, B v20), (37, I (w64 (v5.fBorn + 1))), (36, I v5.fBorn), (35, .ptr 0 0 4), (34, I v5.fDied), (33, .ptr 0 0 5), (32, B true), (31, B true), (30, I v5.fDied), (29, .ptr 0 0 5), (26, B false), (25, B v18), (24, I v5.fBorn), (23, .ptr 0 0 4), (20, B false), (19, B v16), (18, I v5.fKey), (17, .ptr 0 0 3), (0, A a0), (3, I x1), (4, .ptr 0 0 0), (5, A a0), (6, I (a0.length : Int)), (7, I x1)] [sc 0 v5] ?_
 refine qvM [4] [] trivial 4 65 [(55, B true), (54, .lit undef), (53, .lit undef), (52, .lit undef), (51, .lit undef), (50, .lit undef), (49, .lit undef), (48, .lit undef), (47, .lit undef), (46, .lit undef), (45, .lit undef), (44, .lit undef), (43, .lit undef), (40, B true), (39, B true), (38, B v20), (37, I (w64 (v5.fBorn + 1))), (36, I v5.fBorn), (35, .ptr 0 0 4), (34, I v5.fDied), (33, .ptr 0 0 5), (32, B true), (31, B true), (30, I v5.fDied), (29, .ptr 0 0 5), (26, B false), (25, B v18), (24, I v5.fBorn), (23, .ptr 0 0 4), (20, B false), (19, B v16), (18, I v5.fKey), (17, .ptr 0 0 3), (0, A a0), (3, I x1), (4, .ptr 0 0 0), (5, A a0), (6, I (a0.length : Int)), (7, I x1)] [sc 0 v5] ?_
 refine qn 65 [(0, A a0), (3, I x1), (4, .ptr 0 0 0), (5, A a0), (6, I (a0.length : Int)), (7, I x1), (17, .ptr 0 0 3), (18, I v5.fKey), (19, B v16), (20, B false), (23, .ptr 0 0 4), (24, I v5.fBorn), (25, B v18), (26, B false), (29, .ptr 0 0 5), (30, I v5.fDied), (31, B true), (32, B true), (33, .ptr 0 0 5), (34, I v5.fDied), (35, .ptr 0 0 4), (36, I v5.fBorn), (37, I (w64 (v5.fBorn + 1))), (38, B v20), (39, B true), (40, B true), (43, .lit undef), (44, .lit undef), (45, .lit undef), (46, .lit undef), (47, .lit undef), (48, .lit undef), (49, .lit undef), (50, .lit undef), (51, .lit undef), (52, .lit undef), (53, .lit undef), (54, .lit undef), (55, B true)] [sc 0 v5] ?_
 exact ⟨true, h, it [0, 3, 4, 5, 6, 7, 55]⟩
 replace h := bF hc27 h
 rw [hc27]
 refine qvM [4] [] trivial 3 65 [(45, B (decide (x1 > 0))), (44, B (decide (x1 > 0))), (43, I x1), (42, B false), (40, B false), (39, B false), (38, B v20), (37, I (w64 (v5.fBorn + 1))), (36, I v5.fBorn), (35, .ptr 0 0 4), (34, I v5.fDied), (33, .ptr 0 0 5), (32, B true), (31, B true), (30, I v5.fDied), (29, .ptr 0 0 5), (26, B false), (25, B v18), (24, I v5.fBorn), (23, .ptr 0 0 4), (20, B false), (19, B v16), (18, I v5.fKey), (17, .ptr 0 0 3), (0, A a0), (3, I x1), (4, .ptr 0 0 0), (5, A a0), (6, I (a0.length : Int)), (7, I x1)] [sc 0 v5] ?_
 rcases fk (decide (x1 > 0)) with hc26 | hc26
 replace h := bT hc26 h
 rw [hc26]
 refine qvM [4] [] trivial 3 65 [(48, I (w64 (x1 - 1))), (47, I x1), (46, A a0), (45, B true), (44, B true), (43, I x1), (42, B false), (40, B false), (39, B false), (38, B v20), (37, I (w64 (v5.fBorn + 1))), (36, I v5.fBorn), (35, .ptr 0 0 4), (34, I v5.fDied), (33, .ptr 0 0 5), (32, B true), (31, B true), (30, I v5.fDied), (29, .ptr 0 0 5), (26, B false), (25, B v18), (24, I v5.fBorn), (23, .ptr 0 0 4), (20, B false), (19, B v16), (18, I v5.fKey), (17, .ptr 0 0 3), (0, A a0), (3, I x1), (4, .ptr 0 0 0), (5, A a0), (6, I (a0.length : Int)), (7, I x1)] [sc 0 v5] ?_
 obtain ⟨v22, hv23, h⟩ := bindS h
 refine qX (some 49) (pf v22 0) 65 [(49, pf v22 0), (48, I (w64 (x1 - 1))), (47, I x1), (46, A a0), (45, B true), (44, B true), (43, I x1), (42, B false), (40, B false), (39, B false), (38, B v20), (37, I (w64 (v5.fBorn + 1))), (36, I v5.fBorn), (35, .ptr 0 0 4), (34, I v5.fDied), (33, .ptr 0 0 5), (32, B true), (31, B true), (30, I v5.fDied), (29, .ptr 0 0 5), (26, B false), (25, B v18), (24, I v5.fBorn), (23, .ptr 0 0 4), (20, B false), (19, B v16), (18, I v5.fKey), (17, .ptr 0 0 3), (0, A a0), (3, I x1), (4, .ptr 0 0 0), (5, A a0), (6, I (a0.length : Int)), (7, I x1)] [sc 0 v5] (fun Γ' hΓ => CoreE.of_y (idxV_sound τ_ok (by kernel_rfl) hv23)) trivial ?_
 refine qvM [4] [] trivial 1 65 [(50, E v22), (49, pf v22 0), (48, I (w64 (x1 - 1))), (47, I x1), (46, A a0), (45, B true), (44, B true), (43, I x1), (42, B false), (40, B false), (39, B false), (38, B v20), (37, I (w64 (v5.fBorn + 1))), (36, I v5.fBorn), (35, .ptr 0 0 4), (34, I v5.fDied), (33, .ptr 0 0 5), (32, B true), (31, B true), (30, I v5.fDied), (29, .ptr 0 0 5), (26, B false), (25, B v18), (24, I v5.fBorn), (23, .ptr 0 0 4), (20, B false), (19, B v16), (18, I v5.fKey), (17, .ptr 0 0 3), (0, A a0), (3, I x1), (4, .ptr 0 0 0), (5, A a0), (6, I (a0.length : Int)), (7, I x1)] [sc 0 v5] ?_
 refine qvM [4] [0] (hB trivial) 1 65 [(51, E v5), (50, E v22), (49, pf v22 0), (48, I (w64 (x1 - 1))), (47, I x1), (46, A a0), (45, B true), (44, B true), (43, I x1), (42, B false), (40, B false), (39, B false), (38, B v20), (37, I (w64 (v5.fBorn + 1))), (36, I v5.fBorn), (35, .ptr 0 0 4), (34, I v5.fDied), (33, .ptr 0 0 5), (32, B true), (31, B true), (30, I v5.fDied), (29, .ptr 0 0 5), (26, B false), (25, B v18), (24, I v5.fBorn), (23, .ptr 0 0 4), (20, B false), (19, B v16), (18, I v5.fKey), (17, .ptr 0 0 3), (0, A a0), (3, I x1), (4, .ptr 0 0 0), (5, A a0), (6, I (a0.length : Int)), (7, I x1)] [sc 0 v5] ?_
 obtain ⟨v24, hv25, h⟩ := bindS h
 refine qX (some 52) (I v24) 65 [(52, I v24), (51, E v5), (50, E v22), (49, pf v22 0), (48, I (w64 (x1 - 1))), (47, I x1), (46, A a0), (45, B true), (44, B true), (43, I x1), (42, B false), (40, B false), (39, B false), (38, B v20), (37, I (w64 (v5.fBorn + 1))), (36, I v5.fBorn), (35, .ptr 0 0 4), (34, I v5.fDied), (33, .ptr 0 0 5), (32, B true), (31, B true), (30, I v5.fDied), (29, .ptr 0 0 5), (26, B false), (25, B v18), (24, I v5.fBorn), (23, .ptr 0 0 4), (20, B false), (19, B v16), (18, I v5.fKey), (17, .ptr 0 0 3), (0, A a0), (3, I x1), (4, .ptr 0 0 0), (5, A a0), (6, I (a0.length : Int)), (7, I x1)] [sc 0 v5] (fun Γ' hΓ => CoreE.of_g (callV_sound (τ := τ) (by kernel_rfl) rfl (ok_impl_Mark_order hv25) (FzTo.frz rfl))) trivial ?_
 refine qvnM [4] [] trivial 3 65 [(0, A a0), (3, I x1), (4, .ptr 0 0 0), (5, A a0), (6, I (a0.length : Int)), (7, I x1), (17, .ptr 0 0 3), (18, I v5.fKey), (19, B v16), (20, B false), (23, .ptr 0 0 4), (24, I v5.fBorn), (25, B v18), (26, B false), (29, .ptr 0 0 5), (30, I v5.fDied), (31, B true), (32, B true), (33, .ptr 0 0 5), (34, I v5.fDied), (35, .ptr 0 0 4), (36, I v5.fBorn), (37, I (w64 (v5.fBorn + 1))), (38, B v20), (39, B false), (40, B false), (43, I x1), (44, B true), (45, B true), (46, A a0), (47, I x1), (48, I (w64 (x1 - 1))), (49, pf v22 0), (50, E v22), (51, E v5), (52, I v24), (53, B (decide (v24 > 0))), (54, B (decide (v24 > 0))), (55, B (decide (v24 > 0)))] [sc 0 v5] ?_
 exact ⟨(decide (v24 > 0)), h, it [0, 3, 4, 5, 6, 7, 55]⟩
 replace h := bF hc26 h
 rw [hc26]
 refine qvM [4] [] trivial 5 65 [(50, .lit undef), (49, .lit undef), (48, .lit undef), (47, .lit undef), (46, .lit undef), (45, B false), (44, B false), (43, I x1), (42, B false), (40, B false), (39, B false), (38, B v20), (37, I (w64 (v5.fBorn + 1))), (36, I v5.fBorn), (35, .ptr 0 0 4), (34, I v5.fDied), (33, .ptr 0 0 5), (32, B true), (31, B true), (30, I v5.fDied), (29, .ptr 0 0 5), (26, B false), (25, B v18), (24, I v5.fBorn), (23, .ptr 0 0 4), (20, B false), (19, B v16), (18, I v5.fKey), (17, .ptr 0 0 3), (0, A a0), (3, I x1), (4, .ptr 0 0 0), (5, A a0), (6, I (a0.length : Int)), (7, I x1)] [sc 0 v5] ?_
 refine qvM [4] [0] (hB trivial) 1 65 [(51, .lit undef), (50, .lit undef), (49, .lit undef), (48, .lit undef), (47, .lit undef), (46, .lit undef), (45, B false), (44, B false), (43, I x1), (42, B false), (40, B false), (39, B false), (38, B v20), (37, I (w64 (v5.fBorn + 1))), (36, I v5.fBorn), (35, .ptr 0 0 4), (34, I v5.fDied), (33, .ptr 0 0 5), (32, B true), (31, B true), (30, I v5.fDied), (29, .ptr 0 0 5), (26, B false), (25, B v18), (24, I v5.fBorn), (23, .ptr 0 0 4), (20, B false), (19, B v16), (18, I v5.fKey), (17, .ptr 0 0 3), (0, A a0), (3, I x1), (4, .ptr 0 0 0), (5, A a0), (6, I (a0.length : Int)), (7, I x1)] [sc 0 v5] ?_
 refine qvM [4] [] trivial 4 65 [(55, B false), (54, B false), (53, .lit undef), (52, .lit undef), (51, .lit undef), (50, .lit undef), (49, .lit undef), (48, .lit undef), (47, .lit undef), (46, .lit undef), (45, B false), (44, B false), (43, I x1), (40, B false), (39, B false), (38, B v20), (37, I (w64 (v5.fBorn + 1))), (36, I v5.fBorn), (35, .ptr 0 0 4), (34, I v5.fDied), (33, .ptr 0 0 5), (32, B true), (31, B true), (30, I v5.fDied), (29, .ptr 0 0 5), (26, B false), (25, B v18), (24, I v5.fBorn), (23, .ptr 0 0 4), (20, B false), (19, B v16), (18, I v5.fKey), (17, .ptr 0 0 3), (0, A a0), (3, I x1), (4, .ptr 0 0 0), (5, A a0), (6, I (a0.length : Int)), (7, I x1)] [sc 0 v5] ?_
 refine qn 65 [(0, A a0), (3, I x1), (4, .ptr 0 0 0), (5, A a0), (6, I (a0.length : Int)), (7, I x1), (17, .ptr 0 0 3), (18, I v5.fKey), (19, B v16), (20, B false), (23, .ptr 0 0 4), (24, I v5.fBorn), (25, B v18), (26, B false), (29, .ptr 0 0 5), (30, I v5.fDied), (31, B true), (32, B true), (33, .ptr 0 0 5), (34, I v5.fDied), (35, .ptr 0 0 4), (36, I v5.fBorn), (37, I (w64 (v5.fBorn + 1))), (38, B v20), (39, B false), (40, B false), (43, I x1), (44, B false), (45, B false), (46, .lit undef), (47, .lit undef), (48, .lit undef), (49, .lit undef), (50, .lit undef), (51, .lit undef), (52, .lit undef), (53, .lit undef), (54, B false), (55, B false)] [sc 0 v5] ?_
 exact ⟨false, h, it [0, 3, 4, 5, 6, 7, 55]⟩
 replace h := bF hc33 h
 rw [hc33]
 refine qvM [4] [0] (hB trivial) 4 65 [(36, .lit undef), (35, .lit undef), (34, .lit undef), (33, .lit undef), (32, B false), (31, B false), (30, I v5.fDied), (29, .ptr 0 0 5), (28, B false), (26, B false), (25, B v18), (24, I v5.fBorn), (23, .ptr 0 0 4), (20, B false), (19, B v16), (18, I v5.fKey), (17, .ptr 0 0 3), (0, A a0), (3, I x1), (4, .ptr 0 0 0), (5, A a0), (6, I (a0.length : Int)), (7, I x1)] [sc 0 v5] ?_
 refine qvM [4] [] trivial 9 65 [(45, B (decide (x1 > 0))), (44, B (decide (x1 > 0))), (43, I x1), (42, B false), (40, B false), (39, .lit undef), (38, .lit undef), (37, .lit undef), (36, .lit undef), (35, .lit undef), (34, .lit undef), (33, .lit undef), (32, B false), (31, B false), (30, I v5.fDied), (29, .ptr 0 0 5), (26, B false), (25, B v18), (24, I v5.fBorn), (23, .ptr 0 0 4), (20, B false), (19, B v16), (18, I v5.fKey), (17, .ptr 0 0 3), (0, A a0), (3, I x1), (4, .ptr 0 0 0), (5, A a0), (6, I (a0.length : Int)), (7, I x1)] [sc 0 v5] ?_
 rcases fk (decide (x1 > 0)) with hc32 | hc32
 replace h := bT hc32 h
 rw [hc32]
 refine qvM [4] [] trivial 3 65 [(48, I (w64 (x1 - 1))), (47, I x1), (46, A a0), (45, B true), (44, B true), (43, I x1), (42, B false), (40, B false), (39, .lit undef), (38, .lit undef), (37, .lit undef), (36, .lit undef), (35, .lit undef), (34, .lit undef), (33, .lit undef), (32, B false), (31, B false), (30, I v5.fDied), (29, .ptr 0 0 5), (26, B false), (25, B v18), (24, I v5.fBorn), (23, .ptr 0 0 4), (20, B false), (19, B v16), (18, I v5.fKey), (17, .ptr 0 0 3), (0, A a0), (3, I x1), (4, .ptr 0 0 0), (5, A a0), (6, I (a0.length : Int)), (7, I x1)] [sc 0 v5] ?_
 obtain ⟨v28, hv29, h⟩ := bindS h
 refine qX (some 49) (pf v28 0) 65 [(49, pf v28 0), (48, I (w64 (x1 - 1))), (47, I x1), (46, A a0), (45, B true), (44, B true), (43, I x1), (42, B false), (40, B false), (39, .lit undef), (38, .lit undef), (37, .lit undef), (36, .lit undef), (35, .lit undef), (34, .lit undef), (33, .lit undef), (32, B false), (31, B false), (30, I v5.fDied), (29, .ptr 0 0 5), (26, B false), (25, B v18), (24, I v5.fBorn), (23, .ptr 0 0 4), (20, B false), (19, B v16), (18, I v5.fKey), (17, .ptr 0 0 3), (0, A a0), (3, I x1), (4, .ptr 0 0 0), (5, A a0), (6, I (a0.length : Int)), (7, I x1)] [sc 0 v5] (fun Γ' hΓ => CoreE.of_y (idxV_sound τ_ok (by kernel_rfl) hv29)) trivial ?_
 refine qvM [4] [] trivial 1 65 [(50, E v28), (49, pf v28 0), (48, I (w64 (x1 - 1))), (47, I x1), (46, A a0), (45, B true), (44, B true), (43, I x1), (42, B false), (40, B false), (39, .lit undef), (38, .lit undef), (37, .lit undef), (36, .lit undef), (35, .lit undef), (34, .lit undef), (33, .lit undef), (32, B false), (31, B false), (30, I v5.fDied), (29, .ptr 0 0 5), (26, B false), (25, B v18), (24, I v5.fBorn), (23, .ptr 0 0 4), (20, B false), (19, B v16), (18, I v5.fKey), (17, .ptr 0 0 3), (0, A a0), (3, I x1), (4, .ptr 0 0 0), (5, A a0), (6, I (a0.length : Int)), (7, I x1)] [sc 0 v5] ?_
 refine qvM [4] [0] (hB trivial) 1 65 [(51, E v5), (50, E v28), (49, pf v28 0), (48, I (w64 (x1 - 1))), (47, I x1), (46, A a0), (45, B true), (44, B true), (43, I x1), (42, B false), (40, B false), (39, .lit undef), (38, .lit undef), (37, .lit undef), (36, .lit undef), (35, .lit undef), (34, .lit undef), (33, .lit undef), (32, B false), (31, B false), (30, I v5.fDied), (29, .ptr 0 0 5), (26, B false), (25, B v18), (24, I v5.fBorn), (23, .ptr 0 0 4), (20, B false), (19, B v16), (18, I v5.fKey), (17, .ptr 0 0 3), (0, A a0), (3, I x1), (4, .ptr 0 0 0), (5, A a0), (6, I (a0.length : Int)), (7, I x1)] [sc 0 v5] ?_
 obtain ⟨v30, hv31, h⟩ := bindS h
 refine qX (some 52) (I v30) 65 [(52, I v30), (51, E v5), (50, E v28), (49, pf v28 0), (48, I (w64 (x1 - 1))), (47, I x1), (46, A a0), (45, B true), (44, B true), (43, I x1), (42, B false), (40, B false), (39, .lit undef), (38, .lit undef), (37, .lit undef), (36, .lit undef), (35, .lit undef), (34, .lit undef), (33, .lit undef), (32, B false), (31, B false), (30, I v5.fDied), (29, .ptr 0 0 5), (26, B false), (25, B v18), (24, I v5.fBorn), (23, .ptr 0 0 4), (20, B false), (19, B v16), (18, I v5.fKey), (17, .ptr 0 0 3), (0, A a0), (3, I x1), (4, .ptr 0 0 0), (5, A a0), (6, I (a0.length : Int)), (7, I x1)] [sc 0 v5] (fun Γ' hΓ => CoreE.of_g (callV_sound (τ := τ) (by kernel_rfl) rfl (ok_impl_Mark_order hv31) (FzTo.frz rfl))) trivial ?_
 refine qvnM [4] [] trivial 3 65 [(0, A a0), (3, I x1), (4, .ptr 0 0 0), (5, A a0), (6, I (a0.length : Int)), (7, I x1), (17, .ptr 0 0 3), (18, I v5.fKey), (19, B v16), (20, B false), (23, .ptr 0 0 4), (24, I v5.fBorn), (25, B v18), (26, B false), (29, .ptr 0 0 5), (30, I v5.fDied), (31, B false), (32, B false), (33, .lit undef), (34, .lit undef), (35, .lit undef), (36, .lit undef), (37, .lit undef), (38, .lit undef), (39, .lit undef), (40, B false), (43, I x1), (44, B true), (45, B true), (46, A a0), (47, I x1), (48, I (w64 (x1 - 1))), (49, pf v28 0), (50, E v28), (51, E v5), (52, I v30), (53, B (decide (v30 > 0))), (54, B (decide (v30 > 0))), (55, B (decide (v30 > 0)))] [sc 0 v5] ?_
 exact ⟨(decide (v30 > 0)), h, it [0, 3, 4, 5, 6, 7, 55]⟩
 replace h := bF hc32 h
 rw [hc32]
 refine qvM [4] [] trivial 5 65 [(50, .lit undef), (49, .lit undef), (48, .lit undef), (47, .lit undef), (46, .lit undef), (45, B false), (44, B false), (43, I x1), (42, B false), (40, B false), (39, .lit undef), (38, .lit undef), (37, .lit undef), (36, .lit undef), (35, .lit undef), (34, .lit undef), (33, .lit undef), (32, B false), (31, B false), (30, I v5.fDied), (29, .ptr 0 0 5), (26, B false), (25, B v18), (24, I v5.fBorn), (23, .ptr 0 0 4), (20, B false), (19, B v16), (18, I v5.fKey), (17, .ptr 0 0 3), (0, A a0), (3, I x1), (4, .ptr 0 0 0), (5, A a0), (6, I (a0.length : Int)), (7, I x1)] [sc 0 v5] ?_
 refine qvM [4] [0] (hB trivial) 1 65 [(51, .lit undef), (50, .lit undef), (49, .lit undef), (48, .lit undef), (47, .lit undef), (46, .lit undef), (45, B false), (44, B false), (43, I x1), (42, B false), (40, B false), (39, .lit undef), (38, .lit undef), (37, .lit undef), (36, .lit undef), (35, .lit undef), (34, .lit undef), (33, .lit undef), (32, B false), (31, B false), (30, I v5.fDied), (29, .ptr 0 0 5), (26, B false), (25, B v18), (24, I v5.fBorn), (23, .ptr 0 0 4), (20, B false), (19, B v16), (18, I v5.fKey), (17, .ptr 0 0 3), (0, A a0), (3, I x1), (4, .ptr 0 0 0), (5, A a0), (6, I (a0.length : Int)), (7, I x1)] [sc 0 v5] ?_
 refine qvM [4] [] trivial 4 65 [(55, B false), (54, B false), (53, .lit undef), (52, .lit undef), (51, .lit undef), (50, .lit undef), (49, .lit undef), (48, .lit undef), (47, .lit undef), (46, .lit undef), (45, B false), (44, B false), (43, I x1), (40, B false), (39, .lit undef), (38, .lit undef), (37, .lit undef), (36, .lit undef), (35, .lit undef), (34, .lit undef), (33, .lit undef), (32, B false), (31, B false), (30, I v5.fDied), (29, .ptr 0 0 5), (26, B false), (25, B v18), (24, I v5.fBorn), (23, .ptr 0 0 4), (20, B false), (19, B v16), (18, I v5.fKey), (17, .ptr 0 0 3), (0, A a0), (3, I x1), (4, .ptr 0 0 0), (5, A a0), (6, I (a0.length : Int)), (7, I x1)] [sc 0 v5] ?_
 refine qn 65 [(0, A a0), (3, I x1), (4, .ptr 0 0 0), (5, A a0), (6, I (a0.length : Int)), (7, I x1), (17, .ptr 0 0 3), (18, I v5.fKey), (19, B v16), (20, B false), (23, .ptr 0 0 4), (24, I v5.fBorn), (25, B v18), (26, B false), (29, .ptr 0 0 5), (30, I v5.fDied), (31, B false), (32, B false), (33, .lit undef), (34, .lit undef), (35, .lit undef), (36, .lit undef), (37, .lit undef), (38, .lit undef), (39, .lit undef), (40, B false), (43, I x1), (44, B false), (45, B false), (46, .lit undef), (47, .lit undef), (48, .lit undef), (49, .lit undef), (50, .lit undef), (51, .lit undef), (52, .lit undef), (53, .lit undef), (54, B false), (55, B false)] [sc 0 v5] ?_
 exact ⟨false, h, it [0, 3, 4, 5, 6, 7, 55]⟩
 rintro x7 h
 unfold impl_IndexOk_j1 at h
 refine pc h (fun h => ?_) (fun h => ?_)
 refine srveM [4] 65 [(2, B false)] [sc 0 v5] ?_
 cases h
 exact pwp_ret rz
 refine pwp_skip ?_
 refine srvM [4] 2 65 [(0, A a0), (4, .ptr 0 0 0), (5, A a0), (6, I (a0.length : Int)), (7, I x1), (56, A a0), (57, I x1)] [sc 0 v5] ?_
 obtain ⟨v9, hv10, h⟩ := bindS h
 refine opsP_slc τ_ok 58 hv10 (by kernel_rfl) ?_
 refine vM [4] 0 65 [(0, A a0), (4, .ptr 0 0 0), (5, A a0), (6, I (a0.length : Int)), (7, I x1), (58, A v9)] [sc 0 v5] ?_
 refine opsP_imp (Imp.freezeB (v := 0) (cs := Enc.cells v5) (st' := ⟨65, [(0, A a0), (4, pf v5 0), (5, A a0), (6, I (a0.length : Int)), (7, I x1), (58, A v9)], [none]⟩) 0 0 (nx hX) (by kernel_rfl) (Enc.frz _) (wholeC (whole_noRef (by kernel_rfl)) (wholeC (whole_noRef (by kernel_rfl)) (wholeC (whole_noRef (by kernel_rfl)) (wholeC (whole_noRef (by kernel_rfl)) (wholeC (whole_noRef (by kernel_rfl)) (wholeC (whole_noRef (by kernel_rfl)) wholeC0)))))) (HpRel.key HpRel.nil) (by kernel_rfl) rfl (nx hX)) ?_
 refine vM [4] 1 65 [(0, A a0), (5, A a0), (6, I (a0.length : Int)), (7, I x1), (58, A v9), (59, .fn 34 [pf v5 0])] [none] ?_
 obtain ⟨v11, hv12, h⟩ := bindS h
 refine cF 60 (ok_slices_ContainsFunc_impl_Mark_impl_Mark (rfl) (fun _ w hw => ok_impl_IndexOk_1 hw) hv12) ?_
 refine veM [4] 0 65 [(0, A a0), (5, A a0), (6, I (a0.length : Int)), (7, I x1), (60, B v11)] [none] ?_
 refine pc h (fun h => ?_) (fun h => ?_)
 refine srveM [4] 65 [(2, B false)] [none] ?_
 cases h
 exact pwp_ret rz
 refine pwp_skip ?_
 refine rveM [4] 65 [(0, A a0), (5, A a0), (6, I (a0.length : Int)), (7, I (w64 (x1 + 1)))] [none] ?_
 exact ⟨(f2, (w64 (x1 + 1))), h, Nat.lt_succ_self _, (it (st' := ⟨65, [(0, A a0), (5, A a0), (6, I (a0.length : Int)), (7, I (w64 (x1 + 1)))], [none]⟩) [0, 5, 6, 7]).trans (Imp.truncS 0 (nx hX) (by kernel_rfl) (allBelow_mem (by exact (And.intro rfl (And.intro rfl (And.intro rfl (And.intro rfl trivial)))))) (by exact trivial) (by kernel_rfl))⟩
 refine pwp_exit ?_
 refine srveM [4] 65 [(2, B (decide ((a0.length : Int) ≤ 60)))] [] ?_
 cases h
 exact pwp_ret rz
def impl_IndexFind_j0 (a0 : List T_impl_Mark) (a1 : T_impl_Value) (a2 : Int) (x1 : Bool) : Option (List Int) := bif x1 then some ([] : List Int) else (impl_keysOf a0 (fun z0 => impl_IndexFind_1 z0 a1 a2)).bind fun v3 => some v3
def impl_IndexFind (a0 : List T_impl_Mark) (a1 : T_impl_Value) (a2 : Int) : Option (List Int) := (impl_IndexOk a0).bind fun v5 => bif (!v5) then impl_IndexFind_j0 a0 a1 a2 true else (impl_Value_ok a1).bind fun v7 => impl_IndexFind_j0 a0 a1 a2 (!v7)
theorem ok_impl_IndexFind {a0 : List T_impl_Mark} {a1 : T_impl_Value} {a2 : Int} {y : List Int} (h : impl_IndexFind a0 a1 a2 = some y) : OK Tryz.prog 11 [A a0, E a1, I a2] (A y) := by
 refine ow Tryz.func11 fun Γ hX => ?_
 unfold impl_IndexFind at h
 refine srve 18 [(0, A a0), (4, pf a1 0), (5, pf a2 0)] [] ?_
 refine pwp_seq ?_
 refine pwp_seq ?_
 refine pwp_join (σ := Bool) (fun x1 => (⟨18, [(0, A a0), (4, pf a1 0), (5, pf a2 0), (14, B x1)], []⟩ : St)) (fun x1 => impl_IndexFind_j0 a0 a1 a2 x1 = some y) ?_ ?_
 refine rv 1 18 [(0, A a0), (4, pf a1 0), (5, pf a2 0), (7, A a0)] [] ?_
 obtain ⟨v5, hv6, h⟩ := bindS h
 refine cF 8 (ok_impl_IndexOk hv6) ?_
 refine v 2 18 [(0, A a0), (4, pf a1 0), (5, pf a2 0), (10, B (!v5))] [] ?_
 rcases fk (!v5) with hc9 | hc9
 replace h := bT hc9 h
 rw [hc9]
 refine ve 4 18 [(0, A a0), (4, pf a1 0), (5, pf a2 0), (14, B true)] [] ?_
 exact ⟨true, h, it [0, 4, 5, 14]⟩
 replace h := bF hc9 h
 rw [hc9]
 refine v 1 18 [(0, A a0), (4, pf a1 0), (5, pf a2 0), (10, B false), (11, E a1)] [] ?_
 obtain ⟨v7, hv8, h⟩ := bindS h
 refine cF 12 (ok_impl_Value_ok hv8) ?_
 refine ve 2 18 [(0, A a0), (4, pf a1 0), (5, pf a2 0), (14, B (!v7))] [] ?_
 exact ⟨(!v7), h, it [0, 4, 5, 14]⟩
 rintro x1 h
 unfold impl_IndexFind_j0 at h
 refine pc h (fun h => ?_) (fun h => ?_)
 refine srve 18 [(6, .arr 1 0 (eL ([] : List Int)) true)] [] ?_
 refine ip 18 [(6, .arr 1 0 (eL ([] : List Int)) true)] [] ?_
 refine pwp_imp (Imp.unfS (st' := ⟨18, [(6, A ([] : List Int))], []⟩) 6 [6] (by kernel_rfl)) ?_
 cases h
 exact pwp_ret rz
 refine pwp_skip ?_
 refine srv 2 18 [(15, A a0), (16, .fn 37 [pf a1 0, pf a2 0])] [] ?_
 obtain ⟨v3, hv4, h⟩ := bindS h
 refine cF 17 (ok_impl_keysOf (rfl) (fun _ w hw => ok_impl_IndexFind_1 hw) hv4) ?_
 refine ve 1 18 [(6, A v3)] [] ?_
 cases h
 exact pwp_ret rz
noncomputable def impl_IndexOf_l0 (a0 : List T_impl_Version) : Nat → Int → (List T_impl_Mark) → Option (List T_impl_Mark)
 | 0, _, _ => none
 | f7 + 1, x5, x6 => bif (decide (x5 < (a0.length : Int))) then (getI a0 x5).bind fun v10 => (impl_firstOf v10.fRow).bind fun v12 => (app x6 ([(T_impl_Mark.mk v12 v10.fKey v10.fBorn v10.fDied)] : List T_impl_Mark)).bind fun v14 => (impl_IndexOf_l0 a0 f7) (w64 (x5 + 1)) v14 else (sortM x6 impl_Mark_order).bind fun v16 => (impl_clone_impl_Mark v16).bind fun v18 => some v18
noncomputable def impl_IndexOf (a0 : List T_impl_Version) : Option (List T_impl_Mark) := (impl_VersionsOk a0).bind fun v1 => bif (!v1) then some ([] : List T_impl_Mark) else impl_IndexOf_l0 a0 FUEL 0 ([] : List T_impl_Mark)
theorem ok_impl_IndexOf {a0 : List T_impl_Version} {y : List T_impl_Mark} (h : impl_IndexOf a0 = some y) : OK Tryz.prog 13 [A a0] (A y) := by
 refine ow Tryz.func13 fun Γ hX => ?_
 unfold impl_IndexOf at h
 refine srveM [5] 33 [(0, A a0)] [] ?_
 refine pwp_seq ?_
 refine srvM [5] 1 33 [(0, A a0), (6, A a0)] [] ?_
 obtain ⟨v1, hv2, h⟩ := bindS h
 refine cF 7 (ok_impl_VersionsOk hv2) ?_
 refine veM [5] 1 33 [(0, A a0), (8, B (!v1))] [] ?_
 refine pc h (fun h => ?_) (fun h => ?_)
 refine srveM [5] 33 [(2, .arr 6 0 (eL ([] : List T_impl_Mark)) true)] [] ?_
 refine ip 33 [(2, .arr 6 0 (eL ([] : List T_impl_Mark)) true)] [] ?_
 refine pwp_imp (Imp.unfS (st' := ⟨33, [(2, A ([] : List T_impl_Mark))], []⟩) 2 [2] (by kernel_rfl)) ?_
 cases h
 exact pwp_ret rz
 refine pwp_skip ?_
 refine srveM [5] 33 [(0, A a0), (3, .arr 6 0 (eL ([] : List T_impl_Mark)) true)] [] ?_
 refine pwp_seq ?_
 refine srveM [5] 33 [(3, .arr 6 0 (eL ([] : List T_impl_Mark)) true), (9, A a0), (10, I (a0.length : Int)), (11, I 0)] [] ?_
 refine pwp_block ?_
 refine pwp_loop (ι := Nat × Int × (List T_impl_Mark)) (fun (f7, x5, x6) => (⟨33, [(3, rf 0 0 6 x6), (9, A a0), (10, I (a0.length : Int)), (11, I x5)], [sl 0 x6]⟩ : St)) (fun (f7, x5, x6) => impl_IndexOf_l0 a0 f7 x5 x6 = some y) Prod.fst (FUEL, 0, ([] : List T_impl_Mark)) h (Imp.thawS 3 [3, 9, 10, 11] (by kernel_rfl)) ?_
 rintro ⟨f7, x5, x6⟩ h
 dsimp only at h ⊢
 rcases f7 with _ | f7
 cases h
 rw [impl_IndexOf_l0] at h
 refine srveM [5] 33 [(3, rf 0 0 6 x6), (9, A a0), (10, I (a0.length : Int)), (11, I x5), (12, B (decide (x5 < (a0.length : Int))))] [sl 0 x6] ?_
 refine pwp_seq ?_
 refine pc h (fun h => ?_) (fun h => ?_)
 refine pwp_skip ?_
 refine pwp_seq ?_
 refine pwp_block ?_
 refine pwp_seq ?_
 refine pwp_region ?_
 obtain ⟨v10, hv11, h⟩ := bindS h
 refine opsP_idx τ_ok 13 hv11 (by kernel_rfl) ?_
 refine veM [5] 3 33 [(3, rf 0 0 6 x6), (5, .ptr 1 0 0), (9, A a0), (10, I (a0.length : Int)), (11, I x5)] [sl 0 x6, sc 0 v10] ?_
 refine ip 33 [(3, rf 0 0 6 x6), (5, .ptr 1 0 0), (9, A a0), (10, I (a0.length : Int)), (11, I x5)] [sl 0 x6, sc 0 v10] ?_
 refine pwp_any ([[0], [1], [1], [], [1], [1], [1], [1], [1], [1], [], [], [0], [0]]) ([[], [], [], [], [], [], [], [], [], [], [], [], [0], []]) rfl (by kernel_rfl) ?_
 refine qvM [5] [0] (hL trivial) 1 33 [(15, rf 0 0 6 x6), (3, rf 0 0 6 x6), (5, .ptr 1 0 0), (9, A a0), (10, I (a0.length : Int)), (11, I x5)] [sl 0 x6, sc 0 v10] ?_
 refine qvM [5] [1] (hB trivial) 2 33 [(17, A v10.fRow), (15, rf 0 0 6 x6), (3, rf 0 0 6 x6), (5, .ptr 1 0 0), (9, A a0), (10, I (a0.length : Int)), (11, I x5)] [sl 0 x6, sc 0 v10] ?_
 obtain ⟨v12, hv13, h⟩ := bindS h
 refine qX (some 18) (E v12) 33 [(18, E v12), (15, rf 0 0 6 x6), (3, rf 0 0 6 x6), (5, .ptr 1 0 0), (9, A a0), (10, I (a0.length : Int)), (11, I x5)] [sl 0 x6, sc 0 v10] (fun Γ' hΓ => CoreE.of_g (callV_sound (τ := τ) (by kernel_rfl) rfl (ok_impl_firstOf hv13) (FzTo.frz rfl))) trivial ?_
 refine qvM [5] [1] (hB trivial) 6 33 [(24, I v10.fDied), (22, I v10.fBorn), (20, I v10.fKey), (18, E v12), (15, rf 0 0 6 x6), (3, rf 0 0 6 x6), (9, A a0), (10, I (a0.length : Int)), (11, I x5)] [sl 0 x6, sc 0 v10] ?_
 refine qvM [5] [] trivial 2 33 [(26, .arr 6 ([(T_impl_Mark.mk v12 v10.fKey v10.fBorn v10.fDied)] : List T_impl_Mark).length (eL ([(T_impl_Mark.mk v12 v10.fKey v10.fBorn v10.fDied)] : List T_impl_Mark)) true), (15, rf 0 0 6 x6), (3, rf 0 0 6 x6), (9, A a0), (10, I (a0.length : Int)), (11, I x5)] [sl 0 x6, sc 0 v10] ?_
 obtain ⟨v14, hv15, h⟩ := bindS h
 refine qX (some 27) (rf 0 1 6 v14) 33 [(27, rf 0 1 6 v14), (3, rf 0 0 6 x6), (9, A a0), (10, I (a0.length : Int)), (11, I x5)] [sl 1 v14, sc 0 v10] (fun Γ' hΓ => app_Ew τ_ok 27 0 0 (ny hΓ hX) hv15 (by kernel_rfl)) (hL trivial) ?_
 refine qvnM [5] [0] (hL trivial) 1 33 [(3, rf 0 1 6 v14), (9, A a0), (10, I (a0.length : Int)), (11, I x5)] [sl 1 v14, sc 0 v10] ?_
 refine rveM [5] 33 [(3, rf 0 1 6 v14), (9, A a0), (10, I (a0.length : Int)), (11, I (w64 (x5 + 1)))] [sl 1 v14, sc 0 v10] ?_
 exact ⟨(f7, (w64 (x5 + 1)), v14), h, Nat.lt_succ_self _, qt (it (st' := ⟨33, [(3, rf 0 1 6 v14), (9, A a0), (10, I (a0.length : Int)), (11, I (w64 (x5 + 1)))], [sl 1 v14, sc 0 v10]⟩) [3, 9, 10, 11]) (qt (Imp.truncS (st' := ⟨33, [(3, rf 0 1 6 v14), (9, A a0), (10, I (a0.length : Int)), (11, I (w64 (x5 + 1)))], [sl 1 v14]⟩) 1 (nx hX) (by kernel_rfl) (allBelow_mem (by exact (And.intro rfl (And.intro rfl (And.intro rfl (And.intro rfl trivial)))))) (by exact (And.intro (frz_below (eL_frz _)) trivial)) (by kernel_rfl)) (Imp.reverS 0 1 (eL v14) [3, 9, 10, 11] (by kernel_rfl) (by exact (And.intro (eL_frz _) trivial)) (by kernel_rfl)))⟩
 refine pwp_exit ?_
 refine srvM [5] 1 33 [(3, rf 0 0 6 x6), (29, rf 0 0 6 x6)] [sl 0 x6] ?_
 obtain ⟨v16, hv17, h⟩ := bindS h
 refine opsP_E (dd := some 30) (x := .tup []) (callS_E τ 30 0 0 (ok_sortM (rfl) (fun _ _ w hw => ok_impl_Mark_order hw) hv17) (FzTo.tup FzToL.nil) rfl rfl (by kernel_rfl)) ?_
 refine io 33 [(3, rf 0 0 6 x6), (29, rf 0 0 6 x6), (30, .tup [])] [sl 0 v16] ?_
 refine opsP_ren (st' := ⟨33, [(3, rf 0 0 6 v16), (29, rf 0 0 6 v16), (30, .tup [])], [sl 0 v16]⟩) 0 v16.length (renC (ren_ref (len_sortM hv17).symm) (renC (ren_ref (len_sortM hv17).symm) (renC trivial renC0))) (by kernel_rfl) ?_
 refine veM [5] 0 33 [(3, rf 0 0 6 v16)] [sl 0 v16] ?_
 refine srvM [5] 1 33 [(31, rf 0 0 6 v16)] [sl 0 v16] ?_
 refine opsP_imp (Imp.freezeB (v := 0) (cs := eL v16) (st' := ⟨33, [(31, A v16)], [none]⟩) 0 0 (nx hX) (by kernel_rfl) (eL_frz _) (wholeC (whole_is (eL_len v16).symm) wholeC0) (HpRel.key HpRel.nil) (by kernel_rfl) rfl (nx hX)) ?_
 obtain ⟨v18, hv19, h⟩ := bindS h
 refine cF 32 (ok_impl_clone_impl_Mark hv19) ?_
 refine veM [5] 1 33 [(2, A v18)] [none] ?_
 cases h
 exact pwp_ret rz
def impl_RowsAt_l0 (a0 : List T_impl_Version) (a1 : Int) : Nat → Int → (List (List T_impl_Value)) → Option (List (List T_impl_Value))
 | 0, _, _ => none
 | f7 + 1, x5, x6 => bif (decide (x5 < 5)) then (impl_seen a0 x5 a1).bind fun v10 => bif v10.2 then (app x6 ([v10.1.fRow] : List (List T_impl_Value))).bind fun v13 => (impl_RowsAt_l0 a0 a1 f7) (w64 (x5 + 1)) v13 else (impl_RowsAt_l0 a0 a1 f7) (w64 (x5 + 1)) x6 else (impl_rowsCopy x6).bind fun v15 => some v15
def impl_RowsAt (a0 : List T_impl_Version) (a1 : Int) : Option (List (List T_impl_Value)) := (impl_VersionsOk a0).bind fun v1 => bif (!v1) then some ([] : List (List T_impl_Value)) else impl_RowsAt_l0 a0 a1 FUEL 0 ([] : List (List T_impl_Value))
theorem ok_impl_RowsAt {a0 : List T_impl_Version} {a1 : Int} {y : List (List T_impl_Value)} (h : impl_RowsAt a0 a1 = some y) : OK Tryz.prog 17 [A a0, I a1] (A y) := by
 refine ow Tryz.func17 fun Γ hX => ?_
 unfold impl_RowsAt at h
 refine srveM [7] 31 [(0, A a0), (1, I a1)] [] ?_
 refine pwp_seq ?_
 refine srvM [7] 1 31 [(0, A a0), (1, I a1), (9, A a0)] [] ?_
 obtain ⟨v1, hv2, h⟩ := bindS h
 refine cF 10 (ok_impl_VersionsOk hv2) ?_
 refine veM [7] 1 31 [(0, A a0), (1, I a1), (11, B (!v1))] [] ?_
 refine pc h (fun h => ?_) (fun h => ?_)
 refine srveM [7] 31 [(4, .arr 1 0 (eL ([] : List (List T_impl_Value))) true)] [] ?_
 refine ip 31 [(4, .arr 1 0 (eL ([] : List (List T_impl_Value))) true)] [] ?_
 refine pwp_imp (Imp.unfS (st' := ⟨31, [(4, A ([] : List (List T_impl_Value)))], []⟩) 4 [4] (by kernel_rfl)) ?_
 cases h
 exact pwp_ret rz
 refine pwp_skip ?_
 refine srveM [7] 31 [(0, A a0), (1, I a1), (5, .arr 1 0 (eL ([] : List (List T_impl_Value))) true)] [] ?_
 refine pwp_seq ?_
 refine srveM [7] 31 [(0, A a0), (1, I a1), (5, .arr 1 0 (eL ([] : List (List T_impl_Value))) true), (12, I 0)] [] ?_
 refine pwp_block ?_
 refine pwp_loop (ι := Nat × Int × (List (List T_impl_Value))) (fun (f7, x5, x6) => (⟨31, [(0, A a0), (1, I a1), (5, rf 0 0 1 x6), (12, I x5)], [sl 0 x6]⟩ : St)) (fun (f7, x5, x6) => impl_RowsAt_l0 a0 a1 f7 x5 x6 = some y) Prod.fst (FUEL, 0, ([] : List (List T_impl_Value))) h (Imp.thawS 5 [0, 1, 5, 12] (by kernel_rfl)) ?_
 rintro ⟨f7, x5, x6⟩ h
 dsimp only at h ⊢
 rcases f7 with _ | f7
 cases h
 rw [impl_RowsAt_l0] at h
 refine srveM [7] 31 [(0, A a0), (1, I a1), (5, rf 0 0 1 x6), (12, I x5), (13, B (decide (x5 < 5)))] [sl 0 x6] ?_
 refine pwp_seq ?_
 refine pc h (fun h => ?_) (fun h => ?_)
 refine pwp_skip ?_
 refine pwp_seq ?_
 refine pwp_block ?_
 refine srveM [7] 31 [(0, A a0), (1, I a1), (5, rf 0 0 1 x6), (6, I x5), (12, I x5)] [sl 0 x6] ?_
 refine srvM [7] 3 31 [(0, A a0), (1, I a1), (5, rf 0 0 1 x6), (12, I x5), (16, A a0), (17, I x5), (18, I a1)] [sl 0 x6] ?_
 obtain ⟨v10, hv11, h⟩ := bindS h
 refine opsP_callF τ 19 (ok_impl_seen hv11) (FzTo.tup (FzToL.cons (FzTo.frz rfl) (FzToL.cons (FzTo.frz rfl) FzToL.nil))) rfl (by kernel_rfl) ?_
 refine veM [7] 6 31 [(0, A a0), (1, I a1), (5, rf 0 0 1 x6), (7, .ptr 1 0 0), (8, B v10.2), (12, I x5)] [sl 0 x6, sc 0 v10.1] ?_
 refine srveM [7] 31 [(0, A a0), (1, I a1), (5, rf 0 0 1 x6), (7, .ptr 1 0 0), (12, I x5), (22, B v10.2)] [sl 0 x6, sc 0 v10.1] ?_
 refine pc h (fun h => ?_) (fun h => ?_)
 refine rvM [7] 4 31 [(0, A a0), (1, I a1), (12, I x5), (23, rf 0 0 1 x6), (26, .arr 1 ([v10.1.fRow] : List (List T_impl_Value)).length (eL ([v10.1.fRow] : List (List T_impl_Value))) true)] [sl 0 x6, sc 0 v10.1] ?_
 obtain ⟨v13, hv14, h⟩ := bindS h
 refine opsP_app τ_ok 27 0 0 (nx hX) hv14 (by kernel_rfl) ?_
 refine veM [7] 1 31 [(0, A a0), (1, I a1), (5, rf 0 1 1 v13), (12, I x5)] [sl 1 v13, sc 0 v10.1] ?_
 refine rveM [7] 31 [(0, A a0), (1, I a1), (5, rf 0 1 1 v13), (12, I (w64 (x5 + 1)))] [sl 1 v13, sc 0 v10.1] ?_
 exact ⟨(f7, (w64 (x5 + 1)), v13), h, Nat.lt_succ_self _, qt (it (st' := ⟨31, [(0, A a0), (1, I a1), (5, rf 0 1 1 v13), (12, I (w64 (x5 + 1)))], [sl 1 v13, sc 0 v10.1]⟩) [0, 1, 5, 12]) (qt (Imp.truncS (st' := ⟨31, [(0, A a0), (1, I a1), (5, rf 0 1 1 v13), (12, I (w64 (x5 + 1)))], [sl 1 v13]⟩) 1 (nx hX) (by kernel_rfl) (allBelow_mem (by exact (And.intro rfl (And.intro rfl (And.intro rfl (And.intro rfl trivial)))))) (by exact (And.intro (frz_below (eL_frz _)) trivial)) (by kernel_rfl)) (Imp.reverS 0 1 (eL v13) [0, 1, 5, 12] (by kernel_rfl) (by exact (And.intro (eL_frz _) trivial)) (by kernel_rfl)))⟩
 refine pwp_skip ?_
 refine rveM [7] 31 [(0, A a0), (1, I a1), (5, rf 0 0 1 x6), (12, I (w64 (x5 + 1)))] [sl 0 x6, sc 0 v10.1] ?_
 exact ⟨(f7, (w64 (x5 + 1)), x6), h, Nat.lt_succ_self _, (it (st' := ⟨31, [(0, A a0), (1, I a1), (5, rf 0 0 1 x6), (12, I (w64 (x5 + 1)))], [sl 0 x6, sc 0 v10.1]⟩) [0, 1, 5, 12]).trans (Imp.truncS 1 (nx hX) (by kernel_rfl) (allBelow_mem (by exact (And.intro rfl (And.intro rfl (And.intro rfl (And.intro rfl trivial)))))) (by exact (And.intro (frz_below (eL_frz _)) trivial)) (by kernel_rfl))⟩
 refine pwp_exit ?_
 refine srvM [7] 1 31 [(29, rf 0 0 1 x6)] [sl 0 x6] ?_
 refine opsP_imp (Imp.freezeB (v := 0) (cs := eL x6) (st' := ⟨31, [(29, A x6)], [none]⟩) 0 0 (nx hX) (by kernel_rfl) (eL_frz _) (wholeC (whole_is (eL_len x6).symm) wholeC0) (HpRel.key HpRel.nil) (by kernel_rfl) rfl (nx hX)) ?_
 obtain ⟨v15, hv16, h⟩ := bindS h
 refine cF 30 (ok_impl_rowsCopy hv16) ?_
 refine veM [7] 1 31 [(4, A v15)] [none] ?_
 cases h
 exact pwp_ret rz
def impl_ManyBounds_l2 (a0 : T_impl_Known) (a1 : Int) (a2 : T_impl_Value) (x6 : List T_impl_Value) : Nat → Int → Int → Option (Int × Int)
 | 0, _, _ => none
 | f10 + 1, x8, x9 => bif (decide (x9 < (x6.length : Int))) then (getI x6 x9).bind fun v13 => (impl_Compare a1 v13 a2).bind fun v15 => bif (v15 == 1) then (impl_ManyBounds_l2 a0 a1 a2 x6 f10) (w64 (x8 + 1)) (w64 (x9 + 1)) else (impl_ManyBounds_l2 a0 a1 a2 x6 f10) x8 (w64 (x9 + 1)) else some (x8, (w64 (a0.fMany - (w64 ((x6.length : Int) - x8)))))
def impl_ManyBounds_j1 (a0 : T_impl_Known) (a1 : Int) (a2 : T_impl_Value) (x6 : List T_impl_Value) : Option (Int × Int) := impl_ManyBounds_l2 a0 a1 a2 x6 FUEL 0 0
def impl_ManyBounds_j3 (a0 : T_impl_Known) (a1 : Int) (a2 : T_impl_Value) (x18 : Bool) : Option (Int × Int) := bif x18 then (app ([a0.fLeast] : List T_impl_Value) ([a0.fMost] : List T_impl_Value)).bind fun v20 => impl_ManyBounds_j1 a0 a1 a2 v20 else impl_ManyBounds_j1 a0 a1 a2 ([a0.fLeast] : List T_impl_Value)
def impl_ManyBounds_j0 (a0 : T_impl_Known) (a1 : Int) (a2 : T_impl_Value) (x1 : Bool) : Option (Int × Int) := bif x1 then some (0, 0) else (impl_MustHold a0 a1 a2).bind fun v3 => bif v3 then some (a0.fMany, a0.fMany) else bif (!(eq_T_impl_Value a0.fMost a0.fLeast)) then impl_ManyBounds_j3 a0 a1 a2 (decide (a0.fMany > 1)) else impl_ManyBounds_j3 a0 a1 a2 false
def impl_ManyBounds (a0 : T_impl_Known) (a1 : Int) (a2 : T_impl_Value) : Option (Int × Int) := (impl_Known_asks a0 a1 a2).bind fun v23 => bif (!v23) then impl_ManyBounds_j0 a0 a1 a2 true else (impl_MayHold a0 a1 a2).bind fun v25 => impl_ManyBounds_j0 a0 a1 a2 (!v25)
theorem ok_impl_ManyBounds {a0 : T_impl_Known} {a1 : Int} {a2 : T_impl_Value} {y : Int × Int} (h : impl_ManyBounds a0 a1 a2 = some y) : OK Tryz.prog 19 [E a0, I a1, E a2] (.tup [I y.1, I y.2]) := by
 refine ow Tryz.func19 fun Γ hX => ?_
 unfold impl_ManyBounds at h
 refine srveM [11] 74 [(1, I a1), (3, pf a0 0), (5, pf a2 0)] [] ?_
 refine pwp_seq ?_
 refine pwp_block ?_
 refine pwp_seq ?_
 refine pwp_join (σ := Bool) (fun x1 => (⟨74, [(1, I a1), (3, pf a0 0), (5, pf a2 0), (12, B x1)], []⟩ : St)) (fun x1 => impl_ManyBounds_j0 a0 a1 a2 x1 = some y) ?_ ?_
 refine rvM [11] 3 74 [(1, I a1), (3, pf a0 0), (5, pf a2 0), (13, E a0), (14, I a1), (15, E a2)] [] ?_
 obtain ⟨v23, hv24, h⟩ := bindS h
 refine cF 16 (ok_impl_Known_asks hv24) ?_
 refine vM [11] 2 74 [(1, I a1), (3, pf a0 0), (5, pf a2 0), (18, B (!v23))] [] ?_
 rcases fk (!v23) with hc27 | hc27
 replace h := bT hc27 h
 rw [hc27]
 refine veM [11] 7 74 [(1, I a1), (3, pf a0 0), (5, pf a2 0), (12, B true)] [] ?_
 exact ⟨true, h, it [1, 3, 5, 12]⟩
 replace h := bF hc27 h
 rw [hc27]
 refine vM [11] 3 74 [(1, I a1), (3, pf a0 0), (5, pf a2 0), (18, B false), (19, E a0), (20, I a1), (21, E a2)] [] ?_
 obtain ⟨v25, hv26, h⟩ := bindS h
 refine cF 22 (ok_impl_MayHold hv26) ?_
 refine veM [11] 3 74 [(1, I a1), (3, pf a0 0), (5, pf a2 0), (12, B (!v25))] [] ?_
 exact ⟨(!v25), h, it [1, 3, 5, 12]⟩
 rintro x1 h
 unfold impl_ManyBounds_j0 at h
 refine pc h (fun h => ?_) (fun h => ?_)
 refine srveM [11] 74 [(6, I 0), (7, I 0)] [] ?_
 have h := si h
 subst h
 exact pwp_ret (rt (.tup [I 0, I 0]) (OutP.tup (OutL.cons (OutP.frz (by kernel_rfl)) (OutL.cons (OutP.frz (by kernel_rfl)) (OutL.nil _)))))
 refine srvM [11] 3 74 [(1, I a1), (3, pf a0 0), (5, pf a2 0), (26, E a0), (27, I a1), (28, E a2)] [] ?_
 obtain ⟨v3, hv4, h⟩ := bindS h
 refine cF 29 (ok_impl_MustHold hv4) ?_
 refine veM [11] 1 74 [(1, I a1), (3, pf a0 0), (5, pf a2 0), (25, B v3)] [] ?_
 refine pc h (fun h => ?_) (fun h => ?_)
 refine pwp_seq ?_
 refine ip 74 [(3, pf a0 0)] [] ?_
 refine pN 6 ?_
 refine qvnM [11] [] trivial 6 74 [(6, I a0.fMany), (7, I a0.fMany)] [] ?_
 have h := si h
 subst h
 exact pwp_ret (rt (.tup [I a0.fMany, I a0.fMany]) (OutP.tup (OutL.cons (OutP.frz (by kernel_rfl)) (OutL.cons (OutP.frz (by kernel_rfl)) (OutL.nil _)))))
 refine pwp_skip ?_
 refine srvM [11] 2 74 [(1, I a1), (3, pf a0 0), (5, pf a2 0), (35, E a0.fLeast)] [] ?_
 refine opsP_E (dd := some 36) (x := .ref 0 0 0 3 ([a0.fLeast] : List T_impl_Value).length false) (bsl_N (cells := eL ([a0.fLeast] : List T_impl_Value)) τ_ok 36 0 (nx hX) (by kernel_rfl) (by kernel_rfl)) ?_
 refine veM [11] 1 74 [(1, I a1), (3, pf a0 0), (5, pf a2 0), (8, .ref 0 0 0 3 ([a0.fLeast] : List T_impl_Value).length false)] [some ⟨0, eL ([a0.fLeast] : List T_impl_Value)⟩] ?_
 refine pwp_seq ?_
 refine pwp_join (σ := (List T_impl_Value)) (fun x6 => (⟨74, [(1, I a1), (3, pf a0 0), (5, pf a2 0), (8, rf 0 0 3 x6)], [sl 0 x6]⟩ : St)) (fun x6 => impl_ManyBounds_j1 a0 a1 a2 x6 = some y) ?_ ?_
 refine pwp_seq ?_
 refine pwp_join (σ := Bool) (fun x18 => (⟨74, [(1, I a1), (3, pf a0 0), (5, pf a2 0), (8, .ref 0 0 0 3 ([a0.fLeast] : List T_impl_Value).length false), (46, B x18)], [some ⟨0, eL ([a0.fLeast] : List T_impl_Value)⟩]⟩ : St)) (fun x18 => impl_ManyBounds_j3 a0 a1 a2 x18 = some y) ?_ ?_
 refine rvM [11] 6 74 [(1, I a1), (3, pf a0 0), (5, pf a2 0), (8, .ref 0 0 0 3 ([a0.fLeast] : List T_impl_Value).length false), (42, B (!(eq_T_impl_Value a0.fMost a0.fLeast)))] [some ⟨0, eL ([a0.fLeast] : List T_impl_Value)⟩] ?_
 rcases fk (!(eq_T_impl_Value a0.fMost a0.fLeast)) with hc22 | hc22
 replace h := bT hc22 h
 rw [hc22]
 refine veM [11] 4 74 [(1, I a1), (3, pf a0 0), (5, pf a2 0), (8, .ref 0 0 0 3 ([a0.fLeast] : List T_impl_Value).length false), (46, B (decide (a0.fMany > 1)))] [some ⟨0, eL ([a0.fLeast] : List T_impl_Value)⟩] ?_
 exact ⟨(decide (a0.fMany > 1)), h, it [1, 3, 5, 8, 46]⟩
 replace h := bF hc22 h
 rw [hc22]
 refine veM [11] 4 74 [(1, I a1), (3, pf a0 0), (5, pf a2 0), (8, .ref 0 0 0 3 ([a0.fLeast] : List T_impl_Value).length false), (46, B false)] [some ⟨0, eL ([a0.fLeast] : List T_impl_Value)⟩] ?_
 exact ⟨false, h, it [1, 3, 5, 8, 46]⟩
 rintro x18 h
 unfold impl_ManyBounds_j3 at h
 refine pc h (fun h => ?_) (fun h => ?_)
 refine rvM [11] 4 74 [(1, I a1), (3, pf a0 0), (5, pf a2 0), (47, .ref 0 0 0 3 ([a0.fLeast] : List T_impl_Value).length false), (50, .arr 3 ([a0.fMost] : List T_impl_Value).length (eL ([a0.fMost] : List T_impl_Value)) true)] [some ⟨0, eL ([a0.fLeast] : List T_impl_Value)⟩] ?_
 obtain ⟨v20, hv21, h⟩ := bindS h
 refine opsP_app τ_ok 51 0 0 (nx hX) hv21 (by kernel_rfl) ?_
 refine veM [11] 1 74 [(1, I a1), (3, pf a0 0), (5, pf a2 0), (8, rf 0 1 3 v20)] [sl 1 v20] ?_
 exact ⟨v20, h, (it (st' := ⟨74, [(1, I a1), (3, pf a0 0), (5, pf a2 0), (8, rf 0 1 3 v20)], [sl 1 v20]⟩) [1, 3, 5, 8]).trans (Imp.reverS 0 1 (eL v20) [1, 3, 5, 8] (by kernel_rfl) (by exact (And.intro (eL_frz _) trivial)) (by kernel_rfl))⟩
 refine pwp_skip ?_
 exact ⟨([a0.fLeast] : List T_impl_Value), h, it [1, 3, 5, 8]⟩
 rintro x6 h
 unfold impl_ManyBounds_j1 at h
 refine srveM [11] 74 [(1, I a1), (3, pf a0 0), (5, pf a2 0), (8, rf 0 0 3 x6), (9, I 0)] [sl 0 x6] ?_
 refine pwp_seq ?_
 refine srveM [11] 74 [(1, I a1), (3, pf a0 0), (5, pf a2 0), (8, rf 0 0 3 x6), (9, I 0), (52, rf 0 0 3 x6), (53, I (x6.length : Int)), (54, I 0)] [sl 0 x6] ?_
 refine pwp_block ?_
 refine pwp_loop (ι := Nat × Int × Int) (fun (f10, x8, x9) => (⟨74, [(1, I a1), (3, pf a0 0), (5, pf a2 0), (8, rf 0 0 3 x6), (9, I x8), (52, rf 0 0 3 x6), (53, I (x6.length : Int)), (54, I x9)], [sl 0 x6]⟩ : St)) (fun (f10, x8, x9) => impl_ManyBounds_l2 a0 a1 a2 x6 f10 x8 x9 = some y) Prod.fst (FUEL, 0, 0) h (it [1, 3, 5, 8, 9, 52, 53, 54]) ?_
 rintro ⟨f10, x8, x9⟩ h
 dsimp only at h ⊢
 rcases f10 with _ | f10
 cases h
 rw [impl_ManyBounds_l2] at h
 refine srveM [11] 74 [(1, I a1), (3, pf a0 0), (5, pf a2 0), (8, rf 0 0 3 x6), (9, I x8), (52, rf 0 0 3 x6), (53, I (x6.length : Int)), (54, I x9), (55, B (decide (x9 < (x6.length : Int))))] [sl 0 x6] ?_
 refine pwp_seq ?_
 refine pc h (fun h => ?_) (fun h => ?_)
 refine pwp_skip ?_
 refine pwp_seq ?_
 refine pwp_block ?_
 refine pwp_seq ?_
 refine pwp_region ?_
 obtain ⟨v13, hv14, h⟩ := bindS h
 refine opsP_idr τ_ok 56 0 0 x6.length hv14 rfl (by kernel_rfl) ?_
 refine opsP_lde (r := E v13) τ_ok 57 30 0 hv14 (by kernel_rfl) (by kernel_rfl) ?_
 refine veM [11] 2 74 [(1, I a1), (3, pf a0 0), (5, pf a2 0), (8, rf 0 0 3 x6), (9, I x8), (11, .ptr 1 0 0), (52, rf 0 0 3 x6), (53, I (x6.length : Int)), (54, I x9)] [sl 0 x6, sc 0 v13] ?_
 refine srvM [11] 3 74 [(1, I a1), (3, pf a0 0), (5, pf a2 0), (8, rf 0 0 3 x6), (9, I x8), (52, rf 0 0 3 x6), (53, I (x6.length : Int)), (54, I x9), (58, I a1), (59, E v13), (60, E a2)] [sl 0 x6, sc 0 v13] ?_
 obtain ⟨v15, hv16, h⟩ := bindS h
 refine cF 61 (ok_impl_Compare hv16) ?_
 refine veM [11] 1 74 [(1, I a1), (3, pf a0 0), (5, pf a2 0), (8, rf 0 0 3 x6), (9, I x8), (52, rf 0 0 3 x6), (53, I (x6.length : Int)), (54, I x9), (62, B (v15 == 1))] [sl 0 x6, sc 0 v13] ?_
 refine pc h (fun h => ?_) (fun h => ?_)
 refine rveM [11] 74 [(1, I a1), (3, pf a0 0), (5, pf a2 0), (8, rf 0 0 3 x6), (9, I (w64 (x8 + 1))), (52, rf 0 0 3 x6), (53, I (x6.length : Int)), (54, I x9)] [sl 0 x6, sc 0 v13] ?_
 refine rveM [11] 74 [(1, I a1), (3, pf a0 0), (5, pf a2 0), (8, rf 0 0 3 x6), (9, I (w64 (x8 + 1))), (52, rf 0 0 3 x6), (53, I (x6.length : Int)), (54, I (w64 (x9 + 1)))] [sl 0 x6, sc 0 v13] ?_
 exact ⟨(f10, (w64 (x8 + 1)), (w64 (x9 + 1))), h, Nat.lt_succ_self _, (it (st' := ⟨74, [(1, I a1), (3, pf a0 0), (5, pf a2 0), (8, rf 0 0 3 x6), (9, I (w64 (x8 + 1))), (52, rf 0 0 3 x6), (53, I (x6.length : Int)), (54, I (w64 (x9 + 1)))], [sl 0 x6, sc 0 v13]⟩) [1, 3, 5, 8, 9, 52, 53, 54]).trans (Imp.truncS 1 (nx hX) (by kernel_rfl) (allBelow_mem (by exact (And.intro rfl (And.intro rfl (And.intro rfl (And.intro rfl (And.intro rfl (And.intro rfl (And.intro rfl (And.intro rfl trivial)))))))))) (by exact (And.intro (frz_below (eL_frz _)) trivial)) (by kernel_rfl))⟩
 refine pwp_skip ?_
 refine rveM [11] 74 [(1, I a1), (3, pf a0 0), (5, pf a2 0), (8, rf 0 0 3 x6), (9, I x8), (52, rf 0 0 3 x6), (53, I (x6.length : Int)), (54, I (w64 (x9 + 1)))] [sl 0 x6, sc 0 v13] ?_
 exact ⟨(f10, x8, (w64 (x9 + 1))), h, Nat.lt_succ_self _, (it (st' := ⟨74, [(1, I a1), (3, pf a0 0), (5, pf a2 0), (8, rf 0 0 3 x6), (9, I x8), (52, rf 0 0 3 x6), (53, I (x6.length : Int)), (54, I (w64 (x9 + 1)))], [sl 0 x6, sc 0 v13]⟩) [1, 3, 5, 8, 9, 52, 53, 54]).trans (Imp.truncS 1 (nx hX) (by kernel_rfl) (allBelow_mem (by exact (And.intro rfl (And.intro rfl (And.intro rfl (And.intro rfl (And.intro rfl (And.intro rfl (And.intro rfl (And.intro rfl trivial)))))))))) (by exact (And.intro (frz_below (eL_frz _)) trivial)) (by kernel_rfl))⟩
 refine pwp_exit ?_
 refine pwp_seq ?_
 refine ip 74 [(3, pf a0 0), (8, rf 0 0 3 x6), (9, I x8)] [sl 0 x6] ?_
 refine pwp_any ([[], [], [], [0], [0], [], [], [], [], []]) ([[], [], [], [], [], [], [], [], [], []]) rfl (by kernel_rfl) ?_
 refine qvM [11] [] trivial 3 74 [(68, I a0.fMany), (66, I x8), (8, rf 0 0 3 x6), (9, I x8)] [sl 0 x6] ?_
 refine qvM [11] [0] (hL trivial) 2 74 [(70, I (x6.length : Int)), (68, I a0.fMany), (66, I x8), (9, I x8)] [sl 0 x6] ?_
 refine qvM [11] [] trivial 5 74 [(7, I (w64 (a0.fMany - (w64 ((x6.length : Int) - x8))))), (6, I x8)] [sl 0 x6] ?_
 refine qn 74 [(6, I x8), (7, I (w64 (a0.fMany - (w64 ((x6.length : Int) - x8)))))] [sl 0 x6] ?_
 have h := si h
 subst h
 exact pwp_ret (rt (.tup [I x8, I (w64 (a0.fMany - (w64 ((x6.length : Int) - x8))))]) (OutP.tup (OutL.cons (OutP.frz (by kernel_rfl)) (OutL.cons (OutP.frz (by kernel_rfl)) (OutL.nil _)))))
def impl_RowsOk_1 (a0 : List T_impl_Value) (b0 : List T_impl_Column) : Option Bool := (impl_RowFits b0 a0).bind fun v1 => some (!v1)
theorem ok_impl_RowsOk_1 {a0 : List T_impl_Value} {b0 : List T_impl_Column} {y : Bool} (h : impl_RowsOk_1 a0 b0 = some y) : OK Tryz.prog 53 [A a0, pf b0 0] (B y) := by
 refine ow Tryz.func53 fun Γ hX => ?_
 unfold impl_RowsOk_1 at h
 refine srve 8 [(0, A a0), (1, pf b0 0)] [] ?_
 refine srv 2 8 [(4, A b0), (5, A a0)] [] ?_
 obtain ⟨v1, hv2, h⟩ := bindS h
 refine cF 6 (ok_impl_RowFits hv2) ?_
 refine ve 2 8 [(3, B (!v1))] [] ?_
 cases h
 exact pwp_ret rz
def impl_RowsOk (a0 : List T_impl_Column) (a1 : List (List T_impl_Value)) : Option Bool := (impl_ColumnsOk a0).bind fun v1 => bif v1 then (slices_ContainsFunc_impl_Value_impl_Value_s3 a1 (fun z0 => impl_RowsOk_1 z0 a0)).bind fun v3 => some (!v3) else some false
theorem ok_impl_RowsOk {a0 : List T_impl_Column} {a1 : List (List T_impl_Value)} {y : Bool} (h : impl_RowsOk a0 a1 = some y) : OK Tryz.prog 18 [A a0, A a1] (B y) := by
 refine ow Tryz.func18 fun Γ hX => ?_
 unfold impl_RowsOk at h
 refine srve 13 [(1, A a1), (2, pf a0 0)] [] ?_
 refine srv 1 13 [(1, A a1), (2, pf a0 0), (5, A a0)] [] ?_
 obtain ⟨v1, hv2, h⟩ := bindS h
 refine cF 6 (ok_impl_ColumnsOk hv2) ?_
 refine v 1 13 [(1, A a1), (2, pf a0 0), (7, B v1)] [] ?_
 rcases Bool.eq_false_or_eq_true v1 with hc5 | hc5
 replace h := bT hc5 h
 rw [hc5]
 refine v 2 13 [(7, B true), (8, A a1), (9, .fn 53 [pf a0 0])] [] ?_
 obtain ⟨v3, hv4, h⟩ := bindS h
 refine cF 10 (ok_slices_ContainsFunc_impl_Value_impl_Value_s3 (rfl) (fun _ w hw => ok_impl_RowsOk_1 hw) hv4) ?_
 refine ve 3 13 [(4, B (!v3))] [] ?_
 cases h
 exact pwp_ret rz
 replace h := bF hc5 h
 rw [hc5]
 refine ve 6 13 [(4, B false)] [] ?_
 cases h
 exact pwp_ret rz
def impl_KnownColumn_j0 (a1 : List (List T_impl_Value)) (a2 : Int) (x1 : Bool) : Option T_impl_Known := bif x1 then some (T_impl_Known.mk 0 0 (T_impl_Value.mk 0 0 (ByteArray.mk #[])) (T_impl_Value.mk 0 0 (ByteArray.mk #[]))) else (impl_knownColumn a1 a2).bind fun v3 => some v3
def impl_KnownColumn (a0 : List T_impl_Column) (a1 : List (List T_impl_Value)) (a2 : Int) : Option T_impl_Known := (impl_ColumnsOk a0).bind fun v5 => bif (!v5) then impl_KnownColumn_j0 a1 a2 true else bif (decide ((a1.length : Int) > 100)) then impl_KnownColumn_j0 a1 a2 true else (impl_RowsOk a0 a1).bind fun v7 => bif (!v7) then impl_KnownColumn_j0 a1 a2 true else (impl_between a2 0 (w64 ((a0.length : Int) - 1))).bind fun v9 => impl_KnownColumn_j0 a1 a2 (!v9)
theorem ok_impl_KnownColumn {a0 : List T_impl_Column} {a1 : List (List T_impl_Value)} {a2 : Int} {y : T_impl_Known} (h : impl_KnownColumn a0 a1 a2 = some y) : OK Tryz.prog 20 [A a0, A a1, I a2] (E y) := by
 refine ow Tryz.func20 fun Γ hX => ?_
 unfold impl_KnownColumn at h
 refine srveM [6] 33 [(0, A a0), (1, A a1), (2, I a2), (6, .ptr 0 0 0)] [some ⟨0, Enc.cells (T_impl_Known.mk 0 0 (T_impl_Value.mk 0 0 (ByteArray.mk #[])) (T_impl_Value.mk 0 0 (ByteArray.mk #[])))⟩] ?_
 refine pwp_seq ?_
 refine pwp_seq ?_
 refine pwp_join (σ := Bool) (fun x1 => (⟨33, [(1, A a1), (2, I a2), (6, .ptr 0 0 0), (28, B x1)], [some ⟨0, Enc.cells (T_impl_Known.mk 0 0 (T_impl_Value.mk 0 0 (ByteArray.mk #[])) (T_impl_Value.mk 0 0 (ByteArray.mk #[])))⟩]⟩ : St)) (fun x1 => impl_KnownColumn_j0 a1 a2 x1 = some y) ?_ ?_
 refine rvM [6] 1 33 [(0, A a0), (1, A a1), (2, I a2), (6, .ptr 0 0 0), (7, A a0)] [some ⟨0, Enc.cells (T_impl_Known.mk 0 0 (T_impl_Value.mk 0 0 (ByteArray.mk #[])) (T_impl_Value.mk 0 0 (ByteArray.mk #[])))⟩] ?_
 obtain ⟨v5, hv6, h⟩ := bindS h
 refine cF 8 (ok_impl_ColumnsOk hv6) ?_
 refine vM [6] 2 33 [(0, A a0), (1, A a1), (2, I a2), (6, .ptr 0 0 0), (10, B (!v5))] [some ⟨0, Enc.cells (T_impl_Known.mk 0 0 (T_impl_Value.mk 0 0 (ByteArray.mk #[])) (T_impl_Value.mk 0 0 (ByteArray.mk #[])))⟩] ?_
 rcases fk (!v5) with hc13 | hc13
 replace h := bT hc13 h
 rw [hc13]
 refine veM [6] 18 33 [(1, A a1), (2, I a2), (6, .ptr 0 0 0), (28, B true)] [some ⟨0, Enc.cells (T_impl_Known.mk 0 0 (T_impl_Value.mk 0 0 (ByteArray.mk #[])) (T_impl_Value.mk 0 0 (ByteArray.mk #[])))⟩] ?_
 exact ⟨true, h, it [1, 2, 6, 28]⟩
 replace h := bF hc13 h
 rw [hc13]
 refine vM [6] 5 33 [(0, A a0), (1, A a1), (2, I a2), (6, .ptr 0 0 0), (15, B (decide ((a1.length : Int) > 100)))] [some ⟨0, Enc.cells (T_impl_Known.mk 0 0 (T_impl_Value.mk 0 0 (ByteArray.mk #[])) (T_impl_Value.mk 0 0 (ByteArray.mk #[])))⟩] ?_
 rcases fk (decide ((a1.length : Int) > 100)) with hc12 | hc12
 replace h := bT hc12 h
 rw [hc12]
 refine veM [6] 13 33 [(1, A a1), (2, I a2), (6, .ptr 0 0 0), (28, B true)] [some ⟨0, Enc.cells (T_impl_Known.mk 0 0 (T_impl_Value.mk 0 0 (ByteArray.mk #[])) (T_impl_Value.mk 0 0 (ByteArray.mk #[])))⟩] ?_
 exact ⟨true, h, it [1, 2, 6, 28]⟩
 replace h := bF hc12 h
 rw [hc12]
 refine vM [6] 2 33 [(0, A a0), (1, A a1), (2, I a2), (6, .ptr 0 0 0), (15, B false), (16, A a0), (17, A a1)] [some ⟨0, Enc.cells (T_impl_Known.mk 0 0 (T_impl_Value.mk 0 0 (ByteArray.mk #[])) (T_impl_Value.mk 0 0 (ByteArray.mk #[])))⟩] ?_
 obtain ⟨v7, hv8, h⟩ := bindS h
 refine cF 18 (ok_impl_RowsOk hv8) ?_
 refine vM [6] 3 33 [(0, A a0), (1, A a1), (2, I a2), (6, .ptr 0 0 0), (21, B (!v7))] [some ⟨0, Enc.cells (T_impl_Known.mk 0 0 (T_impl_Value.mk 0 0 (ByteArray.mk #[])) (T_impl_Value.mk 0 0 (ByteArray.mk #[])))⟩] ?_
 rcases fk (!v7) with hc11 | hc11
 replace h := bT hc11 h
 rw [hc11]
 refine veM [6] 7 33 [(1, A a1), (2, I a2), (6, .ptr 0 0 0), (28, B true)] [some ⟨0, Enc.cells (T_impl_Known.mk 0 0 (T_impl_Value.mk 0 0 (ByteArray.mk #[])) (T_impl_Value.mk 0 0 (ByteArray.mk #[])))⟩] ?_
 exact ⟨true, h, it [1, 2, 6, 28]⟩
 replace h := bF hc11 h
 rw [hc11]
 refine vM [6] 4 33 [(1, A a1), (2, I a2), (6, .ptr 0 0 0), (21, B false), (22, I a2), (25, I (w64 ((a0.length : Int) - 1)))] [some ⟨0, Enc.cells (T_impl_Known.mk 0 0 (T_impl_Value.mk 0 0 (ByteArray.mk #[])) (T_impl_Value.mk 0 0 (ByteArray.mk #[])))⟩] ?_
 obtain ⟨v9, hv10, h⟩ := bindS h
 refine cF 26 (ok_impl_between hv10) ?_
 refine veM [6] 2 33 [(1, A a1), (2, I a2), (6, .ptr 0 0 0), (28, B (!v9))] [some ⟨0, Enc.cells (T_impl_Known.mk 0 0 (T_impl_Value.mk 0 0 (ByteArray.mk #[])) (T_impl_Value.mk 0 0 (ByteArray.mk #[])))⟩] ?_
 exact ⟨(!v9), h, it [1, 2, 6, 28]⟩
 rintro x1 h
 unfold impl_KnownColumn_j0 at h
 refine pc h (fun h => ?_) (fun h => ?_)
 refine srveM [6] 33 [(6, .ptr 0 0 0)] [some ⟨0, Enc.cells (T_impl_Known.mk 0 0 (T_impl_Value.mk 0 0 (ByteArray.mk #[])) (T_impl_Value.mk 0 0 (ByteArray.mk #[])))⟩] ?_
 cases h
 exact pwp_ret rz
 refine pwp_skip ?_
 refine srvM [6] 2 33 [(6, .ptr 0 0 0), (30, A a1), (31, I a2)] [some ⟨0, Enc.cells (T_impl_Known.mk 0 0 (T_impl_Value.mk 0 0 (ByteArray.mk #[])) (T_impl_Value.mk 0 0 (ByteArray.mk #[])))⟩] ?_
 obtain ⟨v3, hv4, h⟩ := bindS h
 refine cF 32 (ok_impl_knownColumn hv4) ?_
 refine veM [6] 1 33 [(6, .ptr 0 0 0)] [sc 0 v3] ?_
 cases h
 exact pwp_ret rz
def spec_l13Copy_R_L0_l0 (a0 : List T_impl_Version) : Nat → Int → (List T_impl_Version) → Option (List T_impl_Version)
 | 0, _, _ => none
 | f5 + 1, x3, x4 => bif (decide (x3 < (a0.length : Int))) then (getI a0 x3).bind fun v8 => (spec_l3Own v8.fRow).bind fun v10 => (app x4 ([{ v8 with fRow := v10 }] : List T_impl_Version)).bind fun v12 => (spec_l13Copy_R_L0_l0 a0 f5) (w64 (x3 + 1)) v12 else some x4
def spec_l13Copy_R_L0 (a0 : List T_impl_Version) : Option (List T_impl_Version) := spec_l13Copy_R_L0_l0 a0 FUEL 0 ([] : List T_impl_Version)
theorem ok_spec_l13Copy_R_L0 {a0 : List T_impl_Version} {y : List T_impl_Version} (h : spec_l13Copy_R_L0 a0 = some y) : OKs Tryz.prog 102 [] 4 a0.length (eL a0) [] (O y) (eL a0) := by
 refine OKs_of_pwp τ_ok Tryz.func102 rfl (by kernel_rfl) rfl (eL_frz _) (eL_frz _) rfl fun Γ hQ => ?_
 refine pwp_imp (Imp.to (st' := ⟨26, [(0, rf 0 0 4 a0)], [sl 0 a0]⟩) [0] (by kernel_rfl)) ?_
 unfold spec_l13Copy_R_L0 at h
 refine srveM [5] 26 [(0, rf 0 0 4 a0)] [sl 0 a0] ?_
 refine srveM [5] 26 [(0, rf 0 0 4 a0), (3, .arr 4 0 (eL ([] : List T_impl_Version)) true)] [sl 0 a0] ?_
 refine pwp_seq ?_
 refine srveM [5] 26 [(0, rf 0 0 4 a0), (3, .arr 4 0 (eL ([] : List T_impl_Version)) true), (4, I 0)] [sl 0 a0] ?_
 refine pwp_block ?_
 refine pwp_loop (ι := Nat × Int × (List T_impl_Version)) (fun (f5, x3, x4) => (⟨26, [(0, rf 0 0 4 a0), (3, rf 1 0 4 x4), (4, I x3)], [sl 0 a0, sl 0 x4]⟩ : St)) (fun (f5, x3, x4) => spec_l13Copy_R_L0_l0 a0 f5 x3 x4 = some y) Prod.fst (FUEL, 0, ([] : List T_impl_Version)) h (Imp.thawS 3 [0, 3, 4] (by kernel_rfl)) ?_
 rintro ⟨f5, x3, x4⟩ h
 dsimp only at h ⊢
 rcases f5 with _ | f5
 cases h
 rw [spec_l13Copy_R_L0_l0] at h
 refine pwp_seq ?_
 refine srveM [5] 26 [(0, rf 0 0 4 a0), (3, rf 1 0 4 x4), (4, I x3), (10, B (decide (x3 < (a0.length : Int))))] [sl 0 a0, sl 0 x4] ?_
 refine pc h (fun h => ?_) (fun h => ?_)
 refine pwp_skip ?_
 refine pwp_seq ?_
 refine pwp_block ?_
 refine srvM [5] 2 26 [(0, rf 0 0 4 a0), (3, rf 1 0 4 x4), (4, I x3), (13, rf 0 0 4 a0), (14, I x3)] [sl 0 a0, sl 0 x4] ?_
 obtain ⟨v8, hv9, h⟩ := bindS h
 refine opsP_idr τ_ok 15 0 0 a0.length hv9 rfl (by kernel_rfl) ?_
 refine opsP_lde (r := E v8) τ_ok 16 76 0 hv9 (by kernel_rfl) (by kernel_rfl) ?_
 refine veM [5] 2 26 [(0, rf 0 0 4 a0), (3, rf 1 0 4 x4), (4, I x3), (5, .ptr 2 0 0)] [sl 0 a0, sl 0 x4, sc 0 v8] ?_
 refine srvM [5] 2 26 [(0, rf 0 0 4 a0), (3, rf 1 0 4 x4), (4, I x3), (5, .ptr 2 0 0), (18, A v8.fRow)] [sl 0 a0, sl 0 x4, sc 0 v8] ?_
 obtain ⟨v10, hv11, h⟩ := bindS h
 refine cFo 19 (ok_spec_l3Own hv11) ?_
 refine veM [5] 2 26 [(0, rf 0 0 4 a0), (3, rf 1 0 4 x4), (4, I x3), (5, .ptr 2 0 0)] [sl 0 a0, sl 0 x4, some ⟨0, Enc.cells ({ v8 with fRow := v10 })⟩] ?_
 refine rvM [5] 3 26 [(0, rf 0 0 4 a0), (4, I x3), (21, rf 1 0 4 x4), (23, .arr 4 ([{ v8 with fRow := v10 }] : List T_impl_Version).length (eL ([{ v8 with fRow := v10 }] : List T_impl_Version)) true)] [sl 0 a0, sl 0 x4, some ⟨0, Enc.cells ({ v8 with fRow := v10 })⟩] ?_
 obtain ⟨v12, hv13, h⟩ := bindS h
 refine opsP_app τ_ok 24 1 0 (pn hQ) hv13 (by kernel_rfl) ?_
 refine veM [5] 1 26 [(0, rf 0 0 4 a0), (3, rf 1 1 4 v12), (4, I x3)] [sl 0 a0, sl 1 v12, some ⟨0, Enc.cells ({ v8 with fRow := v10 })⟩] ?_
 refine rveM [5] 26 [(0, rf 0 0 4 a0), (3, rf 1 1 4 v12), (4, I (w64 (x3 + 1)))] [sl 0 a0, sl 1 v12, some ⟨0, Enc.cells ({ v8 with fRow := v10 })⟩] ?_
 exact ⟨(f5, (w64 (x3 + 1)), v12), h, Nat.lt_succ_self _, qt (it (st' := ⟨26, [(0, rf 0 0 4 a0), (3, rf 1 1 4 v12), (4, I (w64 (x3 + 1)))], [sl 0 a0, sl 1 v12, some ⟨0, Enc.cells ({ v8 with fRow := v10 })⟩]⟩) [0, 3, 4]) (qt (Imp.truncS (st' := ⟨26, [(0, rf 0 0 4 a0), (3, rf 1 1 4 v12), (4, I (w64 (x3 + 1)))], [sl 0 a0, sl 1 v12]⟩) 2 (pl hQ) (by kernel_rfl) (allBelow_mem (by exact (And.intro rfl (And.intro rfl (And.intro rfl trivial))))) (by exact (And.intro (frz_below (eL_frz _)) (And.intro (frz_below (eL_frz _)) trivial))) (by kernel_rfl)) (Imp.reverS 1 1 (eL v12) [0, 3, 4] (by kernel_rfl) (by exact (And.intro (eL_frz _) (And.intro (eL_frz _) trivial))) (by kernel_rfl)))⟩
 refine pwp_exit ?_
 refine srveM [5] 26 [(2, rf 1 0 4 x4)] [sl 0 a0, sl 0 x4] ?_
 have h := si h
 subst h
 exact pwp_ret ⟨.inr rfl, rf 1 0 4 x4, _, 0, by kernel_rfl, (OutP.list (v := 0) (by kernel_rfl)), by decide, by decide, by kernel_rfl⟩
def spec_l13Written_R_L0_j2 (x4 : Int) (K7 : Bool → Int → (List T_impl_Version) → Option (List T_impl_Version)) (x11 : Bool) (x12 : List T_impl_Version) (x13 : T_impl_Version) : Option (List T_impl_Version) := (app x12 ([x13] : List T_impl_Version)).bind fun v14 => K7 x11 (w64 (x4 + 1)) v14
def spec_l13Written_R_L0_j3 (a2 : Int) (x4 : Int) (K7 : Bool → Int → (List T_impl_Version) → Option (List T_impl_Version)) (v9 : T_impl_Version) (x11 : Bool) (x12 : List T_impl_Version) (x16 : Bool) : Option (List T_impl_Version) := bif x16 then spec_l13Written_R_L0_j2 x4 K7 x11 x12 ({ v9 with fDied := a2 }) else spec_l13Written_R_L0_j2 x4 K7 x11 x12 v9
def spec_l13Written_R_L0_j1 (a1 : T_impl_Write) (a2 : Int) (x4 : Int) (K7 : Bool → Int → (List T_impl_Version) → Option (List T_impl_Version)) (v9 : T_impl_Version) (x11 : Bool) (x12 : List T_impl_Version) : Option (List T_impl_Version) := bif (v9.fKey == a1.fKey) then spec_l13Written_R_L0_j3 a2 x4 K7 v9 x11 x12 (v9.fDied == 0) else spec_l13Written_R_L0_j3 a2 x4 K7 v9 x11 x12 false
def spec_l13Written_R_L0_j4 (a1 : T_impl_Write) (a2 : Int) (x3 : Bool) (x4 : Int) (x5 : List T_impl_Version) (K7 : Bool → Int → (List T_impl_Version) → Option (List T_impl_Version)) (v9 : T_impl_Version) (x19 : Bool) : Option (List T_impl_Version) := bif x19 then (spec_l3Own a1.fRow).bind fun v21 => (app x5 ([(T_impl_Version.mk a1.fKey a2 0 v21)] : List T_impl_Version)).bind fun v23 => spec_l13Written_R_L0_j1 a1 a2 x4 K7 v9 true v23 else spec_l13Written_R_L0_j1 a1 a2 x4 K7 v9 x3 x5
def spec_l13Written_R_L0_l0 (a0 : List T_impl_Version) (a1 : T_impl_Write) (a2 : Int) : Nat → Bool → Int → (List T_impl_Version) → Option (List T_impl_Version)
 | 0, _, _, _ => none
 | f6 + 1, x3, x4, x5 => bif (decide (x4 < (a0.length : Int))) then (getI a0 x4).bind fun v9 => bif (decide (v9.fKey > a1.fKey)) then spec_l13Written_R_L0_j4 a1 a2 x3 x4 x5 (spec_l13Written_R_L0_l0 a0 a1 a2 f6) v9 (!x3) else spec_l13Written_R_L0_j4 a1 a2 x3 x4 x5 (spec_l13Written_R_L0_l0 a0 a1 a2 f6) v9 false else bif (!x3) then (spec_l3Own a1.fRow).bind fun v27 => (app x5 ([(T_impl_Version.mk a1.fKey a2 0 v27)] : List T_impl_Version)).bind fun v29 => some v29 else some x5
def spec_l13Written_R_L0 (a0 : List T_impl_Version) (a1 : T_impl_Write) (a2 : Int) : Option (List T_impl_Version) := spec_l13Written_R_L0_l0 a0 a1 a2 FUEL a1.fGone 0 ([] : List T_impl_Version)
theorem ok_spec_l13Written_R_L0 {a0 : List T_impl_Version} {a1 : T_impl_Write} {a2 : Int} {y : List T_impl_Version} (h : spec_l13Written_R_L0 a0 a1 a2 = some y) : OKs Tryz.prog 103 [] 4 a0.length (eL a0) [E a1, I a2] (O y) (eL a0) := by
 refine OKs_of_pwp τ_ok Tryz.func103 rfl (by kernel_rfl) rfl (eL_frz _) (eL_frz _) rfl fun Γ hQ => ?_
 refine pwp_imp (Imp.to (st' := ⟨72, [(0, rf 0 0 4 a0), (1, E a1), (2, I a2)], [sl 0 a0]⟩) [0, 1, 2] (by kernel_rfl)) ?_
 unfold spec_l13Written_R_L0 at h
 refine srveM [10] 72 [(0, rf 0 0 4 a0), (2, I a2), (4, pf a1 0)] [sl 0 a0] ?_
 refine srveM [10] 72 [(0, rf 0 0 4 a0), (2, I a2), (4, pf a1 0), (7, .arr 4 0 (eL ([] : List T_impl_Version)) true)] [sl 0 a0] ?_
 refine srveM [10] 72 [(0, rf 0 0 4 a0), (2, I a2), (4, pf a1 0), (7, .arr 4 0 (eL ([] : List T_impl_Version)) true), (8, B a1.fGone)] [sl 0 a0] ?_
 refine pwp_seq ?_
 refine srveM [10] 72 [(0, rf 0 0 4 a0), (2, I a2), (4, pf a1 0), (7, .arr 4 0 (eL ([] : List T_impl_Version)) true), (8, B a1.fGone), (9, I 0)] [sl 0 a0] ?_
 refine pwp_block ?_
 refine pwp_loop (ι := Nat × Bool × Int × (List T_impl_Version)) (fun (f6, x3, x4, x5) => (⟨72, [(0, rf 0 0 4 a0), (2, I a2), (4, pf a1 0), (7, rf 1 0 4 x5), (8, B x3), (9, I x4)], [sl 0 a0, sl 0 x5]⟩ : St)) (fun (f6, x3, x4, x5) => spec_l13Written_R_L0_l0 a0 a1 a2 f6 x3 x4 x5 = some y) Prod.fst (FUEL, a1.fGone, 0, ([] : List T_impl_Version)) h (Imp.thawS 7 [0, 2, 4, 7, 8, 9] (by kernel_rfl)) ?_
 rintro ⟨f6, x3, x4, x5⟩ h
 dsimp only at h ⊢
 rcases f6 with _ | f6
 cases h
 rw [spec_l13Written_R_L0_l0] at h
 refine pwp_seq ?_
 refine srveM [10] 72 [(0, rf 0 0 4 a0), (2, I a2), (4, pf a1 0), (7, rf 1 0 4 x5), (8, B x3), (9, I x4), (17, B (decide (x4 < (a0.length : Int))))] [sl 0 a0, sl 0 x5] ?_
 refine pc h (fun h => ?_) (fun h => ?_)
 refine pwp_skip ?_
 refine pwp_seq ?_
 refine pwp_block ?_
 refine srvM [10] 2 72 [(0, rf 0 0 4 a0), (2, I a2), (4, pf a1 0), (7, rf 1 0 4 x5), (8, B x3), (9, I x4), (20, rf 0 0 4 a0), (21, I x4)] [sl 0 a0, sl 0 x5] ?_
 obtain ⟨v9, hv10, h⟩ := bindS h
 refine opsP_idr τ_ok 22 0 0 a0.length hv10 rfl (by kernel_rfl) ?_
 refine opsP_lde (r := E v9) τ_ok 23 76 0 hv10 (by kernel_rfl) (by kernel_rfl) ?_
 refine veM [10] 2 72 [(0, rf 0 0 4 a0), (2, I a2), (4, pf a1 0), (7, rf 1 0 4 x5), (8, B x3), (9, I x4), (10, .ptr 2 0 0)] [sl 0 a0, sl 0 x5, sc 0 v9] ?_
 refine pwp_seq ?_
 refine pwp_join (σ := Bool × (List T_impl_Version)) (fun (x11, x12) => (⟨72, [(0, rf 0 0 4 a0), (2, I a2), (4, pf a1 0), (7, rf 1 0 4 x12), (8, B x11), (9, I x4), (10, .ptr 2 0 0)], [sl 0 a0, sl 0 x12, sc 0 v9]⟩ : St)) (fun (x11, x12) => spec_l13Written_R_L0_j1 a1 a2 x4 (spec_l13Written_R_L0_l0 a0 a1 a2 f6) v9 x11 x12 = some y) ?_ ?_
 refine pwp_seq ?_
 refine pwp_join (σ := Bool) (fun x19 => (⟨72, [(0, rf 0 0 4 a0), (2, I a2), (4, pf a1 0), (7, rf 1 0 4 x5), (8, B x3), (9, I x4), (10, .ptr 2 0 0), (32, B x19)], [sl 0 a0, sl 0 x5, sc 0 v9]⟩ : St)) (fun x19 => spec_l13Written_R_L0_j4 a1 a2 x3 x4 x5 (spec_l13Written_R_L0_l0 a0 a1 a2 f6) v9 x19 = some y) ?_ ?_
 refine rvM [10] 6 72 [(0, rf 0 0 4 a0), (2, I a2), (4, pf a1 0), (7, rf 1 0 4 x5), (8, B x3), (9, I x4), (10, .ptr 2 0 0), (29, B (decide (v9.fKey > a1.fKey)))] [sl 0 a0, sl 0 x5, sc 0 v9] ?_
 rcases fk (decide (v9.fKey > a1.fKey)) with hc25 | hc25
 replace h := bT hc25 h
 rw [hc25]
 refine veM [10] 3 72 [(0, rf 0 0 4 a0), (2, I a2), (4, pf a1 0), (7, rf 1 0 4 x5), (8, B x3), (9, I x4), (10, .ptr 2 0 0), (30, B x3), (31, B (!x3)), (32, B (!x3))] [sl 0 a0, sl 0 x5, sc 0 v9] ?_
 exact ⟨(!x3), h, it [0, 2, 4, 7, 8, 9, 10, 32]⟩
 replace h := bF hc25 h
 rw [hc25]
 refine veM [10] 3 72 [(0, rf 0 0 4 a0), (2, I a2), (4, pf a1 0), (7, rf 1 0 4 x5), (8, B x3), (9, I x4), (10, .ptr 2 0 0), (30, .lit undef), (31, .lit undef), (32, B false)] [sl 0 a0, sl 0 x5, sc 0 v9] ?_
 exact ⟨false, h, it [0, 2, 4, 7, 8, 9, 10, 32]⟩
 rintro x19 h
 unfold spec_l13Written_R_L0_j4 at h
 refine pc h (fun h => ?_) (fun h => ?_)
 refine pwp_seq ?_
 refine ip 72 [(0, rf 0 0 4 a0), (2, I a2), (4, pf a1 0), (7, rf 1 0 4 x5), (9, I x4), (10, .ptr 2 0 0)] [sl 0 a0, sl 0 x5, sc 0 v9] ?_
 refine pwp_any ([[1], [], [], [], [], [], [], [], [], [1], [1]]) ([[], [], [], [], [], [], [], [], [], [1], []]) rfl (by kernel_rfl) ?_
 refine qvM [10] [1] (hL trivial) 1 72 [(33, rf 1 0 4 x5), (0, rf 0 0 4 a0), (2, I a2), (4, pf a1 0), (7, rf 1 0 4 x5), (9, I x4), (10, .ptr 2 0 0)] [sl 0 a0, sl 0 x5, sc 0 v9] ?_
 refine qvM [10] [] trivial 5 72 [(38, A a1.fRow), (36, I a2), (35, I a1.fKey), (33, rf 1 0 4 x5), (0, rf 0 0 4 a0), (2, I a2), (4, pf a1 0), (7, rf 1 0 4 x5), (9, I x4), (10, .ptr 2 0 0)] [sl 0 a0, sl 0 x5, sc 0 v9] ?_
 obtain ⟨v21, hv22, h⟩ := bindS h
 refine qX (some 39) (A v21) 72 [(39, A v21), (36, I a2), (35, I a1.fKey), (33, rf 1 0 4 x5), (0, rf 0 0 4 a0), (2, I a2), (4, pf a1 0), (7, rf 1 0 4 x5), (9, I x4), (10, .ptr 2 0 0)] [sl 0 a0, sl 0 x5, sc 0 v9] (fun Γ' hΓ => CoreE.of_g (callV_sound (τ := τ) (by kernel_rfl) rfl (ok_spec_l3Own hv22) (FzTo.O _))) trivial ?_
 refine qvM [10] [] trivial 2 72 [(41, .arr 4 ([(T_impl_Version.mk a1.fKey a2 0 v21)] : List T_impl_Version).length (eL ([(T_impl_Version.mk a1.fKey a2 0 v21)] : List T_impl_Version)) true), (33, rf 1 0 4 x5), (0, rf 0 0 4 a0), (2, I a2), (4, pf a1 0), (7, rf 1 0 4 x5), (9, I x4), (10, .ptr 2 0 0)] [sl 0 a0, sl 0 x5, sc 0 v9] ?_
 obtain ⟨v23, hv24, h⟩ := bindS h
 refine qX (some 42) (rf 1 1 4 v23) 72 [(42, rf 1 1 4 v23), (0, rf 0 0 4 a0), (2, I a2), (4, pf a1 0), (7, rf 1 0 4 x5), (9, I x4), (10, .ptr 2 0 0)] [sl 0 a0, sl 1 v23, sc 0 v9] (fun Γ' hΓ => app_Ew τ_ok 42 1 0 (by first | exact py hΓ hQ | exact pky hΓ hQ) hv24 (by kernel_rfl)) (hL trivial) ?_
 refine qvnM [10] [1] (hL trivial) 1 72 [(0, rf 0 0 4 a0), (2, I a2), (4, pf a1 0), (7, rf 1 1 4 v23), (9, I x4), (10, .ptr 2 0 0)] [sl 0 a0, sl 1 v23, sc 0 v9] ?_
 refine rveM [10] 72 [(0, rf 0 0 4 a0), (2, I a2), (4, pf a1 0), (7, rf 1 1 4 v23), (8, B true), (9, I x4), (10, .ptr 2 0 0)] [sl 0 a0, sl 1 v23, sc 0 v9] ?_
 exact ⟨(true, v23), h, (it (st' := ⟨72, [(0, rf 0 0 4 a0), (2, I a2), (4, pf a1 0), (7, rf 1 1 4 v23), (8, B true), (9, I x4), (10, .ptr 2 0 0)], [sl 0 a0, sl 1 v23, sc 0 v9]⟩) [0, 2, 4, 7, 8, 9, 10]).trans (Imp.reverS 1 1 (eL v23) [0, 2, 4, 7, 8, 9, 10] (by kernel_rfl) (by exact (And.intro (eL_frz _) (And.intro (eL_frz _) (And.intro (rfl) trivial)))) (by kernel_rfl))⟩
 refine pwp_skip ?_
 exact ⟨(x3, x5), h, it [0, 2, 4, 7, 8, 9, 10]⟩
 rintro ⟨x11, x12⟩ h
 dsimp only at h ⊢
 unfold spec_l13Written_R_L0_j1 at h
 refine pwp_seq ?_
 refine pwp_join (σ := T_impl_Version) (fun x13 => (⟨72, [(0, rf 0 0 4 a0), (2, I a2), (4, pf a1 0), (7, rf 1 0 4 x12), (8, B x11), (9, I x4), (10, .ptr 2 0 0)], [sl 0 a0, sl 0 x12, sc 0 x13]⟩ : St)) (fun x13 => spec_l13Written_R_L0_j2 x4 (spec_l13Written_R_L0_l0 a0 a1 a2 f6) x11 x12 x13 = some y) ?_ ?_
 refine pwp_seq ?_
 refine pwp_join (σ := Bool) (fun x16 => (⟨72, [(0, rf 0 0 4 a0), (2, I a2), (4, pf a1 0), (7, rf 1 0 4 x12), (8, B x11), (9, I x4), (10, .ptr 2 0 0), (52, B x16)], [sl 0 a0, sl 0 x12, sc 0 v9]⟩ : St)) (fun x16 => spec_l13Written_R_L0_j3 a2 x4 (spec_l13Written_R_L0_l0 a0 a1 a2 f6) v9 x11 x12 x16 = some y) ?_ ?_
 refine rvM [10] 6 72 [(0, rf 0 0 4 a0), (2, I a2), (4, pf a1 0), (7, rf 1 0 4 x12), (8, B x11), (9, I x4), (10, .ptr 2 0 0), (48, B (v9.fKey == a1.fKey))] [sl 0 a0, sl 0 x12, sc 0 v9] ?_
 rcases fk (v9.fKey == a1.fKey) with hc18 | hc18
 replace h := bT hc18 h
 rw [hc18]
 refine veM [10] 4 72 [(0, rf 0 0 4 a0), (2, I a2), (4, pf a1 0), (7, rf 1 0 4 x12), (8, B x11), (9, I x4), (10, .ptr 2 0 0), (49, .ptr 2 0 2), (50, I v9.fDied), (51, B (v9.fDied == 0)), (52, B (v9.fDied == 0))] [sl 0 a0, sl 0 x12, sc 0 v9] ?_
 exact ⟨(v9.fDied == 0), h, it [0, 2, 4, 7, 8, 9, 10, 52]⟩
 replace h := bF hc18 h
 rw [hc18]
 refine veM [10] 4 72 [(0, rf 0 0 4 a0), (2, I a2), (4, pf a1 0), (7, rf 1 0 4 x12), (8, B x11), (9, I x4), (10, .ptr 2 0 0), (49, .lit undef), (50, .lit undef), (51, .lit undef), (52, B false)] [sl 0 a0, sl 0 x12, sc 0 v9] ?_
 exact ⟨false, h, it [0, 2, 4, 7, 8, 9, 10, 52]⟩
 rintro x16 h
 unfold spec_l13Written_R_L0_j3 at h
 refine pc h (fun h => ?_) (fun h => ?_)
 refine rveM [10] 72 [(0, rf 0 0 4 a0), (2, I a2), (4, pf a1 0), (7, rf 1 0 4 x12), (8, B x11), (9, I x4), (10, .ptr 2 0 0)] [sl 0 a0, sl 0 x12, some ⟨0, Enc.cells ({ v9 with fDied := a2 })⟩] ?_
 exact ⟨{ v9 with fDied := a2 }, h, it [0, 2, 4, 7, 8, 9, 10]⟩
 refine pwp_skip ?_
 exact ⟨v9, h, it [0, 2, 4, 7, 8, 9, 10]⟩
 rintro x13 h
 unfold spec_l13Written_R_L0_j2 at h
 refine rvM [10] 3 72 [(0, rf 0 0 4 a0), (2, I a2), (4, pf a1 0), (8, B x11), (9, I x4), (55, rf 1 0 4 x12), (57, .arr 4 ([x13] : List T_impl_Version).length (eL ([x13] : List T_impl_Version)) true)] [sl 0 a0, sl 0 x12, sc 0 x13] ?_
 obtain ⟨v14, hv15, h⟩ := bindS h
 refine opsP_app τ_ok 58 1 0 (pn hQ) hv15 (by kernel_rfl) ?_
 refine veM [10] 1 72 [(0, rf 0 0 4 a0), (2, I a2), (4, pf a1 0), (7, rf 1 1 4 v14), (8, B x11), (9, I x4)] [sl 0 a0, sl 1 v14, sc 0 x13] ?_
 refine rveM [10] 72 [(0, rf 0 0 4 a0), (2, I a2), (4, pf a1 0), (7, rf 1 1 4 v14), (8, B x11), (9, I (w64 (x4 + 1)))] [sl 0 a0, sl 1 v14, sc 0 x13] ?_
 exact ⟨(f6, x11, (w64 (x4 + 1)), v14), h, Nat.lt_succ_self _, qt (it (st' := ⟨72, [(0, rf 0 0 4 a0), (2, I a2), (4, pf a1 0), (7, rf 1 1 4 v14), (8, B x11), (9, I (w64 (x4 + 1)))], [sl 0 a0, sl 1 v14, sc 0 x13]⟩) [0, 2, 4, 7, 8, 9]) (qt (Imp.truncS (st' := ⟨72, [(0, rf 0 0 4 a0), (2, I a2), (4, pf a1 0), (7, rf 1 1 4 v14), (8, B x11), (9, I (w64 (x4 + 1)))], [sl 0 a0, sl 1 v14]⟩) 2 (pl hQ) (by kernel_rfl) (allBelow_mem (by exact (And.intro rfl (And.intro rfl (And.intro rfl (And.intro rfl (And.intro rfl (And.intro rfl trivial)))))))) (by exact (And.intro (frz_below (eL_frz _)) (And.intro (frz_below (eL_frz _)) trivial))) (by kernel_rfl)) (Imp.reverS 1 1 (eL v14) [0, 2, 4, 7, 8, 9] (by kernel_rfl) (by exact (And.intro (eL_frz _) (And.intro (eL_frz _) trivial))) (by kernel_rfl)))⟩
 refine pwp_exit ?_
 refine pwp_seq ?_
 refine srveM [10] 72 [(2, I a2), (4, pf a1 0), (7, rf 1 0 4 x5), (60, B (!x3))] [sl 0 a0, sl 0 x5] ?_
 refine pc h (fun h => ?_) (fun h => ?_)
 refine ip 72 [(2, I a2), (4, pf a1 0), (7, rf 1 0 4 x5)] [sl 0 a0, sl 0 x5] ?_
 refine pwp_any ([[1], [], [], [], [], [], [], [], [], [1], [1]]) ([[], [], [], [], [], [], [], [], [], [1], []]) rfl (by kernel_rfl) ?_
 refine qvM [10] [1] (hL trivial) 1 72 [(61, rf 1 0 4 x5), (2, I a2), (4, pf a1 0), (7, rf 1 0 4 x5)] [sl 0 a0, sl 0 x5] ?_
 refine qvM [10] [] trivial 5 72 [(66, A a1.fRow), (64, I a2), (63, I a1.fKey), (61, rf 1 0 4 x5), (7, rf 1 0 4 x5)] [sl 0 a0, sl 0 x5] ?_
 obtain ⟨v27, hv28, h⟩ := bindS h
 refine qX (some 67) (A v27) 72 [(67, A v27), (64, I a2), (63, I a1.fKey), (61, rf 1 0 4 x5), (7, rf 1 0 4 x5)] [sl 0 a0, sl 0 x5] (fun Γ' hΓ => CoreE.of_g (callV_sound (τ := τ) (by kernel_rfl) rfl (ok_spec_l3Own hv28) (FzTo.O _))) trivial ?_
 refine qvM [10] [] trivial 2 72 [(69, .arr 4 ([(T_impl_Version.mk a1.fKey a2 0 v27)] : List T_impl_Version).length (eL ([(T_impl_Version.mk a1.fKey a2 0 v27)] : List T_impl_Version)) true), (61, rf 1 0 4 x5), (7, rf 1 0 4 x5)] [sl 0 a0, sl 0 x5] ?_
 obtain ⟨v29, hv30, h⟩ := bindS h
 refine qX (some 70) (rf 1 1 4 v29) 72 [(70, rf 1 1 4 v29), (7, rf 1 0 4 x5)] [sl 0 a0, sl 1 v29] (fun Γ' hΓ => app_Ew τ_ok 70 1 0 (by first | exact py hΓ hQ | exact pky hΓ hQ) hv30 (by kernel_rfl)) (hL trivial) ?_
 refine qvnM [10] [1] (hL trivial) 1 72 [(7, rf 1 1 4 v29)] [sl 0 a0, sl 1 v29] ?_
 refine srveM [10] 72 [(6, rf 1 1 4 v29)] [sl 0 a0, sl 1 v29] ?_
 have h := si h
 subst h
 exact pwp_ret ⟨.inr rfl, rf 1 1 4 v29, _, 0, by kernel_rfl, (OutP.list (v := 1) (by kernel_rfl)), by decide, by decide, by kernel_rfl⟩
 refine pwp_skip ?_
 refine srveM [10] 72 [(6, rf 1 0 4 x5)] [sl 0 a0, sl 0 x5] ?_
 have h := si h
 subst h
 exact pwp_ret ⟨.inr rfl, rf 1 0 4 x5, _, 0, by kernel_rfl, (OutP.list (v := 0) (by kernel_rfl)), by decide, by decide, by kernel_rfl⟩
def spec_WrittenAt_R_L0_l2 (a1 : List T_impl_Write) (a2 : Int) : Nat → Int → (List T_impl_Version) → Option ((List T_impl_Version) × Bool)
 | 0, _, _ => none
 | f17 + 1, x15, x16 => bif (decide (x15 < (a1.length : Int))) then (getI a1 x15).bind fun v20 => (spec_l13Written_R_L0 x16 v20 a2).bind fun v22 => (spec_WrittenAt_R_L0_l2 a1 a2 f17) (w64 (x15 + 1)) v22 else bif (decide ((x16.length : Int) > 60)) then some (([] : List T_impl_Version), false) else some (x16, true)
def spec_WrittenAt_R_L0_l1 (a0 : List T_impl_Version) (a1 : List T_impl_Write) (a2 : Int) : Nat → Int → Option ((List T_impl_Version) × Bool)
 | 0, _ => none
 | f5 + 1, x4 => bif (decide (x4 < 5)) then (spec_LastTurn a0 x4).bind fun v8 => bif (decide (v8 ≥ a2)) then some (([] : List T_impl_Version), false) else (spec_WrittenAt_R_L0_l1 a0 a1 a2 f5) (w64 (x4 + 1)) else (spec_l13Copy_R_L0 a0).bind fun v11 => spec_WrittenAt_R_L0_l2 a1 a2 FUEL 0 v11
def spec_WrittenAt_R_L0_j0 (a0 : List T_impl_Version) (a1 : List T_impl_Write) (a2 : Int) (x1 : Bool) : Option ((List T_impl_Version) × Bool) := bif x1 then some (([] : List T_impl_Version), false) else spec_WrittenAt_R_L0_l1 a0 a1 a2 FUEL 0
def spec_WrittenAt_R_L0 (a0 : List T_impl_Version) (a1 : List T_impl_Write) (a2 : Int) : Option ((List T_impl_Version) × Bool) := (spec_VersionsOk a0).bind fun v25 => bif (!v25) then spec_WrittenAt_R_L0_j0 a0 a1 a2 true else (spec_WritesOk a1).bind fun v27 => bif (!v27) then spec_WrittenAt_R_L0_j0 a0 a1 a2 true else (spec_l1In a2 1 40).bind fun v29 => spec_WrittenAt_R_L0_j0 a0 a1 a2 (!v29)
theorem ok_spec_WrittenAt_R_L0 {a0 : List T_impl_Version} {a1 : List T_impl_Write} {a2 : Int} {y : (List T_impl_Version) × Bool} (h : spec_WrittenAt_R_L0 a0 a1 a2 = some y) : OKs Tryz.prog 73 [] 4 a0.length (eL a0) [A a1, I a2] (.tup [O y.1, B y.2]) (eL a0) := by
 refine OKs_of_pwp τ_ok Tryz.func73 rfl (by kernel_rfl) rfl (eL_frz _) (eL_frz _) rfl fun Γ hQ => ?_
 refine pwp_imp (Imp.to (st' := ⟨55, [(0, rf 0 0 4 a0), (1, A a1), (2, I a2)], [sl 0 a0]⟩) [0, 1, 2] (by kernel_rfl)) ?_
 unfold spec_WrittenAt_R_L0 at h
 refine srve 55 [(0, rf 0 0 4 a0), (1, A a1), (2, I a2)] [sl 0 a0] ?_
 refine pwp_seq ?_
 refine pwp_seq ?_
 refine pwp_join (σ := Bool) (fun x1 => (⟨55, [(0, rf 0 0 4 a0), (1, A a1), (2, I a2), (23, B x1)], [sl 0 a0]⟩ : St)) (fun x1 => spec_WrittenAt_R_L0_j0 a0 a1 a2 x1 = some y) ?_ ?_
 refine rv 1 55 [(0, rf 0 0 4 a0), (1, A a1), (2, I a2), (11, rf 0 0 4 a0)] [sl 0 a0] ?_
 obtain ⟨v25, hv26, h⟩ := bindS h
 refine opsP_callV (xs := [rf 0 0 4 a0]) τ 12 (ok_spec_VersionsOk hv26) (Blind.lit _) (FzTo.frz rfl) (by kernel_rfl) (ViewL.cons (View.whole (v := 0) a0 (by kernel_rfl) rfl) (ViewL.nil _)) ?_
 refine v 2 55 [(0, rf 0 0 4 a0), (1, A a1), (2, I a2), (14, B (!v25))] [sl 0 a0] ?_
 rcases fk (!v25) with hc32 | hc32
 replace h := bT hc32 h
 rw [hc32]
 refine ve 9 55 [(0, rf 0 0 4 a0), (1, A a1), (2, I a2), (23, B true)] [sl 0 a0] ?_
 exact ⟨true, h, it [0, 1, 2, 23]⟩
 replace h := bF hc32 h
 rw [hc32]
 refine v 1 55 [(0, rf 0 0 4 a0), (1, A a1), (2, I a2), (14, B false), (15, A a1)] [sl 0 a0] ?_
 obtain ⟨v27, hv28, h⟩ := bindS h
 refine cF 16 (ok_spec_WritesOk hv28) ?_
 refine v 3 55 [(0, rf 0 0 4 a0), (1, A a1), (2, I a2), (19, B (!v27))] [sl 0 a0] ?_
 rcases fk (!v27) with hc31 | hc31
 replace h := bT hc31 h
 rw [hc31]
 refine ve 4 55 [(0, rf 0 0 4 a0), (1, A a1), (2, I a2), (23, B true)] [sl 0 a0] ?_
 exact ⟨true, h, it [0, 1, 2, 23]⟩
 replace h := bF hc31 h
 rw [hc31]
 refine v 1 55 [(0, rf 0 0 4 a0), (1, A a1), (2, I a2), (19, B false), (20, I a2)] [sl 0 a0] ?_
 obtain ⟨v29, hv30, h⟩ := bindS h
 refine cF 21 (ok_spec_l1In hv30) ?_
 refine ve 2 55 [(0, rf 0 0 4 a0), (1, A a1), (2, I a2), (23, B (!v29))] [sl 0 a0] ?_
 exact ⟨(!v29), h, it [0, 1, 2, 23]⟩
 rintro x1 h
 unfold spec_WrittenAt_R_L0_j0 at h
 refine pc h (fun h => ?_) (fun h => ?_)
 refine srve 55 [(6, .arr 4 0 (eL ([] : List T_impl_Version)) true), (7, B false)] [sl 0 a0] ?_
 refine ip 55 [(6, .arr 4 0 (eL ([] : List T_impl_Version)) true), (7, B false)] [sl 0 a0] ?_
 refine pwp_imp (Imp.thawS (st' := ⟨55, [(6, .ref 1 0 0 4 ([] : List T_impl_Version).length false), (7, B false)], [sl 0 a0, some ⟨0, eL ([] : List T_impl_Version)⟩]⟩) 6 [6, 7] (by kernel_rfl)) ?_
 have h := si h
 subst h
 exact pwp_ret ⟨.inr rfl, .tup [.ref 1 0 0 4 ([] : List T_impl_Version).length false, B false], _, 0, by kernel_rfl, (OutP.tup (OutL.cons (OutP.list (v := 0) (by kernel_rfl)) (OutL.cons (OutP.frz (by kernel_rfl)) (OutL.nil _)))), by decide, by decide, by kernel_rfl⟩
 refine pwp_skip ?_
 refine pwp_seq ?_
 refine srve 55 [(0, rf 0 0 4 a0), (1, A a1), (2, I a2), (8, I 0)] [sl 0 a0] ?_
 refine pwp_block ?_
 refine pwp_loop (ι := Nat × Int) (fun (f5, x4) => (⟨55, [(0, rf 0 0 4 a0), (1, A a1), (2, I a2), (8, I x4)], [sl 0 a0]⟩ : St)) (fun (f5, x4) => spec_WrittenAt_R_L0_l1 a0 a1 a2 f5 x4 = some y) Prod.fst (FUEL, 0) h (it [0, 1, 2, 8]) ?_
 rintro ⟨f5, x4⟩ h
 dsimp only at h ⊢
 rcases f5 with _ | f5
 cases h
 rw [spec_WrittenAt_R_L0_l1] at h
 refine pwp_seq ?_
 refine srve 55 [(0, rf 0 0 4 a0), (1, A a1), (2, I a2), (8, I x4), (26, B (decide (x4 < 5)))] [sl 0 a0] ?_
 refine pc h (fun h => ?_) (fun h => ?_)
 refine pwp_skip ?_
 refine pwp_seq ?_
 refine pwp_block ?_
 refine srv 2 55 [(0, rf 0 0 4 a0), (1, A a1), (2, I a2), (8, I x4), (29, rf 0 0 4 a0), (30, I x4)] [sl 0 a0] ?_
 obtain ⟨v8, hv9, h⟩ := bindS h
 refine opsP_callV (xs := [rf 0 0 4 a0, I x4]) τ 31 (ok_spec_LastTurn hv9) (Blind.lit _) (FzTo.frz rfl) (by kernel_rfl) (ViewL.cons (View.whole (v := 0) a0 (by kernel_rfl) rfl) (ViewL.cons (View.frz rfl) (ViewL.nil _))) ?_
 refine ve 2 55 [(0, rf 0 0 4 a0), (1, A a1), (2, I a2), (8, I x4), (33, B (decide (v8 ≥ a2)))] [sl 0 a0] ?_
 refine pc h (fun h => ?_) (fun h => ?_)
 refine srve 55 [(6, .arr 4 0 (eL ([] : List T_impl_Version)) true), (7, B false)] [sl 0 a0] ?_
 refine ip 55 [(6, .arr 4 0 (eL ([] : List T_impl_Version)) true), (7, B false)] [sl 0 a0] ?_
 refine pwp_imp (Imp.thawS (st' := ⟨55, [(6, .ref 1 0 0 4 ([] : List T_impl_Version).length false), (7, B false)], [sl 0 a0, some ⟨0, eL ([] : List T_impl_Version)⟩]⟩) 6 [6, 7] (by kernel_rfl)) ?_
 have h := si h
 subst h
 exact pwp_ret ⟨.inr rfl, .tup [.ref 1 0 0 4 ([] : List T_impl_Version).length false, B false], _, 0, by kernel_rfl, (OutP.tup (OutL.cons (OutP.list (v := 0) (by kernel_rfl)) (OutL.cons (OutP.frz (by kernel_rfl)) (OutL.nil _)))), by decide, by decide, by kernel_rfl⟩
 refine pwp_skip ?_
 refine rve 55 [(0, rf 0 0 4 a0), (1, A a1), (2, I a2), (8, I (w64 (x4 + 1)))] [sl 0 a0] ?_
 exact ⟨(f5, (w64 (x4 + 1))), h, Nat.lt_succ_self _, it [0, 1, 2, 8]⟩
 refine pwp_exit ?_
 refine srv 1 55 [(1, A a1), (2, I a2), (35, rf 0 0 4 a0)] [sl 0 a0] ?_
 obtain ⟨v11, hv12, h⟩ := bindS h
 refine opsP_E (dd := some 36) (x := rf 1 0 4 v11) (callST_E (bs := [⟨0, eL v11⟩]) τ 36 0 0 (ok_spec_l13Copy_R_L0 hv12) rfl rfl (by kernel_rfl) (by kernel_rfl)) ?_
 refine ve 1 55 [(1, A a1), (2, I a2), (9, rf 1 0 4 v11)] [sl 0 a0, sl 0 v11] ?_
 refine pwp_seq ?_
 refine srve 55 [(1, A a1), (2, I a2), (9, rf 1 0 4 v11), (10, I 0)] [sl 0 a0, sl 0 v11] ?_
 refine pwp_block ?_
 refine pwp_loop (ι := Nat × Int × (List T_impl_Version)) (fun (f17, x15, x16) => (⟨55, [(1, A a1), (2, I a2), (9, rf 1 0 4 x16), (10, I x15)], [sl 0 a0, sl 0 x16]⟩ : St)) (fun (f17, x15, x16) => spec_WrittenAt_R_L0_l2 a1 a2 f17 x15 x16 = some y) Prod.fst (FUEL, 0, v11) h (it [1, 2, 9, 10]) ?_
 rintro ⟨f17, x15, x16⟩ h
 dsimp only at h ⊢
 rcases f17 with _ | f17
 cases h
 rw [spec_WrittenAt_R_L0_l2] at h
 refine pwp_seq ?_
 refine srve 55 [(1, A a1), (2, I a2), (9, rf 1 0 4 x16), (10, I x15), (40, B (decide (x15 < (a1.length : Int))))] [sl 0 a0, sl 0 x16] ?_
 refine pc h (fun h => ?_) (fun h => ?_)
 refine pwp_skip ?_
 refine pwp_seq ?_
 refine pwp_block ?_
 refine rv 3 55 [(1, A a1), (2, I a2), (10, I x15), (43, rf 1 0 4 x16), (44, A a1), (45, I x15)] [sl 0 a0, sl 0 x16] ?_
 obtain ⟨v20, hv21, h⟩ := bindS h
 refine opsP_idx τ_ok 46 hv21 (by kernel_rfl) ?_
 refine v 2 55 [(1, A a1), (2, I a2), (10, I x15), (43, rf 1 0 4 x16), (47, E v20), (48, I a2)] [sl 0 a0, sl 0 x16] ?_
 obtain ⟨v22, hv23, h⟩ := bindS h
 refine opsP_E (dd := some 49) (x := rf 2 0 4 v22) (callST_E (bs := [⟨0, eL v22⟩]) τ 49 1 0 (ok_spec_l13Written_R_L0 hv23) rfl rfl (by kernel_rfl) (by kernel_rfl)) ?_
 refine ve 1 55 [(1, A a1), (2, I a2), (9, rf 2 0 4 v22), (10, I x15)] [sl 0 a0, sl 0 x16, sl 0 v22] ?_
 refine rve 55 [(1, A a1), (2, I a2), (9, rf 2 0 4 v22), (10, I (w64 (x15 + 1)))] [sl 0 a0, sl 0 x16, sl 0 v22] ?_
 exact ⟨(f17, (w64 (x15 + 1)), v22), h, Nat.lt_succ_self _, qt (it (st' := ⟨55, [(1, A a1), (2, I a2), (9, rf 2 0 4 v22), (10, I (w64 (x15 + 1)))], [sl 0 a0, sl 0 x16, sl 0 v22]⟩) [1, 2, 9, 10]) (qt (Imp.hideS (st' := ⟨55, [(1, A a1), (2, I a2), (9, rf 2 0 4 v22), (10, I (w64 (x15 + 1)))], [sl 0 a0, none, sl 0 v22]⟩) 1 (pn hQ) (by kernel_rfl)) (qt (Imp.mvS (st' := ⟨55, [(1, A a1), (2, I a2), (9, rf 1 0 4 v22), (10, I (w64 (x15 + 1)))], [sl 0 a0, sl 0 v22, none]⟩) 2 1 [1, 2, 9, 10] (pn2 hQ) (v := 0) (cs := eL v22) (by kernel_rfl) (by kernel_rfl) (by exact (And.intro (eL_frz _) (And.intro (eL_frz _) trivial))) (by kernel_rfl) (by kernel_rfl)) (Imp.truncS 2 (pl hQ) (by kernel_rfl) (allBelow_mem (by exact (And.intro rfl (And.intro rfl (And.intro rfl (And.intro rfl trivial)))))) (by exact (And.intro (frz_below (eL_frz _)) (And.intro (frz_below (eL_frz _)) trivial))) (by kernel_rfl))))⟩
 refine pwp_exit ?_
 refine pwp_seq ?_
 refine srve 55 [(9, rf 1 0 4 x16), (52, B (decide ((x16.length : Int) > 60)))] [sl 0 a0, sl 0 x16] ?_
 refine pc h (fun h => ?_) (fun h => ?_)
 refine srve 55 [(6, .arr 4 0 (eL ([] : List T_impl_Version)) true), (7, B false)] [sl 0 a0, sl 0 x16] ?_
 refine ip 55 [(6, .arr 4 0 (eL ([] : List T_impl_Version)) true), (7, B false)] [sl 0 a0, sl 0 x16] ?_
 refine pwp_imp (Imp.thawS (st' := ⟨55, [(6, .ref 2 0 0 4 ([] : List T_impl_Version).length false), (7, B false)], [sl 0 a0, sl 0 x16, some ⟨0, eL ([] : List T_impl_Version)⟩]⟩) 6 [6, 7] (by kernel_rfl)) ?_
 have h := si h
 subst h
 exact pwp_ret ⟨.inr rfl, .tup [.ref 2 0 0 4 ([] : List T_impl_Version).length false, B false], _, 0, by kernel_rfl, (OutP.tup (OutL.cons (OutP.list (v := 0) (by kernel_rfl)) (OutL.cons (OutP.frz (by kernel_rfl)) (OutL.nil _)))), by decide, by decide, by kernel_rfl⟩
 refine pwp_skip ?_
 refine srve 55 [(6, rf 1 0 4 x16), (7, B true)] [sl 0 a0, sl 0 x16] ?_
 have h := si h
 subst h
 exact pwp_ret ⟨.inr rfl, .tup [rf 1 0 4 x16, B true], _, 0, by kernel_rfl, (OutP.tup (OutL.cons (OutP.list (v := 0) (by kernel_rfl)) (OutL.cons (OutP.frz (by kernel_rfl)) (OutL.nil _)))), by decide, by decide, by kernel_rfl⟩
def spec_l20Versions_j1 (x5 : Int) (x6 : Int) (K10 : Int → Int → T_spec_l20Rd → (List T_impl_Version) → Option (((List T_impl_Version) × Int) × T_spec_l20Rd)) (x12 : T_spec_l20Rd) (x13 : List T_impl_Version) : Option (((List T_impl_Version) × Int) × T_spec_l20Rd) := (spec_l20Rd_pick x12 2).bind fun v14 => K10 (w64 ((w64 (x5 + 1)) + v14.1)) (w64 (x6 - 1)) v14.2 x13
def spec_l20Versions_j2 (x5 : Int) (x21 : T_spec_l20Rd) (x22 : List T_impl_Version) : Option (((List T_impl_Version) × Int) × T_spec_l20Rd) := some ((x22, x5), x21)
def spec_l20Versions_j3 (x5 : Int) (x8 : List T_impl_Version) (x23 : Bool) (x24 : T_spec_l20Rd) : Option (((List T_impl_Version) × Int) × T_spec_l20Rd) := bif x23 then (spec_l20Rd_pick x24 (x8.length : Int)).bind fun v26 => (spec_l20Rd_pick v26.2 4).bind fun v28 => bif (v28.1 == 0) then (spec_l20Rd_pick v28.2 9).bind fun v31 => (getI x8 v26.1).bind fun v33 => spec_l20Versions_j2 x5 v31.2 (x8.set v26.1.toNat ({ v33 with fDied := (w64 (v31.1 - 1)) } : T_impl_Version)) else bif (v28.1 == 1) then (spec_l20Rd_pick v28.2 8).bind fun v36 => (getI x8 v26.1).bind fun v38 => spec_l20Versions_j2 x5 v36.2 (x8.set v26.1.toNat ({ v38 with fKey := (w64 (v36.1 - 1)) } : T_impl_Version)) else bif (v28.1 == 2) then (spec_l20Rd_pick v28.2 50).bind fun v41 => (getI x8 v26.1).bind fun v43 => spec_l20Versions_j2 x5 v41.2 (x8.set v26.1.toNat ({ v43 with fBorn := (w64 (v41.1 - 1)) } : T_impl_Version)) else (getI x8 v26.1).bind fun v45 => (app x8 ([v45] : List T_impl_Version)).bind fun v47 => spec_l20Versions_j2 x5 v28.2 v47 else spec_l20Versions_j2 x5 x24 x8
def spec_l20Versions_l0 (a1 : Int) : Nat → Int → Int → T_spec_l20Rd → (List T_impl_Version) → Option (((List T_impl_Version) × Int) × T_spec_l20Rd)
 | 0, _, _, _, _ => none
 | f9 + 1, x5, x6, x7, x8 => bif (decide (x6 > 0)) then (spec_l20Writes x7 0).bind fun v16 => (spec_WrittenAt_R_L0 x8 v16.1 x5).bind fun v18 => bif v18.2 then spec_l20Versions_j1 x5 x6 (spec_l20Versions_l0 a1 f9) v16.2 v18.1 else spec_l20Versions_j1 x5 x6 (spec_l20Versions_l0 a1 f9) v16.2 x8 else bif (decide ((x8.length : Int) > 0)) then (spec_l20Rd_odd x7 a1).bind fun v49 => spec_l20Versions_j3 x5 x8 v49.1 v49.2 else spec_l20Versions_j3 x5 x8 false x7
def spec_l20Versions (a0 : T_spec_l20Rd) (a1 : Int) : Option (((List T_impl_Version) × Int) × T_spec_l20Rd) := (spec_l20Rd_pick a0 7).bind fun v1 => spec_l20Versions_l0 a1 FUEL 1 v1.1 v1.2 ([] : List T_impl_Version)
theorem ok_spec_l20Versions {a0 : T_spec_l20Rd} {a1 : Int} {y : ((List T_impl_Version) × Int) × T_spec_l20Rd} (h : spec_l20Versions a0 a1 = some y) : OKb Tryz.prog 39 (Enc.cells a0) [I a1] (.tup [O y.1.1, I y.1.2]) (Enc.cells y.2) := by
 refine OKb_of_pwp τ_ok Tryz.func39 rfl (by kernel_rfl) rfl (Enc.frz _) (Enc.frz _) fun Γ hQ => ?_
 unfold spec_l20Versions at h
 refine srve 84 [(0, .ptr 0 0 0), (1, I a1)] [sc 0 a0] ?_
 refine srve 84 [(0, .ptr 0 0 0), (1, I a1), (6, .arr 4 0 (eL ([] : List T_impl_Version)) true)] [sc 0 a0] ?_
 refine srve 84 [(0, .ptr 0 0 0), (1, I a1), (6, .arr 4 0 (eL ([] : List T_impl_Version)) true), (7, I 1)] [sc 0 a0] ?_
 refine pwp_seq ?_
 refine srv 1 84 [(0, .ptr 0 0 0), (1, I a1), (6, .arr 4 0 (eL ([] : List T_impl_Version)) true), (7, I 1), (13, .ptr 0 0 0)] [sc 0 a0] ?_
 obtain ⟨v1, hv2, h⟩ := bindS h
 refine cB 14 0 0 (ok_spec_l20Rd_pick hv2) ?_
 refine ve 1 84 [(0, .ptr 0 0 0), (1, I a1), (6, .arr 4 0 (eL ([] : List T_impl_Version)) true), (7, I 1), (8, I v1.1)] [sc 0 v1.2] ?_
 refine pwp_block ?_
 refine pwp_loop (ι := Nat × Int × Int × T_spec_l20Rd × (List T_impl_Version)) (fun (f9, x5, x6, x7, x8) => (⟨84, [(0, .ptr 0 0 0), (1, I a1), (6, rf 1 0 4 x8), (7, I x5), (8, I x6)], [sc 0 x7, sl 0 x8]⟩ : St)) (fun (f9, x5, x6, x7, x8) => spec_l20Versions_l0 a1 f9 x5 x6 x7 x8 = some y) Prod.fst (FUEL, 1, v1.1, v1.2, ([] : List T_impl_Version)) h (Imp.thawS 6 [0, 1, 6, 7, 8] (by kernel_rfl)) ?_
 rintro ⟨f9, x5, x6, x7, x8⟩ h
 dsimp only at h ⊢
 rcases f9 with _ | f9
 cases h
 rw [spec_l20Versions_l0] at h
 refine pwp_seq ?_
 refine srve 84 [(0, .ptr 0 0 0), (1, I a1), (6, rf 1 0 4 x8), (7, I x5), (8, I x6), (16, B (decide (x6 > 0)))] [sc 0 x7, sl 0 x8] ?_
 refine pc h (fun h => ?_) (fun h => ?_)
 refine pwp_skip ?_
 refine pwp_seq ?_
 refine pwp_block ?_
 refine pwp_seq ?_
 refine pwp_join (σ := T_spec_l20Rd × (List T_impl_Version)) (fun (x12, x13) => (⟨84, [(0, .ptr 0 0 0), (1, I a1), (6, rf 1 0 4 x13), (7, I x5), (8, I x6)], [sc 0 x12, sl 0 x13, none]⟩ : St)) (fun (x12, x13) => spec_l20Versions_j1 x5 x6 (spec_l20Versions_l0 a1 f9) x12 x13 = some y) ?_ ?_
 refine srv 2 84 [(0, .ptr 0 0 0), (1, I a1), (6, rf 1 0 4 x8), (7, I x5), (8, I x6), (20, rf 1 0 4 x8), (21, .ptr 0 0 0)] [sc 0 x7, sl 0 x8] ?_
 obtain ⟨v16, hv17, h⟩ := bindS h
 refine cBo 22 0 0 (ok_spec_l20Writes hv17) ?_
 refine v 1 84 [(0, .ptr 0 0 0), (1, I a1), (6, rf 1 0 4 x8), (7, I x5), (8, I x6), (20, rf 1 0 4 x8), (22, A v16.1), (23, I x5)] [sc 0 v16.2, sl 0 x8] ?_
 obtain ⟨v18, hv19, h⟩ := bindS h
 refine opsP_E (dd := some 24) (x := .tup [rf 2 0 4 v18.1, B v18.2]) (callST_E (bs := [⟨0, eL v18.1⟩]) τ 24 1 0 (ok_spec_WrittenAt_R_L0 hv19) rfl rfl (by kernel_rfl) (by kernel_rfl)) ?_
 refine ve 5 84 [(0, .ptr 0 0 0), (1, I a1), (6, rf 1 0 4 x8), (7, I x5), (8, I x6), (9, rf 2 0 4 v18.1), (10, B v18.2)] [sc 0 v16.2, sl 0 x8, sl 0 v18.1] ?_
 refine srve 84 [(0, .ptr 0 0 0), (1, I a1), (6, rf 1 0 4 x8), (7, I x5), (8, I x6), (9, rf 2 0 4 v18.1), (27, B v18.2)] [sc 0 v16.2, sl 0 x8, sl 0 v18.1] ?_
 refine pc h (fun h => ?_) (fun h => ?_)
 refine rve 84 [(0, .ptr 0 0 0), (1, I a1), (6, rf 2 0 4 v18.1), (7, I x5), (8, I x6)] [sc 0 v16.2, sl 0 x8, sl 0 v18.1] ?_
 exact ⟨(v16.2, v18.1), h, qt (it (st' := ⟨84, [(0, .ptr 0 0 0), (1, I a1), (6, rf 2 0 4 v18.1), (7, I x5), (8, I x6)], [sc 0 v16.2, sl 0 x8, sl 0 v18.1]⟩) [0, 1, 6, 7, 8]) (qt (Imp.hideS (st' := ⟨84, [(0, .ptr 0 0 0), (1, I a1), (6, rf 2 0 4 v18.1), (7, I x5), (8, I x6)], [sc 0 v16.2, none, sl 0 v18.1]⟩) 1 (pn hQ) (by kernel_rfl)) (Imp.mvS 2 1 [0, 1, 6, 7, 8] (pn2 hQ) (v := 0) (cs := eL v18.1) (by kernel_rfl) (by kernel_rfl) (by exact (And.intro (rfl) (And.intro (eL_frz _) trivial))) (by kernel_rfl) (by kernel_rfl)))⟩
 refine pwp_skip ?_
 exact ⟨(v16.2, x8), h, qt (it (st' := ⟨84, [(0, .ptr 0 0 0), (1, I a1), (6, rf 1 0 4 x8), (7, I x5), (8, I x6)], [sc 0 v16.2, sl 0 x8, sl 0 v18.1]⟩) [0, 1, 6, 7, 8]) (qt (Imp.hideS (st' := ⟨84, [(0, .ptr 0 0 0), (1, I a1), (6, rf 1 0 4 x8), (7, I x5), (8, I x6)], [sc 0 v16.2, sl 0 x8, none]⟩) 2 (pn hQ) (by kernel_rfl)) (it [0, 1, 6, 7, 8]))⟩
 rintro ⟨x12, x13⟩ h
 dsimp only at h ⊢
 unfold spec_l20Versions_j1 at h
 refine rv 3 84 [(0, .ptr 0 0 0), (1, I a1), (6, rf 1 0 4 x13), (8, I x6), (30, I (w64 (x5 + 1))), (31, .ptr 0 0 0)] [sc 0 x12, sl 0 x13, none] ?_
 obtain ⟨v14, hv15, h⟩ := bindS h
 refine cB 32 0 0 (ok_spec_l20Rd_pick hv15) ?_
 refine ve 2 84 [(0, .ptr 0 0 0), (1, I a1), (6, rf 1 0 4 x13), (7, I (w64 ((w64 (x5 + 1)) + v14.1))), (8, I x6)] [sc 0 v14.2, sl 0 x13, none] ?_
 refine rve 84 [(0, .ptr 0 0 0), (1, I a1), (6, rf 1 0 4 x13), (7, I (w64 ((w64 (x5 + 1)) + v14.1))), (8, I (w64 (x6 - 1)))] [sc 0 v14.2, sl 0 x13, none] ?_
 exact ⟨(f9, (w64 ((w64 (x5 + 1)) + v14.1)), (w64 (x6 - 1)), v14.2, x13), h, Nat.lt_succ_self _, (it (st' := ⟨84, [(0, .ptr 0 0 0), (1, I a1), (6, rf 1 0 4 x13), (7, I (w64 ((w64 (x5 + 1)) + v14.1))), (8, I (w64 (x6 - 1)))], [sc 0 v14.2, sl 0 x13, none]⟩) [0, 1, 6, 7, 8]).trans (Imp.truncS 2 (pl hQ) (by kernel_rfl) (allBelow_mem (by exact (And.intro rfl (And.intro rfl (And.intro rfl (And.intro rfl (And.intro rfl trivial))))))) (by exact (And.intro (rfl) (And.intro (frz_below (eL_frz _)) trivial))) (by kernel_rfl))⟩
 refine pwp_exit ?_
 refine pwp_seq ?_
 refine pwp_join (σ := T_spec_l20Rd × (List T_impl_Version)) (fun (x21, x22) => (⟨84, [(6, rf 1 0 4 x22), (7, I x5)], [sc 0 x21, sl 0 x22]⟩ : St)) (fun (x21, x22) => spec_l20Versions_j2 x5 x21 x22 = some y) ?_ ?_
 refine pwp_seq ?_
 refine pwp_join (σ := Bool × T_spec_l20Rd) (fun (x23, x24) => (⟨84, [(0, .ptr 0 0 0), (6, rf 1 0 4 x8), (7, I x5), (41, B x23)], [sc 0 x24, sl 0 x8]⟩ : St)) (fun (x23, x24) => spec_l20Versions_j3 x5 x8 x23 x24 = some y) ?_ ?_
 refine rv 4 84 [(0, .ptr 0 0 0), (1, I a1), (6, rf 1 0 4 x8), (7, I x5), (37, B (decide ((x8.length : Int) > 0)))] [sc 0 x7, sl 0 x8] ?_
 rcases fk (decide ((x8.length : Int) > 0)) with hc51 | hc51
 replace h := bT hc51 h
 rw [hc51]
 refine v 2 84 [(0, .ptr 0 0 0), (6, rf 1 0 4 x8), (7, I x5), (37, B true), (38, .ptr 0 0 0), (39, I a1)] [sc 0 x7, sl 0 x8] ?_
 obtain ⟨v49, hv50, h⟩ := bindS h
 refine cB 40 0 0 (ok_spec_l20Rd_odd hv50) ?_
 refine ve 1 84 [(0, .ptr 0 0 0), (6, rf 1 0 4 x8), (7, I x5), (41, B v49.1)] [sc 0 v49.2, sl 0 x8] ?_
 exact ⟨(v49.1, v49.2), h, it [0, 6, 7, 41]⟩
 replace h := bF hc51 h
 rw [hc51]
 refine ve 4 84 [(0, .ptr 0 0 0), (6, rf 1 0 4 x8), (7, I x5), (41, B false)] [sc 0 x7, sl 0 x8] ?_
 exact ⟨(false, x7), h, it [0, 6, 7, 41]⟩
 rintro ⟨x23, x24⟩ h
 dsimp only at h ⊢
 unfold spec_l20Versions_j3 at h
 refine pc h (fun h => ?_) (fun h => ?_)
 refine srv 3 84 [(0, .ptr 0 0 0), (6, rf 1 0 4 x8), (7, I x5), (42, .ptr 0 0 0), (44, I (x8.length : Int))] [sc 0 x24, sl 0 x8] ?_
 obtain ⟨v26, hv27, h⟩ := bindS h
 refine cB 45 0 0 (ok_spec_l20Rd_pick hv27) ?_
 refine ve 1 84 [(0, .ptr 0 0 0), (6, rf 1 0 4 x8), (7, I x5), (11, I v26.1)] [sc 0 v26.2, sl 0 x8] ?_
 refine srv 1 84 [(0, .ptr 0 0 0), (6, rf 1 0 4 x8), (7, I x5), (11, I v26.1), (46, .ptr 0 0 0)] [sc 0 v26.2, sl 0 x8] ?_
 obtain ⟨v28, hv29, h⟩ := bindS h
 refine cB 47 0 0 (ok_spec_l20Rd_pick hv29) ?_
 refine ve 0 84 [(0, .ptr 0 0 0), (6, rf 1 0 4 x8), (7, I x5), (11, I v26.1), (47, I v28.1)] [sc 0 v28.2, sl 0 x8] ?_
 refine pwp_block ?_
 refine srve 84 [(0, .ptr 0 0 0), (6, rf 1 0 4 x8), (7, I x5), (11, I v26.1), (47, I v28.1), (55, B (v28.1 == 0))] [sc 0 v28.2, sl 0 x8] ?_
 refine pc h (fun h => ?_) (fun h => ?_)
 refine rv 3 84 [(6, rf 1 0 4 x8), (7, I x5), (57, rf 1 0 4 x8), (58, I v26.1), (59, .ptr 0 0 0)] [sc 0 v28.2, sl 0 x8] ?_
 obtain ⟨v31, hv32, h⟩ := bindS h
 refine cB 60 0 0 (ok_spec_l20Rd_pick hv32) ?_
 refine v 1 84 [(6, rf 1 0 4 x8), (7, I x5), (57, rf 1 0 4 x8), (58, I v26.1), (61, I (w64 (v31.1 - 1)))] [sc 0 v31.2, sl 0 x8] ?_
 obtain ⟨v33, hv34, h⟩ := bindS h
 refine opsP_idr τ_ok 62 1 0 x8.length hv34 rfl (by kernel_rfl) ?_
 refine v 1 84 [(6, rf 1 0 4 x8), (7, I x5), (61, I (w64 (v31.1 - 1))), (63, .ptr 1 0 (v26.1.toNat * 4 + 2))] [sc 0 v31.2, sl 0 x8] ?_
 refine opsP_ste (vs := [I (w64 (v31.1 - 1))]) τ_ok 3 1 0 2 ({ v33 with fDied := (w64 (v31.1 - 1)) } : T_impl_Version) hv34 (by kernel_rfl) (by kernel_rfl) (by kernel_rfl) (renC (ren_ref (List.length_set ..).symm) (renC trivial (renC trivial (renC trivial renC0)))) ?_
 refine ve 0 84 [(6, .ref 1 0 0 4 (x8.set v26.1.toNat ({ v33 with fDied := (w64 (v31.1 - 1)) } : T_impl_Version)).length false), (7, I x5)] [sc 0 v31.2, some ⟨0, eL (x8.set v26.1.toNat ({ v33 with fDied := (w64 (v31.1 - 1)) } : T_impl_Version))⟩] ?_
 exact ⟨(v31.2, (x8.set v26.1.toNat ({ v33 with fDied := (w64 (v31.1 - 1)) } : T_impl_Version))), h, it [6, 7]⟩
 refine srve 84 [(0, .ptr 0 0 0), (6, rf 1 0 4 x8), (7, I x5), (11, I v26.1), (47, I v28.1), (64, B (v28.1 == 1))] [sc 0 v28.2, sl 0 x8] ?_
 refine pc h (fun h => ?_) (fun h => ?_)
 refine rv 3 84 [(6, rf 1 0 4 x8), (7, I x5), (66, rf 1 0 4 x8), (67, I v26.1), (68, .ptr 0 0 0)] [sc 0 v28.2, sl 0 x8] ?_
 obtain ⟨v36, hv37, h⟩ := bindS h
 refine cB 69 0 0 (ok_spec_l20Rd_pick hv37) ?_
 refine v 1 84 [(6, rf 1 0 4 x8), (7, I x5), (66, rf 1 0 4 x8), (67, I v26.1), (70, I (w64 (v36.1 - 1)))] [sc 0 v36.2, sl 0 x8] ?_
 obtain ⟨v38, hv39, h⟩ := bindS h
 refine opsP_idr τ_ok 71 1 0 x8.length hv39 rfl (by kernel_rfl) ?_
 refine v 1 84 [(6, rf 1 0 4 x8), (7, I x5), (70, I (w64 (v36.1 - 1))), (72, .ptr 1 0 (v26.1.toNat * 4))] [sc 0 v36.2, sl 0 x8] ?_
 refine opsP_ste (vs := [I (w64 (v36.1 - 1))]) τ_ok 3 1 0 0 ({ v38 with fKey := (w64 (v36.1 - 1)) } : T_impl_Version) hv39 (by kernel_rfl) (by kernel_rfl) (by kernel_rfl) (renC (ren_ref (List.length_set ..).symm) (renC trivial (renC trivial (renC trivial renC0)))) ?_
 refine ve 0 84 [(6, .ref 1 0 0 4 (x8.set v26.1.toNat ({ v38 with fKey := (w64 (v36.1 - 1)) } : T_impl_Version)).length false), (7, I x5)] [sc 0 v36.2, some ⟨0, eL (x8.set v26.1.toNat ({ v38 with fKey := (w64 (v36.1 - 1)) } : T_impl_Version))⟩] ?_
 exact ⟨(v36.2, (x8.set v26.1.toNat ({ v38 with fKey := (w64 (v36.1 - 1)) } : T_impl_Version))), h, it [6, 7]⟩
 refine srve 84 [(0, .ptr 0 0 0), (6, rf 1 0 4 x8), (7, I x5), (11, I v26.1), (73, B (v28.1 == 2))] [sc 0 v28.2, sl 0 x8] ?_
 refine pc h (fun h => ?_) (fun h => ?_)
 refine rv 3 84 [(6, rf 1 0 4 x8), (7, I x5), (75, rf 1 0 4 x8), (76, I v26.1), (77, .ptr 0 0 0)] [sc 0 v28.2, sl 0 x8] ?_
 obtain ⟨v41, hv42, h⟩ := bindS h
 refine cB 78 0 0 (ok_spec_l20Rd_pick hv42) ?_
 refine v 1 84 [(6, rf 1 0 4 x8), (7, I x5), (75, rf 1 0 4 x8), (76, I v26.1), (79, I (w64 (v41.1 - 1)))] [sc 0 v41.2, sl 0 x8] ?_
 obtain ⟨v43, hv44, h⟩ := bindS h
 refine opsP_idr τ_ok 80 1 0 x8.length hv44 rfl (by kernel_rfl) ?_
 refine v 1 84 [(6, rf 1 0 4 x8), (7, I x5), (79, I (w64 (v41.1 - 1))), (81, .ptr 1 0 (v26.1.toNat * 4 + 1))] [sc 0 v41.2, sl 0 x8] ?_
 refine opsP_ste (vs := [I (w64 (v41.1 - 1))]) τ_ok 3 1 0 1 ({ v43 with fBorn := (w64 (v41.1 - 1)) } : T_impl_Version) hv44 (by kernel_rfl) (by kernel_rfl) (by kernel_rfl) (renC (ren_ref (List.length_set ..).symm) (renC trivial (renC trivial (renC trivial renC0)))) ?_
 refine ve 0 84 [(6, .ref 1 0 0 4 (x8.set v26.1.toNat ({ v43 with fBorn := (w64 (v41.1 - 1)) } : T_impl_Version)).length false), (7, I x5)] [sc 0 v41.2, some ⟨0, eL (x8.set v26.1.toNat ({ v43 with fBorn := (w64 (v41.1 - 1)) } : T_impl_Version))⟩] ?_
 exact ⟨(v41.2, (x8.set v26.1.toNat ({ v43 with fBorn := (w64 (v41.1 - 1)) } : T_impl_Version))), h, it [6, 7]⟩
 refine rv 3 84 [(7, I x5), (48, rf 1 0 4 x8), (49, rf 1 0 4 x8), (50, I v26.1)] [sc 0 v28.2, sl 0 x8] ?_
 obtain ⟨v45, hv46, h⟩ := bindS h
 refine opsP_idr τ_ok 51 1 0 x8.length hv46 rfl (by kernel_rfl) ?_
 refine opsP_lde (r := E v45) τ_ok 52 76 0 hv46 (by kernel_rfl) (by kernel_rfl) ?_
 refine v 1 84 [(7, I x5), (48, rf 1 0 4 x8), (53, .arr 4 ([v45] : List T_impl_Version).length (eL ([v45] : List T_impl_Version)) true)] [sc 0 v28.2, sl 0 x8] ?_
 obtain ⟨v47, hv48, h⟩ := bindS h
 refine opsP_app τ_ok 54 1 0 (pn hQ) hv48 (by kernel_rfl) ?_
 refine ve 1 84 [(6, rf 1 1 4 v47), (7, I x5)] [sc 0 v28.2, sl 1 v47] ?_
 exact ⟨(v28.2, v47), h, (it (st' := ⟨84, [(6, rf 1 1 4 v47), (7, I x5)], [sc 0 v28.2, sl 1 v47]⟩) [6, 7]).trans (Imp.reverS 1 1 (eL v47) [6, 7] (by kernel_rfl) (by exact (And.intro (rfl) (And.intro (eL_frz _) trivial))) (by kernel_rfl))⟩
 refine pwp_skip ?_
 exact ⟨(x24, x8), h, it [6, 7]⟩
 rintro ⟨x21, x22⟩ h
 dsimp only at h ⊢
 unfold spec_l20Versions_j2 at h
 refine srve 84 [(4, rf 1 0 4 x22), (5, I x5)] [sc 0 x21, sl 0 x22] ?_
 have h := si h
 subst h
 exact pwp_ret ⟨.inr rfl, .tup [rf 1 0 4 x22, I x5], _, 0, by kernel_rfl, (OutP.tup (OutL.cons (OutP.list (v := 0) (by kernel_rfl)) (OutL.cons (OutP.frz (by kernel_rfl)) (OutL.nil _)))), by decide, by decide, by kernel_rfl⟩
def spec_DrawNumbersAt (a0 : List UInt8) : Option ((List T_impl_Version) × Int × Int) := (spec_l20Open a0).bind fun v1 => (spec_l20Versions v1 0).bind fun v3 => (spec_l20Rd_pick v3.2 (w64 (v3.1.2 + 2))).bind fun v5 => (spec_l20Rd_pick v5.2 5).bind fun v7 => some (v3.1.1, v5.1, v7.1)
theorem ok_spec_DrawNumbersAt {a0 : List UInt8} {y : (List T_impl_Version) × Int × Int} (h : spec_DrawNumbersAt a0 = some y) : OK Tryz.prog 16 [A a0] (.tup [A y.1, I y.2.1, I y.2.2]) := by
 refine ow Tryz.func16 fun Γ hX => ?_
 unfold spec_DrawNumbersAt at h
 refine srve 22 [(0, A a0)] [] ?_
 refine srv 1 22 [(8, A a0)] [] ?_
 obtain ⟨v1, hv2, h⟩ := bindS h
 refine opsP_callO τ 9 (ok_spec_l20Open hv2) rfl (by kernel_rfl) ?_
 refine ve 1 22 [(5, .ptr 0 0 0)] [sc 0 v1] ?_
 refine srv 1 22 [(5, .ptr 0 0 0), (11, .ptr 0 0 0)] [sc 0 v1] ?_
 obtain ⟨v3, hv4, h⟩ := bindS h
 refine opsP_callB τ 12 0 0 (ok_spec_l20Versions hv4) (FzTo.tup (FzToL.cons (FzTo.O _) (FzToL.cons (FzTo.frz rfl) FzToL.nil))) rfl (by kernel_rfl) ?_
 refine ve 5 22 [(5, .ptr 0 0 0), (6, A v3.1.1), (7, I v3.1.2)] [sc 0 v3.2] ?_
 refine srv 4 22 [(5, .ptr 0 0 0), (15, A v3.1.1), (16, .ptr 0 0 0), (18, I (w64 (v3.1.2 + 2)))] [sc 0 v3.2] ?_
 obtain ⟨v5, hv6, h⟩ := bindS h
 refine cB 19 0 0 (ok_spec_l20Rd_pick hv6) ?_
 refine v 1 22 [(15, A v3.1.1), (19, I v5.1), (20, .ptr 0 0 0)] [sc 0 v5.2] ?_
 obtain ⟨v7, hv8, h⟩ := bindS h
 refine cB 21 0 0 (ok_spec_l20Rd_pick hv8) ?_
 refine ve 3 22 [(2, A v3.1.1), (3, I v5.1), (4, I v7.1)] [sc 0 v7.2] ?_
 have h := si h
 subst h
 exact pwp_ret (rt (.tup [A v3.1.1, I v5.1, I v7.1]) (OutP.tup (OutL.cons (OutP.frz (by kernel_rfl)) (OutL.cons (OutP.frz (by kernel_rfl)) (OutL.cons (OutP.frz (by kernel_rfl)) (OutL.nil _))))))
noncomputable def laws_FnWholeBounds (a0 : List UInt8) : Option Bool := bif (decide ((a0.length : Int) > 1048576)) then some true else (spec_DrawNumbersAt a0).bind fun v2 => (impl_RowsAt v2.1 v2.2.1).bind fun v4 => (impl_RowsOk ([(T_impl_Column.mk 1 false)]) v4).bind fun v6 => bif (!v6) then (laws_alive).bind fun v9 => some v9 else (impl_KnownColumn ([(T_impl_Column.mk 1 false)]) v4 0).bind fun v11 => (impl_ManyBounds v11 1 (T_impl_Value.mk 1 v2.2.2 (ByteArray.mk #[]))).bind fun v13 => (impl_IndexOf v2.1).bind fun v15 => (impl_IndexFind v15 (T_impl_Value.mk 1 v2.2.2 (ByteArray.mk #[])) v2.2.1).bind fun v17 => bif (decide (v13.1 ≤ (v17.length : Int))) then bif (decide ((v17.length : Int) ≤ v13.2)) then (laws_alive).bind fun v19 => some v19 else some false else some false
theorem ok_laws_FnWholeBounds {a0 : List UInt8} {y : Bool} (h : laws_FnWholeBounds a0 = some y) : OK Tryz.prog 4 [A a0] (B y) := by
 refine ow Tryz.func4 fun Γ hX => ?_
 unfold laws_FnWholeBounds at h
 refine srveM [8] 58 [(0, A a0)] [] ?_
 refine pwp_seq ?_
 refine srveM [8] 58 [(0, A a0), (14, B (decide ((a0.length : Int) > 1048576)))] [] ?_
 refine pc h (fun h => ?_) (fun h => ?_)
 refine srveM [8] 58 [(2, B true)] [] ?_
 cases h
 exact pwp_ret rz
 refine pwp_skip ?_
 refine srvM [8] 1 58 [(16, A a0)] [] ?_
 obtain ⟨v2, hv3, h⟩ := bindS h
 refine opsP_callF τ 17 (ok_spec_DrawNumbersAt hv3) (FzTo.tup (FzToL.cons (FzTo.frz rfl) (FzToL.cons (FzTo.frz rfl) (FzToL.cons (FzTo.frz rfl) FzToL.nil)))) rfl (by kernel_rfl) ?_
 refine veM [8] 7 58 [(3, A v2.1), (4, I v2.2.1), (5, I v2.2.2)] [] ?_
 refine srveM [8] 58 [(3, A v2.1), (4, I v2.2.1), (5, I v2.2.2), (6, .arr 2 ([(T_impl_Column.mk 1 false)] : List T_impl_Column).length (eL ([(T_impl_Column.mk 1 false)] : List T_impl_Column)) true)] [] ?_
 refine srvM [8] 2 58 [(3, A v2.1), (4, I v2.2.1), (5, I v2.2.2), (6, .arr 2 ([(T_impl_Column.mk 1 false)] : List T_impl_Column).length (eL ([(T_impl_Column.mk 1 false)] : List T_impl_Column)) true), (23, A v2.1), (24, I v2.2.1)] [] ?_
 obtain ⟨v4, hv5, h⟩ := bindS h
 refine cF 25 (ok_impl_RowsAt hv5) ?_
 refine veM [8] 1 58 [(3, A v2.1), (4, I v2.2.1), (5, I v2.2.2), (6, .arr 2 ([(T_impl_Column.mk 1 false)] : List T_impl_Column).length (eL ([(T_impl_Column.mk 1 false)] : List T_impl_Column)) true), (7, A v4)] [] ?_
 refine pwp_seq ?_
 refine srvM [8] 2 58 [(3, A v2.1), (4, I v2.2.1), (5, I v2.2.2), (6, .arr 2 ([(T_impl_Column.mk 1 false)] : List T_impl_Column).length (eL ([(T_impl_Column.mk 1 false)] : List T_impl_Column)) true), (7, A v4), (26, .arr 2 ([(T_impl_Column.mk 1 false)] : List T_impl_Column).length (eL ([(T_impl_Column.mk 1 false)] : List T_impl_Column)) true), (27, A v4)] [] ?_
 obtain ⟨v6, hv7, h⟩ := bindS h
 refine cF 28 (ok_impl_RowsOk hv7) ?_
 refine veM [8] 1 58 [(3, A v2.1), (4, I v2.2.1), (5, I v2.2.2), (6, .arr 2 ([(T_impl_Column.mk 1 false)] : List T_impl_Column).length (eL ([(T_impl_Column.mk 1 false)] : List T_impl_Column)) true), (7, A v4), (29, B (!v6))] [] ?_
 refine pc h (fun h => ?_) (fun h => ?_)
 refine pwp_seq ?_
 refine pwp_region ?_
 obtain ⟨v9, hv10, h⟩ := bindS h
 refine cF 30 (ok_laws_alive hv10) ?_
 refine veM [8] 1 58 [(2, B v9)] [] ?_
 cases h
 exact pwp_ret rz
 refine pwp_skip ?_
 refine srveM [8] 58 [(3, A v2.1), (4, I v2.2.1), (6, .arr 2 ([(T_impl_Column.mk 1 false)] : List T_impl_Column).length (eL ([(T_impl_Column.mk 1 false)] : List T_impl_Column)) true), (7, A v4), (8, .ptr 0 0 0)] [some ⟨0, Enc.cells (T_impl_Value.mk 1 v2.2.2 (ByteArray.mk #[]))⟩] ?_
 refine pwp_seq ?_
 refine ip 58 [(3, A v2.1), (4, I v2.2.1), (6, .arr 2 ([(T_impl_Column.mk 1 false)] : List T_impl_Column).length (eL ([(T_impl_Column.mk 1 false)] : List T_impl_Column)) true), (7, A v4), (8, .ptr 0 0 0)] [some ⟨0, Enc.cells (T_impl_Value.mk 1 v2.2.2 (ByteArray.mk #[]))⟩] ?_
 refine pwp_any ([[], [], [], [0], [], [], [], [], [], []]) ([[], [], [], [], [], [], [], [], [], []]) rfl (by kernel_rfl) ?_
 refine qvM [8] [] trivial 2 58 [(35, A v4), (34, .arr 2 ([(T_impl_Column.mk 1 false)] : List T_impl_Column).length (eL ([(T_impl_Column.mk 1 false)] : List T_impl_Column)) true), (3, A v2.1), (4, I v2.2.1), (8, .ptr 0 0 0)] [some ⟨0, Enc.cells (T_impl_Value.mk 1 v2.2.2 (ByteArray.mk #[]))⟩] ?_
 obtain ⟨v11, hv12, h⟩ := bindS h
 refine qX (some 36) (E v11) 58 [(36, E v11), (3, A v2.1), (4, I v2.2.1), (8, .ptr 0 0 0)] [some ⟨0, Enc.cells (T_impl_Value.mk 1 v2.2.2 (ByteArray.mk #[]))⟩] (fun Γ' hΓ => CoreE.of_g (callV_sound (τ := τ) (by kernel_rfl) rfl (ok_impl_KnownColumn hv12) (FzTo.frz rfl))) trivial ?_
 refine qvM [8] [0] (hB trivial) 1 58 [(37, E (T_impl_Value.mk 1 v2.2.2 (ByteArray.mk #[]))), (36, E v11), (3, A v2.1), (4, I v2.2.1), (8, .ptr 0 0 0)] [some ⟨0, Enc.cells (T_impl_Value.mk 1 v2.2.2 (ByteArray.mk #[]))⟩] ?_
 obtain ⟨v13, hv14, h⟩ := bindS h
 refine qX (some 38) (.tup [I v13.1, I v13.2]) 58 [(38, .tup [I v13.1, I v13.2]), (3, A v2.1), (4, I v2.2.1), (8, .ptr 0 0 0)] [some ⟨0, Enc.cells (T_impl_Value.mk 1 v2.2.2 (ByteArray.mk #[]))⟩] (fun Γ' hΓ => CoreE.of_g (callV_sound (τ := τ) (by kernel_rfl) rfl (ok_impl_ManyBounds hv14) (FzTo.tup (FzToL.cons (FzTo.frz rfl) (FzToL.cons (FzTo.frz rfl) FzToL.nil))))) trivial ?_
 refine qvnM [8] [] trivial 5 58 [(3, A v2.1), (4, I v2.2.1), (8, .ptr 0 0 0), (9, I v13.1), (10, I v13.2)] [some ⟨0, Enc.cells (T_impl_Value.mk 1 v2.2.2 (ByteArray.mk #[]))⟩] ?_
 refine pwp_seq ?_
 refine ip 58 [(3, A v2.1), (4, I v2.2.1), (8, .ptr 0 0 0), (9, I v13.1), (10, I v13.2)] [some ⟨0, Enc.cells (T_impl_Value.mk 1 v2.2.2 (ByteArray.mk #[]))⟩] ?_
 refine pwp_any ([[], [], [0], [], [], [], []]) ([[], [], [], [], [], [], []]) rfl (by kernel_rfl) ?_
 refine qvM [8] [] trivial 1 58 [(41, A v2.1), (4, I v2.2.1), (8, .ptr 0 0 0), (9, I v13.1), (10, I v13.2)] [some ⟨0, Enc.cells (T_impl_Value.mk 1 v2.2.2 (ByteArray.mk #[]))⟩] ?_
 obtain ⟨v15, hv16, h⟩ := bindS h
 refine qX (some 42) (A v15) 58 [(42, A v15), (4, I v2.2.1), (8, .ptr 0 0 0), (9, I v13.1), (10, I v13.2)] [some ⟨0, Enc.cells (T_impl_Value.mk 1 v2.2.2 (ByteArray.mk #[]))⟩] (fun Γ' hΓ => CoreE.of_g (callV_sound (τ := τ) (by kernel_rfl) rfl (ok_impl_IndexOf hv16) (FzTo.frz rfl))) trivial ?_
 refine qvM [8] [0] (hB trivial) 1 58 [(43, E (T_impl_Value.mk 1 v2.2.2 (ByteArray.mk #[]))), (42, A v15), (4, I v2.2.1), (9, I v13.1), (10, I v13.2)] [some ⟨0, Enc.cells (T_impl_Value.mk 1 v2.2.2 (ByteArray.mk #[]))⟩] ?_
 refine qvM [8] [] trivial 1 58 [(44, I v2.2.1), (43, E (T_impl_Value.mk 1 v2.2.2 (ByteArray.mk #[]))), (42, A v15), (9, I v13.1), (10, I v13.2)] [some ⟨0, Enc.cells (T_impl_Value.mk 1 v2.2.2 (ByteArray.mk #[]))⟩] ?_
 obtain ⟨v17, hv18, h⟩ := bindS h
 refine qX (some 45) (A v17) 58 [(45, A v17), (9, I v13.1), (10, I v13.2)] [some ⟨0, Enc.cells (T_impl_Value.mk 1 v2.2.2 (ByteArray.mk #[]))⟩] (fun Γ' hΓ => CoreE.of_g (callV_sound (τ := τ) (by kernel_rfl) rfl (ok_impl_IndexFind hv18) (FzTo.frz rfl))) trivial ?_
 refine qvnM [8] [] trivial 2 58 [(9, I v13.1), (10, I v13.2), (11, I (v17.length : Int))] [some ⟨0, Enc.cells (T_impl_Value.mk 1 v2.2.2 (ByteArray.mk #[]))⟩] ?_
 refine srvM [8] 4 58 [(10, I v13.2), (11, I (v17.length : Int)), (50, B (decide (v13.1 ≤ (v17.length : Int))))] [some ⟨0, Enc.cells (T_impl_Value.mk 1 v2.2.2 (ByteArray.mk #[]))⟩] ?_
 rcases fk (decide (v13.1 ≤ (v17.length : Int))) with hc22 | hc22
 replace h := bT hc22 h
 rw [hc22]
 refine vM [8] 5 58 [(55, B (decide ((v17.length : Int) ≤ v13.2)))] [some ⟨0, Enc.cells (T_impl_Value.mk 1 v2.2.2 (ByteArray.mk #[]))⟩] ?_
 rcases fk (decide ((v17.length : Int) ≤ v13.2)) with hc21 | hc21
 replace h := bT hc21 h
 rw [hc21]
 obtain ⟨v19, hv20, h⟩ := bindS h
 refine cF 56 (ok_laws_alive hv20) ?_
 refine veM [8] 2 58 [(2, B v19)] [some ⟨0, Enc.cells (T_impl_Value.mk 1 v2.2.2 (ByteArray.mk #[]))⟩] ?_
 cases h
 exact pwp_ret rz
 replace h := bF hc21 h
 rw [hc21]
 refine veM [8] 3 58 [(2, B false)] [some ⟨0, Enc.cells (T_impl_Value.mk 1 v2.2.2 (ByteArray.mk #[]))⟩] ?_
 cases h
 exact pwp_ret rz
 replace h := bF hc22 h
 rw [hc22]
 refine veM [8] 8 58 [(2, B false)] [some ⟨0, Enc.cells (T_impl_Value.mk 1 v2.2.2 (ByteArray.mk #[]))⟩] ?_
 cases h
 exact pwp_ret rz
end Go.D
