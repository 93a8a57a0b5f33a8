import Derived.Test.YtpkclpjdpanekaaGreatBatDXFB
import Derived.KernelRfl
set_option linter.unusedVariables false
set_option linter.unusedSimpArgs false
namespace Go.D
open Go.Proofs
theorem ok_impl_Batch_values_R {a0 : T_impl_Batch} {a1 : List T_impl_Part} {y : List T_impl_Value} (h : impl_Batch_values_R a0 a1 = some y) : OK Tryz.prog 80 [E a0, A a1] (O y) := by
  refine OK_of_pwp τ_ok Tryz.func80 rfl (by kernel_rfl) rfl fun Γ hX => ?_
  unfold impl_Batch_values_R at h
  refine srveM [8] 77 [(1, A a1), (2, .fptr (Enc.cells a0) 0)] [] ?_
  refine srveM [8] 77 [(1, A a1), (2, .fptr (Enc.cells a0) 0), (5, I ((a0.fPicked.length : Int)))] [] ?_
  refine srveM [8] 77 [(1, A a1), (2, .fptr (Enc.cells a0) 0), (5, I ((a0.fPicked.length : Int))), (6, .arr 1 0 (eL ([] : List (List T_impl_Value))) true)] [] ?_
  refine pwp_seq ?_
  refine srveM [8] 77 [(2, .fptr (Enc.cells a0) 0), (5, I ((a0.fPicked.length : Int))), (6, .arr 1 0 (eL ([] : List (List T_impl_Value))) true), (19, A a1), (20, I ((a1.length : Int))), (21, I 0)] [] ?_
  refine pwp_block ?_
  refine pwp_loop (ι := Nat × Int × (List (List T_impl_Value))) (fun (f4, x2, x3) => (⟨77, [(2, .fptr (Enc.cells a0) 0), (5, I ((a0.fPicked.length : Int))), (6, .ref 0 0 0 1 x3.length false), (19, A a1), (20, I ((a1.length : Int))), (21, I x2)], [some ⟨0, eL x3⟩]⟩ : St)) (fun (f4, x2, x3) => impl_Batch_values_R_l0 a0 a1 f4 x2 x3 = some y) (fun (f4, x2, x3) => f4) (FUEL, 0, ([] : List (List T_impl_Value))) h ((Imp.to (st' := ⟨77, [(2, .fptr (Enc.cells a0) 0), (5, I ((a0.fPicked.length : Int))), (6, .arr 1 0 (eL ([] : List (List T_impl_Value))) true), (19, A a1), (20, I ((a1.length : Int))), (21, I 0)], []⟩) [2, 5, 6, 19, 20, 21] (by kernel_rfl)).trans ((Imp.thawS (st' := ⟨77, [(2, .fptr (Enc.cells a0) 0), (5, I ((a0.fPicked.length : Int))), (6, .ref 0 0 0 1 (([] : List (List T_impl_Value))).length false), (19, A a1), (20, I ((a1.length : Int))), (21, I 0)], [some ⟨0, eL (([] : List (List T_impl_Value)))⟩]⟩) 6 [2, 5, 6, 19, 20, 21] (by kernel_rfl)).trans (Imp.to [2, 5, 6, 19, 20, 21] (by kernel_rfl)))) ?_
  rintro ⟨f4, x2, x3⟩ h
  dsimp only at h ⊢
  rcases f4 with _ | f4
  cases h
  rw [impl_Batch_values_R_l0] at h
  refine srveM [8] 77 [(2, .fptr (Enc.cells a0) 0), (5, I ((a0.fPicked.length : Int))), (6, .ref 0 0 0 1 x3.length false), (19, A a1), (20, I ((a1.length : Int))), (21, I x2), (22, B ((decide (x2 < ((a1.length : Int))))))] [some ⟨0, eL x3⟩] ?_
  refine pwp_seq ?_
  refine pc h (fun h => ?_) (fun h => ?_)
  refine pwp_skip ?_
  refine pwp_seq ?_
  refine pwp_block ?_
  refine pwp_seq ?_
  refine pwp_region ?_
  obtain ⟨v7, hv8, h⟩ := bindS h
  refine opsP_idx τ_ok 23 hv8 (by kernel_rfl) ?_
  refine veM [8] 3 77 [(2, .fptr (Enc.cells a0) 0), (5, I ((a0.fPicked.length : Int))), (6, .ref 0 0 0 1 x3.length false), (8, .ptr 1 0 0), (19, A a1), (20, I ((a1.length : Int))), (21, I x2)] [some ⟨0, eL x3⟩, some ⟨0, Enc.cells v7⟩] ?_
  refine srvM [8] 3 77 [(2, .fptr (Enc.cells a0) 0), (5, I ((a0.fPicked.length : Int))), (6, .ref 0 0 0 1 x3.length false), (8, .ptr 1 0 0), (19, A a1), (20, I ((a1.length : Int))), (21, I x2), (26, I ((x3.length : Int))), (27, E v7)] [some ⟨0, eL x3⟩, some ⟨0, Enc.cells v7⟩] ?_
  obtain ⟨v9, hv10, h⟩ := bindS h
  refine opsP_callF τ 28 (ok_impl_Part_takes hv10) (FzTo.frz rfl) rfl (by kernel_rfl) ?_
  refine veM [8] 2 77 [(2, .fptr (Enc.cells a0) 0), (5, I ((a0.fPicked.length : Int))), (6, .ref 0 0 0 1 x3.length false), (8, .ptr 1 0 0), (9, I ((w64 (((x3.length : Int)) - v9)))), (19, A a1), (20, I ((a1.length : Int))), (21, I x2)] [some ⟨0, eL x3⟩, some ⟨0, Enc.cells v7⟩] ?_
  refine srvM [8] 1 77 [(2, .fptr (Enc.cells a0) 0), (5, I ((a0.fPicked.length : Int))), (6, .ref 0 0 0 1 x3.length false), (8, .ptr 1 0 0), (9, I ((w64 (((x3.length : Int)) - v9)))), (19, A a1), (20, I ((a1.length : Int))), (21, I x2), (30, I ((a0.fPicked.length : Int)))] [some ⟨0, eL x3⟩, some ⟨0, Enc.cells v7⟩] ?_
  obtain ⟨v11, hv12, h⟩ := bindS h
  refine opsP_mk τ_ok 31 2 _ hv12 (by kernel_rfl) (by kernel_rfl) ?_
  refine veM [8] 1 77 [(2, .fptr (Enc.cells a0) 0), (5, I ((a0.fPicked.length : Int))), (6, .ref 0 0 0 1 x3.length false), (8, .ptr 1 0 0), (9, I ((w64 (((x3.length : Int)) - v9)))), (10, .ref 2 0 0 3 v11.length false), (19, A a1), (20, I ((a1.length : Int))), (21, I x2)] [some ⟨0, eL x3⟩, some ⟨0, Enc.cells v7⟩, some ⟨0, eL v11⟩] ?_
  refine pwp_seq ?_
  refine srveM [8] 77 [(2, .fptr (Enc.cells a0) 0), (5, I ((a0.fPicked.length : Int))), (6, .ref 0 0 0 1 x3.length false), (8, .ptr 1 0 0), (9, I ((w64 (((x3.length : Int)) - v9)))), (10, .ref 2 0 0 3 v11.length false), (19, A a1), (20, I ((a1.length : Int))), (21, I x2), (32, I ((a0.fPicked.length : Int))), (33, I 0)] [some ⟨0, eL x3⟩, some ⟨0, Enc.cells v7⟩, some ⟨0, eL v11⟩] ?_
  refine pwp_block ?_
  refine pwp_loop (ι := Nat × Int × (List T_impl_Value)) (fun (f18, x16, x17) => (⟨77, [(2, .fptr (Enc.cells a0) 0), (5, I ((a0.fPicked.length : Int))), (6, .ref 0 0 0 1 x3.length false), (8, .ptr 1 0 0), (9, I ((w64 (((x3.length : Int)) - v9)))), (10, .ref 2 0 0 3 x17.length false), (19, A a1), (20, I ((a1.length : Int))), (21, I x2), (32, I ((a0.fPicked.length : Int))), (33, I x16)], [some ⟨0, eL x3⟩, some ⟨0, Enc.cells v7⟩, some ⟨0, eL x17⟩]⟩ : St)) (fun (f18, x16, x17) => impl_Batch_values_R_l1 a0 x2 x3 (impl_Batch_values_R_l0 a0 a1 f4) v7 v9 f18 x16 x17 = some y) (fun (f18, x16, x17) => f18) (FUEL, 0, v11) h ((Imp.to (st' := ⟨77, [(2, .fptr (Enc.cells a0) 0), (5, I ((a0.fPicked.length : Int))), (6, .ref 0 0 0 1 x3.length false), (8, .ptr 1 0 0), (9, I ((w64 (((x3.length : Int)) - v9)))), (10, .ref 2 0 0 3 v11.length false), (19, A a1), (20, I ((a1.length : Int))), (21, I x2), (32, I ((a0.fPicked.length : Int))), (33, I 0)], [some ⟨0, eL x3⟩, some ⟨0, Enc.cells v7⟩, some ⟨0, eL v11⟩]⟩) [2, 5, 6, 8, 9, 10, 19, 20, 21, 32, 33] (by kernel_rfl)).trans (Imp.to [2, 5, 6, 8, 9, 10, 19, 20, 21, 32, 33] (by kernel_rfl))) ?_
  rintro ⟨f18, x16, x17⟩ h
  dsimp only at h ⊢
  rcases f18 with _ | f18
  cases h
  rw [impl_Batch_values_R_l1] at h
  refine srveM [8] 77 [(2, .fptr (Enc.cells a0) 0), (5, I ((a0.fPicked.length : Int))), (6, .ref 0 0 0 1 x3.length false), (8, .ptr 1 0 0), (9, I ((w64 (((x3.length : Int)) - v9)))), (10, .ref 2 0 0 3 x17.length false), (19, A a1), (20, I ((a1.length : Int))), (21, I x2), (32, I ((a0.fPicked.length : Int))), (33, I x16), (34, B ((decide (x16 < ((a0.fPicked.length : Int))))))] [some ⟨0, eL x3⟩, some ⟨0, Enc.cells v7⟩, some ⟨0, eL x17⟩] ?_
  refine pwp_seq ?_
  refine pc h (fun h => ?_) (fun h => ?_)
  refine pwp_skip ?_
  refine pwp_seq ?_
  refine pwp_block ?_
  refine srveM [8] 77 [(2, .fptr (Enc.cells a0) 0), (5, I ((a0.fPicked.length : Int))), (6, .ref 0 0 0 1 x3.length false), (8, .ptr 1 0 0), (9, I ((w64 (((x3.length : Int)) - v9)))), (10, .ref 2 0 0 3 x17.length false), (11, I x16), (19, A a1), (20, I ((a1.length : Int))), (21, I x2), (32, I ((a0.fPicked.length : Int))), (33, I x16)] [some ⟨0, eL x3⟩, some ⟨0, Enc.cells v7⟩, some ⟨0, eL x17⟩] ?_
  refine srveM [8] 77 [(2, .fptr (Enc.cells a0) 0), (5, I ((a0.fPicked.length : Int))), (6, .ref 0 0 0 1 x3.length false), (8, .ptr 1 0 0), (9, I ((w64 (((x3.length : Int)) - v9)))), (10, .ref 2 0 0 3 x17.length false), (11, I x16), (12, .arr 3 0 (eL ([] : List T_impl_Value)) true), (13, .arr 3 0 (eL ([] : List T_impl_Value)) true), (19, A a1), (20, I ((a1.length : Int))), (21, I x2), (32, I ((a0.fPicked.length : Int))), (33, I x16)] [some ⟨0, eL x3⟩, some ⟨0, Enc.cells v7⟩, some ⟨0, eL x17⟩] ?_
  refine pwp_seq ?_
  refine srvM [8] 2 77 [(2, .fptr (Enc.cells a0) 0), (5, I ((a0.fPicked.length : Int))), (6, .ref 0 0 0 1 x3.length false), (8, .ptr 1 0 0), (9, I ((w64 (((x3.length : Int)) - v9)))), (10, .ref 2 0 0 3 x17.length false), (11, I x16), (12, .arr 3 0 (eL ([] : List T_impl_Value)) true), (13, .arr 3 0 (eL ([] : List T_impl_Value)) true), (19, A a1), (20, I ((a1.length : Int))), (21, I x2), (32, I ((a0.fPicked.length : Int))), (33, I x16), (36, .ref 0 0 0 1 x3.length false), (37, I ((w64 (((x3.length : Int)) - v9))))] [some ⟨0, eL x3⟩, some ⟨0, Enc.cells v7⟩, some ⟨0, eL x17⟩] ?_
  obtain ⟨v21, hv22, h⟩ := bindS h
  refine opsP_slr τ_ok 38 0 0 x3.length hv22 rfl (by kernel_rfl) ?_
  refine veM [8] 2 77 [(2, .fptr (Enc.cells a0) 0), (5, I ((a0.fPicked.length : Int))), (6, .ref 0 0 0 1 x3.length false), (8, .ptr 1 0 0), (9, I ((w64 (((x3.length : Int)) - v9)))), (10, .ref 2 0 0 3 x17.length false), (11, I x16), (12, .arr 3 0 (eL ([] : List T_impl_Value)) true), (13, .arr 3 0 (eL ([] : List T_impl_Value)) true), (19, A a1), (20, I ((a1.length : Int))), (21, I x2), (32, I ((a0.fPicked.length : Int))), (33, I x16), (38, .ref 0 0 ((w64 (((x3.length : Int)) - v9)).toNat * 1) 1 v21.length false), (39, I ((v21.length : Int))), (40, I 0)] [some ⟨0, eL x3⟩, some ⟨0, Enc.cells v7⟩, some ⟨0, eL x17⟩] ?_
  refine pwp_block ?_
  refine pwp_loop (ι := Nat × Int × (List T_impl_Value)) (fun (f28, x26, x27) => (⟨77, [(2, .fptr (Enc.cells a0) 0), (5, I ((a0.fPicked.length : Int))), (6, .ref 0 0 0 1 x3.length false), (8, .ptr 1 0 0), (9, I ((w64 (((x3.length : Int)) - v9)))), (10, .ref 2 0 0 3 x17.length false), (11, I x16), (12, .ref 3 0 0 3 x27.length false), (13, .arr 3 0 (eL ([] : List T_impl_Value)) true), (19, A a1), (20, I ((a1.length : Int))), (21, I x2), (32, I ((a0.fPicked.length : Int))), (33, I x16), (38, .ref 0 0 ((w64 (((x3.length : Int)) - v9)).toNat * 1) 1 v21.length false), (39, I ((v21.length : Int))), (40, I x26)], [some ⟨0, eL x3⟩, some ⟨0, Enc.cells v7⟩, some ⟨0, eL x17⟩, some ⟨0, eL x27⟩]⟩ : St)) (fun (f28, x26, x27) => impl_Batch_values_R_l2 a0 v7 x16 x17 (impl_Batch_values_R_l1 a0 x2 x3 (impl_Batch_values_R_l0 a0 a1 f4) v7 v9 f18) v21 f28 x26 x27 = some y) (fun (f28, x26, x27) => f28) (FUEL, 0, ([] : List T_impl_Value)) h ((Imp.to (st' := ⟨77, [(2, .fptr (Enc.cells a0) 0), (5, I ((a0.fPicked.length : Int))), (6, .ref 0 0 0 1 x3.length false), (8, .ptr 1 0 0), (9, I ((w64 (((x3.length : Int)) - v9)))), (10, .ref 2 0 0 3 x17.length false), (11, I x16), (12, .arr 3 0 (eL ([] : List T_impl_Value)) true), (13, .arr 3 0 (eL ([] : List T_impl_Value)) true), (19, A a1), (20, I ((a1.length : Int))), (21, I x2), (32, I ((a0.fPicked.length : Int))), (33, I x16), (38, .ref 0 0 ((w64 (((x3.length : Int)) - v9)).toNat * 1) 1 v21.length false), (39, I ((v21.length : Int))), (40, I 0)], [some ⟨0, eL x3⟩, some ⟨0, Enc.cells v7⟩, some ⟨0, eL x17⟩]⟩) [2, 5, 6, 8, 9, 10, 11, 12, 13, 19, 20, 21, 32, 33, 38, 39, 40] (by kernel_rfl)).trans ((Imp.thawS (st' := ⟨77, [(2, .fptr (Enc.cells a0) 0), (5, I ((a0.fPicked.length : Int))), (6, .ref 0 0 0 1 x3.length false), (8, .ptr 1 0 0), (9, I ((w64 (((x3.length : Int)) - v9)))), (10, .ref 2 0 0 3 x17.length false), (11, I x16), (12, .ref 3 0 0 3 (([] : List T_impl_Value)).length false), (13, .arr 3 0 (eL ([] : List T_impl_Value)) true), (19, A a1), (20, I ((a1.length : Int))), (21, I x2), (32, I ((a0.fPicked.length : Int))), (33, I x16), (38, .ref 0 0 ((w64 (((x3.length : Int)) - v9)).toNat * 1) 1 v21.length false), (39, I ((v21.length : Int))), (40, I 0)], [some ⟨0, eL x3⟩, some ⟨0, Enc.cells v7⟩, some ⟨0, eL x17⟩, some ⟨0, eL (([] : List T_impl_Value))⟩]⟩) 12 [2, 5, 6, 8, 9, 10, 11, 12, 13, 19, 20, 21, 32, 33, 38, 39, 40] (by kernel_rfl)).trans (Imp.to [2, 5, 6, 8, 9, 10, 11, 12, 13, 19, 20, 21, 32, 33, 38, 39, 40] (by kernel_rfl)))) ?_
  rintro ⟨f28, x26, x27⟩ h
  dsimp only at h ⊢
  rcases f28 with _ | f28
  cases h
  rw [impl_Batch_values_R_l2] at h
  refine srveM [8] 77 [(2, .fptr (Enc.cells a0) 0), (5, I ((a0.fPicked.length : Int))), (6, .ref 0 0 0 1 x3.length false), (8, .ptr 1 0 0), (9, I ((w64 (((x3.length : Int)) - v9)))), (10, .ref 2 0 0 3 x17.length false), (11, I x16), (12, .ref 3 0 0 3 x27.length false), (13, .arr 3 0 (eL ([] : List T_impl_Value)) true), (19, A a1), (20, I ((a1.length : Int))), (21, I x2), (32, I ((a0.fPicked.length : Int))), (33, I x16), (38, .ref 0 0 ((w64 (((x3.length : Int)) - v9)).toNat * 1) 1 v21.length false), (39, I ((v21.length : Int))), (40, I x26), (41, B ((decide (x26 < ((v21.length : Int))))))] [some ⟨0, eL x3⟩, some ⟨0, Enc.cells v7⟩, some ⟨0, eL x17⟩, some ⟨0, eL x27⟩] ?_
  refine pwp_seq ?_
  refine pc h (fun h => ?_) (fun h => ?_)
  refine pwp_skip ?_
  refine pwp_seq ?_
  refine pwp_block ?_
  refine pwp_seq ?_
  refine pwp_region ?_
  obtain ⟨v31, hv32, h⟩ := bindS h
  refine opsP_idp τ_ok 42 0 0 v21.length ((w64 (((x3.length : Int)) - v9))) hv32 rfl (by kernel_rfl) ?_
  refine opsP_lde (r := A v31) τ_ok 43 36 0 (getI_part hv22 hv32) (by kernel_rfl) (by kernel_rfl) ?_
  refine veM [8] 1 77 [(2, .fptr (Enc.cells a0) 0), (5, I ((a0.fPicked.length : Int))), (6, .ref 0 0 0 1 x3.length false), (8, .ptr 1 0 0), (9, I ((w64 (((x3.length : Int)) - v9)))), (10, .ref 2 0 0 3 x17.length false), (11, I x16), (12, .ref 3 0 0 3 x27.length false), (13, .arr 3 0 (eL ([] : List T_impl_Value)) true), (15, A v31), (19, A a1), (20, I ((a1.length : Int))), (21, I x2), (32, I ((a0.fPicked.length : Int))), (33, I x16), (38, .ref 0 0 ((w64 (((x3.length : Int)) - v9)).toNat * 1) 1 v21.length false), (39, I ((v21.length : Int))), (40, I x26)] [some ⟨0, eL x3⟩, some ⟨0, Enc.cells v7⟩, some ⟨0, eL x17⟩, some ⟨0, eL x27⟩] ?_
  refine rvM [8] 3 77 [(2, .fptr (Enc.cells a0) 0), (5, I ((a0.fPicked.length : Int))), (6, .ref 0 0 0 1 x3.length false), (8, .ptr 1 0 0), (9, I ((w64 (((x3.length : Int)) - v9)))), (10, .ref 2 0 0 3 x17.length false), (11, I x16), (13, .arr 3 0 (eL ([] : List T_impl_Value)) true), (19, A a1), (20, I ((a1.length : Int))), (21, I x2), (32, I ((a0.fPicked.length : Int))), (33, I x16), (38, .ref 0 0 ((w64 (((x3.length : Int)) - v9)).toNat * 1) 1 v21.length false), (39, I ((v21.length : Int))), (40, I x26), (44, .ref 3 0 0 3 x27.length false), (45, A v31), (46, I x16)] [some ⟨0, eL x3⟩, some ⟨0, Enc.cells v7⟩, some ⟨0, eL x17⟩, some ⟨0, eL x27⟩] ?_
  obtain ⟨v33, hv34, h⟩ := bindS h
  refine opsP_idx τ_ok 47 hv34 (by kernel_rfl) ?_
  refine vM [8] 2 77 [(2, .fptr (Enc.cells a0) 0), (5, I ((a0.fPicked.length : Int))), (6, .ref 0 0 0 1 x3.length false), (8, .ptr 1 0 0), (9, I ((w64 (((x3.length : Int)) - v9)))), (10, .ref 2 0 0 3 x17.length false), (11, I x16), (13, .arr 3 0 (eL ([] : List T_impl_Value)) true), (19, A a1), (20, I ((a1.length : Int))), (21, I x2), (32, I ((a0.fPicked.length : Int))), (33, I x16), (38, .ref 0 0 ((w64 (((x3.length : Int)) - v9)).toNat * 1) 1 v21.length false), (39, I ((v21.length : Int))), (40, I x26), (44, .ref 3 0 0 3 x27.length false), (49, .arr 3 (([v33] : List T_impl_Value)).length (eL ([v33] : List T_impl_Value)) true)] [some ⟨0, eL x3⟩, some ⟨0, Enc.cells v7⟩, some ⟨0, eL x17⟩, some ⟨0, eL x27⟩] ?_
  obtain ⟨v35, hv36, h⟩ := bindS h
  refine opsP_app τ_ok 50 3 0 (fun b hb => absurd hb (hX b)) hv36 (by kernel_rfl) ?_
  refine veM [8] 1 77 [(2, .fptr (Enc.cells a0) 0), (5, I ((a0.fPicked.length : Int))), (6, .ref 0 0 0 1 x3.length false), (8, .ptr 1 0 0), (9, I ((w64 (((x3.length : Int)) - v9)))), (10, .ref 2 0 0 3 x17.length false), (11, I x16), (12, .ref 3 1 0 3 v35.length false), (13, .arr 3 0 (eL ([] : List T_impl_Value)) true), (19, A a1), (20, I ((a1.length : Int))), (21, I x2), (32, I ((a0.fPicked.length : Int))), (33, I x16), (38, .ref 0 0 ((w64 (((x3.length : Int)) - v9)).toNat * 1) 1 v21.length false), (39, I ((v21.length : Int))), (40, I x26)] [some ⟨0, eL x3⟩, some ⟨0, Enc.cells v7⟩, some ⟨0, eL x17⟩, some ⟨1, eL v35⟩] ?_
  refine rveM [8] 77 [(2, .fptr (Enc.cells a0) 0), (5, I ((a0.fPicked.length : Int))), (6, .ref 0 0 0 1 x3.length false), (8, .ptr 1 0 0), (9, I ((w64 (((x3.length : Int)) - v9)))), (10, .ref 2 0 0 3 x17.length false), (11, I x16), (12, .ref 3 1 0 3 v35.length false), (13, .arr 3 0 (eL ([] : List T_impl_Value)) true), (19, A a1), (20, I ((a1.length : Int))), (21, I x2), (32, I ((a0.fPicked.length : Int))), (33, I x16), (38, .ref 0 0 ((w64 (((x3.length : Int)) - v9)).toNat * 1) 1 v21.length false), (39, I ((v21.length : Int))), (40, I ((w64 (x26 + 1))))] [some ⟨0, eL x3⟩, some ⟨0, Enc.cells v7⟩, some ⟨0, eL x17⟩, some ⟨1, eL v35⟩] ?_
  exact ⟨(f28, (w64 (x26 + 1)), v35), h, Nat.lt_succ_self _, (Imp.to (st' := ⟨77, [(2, .fptr (Enc.cells a0) 0), (5, I ((a0.fPicked.length : Int))), (6, .ref 0 0 0 1 x3.length false), (8, .ptr 1 0 0), (9, I ((w64 (((x3.length : Int)) - v9)))), (10, .ref 2 0 0 3 x17.length false), (11, I x16), (12, .ref 3 1 0 3 v35.length false), (13, .arr 3 0 (eL ([] : List T_impl_Value)) true), (19, A a1), (20, I ((a1.length : Int))), (21, I x2), (32, I ((a0.fPicked.length : Int))), (33, I x16), (38, .ref 0 0 ((w64 (((x3.length : Int)) - v9)).toNat * 1) 1 v21.length false), (39, I ((v21.length : Int))), (40, I ((w64 (x26 + 1))))], [some ⟨0, eL x3⟩, some ⟨0, Enc.cells v7⟩, some ⟨0, eL x17⟩, some ⟨1, eL v35⟩]⟩) [2, 5, 6, 8, 9, 10, 11, 12, 13, 19, 20, 21, 32, 33, 38, 39, 40] (by kernel_rfl)).trans ((Imp.reverS (st' := ⟨77, [(2, .fptr (Enc.cells a0) 0), (5, I ((a0.fPicked.length : Int))), (6, .ref 0 0 0 1 x3.length false), (8, .ptr 1 0 0), (9, I ((w64 (((x3.length : Int)) - v9)))), (10, .ref 2 0 0 3 x17.length false), (11, I x16), (12, .ref 3 0 0 3 v35.length false), (13, .arr 3 0 (eL ([] : List T_impl_Value)) true), (19, A a1), (20, I ((a1.length : Int))), (21, I x2), (32, I ((a0.fPicked.length : Int))), (33, I x16), (38, .ref 0 0 ((w64 (((x3.length : Int)) - v9)).toNat * 1) 1 v21.length false), (39, I ((v21.length : Int))), (40, I ((w64 (x26 + 1))))], [some ⟨0, eL x3⟩, some ⟨0, Enc.cells v7⟩, some ⟨0, eL x17⟩, some ⟨0, eL v35⟩]⟩) 3 1 (eL v35) [2, 5, 6, 8, 9, 10, 11, 12, 13, 19, 20, 21, 32, 33, 38, 39, 40] (by kernel_rfl) (by exact (And.intro (eL_frz _) (And.intro (rfl) (And.intro (eL_frz _) (And.intro (eL_frz _) trivial))))) (by kernel_rfl)).trans (Imp.to [2, 5, 6, 8, 9, 10, 11, 12, 13, 19, 20, 21, 32, 33, 38, 39, 40] (by kernel_rfl)))⟩
  refine pwp_exit ?_
  refine pwp_seq ?_
  refine pwp_join (σ := (List T_impl_Value)) (fun x37 => (⟨77, [(2, .fptr (Enc.cells a0) 0), (5, I ((a0.fPicked.length : Int))), (6, .ref 0 0 0 1 x3.length false), (8, .ptr 1 0 0), (9, I ((w64 (((x3.length : Int)) - v9)))), (10, .ref 2 0 0 3 x17.length false), (11, I x16), (12, .ref 3 0 0 3 x27.length false), (13, A x37), (19, A a1), (20, I ((a1.length : Int))), (21, I x2), (32, I ((a0.fPicked.length : Int))), (33, I x16)], [some ⟨0, eL x3⟩, some ⟨0, Enc.cells v7⟩, some ⟨0, eL x17⟩, some ⟨0, eL x27⟩]⟩ : St)) (fun x37 => impl_Batch_values_R_j3 v7 x16 x17 (impl_Batch_values_R_l1 a0 x2 x3 (impl_Batch_values_R_l0 a0 a1 f4) v7 v9 f18) x27 x37 = some y) ?_ ?_
  refine srveM [8] 77 [(2, .fptr (Enc.cells a0) 0), (5, I ((a0.fPicked.length : Int))), (6, .ref 0 0 0 1 x3.length false), (8, .ptr 1 0 0), (9, I ((w64 (((x3.length : Int)) - v9)))), (10, .ref 2 0 0 3 x17.length false), (11, I x16), (12, .ref 3 0 0 3 x27.length false), (13, .arr 3 0 (eL ([] : List T_impl_Value)) true), (19, A a1), (20, I ((a1.length : Int))), (21, I x2), (32, I ((a0.fPicked.length : Int))), (33, I x16), (54, B ((v7.fKind == 2)))] [some ⟨0, eL x3⟩, some ⟨0, Enc.cells v7⟩, some ⟨0, eL x17⟩, some ⟨0, eL x27⟩] ?_
  refine pc h (fun h => ?_) (fun h => ?_)
  refine rvM [8] 2 77 [(2, .fptr (Enc.cells a0) 0), (5, I ((a0.fPicked.length : Int))), (6, .ref 0 0 0 1 x3.length false), (8, .ptr 1 0 0), (9, I ((w64 (((x3.length : Int)) - v9)))), (10, .ref 2 0 0 3 x17.length false), (11, I x16), (12, .ref 3 0 0 3 x27.length false), (19, A a1), (20, I ((a1.length : Int))), (21, I x2), (32, I ((a0.fPicked.length : Int))), (33, I x16), (55, E a0), (56, I x16)] [some ⟨0, eL x3⟩, some ⟨0, Enc.cells v7⟩, some ⟨0, eL x17⟩, some ⟨0, eL x27⟩] ?_
  obtain ⟨v43, hv44, h⟩ := bindS h
  refine opsP_callF τ 57 (ok_impl_Batch_row hv44) (FzTo.O _) rfl (by kernel_rfl) ?_
  refine veM [8] 1 77 [(2, .fptr (Enc.cells a0) 0), (5, I ((a0.fPicked.length : Int))), (6, .ref 0 0 0 1 x3.length false), (8, .ptr 1 0 0), (9, I ((w64 (((x3.length : Int)) - v9)))), (10, .ref 2 0 0 3 x17.length false), (11, I x16), (12, .ref 3 0 0 3 x27.length false), (13, A v43), (19, A a1), (20, I ((a1.length : Int))), (21, I x2), (32, I ((a0.fPicked.length : Int))), (33, I x16)] [some ⟨0, eL x3⟩, some ⟨0, Enc.cells v7⟩, some ⟨0, eL x17⟩, some ⟨0, eL x27⟩] ?_
  exact ⟨v43, h, (Imp.to (st' := ⟨77, [(2, .fptr (Enc.cells a0) 0), (5, I ((a0.fPicked.length : Int))), (6, .ref 0 0 0 1 x3.length false), (8, .ptr 1 0 0), (9, I ((w64 (((x3.length : Int)) - v9)))), (10, .ref 2 0 0 3 x17.length false), (11, I x16), (12, .ref 3 0 0 3 x27.length false), (13, A v43), (19, A a1), (20, I ((a1.length : Int))), (21, I x2), (32, I ((a0.fPicked.length : Int))), (33, I x16)], [some ⟨0, eL x3⟩, some ⟨0, Enc.cells v7⟩, some ⟨0, eL x17⟩, some ⟨0, eL x27⟩]⟩) [2, 5, 6, 8, 9, 10, 11, 12, 13, 19, 20, 21, 32, 33] (by kernel_rfl)).trans (Imp.to [2, 5, 6, 8, 9, 10, 11, 12, 13, 19, 20, 21, 32, 33] (by kernel_rfl))⟩
  refine pwp_skip ?_
  exact ⟨([] : List T_impl_Value), h, (Imp.to (st' := ⟨77, [(2, .fptr (Enc.cells a0) 0), (5, I ((a0.fPicked.length : Int))), (6, .ref 0 0 0 1 x3.length false), (8, .ptr 1 0 0), (9, I ((w64 (((x3.length : Int)) - v9)))), (10, .ref 2 0 0 3 x17.length false), (11, I x16), (12, .ref 3 0 0 3 x27.length false), (13, .arr 3 0 (eL ([] : List T_impl_Value)) true), (19, A a1), (20, I ((a1.length : Int))), (21, I x2), (32, I ((a0.fPicked.length : Int))), (33, I x16)], [some ⟨0, eL x3⟩, some ⟨0, Enc.cells v7⟩, some ⟨0, eL x17⟩, some ⟨0, eL x27⟩]⟩) [2, 5, 6, 8, 9, 10, 11, 12, 13, 19, 20, 21, 32, 33] (by kernel_rfl)).trans ((Imp.unfS (st' := ⟨77, [(2, .fptr (Enc.cells a0) 0), (5, I ((a0.fPicked.length : Int))), (6, .ref 0 0 0 1 x3.length false), (8, .ptr 1 0 0), (9, I ((w64 (((x3.length : Int)) - v9)))), (10, .ref 2 0 0 3 x17.length false), (11, I x16), (12, .ref 3 0 0 3 x27.length false), (13, A (([] : List T_impl_Value))), (19, A a1), (20, I ((a1.length : Int))), (21, I x2), (32, I ((a0.fPicked.length : Int))), (33, I x16)], [some ⟨0, eL x3⟩, some ⟨0, Enc.cells v7⟩, some ⟨0, eL x17⟩, some ⟨0, eL x27⟩]⟩) 13 [2, 5, 6, 8, 9, 10, 11, 12, 13, 19, 20, 21, 32, 33] (by kernel_rfl)).trans (Imp.to [2, 5, 6, 8, 9, 10, 11, 12, 13, 19, 20, 21, 32, 33] (by kernel_rfl)))⟩
  rintro x37 h
  unfold impl_Batch_values_R_j3 at h
  refine rvM [8] 5 77 [(2, .fptr (Enc.cells a0) 0), (5, I ((a0.fPicked.length : Int))), (6, .ref 0 0 0 1 x3.length false), (8, .ptr 1 0 0), (9, I ((w64 (((x3.length : Int)) - v9)))), (10, .ref 2 0 0 3 x17.length false), (19, A a1), (20, I ((a1.length : Int))), (21, I x2), (32, I ((a0.fPicked.length : Int))), (33, I x16), (58, .ref 2 0 0 3 x17.length false), (59, I x16), (60, E v7), (61, A x37), (62, .ref 3 0 0 3 x27.length false)] [some ⟨0, eL x3⟩, some ⟨0, Enc.cells v7⟩, some ⟨0, eL x17⟩, some ⟨0, eL x27⟩] ?_
  obtain ⟨v38, hv39, h⟩ := bindS h
  refine opsP_callV (xs := [E v7, A x37, .ref 3 0 0 3 x27.length false]) τ 63 (ok_impl_Part_value hv39) (Blind.E _ rfl rfl) (FzTo.frz rfl) (by kernel_rfl) (ViewL.cons (View.frz rfl) (ViewL.cons (View.frz rfl) (ViewL.cons (View.whole (v := 0) x27 (by kernel_rfl) rfl) (ViewL.nil _)))) ?_
  obtain ⟨v40, hv41, h⟩ := bindS h
  refine opsP_idr τ_ok 64 2 0 x17.length hv41 rfl (by kernel_rfl) ?_
  refine vM [8] 0 77 [(2, .fptr (Enc.cells a0) 0), (5, I ((a0.fPicked.length : Int))), (6, .ref 0 0 0 1 x3.length false), (8, .ptr 1 0 0), (9, I ((w64 (((x3.length : Int)) - v9)))), (10, .ref 2 0 0 3 x17.length false), (19, A a1), (20, I ((a1.length : Int))), (21, I x2), (32, I ((a0.fPicked.length : Int))), (33, I x16), (63, E v38), (64, .ptr 2 0 (x16.toNat * 3))] [some ⟨0, eL x3⟩, some ⟨0, Enc.cells v7⟩, some ⟨0, eL x17⟩, some ⟨0, eL x27⟩] ?_
  refine opsP_ste (vs := [I v38.fKind, I v38.fN, S v38.fS]) τ_ok 117 2 0 0 v38 hv41 (by kernel_rfl) (by kernel_rfl) (by kernel_rfl) (renC trivial (renC trivial (renC (ren_ne rfl) (renC trivial (renC trivial (renC (ren_ref (List.length_set ..).symm) (renC trivial (renC trivial (renC trivial (renC trivial (renC trivial (renC trivial (renC trivial renC0))))))))))))) ?_
  refine veM [8] 0 77 [(2, .fptr (Enc.cells a0) 0), (5, I ((a0.fPicked.length : Int))), (6, .ref 0 0 0 1 x3.length false), (8, .ptr 1 0 0), (9, I ((w64 (((x3.length : Int)) - v9)))), (10, .ref 2 0 0 3 ((x17.set x16.toNat v38)).length false), (19, A a1), (20, I ((a1.length : Int))), (21, I x2), (32, I ((a0.fPicked.length : Int))), (33, I x16)] [some ⟨0, eL x3⟩, some ⟨0, Enc.cells v7⟩, some ⟨0, eL ((x17.set x16.toNat v38))⟩, some ⟨0, eL x27⟩] ?_
  refine rveM [8] 77 [(2, .fptr (Enc.cells a0) 0), (5, I ((a0.fPicked.length : Int))), (6, .ref 0 0 0 1 x3.length false), (8, .ptr 1 0 0), (9, I ((w64 (((x3.length : Int)) - v9)))), (10, .ref 2 0 0 3 ((x17.set x16.toNat v38)).length false), (19, A a1), (20, I ((a1.length : Int))), (21, I x2), (32, I ((a0.fPicked.length : Int))), (33, I ((w64 (x16 + 1))))] [some ⟨0, eL x3⟩, some ⟨0, Enc.cells v7⟩, some ⟨0, eL ((x17.set x16.toNat v38))⟩, some ⟨0, eL x27⟩] ?_
  exact ⟨(f18, (w64 (x16 + 1)), (x17.set x16.toNat v38)), h, Nat.lt_succ_self _, (Imp.to (st' := ⟨77, [(2, .fptr (Enc.cells a0) 0), (5, I ((a0.fPicked.length : Int))), (6, .ref 0 0 0 1 x3.length false), (8, .ptr 1 0 0), (9, I ((w64 (((x3.length : Int)) - v9)))), (10, .ref 2 0 0 3 ((x17.set x16.toNat v38)).length false), (19, A a1), (20, I ((a1.length : Int))), (21, I x2), (32, I ((a0.fPicked.length : Int))), (33, I ((w64 (x16 + 1))))], [some ⟨0, eL x3⟩, some ⟨0, Enc.cells v7⟩, some ⟨0, eL ((x17.set x16.toNat v38))⟩, some ⟨0, eL x27⟩]⟩) [2, 5, 6, 8, 9, 10, 19, 20, 21, 32, 33] (by kernel_rfl)).trans ((Imp.truncS (st' := ⟨77, [(2, .fptr (Enc.cells a0) 0), (5, I ((a0.fPicked.length : Int))), (6, .ref 0 0 0 1 x3.length false), (8, .ptr 1 0 0), (9, I ((w64 (((x3.length : Int)) - v9)))), (10, .ref 2 0 0 3 ((x17.set x16.toNat v38)).length false), (19, A a1), (20, I ((a1.length : Int))), (21, I x2), (32, I ((a0.fPicked.length : Int))), (33, I ((w64 (x16 + 1))))], [some ⟨0, eL x3⟩, some ⟨0, Enc.cells v7⟩, some ⟨0, eL ((x17.set x16.toNat v38))⟩]⟩) 3 (fun b hb => absurd hb (hX b)) (by kernel_rfl) (allBelow_mem (by exact (And.intro rfl (And.intro rfl (And.intro rfl (And.intro rfl (And.intro rfl (And.intro rfl (And.intro rfl (And.intro rfl (And.intro rfl (And.intro rfl (And.intro rfl trivial))))))))))))) (by exact (And.intro (frz_below (eL_frz _)) (And.intro (rfl) (And.intro (frz_below (eL_frz _)) trivial)))) (by kernel_rfl)).trans (Imp.to [2, 5, 6, 8, 9, 10, 19, 20, 21, 32, 33] (by kernel_rfl)))⟩
  refine pwp_exit ?_
  refine rvM [8] 2 77 [(2, .fptr (Enc.cells a0) 0), (5, I ((a0.fPicked.length : Int))), (10, .ref 2 0 0 3 x17.length false), (19, A a1), (20, I ((a1.length : Int))), (21, I x2), (66, .ref 0 0 0 1 x3.length false), (67, I ((w64 (((x3.length : Int)) - v9))))] [some ⟨0, eL x3⟩, some ⟨0, Enc.cells v7⟩, some ⟨0, eL x17⟩] ?_
  obtain ⟨v45, hv46, h⟩ := bindS h
  refine opsP_slr τ_ok 68 0 0 x3.length hv46 rfl (by kernel_rfl) ?_
  refine vM [8] 1 77 [(2, .fptr (Enc.cells a0) 0), (5, I ((a0.fPicked.length : Int))), (19, A a1), (20, I ((a1.length : Int))), (21, I x2), (68, .ref 0 0 0 1 v45.length false), (69, .ref 2 0 0 3 x17.length false)] [some ⟨0, eL x3⟩, some ⟨0, Enc.cells v7⟩, some ⟨0, eL x17⟩] ?_
  refine opsP_imp ((Imp.freezeB (v := 0) (cs := eL x17) (st' := ⟨77, [(2, .fptr (Enc.cells a0) 0), (5, I ((a0.fPicked.length : Int))), (19, A a1), (20, I ((a1.length : Int))), (21, I x2), (68, .ref 0 0 0 1 v45.length false), (69, A x17)], [some ⟨0, eL x3⟩, some ⟨0, Enc.cells v7⟩, none]⟩) 2 0 (fun b hb => absurd hb (hX b)) (by kernel_rfl) (eL_frz _) (wholeC (whole_noRef (by kernel_rfl)) (wholeC (whole_noRef (by kernel_rfl)) (wholeC (whole_noRef (by kernel_rfl)) (wholeC (whole_noRef (by kernel_rfl)) (wholeC (whole_noRef (by kernel_rfl)) (wholeC (whole_ne rfl) (wholeC (whole_is (eL_len x17).symm) wholeC0))))))) (HpRel.frz rfl (eL_frz _) (HpRel.frz rfl (Enc.frz _) (HpRel.key HpRel.nil))) (by kernel_rfl) rfl (fun b hb => absurd hb (hX b)))) ?_
  refine vM [8] 1 77 [(2, .fptr (Enc.cells a0) 0), (5, I ((a0.fPicked.length : Int))), (19, A a1), (20, I ((a1.length : Int))), (21, I x2), (68, .ref 0 0 0 1 v45.length false), (70, .arr 1 (([x17] : List (List T_impl_Value))).length (eL ([x17] : List (List T_impl_Value))) true)] [some ⟨0, eL x3⟩, some ⟨0, Enc.cells v7⟩, none] ?_
  obtain ⟨v47, hv48, h⟩ := bindS h
  refine opsP_apt τ_ok 71 0 0 v45.length (fun b hb => absurd hb (hX b)) hv48 (slI_le hv46) (by kernel_rfl) ?_
  refine veM [8] 1 77 [(2, .fptr (Enc.cells a0) 0), (5, I ((a0.fPicked.length : Int))), (6, .ref 0 1 0 1 v47.length false), (19, A a1), (20, I ((a1.length : Int))), (21, I x2)] [some ⟨1, eL v47⟩, some ⟨0, Enc.cells v7⟩, none] ?_
  refine rveM [8] 77 [(2, .fptr (Enc.cells a0) 0), (5, I ((a0.fPicked.length : Int))), (6, .ref 0 1 0 1 v47.length false), (19, A a1), (20, I ((a1.length : Int))), (21, I ((w64 (x2 + 1))))] [some ⟨1, eL v47⟩, some ⟨0, Enc.cells v7⟩, none] ?_
  exact ⟨(f4, (w64 (x2 + 1)), v47), h, Nat.lt_succ_self _, (Imp.to (st' := ⟨77, [(2, .fptr (Enc.cells a0) 0), (5, I ((a0.fPicked.length : Int))), (6, .ref 0 1 0 1 v47.length false), (19, A a1), (20, I ((a1.length : Int))), (21, I ((w64 (x2 + 1))))], [some ⟨1, eL v47⟩, some ⟨0, Enc.cells v7⟩, none]⟩) [2, 5, 6, 19, 20, 21] (by kernel_rfl)).trans ((Imp.truncS (st' := ⟨77, [(2, .fptr (Enc.cells a0) 0), (5, I ((a0.fPicked.length : Int))), (6, .ref 0 1 0 1 v47.length false), (19, A a1), (20, I ((a1.length : Int))), (21, I ((w64 (x2 + 1))))], [some ⟨1, eL v47⟩]⟩) 1 (fun b hb => absurd hb (hX b)) (by kernel_rfl) (allBelow_mem (by exact (And.intro rfl (And.intro rfl (And.intro rfl (And.intro rfl (And.intro rfl (And.intro rfl trivial)))))))) (by exact (And.intro (frz_below (eL_frz _)) trivial)) (by kernel_rfl)).trans ((Imp.reverS (st' := ⟨77, [(2, .fptr (Enc.cells a0) 0), (5, I ((a0.fPicked.length : Int))), (6, .ref 0 0 0 1 v47.length false), (19, A a1), (20, I ((a1.length : Int))), (21, I ((w64 (x2 + 1))))], [some ⟨0, eL v47⟩]⟩) 0 1 (eL v47) [2, 5, 6, 19, 20, 21] (by kernel_rfl) (by exact (And.intro (eL_frz _) trivial)) (by kernel_rfl)).trans (Imp.to [2, 5, 6, 19, 20, 21] (by kernel_rfl))))⟩
  refine pwp_exit ?_
  refine srvM [8] 1 77 [(73, .ref 0 0 0 1 x3.length false)] [some ⟨0, eL x3⟩] ?_
  obtain ⟨v49, hv50, h⟩ := bindS h
  refine opsP_idr τ_ok 74 0 0 x3.length hv50 rfl (by kernel_rfl) ?_
  refine opsP_lde (r := A v49) τ_ok 75 36 0 hv50 (by kernel_rfl) (by kernel_rfl) ?_
  obtain ⟨v51, hv52, h⟩ := bindS h
  refine opsP_callO τ 76 (ok_impl_clone_impl_Value_R hv52) rfl (by kernel_rfl) ?_
  refine veM [8] 1 77 [(4, .ref 1 0 0 3 v51.length false)] [some ⟨0, eL x3⟩, some ⟨0, eL v51⟩] ?_
  have h := si h
  subst h
  exact pwp_ret (rt (.ref 1 0 0 3 v51.length false) (OutP.list (v := 0) (by kernel_rfl)))
def impl_BatchValues_R_j0 (a1 : T_impl_Batch) (a2 : List T_impl_Part) (x1 : Bool) : Option (List T_impl_Value) := bif x1 then some (([] : List T_impl_Value)) else (impl_Batch_values_R a1 a2).bind fun v3 => some v3
def impl_BatchValues_R (a0 : List T_impl_Column) (a1 : T_impl_Batch) (a2 : List T_impl_Part) : Option (List T_impl_Value) := (impl_ExprKind a0 a2).bind fun v5 => bif (decide (v5 < 0)) then impl_BatchValues_R_j0 a1 a2 true else (impl_Batch_fits a1 a0).bind fun v7 => impl_BatchValues_R_j0 a1 a2 ((!v7))
theorem ok_impl_BatchValues_R {a0 : List T_impl_Column} {a1 : T_impl_Batch} {a2 : List T_impl_Part} {y : List T_impl_Value} (h : impl_BatchValues_R a0 a1 a2 = some y) : OK Tryz.prog 33 [A a0, E a1, A a2] (O y) := by
  refine OK_of_pwp τ_ok Tryz.func33 rfl (by kernel_rfl) rfl fun Γ hX => ?_
  unfold impl_BatchValues_R at h
  refine srve 20 [(0, A a0), (2, A a2), (4, .fptr (Enc.cells a1) 0)] [] ?_
  refine pwp_seq ?_
  refine pwp_seq ?_
  refine pwp_join (σ := Bool) (fun x1 => (⟨20, [(2, A a2), (4, .fptr (Enc.cells a1) 0), (16, B x1)], []⟩ : St)) (fun x1 => impl_BatchValues_R_j0 a1 a2 x1 = some y) ?_ ?_
  refine rv 2 20 [(0, A a0), (2, A a2), (4, .fptr (Enc.cells a1) 0), (7, A a0), (8, A a2)] [] ?_
  obtain ⟨v5, hv6, h⟩ := bindS h
  refine opsP_callF τ 9 (ok_impl_ExprKind hv6) (FzTo.frz rfl) rfl (by kernel_rfl) ?_
  refine v 2 20 [(0, A a0), (2, A a2), (4, .fptr (Enc.cells a1) 0), (11, B ((decide (v5 < 0))))] [] ?_
  rcases fk ((decide (v5 < 0))) with hc9 | hc9
  replace h := bT hc9 h
  rw [hc9]
  refine ve 5 20 [(2, A a2), (4, .fptr (Enc.cells a1) 0), (16, B true)] [] ?_
  exact ⟨true, h, (Imp.to (st' := ⟨20, [(2, A a2), (4, .fptr (Enc.cells a1) 0), (16, B true)], []⟩) [2, 4, 16] (by kernel_rfl)).trans (Imp.to [2, 4, 16] (by kernel_rfl))⟩
  replace h := bF hc9 h
  rw [hc9]
  refine v 2 20 [(2, A a2), (4, .fptr (Enc.cells a1) 0), (11, B false), (12, E a1), (13, A a0)] [] ?_
  obtain ⟨v7, hv8, h⟩ := bindS h
  refine opsP_callF τ 14 (ok_impl_Batch_fits hv8) (FzTo.frz rfl) rfl (by kernel_rfl) ?_
  refine ve 2 20 [(2, A a2), (4, .fptr (Enc.cells a1) 0), (16, B ((!v7)))] [] ?_
  exact ⟨(!v7), h, (Imp.to (st' := ⟨20, [(2, A a2), (4, .fptr (Enc.cells a1) 0), (16, B ((!v7)))], []⟩) [2, 4, 16] (by kernel_rfl)).trans (Imp.to [2, 4, 16] (by kernel_rfl))⟩
  rintro x1 h
  unfold impl_BatchValues_R_j0 at h
  refine pc h (fun h => ?_) (fun h => ?_)
  refine srve 20 [(6, .arr 3 0 (eL ([] : List T_impl_Value)) true)] [] ?_
  refine pwp_imp (Imp.to (st' := ⟨20, [(6, .arr 3 0 (eL ([] : List T_impl_Value)) true)], []⟩) [6] (by kernel_rfl)) ?_
  refine pwp_imp (Imp.thawS (st' := ⟨20, [(6, .ref 0 0 0 3 (([] : List T_impl_Value)).length false)], [some ⟨0, eL (([] : List T_impl_Value))⟩]⟩) 6 [6] (by kernel_rfl)) ?_
  have h := si h
  subst h
  exact pwp_ret (rt (.ref 0 0 0 3 (([] : List T_impl_Value)).length false) (OutP.list (v := 0) (by kernel_rfl)))
  refine pwp_skip ?_
  refine srv 2 20 [(17, E a1), (18, A a2)] [] ?_
  obtain ⟨v3, hv4, h⟩ := bindS h
  refine opsP_callO τ 19 (ok_impl_Batch_values_R hv4) rfl (by kernel_rfl) ?_
  refine ve 1 20 [(6, .ref 0 0 0 3 v3.length false)] [some ⟨0, eL v3⟩] ?_
  have h := si h
  subst h
  exact pwp_ret (rt (.ref 0 0 0 3 v3.length false) (OutP.list (v := 0) (by kernel_rfl)))
def laws_FnExactBatchValues_j0 (a0 : List T_laws_Column) (a1 : T_laws_Batch) (a2 : List T_laws_Part) (v16 : List T_impl_Value) (v24 : List T_impl_Value) (x50 : Bool) : Option Bool := bif x50 then some false else (laws_markValueS v24 1).bind fun v52 => (laws_heldValueS v52.2 1).bind fun v54 => bif (decide (v54 < 0)) then some false else bif (!(v54 == v52.1)) then some false else (laws_toColumnS a0).bind fun v58 => (laws_toBatch_D a1).bind fun v60 => (laws_toPartS a2).bind fun v62 => (impl_BatchValues_R v58 v60 v62).bind fun v64 => (laws_eqValueS v64 v16).bind fun v66 => bif (!v66) then some false else (laws_heldValueS v52.2 1).bind fun v69 => bif (decide (v69 < 0)) then some false else bif (!(v69 == v52.1)) then some false else some true
def laws_FnExactBatchValues (a0 : List T_laws_Column) (a1 : T_laws_Batch) (a2 : List T_laws_Part) : Option Bool := (laws_szColumnS a0 1048576).bind fun v1 => bif (decide (v1 < 0)) then some true else (laws_szBatch a1 v1).bind fun v4 => bif (decide (v4 < 0)) then some true else (laws_szPartS a2 v4).bind fun v7 => bif (decide (v7 < 0)) then some true else (laws_toColumnS a0).bind fun v10 => (laws_toBatch_D a1).bind fun v12 => (laws_toPartS a2).bind fun v14 => (spec_BatchValues v10 v12 v14).bind fun v16 => (laws_toColumnS a0).bind fun v18 => (laws_toBatch_D a1).bind fun v20 => (laws_toPartS a2).bind fun v22 => (impl_BatchValues_R v18 ({ (({ v20 with fColumns := v20.fColumns }) : T_impl_Batch) with fPicked := v20.fPicked }) v22).bind fun v24 => (laws_eqValueS v24 v16).bind fun v26 => bif (!v26) then some false else (laws_toColumnS a0).bind fun v29 => (laws_eqColumnS v18 v29).bind fun v31 => bif (!v31) then some false else (laws_toBatch_D a1).bind fun v34 => (laws_eqBatch ({ (({ v20 with fColumns := v20.fColumns }) : T_impl_Batch) with fPicked := v20.fPicked }) v34).bind fun v36 => bif (!v36) then some false else (laws_toPartS a2).bind fun v39 => (laws_eqPartS v22 v39).bind fun v41 => bif (!v41) then some false else (laws_markColumnS v18 1).bind fun v44 => (laws_markBatch ({ (({ v20 with fColumns := v20.fColumns }) : T_impl_Batch) with fPicked := v20.fPicked }) v44.1).bind fun v46 => (laws_markPartS v22 v46).bind fun v48 => bif (decide (v48.1 < 0)) then laws_FnExactBatchValues_j0 a0 a1 a2 v16 v24 true else (laws_eqValueS v24 v16).bind fun v73 => laws_FnExactBatchValues_j0 a0 a1 a2 v16 v24 ((!v73))
theorem ok_laws_FnExactBatchValues {a0 : List T_laws_Column} {a1 : T_laws_Batch} {a2 : List T_laws_Part} {y : Bool} (h : laws_FnExactBatchValues a0 a1 a2 = some y) : OK Tryz.prog 4 [A a0, E a1, A a2] (B y) := by
  refine OK_of_pwp τ_ok Tryz.func4 rfl (by kernel_rfl) rfl fun Γ hX => ?_
  unfold laws_FnExactBatchValues at h
  refine srveM [10] 115 [(0, A a0), (2, A a2), (4, .fptr (Enc.cells a1) 0)] [] ?_
  refine srveM [10] 115 [(0, A a0), (2, A a2), (4, .fptr (Enc.cells a1) 0), (7, I 1048576)] [] ?_
  refine srvM [10] 2 115 [(0, A a0), (2, A a2), (4, .fptr (Enc.cells a1) 0), (17, A a0), (18, I 1048576)] [] ?_
  obtain ⟨v1, hv2, h⟩ := bindS h
  refine opsP_callF τ 19 (ok_laws_szColumnS hv2) (FzTo.frz rfl) rfl (by kernel_rfl) ?_
  refine veM [10] 1 115 [(0, A a0), (2, A a2), (4, .fptr (Enc.cells a1) 0), (7, I v1)] [] ?_
  refine pwp_seq ?_
  refine srveM [10] 115 [(0, A a0), (2, A a2), (4, .fptr (Enc.cells a1) 0), (7, I v1), (21, B ((decide (v1 < 0))))] [] ?_
  refine pc h (fun h => ?_) (fun h => ?_)
  refine srveM [10] 115 [(6, B true)] [] ?_
  cases h
  exact pwp_ret rz
  refine pwp_skip ?_
  refine srvM [10] 2 115 [(0, A a0), (2, A a2), (4, .fptr (Enc.cells a1) 0), (22, E a1), (23, I v1)] [] ?_
  obtain ⟨v4, hv5, h⟩ := bindS h
  refine opsP_callF τ 24 (ok_laws_szBatch hv5) (FzTo.frz rfl) rfl (by kernel_rfl) ?_
  refine veM [10] 1 115 [(0, A a0), (2, A a2), (4, .fptr (Enc.cells a1) 0), (7, I v4)] [] ?_
  refine pwp_seq ?_
  refine srveM [10] 115 [(0, A a0), (2, A a2), (4, .fptr (Enc.cells a1) 0), (7, I v4), (26, B ((decide (v4 < 0))))] [] ?_
  refine pc h (fun h => ?_) (fun h => ?_)
  refine srveM [10] 115 [(6, B true)] [] ?_
  cases h
  exact pwp_ret rz
  refine pwp_skip ?_
  refine srvM [10] 2 115 [(0, A a0), (2, A a2), (4, .fptr (Enc.cells a1) 0), (27, A a2), (28, I v4)] [] ?_
  obtain ⟨v7, hv8, h⟩ := bindS h
  refine opsP_callF τ 29 (ok_laws_szPartS hv8) (FzTo.frz rfl) rfl (by kernel_rfl) ?_
  refine veM [10] 1 115 [(0, A a0), (2, A a2), (4, .fptr (Enc.cells a1) 0), (7, I v7)] [] ?_
  refine pwp_seq ?_
  refine srveM [10] 115 [(0, A a0), (2, A a2), (4, .fptr (Enc.cells a1) 0), (31, B ((decide (v7 < 0))))] [] ?_
  refine pc h (fun h => ?_) (fun h => ?_)
  refine srveM [10] 115 [(6, B true)] [] ?_
  cases h
  exact pwp_ret rz
  refine pwp_skip ?_
  refine pwp_seq ?_
  refine pwp_imp (Imp.to (st' := ⟨115, [(0, A a0), (2, A a2), (4, .fptr (Enc.cells a1) 0)], []⟩) [0, 2, 4] (by kernel_rfl)) ?_
  refine pwp_any ([[], [], [], [], [], [], [], []]) ([[], [], [], [], [], [], [], []]) rfl (by kernel_rfl) ?_
  refine qA_ev (st' := ⟨115, [(32, A a0), (0, A a0), (2, A a2), (4, .fptr (Enc.cells a1) 0)], []⟩) τ_ok [10] [] 1 (by exact trivial) (by kernel_rfl) ?_
  obtain ⟨v10, hv11, h⟩ := bindS h
  refine qA_E (dd := some 33) (x := A v10) ([]) (⟨115, [(33, A v10), (32, A a0), (0, A a0), (2, A a2), (4, .fptr (Enc.cells a1) 0)], []⟩) (fun Γ' hΓ => CoreE.of_g (callV_sound (τ := τ) (by kernel_rfl) rfl (ok_laws_toColumnS hv11) (FzTo.O _))) (by kernel_rfl) (by kernel_rfl) (by exact trivial) (.inr (.inr rfl)) (by kernel_rfl) ?_
  refine qA_ev (st' := ⟨115, [(34, E a1), (33, A v10), (32, A a0), (0, A a0), (2, A a2), (4, .fptr (Enc.cells a1) 0)], []⟩) τ_ok [10] [] 1 (by exact trivial) (by kernel_rfl) ?_
  obtain ⟨v12, hv13, h⟩ := bindS h
  refine qA_E (dd := some 35) (x := E v12) ([]) (⟨115, [(35, E v12), (34, E a1), (33, A v10), (32, A a0), (0, A a0), (2, A a2), (4, .fptr (Enc.cells a1) 0)], []⟩) (fun Γ' hΓ => CoreE.of_g (callV_sound (τ := τ) (by kernel_rfl) rfl (ok_laws_toBatch_D hv13) (FzTo.agg (DEnc.fz _)))) (by kernel_rfl) (by kernel_rfl) (by exact trivial) (.inr (.inr rfl)) (by kernel_rfl) ?_
  refine qA_ev (st' := ⟨115, [(36, A a2), (35, E v12), (34, E a1), (33, A v10), (32, A a0), (0, A a0), (2, A a2), (4, .fptr (Enc.cells a1) 0)], []⟩) τ_ok [10] [] 1 (by exact trivial) (by kernel_rfl) ?_
  obtain ⟨v14, hv15, h⟩ := bindS h
  refine qA_E (dd := some 37) (x := A v14) ([]) (⟨115, [(37, A v14), (36, A a2), (35, E v12), (34, E a1), (33, A v10), (32, A a0), (0, A a0), (2, A a2), (4, .fptr (Enc.cells a1) 0)], []⟩) (fun Γ' hΓ => CoreE.of_g (callV_sound (τ := τ) (by kernel_rfl) rfl (ok_laws_toPartS hv15) (FzTo.O _))) (by kernel_rfl) (by kernel_rfl) (by exact trivial) (.inr (.inr rfl)) (by kernel_rfl) ?_
  obtain ⟨v16, hv17, h⟩ := bindS h
  refine qA_E (dd := some 38) (x := A v16) ([]) (⟨115, [(38, A v16), (37, A v14), (36, A a2), (35, E v12), (34, E a1), (33, A v10), (32, A a0), (0, A a0), (2, A a2), (4, .fptr (Enc.cells a1) 0)], []⟩) (fun Γ' hΓ => CoreE.of_g (callV_sound (τ := τ) (by kernel_rfl) rfl (ok_spec_BatchValues hv17) (FzTo.frz rfl))) (by kernel_rfl) (by kernel_rfl) (by exact trivial) (.inr (.inr rfl)) (by kernel_rfl) ?_
  refine qA_ev (st' := ⟨115, [(8, A v16), (38, A v16), (37, A v14), (36, A a2), (35, E v12), (34, E a1), (33, A v10), (32, A a0), (0, A a0), (2, A a2), (4, .fptr (Enc.cells a1) 0)], []⟩) τ_ok [10] [] 1 (by exact trivial) (by kernel_rfl) ?_
  refine qA_end ?_
  refine opsP_imp (Imp.to (st' := ⟨115, [(0, A a0), (2, A a2), (4, .fptr (Enc.cells a1) 0), (8, A v16)], []⟩) [0, 2, 4, 8] (by kernel_rfl)) ?_
  refine opsP_end rfl ?_
  refine srvM [10] 1 115 [(0, A a0), (2, A a2), (4, .fptr (Enc.cells a1) 0), (8, A v16), (39, A a0)] [] ?_
  obtain ⟨v18, hv19, h⟩ := bindS h
  refine opsP_callO τ 40 (ok_laws_toColumnS hv19) rfl (by kernel_rfl) ?_
  refine veM [10] 1 115 [(0, A a0), (2, A a2), (4, .fptr (Enc.cells a1) 0), (8, A v16), (9, .ref 0 0 0 2 v18.length false)] [some ⟨0, eL v18⟩] ?_
  refine srvM [10] 1 115 [(0, A a0), (2, A a2), (4, .fptr (Enc.cells a1) 0), (8, A v16), (9, .ref 0 0 0 2 v18.length false), (41, E a1)] [some ⟨0, eL v18⟩] ?_
  obtain ⟨v20, hv21, h⟩ := bindS h
  refine opsP_callO τ 42 (ok_laws_toBatch_D hv21) rfl (by kernel_rfl) ?_
  refine vM [10] 0 115 [(0, A a0), (2, A a2), (4, .fptr (Enc.cells a1) 0), (8, A v16), (9, .ref 0 0 0 2 v18.length false), (42, .agg [.ref 1 0 0 1 v20.fColumns.length false, .ref 2 0 0 1 v20.fPicked.length false])] [some ⟨0, eL v18⟩, some ⟨0, dL v20.fColumns⟩, some ⟨0, eL v20.fPicked⟩] ?_
  refine opsP_imp (Imp.ghosts 1 (st' := ⟨115, [(0, A a0), (2, A a2), (4, .fptr (Enc.cells a1) 0), (8, A v16), (9, .ref 0 0 0 2 v18.length false), (42, .agg [.ref 1 0 0 1 v20.fColumns.length false, .ref 2 0 0 1 v20.fPicked.length false])], [some ⟨0, eL v18⟩, some ⟨0, dL v20.fColumns⟩, some ⟨0, eL v20.fPicked⟩, some ⟨0, []⟩]⟩) (by kernel_rfl)) ?_
  refine opsP_E (dd := some 10) (x := .ptr 3 1 0) (alz_E (blk := ⟨0, []⟩) (zs := [.arr 1 0 [] true, .arr 1 0 [] true]) 10 63 3 0 (fun b hb => absurd hb (hX b)) zi_ok63 (by kernel_rfl) (by kernel_rfl)) ?_
  refine veM [10] 1 115 [(0, A a0), (2, A a2), (4, .fptr (Enc.cells a1) 0), (8, A v16), (9, .ref 0 0 0 2 v18.length false), (10, .ptr 3 1 0)] [some ⟨0, eL v18⟩, some ⟨0, dL v20.fColumns⟩, some ⟨0, eL v20.fPicked⟩, some ⟨1, [.ref 1 0 0 1 v20.fColumns.length false, .ref 2 0 0 1 v20.fPicked.length false]⟩] ?_
  refine srvM [10] 1 115 [(0, A a0), (2, A a2), (4, .fptr (Enc.cells a1) 0), (8, A v16), (9, .ref 0 0 0 2 v18.length false), (10, .ptr 3 1 0), (43, A a2)] [some ⟨0, eL v18⟩, some ⟨0, dL v20.fColumns⟩, some ⟨0, eL v20.fPicked⟩, some ⟨1, [.ref 1 0 0 1 v20.fColumns.length false, .ref 2 0 0 1 v20.fPicked.length false]⟩] ?_
  obtain ⟨v22, hv23, h⟩ := bindS h
  refine opsP_callO τ 44 (ok_laws_toPartS hv23) rfl (by kernel_rfl) ?_
  refine veM [10] 1 115 [(0, A a0), (2, A a2), (4, .fptr (Enc.cells a1) 0), (8, A v16), (9, .ref 0 0 0 2 v18.length false), (10, .ptr 3 1 0), (11, .ref 4 0 0 5 v22.length false)] [some ⟨0, eL v18⟩, some ⟨0, dL v20.fColumns⟩, some ⟨0, eL v20.fPicked⟩, some ⟨1, [.ref 1 0 0 1 v20.fColumns.length false, .ref 2 0 0 1 v20.fPicked.length false]⟩, some ⟨0, eL v22⟩] ?_
  refine srvM [10] 3 115 [(0, A a0), (2, A a2), (4, .fptr (Enc.cells a1) 0), (8, A v16), (9, .ref 0 0 0 2 v18.length false), (10, .ptr 3 1 0), (11, .ref 4 0 0 5 v22.length false), (45, .ref 0 0 0 2 v18.length false), (46, .agg [.ref 1 0 0 1 v20.fColumns.length false, .ref 2 0 0 1 v20.fPicked.length false]), (47, .ref 4 0 0 5 v22.length false)] [some ⟨0, eL v18⟩, some ⟨0, dL v20.fColumns⟩, some ⟨0, eL v20.fPicked⟩, some ⟨1, [.ref 1 0 0 1 v20.fColumns.length false, .ref 2 0 0 1 v20.fPicked.length false]⟩, some ⟨0, eL v22⟩] ?_
  obtain ⟨v24, hv25, h⟩ := bindS h
  refine opsP_E (dd := some 48) (x := .ref 5 0 0 3 v24.length false) (callVN_E (xs := [.ref 0 0 0 2 v18.length false, .agg [.ref 1 0 0 1 v20.fColumns.length false, .ref 2 0 0 1 v20.fPicked.length false], .ref 4 0 0 5 v22.length false]) τ 48 5 (fun b hb => absurd hb (hX b)) (by kernel_rfl) (ok_impl_BatchValues_R hv25) (Blind.O (fun _ => rfl) _) (by kernel_rfl) (ViewL.cons (View.whole (v := 0) v18 (by kernel_rfl) rfl) (ViewL.cons (View.agg (ViewL.cons (View.deep (v := 0) v20.fColumns (by kernel_rfl) rfl) (ViewL.cons (View.whole (v := 0) v20.fPicked (by kernel_rfl) rfl) (ViewL.nil _)))) (ViewL.cons (View.whole (v := 0) v22 (by kernel_rfl) rfl) (ViewL.nil _))))) ?_
  refine veM [10] 1 115 [(0, A a0), (2, A a2), (4, .fptr (Enc.cells a1) 0), (8, A v16), (9, .ref 0 0 0 2 v18.length false), (10, .ptr 3 1 0), (11, .ref 4 0 0 5 v22.length false), (12, .ref 5 0 0 3 v24.length false)] [some ⟨0, eL v18⟩, some ⟨0, dL v20.fColumns⟩, some ⟨0, eL v20.fPicked⟩, some ⟨1, [.ref 1 0 0 1 v20.fColumns.length false, .ref 2 0 0 1 v20.fPicked.length false]⟩, some ⟨0, eL v22⟩, some ⟨0, eL v24⟩] ?_
  refine pwp_seq ?_
  refine srvM [10] 2 115 [(0, A a0), (2, A a2), (4, .fptr (Enc.cells a1) 0), (8, A v16), (9, .ref 0 0 0 2 v18.length false), (10, .ptr 3 1 0), (11, .ref 4 0 0 5 v22.length false), (12, .ref 5 0 0 3 v24.length false), (49, .ref 5 0 0 3 v24.length false), (50, A v16)] [some ⟨0, eL v18⟩, some ⟨0, dL v20.fColumns⟩, some ⟨0, eL v20.fPicked⟩, some ⟨1, [.ref 1 0 0 1 v20.fColumns.length false, .ref 2 0 0 1 v20.fPicked.length false]⟩, some ⟨0, eL v22⟩, some ⟨0, eL v24⟩] ?_
  obtain ⟨v26, hv27, h⟩ := bindS h
  refine opsP_callV (xs := [.ref 5 0 0 3 v24.length false, A v16]) τ 51 (ok_laws_eqValueS hv27) (Blind.lit _) (FzTo.frz rfl) (by kernel_rfl) (ViewL.cons (View.whole (v := 0) v24 (by kernel_rfl) rfl) (ViewL.cons (View.frz rfl) (ViewL.nil _))) ?_
  refine veM [10] 1 115 [(0, A a0), (2, A a2), (4, .fptr (Enc.cells a1) 0), (8, A v16), (9, .ref 0 0 0 2 v18.length false), (10, .ptr 3 1 0), (11, .ref 4 0 0 5 v22.length false), (12, .ref 5 0 0 3 v24.length false), (52, B ((!v26)))] [some ⟨0, eL v18⟩, some ⟨0, dL v20.fColumns⟩, some ⟨0, eL v20.fPicked⟩, some ⟨1, [.ref 1 0 0 1 v20.fColumns.length false, .ref 2 0 0 1 v20.fPicked.length false]⟩, some ⟨0, eL v22⟩, some ⟨0, eL v24⟩] ?_
  refine pc h (fun h => ?_) (fun h => ?_)
  refine srveM [10] 115 [(6, B false)] [some ⟨0, eL v18⟩, some ⟨0, dL v20.fColumns⟩, some ⟨0, eL v20.fPicked⟩, some ⟨1, [.ref 1 0 0 1 v20.fColumns.length false, .ref 2 0 0 1 v20.fPicked.length false]⟩, some ⟨0, eL v22⟩, some ⟨0, eL v24⟩] ?_
  cases h
  exact pwp_ret rz
  refine pwp_skip ?_
  refine pwp_seq ?_
  refine srvM [10] 2 115 [(0, A a0), (2, A a2), (4, .fptr (Enc.cells a1) 0), (8, A v16), (9, .ref 0 0 0 2 v18.length false), (10, .ptr 3 1 0), (11, .ref 4 0 0 5 v22.length false), (12, .ref 5 0 0 3 v24.length false), (53, .ref 0 0 0 2 v18.length false), (54, A a0)] [some ⟨0, eL v18⟩, some ⟨0, dL v20.fColumns⟩, some ⟨0, eL v20.fPicked⟩, some ⟨1, [.ref 1 0 0 1 v20.fColumns.length false, .ref 2 0 0 1 v20.fPicked.length false]⟩, some ⟨0, eL v22⟩, some ⟨0, eL v24⟩] ?_
  obtain ⟨v29, hv30, h⟩ := bindS h
  refine opsP_callF τ 55 (ok_laws_toColumnS hv30) (FzTo.O _) rfl (by kernel_rfl) ?_
  obtain ⟨v31, hv32, h⟩ := bindS h
  refine opsP_callV (xs := [.ref 0 0 0 2 v18.length false, A v29]) τ 56 (ok_laws_eqColumnS hv32) (Blind.lit _) (FzTo.frz rfl) (by kernel_rfl) (ViewL.cons (View.whole (v := 0) v18 (by kernel_rfl) rfl) (ViewL.cons (View.frz rfl) (ViewL.nil _))) ?_
  refine veM [10] 1 115 [(0, A a0), (2, A a2), (4, .fptr (Enc.cells a1) 0), (8, A v16), (9, .ref 0 0 0 2 v18.length false), (10, .ptr 3 1 0), (11, .ref 4 0 0 5 v22.length false), (12, .ref 5 0 0 3 v24.length false), (57, B ((!v31)))] [some ⟨0, eL v18⟩, some ⟨0, dL v20.fColumns⟩, some ⟨0, eL v20.fPicked⟩, some ⟨1, [.ref 1 0 0 1 v20.fColumns.length false, .ref 2 0 0 1 v20.fPicked.length false]⟩, some ⟨0, eL v22⟩, some ⟨0, eL v24⟩] ?_
  refine pc h (fun h => ?_) (fun h => ?_)
  refine srveM [10] 115 [(6, B false)] [some ⟨0, eL v18⟩, some ⟨0, dL v20.fColumns⟩, some ⟨0, eL v20.fPicked⟩, some ⟨1, [.ref 1 0 0 1 v20.fColumns.length false, .ref 2 0 0 1 v20.fPicked.length false]⟩, some ⟨0, eL v22⟩, some ⟨0, eL v24⟩] ?_
  cases h
  exact pwp_ret rz
  refine pwp_skip ?_
  refine pwp_seq ?_
  refine pwp_seq ?_
  refine pwp_imp (Imp.to (st' := ⟨115, [(0, A a0), (2, A a2), (4, .fptr (Enc.cells a1) 0), (8, A v16), (9, .ref 0 0 0 2 v18.length false), (10, .ptr 3 1 0), (11, .ref 4 0 0 5 v22.length false), (12, .ref 5 0 0 3 v24.length false)], [some ⟨0, eL v18⟩, some ⟨0, dL v20.fColumns⟩, some ⟨0, eL v20.fPicked⟩, some ⟨1, [.ref 1 0 0 1 v20.fColumns.length false, .ref 2 0 0 1 v20.fPicked.length false]⟩, some ⟨0, eL v22⟩, some ⟨0, eL v24⟩]⟩) [0, 2, 4, 8, 9, 10, 11, 12] (by kernel_rfl)) ?_
  refine pwp_any ([[1, 2, 3], [], [], [1, 2], []]) ([[], [], [], [], []]) rfl (by kernel_rfl) ?_
  refine qA_ev (st' := ⟨115, [(58, .agg [.ref 1 0 0 1 v20.fColumns.length false, .ref 2 0 0 1 v20.fPicked.length false]), (0, A a0), (2, A a2), (4, .fptr (Enc.cells a1) 0), (8, A v16), (9, .ref 0 0 0 2 v18.length false), (10, .ptr 3 1 0), (11, .ref 4 0 0 5 v22.length false), (12, .ref 5 0 0 3 v24.length false)], [some ⟨0, eL v18⟩, some ⟨0, dL v20.fColumns⟩, some ⟨0, eL v20.fPicked⟩, some ⟨1, [.ref 1 0 0 1 v20.fColumns.length false, .ref 2 0 0 1 v20.fPicked.length false]⟩, some ⟨0, eL v22⟩, some ⟨0, eL v24⟩]⟩) τ_ok [10] [1, 2, 3] 1 (by exact (And.intro (.inr (dL_okIn _ _)) (And.intro (.inl (eL_frz _)) (And.intro (.inr rfl) trivial)))) (by kernel_rfl) ?_
  refine qA_ev (st' := ⟨115, [(59, E a1), (58, .agg [.ref 1 0 0 1 v20.fColumns.length false, .ref 2 0 0 1 v20.fPicked.length false]), (0, A a0), (2, A a2), (4, .fptr (Enc.cells a1) 0), (8, A v16), (9, .ref 0 0 0 2 v18.length false), (10, .ptr 3 1 0), (11, .ref 4 0 0 5 v22.length false), (12, .ref 5 0 0 3 v24.length false)], [some ⟨0, eL v18⟩, some ⟨0, dL v20.fColumns⟩, some ⟨0, eL v20.fPicked⟩, some ⟨1, [.ref 1 0 0 1 v20.fColumns.length false, .ref 2 0 0 1 v20.fPicked.length false]⟩, some ⟨0, eL v22⟩, some ⟨0, eL v24⟩]⟩) τ_ok [10] [] 1 (by exact trivial) (by kernel_rfl) ?_
  obtain ⟨v34, hv35, h⟩ := bindS h
  refine qA_E (dd := some 60) (x := E v34) ([none, none, none, none, none, none]) (⟨115, [(60, E v34), (59, E a1), (58, .agg [.ref 1 0 0 1 v20.fColumns.length false, .ref 2 0 0 1 v20.fPicked.length false]), (0, A a0), (2, A a2), (4, .fptr (Enc.cells a1) 0), (8, A v16), (9, .ref 0 0 0 2 v18.length false), (10, .ptr 3 1 0), (11, .ref 4 0 0 5 v22.length false), (12, .ref 5 0 0 3 v24.length false)], [some ⟨0, eL v18⟩, some ⟨0, dL v20.fColumns⟩, some ⟨0, eL v20.fPicked⟩, some ⟨1, [.ref 1 0 0 1 v20.fColumns.length false, .ref 2 0 0 1 v20.fPicked.length false]⟩, some ⟨0, eL v22⟩, some ⟨0, eL v24⟩]⟩) (fun Γ' hΓ => CoreE.of_g (callV_sound (τ := τ) (by kernel_rfl) rfl (ok_laws_toBatch_D hv35) (FzTo.agg (DEnc.fz _)))) (by kernel_rfl) (by kernel_rfl) (by exact trivial) (.inr (.inr rfl)) (by kernel_rfl) ?_
  obtain ⟨v36, hv37, h⟩ := bindS h
  refine qA_E (dd := some 61) (x := B v36) ([none, some ⟨0, dL v20.fColumns⟩, some ⟨0, eL v20.fPicked⟩, none, none, none]) (⟨115, [(61, B v36), (60, E v34), (59, E a1), (58, .agg [.ref 1 0 0 1 v20.fColumns.length false, .ref 2 0 0 1 v20.fPicked.length false]), (0, A a0), (2, A a2), (4, .fptr (Enc.cells a1) 0), (8, A v16), (9, .ref 0 0 0 2 v18.length false), (10, .ptr 3 1 0), (11, .ref 4 0 0 5 v22.length false), (12, .ref 5 0 0 3 v24.length false)], [some ⟨0, eL v18⟩, some ⟨0, dL v20.fColumns⟩, some ⟨0, eL v20.fPicked⟩, some ⟨1, [.ref 1 0 0 1 v20.fColumns.length false, .ref 2 0 0 1 v20.fPicked.length false]⟩, some ⟨0, eL v22⟩, some ⟨0, eL v24⟩]⟩) (fun Γ' hΓ => CoreE.of_g (callVV_sound (xs := [.agg [.ref 1 0 0 1 v20.fColumns.length false, .ref 2 0 0 1 v20.fPicked.length false], E v34]) (τ := τ) (by kernel_rfl) (ViewL.cons (View.agg (ViewL.cons (View.deep (v := 0) v20.fColumns (by kernel_rfl) rfl) (ViewL.cons (View.whole (v := 0) v20.fPicked (by kernel_rfl) rfl) (ViewL.nil _)))) (ViewL.cons (View.frz rfl) (ViewL.nil _))) (ok_laws_eqBatch hv37) (Blind.lit _) (FzTo.frz rfl))) (by kernel_rfl) (by kernel_rfl) (by exact (And.intro (.inr (dL_okIn _ _)) (And.intro (.inl (eL_frz _)) trivial))) (.inr (.inr rfl)) (by kernel_rfl) ?_
  refine qA_ev (st' := ⟨115, [(62, B ((!v36))), (61, B v36), (60, E v34), (59, E a1), (58, .agg [.ref 1 0 0 1 v20.fColumns.length false, .ref 2 0 0 1 v20.fPicked.length false]), (0, A a0), (2, A a2), (4, .fptr (Enc.cells a1) 0), (8, A v16), (9, .ref 0 0 0 2 v18.length false), (10, .ptr 3 1 0), (11, .ref 4 0 0 5 v22.length false), (12, .ref 5 0 0 3 v24.length false)], [some ⟨0, eL v18⟩, some ⟨0, dL v20.fColumns⟩, some ⟨0, eL v20.fPicked⟩, some ⟨1, [.ref 1 0 0 1 v20.fColumns.length false, .ref 2 0 0 1 v20.fPicked.length false]⟩, some ⟨0, eL v22⟩, some ⟨0, eL v24⟩]⟩) τ_ok [10] [] 1 (by exact trivial) (by kernel_rfl) ?_
  refine qA_end ?_
  refine opsP_imp (Imp.to (st' := ⟨115, [(0, A a0), (2, A a2), (4, .fptr (Enc.cells a1) 0), (8, A v16), (9, .ref 0 0 0 2 v18.length false), (10, .ptr 3 1 0), (11, .ref 4 0 0 5 v22.length false), (12, .ref 5 0 0 3 v24.length false), (62, B ((!v36)))], [some ⟨0, eL v18⟩, some ⟨0, dL v20.fColumns⟩, some ⟨0, eL v20.fPicked⟩, some ⟨1, [.ref 1 0 0 1 v20.fColumns.length false, .ref 2 0 0 1 v20.fPicked.length false]⟩, some ⟨0, eL v22⟩, some ⟨0, eL v24⟩]⟩) [0, 2, 4, 8, 9, 10, 11, 12, 62] (by kernel_rfl)) ?_
  refine opsP_end rfl ?_
  refine pc h (fun h => ?_) (fun h => ?_)
  refine srveM [10] 115 [(6, B false)] [some ⟨0, eL v18⟩, some ⟨0, dL v20.fColumns⟩, some ⟨0, eL v20.fPicked⟩, some ⟨1, [.ref 1 0 0 1 v20.fColumns.length false, .ref 2 0 0 1 v20.fPicked.length false]⟩, some ⟨0, eL v22⟩, some ⟨0, eL v24⟩] ?_
  cases h
  exact pwp_ret rz
  refine pwp_skip ?_
  refine pwp_seq ?_
  refine srvM [10] 2 115 [(0, A a0), (2, A a2), (4, .fptr (Enc.cells a1) 0), (8, A v16), (9, .ref 0 0 0 2 v18.length false), (10, .ptr 3 1 0), (11, .ref 4 0 0 5 v22.length false), (12, .ref 5 0 0 3 v24.length false), (63, .ref 4 0 0 5 v22.length false), (64, A a2)] [some ⟨0, eL v18⟩, some ⟨0, dL v20.fColumns⟩, some ⟨0, eL v20.fPicked⟩, some ⟨1, [.ref 1 0 0 1 v20.fColumns.length false, .ref 2 0 0 1 v20.fPicked.length false]⟩, some ⟨0, eL v22⟩, some ⟨0, eL v24⟩] ?_
  obtain ⟨v39, hv40, h⟩ := bindS h
  refine opsP_callF τ 65 (ok_laws_toPartS hv40) (FzTo.O _) rfl (by kernel_rfl) ?_
  obtain ⟨v41, hv42, h⟩ := bindS h
  refine opsP_callV (xs := [.ref 4 0 0 5 v22.length false, A v39]) τ 66 (ok_laws_eqPartS hv42) (Blind.lit _) (FzTo.frz rfl) (by kernel_rfl) (ViewL.cons (View.whole (v := 0) v22 (by kernel_rfl) rfl) (ViewL.cons (View.frz rfl) (ViewL.nil _))) ?_
  refine veM [10] 1 115 [(0, A a0), (2, A a2), (4, .fptr (Enc.cells a1) 0), (8, A v16), (9, .ref 0 0 0 2 v18.length false), (10, .ptr 3 1 0), (11, .ref 4 0 0 5 v22.length false), (12, .ref 5 0 0 3 v24.length false), (67, B ((!v41)))] [some ⟨0, eL v18⟩, some ⟨0, dL v20.fColumns⟩, some ⟨0, eL v20.fPicked⟩, some ⟨1, [.ref 1 0 0 1 v20.fColumns.length false, .ref 2 0 0 1 v20.fPicked.length false]⟩, some ⟨0, eL v22⟩, some ⟨0, eL v24⟩] ?_
  refine pc h (fun h => ?_) (fun h => ?_)
  refine srveM [10] 115 [(6, B false)] [some ⟨0, eL v18⟩, some ⟨0, dL v20.fColumns⟩, some ⟨0, eL v20.fPicked⟩, some ⟨1, [.ref 1 0 0 1 v20.fColumns.length false, .ref 2 0 0 1 v20.fPicked.length false]⟩, some ⟨0, eL v22⟩, some ⟨0, eL v24⟩] ?_
  cases h
  exact pwp_ret rz
  refine pwp_skip ?_
  refine srveM [10] 115 [(0, A a0), (2, A a2), (4, .fptr (Enc.cells a1) 0), (8, A v16), (9, .ref 0 0 0 2 v18.length false), (10, .ptr 3 1 0), (11, .ref 4 0 0 5 v22.length false), (12, .ref 5 0 0 3 v24.length false), (13, I 1)] [some ⟨0, eL v18⟩, some ⟨0, dL v20.fColumns⟩, some ⟨0, eL v20.fPicked⟩, some ⟨1, [.ref 1 0 0 1 v20.fColumns.length false, .ref 2 0 0 1 v20.fPicked.length false]⟩, some ⟨0, eL v22⟩, some ⟨0, eL v24⟩] ?_
  refine srvM [10] 2 115 [(0, A a0), (2, A a2), (4, .fptr (Enc.cells a1) 0), (8, A v16), (10, .ptr 3 1 0), (11, .ref 4 0 0 5 v22.length false), (12, .ref 5 0 0 3 v24.length false), (68, .ref 0 0 0 2 v18.length false), (69, I 1)] [some ⟨0, eL v18⟩, some ⟨0, dL v20.fColumns⟩, some ⟨0, eL v20.fPicked⟩, some ⟨1, [.ref 1 0 0 1 v20.fColumns.length false, .ref 2 0 0 1 v20.fPicked.length false]⟩, some ⟨0, eL v22⟩, some ⟨0, eL v24⟩] ?_
  obtain ⟨v44, hv45, h⟩ := bindS h
  refine opsP_E (dd := some 70) (x := I v44.1) (callD_E τ 70 0 0 (ok_laws_markColumnS hv45) (by kernel_rfl)) ?_
  refine opsP_imp (Imp.to (st' := ⟨115, [(0, A a0), (2, A a2), (4, .fptr (Enc.cells a1) 0), (8, A v16), (10, .ptr 3 1 0), (11, .ref 4 0 0 5 v22.length false), (12, .ref 5 0 0 3 v24.length false), (68, .ref 0 0 0 2 v18.length false), (69, I 1), (70, I v44.1)], [some ⟨0, eL v44.2⟩, some ⟨0, dL v20.fColumns⟩, some ⟨0, eL v20.fPicked⟩, some ⟨1, [.ref 1 0 0 1 v20.fColumns.length false, .ref 2 0 0 1 v20.fPicked.length false]⟩, some ⟨0, eL v22⟩, some ⟨0, eL v24⟩]⟩) [0, 2, 4, 8, 10, 11, 12, 68, 69, 70] (by kernel_rfl)) ?_
  refine opsP_ren (st' := ⟨115, [(0, A a0), (2, A a2), (4, .fptr (Enc.cells a1) 0), (8, A v16), (10, .ptr 3 1 0), (11, .ref 4 0 0 5 v22.length false), (12, .ref 5 0 0 3 v24.length false), (68, .ref 0 0 0 2 v44.2.length false), (69, I 1), (70, I v44.1)], [some ⟨0, eL v44.2⟩, some ⟨0, dL v20.fColumns⟩, some ⟨0, eL v20.fPicked⟩, some ⟨1, [.ref 1 0 0 1 v20.fColumns.length false, .ref 2 0 0 1 v20.fPicked.length false]⟩, some ⟨0, eL v22⟩, some ⟨0, eL v24⟩]⟩) 0 v44.2.length (renC trivial (renC trivial (renC trivial (renC trivial (renC trivial (renC (ren_ne rfl) (renC (ren_ne rfl) (renC (ren_ref (len_laws_markColumnS hv45).symm) (renC trivial (renC trivial renC0)))))))))) (by kernel_rfl) ?_
  refine veM [10] 1 115 [(0, A a0), (2, A a2), (4, .fptr (Enc.cells a1) 0), (8, A v16), (10, .ptr 3 1 0), (11, .ref 4 0 0 5 v22.length false), (12, .ref 5 0 0 3 v24.length false), (13, I v44.1)] [some ⟨0, eL v44.2⟩, some ⟨0, dL v20.fColumns⟩, some ⟨0, eL v20.fPicked⟩, some ⟨1, [.ref 1 0 0 1 v20.fColumns.length false, .ref 2 0 0 1 v20.fPicked.length false]⟩, some ⟨0, eL v22⟩, some ⟨0, eL v24⟩] ?_
  refine srvM [10] 2 115 [(0, A a0), (2, A a2), (4, .fptr (Enc.cells a1) 0), (8, A v16), (11, .ref 4 0 0 5 v22.length false), (12, .ref 5 0 0 3 v24.length false), (71, .agg [.ref 1 0 0 1 v20.fColumns.length false, .ref 2 0 0 1 v20.fPicked.length false]), (72, I v44.1)] [some ⟨0, eL v44.2⟩, some ⟨0, dL v20.fColumns⟩, some ⟨0, eL v20.fPicked⟩, some ⟨1, [.ref 1 0 0 1 v20.fColumns.length false, .ref 2 0 0 1 v20.fPicked.length false]⟩, some ⟨0, eL v22⟩, some ⟨0, eL v24⟩] ?_
  obtain ⟨v46, hv47, h⟩ := bindS h
  refine opsP_callM (xs := [.agg [.ref 1 0 0 1 v20.fColumns.length false, .ref 2 0 0 1 v20.fPicked.length false], I v44.1]) (x := I v46) (bs := []) τ 73 [1, 2] (fun b hb => absurd hb (hX b)) (ok_laws_markBatch hv47) (by kernel_rfl) (OutL.cons (OutP.agg (OutL.cons (OutP.listDn (v := 0) (xs := v20.fColumns) rfl (by kernel_rfl)) (OutL.cons (OutP.listn (v := 0) (xs := v20.fPicked) rfl (by kernel_rfl)) (OutL.nil _)))) (OutL.cons (OutP.frz rfl) (OutL.nil _))) (by decide) (by kernel_rfl) ?_
  refine veM [10] 1 115 [(0, A a0), (2, A a2), (4, .fptr (Enc.cells a1) 0), (8, A v16), (11, .ref 4 0 0 5 v22.length false), (12, .ref 5 0 0 3 v24.length false), (13, I v46)] [some ⟨0, eL v44.2⟩, none, none, some ⟨1, [.ref 1 0 0 1 v20.fColumns.length false, .ref 2 0 0 1 v20.fPicked.length false]⟩, some ⟨0, eL v22⟩, some ⟨0, eL v24⟩] ?_
  refine srvM [10] 2 115 [(0, A a0), (2, A a2), (4, .fptr (Enc.cells a1) 0), (8, A v16), (12, .ref 5 0 0 3 v24.length false), (74, .ref 4 0 0 5 v22.length false), (75, I v46)] [some ⟨0, eL v44.2⟩, none, none, some ⟨1, [.ref 1 0 0 1 v20.fColumns.length false, .ref 2 0 0 1 v20.fPicked.length false]⟩, some ⟨0, eL v22⟩, some ⟨0, eL v24⟩] ?_
  obtain ⟨v48, hv49, h⟩ := bindS h
  refine opsP_E (dd := some 76) (x := I v48.1) (callD_E τ 76 4 0 (ok_laws_markPartS hv49) (by kernel_rfl)) ?_
  refine opsP_imp (Imp.to (st' := ⟨115, [(0, A a0), (2, A a2), (4, .fptr (Enc.cells a1) 0), (8, A v16), (12, .ref 5 0 0 3 v24.length false), (74, .ref 4 0 0 5 v22.length false), (75, I v46), (76, I v48.1)], [some ⟨0, eL v44.2⟩, none, none, some ⟨1, [.ref 1 0 0 1 v20.fColumns.length false, .ref 2 0 0 1 v20.fPicked.length false]⟩, some ⟨0, eL v48.2⟩, some ⟨0, eL v24⟩]⟩) [0, 2, 4, 8, 12, 74, 75, 76] (by kernel_rfl)) ?_
  refine opsP_ren (st' := ⟨115, [(0, A a0), (2, A a2), (4, .fptr (Enc.cells a1) 0), (8, A v16), (12, .ref 5 0 0 3 v24.length false), (74, .ref 4 0 0 5 v48.2.length false), (75, I v46), (76, I v48.1)], [some ⟨0, eL v44.2⟩, none, none, some ⟨1, [.ref 1 0 0 1 v20.fColumns.length false, .ref 2 0 0 1 v20.fPicked.length false]⟩, some ⟨0, eL v48.2⟩, some ⟨0, eL v24⟩]⟩) 4 v48.2.length (renC trivial (renC trivial (renC trivial (renC trivial (renC (ren_ne rfl) (renC (ren_ref (len_laws_markPartS hv49).symm) (renC trivial (renC trivial renC0)))))))) (by kernel_rfl) ?_
  refine veM [10] 1 115 [(0, A a0), (2, A a2), (4, .fptr (Enc.cells a1) 0), (8, A v16), (12, .ref 5 0 0 3 v24.length false), (13, I v48.1)] [some ⟨0, eL v44.2⟩, none, none, some ⟨1, [.ref 1 0 0 1 v20.fColumns.length false, .ref 2 0 0 1 v20.fPicked.length false]⟩, some ⟨0, eL v48.2⟩, some ⟨0, eL v24⟩] ?_
  refine pwp_seq ?_
  refine pwp_seq ?_
  refine pwp_join (σ := Bool) (fun x50 => (⟨115, [(0, A a0), (2, A a2), (4, .fptr (Enc.cells a1) 0), (8, A v16), (12, .ref 5 0 0 3 v24.length false), (84, B x50)], [some ⟨0, eL v44.2⟩, none, none, some ⟨1, [.ref 1 0 0 1 v20.fColumns.length false, .ref 2 0 0 1 v20.fPicked.length false]⟩, some ⟨0, eL v48.2⟩, some ⟨0, eL v24⟩]⟩ : St)) (fun x50 => laws_FnExactBatchValues_j0 a0 a1 a2 v16 v24 x50 = some y) ?_ ?_
  refine rvM [10] 3 115 [(0, A a0), (2, A a2), (4, .fptr (Enc.cells a1) 0), (8, A v16), (12, .ref 5 0 0 3 v24.length false), (79, B ((decide (v48.1 < 0))))] [some ⟨0, eL v44.2⟩, none, none, some ⟨1, [.ref 1 0 0 1 v20.fColumns.length false, .ref 2 0 0 1 v20.fPicked.length false]⟩, some ⟨0, eL v48.2⟩, some ⟨0, eL v24⟩] ?_
  rcases fk ((decide (v48.1 < 0))) with hc75 | hc75
  replace h := bT hc75 h
  rw [hc75]
  refine veM [10] 5 115 [(0, A a0), (2, A a2), (4, .fptr (Enc.cells a1) 0), (8, A v16), (12, .ref 5 0 0 3 v24.length false), (84, B true)] [some ⟨0, eL v44.2⟩, none, none, some ⟨1, [.ref 1 0 0 1 v20.fColumns.length false, .ref 2 0 0 1 v20.fPicked.length false]⟩, some ⟨0, eL v48.2⟩, some ⟨0, eL v24⟩] ?_
  exact ⟨true, h, (Imp.to (st' := ⟨115, [(0, A a0), (2, A a2), (4, .fptr (Enc.cells a1) 0), (8, A v16), (12, .ref 5 0 0 3 v24.length false), (84, B true)], [some ⟨0, eL v44.2⟩, none, none, some ⟨1, [.ref 1 0 0 1 v20.fColumns.length false, .ref 2 0 0 1 v20.fPicked.length false]⟩, some ⟨0, eL v48.2⟩, some ⟨0, eL v24⟩]⟩) [0, 2, 4, 8, 12, 84] (by kernel_rfl)).trans (Imp.to [0, 2, 4, 8, 12, 84] (by kernel_rfl))⟩
  replace h := bF hc75 h
  rw [hc75]
  refine vM [10] 2 115 [(0, A a0), (2, A a2), (4, .fptr (Enc.cells a1) 0), (8, A v16), (12, .ref 5 0 0 3 v24.length false), (79, B false), (80, .ref 5 0 0 3 v24.length false), (81, A v16)] [some ⟨0, eL v44.2⟩, none, none, some ⟨1, [.ref 1 0 0 1 v20.fColumns.length false, .ref 2 0 0 1 v20.fPicked.length false]⟩, some ⟨0, eL v48.2⟩, some ⟨0, eL v24⟩] ?_
  obtain ⟨v73, hv74, h⟩ := bindS h
  refine opsP_callV (xs := [.ref 5 0 0 3 v24.length false, A v16]) τ 82 (ok_laws_eqValueS hv74) (Blind.lit _) (FzTo.frz rfl) (by kernel_rfl) (ViewL.cons (View.whole (v := 0) v24 (by kernel_rfl) rfl) (ViewL.cons (View.frz rfl) (ViewL.nil _))) ?_
  refine veM [10] 2 115 [(0, A a0), (2, A a2), (4, .fptr (Enc.cells a1) 0), (8, A v16), (12, .ref 5 0 0 3 v24.length false), (84, B ((!v73)))] [some ⟨0, eL v44.2⟩, none, none, some ⟨1, [.ref 1 0 0 1 v20.fColumns.length false, .ref 2 0 0 1 v20.fPicked.length false]⟩, some ⟨0, eL v48.2⟩, some ⟨0, eL v24⟩] ?_
  exact ⟨(!v73), h, (Imp.to (st' := ⟨115, [(0, A a0), (2, A a2), (4, .fptr (Enc.cells a1) 0), (8, A v16), (12, .ref 5 0 0 3 v24.length false), (84, B ((!v73)))], [some ⟨0, eL v44.2⟩, none, none, some ⟨1, [.ref 1 0 0 1 v20.fColumns.length false, .ref 2 0 0 1 v20.fPicked.length false]⟩, some ⟨0, eL v48.2⟩, some ⟨0, eL v24⟩]⟩) [0, 2, 4, 8, 12, 84] (by kernel_rfl)).trans (Imp.to [0, 2, 4, 8, 12, 84] (by kernel_rfl))⟩
  rintro x50 h
  unfold laws_FnExactBatchValues_j0 at h
  refine pc h (fun h => ?_) (fun h => ?_)
  refine srveM [10] 115 [(6, B false)] [some ⟨0, eL v44.2⟩, none, none, some ⟨1, [.ref 1 0 0 1 v20.fColumns.length false, .ref 2 0 0 1 v20.fPicked.length false]⟩, some ⟨0, eL v48.2⟩, some ⟨0, eL v24⟩] ?_
  cases h
  exact pwp_ret rz
  refine pwp_skip ?_
  refine srveM [10] 115 [(0, A a0), (2, A a2), (4, .fptr (Enc.cells a1) 0), (8, A v16), (12, .ref 5 0 0 3 v24.length false), (14, I 1)] [some ⟨0, eL v44.2⟩, none, none, some ⟨1, [.ref 1 0 0 1 v20.fColumns.length false, .ref 2 0 0 1 v20.fPicked.length false]⟩, some ⟨0, eL v48.2⟩, some ⟨0, eL v24⟩] ?_
  refine srvM [10] 2 115 [(0, A a0), (2, A a2), (4, .fptr (Enc.cells a1) 0), (8, A v16), (12, .ref 5 0 0 3 v24.length false), (85, .ref 5 0 0 3 v24.length false), (86, I 1)] [some ⟨0, eL v44.2⟩, none, none, some ⟨1, [.ref 1 0 0 1 v20.fColumns.length false, .ref 2 0 0 1 v20.fPicked.length false]⟩, some ⟨0, eL v48.2⟩, some ⟨0, eL v24⟩] ?_
  obtain ⟨v52, hv53, h⟩ := bindS h
  refine opsP_E (dd := some 87) (x := I v52.1) (callD_E τ 87 5 0 (ok_laws_markValueS hv53) (by kernel_rfl)) ?_
  refine opsP_imp (Imp.to (st' := ⟨115, [(0, A a0), (2, A a2), (4, .fptr (Enc.cells a1) 0), (8, A v16), (12, .ref 5 0 0 3 v24.length false), (85, .ref 5 0 0 3 v24.length false), (86, I 1), (87, I v52.1)], [some ⟨0, eL v44.2⟩, none, none, some ⟨1, [.ref 1 0 0 1 v20.fColumns.length false, .ref 2 0 0 1 v20.fPicked.length false]⟩, some ⟨0, eL v48.2⟩, some ⟨0, eL v52.2⟩]⟩) [0, 2, 4, 8, 12, 85, 86, 87] (by kernel_rfl)) ?_
  refine opsP_ren (st' := ⟨115, [(0, A a0), (2, A a2), (4, .fptr (Enc.cells a1) 0), (8, A v16), (12, .ref 5 0 0 3 v52.2.length false), (85, .ref 5 0 0 3 v52.2.length false), (86, I 1), (87, I v52.1)], [some ⟨0, eL v44.2⟩, none, none, some ⟨1, [.ref 1 0 0 1 v20.fColumns.length false, .ref 2 0 0 1 v20.fPicked.length false]⟩, some ⟨0, eL v48.2⟩, some ⟨0, eL v52.2⟩]⟩) 5 v52.2.length (renC trivial (renC trivial (renC trivial (renC trivial (renC (ren_ref (len_laws_markValueS hv53).symm) (renC (ren_ref (len_laws_markValueS hv53).symm) (renC trivial (renC trivial renC0)))))))) (by kernel_rfl) ?_
  refine veM [10] 1 115 [(0, A a0), (2, A a2), (4, .fptr (Enc.cells a1) 0), (8, A v16), (12, .ref 5 0 0 3 v52.2.length false), (14, I v52.1)] [some ⟨0, eL v44.2⟩, none, none, some ⟨1, [.ref 1 0 0 1 v20.fColumns.length false, .ref 2 0 0 1 v20.fPicked.length false]⟩, some ⟨0, eL v48.2⟩, some ⟨0, eL v52.2⟩] ?_
  refine srveM [10] 115 [(0, A a0), (2, A a2), (4, .fptr (Enc.cells a1) 0), (8, A v16), (12, .ref 5 0 0 3 v52.2.length false), (14, I v52.1), (15, I 1)] [some ⟨0, eL v44.2⟩, none, none, some ⟨1, [.ref 1 0 0 1 v20.fColumns.length false, .ref 2 0 0 1 v20.fPicked.length false]⟩, some ⟨0, eL v48.2⟩, some ⟨0, eL v52.2⟩] ?_
  refine srvM [10] 2 115 [(0, A a0), (2, A a2), (4, .fptr (Enc.cells a1) 0), (8, A v16), (12, .ref 5 0 0 3 v52.2.length false), (14, I v52.1), (88, .ref 5 0 0 3 v52.2.length false), (89, I 1)] [some ⟨0, eL v44.2⟩, none, none, some ⟨1, [.ref 1 0 0 1 v20.fColumns.length false, .ref 2 0 0 1 v20.fPicked.length false]⟩, some ⟨0, eL v48.2⟩, some ⟨0, eL v52.2⟩] ?_
  obtain ⟨v54, hv55, h⟩ := bindS h
  refine opsP_callV (xs := [.ref 5 0 0 3 v52.2.length false, I 1]) τ 90 (ok_laws_heldValueS hv55) (Blind.lit _) (FzTo.frz rfl) (by kernel_rfl) (ViewL.cons (View.whole (v := 0) v52.2 (by kernel_rfl) rfl) (ViewL.cons (View.frz rfl) (ViewL.nil _))) ?_
  refine veM [10] 1 115 [(0, A a0), (2, A a2), (4, .fptr (Enc.cells a1) 0), (8, A v16), (12, .ref 5 0 0 3 v52.2.length false), (14, I v52.1), (15, I v54)] [some ⟨0, eL v44.2⟩, none, none, some ⟨1, [.ref 1 0 0 1 v20.fColumns.length false, .ref 2 0 0 1 v20.fPicked.length false]⟩, some ⟨0, eL v48.2⟩, some ⟨0, eL v52.2⟩] ?_
  refine pwp_seq ?_
  refine srveM [10] 115 [(0, A a0), (2, A a2), (4, .fptr (Enc.cells a1) 0), (8, A v16), (12, .ref 5 0 0 3 v52.2.length false), (14, I v52.1), (15, I v54), (92, B ((decide (v54 < 0))))] [some ⟨0, eL v44.2⟩, none, none, some ⟨1, [.ref 1 0 0 1 v20.fColumns.length false, .ref 2 0 0 1 v20.fPicked.length false]⟩, some ⟨0, eL v48.2⟩, some ⟨0, eL v52.2⟩] ?_
  refine pc h (fun h => ?_) (fun h => ?_)
  refine srveM [10] 115 [(6, B false)] [some ⟨0, eL v44.2⟩, none, none, some ⟨1, [.ref 1 0 0 1 v20.fColumns.length false, .ref 2 0 0 1 v20.fPicked.length false]⟩, some ⟨0, eL v48.2⟩, some ⟨0, eL v52.2⟩] ?_
  cases h
  exact pwp_ret rz
  refine pwp_skip ?_
  refine pwp_seq ?_
  refine srveM [10] 115 [(0, A a0), (2, A a2), (4, .fptr (Enc.cells a1) 0), (8, A v16), (12, .ref 5 0 0 3 v52.2.length false), (14, I v52.1), (95, B ((!(v54 == v52.1))))] [some ⟨0, eL v44.2⟩, none, none, some ⟨1, [.ref 1 0 0 1 v20.fColumns.length false, .ref 2 0 0 1 v20.fPicked.length false]⟩, some ⟨0, eL v48.2⟩, some ⟨0, eL v52.2⟩] ?_
  refine pc h (fun h => ?_) (fun h => ?_)
  refine srveM [10] 115 [(6, B false)] [some ⟨0, eL v44.2⟩, none, none, some ⟨1, [.ref 1 0 0 1 v20.fColumns.length false, .ref 2 0 0 1 v20.fPicked.length false]⟩, some ⟨0, eL v48.2⟩, some ⟨0, eL v52.2⟩] ?_
  cases h
  exact pwp_ret rz
  refine pwp_skip ?_
  refine pwp_seq ?_
  refine pwp_imp (Imp.to (st' := ⟨115, [(0, A a0), (2, A a2), (4, .fptr (Enc.cells a1) 0), (8, A v16), (12, .ref 5 0 0 3 v52.2.length false), (14, I v52.1)], [some ⟨0, eL v44.2⟩, none, none, some ⟨1, [.ref 1 0 0 1 v20.fColumns.length false, .ref 2 0 0 1 v20.fPicked.length false]⟩, some ⟨0, eL v48.2⟩, some ⟨0, eL v52.2⟩]⟩) [0, 2, 4, 8, 12, 14] (by kernel_rfl)) ?_
  refine pwp_any ([[], [], [], [], [], [], [], []]) ([[], [], [], [], [], [], [], []]) rfl (by kernel_rfl) ?_
  refine qA_ev (st' := ⟨115, [(96, A a0), (0, A a0), (2, A a2), (4, .fptr (Enc.cells a1) 0), (8, A v16), (12, .ref 5 0 0 3 v52.2.length false), (14, I v52.1)], [some ⟨0, eL v44.2⟩, none, none, some ⟨1, [.ref 1 0 0 1 v20.fColumns.length false, .ref 2 0 0 1 v20.fPicked.length false]⟩, some ⟨0, eL v48.2⟩, some ⟨0, eL v52.2⟩]⟩) τ_ok [10] [] 1 (by exact trivial) (by kernel_rfl) ?_
  obtain ⟨v58, hv59, h⟩ := bindS h
  refine qA_E (dd := some 97) (x := A v58) ([none, none, none, none, none, none]) (⟨115, [(97, A v58), (96, A a0), (0, A a0), (2, A a2), (4, .fptr (Enc.cells a1) 0), (8, A v16), (12, .ref 5 0 0 3 v52.2.length false), (14, I v52.1)], [some ⟨0, eL v44.2⟩, none, none, some ⟨1, [.ref 1 0 0 1 v20.fColumns.length false, .ref 2 0 0 1 v20.fPicked.length false]⟩, some ⟨0, eL v48.2⟩, some ⟨0, eL v52.2⟩]⟩) (fun Γ' hΓ => CoreE.of_g (callV_sound (τ := τ) (by kernel_rfl) rfl (ok_laws_toColumnS hv59) (FzTo.O _))) (by kernel_rfl) (by kernel_rfl) (by exact trivial) (.inr (.inr rfl)) (by kernel_rfl) ?_
  refine qA_ev (st' := ⟨115, [(98, E a1), (97, A v58), (96, A a0), (0, A a0), (2, A a2), (4, .fptr (Enc.cells a1) 0), (8, A v16), (12, .ref 5 0 0 3 v52.2.length false), (14, I v52.1)], [some ⟨0, eL v44.2⟩, none, none, some ⟨1, [.ref 1 0 0 1 v20.fColumns.length false, .ref 2 0 0 1 v20.fPicked.length false]⟩, some ⟨0, eL v48.2⟩, some ⟨0, eL v52.2⟩]⟩) τ_ok [10] [] 1 (by exact trivial) (by kernel_rfl) ?_
  obtain ⟨v60, hv61, h⟩ := bindS h
  refine qA_E (dd := some 99) (x := E v60) ([none, none, none, none, none, none]) (⟨115, [(99, E v60), (98, E a1), (97, A v58), (96, A a0), (0, A a0), (2, A a2), (4, .fptr (Enc.cells a1) 0), (8, A v16), (12, .ref 5 0 0 3 v52.2.length false), (14, I v52.1)], [some ⟨0, eL v44.2⟩, none, none, some ⟨1, [.ref 1 0 0 1 v20.fColumns.length false, .ref 2 0 0 1 v20.fPicked.length false]⟩, some ⟨0, eL v48.2⟩, some ⟨0, eL v52.2⟩]⟩) (fun Γ' hΓ => CoreE.of_g (callV_sound (τ := τ) (by kernel_rfl) rfl (ok_laws_toBatch_D hv61) (FzTo.agg (DEnc.fz _)))) (by kernel_rfl) (by kernel_rfl) (by exact trivial) (.inr (.inr rfl)) (by kernel_rfl) ?_
  refine qA_ev (st' := ⟨115, [(100, A a2), (99, E v60), (98, E a1), (97, A v58), (96, A a0), (0, A a0), (2, A a2), (4, .fptr (Enc.cells a1) 0), (8, A v16), (12, .ref 5 0 0 3 v52.2.length false), (14, I v52.1)], [some ⟨0, eL v44.2⟩, none, none, some ⟨1, [.ref 1 0 0 1 v20.fColumns.length false, .ref 2 0 0 1 v20.fPicked.length false]⟩, some ⟨0, eL v48.2⟩, some ⟨0, eL v52.2⟩]⟩) τ_ok [10] [] 1 (by exact trivial) (by kernel_rfl) ?_
  obtain ⟨v62, hv63, h⟩ := bindS h
  refine qA_E (dd := some 101) (x := A v62) ([none, none, none, none, none, none]) (⟨115, [(101, A v62), (100, A a2), (99, E v60), (98, E a1), (97, A v58), (96, A a0), (0, A a0), (2, A a2), (4, .fptr (Enc.cells a1) 0), (8, A v16), (12, .ref 5 0 0 3 v52.2.length false), (14, I v52.1)], [some ⟨0, eL v44.2⟩, none, none, some ⟨1, [.ref 1 0 0 1 v20.fColumns.length false, .ref 2 0 0 1 v20.fPicked.length false]⟩, some ⟨0, eL v48.2⟩, some ⟨0, eL v52.2⟩]⟩) (fun Γ' hΓ => CoreE.of_g (callV_sound (τ := τ) (by kernel_rfl) rfl (ok_laws_toPartS hv63) (FzTo.O _))) (by kernel_rfl) (by kernel_rfl) (by exact trivial) (.inr (.inr rfl)) (by kernel_rfl) ?_
  obtain ⟨v64, hv65, h⟩ := bindS h
  refine qA_E (dd := some 102) (x := A v64) ([none, none, none, none, none, none]) (⟨115, [(102, A v64), (101, A v62), (100, A a2), (99, E v60), (98, E a1), (97, A v58), (96, A a0), (0, A a0), (2, A a2), (4, .fptr (Enc.cells a1) 0), (8, A v16), (12, .ref 5 0 0 3 v52.2.length false), (14, I v52.1)], [some ⟨0, eL v44.2⟩, none, none, some ⟨1, [.ref 1 0 0 1 v20.fColumns.length false, .ref 2 0 0 1 v20.fPicked.length false]⟩, some ⟨0, eL v48.2⟩, some ⟨0, eL v52.2⟩]⟩) (fun Γ' hΓ => CoreE.of_g (callV_sound (τ := τ) (by kernel_rfl) rfl (ok_impl_BatchValues_R hv65) (FzTo.O _))) (by kernel_rfl) (by kernel_rfl) (by exact trivial) (.inr (.inr rfl)) (by kernel_rfl) ?_
  refine qA_ev (st' := ⟨115, [(16, A v64), (102, A v64), (101, A v62), (100, A a2), (99, E v60), (98, E a1), (97, A v58), (96, A a0), (0, A a0), (2, A a2), (4, .fptr (Enc.cells a1) 0), (8, A v16), (12, .ref 5 0 0 3 v52.2.length false), (14, I v52.1)], [some ⟨0, eL v44.2⟩, none, none, some ⟨1, [.ref 1 0 0 1 v20.fColumns.length false, .ref 2 0 0 1 v20.fPicked.length false]⟩, some ⟨0, eL v48.2⟩, some ⟨0, eL v52.2⟩]⟩) τ_ok [10] [] 1 (by exact trivial) (by kernel_rfl) ?_
  refine qA_end ?_
  refine opsP_imp (Imp.to (st' := ⟨115, [(8, A v16), (12, .ref 5 0 0 3 v52.2.length false), (14, I v52.1), (16, A v64)], [some ⟨0, eL v44.2⟩, none, none, some ⟨1, [.ref 1 0 0 1 v20.fColumns.length false, .ref 2 0 0 1 v20.fPicked.length false]⟩, some ⟨0, eL v48.2⟩, some ⟨0, eL v52.2⟩]⟩) [8, 12, 14, 16] (by kernel_rfl)) ?_
  refine opsP_end rfl ?_
  refine pwp_seq ?_
  refine srvM [10] 2 115 [(12, .ref 5 0 0 3 v52.2.length false), (14, I v52.1), (103, A v64), (104, A v16)] [some ⟨0, eL v44.2⟩, none, none, some ⟨1, [.ref 1 0 0 1 v20.fColumns.length false, .ref 2 0 0 1 v20.fPicked.length false]⟩, some ⟨0, eL v48.2⟩, some ⟨0, eL v52.2⟩] ?_
  obtain ⟨v66, hv67, h⟩ := bindS h
  refine opsP_callF τ 105 (ok_laws_eqValueS hv67) (FzTo.frz rfl) rfl (by kernel_rfl) ?_
  refine veM [10] 1 115 [(12, .ref 5 0 0 3 v52.2.length false), (14, I v52.1), (106, B ((!v66)))] [some ⟨0, eL v44.2⟩, none, none, some ⟨1, [.ref 1 0 0 1 v20.fColumns.length false, .ref 2 0 0 1 v20.fPicked.length false]⟩, some ⟨0, eL v48.2⟩, some ⟨0, eL v52.2⟩] ?_
  refine pc h (fun h => ?_) (fun h => ?_)
  refine srveM [10] 115 [(6, B false)] [some ⟨0, eL v44.2⟩, none, none, some ⟨1, [.ref 1 0 0 1 v20.fColumns.length false, .ref 2 0 0 1 v20.fPicked.length false]⟩, some ⟨0, eL v48.2⟩, some ⟨0, eL v52.2⟩] ?_
  cases h
  exact pwp_ret rz
  refine pwp_skip ?_
  refine srveM [10] 115 [(12, .ref 5 0 0 3 v52.2.length false), (14, I v52.1), (15, I 1)] [some ⟨0, eL v44.2⟩, none, none, some ⟨1, [.ref 1 0 0 1 v20.fColumns.length false, .ref 2 0 0 1 v20.fPicked.length false]⟩, some ⟨0, eL v48.2⟩, some ⟨0, eL v52.2⟩] ?_
  refine srvM [10] 2 115 [(14, I v52.1), (107, .ref 5 0 0 3 v52.2.length false), (108, I 1)] [some ⟨0, eL v44.2⟩, none, none, some ⟨1, [.ref 1 0 0 1 v20.fColumns.length false, .ref 2 0 0 1 v20.fPicked.length false]⟩, some ⟨0, eL v48.2⟩, some ⟨0, eL v52.2⟩] ?_
  obtain ⟨v69, hv70, h⟩ := bindS h
  refine opsP_callV (xs := [.ref 5 0 0 3 v52.2.length false, I 1]) τ 109 (ok_laws_heldValueS hv70) (Blind.lit _) (FzTo.frz rfl) (by kernel_rfl) (ViewL.cons (View.whole (v := 0) v52.2 (by kernel_rfl) rfl) (ViewL.cons (View.frz rfl) (ViewL.nil _))) ?_
  refine veM [10] 1 115 [(14, I v52.1), (15, I v69)] [some ⟨0, eL v44.2⟩, none, none, some ⟨1, [.ref 1 0 0 1 v20.fColumns.length false, .ref 2 0 0 1 v20.fPicked.length false]⟩, some ⟨0, eL v48.2⟩, some ⟨0, eL v52.2⟩] ?_
  refine pwp_seq ?_
  refine srveM [10] 115 [(14, I v52.1), (15, I v69), (111, B ((decide (v69 < 0))))] [some ⟨0, eL v44.2⟩, none, none, some ⟨1, [.ref 1 0 0 1 v20.fColumns.length false, .ref 2 0 0 1 v20.fPicked.length false]⟩, some ⟨0, eL v48.2⟩, some ⟨0, eL v52.2⟩] ?_
  refine pc h (fun h => ?_) (fun h => ?_)
  refine srveM [10] 115 [(6, B false)] [some ⟨0, eL v44.2⟩, none, none, some ⟨1, [.ref 1 0 0 1 v20.fColumns.length false, .ref 2 0 0 1 v20.fPicked.length false]⟩, some ⟨0, eL v48.2⟩, some ⟨0, eL v52.2⟩] ?_
  cases h
  exact pwp_ret rz
  refine pwp_skip ?_
  refine pwp_seq ?_
  refine srveM [10] 115 [(114, B ((!(v69 == v52.1))))] [some ⟨0, eL v44.2⟩, none, none, some ⟨1, [.ref 1 0 0 1 v20.fColumns.length false, .ref 2 0 0 1 v20.fPicked.length false]⟩, some ⟨0, eL v48.2⟩, some ⟨0, eL v52.2⟩] ?_
  refine pc h (fun h => ?_) (fun h => ?_)
  refine srveM [10] 115 [(6, B false)] [some ⟨0, eL v44.2⟩, none, none, some ⟨1, [.ref 1 0 0 1 v20.fColumns.length false, .ref 2 0 0 1 v20.fPicked.length false]⟩, some ⟨0, eL v48.2⟩, some ⟨0, eL v52.2⟩] ?_
  cases h
  exact pwp_ret rz
  refine pwp_skip ?_
  refine srveM [10] 115 [(6, B true)] [some ⟨0, eL v44.2⟩, none, none, some ⟨1, [.ref 1 0 0 1 v20.fColumns.length false, .ref 2 0 0 1 v20.fPicked.length false]⟩, some ⟨0, eL v48.2⟩, some ⟨0, eL v52.2⟩] ?_
  cases h
  exact pwp_ret rz
end Go.D
