import Derived.Test.YtpkclpjdpanekaaDXFA
import Derived.KernelRfl
set_option linter.unusedVariables false
set_option linter.unusedSimpArgs false
namespace Go.D
open Go.Proofs
theorem ok_laws_markStepS {a0 : List T_impl_Step} {a1 : Int} {y : Int × List T_impl_Step} (h : laws_markStepS a0 a1 = some y) : OKd Try.prog 16 6 a0.length (dL a0) [I a1] (.int .i64 y.1) (dL y.2) := by
  refine OKd_of_pwp τ_ok Try.func16 rfl (by kernel_rfl) rfl (dL_oc _) (dL_oc _) (dL_bl _) (dL_bl _) rfl (fun hl => by rw [dL_len, len_laws_markStepS h, ← dL_len]; exact hl) fun Γ => ?_
  refine pwp_imp (Imp.to (st' := ⟨55, [(0, .ref 0 0 0 6 a0.length false), (1, I a1)], [some ⟨0, dL a0⟩]⟩) [0, 1] (by kernel_rfl)) ?_
  unfold laws_markStepS at h
  refine srve 55 [(0, .ref 0 0 0 6 a0.length false), (1, I a1)] [some ⟨0, dL a0⟩] ?_
  refine pwp_seq ?_
  refine srve 55 [(0, .ref 0 0 0 6 a0.length false), (1, I a1), (5, I 0)] [some ⟨0, dL a0⟩] ?_
  refine pwp_block ?_
  refine pwp_loop (ι := Nat × Int × Int × (List T_impl_Step)) (fun (f5, x2, x3, x4) => (⟨55, [(0, .ref 0 0 0 6 x4.length false), (1, I x2), (5, I x3)], [some ⟨0, dL x4⟩]⟩ : St)) (fun (f5, x2, x3, x4) => laws_markStepS_l0 f5 x2 x3 x4 = some y) (fun (f5, x2, x3, x4) => f5) (FUEL, a1, 0, a0) h ((Imp.to (st' := ⟨55, [(0, .ref 0 0 0 6 a0.length false), (1, I a1), (5, I 0)], [some ⟨0, dL a0⟩]⟩) [0, 1, 5] (by kernel_rfl)).trans (Imp.to [0, 1, 5] (by kernel_rfl))) ?_
  rintro ⟨f5, x2, x3, x4⟩ h
  dsimp only at h ⊢
  rcases f5 with _ | f5
  cases h
  rw [laws_markStepS_l0] at h
  refine pwp_seq ?_
  refine srve 55 [(0, .ref 0 0 0 6 x4.length false), (1, I x2), (5, I x3), (9, B ((decide (x3 < ((x4.length : Int))))))] [some ⟨0, dL x4⟩] ?_
  refine pc h (fun h => ?_) (fun h => ?_)
  refine pwp_skip ?_
  refine pwp_seq ?_
  refine pwp_block ?_
  refine srv 3 55 [(0, .ref 0 0 0 6 x4.length false), (1, I x2), (5, I x3), (12, .ref 0 0 0 6 x4.length false), (13, I x3), (14, I x2)] [some ⟨0, dL x4⟩] ?_
  obtain ⟨v8, hv9, h⟩ := bindS h
  refine opsP_idr τ_ok 15 0 0 x4.length hv9 rfl (by kernel_rfl) ?_
  refine v 1 55 [(0, .ref 0 0 0 6 x4.length false), (1, I x2), (5, I x3), (14, I x2), (16, .ptr 0 0 (x3.toNat * 6))] [some ⟨0, dL x4⟩] ?_
  refine opsP_E (dd := none) (x := .any) (stdl_E (xs := x4) (vs := [I x2]) τ_ok 3 0 0 0 (({ v8 with fKind := x2 } : T_impl_Step)) hv9 (by kernel_rfl) (by kernel_rfl) (by kernel_rfl)) ?_
  refine opsP_imp (Imp.to (st' := ⟨55, [(0, .ref 0 0 0 6 x4.length false), (1, I x2), (5, I x3), (14, I x2)], [some ⟨0, dL ((x4.set x3.toNat (({ v8 with fKind := x2 } : T_impl_Step))))⟩]⟩) [0, 1, 5, 14] (by kernel_rfl)) ?_
  refine opsP_ren (st' := ⟨55, [(0, .ref 0 0 0 6 ((x4.set x3.toNat (({ v8 with fKind := x2 } : T_impl_Step)))).length false), (1, I x2), (5, I x3), (14, I x2)], [some ⟨0, dL ((x4.set x3.toNat (({ v8 with fKind := x2 } : T_impl_Step))))⟩]⟩) 0 ((x4.set x3.toNat (({ v8 with fKind := x2 } : T_impl_Step)))).length (renC (ren_ref (List.length_set ..).symm) (renC trivial (renC trivial (renC trivial renC0)))) (by kernel_rfl) ?_
  refine ve 0 55 [(0, .ref 0 0 0 6 ((x4.set x3.toNat (({ v8 with fKind := x2 } : T_impl_Step)))).length false), (1, I x2), (5, I x3)] [some ⟨0, dL ((x4.set x3.toNat (({ v8 with fKind := x2 } : T_impl_Step))))⟩] ?_
  refine srve 55 [(0, .ref 0 0 0 6 ((x4.set x3.toNat (({ v8 with fKind := x2 } : T_impl_Step)))).length false), (1, I ((w64 (x2 + 1)))), (5, I x3)] [some ⟨0, dL ((x4.set x3.toNat (({ v8 with fKind := x2 } : T_impl_Step))))⟩] ?_
  refine srv 3 55 [(0, .ref 0 0 0 6 ((x4.set x3.toNat (({ v8 with fKind := x2 } : T_impl_Step)))).length false), (1, I ((w64 (x2 + 1)))), (5, I x3), (19, .ref 0 0 0 6 ((x4.set x3.toNat (({ v8 with fKind := x2 } : T_impl_Step)))).length false), (20, I x3), (21, I ((w64 (x2 + 1))))] [some ⟨0, dL ((x4.set x3.toNat (({ v8 with fKind := x2 } : T_impl_Step))))⟩] ?_
  obtain ⟨v10, hv11, h⟩ := bindS h
  refine opsP_idr τ_ok 22 0 0 ((x4.set x3.toNat (({ v8 with fKind := x2 } : T_impl_Step)))).length hv11 rfl (by kernel_rfl) ?_
  refine v 1 55 [(0, .ref 0 0 0 6 ((x4.set x3.toNat (({ v8 with fKind := x2 } : T_impl_Step)))).length false), (1, I ((w64 (x2 + 1)))), (5, I x3), (21, I ((w64 (x2 + 1)))), (23, .ptr 0 0 (x3.toNat * 6 + 1))] [some ⟨0, dL ((x4.set x3.toNat (({ v8 with fKind := x2 } : T_impl_Step))))⟩] ?_
  refine opsP_E (dd := none) (x := .any) (stdl_E (xs := (x4.set x3.toNat (({ v8 with fKind := x2 } : T_impl_Step)))) (vs := [I ((w64 (x2 + 1)))]) τ_ok 3 0 0 1 (({ v10 with fA := (w64 (x2 + 1)) } : T_impl_Step)) hv11 (by kernel_rfl) (by kernel_rfl) (by kernel_rfl)) ?_
  refine opsP_imp (Imp.to (st' := ⟨55, [(0, .ref 0 0 0 6 ((x4.set x3.toNat (({ v8 with fKind := x2 } : T_impl_Step)))).length false), (1, I ((w64 (x2 + 1)))), (5, I x3), (21, I ((w64 (x2 + 1))))], [some ⟨0, dL ((((x4.set x3.toNat (({ v8 with fKind := x2 } : T_impl_Step)))).set x3.toNat (({ v10 with fA := (w64 (x2 + 1)) } : T_impl_Step))))⟩]⟩) [0, 1, 5, 21] (by kernel_rfl)) ?_
  refine opsP_ren (st' := ⟨55, [(0, .ref 0 0 0 6 ((((x4.set x3.toNat (({ v8 with fKind := x2 } : T_impl_Step)))).set x3.toNat (({ v10 with fA := (w64 (x2 + 1)) } : T_impl_Step)))).length false), (1, I ((w64 (x2 + 1)))), (5, I x3), (21, I ((w64 (x2 + 1))))], [some ⟨0, dL ((((x4.set x3.toNat (({ v8 with fKind := x2 } : T_impl_Step)))).set x3.toNat (({ v10 with fA := (w64 (x2 + 1)) } : T_impl_Step))))⟩]⟩) 0 ((((x4.set x3.toNat (({ v8 with fKind := x2 } : T_impl_Step)))).set x3.toNat (({ v10 with fA := (w64 (x2 + 1)) } : T_impl_Step)))).length (renC (ren_ref (List.length_set ..).symm) (renC trivial (renC trivial (renC trivial renC0)))) (by kernel_rfl) ?_
  refine ve 0 55 [(0, .ref 0 0 0 6 ((((x4.set x3.toNat (({ v8 with fKind := x2 } : T_impl_Step)))).set x3.toNat (({ v10 with fA := (w64 (x2 + 1)) } : T_impl_Step)))).length false), (1, I ((w64 (x2 + 1)))), (5, I x3)] [some ⟨0, dL ((((x4.set x3.toNat (({ v8 with fKind := x2 } : T_impl_Step)))).set x3.toNat (({ v10 with fA := (w64 (x2 + 1)) } : T_impl_Step))))⟩] ?_
  refine srve 55 [(0, .ref 0 0 0 6 ((((x4.set x3.toNat (({ v8 with fKind := x2 } : T_impl_Step)))).set x3.toNat (({ v10 with fA := (w64 (x2 + 1)) } : T_impl_Step)))).length false), (1, I ((w64 (((w64 (x2 + 1))) + 1)))), (5, I x3)] [some ⟨0, dL ((((x4.set x3.toNat (({ v8 with fKind := x2 } : T_impl_Step)))).set x3.toNat (({ v10 with fA := (w64 (x2 + 1)) } : T_impl_Step))))⟩] ?_
  refine srv 3 55 [(0, .ref 0 0 0 6 ((((x4.set x3.toNat (({ v8 with fKind := x2 } : T_impl_Step)))).set x3.toNat (({ v10 with fA := (w64 (x2 + 1)) } : T_impl_Step)))).length false), (1, I ((w64 (((w64 (x2 + 1))) + 1)))), (5, I x3), (26, .ref 0 0 0 6 ((((x4.set x3.toNat (({ v8 with fKind := x2 } : T_impl_Step)))).set x3.toNat (({ v10 with fA := (w64 (x2 + 1)) } : T_impl_Step)))).length false), (27, I x3), (28, I ((w64 (((w64 (x2 + 1))) + 1))))] [some ⟨0, dL ((((x4.set x3.toNat (({ v8 with fKind := x2 } : T_impl_Step)))).set x3.toNat (({ v10 with fA := (w64 (x2 + 1)) } : T_impl_Step))))⟩] ?_
  obtain ⟨v12, hv13, h⟩ := bindS h
  refine opsP_idr τ_ok 29 0 0 ((((x4.set x3.toNat (({ v8 with fKind := x2 } : T_impl_Step)))).set x3.toNat (({ v10 with fA := (w64 (x2 + 1)) } : T_impl_Step)))).length hv13 rfl (by kernel_rfl) ?_
  refine v 1 55 [(0, .ref 0 0 0 6 ((((x4.set x3.toNat (({ v8 with fKind := x2 } : T_impl_Step)))).set x3.toNat (({ v10 with fA := (w64 (x2 + 1)) } : T_impl_Step)))).length false), (1, I ((w64 (((w64 (x2 + 1))) + 1)))), (5, I x3), (28, I ((w64 (((w64 (x2 + 1))) + 1)))), (30, .ptr 0 0 (x3.toNat * 6 + 2))] [some ⟨0, dL ((((x4.set x3.toNat (({ v8 with fKind := x2 } : T_impl_Step)))).set x3.toNat (({ v10 with fA := (w64 (x2 + 1)) } : T_impl_Step))))⟩] ?_
  refine opsP_E (dd := none) (x := .any) (stdl_E (xs := (((x4.set x3.toNat (({ v8 with fKind := x2 } : T_impl_Step)))).set x3.toNat (({ v10 with fA := (w64 (x2 + 1)) } : T_impl_Step)))) (vs := [I ((w64 (((w64 (x2 + 1))) + 1)))]) τ_ok 3 0 0 2 (({ v12 with fB := (w64 (((w64 (x2 + 1))) + 1)) } : T_impl_Step)) hv13 (by kernel_rfl) (by kernel_rfl) (by kernel_rfl)) ?_
  refine opsP_imp (Imp.to (st' := ⟨55, [(0, .ref 0 0 0 6 ((((x4.set x3.toNat (({ v8 with fKind := x2 } : T_impl_Step)))).set x3.toNat (({ v10 with fA := (w64 (x2 + 1)) } : T_impl_Step)))).length false), (1, I ((w64 (((w64 (x2 + 1))) + 1)))), (5, I x3), (28, I ((w64 (((w64 (x2 + 1))) + 1))))], [some ⟨0, dL ((((((x4.set x3.toNat (({ v8 with fKind := x2 } : T_impl_Step)))).set x3.toNat (({ v10 with fA := (w64 (x2 + 1)) } : T_impl_Step)))).set x3.toNat (({ v12 with fB := (w64 (((w64 (x2 + 1))) + 1)) } : T_impl_Step))))⟩]⟩) [0, 1, 5, 28] (by kernel_rfl)) ?_
  refine opsP_ren (st' := ⟨55, [(0, .ref 0 0 0 6 ((((((x4.set x3.toNat (({ v8 with fKind := x2 } : T_impl_Step)))).set x3.toNat (({ v10 with fA := (w64 (x2 + 1)) } : T_impl_Step)))).set x3.toNat (({ v12 with fB := (w64 (((w64 (x2 + 1))) + 1)) } : T_impl_Step)))).length false), (1, I ((w64 (((w64 (x2 + 1))) + 1)))), (5, I x3), (28, I ((w64 (((w64 (x2 + 1))) + 1))))], [some ⟨0, dL ((((((x4.set x3.toNat (({ v8 with fKind := x2 } : T_impl_Step)))).set x3.toNat (({ v10 with fA := (w64 (x2 + 1)) } : T_impl_Step)))).set x3.toNat (({ v12 with fB := (w64 (((w64 (x2 + 1))) + 1)) } : T_impl_Step))))⟩]⟩) 0 ((((((x4.set x3.toNat (({ v8 with fKind := x2 } : T_impl_Step)))).set x3.toNat (({ v10 with fA := (w64 (x2 + 1)) } : T_impl_Step)))).set x3.toNat (({ v12 with fB := (w64 (((w64 (x2 + 1))) + 1)) } : T_impl_Step)))).length (renC (ren_ref (List.length_set ..).symm) (renC trivial (renC trivial (renC trivial renC0)))) (by kernel_rfl) ?_
  refine ve 0 55 [(0, .ref 0 0 0 6 ((((((x4.set x3.toNat (({ v8 with fKind := x2 } : T_impl_Step)))).set x3.toNat (({ v10 with fA := (w64 (x2 + 1)) } : T_impl_Step)))).set x3.toNat (({ v12 with fB := (w64 (((w64 (x2 + 1))) + 1)) } : T_impl_Step)))).length false), (1, I ((w64 (((w64 (x2 + 1))) + 1)))), (5, I x3)] [some ⟨0, dL ((((((x4.set x3.toNat (({ v8 with fKind := x2 } : T_impl_Step)))).set x3.toNat (({ v10 with fA := (w64 (x2 + 1)) } : T_impl_Step)))).set x3.toNat (({ v12 with fB := (w64 (((w64 (x2 + 1))) + 1)) } : T_impl_Step))))⟩] ?_
  refine srve 55 [(0, .ref 0 0 0 6 ((((((x4.set x3.toNat (({ v8 with fKind := x2 } : T_impl_Step)))).set x3.toNat (({ v10 with fA := (w64 (x2 + 1)) } : T_impl_Step)))).set x3.toNat (({ v12 with fB := (w64 (((w64 (x2 + 1))) + 1)) } : T_impl_Step)))).length false), (1, I ((w64 (((w64 (((w64 (x2 + 1))) + 1))) + 1)))), (5, I x3)] [some ⟨0, dL ((((((x4.set x3.toNat (({ v8 with fKind := x2 } : T_impl_Step)))).set x3.toNat (({ v10 with fA := (w64 (x2 + 1)) } : T_impl_Step)))).set x3.toNat (({ v12 with fB := (w64 (((w64 (x2 + 1))) + 1)) } : T_impl_Step))))⟩] ?_
  refine srv 3 55 [(0, .ref 0 0 0 6 ((((((x4.set x3.toNat (({ v8 with fKind := x2 } : T_impl_Step)))).set x3.toNat (({ v10 with fA := (w64 (x2 + 1)) } : T_impl_Step)))).set x3.toNat (({ v12 with fB := (w64 (((w64 (x2 + 1))) + 1)) } : T_impl_Step)))).length false), (1, I ((w64 (((w64 (((w64 (x2 + 1))) + 1))) + 1)))), (5, I x3), (33, .ref 0 0 0 6 ((((((x4.set x3.toNat (({ v8 with fKind := x2 } : T_impl_Step)))).set x3.toNat (({ v10 with fA := (w64 (x2 + 1)) } : T_impl_Step)))).set x3.toNat (({ v12 with fB := (w64 (((w64 (x2 + 1))) + 1)) } : T_impl_Step)))).length false), (34, I x3), (35, I ((w64 (((w64 (((w64 (x2 + 1))) + 1))) + 1))))] [some ⟨0, dL ((((((x4.set x3.toNat (({ v8 with fKind := x2 } : T_impl_Step)))).set x3.toNat (({ v10 with fA := (w64 (x2 + 1)) } : T_impl_Step)))).set x3.toNat (({ v12 with fB := (w64 (((w64 (x2 + 1))) + 1)) } : T_impl_Step))))⟩] ?_
  obtain ⟨v14, hv15, h⟩ := bindS h
  refine opsP_idr τ_ok 36 0 0 ((((((x4.set x3.toNat (({ v8 with fKind := x2 } : T_impl_Step)))).set x3.toNat (({ v10 with fA := (w64 (x2 + 1)) } : T_impl_Step)))).set x3.toNat (({ v12 with fB := (w64 (((w64 (x2 + 1))) + 1)) } : T_impl_Step)))).length hv15 rfl (by kernel_rfl) ?_
  refine v 1 55 [(0, .ref 0 0 0 6 ((((((x4.set x3.toNat (({ v8 with fKind := x2 } : T_impl_Step)))).set x3.toNat (({ v10 with fA := (w64 (x2 + 1)) } : T_impl_Step)))).set x3.toNat (({ v12 with fB := (w64 (((w64 (x2 + 1))) + 1)) } : T_impl_Step)))).length false), (1, I ((w64 (((w64 (((w64 (x2 + 1))) + 1))) + 1)))), (5, I x3), (35, I ((w64 (((w64 (((w64 (x2 + 1))) + 1))) + 1)))), (37, .ptr 0 0 (x3.toNat * 6 + 3))] [some ⟨0, dL ((((((x4.set x3.toNat (({ v8 with fKind := x2 } : T_impl_Step)))).set x3.toNat (({ v10 with fA := (w64 (x2 + 1)) } : T_impl_Step)))).set x3.toNat (({ v12 with fB := (w64 (((w64 (x2 + 1))) + 1)) } : T_impl_Step))))⟩] ?_
  refine opsP_E (dd := none) (x := .any) (stdl_E (xs := (((((x4.set x3.toNat (({ v8 with fKind := x2 } : T_impl_Step)))).set x3.toNat (({ v10 with fA := (w64 (x2 + 1)) } : T_impl_Step)))).set x3.toNat (({ v12 with fB := (w64 (((w64 (x2 + 1))) + 1)) } : T_impl_Step)))) (vs := [I ((w64 (((w64 (((w64 (x2 + 1))) + 1))) + 1)))]) τ_ok 3 0 0 3 (({ v14 with fN := (w64 (((w64 (((w64 (x2 + 1))) + 1))) + 1)) } : T_impl_Step)) hv15 (by kernel_rfl) (by kernel_rfl) (by kernel_rfl)) ?_
  refine opsP_imp (Imp.to (st' := ⟨55, [(0, .ref 0 0 0 6 ((((((x4.set x3.toNat (({ v8 with fKind := x2 } : T_impl_Step)))).set x3.toNat (({ v10 with fA := (w64 (x2 + 1)) } : T_impl_Step)))).set x3.toNat (({ v12 with fB := (w64 (((w64 (x2 + 1))) + 1)) } : T_impl_Step)))).length false), (1, I ((w64 (((w64 (((w64 (x2 + 1))) + 1))) + 1)))), (5, I x3), (35, I ((w64 (((w64 (((w64 (x2 + 1))) + 1))) + 1))))], [some ⟨0, dL ((((((((x4.set x3.toNat (({ v8 with fKind := x2 } : T_impl_Step)))).set x3.toNat (({ v10 with fA := (w64 (x2 + 1)) } : T_impl_Step)))).set x3.toNat (({ v12 with fB := (w64 (((w64 (x2 + 1))) + 1)) } : T_impl_Step)))).set x3.toNat (({ v14 with fN := (w64 (((w64 (((w64 (x2 + 1))) + 1))) + 1)) } : T_impl_Step))))⟩]⟩) [0, 1, 5, 35] (by kernel_rfl)) ?_
  refine opsP_ren (st' := ⟨55, [(0, .ref 0 0 0 6 ((((((((x4.set x3.toNat (({ v8 with fKind := x2 } : T_impl_Step)))).set x3.toNat (({ v10 with fA := (w64 (x2 + 1)) } : T_impl_Step)))).set x3.toNat (({ v12 with fB := (w64 (((w64 (x2 + 1))) + 1)) } : T_impl_Step)))).set x3.toNat (({ v14 with fN := (w64 (((w64 (((w64 (x2 + 1))) + 1))) + 1)) } : T_impl_Step)))).length false), (1, I ((w64 (((w64 (((w64 (x2 + 1))) + 1))) + 1)))), (5, I x3), (35, I ((w64 (((w64 (((w64 (x2 + 1))) + 1))) + 1))))], [some ⟨0, dL ((((((((x4.set x3.toNat (({ v8 with fKind := x2 } : T_impl_Step)))).set x3.toNat (({ v10 with fA := (w64 (x2 + 1)) } : T_impl_Step)))).set x3.toNat (({ v12 with fB := (w64 (((w64 (x2 + 1))) + 1)) } : T_impl_Step)))).set x3.toNat (({ v14 with fN := (w64 (((w64 (((w64 (x2 + 1))) + 1))) + 1)) } : T_impl_Step))))⟩]⟩) 0 ((((((((x4.set x3.toNat (({ v8 with fKind := x2 } : T_impl_Step)))).set x3.toNat (({ v10 with fA := (w64 (x2 + 1)) } : T_impl_Step)))).set x3.toNat (({ v12 with fB := (w64 (((w64 (x2 + 1))) + 1)) } : T_impl_Step)))).set x3.toNat (({ v14 with fN := (w64 (((w64 (((w64 (x2 + 1))) + 1))) + 1)) } : T_impl_Step)))).length (renC (ren_ref (List.length_set ..).symm) (renC trivial (renC trivial (renC trivial renC0)))) (by kernel_rfl) ?_
  refine ve 0 55 [(0, .ref 0 0 0 6 ((((((((x4.set x3.toNat (({ v8 with fKind := x2 } : T_impl_Step)))).set x3.toNat (({ v10 with fA := (w64 (x2 + 1)) } : T_impl_Step)))).set x3.toNat (({ v12 with fB := (w64 (((w64 (x2 + 1))) + 1)) } : T_impl_Step)))).set x3.toNat (({ v14 with fN := (w64 (((w64 (((w64 (x2 + 1))) + 1))) + 1)) } : T_impl_Step)))).length false), (1, I ((w64 (((w64 (((w64 (x2 + 1))) + 1))) + 1)))), (5, I x3)] [some ⟨0, dL ((((((((x4.set x3.toNat (({ v8 with fKind := x2 } : T_impl_Step)))).set x3.toNat (({ v10 with fA := (w64 (x2 + 1)) } : T_impl_Step)))).set x3.toNat (({ v12 with fB := (w64 (((w64 (x2 + 1))) + 1)) } : T_impl_Step)))).set x3.toNat (({ v14 with fN := (w64 (((w64 (((w64 (x2 + 1))) + 1))) + 1)) } : T_impl_Step))))⟩] ?_
  refine srve 55 [(0, .ref 0 0 0 6 ((((((((x4.set x3.toNat (({ v8 with fKind := x2 } : T_impl_Step)))).set x3.toNat (({ v10 with fA := (w64 (x2 + 1)) } : T_impl_Step)))).set x3.toNat (({ v12 with fB := (w64 (((w64 (x2 + 1))) + 1)) } : T_impl_Step)))).set x3.toNat (({ v14 with fN := (w64 (((w64 (((w64 (x2 + 1))) + 1))) + 1)) } : T_impl_Step)))).length false), (1, I ((w64 (((w64 (((w64 (((w64 (x2 + 1))) + 1))) + 1))) + 1)))), (5, I x3)] [some ⟨0, dL ((((((((x4.set x3.toNat (({ v8 with fKind := x2 } : T_impl_Step)))).set x3.toNat (({ v10 with fA := (w64 (x2 + 1)) } : T_impl_Step)))).set x3.toNat (({ v12 with fB := (w64 (((w64 (x2 + 1))) + 1)) } : T_impl_Step)))).set x3.toNat (({ v14 with fN := (w64 (((w64 (((w64 (x2 + 1))) + 1))) + 1)) } : T_impl_Step))))⟩] ?_
  refine srv 2 55 [(0, .ref 0 0 0 6 ((((((((x4.set x3.toNat (({ v8 with fKind := x2 } : T_impl_Step)))).set x3.toNat (({ v10 with fA := (w64 (x2 + 1)) } : T_impl_Step)))).set x3.toNat (({ v12 with fB := (w64 (((w64 (x2 + 1))) + 1)) } : T_impl_Step)))).set x3.toNat (({ v14 with fN := (w64 (((w64 (((w64 (x2 + 1))) + 1))) + 1)) } : T_impl_Step)))).length false), (1, I ((w64 (((w64 (((w64 (((w64 (x2 + 1))) + 1))) + 1))) + 1)))), (5, I x3), (40, .ref 0 0 0 6 ((((((((x4.set x3.toNat (({ v8 with fKind := x2 } : T_impl_Step)))).set x3.toNat (({ v10 with fA := (w64 (x2 + 1)) } : T_impl_Step)))).set x3.toNat (({ v12 with fB := (w64 (((w64 (x2 + 1))) + 1)) } : T_impl_Step)))).set x3.toNat (({ v14 with fN := (w64 (((w64 (((w64 (x2 + 1))) + 1))) + 1)) } : T_impl_Step)))).length false), (41, I x3)] [some ⟨0, dL ((((((((x4.set x3.toNat (({ v8 with fKind := x2 } : T_impl_Step)))).set x3.toNat (({ v10 with fA := (w64 (x2 + 1)) } : T_impl_Step)))).set x3.toNat (({ v12 with fB := (w64 (((w64 (x2 + 1))) + 1)) } : T_impl_Step)))).set x3.toNat (({ v14 with fN := (w64 (((w64 (((w64 (x2 + 1))) + 1))) + 1)) } : T_impl_Step))))⟩] ?_
  obtain ⟨v16, hv17, h⟩ := bindS h
  refine opsP_idr τ_ok 42 0 0 ((((((((x4.set x3.toNat (({ v8 with fKind := x2 } : T_impl_Step)))).set x3.toNat (({ v10 with fA := (w64 (x2 + 1)) } : T_impl_Step)))).set x3.toNat (({ v12 with fB := (w64 (((w64 (x2 + 1))) + 1)) } : T_impl_Step)))).set x3.toNat (({ v14 with fN := (w64 (((w64 (((w64 (x2 + 1))) + 1))) + 1)) } : T_impl_Step)))).length hv17 rfl (by kernel_rfl) ?_
  refine v 1 55 [(0, .ref 0 0 0 6 ((((((((x4.set x3.toNat (({ v8 with fKind := x2 } : T_impl_Step)))).set x3.toNat (({ v10 with fA := (w64 (x2 + 1)) } : T_impl_Step)))).set x3.toNat (({ v12 with fB := (w64 (((w64 (x2 + 1))) + 1)) } : T_impl_Step)))).set x3.toNat (({ v14 with fN := (w64 (((w64 (((w64 (x2 + 1))) + 1))) + 1)) } : T_impl_Step)))).length false), (1, I ((w64 (((w64 (((w64 (((w64 (x2 + 1))) + 1))) + 1))) + 1)))), (5, I x3), (43, .ptr 0 0 (x3.toNat * 6 + 4))] [some ⟨0, dL ((((((((x4.set x3.toNat (({ v8 with fKind := x2 } : T_impl_Step)))).set x3.toNat (({ v10 with fA := (w64 (x2 + 1)) } : T_impl_Step)))).set x3.toNat (({ v12 with fB := (w64 (((w64 (x2 + 1))) + 1)) } : T_impl_Step)))).set x3.toNat (({ v14 with fN := (w64 (((w64 (((w64 (x2 + 1))) + 1))) + 1)) } : T_impl_Step))))⟩] ?_
  refine opsP_imp (Imp.to (st' := ⟨55, [(0, .ref 0 0 0 6 ((((((((x4.set x3.toNat (({ v8 with fKind := x2 } : T_impl_Step)))).set x3.toNat (({ v10 with fA := (w64 (x2 + 1)) } : T_impl_Step)))).set x3.toNat (({ v12 with fB := (w64 (((w64 (x2 + 1))) + 1)) } : T_impl_Step)))).set x3.toNat (({ v14 with fN := (w64 (((w64 (((w64 (x2 + 1))) + 1))) + 1)) } : T_impl_Step)))).length false), (1, I ((w64 (((w64 (((w64 (((w64 (x2 + 1))) + 1))) + 1))) + 1)))), (5, I x3), (43, .ptr 0 0 (x3.toNat * 6 + 4))], [some ⟨0, dL ((((((((x4.set x3.toNat (({ v8 with fKind := x2 } : T_impl_Step)))).set x3.toNat (({ v10 with fA := (w64 (x2 + 1)) } : T_impl_Step)))).set x3.toNat (({ v12 with fB := (w64 (((w64 (x2 + 1))) + 1)) } : T_impl_Step)))).set x3.toNat (({ v14 with fN := (w64 (((w64 (((w64 (x2 + 1))) + 1))) + 1)) } : T_impl_Step))))⟩]⟩) [0, 1, 5, 43] (by kernel_rfl)) ?_
  refine opsP_imp (Imp.ghosts 1 (st' := ⟨55, [(0, .ref 0 0 0 6 ((((((((x4.set x3.toNat (({ v8 with fKind := x2 } : T_impl_Step)))).set x3.toNat (({ v10 with fA := (w64 (x2 + 1)) } : T_impl_Step)))).set x3.toNat (({ v12 with fB := (w64 (((w64 (x2 + 1))) + 1)) } : T_impl_Step)))).set x3.toNat (({ v14 with fN := (w64 (((w64 (((w64 (x2 + 1))) + 1))) + 1)) } : T_impl_Step)))).length false), (1, I ((w64 (((w64 (((w64 (((w64 (x2 + 1))) + 1))) + 1))) + 1)))), (5, I x3), (43, .ptr 0 0 (x3.toNat * 6 + 4))], [some ⟨0, dL ((((((((x4.set x3.toNat (({ v8 with fKind := x2 } : T_impl_Step)))).set x3.toNat (({ v10 with fA := (w64 (x2 + 1)) } : T_impl_Step)))).set x3.toNat (({ v12 with fB := (w64 (((w64 (x2 + 1))) + 1)) } : T_impl_Step)))).set x3.toNat (({ v14 with fN := (w64 (((w64 (((w64 (x2 + 1))) + 1))) + 1)) } : T_impl_Step))))⟩, some ⟨0, []⟩]⟩) (by kernel_rfl)) ?_
  refine opsP_E (dd := some 44) (x := .ref 1 1 0 5 v16.fE.length false) (CoreE.pre (H1 := [some ⟨0, setL (dL ((((((((x4.set x3.toNat (({ v8 with fKind := x2 } : T_impl_Step)))).set x3.toNat (({ v10 with fA := (w64 (x2 + 1)) } : T_impl_Step)))).set x3.toNat (({ v12 with fB := (w64 (((w64 (x2 + 1))) + 1)) } : T_impl_Step)))).set x3.toNat (({ v14 with fN := (w64 (((w64 (((w64 (x2 + 1))) + 1))) + 1)) } : T_impl_Step))))) (x3.toNat * 6 + 4) [.ref 1 1 0 5 v16.fE.length false]⟩, some ⟨1, eL v16.fE⟩]) (HStep.openL (cs0 := []) (xs := (((((((x4.set x3.toNat (({ v8 with fKind := x2 } : T_impl_Step)))).set x3.toNat (({ v10 with fA := (w64 (x2 + 1)) } : T_impl_Step)))).set x3.toNat (({ v12 with fB := (w64 (((w64 (x2 + 1))) + 1)) } : T_impl_Step)))).set x3.toNat (({ v14 with fN := (w64 (((w64 (((w64 (x2 + 1))) + 1))) + 1)) } : T_impl_Step)))) (s := 5) (n := v16.fE.length) (f := false) (cs := eL v16.fE) 0 0 1 0 4 hv17 (by kernel_rfl) (by kernel_rfl) (by kernel_rfl) (by kernel_rfl) (by decide) (fun _ _ => by decide) (by kernel_rfl)) (ldo_E (xs := (((((((x4.set x3.toNat (({ v8 with fKind := x2 } : T_impl_Step)))).set x3.toNat (({ v10 with fA := (w64 (x2 + 1)) } : T_impl_Step)))).set x3.toNat (({ v12 with fB := (w64 (((w64 (x2 + 1))) + 1)) } : T_impl_Step)))).set x3.toNat (({ v14 with fN := (w64 (((w64 (((w64 (x2 + 1))) + 1))) + 1)) } : T_impl_Step)))) τ_ok 44 79 4 hv17 (by kernel_rfl) (by kernel_rfl) (by kernel_rfl))) ?_
  refine v 1 55 [(0, .ref 0 0 0 6 ((((((((x4.set x3.toNat (({ v8 with fKind := x2 } : T_impl_Step)))).set x3.toNat (({ v10 with fA := (w64 (x2 + 1)) } : T_impl_Step)))).set x3.toNat (({ v12 with fB := (w64 (((w64 (x2 + 1))) + 1)) } : T_impl_Step)))).set x3.toNat (({ v14 with fN := (w64 (((w64 (((w64 (x2 + 1))) + 1))) + 1)) } : T_impl_Step)))).length false), (5, I x3), (44, .ref 1 1 0 5 v16.fE.length false), (45, I ((w64 (((w64 (((w64 (((w64 (x2 + 1))) + 1))) + 1))) + 1))))] [some ⟨0, setL (dL ((((((((x4.set x3.toNat (({ v8 with fKind := x2 } : T_impl_Step)))).set x3.toNat (({ v10 with fA := (w64 (x2 + 1)) } : T_impl_Step)))).set x3.toNat (({ v12 with fB := (w64 (((w64 (x2 + 1))) + 1)) } : T_impl_Step)))).set x3.toNat (({ v14 with fN := (w64 (((w64 (((w64 (x2 + 1))) + 1))) + 1)) } : T_impl_Step))))) (x3.toNat * 6 + 4) [.ref 1 1 0 5 v16.fE.length false]⟩, some ⟨1, eL v16.fE⟩] ?_
  obtain ⟨v18, hv19, h⟩ := bindS h
  refine opsP_E (dd := some 46) (x := I v18.1) ((callD_E τ 46 1 1 (ok_laws_markPartS hv19) (by kernel_rfl)).then (H2 := [some ⟨0, dL ((((((((((x4.set x3.toNat (({ v8 with fKind := x2 } : T_impl_Step)))).set x3.toNat (({ v10 with fA := (w64 (x2 + 1)) } : T_impl_Step)))).set x3.toNat (({ v12 with fB := (w64 (((w64 (x2 + 1))) + 1)) } : T_impl_Step)))).set x3.toNat (({ v14 with fN := (w64 (((w64 (((w64 (x2 + 1))) + 1))) + 1)) } : T_impl_Step)))).set x3.toNat (({ v16 with fE := v18.2 } : T_impl_Step))))⟩, some ⟨2, []⟩]) (HStep.nestL (xs := (((((((x4.set x3.toNat (({ v8 with fKind := x2 } : T_impl_Step)))).set x3.toNat (({ v10 with fA := (w64 (x2 + 1)) } : T_impl_Step)))).set x3.toNat (({ v12 with fB := (w64 (((w64 (x2 + 1))) + 1)) } : T_impl_Step)))).set x3.toNat (({ v14 with fN := (w64 (((w64 (((w64 (x2 + 1))) + 1))) + 1)) } : T_impl_Step)))) (vs := [.ref 1 1 0 5 v16.fE.length false]) 0 0 4 (({ v16 with fE := v18.2 } : T_impl_Step)) hv17 (by kernel_rfl) (OutL.cons (OutP.listn (v := 1) (xs := v18.2) (len_laws_markPartS hv19) (by kernel_rfl)) (OutL.nil _)) (by decide) (by decide) (fun _ _ => by decide) (by kernel_rfl) (by kernel_rfl) (by kernel_rfl) (by kernel_rfl))) ?_
  refine opsP_imp (Imp.to (st' := ⟨55, [(0, .ref 0 0 0 6 ((((((((x4.set x3.toNat (({ v8 with fKind := x2 } : T_impl_Step)))).set x3.toNat (({ v10 with fA := (w64 (x2 + 1)) } : T_impl_Step)))).set x3.toNat (({ v12 with fB := (w64 (((w64 (x2 + 1))) + 1)) } : T_impl_Step)))).set x3.toNat (({ v14 with fN := (w64 (((w64 (((w64 (x2 + 1))) + 1))) + 1)) } : T_impl_Step)))).length false), (5, I x3), (45, I ((w64 (((w64 (((w64 (((w64 (x2 + 1))) + 1))) + 1))) + 1)))), (46, I v18.1)], [some ⟨0, dL ((((((((((x4.set x3.toNat (({ v8 with fKind := x2 } : T_impl_Step)))).set x3.toNat (({ v10 with fA := (w64 (x2 + 1)) } : T_impl_Step)))).set x3.toNat (({ v12 with fB := (w64 (((w64 (x2 + 1))) + 1)) } : T_impl_Step)))).set x3.toNat (({ v14 with fN := (w64 (((w64 (((w64 (x2 + 1))) + 1))) + 1)) } : T_impl_Step)))).set x3.toNat (({ v16 with fE := v18.2 } : T_impl_Step))))⟩, some ⟨2, []⟩]⟩) [0, 5, 45, 46] (by kernel_rfl)) ?_
  refine opsP_ren (st' := ⟨55, [(0, .ref 0 0 0 6 ((((((((((x4.set x3.toNat (({ v8 with fKind := x2 } : T_impl_Step)))).set x3.toNat (({ v10 with fA := (w64 (x2 + 1)) } : T_impl_Step)))).set x3.toNat (({ v12 with fB := (w64 (((w64 (x2 + 1))) + 1)) } : T_impl_Step)))).set x3.toNat (({ v14 with fN := (w64 (((w64 (((w64 (x2 + 1))) + 1))) + 1)) } : T_impl_Step)))).set x3.toNat (({ v16 with fE := v18.2 } : T_impl_Step)))).length false), (5, I x3), (45, I ((w64 (((w64 (((w64 (((w64 (x2 + 1))) + 1))) + 1))) + 1)))), (46, I v18.1)], [some ⟨0, dL ((((((((((x4.set x3.toNat (({ v8 with fKind := x2 } : T_impl_Step)))).set x3.toNat (({ v10 with fA := (w64 (x2 + 1)) } : T_impl_Step)))).set x3.toNat (({ v12 with fB := (w64 (((w64 (x2 + 1))) + 1)) } : T_impl_Step)))).set x3.toNat (({ v14 with fN := (w64 (((w64 (((w64 (x2 + 1))) + 1))) + 1)) } : T_impl_Step)))).set x3.toNat (({ v16 with fE := v18.2 } : T_impl_Step))))⟩, some ⟨2, []⟩]⟩) 0 ((((((((((x4.set x3.toNat (({ v8 with fKind := x2 } : T_impl_Step)))).set x3.toNat (({ v10 with fA := (w64 (x2 + 1)) } : T_impl_Step)))).set x3.toNat (({ v12 with fB := (w64 (((w64 (x2 + 1))) + 1)) } : T_impl_Step)))).set x3.toNat (({ v14 with fN := (w64 (((w64 (((w64 (x2 + 1))) + 1))) + 1)) } : T_impl_Step)))).set x3.toNat (({ v16 with fE := v18.2 } : T_impl_Step)))).length (renC (ren_ref (List.length_set ..).symm) (renC trivial (renC trivial (renC trivial renC0)))) (by kernel_rfl) ?_
  refine ve 1 55 [(0, .ref 0 0 0 6 ((((((((((x4.set x3.toNat (({ v8 with fKind := x2 } : T_impl_Step)))).set x3.toNat (({ v10 with fA := (w64 (x2 + 1)) } : T_impl_Step)))).set x3.toNat (({ v12 with fB := (w64 (((w64 (x2 + 1))) + 1)) } : T_impl_Step)))).set x3.toNat (({ v14 with fN := (w64 (((w64 (((w64 (x2 + 1))) + 1))) + 1)) } : T_impl_Step)))).set x3.toNat (({ v16 with fE := v18.2 } : T_impl_Step)))).length false), (1, I v18.1), (5, I x3)] [some ⟨0, dL ((((((((((x4.set x3.toNat (({ v8 with fKind := x2 } : T_impl_Step)))).set x3.toNat (({ v10 with fA := (w64 (x2 + 1)) } : T_impl_Step)))).set x3.toNat (({ v12 with fB := (w64 (((w64 (x2 + 1))) + 1)) } : T_impl_Step)))).set x3.toNat (({ v14 with fN := (w64 (((w64 (((w64 (x2 + 1))) + 1))) + 1)) } : T_impl_Step)))).set x3.toNat (({ v16 with fE := v18.2 } : T_impl_Step))))⟩, some ⟨2, []⟩] ?_
  refine rv 2 55 [(0, .ref 0 0 0 6 ((((((((((x4.set x3.toNat (({ v8 with fKind := x2 } : T_impl_Step)))).set x3.toNat (({ v10 with fA := (w64 (x2 + 1)) } : T_impl_Step)))).set x3.toNat (({ v12 with fB := (w64 (((w64 (x2 + 1))) + 1)) } : T_impl_Step)))).set x3.toNat (({ v14 with fN := (w64 (((w64 (((w64 (x2 + 1))) + 1))) + 1)) } : T_impl_Step)))).set x3.toNat (({ v16 with fE := v18.2 } : T_impl_Step)))).length false), (1, I v18.1), (5, I x3), (47, .ref 0 0 0 6 ((((((((((x4.set x3.toNat (({ v8 with fKind := x2 } : T_impl_Step)))).set x3.toNat (({ v10 with fA := (w64 (x2 + 1)) } : T_impl_Step)))).set x3.toNat (({ v12 with fB := (w64 (((w64 (x2 + 1))) + 1)) } : T_impl_Step)))).set x3.toNat (({ v14 with fN := (w64 (((w64 (((w64 (x2 + 1))) + 1))) + 1)) } : T_impl_Step)))).set x3.toNat (({ v16 with fE := v18.2 } : T_impl_Step)))).length false), (48, I x3)] [some ⟨0, dL ((((((((((x4.set x3.toNat (({ v8 with fKind := x2 } : T_impl_Step)))).set x3.toNat (({ v10 with fA := (w64 (x2 + 1)) } : T_impl_Step)))).set x3.toNat (({ v12 with fB := (w64 (((w64 (x2 + 1))) + 1)) } : T_impl_Step)))).set x3.toNat (({ v14 with fN := (w64 (((w64 (((w64 (x2 + 1))) + 1))) + 1)) } : T_impl_Step)))).set x3.toNat (({ v16 with fE := v18.2 } : T_impl_Step))))⟩, some ⟨2, []⟩] ?_
  obtain ⟨v20, hv21, h⟩ := bindS h
  refine opsP_idr τ_ok 49 0 0 ((((((((((x4.set x3.toNat (({ v8 with fKind := x2 } : T_impl_Step)))).set x3.toNat (({ v10 with fA := (w64 (x2 + 1)) } : T_impl_Step)))).set x3.toNat (({ v12 with fB := (w64 (((w64 (x2 + 1))) + 1)) } : T_impl_Step)))).set x3.toNat (({ v14 with fN := (w64 (((w64 (((w64 (x2 + 1))) + 1))) + 1)) } : T_impl_Step)))).set x3.toNat (({ v16 with fE := v18.2 } : T_impl_Step)))).length hv21 rfl (by kernel_rfl) ?_
  refine v 1 55 [(0, .ref 0 0 0 6 ((((((((((x4.set x3.toNat (({ v8 with fKind := x2 } : T_impl_Step)))).set x3.toNat (({ v10 with fA := (w64 (x2 + 1)) } : T_impl_Step)))).set x3.toNat (({ v12 with fB := (w64 (((w64 (x2 + 1))) + 1)) } : T_impl_Step)))).set x3.toNat (({ v14 with fN := (w64 (((w64 (((w64 (x2 + 1))) + 1))) + 1)) } : T_impl_Step)))).set x3.toNat (({ v16 with fE := v18.2 } : T_impl_Step)))).length false), (1, I v18.1), (5, I x3), (50, .ptr 0 0 (x3.toNat * 6 + 5))] [some ⟨0, dL ((((((((((x4.set x3.toNat (({ v8 with fKind := x2 } : T_impl_Step)))).set x3.toNat (({ v10 with fA := (w64 (x2 + 1)) } : T_impl_Step)))).set x3.toNat (({ v12 with fB := (w64 (((w64 (x2 + 1))) + 1)) } : T_impl_Step)))).set x3.toNat (({ v14 with fN := (w64 (((w64 (((w64 (x2 + 1))) + 1))) + 1)) } : T_impl_Step)))).set x3.toNat (({ v16 with fE := v18.2 } : T_impl_Step))))⟩, some ⟨2, []⟩] ?_
  refine opsP_imp (Imp.to (st' := ⟨55, [(0, .ref 0 0 0 6 ((((((((((x4.set x3.toNat (({ v8 with fKind := x2 } : T_impl_Step)))).set x3.toNat (({ v10 with fA := (w64 (x2 + 1)) } : T_impl_Step)))).set x3.toNat (({ v12 with fB := (w64 (((w64 (x2 + 1))) + 1)) } : T_impl_Step)))).set x3.toNat (({ v14 with fN := (w64 (((w64 (((w64 (x2 + 1))) + 1))) + 1)) } : T_impl_Step)))).set x3.toNat (({ v16 with fE := v18.2 } : T_impl_Step)))).length false), (1, I v18.1), (5, I x3), (50, .ptr 0 0 (x3.toNat * 6 + 5))], [some ⟨0, dL ((((((((((x4.set x3.toNat (({ v8 with fKind := x2 } : T_impl_Step)))).set x3.toNat (({ v10 with fA := (w64 (x2 + 1)) } : T_impl_Step)))).set x3.toNat (({ v12 with fB := (w64 (((w64 (x2 + 1))) + 1)) } : T_impl_Step)))).set x3.toNat (({ v14 with fN := (w64 (((w64 (((w64 (x2 + 1))) + 1))) + 1)) } : T_impl_Step)))).set x3.toNat (({ v16 with fE := v18.2 } : T_impl_Step))))⟩, some ⟨2, []⟩]⟩) [0, 1, 5, 50] (by kernel_rfl)) ?_
  refine opsP_imp (Imp.ghosts 1 (st' := ⟨55, [(0, .ref 0 0 0 6 ((((((((((x4.set x3.toNat (({ v8 with fKind := x2 } : T_impl_Step)))).set x3.toNat (({ v10 with fA := (w64 (x2 + 1)) } : T_impl_Step)))).set x3.toNat (({ v12 with fB := (w64 (((w64 (x2 + 1))) + 1)) } : T_impl_Step)))).set x3.toNat (({ v14 with fN := (w64 (((w64 (((w64 (x2 + 1))) + 1))) + 1)) } : T_impl_Step)))).set x3.toNat (({ v16 with fE := v18.2 } : T_impl_Step)))).length false), (1, I v18.1), (5, I x3), (50, .ptr 0 0 (x3.toNat * 6 + 5))], [some ⟨0, dL ((((((((((x4.set x3.toNat (({ v8 with fKind := x2 } : T_impl_Step)))).set x3.toNat (({ v10 with fA := (w64 (x2 + 1)) } : T_impl_Step)))).set x3.toNat (({ v12 with fB := (w64 (((w64 (x2 + 1))) + 1)) } : T_impl_Step)))).set x3.toNat (({ v14 with fN := (w64 (((w64 (((w64 (x2 + 1))) + 1))) + 1)) } : T_impl_Step)))).set x3.toNat (({ v16 with fE := v18.2 } : T_impl_Step))))⟩, some ⟨2, []⟩, some ⟨0, []⟩]⟩) (by kernel_rfl)) ?_
  refine opsP_E (dd := some 51) (x := .ref 2 1 0 1 v20.fList.length false) (CoreE.pre (H1 := [some ⟨0, setL (dL ((((((((((x4.set x3.toNat (({ v8 with fKind := x2 } : T_impl_Step)))).set x3.toNat (({ v10 with fA := (w64 (x2 + 1)) } : T_impl_Step)))).set x3.toNat (({ v12 with fB := (w64 (((w64 (x2 + 1))) + 1)) } : T_impl_Step)))).set x3.toNat (({ v14 with fN := (w64 (((w64 (((w64 (x2 + 1))) + 1))) + 1)) } : T_impl_Step)))).set x3.toNat (({ v16 with fE := v18.2 } : T_impl_Step))))) (x3.toNat * 6 + 5) [.ref 2 1 0 1 v20.fList.length false]⟩, some ⟨2, []⟩, some ⟨1, eL v20.fList⟩]) (HStep.openL (cs0 := []) (xs := (((((((((x4.set x3.toNat (({ v8 with fKind := x2 } : T_impl_Step)))).set x3.toNat (({ v10 with fA := (w64 (x2 + 1)) } : T_impl_Step)))).set x3.toNat (({ v12 with fB := (w64 (((w64 (x2 + 1))) + 1)) } : T_impl_Step)))).set x3.toNat (({ v14 with fN := (w64 (((w64 (((w64 (x2 + 1))) + 1))) + 1)) } : T_impl_Step)))).set x3.toNat (({ v16 with fE := v18.2 } : T_impl_Step)))) (s := 1) (n := v20.fList.length) (f := false) (cs := eL v20.fList) 0 0 2 0 5 hv21 (by kernel_rfl) (by kernel_rfl) (by kernel_rfl) (by kernel_rfl) (by decide) (fun _ _ => by decide) (by kernel_rfl)) (ldo_E (xs := (((((((((x4.set x3.toNat (({ v8 with fKind := x2 } : T_impl_Step)))).set x3.toNat (({ v10 with fA := (w64 (x2 + 1)) } : T_impl_Step)))).set x3.toNat (({ v12 with fB := (w64 (((w64 (x2 + 1))) + 1)) } : T_impl_Step)))).set x3.toNat (({ v14 with fN := (w64 (((w64 (((w64 (x2 + 1))) + 1))) + 1)) } : T_impl_Step)))).set x3.toNat (({ v16 with fE := v18.2 } : T_impl_Step)))) τ_ok 51 39 5 hv21 (by kernel_rfl) (by kernel_rfl) (by kernel_rfl))) ?_
  refine v 1 55 [(0, .ref 0 0 0 6 ((((((((((x4.set x3.toNat (({ v8 with fKind := x2 } : T_impl_Step)))).set x3.toNat (({ v10 with fA := (w64 (x2 + 1)) } : T_impl_Step)))).set x3.toNat (({ v12 with fB := (w64 (((w64 (x2 + 1))) + 1)) } : T_impl_Step)))).set x3.toNat (({ v14 with fN := (w64 (((w64 (((w64 (x2 + 1))) + 1))) + 1)) } : T_impl_Step)))).set x3.toNat (({ v16 with fE := v18.2 } : T_impl_Step)))).length false), (5, I x3), (51, .ref 2 1 0 1 v20.fList.length false), (52, I v18.1)] [some ⟨0, setL (dL ((((((((((x4.set x3.toNat (({ v8 with fKind := x2 } : T_impl_Step)))).set x3.toNat (({ v10 with fA := (w64 (x2 + 1)) } : T_impl_Step)))).set x3.toNat (({ v12 with fB := (w64 (((w64 (x2 + 1))) + 1)) } : T_impl_Step)))).set x3.toNat (({ v14 with fN := (w64 (((w64 (((w64 (x2 + 1))) + 1))) + 1)) } : T_impl_Step)))).set x3.toNat (({ v16 with fE := v18.2 } : T_impl_Step))))) (x3.toNat * 6 + 5) [.ref 2 1 0 1 v20.fList.length false]⟩, some ⟨2, []⟩, some ⟨1, eL v20.fList⟩] ?_
  obtain ⟨v22, hv23, h⟩ := bindS h
  refine opsP_E (dd := some 53) (x := I v22.1) ((callD_E τ 53 2 1 (ok_laws_markIntS hv23) (by kernel_rfl)).then (H2 := [some ⟨0, dL ((((((((((((x4.set x3.toNat (({ v8 with fKind := x2 } : T_impl_Step)))).set x3.toNat (({ v10 with fA := (w64 (x2 + 1)) } : T_impl_Step)))).set x3.toNat (({ v12 with fB := (w64 (((w64 (x2 + 1))) + 1)) } : T_impl_Step)))).set x3.toNat (({ v14 with fN := (w64 (((w64 (((w64 (x2 + 1))) + 1))) + 1)) } : T_impl_Step)))).set x3.toNat (({ v16 with fE := v18.2 } : T_impl_Step)))).set x3.toNat (({ v20 with fList := v22.2 } : T_impl_Step))))⟩, some ⟨2, []⟩, some ⟨2, []⟩]) (HStep.nestL (xs := (((((((((x4.set x3.toNat (({ v8 with fKind := x2 } : T_impl_Step)))).set x3.toNat (({ v10 with fA := (w64 (x2 + 1)) } : T_impl_Step)))).set x3.toNat (({ v12 with fB := (w64 (((w64 (x2 + 1))) + 1)) } : T_impl_Step)))).set x3.toNat (({ v14 with fN := (w64 (((w64 (((w64 (x2 + 1))) + 1))) + 1)) } : T_impl_Step)))).set x3.toNat (({ v16 with fE := v18.2 } : T_impl_Step)))) (vs := [.ref 2 1 0 1 v20.fList.length false]) 0 0 5 (({ v20 with fList := v22.2 } : T_impl_Step)) hv21 (by kernel_rfl) (OutL.cons (OutP.listn (v := 1) (xs := v22.2) (len_laws_markIntS hv23) (by kernel_rfl)) (OutL.nil _)) (by decide) (by decide) (fun _ _ => by decide) (by kernel_rfl) (by kernel_rfl) (by kernel_rfl) (by kernel_rfl))) ?_
  refine opsP_imp (Imp.to (st' := ⟨55, [(0, .ref 0 0 0 6 ((((((((((x4.set x3.toNat (({ v8 with fKind := x2 } : T_impl_Step)))).set x3.toNat (({ v10 with fA := (w64 (x2 + 1)) } : T_impl_Step)))).set x3.toNat (({ v12 with fB := (w64 (((w64 (x2 + 1))) + 1)) } : T_impl_Step)))).set x3.toNat (({ v14 with fN := (w64 (((w64 (((w64 (x2 + 1))) + 1))) + 1)) } : T_impl_Step)))).set x3.toNat (({ v16 with fE := v18.2 } : T_impl_Step)))).length false), (5, I x3), (52, I v18.1), (53, I v22.1)], [some ⟨0, dL ((((((((((((x4.set x3.toNat (({ v8 with fKind := x2 } : T_impl_Step)))).set x3.toNat (({ v10 with fA := (w64 (x2 + 1)) } : T_impl_Step)))).set x3.toNat (({ v12 with fB := (w64 (((w64 (x2 + 1))) + 1)) } : T_impl_Step)))).set x3.toNat (({ v14 with fN := (w64 (((w64 (((w64 (x2 + 1))) + 1))) + 1)) } : T_impl_Step)))).set x3.toNat (({ v16 with fE := v18.2 } : T_impl_Step)))).set x3.toNat (({ v20 with fList := v22.2 } : T_impl_Step))))⟩, some ⟨2, []⟩, some ⟨2, []⟩]⟩) [0, 5, 52, 53] (by kernel_rfl)) ?_
  refine opsP_ren (st' := ⟨55, [(0, .ref 0 0 0 6 ((((((((((((x4.set x3.toNat (({ v8 with fKind := x2 } : T_impl_Step)))).set x3.toNat (({ v10 with fA := (w64 (x2 + 1)) } : T_impl_Step)))).set x3.toNat (({ v12 with fB := (w64 (((w64 (x2 + 1))) + 1)) } : T_impl_Step)))).set x3.toNat (({ v14 with fN := (w64 (((w64 (((w64 (x2 + 1))) + 1))) + 1)) } : T_impl_Step)))).set x3.toNat (({ v16 with fE := v18.2 } : T_impl_Step)))).set x3.toNat (({ v20 with fList := v22.2 } : T_impl_Step)))).length false), (5, I x3), (52, I v18.1), (53, I v22.1)], [some ⟨0, dL ((((((((((((x4.set x3.toNat (({ v8 with fKind := x2 } : T_impl_Step)))).set x3.toNat (({ v10 with fA := (w64 (x2 + 1)) } : T_impl_Step)))).set x3.toNat (({ v12 with fB := (w64 (((w64 (x2 + 1))) + 1)) } : T_impl_Step)))).set x3.toNat (({ v14 with fN := (w64 (((w64 (((w64 (x2 + 1))) + 1))) + 1)) } : T_impl_Step)))).set x3.toNat (({ v16 with fE := v18.2 } : T_impl_Step)))).set x3.toNat (({ v20 with fList := v22.2 } : T_impl_Step))))⟩, some ⟨2, []⟩, some ⟨2, []⟩]⟩) 0 ((((((((((((x4.set x3.toNat (({ v8 with fKind := x2 } : T_impl_Step)))).set x3.toNat (({ v10 with fA := (w64 (x2 + 1)) } : T_impl_Step)))).set x3.toNat (({ v12 with fB := (w64 (((w64 (x2 + 1))) + 1)) } : T_impl_Step)))).set x3.toNat (({ v14 with fN := (w64 (((w64 (((w64 (x2 + 1))) + 1))) + 1)) } : T_impl_Step)))).set x3.toNat (({ v16 with fE := v18.2 } : T_impl_Step)))).set x3.toNat (({ v20 with fList := v22.2 } : T_impl_Step)))).length (renC (ren_ref (List.length_set ..).symm) (renC trivial (renC trivial (renC trivial renC0)))) (by kernel_rfl) ?_
  refine ve 1 55 [(0, .ref 0 0 0 6 ((((((((((((x4.set x3.toNat (({ v8 with fKind := x2 } : T_impl_Step)))).set x3.toNat (({ v10 with fA := (w64 (x2 + 1)) } : T_impl_Step)))).set x3.toNat (({ v12 with fB := (w64 (((w64 (x2 + 1))) + 1)) } : T_impl_Step)))).set x3.toNat (({ v14 with fN := (w64 (((w64 (((w64 (x2 + 1))) + 1))) + 1)) } : T_impl_Step)))).set x3.toNat (({ v16 with fE := v18.2 } : T_impl_Step)))).set x3.toNat (({ v20 with fList := v22.2 } : T_impl_Step)))).length false), (1, I v22.1), (5, I x3)] [some ⟨0, dL ((((((((((((x4.set x3.toNat (({ v8 with fKind := x2 } : T_impl_Step)))).set x3.toNat (({ v10 with fA := (w64 (x2 + 1)) } : T_impl_Step)))).set x3.toNat (({ v12 with fB := (w64 (((w64 (x2 + 1))) + 1)) } : T_impl_Step)))).set x3.toNat (({ v14 with fN := (w64 (((w64 (((w64 (x2 + 1))) + 1))) + 1)) } : T_impl_Step)))).set x3.toNat (({ v16 with fE := v18.2 } : T_impl_Step)))).set x3.toNat (({ v20 with fList := v22.2 } : T_impl_Step))))⟩, some ⟨2, []⟩, some ⟨2, []⟩] ?_
  refine rve 55 [(0, .ref 0 0 0 6 ((((((((((((x4.set x3.toNat (({ v8 with fKind := x2 } : T_impl_Step)))).set x3.toNat (({ v10 with fA := (w64 (x2 + 1)) } : T_impl_Step)))).set x3.toNat (({ v12 with fB := (w64 (((w64 (x2 + 1))) + 1)) } : T_impl_Step)))).set x3.toNat (({ v14 with fN := (w64 (((w64 (((w64 (x2 + 1))) + 1))) + 1)) } : T_impl_Step)))).set x3.toNat (({ v16 with fE := v18.2 } : T_impl_Step)))).set x3.toNat (({ v20 with fList := v22.2 } : T_impl_Step)))).length false), (1, I v22.1), (5, I ((w64 (x3 + 1))))] [some ⟨0, dL ((((((((((((x4.set x3.toNat (({ v8 with fKind := x2 } : T_impl_Step)))).set x3.toNat (({ v10 with fA := (w64 (x2 + 1)) } : T_impl_Step)))).set x3.toNat (({ v12 with fB := (w64 (((w64 (x2 + 1))) + 1)) } : T_impl_Step)))).set x3.toNat (({ v14 with fN := (w64 (((w64 (((w64 (x2 + 1))) + 1))) + 1)) } : T_impl_Step)))).set x3.toNat (({ v16 with fE := v18.2 } : T_impl_Step)))).set x3.toNat (({ v20 with fList := v22.2 } : T_impl_Step))))⟩, some ⟨2, []⟩, some ⟨2, []⟩] ?_
  exact ⟨(f5, v22.1, (w64 (x3 + 1)), (((((((((((x4.set x3.toNat (({ v8 with fKind := x2 } : T_impl_Step)))).set x3.toNat (({ v10 with fA := (w64 (x2 + 1)) } : T_impl_Step)))).set x3.toNat (({ v12 with fB := (w64 (((w64 (x2 + 1))) + 1)) } : T_impl_Step)))).set x3.toNat (({ v14 with fN := (w64 (((w64 (((w64 (x2 + 1))) + 1))) + 1)) } : T_impl_Step)))).set x3.toNat (({ v16 with fE := v18.2 } : T_impl_Step)))).set x3.toNat (({ v20 with fList := v22.2 } : T_impl_Step)))), h, Nat.lt_succ_self _, (Imp.to (st' := ⟨55, [(0, .ref 0 0 0 6 ((((((((((((x4.set x3.toNat (({ v8 with fKind := x2 } : T_impl_Step)))).set x3.toNat (({ v10 with fA := (w64 (x2 + 1)) } : T_impl_Step)))).set x3.toNat (({ v12 with fB := (w64 (((w64 (x2 + 1))) + 1)) } : T_impl_Step)))).set x3.toNat (({ v14 with fN := (w64 (((w64 (((w64 (x2 + 1))) + 1))) + 1)) } : T_impl_Step)))).set x3.toNat (({ v16 with fE := v18.2 } : T_impl_Step)))).set x3.toNat (({ v20 with fList := v22.2 } : T_impl_Step)))).length false), (1, I v22.1), (5, I ((w64 (x3 + 1))))], [some ⟨0, dL ((((((((((((x4.set x3.toNat (({ v8 with fKind := x2 } : T_impl_Step)))).set x3.toNat (({ v10 with fA := (w64 (x2 + 1)) } : T_impl_Step)))).set x3.toNat (({ v12 with fB := (w64 (((w64 (x2 + 1))) + 1)) } : T_impl_Step)))).set x3.toNat (({ v14 with fN := (w64 (((w64 (((w64 (x2 + 1))) + 1))) + 1)) } : T_impl_Step)))).set x3.toNat (({ v16 with fE := v18.2 } : T_impl_Step)))).set x3.toNat (({ v20 with fList := v22.2 } : T_impl_Step))))⟩, some ⟨2, []⟩, some ⟨2, []⟩]⟩) [0, 1, 5] (by kernel_rfl)).trans ((Imp.truncS (st' := ⟨55, [(0, .ref 0 0 0 6 ((((((((((((x4.set x3.toNat (({ v8 with fKind := x2 } : T_impl_Step)))).set x3.toNat (({ v10 with fA := (w64 (x2 + 1)) } : T_impl_Step)))).set x3.toNat (({ v12 with fB := (w64 (((w64 (x2 + 1))) + 1)) } : T_impl_Step)))).set x3.toNat (({ v14 with fN := (w64 (((w64 (((w64 (x2 + 1))) + 1))) + 1)) } : T_impl_Step)))).set x3.toNat (({ v16 with fE := v18.2 } : T_impl_Step)))).set x3.toNat (({ v20 with fList := v22.2 } : T_impl_Step)))).length false), (1, I v22.1), (5, I ((w64 (x3 + 1))))], [some ⟨0, dL ((((((((((((x4.set x3.toNat (({ v8 with fKind := x2 } : T_impl_Step)))).set x3.toNat (({ v10 with fA := (w64 (x2 + 1)) } : T_impl_Step)))).set x3.toNat (({ v12 with fB := (w64 (((w64 (x2 + 1))) + 1)) } : T_impl_Step)))).set x3.toNat (({ v14 with fN := (w64 (((w64 (((w64 (x2 + 1))) + 1))) + 1)) } : T_impl_Step)))).set x3.toNat (({ v16 with fE := v18.2 } : T_impl_Step)))).set x3.toNat (({ v20 with fList := v22.2 } : T_impl_Step))))⟩]⟩) 1 (fun _ _ => by decide) (by kernel_rfl) (allBelow_mem (by exact (And.intro rfl (And.intro rfl (And.intro rfl trivial))))) (by exact (And.intro (dL_below _ _) trivial)) (by kernel_rfl)).trans (Imp.to [0, 1, 5] (by kernel_rfl)))⟩
  refine pwp_exit ?_
  refine srve 55 [(4, I x2)] [some ⟨0, dL x4⟩] ?_
  have h := si h
  subst h
  exact pwp_ret ⟨.inr rfl, 0, by kernel_rfl, by kernel_rfl⟩
def laws_markValueSS_l0 : Nat → Int → Int → (List (List T_impl_Value)) → Option (Int × List (List T_impl_Value))
  | 0, _, _, _ => none
  | f5 + 1, x2, x3, x4 => bif (decide (x3 < ((x4.length : Int)))) then (getI x4 x3).bind fun v8 => (laws_markValueS v8 x2).bind fun v10 => (laws_markValueSS_l0 f5) v10.1 ((w64 (x3 + 1))) ((x4.set x3.toNat v10.2)) else some (x2, x4)
def laws_markValueSS (a0 : List (List T_impl_Value)) (a1 : Int) : Option (Int × List (List T_impl_Value)) := laws_markValueSS_l0 FUEL a1 0 a0
theorem len_laws_markValueSS_l0 : ∀ (f5 : Nat) (x2 : Int) (x3 : Int) (x4 : List (List T_impl_Value)) (y : Int × List (List T_impl_Value)), laws_markValueSS_l0 f5 x2 x3 x4 = some y → y.2.length = x4.length
  | 0, _, _, _, _, h => by cases h
  | f5 + 1, x2, x3, x4, y, h => by
    rw [laws_markValueSS_l0] at h
    rcases condS h with h | h
    · obtain ⟨_, _, h⟩ := bindS h
      obtain ⟨_, _, h⟩ := bindS h
      have h2 := len_laws_markValueSS_l0 f5 _ _ _ _ h
      simp only [List.length_set] at h2
      exact h2
    · cases h; rfl
theorem len_laws_markValueSS {a0 : List (List T_impl_Value)} {a1 : Int} {y : Int × List (List T_impl_Value)} (h : laws_markValueSS a0 a1 = some y) : y.2.length = a0.length := by
  unfold laws_markValueSS at h
  exact len_laws_markValueSS_l0 _ _ _ _ _ h
theorem ok_laws_markValueSS {a0 : List (List T_impl_Value)} {a1 : Int} {y : Int × List (List T_impl_Value)} (h : laws_markValueSS a0 a1 = some y) : OKd Try.prog 46 1 a0.length (dL a0) [I a1] (.int .i64 y.1) (dL y.2) := by
  refine OKd_of_pwp τ_ok Try.func46 rfl (by kernel_rfl) rfl (dL_oc _) (dL_oc _) (dL_bl _) (dL_bl _) rfl (fun hl => by rw [dL_len, len_laws_markValueSS h, ← dL_len]; exact hl) fun Γ => ?_
  refine pwp_imp (Imp.to (st' := ⟨19, [(0, .ref 0 0 0 1 a0.length false), (1, I a1)], [some ⟨0, dL a0⟩]⟩) [0, 1] (by kernel_rfl)) ?_
  unfold laws_markValueSS at h
  refine srve 19 [(0, .ref 0 0 0 1 a0.length false), (1, I a1)] [some ⟨0, dL a0⟩] ?_
  refine pwp_seq ?_
  refine srve 19 [(0, .ref 0 0 0 1 a0.length false), (1, I a1), (5, I 0)] [some ⟨0, dL a0⟩] ?_
  refine pwp_block ?_
  refine pwp_loop (ι := Nat × Int × Int × (List (List T_impl_Value))) (fun (f5, x2, x3, x4) => (⟨19, [(0, .ref 0 0 0 1 x4.length false), (1, I x2), (5, I x3)], [some ⟨0, dL x4⟩]⟩ : St)) (fun (f5, x2, x3, x4) => laws_markValueSS_l0 f5 x2 x3 x4 = some y) (fun (f5, x2, x3, x4) => f5) (FUEL, a1, 0, a0) h ((Imp.to (st' := ⟨19, [(0, .ref 0 0 0 1 a0.length false), (1, I a1), (5, I 0)], [some ⟨0, dL a0⟩]⟩) [0, 1, 5] (by kernel_rfl)).trans (Imp.to [0, 1, 5] (by kernel_rfl))) ?_
  rintro ⟨f5, x2, x3, x4⟩ h
  dsimp only at h ⊢
  rcases f5 with _ | f5
  cases h
  rw [laws_markValueSS_l0] at h
  refine pwp_seq ?_
  refine srve 19 [(0, .ref 0 0 0 1 x4.length false), (1, I x2), (5, I x3), (9, B ((decide (x3 < ((x4.length : Int))))))] [some ⟨0, dL x4⟩] ?_
  refine pc h (fun h => ?_) (fun h => ?_)
  refine pwp_skip ?_
  refine pwp_seq ?_
  refine pwp_block ?_
  refine rv 2 19 [(0, .ref 0 0 0 1 x4.length false), (1, I x2), (5, I x3), (12, .ref 0 0 0 1 x4.length false), (13, I x3)] [some ⟨0, dL x4⟩] ?_
  obtain ⟨v8, hv9, h⟩ := bindS h
  refine opsP_idr τ_ok 14 0 0 x4.length hv9 rfl (by kernel_rfl) ?_
  refine opsP_imp (Imp.to (st' := ⟨19, [(0, .ref 0 0 0 1 x4.length false), (1, I x2), (5, I x3), (12, .ref 0 0 0 1 x4.length false), (13, I x3), (14, .ptr 0 0 (x3.toNat * 1))], [some ⟨0, dL x4⟩]⟩) [0, 1, 5, 12, 13, 14] (by kernel_rfl)) ?_
  refine opsP_imp (Imp.ghosts 1 (st' := ⟨19, [(0, .ref 0 0 0 1 x4.length false), (1, I x2), (5, I x3), (12, .ref 0 0 0 1 x4.length false), (13, I x3), (14, .ptr 0 0 (x3.toNat * 1))], [some ⟨0, dL x4⟩, some ⟨0, []⟩]⟩) (by kernel_rfl)) ?_
  refine opsP_E (dd := some 15) (x := .ref 1 1 0 3 v8.length false) (CoreE.pre (H1 := [some ⟨0, setL (dL x4) (x3.toNat * 1 + 0) [.ref 1 1 0 3 v8.length false]⟩, some ⟨1, eL v8⟩]) (HStep.openL (cs0 := []) (xs := x4) (s := 3) (n := v8.length) (f := false) (cs := eL v8) 0 0 1 0 0 hv9 (by kernel_rfl) (by kernel_rfl) (by kernel_rfl) (by kernel_rfl) (by decide) (fun _ _ => by decide) (by kernel_rfl)) (ldo_E (xs := x4) τ_ok 15 111 0 hv9 (by kernel_rfl) (by kernel_rfl) (by kernel_rfl))) ?_
  refine v 1 19 [(0, .ref 0 0 0 1 x4.length false), (5, I x3), (15, .ref 1 1 0 3 v8.length false), (16, I x2)] [some ⟨0, setL (dL x4) (x3.toNat * 1 + 0) [.ref 1 1 0 3 v8.length false]⟩, some ⟨1, eL v8⟩] ?_
  obtain ⟨v10, hv11, h⟩ := bindS h
  refine opsP_E (dd := some 17) (x := I v10.1) ((callD_E τ 17 1 1 (ok_laws_markValueS hv11) (by kernel_rfl)).then (H2 := [some ⟨0, dL ((x4.set x3.toNat v10.2))⟩, some ⟨2, []⟩]) (HStep.nestL (xs := x4) (vs := [.ref 1 1 0 3 v8.length false]) 0 0 0 v10.2 hv9 (by kernel_rfl) (OutL.cons (OutP.listn (v := 1) (xs := v10.2) (len_laws_markValueS hv11) (by kernel_rfl)) (OutL.nil _)) (by decide) (by decide) (fun _ _ => by decide) (by kernel_rfl) (by kernel_rfl) (by kernel_rfl) (by kernel_rfl))) ?_
  refine opsP_imp (Imp.to (st' := ⟨19, [(0, .ref 0 0 0 1 x4.length false), (5, I x3), (16, I x2), (17, I v10.1)], [some ⟨0, dL ((x4.set x3.toNat v10.2))⟩, some ⟨2, []⟩]⟩) [0, 5, 16, 17] (by kernel_rfl)) ?_
  refine opsP_ren (st' := ⟨19, [(0, .ref 0 0 0 1 ((x4.set x3.toNat v10.2)).length false), (5, I x3), (16, I x2), (17, I v10.1)], [some ⟨0, dL ((x4.set x3.toNat v10.2))⟩, some ⟨2, []⟩]⟩) 0 ((x4.set x3.toNat v10.2)).length (renC (ren_ref (List.length_set ..).symm) (renC trivial (renC trivial (renC trivial renC0)))) (by kernel_rfl) ?_
  refine ve 1 19 [(0, .ref 0 0 0 1 ((x4.set x3.toNat v10.2)).length false), (1, I v10.1), (5, I x3)] [some ⟨0, dL ((x4.set x3.toNat v10.2))⟩, some ⟨2, []⟩] ?_
  refine rve 19 [(0, .ref 0 0 0 1 ((x4.set x3.toNat v10.2)).length false), (1, I v10.1), (5, I ((w64 (x3 + 1))))] [some ⟨0, dL ((x4.set x3.toNat v10.2))⟩, some ⟨2, []⟩] ?_
  exact ⟨(f5, v10.1, (w64 (x3 + 1)), (x4.set x3.toNat v10.2)), h, Nat.lt_succ_self _, (Imp.to (st' := ⟨19, [(0, .ref 0 0 0 1 ((x4.set x3.toNat v10.2)).length false), (1, I v10.1), (5, I ((w64 (x3 + 1))))], [some ⟨0, dL ((x4.set x3.toNat v10.2))⟩, some ⟨2, []⟩]⟩) [0, 1, 5] (by kernel_rfl)).trans ((Imp.truncS (st' := ⟨19, [(0, .ref 0 0 0 1 ((x4.set x3.toNat v10.2)).length false), (1, I v10.1), (5, I ((w64 (x3 + 1))))], [some ⟨0, dL ((x4.set x3.toNat v10.2))⟩]⟩) 1 (fun _ _ => by decide) (by kernel_rfl) (allBelow_mem (by exact (And.intro rfl (And.intro rfl (And.intro rfl trivial))))) (by exact (And.intro (dL_below _ _) trivial)) (by kernel_rfl)).trans (Imp.to [0, 1, 5] (by kernel_rfl)))⟩
  refine pwp_exit ?_
  refine srve 19 [(4, I x2)] [some ⟨0, dL x4⟩] ?_
  have h := si h
  subst h
  exact pwp_ret ⟨.inr rfl, 0, by kernel_rfl, by kernel_rfl⟩
def laws_szValueSS_l0 (a0 : List (List T_laws_Value)) : Nat → Int → Int → Option Int
  | 0, _, _ => none
  | f4 + 1, x2, x3 => bif (decide (x3 < ((a0.length : Int)))) then (getI a0 x3).bind fun v7 => (laws_szValueS v7 x2).bind fun v9 => bif (decide (v9 < 0)) then some (-1) else (laws_szValueSS_l0 a0 f4) v9 ((w64 (x3 + 1))) else some x2
def laws_szValueSS (a0 : List (List T_laws_Value)) (a1 : Int) : Option Int := bif (decide (((w64 (a1 - ((a0.length : Int))))) < 0)) then some (-1) else laws_szValueSS_l0 a0 FUEL ((w64 (a1 - ((a0.length : Int))))) 0
theorem ok_laws_szValueSS {a0 : List (List T_laws_Value)} {a1 : Int} {y : Int} (h : laws_szValueSS a0 a1 = some y) : OK Try.prog 78 [A a0, I a1] (I y) := by
  refine OK_of_pwp τ_ok Try.func78 rfl (by kernel_rfl) rfl fun Γ hX => ?_
  unfold laws_szValueSS at h
  refine srve 27 [(0, A a0), (1, I a1)] [] ?_
  refine srve 27 [(0, A a0), (1, I ((w64 (a1 - ((a0.length : Int))))))] [] ?_
  refine pwp_seq ?_
  refine srve 27 [(0, A a0), (1, I ((w64 (a1 - ((a0.length : Int)))))), (11, B ((decide (((w64 (a1 - ((a0.length : Int))))) < 0))))] [] ?_
  refine pc h (fun h => ?_) (fun h => ?_)
  refine srve 27 [(4, I (-1))] [] ?_
  cases h
  exact pwp_ret rz
  refine pwp_skip ?_
  refine pwp_seq ?_
  refine srve 27 [(0, A a0), (1, I ((w64 (a1 - ((a0.length : Int)))))), (5, I 0)] [] ?_
  refine pwp_block ?_
  refine pwp_loop (ι := Nat × Int × Int) (fun (f4, x2, x3) => (⟨27, [(0, A a0), (1, I x2), (5, I x3)], []⟩ : St)) (fun (f4, x2, x3) => laws_szValueSS_l0 a0 f4 x2 x3 = some y) (fun (f4, x2, x3) => f4) (FUEL, (w64 (a1 - ((a0.length : Int)))), 0) h ((Imp.to (st' := ⟨27, [(0, A a0), (1, I ((w64 (a1 - ((a0.length : Int)))))), (5, I 0)], []⟩) [0, 1, 5] (by kernel_rfl)).trans (Imp.to [0, 1, 5] (by kernel_rfl))) ?_
  rintro ⟨f4, x2, x3⟩ h
  dsimp only at h ⊢
  rcases f4 with _ | f4
  cases h
  rw [laws_szValueSS_l0] at h
  refine pwp_seq ?_
  refine srve 27 [(0, A a0), (1, I x2), (5, I x3), (15, B ((decide (x3 < ((a0.length : Int))))))] [] ?_
  refine pc h (fun h => ?_) (fun h => ?_)
  refine pwp_skip ?_
  refine pwp_seq ?_
  refine pwp_block ?_
  refine srv 2 27 [(0, A a0), (1, I x2), (5, I x3), (18, A a0), (19, I x3)] [] ?_
  obtain ⟨v7, hv8, h⟩ := bindS h
  refine opsP_idx τ_ok 20 hv8 (by kernel_rfl) ?_
  refine v 2 27 [(0, A a0), (5, I x3), (21, A v7), (22, I x2)] [] ?_
  obtain ⟨v9, hv10, h⟩ := bindS h
  refine opsP_callF τ 23 (ok_laws_szValueS hv10) (FzTo.frz rfl) rfl (by kernel_rfl) ?_
  refine ve 1 27 [(0, A a0), (1, I v9), (5, I x3)] [] ?_
  refine srve 27 [(0, A a0), (1, I v9), (5, I x3), (25, B ((decide (v9 < 0))))] [] ?_
  refine pc h (fun h => ?_) (fun h => ?_)
  refine srve 27 [(4, I (-1))] [] ?_
  cases h
  exact pwp_ret rz
  refine pwp_skip ?_
  refine rve 27 [(0, A a0), (1, I v9), (5, I ((w64 (x3 + 1))))] [] ?_
  exact ⟨(f4, v9, (w64 (x3 + 1))), h, Nat.lt_succ_self _, (Imp.to (st' := ⟨27, [(0, A a0), (1, I v9), (5, I ((w64 (x3 + 1))))], []⟩) [0, 1, 5] (by kernel_rfl)).trans (Imp.to [0, 1, 5] (by kernel_rfl))⟩
  refine pwp_exit ?_
  refine srve 27 [(4, I x2)] [] ?_
  cases h
  exact pwp_ret rz
def laws_szPartS_l0 (a0 : List T_laws_Part) : Nat → Int → Int → Option Int
  | 0, _, _ => none
  | f4 + 1, x2, x3 => bif (decide (x3 < ((a0.length : Int)))) then (getI a0 x3).bind fun v7 => (laws_szPart v7 x2).bind fun v9 => bif (decide (v9 < 0)) then some (-1) else (laws_szPartS_l0 a0 f4) v9 ((w64 (x3 + 1))) else some x2
def laws_szPartS (a0 : List T_laws_Part) (a1 : Int) : Option Int := bif (decide (((w64 (a1 - ((a0.length : Int))))) < 0)) then some (-1) else laws_szPartS_l0 a0 FUEL ((w64 (a1 - ((a0.length : Int))))) 0
theorem ok_laws_szPartS {a0 : List T_laws_Part} {a1 : Int} {y : Int} (h : laws_szPartS a0 a1 = some y) : OK Try.prog 79 [A a0, I a1] (I y) := by
  refine OK_of_pwp τ_ok Try.func79 rfl (by kernel_rfl) rfl fun Γ hX => ?_
  unfold laws_szPartS at h
  refine srve 27 [(0, A a0), (1, I a1)] [] ?_
  refine srve 27 [(0, A a0), (1, I ((w64 (a1 - ((a0.length : Int))))))] [] ?_
  refine pwp_seq ?_
  refine srve 27 [(0, A a0), (1, I ((w64 (a1 - ((a0.length : Int)))))), (11, B ((decide (((w64 (a1 - ((a0.length : Int))))) < 0))))] [] ?_
  refine pc h (fun h => ?_) (fun h => ?_)
  refine srve 27 [(4, I (-1))] [] ?_
  cases h
  exact pwp_ret rz
  refine pwp_skip ?_
  refine pwp_seq ?_
  refine srve 27 [(0, A a0), (1, I ((w64 (a1 - ((a0.length : Int)))))), (5, I 0)] [] ?_
  refine pwp_block ?_
  refine pwp_loop (ι := Nat × Int × Int) (fun (f4, x2, x3) => (⟨27, [(0, A a0), (1, I x2), (5, I x3)], []⟩ : St)) (fun (f4, x2, x3) => laws_szPartS_l0 a0 f4 x2 x3 = some y) (fun (f4, x2, x3) => f4) (FUEL, (w64 (a1 - ((a0.length : Int)))), 0) h ((Imp.to (st' := ⟨27, [(0, A a0), (1, I ((w64 (a1 - ((a0.length : Int)))))), (5, I 0)], []⟩) [0, 1, 5] (by kernel_rfl)).trans (Imp.to [0, 1, 5] (by kernel_rfl))) ?_
  rintro ⟨f4, x2, x3⟩ h
  dsimp only at h ⊢
  rcases f4 with _ | f4
  cases h
  rw [laws_szPartS_l0] at h
  refine pwp_seq ?_
  refine srve 27 [(0, A a0), (1, I x2), (5, I x3), (15, B ((decide (x3 < ((a0.length : Int))))))] [] ?_
  refine pc h (fun h => ?_) (fun h => ?_)
  refine pwp_skip ?_
  refine pwp_seq ?_
  refine pwp_block ?_
  refine srv 2 27 [(0, A a0), (1, I x2), (5, I x3), (18, A a0), (19, I x3)] [] ?_
  obtain ⟨v7, hv8, h⟩ := bindS h
  refine opsP_idx τ_ok 20 hv8 (by kernel_rfl) ?_
  refine v 2 27 [(0, A a0), (5, I x3), (21, E v7), (22, I x2)] [] ?_
  obtain ⟨v9, hv10, h⟩ := bindS h
  refine opsP_callF τ 23 (ok_laws_szPart hv10) (FzTo.frz rfl) rfl (by kernel_rfl) ?_
  refine ve 1 27 [(0, A a0), (1, I v9), (5, I x3)] [] ?_
  refine srve 27 [(0, A a0), (1, I v9), (5, I x3), (25, B ((decide (v9 < 0))))] [] ?_
  refine pc h (fun h => ?_) (fun h => ?_)
  refine srve 27 [(4, I (-1))] [] ?_
  cases h
  exact pwp_ret rz
  refine pwp_skip ?_
  refine rve 27 [(0, A a0), (1, I v9), (5, I ((w64 (x3 + 1))))] [] ?_
  exact ⟨(f4, v9, (w64 (x3 + 1))), h, Nat.lt_succ_self _, (Imp.to (st' := ⟨27, [(0, A a0), (1, I v9), (5, I ((w64 (x3 + 1))))], []⟩) [0, 1, 5] (by kernel_rfl)).trans (Imp.to [0, 1, 5] (by kernel_rfl))⟩
  refine pwp_exit ?_
  refine srve 27 [(4, I x2)] [] ?_
  cases h
  exact pwp_ret rz
def laws_toPartS_l0 (a0 : List T_laws_Part) : Nat → Int → (List T_impl_Part) → Option (List T_impl_Part)
  | 0, _, _ => none
  | f6 + 1, x4, x5 => bif (decide (x4 < ((a0.length : Int)))) then (getI a0 x4).bind fun v9 => (laws_toPart v9).bind fun v11 => (getI x5 x4).bind fun v13 => (laws_toPartS_l0 a0 f6) ((w64 (x4 + 1))) ((x5.set x4.toNat v11)) else some x5
def laws_toPartS (a0 : List T_laws_Part) : Option (List T_impl_Part) := (mkI ((a0.length : Int)) ((T_impl_Part.mk 0 0 (T_impl_Value.mk 0 0 (ByteArray.mk #[]))))).bind fun v1 => laws_toPartS_l0 a0 FUEL 0 v1
theorem ok_laws_toPartS {a0 : List T_laws_Part} {y : List T_impl_Part} (h : laws_toPartS a0 = some y) : OK Try.prog 85 [A a0] (O y) := by
  refine OK_of_pwp τ_ok Try.func85 rfl (by kernel_rfl) rfl fun Γ hX => ?_
  unfold laws_toPartS at h
  refine srve 23 [(0, A a0)] [] ?_
  refine srv 2 23 [(0, A a0), (6, I ((a0.length : Int)))] [] ?_
  obtain ⟨v1, hv2, h⟩ := bindS h
  refine opsP_mk τ_ok 7 0 _ hv2 (by kernel_rfl) (by kernel_rfl) ?_
  refine ve 1 23 [(0, A a0), (3, .ref 0 0 0 5 v1.length false)] [some ⟨0, eL v1⟩] ?_
  refine pwp_seq ?_
  refine srve 23 [(0, A a0), (3, .ref 0 0 0 5 v1.length false), (4, I 0)] [some ⟨0, eL v1⟩] ?_
  refine pwp_block ?_
  refine pwp_loop (ι := Nat × Int × (List T_impl_Part)) (fun (f6, x4, x5) => (⟨23, [(0, A a0), (3, .ref 0 0 0 5 x5.length false), (4, I x4)], [some ⟨0, eL x5⟩]⟩ : St)) (fun (f6, x4, x5) => laws_toPartS_l0 a0 f6 x4 x5 = some y) (fun (f6, x4, x5) => f6) (FUEL, 0, v1) h ((Imp.to (st' := ⟨23, [(0, A a0), (3, .ref 0 0 0 5 v1.length false), (4, I 0)], [some ⟨0, eL v1⟩]⟩) [0, 3, 4] (by kernel_rfl)).trans (Imp.to [0, 3, 4] (by kernel_rfl))) ?_
  rintro ⟨f6, x4, x5⟩ h
  dsimp only at h ⊢
  rcases f6 with _ | f6
  cases h
  rw [laws_toPartS_l0] at h
  refine pwp_seq ?_
  refine srve 23 [(0, A a0), (3, .ref 0 0 0 5 x5.length false), (4, I x4), (11, B ((decide (x4 < ((a0.length : Int))))))] [some ⟨0, eL x5⟩] ?_
  refine pc h (fun h => ?_) (fun h => ?_)
  refine pwp_skip ?_
  refine pwp_seq ?_
  refine pwp_block ?_
  refine rv 4 23 [(0, A a0), (3, .ref 0 0 0 5 x5.length false), (4, I x4), (14, .ref 0 0 0 5 x5.length false), (15, I x4), (16, A a0), (17, I x4)] [some ⟨0, eL x5⟩] ?_
  obtain ⟨v9, hv10, h⟩ := bindS h
  refine opsP_idx τ_ok 18 hv10 (by kernel_rfl) ?_
  refine v 1 23 [(0, A a0), (3, .ref 0 0 0 5 x5.length false), (4, I x4), (14, .ref 0 0 0 5 x5.length false), (15, I x4), (19, E v9)] [some ⟨0, eL x5⟩] ?_
  obtain ⟨v11, hv12, h⟩ := bindS h
  refine opsP_callF τ 20 (ok_laws_toPart hv12) (FzTo.frz rfl) rfl (by kernel_rfl) ?_
  obtain ⟨v13, hv14, h⟩ := bindS h
  refine opsP_idr τ_ok 21 0 0 x5.length hv14 rfl (by kernel_rfl) ?_
  refine v 0 23 [(0, A a0), (3, .ref 0 0 0 5 x5.length false), (4, I x4), (20, E v11), (21, .ptr 0 0 (x4.toNat * 5))] [some ⟨0, eL x5⟩] ?_
  refine opsP_ste (vs := [I v11.fKind, I v11.fN, I v11.fV.fKind, I v11.fV.fN, S v11.fV.fS]) τ_ok 142 0 0 0 v11 hv14 (by kernel_rfl) (by kernel_rfl) (by kernel_rfl) (renC trivial (renC (ren_ref (List.length_set ..).symm) (renC trivial (renC trivial (renC trivial renC0))))) ?_
  refine ve 0 23 [(0, A a0), (3, .ref 0 0 0 5 ((x5.set x4.toNat v11)).length false), (4, I x4)] [some ⟨0, eL ((x5.set x4.toNat v11))⟩] ?_
  refine rve 23 [(0, A a0), (3, .ref 0 0 0 5 ((x5.set x4.toNat v11)).length false), (4, I ((w64 (x4 + 1))))] [some ⟨0, eL ((x5.set x4.toNat v11))⟩] ?_
  exact ⟨(f6, (w64 (x4 + 1)), (x5.set x4.toNat v11)), h, Nat.lt_succ_self _, (Imp.to (st' := ⟨23, [(0, A a0), (3, .ref 0 0 0 5 ((x5.set x4.toNat v11)).length false), (4, I ((w64 (x4 + 1))))], [some ⟨0, eL ((x5.set x4.toNat v11))⟩]⟩) [0, 3, 4] (by kernel_rfl)).trans (Imp.to [0, 3, 4] (by kernel_rfl))⟩
  refine pwp_exit ?_
  refine srve 23 [(2, .ref 0 0 0 5 x5.length false)] [some ⟨0, eL x5⟩] ?_
  have h := si h
  subst h
  exact pwp_ret (rt (.ref 0 0 0 5 x5.length false) (OutP.list (v := 0) (by kernel_rfl)))
def laws_eqValueSS_l0 (a0 : List (List T_impl_Value)) (a1 : List (List T_impl_Value)) : Nat → Int → Option Bool
  | 0, _ => none
  | f3 + 1, x2 => bif (decide (x2 < ((a0.length : Int)))) then (getI a0 x2).bind fun v6 => (getI a1 x2).bind fun v8 => (laws_eqValueS v6 v8).bind fun v10 => bif (!v10) then some false else (laws_eqValueSS_l0 a0 a1 f3) ((w64 (x2 + 1))) else some true
def laws_eqValueSS (a0 : List (List T_impl_Value)) (a1 : List (List T_impl_Value)) : Option Bool := bif (!(((a0.length : Int)) == ((a1.length : Int)))) then some false else laws_eqValueSS_l0 a0 a1 FUEL 0
theorem ok_laws_eqValueSS {a0 : List (List T_impl_Value)} {a1 : List (List T_impl_Value)} {y : Bool} (h : laws_eqValueSS a0 a1 = some y) : OK Try.prog 89 [A a0, A a1] (B y) := by
  refine OK_of_pwp τ_ok Try.func89 rfl (by kernel_rfl) rfl fun Γ hX => ?_
  unfold laws_eqValueSS at h
  refine srve 27 [(0, A a0), (1, A a1)] [] ?_
  refine pwp_seq ?_
  refine srve 27 [(0, A a0), (1, A a1), (10, B ((!(((a0.length : Int)) == ((a1.length : Int))))))] [] ?_
  refine pc h (fun h => ?_) (fun h => ?_)
  refine srve 27 [(4, B false)] [] ?_
  cases h
  exact pwp_ret rz
  refine pwp_skip ?_
  refine pwp_seq ?_
  refine srve 27 [(0, A a0), (1, A a1), (5, I 0)] [] ?_
  refine pwp_block ?_
  refine pwp_loop (ι := Nat × Int) (fun (f3, x2) => (⟨27, [(0, A a0), (1, A a1), (5, I x2)], []⟩ : St)) (fun (f3, x2) => laws_eqValueSS_l0 a0 a1 f3 x2 = some y) (fun (f3, x2) => f3) (FUEL, 0) h ((Imp.to (st' := ⟨27, [(0, A a0), (1, A a1), (5, I 0)], []⟩) [0, 1, 5] (by kernel_rfl)).trans (Imp.to [0, 1, 5] (by kernel_rfl))) ?_
  rintro ⟨f3, x2⟩ h
  dsimp only at h ⊢
  rcases f3 with _ | f3
  cases h
  rw [laws_eqValueSS_l0] at h
  refine pwp_seq ?_
  refine srve 27 [(0, A a0), (1, A a1), (5, I x2), (14, B ((decide (x2 < ((a0.length : Int))))))] [] ?_
  refine pc h (fun h => ?_) (fun h => ?_)
  refine pwp_skip ?_
  refine pwp_seq ?_
  refine pwp_block ?_
  refine pwp_seq ?_
  refine pwp_imp (Imp.to (st' := ⟨27, [(0, A a0), (1, A a1), (5, I x2)], []⟩) [0, 1, 5] (by kernel_rfl)) ?_
  refine pwp_any ([[], [], [], [], [], [], [], [], [], []]) ([[], [], [], [], [], [], [], [], [], []]) rfl (by kernel_rfl) ?_
  refine qA_ev (st' := ⟨27, [(18, I x2), (17, A a0), (0, A a0), (1, A a1), (5, I x2)], []⟩) τ_ok [] [] 2 (by exact trivial) (by kernel_rfl) ?_
  obtain ⟨v6, hv7, h⟩ := bindS h
  refine qA_E (dd := some 19) (x := .fptr (Enc.cells v6) 0) ([]) (⟨27, [(19, .fptr (Enc.cells v6) 0), (18, I x2), (17, A a0), (0, A a0), (1, A a1), (5, I x2)], []⟩) (fun Γ' hΓ => CoreE.of_y (idxV_sound τ_ok (by kernel_rfl) hv7)) (by kernel_rfl) (by kernel_rfl) (by exact trivial) (.inr (.inr rfl)) (by kernel_rfl) ?_
  refine qA_ev (st' := ⟨27, [(22, I x2), (21, A a1), (20, A v6), (19, .fptr (Enc.cells v6) 0), (18, I x2), (17, A a0), (0, A a0), (1, A a1), (5, I x2)], []⟩) τ_ok [] [] 3 (by exact trivial) (by kernel_rfl) ?_
  obtain ⟨v8, hv9, h⟩ := bindS h
  refine qA_E (dd := some 23) (x := .fptr (Enc.cells v8) 0) ([]) (⟨27, [(23, .fptr (Enc.cells v8) 0), (22, I x2), (21, A a1), (20, A v6), (19, .fptr (Enc.cells v6) 0), (18, I x2), (17, A a0), (0, A a0), (1, A a1), (5, I x2)], []⟩) (fun Γ' hΓ => CoreE.of_y (idxV_sound τ_ok (by kernel_rfl) hv9)) (by kernel_rfl) (by kernel_rfl) (by exact trivial) (.inr (.inr rfl)) (by kernel_rfl) ?_
  refine qA_ev (st' := ⟨27, [(24, A v8), (23, .fptr (Enc.cells v8) 0), (22, I x2), (21, A a1), (20, A v6), (19, .fptr (Enc.cells v6) 0), (18, I x2), (17, A a0), (0, A a0), (1, A a1), (5, I x2)], []⟩) τ_ok [] [] 1 (by exact trivial) (by kernel_rfl) ?_
  obtain ⟨v10, hv11, h⟩ := bindS h
  refine qA_E (dd := some 25) (x := B v10) ([]) (⟨27, [(25, B v10), (24, A v8), (23, .fptr (Enc.cells v8) 0), (22, I x2), (21, A a1), (20, A v6), (19, .fptr (Enc.cells v6) 0), (18, I x2), (17, A a0), (0, A a0), (1, A a1), (5, I x2)], []⟩) (fun Γ' hΓ => CoreE.of_g (callV_sound (τ := τ) (by kernel_rfl) rfl (ok_laws_eqValueS hv11) (FzTo.frz rfl))) (by kernel_rfl) (by kernel_rfl) (by exact trivial) (.inr (.inr rfl)) (by kernel_rfl) ?_
  refine qA_ev (st' := ⟨27, [(26, B ((!v10))), (25, B v10), (24, A v8), (23, .fptr (Enc.cells v8) 0), (22, I x2), (21, A a1), (20, A v6), (19, .fptr (Enc.cells v6) 0), (18, I x2), (17, A a0), (0, A a0), (1, A a1), (5, I x2)], []⟩) τ_ok [] [] 1 (by exact trivial) (by kernel_rfl) ?_
  refine qA_end ?_
  refine opsP_imp (Imp.to (st' := ⟨27, [(0, A a0), (1, A a1), (5, I x2), (26, B ((!v10)))], []⟩) [0, 1, 5, 26] (by kernel_rfl)) ?_
  refine opsP_end rfl ?_
  refine pc h (fun h => ?_) (fun h => ?_)
  refine srve 27 [(4, B false)] [] ?_
  cases h
  exact pwp_ret rz
  refine pwp_skip ?_
  refine rve 27 [(0, A a0), (1, A a1), (5, I ((w64 (x2 + 1))))] [] ?_
  exact ⟨(f3, (w64 (x2 + 1))), h, Nat.lt_succ_self _, (Imp.to (st' := ⟨27, [(0, A a0), (1, A a1), (5, I ((w64 (x2 + 1))))], []⟩) [0, 1, 5] (by kernel_rfl)).trans (Imp.to [0, 1, 5] (by kernel_rfl))⟩
  refine pwp_exit ?_
  refine srve 27 [(4, B true)] [] ?_
  cases h
  exact pwp_ret rz
def laws_eqPartS_l0 (a0 : List T_impl_Part) (a1 : List T_impl_Part) : Nat → Int → Option Bool
  | 0, _ => none
  | f3 + 1, x2 => bif (decide (x2 < ((a0.length : Int)))) then (getI a0 x2).bind fun v6 => (getI a1 x2).bind fun v8 => (laws_eqPart v6 v8).bind fun v10 => bif (!v10) then some false else (laws_eqPartS_l0 a0 a1 f3) ((w64 (x2 + 1))) else some true
def laws_eqPartS (a0 : List T_impl_Part) (a1 : List T_impl_Part) : Option Bool := bif (!(((a0.length : Int)) == ((a1.length : Int)))) then some false else laws_eqPartS_l0 a0 a1 FUEL 0
theorem ok_laws_eqPartS {a0 : List T_impl_Part} {a1 : List T_impl_Part} {y : Bool} (h : laws_eqPartS a0 a1 = some y) : OK Try.prog 90 [A a0, A a1] (B y) := by
  refine OK_of_pwp τ_ok Try.func90 rfl (by kernel_rfl) rfl fun Γ hX => ?_
  unfold laws_eqPartS at h
  refine srve 27 [(0, A a0), (1, A a1)] [] ?_
  refine pwp_seq ?_
  refine srve 27 [(0, A a0), (1, A a1), (10, B ((!(((a0.length : Int)) == ((a1.length : Int))))))] [] ?_
  refine pc h (fun h => ?_) (fun h => ?_)
  refine srve 27 [(4, B false)] [] ?_
  cases h
  exact pwp_ret rz
  refine pwp_skip ?_
  refine pwp_seq ?_
  refine srve 27 [(0, A a0), (1, A a1), (5, I 0)] [] ?_
  refine pwp_block ?_
  refine pwp_loop (ι := Nat × Int) (fun (f3, x2) => (⟨27, [(0, A a0), (1, A a1), (5, I x2)], []⟩ : St)) (fun (f3, x2) => laws_eqPartS_l0 a0 a1 f3 x2 = some y) (fun (f3, x2) => f3) (FUEL, 0) h ((Imp.to (st' := ⟨27, [(0, A a0), (1, A a1), (5, I 0)], []⟩) [0, 1, 5] (by kernel_rfl)).trans (Imp.to [0, 1, 5] (by kernel_rfl))) ?_
  rintro ⟨f3, x2⟩ h
  dsimp only at h ⊢
  rcases f3 with _ | f3
  cases h
  rw [laws_eqPartS_l0] at h
  refine pwp_seq ?_
  refine srve 27 [(0, A a0), (1, A a1), (5, I x2), (14, B ((decide (x2 < ((a0.length : Int))))))] [] ?_
  refine pc h (fun h => ?_) (fun h => ?_)
  refine pwp_skip ?_
  refine pwp_seq ?_
  refine pwp_block ?_
  refine pwp_seq ?_
  refine pwp_imp (Imp.to (st' := ⟨27, [(0, A a0), (1, A a1), (5, I x2)], []⟩) [0, 1, 5] (by kernel_rfl)) ?_
  refine pwp_any ([[], [], [], [], [], [], [], [], [], []]) ([[], [], [], [], [], [], [], [], [], []]) rfl (by kernel_rfl) ?_
  refine qA_ev (st' := ⟨27, [(18, I x2), (17, A a0), (0, A a0), (1, A a1), (5, I x2)], []⟩) τ_ok [] [] 2 (by exact trivial) (by kernel_rfl) ?_
  obtain ⟨v6, hv7, h⟩ := bindS h
  refine qA_E (dd := some 19) (x := .fptr (Enc.cells v6) 0) ([]) (⟨27, [(19, .fptr (Enc.cells v6) 0), (18, I x2), (17, A a0), (0, A a0), (1, A a1), (5, I x2)], []⟩) (fun Γ' hΓ => CoreE.of_y (idxV_sound τ_ok (by kernel_rfl) hv7)) (by kernel_rfl) (by kernel_rfl) (by exact trivial) (.inr (.inr rfl)) (by kernel_rfl) ?_
  refine qA_ev (st' := ⟨27, [(22, I x2), (21, A a1), (20, E v6), (19, .fptr (Enc.cells v6) 0), (18, I x2), (17, A a0), (0, A a0), (1, A a1), (5, I x2)], []⟩) τ_ok [] [] 3 (by exact trivial) (by kernel_rfl) ?_
  obtain ⟨v8, hv9, h⟩ := bindS h
  refine qA_E (dd := some 23) (x := .fptr (Enc.cells v8) 0) ([]) (⟨27, [(23, .fptr (Enc.cells v8) 0), (22, I x2), (21, A a1), (20, E v6), (19, .fptr (Enc.cells v6) 0), (18, I x2), (17, A a0), (0, A a0), (1, A a1), (5, I x2)], []⟩) (fun Γ' hΓ => CoreE.of_y (idxV_sound τ_ok (by kernel_rfl) hv9)) (by kernel_rfl) (by kernel_rfl) (by exact trivial) (.inr (.inr rfl)) (by kernel_rfl) ?_
  refine qA_ev (st' := ⟨27, [(24, E v8), (23, .fptr (Enc.cells v8) 0), (22, I x2), (21, A a1), (20, E v6), (19, .fptr (Enc.cells v6) 0), (18, I x2), (17, A a0), (0, A a0), (1, A a1), (5, I x2)], []⟩) τ_ok [] [] 1 (by exact trivial) (by kernel_rfl) ?_
  obtain ⟨v10, hv11, h⟩ := bindS h
  refine qA_E (dd := some 25) (x := B v10) ([]) (⟨27, [(25, B v10), (24, E v8), (23, .fptr (Enc.cells v8) 0), (22, I x2), (21, A a1), (20, E v6), (19, .fptr (Enc.cells v6) 0), (18, I x2), (17, A a0), (0, A a0), (1, A a1), (5, I x2)], []⟩) (fun Γ' hΓ => CoreE.of_g (callV_sound (τ := τ) (by kernel_rfl) rfl (ok_laws_eqPart hv11) (FzTo.frz rfl))) (by kernel_rfl) (by kernel_rfl) (by exact trivial) (.inr (.inr rfl)) (by kernel_rfl) ?_
  refine qA_ev (st' := ⟨27, [(26, B ((!v10))), (25, B v10), (24, E v8), (23, .fptr (Enc.cells v8) 0), (22, I x2), (21, A a1), (20, E v6), (19, .fptr (Enc.cells v6) 0), (18, I x2), (17, A a0), (0, A a0), (1, A a1), (5, I x2)], []⟩) τ_ok [] [] 1 (by exact trivial) (by kernel_rfl) ?_
  refine qA_end ?_
  refine opsP_imp (Imp.to (st' := ⟨27, [(0, A a0), (1, A a1), (5, I x2), (26, B ((!v10)))], []⟩) [0, 1, 5, 26] (by kernel_rfl)) ?_
  refine opsP_end rfl ?_
  refine pc h (fun h => ?_) (fun h => ?_)
  refine srve 27 [(4, B false)] [] ?_
  cases h
  exact pwp_ret rz
  refine pwp_skip ?_
  refine rve 27 [(0, A a0), (1, A a1), (5, I ((w64 (x2 + 1))))] [] ?_
  exact ⟨(f3, (w64 (x2 + 1))), h, Nat.lt_succ_self _, (Imp.to (st' := ⟨27, [(0, A a0), (1, A a1), (5, I ((w64 (x2 + 1))))], []⟩) [0, 1, 5] (by kernel_rfl)).trans (Imp.to [0, 1, 5] (by kernel_rfl))⟩
  refine pwp_exit ?_
  refine srve 27 [(4, B true)] [] ?_
  cases h
  exact pwp_ret rz
def impl_ColumnsOk (a0 : List T_impl_Column) : Option Bool := bif (decide (((a0.length : Int)) ≤ 4)) then (slices_ContainsFunc_impl_Column_impl_Column a0 impl_ColumnsOk_1).bind fun v1 => some ((!v1)) else some false
theorem ok_impl_ColumnsOk {a0 : List T_impl_Column} {y : Bool} (h : impl_ColumnsOk a0 = some y) : OK Try.prog 96 [A a0] (B y) := by
  refine OK_of_pwp τ_ok Try.func96 rfl (by kernel_rfl) rfl fun Γ hX => ?_
  unfold impl_ColumnsOk at h
  refine srve 11 [(0, A a0)] [] ?_
  refine srv 4 11 [(0, A a0), (6, B ((decide (((a0.length : Int)) ≤ 4))))] [] ?_
  rcases fk ((decide (((a0.length : Int)) ≤ 4))) with hc3 | hc3
  replace h := bT hc3 h
  rw [hc3]
  refine v 1 11 [(6, B true), (7, A a0)] [] ?_
  obtain ⟨v1, hv2, h⟩ := bindS h
  refine opsP_callF τ 8 (ok_slices_ContainsFunc_impl_Column_impl_Column (rfl) (fun _ w hw => ok_impl_ColumnsOk_1 hw) hv2) (FzTo.frz rfl) rfl (by kernel_rfl) ?_
  refine ve 3 11 [(2, B ((!v1)))] [] ?_
  cases h
  exact pwp_ret rz
  replace h := bF hc3 h
  rw [hc3]
  refine ve 5 11 [(2, B false)] [] ?_
  cases h
  exact pwp_ret rz
def spec_RowOk_l0 (a0 : List T_impl_Value) : Nat → Int → Option Bool
  | 0, _ => none
  | f2 + 1, x1 => bif (decide (x1 < ((a0.length : Int)))) then (getI a0 x1).bind fun v5 => (spec_ValueOk v5).bind fun v7 => bif (!v7) then some false else (spec_RowOk_l0 a0 f2) ((w64 (x1 + 1))) else some ((decide (((a0.length : Int)) ≤ 4)))
def spec_RowOk (a0 : List T_impl_Value) : Option Bool := spec_RowOk_l0 a0 FUEL 0
theorem ok_spec_RowOk {a0 : List T_impl_Value} {y : Bool} (h : spec_RowOk a0 = some y) : OK Try.prog 104 [A a0] (B y) := by
  refine OK_of_pwp τ_ok Try.func104 rfl (by kernel_rfl) rfl fun Γ hX => ?_
  unfold spec_RowOk at h
  refine srve 19 [(0, A a0)] [] ?_
  refine pwp_seq ?_
  refine srve 19 [(0, A a0), (3, I 0)] [] ?_
  refine pwp_block ?_
  refine pwp_loop (ι := Nat × Int) (fun (f2, x1) => (⟨19, [(0, A a0), (3, I x1)], []⟩ : St)) (fun (f2, x1) => spec_RowOk_l0 a0 f2 x1 = some y) (fun (f2, x1) => f2) (FUEL, 0) h ((Imp.to (st' := ⟨19, [(0, A a0), (3, I 0)], []⟩) [0, 3] (by kernel_rfl)).trans (Imp.to [0, 3] (by kernel_rfl))) ?_
  rintro ⟨f2, x1⟩ h
  dsimp only at h ⊢
  rcases f2 with _ | f2
  cases h
  rw [spec_RowOk_l0] at h
  refine pwp_seq ?_
  refine srve 19 [(0, A a0), (3, I x1), (7, B ((decide (x1 < ((a0.length : Int))))))] [] ?_
  refine pc h (fun h => ?_) (fun h => ?_)
  refine pwp_skip ?_
  refine pwp_seq ?_
  refine pwp_block ?_
  refine srv 2 19 [(0, A a0), (3, I x1), (10, A a0), (11, I x1)] [] ?_
  obtain ⟨v5, hv6, h⟩ := bindS h
  refine opsP_idx τ_ok 12 hv6 (by kernel_rfl) ?_
  refine v 1 19 [(0, A a0), (3, I x1), (13, E v5)] [] ?_
  obtain ⟨v7, hv8, h⟩ := bindS h
  refine opsP_callF τ 14 (ok_spec_ValueOk hv8) (FzTo.frz rfl) rfl (by kernel_rfl) ?_
  refine ve 1 19 [(0, A a0), (3, I x1), (15, B ((!v7)))] [] ?_
  refine pc h (fun h => ?_) (fun h => ?_)
  refine srve 19 [(2, B false)] [] ?_
  cases h
  exact pwp_ret rz
  refine pwp_skip ?_
  refine rve 19 [(0, A a0), (3, I ((w64 (x1 + 1))))] [] ?_
  exact ⟨(f2, (w64 (x1 + 1))), h, Nat.lt_succ_self _, (Imp.to (st' := ⟨19, [(0, A a0), (3, I ((w64 (x1 + 1))))], []⟩) [0, 3] (by kernel_rfl)).trans (Imp.to [0, 3] (by kernel_rfl))⟩
  refine pwp_exit ?_
  refine srve 19 [(2, B ((decide (((a0.length : Int)) ≤ 4))))] [] ?_
  cases h
  exact pwp_ret rz
def spec_ExprKind_j3 (x6 : List Int) (x15 : Bool) : Option Int := bif x15 then some (-1) else (getI x6 0).bind fun v17 => some v17
def spec_ExprKind_j2 (a0 : List T_impl_Column) (a1 : List T_impl_Part) (x4 : Bool) (x5 : Int) (x6 : List Int) (K8 : Bool → Int → (List Int) → Option Int) (x9 : Bool) : Option Int := bif x9 then (getI a1 x5).bind fun v11 => (spec_l4Step a0 x6 v11).bind fun v13 => K8 v13.2 ((w64 (x5 + 1))) v13.1 else bif (!x4) then spec_ExprKind_j3 x6 true else spec_ExprKind_j3 x6 ((!(((x6.length : Int)) == 1)))
def spec_ExprKind_l1 (a0 : List T_impl_Column) (a1 : List T_impl_Part) : Nat → Bool → Int → (List Int) → Option Int
  | 0, _, _, _ => none
  | f7 + 1, x4, x5, x6 => bif (decide (x5 < ((a1.length : Int)))) then spec_ExprKind_j2 a0 a1 x4 x5 x6 (spec_ExprKind_l1 a0 a1 f7) x4 else spec_ExprKind_j2 a0 a1 x4 x5 x6 (spec_ExprKind_l1 a0 a1 f7) false
def spec_ExprKind_j0 (a0 : List T_impl_Column) (a1 : List T_impl_Part) (x1 : Bool) : Option Int := bif x1 then some (-1) else spec_ExprKind_l1 a0 a1 FUEL true 0 (([] : List Int))
def spec_ExprKind (a0 : List T_impl_Column) (a1 : List T_impl_Part) : Option Int := (spec_ColumnsOk a0).bind fun v21 => bif (!v21) then spec_ExprKind_j0 a0 a1 true else spec_ExprKind_j0 a0 a1 ((decide (((a1.length : Int)) > 12)))
theorem ok_spec_ExprKind {a0 : List T_impl_Column} {a1 : List T_impl_Part} {y : Int} (h : spec_ExprKind a0 a1 = some y) : OK Try.prog 119 [A a0, A a1] (I y) := by
  refine OK_of_pwp τ_ok Try.func119 rfl (by kernel_rfl) rfl fun Γ hX => ?_
  unfold spec_ExprKind at h
  refine srve 46 [(0, A a0), (1, A a1)] [] ?_
  refine pwp_seq ?_
  refine pwp_seq ?_
  refine pwp_join (σ := Bool) (fun x1 => (⟨46, [(0, A a0), (1, A a1), (15, B x1)], []⟩ : St)) (fun x1 => spec_ExprKind_j0 a0 a1 x1 = some y) ?_ ?_
  refine rv 1 46 [(0, A a0), (1, A a1), (8, A a0)] [] ?_
  obtain ⟨v21, hv22, h⟩ := bindS h
  refine opsP_callF τ 9 (ok_spec_ColumnsOk hv22) (FzTo.frz rfl) rfl (by kernel_rfl) ?_
  refine v 2 46 [(0, A a0), (1, A a1), (11, B ((!v21)))] [] ?_
  rcases fk ((!v21)) with hc23 | hc23
  replace h := bT hc23 h
  rw [hc23]
  refine ve 4 46 [(0, A a0), (1, A a1), (15, B true)] [] ?_
  exact ⟨true, h, (Imp.to (st' := ⟨46, [(0, A a0), (1, A a1), (15, B true)], []⟩) [0, 1, 15] (by kernel_rfl)).trans (Imp.to [0, 1, 15] (by kernel_rfl))⟩
  replace h := bF hc23 h
  rw [hc23]
  refine ve 4 46 [(0, A a0), (1, A a1), (15, B ((decide (((a1.length : Int)) > 12))))] [] ?_
  exact ⟨(decide (((a1.length : Int)) > 12)), h, (Imp.to (st' := ⟨46, [(0, A a0), (1, A a1), (15, B ((decide (((a1.length : Int)) > 12))))], []⟩) [0, 1, 15] (by kernel_rfl)).trans (Imp.to [0, 1, 15] (by kernel_rfl))⟩
  rintro x1 h
  unfold spec_ExprKind_j0 at h
  refine pc h (fun h => ?_) (fun h => ?_)
  refine srve 46 [(4, I (-1))] [] ?_
  cases h
  exact pwp_ret rz
  refine pwp_skip ?_
  refine srve 46 [(0, A a0), (1, A a1), (5, .arr 1 0 (eL ([] : List Int)) true)] [] ?_
  refine srve 46 [(0, A a0), (1, A a1), (5, .arr 1 0 (eL ([] : List Int)) true), (6, B true)] [] ?_
  refine pwp_seq ?_
  refine srve 46 [(0, A a0), (1, A a1), (5, .arr 1 0 (eL ([] : List Int)) true), (6, B true), (7, I 0)] [] ?_
  refine pwp_block ?_
  refine pwp_loop (ι := Nat × Bool × Int × (List Int)) (fun (f7, x4, x5, x6) => (⟨46, [(0, A a0), (1, A a1), (5, .ref 0 0 0 1 x6.length false), (6, B x4), (7, I x5)], [some ⟨0, eL x6⟩]⟩ : St)) (fun (f7, x4, x5, x6) => spec_ExprKind_l1 a0 a1 f7 x4 x5 x6 = some y) (fun (f7, x4, x5, x6) => f7) (FUEL, true, 0, ([] : List Int)) h ((Imp.to (st' := ⟨46, [(0, A a0), (1, A a1), (5, .arr 1 0 (eL ([] : List Int)) true), (6, B true), (7, I 0)], []⟩) [0, 1, 5, 6, 7] (by kernel_rfl)).trans ((Imp.thawS (st' := ⟨46, [(0, A a0), (1, A a1), (5, .ref 0 0 0 1 (([] : List Int)).length false), (6, B true), (7, I 0)], [some ⟨0, eL (([] : List Int))⟩]⟩) 5 [0, 1, 5, 6, 7] (by kernel_rfl)).trans (Imp.to [0, 1, 5, 6, 7] (by kernel_rfl)))) ?_
  rintro ⟨f7, x4, x5, x6⟩ h
  dsimp only at h ⊢
  rcases f7 with _ | f7
  cases h
  rw [spec_ExprKind_l1] at h
  refine pwp_seq ?_
  refine pwp_seq ?_
  refine pwp_join (σ := Bool) (fun x9 => (⟨46, [(0, A a0), (1, A a1), (5, .ref 0 0 0 1 x6.length false), (6, B x4), (7, I x5), (23, B x9)], [some ⟨0, eL x6⟩]⟩ : St)) (fun x9 => spec_ExprKind_j2 a0 a1 x4 x5 x6 (spec_ExprKind_l1 a0 a1 f7) x9 = some y) ?_ ?_
  refine rv 5 46 [(0, A a0), (1, A a1), (5, .ref 0 0 0 1 x6.length false), (6, B x4), (7, I x5), (21, B ((decide (x5 < ((a1.length : Int))))))] [some ⟨0, eL x6⟩] ?_
  rcases fk ((decide (x5 < ((a1.length : Int))))) with hc20 | hc20
  replace h := bT hc20 h
  rw [hc20]
  refine ve 2 46 [(0, A a0), (1, A a1), (5, .ref 0 0 0 1 x6.length false), (6, B x4), (7, I x5), (22, B x4), (23, B x4)] [some ⟨0, eL x6⟩] ?_
  exact ⟨x4, h, (Imp.to (st' := ⟨46, [(0, A a0), (1, A a1), (5, .ref 0 0 0 1 x6.length false), (6, B x4), (7, I x5), (23, B x4)], [some ⟨0, eL x6⟩]⟩) [0, 1, 5, 6, 7, 23] (by kernel_rfl)).trans (Imp.to [0, 1, 5, 6, 7, 23] (by kernel_rfl))⟩
  replace h := bF hc20 h
  rw [hc20]
  refine ve 2 46 [(0, A a0), (1, A a1), (5, .ref 0 0 0 1 x6.length false), (6, B x4), (7, I x5), (22, .lit undef), (23, B false)] [some ⟨0, eL x6⟩] ?_
  exact ⟨false, h, (Imp.to (st' := ⟨46, [(0, A a0), (1, A a1), (5, .ref 0 0 0 1 x6.length false), (6, B x4), (7, I x5), (23, B false)], [some ⟨0, eL x6⟩]⟩) [0, 1, 5, 6, 7, 23] (by kernel_rfl)).trans (Imp.to [0, 1, 5, 6, 7, 23] (by kernel_rfl))⟩
  rintro x9 h
  unfold spec_ExprKind_j2 at h
  refine pc h (fun h => ?_) (fun h => ?_)
  refine pwp_skip ?_
  refine pwp_seq ?_
  refine pwp_block ?_
  refine rv 4 46 [(0, A a0), (1, A a1), (7, I x5), (27, A a0), (28, .ref 0 0 0 1 x6.length false), (29, A a1), (30, I x5)] [some ⟨0, eL x6⟩] ?_
  obtain ⟨v11, hv12, h⟩ := bindS h
  refine opsP_idx τ_ok 31 hv12 (by kernel_rfl) ?_
  refine v 1 46 [(0, A a0), (1, A a1), (7, I x5), (27, A a0), (28, .ref 0 0 0 1 x6.length false), (32, E v11)] [some ⟨0, eL x6⟩] ?_
  obtain ⟨v13, hv14, h⟩ := bindS h
  refine opsP_callM (xs := [A a0, .ref 0 0 0 1 x6.length false, E v11]) (x := .tup [.ref 1 0 0 1 v13.1.length false, B v13.2]) (bs := [⟨0, eL v13.1⟩]) τ 33 [0] (fun b hb => absurd hb (hX b)) (ok_spec_l4Step hv14) (by kernel_rfl) (OutL.cons (OutP.frz rfl) (OutL.cons (OutP.list (v := 0) (by kernel_rfl)) (OutL.cons (OutP.frz rfl) (OutL.nil _)))) (by decide) (by kernel_rfl) ?_
  refine ve 5 46 [(0, A a0), (1, A a1), (5, .ref 1 0 0 1 v13.1.length false), (6, B v13.2), (7, I x5)] [none, some ⟨0, eL v13.1⟩] ?_
  refine rve 46 [(0, A a0), (1, A a1), (5, .ref 1 0 0 1 v13.1.length false), (6, B v13.2), (7, I ((w64 (x5 + 1))))] [none, some ⟨0, eL v13.1⟩] ?_
  exact ⟨(f7, v13.2, (w64 (x5 + 1)), v13.1), h, Nat.lt_succ_self _, (Imp.to (st' := ⟨46, [(0, A a0), (1, A a1), (5, .ref 1 0 0 1 v13.1.length false), (6, B v13.2), (7, I ((w64 (x5 + 1))))], [none, some ⟨0, eL v13.1⟩]⟩) [0, 1, 5, 6, 7] (by kernel_rfl)).trans ((Imp.mvS (st' := ⟨46, [(0, A a0), (1, A a1), (5, .ref 0 0 0 1 v13.1.length false), (6, B v13.2), (7, I ((w64 (x5 + 1))))], [some ⟨0, eL v13.1⟩, none]⟩) 1 0 [0, 1, 5, 6, 7] (fun b hb => absurd hb (hX b)) (v := 0) (cs := eL v13.1) (by kernel_rfl) (by kernel_rfl) (by exact (And.intro (eL_frz _) trivial)) (by kernel_rfl) (by kernel_rfl)).trans ((Imp.truncS (st' := ⟨46, [(0, A a0), (1, A a1), (5, .ref 0 0 0 1 v13.1.length false), (6, B v13.2), (7, I ((w64 (x5 + 1))))], [some ⟨0, eL v13.1⟩]⟩) 1 (fun b hb => absurd hb (hX b)) (by kernel_rfl) (allBelow_mem (by exact (And.intro rfl (And.intro rfl (And.intro rfl (And.intro rfl (And.intro rfl trivial))))))) (by exact (And.intro (frz_below (eL_frz _)) trivial)) (by kernel_rfl)).trans (Imp.to [0, 1, 5, 6, 7] (by kernel_rfl))))⟩
  refine pwp_exit ?_
  refine pwp_seq ?_
  refine pwp_seq ?_
  refine pwp_join (σ := Bool) (fun x15 => (⟨46, [(5, .ref 0 0 0 1 x6.length false), (42, B x15)], [some ⟨0, eL x6⟩]⟩ : St)) (fun x15 => spec_ExprKind_j3 x6 x15 = some y) ?_ ?_
  refine rv 3 46 [(5, .ref 0 0 0 1 x6.length false), (38, B ((!x4)))] [some ⟨0, eL x6⟩] ?_
  rcases fk ((!x4)) with hc19 | hc19
  replace h := bT hc19 h
  rw [hc19]
  refine ve 4 46 [(5, .ref 0 0 0 1 x6.length false), (42, B true)] [some ⟨0, eL x6⟩] ?_
  exact ⟨true, h, (Imp.to (st' := ⟨46, [(5, .ref 0 0 0 1 x6.length false), (42, B true)], [some ⟨0, eL x6⟩]⟩) [5, 42] (by kernel_rfl)).trans (Imp.to [5, 42] (by kernel_rfl))⟩
  replace h := bF hc19 h
  rw [hc19]
  refine ve 4 46 [(5, .ref 0 0 0 1 x6.length false), (42, B ((!(((x6.length : Int)) == 1))))] [some ⟨0, eL x6⟩] ?_
  exact ⟨(!(((x6.length : Int)) == 1)), h, (Imp.to (st' := ⟨46, [(5, .ref 0 0 0 1 x6.length false), (42, B ((!(((x6.length : Int)) == 1))))], [some ⟨0, eL x6⟩]⟩) [5, 42] (by kernel_rfl)).trans (Imp.to [5, 42] (by kernel_rfl))⟩
  rintro x15 h
  unfold spec_ExprKind_j3 at h
  refine pc h (fun h => ?_) (fun h => ?_)
  refine srve 46 [(4, I (-1))] [some ⟨0, eL x6⟩] ?_
  cases h
  exact pwp_ret rz
  refine pwp_skip ?_
  refine srv 1 46 [(43, .ref 0 0 0 1 x6.length false)] [some ⟨0, eL x6⟩] ?_
  obtain ⟨v17, hv18, h⟩ := bindS h
  refine opsP_idr τ_ok 44 0 0 x6.length hv18 rfl (by kernel_rfl) ?_
  refine opsP_lde (r := I v17) τ_ok 45 3 0 hv18 (by kernel_rfl) (by kernel_rfl) ?_
  refine ve 1 46 [(4, I v17)] [some ⟨0, eL x6⟩] ?_
  cases h
  exact pwp_ret rz
def slices_Concat_impl_Column_impl_Column_l1 (a0 : List (List T_impl_Column)) : Nat → Int → (List T_impl_Column) → Option (List T_impl_Column)
  | 0, _, _ => none
  | f14 + 1, x12, x13 => bif (decide (x12 < ((a0.length : Int)))) then (getI a0 x12).bind fun v17 => (app x13 v17).bind fun v19 => (slices_Concat_impl_Column_impl_Column_l1 a0 f14) ((w64 (x12 + 1))) v19 else some x13
def slices_Concat_impl_Column_impl_Column_l0 (a0 : List (List T_impl_Column)) : Nat → Int → Int → Option (List T_impl_Column)
  | 0, _, _ => none
  | f3 + 1, x1, x2 => bif (decide (x2 < ((a0.length : Int)))) then (getI a0 x2).bind fun v6 => bif (decide (((w64 (x1 + ((v6.length : Int))))) < 0)) then none else (slices_Concat_impl_Column_impl_Column_l0 a0 f3) ((w64 (x1 + ((v6.length : Int))))) ((w64 (x2 + 1))) else (slices_Grow_impl_Column_impl_Column_n0 x1).bind fun v9 => slices_Concat_impl_Column_impl_Column_l1 a0 FUEL 0 v9
def slices_Concat_impl_Column_impl_Column (a0 : List (List T_impl_Column)) : Option (List T_impl_Column) := slices_Concat_impl_Column_impl_Column_l0 a0 FUEL 0 0
theorem ok_slices_Concat_impl_Column_impl_Column {a0 : List (List T_impl_Column)} {y : List T_impl_Column} (h : slices_Concat_impl_Column_impl_Column a0 = some y) : OK Try.prog 124 [A a0] (O y) := by
  refine OK_of_pwp τ_ok Try.func124 rfl (by kernel_rfl) rfl fun Γ hX => ?_
  unfold slices_Concat_impl_Column_impl_Column at h
  refine srve 36 [(0, A a0)] [] ?_
  refine srve 36 [(0, A a0), (3, I 0)] [] ?_
  refine pwp_seq ?_
  refine srve 36 [(0, A a0), (3, I 0), (9, A a0), (10, I ((a0.length : Int))), (11, I 0)] [] ?_
  refine pwp_block ?_
  refine pwp_loop (ι := Nat × Int × Int) (fun (f3, x1, x2) => (⟨36, [(0, A a0), (3, I x1), (9, A a0), (10, I ((a0.length : Int))), (11, I x2)], []⟩ : St)) (fun (f3, x1, x2) => slices_Concat_impl_Column_impl_Column_l0 a0 f3 x1 x2 = some y) (fun (f3, x1, x2) => f3) (FUEL, 0, 0) h ((Imp.to (st' := ⟨36, [(0, A a0), (3, I 0), (9, A a0), (10, I ((a0.length : Int))), (11, I 0)], []⟩) [0, 3, 9, 10, 11] (by kernel_rfl)).trans (Imp.to [0, 3, 9, 10, 11] (by kernel_rfl))) ?_
  rintro ⟨f3, x1, x2⟩ h
  dsimp only at h ⊢
  rcases f3 with _ | f3
  cases h
  rw [slices_Concat_impl_Column_impl_Column_l0] at h
  refine srve 36 [(0, A a0), (3, I x1), (9, A a0), (10, I ((a0.length : Int))), (11, I x2), (12, B ((decide (x2 < ((a0.length : Int))))))] [] ?_
  refine pwp_seq ?_
  refine pc h (fun h => ?_) (fun h => ?_)
  refine pwp_skip ?_
  refine pwp_seq ?_
  refine pwp_block ?_
  refine pwp_seq ?_
  refine pwp_region ?_
  obtain ⟨v6, hv7, h⟩ := bindS h
  refine opsP_idx τ_ok 13 hv7 (by kernel_rfl) ?_
  refine ve 2 36 [(0, A a0), (3, I x1), (5, A v6), (9, A a0), (10, I ((a0.length : Int))), (11, I x2)] [] ?_
  refine srve 36 [(0, A a0), (3, I ((w64 (x1 + ((v6.length : Int)))))), (9, A a0), (10, I ((a0.length : Int))), (11, I x2)] [] ?_
  refine srve 36 [(0, A a0), (3, I ((w64 (x1 + ((v6.length : Int)))))), (9, A a0), (10, I ((a0.length : Int))), (11, I x2), (20, B ((decide (((w64 (x1 + ((v6.length : Int))))) < 0))))] [] ?_
  refine pc h (fun h => ?_) (fun h => ?_)
  cases h
  refine pwp_skip ?_
  refine rve 36 [(0, A a0), (3, I ((w64 (x1 + ((v6.length : Int)))))), (9, A a0), (10, I ((a0.length : Int))), (11, I ((w64 (x2 + 1))))] [] ?_
  exact ⟨(f3, (w64 (x1 + ((v6.length : Int)))), (w64 (x2 + 1))), h, Nat.lt_succ_self _, (Imp.to (st' := ⟨36, [(0, A a0), (3, I ((w64 (x1 + ((v6.length : Int)))))), (9, A a0), (10, I ((a0.length : Int))), (11, I ((w64 (x2 + 1))))], []⟩) [0, 3, 9, 10, 11] (by kernel_rfl)).trans (Imp.to [0, 3, 9, 10, 11] (by kernel_rfl))⟩
  refine pwp_exit ?_
  refine srv 1 36 [(0, A a0), (23, I x1)] [] ?_
  obtain ⟨v9, hv10, h⟩ := bindS h
  refine opsP_callH τ 24 (ok_slices_Grow_impl_Column_impl_Column_n0 hv10) rfl (by kernel_rfl) ?_
  refine ve 1 36 [(0, A a0), (6, .ref 0 0 0 2 v9.length false)] [some ⟨0, eL v9⟩] ?_
  refine pwp_seq ?_
  refine srve 36 [(6, .ref 0 0 0 2 v9.length false), (25, A a0), (26, I ((a0.length : Int))), (27, I 0)] [some ⟨0, eL v9⟩] ?_
  refine pwp_block ?_
  refine pwp_loop (ι := Nat × Int × (List T_impl_Column)) (fun (f14, x12, x13) => (⟨36, [(6, .ref 0 0 0 2 x13.length false), (25, A a0), (26, I ((a0.length : Int))), (27, I x12)], [some ⟨0, eL x13⟩]⟩ : St)) (fun (f14, x12, x13) => slices_Concat_impl_Column_impl_Column_l1 a0 f14 x12 x13 = some y) (fun (f14, x12, x13) => f14) (FUEL, 0, v9) h ((Imp.to (st' := ⟨36, [(6, .ref 0 0 0 2 v9.length false), (25, A a0), (26, I ((a0.length : Int))), (27, I 0)], [some ⟨0, eL v9⟩]⟩) [6, 25, 26, 27] (by kernel_rfl)).trans (Imp.to [6, 25, 26, 27] (by kernel_rfl))) ?_
  rintro ⟨f14, x12, x13⟩ h
  dsimp only at h ⊢
  rcases f14 with _ | f14
  cases h
  rw [slices_Concat_impl_Column_impl_Column_l1] at h
  refine srve 36 [(6, .ref 0 0 0 2 x13.length false), (25, A a0), (26, I ((a0.length : Int))), (27, I x12), (28, B ((decide (x12 < ((a0.length : Int))))))] [some ⟨0, eL x13⟩] ?_
  refine pwp_seq ?_
  refine pc h (fun h => ?_) (fun h => ?_)
  refine pwp_skip ?_
  refine pwp_seq ?_
  refine pwp_block ?_
  refine pwp_seq ?_
  refine pwp_region ?_
  obtain ⟨v17, hv18, h⟩ := bindS h
  refine opsP_idx τ_ok 29 hv18 (by kernel_rfl) ?_
  refine ve 2 36 [(6, .ref 0 0 0 2 x13.length false), (8, A v17), (25, A a0), (26, I ((a0.length : Int))), (27, I x12)] [some ⟨0, eL x13⟩] ?_
  refine rv 2 36 [(25, A a0), (26, I ((a0.length : Int))), (27, I x12), (31, .ref 0 0 0 2 x13.length false), (32, A v17)] [some ⟨0, eL x13⟩] ?_
  obtain ⟨v19, hv20, h⟩ := bindS h
  refine opsP_app τ_ok 33 0 0 (fun b hb => absurd hb (hX b)) hv20 (by kernel_rfl) ?_
  refine ve 1 36 [(6, .ref 0 1 0 2 v19.length false), (25, A a0), (26, I ((a0.length : Int))), (27, I x12)] [some ⟨1, eL v19⟩] ?_
  refine rve 36 [(6, .ref 0 1 0 2 v19.length false), (25, A a0), (26, I ((a0.length : Int))), (27, I ((w64 (x12 + 1))))] [some ⟨1, eL v19⟩] ?_
  exact ⟨(f14, (w64 (x12 + 1)), v19), h, Nat.lt_succ_self _, (Imp.to (st' := ⟨36, [(6, .ref 0 1 0 2 v19.length false), (25, A a0), (26, I ((a0.length : Int))), (27, I ((w64 (x12 + 1))))], [some ⟨1, eL v19⟩]⟩) [6, 25, 26, 27] (by kernel_rfl)).trans ((Imp.reverS (st' := ⟨36, [(6, .ref 0 0 0 2 v19.length false), (25, A a0), (26, I ((a0.length : Int))), (27, I ((w64 (x12 + 1))))], [some ⟨0, eL v19⟩]⟩) 0 1 (eL v19) [6, 25, 26, 27] (by kernel_rfl) (by exact (And.intro (eL_frz _) trivial)) (by kernel_rfl)).trans (Imp.to [6, 25, 26, 27] (by kernel_rfl)))⟩
  refine pwp_exit ?_
  refine srve 36 [(2, .ref 0 0 0 2 x13.length false)] [some ⟨0, eL x13⟩] ?_
  have h := si h
  subst h
  exact pwp_ret (rt (.ref 0 0 0 2 x13.length false) (OutP.list (v := 0) (by kernel_rfl)))
def spec_RowFits_j2 (x3 : Int) (K5 : Int → Option Bool) (x7 : Bool) : Option Bool := bif x7 then some false else K5 ((w64 (x3 + 1)))
def spec_RowFits_l1 (a0 : List T_impl_Column) (a1 : List T_impl_Value) : Nat → Int → Option Bool
  | 0, _ => none
  | f4 + 1, x3 => bif (decide (x3 < ((a1.length : Int)))) then (getI a1 x3).bind fun v9 => (getI a0 x3).bind fun v11 => bif (!(v9.fKind == v11.fKind)) then (getI a1 x3).bind fun v13 => bif (!(v13.fKind == 0)) then spec_RowFits_j2 x3 (spec_RowFits_l1 a0 a1 f4) true else (getI a0 x3).bind fun v15 => spec_RowFits_j2 x3 (spec_RowFits_l1 a0 a1 f4) ((!v15.fEmpty)) else spec_RowFits_j2 x3 (spec_RowFits_l1 a0 a1 f4) false else some true
def spec_RowFits_j0 (a0 : List T_impl_Column) (a1 : List T_impl_Value) (x1 : Bool) : Option Bool := bif x1 then some false else spec_RowFits_l1 a0 a1 FUEL 0
def spec_RowFits (a0 : List T_impl_Column) (a1 : List T_impl_Value) : Option Bool := (spec_ColumnsOk a0).bind fun v19 => bif (!v19) then spec_RowFits_j0 a0 a1 true else (spec_RowOk a1).bind fun v21 => bif (!v21) then spec_RowFits_j0 a0 a1 true else spec_RowFits_j0 a0 a1 ((!(((a1.length : Int)) == ((a0.length : Int)))))
theorem ok_spec_RowFits {a0 : List T_impl_Column} {a1 : List T_impl_Value} {y : Bool} (h : spec_RowFits a0 a1 = some y) : OK Try.prog 126 [A a0, A a1] (B y) := by
  refine OK_of_pwp τ_ok Try.func126 rfl (by kernel_rfl) rfl fun Γ hX => ?_
  unfold spec_RowFits at h
  refine srve 54 [(0, A a0), (1, A a1)] [] ?_
  refine pwp_seq ?_
  refine pwp_seq ?_
  refine pwp_join (σ := Bool) (fun x1 => (⟨54, [(0, A a0), (1, A a1), (20, B x1)], []⟩ : St)) (fun x1 => spec_RowFits_j0 a0 a1 x1 = some y) ?_ ?_
  refine rv 1 54 [(0, A a0), (1, A a1), (6, A a0)] [] ?_
  obtain ⟨v19, hv20, h⟩ := bindS h
  refine opsP_callF τ 7 (ok_spec_ColumnsOk hv20) (FzTo.frz rfl) rfl (by kernel_rfl) ?_
  refine v 2 54 [(0, A a0), (1, A a1), (9, B ((!v19)))] [] ?_
  rcases fk ((!v19)) with hc24 | hc24
  replace h := bT hc24 h
  rw [hc24]
  refine ve 11 54 [(0, A a0), (1, A a1), (20, B true)] [] ?_
  exact ⟨true, h, (Imp.to (st' := ⟨54, [(0, A a0), (1, A a1), (20, B true)], []⟩) [0, 1, 20] (by kernel_rfl)).trans (Imp.to [0, 1, 20] (by kernel_rfl))⟩
  replace h := bF hc24 h
  rw [hc24]
  refine v 1 54 [(0, A a0), (1, A a1), (9, B false), (10, A a1)] [] ?_
  obtain ⟨v21, hv22, h⟩ := bindS h
  refine opsP_callF τ 11 (ok_spec_RowOk hv22) (FzTo.frz rfl) rfl (by kernel_rfl) ?_
  refine v 3 54 [(0, A a0), (1, A a1), (14, B ((!v21)))] [] ?_
  rcases fk ((!v21)) with hc23 | hc23
  replace h := bT hc23 h
  rw [hc23]
  refine ve 6 54 [(0, A a0), (1, A a1), (20, B true)] [] ?_
  exact ⟨true, h, (Imp.to (st' := ⟨54, [(0, A a0), (1, A a1), (20, B true)], []⟩) [0, 1, 20] (by kernel_rfl)).trans (Imp.to [0, 1, 20] (by kernel_rfl))⟩
  replace h := bF hc23 h
  rw [hc23]
  refine ve 6 54 [(0, A a0), (1, A a1), (20, B ((!(((a1.length : Int)) == ((a0.length : Int))))))] [] ?_
  exact ⟨(!(((a1.length : Int)) == ((a0.length : Int)))), h, (Imp.to (st' := ⟨54, [(0, A a0), (1, A a1), (20, B ((!(((a1.length : Int)) == ((a0.length : Int))))))], []⟩) [0, 1, 20] (by kernel_rfl)).trans (Imp.to [0, 1, 20] (by kernel_rfl))⟩
  rintro x1 h
  unfold spec_RowFits_j0 at h
  refine pc h (fun h => ?_) (fun h => ?_)
  refine srve 54 [(4, B false)] [] ?_
  cases h
  exact pwp_ret rz
  refine pwp_skip ?_
  refine pwp_seq ?_
  refine srve 54 [(0, A a0), (1, A a1), (5, I 0)] [] ?_
  refine pwp_block ?_
  refine pwp_loop (ι := Nat × Int) (fun (f4, x3) => (⟨54, [(0, A a0), (1, A a1), (5, I x3)], []⟩ : St)) (fun (f4, x3) => spec_RowFits_l1 a0 a1 f4 x3 = some y) (fun (f4, x3) => f4) (FUEL, 0) h ((Imp.to (st' := ⟨54, [(0, A a0), (1, A a1), (5, I 0)], []⟩) [0, 1, 5] (by kernel_rfl)).trans (Imp.to [0, 1, 5] (by kernel_rfl))) ?_
  rintro ⟨f4, x3⟩ h
  dsimp only at h ⊢
  rcases f4 with _ | f4
  cases h
  rw [spec_RowFits_l1] at h
  refine pwp_seq ?_
  refine srve 54 [(0, A a0), (1, A a1), (5, I x3), (24, B ((decide (x3 < ((a1.length : Int))))))] [] ?_
  refine pc h (fun h => ?_) (fun h => ?_)
  refine pwp_skip ?_
  refine pwp_seq ?_
  refine pwp_block ?_
  refine pwp_seq ?_
  refine pwp_join (σ := Bool) (fun x7 => (⟨54, [(0, A a0), (1, A a1), (5, I x3), (53, B x7)], []⟩ : St)) (fun x7 => spec_RowFits_j2 x3 (spec_RowFits_l1 a0 a1 f4) x7 = some y) ?_ ?_
  refine pwp_imp (Imp.to (st' := ⟨54, [(0, A a0), (1, A a1), (5, I x3)], []⟩) [0, 1, 5] (by kernel_rfl)) ?_
  refine pwp_any ([[], [], [], [], [], [], [], [], [], [], [], [], [], [], [], [], [], [], [], [], [], [], [], [], [], [], []]) ([[], [], [], [], [], [], [], [], [], [], [], [], [], [], [], [], [], [], [], [], [], [], [], [], [], [], []]) rfl (by kernel_rfl) ?_
  refine qA_ev (st' := ⟨54, [(28, I x3), (27, A a1), (0, A a0), (1, A a1), (5, I x3)], []⟩) τ_ok [] [] 2 (by exact trivial) (by kernel_rfl) ?_
  obtain ⟨v9, hv10, h⟩ := bindS h
  refine qA_E (dd := some 29) (x := .fptr (Enc.cells v9) 0) ([]) (⟨54, [(29, .fptr (Enc.cells v9) 0), (28, I x3), (27, A a1), (0, A a0), (1, A a1), (5, I x3)], []⟩) (fun Γ' hΓ => CoreE.of_y (idxV_sound τ_ok (by kernel_rfl) hv10)) (by kernel_rfl) (by kernel_rfl) (by exact trivial) (.inr (.inr rfl)) (by kernel_rfl) ?_
  refine qA_ev (st' := ⟨54, [(33, I x3), (32, A a0), (31, I v9.fKind), (30, .fptr (Enc.cells v9) 0), (29, .fptr (Enc.cells v9) 0), (28, I x3), (27, A a1), (0, A a0), (1, A a1), (5, I x3)], []⟩) τ_ok [] [] 4 (by exact trivial) (by kernel_rfl) ?_
  obtain ⟨v11, hv12, h⟩ := bindS h
  refine qA_E (dd := some 34) (x := .fptr (Enc.cells v11) 0) ([]) (⟨54, [(34, .fptr (Enc.cells v11) 0), (33, I x3), (32, A a0), (31, I v9.fKind), (30, .fptr (Enc.cells v9) 0), (29, .fptr (Enc.cells v9) 0), (28, I x3), (27, A a1), (0, A a0), (1, A a1), (5, I x3)], []⟩) (fun Γ' hΓ => CoreE.of_y (idxV_sound τ_ok (by kernel_rfl) hv12)) (by kernel_rfl) (by kernel_rfl) (by exact trivial) (.inr (.inr rfl)) (by kernel_rfl) ?_
  refine qA_ev (st' := ⟨54, [(38, B ((!(v9.fKind == v11.fKind)))), (37, B ((!(v9.fKind == v11.fKind)))), (36, I v11.fKind), (35, .fptr (Enc.cells v11) 0), (34, .fptr (Enc.cells v11) 0), (33, I x3), (32, A a0), (31, I v9.fKind), (30, .fptr (Enc.cells v9) 0), (29, .fptr (Enc.cells v9) 0), (28, I x3), (27, A a1), (0, A a0), (1, A a1), (5, I x3)], []⟩) τ_ok [] [] 4 (by exact trivial) (by kernel_rfl) ?_
  rcases fk ((!(v9.fKind == v11.fKind))) with hc18 | hc18
  replace h := bT hc18 h
  rw [hc18]
  refine qA_ev (st' := ⟨54, [(40, I x3), (39, A a1), (38, B true), (37, B true), (36, I v11.fKind), (35, .fptr (Enc.cells v11) 0), (34, .fptr (Enc.cells v11) 0), (33, I x3), (32, A a0), (31, I v9.fKind), (30, .fptr (Enc.cells v9) 0), (29, .fptr (Enc.cells v9) 0), (28, I x3), (27, A a1), (0, A a0), (1, A a1), (5, I x3)], []⟩) τ_ok [] [] 2 (by exact trivial) (by kernel_rfl) ?_
  obtain ⟨v13, hv14, h⟩ := bindS h
  refine qA_E (dd := some 41) (x := .fptr (Enc.cells v13) 0) ([]) (⟨54, [(41, .fptr (Enc.cells v13) 0), (40, I x3), (39, A a1), (38, B true), (37, B true), (36, I v11.fKind), (35, .fptr (Enc.cells v11) 0), (34, .fptr (Enc.cells v11) 0), (33, I x3), (32, A a0), (31, I v9.fKind), (30, .fptr (Enc.cells v9) 0), (29, .fptr (Enc.cells v9) 0), (28, I x3), (27, A a1), (0, A a0), (1, A a1), (5, I x3)], []⟩) (fun Γ' hΓ => CoreE.of_y (idxV_sound τ_ok (by kernel_rfl) hv14)) (by kernel_rfl) (by kernel_rfl) (by exact trivial) (.inr (.inr rfl)) (by kernel_rfl) ?_
  refine qA_ev (st' := ⟨54, [(45, B ((!(v13.fKind == 0)))), (44, B ((!(v13.fKind == 0)))), (43, I v13.fKind), (42, .fptr (Enc.cells v13) 0), (41, .fptr (Enc.cells v13) 0), (40, I x3), (39, A a1), (38, B true), (37, B true), (36, I v11.fKind), (35, .fptr (Enc.cells v11) 0), (34, .fptr (Enc.cells v11) 0), (33, I x3), (32, A a0), (31, I v9.fKind), (30, .fptr (Enc.cells v9) 0), (29, .fptr (Enc.cells v9) 0), (28, I x3), (27, A a1), (0, A a0), (1, A a1), (5, I x3)], []⟩) τ_ok [] [] 4 (by exact trivial) (by kernel_rfl) ?_
  rcases fk ((!(v13.fKind == 0))) with hc17 | hc17
  replace h := bT hc17 h
  rw [hc17]
  refine qA_ev (st' := ⟨54, [(53, B true), (52, B true), (51, .lit undef), (50, .lit undef), (49, .lit undef), (48, .lit undef), (47, .lit undef), (46, .lit undef), (45, B true), (44, B true), (43, I v13.fKind), (42, .fptr (Enc.cells v13) 0), (41, .fptr (Enc.cells v13) 0), (40, I x3), (39, A a1), (38, B true), (37, B true), (36, I v11.fKind), (35, .fptr (Enc.cells v11) 0), (34, .fptr (Enc.cells v11) 0), (33, I x3), (32, A a0), (31, I v9.fKind), (30, .fptr (Enc.cells v9) 0), (29, .fptr (Enc.cells v9) 0), (28, I x3), (27, A a1), (0, A a0), (1, A a1), (5, I x3)], []⟩) τ_ok [] [] 8 (by exact trivial) (by kernel_rfl) ?_
  refine qA_end ?_
  refine opsP_imp (Imp.to (st' := ⟨54, [(0, A a0), (1, A a1), (5, I x3), (39, A a1), (40, I x3), (41, .fptr (Enc.cells v13) 0), (42, .fptr (Enc.cells v13) 0), (43, I v13.fKind), (44, B true), (45, B true), (46, .lit undef), (47, .lit undef), (48, .lit undef), (49, .lit undef), (50, .lit undef), (51, .lit undef), (52, B true), (53, B true)], []⟩) [0, 1, 5, 39, 40, 41, 42, 43, 44, 45, 46, 47, 48, 49, 50, 51, 52, 53] (by kernel_rfl)) ?_
  refine opsP_end rfl ?_
  exact ⟨true, h, (Imp.to (st' := ⟨54, [(0, A a0), (1, A a1), (5, I x3), (53, B true)], []⟩) [0, 1, 5, 53] (by kernel_rfl)).trans (Imp.to [0, 1, 5, 53] (by kernel_rfl))⟩
  replace h := bF hc17 h
  rw [hc17]
  refine qA_ev (st' := ⟨54, [(47, I x3), (46, A a0), (45, B false), (44, B false), (43, I v13.fKind), (42, .fptr (Enc.cells v13) 0), (41, .fptr (Enc.cells v13) 0), (40, I x3), (39, A a1), (38, B true), (37, B true), (36, I v11.fKind), (35, .fptr (Enc.cells v11) 0), (34, .fptr (Enc.cells v11) 0), (33, I x3), (32, A a0), (31, I v9.fKind), (30, .fptr (Enc.cells v9) 0), (29, .fptr (Enc.cells v9) 0), (28, I x3), (27, A a1), (0, A a0), (1, A a1), (5, I x3)], []⟩) τ_ok [] [] 2 (by exact trivial) (by kernel_rfl) ?_
  obtain ⟨v15, hv16, h⟩ := bindS h
  refine qA_E (dd := some 48) (x := .fptr (Enc.cells v15) 0) ([]) (⟨54, [(48, .fptr (Enc.cells v15) 0), (47, I x3), (46, A a0), (45, B false), (44, B false), (43, I v13.fKind), (42, .fptr (Enc.cells v13) 0), (41, .fptr (Enc.cells v13) 0), (40, I x3), (39, A a1), (38, B true), (37, B true), (36, I v11.fKind), (35, .fptr (Enc.cells v11) 0), (34, .fptr (Enc.cells v11) 0), (33, I x3), (32, A a0), (31, I v9.fKind), (30, .fptr (Enc.cells v9) 0), (29, .fptr (Enc.cells v9) 0), (28, I x3), (27, A a1), (0, A a0), (1, A a1), (5, I x3)], []⟩) (fun Γ' hΓ => CoreE.of_y (idxV_sound τ_ok (by kernel_rfl) hv16)) (by kernel_rfl) (by kernel_rfl) (by exact trivial) (.inr (.inr rfl)) (by kernel_rfl) ?_
  refine qA_ev (st' := ⟨54, [(53, B ((!v15.fEmpty))), (52, B ((!v15.fEmpty))), (51, B ((!v15.fEmpty))), (50, B v15.fEmpty), (49, .fptr (Enc.cells v15) 1), (48, .fptr (Enc.cells v15) 0), (47, I x3), (46, A a0), (45, B false), (44, B false), (43, I v13.fKind), (42, .fptr (Enc.cells v13) 0), (41, .fptr (Enc.cells v13) 0), (40, I x3), (39, A a1), (38, B true), (37, B true), (36, I v11.fKind), (35, .fptr (Enc.cells v11) 0), (34, .fptr (Enc.cells v11) 0), (33, I x3), (32, A a0), (31, I v9.fKind), (30, .fptr (Enc.cells v9) 0), (29, .fptr (Enc.cells v9) 0), (28, I x3), (27, A a1), (0, A a0), (1, A a1), (5, I x3)], []⟩) τ_ok [] [] 5 (by exact trivial) (by kernel_rfl) ?_
  refine qA_end ?_
  refine opsP_imp (Imp.to (st' := ⟨54, [(0, A a0), (1, A a1), (5, I x3), (39, A a1), (40, I x3), (41, .fptr (Enc.cells v13) 0), (42, .fptr (Enc.cells v13) 0), (43, I v13.fKind), (44, B false), (45, B false), (46, A a0), (47, I x3), (48, .fptr (Enc.cells v15) 0), (49, .fptr (Enc.cells v15) 1), (50, B v15.fEmpty), (51, B ((!v15.fEmpty))), (52, B ((!v15.fEmpty))), (53, B ((!v15.fEmpty)))], []⟩) [0, 1, 5, 39, 40, 41, 42, 43, 44, 45, 46, 47, 48, 49, 50, 51, 52, 53] (by kernel_rfl)) ?_
  refine opsP_end rfl ?_
  exact ⟨(!v15.fEmpty), h, (Imp.to (st' := ⟨54, [(0, A a0), (1, A a1), (5, I x3), (53, B ((!v15.fEmpty)))], []⟩) [0, 1, 5, 53] (by kernel_rfl)).trans (Imp.to [0, 1, 5, 53] (by kernel_rfl))⟩
  replace h := bF hc18 h
  rw [hc18]
  refine qA_ev (st' := ⟨54, [(53, B false), (52, .lit undef), (51, .lit undef), (50, .lit undef), (49, .lit undef), (48, .lit undef), (47, .lit undef), (46, .lit undef), (45, .lit undef), (44, .lit undef), (43, .lit undef), (42, .lit undef), (41, .lit undef), (40, .lit undef), (39, .lit undef), (38, B false), (37, B false), (36, I v11.fKind), (35, .fptr (Enc.cells v11) 0), (34, .fptr (Enc.cells v11) 0), (33, I x3), (32, A a0), (31, I v9.fKind), (30, .fptr (Enc.cells v9) 0), (29, .fptr (Enc.cells v9) 0), (28, I x3), (27, A a1), (0, A a0), (1, A a1), (5, I x3)], []⟩) τ_ok [] [] 15 (by exact trivial) (by kernel_rfl) ?_
  refine qA_end ?_
  refine opsP_imp (Imp.to (st' := ⟨54, [(0, A a0), (1, A a1), (5, I x3), (39, .lit undef), (40, .lit undef), (41, .lit undef), (42, .lit undef), (43, .lit undef), (44, .lit undef), (45, .lit undef), (46, .lit undef), (47, .lit undef), (48, .lit undef), (49, .lit undef), (50, .lit undef), (51, .lit undef), (52, .lit undef), (53, B false)], []⟩) [0, 1, 5, 39, 40, 41, 42, 43, 44, 45, 46, 47, 48, 49, 50, 51, 52, 53] (by kernel_rfl)) ?_
  refine opsP_end rfl ?_
  exact ⟨false, h, (Imp.to (st' := ⟨54, [(0, A a0), (1, A a1), (5, I x3), (53, B false)], []⟩) [0, 1, 5, 53] (by kernel_rfl)).trans (Imp.to [0, 1, 5, 53] (by kernel_rfl))⟩
  rintro x7 h
  unfold spec_RowFits_j2 at h
  refine pc h (fun h => ?_) (fun h => ?_)
  refine srve 54 [(4, B false)] [] ?_
  cases h
  exact pwp_ret rz
  refine pwp_skip ?_
  refine rve 54 [(0, A a0), (1, A a1), (5, I ((w64 (x3 + 1))))] [] ?_
  exact ⟨(f4, (w64 (x3 + 1))), h, Nat.lt_succ_self _, (Imp.to (st' := ⟨54, [(0, A a0), (1, A a1), (5, I ((w64 (x3 + 1))))], []⟩) [0, 1, 5] (by kernel_rfl)).trans (Imp.to [0, 1, 5] (by kernel_rfl))⟩
  refine pwp_exit ?_
  refine srve 54 [(4, B true)] [] ?_
  cases h
  exact pwp_ret rz
def impl_RowOk_1 (a0 : T_impl_Value) : Option Bool := (impl_Value_ok a0).bind fun v1 => some ((!v1))
theorem ok_impl_RowOk_1 {a0 : T_impl_Value} {y : Bool} (h : impl_RowOk_1 a0 = some y) : OK Try.prog 147 [E a0] (B y) := by
  refine OK_of_pwp τ_ok Try.func147 rfl (by kernel_rfl) rfl fun Γ hX => ?_
  unfold impl_RowOk_1 at h
  refine srve 6 [(1, .fptr (Enc.cells a0) 0)] [] ?_
  refine srv 1 6 [(3, E a0)] [] ?_
  obtain ⟨v1, hv2, h⟩ := bindS h
  refine opsP_callF τ 4 (ok_impl_Value_ok hv2) (FzTo.frz rfl) rfl (by kernel_rfl) ?_
  refine ve 2 6 [(2, B ((!v1)))] [] ?_
  cases h
  exact pwp_ret rz
def impl_Part_kind_1 (a0 : Int) (b0 : List Int) : Option Bool := (slices_ContainsFunc_int_int b0 (fun z0 => impl_Part_kind_1_1 z0 a0)).bind fun v1 => some ((!v1))
theorem ok_impl_Part_kind_1 {a0 : Int} {b0 : List Int} {y : Bool} (h : impl_Part_kind_1 a0 b0 = some y) : OK Try.prog 167 [I a0, .fptr (Enc.cells b0) 0] (B y) := by
  refine OK_of_pwp τ_ok Try.func167 rfl (by kernel_rfl) rfl fun Γ hX => ?_
  unfold impl_Part_kind_1 at h
  refine srve 8 [(1, .fptr (Enc.cells b0) 0), (2, .fptr (Enc.cells a0) 0)] [] ?_
  refine srv 2 8 [(4, A b0), (5, .fn 169 [.fptr (Enc.cells a0) 0])] [] ?_
  obtain ⟨v1, hv2, h⟩ := bindS h
  refine opsP_callF τ 6 (ok_slices_ContainsFunc_int_int (rfl) (fun _ w hw => ok_impl_Part_kind_1_1 hw) hv2) (FzTo.frz rfl) rfl (by kernel_rfl) ?_
  refine ve 2 8 [(3, B ((!v1)))] [] ?_
  cases h
  exact pwp_ret rz
def laws_markTableS_l0 : Nat → Int → Int → (List T_impl_Table) → Option (Int × List T_impl_Table)
  | 0, _, _, _ => none
  | f5 + 1, x2, x3, x4 => bif (decide (x3 < ((x4.length : Int)))) then (getI x4 x3).bind fun v8 => (laws_markColumnS v8.fColumns x2).bind fun v10 => (getI ((x4.set x3.toNat (({ v8 with fColumns := v10.2 } : T_impl_Table)))) x3).bind fun v12 => (laws_markValueSS v12.fRows v10.1).bind fun v14 => (laws_markTableS_l0 f5) v14.1 ((w64 (x3 + 1))) ((((x4.set x3.toNat (({ v8 with fColumns := v10.2 } : T_impl_Table)))).set x3.toNat (({ v12 with fRows := v14.2 } : T_impl_Table)))) else some (x2, x4)
def laws_markTableS (a0 : List T_impl_Table) (a1 : Int) : Option (Int × List T_impl_Table) := laws_markTableS_l0 FUEL a1 0 a0
theorem len_laws_markTableS_l0 : ∀ (f5 : Nat) (x2 : Int) (x3 : Int) (x4 : List T_impl_Table) (y : Int × List T_impl_Table), laws_markTableS_l0 f5 x2 x3 x4 = some y → y.2.length = x4.length
  | 0, _, _, _, _, h => by cases h
  | f5 + 1, x2, x3, x4, y, h => by
    rw [laws_markTableS_l0] at h
    rcases condS h with h | h
    · obtain ⟨_, _, h⟩ := bindS h
      obtain ⟨_, _, h⟩ := bindS h
      obtain ⟨_, _, h⟩ := bindS h
      obtain ⟨_, _, h⟩ := bindS h
      have h2 := len_laws_markTableS_l0 f5 _ _ _ _ h
      simp only [List.length_set] at h2
      exact h2
    · cases h; rfl
theorem len_laws_markTableS {a0 : List T_impl_Table} {a1 : Int} {y : Int × List T_impl_Table} (h : laws_markTableS a0 a1 = some y) : y.2.length = a0.length := by
  unfold laws_markTableS at h
  exact len_laws_markTableS_l0 _ _ _ _ _ h
theorem ok_laws_markTableS {a0 : List T_impl_Table} {a1 : Int} {y : Int × List T_impl_Table} (h : laws_markTableS a0 a1 = some y) : OKd Try.prog 15 2 a0.length (dL a0) [I a1] (.int .i64 y.1) (dL y.2) := by
  refine OKd_of_pwp τ_ok Try.func15 rfl (by kernel_rfl) rfl (dL_oc _) (dL_oc _) (dL_bl _) (dL_bl _) rfl (fun hl => by rw [dL_len, len_laws_markTableS h, ← dL_len]; exact hl) fun Γ => ?_
  refine pwp_imp (Imp.to (st' := ⟨27, [(0, .ref 0 0 0 2 a0.length false), (1, I a1)], [some ⟨0, dL a0⟩]⟩) [0, 1] (by kernel_rfl)) ?_
  unfold laws_markTableS at h
  refine srve 27 [(0, .ref 0 0 0 2 a0.length false), (1, I a1)] [some ⟨0, dL a0⟩] ?_
  refine pwp_seq ?_
  refine srve 27 [(0, .ref 0 0 0 2 a0.length false), (1, I a1), (5, I 0)] [some ⟨0, dL a0⟩] ?_
  refine pwp_block ?_
  refine pwp_loop (ι := Nat × Int × Int × (List T_impl_Table)) (fun (f5, x2, x3, x4) => (⟨27, [(0, .ref 0 0 0 2 x4.length false), (1, I x2), (5, I x3)], [some ⟨0, dL x4⟩]⟩ : St)) (fun (f5, x2, x3, x4) => laws_markTableS_l0 f5 x2 x3 x4 = some y) (fun (f5, x2, x3, x4) => f5) (FUEL, a1, 0, a0) h ((Imp.to (st' := ⟨27, [(0, .ref 0 0 0 2 a0.length false), (1, I a1), (5, I 0)], [some ⟨0, dL a0⟩]⟩) [0, 1, 5] (by kernel_rfl)).trans (Imp.to [0, 1, 5] (by kernel_rfl))) ?_
  rintro ⟨f5, x2, x3, x4⟩ h
  dsimp only at h ⊢
  rcases f5 with _ | f5
  cases h
  rw [laws_markTableS_l0] at h
  refine pwp_seq ?_
  refine srve 27 [(0, .ref 0 0 0 2 x4.length false), (1, I x2), (5, I x3), (9, B ((decide (x3 < ((x4.length : Int))))))] [some ⟨0, dL x4⟩] ?_
  refine pc h (fun h => ?_) (fun h => ?_)
  refine pwp_skip ?_
  refine pwp_seq ?_
  refine pwp_block ?_
  refine srv 2 27 [(0, .ref 0 0 0 2 x4.length false), (1, I x2), (5, I x3), (12, .ref 0 0 0 2 x4.length false), (13, I x3)] [some ⟨0, dL x4⟩] ?_
  obtain ⟨v8, hv9, h⟩ := bindS h
  refine opsP_idr τ_ok 14 0 0 x4.length hv9 rfl (by kernel_rfl) ?_
  refine v 1 27 [(0, .ref 0 0 0 2 x4.length false), (1, I x2), (5, I x3), (15, .ptr 0 0 (x3.toNat * 2))] [some ⟨0, dL x4⟩] ?_
  refine opsP_imp (Imp.to (st' := ⟨27, [(0, .ref 0 0 0 2 x4.length false), (1, I x2), (5, I x3), (15, .ptr 0 0 (x3.toNat * 2))], [some ⟨0, dL x4⟩]⟩) [0, 1, 5, 15] (by kernel_rfl)) ?_
  refine opsP_imp (Imp.ghosts 1 (st' := ⟨27, [(0, .ref 0 0 0 2 x4.length false), (1, I x2), (5, I x3), (15, .ptr 0 0 (x3.toNat * 2))], [some ⟨0, dL x4⟩, some ⟨0, []⟩]⟩) (by kernel_rfl)) ?_
  refine opsP_E (dd := some 16) (x := .ref 1 1 0 2 v8.fColumns.length false) (CoreE.pre (H1 := [some ⟨0, setL (dL x4) (x3.toNat * 2 + 0) [.ref 1 1 0 2 v8.fColumns.length false]⟩, some ⟨1, eL v8.fColumns⟩]) (HStep.openL (cs0 := []) (xs := x4) (s := 2) (n := v8.fColumns.length) (f := false) (cs := eL v8.fColumns) 0 0 1 0 0 hv9 (by kernel_rfl) (by kernel_rfl) (by kernel_rfl) (by kernel_rfl) (by decide) (fun _ _ => by decide) (by kernel_rfl)) (ldo_E (xs := x4) τ_ok 16 26 0 hv9 (by kernel_rfl) (by kernel_rfl) (by kernel_rfl))) ?_
  refine v 1 27 [(0, .ref 0 0 0 2 x4.length false), (5, I x3), (16, .ref 1 1 0 2 v8.fColumns.length false), (17, I x2)] [some ⟨0, setL (dL x4) (x3.toNat * 2 + 0) [.ref 1 1 0 2 v8.fColumns.length false]⟩, some ⟨1, eL v8.fColumns⟩] ?_
  obtain ⟨v10, hv11, h⟩ := bindS h
  refine opsP_E (dd := some 18) (x := I v10.1) ((callD_E τ 18 1 1 (ok_laws_markColumnS hv11) (by kernel_rfl)).then (H2 := [some ⟨0, dL ((x4.set x3.toNat (({ v8 with fColumns := v10.2 } : T_impl_Table))))⟩, some ⟨2, []⟩]) (HStep.nestL (xs := x4) (vs := [.ref 1 1 0 2 v8.fColumns.length false]) 0 0 0 (({ v8 with fColumns := v10.2 } : T_impl_Table)) hv9 (by kernel_rfl) (OutL.cons (OutP.listn (v := 1) (xs := v10.2) (len_laws_markColumnS hv11) (by kernel_rfl)) (OutL.nil _)) (by decide) (by decide) (fun _ _ => by decide) (by kernel_rfl) (by kernel_rfl) (by kernel_rfl) (by kernel_rfl))) ?_
  refine opsP_imp (Imp.to (st' := ⟨27, [(0, .ref 0 0 0 2 x4.length false), (5, I x3), (17, I x2), (18, I v10.1)], [some ⟨0, dL ((x4.set x3.toNat (({ v8 with fColumns := v10.2 } : T_impl_Table))))⟩, some ⟨2, []⟩]⟩) [0, 5, 17, 18] (by kernel_rfl)) ?_
  refine opsP_ren (st' := ⟨27, [(0, .ref 0 0 0 2 ((x4.set x3.toNat (({ v8 with fColumns := v10.2 } : T_impl_Table)))).length false), (5, I x3), (17, I x2), (18, I v10.1)], [some ⟨0, dL ((x4.set x3.toNat (({ v8 with fColumns := v10.2 } : T_impl_Table))))⟩, some ⟨2, []⟩]⟩) 0 ((x4.set x3.toNat (({ v8 with fColumns := v10.2 } : T_impl_Table)))).length (renC (ren_ref (List.length_set ..).symm) (renC trivial (renC trivial (renC trivial renC0)))) (by kernel_rfl) ?_
  refine ve 1 27 [(0, .ref 0 0 0 2 ((x4.set x3.toNat (({ v8 with fColumns := v10.2 } : T_impl_Table)))).length false), (1, I v10.1), (5, I x3)] [some ⟨0, dL ((x4.set x3.toNat (({ v8 with fColumns := v10.2 } : T_impl_Table))))⟩, some ⟨2, []⟩] ?_
  refine rv 2 27 [(0, .ref 0 0 0 2 ((x4.set x3.toNat (({ v8 with fColumns := v10.2 } : T_impl_Table)))).length false), (1, I v10.1), (5, I x3), (19, .ref 0 0 0 2 ((x4.set x3.toNat (({ v8 with fColumns := v10.2 } : T_impl_Table)))).length false), (20, I x3)] [some ⟨0, dL ((x4.set x3.toNat (({ v8 with fColumns := v10.2 } : T_impl_Table))))⟩, some ⟨2, []⟩] ?_
  obtain ⟨v12, hv13, h⟩ := bindS h
  refine opsP_idr τ_ok 21 0 0 ((x4.set x3.toNat (({ v8 with fColumns := v10.2 } : T_impl_Table)))).length hv13 rfl (by kernel_rfl) ?_
  refine v 1 27 [(0, .ref 0 0 0 2 ((x4.set x3.toNat (({ v8 with fColumns := v10.2 } : T_impl_Table)))).length false), (1, I v10.1), (5, I x3), (22, .ptr 0 0 (x3.toNat * 2 + 1))] [some ⟨0, dL ((x4.set x3.toNat (({ v8 with fColumns := v10.2 } : T_impl_Table))))⟩, some ⟨2, []⟩] ?_
  refine opsP_imp (Imp.to (st' := ⟨27, [(0, .ref 0 0 0 2 ((x4.set x3.toNat (({ v8 with fColumns := v10.2 } : T_impl_Table)))).length false), (1, I v10.1), (5, I x3), (22, .ptr 0 0 (x3.toNat * 2 + 1))], [some ⟨0, dL ((x4.set x3.toNat (({ v8 with fColumns := v10.2 } : T_impl_Table))))⟩, some ⟨2, []⟩]⟩) [0, 1, 5, 22] (by kernel_rfl)) ?_
  refine opsP_imp (Imp.ghosts 1 (st' := ⟨27, [(0, .ref 0 0 0 2 ((x4.set x3.toNat (({ v8 with fColumns := v10.2 } : T_impl_Table)))).length false), (1, I v10.1), (5, I x3), (22, .ptr 0 0 (x3.toNat * 2 + 1))], [some ⟨0, dL ((x4.set x3.toNat (({ v8 with fColumns := v10.2 } : T_impl_Table))))⟩, some ⟨2, []⟩, some ⟨0, []⟩]⟩) (by kernel_rfl)) ?_
  refine opsP_E (dd := some 23) (x := .ref 2 1 0 1 v12.fRows.length false) (CoreE.pre (H1 := [some ⟨0, setL (dL ((x4.set x3.toNat (({ v8 with fColumns := v10.2 } : T_impl_Table))))) (x3.toNat * 2 + 1) [.ref 2 1 0 1 v12.fRows.length false]⟩, some ⟨2, []⟩, some ⟨1, dL v12.fRows⟩]) (HStep.openL (cs0 := []) (xs := (x4.set x3.toNat (({ v8 with fColumns := v10.2 } : T_impl_Table)))) (s := 1) (n := v12.fRows.length) (f := false) (cs := dL v12.fRows) 0 0 2 0 1 hv13 (by kernel_rfl) (by kernel_rfl) (by kernel_rfl) (by kernel_rfl) (by decide) (fun _ _ => by decide) (by kernel_rfl)) (ldo_E (xs := (x4.set x3.toNat (({ v8 with fColumns := v10.2 } : T_impl_Table)))) τ_ok 23 75 1 hv13 (by kernel_rfl) (by kernel_rfl) (by kernel_rfl))) ?_
  refine v 1 27 [(0, .ref 0 0 0 2 ((x4.set x3.toNat (({ v8 with fColumns := v10.2 } : T_impl_Table)))).length false), (5, I x3), (23, .ref 2 1 0 1 v12.fRows.length false), (24, I v10.1)] [some ⟨0, setL (dL ((x4.set x3.toNat (({ v8 with fColumns := v10.2 } : T_impl_Table))))) (x3.toNat * 2 + 1) [.ref 2 1 0 1 v12.fRows.length false]⟩, some ⟨2, []⟩, some ⟨1, dL v12.fRows⟩] ?_
  obtain ⟨v14, hv15, h⟩ := bindS h
  refine opsP_E (dd := some 25) (x := I v14.1) ((callD_E τ 25 2 1 (ok_laws_markValueSS hv15) (by kernel_rfl)).then (H2 := [some ⟨0, dL ((((x4.set x3.toNat (({ v8 with fColumns := v10.2 } : T_impl_Table)))).set x3.toNat (({ v12 with fRows := v14.2 } : T_impl_Table))))⟩, some ⟨2, []⟩, some ⟨2, []⟩]) (HStep.nestL (xs := (x4.set x3.toNat (({ v8 with fColumns := v10.2 } : T_impl_Table)))) (vs := [.ref 2 1 0 1 v12.fRows.length false]) 0 0 1 (({ v12 with fRows := v14.2 } : T_impl_Table)) hv13 (by kernel_rfl) (OutL.cons (OutP.listDn (v := 1) (xs := v14.2) (len_laws_markValueSS hv15) (by kernel_rfl)) (OutL.nil _)) (by decide) (by decide) (fun _ _ => by decide) (by kernel_rfl) (by kernel_rfl) (by kernel_rfl) (by kernel_rfl))) ?_
  refine opsP_imp (Imp.to (st' := ⟨27, [(0, .ref 0 0 0 2 ((x4.set x3.toNat (({ v8 with fColumns := v10.2 } : T_impl_Table)))).length false), (5, I x3), (24, I v10.1), (25, I v14.1)], [some ⟨0, dL ((((x4.set x3.toNat (({ v8 with fColumns := v10.2 } : T_impl_Table)))).set x3.toNat (({ v12 with fRows := v14.2 } : T_impl_Table))))⟩, some ⟨2, []⟩, some ⟨2, []⟩]⟩) [0, 5, 24, 25] (by kernel_rfl)) ?_
  refine opsP_ren (st' := ⟨27, [(0, .ref 0 0 0 2 ((((x4.set x3.toNat (({ v8 with fColumns := v10.2 } : T_impl_Table)))).set x3.toNat (({ v12 with fRows := v14.2 } : T_impl_Table)))).length false), (5, I x3), (24, I v10.1), (25, I v14.1)], [some ⟨0, dL ((((x4.set x3.toNat (({ v8 with fColumns := v10.2 } : T_impl_Table)))).set x3.toNat (({ v12 with fRows := v14.2 } : T_impl_Table))))⟩, some ⟨2, []⟩, some ⟨2, []⟩]⟩) 0 ((((x4.set x3.toNat (({ v8 with fColumns := v10.2 } : T_impl_Table)))).set x3.toNat (({ v12 with fRows := v14.2 } : T_impl_Table)))).length (renC (ren_ref (List.length_set ..).symm) (renC trivial (renC trivial (renC trivial renC0)))) (by kernel_rfl) ?_
  refine ve 1 27 [(0, .ref 0 0 0 2 ((((x4.set x3.toNat (({ v8 with fColumns := v10.2 } : T_impl_Table)))).set x3.toNat (({ v12 with fRows := v14.2 } : T_impl_Table)))).length false), (1, I v14.1), (5, I x3)] [some ⟨0, dL ((((x4.set x3.toNat (({ v8 with fColumns := v10.2 } : T_impl_Table)))).set x3.toNat (({ v12 with fRows := v14.2 } : T_impl_Table))))⟩, some ⟨2, []⟩, some ⟨2, []⟩] ?_
  refine rve 27 [(0, .ref 0 0 0 2 ((((x4.set x3.toNat (({ v8 with fColumns := v10.2 } : T_impl_Table)))).set x3.toNat (({ v12 with fRows := v14.2 } : T_impl_Table)))).length false), (1, I v14.1), (5, I ((w64 (x3 + 1))))] [some ⟨0, dL ((((x4.set x3.toNat (({ v8 with fColumns := v10.2 } : T_impl_Table)))).set x3.toNat (({ v12 with fRows := v14.2 } : T_impl_Table))))⟩, some ⟨2, []⟩, some ⟨2, []⟩] ?_
  exact ⟨(f5, v14.1, (w64 (x3 + 1)), (((x4.set x3.toNat (({ v8 with fColumns := v10.2 } : T_impl_Table)))).set x3.toNat (({ v12 with fRows := v14.2 } : T_impl_Table)))), h, Nat.lt_succ_self _, (Imp.to (st' := ⟨27, [(0, .ref 0 0 0 2 ((((x4.set x3.toNat (({ v8 with fColumns := v10.2 } : T_impl_Table)))).set x3.toNat (({ v12 with fRows := v14.2 } : T_impl_Table)))).length false), (1, I v14.1), (5, I ((w64 (x3 + 1))))], [some ⟨0, dL ((((x4.set x3.toNat (({ v8 with fColumns := v10.2 } : T_impl_Table)))).set x3.toNat (({ v12 with fRows := v14.2 } : T_impl_Table))))⟩, some ⟨2, []⟩, some ⟨2, []⟩]⟩) [0, 1, 5] (by kernel_rfl)).trans ((Imp.truncS (st' := ⟨27, [(0, .ref 0 0 0 2 ((((x4.set x3.toNat (({ v8 with fColumns := v10.2 } : T_impl_Table)))).set x3.toNat (({ v12 with fRows := v14.2 } : T_impl_Table)))).length false), (1, I v14.1), (5, I ((w64 (x3 + 1))))], [some ⟨0, dL ((((x4.set x3.toNat (({ v8 with fColumns := v10.2 } : T_impl_Table)))).set x3.toNat (({ v12 with fRows := v14.2 } : T_impl_Table))))⟩]⟩) 1 (fun _ _ => by decide) (by kernel_rfl) (allBelow_mem (by exact (And.intro rfl (And.intro rfl (And.intro rfl trivial))))) (by exact (And.intro (dL_below _ _) trivial)) (by kernel_rfl)).trans (Imp.to [0, 1, 5] (by kernel_rfl)))⟩
  refine pwp_exit ?_
  refine srve 27 [(4, I x2)] [some ⟨0, dL x4⟩] ?_
  have h := si h
  subst h
  exact pwp_ret ⟨.inr rfl, 0, by kernel_rfl, by kernel_rfl⟩
def laws_szTable (a0 : T_laws_Table) (a1 : Int) : Option Int := (laws_szColumnS a0.fColumns a1).bind fun v1 => bif (decide (v1 < 0)) then some (-1) else (laws_szValueSS a0.fRows v1).bind fun v4 => bif (decide (v4 < 0)) then some (-1) else some v4
theorem ok_laws_szTable {a0 : T_laws_Table} {a1 : Int} {y : Int} (h : laws_szTable a0 a1 = some y) : OK Try.prog 35 [E a0, I a1] (I y) := by
  refine OK_of_pwp τ_ok Try.func35 rfl (by kernel_rfl) rfl fun Γ hX => ?_
  unfold laws_szTable at h
  refine srve 18 [(1, I a1), (2, .fptr (Enc.cells a0) 0)] [] ?_
  refine srv 3 18 [(2, .fptr (Enc.cells a0) 0), (6, A a0.fColumns), (7, I a1)] [] ?_
  obtain ⟨v1, hv2, h⟩ := bindS h
  refine opsP_callF τ 8 (ok_laws_szColumnS hv2) (FzTo.frz rfl) rfl (by kernel_rfl) ?_
  refine ve 1 18 [(1, I v1), (2, .fptr (Enc.cells a0) 0)] [] ?_
  refine pwp_seq ?_
  refine srve 18 [(1, I v1), (2, .fptr (Enc.cells a0) 0), (10, B ((decide (v1 < 0))))] [] ?_
  refine pc h (fun h => ?_) (fun h => ?_)
  refine srve 18 [(4, I (-1))] [] ?_
  cases h
  exact pwp_ret rz
  refine pwp_skip ?_
  refine srv 3 18 [(12, A a0.fRows), (13, I v1)] [] ?_
  obtain ⟨v4, hv5, h⟩ := bindS h
  refine opsP_callF τ 14 (ok_laws_szValueSS hv5) (FzTo.frz rfl) rfl (by kernel_rfl) ?_
  refine ve 1 18 [(1, I v4)] [] ?_
  refine pwp_seq ?_
  refine srve 18 [(1, I v4), (16, B ((decide (v4 < 0))))] [] ?_
  refine pc h (fun h => ?_) (fun h => ?_)
  refine srve 18 [(4, I (-1))] [] ?_
  cases h
  exact pwp_ret rz
  refine pwp_skip ?_
  refine srve 18 [(4, I v4)] [] ?_
  cases h
  exact pwp_ret rz
def laws_szStep (a0 : T_laws_Step) (a1 : Int) : Option Int := (laws_szPartS a0.fE a1).bind fun v1 => bif (decide (v1 < 0)) then some (-1) else (laws_szIntS a0.fList v1).bind fun v4 => bif (decide (v4 < 0)) then some (-1) else some v4
theorem ok_laws_szStep {a0 : T_laws_Step} {a1 : Int} {y : Int} (h : laws_szStep a0 a1 = some y) : OK Try.prog 36 [E a0, I a1] (I y) := by
  refine OK_of_pwp τ_ok Try.func36 rfl (by kernel_rfl) rfl fun Γ hX => ?_
  unfold laws_szStep at h
  refine srve 18 [(1, I a1), (2, .fptr (Enc.cells a0) 0)] [] ?_
  refine srv 3 18 [(2, .fptr (Enc.cells a0) 0), (6, A a0.fE), (7, I a1)] [] ?_
  obtain ⟨v1, hv2, h⟩ := bindS h
  refine opsP_callF τ 8 (ok_laws_szPartS hv2) (FzTo.frz rfl) rfl (by kernel_rfl) ?_
  refine ve 1 18 [(1, I v1), (2, .fptr (Enc.cells a0) 0)] [] ?_
  refine pwp_seq ?_
  refine srve 18 [(1, I v1), (2, .fptr (Enc.cells a0) 0), (10, B ((decide (v1 < 0))))] [] ?_
  refine pc h (fun h => ?_) (fun h => ?_)
  refine srve 18 [(4, I (-1))] [] ?_
  cases h
  exact pwp_ret rz
  refine pwp_skip ?_
  refine srv 3 18 [(12, A a0.fList), (13, I v1)] [] ?_
  obtain ⟨v4, hv5, h⟩ := bindS h
  refine opsP_callF τ 14 (ok_laws_szIntS hv5) (FzTo.frz rfl) rfl (by kernel_rfl) ?_
  refine ve 1 18 [(1, I v4)] [] ?_
  refine pwp_seq ?_
  refine srve 18 [(1, I v4), (16, B ((decide (v4 < 0))))] [] ?_
  refine pc h (fun h => ?_) (fun h => ?_)
  refine srve 18 [(4, I (-1))] [] ?_
  cases h
  exact pwp_ret rz
  refine pwp_skip ?_
  refine srve 18 [(4, I v4)] [] ?_
  cases h
  exact pwp_ret rz
def laws_eqTable (a0 : T_impl_Table) (a1 : T_impl_Table) : Option Bool := (laws_eqColumnS a0.fColumns a1.fColumns).bind fun v1 => bif (!v1) then some false else (laws_eqValueSS a0.fRows a1.fRows).bind fun v4 => bif (!v4) then some false else some true
theorem ok_laws_eqTable {a0 : T_impl_Table} {a1 : T_impl_Table} {y : Bool} (h : laws_eqTable a0 a1 = some y) : OK Try.prog 44 [E a0, E a1] (B y) := by
  refine OK_of_pwp τ_ok Try.func44 rfl (by kernel_rfl) rfl fun Γ hX => ?_
  unfold laws_eqTable at h
  refine srve 17 [(2, .fptr (Enc.cells a0) 0), (3, .fptr (Enc.cells a1) 0)] [] ?_
  refine pwp_seq ?_
  refine srv 4 17 [(2, .fptr (Enc.cells a0) 0), (3, .fptr (Enc.cells a1) 0), (6, A a0.fColumns), (8, A a1.fColumns)] [] ?_
  obtain ⟨v1, hv2, h⟩ := bindS h
  refine opsP_callF τ 9 (ok_laws_eqColumnS hv2) (FzTo.frz rfl) rfl (by kernel_rfl) ?_
  refine ve 1 17 [(2, .fptr (Enc.cells a0) 0), (3, .fptr (Enc.cells a1) 0), (10, B ((!v1)))] [] ?_
  refine pc h (fun h => ?_) (fun h => ?_)
  refine srve 17 [(4, B false)] [] ?_
  cases h
  exact pwp_ret rz
  refine pwp_skip ?_
  refine pwp_seq ?_
  refine srv 4 17 [(12, A a0.fRows), (14, A a1.fRows)] [] ?_
  obtain ⟨v4, hv5, h⟩ := bindS h
  refine opsP_callF τ 15 (ok_laws_eqValueSS hv5) (FzTo.frz rfl) rfl (by kernel_rfl) ?_
  refine ve 1 17 [(16, B ((!v4)))] [] ?_
  refine pc h (fun h => ?_) (fun h => ?_)
  refine srve 17 [(4, B false)] [] ?_
  cases h
  exact pwp_ret rz
  refine pwp_skip ?_
  refine srve 17 [(4, B true)] [] ?_
  cases h
  exact pwp_ret rz
def laws_eqStep (a0 : T_impl_Step) (a1 : T_impl_Step) : Option Bool := bif (!(a0.fKind == a1.fKind)) then some false else bif (!(a0.fA == a1.fA)) then some false else bif (!(a0.fB == a1.fB)) then some false else bif (!(a0.fN == a1.fN)) then some false else (laws_eqPartS a0.fE a1.fE).bind fun v5 => bif (!v5) then some false else (laws_eqIntS a0.fList a1.fList).bind fun v8 => bif (!v8) then some false else some true
theorem ok_laws_eqStep {a0 : T_impl_Step} {a1 : T_impl_Step} {y : Bool} (h : laws_eqStep a0 a1 = some y) : OK Try.prog 45 [E a0, E a1] (B y) := by
  refine OK_of_pwp τ_ok Try.func45 rfl (by kernel_rfl) rfl fun Γ hX => ?_
  unfold laws_eqStep at h
  refine srve 37 [(2, .fptr (Enc.cells a0) 0), (3, .fptr (Enc.cells a1) 0)] [] ?_
  refine pwp_seq ?_
  refine srve 37 [(2, .fptr (Enc.cells a0) 0), (3, .fptr (Enc.cells a1) 0), (9, B ((!(a0.fKind == a1.fKind))))] [] ?_
  refine pc h (fun h => ?_) (fun h => ?_)
  refine srve 37 [(4, B false)] [] ?_
  cases h
  exact pwp_ret rz
  refine pwp_skip ?_
  refine pwp_seq ?_
  refine srve 37 [(2, .fptr (Enc.cells a0) 0), (3, .fptr (Enc.cells a1) 0), (14, B ((!(a0.fA == a1.fA))))] [] ?_
  refine pc h (fun h => ?_) (fun h => ?_)
  refine srve 37 [(4, B false)] [] ?_
  cases h
  exact pwp_ret rz
  refine pwp_skip ?_
  refine pwp_seq ?_
  refine srve 37 [(2, .fptr (Enc.cells a0) 0), (3, .fptr (Enc.cells a1) 0), (19, B ((!(a0.fB == a1.fB))))] [] ?_
  refine pc h (fun h => ?_) (fun h => ?_)
  refine srve 37 [(4, B false)] [] ?_
  cases h
  exact pwp_ret rz
  refine pwp_skip ?_
  refine pwp_seq ?_
  refine srve 37 [(2, .fptr (Enc.cells a0) 0), (3, .fptr (Enc.cells a1) 0), (24, B ((!(a0.fN == a1.fN))))] [] ?_
  refine pc h (fun h => ?_) (fun h => ?_)
  refine srve 37 [(4, B false)] [] ?_
  cases h
  exact pwp_ret rz
  refine pwp_skip ?_
  refine pwp_seq ?_
  refine srv 4 37 [(2, .fptr (Enc.cells a0) 0), (3, .fptr (Enc.cells a1) 0), (26, A a0.fE), (28, A a1.fE)] [] ?_
  obtain ⟨v5, hv6, h⟩ := bindS h
  refine opsP_callF τ 29 (ok_laws_eqPartS hv6) (FzTo.frz rfl) rfl (by kernel_rfl) ?_
  refine ve 1 37 [(2, .fptr (Enc.cells a0) 0), (3, .fptr (Enc.cells a1) 0), (30, B ((!v5)))] [] ?_
  refine pc h (fun h => ?_) (fun h => ?_)
  refine srve 37 [(4, B false)] [] ?_
  cases h
  exact pwp_ret rz
  refine pwp_skip ?_
  refine pwp_seq ?_
  refine srv 4 37 [(32, A a0.fList), (34, A a1.fList)] [] ?_
  obtain ⟨v8, hv9, h⟩ := bindS h
  refine opsP_callF τ 35 (ok_laws_eqIntS hv9) (FzTo.frz rfl) rfl (by kernel_rfl) ?_
  refine ve 1 37 [(36, B ((!v8)))] [] ?_
  refine pc h (fun h => ?_) (fun h => ?_)
  refine srve 37 [(4, B false)] [] ?_
  cases h
  exact pwp_ret rz
  refine pwp_skip ?_
  refine srve 37 [(4, B true)] [] ?_
  cases h
  exact pwp_ret rz
def spec_l6Columns_l1 (a2 : T_impl_Step) (v16 : List T_impl_Column) : Nat → Int → (List T_impl_Column) → Option ((List T_impl_Column) × Bool)
  | 0, _, _ => none
  | f26 + 1, x24, x25 => bif (decide (x24 < ((a2.fList.length : Int)))) then (getI a2.fList x24).bind fun v29 => (spec_l1In v29 0 ((w64 (((v16.length : Int)) - 1)))).bind fun v31 => bif (!v31) then some (([] : List T_impl_Column), false) else (getI a2.fList x24).bind fun v34 => (getI v16 v34).bind fun v36 => (app x25 (([v36] : List T_impl_Column))).bind fun v38 => (spec_l6Columns_l1 a2 v16 f26) ((w64 (x24 + 1))) v38 else some (x25, (decide (((x25.length : Int)) ≤ 4)))
def spec_l6Columns_j3 (x53 : Int) (K56 : Int → (List T_impl_Column) → Option ((List T_impl_Column) × Bool)) (x58 : List T_impl_Column) : Option ((List T_impl_Column) × Bool) := K56 ((w64 (x53 + 1))) x58
def spec_l6Columns_l2 (a1 : List (List T_impl_Column)) (a2 : T_impl_Step) : Nat → Int → (List T_impl_Column) → Option ((List T_impl_Column) × Bool)
  | 0, _, _ => none
  | f55 + 1, x53, x54 => bif (decide (x53 < ((x54.length : Int)))) then (getI x54 x53).bind fun v59 => (getI a1 a2.fB).bind fun v61 => (getI v61 x53).bind fun v63 => bif (!(v59.fKind == v63.fKind)) then some (([] : List T_impl_Column), false) else (getI x54 x53).bind fun v66 => bif v66.fEmpty then (getI x54 x53).bind fun v68 => spec_l6Columns_j3 x53 (spec_l6Columns_l2 a1 a2 f55) ((x54.set x53.toNat (({ v68 with fEmpty := true } : T_impl_Column)))) else (getI a1 a2.fB).bind fun v70 => (getI v70 x53).bind fun v72 => (getI x54 x53).bind fun v74 => spec_l6Columns_j3 x53 (spec_l6Columns_l2 a1 a2 f55) ((x54.set x53.toNat (({ v74 with fEmpty := v72.fEmpty } : T_impl_Column)))) else some (x54, true)
def spec_l6Columns_j0 (a1 : List (List T_impl_Column)) (a2 : T_impl_Step) (x12 : Bool) : Option ((List T_impl_Column) × Bool) := bif x12 then some (([] : List T_impl_Column), false) else (getI a1 a2.fA).bind fun v14 => (app (([] : List T_impl_Column)) v14).bind fun v16 => bif (a2.fKind == 2) then (spec_ExprKind v16 a2.fE).bind fun v19 => some (v16, (v19 == 3)) else bif (a2.fKind == 3) then spec_l6Columns_l1 a2 v16 FUEL 0 (([] : List T_impl_Column)) else bif (a2.fKind == 4) then (getI a1 a2.fB).bind fun v41 => (app v16 v41).bind fun v43 => bif (decide (((v43.length : Int)) ≤ 4)) then (spec_ExprKind v43 a2.fE).bind fun v45 => some (v43, (v45 == 3)) else some (v43, false) else bif (a2.fKind == 5) then (getI a1 a2.fB).bind fun v49 => bif (!(((v16.length : Int)) == ((v49.length : Int)))) then some (([] : List T_impl_Column), false) else spec_l6Columns_l2 a1 a2 FUEL 0 v16 else bif (a2.fKind == 6) then some (v16, true) else some (([] : List T_impl_Column), false)
def spec_l6Columns (a0 : List T_impl_Table) (a1 : List (List T_impl_Column)) (a2 : T_impl_Step) : Option ((List T_impl_Column) × Bool) := (spec_l6Fields a2).bind fun v1 => bif (!v1) then some (([] : List T_impl_Column), false) else bif (a2.fKind == 1) then (spec_l1In a2.fN 0 ((w64 (((a0.length : Int)) - 1)))).bind fun v5 => bif (!v5) then some (([] : List T_impl_Column), false) else (getI a0 a2.fN).bind fun v8 => (app (([] : List T_impl_Column)) v8.fColumns).bind fun v10 => some (v10, true) else (spec_l1In a2.fA 0 ((w64 (((a1.length : Int)) - 1)))).bind fun v78 => bif (!v78) then spec_l6Columns_j0 a1 a2 true else (spec_l1In a2.fB 0 ((w64 (((a1.length : Int)) - 1)))).bind fun v80 => spec_l6Columns_j0 a1 a2 ((!v80))
theorem ok_spec_l6Columns {a0 : List T_impl_Table} {a1 : List (List T_impl_Column)} {a2 : T_impl_Step} {y : (List T_impl_Column) × Bool} (h : spec_l6Columns a0 a1 a2 = some y) : OK Try.prog 81 [A a0, A a1, E a2] (.tup [O y.1, B y.2]) := by
  refine OK_of_pwp τ_ok Try.func81 rfl (by kernel_rfl) rfl fun Γ hX => ?_
  unfold spec_l6Columns at h
  refine srve 185 [(0, A a0), (1, A a1), (5, .fptr (Enc.cells a2) 0)] [] ?_
  refine pwp_seq ?_
  refine srv 1 185 [(0, A a0), (1, A a1), (5, .fptr (Enc.cells a2) 0), (13, E a2)] [] ?_
  obtain ⟨v1, hv2, h⟩ := bindS h
  refine opsP_callF τ 14 (ok_spec_l6Fields hv2) (FzTo.frz rfl) rfl (by kernel_rfl) ?_
  refine ve 1 185 [(0, A a0), (1, A a1), (5, .fptr (Enc.cells a2) 0), (15, B ((!v1)))] [] ?_
  refine pc h (fun h => ?_) (fun h => ?_)
  refine srve 185 [(6, .arr 2 0 (eL ([] : List T_impl_Column)) true), (7, B false)] [] ?_
  refine pwp_imp (Imp.to (st' := ⟨185, [(6, .arr 2 0 (eL ([] : List T_impl_Column)) true), (7, B false)], []⟩) [6, 7] (by kernel_rfl)) ?_
  refine pwp_imp (Imp.thawS (st' := ⟨185, [(6, .ref 0 0 0 2 (([] : List T_impl_Column)).length false), (7, B false)], [some ⟨0, eL (([] : List T_impl_Column))⟩]⟩) 6 [6, 7] (by kernel_rfl)) ?_
  have h := si h
  subst h
  exact pwp_ret (rt (.tup [.ref 0 0 0 2 (([] : List T_impl_Column)).length false, B false]) (OutP.tup (OutL.cons (OutP.list (v := 0) (by kernel_rfl)) (OutL.cons (OutP.frz (by kernel_rfl)) (OutL.nil _)))))
  refine pwp_skip ?_
  refine pwp_seq ?_
  refine srve 185 [(0, A a0), (1, A a1), (5, .fptr (Enc.cells a2) 0), (19, B ((a2.fKind == 1)))] [] ?_
  refine pc h (fun h => ?_) (fun h => ?_)
  refine pwp_seq ?_
  refine srv 5 185 [(0, A a0), (5, .fptr (Enc.cells a2) 0), (21, I a2.fN), (24, I ((w64 (((a0.length : Int)) - 1))))] [] ?_
  obtain ⟨v5, hv6, h⟩ := bindS h
  refine opsP_callF τ 25 (ok_spec_l1In hv6) (FzTo.frz rfl) rfl (by kernel_rfl) ?_
  refine ve 1 185 [(0, A a0), (5, .fptr (Enc.cells a2) 0), (26, B ((!v5)))] [] ?_
  refine pc h (fun h => ?_) (fun h => ?_)
  refine srve 185 [(6, .arr 2 0 (eL ([] : List T_impl_Column)) true), (7, B false)] [] ?_
  refine pwp_imp (Imp.to (st' := ⟨185, [(6, .arr 2 0 (eL ([] : List T_impl_Column)) true), (7, B false)], []⟩) [6, 7] (by kernel_rfl)) ?_
  refine pwp_imp (Imp.thawS (st' := ⟨185, [(6, .ref 0 0 0 2 (([] : List T_impl_Column)).length false), (7, B false)], [some ⟨0, eL (([] : List T_impl_Column))⟩]⟩) 6 [6, 7] (by kernel_rfl)) ?_
  have h := si h
  subst h
  exact pwp_ret (rt (.tup [.ref 0 0 0 2 (([] : List T_impl_Column)).length false, B false]) (OutP.tup (OutL.cons (OutP.list (v := 0) (by kernel_rfl)) (OutL.cons (OutP.frz (by kernel_rfl)) (OutL.nil _)))))
  refine pwp_skip ?_
  refine srv 4 185 [(28, .arr 2 0 (eL ([] : List T_impl_Column)) true), (29, A a0), (31, I a2.fN)] [] ?_
  obtain ⟨v8, hv9, h⟩ := bindS h
  refine opsP_idx τ_ok 32 hv9 (by kernel_rfl) ?_
  refine v 2 185 [(28, .arr 2 0 (eL ([] : List T_impl_Column)) true), (34, A v8.fColumns)] [] ?_
  refine opsP_thaw 28 2 (by kernel_rfl) ?_
  obtain ⟨v10, hv11, h⟩ := bindS h
  refine opsP_app τ_ok 35 0 0 (fun b hb => absurd hb (hX b)) hv11 (by kernel_rfl) ?_
  refine ve 2 185 [(6, .ref 0 1 0 2 v10.length false), (7, B true)] [some ⟨1, eL v10⟩] ?_
  have h := si h
  subst h
  exact pwp_ret (rt (.tup [.ref 0 1 0 2 v10.length false, B true]) (OutP.tup (OutL.cons (OutP.list (v := 1) (by kernel_rfl)) (OutL.cons (OutP.frz (by kernel_rfl)) (OutL.nil _)))))
  refine pwp_skip ?_
  refine pwp_seq ?_
  refine pwp_seq ?_
  refine pwp_join (σ := Bool) (fun x12 => (⟨185, [(1, A a1), (5, .fptr (Enc.cells a2) 0), (51, B x12)], []⟩ : St)) (fun x12 => spec_l6Columns_j0 a1 a2 x12 = some y) ?_ ?_
  refine rv 5 185 [(1, A a1), (5, .fptr (Enc.cells a2) 0), (37, I a2.fA), (40, I ((w64 (((a1.length : Int)) - 1))))] [] ?_
  obtain ⟨v78, hv79, h⟩ := bindS h
  refine opsP_callF τ 41 (ok_spec_l1In hv79) (FzTo.frz rfl) rfl (by kernel_rfl) ?_
  refine v 2 185 [(1, A a1), (5, .fptr (Enc.cells a2) 0), (43, B ((!v78)))] [] ?_
  rcases fk ((!v78)) with hc82 | hc82
  replace h := bT hc82 h
  rw [hc82]
  refine ve 8 185 [(1, A a1), (5, .fptr (Enc.cells a2) 0), (51, B true)] [] ?_
  exact ⟨true, h, (Imp.to (st' := ⟨185, [(1, A a1), (5, .fptr (Enc.cells a2) 0), (51, B true)], []⟩) [1, 5, 51] (by kernel_rfl)).trans (Imp.to [1, 5, 51] (by kernel_rfl))⟩
  replace h := bF hc82 h
  rw [hc82]
  refine v 5 185 [(1, A a1), (5, .fptr (Enc.cells a2) 0), (43, B false), (45, I a2.fB), (48, I ((w64 (((a1.length : Int)) - 1))))] [] ?_
  obtain ⟨v80, hv81, h⟩ := bindS h
  refine opsP_callF τ 49 (ok_spec_l1In hv81) (FzTo.frz rfl) rfl (by kernel_rfl) ?_
  refine ve 2 185 [(1, A a1), (5, .fptr (Enc.cells a2) 0), (51, B ((!v80)))] [] ?_
  exact ⟨(!v80), h, (Imp.to (st' := ⟨185, [(1, A a1), (5, .fptr (Enc.cells a2) 0), (51, B ((!v80)))], []⟩) [1, 5, 51] (by kernel_rfl)).trans (Imp.to [1, 5, 51] (by kernel_rfl))⟩
  rintro x12 h
  unfold spec_l6Columns_j0 at h
  refine pc h (fun h => ?_) (fun h => ?_)
  refine srve 185 [(6, .arr 2 0 (eL ([] : List T_impl_Column)) true), (7, B false)] [] ?_
  refine pwp_imp (Imp.to (st' := ⟨185, [(6, .arr 2 0 (eL ([] : List T_impl_Column)) true), (7, B false)], []⟩) [6, 7] (by kernel_rfl)) ?_
  refine pwp_imp (Imp.thawS (st' := ⟨185, [(6, .ref 0 0 0 2 (([] : List T_impl_Column)).length false), (7, B false)], [some ⟨0, eL (([] : List T_impl_Column))⟩]⟩) 6 [6, 7] (by kernel_rfl)) ?_
  have h := si h
  subst h
  exact pwp_ret (rt (.tup [.ref 0 0 0 2 (([] : List T_impl_Column)).length false, B false]) (OutP.tup (OutL.cons (OutP.list (v := 0) (by kernel_rfl)) (OutL.cons (OutP.frz (by kernel_rfl)) (OutL.nil _)))))
  refine pwp_skip ?_
  refine srv 4 185 [(1, A a1), (5, .fptr (Enc.cells a2) 0), (53, .arr 2 0 (eL ([] : List T_impl_Column)) true), (54, A a1), (56, I a2.fA)] [] ?_
  obtain ⟨v14, hv15, h⟩ := bindS h
  refine opsP_idx τ_ok 57 hv15 (by kernel_rfl) ?_
  refine v 1 185 [(1, A a1), (5, .fptr (Enc.cells a2) 0), (53, .arr 2 0 (eL ([] : List T_impl_Column)) true), (58, A v14)] [] ?_
  refine opsP_thaw 53 2 (by kernel_rfl) ?_
  obtain ⟨v16, hv17, h⟩ := bindS h
  refine opsP_app τ_ok 59 0 0 (fun b hb => absurd hb (hX b)) hv17 (by kernel_rfl) ?_
  refine ve 1 185 [(1, A a1), (5, .fptr (Enc.cells a2) 0), (8, .ref 0 1 0 2 v16.length false)] [some ⟨1, eL v16⟩] ?_
  refine pwp_seq ?_
  refine srve 185 [(1, A a1), (5, .fptr (Enc.cells a2) 0), (8, .ref 0 1 0 2 v16.length false), (61, I a2.fKind)] [some ⟨1, eL v16⟩] ?_
  refine pwp_block ?_
  refine srve 185 [(1, A a1), (5, .fptr (Enc.cells a2) 0), (8, .ref 0 1 0 2 v16.length false), (61, I a2.fKind), (62, B ((a2.fKind == 2)))] [some ⟨1, eL v16⟩] ?_
  refine pc h (fun h => ?_) (fun h => ?_)
  refine srv 4 185 [(64, .ref 0 1 0 2 v16.length false), (65, .ref 0 1 0 2 v16.length false), (67, A a2.fE)] [some ⟨1, eL v16⟩] ?_
  obtain ⟨v19, hv20, h⟩ := bindS h
  refine opsP_callV (xs := [.ref 0 1 0 2 v16.length false, A a2.fE]) τ 68 (ok_spec_ExprKind hv20) (Blind.lit _) (FzTo.frz rfl) (by kernel_rfl) (ViewL.cons (View.whole (v := 1) v16 (by kernel_rfl) rfl) (ViewL.cons (View.frz rfl) (ViewL.nil _))) ?_
  refine ve 3 185 [(6, .ref 0 1 0 2 v16.length false), (7, B ((v19 == 3)))] [some ⟨1, eL v16⟩] ?_
  have h := si h
  subst h
  exact pwp_ret (rt (.tup [.ref 0 1 0 2 v16.length false, B ((v19 == 3))]) (OutP.tup (OutL.cons (OutP.list (v := 1) (by kernel_rfl)) (OutL.cons (OutP.frz (by kernel_rfl)) (OutL.nil _)))))
  refine srve 185 [(1, A a1), (5, .fptr (Enc.cells a2) 0), (8, .ref 0 1 0 2 v16.length false), (61, I a2.fKind), (70, B ((a2.fKind == 3)))] [some ⟨1, eL v16⟩] ?_
  refine pc h (fun h => ?_) (fun h => ?_)
  refine srve 185 [(5, .fptr (Enc.cells a2) 0), (8, .ref 0 1 0 2 v16.length false), (9, .arr 2 0 (eL ([] : List T_impl_Column)) true)] [some ⟨1, eL v16⟩] ?_
  refine pwp_seq ?_
  refine srve 185 [(5, .fptr (Enc.cells a2) 0), (8, .ref 0 1 0 2 v16.length false), (9, .arr 2 0 (eL ([] : List T_impl_Column)) true), (10, I 0)] [some ⟨1, eL v16⟩] ?_
  refine pwp_block ?_
  refine pwp_loop (ι := Nat × Int × (List T_impl_Column)) (fun (f26, x24, x25) => (⟨185, [(5, .fptr (Enc.cells a2) 0), (8, .ref 0 0 0 2 v16.length false), (9, .ref 1 0 0 2 x25.length false), (10, I x24)], [some ⟨0, eL v16⟩, some ⟨0, eL x25⟩]⟩ : St)) (fun (f26, x24, x25) => spec_l6Columns_l1 a2 v16 f26 x24 x25 = some y) (fun (f26, x24, x25) => f26) (FUEL, 0, ([] : List T_impl_Column)) h ((Imp.to (st' := ⟨185, [(5, .fptr (Enc.cells a2) 0), (8, .ref 0 1 0 2 v16.length false), (9, .arr 2 0 (eL ([] : List T_impl_Column)) true), (10, I 0)], [some ⟨1, eL v16⟩]⟩) [5, 8, 9, 10] (by kernel_rfl)).trans ((Imp.thawS (st' := ⟨185, [(5, .fptr (Enc.cells a2) 0), (8, .ref 0 1 0 2 v16.length false), (9, .ref 1 0 0 2 (([] : List T_impl_Column)).length false), (10, I 0)], [some ⟨1, eL v16⟩, some ⟨0, eL (([] : List T_impl_Column))⟩]⟩) 9 [5, 8, 9, 10] (by kernel_rfl)).trans ((Imp.reverS (st' := ⟨185, [(5, .fptr (Enc.cells a2) 0), (8, .ref 0 0 0 2 v16.length false), (9, .ref 1 0 0 2 (([] : List T_impl_Column)).length false), (10, I 0)], [some ⟨0, eL v16⟩, some ⟨0, eL (([] : List T_impl_Column))⟩]⟩) 0 1 (eL v16) [5, 8, 9, 10] (by kernel_rfl) (by exact (And.intro (eL_frz _) (And.intro (eL_frz _) trivial))) (by kernel_rfl)).trans (Imp.to [5, 8, 9, 10] (by kernel_rfl))))) ?_
  rintro ⟨f26, x24, x25⟩ h
  dsimp only at h ⊢
  rcases f26 with _ | f26
  cases h
  rw [spec_l6Columns_l1] at h
  refine pwp_seq ?_
  refine srve 185 [(5, .fptr (Enc.cells a2) 0), (8, .ref 0 0 0 2 v16.length false), (9, .ref 1 0 0 2 x25.length false), (10, I x24), (77, B ((decide (x24 < ((a2.fList.length : Int))))))] [some ⟨0, eL v16⟩, some ⟨0, eL x25⟩] ?_
  refine pc h (fun h => ?_) (fun h => ?_)
  refine pwp_skip ?_
  refine pwp_seq ?_
  refine pwp_block ?_
  refine pwp_seq ?_
  refine srv 3 185 [(5, .fptr (Enc.cells a2) 0), (8, .ref 0 0 0 2 v16.length false), (9, .ref 1 0 0 2 x25.length false), (10, I x24), (81, A a2.fList), (82, I x24)] [some ⟨0, eL v16⟩, some ⟨0, eL x25⟩] ?_
  obtain ⟨v29, hv30, h⟩ := bindS h
  refine opsP_idx τ_ok 83 hv30 (by kernel_rfl) ?_
  refine v 4 185 [(5, .fptr (Enc.cells a2) 0), (8, .ref 0 0 0 2 v16.length false), (9, .ref 1 0 0 2 x25.length false), (10, I x24), (84, I v29), (87, I ((w64 (((v16.length : Int)) - 1))))] [some ⟨0, eL v16⟩, some ⟨0, eL x25⟩] ?_
  obtain ⟨v31, hv32, h⟩ := bindS h
  refine opsP_callF τ 88 (ok_spec_l1In hv32) (FzTo.frz rfl) rfl (by kernel_rfl) ?_
  refine ve 1 185 [(5, .fptr (Enc.cells a2) 0), (8, .ref 0 0 0 2 v16.length false), (9, .ref 1 0 0 2 x25.length false), (10, I x24), (89, B ((!v31)))] [some ⟨0, eL v16⟩, some ⟨0, eL x25⟩] ?_
  refine pc h (fun h => ?_) (fun h => ?_)
  refine srve 185 [(6, .arr 2 0 (eL ([] : List T_impl_Column)) true), (7, B false)] [some ⟨0, eL v16⟩, some ⟨0, eL x25⟩] ?_
  refine pwp_imp (Imp.to (st' := ⟨185, [(6, .arr 2 0 (eL ([] : List T_impl_Column)) true), (7, B false)], [some ⟨0, eL v16⟩, some ⟨0, eL x25⟩]⟩) [6, 7] (by kernel_rfl)) ?_
  refine pwp_imp (Imp.thawS (st' := ⟨185, [(6, .ref 2 0 0 2 (([] : List T_impl_Column)).length false), (7, B false)], [some ⟨0, eL v16⟩, some ⟨0, eL x25⟩, some ⟨0, eL (([] : List T_impl_Column))⟩]⟩) 6 [6, 7] (by kernel_rfl)) ?_
  have h := si h
  subst h
  exact pwp_ret (rt (.tup [.ref 2 0 0 2 (([] : List T_impl_Column)).length false, B false]) (OutP.tup (OutL.cons (OutP.list (v := 0) (by kernel_rfl)) (OutL.cons (OutP.frz (by kernel_rfl)) (OutL.nil _)))))
  refine pwp_skip ?_
  refine rv 5 185 [(5, .fptr (Enc.cells a2) 0), (8, .ref 0 0 0 2 v16.length false), (10, I x24), (91, .ref 1 0 0 2 x25.length false), (92, .ref 0 0 0 2 v16.length false), (94, A a2.fList), (95, I x24)] [some ⟨0, eL v16⟩, some ⟨0, eL x25⟩] ?_
  obtain ⟨v34, hv35, h⟩ := bindS h
  refine opsP_idx τ_ok 96 hv35 (by kernel_rfl) ?_
  refine v 1 185 [(5, .fptr (Enc.cells a2) 0), (8, .ref 0 0 0 2 v16.length false), (10, I x24), (91, .ref 1 0 0 2 x25.length false), (92, .ref 0 0 0 2 v16.length false), (97, I v34)] [some ⟨0, eL v16⟩, some ⟨0, eL x25⟩] ?_
  obtain ⟨v36, hv37, h⟩ := bindS h
  refine opsP_idr τ_ok 98 0 0 v16.length hv37 rfl (by kernel_rfl) ?_
  refine opsP_lde (r := E v36) τ_ok 99 88 0 hv37 (by kernel_rfl) (by kernel_rfl) ?_
  refine v 1 185 [(5, .fptr (Enc.cells a2) 0), (8, .ref 0 0 0 2 v16.length false), (10, I x24), (91, .ref 1 0 0 2 x25.length false), (100, .arr 2 (([v36] : List T_impl_Column)).length (eL ([v36] : List T_impl_Column)) true)] [some ⟨0, eL v16⟩, some ⟨0, eL x25⟩] ?_
  obtain ⟨v38, hv39, h⟩ := bindS h
  refine opsP_app τ_ok 101 1 0 (fun b hb => absurd hb (hX b)) hv39 (by kernel_rfl) ?_
  refine ve 1 185 [(5, .fptr (Enc.cells a2) 0), (8, .ref 0 0 0 2 v16.length false), (9, .ref 1 1 0 2 v38.length false), (10, I x24)] [some ⟨0, eL v16⟩, some ⟨1, eL v38⟩] ?_
  refine rve 185 [(5, .fptr (Enc.cells a2) 0), (8, .ref 0 0 0 2 v16.length false), (9, .ref 1 1 0 2 v38.length false), (10, I ((w64 (x24 + 1))))] [some ⟨0, eL v16⟩, some ⟨1, eL v38⟩] ?_
  exact ⟨(f26, (w64 (x24 + 1)), v38), h, Nat.lt_succ_self _, (Imp.to (st' := ⟨185, [(5, .fptr (Enc.cells a2) 0), (8, .ref 0 0 0 2 v16.length false), (9, .ref 1 1 0 2 v38.length false), (10, I ((w64 (x24 + 1))))], [some ⟨0, eL v16⟩, some ⟨1, eL v38⟩]⟩) [5, 8, 9, 10] (by kernel_rfl)).trans ((Imp.reverS (st' := ⟨185, [(5, .fptr (Enc.cells a2) 0), (8, .ref 0 0 0 2 v16.length false), (9, .ref 1 0 0 2 v38.length false), (10, I ((w64 (x24 + 1))))], [some ⟨0, eL v16⟩, some ⟨0, eL v38⟩]⟩) 1 1 (eL v38) [5, 8, 9, 10] (by kernel_rfl) (by exact (And.intro (eL_frz _) (And.intro (eL_frz _) trivial))) (by kernel_rfl)).trans (Imp.to [5, 8, 9, 10] (by kernel_rfl)))⟩
  refine pwp_exit ?_
  refine srve 185 [(6, .ref 1 0 0 2 x25.length false), (7, B ((decide (((x25.length : Int)) ≤ 4))))] [some ⟨0, eL v16⟩, some ⟨0, eL x25⟩] ?_
  have h := si h
  subst h
  exact pwp_ret (rt (.tup [.ref 1 0 0 2 x25.length false, B ((decide (((x25.length : Int)) ≤ 4)))]) (OutP.tup (OutL.cons (OutP.list (v := 0) (by kernel_rfl)) (OutL.cons (OutP.frz (by kernel_rfl)) (OutL.nil _)))))
  refine srve 185 [(1, A a1), (5, .fptr (Enc.cells a2) 0), (8, .ref 0 1 0 2 v16.length false), (61, I a2.fKind), (106, B ((a2.fKind == 4)))] [some ⟨1, eL v16⟩] ?_
  refine pc h (fun h => ?_) (fun h => ?_)
  refine srv 4 185 [(5, .fptr (Enc.cells a2) 0), (108, .ref 0 1 0 2 v16.length false), (109, A a1), (111, I a2.fB)] [some ⟨1, eL v16⟩] ?_
  obtain ⟨v41, hv42, h⟩ := bindS h
  refine opsP_idx τ_ok 112 hv42 (by kernel_rfl) ?_
  refine v 1 185 [(5, .fptr (Enc.cells a2) 0), (108, .ref 0 1 0 2 v16.length false), (113, A v41)] [some ⟨1, eL v16⟩] ?_
  obtain ⟨v43, hv44, h⟩ := bindS h
  refine opsP_app τ_ok 114 0 1 (fun b hb => absurd hb (hX b)) hv44 (by kernel_rfl) ?_
  refine ve 1 185 [(5, .fptr (Enc.cells a2) 0), (11, .ref 0 2 0 2 v43.length false)] [some ⟨2, eL v43⟩] ?_
  refine srv 5 185 [(5, .fptr (Enc.cells a2) 0), (11, .ref 0 2 0 2 v43.length false), (115, .ref 0 2 0 2 v43.length false), (119, B ((decide (((v43.length : Int)) ≤ 4))))] [some ⟨2, eL v43⟩] ?_
  rcases fk ((decide (((v43.length : Int)) ≤ 4))) with hc47 | hc47
  replace h := bT hc47 h
  rw [hc47]
  refine v 3 185 [(115, .ref 0 2 0 2 v43.length false), (119, B true), (120, .ref 0 2 0 2 v43.length false), (122, A a2.fE)] [some ⟨2, eL v43⟩] ?_
  obtain ⟨v45, hv46, h⟩ := bindS h
  refine opsP_callV (xs := [.ref 0 2 0 2 v43.length false, A a2.fE]) τ 123 (ok_spec_ExprKind hv46) (Blind.lit _) (FzTo.frz rfl) (by kernel_rfl) (ViewL.cons (View.whole (v := 2) v43 (by kernel_rfl) rfl) (ViewL.cons (View.frz rfl) (ViewL.nil _))) ?_
  refine ve 4 185 [(6, .ref 0 2 0 2 v43.length false), (7, B ((v45 == 3)))] [some ⟨2, eL v43⟩] ?_
  have h := si h
  subst h
  exact pwp_ret (rt (.tup [.ref 0 2 0 2 v43.length false, B ((v45 == 3))]) (OutP.tup (OutL.cons (OutP.list (v := 2) (by kernel_rfl)) (OutL.cons (OutP.frz (by kernel_rfl)) (OutL.nil _)))))
  replace h := bF hc47 h
  rw [hc47]
  refine ve 8 185 [(6, .ref 0 2 0 2 v43.length false), (7, B false)] [some ⟨2, eL v43⟩] ?_
  have h := si h
  subst h
  exact pwp_ret (rt (.tup [.ref 0 2 0 2 v43.length false, B false]) (OutP.tup (OutL.cons (OutP.list (v := 2) (by kernel_rfl)) (OutL.cons (OutP.frz (by kernel_rfl)) (OutL.nil _)))))
  refine srve 185 [(1, A a1), (5, .fptr (Enc.cells a2) 0), (8, .ref 0 1 0 2 v16.length false), (61, I a2.fKind), (126, B ((a2.fKind == 5)))] [some ⟨1, eL v16⟩] ?_
  refine pc h (fun h => ?_) (fun h => ?_)
  refine pwp_seq ?_
  refine srv 5 185 [(1, A a1), (5, .fptr (Enc.cells a2) 0), (8, .ref 0 1 0 2 v16.length false), (129, I ((v16.length : Int))), (130, A a1), (132, I a2.fB)] [some ⟨1, eL v16⟩] ?_
  obtain ⟨v49, hv50, h⟩ := bindS h
  refine opsP_idx τ_ok 133 hv50 (by kernel_rfl) ?_
  refine ve 3 185 [(1, A a1), (5, .fptr (Enc.cells a2) 0), (8, .ref 0 1 0 2 v16.length false), (136, B ((!(((v16.length : Int)) == ((v49.length : Int))))))] [some ⟨1, eL v16⟩] ?_
  refine pc h (fun h => ?_) (fun h => ?_)
  refine srve 185 [(6, .arr 2 0 (eL ([] : List T_impl_Column)) true), (7, B false)] [some ⟨1, eL v16⟩] ?_
  refine pwp_imp (Imp.to (st' := ⟨185, [(6, .arr 2 0 (eL ([] : List T_impl_Column)) true), (7, B false)], [some ⟨1, eL v16⟩]⟩) [6, 7] (by kernel_rfl)) ?_
  refine pwp_imp (Imp.thawS (st' := ⟨185, [(6, .ref 1 0 0 2 (([] : List T_impl_Column)).length false), (7, B false)], [some ⟨1, eL v16⟩, some ⟨0, eL (([] : List T_impl_Column))⟩]⟩) 6 [6, 7] (by kernel_rfl)) ?_
  have h := si h
  subst h
  exact pwp_ret (rt (.tup [.ref 1 0 0 2 (([] : List T_impl_Column)).length false, B false]) (OutP.tup (OutL.cons (OutP.list (v := 0) (by kernel_rfl)) (OutL.cons (OutP.frz (by kernel_rfl)) (OutL.nil _)))))
  refine pwp_skip ?_
  refine pwp_seq ?_
  refine srve 185 [(1, A a1), (5, .fptr (Enc.cells a2) 0), (8, .ref 0 1 0 2 v16.length false), (12, I 0)] [some ⟨1, eL v16⟩] ?_
  refine pwp_block ?_
  refine pwp_loop (ι := Nat × Int × (List T_impl_Column)) (fun (f55, x53, x54) => (⟨185, [(1, A a1), (5, .fptr (Enc.cells a2) 0), (8, .ref 0 0 0 2 x54.length false), (12, I x53)], [some ⟨0, eL x54⟩]⟩ : St)) (fun (f55, x53, x54) => spec_l6Columns_l2 a1 a2 f55 x53 x54 = some y) (fun (f55, x53, x54) => f55) (FUEL, 0, v16) h ((Imp.to (st' := ⟨185, [(1, A a1), (5, .fptr (Enc.cells a2) 0), (8, .ref 0 1 0 2 v16.length false), (12, I 0)], [some ⟨1, eL v16⟩]⟩) [1, 5, 8, 12] (by kernel_rfl)).trans ((Imp.reverS (st' := ⟨185, [(1, A a1), (5, .fptr (Enc.cells a2) 0), (8, .ref 0 0 0 2 v16.length false), (12, I 0)], [some ⟨0, eL v16⟩]⟩) 0 1 (eL v16) [1, 5, 8, 12] (by kernel_rfl) (by exact (And.intro (eL_frz _) trivial)) (by kernel_rfl)).trans (Imp.to [1, 5, 8, 12] (by kernel_rfl)))) ?_
  rintro ⟨f55, x53, x54⟩ h
  dsimp only at h ⊢
  rcases f55 with _ | f55
  cases h
  rw [spec_l6Columns_l2] at h
  refine pwp_seq ?_
  refine srve 185 [(1, A a1), (5, .fptr (Enc.cells a2) 0), (8, .ref 0 0 0 2 x54.length false), (12, I x53), (141, B ((decide (x53 < ((x54.length : Int))))))] [some ⟨0, eL x54⟩] ?_
  refine pc h (fun h => ?_) (fun h => ?_)
  refine pwp_skip ?_
  refine pwp_seq ?_
  refine pwp_join (σ := (List T_impl_Column)) (fun x58 => (⟨185, [(1, A a1), (5, .fptr (Enc.cells a2) 0), (8, .ref 0 0 0 2 x58.length false), (12, I x53)], [some ⟨0, eL x58⟩]⟩ : St)) (fun x58 => spec_l6Columns_j3 x53 (spec_l6Columns_l2 a1 a2 f55) x58 = some y) ?_ ?_
  refine pwp_block ?_
  refine pwp_seq ?_
  refine pwp_seq ?_
  refine pwp_imp (Imp.to (st' := ⟨185, [(1, A a1), (5, .fptr (Enc.cells a2) 0), (8, .ref 0 0 0 2 x54.length false), (12, I x53)], [some ⟨0, eL x54⟩]⟩) [1, 5, 8, 12] (by kernel_rfl)) ?_
  refine pwp_any ([[0], [], [0], [0], [0], [], [], [], [], [], [], [], [], [], []]) ([[], [], [], [], [], [], [], [], [], [], [], [], [], [], []]) rfl (by kernel_rfl) ?_
  refine qA_ev (st' := ⟨185, [(144, .ref 0 0 0 2 x54.length false), (1, A a1), (5, .fptr (Enc.cells a2) 0), (8, .ref 0 0 0 2 x54.length false), (12, I x53)], [some ⟨0, eL x54⟩]⟩) τ_ok [] [0] 1 (by exact (And.intro (.inl (eL_frz _)) trivial)) (by kernel_rfl) ?_
  refine qA_ev (st' := ⟨185, [(145, I x53), (144, .ref 0 0 0 2 x54.length false), (1, A a1), (5, .fptr (Enc.cells a2) 0), (8, .ref 0 0 0 2 x54.length false), (12, I x53)], [some ⟨0, eL x54⟩]⟩) τ_ok [] [] 1 (by exact trivial) (by kernel_rfl) ?_
  obtain ⟨v59, hv60, h⟩ := bindS h
  refine qA_E (dd := some 146) (x := .ptr 0 0 (x53.toNat * 2)) ([some ⟨0, eL x54⟩]) (⟨185, [(146, .ptr 0 0 (x53.toNat * 2)), (145, I x53), (144, .ref 0 0 0 2 x54.length false), (1, A a1), (5, .fptr (Enc.cells a2) 0), (8, .ref 0 0 0 2 x54.length false), (12, I x53)], [some ⟨0, eL x54⟩]⟩) (fun Γ' hΓ => CoreE.of_y (idrV_sound (n := x54.length) τ_ok (by kernel_rfl) hv60 rfl)) (by kernel_rfl) (by kernel_rfl) (by exact (And.intro (.inl (eL_frz _)) trivial)) (.inr (.inl rfl)) (by kernel_rfl) ?_
  refine qA_ev (st' := ⟨185, [(147, .ptr 0 0 (x53.toNat * 2)), (146, .ptr 0 0 (x53.toNat * 2)), (145, I x53), (144, .ref 0 0 0 2 x54.length false), (1, A a1), (5, .fptr (Enc.cells a2) 0), (8, .ref 0 0 0 2 x54.length false), (12, I x53)], [some ⟨0, eL x54⟩]⟩) τ_ok [] [0] 1 (by exact (And.intro (.inl (eL_frz _)) trivial)) (by kernel_rfl) ?_
  refine qA_E (dd := some 148) (x := I v59.fKind) ([some ⟨0, eL x54⟩]) (⟨185, [(148, I v59.fKind), (147, .ptr 0 0 (x53.toNat * 2)), (146, .ptr 0 0 (x53.toNat * 2)), (145, I x53), (144, .ref 0 0 0 2 x54.length false), (1, A a1), (5, .fptr (Enc.cells a2) 0), (8, .ref 0 0 0 2 x54.length false), (12, I x53)], [some ⟨0, eL x54⟩]⟩) (fun Γ' hΓ => CoreE.of_y (ldeV_sound (t := 3) (o' := 0) (r := I v59.fKind) τ_ok hv60 (by kernel_rfl) (by kernel_rfl))) (by kernel_rfl) (by kernel_rfl) (by exact (And.intro (.inl (eL_frz _)) trivial)) (.inr (.inr rfl)) (by kernel_rfl) ?_
  refine qA_ev (st' := ⟨185, [(151, I a2.fB), (150, .fptr (Enc.cells a2) 2), (149, A a1), (148, I v59.fKind), (147, .ptr 0 0 (x53.toNat * 2)), (146, .ptr 0 0 (x53.toNat * 2)), (145, I x53), (144, .ref 0 0 0 2 x54.length false), (1, A a1), (5, .fptr (Enc.cells a2) 0), (8, .ref 0 0 0 2 x54.length false), (12, I x53)], [some ⟨0, eL x54⟩]⟩) τ_ok [] [] 3 (by exact trivial) (by kernel_rfl) ?_
  obtain ⟨v61, hv62, h⟩ := bindS h
  refine qA_E (dd := some 152) (x := .fptr (Enc.cells v61) 0) ([none]) (⟨185, [(152, .fptr (Enc.cells v61) 0), (151, I a2.fB), (150, .fptr (Enc.cells a2) 2), (149, A a1), (148, I v59.fKind), (147, .ptr 0 0 (x53.toNat * 2)), (146, .ptr 0 0 (x53.toNat * 2)), (145, I x53), (144, .ref 0 0 0 2 x54.length false), (1, A a1), (5, .fptr (Enc.cells a2) 0), (8, .ref 0 0 0 2 x54.length false), (12, I x53)], [some ⟨0, eL x54⟩]⟩) (fun Γ' hΓ => CoreE.of_y (idxV_sound τ_ok (by kernel_rfl) hv62)) (by kernel_rfl) (by kernel_rfl) (by exact trivial) (.inr (.inr rfl)) (by kernel_rfl) ?_
  refine qA_ev (st' := ⟨185, [(154, I x53), (153, A v61), (152, .fptr (Enc.cells v61) 0), (151, I a2.fB), (150, .fptr (Enc.cells a2) 2), (149, A a1), (148, I v59.fKind), (147, .ptr 0 0 (x53.toNat * 2)), (146, .ptr 0 0 (x53.toNat * 2)), (145, I x53), (144, .ref 0 0 0 2 x54.length false), (1, A a1), (5, .fptr (Enc.cells a2) 0), (8, .ref 0 0 0 2 x54.length false), (12, I x53)], [some ⟨0, eL x54⟩]⟩) τ_ok [] [] 2 (by exact trivial) (by kernel_rfl) ?_
  obtain ⟨v63, hv64, h⟩ := bindS h
  refine qA_E (dd := some 155) (x := .fptr (Enc.cells v63) 0) ([none]) (⟨185, [(155, .fptr (Enc.cells v63) 0), (154, I x53), (153, A v61), (152, .fptr (Enc.cells v61) 0), (151, I a2.fB), (150, .fptr (Enc.cells a2) 2), (149, A a1), (148, I v59.fKind), (147, .ptr 0 0 (x53.toNat * 2)), (146, .ptr 0 0 (x53.toNat * 2)), (145, I x53), (144, .ref 0 0 0 2 x54.length false), (1, A a1), (5, .fptr (Enc.cells a2) 0), (8, .ref 0 0 0 2 x54.length false), (12, I x53)], [some ⟨0, eL x54⟩]⟩) (fun Γ' hΓ => CoreE.of_y (idxV_sound τ_ok (by kernel_rfl) hv64)) (by kernel_rfl) (by kernel_rfl) (by exact trivial) (.inr (.inr rfl)) (by kernel_rfl) ?_
  refine qA_ev (st' := ⟨185, [(158, B ((!(v59.fKind == v63.fKind)))), (157, I v63.fKind), (156, .fptr (Enc.cells v63) 0), (155, .fptr (Enc.cells v63) 0), (154, I x53), (153, A v61), (152, .fptr (Enc.cells v61) 0), (151, I a2.fB), (150, .fptr (Enc.cells a2) 2), (149, A a1), (148, I v59.fKind), (147, .ptr 0 0 (x53.toNat * 2)), (146, .ptr 0 0 (x53.toNat * 2)), (145, I x53), (144, .ref 0 0 0 2 x54.length false), (1, A a1), (5, .fptr (Enc.cells a2) 0), (8, .ref 0 0 0 2 x54.length false), (12, I x53)], [some ⟨0, eL x54⟩]⟩) τ_ok [] [] 3 (by exact trivial) (by kernel_rfl) ?_
  refine qA_end ?_
  refine opsP_imp (Imp.to (st' := ⟨185, [(1, A a1), (5, .fptr (Enc.cells a2) 0), (8, .ref 0 0 0 2 x54.length false), (12, I x53), (158, B ((!(v59.fKind == v63.fKind))))], [some ⟨0, eL x54⟩]⟩) [1, 5, 8, 12, 158] (by kernel_rfl)) ?_
  refine opsP_end rfl ?_
  refine pc h (fun h => ?_) (fun h => ?_)
  refine srve 185 [(6, .arr 2 0 (eL ([] : List T_impl_Column)) true), (7, B false)] [some ⟨0, eL x54⟩] ?_
  refine pwp_imp (Imp.to (st' := ⟨185, [(6, .arr 2 0 (eL ([] : List T_impl_Column)) true), (7, B false)], [some ⟨0, eL x54⟩]⟩) [6, 7] (by kernel_rfl)) ?_
  refine pwp_imp (Imp.thawS (st' := ⟨185, [(6, .ref 1 0 0 2 (([] : List T_impl_Column)).length false), (7, B false)], [some ⟨0, eL x54⟩, some ⟨0, eL (([] : List T_impl_Column))⟩]⟩) 6 [6, 7] (by kernel_rfl)) ?_
  have h := si h
  subst h
  exact pwp_ret (rt (.tup [.ref 1 0 0 2 (([] : List T_impl_Column)).length false, B false]) (OutP.tup (OutL.cons (OutP.list (v := 0) (by kernel_rfl)) (OutL.cons (OutP.frz (by kernel_rfl)) (OutL.nil _)))))
  refine pwp_skip ?_
  refine rv 4 185 [(1, A a1), (5, .fptr (Enc.cells a2) 0), (8, .ref 0 0 0 2 x54.length false), (12, I x53), (160, .ref 0 0 0 2 x54.length false), (161, I x53), (162, .ref 0 0 0 2 x54.length false), (163, I x53)] [some ⟨0, eL x54⟩] ?_
  obtain ⟨v66, hv67, h⟩ := bindS h
  refine opsP_idr τ_ok 164 0 0 x54.length hv67 rfl (by kernel_rfl) ?_
  refine v 1 185 [(1, A a1), (5, .fptr (Enc.cells a2) 0), (8, .ref 0 0 0 2 x54.length false), (12, I x53), (160, .ref 0 0 0 2 x54.length false), (161, I x53), (165, .ptr 0 0 (x53.toNat * 2 + 1))] [some ⟨0, eL x54⟩] ?_
  refine opsP_lde (r := B v66.fEmpty) τ_ok 166 4 1 hv67 (by kernel_rfl) (by kernel_rfl) ?_
  refine v 1 185 [(1, A a1), (5, .fptr (Enc.cells a2) 0), (8, .ref 0 0 0 2 x54.length false), (12, I x53), (160, .ref 0 0 0 2 x54.length false), (161, I x53), (167, B v66.fEmpty)] [some ⟨0, eL x54⟩] ?_
  rcases Bool.eq_false_or_eq_true v66.fEmpty with hc76 | hc76
  replace h := bT hc76 h
  rw [hc76]
  refine v 10 185 [(1, A a1), (5, .fptr (Enc.cells a2) 0), (8, .ref 0 0 0 2 x54.length false), (12, I x53), (160, .ref 0 0 0 2 x54.length false), (161, I x53), (168, .lit undef), (169, .lit undef), (170, .lit undef), (171, .lit undef), (172, .lit undef), (173, .lit undef), (174, .lit undef), (175, .lit undef), (176, .lit undef), (177, B true)] [some ⟨0, eL x54⟩] ?_
  obtain ⟨v68, hv69, h⟩ := bindS h
  refine opsP_idr τ_ok 178 0 0 x54.length hv69 rfl (by kernel_rfl) ?_
  refine v 1 185 [(1, A a1), (5, .fptr (Enc.cells a2) 0), (8, .ref 0 0 0 2 x54.length false), (12, I x53), (168, .lit undef), (169, .lit undef), (170, .lit undef), (171, .lit undef), (172, .lit undef), (173, .lit undef), (174, .lit undef), (175, .lit undef), (176, .lit undef), (177, B true), (179, .ptr 0 0 (x53.toNat * 2 + 1))] [some ⟨0, eL x54⟩] ?_
  refine opsP_ste (vs := [B true]) τ_ok 4 0 0 1 (({ v68 with fEmpty := true } : T_impl_Column)) hv69 (by kernel_rfl) (by kernel_rfl) (by kernel_rfl) (renC trivial (renC trivial (renC (ren_ref (List.length_set ..).symm) (renC trivial (renC trivial (renC trivial (renC trivial (renC trivial (renC trivial (renC trivial (renC trivial (renC trivial (renC trivial (renC trivial (renC trivial renC0))))))))))))))) ?_
  refine ve 0 185 [(1, A a1), (5, .fptr (Enc.cells a2) 0), (8, .ref 0 0 0 2 ((x54.set x53.toNat (({ v68 with fEmpty := true } : T_impl_Column)))).length false), (12, I x53), (168, .lit undef), (169, .lit undef), (170, .lit undef), (171, .lit undef), (172, .lit undef), (173, .lit undef), (174, .lit undef), (175, .lit undef), (176, .lit undef)] [some ⟨0, eL ((x54.set x53.toNat (({ v68 with fEmpty := true } : T_impl_Column))))⟩] ?_
  exact ⟨(x54.set x53.toNat (({ v68 with fEmpty := true } : T_impl_Column))), h, (Imp.to (st' := ⟨185, [(1, A a1), (5, .fptr (Enc.cells a2) 0), (8, .ref 0 0 0 2 ((x54.set x53.toNat (({ v68 with fEmpty := true } : T_impl_Column)))).length false), (12, I x53)], [some ⟨0, eL ((x54.set x53.toNat (({ v68 with fEmpty := true } : T_impl_Column))))⟩]⟩) [1, 5, 8, 12] (by kernel_rfl)).trans (Imp.to [1, 5, 8, 12] (by kernel_rfl))⟩
  replace h := bF hc76 h
  rw [hc76]
  refine v 3 185 [(1, A a1), (5, .fptr (Enc.cells a2) 0), (8, .ref 0 0 0 2 x54.length false), (12, I x53), (160, .ref 0 0 0 2 x54.length false), (161, I x53), (167, B false), (168, A a1), (169, .fptr (Enc.cells a2) 2), (170, I a2.fB)] [some ⟨0, eL x54⟩] ?_
  obtain ⟨v70, hv71, h⟩ := bindS h
  refine opsP_idx τ_ok 171 hv71 (by kernel_rfl) ?_
  refine v 2 185 [(1, A a1), (5, .fptr (Enc.cells a2) 0), (8, .ref 0 0 0 2 x54.length false), (12, I x53), (160, .ref 0 0 0 2 x54.length false), (161, I x53), (167, B false), (168, A a1), (169, .fptr (Enc.cells a2) 2), (170, I a2.fB), (171, .fptr (Enc.cells v70) 0), (172, A v70), (173, I x53)] [some ⟨0, eL x54⟩] ?_
  obtain ⟨v72, hv73, h⟩ := bindS h
  refine opsP_idx τ_ok 174 hv73 (by kernel_rfl) ?_
  refine v 3 185 [(1, A a1), (5, .fptr (Enc.cells a2) 0), (8, .ref 0 0 0 2 x54.length false), (12, I x53), (160, .ref 0 0 0 2 x54.length false), (161, I x53), (168, A a1), (169, .fptr (Enc.cells a2) 2), (170, I a2.fB), (171, .fptr (Enc.cells v70) 0), (172, A v70), (173, I x53), (174, .fptr (Enc.cells v72) 0), (175, .fptr (Enc.cells v72) 1), (176, B v72.fEmpty), (177, B v72.fEmpty)] [some ⟨0, eL x54⟩] ?_
  obtain ⟨v74, hv75, h⟩ := bindS h
  refine opsP_idr τ_ok 178 0 0 x54.length hv75 rfl (by kernel_rfl) ?_
  refine v 1 185 [(1, A a1), (5, .fptr (Enc.cells a2) 0), (8, .ref 0 0 0 2 x54.length false), (12, I x53), (168, A a1), (169, .fptr (Enc.cells a2) 2), (170, I a2.fB), (171, .fptr (Enc.cells v70) 0), (172, A v70), (173, I x53), (174, .fptr (Enc.cells v72) 0), (175, .fptr (Enc.cells v72) 1), (176, B v72.fEmpty), (177, B v72.fEmpty), (179, .ptr 0 0 (x53.toNat * 2 + 1))] [some ⟨0, eL x54⟩] ?_
  refine opsP_ste (vs := [B v72.fEmpty]) τ_ok 4 0 0 1 (({ v74 with fEmpty := v72.fEmpty } : T_impl_Column)) hv75 (by kernel_rfl) (by kernel_rfl) (by kernel_rfl) (renC trivial (renC trivial (renC (ren_ref (List.length_set ..).symm) (renC trivial (renC trivial (renC trivial (renC trivial (renC trivial (renC trivial (renC trivial (renC trivial (renC trivial (renC trivial (renC trivial (renC trivial renC0))))))))))))))) ?_
  refine ve 0 185 [(1, A a1), (5, .fptr (Enc.cells a2) 0), (8, .ref 0 0 0 2 ((x54.set x53.toNat (({ v74 with fEmpty := v72.fEmpty } : T_impl_Column)))).length false), (12, I x53), (168, A a1), (169, .fptr (Enc.cells a2) 2), (170, I a2.fB), (171, .fptr (Enc.cells v70) 0), (172, A v70), (173, I x53), (174, .fptr (Enc.cells v72) 0), (175, .fptr (Enc.cells v72) 1), (176, B v72.fEmpty)] [some ⟨0, eL ((x54.set x53.toNat (({ v74 with fEmpty := v72.fEmpty } : T_impl_Column))))⟩] ?_
  exact ⟨(x54.set x53.toNat (({ v74 with fEmpty := v72.fEmpty } : T_impl_Column))), h, (Imp.to (st' := ⟨185, [(1, A a1), (5, .fptr (Enc.cells a2) 0), (8, .ref 0 0 0 2 ((x54.set x53.toNat (({ v74 with fEmpty := v72.fEmpty } : T_impl_Column)))).length false), (12, I x53)], [some ⟨0, eL ((x54.set x53.toNat (({ v74 with fEmpty := v72.fEmpty } : T_impl_Column))))⟩]⟩) [1, 5, 8, 12] (by kernel_rfl)).trans (Imp.to [1, 5, 8, 12] (by kernel_rfl))⟩
  rintro x58 h
  unfold spec_l6Columns_j3 at h
  refine rve 185 [(1, A a1), (5, .fptr (Enc.cells a2) 0), (8, .ref 0 0 0 2 x58.length false), (12, I ((w64 (x53 + 1))))] [some ⟨0, eL x58⟩] ?_
  exact ⟨(f55, (w64 (x53 + 1)), x58), h, Nat.lt_succ_self _, (Imp.to (st' := ⟨185, [(1, A a1), (5, .fptr (Enc.cells a2) 0), (8, .ref 0 0 0 2 x58.length false), (12, I ((w64 (x53 + 1))))], [some ⟨0, eL x58⟩]⟩) [1, 5, 8, 12] (by kernel_rfl)).trans (Imp.to [1, 5, 8, 12] (by kernel_rfl))⟩
  refine pwp_exit ?_
  refine srve 185 [(6, .ref 0 0 0 2 x54.length false), (7, B true)] [some ⟨0, eL x54⟩] ?_
  have h := si h
  subst h
  exact pwp_ret (rt (.tup [.ref 0 0 0 2 x54.length false, B true]) (OutP.tup (OutL.cons (OutP.list (v := 0) (by kernel_rfl)) (OutL.cons (OutP.frz (by kernel_rfl)) (OutL.nil _)))))
  refine srve 185 [(8, .ref 0 1 0 2 v16.length false), (181, B ((a2.fKind == 6)))] [some ⟨1, eL v16⟩] ?_
  refine pc h (fun h => ?_) (fun h => ?_)
  refine srve 185 [(6, .ref 0 1 0 2 v16.length false), (7, B true)] [some ⟨1, eL v16⟩] ?_
  have h := si h
  subst h
  exact pwp_ret (rt (.tup [.ref 0 1 0 2 v16.length false, B true]) (OutP.tup (OutL.cons (OutP.list (v := 1) (by kernel_rfl)) (OutL.cons (OutP.frz (by kernel_rfl)) (OutL.nil _)))))
  refine pwp_skip ?_
  refine srve 185 [(6, .arr 2 0 (eL ([] : List T_impl_Column)) true), (7, B false)] [some ⟨1, eL v16⟩] ?_
  refine pwp_imp (Imp.to (st' := ⟨185, [(6, .arr 2 0 (eL ([] : List T_impl_Column)) true), (7, B false)], [some ⟨1, eL v16⟩]⟩) [6, 7] (by kernel_rfl)) ?_
  refine pwp_imp (Imp.thawS (st' := ⟨185, [(6, .ref 1 0 0 2 (([] : List T_impl_Column)).length false), (7, B false)], [some ⟨1, eL v16⟩, some ⟨0, eL (([] : List T_impl_Column))⟩]⟩) 6 [6, 7] (by kernel_rfl)) ?_
  have h := si h
  subst h
  exact pwp_ret (rt (.tup [.ref 1 0 0 2 (([] : List T_impl_Column)).length false, B false]) (OutP.tup (OutL.cons (OutP.list (v := 0) (by kernel_rfl)) (OutL.cons (OutP.frz (by kernel_rfl)) (OutL.nil _)))))
def spec_RowsOk_l0 (a0 : List T_impl_Column) (a1 : List (List T_impl_Value)) : Nat → Int → Option Bool
  | 0, _ => none
  | f2 + 1, x1 => bif (decide (x1 < ((a1.length : Int)))) then (getI a1 x1).bind fun v5 => (spec_RowFits a0 v5).bind fun v7 => bif (!v7) then some false else (spec_RowsOk_l0 a0 a1 f2) ((w64 (x1 + 1))) else (spec_ColumnsOk a0).bind fun v10 => some v10
def spec_RowsOk (a0 : List T_impl_Column) (a1 : List (List T_impl_Value)) : Option Bool := spec_RowsOk_l0 a0 a1 FUEL 0
theorem ok_spec_RowsOk {a0 : List T_impl_Column} {a1 : List (List T_impl_Value)} {y : Bool} (h : spec_RowsOk a0 a1 = some y) : OK Try.prog 92 [A a0, A a1] (B y) := by
  refine OK_of_pwp τ_ok Try.func92 rfl (by kernel_rfl) rfl fun Γ hX => ?_
  unfold spec_RowsOk at h
  refine srve 21 [(0, A a0), (1, A a1)] [] ?_
  refine pwp_seq ?_
  refine srve 21 [(0, A a0), (1, A a1), (5, I 0)] [] ?_
  refine pwp_block ?_
  refine pwp_loop (ι := Nat × Int) (fun (f2, x1) => (⟨21, [(0, A a0), (1, A a1), (5, I x1)], []⟩ : St)) (fun (f2, x1) => spec_RowsOk_l0 a0 a1 f2 x1 = some y) (fun (f2, x1) => f2) (FUEL, 0) h ((Imp.to (st' := ⟨21, [(0, A a0), (1, A a1), (5, I 0)], []⟩) [0, 1, 5] (by kernel_rfl)).trans (Imp.to [0, 1, 5] (by kernel_rfl))) ?_
  rintro ⟨f2, x1⟩ h
  dsimp only at h ⊢
  rcases f2 with _ | f2
  cases h
  rw [spec_RowsOk_l0] at h
  refine pwp_seq ?_
  refine srve 21 [(0, A a0), (1, A a1), (5, I x1), (9, B ((decide (x1 < ((a1.length : Int))))))] [] ?_
  refine pc h (fun h => ?_) (fun h => ?_)
  refine pwp_skip ?_
  refine pwp_seq ?_
  refine pwp_block ?_
  refine srv 3 21 [(0, A a0), (1, A a1), (5, I x1), (12, A a0), (13, A a1), (14, I x1)] [] ?_
  obtain ⟨v5, hv6, h⟩ := bindS h
  refine opsP_idx τ_ok 15 hv6 (by kernel_rfl) ?_
  refine v 1 21 [(0, A a0), (1, A a1), (5, I x1), (12, A a0), (16, A v5)] [] ?_
  obtain ⟨v7, hv8, h⟩ := bindS h
  refine opsP_callF τ 17 (ok_spec_RowFits hv8) (FzTo.frz rfl) rfl (by kernel_rfl) ?_
  refine ve 1 21 [(0, A a0), (1, A a1), (5, I x1), (18, B ((!v7)))] [] ?_
  refine pc h (fun h => ?_) (fun h => ?_)
  refine srve 21 [(4, B false)] [] ?_
  cases h
  exact pwp_ret rz
  refine pwp_skip ?_
  refine rve 21 [(0, A a0), (1, A a1), (5, I ((w64 (x1 + 1))))] [] ?_
  exact ⟨(f2, (w64 (x1 + 1))), h, Nat.lt_succ_self _, (Imp.to (st' := ⟨21, [(0, A a0), (1, A a1), (5, I ((w64 (x1 + 1))))], []⟩) [0, 1, 5] (by kernel_rfl)).trans (Imp.to [0, 1, 5] (by kernel_rfl))⟩
  refine pwp_exit ?_
  refine srv 1 21 [(19, A a0)] [] ?_
  obtain ⟨v10, hv11, h⟩ := bindS h
  refine opsP_callF τ 20 (ok_spec_ColumnsOk hv11) (FzTo.frz rfl) rfl (by kernel_rfl) ?_
  refine ve 1 21 [(4, B v10)] [] ?_
  cases h
  exact pwp_ret rz
def impl_RowOk (a0 : List T_impl_Value) : Option Bool := bif (decide (((a0.length : Int)) ≤ 4)) then (slices_ContainsFunc_impl_Value_impl_Value a0 impl_RowOk_1).bind fun v1 => some ((!v1)) else some false
theorem ok_impl_RowOk {a0 : List T_impl_Value} {y : Bool} (h : impl_RowOk a0 = some y) : OK Try.prog 111 [A a0] (B y) := by
  refine OK_of_pwp τ_ok Try.func111 rfl (by kernel_rfl) rfl fun Γ hX => ?_
  unfold impl_RowOk at h
  refine srve 11 [(0, A a0)] [] ?_
  refine srv 4 11 [(0, A a0), (6, B ((decide (((a0.length : Int)) ≤ 4))))] [] ?_
  rcases fk ((decide (((a0.length : Int)) ≤ 4))) with hc3 | hc3
  replace h := bT hc3 h
  rw [hc3]
  refine v 1 11 [(6, B true), (7, A a0)] [] ?_
  obtain ⟨v1, hv2, h⟩ := bindS h
  refine opsP_callF τ 8 (ok_slices_ContainsFunc_impl_Value_impl_Value (rfl) (fun _ w hw => ok_impl_RowOk_1 hw) hv2) (FzTo.frz rfl) rfl (by kernel_rfl) ?_
  refine ve 3 11 [(2, B ((!v1)))] [] ?_
  cases h
  exact pwp_ret rz
  replace h := bF hc3 h
  rw [hc3]
  refine ve 5 11 [(2, B false)] [] ?_
  cases h
  exact pwp_ret rz
def impl_RowFits_j2 (x3 : Int) (K5 : Int → Option Bool) (x9 : Bool) : Option Bool := bif x9 then some false else K5 ((w64 (x3 + 1)))
def impl_RowFits_l1 (a0 : List T_impl_Column) (a1 : List T_impl_Value) : Nat → Int → Option Bool
  | 0, _ => none
  | f4 + 1, x3 => bif (decide (x3 < ((a1.length : Int)))) then (getI a1 x3).bind fun v7 => (getI a0 x3).bind fun v11 => bif (!(v7.fKind == v11.fKind)) then bif (!(v7.fKind == 0)) then impl_RowFits_j2 x3 (impl_RowFits_l1 a0 a1 f4) true else (getI a0 x3).bind fun v13 => impl_RowFits_j2 x3 (impl_RowFits_l1 a0 a1 f4) ((!v13.fEmpty)) else impl_RowFits_j2 x3 (impl_RowFits_l1 a0 a1 f4) false else some true
def impl_RowFits_j0 (a0 : List T_impl_Column) (a1 : List T_impl_Value) (x1 : Bool) : Option Bool := bif x1 then some false else impl_RowFits_l1 a0 a1 FUEL 0
def impl_RowFits (a0 : List T_impl_Column) (a1 : List T_impl_Value) : Option Bool := (impl_ColumnsOk a0).bind fun v17 => bif (!v17) then impl_RowFits_j0 a0 a1 true else (impl_RowOk a1).bind fun v19 => bif (!v19) then impl_RowFits_j0 a0 a1 true else impl_RowFits_j0 a0 a1 ((!(((a1.length : Int)) == ((a0.length : Int)))))
theorem ok_impl_RowFits {a0 : List T_impl_Column} {a1 : List T_impl_Value} {y : Bool} (h : impl_RowFits a0 a1 = some y) : OK Try.prog 133 [A a0, A a1] (B y) := by
  refine OK_of_pwp τ_ok Try.func133 rfl (by kernel_rfl) rfl fun Γ hX => ?_
  unfold impl_RowFits at h
  refine srveM [6] 51 [(0, A a0), (1, A a1)] [] ?_
  refine pwp_seq ?_
  refine pwp_seq ?_
  refine pwp_join (σ := Bool) (fun x1 => (⟨51, [(0, A a0), (1, A a1), (21, B x1)], []⟩ : St)) (fun x1 => impl_RowFits_j0 a0 a1 x1 = some y) ?_ ?_
  refine rvM [6] 1 51 [(0, A a0), (1, A a1), (7, A a0)] [] ?_
  obtain ⟨v17, hv18, h⟩ := bindS h
  refine opsP_callF τ 8 (ok_impl_ColumnsOk hv18) (FzTo.frz rfl) rfl (by kernel_rfl) ?_
  refine vM [6] 2 51 [(0, A a0), (1, A a1), (10, B ((!v17)))] [] ?_
  rcases fk ((!v17)) with hc22 | hc22
  replace h := bT hc22 h
  rw [hc22]
  refine veM [6] 11 51 [(0, A a0), (1, A a1), (21, B true)] [] ?_
  exact ⟨true, h, (Imp.to (st' := ⟨51, [(0, A a0), (1, A a1), (21, B true)], []⟩) [0, 1, 21] (by kernel_rfl)).trans (Imp.to [0, 1, 21] (by kernel_rfl))⟩
  replace h := bF hc22 h
  rw [hc22]
  refine vM [6] 1 51 [(0, A a0), (1, A a1), (10, B false), (11, A a1)] [] ?_
  obtain ⟨v19, hv20, h⟩ := bindS h
  refine opsP_callF τ 12 (ok_impl_RowOk hv20) (FzTo.frz rfl) rfl (by kernel_rfl) ?_
  refine vM [6] 3 51 [(0, A a0), (1, A a1), (15, B ((!v19)))] [] ?_
  rcases fk ((!v19)) with hc21 | hc21
  replace h := bT hc21 h
  rw [hc21]
  refine veM [6] 6 51 [(0, A a0), (1, A a1), (21, B true)] [] ?_
  exact ⟨true, h, (Imp.to (st' := ⟨51, [(0, A a0), (1, A a1), (21, B true)], []⟩) [0, 1, 21] (by kernel_rfl)).trans (Imp.to [0, 1, 21] (by kernel_rfl))⟩
  replace h := bF hc21 h
  rw [hc21]
  refine veM [6] 6 51 [(0, A a0), (1, A a1), (21, B ((!(((a1.length : Int)) == ((a0.length : Int))))))] [] ?_
  exact ⟨(!(((a1.length : Int)) == ((a0.length : Int)))), h, (Imp.to (st' := ⟨51, [(0, A a0), (1, A a1), (21, B ((!(((a1.length : Int)) == ((a0.length : Int))))))], []⟩) [0, 1, 21] (by kernel_rfl)).trans (Imp.to [0, 1, 21] (by kernel_rfl))⟩
  rintro x1 h
  unfold impl_RowFits_j0 at h
  refine pc h (fun h => ?_) (fun h => ?_)
  refine srveM [6] 51 [(4, B false)] [] ?_
  cases h
  exact pwp_ret rz
  refine pwp_skip ?_
  refine pwp_seq ?_
  refine srveM [6] 51 [(0, A a0), (22, A a1), (23, I ((a1.length : Int))), (24, I 0)] [] ?_
  refine pwp_block ?_
  refine pwp_loop (ι := Nat × Int) (fun (f4, x3) => (⟨51, [(0, A a0), (22, A a1), (23, I ((a1.length : Int))), (24, I x3)], []⟩ : St)) (fun (f4, x3) => impl_RowFits_l1 a0 a1 f4 x3 = some y) (fun (f4, x3) => f4) (FUEL, 0) h ((Imp.to (st' := ⟨51, [(0, A a0), (22, A a1), (23, I ((a1.length : Int))), (24, I 0)], []⟩) [0, 22, 23, 24] (by kernel_rfl)).trans (Imp.to [0, 22, 23, 24] (by kernel_rfl))) ?_
  rintro ⟨f4, x3⟩ h
  dsimp only at h ⊢
  rcases f4 with _ | f4
  cases h
  rw [impl_RowFits_l1] at h
  refine srveM [6] 51 [(0, A a0), (22, A a1), (23, I ((a1.length : Int))), (24, I x3), (25, B ((decide (x3 < ((a1.length : Int))))))] [] ?_
  refine pwp_seq ?_
  refine pc h (fun h => ?_) (fun h => ?_)
  refine pwp_skip ?_
  refine pwp_seq ?_
  refine pwp_block ?_
  refine srvM [6] 1 51 [(0, A a0), (22, A a1), (23, I ((a1.length : Int))), (24, I x3), (26, I x3)] [] ?_
  obtain ⟨v7, hv8, h⟩ := bindS h
  refine opsP_idx τ_ok 27 hv8 (by kernel_rfl) ?_
  refine veM [6] 4 51 [(0, A a0), (5, I x3), (6, .ptr 0 0 0), (22, A a1), (23, I ((a1.length : Int))), (24, I x3)] [some ⟨0, Enc.cells v7⟩] ?_
  refine pwp_seq ?_
  refine pwp_join (σ := Bool) (fun x9 => (⟨51, [(0, A a0), (22, A a1), (23, I ((a1.length : Int))), (24, I x3), (49, B x9)], [some ⟨0, Enc.cells v7⟩]⟩ : St)) (fun x9 => impl_RowFits_j2 x3 (impl_RowFits_l1 a0 a1 f4) x9 = some y) ?_ ?_
  refine pwp_imp (Imp.to (st' := ⟨51, [(0, A a0), (5, I x3), (6, .ptr 0 0 0), (22, A a1), (23, I ((a1.length : Int))), (24, I x3)], [some ⟨0, Enc.cells v7⟩]⟩) [0, 5, 6, 22, 23, 24] (by kernel_rfl)) ?_
  refine pwp_any ([[0], [0], [], [], [], [], [], [], [], [0], [0], [], [], [], [], [], [], [], [], [], []]) ([[], [], [], [], [], [], [], [], [], [], [], [], [], [], [], [], [], [], [], [], []]) rfl (by kernel_rfl) ?_
  refine qA_ev (st' := ⟨51, [(30, I v7.fKind), (29, .ptr 0 0 0), (0, A a0), (5, I x3), (6, .ptr 0 0 0), (22, A a1), (23, I ((a1.length : Int))), (24, I x3)], [some ⟨0, Enc.cells v7⟩]⟩) τ_ok [6] [0] 2 (by exact (And.intro (.inl (Enc.frz _)) trivial)) (by kernel_rfl) ?_
  refine qA_ev (st' := ⟨51, [(32, I x3), (31, A a0), (30, I v7.fKind), (29, .ptr 0 0 0), (0, A a0), (5, I x3), (6, .ptr 0 0 0), (22, A a1), (23, I ((a1.length : Int))), (24, I x3)], [some ⟨0, Enc.cells v7⟩]⟩) τ_ok [6] [] 2 (by exact trivial) (by kernel_rfl) ?_
  obtain ⟨v11, hv12, h⟩ := bindS h
  refine qA_E (dd := some 33) (x := .fptr (Enc.cells v11) 0) ([none]) (⟨51, [(33, .fptr (Enc.cells v11) 0), (32, I x3), (31, A a0), (30, I v7.fKind), (29, .ptr 0 0 0), (0, A a0), (5, I x3), (6, .ptr 0 0 0), (22, A a1), (23, I ((a1.length : Int))), (24, I x3)], [some ⟨0, Enc.cells v7⟩]⟩) (fun Γ' hΓ => CoreE.of_y (idxV_sound τ_ok (by kernel_rfl) hv12)) (by kernel_rfl) (by kernel_rfl) (by exact trivial) (.inr (.inr rfl)) (by kernel_rfl) ?_
  refine qA_ev (st' := ⟨51, [(37, B ((!(v7.fKind == v11.fKind)))), (36, B ((!(v7.fKind == v11.fKind)))), (35, I v11.fKind), (34, .fptr (Enc.cells v11) 0), (33, .fptr (Enc.cells v11) 0), (32, I x3), (31, A a0), (30, I v7.fKind), (29, .ptr 0 0 0), (0, A a0), (5, I x3), (6, .ptr 0 0 0), (22, A a1), (23, I ((a1.length : Int))), (24, I x3)], [some ⟨0, Enc.cells v7⟩]⟩) τ_ok [6] [] 4 (by exact trivial) (by kernel_rfl) ?_
  rcases fk ((!(v7.fKind == v11.fKind))) with hc16 | hc16
  replace h := bT hc16 h
  rw [hc16]
  refine qA_ev (st' := ⟨51, [(39, I v7.fKind), (38, .ptr 0 0 0), (37, B true), (36, B true), (35, I v11.fKind), (34, .fptr (Enc.cells v11) 0), (33, .fptr (Enc.cells v11) 0), (32, I x3), (31, A a0), (30, I v7.fKind), (29, .ptr 0 0 0), (0, A a0), (5, I x3), (6, .ptr 0 0 0), (22, A a1), (23, I ((a1.length : Int))), (24, I x3)], [some ⟨0, Enc.cells v7⟩]⟩) τ_ok [6] [0] 2 (by exact (And.intro (.inl (Enc.frz _)) trivial)) (by kernel_rfl) ?_
  refine qA_ev (st' := ⟨51, [(41, B ((!(v7.fKind == 0)))), (40, B ((!(v7.fKind == 0)))), (39, I v7.fKind), (38, .ptr 0 0 0), (37, B true), (36, B true), (35, I v11.fKind), (34, .fptr (Enc.cells v11) 0), (33, .fptr (Enc.cells v11) 0), (32, I x3), (31, A a0), (30, I v7.fKind), (29, .ptr 0 0 0), (0, A a0), (5, I x3), (6, .ptr 0 0 0), (22, A a1), (23, I ((a1.length : Int))), (24, I x3)], [some ⟨0, Enc.cells v7⟩]⟩) τ_ok [6] [] 2 (by exact trivial) (by kernel_rfl) ?_
  rcases fk ((!(v7.fKind == 0))) with hc15 | hc15
  replace h := bT hc15 h
  rw [hc15]
  refine qA_ev (st' := ⟨51, [(49, B true), (48, B true), (47, .lit undef), (46, .lit undef), (45, .lit undef), (44, .lit undef), (43, .lit undef), (42, .lit undef), (41, B true), (40, B true), (39, I v7.fKind), (38, .ptr 0 0 0), (37, B true), (36, B true), (35, I v11.fKind), (34, .fptr (Enc.cells v11) 0), (33, .fptr (Enc.cells v11) 0), (32, I x3), (31, A a0), (30, I v7.fKind), (29, .ptr 0 0 0), (0, A a0), (5, I x3), (6, .ptr 0 0 0), (22, A a1), (23, I ((a1.length : Int))), (24, I x3)], [some ⟨0, Enc.cells v7⟩]⟩) τ_ok [6] [] 8 (by exact trivial) (by kernel_rfl) ?_
  refine qA_end ?_
  refine opsP_imp (Imp.to (st' := ⟨51, [(0, A a0), (22, A a1), (23, I ((a1.length : Int))), (24, I x3), (38, .ptr 0 0 0), (39, I v7.fKind), (40, B true), (41, B true), (42, .lit undef), (43, .lit undef), (44, .lit undef), (45, .lit undef), (46, .lit undef), (47, .lit undef), (48, B true), (49, B true)], [some ⟨0, Enc.cells v7⟩]⟩) [0, 22, 23, 24, 38, 39, 40, 41, 42, 43, 44, 45, 46, 47, 48, 49] (by kernel_rfl)) ?_
  refine opsP_end rfl ?_
  exact ⟨true, h, (Imp.to (st' := ⟨51, [(0, A a0), (22, A a1), (23, I ((a1.length : Int))), (24, I x3), (49, B true)], [some ⟨0, Enc.cells v7⟩]⟩) [0, 22, 23, 24, 49] (by kernel_rfl)).trans (Imp.to [0, 22, 23, 24, 49] (by kernel_rfl))⟩
  replace h := bF hc15 h
  rw [hc15]
  refine qA_ev (st' := ⟨51, [(43, I x3), (42, A a0), (41, B false), (40, B false), (39, I v7.fKind), (38, .ptr 0 0 0), (37, B true), (36, B true), (35, I v11.fKind), (34, .fptr (Enc.cells v11) 0), (33, .fptr (Enc.cells v11) 0), (32, I x3), (31, A a0), (30, I v7.fKind), (29, .ptr 0 0 0), (0, A a0), (5, I x3), (6, .ptr 0 0 0), (22, A a1), (23, I ((a1.length : Int))), (24, I x3)], [some ⟨0, Enc.cells v7⟩]⟩) τ_ok [6] [] 2 (by exact trivial) (by kernel_rfl) ?_
  obtain ⟨v13, hv14, h⟩ := bindS h
  refine qA_E (dd := some 44) (x := .fptr (Enc.cells v13) 0) ([none]) (⟨51, [(44, .fptr (Enc.cells v13) 0), (43, I x3), (42, A a0), (41, B false), (40, B false), (39, I v7.fKind), (38, .ptr 0 0 0), (37, B true), (36, B true), (35, I v11.fKind), (34, .fptr (Enc.cells v11) 0), (33, .fptr (Enc.cells v11) 0), (32, I x3), (31, A a0), (30, I v7.fKind), (29, .ptr 0 0 0), (0, A a0), (5, I x3), (6, .ptr 0 0 0), (22, A a1), (23, I ((a1.length : Int))), (24, I x3)], [some ⟨0, Enc.cells v7⟩]⟩) (fun Γ' hΓ => CoreE.of_y (idxV_sound τ_ok (by kernel_rfl) hv14)) (by kernel_rfl) (by kernel_rfl) (by exact trivial) (.inr (.inr rfl)) (by kernel_rfl) ?_
  refine qA_ev (st' := ⟨51, [(49, B ((!v13.fEmpty))), (48, B ((!v13.fEmpty))), (47, B ((!v13.fEmpty))), (46, B v13.fEmpty), (45, .fptr (Enc.cells v13) 1), (44, .fptr (Enc.cells v13) 0), (43, I x3), (42, A a0), (41, B false), (40, B false), (39, I v7.fKind), (38, .ptr 0 0 0), (37, B true), (36, B true), (35, I v11.fKind), (34, .fptr (Enc.cells v11) 0), (33, .fptr (Enc.cells v11) 0), (32, I x3), (31, A a0), (30, I v7.fKind), (29, .ptr 0 0 0), (0, A a0), (5, I x3), (6, .ptr 0 0 0), (22, A a1), (23, I ((a1.length : Int))), (24, I x3)], [some ⟨0, Enc.cells v7⟩]⟩) τ_ok [6] [] 5 (by exact trivial) (by kernel_rfl) ?_
  refine qA_end ?_
  refine opsP_imp (Imp.to (st' := ⟨51, [(0, A a0), (22, A a1), (23, I ((a1.length : Int))), (24, I x3), (38, .ptr 0 0 0), (39, I v7.fKind), (40, B false), (41, B false), (42, A a0), (43, I x3), (44, .fptr (Enc.cells v13) 0), (45, .fptr (Enc.cells v13) 1), (46, B v13.fEmpty), (47, B ((!v13.fEmpty))), (48, B ((!v13.fEmpty))), (49, B ((!v13.fEmpty)))], [some ⟨0, Enc.cells v7⟩]⟩) [0, 22, 23, 24, 38, 39, 40, 41, 42, 43, 44, 45, 46, 47, 48, 49] (by kernel_rfl)) ?_
  refine opsP_end rfl ?_
  exact ⟨(!v13.fEmpty), h, (Imp.to (st' := ⟨51, [(0, A a0), (22, A a1), (23, I ((a1.length : Int))), (24, I x3), (49, B ((!v13.fEmpty)))], [some ⟨0, Enc.cells v7⟩]⟩) [0, 22, 23, 24, 49] (by kernel_rfl)).trans (Imp.to [0, 22, 23, 24, 49] (by kernel_rfl))⟩
  replace h := bF hc16 h
  rw [hc16]
  refine qA_ev (st' := ⟨51, [(39, .lit undef), (38, .lit undef), (37, B false), (36, B false), (35, I v11.fKind), (34, .fptr (Enc.cells v11) 0), (33, .fptr (Enc.cells v11) 0), (32, I x3), (31, A a0), (30, I v7.fKind), (29, .ptr 0 0 0), (0, A a0), (5, I x3), (6, .ptr 0 0 0), (22, A a1), (23, I ((a1.length : Int))), (24, I x3)], [some ⟨0, Enc.cells v7⟩]⟩) τ_ok [6] [0] 2 (by exact (And.intro (.inl (Enc.frz _)) trivial)) (by kernel_rfl) ?_
  refine qA_ev (st' := ⟨51, [(49, B false), (48, .lit undef), (47, .lit undef), (46, .lit undef), (45, .lit undef), (44, .lit undef), (43, .lit undef), (42, .lit undef), (41, .lit undef), (40, .lit undef), (39, .lit undef), (38, .lit undef), (37, B false), (36, B false), (35, I v11.fKind), (34, .fptr (Enc.cells v11) 0), (33, .fptr (Enc.cells v11) 0), (32, I x3), (31, A a0), (30, I v7.fKind), (29, .ptr 0 0 0), (0, A a0), (5, I x3), (6, .ptr 0 0 0), (22, A a1), (23, I ((a1.length : Int))), (24, I x3)], [some ⟨0, Enc.cells v7⟩]⟩) τ_ok [6] [] 10 (by exact trivial) (by kernel_rfl) ?_
  refine qA_end ?_
  refine opsP_imp (Imp.to (st' := ⟨51, [(0, A a0), (22, A a1), (23, I ((a1.length : Int))), (24, I x3), (38, .lit undef), (39, .lit undef), (40, .lit undef), (41, .lit undef), (42, .lit undef), (43, .lit undef), (44, .lit undef), (45, .lit undef), (46, .lit undef), (47, .lit undef), (48, .lit undef), (49, B false)], [some ⟨0, Enc.cells v7⟩]⟩) [0, 22, 23, 24, 38, 39, 40, 41, 42, 43, 44, 45, 46, 47, 48, 49] (by kernel_rfl)) ?_
  refine opsP_end rfl ?_
  exact ⟨false, h, (Imp.to (st' := ⟨51, [(0, A a0), (22, A a1), (23, I ((a1.length : Int))), (24, I x3), (49, B false)], [some ⟨0, Enc.cells v7⟩]⟩) [0, 22, 23, 24, 49] (by kernel_rfl)).trans (Imp.to [0, 22, 23, 24, 49] (by kernel_rfl))⟩
  rintro x9 h
  unfold impl_RowFits_j2 at h
  refine pc h (fun h => ?_) (fun h => ?_)
  refine srveM [6] 51 [(4, B false)] [some ⟨0, Enc.cells v7⟩] ?_
  cases h
  exact pwp_ret rz
  refine pwp_skip ?_
  refine rveM [6] 51 [(0, A a0), (22, A a1), (23, I ((a1.length : Int))), (24, I ((w64 (x3 + 1))))] [some ⟨0, Enc.cells v7⟩] ?_
  exact ⟨(f4, (w64 (x3 + 1))), h, Nat.lt_succ_self _, (Imp.to (st' := ⟨51, [(0, A a0), (22, A a1), (23, I ((a1.length : Int))), (24, I ((w64 (x3 + 1))))], [some ⟨0, Enc.cells v7⟩]⟩) [0, 22, 23, 24] (by kernel_rfl)).trans ((Imp.truncS (st' := ⟨51, [(0, A a0), (22, A a1), (23, I ((a1.length : Int))), (24, I ((w64 (x3 + 1))))], []⟩) 0 (fun b hb => absurd hb (hX b)) (by kernel_rfl) (allBelow_mem (by exact (And.intro rfl (And.intro rfl (And.intro rfl (And.intro rfl trivial)))))) (by exact trivial) (by kernel_rfl)).trans (Imp.to [0, 22, 23, 24] (by kernel_rfl)))⟩
  refine pwp_exit ?_
  refine srveM [6] 51 [(4, B true)] [] ?_
  cases h
  exact pwp_ret rz
def impl_Part_kind (a0 : T_impl_Part) (a1 : List T_impl_Column) (a2 : List Int) : Option (Int × Bool) := bif (a0.fKind == 1) then some (a0.fV.fKind, true) else bif (a0.fKind == 2) then (getI a1 a0.fN).bind fun v3 => some (v3.fKind, true) else bif (a0.fKind == 3) then (impl_Part_kind_1 1 a2).bind fun v6 => some (1, v6) else bif (a0.fKind == 4) then (getI a2 0).bind fun v9 => (getI a2 1).bind fun v11 => some (3, (v9 == v11)) else bif (a0.fKind == 8) then some (3, true) else (impl_Part_kind_1 3 a2).bind fun v14 => some (3, v14)
theorem ok_impl_Part_kind {a0 : T_impl_Part} {a1 : List T_impl_Column} {a2 : List Int} {y : Int × Bool} (h : impl_Part_kind a0 a1 a2 = some y) : OK Try.prog 155 [E a0, A a1, A a2] (.tup [I y.1, B y.2]) := by
  refine OK_of_pwp τ_ok Try.func155 rfl (by kernel_rfl) rfl fun Γ hX => ?_
  unfold impl_Part_kind at h
  refine srve 42 [(1, A a1), (3, .fptr (Enc.cells a0) 0), (5, .fptr (Enc.cells a2) 0)] [] ?_
  refine srve 42 [(1, A a1), (3, .fptr (Enc.cells a0) 0), (5, .fptr (Enc.cells a2) 0), (8, .fn 167 [.fptr (Enc.cells a2) 0])] [] ?_
  refine pwp_seq ?_
  refine srve 42 [(1, A a1), (3, .fptr (Enc.cells a0) 0), (5, .fptr (Enc.cells a2) 0), (8, .fn 167 [.fptr (Enc.cells a2) 0]), (11, I a0.fKind)] [] ?_
  refine pwp_block ?_
  refine srve 42 [(1, A a1), (3, .fptr (Enc.cells a0) 0), (5, .fptr (Enc.cells a2) 0), (8, .fn 167 [.fptr (Enc.cells a2) 0]), (11, I a0.fKind), (12, B ((a0.fKind == 1)))] [] ?_
  refine pc h (fun h => ?_) (fun h => ?_)
  refine srve 42 [(6, I a0.fV.fKind), (7, B true)] [] ?_
  have h := si h
  subst h
  exact pwp_ret (rt (.tup [I a0.fV.fKind, B true]) (OutP.tup (OutL.cons (OutP.frz (by kernel_rfl)) (OutL.cons (OutP.frz (by kernel_rfl)) (OutL.nil _)))))
  refine srve 42 [(1, A a1), (3, .fptr (Enc.cells a0) 0), (5, .fptr (Enc.cells a2) 0), (8, .fn 167 [.fptr (Enc.cells a2) 0]), (11, I a0.fKind), (17, B ((a0.fKind == 2)))] [] ?_
  refine pc h (fun h => ?_) (fun h => ?_)
  refine srv 3 42 [(19, A a1), (21, I a0.fN)] [] ?_
  obtain ⟨v3, hv4, h⟩ := bindS h
  refine opsP_idx τ_ok 22 hv4 (by kernel_rfl) ?_
  refine ve 4 42 [(6, I v3.fKind), (7, B true)] [] ?_
  have h := si h
  subst h
  exact pwp_ret (rt (.tup [I v3.fKind, B true]) (OutP.tup (OutL.cons (OutP.frz (by kernel_rfl)) (OutL.cons (OutP.frz (by kernel_rfl)) (OutL.nil _)))))
  refine srve 42 [(5, .fptr (Enc.cells a2) 0), (8, .fn 167 [.fptr (Enc.cells a2) 0]), (11, I a0.fKind), (25, B ((a0.fKind == 3)))] [] ?_
  refine pc h (fun h => ?_) (fun h => ?_)
  refine srv 1 42 [(27, .fn 167 [.fptr (Enc.cells a2) 0])] [] ?_
  obtain ⟨v6, hv7, h⟩ := bindS h
  refine opsP_callF τ 28 (ok_impl_Part_kind_1 hv7) (FzTo.frz rfl) rfl (by kernel_rfl) ?_
  refine ve 2 42 [(6, I 1), (7, B v6)] [] ?_
  have h := si h
  subst h
  exact pwp_ret (rt (.tup [I 1, B v6]) (OutP.tup (OutL.cons (OutP.frz (by kernel_rfl)) (OutL.cons (OutP.frz (by kernel_rfl)) (OutL.nil _)))))
  refine srve 42 [(5, .fptr (Enc.cells a2) 0), (8, .fn 167 [.fptr (Enc.cells a2) 0]), (11, I a0.fKind), (29, B ((a0.fKind == 4)))] [] ?_
  refine pc h (fun h => ?_) (fun h => ?_)
  refine pwp_seq ?_
  refine pwp_imp (Imp.to (st' := ⟨42, [(5, .fptr (Enc.cells a2) 0)], []⟩) [5] (by kernel_rfl)) ?_
  refine pwp_any ([[], [], [], [], [], [], [], [], []]) ([[], [], [], [], [], [], [], [], []]) rfl (by kernel_rfl) ?_
  refine qA_ev (st' := ⟨42, [(31, A a2), (5, .fptr (Enc.cells a2) 0)], []⟩) τ_ok [] [] 1 (by exact trivial) (by kernel_rfl) ?_
  obtain ⟨v9, hv10, h⟩ := bindS h
  refine qA_E (dd := some 32) (x := .fptr (Enc.cells v9) 0) ([]) (⟨42, [(32, .fptr (Enc.cells v9) 0), (31, A a2), (5, .fptr (Enc.cells a2) 0)], []⟩) (fun Γ' hΓ => CoreE.of_y (idxV_sound τ_ok (by kernel_rfl) hv10)) (by kernel_rfl) (by kernel_rfl) (by exact trivial) (.inr (.inr rfl)) (by kernel_rfl) ?_
  refine qA_ev (st' := ⟨42, [(34, A a2), (33, I v9), (32, .fptr (Enc.cells v9) 0), (31, A a2), (5, .fptr (Enc.cells a2) 0)], []⟩) τ_ok [] [] 2 (by exact trivial) (by kernel_rfl) ?_
  obtain ⟨v11, hv12, h⟩ := bindS h
  refine qA_E (dd := some 35) (x := .fptr (Enc.cells v11) 0) ([]) (⟨42, [(35, .fptr (Enc.cells v11) 0), (34, A a2), (33, I v9), (32, .fptr (Enc.cells v9) 0), (31, A a2), (5, .fptr (Enc.cells a2) 0)], []⟩) (fun Γ' hΓ => CoreE.of_y (idxV_sound τ_ok (by kernel_rfl) hv12)) (by kernel_rfl) (by kernel_rfl) (by exact trivial) (.inr (.inr rfl)) (by kernel_rfl) ?_
  refine qA_ev (st' := ⟨42, [(7, B ((v9 == v11))), (6, I 3), (37, B ((v9 == v11))), (36, I v11), (35, .fptr (Enc.cells v11) 0), (34, A a2), (33, I v9), (32, .fptr (Enc.cells v9) 0), (31, A a2), (5, .fptr (Enc.cells a2) 0)], []⟩) τ_ok [] [] 4 (by exact trivial) (by kernel_rfl) ?_
  refine qA_end ?_
  refine opsP_imp (Imp.to (st' := ⟨42, [(6, I 3), (7, B ((v9 == v11)))], []⟩) [6, 7] (by kernel_rfl)) ?_
  refine opsP_end rfl ?_
  have h := si h
  subst h
  exact pwp_ret (rt (.tup [I 3, B ((v9 == v11))]) (OutP.tup (OutL.cons (OutP.frz (by kernel_rfl)) (OutL.cons (OutP.frz (by kernel_rfl)) (OutL.nil _)))))
  refine srve 42 [(8, .fn 167 [.fptr (Enc.cells a2) 0]), (38, B ((a0.fKind == 8)))] [] ?_
  refine pc h (fun h => ?_) (fun h => ?_)
  refine srve 42 [(6, I 3), (7, B true)] [] ?_
  have h := si h
  subst h
  exact pwp_ret (rt (.tup [I 3, B true]) (OutP.tup (OutL.cons (OutP.frz (by kernel_rfl)) (OutL.cons (OutP.frz (by kernel_rfl)) (OutL.nil _)))))
  refine pwp_skip ?_
  refine srv 1 42 [(40, .fn 167 [.fptr (Enc.cells a2) 0])] [] ?_
  obtain ⟨v14, hv15, h⟩ := bindS h
  refine opsP_callF τ 41 (ok_impl_Part_kind_1 hv15) (FzTo.frz rfl) rfl (by kernel_rfl) ?_
  refine ve 2 42 [(6, I 3), (7, B v14)] [] ?_
  have h := si h
  subst h
  exact pwp_ret (rt (.tup [I 3, B v14]) (OutP.tup (OutL.cons (OutP.frz (by kernel_rfl)) (OutL.cons (OutP.frz (by kernel_rfl)) (OutL.nil _)))))
def laws_szTableS_l0 (a0 : List T_laws_Table) : Nat → Int → Int → Option Int
  | 0, _, _ => none
  | f4 + 1, x2, x3 => bif (decide (x3 < ((a0.length : Int)))) then (getI a0 x3).bind fun v7 => (laws_szTable v7 x2).bind fun v9 => bif (decide (v9 < 0)) then some (-1) else (laws_szTableS_l0 a0 f4) v9 ((w64 (x3 + 1))) else some x2
def laws_szTableS (a0 : List T_laws_Table) (a1 : Int) : Option Int := bif (decide (((w64 (a1 - ((a0.length : Int))))) < 0)) then some (-1) else laws_szTableS_l0 a0 FUEL ((w64 (a1 - ((a0.length : Int))))) 0
theorem ok_laws_szTableS {a0 : List T_laws_Table} {a1 : Int} {y : Int} (h : laws_szTableS a0 a1 = some y) : OK Try.prog 6 [A a0, I a1] (I y) := by
  refine OK_of_pwp τ_ok Try.func6 rfl (by kernel_rfl) rfl fun Γ hX => ?_
  unfold laws_szTableS at h
  refine srve 27 [(0, A a0), (1, I a1)] [] ?_
  refine srve 27 [(0, A a0), (1, I ((w64 (a1 - ((a0.length : Int))))))] [] ?_
  refine pwp_seq ?_
  refine srve 27 [(0, A a0), (1, I ((w64 (a1 - ((a0.length : Int)))))), (11, B ((decide (((w64 (a1 - ((a0.length : Int))))) < 0))))] [] ?_
  refine pc h (fun h => ?_) (fun h => ?_)
  refine srve 27 [(4, I (-1))] [] ?_
  cases h
  exact pwp_ret rz
  refine pwp_skip ?_
  refine pwp_seq ?_
  refine srve 27 [(0, A a0), (1, I ((w64 (a1 - ((a0.length : Int)))))), (5, I 0)] [] ?_
  refine pwp_block ?_
  refine pwp_loop (ι := Nat × Int × Int) (fun (f4, x2, x3) => (⟨27, [(0, A a0), (1, I x2), (5, I x3)], []⟩ : St)) (fun (f4, x2, x3) => laws_szTableS_l0 a0 f4 x2 x3 = some y) (fun (f4, x2, x3) => f4) (FUEL, (w64 (a1 - ((a0.length : Int)))), 0) h ((Imp.to (st' := ⟨27, [(0, A a0), (1, I ((w64 (a1 - ((a0.length : Int)))))), (5, I 0)], []⟩) [0, 1, 5] (by kernel_rfl)).trans (Imp.to [0, 1, 5] (by kernel_rfl))) ?_
  rintro ⟨f4, x2, x3⟩ h
  dsimp only at h ⊢
  rcases f4 with _ | f4
  cases h
  rw [laws_szTableS_l0] at h
  refine pwp_seq ?_
  refine srve 27 [(0, A a0), (1, I x2), (5, I x3), (15, B ((decide (x3 < ((a0.length : Int))))))] [] ?_
  refine pc h (fun h => ?_) (fun h => ?_)
  refine pwp_skip ?_
  refine pwp_seq ?_
  refine pwp_block ?_
  refine srv 2 27 [(0, A a0), (1, I x2), (5, I x3), (18, A a0), (19, I x3)] [] ?_
  obtain ⟨v7, hv8, h⟩ := bindS h
  refine opsP_idx τ_ok 20 hv8 (by kernel_rfl) ?_
  refine v 2 27 [(0, A a0), (5, I x3), (21, E v7), (22, I x2)] [] ?_
  obtain ⟨v9, hv10, h⟩ := bindS h
  refine opsP_callF τ 23 (ok_laws_szTable hv10) (FzTo.frz rfl) rfl (by kernel_rfl) ?_
  refine ve 1 27 [(0, A a0), (1, I v9), (5, I x3)] [] ?_
  refine srve 27 [(0, A a0), (1, I v9), (5, I x3), (25, B ((decide (v9 < 0))))] [] ?_
  refine pc h (fun h => ?_) (fun h => ?_)
  refine srve 27 [(4, I (-1))] [] ?_
  cases h
  exact pwp_ret rz
  refine pwp_skip ?_
  refine rve 27 [(0, A a0), (1, I v9), (5, I ((w64 (x3 + 1))))] [] ?_
  exact ⟨(f4, v9, (w64 (x3 + 1))), h, Nat.lt_succ_self _, (Imp.to (st' := ⟨27, [(0, A a0), (1, I v9), (5, I ((w64 (x3 + 1))))], []⟩) [0, 1, 5] (by kernel_rfl)).trans (Imp.to [0, 1, 5] (by kernel_rfl))⟩
  refine pwp_exit ?_
  refine srve 27 [(4, I x2)] [] ?_
  cases h
  exact pwp_ret rz
def laws_szStepS_l0 (a0 : List T_laws_Step) : Nat → Int → Int → Option Int
  | 0, _, _ => none
  | f4 + 1, x2, x3 => bif (decide (x3 < ((a0.length : Int)))) then (getI a0 x3).bind fun v7 => (laws_szStep v7 x2).bind fun v9 => bif (decide (v9 < 0)) then some (-1) else (laws_szStepS_l0 a0 f4) v9 ((w64 (x3 + 1))) else some x2
def laws_szStepS (a0 : List T_laws_Step) (a1 : Int) : Option Int := bif (decide (((w64 (a1 - ((a0.length : Int))))) < 0)) then some (-1) else laws_szStepS_l0 a0 FUEL ((w64 (a1 - ((a0.length : Int))))) 0
theorem ok_laws_szStepS {a0 : List T_laws_Step} {a1 : Int} {y : Int} (h : laws_szStepS a0 a1 = some y) : OK Try.prog 7 [A a0, I a1] (I y) := by
  refine OK_of_pwp τ_ok Try.func7 rfl (by kernel_rfl) rfl fun Γ hX => ?_
  unfold laws_szStepS at h
  refine srve 27 [(0, A a0), (1, I a1)] [] ?_
  refine srve 27 [(0, A a0), (1, I ((w64 (a1 - ((a0.length : Int))))))] [] ?_
  refine pwp_seq ?_
  refine srve 27 [(0, A a0), (1, I ((w64 (a1 - ((a0.length : Int)))))), (11, B ((decide (((w64 (a1 - ((a0.length : Int))))) < 0))))] [] ?_
  refine pc h (fun h => ?_) (fun h => ?_)
  refine srve 27 [(4, I (-1))] [] ?_
  cases h
  exact pwp_ret rz
  refine pwp_skip ?_
  refine pwp_seq ?_
  refine srve 27 [(0, A a0), (1, I ((w64 (a1 - ((a0.length : Int)))))), (5, I 0)] [] ?_
  refine pwp_block ?_
  refine pwp_loop (ι := Nat × Int × Int) (fun (f4, x2, x3) => (⟨27, [(0, A a0), (1, I x2), (5, I x3)], []⟩ : St)) (fun (f4, x2, x3) => laws_szStepS_l0 a0 f4 x2 x3 = some y) (fun (f4, x2, x3) => f4) (FUEL, (w64 (a1 - ((a0.length : Int)))), 0) h ((Imp.to (st' := ⟨27, [(0, A a0), (1, I ((w64 (a1 - ((a0.length : Int)))))), (5, I 0)], []⟩) [0, 1, 5] (by kernel_rfl)).trans (Imp.to [0, 1, 5] (by kernel_rfl))) ?_
  rintro ⟨f4, x2, x3⟩ h
  dsimp only at h ⊢
  rcases f4 with _ | f4
  cases h
  rw [laws_szStepS_l0] at h
  refine pwp_seq ?_
  refine srve 27 [(0, A a0), (1, I x2), (5, I x3), (15, B ((decide (x3 < ((a0.length : Int))))))] [] ?_
  refine pc h (fun h => ?_) (fun h => ?_)
  refine pwp_skip ?_
  refine pwp_seq ?_
  refine pwp_block ?_
  refine srv 2 27 [(0, A a0), (1, I x2), (5, I x3), (18, A a0), (19, I x3)] [] ?_
  obtain ⟨v7, hv8, h⟩ := bindS h
  refine opsP_idx τ_ok 20 hv8 (by kernel_rfl) ?_
  refine v 2 27 [(0, A a0), (5, I x3), (21, E v7), (22, I x2)] [] ?_
  obtain ⟨v9, hv10, h⟩ := bindS h
  refine opsP_callF τ 23 (ok_laws_szStep hv10) (FzTo.frz rfl) rfl (by kernel_rfl) ?_
  refine ve 1 27 [(0, A a0), (1, I v9), (5, I x3)] [] ?_
  refine srve 27 [(0, A a0), (1, I v9), (5, I x3), (25, B ((decide (v9 < 0))))] [] ?_
  refine pc h (fun h => ?_) (fun h => ?_)
  refine srve 27 [(4, I (-1))] [] ?_
  cases h
  exact pwp_ret rz
  refine pwp_skip ?_
  refine rve 27 [(0, A a0), (1, I v9), (5, I ((w64 (x3 + 1))))] [] ?_
  exact ⟨(f4, v9, (w64 (x3 + 1))), h, Nat.lt_succ_self _, (Imp.to (st' := ⟨27, [(0, A a0), (1, I v9), (5, I ((w64 (x3 + 1))))], []⟩) [0, 1, 5] (by kernel_rfl)).trans (Imp.to [0, 1, 5] (by kernel_rfl))⟩
  refine pwp_exit ?_
  refine srve 27 [(4, I x2)] [] ?_
  cases h
  exact pwp_ret rz
def laws_eqTableS_l0 (a0 : List T_impl_Table) (a1 : List T_impl_Table) : Nat → Int → Option Bool
  | 0, _ => none
  | f3 + 1, x2 => bif (decide (x2 < ((a0.length : Int)))) then (getI a0 x2).bind fun v6 => (getI a1 x2).bind fun v8 => (laws_eqTable v6 v8).bind fun v10 => bif (!v10) then some false else (laws_eqTableS_l0 a0 a1 f3) ((w64 (x2 + 1))) else some true
def laws_eqTableS (a0 : List T_impl_Table) (a1 : List T_impl_Table) : Option Bool := bif (!(((a0.length : Int)) == ((a1.length : Int)))) then some false else laws_eqTableS_l0 a0 a1 FUEL 0
theorem ok_laws_eqTableS {a0 : List T_impl_Table} {a1 : List T_impl_Table} {y : Bool} (h : laws_eqTableS a0 a1 = some y) : OK Try.prog 13 [A a0, A a1] (B y) := by
  refine OK_of_pwp τ_ok Try.func13 rfl (by kernel_rfl) rfl fun Γ hX => ?_
  unfold laws_eqTableS at h
  refine srve 27 [(0, A a0), (1, A a1)] [] ?_
  refine pwp_seq ?_
  refine srve 27 [(0, A a0), (1, A a1), (10, B ((!(((a0.length : Int)) == ((a1.length : Int))))))] [] ?_
  refine pc h (fun h => ?_) (fun h => ?_)
  refine srve 27 [(4, B false)] [] ?_
  cases h
  exact pwp_ret rz
  refine pwp_skip ?_
  refine pwp_seq ?_
  refine srve 27 [(0, A a0), (1, A a1), (5, I 0)] [] ?_
  refine pwp_block ?_
  refine pwp_loop (ι := Nat × Int) (fun (f3, x2) => (⟨27, [(0, A a0), (1, A a1), (5, I x2)], []⟩ : St)) (fun (f3, x2) => laws_eqTableS_l0 a0 a1 f3 x2 = some y) (fun (f3, x2) => f3) (FUEL, 0) h ((Imp.to (st' := ⟨27, [(0, A a0), (1, A a1), (5, I 0)], []⟩) [0, 1, 5] (by kernel_rfl)).trans (Imp.to [0, 1, 5] (by kernel_rfl))) ?_
  rintro ⟨f3, x2⟩ h
  dsimp only at h ⊢
  rcases f3 with _ | f3
  cases h
  rw [laws_eqTableS_l0] at h
  refine pwp_seq ?_
  refine srve 27 [(0, A a0), (1, A a1), (5, I x2), (14, B ((decide (x2 < ((a0.length : Int))))))] [] ?_
  refine pc h (fun h => ?_) (fun h => ?_)
  refine pwp_skip ?_
  refine pwp_seq ?_
  refine pwp_block ?_
  refine pwp_seq ?_
  refine pwp_imp (Imp.to (st' := ⟨27, [(0, A a0), (1, A a1), (5, I x2)], []⟩) [0, 1, 5] (by kernel_rfl)) ?_
  refine pwp_any ([[], [], [], [], [], [], [], [], [], []]) ([[], [], [], [], [], [], [], [], [], []]) rfl (by kernel_rfl) ?_
  refine qA_ev (st' := ⟨27, [(18, I x2), (17, A a0), (0, A a0), (1, A a1), (5, I x2)], []⟩) τ_ok [] [] 2 (by exact trivial) (by kernel_rfl) ?_
  obtain ⟨v6, hv7, h⟩ := bindS h
  refine qA_E (dd := some 19) (x := .fptr (Enc.cells v6) 0) ([]) (⟨27, [(19, .fptr (Enc.cells v6) 0), (18, I x2), (17, A a0), (0, A a0), (1, A a1), (5, I x2)], []⟩) (fun Γ' hΓ => CoreE.of_y (idxV_sound τ_ok (by kernel_rfl) hv7)) (by kernel_rfl) (by kernel_rfl) (by exact trivial) (.inr (.inr rfl)) (by kernel_rfl) ?_
  refine qA_ev (st' := ⟨27, [(22, I x2), (21, A a1), (20, E v6), (19, .fptr (Enc.cells v6) 0), (18, I x2), (17, A a0), (0, A a0), (1, A a1), (5, I x2)], []⟩) τ_ok [] [] 3 (by exact trivial) (by kernel_rfl) ?_
  obtain ⟨v8, hv9, h⟩ := bindS h
  refine qA_E (dd := some 23) (x := .fptr (Enc.cells v8) 0) ([]) (⟨27, [(23, .fptr (Enc.cells v8) 0), (22, I x2), (21, A a1), (20, E v6), (19, .fptr (Enc.cells v6) 0), (18, I x2), (17, A a0), (0, A a0), (1, A a1), (5, I x2)], []⟩) (fun Γ' hΓ => CoreE.of_y (idxV_sound τ_ok (by kernel_rfl) hv9)) (by kernel_rfl) (by kernel_rfl) (by exact trivial) (.inr (.inr rfl)) (by kernel_rfl) ?_
  refine qA_ev (st' := ⟨27, [(24, E v8), (23, .fptr (Enc.cells v8) 0), (22, I x2), (21, A a1), (20, E v6), (19, .fptr (Enc.cells v6) 0), (18, I x2), (17, A a0), (0, A a0), (1, A a1), (5, I x2)], []⟩) τ_ok [] [] 1 (by exact trivial) (by kernel_rfl) ?_
  obtain ⟨v10, hv11, h⟩ := bindS h
  refine qA_E (dd := some 25) (x := B v10) ([]) (⟨27, [(25, B v10), (24, E v8), (23, .fptr (Enc.cells v8) 0), (22, I x2), (21, A a1), (20, E v6), (19, .fptr (Enc.cells v6) 0), (18, I x2), (17, A a0), (0, A a0), (1, A a1), (5, I x2)], []⟩) (fun Γ' hΓ => CoreE.of_g (callV_sound (τ := τ) (by kernel_rfl) rfl (ok_laws_eqTable hv11) (FzTo.frz rfl))) (by kernel_rfl) (by kernel_rfl) (by exact trivial) (.inr (.inr rfl)) (by kernel_rfl) ?_
  refine qA_ev (st' := ⟨27, [(26, B ((!v10))), (25, B v10), (24, E v8), (23, .fptr (Enc.cells v8) 0), (22, I x2), (21, A a1), (20, E v6), (19, .fptr (Enc.cells v6) 0), (18, I x2), (17, A a0), (0, A a0), (1, A a1), (5, I x2)], []⟩) τ_ok [] [] 1 (by exact trivial) (by kernel_rfl) ?_
  refine qA_end ?_
  refine opsP_imp (Imp.to (st' := ⟨27, [(0, A a0), (1, A a1), (5, I x2), (26, B ((!v10)))], []⟩) [0, 1, 5, 26] (by kernel_rfl)) ?_
  refine opsP_end rfl ?_
  refine pc h (fun h => ?_) (fun h => ?_)
  refine srve 27 [(4, B false)] [] ?_
  cases h
  exact pwp_ret rz
  refine pwp_skip ?_
  refine rve 27 [(0, A a0), (1, A a1), (5, I ((w64 (x2 + 1))))] [] ?_
  exact ⟨(f3, (w64 (x2 + 1))), h, Nat.lt_succ_self _, (Imp.to (st' := ⟨27, [(0, A a0), (1, A a1), (5, I ((w64 (x2 + 1))))], []⟩) [0, 1, 5] (by kernel_rfl)).trans (Imp.to [0, 1, 5] (by kernel_rfl))⟩
  refine pwp_exit ?_
  refine srve 27 [(4, B true)] [] ?_
  cases h
  exact pwp_ret rz
def laws_eqStepS_l0 (a0 : List T_impl_Step) (a1 : List T_impl_Step) : Nat → Int → Option Bool
  | 0, _ => none
  | f3 + 1, x2 => bif (decide (x2 < ((a0.length : Int)))) then (getI a0 x2).bind fun v6 => (getI a1 x2).bind fun v8 => (laws_eqStep v6 v8).bind fun v10 => bif (!v10) then some false else (laws_eqStepS_l0 a0 a1 f3) ((w64 (x2 + 1))) else some true
def laws_eqStepS (a0 : List T_impl_Step) (a1 : List T_impl_Step) : Option Bool := bif (!(((a0.length : Int)) == ((a1.length : Int)))) then some false else laws_eqStepS_l0 a0 a1 FUEL 0
theorem ok_laws_eqStepS {a0 : List T_impl_Step} {a1 : List T_impl_Step} {y : Bool} (h : laws_eqStepS a0 a1 = some y) : OK Try.prog 14 [A a0, A a1] (B y) := by
  refine OK_of_pwp τ_ok Try.func14 rfl (by kernel_rfl) rfl fun Γ hX => ?_
  unfold laws_eqStepS at h
  refine srve 27 [(0, A a0), (1, A a1)] [] ?_
  refine pwp_seq ?_
  refine srve 27 [(0, A a0), (1, A a1), (10, B ((!(((a0.length : Int)) == ((a1.length : Int))))))] [] ?_
  refine pc h (fun h => ?_) (fun h => ?_)
  refine srve 27 [(4, B false)] [] ?_
  cases h
  exact pwp_ret rz
  refine pwp_skip ?_
  refine pwp_seq ?_
  refine srve 27 [(0, A a0), (1, A a1), (5, I 0)] [] ?_
  refine pwp_block ?_
  refine pwp_loop (ι := Nat × Int) (fun (f3, x2) => (⟨27, [(0, A a0), (1, A a1), (5, I x2)], []⟩ : St)) (fun (f3, x2) => laws_eqStepS_l0 a0 a1 f3 x2 = some y) (fun (f3, x2) => f3) (FUEL, 0) h ((Imp.to (st' := ⟨27, [(0, A a0), (1, A a1), (5, I 0)], []⟩) [0, 1, 5] (by kernel_rfl)).trans (Imp.to [0, 1, 5] (by kernel_rfl))) ?_
  rintro ⟨f3, x2⟩ h
  dsimp only at h ⊢
  rcases f3 with _ | f3
  cases h
  rw [laws_eqStepS_l0] at h
  refine pwp_seq ?_
  refine srve 27 [(0, A a0), (1, A a1), (5, I x2), (14, B ((decide (x2 < ((a0.length : Int))))))] [] ?_
  refine pc h (fun h => ?_) (fun h => ?_)
  refine pwp_skip ?_
  refine pwp_seq ?_
  refine pwp_block ?_
  refine pwp_seq ?_
  refine pwp_imp (Imp.to (st' := ⟨27, [(0, A a0), (1, A a1), (5, I x2)], []⟩) [0, 1, 5] (by kernel_rfl)) ?_
  refine pwp_any ([[], [], [], [], [], [], [], [], [], []]) ([[], [], [], [], [], [], [], [], [], []]) rfl (by kernel_rfl) ?_
  refine qA_ev (st' := ⟨27, [(18, I x2), (17, A a0), (0, A a0), (1, A a1), (5, I x2)], []⟩) τ_ok [] [] 2 (by exact trivial) (by kernel_rfl) ?_
  obtain ⟨v6, hv7, h⟩ := bindS h
  refine qA_E (dd := some 19) (x := .fptr (Enc.cells v6) 0) ([]) (⟨27, [(19, .fptr (Enc.cells v6) 0), (18, I x2), (17, A a0), (0, A a0), (1, A a1), (5, I x2)], []⟩) (fun Γ' hΓ => CoreE.of_y (idxV_sound τ_ok (by kernel_rfl) hv7)) (by kernel_rfl) (by kernel_rfl) (by exact trivial) (.inr (.inr rfl)) (by kernel_rfl) ?_
  refine qA_ev (st' := ⟨27, [(22, I x2), (21, A a1), (20, E v6), (19, .fptr (Enc.cells v6) 0), (18, I x2), (17, A a0), (0, A a0), (1, A a1), (5, I x2)], []⟩) τ_ok [] [] 3 (by exact trivial) (by kernel_rfl) ?_
  obtain ⟨v8, hv9, h⟩ := bindS h
  refine qA_E (dd := some 23) (x := .fptr (Enc.cells v8) 0) ([]) (⟨27, [(23, .fptr (Enc.cells v8) 0), (22, I x2), (21, A a1), (20, E v6), (19, .fptr (Enc.cells v6) 0), (18, I x2), (17, A a0), (0, A a0), (1, A a1), (5, I x2)], []⟩) (fun Γ' hΓ => CoreE.of_y (idxV_sound τ_ok (by kernel_rfl) hv9)) (by kernel_rfl) (by kernel_rfl) (by exact trivial) (.inr (.inr rfl)) (by kernel_rfl) ?_
  refine qA_ev (st' := ⟨27, [(24, E v8), (23, .fptr (Enc.cells v8) 0), (22, I x2), (21, A a1), (20, E v6), (19, .fptr (Enc.cells v6) 0), (18, I x2), (17, A a0), (0, A a0), (1, A a1), (5, I x2)], []⟩) τ_ok [] [] 1 (by exact trivial) (by kernel_rfl) ?_
  obtain ⟨v10, hv11, h⟩ := bindS h
  refine qA_E (dd := some 25) (x := B v10) ([]) (⟨27, [(25, B v10), (24, E v8), (23, .fptr (Enc.cells v8) 0), (22, I x2), (21, A a1), (20, E v6), (19, .fptr (Enc.cells v6) 0), (18, I x2), (17, A a0), (0, A a0), (1, A a1), (5, I x2)], []⟩) (fun Γ' hΓ => CoreE.of_g (callV_sound (τ := τ) (by kernel_rfl) rfl (ok_laws_eqStep hv11) (FzTo.frz rfl))) (by kernel_rfl) (by kernel_rfl) (by exact trivial) (.inr (.inr rfl)) (by kernel_rfl) ?_
  refine qA_ev (st' := ⟨27, [(26, B ((!v10))), (25, B v10), (24, E v8), (23, .fptr (Enc.cells v8) 0), (22, I x2), (21, A a1), (20, E v6), (19, .fptr (Enc.cells v6) 0), (18, I x2), (17, A a0), (0, A a0), (1, A a1), (5, I x2)], []⟩) τ_ok [] [] 1 (by exact trivial) (by kernel_rfl) ?_
  refine qA_end ?_
  refine opsP_imp (Imp.to (st' := ⟨27, [(0, A a0), (1, A a1), (5, I x2), (26, B ((!v10)))], []⟩) [0, 1, 5, 26] (by kernel_rfl)) ?_
  refine opsP_end rfl ?_
  refine pc h (fun h => ?_) (fun h => ?_)
  refine srve 27 [(4, B false)] [] ?_
  cases h
  exact pwp_ret rz
  refine pwp_skip ?_
  refine rve 27 [(0, A a0), (1, A a1), (5, I ((w64 (x2 + 1))))] [] ?_
  exact ⟨(f3, (w64 (x2 + 1))), h, Nat.lt_succ_self _, (Imp.to (st' := ⟨27, [(0, A a0), (1, A a1), (5, I ((w64 (x2 + 1))))], []⟩) [0, 1, 5] (by kernel_rfl)).trans (Imp.to [0, 1, 5] (by kernel_rfl))⟩
  refine pwp_exit ?_
  refine srve 27 [(4, B true)] [] ?_
  cases h
  exact pwp_ret rz
def spec_l6All_l0 (a0 : List T_impl_Table) (a1 : List T_impl_Step) : Nat → Int → (List (List T_impl_Column)) → (List Int) → Option ((List (List T_impl_Column)) × Bool)
  | 0, _, _, _ => none
  | f6 + 1, x3, x4, x5 => bif (decide (x3 < ((a1.length : Int)))) then (getI a1 x3).bind fun v9 => (spec_l6Columns a0 x4 v9).bind fun v11 => bif (!v11.2) then some (([] : List (List T_impl_Column)), false) else (app x4 (([v11.1] : List (List T_impl_Column)))).bind fun v14 => (getI a1 x3).bind fun v16 => (spec_l6Made x5 v16).bind fun v18 => (app x5 (([v18] : List Int))).bind fun v20 => (getI v20 x3).bind fun v22 => bif (decide (v22 > 300)) then some (([] : List (List T_impl_Column)), false) else (spec_l6All_l0 a0 a1 f6) ((w64 (x3 + 1))) v14 v20 else some (x4, true)
def spec_l6All (a0 : List T_impl_Table) (a1 : List T_impl_Step) : Option ((List (List T_impl_Column)) × Bool) := spec_l6All_l0 a0 a1 FUEL 0 (([] : List (List T_impl_Column))) (([] : List Int))
theorem ok_spec_l6All {a0 : List T_impl_Table} {a1 : List T_impl_Step} {y : (List (List T_impl_Column)) × Bool} (h : spec_l6All a0 a1 = some y) : OK Try.prog 38 [A a0, A a1] (.tup [O y.1, B y.2]) := by
  refine OK_of_pwp τ_ok Try.func38 rfl (by kernel_rfl) rfl fun Γ hX => ?_
  unfold spec_l6All at h
  refine srve 52 [(0, A a0), (1, A a1)] [] ?_
  refine srve 52 [(0, A a0), (1, A a1), (6, .arr 1 0 (eL ([] : List (List T_impl_Column))) true)] [] ?_
  refine srve 52 [(0, A a0), (1, A a1), (6, .arr 1 0 (eL ([] : List (List T_impl_Column))) true), (7, .arr 1 0 (eL ([] : List Int)) true)] [] ?_
  refine pwp_seq ?_
  refine srve 52 [(0, A a0), (1, A a1), (6, .arr 1 0 (eL ([] : List (List T_impl_Column))) true), (7, .arr 1 0 (eL ([] : List Int)) true), (8, I 0)] [] ?_
  refine pwp_block ?_
  refine pwp_loop (ι := Nat × Int × (List (List T_impl_Column)) × (List Int)) (fun (f6, x3, x4, x5) => (⟨52, [(0, A a0), (1, A a1), (6, .ref 0 0 0 1 x4.length false), (7, .ref 1 0 0 1 x5.length false), (8, I x3)], [some ⟨0, eL x4⟩, some ⟨0, eL x5⟩]⟩ : St)) (fun (f6, x3, x4, x5) => spec_l6All_l0 a0 a1 f6 x3 x4 x5 = some y) (fun (f6, x3, x4, x5) => f6) (FUEL, 0, ([] : List (List T_impl_Column)), ([] : List Int)) h ((Imp.to (st' := ⟨52, [(0, A a0), (1, A a1), (6, .arr 1 0 (eL ([] : List (List T_impl_Column))) true), (7, .arr 1 0 (eL ([] : List Int)) true), (8, I 0)], []⟩) [0, 1, 6, 7, 8] (by kernel_rfl)).trans ((Imp.thawS (st' := ⟨52, [(0, A a0), (1, A a1), (6, .ref 0 0 0 1 (([] : List (List T_impl_Column))).length false), (7, .arr 1 0 (eL ([] : List Int)) true), (8, I 0)], [some ⟨0, eL (([] : List (List T_impl_Column)))⟩]⟩) 6 [0, 1, 6, 7, 8] (by kernel_rfl)).trans ((Imp.thawS (st' := ⟨52, [(0, A a0), (1, A a1), (6, .ref 0 0 0 1 (([] : List (List T_impl_Column))).length false), (7, .ref 1 0 0 1 (([] : List Int)).length false), (8, I 0)], [some ⟨0, eL (([] : List (List T_impl_Column)))⟩, some ⟨0, eL (([] : List Int))⟩]⟩) 7 [0, 1, 6, 7, 8] (by kernel_rfl)).trans (Imp.to [0, 1, 6, 7, 8] (by kernel_rfl))))) ?_
  rintro ⟨f6, x3, x4, x5⟩ h
  dsimp only at h ⊢
  rcases f6 with _ | f6
  cases h
  rw [spec_l6All_l0] at h
  refine pwp_seq ?_
  refine srve 52 [(0, A a0), (1, A a1), (6, .ref 0 0 0 1 x4.length false), (7, .ref 1 0 0 1 x5.length false), (8, I x3), (16, B ((decide (x3 < ((a1.length : Int))))))] [some ⟨0, eL x4⟩, some ⟨0, eL x5⟩] ?_
  refine pc h (fun h => ?_) (fun h => ?_)
  refine pwp_skip ?_
  refine pwp_seq ?_
  refine pwp_block ?_
  refine srv 4 52 [(0, A a0), (1, A a1), (6, .ref 0 0 0 1 x4.length false), (7, .ref 1 0 0 1 x5.length false), (8, I x3), (20, A a0), (21, .ref 0 0 0 1 x4.length false), (22, A a1), (23, I x3)] [some ⟨0, eL x4⟩, some ⟨0, eL x5⟩] ?_
  obtain ⟨v9, hv10, h⟩ := bindS h
  refine opsP_idx τ_ok 24 hv10 (by kernel_rfl) ?_
  refine v 1 52 [(0, A a0), (1, A a1), (6, .ref 0 0 0 1 x4.length false), (7, .ref 1 0 0 1 x5.length false), (8, I x3), (20, A a0), (21, .ref 0 0 0 1 x4.length false), (25, E v9)] [some ⟨0, eL x4⟩, some ⟨0, eL x5⟩] ?_
  obtain ⟨v11, hv12, h⟩ := bindS h
  refine opsP_callV (xs := [A a0, .ref 0 0 0 1 x4.length false, E v9]) τ 26 (ok_spec_l6Columns hv12) (Blind.tup (BlindL.cons (Blind.O (fun _ => rfl) _) (BlindL.cons (Blind.lit _) BlindL.nil))) (FzTo.tup (FzToL.cons (FzTo.O _) (FzToL.cons (FzTo.frz rfl) FzToL.nil))) (by kernel_rfl) (ViewL.cons (View.frz rfl) (ViewL.cons (View.whole (v := 0) x4 (by kernel_rfl) rfl) (ViewL.cons (View.frz rfl) (ViewL.nil _)))) ?_
  refine ve 5 52 [(0, A a0), (1, A a1), (6, .ref 0 0 0 1 x4.length false), (7, .ref 1 0 0 1 x5.length false), (8, I x3), (9, A v11.1), (10, B v11.2)] [some ⟨0, eL x4⟩, some ⟨0, eL x5⟩] ?_
  refine pwp_seq ?_
  refine srve 52 [(0, A a0), (1, A a1), (6, .ref 0 0 0 1 x4.length false), (7, .ref 1 0 0 1 x5.length false), (8, I x3), (9, A v11.1), (30, B ((!v11.2)))] [some ⟨0, eL x4⟩, some ⟨0, eL x5⟩] ?_
  refine pc h (fun h => ?_) (fun h => ?_)
  refine srve 52 [(4, .arr 1 0 (eL ([] : List (List T_impl_Column))) true), (5, B false)] [some ⟨0, eL x4⟩, some ⟨0, eL x5⟩] ?_
  refine pwp_imp (Imp.to (st' := ⟨52, [(4, .arr 1 0 (eL ([] : List (List T_impl_Column))) true), (5, B false)], [some ⟨0, eL x4⟩, some ⟨0, eL x5⟩]⟩) [4, 5] (by kernel_rfl)) ?_
  refine pwp_imp (Imp.thawS (st' := ⟨52, [(4, .ref 2 0 0 1 (([] : List (List T_impl_Column))).length false), (5, B false)], [some ⟨0, eL x4⟩, some ⟨0, eL x5⟩, some ⟨0, eL (([] : List (List T_impl_Column)))⟩]⟩) 4 [4, 5] (by kernel_rfl)) ?_
  have h := si h
  subst h
  exact pwp_ret (rt (.tup [.ref 2 0 0 1 (([] : List (List T_impl_Column))).length false, B false]) (OutP.tup (OutL.cons (OutP.list (v := 0) (by kernel_rfl)) (OutL.cons (OutP.frz (by kernel_rfl)) (OutL.nil _)))))
  refine pwp_skip ?_
  refine srv 3 52 [(0, A a0), (1, A a1), (7, .ref 1 0 0 1 x5.length false), (8, I x3), (32, .ref 0 0 0 1 x4.length false), (34, .arr 1 (([v11.1] : List (List T_impl_Column))).length (eL ([v11.1] : List (List T_impl_Column))) true)] [some ⟨0, eL x4⟩, some ⟨0, eL x5⟩] ?_
  obtain ⟨v14, hv15, h⟩ := bindS h
  refine opsP_app τ_ok 35 0 0 (fun b hb => absurd hb (hX b)) hv15 (by kernel_rfl) ?_
  refine ve 1 52 [(0, A a0), (1, A a1), (6, .ref 0 1 0 1 v14.length false), (7, .ref 1 0 0 1 x5.length false), (8, I x3)] [some ⟨1, eL v14⟩, some ⟨0, eL x5⟩] ?_
  refine srv 4 52 [(0, A a0), (1, A a1), (6, .ref 0 1 0 1 v14.length false), (8, I x3), (36, .ref 1 0 0 1 x5.length false), (37, .ref 1 0 0 1 x5.length false), (38, A a1), (39, I x3)] [some ⟨1, eL v14⟩, some ⟨0, eL x5⟩] ?_
  obtain ⟨v16, hv17, h⟩ := bindS h
  refine opsP_idx τ_ok 40 hv17 (by kernel_rfl) ?_
  refine v 1 52 [(0, A a0), (1, A a1), (6, .ref 0 1 0 1 v14.length false), (8, I x3), (36, .ref 1 0 0 1 x5.length false), (37, .ref 1 0 0 1 x5.length false), (41, E v16)] [some ⟨1, eL v14⟩, some ⟨0, eL x5⟩] ?_
  obtain ⟨v18, hv19, h⟩ := bindS h
  refine opsP_callV (xs := [.ref 1 0 0 1 x5.length false, E v16]) τ 42 (ok_spec_l6Made hv19) (Blind.lit _) (FzTo.frz rfl) (by kernel_rfl) (ViewL.cons (View.whole (v := 0) x5 (by kernel_rfl) rfl) (ViewL.cons (View.frz rfl) (ViewL.nil _))) ?_
  refine v 1 52 [(0, A a0), (1, A a1), (6, .ref 0 1 0 1 v14.length false), (8, I x3), (36, .ref 1 0 0 1 x5.length false), (43, .arr 1 (([v18] : List Int)).length (eL ([v18] : List Int)) true)] [some ⟨1, eL v14⟩, some ⟨0, eL x5⟩] ?_
  obtain ⟨v20, hv21, h⟩ := bindS h
  refine opsP_app τ_ok 44 1 0 (fun b hb => absurd hb (hX b)) hv21 (by kernel_rfl) ?_
  refine ve 1 52 [(0, A a0), (1, A a1), (6, .ref 0 1 0 1 v14.length false), (7, .ref 1 1 0 1 v20.length false), (8, I x3)] [some ⟨1, eL v14⟩, some ⟨1, eL v20⟩] ?_
  refine srv 2 52 [(0, A a0), (1, A a1), (6, .ref 0 1 0 1 v14.length false), (7, .ref 1 1 0 1 v20.length false), (8, I x3), (45, .ref 1 1 0 1 v20.length false), (46, I x3)] [some ⟨1, eL v14⟩, some ⟨1, eL v20⟩] ?_
  obtain ⟨v22, hv23, h⟩ := bindS h
  refine opsP_idr τ_ok 47 1 1 v20.length hv23 rfl (by kernel_rfl) ?_
  refine opsP_lde (r := I v22) τ_ok 48 3 0 hv23 (by kernel_rfl) (by kernel_rfl) ?_
  refine ve 1 52 [(0, A a0), (1, A a1), (6, .ref 0 1 0 1 v14.length false), (7, .ref 1 1 0 1 v20.length false), (8, I x3), (49, B ((decide (v22 > 300))))] [some ⟨1, eL v14⟩, some ⟨1, eL v20⟩] ?_
  refine pc h (fun h => ?_) (fun h => ?_)
  refine srve 52 [(4, .arr 1 0 (eL ([] : List (List T_impl_Column))) true), (5, B false)] [some ⟨1, eL v14⟩, some ⟨1, eL v20⟩] ?_
  refine pwp_imp (Imp.to (st' := ⟨52, [(4, .arr 1 0 (eL ([] : List (List T_impl_Column))) true), (5, B false)], [some ⟨1, eL v14⟩, some ⟨1, eL v20⟩]⟩) [4, 5] (by kernel_rfl)) ?_
  refine pwp_imp (Imp.thawS (st' := ⟨52, [(4, .ref 2 0 0 1 (([] : List (List T_impl_Column))).length false), (5, B false)], [some ⟨1, eL v14⟩, some ⟨1, eL v20⟩, some ⟨0, eL (([] : List (List T_impl_Column)))⟩]⟩) 4 [4, 5] (by kernel_rfl)) ?_
  have h := si h
  subst h
  exact pwp_ret (rt (.tup [.ref 2 0 0 1 (([] : List (List T_impl_Column))).length false, B false]) (OutP.tup (OutL.cons (OutP.list (v := 0) (by kernel_rfl)) (OutL.cons (OutP.frz (by kernel_rfl)) (OutL.nil _)))))
  refine pwp_skip ?_
  refine rve 52 [(0, A a0), (1, A a1), (6, .ref 0 1 0 1 v14.length false), (7, .ref 1 1 0 1 v20.length false), (8, I ((w64 (x3 + 1))))] [some ⟨1, eL v14⟩, some ⟨1, eL v20⟩] ?_
  exact ⟨(f6, (w64 (x3 + 1)), v14, v20), h, Nat.lt_succ_self _, (Imp.to (st' := ⟨52, [(0, A a0), (1, A a1), (6, .ref 0 1 0 1 v14.length false), (7, .ref 1 1 0 1 v20.length false), (8, I ((w64 (x3 + 1))))], [some ⟨1, eL v14⟩, some ⟨1, eL v20⟩]⟩) [0, 1, 6, 7, 8] (by kernel_rfl)).trans ((Imp.reverS (st' := ⟨52, [(0, A a0), (1, A a1), (6, .ref 0 0 0 1 v14.length false), (7, .ref 1 1 0 1 v20.length false), (8, I ((w64 (x3 + 1))))], [some ⟨0, eL v14⟩, some ⟨1, eL v20⟩]⟩) 0 1 (eL v14) [0, 1, 6, 7, 8] (by kernel_rfl) (by exact (And.intro (eL_frz _) (And.intro (eL_frz _) trivial))) (by kernel_rfl)).trans ((Imp.reverS (st' := ⟨52, [(0, A a0), (1, A a1), (6, .ref 0 0 0 1 v14.length false), (7, .ref 1 0 0 1 v20.length false), (8, I ((w64 (x3 + 1))))], [some ⟨0, eL v14⟩, some ⟨0, eL v20⟩]⟩) 1 1 (eL v20) [0, 1, 6, 7, 8] (by kernel_rfl) (by exact (And.intro (eL_frz _) (And.intro (eL_frz _) trivial))) (by kernel_rfl)).trans (Imp.to [0, 1, 6, 7, 8] (by kernel_rfl))))⟩
  refine pwp_exit ?_
  refine srve 52 [(4, .ref 0 0 0 1 x4.length false), (5, B true)] [some ⟨0, eL x4⟩, some ⟨0, eL x5⟩] ?_
  have h := si h
  subst h
  exact pwp_ret (rt (.tup [.ref 0 0 0 1 x4.length false, B true]) (OutP.tup (OutL.cons (OutP.list (v := 0) (by kernel_rfl)) (OutL.cons (OutP.frz (by kernel_rfl)) (OutL.nil _)))))
def spec_TablesOk_j1 (x1 : Int) (K3 : Int → Option Bool) (x5 : Bool) : Option Bool := bif x5 then some false else K3 ((w64 (x1 + 1)))
def spec_TablesOk_l0 (a0 : List T_impl_Table) : Nat → Int → Option Bool
  | 0, _ => none
  | f2 + 1, x1 => bif (decide (x1 < ((a0.length : Int)))) then (getI a0 x1).bind fun v7 => bif (decide (((v7.fRows.length : Int)) > 6)) then spec_TablesOk_j1 x1 (spec_TablesOk_l0 a0 f2) true else (getI a0 x1).bind fun v9 => (getI a0 x1).bind fun v11 => (spec_RowsOk v9.fColumns v11.fRows).bind fun v13 => spec_TablesOk_j1 x1 (spec_TablesOk_l0 a0 f2) ((!v13)) else some ((decide (((a0.length : Int)) ≤ 3)))
def spec_TablesOk (a0 : List T_impl_Table) : Option Bool := spec_TablesOk_l0 a0 FUEL 0
theorem ok_spec_TablesOk {a0 : List T_impl_Table} {y : Bool} (h : spec_TablesOk a0 = some y) : OK Try.prog 49 [A a0] (B y) := by
  refine OK_of_pwp τ_ok Try.func49 rfl (by kernel_rfl) rfl fun Γ hX => ?_
  unfold spec_TablesOk at h
  refine srve 34 [(0, A a0)] [] ?_
  refine pwp_seq ?_
  refine srve 34 [(0, A a0), (3, I 0)] [] ?_
  refine pwp_block ?_
  refine pwp_loop (ι := Nat × Int) (fun (f2, x1) => (⟨34, [(0, A a0), (3, I x1)], []⟩ : St)) (fun (f2, x1) => spec_TablesOk_l0 a0 f2 x1 = some y) (fun (f2, x1) => f2) (FUEL, 0) h ((Imp.to (st' := ⟨34, [(0, A a0), (3, I 0)], []⟩) [0, 3] (by kernel_rfl)).trans (Imp.to [0, 3] (by kernel_rfl))) ?_
  rintro ⟨f2, x1⟩ h
  dsimp only at h ⊢
  rcases f2 with _ | f2
  cases h
  rw [spec_TablesOk_l0] at h
  refine pwp_seq ?_
  refine srve 34 [(0, A a0), (3, I x1), (7, B ((decide (x1 < ((a0.length : Int))))))] [] ?_
  refine pc h (fun h => ?_) (fun h => ?_)
  refine pwp_skip ?_
  refine pwp_seq ?_
  refine pwp_block ?_
  refine pwp_seq ?_
  refine pwp_join (σ := Bool) (fun x5 => (⟨34, [(0, A a0), (3, I x1), (30, B x5)], []⟩ : St)) (fun x5 => spec_TablesOk_j1 x1 (spec_TablesOk_l0 a0 f2) x5 = some y) ?_ ?_
  refine pwp_imp (Imp.to (st' := ⟨34, [(0, A a0), (3, I x1)], []⟩) [0, 3] (by kernel_rfl)) ?_
  refine pwp_any ([[], [], [], [], [], [], [], [], [], [], [], [], [], [], [], [], [], [], [], [], []]) ([[], [], [], [], [], [], [], [], [], [], [], [], [], [], [], [], [], [], [], [], []]) rfl (by kernel_rfl) ?_
  refine qA_ev (st' := ⟨34, [(11, I x1), (10, A a0), (0, A a0), (3, I x1)], []⟩) τ_ok [] [] 2 (by exact trivial) (by kernel_rfl) ?_
  obtain ⟨v7, hv8, h⟩ := bindS h
  refine qA_E (dd := some 12) (x := .fptr (Enc.cells v7) 0) ([]) (⟨34, [(12, .fptr (Enc.cells v7) 0), (11, I x1), (10, A a0), (0, A a0), (3, I x1)], []⟩) (fun Γ' hΓ => CoreE.of_y (idxV_sound τ_ok (by kernel_rfl) hv8)) (by kernel_rfl) (by kernel_rfl) (by exact trivial) (.inr (.inr rfl)) (by kernel_rfl) ?_
  refine qA_ev (st' := ⟨34, [(17, B ((decide (((v7.fRows.length : Int)) > 6)))), (16, B ((decide (((v7.fRows.length : Int)) > 6)))), (15, I ((v7.fRows.length : Int))), (14, A v7.fRows), (13, .fptr (Enc.cells v7) 1), (12, .fptr (Enc.cells v7) 0), (11, I x1), (10, A a0), (0, A a0), (3, I x1)], []⟩) τ_ok [] [] 5 (by exact trivial) (by kernel_rfl) ?_
  rcases fk ((decide (((v7.fRows.length : Int)) > 6))) with hc15 | hc15
  replace h := bT hc15 h
  rw [hc15]
  refine qA_ev (st' := ⟨34, [(30, B true), (29, .lit undef), (28, .lit undef), (27, .lit undef), (26, .lit undef), (25, .lit undef), (24, .lit undef), (23, .lit undef), (22, .lit undef), (21, .lit undef), (20, .lit undef), (19, .lit undef), (18, .lit undef), (17, B true), (16, B true), (15, I ((v7.fRows.length : Int))), (14, A v7.fRows), (13, .fptr (Enc.cells v7) 1), (12, .fptr (Enc.cells v7) 0), (11, I x1), (10, A a0), (0, A a0), (3, I x1)], []⟩) τ_ok [] [] 13 (by exact trivial) (by kernel_rfl) ?_
  refine qA_end ?_
  refine opsP_imp (Imp.to (st' := ⟨34, [(0, A a0), (3, I x1), (18, .lit undef), (19, .lit undef), (20, .lit undef), (21, .lit undef), (22, .lit undef), (23, .lit undef), (24, .lit undef), (25, .lit undef), (26, .lit undef), (27, .lit undef), (28, .lit undef), (29, .lit undef), (30, B true)], []⟩) [0, 3, 18, 19, 20, 21, 22, 23, 24, 25, 26, 27, 28, 29, 30] (by kernel_rfl)) ?_
  refine opsP_end rfl ?_
  exact ⟨true, h, (Imp.to (st' := ⟨34, [(0, A a0), (3, I x1), (30, B true)], []⟩) [0, 3, 30] (by kernel_rfl)).trans (Imp.to [0, 3, 30] (by kernel_rfl))⟩
  replace h := bF hc15 h
  rw [hc15]
  refine qA_ev (st' := ⟨34, [(19, I x1), (18, A a0), (17, B false), (16, B false), (15, I ((v7.fRows.length : Int))), (14, A v7.fRows), (13, .fptr (Enc.cells v7) 1), (12, .fptr (Enc.cells v7) 0), (11, I x1), (10, A a0), (0, A a0), (3, I x1)], []⟩) τ_ok [] [] 2 (by exact trivial) (by kernel_rfl) ?_
  obtain ⟨v9, hv10, h⟩ := bindS h
  refine qA_E (dd := some 20) (x := .fptr (Enc.cells v9) 0) ([]) (⟨34, [(20, .fptr (Enc.cells v9) 0), (19, I x1), (18, A a0), (17, B false), (16, B false), (15, I ((v7.fRows.length : Int))), (14, A v7.fRows), (13, .fptr (Enc.cells v7) 1), (12, .fptr (Enc.cells v7) 0), (11, I x1), (10, A a0), (0, A a0), (3, I x1)], []⟩) (fun Γ' hΓ => CoreE.of_y (idxV_sound τ_ok (by kernel_rfl) hv10)) (by kernel_rfl) (by kernel_rfl) (by exact trivial) (.inr (.inr rfl)) (by kernel_rfl) ?_
  refine qA_ev (st' := ⟨34, [(24, I x1), (23, A a0), (22, A v9.fColumns), (21, .fptr (Enc.cells v9) 0), (20, .fptr (Enc.cells v9) 0), (19, I x1), (18, A a0), (17, B false), (16, B false), (15, I ((v7.fRows.length : Int))), (14, A v7.fRows), (13, .fptr (Enc.cells v7) 1), (12, .fptr (Enc.cells v7) 0), (11, I x1), (10, A a0), (0, A a0), (3, I x1)], []⟩) τ_ok [] [] 4 (by exact trivial) (by kernel_rfl) ?_
  obtain ⟨v11, hv12, h⟩ := bindS h
  refine qA_E (dd := some 25) (x := .fptr (Enc.cells v11) 0) ([]) (⟨34, [(25, .fptr (Enc.cells v11) 0), (24, I x1), (23, A a0), (22, A v9.fColumns), (21, .fptr (Enc.cells v9) 0), (20, .fptr (Enc.cells v9) 0), (19, I x1), (18, A a0), (17, B false), (16, B false), (15, I ((v7.fRows.length : Int))), (14, A v7.fRows), (13, .fptr (Enc.cells v7) 1), (12, .fptr (Enc.cells v7) 0), (11, I x1), (10, A a0), (0, A a0), (3, I x1)], []⟩) (fun Γ' hΓ => CoreE.of_y (idxV_sound τ_ok (by kernel_rfl) hv12)) (by kernel_rfl) (by kernel_rfl) (by exact trivial) (.inr (.inr rfl)) (by kernel_rfl) ?_
  refine qA_ev (st' := ⟨34, [(27, A v11.fRows), (26, .fptr (Enc.cells v11) 1), (25, .fptr (Enc.cells v11) 0), (24, I x1), (23, A a0), (22, A v9.fColumns), (21, .fptr (Enc.cells v9) 0), (20, .fptr (Enc.cells v9) 0), (19, I x1), (18, A a0), (17, B false), (16, B false), (15, I ((v7.fRows.length : Int))), (14, A v7.fRows), (13, .fptr (Enc.cells v7) 1), (12, .fptr (Enc.cells v7) 0), (11, I x1), (10, A a0), (0, A a0), (3, I x1)], []⟩) τ_ok [] [] 2 (by exact trivial) (by kernel_rfl) ?_
  obtain ⟨v13, hv14, h⟩ := bindS h
  refine qA_E (dd := some 28) (x := B v13) ([]) (⟨34, [(28, B v13), (27, A v11.fRows), (26, .fptr (Enc.cells v11) 1), (25, .fptr (Enc.cells v11) 0), (24, I x1), (23, A a0), (22, A v9.fColumns), (21, .fptr (Enc.cells v9) 0), (20, .fptr (Enc.cells v9) 0), (19, I x1), (18, A a0), (17, B false), (16, B false), (15, I ((v7.fRows.length : Int))), (14, A v7.fRows), (13, .fptr (Enc.cells v7) 1), (12, .fptr (Enc.cells v7) 0), (11, I x1), (10, A a0), (0, A a0), (3, I x1)], []⟩) (fun Γ' hΓ => CoreE.of_g (callV_sound (τ := τ) (by kernel_rfl) rfl (ok_spec_RowsOk hv14) (FzTo.frz rfl))) (by kernel_rfl) (by kernel_rfl) (by exact trivial) (.inr (.inr rfl)) (by kernel_rfl) ?_
  refine qA_ev (st' := ⟨34, [(30, B ((!v13))), (29, B ((!v13))), (28, B v13), (27, A v11.fRows), (26, .fptr (Enc.cells v11) 1), (25, .fptr (Enc.cells v11) 0), (24, I x1), (23, A a0), (22, A v9.fColumns), (21, .fptr (Enc.cells v9) 0), (20, .fptr (Enc.cells v9) 0), (19, I x1), (18, A a0), (17, B false), (16, B false), (15, I ((v7.fRows.length : Int))), (14, A v7.fRows), (13, .fptr (Enc.cells v7) 1), (12, .fptr (Enc.cells v7) 0), (11, I x1), (10, A a0), (0, A a0), (3, I x1)], []⟩) τ_ok [] [] 2 (by exact trivial) (by kernel_rfl) ?_
  refine qA_end ?_
  refine opsP_imp (Imp.to (st' := ⟨34, [(0, A a0), (3, I x1), (18, A a0), (19, I x1), (20, .fptr (Enc.cells v9) 0), (21, .fptr (Enc.cells v9) 0), (22, A v9.fColumns), (23, A a0), (24, I x1), (25, .fptr (Enc.cells v11) 0), (26, .fptr (Enc.cells v11) 1), (27, A v11.fRows), (28, B v13), (29, B ((!v13))), (30, B ((!v13)))], []⟩) [0, 3, 18, 19, 20, 21, 22, 23, 24, 25, 26, 27, 28, 29, 30] (by kernel_rfl)) ?_
  refine opsP_end rfl ?_
  exact ⟨(!v13), h, (Imp.to (st' := ⟨34, [(0, A a0), (3, I x1), (30, B ((!v13)))], []⟩) [0, 3, 30] (by kernel_rfl)).trans (Imp.to [0, 3, 30] (by kernel_rfl))⟩
  rintro x5 h
  unfold spec_TablesOk_j1 at h
  refine pc h (fun h => ?_) (fun h => ?_)
  refine srve 34 [(2, B false)] [] ?_
  cases h
  exact pwp_ret rz
  refine pwp_skip ?_
  refine rve 34 [(0, A a0), (3, I ((w64 (x1 + 1))))] [] ?_
  exact ⟨(f2, (w64 (x1 + 1))), h, Nat.lt_succ_self _, (Imp.to (st' := ⟨34, [(0, A a0), (3, I ((w64 (x1 + 1))))], []⟩) [0, 3] (by kernel_rfl)).trans (Imp.to [0, 3] (by kernel_rfl))⟩
  refine pwp_exit ?_
  refine srve 34 [(2, B ((decide (((a0.length : Int)) ≤ 3))))] [] ?_
  cases h
  exact pwp_ret rz
def impl_ExprKind_j2 (a0 : List T_impl_Column) (x4 : Int) (x5 : List Int) (K7 : Int → (List Int) → Option Int) (v9 : T_impl_Part) (v11 : Int) (x13 : Bool) : Option Int := bif x13 then some (-1) else (slI x5 (some ((w64 (((x5.length : Int)) - v11)))) none none).bind fun v15 => (impl_Part_kind v9 a0 v15).bind fun v17 => bif (!v17.2) then some (-1) else (slI x5 none (some ((w64 (((x5.length : Int)) - v11)))) none).bind fun v20 => (appT x5 (([v17.1] : List Int)) v20.length).bind fun v22 => K7 ((w64 (x4 + 1))) v22
def impl_ExprKind_l1 (a0 : List T_impl_Column) (a1 : List T_impl_Part) : Nat → Int → (List Int) → Option Int
  | 0, _, _ => none
  | f6 + 1, x4, x5 => bif (decide (x4 < ((a1.length : Int)))) then (getI a1 x4).bind fun v9 => (impl_Part_takes v9).bind fun v11 => (impl_Part_tells v9 a0).bind fun v24 => bif (!v24) then impl_ExprKind_j2 a0 x4 x5 (impl_ExprKind_l1 a0 a1 f6) v9 v11 true else impl_ExprKind_j2 a0 x4 x5 (impl_ExprKind_l1 a0 a1 f6) v9 v11 ((decide (((x5.length : Int)) < v11))) else bif (!(((x5.length : Int)) == 1)) then some (-1) else (getI x5 0).bind fun v28 => some v28
def impl_ExprKind_j0 (a0 : List T_impl_Column) (a1 : List T_impl_Part) (x1 : Bool) : Option Int := bif x1 then some (-1) else impl_ExprKind_l1 a0 a1 FUEL 0 (([] : List Int))
def impl_ExprKind (a0 : List T_impl_Column) (a1 : List T_impl_Part) : Option Int := (impl_ColumnsOk a0).bind fun v30 => bif (!v30) then impl_ExprKind_j0 a0 a1 true else impl_ExprKind_j0 a0 a1 ((decide (((a1.length : Int)) > 12)))
theorem ok_impl_ExprKind {a0 : List T_impl_Column} {a1 : List T_impl_Part} {y : Int} (h : impl_ExprKind a0 a1 = some y) : OK Try.prog 123 [A a0, A a1] (I y) := by
  refine OK_of_pwp τ_ok Try.func123 rfl (by kernel_rfl) rfl fun Γ hX => ?_
  unfold impl_ExprKind at h
  refine srveM [7] 67 [(0, A a0), (1, A a1)] [] ?_
  refine pwp_seq ?_
  refine pwp_seq ?_
  refine pwp_join (σ := Bool) (fun x1 => (⟨67, [(0, A a0), (1, A a1), (18, B x1)], []⟩ : St)) (fun x1 => impl_ExprKind_j0 a0 a1 x1 = some y) ?_ ?_
  refine rvM [7] 1 67 [(0, A a0), (1, A a1), (11, A a0)] [] ?_
  obtain ⟨v30, hv31, h⟩ := bindS h
  refine opsP_callF τ 12 (ok_impl_ColumnsOk hv31) (FzTo.frz rfl) rfl (by kernel_rfl) ?_
  refine vM [7] 2 67 [(0, A a0), (1, A a1), (14, B ((!v30)))] [] ?_
  rcases fk ((!v30)) with hc32 | hc32
  replace h := bT hc32 h
  rw [hc32]
  refine veM [7] 4 67 [(0, A a0), (1, A a1), (18, B true)] [] ?_
  exact ⟨true, h, (Imp.to (st' := ⟨67, [(0, A a0), (1, A a1), (18, B true)], []⟩) [0, 1, 18] (by kernel_rfl)).trans (Imp.to [0, 1, 18] (by kernel_rfl))⟩
  replace h := bF hc32 h
  rw [hc32]
  refine veM [7] 4 67 [(0, A a0), (1, A a1), (18, B ((decide (((a1.length : Int)) > 12))))] [] ?_
  exact ⟨(decide (((a1.length : Int)) > 12)), h, (Imp.to (st' := ⟨67, [(0, A a0), (1, A a1), (18, B ((decide (((a1.length : Int)) > 12))))], []⟩) [0, 1, 18] (by kernel_rfl)).trans (Imp.to [0, 1, 18] (by kernel_rfl))⟩
  rintro x1 h
  unfold impl_ExprKind_j0 at h
  refine pc h (fun h => ?_) (fun h => ?_)
  refine srveM [7] 67 [(4, I (-1))] [] ?_
  cases h
  exact pwp_ret rz
  refine pwp_skip ?_
  refine srveM [7] 67 [(0, A a0), (1, A a1), (5, .arr 1 0 (eL ([] : List Int)) true)] [] ?_
  refine pwp_seq ?_
  refine srveM [7] 67 [(0, A a0), (5, .arr 1 0 (eL ([] : List Int)) true), (19, A a1), (20, I ((a1.length : Int))), (21, I 0)] [] ?_
  refine pwp_block ?_
  refine pwp_loop (ι := Nat × Int × (List Int)) (fun (f6, x4, x5) => (⟨67, [(0, A a0), (5, .ref 0 0 0 1 x5.length false), (19, A a1), (20, I ((a1.length : Int))), (21, I x4)], [some ⟨0, eL x5⟩]⟩ : St)) (fun (f6, x4, x5) => impl_ExprKind_l1 a0 a1 f6 x4 x5 = some y) (fun (f6, x4, x5) => f6) (FUEL, 0, ([] : List Int)) h ((Imp.to (st' := ⟨67, [(0, A a0), (5, .arr 1 0 (eL ([] : List Int)) true), (19, A a1), (20, I ((a1.length : Int))), (21, I 0)], []⟩) [0, 5, 19, 20, 21] (by kernel_rfl)).trans ((Imp.thawS (st' := ⟨67, [(0, A a0), (5, .ref 0 0 0 1 (([] : List Int)).length false), (19, A a1), (20, I ((a1.length : Int))), (21, I 0)], [some ⟨0, eL (([] : List Int))⟩]⟩) 5 [0, 5, 19, 20, 21] (by kernel_rfl)).trans (Imp.to [0, 5, 19, 20, 21] (by kernel_rfl)))) ?_
  rintro ⟨f6, x4, x5⟩ h
  dsimp only at h ⊢
  rcases f6 with _ | f6
  cases h
  rw [impl_ExprKind_l1] at h
  refine srveM [7] 67 [(0, A a0), (5, .ref 0 0 0 1 x5.length false), (19, A a1), (20, I ((a1.length : Int))), (21, I x4), (22, B ((decide (x4 < ((a1.length : Int))))))] [some ⟨0, eL x5⟩] ?_
  refine pwp_seq ?_
  refine pc h (fun h => ?_) (fun h => ?_)
  refine pwp_skip ?_
  refine pwp_seq ?_
  refine pwp_block ?_
  refine pwp_seq ?_
  refine pwp_region ?_
  obtain ⟨v9, hv10, h⟩ := bindS h
  refine opsP_idx τ_ok 23 hv10 (by kernel_rfl) ?_
  refine veM [7] 3 67 [(0, A a0), (5, .ref 0 0 0 1 x5.length false), (7, .ptr 1 0 0), (19, A a1), (20, I ((a1.length : Int))), (21, I x4)] [some ⟨0, eL x5⟩, some ⟨0, Enc.cells v9⟩] ?_
  refine srvM [7] 1 67 [(0, A a0), (5, .ref 0 0 0 1 x5.length false), (7, .ptr 1 0 0), (19, A a1), (20, I ((a1.length : Int))), (21, I x4), (25, E v9)] [some ⟨0, eL x5⟩, some ⟨0, Enc.cells v9⟩] ?_
  obtain ⟨v11, hv12, h⟩ := bindS h
  refine opsP_callF τ 26 (ok_impl_Part_takes hv12) (FzTo.frz rfl) rfl (by kernel_rfl) ?_
  refine veM [7] 1 67 [(0, A a0), (5, .ref 0 0 0 1 x5.length false), (7, .ptr 1 0 0), (8, I v11), (19, A a1), (20, I ((a1.length : Int))), (21, I x4)] [some ⟨0, eL x5⟩, some ⟨0, Enc.cells v9⟩] ?_
  refine pwp_seq ?_
  refine pwp_seq ?_
  refine pwp_join (σ := Bool) (fun x13 => (⟨67, [(0, A a0), (5, .ref 0 0 0 1 x5.length false), (7, .ptr 1 0 0), (8, I v11), (19, A a1), (20, I ((a1.length : Int))), (21, I x4), (36, B x13)], [some ⟨0, eL x5⟩, some ⟨0, Enc.cells v9⟩]⟩ : St)) (fun x13 => impl_ExprKind_j2 a0 x4 x5 (impl_ExprKind_l1 a0 a1 f6) v9 v11 x13 = some y) ?_ ?_
  refine rvM [7] 2 67 [(0, A a0), (5, .ref 0 0 0 1 x5.length false), (7, .ptr 1 0 0), (8, I v11), (19, A a1), (20, I ((a1.length : Int))), (21, I x4), (27, E v9), (28, A a0)] [some ⟨0, eL x5⟩, some ⟨0, Enc.cells v9⟩] ?_
  obtain ⟨v24, hv25, h⟩ := bindS h
  refine opsP_callF τ 29 (ok_impl_Part_tells hv25) (FzTo.frz rfl) rfl (by kernel_rfl) ?_
  refine vM [7] 2 67 [(0, A a0), (5, .ref 0 0 0 1 x5.length false), (7, .ptr 1 0 0), (8, I v11), (19, A a1), (20, I ((a1.length : Int))), (21, I x4), (31, B ((!v24)))] [some ⟨0, eL x5⟩, some ⟨0, Enc.cells v9⟩] ?_
  rcases fk ((!v24)) with hc26 | hc26
  replace h := bT hc26 h
  rw [hc26]
  refine veM [7] 5 67 [(0, A a0), (5, .ref 0 0 0 1 x5.length false), (7, .ptr 1 0 0), (8, I v11), (19, A a1), (20, I ((a1.length : Int))), (21, I x4), (32, .lit undef), (33, .lit undef), (34, .lit undef), (35, .lit undef), (36, B true)] [some ⟨0, eL x5⟩, some ⟨0, Enc.cells v9⟩] ?_
  exact ⟨true, h, (Imp.to (st' := ⟨67, [(0, A a0), (5, .ref 0 0 0 1 x5.length false), (7, .ptr 1 0 0), (8, I v11), (19, A a1), (20, I ((a1.length : Int))), (21, I x4), (36, B true)], [some ⟨0, eL x5⟩, some ⟨0, Enc.cells v9⟩]⟩) [0, 5, 7, 8, 19, 20, 21, 36] (by kernel_rfl)).trans (Imp.to [0, 5, 7, 8, 19, 20, 21, 36] (by kernel_rfl))⟩
  replace h := bF hc26 h
  rw [hc26]
  refine veM [7] 5 67 [(0, A a0), (5, .ref 0 0 0 1 x5.length false), (7, .ptr 1 0 0), (8, I v11), (19, A a1), (20, I ((a1.length : Int))), (21, I x4), (32, .ref 0 0 0 1 x5.length false), (33, I ((x5.length : Int))), (34, I v11), (35, B ((decide (((x5.length : Int)) < v11)))), (36, B ((decide (((x5.length : Int)) < v11))))] [some ⟨0, eL x5⟩, some ⟨0, Enc.cells v9⟩] ?_
  exact ⟨(decide (((x5.length : Int)) < v11)), h, (Imp.to (st' := ⟨67, [(0, A a0), (5, .ref 0 0 0 1 x5.length false), (7, .ptr 1 0 0), (8, I v11), (19, A a1), (20, I ((a1.length : Int))), (21, I x4), (36, B ((decide (((x5.length : Int)) < v11))))], [some ⟨0, eL x5⟩, some ⟨0, Enc.cells v9⟩]⟩) [0, 5, 7, 8, 19, 20, 21, 36] (by kernel_rfl)).trans (Imp.to [0, 5, 7, 8, 19, 20, 21, 36] (by kernel_rfl))⟩
  rintro x13 h
  unfold impl_ExprKind_j2 at h
  refine pc h (fun h => ?_) (fun h => ?_)
  refine srveM [7] 67 [(4, I (-1))] [some ⟨0, eL x5⟩, some ⟨0, Enc.cells v9⟩] ?_
  cases h
  exact pwp_ret rz
  refine pwp_skip ?_
  refine pwp_seq ?_
  refine pwp_imp (Imp.to (st' := ⟨67, [(0, A a0), (5, .ref 0 0 0 1 x5.length false), (7, .ptr 1 0 0), (8, I v11), (19, A a1), (20, I ((a1.length : Int))), (21, I x4)], [some ⟨0, eL x5⟩, some ⟨0, Enc.cells v9⟩]⟩) [0, 5, 7, 8, 19, 20, 21] (by kernel_rfl)) ?_
  refine pwp_any ([[1], [], [0], [0], [0], [], [], [0], [0], [], [], [], [], []]) ([[], [], [], [], [], [], [], [], [], [], [], [], [], []]) rfl (by kernel_rfl) ?_
  refine qA_ev (st' := ⟨67, [(38, E v9), (0, A a0), (5, .ref 0 0 0 1 x5.length false), (7, .ptr 1 0 0), (8, I v11), (19, A a1), (20, I ((a1.length : Int))), (21, I x4)], [some ⟨0, eL x5⟩, some ⟨0, Enc.cells v9⟩]⟩) τ_ok [7] [1] 1 (by exact (And.intro (.inl (Enc.frz _)) trivial)) (by kernel_rfl) ?_
  refine qA_ev (st' := ⟨67, [(39, A a0), (38, E v9), (0, A a0), (5, .ref 0 0 0 1 x5.length false), (7, .ptr 1 0 0), (8, I v11), (19, A a1), (20, I ((a1.length : Int))), (21, I x4)], [some ⟨0, eL x5⟩, some ⟨0, Enc.cells v9⟩]⟩) τ_ok [7] [] 1 (by exact trivial) (by kernel_rfl) ?_
  refine qA_ev (st' := ⟨67, [(42, I ((x5.length : Int))), (41, .ref 0 0 0 1 x5.length false), (40, .ref 0 0 0 1 x5.length false), (39, A a0), (38, E v9), (0, A a0), (5, .ref 0 0 0 1 x5.length false), (7, .ptr 1 0 0), (8, I v11), (19, A a1), (20, I ((a1.length : Int))), (21, I x4)], [some ⟨0, eL x5⟩, some ⟨0, Enc.cells v9⟩]⟩) τ_ok [7] [0] 3 (by exact (And.intro (.inl (eL_frz _)) trivial)) (by kernel_rfl) ?_
  refine qA_ev (st' := ⟨67, [(44, I ((w64 (((x5.length : Int)) - v11)))), (43, I v11), (42, I ((x5.length : Int))), (41, .ref 0 0 0 1 x5.length false), (40, .ref 0 0 0 1 x5.length false), (39, A a0), (38, E v9), (0, A a0), (5, .ref 0 0 0 1 x5.length false), (7, .ptr 1 0 0), (8, I v11), (19, A a1), (20, I ((a1.length : Int))), (21, I x4)], [some ⟨0, eL x5⟩, some ⟨0, Enc.cells v9⟩]⟩) τ_ok [7] [] 2 (by exact trivial) (by kernel_rfl) ?_
  obtain ⟨v15, hv16, h⟩ := bindS h
  refine qA_E (dd := some 45) (x := .ref 0 0 ((w64 (((x5.length : Int)) - v11)).toNat * 1) 1 v15.length false) ([some ⟨0, eL x5⟩, none]) (⟨67, [(45, .ref 0 0 ((w64 (((x5.length : Int)) - v11)).toNat * 1) 1 v15.length false), (44, I ((w64 (((x5.length : Int)) - v11)))), (43, I v11), (42, I ((x5.length : Int))), (41, .ref 0 0 0 1 x5.length false), (40, .ref 0 0 0 1 x5.length false), (39, A a0), (38, E v9), (0, A a0), (5, .ref 0 0 0 1 x5.length false), (7, .ptr 1 0 0), (8, I v11), (19, A a1), (20, I ((a1.length : Int))), (21, I x4)], [some ⟨0, eL x5⟩, some ⟨0, Enc.cells v9⟩]⟩) (fun Γ' hΓ => CoreE.of_y (slrV_sound (n := x5.length) τ_ok (by kernel_rfl) rfl hv16)) (by kernel_rfl) (by kernel_rfl) (by exact (And.intro (.inl (eL_frz _)) trivial)) (.inr (.inl rfl)) (by kernel_rfl) ?_
  obtain ⟨v17, hv18, h⟩ := bindS h
  refine qA_E (dd := some 46) (x := .tup [I v17.1, B v17.2]) ([some ⟨0, eL x5⟩, none]) (⟨67, [(46, .tup [I v17.1, B v17.2]), (45, .ref 0 0 ((w64 (((x5.length : Int)) - v11)).toNat * 1) 1 v15.length false), (44, I ((w64 (((x5.length : Int)) - v11)))), (43, I v11), (42, I ((x5.length : Int))), (41, .ref 0 0 0 1 x5.length false), (40, .ref 0 0 0 1 x5.length false), (39, A a0), (38, E v9), (0, A a0), (5, .ref 0 0 0 1 x5.length false), (7, .ptr 1 0 0), (8, I v11), (19, A a1), (20, I ((a1.length : Int))), (21, I x4)], [some ⟨0, eL x5⟩, some ⟨0, Enc.cells v9⟩]⟩) (fun Γ' hΓ => CoreE.of_g (callVV_sound (xs := [E v9, A a0, .ref 0 0 ((w64 (((x5.length : Int)) - v11)).toNat * 1) 1 v15.length false]) (τ := τ) (by kernel_rfl) (ViewL.cons (View.frz rfl) (ViewL.cons (View.frz rfl) (ViewL.cons (View.ref (v := 0) (lo := (w64 (((x5.length : Int)) - v11)).toNat) x5 v15 (by kernel_rfl) (slI_view hv16) rfl) (ViewL.nil _)))) (ok_impl_Part_kind hv18) (Blind.tup (BlindL.cons (Blind.lit _) (BlindL.cons (Blind.lit _) BlindL.nil))) (FzTo.tup (FzToL.cons (FzTo.frz rfl) (FzToL.cons (FzTo.frz rfl) FzToL.nil))))) (by kernel_rfl) (by kernel_rfl) (by exact (And.intro (.inl (eL_frz _)) trivial)) (.inr (.inr rfl)) (by kernel_rfl) ?_
  refine qA_ev (st' := ⟨67, [(10, B v17.2), (9, I v17.1), (48, B v17.2), (47, I v17.1), (37, .tup [I v17.1, B v17.2]), (46, .tup [I v17.1, B v17.2]), (45, .ref 0 0 ((w64 (((x5.length : Int)) - v11)).toNat * 1) 1 v15.length false), (44, I ((w64 (((x5.length : Int)) - v11)))), (43, I v11), (42, I ((x5.length : Int))), (41, .ref 0 0 0 1 x5.length false), (40, .ref 0 0 0 1 x5.length false), (39, A a0), (38, E v9), (0, A a0), (5, .ref 0 0 0 1 x5.length false), (7, .ptr 1 0 0), (8, I v11), (19, A a1), (20, I ((a1.length : Int))), (21, I x4)], [some ⟨0, eL x5⟩, some ⟨0, Enc.cells v9⟩]⟩) τ_ok [7] [] 5 (by exact trivial) (by kernel_rfl) ?_
  refine qA_end ?_
  refine opsP_imp (Imp.to (st' := ⟨67, [(0, A a0), (5, .ref 0 0 0 1 x5.length false), (8, I v11), (9, I v17.1), (10, B v17.2), (19, A a1), (20, I ((a1.length : Int))), (21, I x4)], [some ⟨0, eL x5⟩, some ⟨0, Enc.cells v9⟩]⟩) [0, 5, 8, 9, 10, 19, 20, 21] (by kernel_rfl)) ?_
  refine opsP_end rfl ?_
  refine pwp_seq ?_
  refine srveM [7] 67 [(0, A a0), (5, .ref 0 0 0 1 x5.length false), (8, I v11), (9, I v17.1), (19, A a1), (20, I ((a1.length : Int))), (21, I x4), (50, B ((!v17.2)))] [some ⟨0, eL x5⟩, some ⟨0, Enc.cells v9⟩] ?_
  refine pc h (fun h => ?_) (fun h => ?_)
  refine srveM [7] 67 [(4, I (-1))] [some ⟨0, eL x5⟩, some ⟨0, Enc.cells v9⟩] ?_
  cases h
  exact pwp_ret rz
  refine pwp_skip ?_
  refine rvM [7] 5 67 [(0, A a0), (9, I v17.1), (19, A a1), (20, I ((a1.length : Int))), (21, I x4), (51, .ref 0 0 0 1 x5.length false), (55, I ((w64 (((x5.length : Int)) - v11))))] [some ⟨0, eL x5⟩, some ⟨0, Enc.cells v9⟩] ?_
  obtain ⟨v20, hv21, h⟩ := bindS h
  refine opsP_slr τ_ok 56 0 0 x5.length hv21 rfl (by kernel_rfl) ?_
  refine vM [7] 2 67 [(0, A a0), (19, A a1), (20, I ((a1.length : Int))), (21, I x4), (56, .ref 0 0 0 1 v20.length false), (58, .arr 1 (([v17.1] : List Int)).length (eL ([v17.1] : List Int)) true)] [some ⟨0, eL x5⟩, some ⟨0, Enc.cells v9⟩] ?_
  obtain ⟨v22, hv23, h⟩ := bindS h
  refine opsP_apt τ_ok 59 0 0 v20.length (fun b hb => absurd hb (hX b)) hv23 (slI_le hv21) (by kernel_rfl) ?_
  refine veM [7] 1 67 [(0, A a0), (5, .ref 0 1 0 1 v22.length false), (19, A a1), (20, I ((a1.length : Int))), (21, I x4)] [some ⟨1, eL v22⟩, some ⟨0, Enc.cells v9⟩] ?_
  refine rveM [7] 67 [(0, A a0), (5, .ref 0 1 0 1 v22.length false), (19, A a1), (20, I ((a1.length : Int))), (21, I ((w64 (x4 + 1))))] [some ⟨1, eL v22⟩, some ⟨0, Enc.cells v9⟩] ?_
  exact ⟨(f6, (w64 (x4 + 1)), v22), h, Nat.lt_succ_self _, (Imp.to (st' := ⟨67, [(0, A a0), (5, .ref 0 1 0 1 v22.length false), (19, A a1), (20, I ((a1.length : Int))), (21, I ((w64 (x4 + 1))))], [some ⟨1, eL v22⟩, some ⟨0, Enc.cells v9⟩]⟩) [0, 5, 19, 20, 21] (by kernel_rfl)).trans ((Imp.truncS (st' := ⟨67, [(0, A a0), (5, .ref 0 1 0 1 v22.length false), (19, A a1), (20, I ((a1.length : Int))), (21, I ((w64 (x4 + 1))))], [some ⟨1, eL v22⟩]⟩) 1 (fun b hb => absurd hb (hX b)) (by kernel_rfl) (allBelow_mem (by exact (And.intro rfl (And.intro rfl (And.intro rfl (And.intro rfl (And.intro rfl trivial))))))) (by exact (And.intro (frz_below (eL_frz _)) trivial)) (by kernel_rfl)).trans ((Imp.reverS (st' := ⟨67, [(0, A a0), (5, .ref 0 0 0 1 v22.length false), (19, A a1), (20, I ((a1.length : Int))), (21, I ((w64 (x4 + 1))))], [some ⟨0, eL v22⟩]⟩) 0 1 (eL v22) [0, 5, 19, 20, 21] (by kernel_rfl) (by exact (And.intro (eL_frz _) trivial)) (by kernel_rfl)).trans (Imp.to [0, 5, 19, 20, 21] (by kernel_rfl))))⟩
  refine pwp_exit ?_
  refine pwp_seq ?_
  refine srveM [7] 67 [(5, .ref 0 0 0 1 x5.length false), (63, B ((!(((x5.length : Int)) == 1))))] [some ⟨0, eL x5⟩] ?_
  refine pc h (fun h => ?_) (fun h => ?_)
  refine srveM [7] 67 [(4, I (-1))] [some ⟨0, eL x5⟩] ?_
  cases h
  exact pwp_ret rz
  refine pwp_skip ?_
  refine srvM [7] 1 67 [(64, .ref 0 0 0 1 x5.length false)] [some ⟨0, eL x5⟩] ?_
  obtain ⟨v28, hv29, h⟩ := bindS h
  refine opsP_idr τ_ok 65 0 0 x5.length hv29 rfl (by kernel_rfl) ?_
  refine opsP_lde (r := I v28) τ_ok 66 3 0 hv29 (by kernel_rfl) (by kernel_rfl) ?_
  refine veM [7] 1 67 [(4, I v28)] [some ⟨0, eL x5⟩] ?_
  cases h
  exact pwp_ret rz
def impl_RowsOk_1 (a0 : List T_impl_Value) (b0 : List T_impl_Column) : Option Bool := (impl_RowFits b0 a0).bind fun v1 => some ((!v1))
theorem ok_impl_RowsOk_1 {a0 : List T_impl_Value} {b0 : List T_impl_Column} {y : Bool} (h : impl_RowsOk_1 a0 b0 = some y) : OK Try.prog 132 [A a0, .fptr (Enc.cells b0) 0] (B y) := by
  refine OK_of_pwp τ_ok Try.func132 rfl (by kernel_rfl) rfl fun Γ hX => ?_
  unfold impl_RowsOk_1 at h
  refine srve 8 [(0, A a0), (1, .fptr (Enc.cells b0) 0)] [] ?_
  refine srv 2 8 [(4, A b0), (5, A a0)] [] ?_
  obtain ⟨v1, hv2, h⟩ := bindS h
  refine opsP_callF τ 6 (ok_impl_RowFits hv2) (FzTo.frz rfl) rfl (by kernel_rfl) ?_
  refine ve 2 8 [(3, B ((!v1)))] [] ?_
  cases h
  exact pwp_ret rz
def spec_PlanOk (a0 : List T_impl_Table) (a1 : List T_impl_Step) : Option Bool := (spec_l6All a0 a1).bind fun v1 => bif v1.2 then (spec_TablesOk a0).bind fun v3 => bif v3 then (spec_l1In ((a1.length : Int)) 1 6).bind fun v5 => some v5 else some false else some false
theorem ok_spec_PlanOk {a0 : List T_impl_Table} {a1 : List T_impl_Step} {y : Bool} (h : spec_PlanOk a0 a1 = some y) : OK Try.prog 37 [A a0, A a1] (B y) := by
  refine OK_of_pwp τ_ok Try.func37 rfl (by kernel_rfl) rfl fun Γ hX => ?_
  unfold spec_PlanOk at h
  refine srve 23 [(0, A a0), (1, A a1)] [] ?_
  refine srv 2 23 [(0, A a0), (1, A a1), (8, A a0), (9, A a1)] [] ?_
  obtain ⟨v1, hv2, h⟩ := bindS h
  refine opsP_callF τ 10 (ok_spec_l6All hv2) (FzTo.tup (FzToL.cons (FzTo.O _) (FzToL.cons (FzTo.frz rfl) FzToL.nil))) rfl (by kernel_rfl) ?_
  refine ve 5 23 [(0, A a0), (1, A a1), (6, B v1.2)] [] ?_
  refine srv 2 23 [(0, A a0), (1, A a1), (14, B v1.2)] [] ?_
  rcases Bool.eq_false_or_eq_true v1.2 with hc8 | hc8
  replace h := bT hc8 h
  rw [hc8]
  refine v 1 23 [(1, A a1), (14, B true), (15, A a0)] [] ?_
  obtain ⟨v3, hv4, h⟩ := bindS h
  refine opsP_callF τ 16 (ok_spec_TablesOk hv4) (FzTo.frz rfl) rfl (by kernel_rfl) ?_
  refine v 2 23 [(1, A a1), (18, B v3)] [] ?_
  rcases Bool.eq_false_or_eq_true v3 with hc7 | hc7
  replace h := bT hc7 h
  rw [hc7]
  refine v 2 23 [(18, B true), (20, I ((a1.length : Int)))] [] ?_
  obtain ⟨v5, hv6, h⟩ := bindS h
  refine opsP_callF τ 21 (ok_spec_l1In hv6) (FzTo.frz rfl) rfl (by kernel_rfl) ?_
  refine ve 2 23 [(4, B v5)] [] ?_
  cases h
  exact pwp_ret rz
  replace h := bF hc7 h
  rw [hc7]
  refine ve 5 23 [(4, B false)] [] ?_
  cases h
  exact pwp_ret rz
  replace h := bF hc8 h
  rw [hc8]
  refine ve 9 23 [(4, B false)] [] ?_
  cases h
  exact pwp_ret rz
def impl_RowsOk (a0 : List T_impl_Column) (a1 : List (List T_impl_Value)) : Option Bool := (impl_ColumnsOk a0).bind fun v1 => bif v1 then (slices_ContainsFunc_impl_Value_impl_Value_s3 a1 (fun z0 => impl_RowsOk_1 z0 a0)).bind fun v3 => some ((!v3)) else some false
theorem ok_impl_RowsOk {a0 : List T_impl_Column} {a1 : List (List T_impl_Value)} {y : Bool} (h : impl_RowsOk a0 a1 = some y) : OK Try.prog 97 [A a0, A a1] (B y) := by
  refine OK_of_pwp τ_ok Try.func97 rfl (by kernel_rfl) rfl fun Γ hX => ?_
  unfold impl_RowsOk at h
  refine srve 13 [(1, A a1), (2, .fptr (Enc.cells a0) 0)] [] ?_
  refine srv 1 13 [(1, A a1), (2, .fptr (Enc.cells a0) 0), (5, A a0)] [] ?_
  obtain ⟨v1, hv2, h⟩ := bindS h
  refine opsP_callF τ 6 (ok_impl_ColumnsOk hv2) (FzTo.frz rfl) rfl (by kernel_rfl) ?_
  refine v 1 13 [(1, A a1), (2, .fptr (Enc.cells a0) 0), (7, B v1)] [] ?_
  rcases Bool.eq_false_or_eq_true v1 with hc5 | hc5
  replace h := bT hc5 h
  rw [hc5]
  refine v 2 13 [(7, B true), (8, A a1), (9, .fn 132 [.fptr (Enc.cells a0) 0])] [] ?_
  obtain ⟨v3, hv4, h⟩ := bindS h
  refine opsP_callF τ 10 (ok_slices_ContainsFunc_impl_Value_impl_Value_s3 (rfl) (fun _ w hw => ok_impl_RowsOk_1 hw) hv4) (FzTo.frz rfl) rfl (by kernel_rfl) ?_
  refine ve 3 13 [(4, B ((!v3)))] [] ?_
  cases h
  exact pwp_ret rz
  replace h := bF hc5 h
  rw [hc5]
  refine ve 6 13 [(4, B false)] [] ?_
  cases h
  exact pwp_ret rz
def spec_PlanColumns (a0 : List T_impl_Table) (a1 : List T_impl_Step) : Option (List T_impl_Column) := (spec_PlanOk a0 a1).bind fun v1 => bif (!v1) then some (([] : List T_impl_Column)) else (spec_l6All a0 a1).bind fun v4 => (getI v4.1 ((w64 (((a1.length : Int)) - 1)))).bind fun v6 => (app (([] : List T_impl_Column)) v6).bind fun v8 => some v8
theorem ok_spec_PlanColumns {a0 : List T_impl_Table} {a1 : List T_impl_Step} {y : List T_impl_Column} (h : spec_PlanColumns a0 a1 = some y) : OK Try.prog 8 [A a0, A a1] (O y) := by
  refine OK_of_pwp τ_ok Try.func8 rfl (by kernel_rfl) rfl fun Γ hX => ?_
  unfold spec_PlanColumns at h
  refine srve 26 [(0, A a0), (1, A a1)] [] ?_
  refine pwp_seq ?_
  refine srv 2 26 [(0, A a0), (1, A a1), (7, A a0), (8, A a1)] [] ?_
  obtain ⟨v1, hv2, h⟩ := bindS h
  refine opsP_callF τ 9 (ok_spec_PlanOk hv2) (FzTo.frz rfl) rfl (by kernel_rfl) ?_
  refine ve 1 26 [(0, A a0), (1, A a1), (10, B ((!v1)))] [] ?_
  refine pc h (fun h => ?_) (fun h => ?_)
  refine srve 26 [(4, .arr 2 0 (eL ([] : List T_impl_Column)) true)] [] ?_
  refine pwp_imp (Imp.to (st' := ⟨26, [(4, .arr 2 0 (eL ([] : List T_impl_Column)) true)], []⟩) [4] (by kernel_rfl)) ?_
  refine pwp_imp (Imp.thawS (st' := ⟨26, [(4, .ref 0 0 0 2 (([] : List T_impl_Column)).length false)], [some ⟨0, eL (([] : List T_impl_Column))⟩]⟩) 4 [4] (by kernel_rfl)) ?_
  have h := si h
  subst h
  exact pwp_ret (rt (.ref 0 0 0 2 (([] : List T_impl_Column)).length false) (OutP.list (v := 0) (by kernel_rfl)))
  refine pwp_skip ?_
  refine srv 2 26 [(1, A a1), (13, A a0), (14, A a1)] [] ?_
  obtain ⟨v4, hv5, h⟩ := bindS h
  refine opsP_callF τ 15 (ok_spec_l6All hv5) (FzTo.tup (FzToL.cons (FzTo.O _) (FzToL.cons (FzTo.frz rfl) FzToL.nil))) rfl (by kernel_rfl) ?_
  refine ve 5 26 [(1, A a1), (5, A v4.1)] [] ?_
  refine srv 5 26 [(18, .arr 2 0 (eL ([] : List T_impl_Column)) true), (19, A v4.1), (22, I ((w64 (((a1.length : Int)) - 1))))] [] ?_
  obtain ⟨v6, hv7, h⟩ := bindS h
  refine opsP_idx τ_ok 23 hv7 (by kernel_rfl) ?_
  refine v 1 26 [(18, .arr 2 0 (eL ([] : List T_impl_Column)) true), (24, A v6)] [] ?_
  refine opsP_thaw 18 2 (by kernel_rfl) ?_
  obtain ⟨v8, hv9, h⟩ := bindS h
  refine opsP_app τ_ok 25 0 0 (fun b hb => absurd hb (hX b)) hv9 (by kernel_rfl) ?_
  refine ve 1 26 [(4, .ref 0 1 0 2 v8.length false)] [some ⟨1, eL v8⟩] ?_
  have h := si h
  subst h
  exact pwp_ret (rt (.ref 0 1 0 2 v8.length false) (OutP.list (v := 1) (by kernel_rfl)))
def impl_TablesOk_1 (a0 : T_impl_Table) : Option Bool := (impl_ColumnsOk a0.fColumns).bind fun v1 => bif (!v1) then some true else bif (decide (((a0.fRows.length : Int)) > 6)) then some true else (impl_RowsOk a0.fColumns a0.fRows).bind fun v3 => some ((!v3))
theorem ok_impl_TablesOk_1 {a0 : T_impl_Table} {y : Bool} (h : impl_TablesOk_1 a0 = some y) : OK Try.prog 95 [E a0] (B y) := by
  refine OK_of_pwp τ_ok Try.func95 rfl (by kernel_rfl) rfl fun Γ hX => ?_
  unfold impl_TablesOk_1 at h
  refine srve 21 [(1, .fptr (Enc.cells a0) 0)] [] ?_
  refine srv 2 21 [(1, .fptr (Enc.cells a0) 0), (4, A a0.fColumns)] [] ?_
  obtain ⟨v1, hv2, h⟩ := bindS h
  refine opsP_callF τ 5 (ok_impl_ColumnsOk hv2) (FzTo.frz rfl) rfl (by kernel_rfl) ?_
  refine v 2 21 [(1, .fptr (Enc.cells a0) 0), (7, B ((!v1)))] [] ?_
  rcases fk ((!v1)) with hc6 | hc6
  replace h := bT hc6 h
  rw [hc6]
  refine ve 14 21 [(2, B true)] [] ?_
  cases h
  exact pwp_ret rz
  replace h := bF hc6 h
  rw [hc6]
  refine v 6 21 [(1, .fptr (Enc.cells a0) 0), (13, B ((decide (((a0.fRows.length : Int)) > 6))))] [] ?_
  rcases fk ((decide (((a0.fRows.length : Int)) > 6))) with hc5 | hc5
  replace h := bT hc5 h
  rw [hc5]
  refine ve 8 21 [(2, B true)] [] ?_
  cases h
  exact pwp_ret rz
  replace h := bF hc5 h
  rw [hc5]
  refine v 4 21 [(13, B false), (15, A a0.fColumns), (17, A a0.fRows)] [] ?_
  obtain ⟨v3, hv4, h⟩ := bindS h
  refine opsP_callF τ 18 (ok_impl_RowsOk hv4) (FzTo.frz rfl) rfl (by kernel_rfl) ?_
  refine ve 3 21 [(2, B ((!v3)))] [] ?_
  cases h
  exact pwp_ret rz
def impl_TablesOk (a0 : List T_impl_Table) : Option Bool := bif (decide (((a0.length : Int)) ≤ 3)) then (slices_ContainsFunc_impl_Table_impl_Table a0 impl_TablesOk_1).bind fun v1 => some ((!v1)) else some false
theorem ok_impl_TablesOk {a0 : List T_impl_Table} {y : Bool} (h : impl_TablesOk a0 = some y) : OK Try.prog 51 [A a0] (B y) := by
  refine OK_of_pwp τ_ok Try.func51 rfl (by kernel_rfl) rfl fun Γ hX => ?_
  unfold impl_TablesOk at h
  refine srve 11 [(0, A a0)] [] ?_
  refine srv 4 11 [(0, A a0), (6, B ((decide (((a0.length : Int)) ≤ 3))))] [] ?_
  rcases fk ((decide (((a0.length : Int)) ≤ 3))) with hc3 | hc3
  replace h := bT hc3 h
  rw [hc3]
  refine v 1 11 [(6, B true), (7, A a0)] [] ?_
  obtain ⟨v1, hv2, h⟩ := bindS h
  refine opsP_callF τ 8 (ok_slices_ContainsFunc_impl_Table_impl_Table (rfl) (fun _ w hw => ok_impl_TablesOk_1 hw) hv2) (FzTo.frz rfl) rfl (by kernel_rfl) ?_
  refine ve 3 11 [(2, B ((!v1)))] [] ?_
  cases h
  exact pwp_ret rz
  replace h := bF hc3 h
  rw [hc3]
  refine ve 5 11 [(2, B false)] [] ?_
  cases h
  exact pwp_ret rz
def slices_Clip_impl_Column_impl_Column_R (a0 : List T_impl_Column) : Option (List T_impl_Column) := (slI a0 none (some ((a0.length : Int))) (some ((a0.length : Int)))).bind fun v1 => some v1
theorem ok_slices_Clip_impl_Column_impl_Column_R {a0 : List T_impl_Column} {y : List T_impl_Column} (h : slices_Clip_impl_Column_impl_Column_R a0 = some y) : OKm Try.prog 88 [O a0] (O y) := by
  refine OKm_of_pwp (sl := [.ref 0 0 0 2 a0.length false]) (bs := [⟨0, eL a0⟩]) τ_ok Try.func88 rfl (by kernel_rfl) rfl (by kernel_rfl) fun Γ hX => ?_
  refine pwp_imp (Imp.to (st' := ⟨9, [(0, .ref 0 0 0 2 a0.length false)], [some ⟨0, eL a0⟩]⟩) [0] (by kernel_rfl)) ?_
  unfold slices_Clip_impl_Column_impl_Column_R at h
  refine srve 9 [(0, .ref 0 0 0 2 a0.length false)] [some ⟨0, eL a0⟩] ?_
  refine srv 5 9 [(3, .ref 0 0 0 2 a0.length false), (5, I ((a0.length : Int))), (7, I ((a0.length : Int)))] [some ⟨0, eL a0⟩] ?_
  obtain ⟨v1, hv2, h⟩ := bindS h
  refine opsP_slr τ_ok 8 0 0 a0.length hv2 rfl (by kernel_rfl) ?_
  refine ve 1 9 [(2, .ref 0 0 0 2 v1.length false)] [some ⟨0, eL a0⟩] ?_
  refine pwp_imp (Imp.to (st' := ⟨9, [(2, .ref 0 0 0 2 v1.length false)], [some ⟨0, eL a0⟩]⟩) [2] (by kernel_rfl)) ?_
  refine pwp_imp (Imp.cut (st' := ⟨9, [(2, .ref 0 0 0 2 v1.length false)], [some ⟨0, eL v1⟩]⟩) 0 0 a0 v1 (by kernel_rfl) (slI_view hv2) (by kernel_rfl)) ?_
  have h := si h
  subst h
  exact pwp_ret (rt (.ref 0 0 0 2 v1.length false) (OutP.list (v := 0) (by kernel_rfl)))
def impl_clone_impl_Column_R (a0 : List T_impl_Column) : Option (List T_impl_Column) := bif (((a0.length : Int)) == 0) then some (([] : List T_impl_Column)) else (app [] a0).bind fun v2 => (slices_Clip_impl_Column_impl_Column_R v2).bind fun v4 => some v4
theorem ok_impl_clone_impl_Column_R {a0 : List T_impl_Column} {y : List T_impl_Column} (h : impl_clone_impl_Column_R a0 = some y) : OK Try.prog 42 [A a0] (O y) := by
  refine OK_of_pwp τ_ok Try.func42 rfl (by kernel_rfl) rfl fun Γ hX => ?_
  unfold impl_clone_impl_Column_R at h
  refine srve 9 [(0, A a0)] [] ?_
  refine pwp_seq ?_
  refine srve 9 [(0, A a0), (5, B ((((a0.length : Int)) == 0)))] [] ?_
  refine pc h (fun h => ?_) (fun h => ?_)
  refine srve 9 [(2, .arr 2 0 (eL ([] : List T_impl_Column)) true)] [] ?_
  refine pwp_imp (Imp.to (st' := ⟨9, [(2, .arr 2 0 (eL ([] : List T_impl_Column)) true)], []⟩) [2] (by kernel_rfl)) ?_
  refine pwp_imp (Imp.thawS (st' := ⟨9, [(2, .ref 0 0 0 2 (([] : List T_impl_Column)).length false)], [some ⟨0, eL (([] : List T_impl_Column))⟩]⟩) 2 [2] (by kernel_rfl)) ?_
  have h := si h
  subst h
  exact pwp_ret (rt (.ref 0 0 0 2 (([] : List T_impl_Column)).length false) (OutP.list (v := 0) (by kernel_rfl)))
  refine pwp_skip ?_
  refine srv 1 9 [(6, A a0)] [] ?_
  obtain ⟨v2, hv3, h⟩ := bindS h
  refine opsP_apn τ_ok 7 0 (fun b hb => absurd hb (hX b)) hv3 (by kernel_rfl) ?_
  obtain ⟨v4, hv5, h⟩ := bindS h
  refine opsP_callM (xs := [.ref 0 1 0 2 v2.length false]) (x := .ref 1 0 0 2 v4.length false) (bs := [⟨0, eL v4⟩]) τ 8 [0] (fun b hb => absurd hb (hX b)) (ok_slices_Clip_impl_Column_impl_Column_R hv5) (by kernel_rfl) (OutL.cons (OutP.list (v := 1) (by kernel_rfl)) (OutL.nil _)) (by decide) (by kernel_rfl) ?_
  refine ve 1 9 [(2, .ref 1 0 0 2 v4.length false)] [none, some ⟨0, eL v4⟩] ?_
  have h := si h
  subst h
  exact pwp_ret (rt (.ref 1 0 0 2 v4.length false) (OutP.list (v := 0) (by kernel_rfl)))
def laws_toValueSS_D_l0 (a0 : List (List T_laws_Value)) : Nat → Int → (List (List T_impl_Value)) → Option (List (List T_impl_Value))
  | 0, _, _ => none
  | f6 + 1, x4, x5 => bif (decide (x4 < ((a0.length : Int)))) then (getI a0 x4).bind fun v9 => (laws_toValueS v9).bind fun v11 => (getI x5 x4).bind fun v13 => (laws_toValueSS_D_l0 a0 f6) ((w64 (x4 + 1))) ((x5.set x4.toNat v11)) else some x5
def laws_toValueSS_D (a0 : List (List T_laws_Value)) : Option (List (List T_impl_Value)) := (mkI ((a0.length : Int)) (([] : List T_impl_Value))).bind fun v1 => laws_toValueSS_D_l0 a0 FUEL 0 v1
theorem ok_laws_toValueSS_D {a0 : List (List T_laws_Value)} {y : List (List T_impl_Value)} (h : laws_toValueSS_D a0 = some y) : OK Try.prog 84 [A a0] (OD y) := by
  refine OK_of_pwp τ_ok Try.func84 rfl (by kernel_rfl) rfl fun Γ hX => ?_
  unfold laws_toValueSS_D at h
  refine srve 23 [(0, A a0)] [] ?_
  refine srv 2 23 [(0, A a0), (6, I ((a0.length : Int)))] [] ?_
  obtain ⟨v1, hv2, h⟩ := bindS h
  refine opsP_E (dd := some 7) (x := .ref 0 0 0 1 v1.length false) (mkD_N τ_ok 7 0 111 (fun b hb => absurd hb (hX b)) (by kernel_rfl) _ hv2 dz_ok111 (by kernel_rfl)) ?_
  refine ve 1 23 [(0, A a0), (3, .ref 0 0 0 1 v1.length false)] [some ⟨0, dL v1⟩] ?_
  refine pwp_seq ?_
  refine srve 23 [(0, A a0), (3, .ref 0 0 0 1 v1.length false), (4, I 0)] [some ⟨0, dL v1⟩] ?_
  refine pwp_block ?_
  refine pwp_loop (ι := Nat × Int × (List (List T_impl_Value))) (fun (f6, x4, x5) => (⟨23, [(0, A a0), (3, .ref 0 0 0 1 x5.length false), (4, I x4)], [some ⟨0, dL x5⟩]⟩ : St)) (fun (f6, x4, x5) => laws_toValueSS_D_l0 a0 f6 x4 x5 = some y) (fun (f6, x4, x5) => f6) (FUEL, 0, v1) h ((Imp.to (st' := ⟨23, [(0, A a0), (3, .ref 0 0 0 1 v1.length false), (4, I 0)], [some ⟨0, dL v1⟩]⟩) [0, 3, 4] (by kernel_rfl)).trans (Imp.to [0, 3, 4] (by kernel_rfl))) ?_
  rintro ⟨f6, x4, x5⟩ h
  dsimp only at h ⊢
  rcases f6 with _ | f6
  cases h
  rw [laws_toValueSS_D_l0] at h
  refine pwp_seq ?_
  refine srve 23 [(0, A a0), (3, .ref 0 0 0 1 x5.length false), (4, I x4), (11, B ((decide (x4 < ((a0.length : Int))))))] [some ⟨0, dL x5⟩] ?_
  refine pc h (fun h => ?_) (fun h => ?_)
  refine pwp_skip ?_
  refine pwp_seq ?_
  refine pwp_block ?_
  refine rv 4 23 [(0, A a0), (3, .ref 0 0 0 1 x5.length false), (4, I x4), (14, .ref 0 0 0 1 x5.length false), (15, I x4), (16, A a0), (17, I x4)] [some ⟨0, dL x5⟩] ?_
  obtain ⟨v9, hv10, h⟩ := bindS h
  refine opsP_idx τ_ok 18 hv10 (by kernel_rfl) ?_
  refine v 1 23 [(0, A a0), (3, .ref 0 0 0 1 x5.length false), (4, I x4), (14, .ref 0 0 0 1 x5.length false), (15, I x4), (19, A v9)] [some ⟨0, dL x5⟩] ?_
  obtain ⟨v11, hv12, h⟩ := bindS h
  refine opsP_callO τ 20 (ok_laws_toValueS hv12) rfl (by kernel_rfl) ?_
  obtain ⟨v13, hv14, h⟩ := bindS h
  refine opsP_idr τ_ok 21 0 0 x5.length hv14 rfl (by kernel_rfl) ?_
  refine v 0 23 [(0, A a0), (3, .ref 0 0 0 1 x5.length false), (4, I x4), (20, .ref 1 0 0 3 v11.length false), (21, .ptr 0 0 (x4.toNat * 1))] [some ⟨0, dL x5⟩, some ⟨0, eL v11⟩] ?_
  refine opsP_E (dd := none) (x := .any) ((std_E (xs := x5) (vs := [.ref 1 0 0 3 v11.length false]) (cells' := setL (dL x5) (x4.toNat * 1 + 0) [.ref 1 0 0 3 v11.length false]) τ_ok 111 0 0 0 hv14 (by kernel_rfl) (by kernel_rfl) rfl).then (H2 := [some ⟨0, dL ((x5.set x4.toNat v11))⟩, some ⟨1, []⟩]) (HStep.nestL (xs := x5) (vs := [.ref 1 0 0 3 v11.length false]) 0 0 0 v11 hv14 (by kernel_rfl) (OutL.cons (OutP.listn (v := 0) (xs := v11) rfl (by kernel_rfl)) (OutL.nil _)) (by decide) (by decide) (fun b hb => absurd hb (hX b)) (by kernel_rfl) (by kernel_rfl) (by kernel_rfl) (by kernel_rfl))) ?_
  refine opsP_imp (Imp.to (st' := ⟨23, [(0, A a0), (3, .ref 0 0 0 1 x5.length false), (4, I x4)], [some ⟨0, dL ((x5.set x4.toNat v11))⟩, some ⟨1, []⟩]⟩) [0, 3, 4] (by kernel_rfl)) ?_
  refine opsP_ren (st' := ⟨23, [(0, A a0), (3, .ref 0 0 0 1 ((x5.set x4.toNat v11)).length false), (4, I x4)], [some ⟨0, dL ((x5.set x4.toNat v11))⟩, some ⟨1, []⟩]⟩) 0 ((x5.set x4.toNat v11)).length (renC trivial (renC (ren_ref (List.length_set ..).symm) (renC trivial renC0))) (by kernel_rfl) ?_
  refine ve 0 23 [(0, A a0), (3, .ref 0 0 0 1 ((x5.set x4.toNat v11)).length false), (4, I x4)] [some ⟨0, dL ((x5.set x4.toNat v11))⟩, some ⟨1, []⟩] ?_
  refine rve 23 [(0, A a0), (3, .ref 0 0 0 1 ((x5.set x4.toNat v11)).length false), (4, I ((w64 (x4 + 1))))] [some ⟨0, dL ((x5.set x4.toNat v11))⟩, some ⟨1, []⟩] ?_
  exact ⟨(f6, (w64 (x4 + 1)), (x5.set x4.toNat v11)), h, Nat.lt_succ_self _, (Imp.to (st' := ⟨23, [(0, A a0), (3, .ref 0 0 0 1 ((x5.set x4.toNat v11)).length false), (4, I ((w64 (x4 + 1))))], [some ⟨0, dL ((x5.set x4.toNat v11))⟩, some ⟨1, []⟩]⟩) [0, 3, 4] (by kernel_rfl)).trans ((Imp.truncS (st' := ⟨23, [(0, A a0), (3, .ref 0 0 0 1 ((x5.set x4.toNat v11)).length false), (4, I ((w64 (x4 + 1))))], [some ⟨0, dL ((x5.set x4.toNat v11))⟩]⟩) 1 (fun b hb => absurd hb (hX b)) (by kernel_rfl) (allBelow_mem (by exact (And.intro rfl (And.intro rfl (And.intro rfl trivial))))) (by exact (And.intro (dL_below _ _) trivial)) (by kernel_rfl)).trans (Imp.to [0, 3, 4] (by kernel_rfl)))⟩
  refine pwp_exit ?_
  refine srve 23 [(2, .ref 0 0 0 1 x5.length false)] [some ⟨0, dL x5⟩] ?_
  have h := si h
  subst h
  exact pwp_ret (rt (.ref 0 0 0 1 x5.length false) (OutP.listD (v := 0) (by kernel_rfl)))
def laws_toTable_D (a0 : T_laws_Table) : Option T_impl_Table := (laws_toColumnS a0.fColumns).bind fun v1 => (laws_toValueSS_D a0.fRows).bind fun v3 => some ({ (({ ((T_impl_Table.mk [] [])) with fColumns := v1 }) : T_impl_Table) with fRows := v3 })
theorem ok_laws_toTable_D {a0 : T_laws_Table} {y : T_impl_Table} (h : laws_toTable_D a0 = some y) : OK Try.prog 39 [E a0] (.agg (DEnc.cells y)) := by
  refine OK_of_pwp τ_ok Try.func39 rfl (by kernel_rfl) rfl fun Γ hX => ?_
  unfold laws_toTable_D at h
  refine srvM [2, 3] 1 13 [(1, .fptr (Enc.cells a0) 0)] [] ?_
  refine opsP_imp (Imp.ghosts 1 (st' := ⟨13, [(1, .fptr (Enc.cells a0) 0)], [some ⟨0, []⟩]⟩) (by kernel_rfl)) ?_
  refine opsP_E (dd := some 2) (x := .ptr 0 1 0) (alz_E (blk := ⟨0, []⟩) (zs := [.arr 2 0 [] true, .arr 1 0 [] true]) 2 77 0 0 (fun b hb => absurd hb (hX b)) zi_ok77 (by kernel_rfl) (by kernel_rfl)) ?_
  refine veM [2, 3] 0 13 [(1, .fptr (Enc.cells a0) 0), (2, .ptr 0 1 0)] [some ⟨1, [.arr 2 0 (eL ([] : List T_impl_Column)) true, .arr 1 0 (eL ([] : List (List T_impl_Value))) true]⟩] ?_
  refine srvM [2, 3] 0 13 [(1, .fptr (Enc.cells a0) 0), (2, .ptr 0 1 0)] [some ⟨1, [.arr 2 0 (eL ([] : List T_impl_Column)) true, .arr 1 0 (eL ([] : List (List T_impl_Value))) true]⟩] ?_
  refine opsP_imp (Imp.ghosts 1 (st' := ⟨13, [(1, .fptr (Enc.cells a0) 0), (2, .ptr 0 1 0)], [some ⟨1, [.arr 2 0 (eL ([] : List T_impl_Column)) true, .arr 1 0 (eL ([] : List (List T_impl_Value))) true]⟩, some ⟨0, []⟩]⟩) (by kernel_rfl)) ?_
  refine opsP_E (dd := some 3) (x := .ptr 1 1 0) (alz_E (blk := ⟨0, []⟩) (zs := [.arr 2 0 [] true, .arr 1 0 [] true]) 3 77 1 0 (fun b hb => absurd hb (hX b)) zi_ok77 (by kernel_rfl) (by kernel_rfl)) ?_
  refine veM [2, 3] 0 13 [(1, .fptr (Enc.cells a0) 0), (2, .ptr 0 1 0), (3, .ptr 1 1 0)] [some ⟨1, [.arr 2 0 (eL ([] : List T_impl_Column)) true, .arr 1 0 (eL ([] : List (List T_impl_Value))) true]⟩, some ⟨1, [.arr 2 0 (eL ([] : List T_impl_Column)) true, .arr 1 0 (eL ([] : List (List T_impl_Value))) true]⟩] ?_
  refine srvM [2, 3] 2 13 [(1, .fptr (Enc.cells a0) 0), (2, .ptr 0 1 0), (3, .ptr 1 1 0), (5, A a0.fColumns)] [some ⟨1, [.arr 2 0 (eL ([] : List T_impl_Column)) true, .arr 1 0 (eL ([] : List (List T_impl_Value))) true]⟩, some ⟨1, [.arr 2 0 (eL ([] : List T_impl_Column)) true, .arr 1 0 (eL ([] : List (List T_impl_Value))) true]⟩] ?_
  obtain ⟨v1, hv2, h⟩ := bindS h
  refine opsP_callO τ 6 (ok_laws_toColumnS hv2) rfl (by kernel_rfl) ?_
  refine veM [2, 3] 2 13 [(1, .fptr (Enc.cells a0) 0), (2, .ptr 0 1 0), (3, .ptr 1 1 0)] [some ⟨1, [.arr 2 0 (eL ([] : List T_impl_Column)) true, .arr 1 0 (eL ([] : List (List T_impl_Value))) true]⟩, some ⟨1, [.ref 2 0 0 2 v1.length false, .arr 1 0 (eL ([] : List (List T_impl_Value))) true]⟩, some ⟨0, eL v1⟩] ?_
  refine srvM [2, 3] 2 13 [(2, .ptr 0 1 0), (3, .ptr 1 1 0), (9, A a0.fRows)] [some ⟨1, [.arr 2 0 (eL ([] : List T_impl_Column)) true, .arr 1 0 (eL ([] : List (List T_impl_Value))) true]⟩, some ⟨1, [.ref 2 0 0 2 v1.length false, .arr 1 0 (eL ([] : List (List T_impl_Value))) true]⟩, some ⟨0, eL v1⟩] ?_
  obtain ⟨v3, hv4, h⟩ := bindS h
  refine opsP_callO τ 10 (ok_laws_toValueSS_D hv4) rfl (by kernel_rfl) ?_
  refine veM [2, 3] 2 13 [(2, .ptr 0 1 0), (3, .ptr 1 1 0)] [some ⟨1, [.arr 2 0 (eL ([] : List T_impl_Column)) true, .arr 1 0 (eL ([] : List (List T_impl_Value))) true]⟩, some ⟨1, [.ref 2 0 0 2 v1.length false, .ref 3 0 0 1 v3.length false]⟩, some ⟨0, eL v1⟩, some ⟨0, dL v3⟩] ?_
  refine srveM [2, 3] 13 [(2, .ptr 0 1 0)] [some ⟨1, [.ref 2 0 0 2 v1.length false, .ref 3 0 0 1 v3.length false]⟩, some ⟨1, [.ref 2 0 0 2 v1.length false, .ref 3 0 0 1 v3.length false]⟩, some ⟨0, eL v1⟩, some ⟨0, dL v3⟩] ?_
  have h := si h
  subst h
  exact pwp_ret (rt (.agg [.ref 2 0 0 2 v1.length false, .ref 3 0 0 1 v3.length false]) (OutP.agg (OutL.cons (OutP.listn (v := 0) (xs := v1) rfl (by kernel_rfl)) (OutL.cons (OutP.listDn (v := 0) (xs := v3) rfl (by kernel_rfl)) (OutL.nil _)))))
def laws_toTableS_D_l0 (a0 : List T_laws_Table) : Nat → Int → (List T_impl_Table) → Option (List T_impl_Table)
  | 0, _, _ => none
  | f6 + 1, x4, x5 => bif (decide (x4 < ((a0.length : Int)))) then (getI a0 x4).bind fun v9 => (laws_toTable_D v9).bind fun v11 => (getI x5 x4).bind fun v13 => (laws_toTableS_D_l0 a0 f6) ((w64 (x4 + 1))) ((x5.set x4.toNat (({ (({ v11 with fColumns := v11.fColumns }) : T_impl_Table) with fRows := v11.fRows } : T_impl_Table)))) else some x5
def laws_toTableS_D (a0 : List T_laws_Table) : Option (List T_impl_Table) := (mkI ((a0.length : Int)) ((T_impl_Table.mk [] []))).bind fun v1 => laws_toTableS_D_l0 a0 FUEL 0 v1
theorem ok_laws_toTableS_D {a0 : List T_laws_Table} {y : List T_impl_Table} (h : laws_toTableS_D a0 = some y) : OK Try.prog 9 [A a0] (OD y) := by
  refine OK_of_pwp τ_ok Try.func9 rfl (by kernel_rfl) rfl fun Γ hX => ?_
  unfold laws_toTableS_D at h
  refine srve 23 [(0, A a0)] [] ?_
  refine srv 2 23 [(0, A a0), (6, I ((a0.length : Int)))] [] ?_
  obtain ⟨v1, hv2, h⟩ := bindS h
  refine opsP_E (dd := some 7) (x := .ref 0 0 0 2 v1.length false) (mkD_N τ_ok 7 0 77 (fun b hb => absurd hb (hX b)) (by kernel_rfl) _ hv2 dz_ok77 (by kernel_rfl)) ?_
  refine ve 1 23 [(0, A a0), (3, .ref 0 0 0 2 v1.length false)] [some ⟨0, dL v1⟩] ?_
  refine pwp_seq ?_
  refine srve 23 [(0, A a0), (3, .ref 0 0 0 2 v1.length false), (4, I 0)] [some ⟨0, dL v1⟩] ?_
  refine pwp_block ?_
  refine pwp_loop (ι := Nat × Int × (List T_impl_Table)) (fun (f6, x4, x5) => (⟨23, [(0, A a0), (3, .ref 0 0 0 2 x5.length false), (4, I x4)], [some ⟨0, dL x5⟩]⟩ : St)) (fun (f6, x4, x5) => laws_toTableS_D_l0 a0 f6 x4 x5 = some y) (fun (f6, x4, x5) => f6) (FUEL, 0, v1) h ((Imp.to (st' := ⟨23, [(0, A a0), (3, .ref 0 0 0 2 v1.length false), (4, I 0)], [some ⟨0, dL v1⟩]⟩) [0, 3, 4] (by kernel_rfl)).trans (Imp.to [0, 3, 4] (by kernel_rfl))) ?_
  rintro ⟨f6, x4, x5⟩ h
  dsimp only at h ⊢
  rcases f6 with _ | f6
  cases h
  rw [laws_toTableS_D_l0] at h
  refine pwp_seq ?_
  refine srve 23 [(0, A a0), (3, .ref 0 0 0 2 x5.length false), (4, I x4), (11, B ((decide (x4 < ((a0.length : Int))))))] [some ⟨0, dL x5⟩] ?_
  refine pc h (fun h => ?_) (fun h => ?_)
  refine pwp_skip ?_
  refine pwp_seq ?_
  refine pwp_block ?_
  refine rv 4 23 [(0, A a0), (3, .ref 0 0 0 2 x5.length false), (4, I x4), (14, .ref 0 0 0 2 x5.length false), (15, I x4), (16, A a0), (17, I x4)] [some ⟨0, dL x5⟩] ?_
  obtain ⟨v9, hv10, h⟩ := bindS h
  refine opsP_idx τ_ok 18 hv10 (by kernel_rfl) ?_
  refine v 1 23 [(0, A a0), (3, .ref 0 0 0 2 x5.length false), (4, I x4), (14, .ref 0 0 0 2 x5.length false), (15, I x4), (19, E v9)] [some ⟨0, dL x5⟩] ?_
  obtain ⟨v11, hv12, h⟩ := bindS h
  refine opsP_callO τ 20 (ok_laws_toTable_D hv12) rfl (by kernel_rfl) ?_
  obtain ⟨v13, hv14, h⟩ := bindS h
  refine opsP_idr τ_ok 21 0 0 x5.length hv14 rfl (by kernel_rfl) ?_
  refine v 0 23 [(0, A a0), (3, .ref 0 0 0 2 x5.length false), (4, I x4), (20, .agg [.ref 1 0 0 2 v11.fColumns.length false, .ref 2 0 0 1 v11.fRows.length false]), (21, .ptr 0 0 (x4.toNat * 2))] [some ⟨0, dL x5⟩, some ⟨0, eL v11.fColumns⟩, some ⟨0, dL v11.fRows⟩] ?_
  refine opsP_E (dd := none) (x := .any) ((std_E (xs := x5) (vs := [.ref 1 0 0 2 v11.fColumns.length false, .ref 2 0 0 1 v11.fRows.length false]) (cells' := setL (dL x5) (x4.toNat * 2 + 0) [.ref 1 0 0 2 v11.fColumns.length false, .ref 2 0 0 1 v11.fRows.length false]) τ_ok 77 0 0 0 hv14 (by kernel_rfl) (by kernel_rfl) rfl).then (H2 := [some ⟨0, dL ((x5.set x4.toNat (({ (({ v11 with fColumns := v11.fColumns }) : T_impl_Table) with fRows := v11.fRows } : T_impl_Table))))⟩, some ⟨1, []⟩, some ⟨1, []⟩]) (HStep.nestL (xs := x5) (vs := [.ref 1 0 0 2 v11.fColumns.length false, .ref 2 0 0 1 v11.fRows.length false]) 0 0 0 (({ (({ v11 with fColumns := v11.fColumns }) : T_impl_Table) with fRows := v11.fRows } : T_impl_Table)) hv14 (by kernel_rfl) (OutL.cons (OutP.listn (v := 0) (xs := v11.fColumns) rfl (by kernel_rfl)) (OutL.cons (OutP.listDn (v := 0) (xs := v11.fRows) rfl (by kernel_rfl)) (OutL.nil _))) (by decide) (by decide) (fun b hb => absurd hb (hX b)) (by kernel_rfl) (by kernel_rfl) (by kernel_rfl) (by kernel_rfl))) ?_
  refine opsP_imp (Imp.to (st' := ⟨23, [(0, A a0), (3, .ref 0 0 0 2 x5.length false), (4, I x4)], [some ⟨0, dL ((x5.set x4.toNat (({ (({ v11 with fColumns := v11.fColumns }) : T_impl_Table) with fRows := v11.fRows } : T_impl_Table))))⟩, some ⟨1, []⟩, some ⟨1, []⟩]⟩) [0, 3, 4] (by kernel_rfl)) ?_
  refine opsP_ren (st' := ⟨23, [(0, A a0), (3, .ref 0 0 0 2 ((x5.set x4.toNat (({ (({ v11 with fColumns := v11.fColumns }) : T_impl_Table) with fRows := v11.fRows } : T_impl_Table)))).length false), (4, I x4)], [some ⟨0, dL ((x5.set x4.toNat (({ (({ v11 with fColumns := v11.fColumns }) : T_impl_Table) with fRows := v11.fRows } : T_impl_Table))))⟩, some ⟨1, []⟩, some ⟨1, []⟩]⟩) 0 ((x5.set x4.toNat (({ (({ v11 with fColumns := v11.fColumns }) : T_impl_Table) with fRows := v11.fRows } : T_impl_Table)))).length (renC trivial (renC (ren_ref (List.length_set ..).symm) (renC trivial renC0))) (by kernel_rfl) ?_
  refine ve 0 23 [(0, A a0), (3, .ref 0 0 0 2 ((x5.set x4.toNat (({ (({ v11 with fColumns := v11.fColumns }) : T_impl_Table) with fRows := v11.fRows } : T_impl_Table)))).length false), (4, I x4)] [some ⟨0, dL ((x5.set x4.toNat (({ (({ v11 with fColumns := v11.fColumns }) : T_impl_Table) with fRows := v11.fRows } : T_impl_Table))))⟩, some ⟨1, []⟩, some ⟨1, []⟩] ?_
  refine rve 23 [(0, A a0), (3, .ref 0 0 0 2 ((x5.set x4.toNat (({ (({ v11 with fColumns := v11.fColumns }) : T_impl_Table) with fRows := v11.fRows } : T_impl_Table)))).length false), (4, I ((w64 (x4 + 1))))] [some ⟨0, dL ((x5.set x4.toNat (({ (({ v11 with fColumns := v11.fColumns }) : T_impl_Table) with fRows := v11.fRows } : T_impl_Table))))⟩, some ⟨1, []⟩, some ⟨1, []⟩] ?_
  exact ⟨(f6, (w64 (x4 + 1)), (x5.set x4.toNat (({ (({ v11 with fColumns := v11.fColumns }) : T_impl_Table) with fRows := v11.fRows } : T_impl_Table)))), h, Nat.lt_succ_self _, (Imp.to (st' := ⟨23, [(0, A a0), (3, .ref 0 0 0 2 ((x5.set x4.toNat (({ (({ v11 with fColumns := v11.fColumns }) : T_impl_Table) with fRows := v11.fRows } : T_impl_Table)))).length false), (4, I ((w64 (x4 + 1))))], [some ⟨0, dL ((x5.set x4.toNat (({ (({ v11 with fColumns := v11.fColumns }) : T_impl_Table) with fRows := v11.fRows } : T_impl_Table))))⟩, some ⟨1, []⟩, some ⟨1, []⟩]⟩) [0, 3, 4] (by kernel_rfl)).trans ((Imp.truncS (st' := ⟨23, [(0, A a0), (3, .ref 0 0 0 2 ((x5.set x4.toNat (({ (({ v11 with fColumns := v11.fColumns }) : T_impl_Table) with fRows := v11.fRows } : T_impl_Table)))).length false), (4, I ((w64 (x4 + 1))))], [some ⟨0, dL ((x5.set x4.toNat (({ (({ v11 with fColumns := v11.fColumns }) : T_impl_Table) with fRows := v11.fRows } : T_impl_Table))))⟩]⟩) 1 (fun b hb => absurd hb (hX b)) (by kernel_rfl) (allBelow_mem (by exact (And.intro rfl (And.intro rfl (And.intro rfl trivial))))) (by exact (And.intro (dL_below _ _) trivial)) (by kernel_rfl)).trans (Imp.to [0, 3, 4] (by kernel_rfl)))⟩
  refine pwp_exit ?_
  refine srve 23 [(2, .ref 0 0 0 2 x5.length false)] [some ⟨0, dL x5⟩] ?_
  have h := si h
  subst h
  exact pwp_ret (rt (.ref 0 0 0 2 x5.length false) (OutP.listD (v := 0) (by kernel_rfl)))
def impl_Step_make_L2_l2 (a0 : T_impl_Step) (v11 : T_impl_made) : Nat → Int → (List T_impl_Column) → Option (T_impl_made × Bool)
  | 0, _, _ => none
  | f27 + 1, x25, x26 => bif (decide (x25 < ((a0.fList.length : Int)))) then (getI a0.fList x25).bind fun v30 => (impl_between v30 0 ((w64 (((v11.fColumns.length : Int)) - 1)))).bind fun v32 => bif (!v32) then some ((T_impl_made.mk [] 0), false) else (getI v11.fColumns v30).bind fun v35 => (app x26 (([v35] : List T_impl_Column))).bind fun v37 => (impl_Step_make_L2_l2 a0 v11 f27) ((w64 (x25 + 1))) v37 else some ({ (({ ((T_impl_made.mk [] 0)) with fMost := v11.fMost }) : T_impl_made) with fColumns := x26 }, (decide (((a0.fList.length : Int)) ≤ 4)))
def impl_Step_make_L2_l3 (v11 : T_impl_made) (v13 : T_impl_made) : Nat → Int → (List T_impl_Column) → Option (T_impl_made × Bool)
  | 0, _, _ => none
  | f57 + 1, x55, x56 => bif (decide (x55 < ((v13.fColumns.length : Int)))) then (getI v13.fColumns x55).bind fun v60 => (getI x56 x55).bind fun v62 => bif (!(v60.fKind == v62.fKind)) then some ((T_impl_made.mk [] 0), false) else (getI x56 x55).bind fun v65 => bif v65.fEmpty then (getI x56 x55).bind fun v67 => (impl_Step_make_L2_l3 v11 v13 f57) ((w64 (x55 + 1))) ((x56.set x55.toNat (({ v67 with fEmpty := true } : T_impl_Column)))) else (getI x56 x55).bind fun v69 => (impl_Step_make_L2_l3 v11 v13 f57) ((w64 (x55 + 1))) ((x56.set x55.toNat (({ v69 with fEmpty := v60.fEmpty } : T_impl_Column)))) else some ({ (({ ((T_impl_made.mk [] 0)) with fMost := (w64 (v11.fMost + v13.fMost)) }) : T_impl_made) with fColumns := x56 }, true)
def impl_Step_make_L2_j1 (a0 : T_impl_Step) (a2 : List T_impl_made) (x9 : Bool) : Option (T_impl_made × Bool) := bif x9 then some ((T_impl_made.mk [] 0), false) else (getI a2 a0.fA).bind fun v11 => (getI a2 a0.fB).bind fun v13 => bif (a0.fKind == 2) then (impl_ExprKind v11.fColumns a0.fE).bind fun v16 => some (v11, (v16 == 3)) else bif (a0.fKind == 3) then impl_Step_make_L2_l2 a0 v11 FUEL 0 (([] : List T_impl_Column)) else bif (a0.fKind == 4) then (slices_Concat_impl_Column_impl_Column ([v11.fColumns, v13.fColumns])).bind fun v40 => bif (decide (((((T_impl_made.mk v40 ((w64 (v11.fMost * v13.fMost)))).fColumns).length : Int)) ≤ 4)) then (impl_ExprKind ((T_impl_made.mk v40 ((w64 (v11.fMost * v13.fMost)))).fColumns) a0.fE).bind fun v42 => some ((T_impl_made.mk v40 ((w64 (v11.fMost * v13.fMost)))), (v42 == 3)) else some ((T_impl_made.mk v40 ((w64 (v11.fMost * v13.fMost)))), false) else bif (a0.fKind == 5) then (impl_clone_impl_Column_R v11.fColumns).bind fun v46 => bif (!(((v11.fColumns.length : Int)) == ((v13.fColumns.length : Int)))) then some ((T_impl_made.mk [] 0), false) else impl_Step_make_L2_l3 v11 v13 FUEL 0 v46 else some (v11, true)
def impl_Step_make_L2_j0 (a0 : T_impl_Step) (a1 : List T_impl_Table) (a2 : List T_impl_made) (x1 : Bool) : Option (T_impl_made × Bool) := bif x1 then some ((T_impl_made.mk [] 0), false) else bif (a0.fKind == 1) then (impl_between a0.fN 0 ((w64 (((a1.length : Int)) - 1)))).bind fun v4 => bif (!v4) then some ((T_impl_made.mk [] 0), false) else (getI a1 a0.fN).bind fun v7 => some ((T_impl_made.mk v7.fColumns 6), true) else (impl_between a0.fA 0 ((w64 (((a2.length : Int)) - 1)))).bind fun v72 => bif (!v72) then impl_Step_make_L2_j1 a0 a2 true else (impl_between a0.fB 0 ((w64 (((a2.length : Int)) - 1)))).bind fun v74 => impl_Step_make_L2_j1 a0 a2 ((!v74))
def impl_Step_make_L2 (a0 : T_impl_Step) (a1 : List T_impl_Table) (a2 : List T_impl_made) : Option (T_impl_made × Bool) := (impl_Step_plain a0).bind fun v77 => bif (!v77) then impl_Step_make_L2_j0 a0 a1 a2 true else (impl_between a0.fKind 1 6).bind fun v79 => impl_Step_make_L2_j0 a0 a1 a2 ((!v79))
end Go.D
